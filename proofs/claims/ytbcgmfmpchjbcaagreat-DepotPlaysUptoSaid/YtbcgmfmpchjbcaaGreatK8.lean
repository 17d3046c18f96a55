import Derived.Test.YtbcgmfmpchjbcaaGreatK7
namespace Go.Sx
open Go.RowKit Go.Proofs
set_option linter.unusedVariables false
set_option linter.unusedSimpArgs false
set_option maxRecDepth 20000
section
variable {F O:Nat->Prop}{w:World}
theorem Vw{w_}(k:Cx F O w w []){r:AC}(hm:DJ w_=some r):
    Calls Tryz.prog 54 (vals [.u32 w_]) w (fun e w'=>∃ A n c,r.length=n/\e=.returned (SV.val (sl A n c))/\Cx F O w w' [A0V A n c r]):=by
 unfold DJ at hm;refine gB _ Tryz.func54 rfl<|ae<|Wq .a<|ae<|au<|We 11 (.n 4 (.u8 (UInt8.ofNat w_.toNat)) (.n 7 (.u8 (UInt8.ofNat (Dc w_ ((8:UInt64).toNat)).toNat)) (.n 10 (.u8 (UInt8.ofNat (Dc w_ ((16:UInt64).toNat)).toNat)) (.n 13 (.u8 (UInt8.ofNat (Dc w_ ((24:UInt64).toNat)).toNat)) .z))))<|ag<|lS eX e8 14 ([UInt8.ofNat w_.toNat,UInt8.ofNat (Dc w_ ((8:UInt64).toNat)).toNat,UInt8.ofNat (Dc w_ ((16:UInt64).toNat)).toNat,UInt8.ofNat (Dc w_ ((24:UInt64).toNat)).toNat]:AC) [(0,.u8 (UInt8.ofNat w_.toNat)),(1,.u8 (UInt8.ofNat (Dc w_ ((8:UInt64).toNat)).toNat)),(2,.u8 (UInt8.ofNat (Dc w_ ((16:UInt64).toNat)).toNat)),(3,.u8 (UInt8.ofNat (Dc w_ ((24:UInt64).toNat)).toNat))] [.u8 (UInt8.ofNat w_.toNat),.u8 (UInt8.ofNat (Dc w_ ((8:UInt64).toNat)).toNat),.u8 (UInt8.ofNat (Dc w_ ((16:UInt64).toNat)).toNat),.u8 (UInt8.ofNat (Dc w_ ((24:UInt64).toNat)).toNat)] k fun A0 ng k_=>We 1 (.n 2 (sl A0 4 4) .z)<|Wn<|aK ?_;obtain rfl:=si hm;refine aN [sl A0 4 4] qe ?_;exact⟨_,_,_,k_.len 0 rfl,rfl,k_⟩
theorem D6{n}(k:Cx F O w w []){r:AC}(hm:uh n=some r):
    Calls Tryz.prog 23 (vals [I n]) w (fun e w'=>∃ A n1 c,r.length=n1/\e=.returned (SV.val (sl A n1 c))/\Cx F O w w' [A0V A n1 c r]):=by
 unfold uh at hm;refine gB _ Tryz.func23 rfl<|ae<|Wq .a<|ae<|au<|We 2 (.n 4 (.u32 (UInt32.ofInt n)) .z)<|ag<|bD hm fun r_ fA hm=>bT 5 dl_go54 (Vw lY fA) ?_;rintro e_ w_ ⟨A0,_,c0,rfl,rfl,k_⟩;have dH:=k.call k_;refine E2<|We 1 (.n 2 (sl A0 r_.length c0) .z)<|Wn<|aK ?_;obtain rfl:=si hm;refine aN [sl A0 r_.length c0] qe ?_;exact⟨_,_,_,dH.len 0 rfl,rfl,dH⟩
theorem Cb{aT af ah cO ai aj}(k:Cx F O w w [Bx 57 cO [I aT,mv ai,mv aj],A0R ai af,A0S aj ah]){r:A00}(hm:lQ aT af ah=some r):
    Calls Tryz.prog 8 (vals [pt cO 0]) w (fun e w'=>∃ A n c,r.1.length=n/\e=.returned (SV.val (sl A n c))/\Cx F O w w' [A0V A n c r.1,Bx 57 cO [I r.2,mv ai,mv aj],A0R ai af,A0S aj ah]):=by
 unfold lQ at hm;refine gB _ Tryz.func8 rfl<|ae<|Wq .a<|ae<|ae<|au<|We 1 (.n 12 (pt cO 0) .a)<|ag<|bD hm fun r_ fA hm=>?_;obtain⟨F1,O1,kin,hO,hre,hF,hb⟩:=k.go (.i (.i (.i .e)));refine bT 13 DK (jQ kin fA) ?_;rintro e_ w_ ⟨rfl,k_⟩;have dH:=hb w_ _ _ k_ (.c (.c (.c .n)));refine E2<|Wn<|zV<|aH<|ay<|ae<|au<|Wl 5 (.n 18 (.u8 (UInt8.ofInt r_)) (.ss .a)) (mi cO 0<|gG dH 0 rfl 0 (I r_)<|qe)<|ag<|lS eX e8 19 ([(68:UInt8),(81:UInt8),(1:UInt8),UInt8.ofInt r_]:AC) [(0,.u8 68),(1,.u8 81),(2,.u8 1),(3,.u8 (UInt8.ofInt r_))] [.u8 68,.u8 81,.u8 1,.u8 (UInt8.ofInt r_)] dH fun A0 ng eY=>We 1 (.n 3 (sl A0 4 4) (.ss .a))<|Wn<|ae<|au<|Wl 5 (.n 20 (sl A0 4 4) (.n 24 (mv ai) .a)) (mi cO 0<|gG eY 0 rfl 1 (mv ai)<|qe)<|ag ?_;have fJ:=eY.P3.P3.P2.P3;refine LV (kt:=9) (e:=39) (v:=(vH e8)) (m:=af) [] 25 (by kernel_rfl) fJ.acc<|ag<|bD hm fun bM ig hm=>bT 26 Qk (D6 lY ig) ?_;rintro e_ sN ⟨A1,_,c0,rfl,rfl,gK⟩;have gX:=fJ.call gK;refine E2<|ag ?_;have iT:=gX.bP (.aP (.k .e));refine bD hm fun b uq hm=>?_;obtain⟨hz,hl⟩:=dw uq;refine dK (E:=e8) (v:=sl A1 bM.length c0) (ys:=bM) eX [] 27 3 (by kernel_rfl) iT rfl (Src.sl (iT.rd 4 rfl) (iT.len 4 rfl) (by rfl)) (iT.len 4 rfl) (by have:=iT.len 3 rfl;have:=(iT.len 4 rfl);omega) fun A2 c1 xI iK=>?_;rw[<- hl] at iK;have jC:=iK.bP (.aP .z)
 refine We 1 (.n 3 (sl A2 (4+bM.length) c1) (.gI (.ss .a)))<|Wn<|ae<|ae<|au<|Wl 4 (.n 31 (mv ai) .a) (mi cO 0<|gG jC 1 rfl 1 (mv ai)<|qe)<|ag<|bD hm fun fO kG hm=>?_;obtain⟨F11,Vd,tX,Ve,Ea,hF1,hb1⟩:=jC.go (.i (.r (.r (.r .e))));refine bT 32 dl_go24 (IQ tX kG) ?_;rintro e_ yA ⟨A3,_,c2,rfl,rfl,jK⟩;have eU:=hb1 yA _ _ jK (.c (.c .n));refine E2<|We 2 (.n 33 (I (fO.length:Int)) (.n 34 (I 0) (.k (.s .a))))<|Wn<|aC ?_;have fC:=eU.P4.P4.P3.P4;refine jv hm (fun s L wr=>∃ (b1:AC) (aO:Int) (A4:EQ) (n0:Nat) (c3:Nat),(b1,aO)=s/\L=[(0,pt cO 0),(3,sl A4 n0 c3),(32,sl A3 fO.length c2),(33,I (fO.length:Int)),(34,I aO)]/\b1.length=n0/\Cx F O w wr [Bx 57 cO [I r_,mv ai,mv aj],A0R ai af,A0S aj ah,A0V A4 n0 c3 b1,Ow eS A3 fO.length c2 fO]) ⟨_,_,_,_,_,rfl,rfl,fC.len 3 rfl,fC⟩ ?_;rintro xw L_ zW y0 ⟨b1,aO,A4,_,c3,rfl,rfl,rfl,dL⟩ hm hr0;simp only[pU] at hm;refine ae<|Wq (.n 35 (.b (decide (aO < (fO.length:Int)))) .a)<|ae<|dE hm (fun hc hm=>?_) fun hc hm=>?_
 ·refine aH<|ay<|ae<|aC<|ae<|bD hm fun dM zn hm=>Wa (.n 5 (.s dM) (.s .a)) (qW (dL.rd 4 rfl) zn (dL.len 4 rfl) (.s dM) rfl<|qe)<|ae<|au<|Wl 5 (.n 41 (mv ai) (.n 42 (.s dM) (.s .a))) (mi cO 0<|gG dL 0 rfl 1 (mv ai)<|qe)<|ag ?_;have fH:=dL.P4.P4.P4.P3.P4;refine WU (kt:=9) (e:=39) (E:=e8) (m:=af) (key:=dM) [] 43 (by kernel_rfl) (by kernel_rfl) fH.acc (fun hf=>?_) (fun A5 c4 iC hf1 fV=>?_)
  ·simp only[hf,Option.elim_none] at hm;cases hm
  ·simp only[hf1,A1A] at hm;refine We 1 (.n 6 (sl A5 iC.length c4) (.mV .a))<|Wn<|ae<|au<|We 8 (.n 44 (sl A4 b1.length c3) (.n 47 (.u8 (UInt8.ofInt (iC.length:Int))) (.n 51 (.u8 (UInt8.ofInt (VT .i64 (iC.length:Int) ((8:UInt64).toNat)))) .a)))<|ag<|lS eX e8 52 ([UInt8.ofInt (iC.length:Int),UInt8.ofInt (VT .i64 (iC.length:Int) ((8:UInt64).toNat))]:AC) [(0,.u8 (UInt8.ofInt (iC.length:Int))),(1,.u8 (UInt8.ofInt (VT .i64 (iC.length:Int) ((8:UInt64).toNat))))] [.u8 (UInt8.ofInt (iC.length:Int)),.u8 (UInt8.ofInt (VT .i64 (iC.length:Int) ((8:UInt64).toNat)))] fV fun A6 CX gJ=>ag<|bD hm fun b2 Ja hm=>?_;obtain⟨hz1,hl1⟩:=dw Ja;refine dK (E:=e8) (v:=sl A6 2 2) (ys:=([UInt8.ofInt (iC.length:Int),UInt8.ofInt (VT .i64 (iC.length:Int) ((8:UInt64).toNat))]:AC)) eX [] 53 4 (by kernel_rfl) gJ rfl (Src.sl (gJ.rd 6 rfl) (gJ.len 6 rfl) (by rfl)) (gJ.len 6 rfl) (by have:=gJ.len 4 rfl;have:=(gJ.len 6 rfl);omega) fun A7 c5 EM iH=>?_;rw[<- hl1] at iH;have iU:=iH.bP (.aP (.kk .z));refine We 1 (.n 3 (sl A7 (b1.length+2) c5) (.gI (.s (.kk (.s .a)))))<|Wn<|au<|We 2 (.n 54 (sl A7 (b1.length+2) c5) (.n 55 (sl A5 iC.length c4) (.k (.s .a))))<|ag<|bD hm fun b3 OZ hm=>?_;obtain⟨hz2,hl2⟩:=dw OZ
   refine dK (E:=e8) (v:=sl A5 iC.length c4) (ys:=iC) eX [] 56 4 (by kernel_rfl) iU rfl (Src.sl (iU.IW 0 rfl) (iU.g_ 0 rfl) (by rfl)) (iU.g_ 0 rfl) (by have:=iU.len 4 rfl;have:=(iU.g_ 0 rfl);omega) fun A8 c6 Jd iw=>?_;rw[<- hl2] at iw;have jL:=iw.bP (.s (.aP (.k .e)));refine We 1 (.n 3 (sl A8 (b1.length+2+iC.length) c6) (.gI .a))<|dY<|df<|ay<|oP (.n 34 (I (bC (aO+1))) (.aP .z)) ?_;have jH:=jL.P4.P4.P4.P3.P4;exact fF hm ⟨_,_,_,_,_,rfl,rfl,jH.len 3 rfl,jH⟩
 refine cZ (aX (aX (dZ ?_)));have hm:=bz hm hr0;refine ay<|ae<|au<|Wl 5 (.n 58 (sl A4 b1.length c3) (.n 62 (mv aj) (.s (.kk .z)))) (mi cO 0<|gG dL 0 rfl 2 (mv aj)<|qe)<|ag ?_;have jX:=dL.P4.P4.P3.P3.P4;refine LV (kt:=9) (e:=65) (v:=(vM A0M)) (m:=ah) [] 63 (by kernel_rfl) jX.acc<|ag<|bD hm fun jT rJ hm=>bT 64 Qk (D6 lY rJ) ?_;rintro e_ Kv ⟨A9,_,c7,rfl,rfl,jW⟩;have iW:=jX.call jW;refine⟨_,rfl,?_⟩;have jM:=iW.bP (.aP (.s (.k .e)));refine ag<|bD hm fun b4 Kw hm=>?_;obtain⟨hz3,hl3⟩:=dw Kw;refine dK (E:=e8) (v:=sl A9 jT.length c7) (ys:=jT) eX [] 65 3 (by kernel_rfl) jM rfl (Src.sl (jM.rd 4 rfl) (jM.len 4 rfl) (by rfl)) (jM.len 4 rfl) (by have:=jM.len 3 rfl;have:=(jM.len 4 rfl);omega) fun A10 c8 zk iE=>?_;rw[<- hl3] at iE;have jS:=iE.bP (.aP .z);refine We 1 (.n 3 (sl A10 (b1.length+jT.length) c8) (.gI (.s (.k .z))))<|Wn<|ae<|ae<|au<|Wl 4 (.n 69 (mv aj) .a) (mi cO 0<|gG jS 1 rfl 2 (mv aj)<|qe)<|ag<|bD hm fun kM xe hm=>?_;obtain⟨F12,O12,Ip,hO2,Vs,hF2,hb2⟩:=jS.go (.i (.r (.r (.r .e))));refine bT 70 dl_go25 (uu Ip xe) ?_;rintro e_ BQ ⟨A11,_,c9,rfl,rfl,kZ⟩;have kT:=hb2 BQ _ _ kZ (.c (.c .n));refine E2<|We 2 (.n 71 (I (kM.length:Int)) (.n 72 (I 0) (.k (.s .a))))<|Wn<|aC ?_;have lg:=kT.P4.P2.P4.P4
 refine jv hm (fun s L wr=>∃ (b5:AC) (dP:Int) (A12:EQ) (n1:Nat) (c10:Nat),(b5,dP)=s/\L=[(0,pt cO 0),(3,sl A12 n1 c10),(70,sl A11 kM.length c9),(71,I (kM.length:Int)),(72,I dP)]/\b5.length=n1/\Cx F O w wr [Bx 57 cO [I r_,mv ai,mv aj],A0R ai af,A0S aj ah,A0V A12 n1 c10 b5,Ow eS A11 kM.length c9 kM]) ⟨_,_,_,_,_,rfl,rfl,lg.len 3 rfl,lg⟩ ?_;rintro xw L_ Gw y0 ⟨b5,dP,A12,_,c10,rfl,rfl,rfl,kX⟩ hm hr0;simp only[pR] at hm;refine ae<|Wq (.n 73 (.b (decide (dP < (kM.length:Int)))) .a)<|ae<|dE hm (fun hc1 hm=>?_) fun hc1 hm=>?_
 ·refine aH<|ay<|ae<|aC<|ae<|bD hm fun jc Lh hm=>Wa (.n 8 (.s jc) (.s .a)) (qW (kX.rd 4 rfl) Lh (kX.len 4 rfl) (.s jc) rfl<|qe)<|ae<|au<|We 4 (.n 76 (sl A12 b5.length c10) (.n 79 (.u8 (UInt8.ofInt (jc.length:Int))) .a))<|ag<|lS eX e8 80 ([UInt8.ofInt (jc.length:Int)]:AC) [(0,.u8 (UInt8.ofInt (jc.length:Int)))] [.u8 (UInt8.ofInt (jc.length:Int))] kX fun A13 Md lZ=>ag<|bD hm fun b6 h_b6 hm=>?_;obtain⟨hz4,hl4⟩:=dw h_b6;refine dK (E:=e8) (v:=sl A13 1 1) (ys:=([UInt8.ofInt (jc.length:Int)]:AC)) eX [] 81 3 (by kernel_rfl) lZ rfl (Src.sl (lZ.rd 5 rfl) (lZ.len 5 rfl) (by rfl)) (lZ.len 5 rfl) (by have:=lZ.len 3 rfl;have:=(lZ.len 5 rfl);omega) fun A14 c11 KY pG=>?_;rw[<- hl4] at pG;have nI:=pG.bP (.aP (.k .z));refine We 1 (.n 82 (.s jc) (.k (.mV (.kk (.s .a)))))<|ag<|bD hm fun b7 h_b7 hm=>?_;obtain⟨hz5,hl5⟩:=dw h_b7;refine dK (E:=e8) (v:=.s jc) (ys:=jc) eX [] 83 3 (by kernel_rfl) nI rfl (Src.str jc) rfl (by have:=nI.len 3 rfl;have:=hm;omega) fun A15 c12 Oc qO=>?_;rw[<- hl5] at qO;refine We 1 (.n 3 (sl A15 (b5.length+1+jc.length) c12) (.mV .a))<|Wn<|ae<|au<|Wl 5 (.n 87 (mv aj) (.n 88 (.s jc) (.k (.s .a)))) (mi cO 0<|gG qO 0 rfl 2 (mv aj)<|qe)<|ag ?_;have qP:=qO.P4.P4.P3.P3.P4;refine Op_lookMf (kt:=9) (e:=65) (v:=A0M) (m:=ah) (key:=jc) [] 89 (by kernel_rfl) (by kernel_rfl) qP.acc (fun hf2=>?_) (fun b8 rO hf3 rQ=>?_)
  ·simp only[hf2,Option.elim_none] at hm;cases hm
  ·simp only[hf3,A1A] at hm;refine We 1 (.n 9 (mv b8) (.mV .a))<|Wn<|ae<|au<|We 2 (.n 90 (sl A15 (b5.length+1+jc.length) c12) (.n 91 (mv b8) .a))<|ag ?_;have qQ:=rQ.bP (.aP (.kk .e));refine LV (kt:=9) (e:=68) (v:=A0M) (m:=rO) [] 92 (by kernel_rfl) (qQ.VY 0 rfl)<|ag<|bD hm fun yS FD hm=>bT 93 Qk (D6 lY FD) ?_;rintro e_ Vg ⟨A16,_,c13,rfl,rfl,rM⟩;have pI:=qQ.call rM;refine E2<|ag<|bD hm fun b9 h_b9 hm=>?_;obtain⟨hz6,hl6⟩:=dw h_b9;refine dK (E:=e8) (v:=sl A16 yS.length c13) (ys:=yS) eX [] 94 4 (by kernel_rfl) pI rfl (Src.sl (pI.rd 6 rfl) (pI.len 6 rfl) (by rfl)) (pI.len 6 rfl) (by have:=pI.len 4 rfl;have:=(pI.len 6 rfl);omega) fun A17 c14 Qv qU=>?_;rw[<- hl6] at qU;have uD:=qU.bP (.aP (.kk .z));refine We 1 (.n 3 (sl A17 (b5.length+1+jc.length+yS.length) c14) (.gI (.s (.k (.s .a)))))<|Wn<|ae<|au<|We 1 (.n 95 (mv b8) .a)<|ag ?_;have vU:=uD.fD 0 rfl;refine bD hm fun Bf QC hm=>?_;obtain⟨F13,O13,ML,hO3,hre3,hF3,hb3⟩:=vU.go (.i (.r (.r (.r (.r (.r (.r .e)))))));refine bT 96 dl_go26 (Bv ML QC) ?_;rintro e_ TG ⟨A18,_,c15,rfl,rfl,vG⟩;have vJ:=hb3 TG _ _ vG (.c .n);refine E2<|We 2 (.n 97 (I (Bf.length:Int)) (.n 98 (I 0) (.k (.s .a))))<|Wn<|aC ?_;have zZ:=vJ.fD 1 rfl;have BR:=zZ.P1.P7.P2.P7.P5.P7.P7.bP (.aP (.kk (.k .z)))
   refine jv hm (fun s L wr=>∃ (b10:AC) (jm:Int) (A19:EQ) (n2:Nat) (c16:Nat),(b10,jm)=s/\L=[(0,pt cO 0),(3,sl A19 n2 c16),(9,mv b8),(70,sl A11 kM.length c9),(71,I (kM.length:Int)),(72,I dP),(96,sl A18 Bf.length c15),(97,I (Bf.length:Int)),(98,I jm)]/\b10.length=n2/\Cx F O w wr [Bx 57 cO [I r_,mv ai,mv aj],A0R ai af,A0S aj ah,A0V A19 n2 c16 b10,Sh (RM A0M) [b8] [rO],Ow eS A11 kM.length c9 kM,Ow eS A18 Bf.length c15 Bf]) ⟨_,_,_,_,_,rfl,rfl,BR.len 3 rfl,BR⟩ ?_;rintro s1_ L_ Yv y1 ⟨b10,jm,A19,_,c16,rfl,rfl,rfl,Bq⟩ hm hr1;simp only[pO] at hm;refine ae<|Wq (.n 99 (.b (decide (jm < (Bf.length:Int)))) .a)<|ae<|dE hm (fun hc2 hm=>?_) fun hc2 hm=>?_
   ·refine aH<|ay<|ae<|aC<|ae<|bD hm fun pz SY hm=>Wa (.n 11 (.s pz) (.s .a)) (qW (Bq.rd 6 rfl) SY (Bq.len 6 rfl) (.s pz) rfl<|qe)<|ae<|au<|We 4 (.n 102 (sl A19 b10.length c16) (.n 105 (.u8 (UInt8.ofInt (pz.length:Int))) .a))<|ag<|lS eX e8 106 ([UInt8.ofInt (pz.length:Int)]:AC) [(0,.u8 (UInt8.ofInt (pz.length:Int)))] [.u8 (UInt8.ofInt (pz.length:Int))] Bq fun A20 aac rU=>ag<|bD hm fun b11 h_b11 hm=>?_;obtain⟨hz7,hl7⟩:=dw h_b11;refine dK (E:=e8) (v:=sl A20 1 1) (ys:=([UInt8.ofInt (pz.length:Int)]:AC)) eX [] 107 3 (by kernel_rfl) rU rfl (Src.sl (rU.rd 7 rfl) (rU.len 7 rfl) (by rfl)) (rU.len 7 rfl) (by have:=rU.len 3 rfl;have:=(rU.len 7 rfl);omega) fun A21 c17 aad yC=>?_;rw[<- hl7] at yC;have tY:=yC.bP (.aP (.kk (.k .z)));refine We 1 (.n 108 (.s pz) (.k (.mV (.kk (.s .a)))))<|ag<|bD hm fun b12 h_b12 hm=>?_;obtain⟨hz8,hl8⟩:=dw h_b12;refine dK (E:=e8) (v:=.s pz) (ys:=pz) eX [] 109 3 (by kernel_rfl) tY rfl (Src.str pz) rfl (by have:=tY.len 3 rfl;have:=hm;omega) fun A22 c18 w_22 Aa=>?_;rw[<- hl8] at Aa;refine We 1 (.n 3 (sl A22 (b10.length+1+pz.length) c18) (.mV .a))<|Wn<|ae<|au<|We 3 (.n 110 (sl A22 (b10.length+1+pz.length) c18) (.n 111 (mv b8) (.n 112 (.s pz) .a)))<|ag ?_;obtain⟨e_,h_e_,hm⟩:=nm hm
    refine vV (kt:=9) (e:=68) (v:=A0M) (m:=rO) (key:=pz) rfl [] 113 ((0:Int),([]:AC)) (.agg [I e_.1,.s e_.2]) (by kernel_rfl) (by kernel_rfl) (Aa.VY 4 rfl) (by rw[h_e_];rfl)<|We 1 (.n 114 (I e_.1) (.s (.k (.ss .a))))<|ag ?_;have Ac:=Aa.bP (.aP (.kk (.k .e)));refine bD hm fun Qc Qz hm=>bT 115 Qk (D6 lY Qz) ?_;rintro e_ w_23 ⟨A23,_,c19,rfl,rfl,CY⟩;have Eu:=Ac.call CY;refine E2<|ag<|bD hm fun b13 h_b13 hm=>?_;obtain⟨hz9,hl9⟩:=dw h_b13;refine dK (E:=e8) (v:=sl A23 Qc.length c19) (ys:=Qc) eX [] 116 3 (by kernel_rfl) Eu rfl (Src.sl (Eu.rd 7 rfl) (Eu.len 7 rfl) (by rfl)) (Eu.len 7 rfl) (by have:=Eu.len 3 rfl;have:=(Eu.len 7 rfl);omega) fun A24 c20 w_24 CZ=>?_;rw[<- hl9] at CZ;have MH:=CZ.bP (.aP (.kk (.k .z)));refine We 1 (.n 3 (sl A24 (b10.length+1+pz.length+Qc.length) c20) (.gI (.s .a)))<|Wn<|ae ?_;have HY:=MH.drew 1;refine oM di (tq [0,2,1,2,2,2,6,3,7,3,8,3,9,2] (.op 3 (tq [4,3,5,2,10,1] (.op 11 (.op 12 (.q 13 3 .nil)))))) [3,11,12] HY (.c (.aP (.kk (.k .e))) (.c (.aP (.kk (.k .e))) (.c (.kk (.k (.s (.kk (.k .e))))) .l))) fun _=>fU 3 2 (.n 117 (sl A24 (b10.length+1+pz.length+Qc.length) c20) (.n 118 (mv b8) (.n 119 (.s pz) .a))) (fun x hx=>qe) fun _=>fU 3 3 (.n 125 (pt cO 0) .a) (fun x hx=>mi cO 0<|qe) fun _=>fU 1 2 (.n 126 (I r_) (.s .a)) (fun x hx=>gG hx 0 rfl 0 (I r_)<|qe) fun _=>eu rfl ?_;obtain⟨Rj,h_e_1,hm⟩:=nm hm
    refine vV (kt:=9) (e:=68) (v:=A0M) (m:=rO) (key:=pz) rfl [] 120 ((0:Int),([]:AC)) (.agg [I Rj.1,.s Rj.2]) (by kernel_rfl) (by kernel_rfl) (HY.VY 4 rfl) (by rw[h_e_1];rfl) ?_;refine⟨HY,fun _=>?_⟩;refine fU 1 3 (.n 121 (.s Rj.2) (.s (.kk (.ss .a)))) (fun x hx=>qe) fun _=>fU 1 2 (.n 122 (I (Rj.2.length:Int)) (.s .a)) (fun x hx=>qe) fun _=>bD hm fun u DU hm=>fU 1 1 (.n 127 (I (bC (Int.tdiv (Rj.2.length:Int) r_))) (.ss .a)) (fun x hx=>qp (r_≠0) (gp DU)<|qe) fun _=>eu rfl<|bD hm fun AX Pe hm=>bT 128 Qk (D6 lY Pe) ?_;rintro e_ w_25 ⟨A25,_,c21,rfl,rfl,KC⟩;have Gx:=HY.call KC;refine E2<|⟨(Gx.bP (.aP (.kk (.k .z)))),fun _=>?_⟩
    refine eu rfl ?_;have Gy:=Gx.bP (.aP (.aP .e));refine bD hm fun b14 h_b14 hm=>?_;obtain⟨hz10,hl10⟩:=dw h_b14;refine dK (E:=e8) (v:=sl A25 AX.length c21) (ys:=AX) eX [] 129 3 (by kernel_rfl) Gy rfl (Src.sl (Gy.rd 7 rfl) (Gy.len 7 rfl) (by rfl)) (Gy.len 7 rfl) (by have:=Gy.len 3 rfl;have:=(Gy.len 7 rfl);omega) fun A26 c22 w_26 KZ=>?_;rw[<- hl10] at KZ;have JB:=KZ.bP (.aP (.kk (.k .z)));refine⟨(JB.bP (.kk (.k (.s (.kk (.k .e)))))),fun _=>?_⟩;refine fU 1 3 (.n 3 (sl A26 (b10.length+1+pz.length+Qc.length+AX.length) c22) (.gI (.s .a))) (fun x hx=>qe) fun _=>gu<|ay<|au<|We 3 (.n 130 (sl A26 (b10.length+1+pz.length+Qc.length+AX.length) c22) (.n 131 (mv b8) (.n 132 (.s pz) (.k (.s .a)))))<|ag ?_;obtain⟨QU,h_e_2,hm⟩:=nm hm;refine vV (kt:=9) (e:=68) (v:=A0M) (m:=rO) (key:=pz) rfl [] 133 ((0:Int),([]:AC)) (.agg [I QU.1,.s QU.2]) (by kernel_rfl) (by kernel_rfl) (JB.VY 4 rfl) (by rw[h_e_2];rfl)<|We 1 (.n 134 (.s QU.2) (.s (.k (.ss .a))))<|ag<|bD hm fun b15 h_b15 hm=>?_;obtain⟨hz11,hl11⟩:=dw h_b15;refine dK (E:=e8) (v:=.s QU.2) (ys:=QU.2) eX [] 135 3 (by kernel_rfl) JB rfl (Src.str QU.2) rfl (by have:=JB.len 3 rfl;have:=hm;omega) fun A27 c23 w_27 Jb=>?_;rw[<- hl11] at Jb;refine We 1 (.n 3 (sl A27 (b10.length+1+pz.length+Qc.length+AX.length+QU.2.length) c23) (.gI .a))<|dY<|df<|ay<|oP (.n 98 (I (bC (jm+1))) (.aP (.aP .z))) ?_
    have F7:=Jb.fD 4 rfl;have H5:=F7.P7.P7.P2.P6.P6.P6.P6.bP (.aP (.kk (.k .z)));exact fF hm ⟨_,_,_,_,_,rfl,rfl,H5.len 3 rfl,H5⟩
   refine cZ (aX (aX (dZ ?_)));have hm:=bz hm hr1;refine df<|ay<|oP (.n 72 (I (bC (dP+1))) (.s (.kk (.s (.kk .z))))) ?_;have H6:=Bq.bP (.aP (.s (.k .z)));exact fF hm ⟨_,_,_,_,_,rfl,rfl,H6.len 3 rfl,H6⟩
 refine cZ (aX (aX (dZ ?_)));have hm:=bz hm hr0;refine ay<|ae<|Wq (.n 2 (sl A12 b5.length c10) .z)<|aK ?_;obtain rfl:=si hm;refine aN [sl A12 b5.length c10] qe ?_;have Jc:=kX.P2.P2.P2.P3.bP (.aP .z);exact⟨_,_,_,Jc.len 0 rfl,rfl,Jc⟩
theorem AQ{n bytes}(k:Cx F O w w []){r:AC}(hm:qL n bytes=some r):
    Calls Tryz.prog 27 (vals [I n,I bytes]) w (fun e w'=>∃ A n1 c,r.length=n1/\e=.returned (SV.val (sl A n1 c))/\Cx F O w w' [A0V A n1 c r]):=by
 unfold qL at hm;refine gB _ Tryz.func27 rfl<|ae<|Wq .a<|ae<|au<|We 3 (.n 6 (.u64 (UInt64.ofInt n)) (.n 7 (I bytes) .z))<|ag<|bD hm fun r_ fA hm=>bT 8 dl_go56 (Td lY fA) ?_;rintro e_ w_ ⟨A0,_,c0,rfl,rfl,k_⟩;have dH:=k.call k_;refine E2<|We 1 (.n 4 (sl A0 r_.length c0) .z)<|Wn<|aK ?_;obtain rfl:=si hm;refine aN [sl A0 r_.length c0] qe ?_;exact⟨_,_,_,dH.len 0 rfl,rfl,dH⟩
theorem JH{bQ ak ax cO aB b_ aG bH aA cu aF bG}(k:Cx F O w w [Bx 32 cO [I bQ,sl aB b_ aG,sl aA cu aF],A0N aB b_ aG bH ak,A0L aA cu aF bG ax]){r:AC}(hm:qw bQ ak ax=some r):
    Calls Tryz.prog 9 (vals [pt cO 0]) w (fun e w'=>∃ A n c,r.length=n/\e=.returned (SV.val (sl A n c))/\Cx F O w w' [A0V A n c r,Bx 32 cO [I bQ,sl aB b_ aG,sl aA cu aF],A0N aB b_ aG bH ak,A0L aA cu aF bG ax]):=by
 unfold qw at hm;obtain rfl:=k.iY 1 rfl;obtain rfl:=k.dJ 2 rfl;refine gB _ Tryz.func9 rfl<|ae<|Wq .a<|ae<|au<|Wl 5 (.n 13 (.u8 (UInt8.ofInt bQ)) .a) (mi cO 0<|gG k 0 rfl 0 (I bQ)<|qe)<|ag<|lS eX e8 14 ([(68:UInt8),(81:UInt8),(1:UInt8),UInt8.ofInt bQ]:AC) [(0,.u8 68),(1,.u8 81),(2,.u8 1),(3,.u8 (UInt8.ofInt bQ))] [.u8 68,.u8 81,.u8 1,.u8 (UInt8.ofInt bQ)] k fun A0 w_ k_=>We 1 (.n 3 (sl A0 4 4) (.ss .a))<|Wn<|ae<|au<|Wl 6 (.n 15 (sl A0 4 4) (.n 20 (I (ak.length:Int)) .a)) (mi cO 0<|gG k_ 0 rfl 1 (sl aB ak.length aG)<|qe)<|ag<|bD hm fun r_ fA hm=>bT 21 NC (AQ lY fA) ?_;rintro e_ ng ⟨A1,_,c0,rfl,rfl,dH⟩;have eY:=k_.call dH;refine E2<|ag<|bD hm fun b uq hm=>?_;obtain⟨hz,hl⟩:=dw uq;refine dK (E:=e8) (v:=sl A1 r_.length c0) (ys:=r_) eX [] 22 3 (by kernel_rfl) eY rfl (Src.sl (eY.rd 4 rfl) (eY.len 4 rfl) (by rfl)) (eY.len 4 rfl) (by have:=eY.len 3 rfl;have:=(eY.len 4 rfl);omega) fun A2 c1 sN fJ=>?_;rw[<- hl] at fJ;have gK:=fJ.bP (.aP .z)
 refine We 1 (.n 3 (sl A2 (4+r_.length) c1) (.gI (.s .a)))<|Wn<|ae<|ae<|Wq (.n 4 (I 0) .a)<|aC<|jv hm (fun s L wr=>∃ (b1:AC) (i:Int) (A3:EQ) (n0:Nat) (c2:Nat),(b1,i)=s/\L=[(0,pt cO 0),(3,sl A3 n0 c2),(4,I i)]/\b1.length=n0/\Cx F O w wr [Bx 32 cO [I bQ,sl aB ak.length aG,sl aA ax.length aF],A0N aB ak.length aG bH ak,A0L aA ax.length aF bG ax,A0V A3 n0 c2 b1]) ⟨_,_,_,_,_,rfl,rfl,gK.len 3 rfl,gK⟩ ?_;rintro xw L_ xI y0 ⟨b1,i,A3,_,c2,rfl,rfl,rfl,gX⟩ hm hr0;simp only[xG] at hm;refine ae<|ae<|Wa (.n 29 (.b (decide (i < (ak.length:Int)))) .a) (mi cO 0<|gG gX 0 rfl 1 (sl aB ak.length aG)<|qe)<|dE hm (fun hc hm=>?_) fun hc hm=>?_
 ·refine aH<|ay<|ae<|aC<|ae<|au<|bD hm fun aO rP hm=>?_;obtain⟨Y,hy,iT⟩:=gX.Fz 1 rfl rP;obtain⟨Y1,Y2⟩:=Y;have jC:=iT.ui;obtain⟨rfl,jK⟩:=jC.uj;obtain⟨B,n1,c3⟩:=Y2;obtain rfl:=jK.g_ 0 rfl;refine Wl 10 (.n 32 (sl A3 b1.length c2) (.n 41 (I (aO.2.length:Int)) (.s .a))) (mi cO 0<|gG gX 0 rfl 1 (sl aB ak.length aG)<|qJ (E:=A0Q) (gX.lN 1 rfl) hy (gX.oN 1 rfl)<|qS (A:=lh aB i 2) (dO _ _ (kY (E:=A0Q) (gX.lN 1 rfl) (by decide) (dD hy).1 (aS hy).2))<|qC (sl B aO.2.length c3) (Rd.el (k:=1) (gX.lN 1 rfl) hy (Pt.fa2 (Pt.nC aB i 2) 1) rfl)<|qe)<|ag<|bD hm fun bM ig hm=>bT 42 NC (AQ lY ig) ?_;rintro e_ yA ⟨A4,_,c4,rfl,rfl,dL⟩;have fC:=jK.call dL;refine⟨_,rfl,?_⟩;have fH:=fC.bP (.s (.aP (.k .e)));refine ag<|bD hm fun b2 Ja hm=>?_;obtain⟨hz1,hl1⟩:=dw Ja;refine dK (E:=e8) (v:=sl A4 bM.length c4) (ys:=bM) eX [] 43 3 (by kernel_rfl) fH rfl (Src.sl (fH.rd 4 rfl) (fH.len 4 rfl) (by rfl)) (fH.len 4 rfl) (by have:=fH.len 3 rfl;have:=(fH.len 4 rfl);omega) fun A5 c5 zW fV=>?_;rw[<- hl1] at fV;have gJ:=fV.bP (.aP .z);refine We 1 (.n 3 (sl A5 (b1.length+bM.length) c5) (.gI (.k (.s .a))))<|Wn<|au<|bD hm fun x_1 DN hm=>?_;obtain⟨Y3,hy1,iH⟩:=gJ.Fz 1 rfl DN;obtain⟨Y4,Y5⟩:=Y3;have iw:=iH.ui;obtain⟨rfl,jL⟩:=iw.uj;obtain⟨B1,n2,c6⟩:=Y5;obtain rfl:=jL.g_ 0 rfl
  refine Wl 9 (.n 44 (sl A5 (b1.length+bM.length) c5) (.n 52 (sl B1 x_1.2.length c6) .a)) (mi cO 0<|gG gJ 0 rfl 1 (sl aB ak.length aG)<|qJ (E:=A0Q) (gJ.lN 1 rfl) hy1 (gJ.oN 1 rfl)<|qS (A:=lh aB i 2) (dO _ _ (kY (E:=A0Q) (gJ.lN 1 rfl) (by decide) (dD hy1).1 (aS hy1).2))<|qC (sl B1 x_1.2.length c6) (Rd.el (k:=1) (gJ.lN 1 rfl) hy1 (Pt.fa2 (Pt.nC aB i 2) 1) rfl)<|qe)<|ag<|bD hm fun b3 OZ hm=>?_;obtain⟨hz2,hl2⟩:=dw OZ;refine dK (E:=e8) (v:=sl B1 x_1.2.length c6) (ys:=x_1.2) eX [] 53 4 (by kernel_rfl) jL rfl (Src.sl (jL.IW 0 rfl) (jL.g_ 0 rfl) (by rfl)) (jL.g_ 0 rfl) (by have:=jL.len 4 rfl;have:=(jL.g_ 0 rfl);omega) fun A6 c7 CX jX=>?_;rw[<- hl2] at jX;have jW:=jX.bP (.s (.aP .e));refine We 1 (.n 3 (sl A6 (b1.length+bM.length+x_1.2.length) c7) (.gI .a))<|dY<|df<|ay<|oP (.n 4 (I (bC (i+1))) (.kk .z)) ?_;exact fF hm ⟨_,_,_,_,_,rfl,rfl,jW.len 3 rfl,jW⟩
 refine cZ (aX (aX (dZ ?_)));have hm:=bz hm hr0;refine ay<|ae<|au<|Wl 6 (.n 54 (sl A3 b1.length c2) (.n 59 (I (ax.length:Int)) (.s (.kk .z)))) (mi cO 0<|gG gX 0 rfl 2 (sl aA ax.length aF)<|qe)<|ag<|bD hm fun fO kG hm=>bT 60 NC (AQ lY kG) ?_;rintro e_ EM ⟨A7,_,c8,rfl,rfl,iW⟩;have jM:=gX.call iW;refine E2<|ag<|bD hm fun b4 Kw hm=>?_;obtain⟨hz3,hl3⟩:=dw Kw;refine dK (E:=e8) (v:=sl A7 fO.length c8) (ys:=fO) eX [] 61 3 (by kernel_rfl) jM rfl (Src.sl (jM.rd 4 rfl) (jM.len 4 rfl) (by rfl)) (jM.len 4 rfl) (by have:=jM.len 3 rfl;have:=(jM.len 4 rfl);omega) fun A8 c9 Jd iE=>?_;rw[<- hl3] at iE;have jS:=iE.bP (.aP .z);refine We 1 (.n 3 (sl A8 (b1.length+fO.length) c9) (.gI (.k .z)))<|Wn<|ae<|ae<|Wq (.n 5 (I 0) .a)<|aC<|jv hm (fun s L wr=>∃ (b5:AC) (i1:Int) (A9:EQ) (n3:Nat) (c10:Nat),(b5,i1)=s/\L=[(0,pt cO 0),(3,sl A9 n3 c10),(5,I i1)]/\b5.length=n3/\Cx F O w wr [Bx 32 cO [I bQ,sl aB ak.length aG,sl aA ax.length aF],A0N aB ak.length aG bH ak,A0L aA ax.length aF bG ax,A0V A9 n3 c10 b5]) ⟨_,_,_,_,_,rfl,rfl,jS.len 3 rfl,jS⟩ ?_;rintro xw L_ Kv y0 ⟨b5,i1,A9,_,c10,rfl,rfl,rfl,kZ⟩ hm hr0;simp only[tN] at hm
 refine ae<|ae<|Wa (.n 68 (.b (decide (i1 < (ax.length:Int)))) .a) (mi cO 0<|gG kZ 0 rfl 2 (sl aA ax.length aF)<|qe)<|dE hm (fun hc1 hm=>?_) fun hc1 hm=>?_
 ·refine aH<|ay<|ae<|aC<|ae<|au<|bD hm fun dM zn hm=>?_;obtain⟨⟨q,⟨⟨B2,n4,c11⟩,ys⟩⟩,hy2,_,hg⟩:=kZ.I9 2 rfl zn;simp only[SP,SQ,SH,nJ] at hg;obtain⟨rfl,⟨rfl,_⟩⟩:=hg;refine Wl 11 (.n 71 (sl A9 b5.length c10) (.n 81 (.u8 (UInt8.ofInt (dM.1.length:Int))) (.s .a))) (mi cO 0<|gG kZ 0 rfl 2 (sl aA ax.length aF)<|qJ (E:=(eP eS eG)) (kZ.j_ 2 rfl) hy2 (kZ.mG 2 rfl)<|qS (A:=lh aA i1 2) (dO _ _ (kY (E:=(eP eS eG)) (kZ.j_ 2 rfl) (by decide) (dD hy2).1 (aS hy2).2))<|qC (.s dM.1) (Rd.el (k:=0) (kZ.j_ 2 rfl) hy2 (Pt.fa2 (Pt.nC aA i1 2) 0) rfl)<|qe)<|ag<|lS eX e8 82 ([UInt8.ofInt (dM.1.length:Int)]:AC) [(0,.u8 (UInt8.ofInt (dM.1.length:Int)))] [.u8 (UInt8.ofInt (dM.1.length:Int))] kZ fun A10 zk kT=>ag<|bD hm fun b6 h_b6 hm=>?_;obtain⟨hz4,hl4⟩:=dw h_b6;refine dK (E:=e8) (v:=sl A10 1 1) (ys:=([UInt8.ofInt (dM.1.length:Int)]:AC)) eX [] 83 3 (by kernel_rfl) kT rfl (Src.sl (kT.rd 4 rfl) (kT.len 4 rfl) (by rfl)) (kT.len 4 rfl) (by have:=kT.len 3 rfl;have:=(kT.len 4 rfl);omega) fun A11 c12 BQ kX=>?_;rw[<- hl4] at kX;have lg:=kX.bP (.aP .z);refine We 1 (.n 3 (sl A11 (b5.length+1) c12) (.gI (.k (.s .a))))<|Wn<|ae<|au<|bD hm fun dP D_ hm=>?_;obtain⟨⟨q1,⟨⟨B3,n5,c13⟩,Et⟩⟩,hy3,_,hg1⟩:=lg.I9 2 rfl D_;simp only[SP,SQ,SH,nJ] at hg1;obtain⟨rfl,⟨rfl,_⟩⟩:=hg1
  refine Wl 9 (.n 84 (sl A11 (b5.length+1) c12) (.n 92 (.s dP.1) .a)) (mi cO 0<|gG lg 0 rfl 2 (sl aA ax.length aF)<|qJ (E:=(eP eS eG)) (lg.j_ 2 rfl) hy3 (lg.mG 2 rfl)<|qS (A:=lh aA i1 2) (dO _ _ (kY (E:=(eP eS eG)) (lg.j_ 2 rfl) (by decide) (dD hy3).1 (aS hy3).2))<|qC (.s dP.1) (Rd.el (k:=0) (lg.j_ 2 rfl) hy3 (Pt.fa2 (Pt.nC aA i1 2) 0) rfl)<|qe)<|ag<|bD hm fun b7 h_b7 hm=>?_;obtain⟨hz5,hl5⟩:=dw h_b7;refine dK (E:=e8) (v:=.s dP.1) (ys:=dP.1) eX [] 93 3 (by kernel_rfl) lg rfl (Src.str dP.1) rfl (by have:=lg.len 3 rfl;have:=hm;omega) fun A12 c14 Gw lZ=>?_;rw[<- hl5] at lZ;refine We 1 (.n 3 (sl A12 (b5.length+1+dP.1.length) c14) (.gI .a))<|Wn<|ae<|au<|bD hm fun jc Lh hm=>?_;obtain⟨Y6,hy4,pG⟩:=lZ.Bi 2 rfl Lh;obtain⟨Y7,Y8⟩:=Y6;have qO:=pG.ui;obtain⟨rfl,qP⟩:=qO.uj;obtain⟨⟨B4,n6,c15⟩,C9⟩:=Y8;obtain rfl:=Cx.iY (E:=A0P) (q:=(SP SQ (SP SQ (SH eS)))) (A:=B4) (c:=c15) (ys:=C9) qP 0 rfl;refine Wl 10 (.n 94 (sl A12 (b5.length+1+dP.1.length) c14) (.n 103 (I (jc.2.length:Int)) .a)) (mi cO 0<|gG lZ 0 rfl 2 (sl aA ax.length aF)<|qJ (E:=(eP eS eG)) (lZ.j_ 2 rfl) hy4 (lZ.mG 2 rfl)<|qS (A:=lh aA i1 2) (dO _ _ (kY (E:=(eP eS eG)) (lZ.j_ 2 rfl) (by decide) (dD hy4).1 (aS hy4).2))<|qC (sl B4 jc.2.length c15) (Rd.el (k:=1) (lZ.j_ 2 rfl) hy4 (Pt.fa2 (Pt.nC aA i1 2) 1) rfl)<|qe)<|ag<|bD hm fun iC mQ hm=>bT 104 NC (AQ lY mQ) ?_;rintro e_ Md ⟨A13,_,c16,rfl,rfl,qQ⟩
  have rM:=qP.call qQ;refine⟨_,rfl,?_⟩;have pI:=rM.bP (.s (.aP (.k .e)));refine ag ?_;have qU:=pI.bP (.aP (.k .e));refine bD hm fun b8 h_b8 hm=>?_;obtain⟨hz6,hl6⟩:=dw h_b8;refine dK (E:=e8) (v:=sl A13 iC.length c16) (ys:=iC) eX [] 105 3 (by kernel_rfl) qU rfl (Src.sl (qU.rd 4 rfl) (qU.len 4 rfl) (by rfl)) (qU.len 4 rfl) (by have:=qU.len 3 rfl;have:=(qU.len 4 rfl);omega) fun A14 c17 KY uD=>?_;rw[<- hl6] at uD;have vU:=uD.bP (.aP .z);refine We 1 (.n 3 (sl A14 (b5.length+1+dP.1.length+iC.length) c17) (.gI (.s .a)))<|Wn<|ae<|Wq (.n 6 (I 0) .a)<|aC<|jv hm (fun s L wr=>∃ (b9:AC) (vG:Int) (A15:EQ) (n7:Nat) (c18:Nat),(b9,vG)=s/\L=[(0,pt cO 0),(3,sl A15 n7 c18),(5,I i1),(6,I vG)]/\b9.length=n7/\Cx F O w wr [Bx 32 cO [I bQ,sl aB ak.length aG,sl aA ax.length aF],A0N aB ak.length aG bH ak,A0L aA ax.length aF bG ax,A0V A15 n7 c18 b9]) ⟨_,_,_,_,_,rfl,rfl,vU.len 3 rfl,vU⟩ ?_;rintro s1_ L_ Oc y1 ⟨b9,vG,A15,_,c18,rfl,rfl,rfl,vJ⟩ hm hr1;simp only[tK] at hm;refine ae<|ae<|bD hm fun jm Hr hm=>?_;obtain⟨Y9,YD,Bq⟩:=vJ.Bi 2 rfl Hr;obtain⟨Y10,Y11⟩:=Y9;have BR:=Bq.ui;obtain⟨rfl,rU⟩:=BR.uj;obtain⟨⟨B5,n8,c19⟩,Vq⟩:=Y11;obtain rfl:=Cx.iY (E:=A0P) (q:=(SP SQ (SP SQ (SH eS)))) (A:=B5) (c:=c19) (ys:=Vq) rU 0 rfl
  refine Wa (.n 116 (.b (decide (vG < (jm.2.length:Int)))) .a) (mi cO 0<|gG vJ 0 rfl 2 (sl aA ax.length aF)<|qJ (E:=(eP eS eG)) (vJ.j_ 2 rfl) YD (vJ.mG 2 rfl)<|qS (A:=lh aA i1 2) (dO _ _ (kY (E:=(eP eS eG)) (vJ.j_ 2 rfl) (by decide) (dD YD).1 (aS YD).2))<|qC (sl B5 jm.2.length c19) (Rd.el (k:=1) (vJ.j_ 2 rfl) YD (Pt.fa2 (Pt.nC aA i1 2) 1) rfl)<|qe)<|dE hm (fun hc2 hm=>?_) fun hc2 hm=>?_
  ·refine aH<|ay<|ae<|aC<|ae<|au<|bD hm fun pz SY hm=>?_;obtain⟨Y12,hy6,tY⟩:=rU.Bi 3 rfl SY;obtain⟨Y13,Y14⟩:=Y12;have Ac:=tY.ui;obtain⟨rfl,CY⟩:=Ac.uj;obtain⟨⟨B6,n9,c20⟩,ys4⟩:=Y14;obtain rfl:=Cx.iY (E:=A0P) (q:=(SP SQ (SP SQ (SH eS)))) (A:=B6) (c:=c20) (ys:=ys4) CY 0 rfl;refine bD hm fun ni Va hm=>?_;obtain⟨Y15,hy7,CZ⟩:=CY.Fz 0 rfl Va;obtain⟨Y16,Y17⟩:=Y15;have HY:=CZ.ui;obtain⟨rfl,KC⟩:=HY.uj;obtain⟨Y18,Y19⟩:=Y17;have Gx:=KC.ui;obtain⟨rfl,Gy⟩:=Gx.uj;obtain⟨B7,n10,c21⟩:=Y19;obtain rfl:=Gy.g_ 0 rfl;refine Wl 11 (.n 129 (.agg [.s ni.1,I ni.2.1,sl B7 ni.2.2.length c21]) (.s .a)) (mi cO 0<|gG rU 1 rfl 2 (sl aA ax.length aF)<|qJ (E:=(eP eS eG)) (rU.j_ 3 rfl) hy6 (rU.mG 3 rfl)<|qS (A:=lh aA i1 2) (dO _ _ (kY (E:=(eP eS eG)) (rU.j_ 3 rfl) (by decide) (dD hy6).1 (aS hy6).2))<|qC (sl B6 pz.2.length c20) (Rd.el (k:=1) (rU.j_ 3 rfl) hy6 (Pt.fa2 (Pt.nC aA i1 2) 1) rfl)<|qJ (E:=A0P) (CY.lN 0 rfl) hy7 (CY.oN 0 rfl)<|qR [.s ni.1,I ni.2.1,sl B7 ni.2.2.length c21] (Rd.els (k:=0) (m:=3) (CY.lN 0 rfl) hy7 (Pt.nC B6 vG 3) rfl (by decide) (by decide))<|qe)<|ag<|jA 7 [.s ([]:AC),I 0,sl none 0 0] Gy fun g Vg JB=>ag<|ja 7 (.agg [.s ni.1,I ni.2.1,sl B7 ni.2.2.length c21]) [.s ni.1,I ni.2.1,sl B7 ni.2.2.length c21] (Pt.at g 0) JB rfl .all fun Qv Jb=>?_;have F7:=Jb.bP (.k (.ss (.aP (.k .e))))
   refine Wn<|ae<|au<|Wl 5 (.n 130 (sl A15 b9.length c18) (.n 134 (.u8 (UInt8.ofInt (ni.1.length:Int))) (.k (.s .a)))) (qs g 0<|gG F7 5 rfl 0 (.s ni.1)<|qe)<|ag<|lS eX e8 135 ([UInt8.ofInt (ni.1.length:Int)]:AC) [(0,.u8 (UInt8.ofInt (ni.1.length:Int)))] [.u8 (UInt8.ofInt (ni.1.length:Int))] F7 fun A16 TG H5=>ag<|bD hm fun b10 h_b10 hm=>?_;obtain⟨hz7,hl7⟩:=dw h_b10;refine dK (E:=e8) (v:=sl A16 1 1) (ys:=([UInt8.ofInt (ni.1.length:Int)]:AC)) eX [] 136 4 (by kernel_rfl) H5 rfl (Src.sl (H5.rd 6 rfl) (H5.len 6 rfl) (by rfl)) (H5.len 6 rfl) (by have:=H5.len 4 rfl;have:=(H5.len 6 rfl);omega) fun A17 c22 Yv H6=>?_;rw[<- hl7] at H6;have Jc:=H6.bP (.aP (.kk .z));refine We 1 (.n 3 (sl A17 (b9.length+1) c22) (.gI (.kk (.s .a))))<|Wn<|ae<|au<|Wl 3 (.n 137 (sl A17 (b9.length+1) c22) (.n 139 (.s ni.1) .a)) (qs g 0<|gG Jc 5 rfl 0 (.s ni.1)<|qe)<|ag ?_;have KD:=Jc.bP (.aP (.kk .e));refine bD hm fun b11 h_b11 hm=>?_;obtain⟨hz8,hl8⟩:=dw h_b11;refine dK (E:=e8) (v:=.s ni.1) (ys:=ni.1) eX [] 140 4 (by kernel_rfl) KD rfl (Src.str ni.1) rfl (by have:=KD.len 4 rfl;have:=hm;omega) fun A18 c23 aac KE=>?_;rw[<- hl8] at KE;refine We 1 (.n 3 (sl A18 (b9.length+1+ni.1.length) c23) (.gI .a))<|Wn<|ae<|au<|Wl 3 (.n 141 (sl A18 (b9.length+1+ni.1.length) c23) (.n 143 (I ni.2.1) .a)) (qs g 0<|gG KE 5 rfl 1 (I ni.2.1)<|qe)<|ag<|bD hm fun jT rJ hm=>bT 144 NC (AQ lY rJ) ?_
   rintro e_ aad ⟨A19,_,c24,rfl,rfl,Rx⟩;have K_:=KE.call Rx;refine E2<|ag<|bD hm fun b12 h_b12 hm=>?_;obtain⟨hz9,hl9⟩:=dw h_b12;refine dK (E:=e8) (v:=sl A19 jT.length c24) (ys:=jT) eX [] 145 4 (by kernel_rfl) K_ rfl (Src.sl (K_.rd 6 rfl) (K_.len 6 rfl) (by rfl)) (K_.len 6 rfl) (by have:=K_.len 4 rfl;have:=(K_.len 6 rfl);omega) fun A20 c25 w_22 Qw=>?_;rw[<- hl9] at Qw;have Qx:=Qw.bP (.aP (.kk .z));refine We 1 (.n 3 (sl A20 (b9.length+1+ni.1.length+jT.length) c25) (.gI (.s .a)))<|Wn<|ae<|au<|Wl 4 (.n 146 (sl A20 (b9.length+1+ni.1.length+jT.length) c25) (.n 149 (I (ni.2.2.length:Int)) .a)) (qs g 0<|gG Qx 5 rfl 2 (sl B7 ni.2.2.length c21)<|qe)<|ag<|bD hm fun kM xe hm=>bT 150 NC (AQ lY xe) ?_;rintro e_ w_23 ⟨A21,_,c26,rfl,rfl,JC⟩;have Qy:=Qx.call JC;refine E2<|ag ?_;have KF:=Qy.bP (.aP (.kk (.k .e)));refine bD hm fun b13 h_b13 hm=>?_;obtain⟨hz10,hl10⟩:=dw h_b13;refine dK (E:=e8) (v:=sl A21 kM.length c26) (ys:=kM) eX [] 151 4 (by kernel_rfl) KF rfl (Src.sl (KF.rd 6 rfl) (KF.len 6 rfl) (by rfl)) (KF.len 6 rfl) (by have:=KF.len 4 rfl;have:=(KF.len 6 rfl);omega) fun A22 c27 w_24 JD=>?_;rw[<- hl10] at JD;have O3:=JD.bP (.aP (.kk .z));refine We 1 (.n 3 (sl A22 (b9.length+1+ni.1.length+jT.length+kM.length) c27) (.gI (.s .a)))<|Wn<|ae<|Wq (.n 8 (I 0) .a)<|aC ?_;have TJ:=O3.P5.P5.P5.P5.P5
   refine jv hm (fun s L wr=>∃ (b14:AC) (j:Int) (A23:EQ) (n11:Nat) (c28:Nat),(b14,j)=s/\L=[(0,pt cO 0),(3,sl A23 n11 c28),(5,I i1),(6,I vG),(7,pt g 0),(8,I j)]/\b14.length=n11/\Cx F O w wr [Bx 32 cO [I bQ,sl aB ak.length aG,sl aA ax.length aF],A0N aB ak.length aG bH ak,A0L aA ax.length aF bG ax,A0V A23 n11 c28 b14,Bx 76 g [.s ni.1,I ni.2.1,sl B7 ni.2.2.length c21],Sh (SH eS) [(B7,ni.2.2.length,c21)] [ni.2.2]]) ⟨_,_,_,_,_,rfl,rfl,TJ.len 3 rfl,TJ⟩ ?_;rintro s2_ L_ w_25 y2 ⟨b14,j,A23,_,c28,rfl,rfl,rfl,KG⟩ hm hr2;simp only[tJ] at hm;refine ae<|ae<|Wa (.n 156 (.b (decide (j < (ni.2.2.length:Int)))) .a) (qs g 0<|gG KG 4 rfl 2 (sl B7 ni.2.2.length c21)<|qe)<|dE hm (fun hc3 hm=>?_) fun hc3 hm=>?_
   ·refine aH<|ay<|ae<|aC<|au<|bD hm fun Dq Wh hm=>Wl 6 (.n 159 (sl A23 b14.length c28) (.n 164 (.s Dq) (.s .a))) (qs g 0<|gG KG 4 rfl 2 (sl B7 ni.2.2.length c21)<|qW (KG.IW 5 rfl) Wh (KG.g_ 5 rfl) (.s Dq) rfl<|qe)<|ag<|bD hm fun b15 h_b15 hm=>?_;obtain⟨hz11,hl11⟩:=dw h_b15;refine dK (E:=e8) (v:=.s Dq) (ys:=Dq) eX [] 165 3 (by kernel_rfl) KG rfl (Src.str Dq) rfl (by have:=KG.len 3 rfl;have:=hm;omega) fun A24 c29 w_26 Vh=>?_;rw[<- hl11] at Vh;refine We 1 (.n 3 (sl A24 (b14.length+Dq.length) c29) (.mV (.k (.s .a))))<|dY<|df<|ay<|oP (.n 8 (I (bC (j+1))) (.aP (.k .z))) ?_;exact fF hm ⟨_,_,_,_,_,rfl,rfl,Vh.len 3 rfl,Vh⟩
   refine cZ (aX (aX (dZ ?_)));have hm:=bz hm hr2;refine df<|ay<|oP (.n 6 (I (bC (vG+1))) (.s (.wH .z))) ?_;have Wi:=KG.bP (.aP .z);exact fF hm ⟨_,_,_,_,_,rfl,rfl,Wi.len 3 rfl,Wi⟩
  refine cZ (aX (aX (dZ ?_)));have hm:=bz hm hr1;refine df<|ay<|oP (.n 5 (I (bC (i1+1))) (.s (.kk .z))) ?_;have Wj:=rU.bP (.s (.aP .e));exact fF hm ⟨_,_,_,_,_,rfl,rfl,Wj.len 3 rfl,Wj⟩
 refine cZ (aX (aX (dZ ?_)));have hm:=bz hm hr0;refine ay<|ae<|Wq (.n 2 (sl A9 b5.length c10) .z)<|aK ?_;obtain rfl:=si hm;refine aN [sl A9 b5.length c10] qe ?_;have aae:=kZ.P2.P2.P2.P3;exact⟨_,_,_,aae.len 0 rfl,rfl,aae⟩
theorem c_l27_tells{aT af ah dX bJ bK dQ fM jr iF xA cO ai aj D8 gq rZ gY lF gZ su iD lG jY CV jZ yD}(k:Cx F O w w [Bx 57 cO [I aT,mv ai,mv aj],A0R ai af,A0S aj ah,Bx 32 D8 [I dX,sl gq rZ gY,sl gZ su iD],A0N gq rZ gY lF bJ,A0L gZ su iD lG bK,A0N jY CV jZ yD iF]){r:(Bool×Int×Int×PP×NE)}(hm:Fv aT af ah dX bJ bK dQ fM jr iF xA=some r):
    Calls Tryz.prog 18 (vals [pt cO 0,pt D8 0,.agg [I dQ,.s fM,.s jr,sl jY CV jZ,I xA]]) w (fun e w'=>∃ A n c ys A1 n1 c1 Et,r.2.2.2.1.length=n/\r.2.2.2.2.length=n1/\e=.returned (SV.val (.b r.1))/\Cx F O w w' [Bx 57 cO [I r.2.1,mv ai,mv aj],A0R ai af,A0S aj ah,Bx 32 D8 [I r.2.2.1,sl A n c,sl A1 n1 c1],A0N A n c ys r.2.2.2.1,A0L A1 n1 c1 Et r.2.2.2.2]):=by
 unfold Fv at hm;obtain rfl:=k.iY 4 rfl;obtain rfl:=k.dJ 5 rfl;obtain rfl:=k.iY 6 rfl;refine gB _ Tryz.func18 rfl<|ae<|au<|ag<|mP 5 [I dQ,.s fM,.s jr,sl jY iF.length jZ,I xA] k fun g w_ k_=>We 1 (.wH .z)<|Wn<|ae<|ae<|Wa (.n 25 (I dQ) .a) (qs g 0<|gG k_ 7 rfl 0 (I dQ)<|qe)<|aC<|ae<|Wq (.n 26 (.b (decide (dQ=1))) .a)<|dE hm (fun hc hm=>?_) fun hc hm=>?_
 ·refine ae<|au<|Wl 5 (.n 29 (pt cO 0) (.n 31 (.s fM) (.n 33 (.s jr) (.ss (.k (.s .a)))))) (qs g 0<|gG k_ 7 rfl 1 (.s fM)<|qs g 0<|gG k_ 7 rfl 2 (.s jr)<|qe)<|ag<|bD hm fun r_ fA hm=>?_;obtain⟨F1,O1,kin,hO,hre,hF,hb⟩:=k_.go (.i (.i (.i (.r (.r (.r (.r (.r .e))))))));refine bT 34 dl_go36 (QI kin fA) ?_;rintro e_ ng ⟨A0,_,c0,rfl,rfl,dH⟩;have eY:=hb ng _ _ dH (.c (.c (.c (.c .n))));refine E2<|We 5 (.n 7 (sl A0 r_.1.length c0) (.n 8 (I r_.2.1) (.gI .a)))<|Wn<|ae<|au<|Wl 5 (.n 38 (pt D8 0) (.n 40 (.s fM) (.n 42 (.s jr) (.kk .z)))) (qs g 0<|gG eY 8 rfl 1 (.s fM)<|qs g 0<|gG eY 8 rfl 2 (.s jr)<|qe)<|ag ?_;have fJ:=eY.fD 5 rfl;refine bD hm fun bM ig hm=>?_;have gK:=fJ.P9.P9.P8.P7.P7.P7.P7.P9.P8.P9;obtain⟨F11,Vd,tX,Ve,Ea,hF1,hb1⟩:=gK.go (.i (.i (.i (.r (.r (.r (.r (.r (.r (.r .e))))))))));refine bT 43 dl_go37 (TN tX ig) ?_;rintro e_ sN ⟨A2,_,c2,rfl,rfl,gX⟩;have iT:=hb1 sN _ _ gX (.c (.c (.c (.c .n))));refine⟨_,rfl,?_⟩;have iK:=iT.bP (.kk (.s (.aP (.kk .z))));refine We 5 (.n 9 (sl A2 bM.1.length c2) (.n 10 (I bM.2) (.gI .a)))<|Wn<|ae<|au<|We 2 (.n 46 (sl A0 r_.1.length c0) (.n 47 (sl A2 bM.1.length c2) (.s .a)))<|ag<|bD hm fun fO kG hm=>jb 48 U3 (Ho (Ro.n0 (iK.rd 3 rfl)) (iK.len 3 rfl) (iK.KR 3 rfl) (Ro.n0 (iK.rd 0 rfl)) (iK.len 0 rfl) (iK.KR 0 rfl) lY kG) iK fun xI jK=>?_;have eU:=jK.bP (.s (.aP (.kk (.k .e))))
  refine We 6 (.n 11 (.b (fO&&(decide (r_.2.1=bM.2)))) (.gI (.k .z)))<|Wn<|ae<|ae<|Wq (.n 55 (I (r_.1.length:Int)) (.n 56 (I 0) .a))<|aC ?_;have fC:=eU.P1.P6.P2.P6.P6.P6.P6;refine jv hm (fun s L wr=>∃ (a_:AC) (aO:Int),(a_,aO)=s/\L=[(7,sl A0 r_.1.length c0),(11,.b (fO&&(decide (r_.2.1=bM.2)))),(55,I (r_.1.length:Int)),(56,I aO)]/\Cx F O w wr [A0V A0 r_.1.length c0 a_,Bx 57 cO [I r_.2.2,mv ai,mv aj],A0R ai af,A0S aj ah,Bx 32 D8 [I dX,sl gq bJ.length gY,sl gZ bK.length iD],A0N gq bJ.length gY lF bJ,A0L gZ bK.length iD lG bK]) ⟨_,_,rfl,rfl,fC⟩ ?_;rintro xw L_ yA y0 ⟨a_,aO,rfl,rfl,dL⟩ hm hr0;simp only[zT] at hm;refine ae<|Wq (.n 57 (.b (decide (aO < (r_.1.length:Int)))) .a)<|ae<|dE hm (fun hc1 hm=>?_) fun hc1 hm=>?_
  ·refine aH<|ay<|ae<|aC<|ae<|Wq (.n 12 (I aO) (.s .a))<|au<|bD hm fun jm Hr hm=>bD hm fun pz SY hm=>Wl 8 (.n 65 (.u8 (255^^^jm)) (.n 66 (.v (.pointer (lh A0 aO 1))) (.s .a))) (qW (dL.rd 0 rfl) Hr (dL.len 0 rfl) (.u8 jm) rfl<|qJ (dL.rd 0 rfl) SY (dL.len 0 rfl)<|qe)<|ag<|Ee (E:=e8) (kk:=0) (sv:=.u8 (255^^^jm)) (svs:=[.u8 (255^^^jm)]) [] 0 (255^^^jm) (by kernel_rfl) (Pt.nC A0 aO 1) dL rfl (aS SY).2 (kY (E:=e8) (dL.rd 0 rfl) (by decide) (dD SY).1 (aS SY).2) rfl (Nat.le_of_ble_eq_true (by kernel_rfl)) fun zW fH=>dY<|df<|ay<|oP (.n 56 (I (bC (aO+1))) (.ss (.wH .z))) ?_;exact fF hm ⟨_,_,rfl,rfl,fH⟩
  refine cZ (aX (aX (dZ ?_)));have hm:=bz hm hr0;refine ay<|ae<|Wq (.n 6 (.b (fO&&(decide (r_.2.1=bM.2)))) .z)<|aK (dN (aU ?_));obtain rfl:=si hm;refine aN [.b (fO&&(decide (r_.2.1=bM.2)))] qe ?_;have fV:=dL.bP (.s (.aP (.kk .e)));exact⟨_,_,_,_,_,_,_,_,fV.iY 4 rfl,fV.dJ 5 rfl,rfl,fV⟩
 refine ae<|Wq (.n 69 (.b (decide (dQ=2))) (.s .a))<|dE hm (fun hc2 hm=>?_) fun hc2 hm=>?_
 ·refine ae<|au<|Wl 3 (.n 72 (pt cO 0) (.n 74 (.s fM) (.ss (.k (.s .a))))) (qs g 0<|gG k_ 7 rfl 1 (.s fM)<|qe)<|ag<|bD hm fun iC mQ hm=>?_;obtain⟨F12,O12,Ip,hO2,Vs,hF2,hb2⟩:=k_.go (.i (.i (.i (.r (.r (.r (.r (.r .e))))))));refine bT 75 dl_go38 (Pj Ip mQ) ?_;rintro e_ CX ⟨A3,_,c3,ys0,rfl,rfl,gJ⟩;have iH:=hb2 CX _ _ gJ (.c (.c (.c (.c .n))));refine E2<|We 5 (.n 13 (sl A3 iC.1.length c3) (.n 14 (I iC.2.1) (.mV .a)))<|Wn<|ae<|au<|Wl 3 (.n 79 (pt D8 0) (.n 81 (.s fM) (.kk .z))) (qs g 0<|gG iH 8 rfl 1 (.s fM)<|qe)<|ag ?_;have iU:=iH.fD 5 rfl;refine bD hm fun jT rJ hm=>?_;have iw:=iU.P9.P9.P8.P7.P7.P7.P7.P9.P8.P9;obtain⟨F13,O13,ML,hO3,hre3,hF3,hb3⟩:=iw.go (.i (.i (.i (.r (.r (.r (.r (.r (.r (.r .e))))))))));refine bT 82 dl_go39 (RS ML rJ) ?_;rintro e_ EM ⟨A4,_,c4,C9,rfl,rfl,jL⟩;have jH:=hb3 EM _ _ jL (.c (.c (.c (.c .n))));refine⟨_,rfl,?_⟩;have jX:=jH.bP (.kk (.s (.aP (.kk .z))));refine We 5 (.n 15 (sl A4 jT.1.length c4) (.n 16 (I jT.2) (.mV .a)))<|Wn<|ae<|au<|We 2 (.n 85 (sl A3 iC.1.length c3) (.n 86 (sl A4 jT.1.length c4) (.s .a)))<|ag<|bD hm fun kM xe hm=>jb 87 dl_go40 (Wp (jX.WW 3 rfl (cvP (cvP cv2))) (jX.zh 3 rfl) (jX.fmlec 3 rfl) (jX.WW 0 rfl (cvP (cvP cv2))) (jX.zh 0 rfl) (jX.fmlec 0 rfl) lY xe) jX fun Jd iW=>?_;have jM:=iW.bP (.s (.aP (.kk (.k .e))))
  refine We 6 (.n 17 (.b (kM&&(decide (iC.2.1=jT.2)))) (.gI (.k .z)))<|Wn<|ae<|ae<|Wq (.n 94 (I (iC.1.length:Int)) (.n 95 (I 0) .a))<|aC ?_;have jS:=jM.P1.P6.P2.P6.P6.P6.P6;refine jv hm (fun s L wr=>∃ (ok:Bool) (ni:Int) (m_:Nat),(ok,ni)=s/\L=[(13,sl A3 iC.1.length c3),(17,.b ok),(94,I (iC.1.length:Int)),(95,I ni)]/\m_<=Int.toNat ni/\Cx F O w wr [Fmd (eP eS (eP eI (eG (γ:=Hd)))) (fP (fP (f2 e8))) A3 iC.1.length c3 ys0 iC.1 m_,Bx 57 cO [I iC.2.2,mv ai,mv aj],A0R ai af,A0S aj ah,Bx 32 D8 [I dX,sl gq bJ.length gY,sl gZ bK.length iD],A0N gq bJ.length gY lF bJ,A0L gZ bK.length iD lG bK]) ⟨_,_,0,rfl,rfl,(Nat.zero_le _),jS⟩ ?_;rintro xw L_ Kv y0 ⟨ok,ni,m_,rfl,rfl,hdl,iE⟩ hm hr0;simp only[zU] at hm;refine ae<|Wq (.n 96 (.b (decide (ni < (iC.1.length:Int)))) .a)<|ae<|dE hm (fun hc3 hm=>?_) fun hc3 hm=>?_
  ·refine aH<|ay<|ae<|aC<|ae<|Wq (.n 18 (I ni) (.s .a))<|au<|We 2 (.n 99 (.b ok) .a)<|LD 99 ok (.s .a) (by kernel_rfl) (fun hg=>?_) (fun hg=>?_)
   ·rw[if_pos hg] at hm;refine bD hm fun Dq Wh hm=>?_;obtain⟨⟨q,q1,⟨⟨B,n0,c5⟩,hd⟩⟩,hy,hg1⟩:=iE.fmd_at 0 rfl hdl Wh (cvP (cvP cv2));simp only[RP,RQ,RH,RH2] at hg1;obtain⟨rfl,rfl,⟨rfl,hle,_⟩⟩:=hg1;refine J4 5 [99] (.n 104 (sl B Dq.2.2.length c5) (.k (.s .a))) (qJ (E:=(eP eS (eP eI (eG (γ:=Hd))))) (iE.fmdrd 0 rfl) hy (iE.fmdlen' 0 rfl)<|qS (A:=lh A3 ni 3) (dO _ _ (kY (E:=(eP eS (eP eI (eG (γ:=Hd))))) (iE.fmdrd 0 rfl) (by decide) (dD hy).1 (aS hy).2))<|qC (sl B Dq.2.2.length c5) (Rd.el (k:=2) (iE.fmdrd 0 rfl) hy (Pt.fa2 (Pt.nC A3 ni 3) 2) rfl)<|qe) (by kernel_rfl)<|ag ?_;have kZ:=iE.fmb_open hdl Wh hy;refine bD hm fun rO DT hm=>?_;obtain⟨F14,O14,O9,hO4,hre4,hF4,hb4⟩:=kZ.go (.r (.i (.r (.r (.r (.r (.r (.r .e))))))));refine oK [99] 105 _ dl_go41 (by kernel_rfl) (Vu O9 DT) ?_;rintro e_ zk ⟨rfl,kT⟩;have kX:=hb4 zk _ _ kT .n;refine E2<|J4 2 [99] (.n 17 (.b rO) (.mV (.k (.s .a)))) qe (by kernel_rfl)<|dY<|df<|ay<|oP (.n 95 (I (bC (ni+1))) (.wH .z)) ?_;exact fF hm ⟨_,_,_,rfl,rfl,(dl_step Wh (kX.fmdmax 0 rfl)),kX⟩
   ·rw[if_neg (by rw[hg];decide)] at hm;cases hm
  refine cZ (aX (aX (dZ ?_)));have hm:=bz hm hr0;refine ay<|ae<|Wq (.n 6 (.b ok) .z)<|aK (dN (aU ?_));obtain rfl:=si hm;refine aN [.b ok] qe ?_;have lg:=iE.bP (.s (.aP (.kk .e)));exact⟨_,_,_,_,_,_,_,_,lg.iY 4 rfl,lg.dJ 5 rfl,rfl,lg⟩
 refine ae<|Wq (.n 109 (.b (decide (dQ=3))) (.s .a))<|dE hm (fun hc4 hm=>?_) fun hc4 hm=>?_
 ·refine ae<|au<|We 1 (.n 111 (pt cO 0) (.gI .a))<|ag<|bD hm fun yS FD hm=>?_;obtain⟨F15,O15,O_,hO5,hre5,hF5,hb5⟩:=k_.go (.i (.i (.i (.r (.r (.r (.r (.r .e))))))));refine bT 112 dl_go14 (F9 O_ FD) ?_;rintro e_ BQ ⟨A5,_,c6,rfl,rfl,lZ⟩;have pG:=hb5 BQ _ _ lZ (.c (.c (.c (.c .n))));refine⟨_,rfl,?_⟩;have nI:=pG.bP (.aP (.kk (.k .z)));refine We 1 (.n 113 (pt D8 0) (.k .z))<|ag ?_;have qO:=nI.fD 5 rfl;refine bD hm fun Bf QC hm=>?_;have qP:=qO.P6.P5.P5.P5.P5.P7.P6.P7;obtain⟨F16,O16,Vt,hO6,hre6,hF6,hb6⟩:=qP.go (.i (.i (.i (.r (.r (.r (.r (.r .e))))))));refine bT 114 dl_go15 (Ti Vt QC) ?_;rintro e_ Gw ⟨A6,_,c7,A7,_,c8,Vq,A8,_,c9,ys4,rfl,rfl,rfl,rfl,rQ⟩;have qQ:=hb6 Gw _ _ rQ (.c (.c (.c (.c .n))));refine⟨_,rfl,?_⟩;have rM:=qQ.bP (.aP (.aP .z));refine ag<|bD hm fun Qc Qz hm=>jb 115 Yg (MO (Ro.n0 (rM.rd 4 rfl)) (rM.len 4 rfl) (rM.KR 4 rfl) (Ro.n0 (rM.rd 0 rfl)) (rM.len 0 rfl) (rM.KR 0 rfl) lY Qz) rM fun Md qU=>?_;have uD:=qU.bP (.s (.kk (.k (.s (.kk (.k .e))))));refine We 1 (.n 6 (.b Qc) .z)<|Wn<|aK (dN (aU ?_));obtain rfl:=si hm;refine aN [.b Qc] qe ?_;have vU:=uD.P2.P2.P2.P5.P5.P5;exact⟨_,_,_,_,_,_,_,_,vU.iY 4 rfl,vU.dJ 5 rfl,rfl,vU⟩
 refine ae<|Wq (.n 116 (.b (decide (dQ=7))) (.s .a))<|dE hm (fun hc5 hm=>?_) fun hc5 hm=>?_
 ·refine ae<|au<|We 1 (.n 118 (pt cO 0) (.gI .a))<|ag<|bD hm fun AX Pe hm=>?_;obtain⟨F17,O17,kin7,hO7,hre7,hF7,hb7⟩:=k_.go (.i (.i (.i (.r (.r (.r (.r (.r .e))))))));refine bT 119 dl_go42 (La kin7 Pe) ?_;rintro e_ KY ⟨A9,_,c10,hd1,rfl,rfl,vG⟩;have vJ:=hb7 KY _ _ vG (.c (.c (.c (.c .n))));refine⟨_,rfl,?_⟩;have Bq:=vJ.bP (.aP (.kk (.k .z)));refine We 1 (.n 19 (sl A9 AX.1.length c10) (.ss .a))<|Wn<|ae<|au<|We 2 (.n 120 (sl A9 AX.1.length c10) (.n 121 (pt D8 0) (.k .z)))<|ag ?_;have zZ:=Bq.fD 5 rfl;refine bD hm fun UN h_r_11 hm=>?_;have BR:=zZ.P6.P5.P5.P5.P5.P7.P6.P7;obtain⟨F18,O18,kin8,hO8,hre8,hF8,hb8⟩:=BR.go (.i (.i (.i (.r (.r (.r (.r (.r .e))))))));refine bT 122 dl_go44 (Og kin8 h_r_11) ?_;rintro e_ Oc ⟨A10,_,c11,hd2,rfl,rfl,rU⟩;have yC:=hb8 Oc _ _ rU (.c (.c (.c (.c .n))));refine⟨_,rfl,?_⟩;have tY:=yC.bP (.kk (.s (.aP (.kk .e))));refine ag<|bD hm fun Qd h_r_12 hm=>jb 123 dl_go43 (Tf (tY.ro2 3 rfl) (tY.uI 3 rfl) (tY.lec2 3 rfl) (tY.ro2 0 rfl) (tY.uI 0 rfl) (tY.lec2 0 rfl) lY h_r_12) tY fun Vg Ac=>?_;have CY:=Ac.bP (.s (.aP (.kk (.k .e))));refine We 1 (.n 124 (.b Qd) (.gI .a))<|LD 124 Qd (.s .a) (by kernel_rfl) (fun hg2=>?_) (fun hg2=>?_)
  ·rw[if_pos hg2] at hm;refine J4 1 [124] (.n 125 (sl A9 AX.1.length c10) (.k .z)) qe (by kernel_rfl)<|ag ?_;have Eu:=CY.bP (.aP (.kk (.k .e)));refine bD hm fun Yc h_r_13 hm=>?_;obtain⟨F19,O19,kin9,hO9,hre9,hF9,hb9⟩:=Eu.go (.r (.r (.i (.r (.r (.r (.r .e)))))));refine oK [124] 126 _ dl_go41 (by kernel_rfl) (Vu kin9 h_r_13) ?_;rintro e_ Qv ⟨rfl,CZ⟩;have MH:=hb9 Qv _ _ CZ .n;refine E2<|J4 2 [124] (.n 6 (.b Yc) .z) qe (by kernel_rfl)<|Wn<|aK (dN (aU ?_));obtain rfl:=si hm;refine aN [.b Yc] qe ?_;have HY:=MH.P1.P5.P2.P5.P5.P5;exact⟨_,_,_,_,_,_,_,_,HY.iY 4 rfl,HY.dJ 5 rfl,rfl,HY⟩
  ·rw[if_neg (by rw[hg2];decide)] at hm;cases hm
 refine ae<|Wq (.n 128 (.b (decide (dQ=8))) (.s .a))<|dE hm (fun hc6 hm=>?_) fun hc6 hm=>?_
 ·refine ae<|au<|Wl 5 (.n 131 (pt cO 0) (.n 133 (.s fM) (.n 135 (.s jr) (.ss (.k (.s .a)))))) (qs g 0<|gG k_ 7 rfl 1 (.s fM)<|qs g 0<|gG k_ 7 rfl 2 (.s jr)<|qe)<|ag<|bD hm fun KW h_r_14 hm=>?_;obtain⟨F110,O110,kin10,hO10,hre10,hF10,hb10⟩:=k_.go (.i (.i (.i (.r (.r (.r (.r (.r .e))))))));refine bT 136 dl_go45 (MP kin10 h_r_14) ?_;rintro e_ TG ⟨A11,_,c12,rfl,rfl,KC⟩;have Gx:=hb10 TG _ _ KC (.c (.c (.c (.c .n))));refine E2<|We 5 (.n 20 (sl A11 KW.1.length c12) (.n 21 (I KW.2.1) (.gI .a)))<|Wn<|ae<|au<|Wl 5 (.n 140 (pt D8 0) (.n 142 (.s fM) (.n 144 (.s jr) (.kk .z)))) (qs g 0<|gG Gx 8 rfl 1 (.s fM)<|qs g 0<|gG Gx 8 rfl 2 (.s jr)<|qe)<|ag ?_;have Gy:=Gx.fD 5 rfl;refine bD hm fun Ob h_r_15 hm=>?_;have KZ:=Gy.P9.P9.P8.P7.P7.P7.P7.P9.P8.P9;obtain⟨F111,O111,kin11,hO11,hre11,hF11,hb11⟩:=KZ.go (.i (.i (.i (.r (.r (.r (.r (.r (.r (.r .e))))))))));refine bT 145 dl_go46 (Po kin11 h_r_15) ?_;rintro e_ Yv ⟨A12,_,c13,rfl,rfl,JB⟩;have Jb:=hb11 Yv _ _ JB (.c (.c (.c (.c .n))));refine⟨_,rfl,?_⟩;have F7:=Jb.bP (.kk (.s (.aP (.kk .z))));refine We 5 (.n 22 (sl A12 Ob.1.length c13) (.n 23 (I Ob.2) (.gI .a)))<|Wn<|ae<|au<|We 2 (.n 148 (sl A11 KW.1.length c12) (.n 149 (sl A12 Ob.1.length c13) (.s (.k (.s .a)))))<|ag<|bD hm fun Yd h_r_16 hm=>jb 150 Yg (MO (Ro.n0 (F7.rd 3 rfl)) (F7.len 3 rfl) (F7.KR 3 rfl) (Ro.n0 (F7.rd 0 rfl)) (F7.len 0 rfl) (F7.KR 0 rfl) lY h_r_16) F7 fun aac H6=>?_
  have Jc:=H6.bP (.s (.kk (.s (.aP .e))));refine We 6 (.n 6 (.b (Yd&&(decide (KW.2.1=Ob.2)))) .z)<|Wn<|aK (dN (aU ?_));obtain rfl:=si hm;refine aN [.b (Yd&&(decide (KW.2.1=Ob.2)))] qe ?_;have KD:=Jc.P1.P5.P2.P5.P5.P5;exact⟨_,_,_,_,_,_,_,_,KD.iY 4 rfl,KD.dJ 5 rfl,rfl,KD⟩
 refine ae<|Wq (.n 156 (.b (decide (dQ=9))) (.mV .a))<|dE hm (fun Z4 hm=>?_) fun Z4 hm=>?_
 ·refine ae<|au<|We 1 (.n 158 (pt cO 0) (.ss .a))<|ag<|bD hm fun UY h_r_17 hm=>?_;obtain⟨F112,O112,kin12,hO12,hre12,hF12,hb12⟩:=k_.go (.i (.i (.i (.r (.r (.r (.r (.r .e))))))));refine bT 159 dl_go11 (Gf kin12 h_r_17) ?_;rintro e_ aad ⟨fb,fb1,fb2,hfl,hfl1,Wu,rfl,KE⟩;have Rx:=hb12 aad _ _ KE (.c (.c (.c .n)));refine⟨_,rfl,?_⟩;have K_:=Rx.bP (.aP (.kk .z));refine We 1 (.n 160 (pt D8 0) (.k .z))<|ag ?_;have Qw:=K_.fD 4 rfl;refine bD hm fun V6 h_r_18 hm=>?_;have Qx:=Qw.P5.P4.P4.P4.P6.P5.P6;obtain⟨F113,O113,kin13,hO13,hre13,hF13,hb13⟩:=Qx.go (.i (.i (.i (.r (.r (.r (.r .e)))))));refine bT 161 dl_go12 (IU kin13 h_r_18) ?_;rintro e_ w_22 ⟨Ws,QV,YG,Wv,YH,hfl5,rfl,JC⟩;have Qy:=hb13 w_22 _ _ JC (.c (.c (.c .n)));refine⟨_,rfl,?_⟩;have KF:=Qy.bP (.k (.s (.aP (.k .e))));refine ag<|bD hm fun Ye h_r_19 hm=>jb 162 dl_go10 (Tj hfl hfl1 Wu Wv YH hfl5 lY h_r_19) KF fun w_23 O3=>We 1 (.n 6 (.b Ye) .z)<|Wn<|aK (dN (aU ?_));obtain rfl:=si hm;refine aN [.b Ye] qe ?_;have KG:=O3.P1.P5.P2.P5.P5.P5;exact⟨_,_,_,_,_,_,_,_,KG.iY 4 rfl,KG.dJ 5 rfl,rfl,KG⟩
 refine aH<|df<|ay<|ae<|au<|We 1 (.n 163 (pt cO 0) (.ss .a))<|ag<|bD hm fun r_20 h_r_20 hm=>?_;obtain⟨F114,O114,kin14,hO14,hre14,hF14,hb14⟩:=k_.go (.i (.i (.i (.r (.r (.r (.r (.r .e))))))));refine bT 164 dl_go8 (Cb kin14 h_r_20) ?_;rintro e_ w_24 ⟨A13,_,c14,rfl,rfl,TJ⟩;have Vh:=hb14 w_24 _ _ TJ (.c (.c (.c (.c .n))));refine⟨_,rfl,?_⟩;have Wi:=Vh.bP (.aP (.kk (.k .z)));refine We 1 (.n 165 (pt D8 0) (.k .z))<|ag ?_;have Wj:=Wi.fD 5 rfl;refine bD hm fun r_21 h_r_21 hm=>?_;have aae:=Wj.P6.P5.P5.P5.P5.P7.P6.P7;obtain⟨F115,O115,kin15,hO15,hre15,hF15,hb15⟩:=aae.go (.i (.i (.i (.r (.r (.r (.r (.r .e))))))));refine bT 166 dl_go9 (JH kin15 h_r_21) ?_;rintro e_ w_25 ⟨A14,_,c15,rfl,rfl,k_85⟩;have k_86:=hb15 w_25 _ _ k_85 (.c (.c (.c (.c .n))));refine⟨_,rfl,?_⟩;have Vj:=k_86.bP (.kk (.s (.aP (.kk .e))));refine ag<|bD hm fun r_22 h_r_22 hm=>jb 167 U3 (Ho (Ro.n0 (Vj.rd 3 rfl)) (Vj.len 3 rfl) (Vj.KR 3 rfl) (Ro.n0 (Vj.rd 0 rfl)) (Vj.len 0 rfl) (Vj.KR 0 rfl) lY h_r_22) Vj fun w_26 k_89=>?_;have k_90:=k_89.bP (.s (.kk (.s (.aP .e))));refine We 1 (.n 6 (.b r_22) .z)<|Wn<|aK ?_;obtain rfl:=si hm;refine aN [.b r_22] qe ?_;have Yx:=k_90.P1.P5.P2.P5.P5.P5;exact⟨_,_,_,_,_,_,_,_,Yx.iY 4 rfl,Yx.dJ 5 rfl,rfl,Yx⟩
theorem uG{Gu jV lI n zl uY FO qg}(k:Cx F O w w [Bx 111 zl [sl uY FO qg,.b jV,.b lI],Sh A0W [(uY,FO,qg)] [Gu]]){r:(AC×AC×Bool×Bool)}(hm:lL Gu jV lI n=some r):
    Calls Tryz.prog 47 (vals [pt zl 0,I n]) w (fun e w'=>∃ A n1 c A1 n2 c1,r.1.length=n1/\r.2.1.length=n2/\e=.returned (SV.val (sl A n1 c))/\Cx F O w w' [Sh A0W [(A,n1,c)] [r.1],Bx 111 zl [sl A1 n2 c1,.b r.2.2.1,.b r.2.2.2],Sh A0W [(A1,n2,c1)] [r.2.1]]):=by
 unfold lL at hm;obtain rfl:=k.g_ 1 rfl;refine gB _ Tryz.func47 rfl<|ae<|Wq .a<|ae<|ae<|Wa (.n 18 (.b (jV||(decide ((Gu.length:Int) < n)))) .a) (mi zl 0<|gG k 0 rfl 1 (.b jV)<|qp (jV=false->(some ⟨zl,0,none⟩:EQ).isSome=true) (fun hg0=>rfl)<|qp (jV=false->(some ⟨zl,0,none⟩:EQ).isSome=true) (fun hg0=>rfl)<|qo (sl uY Gu.length qg)<|qc (fun w=>jV=false->∃ a,(some ⟨zl,0,none⟩:EQ)=some a/\w.cell? a=some (SV.val (sl uY Gu.length qg))) (fun hg0=>k.OM 0 rfl 0 (sl uY Gu.length qg) (by kernel_rfl))<|qe)<|kF hm (fun hc hm=>?_) fun hc hm=>?_
 ·refine ae<|au<|Wl 3 (.n 21 (pt zl 1) .z) (mi zl 0<|qe)<|ag<|qF 0 (.b true) (Pt.at zl 1) k rfl (.k .h) fun w_ k_=>Wn<|ae<|Wq (.n 4 (sl none 0 0) .z)<|aK (aU ?_);have dH:=k_.shnil e8;obtain rfl:=si hm;refine aN [sl none 0 0] qe ?_;exact⟨_,0,0,_,_,_,dH.g_ 0 rfl,dH.g_ 2 rfl,rfl,dH⟩
 refine aH<|ay<|ae<|bD hm fun b uq hm=>?_;have hs:=nz uq;have hl:=y8 uq;have hn:Gu.length=Gu.length:=(k.g_ 1 rfl)
 have hc1:Gu.length<=qg:=(k.Uz 1 rfl)
 have hc2:b.length<=qg:=by omega
 refine Wa (.n 5 (sl uY b.length qg) (.s .a)) (mi zl 0<|gG k 0 rfl 0 (sl uY Gu.length qg)<|qp (0<=n/\n<=(qg:Int)) (by omega)<|qo (.v (.slice uY b.length qg))<|qp (Value.slice (Oj uY 0 qg 1) (Int.toNat n - 0) (qg - 0)=.slice uY b.length qg) (XX _ _ _ _ _ (by omega))<|qe)<|ae<|au<|bD hm fun b1 yO hm=>?_;have hs1:=nz yO;have hl1:=y8 yO;have hn1:Gu.length=Gu.length:=(k.g_ 1 rfl)
 have hc3:Gu.length<=qg:=(k.Uz 1 rfl)
 obtain⟨A0,c0,e_,hc4,hA,hc5⟩:=slx uY (Int.toNat n) qg 1 (Gu.length - Int.toNat n) b1.length (by omega) (by omega);refine Wl 9 (.n 34 (sl A0 b1.length c0) (.n 36 (pt zl 0) (.k .z))) (mi zl 0<|gG k 0 rfl 0 (sl uY Gu.length qg)<|qp (0<=n/\n<=(Gu.length:Int)) (by omega)<|qo (.v (.slice A0 b1.length c0))<|qp (Value.slice (Oj uY (Int.toNat n) qg 1) (Gu.length - Int.toNat n) (qg - Int.toNat n)=.slice A0 b1.length c0) e_<|mi zl 0<|qe)<|ag ?_;have eY:=k.shcut 1 rfl (B:=A0) (m:=b1.length) (d:=c0) (y:=b1) (fun F_ w_ p_=>(Ro.cut p_ yO rfl (by rfl) hA (by omega))) rfl hc4;refine qF 1 (sl A0 b1.length c0) (Pt.at zl 0) eY rfl .h fun ng fJ=>Wn<|ae<|Wq (.n 4 (sl uY b.length qg) .z)<|aK ?_;have gK:=fJ.shcut 2 rfl (B:=uY) (m:=b.length) (d:=qg) (y:=b) (fun F_ w_ p_=>(Ro.pre p_ uq rfl)) rfl hc2;obtain rfl:=si hm;refine aN [sl uY b.length qg] qe ?_;have gX:=gK.P1.P2.P2.bP (.kk (.k .z));exact⟨_,_,_,_,_,_,gX.g_ 0 rfl,gX.g_ 2 rfl,rfl,gX⟩
theorem Cc{Gu jV lI size zl uY FO qg}(k:Cx F O w w [Bx 111 zl [sl uY FO qg,.b jV,.b lI],Sh A0W [(uY,FO,qg)] [Gu]]){r:(Int×AC×Bool×Bool)}(hm:nN Gu jV lI size=some r):
    Calls Tryz.prog 48 (vals [pt zl 0,I size]) w (fun e w'=>∃ A n c,r.2.1.length=n/\e=.returned (SV.val (I r.1))/\Cx F O w w' [Bx 111 zl [sl A n c,.b r.2.2.1,.b r.2.2.2],Sh A0W [(A,n,c)] [r.2.1]]):=by
 unfold nN at hm;obtain rfl:=k.g_ 1 rfl;refine gB _ Tryz.func48 rfl<|ae<|Wq .a<|ae<|Wq (.n 5 (I 0) .a)<|ae<|ae<|au<|We 2 (.n 8 (pt zl 0) (.n 9 (I size) (.k .z)))<|ag ?_;have k_:=k.fD 1 rfl;refine bD hm fun r_ fA hm=>?_;have dH:=k_.P2.P1.P2;obtain⟨F1,O1,kin,hO,hre,hF,hb⟩:=dH.go (.i (.i (.r .e)));refine bT 10 NG (uG kin fA) ?_;rintro e_ w_ ⟨A0,_,c0,A1,_,c1,rfl,rfl,rfl,eY⟩;have fJ:=hb w_ _ _ eY (.c (.c (.c .n)));refine⟨_,rfl,?_⟩;have gK:=fJ.bP (.kk (.k .z));refine We 2 (.n 11 (I (r_.1.length:Int)) (.n 12 (I 0) (.k (.ss .a))))<|Wn<|aC<|jv hm (fun s L wr=>∃ (n0:Int) (aO:Int),(n0,aO)=s/\L=[(5,I n0),(10,sl A0 r_.1.length c0),(11,I (r_.1.length:Int)),(12,I aO)]/\Cx F O w wr [Sh A0W [(A0,r_.1.length,c0)] [r_.1],Bx 111 zl [sl A1 r_.2.1.length c1,.b r_.2.2.1,.b r_.2.2.2],Sh A0W [(A1,r_.2.1.length,c1)] [r_.2.1]]) ⟨_,_,rfl,rfl,gK⟩ ?_;rintro xw L_ ng y0 ⟨n0,aO,rfl,rfl,gX⟩ hm hr0;simp only[pV] at hm;refine ae<|Wq (.n 13 (.b (decide (aO < (r_.1.length:Int)))) .a)<|ae<|dE hm (fun hc hm=>?_) fun hc hm=>?_
 ·refine aH<|ay<|ae<|aC<|ae<|bD hm fun jc Lh hm=>PR [] (.n 6 (I aO) (.n 7 (.u8 jc) (.s .a))) (qW (gX.IW 0 rfl) Lh (gX.g_ 0 rfl) (.u8 jc) rfl<|qe) (by kernel_rfl)<|ay<|bD hm fun u DU hm=>PR [] (.n 5 (I (orI .i64 n0 (shlI .i64 (jc.toNat:Int) (Int.toNat (bC (8*aO)))))) (.mV .a)) (qp (0<=bC (8*aO)) (gp DU)<|qe) (by kernel_rfl)<|df<|ay<|oP (.n 12 (I (bC (aO+1))) (.wH .z)) ?_;exact fF hm ⟨_,_,rfl,rfl,gX⟩
 refine cZ (aX (aX (dZ ?_)));have hm:=bz hm hr0;refine ay<|ae<|Wq (.n 4 (I n0) .z)<|aK ?_;obtain rfl:=si hm;refine aN [I n0] qe ?_;have iT:=gX.bP (.s (.kk .e));exact⟨_,_,_,iT.g_ 1 rfl,rfl,iT⟩
theorem qx{Gu jV lI ok zl uY FO qg}(k:Cx F O w w [Bx 111 zl [sl uY FO qg,.b jV,.b lI],Sh A0W [(uY,FO,qg)] [Gu]]){r:(AC×Bool×Bool)}(hm:lM Gu jV lI ok=some r):
    Calls Tryz.prog 49 (vals [pt zl 0,.b ok]) w (fun e w'=>∃ A n c,r.1.length=n/\e=.returned (SV.val (.qA []))/\Cx F O w w' [Bx 111 zl [sl A n c,.b r.2.1,.b r.2.2],Sh A0W [(A,n,c)] [r.1]]):=by
 unfold lM at hm;obtain rfl:=k.g_ 1 rfl;refine gB _ Tryz.func49 rfl<|ae<|Wq (.n 5 (.b (!ok)) (.k .z))<|kF hm (fun hc hm=>?_) fun hc hm=>?_
 ·refine au<|Wl 3 (.n 8 (pt zl 2) .z) (mi zl 0<|qe)<|ag<|qF 0 (.b true) (Pt.at zl 2) k rfl (.kk .h) fun w_ k_=>dY ?_;obtain rfl:=si hm;refine KO [] qe (by kernel_rfl) ?_;exact⟨_,_,_,k_.g_ 1 rfl,rfl,k_⟩
 refine aH ?_;obtain rfl:=si hm;refine KO [] qe (by kernel_rfl) ?_;exact⟨_,_,_,k.g_ 1 rfl,rfl,k⟩
theorem qy{Gu jV lI size zl uY FO qg}(k:Cx F O w w [Bx 111 zl [sl uY FO qg,.b jV,.b lI],Sh A0W [(uY,FO,qg)] [Gu]]){r:(Int×AC×Bool×Bool)}(hm:kR Gu jV lI size=some r):
    Calls Tryz.prog 51 (vals [pt zl 0,I size]) w (fun e w'=>∃ A n c,r.2.1.length=n/\e=.returned (SV.val (I r.1))/\Cx F O w w' [Bx 111 zl [sl A n c,.b r.2.2.1,.b r.2.2.2],Sh A0W [(A,n,c)] [r.2.1]]):=by
 unfold kR at hm;obtain rfl:=k.g_ 1 rfl;refine gB _ Tryz.func51 rfl<|ae<|Wq .a<|ae<|au<|We 2 (.n 6 (pt zl 0) (.n 7 (I size) (.k .z)))<|ag ?_;have k_:=k.fD 1 rfl;refine bD hm fun r_ fA hm=>?_;have dH:=k_.P2.P1.P2;obtain⟨F1,O1,kin,hO,hre,hF,hb⟩:=dH.go (.i (.i (.r .e)));refine bT 8 Yi (Cc kin fA) ?_;rintro e_ w_ ⟨A0,_,c0,rfl,rfl,eY⟩;have fJ:=hb w_ _ _ eY (.c (.c .n));refine⟨_,rfl,?_⟩;have gK:=fJ.bP (.kk .z);refine We 1 (.n 5 (I r_.1) (.mV .a))<|Wn<|ae<|ae<|Wa (.n 15 (.b (decide ((r_.2.1.length:Int) < r_.1))) .a) (mi zl 0<|gG gK 0 rfl 0 (sl A0 r_.2.1.length c0)<|qe)<|dE hm (fun hc hm=>?_) fun hc hm=>?_
 ·refine ae<|au<|Wl 3 (.n 18 (pt zl 1) .z) (mi zl 0<|qe)<|ag<|qF 0 (.b true) (Pt.at zl 1) gK rfl (.k .h) fun ng gX=>Wn<|ae<|Wq (.n 4 (I 0) .z)<|aK (aU ?_);obtain rfl:=si hm;refine aN [I 0] qe ?_;exact⟨_,_,_,gX.g_ 1 rfl,rfl,gX⟩
 refine aH<|ay<|ae<|Wq (.n 4 (I r_.1) .z)<|aK ?_;obtain rfl:=si hm;refine aN [I r_.1] qe ?_;exact⟨_,_,_,gK.g_ 1 rfl,rfl,gK⟩
theorem JI{aT af ah}{b:AC}{cO ai aj nK vK qN}(uq:Ro F w nK (e8.all b))(yB:b.length=vK)(BP:vK<=qN)(k:Cx F O w w [Bx 57 cO [I aT,mv ai,mv aj],A0R ai af,MS (vN A0M) aj ah]){r:A00}(hm:n_ aT af ah b=some r):
    Calls Tryz.prog 60 (vals [pt cO 0,sl nK vK qN]) w (fun e w'=>e=.returned (SV.val (.s r.1))/\Cx F O w w' [Bx 57 cO [I r.2,mv ai,mv aj],A0R ai af,MS (vN A0M) aj ah]):=by
 unfold n_ at hm;subst yB;refine gB _ Tryz.func60 rfl<|ae<|Wq .a<|ae ?_;have k_:=k.drew 1;refine oM di (tq [9,0,0,1,1,1,2,1,3,0,4,0,5,1,6,1,7,0,8,0] (.op 10 (tq [11,1,12,1,13,1,14,1,15,1] .nil))) [10] k_ (.c (.kk (.k .e)) .l) fun _=>fU 1 0 (.n 17 (sl nK b.length qN) (.k .z)) (fun x hx=>qe) fun _=>fU 3 1 (.n 10 (pt cO 0) .a) (fun x hx=>mi cO 0<|qe) fun _=>fU 2 0 (.n 12 (.agg [I aT,I 0,I 1,I 1,.u32 0,.u64 0,.u32 0,I 0,I 0,sl none 0 0,sl none 0 0]) (.s .a)) (fun x hx=>gG hx 0 rfl 0 (I aT)<|qe) fun _=>fU 2 1 (.n 14 (pt cO 0) (.kk .z)) (fun x hx=>qs cO 0<|qe) fun _=>fU 2 0 (.n 16 (I aT) (.s .a)) (fun x hx=>qs cO 0<|gG hx 0 rfl 0 (I aT)<|qe) fun _=>eu rfl<|bD hm fun r_ fA hm=>bT 18 dl_go81 (S9 (Ro.VW e8) rfl (Nat.le_refl 0) (Ro.VW e8) rfl (Nat.le_refl 0) (Ro.VW e8) rfl (Nat.le_refl 0) (Ro.n0 (uq.cx k_)) rfl BP lY fA) ?_;rintro e_ w_ ⟨A,_,c,rfl,rfl,dH⟩;have eY:=k_.call dH;refine E2<|⟨(eY.bP (.kk (.k .z))),fun _=>?_⟩
 refine fU 5 1 (.n 5 (sl A r_.1.length c) .z) (fun x hx=>qe) fun _=>gu<|ay<|ae<|Wa (.n 4 (.s r_.1) .z) (qo (.s r_.1)<|qc (fun w=>Rd w A (r_.1.map bV)/\r_.1.length=r_.1.length) ⟨zy r_.1▸(eY.rd 3 rfl),(eY.len 3 rfl)⟩<|qe)<|aK ?_;obtain rfl:=si hm;refine aN [.s r_.1] qe ?_;have fJ:=eY.bP (.kk (.k .z));exact⟨rfl,fJ⟩
theorem Pq{Gu jV lI aT af ah zl uY FO qg cO ai aj}(k:Cx F O w w [Bx 111 zl [sl uY FO qg,.b jV,.b lI],Sh A0W [(uY,FO,qg)] [Gu],Bx 57 cO [I aT,mv ai,mv aj],A0R ai af,MS (vN A0M) aj ah]){r:(AC×Bool×Bool×Int×A0E)}(hm:uP Gu jV lI aT af ah=some r):
    Calls Tryz.prog 50 (vals [pt zl 0,pt cO 0]) w (fun e w'=>∃ A n c,r.1.length=n/\e=.returned (SV.val (.qA []))/\Cx F O w w' [Bx 111 zl [sl A n c,.b r.2.1,.b r.2.2.1],Sh A0W [(A,n,c)] [r.1],Bx 57 cO [I r.2.2.2.1,mv ai,mv aj],A0R ai r.2.2.2.2,MS (vN A0M) aj ah]):=by
 unfold uP at hm;obtain rfl:=k.g_ 1 rfl;refine gB _ Tryz.func50 rfl<|ae<|Wq (.n 4 (.s ([]:AC)) .a)<|ae<|au<|We 1 (.n 8 (pt zl 0) .a)<|ag ?_;have k_:=k.fD 1 rfl;refine bD hm fun r_ fA hm=>?_;have dH:=k_.P5.P5.P5.P5.P4.P5;obtain⟨F1,O1,kin,hO,hre,hF,hb⟩:=dH.go (.i (.i (.r (.r (.r (.r .e))))));refine bT 9 Kq (qy kin fA) ?_;rintro e_ w_ ⟨A0,_,c0,rfl,rfl,eY⟩;have fJ:=hb w_ _ _ eY (.c (.c .n));refine⟨_,rfl,?_⟩;have gK:=fJ.bP (.kk (.s (.kk (.k .e))));refine We 1 (.n 10 (I 0) (.k (.s .a)))<|Wn<|aC<|jv hm (fun s L wr=>∃ (p:AC) (p1:Bool) (p2:Bool) (d:Int) (FW:A0E) (last:AC) (aO:Int) (A1:EQ) (n0:Nat) (c1:Nat),(p,p1,p2,d,FW,last,aO)=s/\L=[(0,pt zl 0),(1,pt cO 0),(4,.s last),(9,I r_.1),(10,I aO)]/\p.length=n0/\Cx F O w wr [Bx 111 zl [sl A1 n0 c1,.b p1,.b p2],Sh A0W [(A1,n0,c1)] [p],Bx 57 cO [I d,mv ai,mv aj],A0R ai FW,MS (vN A0M) aj ah]) ⟨_,_,_,_,_,_,_,_,_,_,rfl,rfl,gK.g_ 1 rfl,gK⟩ ?_;rintro xw L_ ng y0 ⟨p,p1,p2,d,FW,last,aO,A1,_,c1,rfl,rfl,rfl,gX⟩ hm hr0;simp only[ve] at hm;refine ae<|Wq (.n 11 (.b (decide (aO < r_.1))) .a)<|ae<|dE hm (fun hc hm=>?_) fun hc hm=>?_
 ·refine aH<|ay<|mO (fun L wr=>∃ (p3:AC) (p4:Bool) (p5:Bool) (d1:Int) (GI:A0E) (ZE:AC) (A2:EQ) (n1:Nat) (c2:Nat),u_ aO p3 p4 p5 d1 GI ZE=some y0/\L=[(0,pt zl 0),(1,pt cO 0),(4,.s ZE),(9,I r_.1),(10,I aO)]/\p3.length=n1/\Cx F O w wr [Bx 111 zl [sl A2 n1 c2,.b p4,.b p5],Sh A0W [(A2,n1,c2)] [p3],Bx 57 cO [I d1,mv ai,mv aj],A0R ai GI,MS (vN A0M) aj ah]) ?_ ?_
  ·
   refine XO (fun L wr=>∃ (p6:AC) (p7:Bool) (p8:Bool) (d2:Int) (Ny:A0E) (last2:AC) (A3:EQ) (n2:Nat) (c3:Nat),pW aO p6 p7 p8 d2 Ny last2=some y0/\L=[(0,pt zl 0),(1,pt cO 0),(4,.s last2),(9,I r_.1),(10,I aO)]/\p6.length=n2/\Cx F O w wr [Bx 111 zl [sl A3 n2 c3,.b p7,.b p8],Sh A0W [(A3,n2,c3)] [p6],Bx 57 cO [I d2,mv ai,mv aj],A0R ai Ny,MS (vN A0M) aj ah]) ?_ ?_
   ·
    refine ae<|Wq (.n 5 (I aO) (.s .a))<|ae<|ae<|Wa (.n 16 (.b p1) .a) (mi zl 0<|gG gX 0 rfl 1 (.b p1)<|qe)<|kF hm (fun hc1 hm=>?_) fun hc1 hm=>?_
    ·refine aK (aU (dN (aU (aU (aU (dN ?_))))));have hm:=bz hm hr0;obtain rfl:=si hm;refine aN [] qe ?_;exact⟨_,_,_,gX.g_ 1 rfl,rfl,gX⟩
    refine aH<|ay<|ae<|au<|We 2 (.n 17 (pt zl 0) (.n 18 (pt zl 0) (.s .a)))<|ag ?_;have iT:=gX.fD 1 rfl;refine bD hm fun bM ig hm=>?_;have iK:=iT.P5.P5.P5.P5.P4.P5;obtain⟨F11,Vd,tX,Ve,Ea,hF1,hb1⟩:=iK.go (.i (.i (.r (.r (.r (.r .e))))));refine bT 19 Kq (qy tX ig) ?_;rintro e_ sN ⟨A4,_,c4,rfl,rfl,jC⟩;have jK:=hb1 sN _ _ jC (.c (.c .n));refine⟨_,rfl,?_⟩;have eU:=jK.bP (.kk (.s (.kk (.k .e))));refine ag ?_;have dL:=eU.fD 1 rfl;refine bD hm fun fO kG hm=>?_;have fC:=dL.P5.P5.P5.P5.P4.P5;obtain⟨F12,O12,Ip,hO2,Vs,hF2,hb2⟩:=fC.go (.i (.i (.r (.r (.r (.r .e))))));refine bT 20 NG (uG Ip kG) ?_;rintro e_ xI ⟨A5,_,c5,A6,_,c6,rfl,rfl,rfl,fH⟩;have fV:=hb2 xI _ _ fH (.c (.c (.c .n)));refine⟨_,rfl,?_⟩;have gJ:=fV.bP (.kk (.k (.s (.kk (.k .e)))));refine ag ?_;have iH:=gJ.nil e8;refine bD hm fun b uq hm=>?_;obtain⟨hz,hl⟩:=dw uq;refine dK (E:=e8) (v:=sl A5 fO.1.length c5) (ys:=fO.1) eX [] 21 6 (by kernel_rfl) iH rfl (Src.sl (iH.IW 0 rfl) (iH.g_ 0 rfl) (by rfl)) (iH.g_ 0 rfl) (by have:=iH.len 6 rfl;have:=(iH.g_ 0 rfl);omega) fun A7 c7 yA iU=>?_;rw[<- hl] at iU;have iw:=iU.bP (.s (.aP (.kk .e)));refine We 1 (.n 6 (sl A7 (0+fO.1.length) c7) (.gI (.s .a)))<|Wn<|ae<|au<|We 9 (.n 22 (pt zl 0) (.n 30 (.b ((decide (1<=((0+fO.1.length:Nat):Int)))&&(decide (((0+fO.1.length:Nat):Int)<=1024)))) .a))<|ag ?_;have jL:=iw.fD 1 rfl;refine bD hm fun iC mQ hm=>?_
    have jH:=jL.P6.P6.P6.P6.P6.P5.P6;obtain⟨F13,O13,ML,hO3,hre3,hF3,hb3⟩:=jH.go (.i (.i (.r (.r (.r (.r (.r .e)))))));refine bT 31 Ko (qx ML mQ) ?_;rintro e_ zW ⟨A8,_,c8,rfl,rfl,jX⟩;have jW:=hb3 zW _ _ jX (.c (.c .n));refine⟨_,rfl,?_⟩;have iW:=jW.bP (.kk (.s (.aP .e)));refine Wn<|ae<|ae<|Wa (.n 41 (.b (iC.2.2||iC.2.1)) (.mV .a)) (mi zl 0<|gG iW 0 rfl 2 (.b iC.2.2)<|qp (iC.2.2=false->(some ⟨zl,0,none⟩:EQ).isSome=true) (fun hg0=>rfl)<|qp (iC.2.2=false->(some ⟨zl,0,none⟩:EQ).isSome=true) (fun hg0=>rfl)<|qo (.b iC.2.1)<|qc (fun w=>iC.2.2=false->∃ a,(some ⟨zl,1,none⟩:EQ)=some a/\w.cell? a=some (SV.val (.b iC.2.1))) (fun hg0=>iW.OM 0 rfl 1 (.b iC.2.1) (by kernel_rfl))<|qe)<|kF hm (fun hc2 hm=>?_) fun hc2 hm=>?_
    ·refine cZ (aX (dZ ?_));have jM:=iW.bP (.aP (.k .z));exact fQ ⟨_,_,_,_,_,_,_,_,_,hm,rfl,jM.g_ 1 rfl,jM⟩
    refine aH<|ay<|ae<|au<|We 2 (.n 42 (pt cO 0) (.n 43 (sl A7 (0+fO.1.length) c7) (.s .a)))<|ag ?_;have iE:=iW.bP (.aP (.kk .e));refine bD hm fun jT rJ hm=>?_;obtain⟨F14,O14,O9,hO4,hre4,hF4,hb4⟩:=iE.go (.r (.r (.i (.i (.i (.r .e))))));refine bT 44 dl_go60 (JI (Ro.of_rest hre4 2 rfl) (iE.len 5 rfl) (iE.KR 5 rfl) O9 rJ) ?_;rintro e_ CX ⟨rfl,jS⟩;have kZ:=hb4 CX _ _ jS (.c (.c (.c .n)));refine E2<|We 1 (.n 7 (.s jT.1) (.mV .a))<|Wn<|ae<|au<|We 8 (.n 45 (pt zl 0) (.n 52 (.b ((decide (aO=0))||(!(Op.bytesLess jT.1 last||decide (jT.1=last))))) (.kk (.s (.kk (.s .a))))))<|ag ?_;have kT:=kZ.fD 4 rfl;refine bD hm fun kM xe hm=>?_;have kX:=kT.P6.P6.P5.P5.P5.P5.P6;obtain⟨F15,O15,O_,hO5,hre5,hF5,hb5⟩:=kX.go (.i (.i (.r (.r (.r (.r (.r .e)))))));refine bT 53 Ko (qx O_ xe) ?_;rintro e_ EM ⟨A9,_,c9,rfl,rfl,lg⟩;have lZ:=hb5 EM _ _ lg (.c (.c .n));refine⟨_,rfl,?_⟩;have pG:=lZ.bP (.aP (.k (.s (.k .e))));refine Wn<|ae<|Wq (.n 4 (.s jT.1) (.mV .a))<|au<|Wl 6 (.n 58 (mv ai) (.n 59 (.s jT.1) (.n 60 (sl A7 (0+fO.1.length) c7) (.k (.ss .a))))) (mi cO 0<|gG pG 2 rfl 1 (mv ai)<|qe)<|ag ?_;have nI:=pG.P4.P4.P4.P4.P4.P5;have qO:=nI.share;have qP:=qO.fD 0 rfl;have rQ:=qP.P6.P5.P5.P5.P5.P5.P6;refine Iy (kt:=9) (e:=39) (v:=(vH e8)) (key:=jT.1) (u:=(A7,0+fO.1.length,c7)) (a:=b) [] (by kernel_rfl) rQ fun Jd qQ=>dY<|df ?_;have rM:=qQ.P5.P1.P5.P5.P5.bP (.aP (.k .z))
    exact fQ ⟨_,_,_,_,_,_,_,_,_,hm,rfl,rM.g_ 1 rfl,rM⟩
   rintro L_ Kv ⟨p6,p7,p8,d2,Ny,last2,A3,_,c3,hm,rfl,rfl,pI⟩;simp only[pW] at hm;exact fQ ⟨_,_,_,_,_,_,_,_,_,hm,rfl,pI.g_ 1 rfl,pI⟩
  rintro L_ zk ⟨p3,p4,p5,d1,GI,ZE,A2,_,c2,hm,rfl,rfl,qU⟩;simp only[u_] at hm;refine oP (.n 10 (I (bC (aO+1))) (.aP .z)) ?_;exact fF hm ⟨_,_,_,_,_,_,_,_,_,_,rfl,rfl,qU.g_ 1 rfl,qU⟩
 refine cZ (aX (aX (dZ ?_)));have hm:=bz hm hr0;obtain rfl:=si hm;refine KO [] qe (by kernel_rfl) ?_;exact⟨_,_,_,gX.g_ 1 rfl,rfl,gX⟩
theorem QK{Gu jV lI size zl uY FO qg}(k:Cx F O w w [Bx 111 zl [sl uY FO qg,.b jV,.b lI],Sh A0W [(uY,FO,qg)] [Gu]]){r}(hm:wR Gu jV lI size=some r):
    Calls Tryz.prog 53 (vals [pt zl 0,I size]) w (fun e w'=>match r with | .inl r0=>∃ A n c,r0.1.length=n/\e=.returned (SV.val (.v (.map none)))/\Cx F O w w' [Bx 111 zl [sl A n c,.b r0.2.1,.b r0.2.2],Sh A0W [(A,n,c)] [r0.1]] | .inr r1=>∃ b A1 n1 c1,r1.2.1.length=n1/\e=.returned (SV.val (mv b))/\Cx F O w w' [MS A0M b r1.1,Bx 111 zl [sl A1 n1 c1,.b r1.2.2.1,.b r1.2.2.2],Sh A0W [(A1,n1,c1)] [r1.2.1]]):=by
 unfold wR at hm;obtain rfl:=k.g_ 1 rfl;refine gB _ Tryz.func53 rfl<|ae<|Wq .a<|ae<|au<|ag<|Ba [] 12 (by kernel_rfl) k fun b0 w_ k_=>?_;have dH:=k_.IX (v:=A0M);refine We 1 (.n 5 (mv b0) (.s .a))<|Wn<|ae<|au<|We 1 (.n 13 (pt zl 0) .a)<|ag ?_;have eY:=dH.fD 2 rfl;refine bD hm fun r_ fA hm=>?_;have fJ:=eY.P3.P2.P2.P3;obtain⟨F1,O1,kin,hO,hre,hF,hb⟩:=fJ.go (.i (.i (.r (.r .e))));refine bT 14 Kq (qy kin fA) ?_;rintro e_ ng ⟨A0,_,c0,rfl,rfl,gK⟩;have gX:=hb ng _ _ gK (.c (.c .n));refine⟨_,rfl,?_⟩;have iT:=gX.bP (.kk (.k .z));refine We 1 (.n 6 (I r_.1) (.ss .a))<|Wn<|ae<|au<|We 3 (.n 15 (pt zl 0) (.n 17 (.b (decide (r_.1<=256))) .a))<|ag ?_;have iK:=iT.fD 1 rfl;refine bD hm fun bM ig hm=>?_;have jC:=iK.P3.P3.P2.P3;obtain⟨F11,Vd,tX,Ve,Ea,hF1,hb1⟩:=jC.go (.i (.i (.r (.r .e))));refine bT 18 Ko (qx tX ig) ?_;rintro e_ sN ⟨A2,_,c2,rfl,rfl,jK⟩;have eU:=hb1 sN _ _ jK (.c (.c .n));refine⟨_,rfl,?_⟩;have dL:=eU.bP (.kk (.s (.k .e)))
 refine Wn<|ae<|Wq (.n 7 (.s ([]:AC)) (.mV .a))<|ae<|ae<|Wq (.n 19 (I r_.1) (.n 20 (I 0) (.k (.s .a))))<|aC<|jv hm (fun s L wr=>∃ (p:AC) (p1:Bool) (p2:Bool) (FW:Mp WF) (last:AC) (aO:Int) (A3:EQ) (n0:Nat) (c3:Nat),(p,p1,p2,FW,last,aO)=s/\L=[(0,pt zl 0),(1,I size),(5,mv b0),(7,.s last),(19,I r_.1),(20,I aO)]/\p.length=n0/\Cx F O w wr [Bx 111 zl [sl A3 n0 c3,.b p1,.b p2],Sh A0W [(A3,n0,c3)] [p],MS A0M b0 FW]) ⟨_,_,_,_,_,_,_,_,_,rfl,rfl,dL.g_ 1 rfl,dL⟩ ?_;rintro xw L_ xI y0 ⟨p,p1,p2,FW,last,aO,A3,_,c3,rfl,rfl,rfl,fC⟩ hm hr0;simp only[wQ] at hm;refine ae<|Wq (.n 21 (.b (decide (aO < r_.1))) .a)<|ae<|dE hm (fun hc hm=>?_) fun hc hm=>?_
 ·refine aH<|ay<|ae<|aC<|ae<|Wq (.n 8 (I aO) (.s .a))<|ae<|ae<|Wa (.n 26 (.b p1) .a) (mi zl 0<|gG fC 0 rfl 1 (.b p1)<|qe)<|kF hm (fun hc1 hm=>?_) fun hc1 hm=>?_
  ·refine ae<|Wq (.n 4 (.v (.map none)) .z)<|aK (aU (dN (aU (aU (dN (aU ?_))))));have hm:=bz hm hr0;obtain rfl:=si hm;refine aN [.v (.map none)] qe ?_;have fH:=fC.bP (.kk .z);exact⟨_,_,_,fH.g_ 1 rfl,rfl,fH⟩
  refine aH<|ay<|ae<|au<|We 2 (.n 27 (pt zl 0) (.n 28 (pt zl 0) (.s .a)))<|ag ?_;have fV:=fC.fD 1 rfl;refine bD hm fun fO kG hm=>?_;have gJ:=fV.P3.P3.P2.P3;obtain⟨F12,O12,Ip,hO2,Vs,hF2,hb2⟩:=gJ.go (.i (.i (.r (.r .e))));refine bT 29 Kq (qy Ip kG) ?_;rintro e_ yA ⟨A4,_,c4,rfl,rfl,iH⟩;have iU:=hb2 yA _ _ iH (.c (.c .n));refine⟨_,rfl,?_⟩;have iw:=iU.bP (.kk (.s (.k .e)));refine ag ?_;have jL:=iw.fD 1 rfl;refine bD hm fun iC mQ hm=>?_;have jH:=jL.P3.P3.P2.P3;obtain⟨F13,O13,ML,hO3,hre3,hF3,hb3⟩:=jH.go (.i (.i (.r (.r .e))));refine bT 30 NG (uG ML mQ) ?_;rintro e_ zW ⟨A5,_,c5,A6,_,c6,rfl,rfl,rfl,jX⟩;have jW:=hb3 zW _ _ jX (.c (.c (.c .n)));refine⟨_,rfl,?_⟩;have iW:=jW.bP (.kk (.k (.s (.k .e))));refine Wl 2 (.n 9 (.s iC.1) (.gI .a)) (qo (.s iC.1)<|qc (fun w=>Rd w A5 (iC.1.map bV)/\iC.1.length=iC.1.length) ⟨zy iC.1▸(iW.IW 0 rfl),(iW.g_ 0 rfl)⟩<|qe)<|Wn<|ae<|au<|We 1 (.n 32 (pt zl 0) .a)<|ag ?_;have jM:=iW.fD 2 rfl;refine bD hm fun jT rJ hm=>?_;have iE:=jM.P4.P4.P3.P3.P4;obtain⟨F14,O14,O9,hO4,hre4,hF4,hb4⟩:=iE.go (.i (.i (.r (.r (.r .e)))));refine bT 33 Yi (Cc O9 rJ) ?_;rintro e_ CX ⟨A7,_,c7,rfl,rfl,jS⟩;have kZ:=hb4 CX _ _ jS (.c (.c .n));refine⟨_,rfl,?_⟩;have kT:=kZ.bP (.kk (.ss (.k .e)));refine We 1 (.n 34 (.agg [I jT.1,.s ([]:AC)]) (.ss .a))<|ag<|jA 10 [I 0,.s ([]:AC)] kT fun g EM kX=>ag ?_;have lg:=kX.bP (.aP .e)
  refine ja 3 (.agg [I jT.1,.s ([]:AC)]) [I jT.1,.s ([]:AC)] (Pt.at g 0) lg rfl .all fun Jd lZ=>Wn<|ae<|au<|We 2 (.n 35 (pt zl 0) (.n 36 (.s iC.1) (.k (.s .a))))<|ag<|bD hm fun kM xe hm=>jb 37 Ql (Bj lY xe) lZ fun Kv nI=>Wl 14 (.n 51 (.b ((kM&&((decide (aO=0))||(!(Op.bytesLess iC.1 last||decide (iC.1=last)))))&&(decide (jT.1<=1048576)))) (.s (.k (.s (.kk (.s (.wH (.s .a)))))))) (qp ((kM&&((decide (aO=0))||(!(Op.bytesLess iC.1 last||decide (iC.1=last)))))=true->(some ⟨g,0,none⟩:EQ).isSome=true) (fun hg0=>rfl)<|qo (I jT.1)<|qc (fun w=>(kM&&((decide (aO=0))||(!(Op.bytesLess iC.1 last||decide (iC.1=last)))))=true->∃ a,(some ⟨g,0,none⟩:EQ)=some a/\w.cell? a=some (SV.val (I jT.1))) (fun hg0=>nI.OM 3 rfl 0 (I jT.1) (by kernel_rfl))<|qe)<|ag ?_;have qO:=nI.fD 1 rfl;refine bD hm fun rO DT hm=>?_;have qP:=qO.P4.P4.P4.P3.P4;obtain⟨F15,O15,O_,hO5,hre5,hF5,hb5⟩:=qP.go (.i (.i (.r (.r (.r .e)))));refine bT 52 Ko (qx O_ DT) ?_;rintro e_ zk ⟨A8,_,c8,rfl,rfl,rQ⟩;have qQ:=hb5 zk _ _ rQ (.c (.c .n));refine⟨_,rfl,?_⟩;have rM:=qQ.bP (.kk (.s (.kk .e)));refine Wn<|ae<|Wq (.n 7 (.s iC.1) (.mV .a))<|ae<|au<|We 1 (.n 54 (pt zl 0) .a)<|ag ?_;have pI:=rM.fD 1 rfl;refine bD hm fun yS FD hm=>?_;have qU:=pI.P4.P4.P4.P3.P4;obtain⟨F16,O16,Vt,hO6,hre6,hF6,hb6⟩:=qU.go (.i (.i (.r (.r (.r .e)))));refine bT 55 Kq (qy Vt FD) ?_
  rintro e_ BQ ⟨A9,_,c9,rfl,rfl,uD⟩;have vU:=hb6 BQ _ _ uD (.c (.c .n));refine⟨_,rfl,?_⟩;have vG:=vU.bP (.kk (.s (.kk .e)));refine We 1 (.n 11 (I yS.1) (.ss .a))<|Wn<|ae<|au<|We 4 (.n 56 (pt zl 0) (.n 59 (I (bC (yS.1*size))) (.s .a)))<|ag ?_;have vJ:=vG.bP (.aP .e);have Bq:=vJ.fD 1 rfl;refine bD hm fun Bf QC hm=>?_;have zZ:=Bq.P4.P4.P4.P3.P4;obtain⟨F17,O17,kin7,hO7,hre7,hF7,hb7⟩:=zZ.go (.i (.i (.r (.r (.r .e)))));refine bT 60 NG (uG kin7 QC) ?_;rintro e_ Gw ⟨A10,_,c10,A11,_,c11,rfl,rfl,rfl,BR⟩;have rU:=hb7 Gw _ _ BR (.c (.c (.c .n)));refine⟨_,rfl,?_⟩;have yC:=rU.bP (.kk (.k (.s (.kk .e))));refine Wl 2 (.n 61 (.s Bf.1) (.n 62 (pt g 1) (.mV .a))) (qo (.s Bf.1)<|qc (fun w=>Rd w A10 (Bf.1.map bV)/\Bf.1.length=Bf.1.length) ⟨zy Bf.1▸(yC.IW 0 rfl),(yC.g_ 0 rfl)⟩<|qs g 0<|qe)<|ag<|qF 4 (.s Bf.1) (Pt.at g 1) yC rfl (.k .h) fun Md tY=>?_;have Aa:=tY.bP (.s (.aP .e));refine Wn<|au<|Wl 3 (.n 63 (mv b0) (.n 64 (.s iC.1) (.n 65 (.agg [I jT.1,.s Bf.1]) (.ss (.k (.ss .a)))))) (AZ Aa 3 rfl 0 2 [I jT.1,.s Bf.1]<|qe)<|ag ?_;have Ac:=Aa.P3.P2.P2.P3;refine Ns (kt:=9) (e:=68) (v:=A0M) (key:=iC.1) rfl [] (jT.1,Bf.1) (by kernel_rfl) Ac fun KY CY=>dY<|df<|ay<|oP (.n 20 (I (bC (aO+1))) (.mV (.aP (.k .z)))) ?_;have Eu:=CY.P2.P2.bP (.kk (.k .z));exact fF hm ⟨_,_,_,_,_,_,_,_,_,rfl,rfl,Eu.g_ 1 rfl,Eu⟩
 refine cZ (aX (aX (dZ ?_)));have hm:=bz hm hr0;refine ay<|ae<|Wq (.n 4 (mv b0) .z)<|aK ?_;obtain rfl:=si hm;refine aN [mv b0] qe ?_;have CZ:=fC.P1.P1.P2;exact⟨_,_,_,_,CZ.g_ 2 rfl,rfl,CZ⟩
theorem YK{b nK vK qN}(k:Cx F O w w [A0V nK vK qN b]){r}(hm:Aw b=some r):
    Calls Tryz.prog 19 (vals [sl nK vK qN]) w (fun e w'=>match r with | .inl r0=>e=.returned (SV.val (.qA [.v (.pointer none),I r0]))/\Cx F O w w' [] | .inr r1=>∃ g b1 b2,e=.returned (SV.val (.qA [pt g 0,I 0]))/\Cx F O w w' [Bx 57 g [I r1.1,mv b1,mv b2],A0R b1 r1.2.1,A0S b2 r1.2.2]):=by
 unfold Aw at hm;obtain rfl:=k.len 0 rfl;refine gB _ Tryz.func19 rfl<|ae<|Wq .a<|ae<|au<|We 2 (.n 13 (.agg [sl nK b.length qN,.b false,.b false]) .z)<|ag ?_;have k_:=k.share;refine mP 14 [sl nK b.length qN,.b false,.b false] k_ fun g0 w_ dH=>We 1 (.n 4 (pt g0 0) .z)<|Wn<|ae<|au<|We 1 (.n 15 (pt g0 0) .a)<|ag ?_;have eY:=dH.fD 0 rfl;refine bD hm fun r_ fA hm=>?_;have fJ:=eY.P1.P1.P2;obtain⟨F1,O1,kin,hO,hre,hF,hb⟩:=fJ.go (.i (.i (.r .e)));refine bT 16 NG (uG kin fA) ?_;rintro e_ ng ⟨A,_,c,A1,_,c1,rfl,rfl,rfl,gK⟩;have gX:=hb ng _ _ gK (.c (.c (.c .n)));refine⟨_,rfl,?_⟩;have iT:=gX.bP (.kk (.k .z));refine Wl 2 (.n 5 (.s r_.1) (.ss .a)) (qo (.s r_.1)<|qc (fun w=>Rd w A (r_.1.map bV)/\r_.1.length=r_.1.length) ⟨zy r_.1▸(iT.IW 0 rfl),(iT.g_ 0 rfl)⟩<|qe)<|Wn<|ae<|au<|We 1 (.n 18 (pt g0 0) .a)<|ag ?_;have iK:=iT.fD 2 rfl;refine bD hm fun bM ig hm=>?_;have jC:=iK.P3.P2.P2.P3;obtain⟨F11,Vd,tX,Ve,Ea,hF1,hb1⟩:=jC.go (.i (.i (.r (.r .e))));refine bT 19 Yi (Cc tX ig) ?_;rintro e_ sN ⟨A2,_,c2,rfl,rfl,jK⟩;have eU:=hb1 sN _ _ jK (.c (.c .n));refine⟨_,rfl,?_⟩;have dL:=eU.bP (.kk .z);refine We 1 (.n 6 (I bM.1) (.ss .a))<|Wn<|ae<|au<|We 11 (.n 20 (pt g0 0) (.n 30 (.b (((decide (r_.1=([68,81,1]:AC)))&&(decide (1<=bM.1)))&&(decide (bM.1<=64)))) (.k (.s .a))))<|ag ?_;have fC:=dL.fD 1 rfl;refine bD hm fun fO kG hm=>?_;have fH:=fC.P2.P1.P2
 obtain⟨F12,O12,Ip,hO2,Vs,hF2,hb2⟩:=fH.go (.i (.i (.r .e)));refine bT 31 Ko (qx Ip kG) ?_;rintro e_ xI ⟨A3,_,c3,rfl,rfl,fV⟩;have gJ:=hb2 xI _ _ fV (.c (.c .n));refine⟨_,rfl,?_⟩;have iH:=gJ.bP (.kk .z);refine Wn<|ae<|au<|We 1 (.n 32 (I bM.1) (.mV .a))<|ag ?_;have iU:=iH.bP (.kk .e);refine Ba [] 33 (by kernel_rfl) iU fun b3 yA iw=>?_;have jL:=iw.IX (v:=(vH e8));refine ag<|Ba [] 34 (by kernel_rfl) jL fun b4 zW jH=>?_;have jX:=jH.IX (v:=(vN A0M));refine We 1 (.n 35 (.agg [I bM.1,mv b3,mv b4]) (.mV .a))<|ag<|mP 36 [I bM.1,mv b3,mv b4] jX fun g1 CX jW=>We 1 (.n 7 (pt g1 0) (.ss .a))<|Wn<|ae<|au<|We 2 (.n 37 (pt g0 0) (.n 38 (pt g1 0) .a))<|ag ?_;have iW:=jW.fD 3 rfl;refine bD hm fun iC mQ hm=>?_;have jM:=iW.P4.P2.P3.P5.P4.P5;obtain⟨F13,O13,ML,hO3,hre3,hF3,hb3⟩:=jM.go (.i (.i (.i (.i (.i (.r .e))))));refine bT 39 dl_go50 (Pq ML mQ) ?_;rintro e_ EM ⟨A4,_,c4,rfl,rfl,iE⟩;have jS:=hb3 EM _ _ iE (.c (.c (.c (.c (.c .n)))));refine⟨_,rfl,?_⟩;have kZ:=jS.bP (.aP (.k .z));refine Wn<|ae<|au<|We 1 (.n 40 (pt g0 0) (.mV .a))<|ag ?_;have kT:=kZ.bP (.aP (.k .e));have kX:=kT.fD 1 rfl;refine bD hm fun jT rJ hm=>?_;have lg:=kX.P5.P5.P5.P5.P4.P5;obtain⟨F14,O14,O9,hO4,hre4,hF4,hb4⟩:=lg.go (.i (.i (.r (.r (.r (.r .e))))));refine bT 41 Kq (qy O9 rJ) ?_;rintro e_ Jd ⟨A5,_,c5,rfl,rfl,lZ⟩;have pG:=hb4 Jd _ _ lZ (.c (.c .n));refine⟨_,rfl,?_⟩
 have nI:=pG.bP (.kk (.s (.kk (.k .e))));refine We 1 (.n 8 (I jT.1) (.ss .a))<|Wn<|ae<|au<|We 3 (.n 42 (pt g0 0) (.n 44 (.b (decide (jT.1<=64))) .a))<|ag ?_;have qO:=nI.fD 1 rfl;refine bD hm fun kM xe hm=>?_;have qP:=qO.P5.P5.P5.P5.P4.P5;obtain⟨F15,O15,O_,hO5,hre5,hF5,hb5⟩:=qP.go (.i (.i (.r (.r (.r (.r .e))))));refine bT 45 Ko (qx O_ xe) ?_;rintro e_ Kv ⟨A6,_,c6,rfl,rfl,rQ⟩;have qQ:=hb5 Kv _ _ rQ (.c (.c .n));refine⟨_,rfl,?_⟩;have rM:=qQ.bP (.kk (.s (.kk (.k .e))));refine Wn<|ae<|Wq (.n 9 (.s ([]:AC)) (.mV .a))<|mO (fun L wr=>∃ (p:AC) (p1:Bool) (p2:Bool) (FW:A0K) (A7:EQ) (n:Nat) (c7:Nat),BC iC p p1 p2 FW=some r/\L=[(4,pt g0 0),(7,pt g1 0)]/\p.length=n/\Cx F O w wr [Bx 111 g0 [sl A7 n c7,.b p1,.b p2],Sh A0W [(A7,n,c7)] [p],Bx 57 g1 [I iC.2.2.2.1,mv b3,mv b4],A0R b3 iC.2.2.2.2,MS (vN A0M) b4 FW]) ?_ ?_
 ·
  refine ae<|Wq (.n 46 (I jT.1) (.n 47 (I 0) (.k (.s .a))))<|XO (fun L wr=>∃ (p3:AC) (p4:Bool) (p5:Bool) (Ny:A0K) (A8:EQ) (n1:Nat) (c8:Nat),yL iC p3 p4 p5 Ny=some r/\L=[(4,pt g0 0),(7,pt g1 0)]/\p3.length=n1/\Cx F O w wr [Bx 111 g0 [sl A8 n1 c8,.b p4,.b p5],Sh A0W [(A8,n1,c8)] [p3],Bx 57 g1 [I iC.2.2.2.1,mv b3,mv b4],A0R b3 iC.2.2.2.2,MS (vN A0M) b4 Ny]) ?_ ?_
  ·
   refine jv hm (fun s L wr=>∃ (p6:AC) (p7:Bool) (p8:Bool) (UM:A0K) (last:AC) (aO:Int) (A9:EQ) (n2:Nat) (c9:Nat),(p6,p7,p8,UM,last,aO)=s/\L=[(4,pt g0 0),(6,I bM.1),(7,pt g1 0),(9,.s last),(46,I jT.1),(47,I aO)]/\p6.length=n2/\Cx F O w wr [Bx 111 g0 [sl A9 n2 c9,.b p7,.b p8],Sh A0W [(A9,n2,c9)] [p6],Bx 57 g1 [I iC.2.2.2.1,mv b3,mv b4],A0R b3 iC.2.2.2.2,MS (vN A0M) b4 UM]) ⟨_,_,_,_,_,_,_,_,_,rfl,rfl,rM.g_ 1 rfl,rM⟩ ?_;rintro xw L_ zk y0 ⟨p6,p7,p8,UM,last,aO,A9,_,c9,rfl,rfl,rfl,pI⟩ hm hr0;simp only[BD] at hm;refine ae<|Wq (.n 48 (.b (decide (aO < jT.1))) .a)<|ae<|dE hm (fun hc hm=>?_) fun hc hm=>?_
   ·refine aH<|ay<|ae<|aC<|ae<|Wq (.n 10 (I aO) (.s .a))<|ae<|ae<|Wa (.n 53 (.b p7) .a) (mi g0 0<|gG pI 0 rfl 1 (.b p7)<|qe)<|kF hm (fun hc1 hm=>?_) fun hc1 hm=>?_
    ·refine cZ (aX (At_ine (by decide) (aX (aX (dZ ?_)))));have hm:=bz hm hr0;exact fQ ⟨_,_,_,_,_,_,_,hm,rfl,pI.g_ 1 rfl,pI⟩
    refine aH<|ay<|ae<|au<|We 2 (.n 54 (pt g0 0) (.n 55 (pt g0 0) (.s .a)))<|ag ?_;have qU:=pI.fD 1 rfl;refine bD hm fun rO DT hm=>?_;have uD:=qU.P5.P5.P5.P5.P4.P5;obtain⟨F16,O16,Vt,hO6,hre6,hF6,hb6⟩:=uD.go (.i (.i (.r (.r (.r (.r .e))))));refine bT 56 Kq (qy Vt DT) ?_;rintro e_ BQ ⟨A10,_,c10,rfl,rfl,vU⟩;have vG:=hb6 BQ _ _ vU (.c (.c .n));refine⟨_,rfl,?_⟩;have vJ:=vG.bP (.kk (.s (.kk (.k .e))));refine ag ?_;have Bq:=vJ.fD 1 rfl;refine bD hm fun yS FD hm=>?_;have zZ:=Bq.P5.P5.P5.P5.P4.P5;obtain⟨F17,O17,kin7,hO7,hre7,hF7,hb7⟩:=zZ.go (.i (.i (.r (.r (.r (.r .e))))));refine bT 57 NG (uG kin7 FD) ?_;rintro e_ Gw ⟨A11,_,c11,A12,_,c12,rfl,rfl,rfl,BR⟩;have rU:=hb7 Gw _ _ BR (.c (.c (.c .n)));refine⟨_,rfl,?_⟩;have yC:=rU.bP (.kk (.k (.s (.kk (.k .e)))));refine Wl 2 (.n 11 (.s yS.1) (.gI .a)) (qo (.s yS.1)<|qc (fun w=>Rd w A11 (yS.1.map bV)/\yS.1.length=yS.1.length) ⟨zy yS.1▸(yC.IW 0 rfl),(yC.g_ 0 rfl)⟩<|qe)<|Wn<|ae<|au<|We 2 (.n 59 (pt g0 0) (.n 60 (.s yS.1) .a))<|ag<|bD hm fun Bf QC hm=>jb 61 Ql (Bj lY QC) yC fun Md Aa=>?_;have Ac:=Aa.bP (.s (.aP (.k .e)));refine We 9 (.n 70 (.b (Bf&&((decide (aO=0))||(!(Op.bytesLess yS.1 last||decide (yS.1=last)))))) (.s (.k (.s (.k (.s (.wH (.s .a))))))))<|ag ?_;have CY:=Ac.fD 1 rfl;refine bD hm fun Qc Qz hm=>?_;have Eu:=CY.P5.P5.P5.P5.P4.P5;obtain⟨F18,O18,kin8,hO8,hre8,hF8,hb8⟩:=Eu.go (.i (.i (.r (.r (.r (.r .e))))))
    refine bT 71 Ko (qx kin8 Qz) ?_;rintro e_ KY ⟨A13,_,c13,rfl,rfl,CZ⟩;have MH:=hb8 KY _ _ CZ (.c (.c .n));refine⟨_,rfl,?_⟩;have HY:=MH.bP (.kk (.s (.kk (.k .e))));refine Wn<|ae<|oP (.n 9 (.s yS.1) (.mV .a))<|ay ?_;have KC:=HY.drew 1;refine oM di (tq [5,0,6,0,0,1,1,1,2,1,3,1,4,1] (.op 7 (.op 8 .nil))) [7,8] KC (.c (.s (.aP .e)) (.c (.kk (.k .z)) .l)) fun _=>fU 2 0 (.n 78 (pt g0 0) (.n 79 (I bM.1) .a)) (fun x hx=>qe) fun _=>fU 5 1 (.n 76 (mv b4) (.n 77 (.s yS.1) (.wH (.s .a)))) (fun x hx=>mi g1 0<|gG hx 1 rfl 2 (mv b4)<|qe) fun _=>eu rfl ?_;have Gx:=KC.bP (.aP (.k .e));have Gy:=Gx.fD 1 rfl;refine bD hm fun AX Pe hm=>?_;have KZ:=Gy.P5.P5.P5.P5.P4.P5;obtain⟨F19,O19,kin9,hO9,hre9,hF9,hb9⟩:=KZ.go (.i (.i (.r (.r (.r (.r .e))))));refine bT 80 dl_go53 (QK kin9 Pe) ?_;rcases AX with UN | Qd
    ·simp only[Sum.elim_inl,Sum.elim_inr] at hm;rintro e_ Oc ⟨A14,_,c14,rfl,rfl,JB⟩;have Jb:=hb9 Oc _ _ JB (.c (.c .n));refine E2<|⟨(Jb.bP (.ss (.aP .e))),fun _=>?_⟩
     refine eu rfl ?_;have F7:=Jb.shN A0M;have H5:=F7.P5.P5.P5.P5.P5.P5.P6;refine Iy (kt:=9) (e:=65) (v:=(vN A0M)) (key:=yS.1) (u:=Option.none) (a:=Option.none) [] (by kernel_rfl) H5 fun Vg H6=>?_;refine⟨(H6.bP (.ss (.s (.kk (.k .e))))),fun _=>?_⟩;refine gu<|df<|ay<|oP (.n 47 (I (bC (aO+1))) (.gI (.s (.aP (.k .z))))) ?_;have Jc:=H6.P5.P5.P4.P4.bP (.aP (.k .z));exact fF hm ⟨_,_,_,_,_,_,_,_,_,rfl,rfl,Jc.g_ 1 rfl,Jc⟩
    ·simp only[Sum.elim_inl,Sum.elim_inr] at hm;rintro e_ Qv ⟨b5,A15,_,c15,rfl,rfl,KD⟩;have KE:=hb9 Qv _ _ KD (.c (.c (.c .n)));refine E2<|⟨(KE.bP (.ss (.s (.aP .e)))),fun _=>?_⟩
     refine eu rfl ?_;have Rx:=KE.mshare;have K_:=Rx.fD 0 rfl;have Qw:=K_.smN;have Qx:=Qw.P6.P6.P6.P6.P6.P6.P6.P7;refine Iy (kt:=9) (e:=65) (v:=(vN A0M)) (key:=yS.1) (u:=(Option.some b5)) (a:=(Option.some Qd.1)) [] (by kernel_rfl) Qx fun TG JC=>?_;refine⟨(JC.bP (.gI (.kk (.k .e)))),fun _=>?_⟩;refine gu<|df<|ay<|oP (.n 47 (I (bC (aO+1))) (.gI (.s (.aP (.k .z))))) ?_;have Qy:=JC.P6.P6.P5.P5.bP (.aP (.k .z));exact fF hm ⟨_,_,_,_,_,_,_,_,_,rfl,rfl,Qy.g_ 1 rfl,Qy⟩
   refine cZ (aX (aX (dZ ?_)));have hm:=bz hm hr0;exact fQ ⟨_,_,_,_,_,_,_,hm,rfl,pI.g_ 1 rfl,pI⟩
  rintro L_ Yv ⟨p3,p4,p5,Ny,A8,_,c8,hm,rfl,rfl,KF⟩;simp only[yL] at hm;exact fQ ⟨_,_,_,_,_,_,_,hm,rfl,KF.g_ 1 rfl,KF⟩
 rintro L_ aac ⟨p,p1,p2,FW,A7,_,c7,hm,rfl,rfl,JD⟩;simp only[BC] at hm;refine ae<|aC<|ae<|Wa (.n 82 (.b p1) .a) (mi g0 0<|gG JD 0 rfl 1 (.b p1)<|qe)<|kF hm (fun hc2 hm=>?_) fun hc2 hm=>?_
 ·refine ae<|Wq (.n 2 (.v (.pointer none)) (.n 3 (I 3) .z))<|aK (dN (aU ?_));obtain rfl:=si hm;refine aN [.v (.pointer none),I 3] qe ?_;have O3:=JD.bP .z;exact⟨rfl,O3⟩
 refine ae<|Wa (.n 87 (.b (decide (0 < (p.length:Int)))) (.s .a)) (mi g0 0<|gG JD 0 rfl 0 (sl A7 p.length c7)<|qe)<|dE hm (fun hc3 hm=>?_) fun hc3 hm=>?_
 ·refine ae<|Wq (.n 2 (.v (.pointer none)) (.n 3 (I 9) .z))<|aK (dN (aU ?_));obtain rfl:=si hm;refine aN [.v (.pointer none),I 9] qe ?_;have KG:=JD.bP .z;exact⟨rfl,KG⟩
 refine ae<|Wa (.n 94 (.b p2) (.ss .a)) (mi g0 0<|gG JD 0 rfl 2 (.b p2)<|qe)<|kF hm (fun hc4 hm=>?_) fun hc4 hm=>?_
 ·refine ae<|Wq (.n 2 (.v (.pointer none)) (.n 3 (I 274) .z))<|aK (dN (aU ?_));obtain rfl:=si hm;refine aN [.v (.pointer none),I 274] qe ?_;have TJ:=JD.bP .z;exact⟨rfl,TJ⟩
 refine aH<|df<|ay<|ae<|Wq (.n 2 (pt g1 0) (.n 3 (I 0) .z))<|aK ?_;have Vh:=JD.P3.P3.P3.P3.P4;refine bD hm fun u DU hm=>?_;have Wi:=Vh.msN (gp DU);obtain rfl:=si hm;refine aN [pt g1 0,I 0] qe ?_;have Wj:=Wi.P4.P4.bP (.kk (.k .z));exact⟨_,_,_,rfl,Wj⟩
theorem c_l27_step{aT af ah dX bJ bK dQ fM jr iF xA cO ai aj D8 gq rZ gY lF gZ su iD lG jY CV jZ yD}(k:Cx F O w w [Bx 57 cO [I aT,mv ai,mv aj],A0R ai af,A0S aj ah,Bx 32 D8 [I dX,sl gq rZ gY,sl gZ su iD],A0N gq rZ gY lF bJ,A0L gZ su iD lG bK,A0N jY CV jZ yD iF]){r}(hm:Ep aT af ah dX bJ bK dQ fM jr iF xA=some r):
    Calls Tryz.prog 6 (vals [pt cO 0,pt D8 0,.agg [I dQ,.s fM,.s jr,sl jY CV jZ,I xA]]) w (fun e w'=>match r with | .inl r0=>∃ A n c ys A1 n1 c1 Et,r0.2.2.2.2.2.1.length=n/\r0.2.2.2.2.2.2.length=n1/\e=.returned (SV.val (.qA [pt cO 0,.b r0.2.2.2.1]))/\Cx F O w w' [Bx 57 cO [I r0.1,mv ai,mv aj],A0R ai r0.2.1,A0S aj r0.2.2.1,Bx 32 D8 [I r0.2.2.2.2.1,sl A n c,sl A1 n1 c1],A0N A n c ys r0.2.2.2.2.2.1,A0L A1 n1 c1 Et r0.2.2.2.2.2.2] | .inr (.inl r1)=>∃ A2 n2 c2 C9 A3 n3 c3 Vq,r1.2.2.2.1.length=n2/\r1.2.2.2.2.length=n3/\e=.returned (SV.val (.qA [.v (.pointer none),.b false]))/\Cx F O w w' [Bx 57 cO [I r1.1,mv ai,mv aj],A0R ai af,A0S aj r1.2.1,Bx 32 D8 [I r1.2.2.1,sl A2 n2 c2,sl A3 n3 c3],A0N A2 n2 c2 C9 r1.2.2.2.1,A0L A3 n3 c3 Vq r1.2.2.2.2] | .inr (.inr r2)=>∃ g b b1 A4 n4 c4 ys4 A5 n5 c5 ys5,r2.2.2.2.2.2.2.2.1.length=n4/\r2.2.2.2.2.2.2.2.2.length=n5/\e=.returned (SV.val (.qA [pt g 0,.b r2.2.2.2.1]))/\Cx F O w w' [Bx 57 g [I r2.1,mv b,mv b1],A0R b r2.2.1,A0S b1 r2.2.2.1,Bx 57 cO [I r2.2.2.2.2.1,mv ai,mv aj],A0R ai af,A0S aj r2.2.2.2.2.2.1,Bx 32 D8 [I r2.2.2.2.2.2.2.1,sl A4 n4 c4,sl A5 n5 c5],A0N A4 n4 c4 ys4 r2.2.2.2.2.2.2.2.1,A0L A5 n5 c5 ys5 r2.2.2.2.2.2.2.2.2]):=by
 unfold Ep at hm;obtain rfl:=k.iY 4 rfl;obtain rfl:=k.dJ 5 rfl;obtain rfl:=k.iY 6 rfl;refine gB _ Tryz.func6 rfl<|ae<|au<|ag<|mP 5 [I dQ,.s fM,.s jr,sl jY iF.length jZ,I xA] k fun g0 w_ k_=>We 2 (.wH .z)<|Wn<|mO (fun L wr=>I5 aT af ah dX bJ bK  = some r/\L=[(0,pt cO 0)]/\Cx F O w wr [Bx 57 cO [I aT,mv ai,mv aj],A0R ai af,A0S aj ah,Bx 32 D8 [I dX,sl gq bJ.length gY,sl gZ bK.length iD],A0N gq bJ.length gY lF bJ,A0L gZ bK.length iD lG bK]) ?_ ?_
 ·
  refine ae<|Wa (.n 11 (I dQ) .a) (qs g0 0<|gG k_ 7 rfl 0 (I dQ)<|qe)<|aC<|mO (fun L wr=>∃ (aO:Bool),qM aT af ah dX bJ bK dQ fM jr iF xA aO=some r/\L=[(0,pt cO 0),(1,pt D8 0),(5,pt g0 0),(11,I dQ),(12,.b aO)]/\Cx F O w wr [Bx 57 cO [I aT,mv ai,mv aj],A0R ai af,A0S aj ah,Bx 32 D8 [I dX,sl gq bJ.length gY,sl gZ bK.length iD],A0N gq bJ.length gY lF bJ,A0L gZ bK.length iD lG bK,Bx 35 g0 [I dQ,.s fM,.s jr,sl jY iF.length jZ,I xA],A0N jY iF.length jZ yD iF]) ?_ ?_
  ·
   refine ae<|Wq (.n 12 (.b (decide (dQ=0))) .a)<|dE hm (fun hc hm=>?_) fun hc hm=>?_
   ·refine aH ?_;have dH:=k_.P6.P7.P7.P7.P7.P7.P7.P7;exact fQ ⟨_,hm,rfl,dH⟩
   refine ae<|Wq (.n 12 (.b (decide (dQ=4))) (.s .a))<|dE hm (fun hc1 hm=>?_) fun hc1 hm=>?_
   ·refine aH ?_;have eY:=k_.P6.P7.P7.P7.P7.P7.P7.P7;exact fQ ⟨_,hm,rfl,eY⟩
   refine ae<|Wq (.n 12 (.b (decide (dQ=5))) (.s .a))<|dE hm (fun hc2 hm=>?_) fun hc2 hm=>?_
   ·refine aH ?_;have fJ:=k_.P6.P7.P7.P7.P7.P7.P7.P7;exact fQ ⟨_,hm,rfl,fJ⟩
   refine oP (.n 12 (.b (decide (dQ=6))) (.s .a)) ?_;have gK:=k_.P6.P7.P7.P7.P7.P7.P7.P7;exact fQ ⟨_,hm,rfl,gK⟩
  rintro L_ ng ⟨aO,hm,rfl,gX⟩;simp only[qM] at hm;refine kF hm (fun hc3 hm=>?_) fun hc3 hm=>?_
  ·refine ae<|au<|Wl 4 (.n 17 (pt cO 0) (.n 18 (pt cO 0) (.n 19 (pt D8 0) (.n 20 (.agg [I dQ,.s fM,.s jr,sl jY iF.length jZ,I xA]) .z)))) (AZ gX 6 rfl 0 5 [I dQ,.s fM,.s jr,sl jY iF.length jZ,I xA]<|qe)<|ag ?_;have iT:=gX.fD 4 rfl;have iK:=iT.fD 8 rfl;refine bD hm fun r_ fA hm=>?_;have jC:=iK.P9.P9.P8.P3.P9.P5.P9.P9.P9.P9;obtain⟨F1,O1,kin,hO,hre,hF,hb⟩:=jC.go (.i (.i (.i (.i (.i (.i (.i (.r (.r (.r .e))))))))));refine bT 21 dl_go17 (c_l27_keeps kin fA) ?_;rintro e_ sN ⟨A0,_,c0,ys0,A6,_,c6,ys6,rfl,rfl,rfl,jK⟩;have eU:=hb sN _ _ jK (.c (.c (.c (.c (.c (.c .n))))));refine⟨_,rfl,?_⟩;have dL:=eU.bP (.aP (.kk .z));refine We 2 (.n 6 (pt cO 0) (.n 7 (.b r_.1) .z))<|Wn<|aK (dN (aU ?_));obtain rfl:=si hm;refine aN [pt cO 0,.b r_.1] qe ?_;exact⟨_,_,_,_,_,_,_,_,dL.iY 4 rfl,dL.dJ 5 rfl,rfl,dL⟩
  refine mO (fun L wr=>∃ (KU:Bool),mD aT af ah dX bJ bK dQ fM jr iF xA KU=some r/\L=[(0,pt cO 0),(1,pt D8 0),(5,pt g0 0),(11,I dQ),(22,.b KU)]/\Cx F O w wr [Bx 57 cO [I aT,mv ai,mv aj],A0R ai af,A0S aj ah,Bx 32 D8 [I dX,sl gq bJ.length gY,sl gZ bK.length iD],A0N gq bJ.length gY lF bJ,A0L gZ bK.length iD lG bK,Bx 35 g0 [I dQ,.s fM,.s jr,sl jY iF.length jZ,I xA],A0N jY iF.length jZ yD iF]) ?_ ?_
  ·
   refine ae<|Wq (.n 22 (.b (decide (dQ=1))) (.aP .z))<|dE hm (fun hc4 hm=>?_) fun hc4 hm=>?_
   ·refine aH ?_;exact fQ ⟨_,hm,rfl,gX⟩
   refine ae<|Wq (.n 22 (.b (decide (dQ=2))) (.s .a))<|dE hm (fun hc5 hm=>?_) fun hc5 hm=>?_
   ·refine aH ?_;exact fQ ⟨_,hm,rfl,gX⟩
   refine ae<|Wq (.n 22 (.b (decide (dQ=3))) (.s .a))<|dE hm (fun hc6 hm=>?_) fun hc6 hm=>?_
   ·refine aH ?_;exact fQ ⟨_,hm,rfl,gX⟩
   refine ae<|Wq (.n 22 (.b (decide (dQ=7))) (.s .a))<|dE hm (fun Z4 hm=>?_) fun Z4 hm=>?_
   ·refine aH ?_;exact fQ ⟨_,hm,rfl,gX⟩
   refine ae<|Wq (.n 22 (.b (decide (dQ=8))) (.s .a))<|dE hm (fun hc8 hm=>?_) fun hc8 hm=>?_
   ·refine aH ?_;exact fQ ⟨_,hm,rfl,gX⟩
   refine ae<|Wq (.n 22 (.b (decide (dQ=9))) (.s .a))<|dE hm (fun hc9 hm=>?_) fun hc9 hm=>?_
   ·refine aH ?_;exact fQ ⟨_,hm,rfl,gX⟩
   refine oP (.n 22 (.b (decide (dQ=10))) (.s .a)) ?_;exact fQ ⟨_,hm,rfl,gX⟩
  rintro L_ xI ⟨KU,hm,rfl,fC⟩;simp only[mD] at hm;refine kF hm (fun hc10 hm=>?_) fun hc10 hm=>?_
  ·refine ae<|au<|Wl 4 (.n 30 (pt cO 0) (.n 31 (pt cO 0) (.n 32 (pt D8 0) (.n 33 (.agg [I dQ,.s fM,.s jr,sl jY iF.length jZ,I xA]) .z)))) (AZ fC 6 rfl 0 5 [I dQ,.s fM,.s jr,sl jY iF.length jZ,I xA]<|qe)<|ag ?_;have fH:=fC.fD 4 rfl;have fV:=fH.fD 8 rfl;refine bD hm fun bM ig hm=>?_;have gJ:=fV.P9.P9.P8.P3.P9.P5.P9.P9.P9.P9;obtain⟨F11,Vd,tX,Ve,Ea,hF1,hb1⟩:=gJ.go (.i (.i (.i (.i (.i (.i (.i (.r (.r (.r .e))))))))));refine bT 34 dl_go18 (c_l27_tells tX ig) ?_;rintro e_ yA ⟨A7,_,c7,ys7,A8,_,c8,ys8,rfl,rfl,rfl,iH⟩;have iU:=hb1 yA _ _ iH (.c (.c (.c (.c (.c (.c .n))))));refine⟨_,rfl,?_⟩;have iw:=iU.bP (.aP (.kk .z));refine We 2 (.n 6 (pt cO 0) (.n 7 (.b bM.1) .z))<|Wn<|aK (dN (aU ?_));obtain rfl:=si hm;refine aN [pt cO 0,.b bM.1] qe ?_;exact⟨_,_,_,_,_,_,_,_,iw.iY 4 rfl,iw.dJ 5 rfl,rfl,iw⟩
  refine ae<|Wq (.n 35 (.b (decide (dQ=11))) (.k (.s (.k .z))))<|dE hm (fun hc11 hm=>?_) fun hc11 hm=>?_
  ·refine ae<|au<|We 1 (.n 38 (pt cO 0) (.s .a))<|ag<|bD hm fun fO kG hm=>?_;obtain⟨F12,O12,Ip,hO2,Vs,hF2,hb2⟩:=fC.go (.i (.i (.i (.r (.r (.r (.r (.r .e))))))));refine bT 39 dl_go8 (Cb Ip kG) ?_;rintro e_ zW ⟨A9,_,c9,rfl,rfl,jL⟩;have jH:=hb2 zW _ _ jL (.c (.c (.c (.c .n))));refine E2<|ag<|bD hm fun iC mQ hm=>?_;obtain⟨F13,O13,ML,hO3,hre3,hF3,hb3⟩:=jH.go (.i (.r (.r (.r (.r (.r (.r (.r (.r .e)))))))));refine bT 40 dl_go19 (YK ML mQ) ?_;rcases iC with jT | kM
   ·simp only[Sum.elim_inl,Sum.elim_inr] at hm;rintro e_ CX ⟨rfl,jX⟩;have jW:=hb3 CX _ _ jX .n;refine E2<|We 5 (.n 8 (.v (.pointer none)) (.n 9 (I jT) (.mV .a)))<|Wn<|ae<|au<|Wl 3 (.n 43 (pt cO 0) (.n 45 (.s fM) (.kk .z))) (qs g0 0<|gG jW 6 rfl 1 (.s fM)<|qe)<|ag<|bD hm fun rO DT hm=>?_;obtain⟨F14,O14,O9,hO4,hre4,hF4,hb4⟩:=jW.go (.i (.i (.i (.r (.r (.r (.r (.r .e))))))));refine bT 46 Yh (BU O9 DT) ?_;rintro e_ EM ⟨rfl,iW⟩;have jM:=hb4 EM _ _ iW (.c (.c (.c .n)));refine⟨_,rfl,?_⟩;have iE:=jM.bP (.aP (.kk .z));refine Wn<|ae<|PR [50] (.n 6 (.v (.pointer none)) (.n 7 (.b false) .z)) qe (by kernel_rfl)<|ay<|aK (dN (aU ?_));obtain rfl:=si hm;refine aN [.v (.pointer none),.b false] qe ?_;exact⟨_,_,_,_,_,_,_,_,iE.iY 4 rfl,iE.dJ 5 rfl,rfl,iE⟩
   ·simp only[Sum.elim_inl,Sum.elim_inr] at hm;rintro e_ Jd ⟨g1,b0,b2,rfl,jS⟩;have kZ:=hb3 Jd _ _ jS (.c (.c (.c .n)));refine E2<|We 5 (.n 8 (pt g1 0) (.n 9 (I 0) (.mV .a)))<|Wn<|ae<|au<|Wl 3 (.n 43 (pt cO 0) (.n 45 (.s fM) (.kk .z))) (qs g0 0<|gG kZ 9 rfl 1 (.s fM)<|qe)<|ag<|bD hm fun yS FD hm=>?_;obtain⟨F15,O15,O_,hO5,hre5,hF5,hb5⟩:=kZ.go (.r (.r (.r (.i (.i (.i (.r (.r (.r (.r (.r .e)))))))))));refine bT 46 Yh (BU O_ FD) ?_;rintro e_ Kv ⟨rfl,kT⟩;have kX:=hb5 Kv _ _ kT (.c (.c (.c .n)));refine⟨_,rfl,?_⟩;have lg:=kX.bP (.aP (.aP (.k .z)));refine Wn<|ae<|PR [50] (.n 6 (pt g1 0) (.n 7 (.b (decide (0=0))) .z)) qe (by kernel_rfl)<|ay<|aK (dN (aU ?_));obtain rfl:=si hm;refine aN [pt g1 0,.b (decide (0=0))] qe ?_;have lZ:=lg.P8.P8.P8.P5.P5.P5.P8.P8.P8;exact⟨_,_,_,_,_,_,_,_,_,_,_,lZ.iY 7 rfl,lZ.dJ 8 rfl,rfl,lZ⟩
  refine aH<|df ?_;have pG:=fC.bP (.aP (.kk .z));exact fQ ⟨hm,rfl,pG⟩
 rintro L_ zk ⟨hm,rfl,nI⟩;simp only[I5] at hm;refine ae<|Wq (.n 6 (pt cO 0) (.n 7 (.b true) .z))<|aK ?_;obtain rfl:=si hm;refine aN [pt cO 0,.b true] qe ?_;exact⟨_,_,_,_,_,_,_,_,nI.iY 4 rfl,nI.dJ 5 rfl,rfl,nI⟩
theorem RU(size:Int)(script:List (Int×AC×AC×PP×Int))(JJ:EQ)(Vx MQ:Nat)(Xa:List (Int×AC×AC×(Hd×A0C)×Int))(h_script:(nJ (eP eI (eP eS (eP eS (eP eG eI)))) (SP SQ (SP SQ (SP SQ (SP (nJ A0Q (SP SQ A0W)) SQ))))).r w O ((JJ,Vx,MQ),Xa) script)(k:Cx F O w w [])(r:Bool)(hm:AL size script=some r) :
    Calls Tryz.prog 3 (vals [I size,sl JJ Vx MQ]) w (fun e w'=>e=.returned (SV.val (.b r))/\Cx F O w w' []):=by
 unfold AL at hm;obtain rfl:Vx=script.length:=h_script.1;replace k:=k.shold (nJ (eP eI (eP eS (eP eS (eP eG eI)))) (SP SQ (SP SQ (SP SQ (SP (nJ A0Q (SP SQ A0W)) SQ))))) h_script;refine gB _ Tryz.func3 rfl<|ae<|Wq .a<|ae<|ae<|au<|ag<|bD hm fun r_ fA hm=>jb 12 dl_go4 (ZX lY fA) k fun w_ dH=>We 1 (.n 13 (.b (!r_)) (.s .a))<|Wn<|kF hm (fun hc hm=>?_) fun hc hm=>?_
 ·refine ae<|Wq (.n 4 (.b false) .z)<|aK (aU ?_);obtain rfl:=si hm;refine aN [.b false] qe ?_;have eY:=dH.bP .z;exact⟨rfl,eY⟩
 refine aH<|ay<|ae<|au<|We 1 (.n 15 (I size) (.s .a))<|ag<|bD hm fun bM ig hm=>bT 16 dl_go5 (ZY lY ig) ?_;rcases bM with fO | iC
 ·simp only[Sum.elim_inl,Sum.elim_inr] at hm;rintro e_ ng ⟨rfl,fJ⟩;have gK:=dH.call fJ;refine E2<|We 5 (.n 5 (.v (.pointer none)) (.n 6 (I 1) (.ss .a)))<|Wn<|ae<|ae<|Wq (.n 24 (.b ((decide (size < 1))||(decide (64 < size)))) .a)<|kF hm (fun hc1 hm=>?_) fun hc1 hm=>?_
  ·refine ae<|PR [27] (.n 4 (.b (decide (1=1))) .z) qe (by kernel_rfl)<|ay<|aK (aU ?_);obtain rfl:=si hm;refine aN [.b (decide (1=1))] qe ?_;have gX:=gK.bP .z;exact⟨rfl,gX⟩
  refine aH<|ay<|ae<|ae<|PR [33] (.n 36 (.b true) (.s (.k (.s .a)))) qe (by kernel_rfl)<|ay<|AY<|ae<|Wq (.n 4 (.b false) .z)<|aK (aU ?_);obtain rfl:=si hm;refine aN [.b false] qe ?_;have iT:=gK.bP .z;exact⟨rfl,iT⟩
 ·simp only[Sum.elim_inl,Sum.elim_inr] at hm;rintro e_ sN ⟨g,b,b1,rfl,iK⟩;have jC:=dH.call iK;refine E2<|We 5 (.n 5 (pt g 0) (.n 6 (I 0) (.ss .a)))<|Wn<|ae<|ae<|Wq (.n 24 (.b ((decide (size < 1))||(decide (64 < size)))) .a)<|kF hm (fun hc2 hm=>?_) fun hc2 hm=>?_
  ·refine ae<|PR [27] (.n 4 (.b false) .z) qe (by kernel_rfl)<|ay<|aK (aU ?_);obtain rfl:=si hm;refine aN [.b false] qe ?_;have jK:=jC.bP .z;exact⟨rfl,jK⟩
  refine aH<|ay<|ae<|ae<|PR [33] (.n 36 (.b (decide (0≠0))) (.s (.k (.s .a)))) qe (by kernel_rfl)<|ay<|dE hm (fun hc3 hm=>?_) fun hc3 hm=>?_
  ·refine ae<|Wq (.n 4 (.b false) .z)<|aK (aU ?_);obtain rfl:=si hm;refine aN [.b false] qe ?_;have eU:=jC.bP .z;exact⟨rfl,eU⟩
  refine aH<|ay<|ae<|au<|We 2 (.n 38 (.agg [I size,sl none 0 0,sl none 0 0]) (.s (.k (.s .a))))<|ag<|mP 39 [I size,sl none 0 0,sl none 0 0] jC fun g1 xI dL=>We 1 (.n 7 (pt g1 0) (.ss .a))<|Wn<|ae<|ae<|Wq (.n 40 (sl JJ script.length MQ) (.n 41 (I (script.length:Int)) (.n 42 (I 0) (.kk .z))))<|aC ?_;have fH:=(dL.LQ A0Q (SP SQ A0W)).Rq;have fV:=fH.LQ (eP eS eG) (SP SQ (nJ A0P (SP SQ (SP SQ (SH eS)))));have gJ:=fV.P2.P1.P2.P6.P6.P6.P6
  refine jv hm (fun s L wr=>∃ (d:Int) (m_:A0E) (GI:A0F) (jT:Int) (kM:PP) (rO:NE) (aO:Int) (g2:Nat) (b2:Nat) (b3:Nat) (A:EQ) (n:Nat) (c:Nat) (ys:A0C) (A1:EQ) (n1:Nat) (c1:Nat) (Et:A0A),(d,m_,GI,jT,kM,rO,aO)=s/\L=[(5,pt g2 0),(7,pt g1 0),(40,sl JJ script.length MQ),(41,I (script.length:Int)),(42,I aO)]/\kM.length=n/\rO.length=n1/\Cx F O w wr [Bx 57 g2 [I d,mv b2,mv b3],A0R b2 m_,A0S b3 GI,Bx 32 g1 [I jT,sl A n c,sl A1 n1 c1],A0N A n c ys kM,A0L A1 n1 c1 Et rO,Sg (eP eI (eP eS (eP eS (eP eG eI)))) (SP SQ (SP SQ (SP SQ (SP (nJ A0Q (SP SQ A0W)) SQ)))) JJ script.length MQ Xa script]) ⟨_,_,_,_,_,_,_,_,_,_,_,0,0,_,_,0,0,_,rfl,rfl,gJ.iY 4 rfl,gJ.dJ 5 rfl,gJ⟩ ?_;rintro xw L_ yA y0 ⟨d,m_,GI,jT,kM,rO,aO,g2,b2,b3,A,_,c,ys,A1,_,c1,Et,rfl,rfl,rfl,rfl,fC⟩ hm hr0;simp only[tV] at hm;refine ae<|Wq (.n 43 (.b (decide (aO < (script.length:Int)))) .a)<|ae<|dE hm (fun hc4 hm=>?_) fun hc4 hm=>?_
  ·refine aH<|ay<|ae<|aC<|ae<|au<|bD hm fun x_1 DN hm=>?_;obtain⟨Y,hy,iH⟩:=fC.Fz 6 rfl DN;obtain⟨Y1,Y2⟩:=Y;have iw:=iH.ui;obtain⟨rfl,jL⟩:=iw.uj;obtain⟨Y3,Y4⟩:=Y2;have jH:=jL.ui;obtain⟨rfl,jX⟩:=jH.uj;obtain⟨Y5,Y6⟩:=Y4;have jW:=jX.ui;obtain⟨rfl,iW⟩:=jW.uj;obtain⟨Y7,Y8⟩:=Y6;have jM:=iW.ui;obtain⟨⟨B,n2,c2⟩,C9⟩:=Y7;obtain rfl:=Cx.iY (E:=A0Q) (q:=(SP SQ A0W)) (A:=B) (c:=c2) (ys:=C9) jM 0 rfl;have jS:=jM.P8.P8.P8.P8.P8.P8.P8.P7.P8;obtain⟨rfl,kZ⟩:=jS.uj;refine Wl 2 (.n 45 (.agg [I x_1.1,.s x_1.2.1,.s x_1.2.2.1,sl B x_1.2.2.2.1.length c2,I x_1.2.2.2.2]) (.s .a)) (qJ (E:=(eP eI (eP eS (eP eS (eP eG eI))))) (fC.lN 6 rfl) hy (fC.oN 6 rfl)<|qR [I x_1.1,.s x_1.2.1,.s x_1.2.2.1,sl B x_1.2.2.2.1.length c2,I x_1.2.2.2.2] (Rd.els (k:=0) (m:=5) (fC.lN 6 rfl) hy (Pt.nC JJ aO 5) rfl (by decide) (by decide))<|qe)<|ag<|jA 9 [I 0,.s ([]:AC),.s ([]:AC),sl none 0 0,I 0] kZ fun g3 zW kT=>ag<|ja 8 (.agg [I x_1.1,.s x_1.2.1,.s x_1.2.2.1,sl B x_1.2.2.2.1.length c2,I x_1.2.2.2.2]) [I x_1.1,.s x_1.2.1,.s x_1.2.2.1,sl B x_1.2.2.2.1.length c2,I x_1.2.2.2.2] (Pt.at g3 0) kT rfl .all fun CX kX=>Wn<|ae<|au<|Wl 3 (.n 47 (pt g2 0) (.n 48 (pt g1 0) (.n 49 (.agg [I x_1.1,.s x_1.2.1,.s x_1.2.2.1,sl B x_1.2.2.2.1.length c2,I x_1.2.2.2.2]) (.mV .a)))) (AZ kX 8 rfl 0 5 [I x_1.1,.s x_1.2.1,.s x_1.2.2.1,sl B x_1.2.2.2.1.length c2,I x_1.2.2.2.2]<|qe)<|ag ?_
   have lg:=kX.fD 5 rfl;have lZ:=lg.fD 1 rfl;refine bD hm fun yS FD hm=>?_;have pG:=lZ.P10.P10.P9.P5.P4.P10.P6.P10.P10.P10.P10;obtain⟨F1,O1,kin,hO,hre,hF,hb⟩:=pG.go (.i (.i (.i (.i (.i (.i (.i (.r (.r (.r (.r .e)))))))))));refine bT 50 dl_go6 (c_l27_step kin FD) ?_;rcases yS with Bf | Qc | AX
   ·simp only[Sum.elim_inl,Sum.elim_inr] at hm;rintro e_ EM ⟨A2,_,c3,Vq,A3,_,c4,ys4,rfl,rfl,rfl,nI⟩;have qO:=hb EM _ _ nI (.c (.c (.c (.c (.c (.c .n))))));refine⟨_,rfl,?_⟩;have qP:=qO.bP (.aP (.kk (.ss (.k .z))));refine We 5 (.n 10 (pt g2 0) (.n 11 (.b Bf.2.2.2.1) (.gI .a)))<|Wn<|ae<|ae<|Wq (.n 54 (.b (!Bf.2.2.2.1)) (.k (.s .a)))<|kF hm (fun hc5 hm=>?_) fun hc5 hm=>?_
    ·refine ae<|Wq (.n 4 (.b false) .z)<|aK (aU (dN (aU (aU (dN (aU ?_))))));have hm:=bz hm hr0;obtain rfl:=si hm;refine aN [.b false] qe ?_;have rQ:=qP.bP .z;exact⟨rfl,rQ⟩
    refine aH<|ay<|oP (.n 5 (pt g2 0) (.ss .a))<|df<|ay<|oP (.n 42 (I (bC (aO+1))) (.aP .z)) ?_;exact fF hm ⟨_,_,_,_,_,_,_,_,_,_,_,_,_,_,_,_,_,_,rfl,rfl,qP.iY 4 rfl,qP.dJ 5 rfl,qP⟩
   ·simp only[Sum.elim_inl,Sum.elim_inr] at hm;rintro e_ Jd ⟨A4,_,c5,ys5,A5,_,c6,ys6,rfl,rfl,rfl,qQ⟩;have rM:=hb Jd _ _ qQ (.c (.c (.c (.c (.c (.c .n))))));refine⟨_,rfl,?_⟩;have pI:=rM.bP (.ss (.s (.kk (.k (.ss (.k .z))))));refine We 5 (.n 10 (.v (.pointer none)) (.n 11 (.b false) (.gI .a)))<|Wn<|ae<|ae<|Wq (.n 54 (.b true) (.k (.s .a)))<|AY<|ae<|Wq (.n 4 (.b false) .z)<|aK (aU (dN (aU (aU (dN (aU ?_))))));have hm:=bz hm hr0;obtain rfl:=si hm;refine aN [.b false] qe ?_;have qU:=pI.bP .z;exact⟨rfl,qU⟩
   ·simp only[Sum.elim_inl,Sum.elim_inr] at hm;rintro e_ Kv ⟨g4,b4,b5,A6,_,c7,ys7,A7,_,c8,ys8,rfl,rfl,rfl,uD⟩;have vU:=hb Kv _ _ uD (.c (.c (.c (.c (.c (.c (.c (.c (.c .n)))))))));refine⟨_,rfl,?_⟩;have vG:=vU.bP (.kk (.k (.ss (.s (.kk (.k (.ss (.k .z))))))));refine We 5 (.n 10 (pt g4 0) (.n 11 (.b AX.2.2.2.1) (.gI .a)))<|Wn<|ae<|ae<|Wq (.n 54 (.b (!AX.2.2.2.1)) (.k (.s .a)))<|kF hm (fun hc6 hm=>?_) fun hc6 hm=>?_
    ·refine ae<|Wq (.n 4 (.b false) .z)<|aK (aU (dN (aU (aU (dN (aU ?_))))));have hm:=bz hm hr0;obtain rfl:=si hm;refine aN [.b false] qe ?_;have vJ:=vG.bP .z;exact⟨rfl,vJ⟩
    refine aH<|ay<|oP (.n 5 (pt g4 0) (.ss .a))<|df<|ay<|oP (.n 42 (I (bC (aO+1))) (.aP .z)) ?_;exact fF hm ⟨_,_,_,_,_,_,_,_,_,_,_,_,_,_,_,_,_,_,rfl,rfl,vG.iY 4 rfl,vG.dJ 5 rfl,vG⟩
  refine cZ (aX (aX (dZ ?_)));have hm:=bz hm hr0;refine ay<|ae<|au<|We 1 (.n 57 (pt g2 0) (.s (.kk .z)))<|ag<|bD hm fun UN h_r_11 hm=>?_;obtain⟨F11,Vd,tX,Ve,Ea,hF1,hb1⟩:=fC.go (.i (.i (.i (.r (.r (.r (.r .e)))))));refine bT 58 dl_go8 (Cb tX h_r_11) ?_;rintro e_ zk ⟨A8,_,c9,rfl,rfl,Bq⟩;have zZ:=hb1 zk _ _ Bq (.c (.c (.c (.c .n))));refine⟨_,rfl,?_⟩;have BR:=zZ.bP (.aP (.kk (.k .z)));refine We 1 (.n 59 (pt g1 0) (.k (.s .a)))<|ag ?_;have rU:=BR.fD 5 rfl;refine bD hm fun Qd h_r_12 hm=>?_;have yC:=rU.P6.P5.P5.P5.P5.P7.P6.P7;obtain⟨F12,O12,Ip,hO2,Vs,hF2,hb2⟩:=yC.go (.i (.i (.i (.r (.r (.r (.r (.r .e))))))));refine bT 60 dl_go9 (JH Ip h_r_12) ?_;rintro e_ BQ ⟨A9,_,c10,rfl,rfl,tY⟩;have Aa:=hb2 BQ _ _ tY (.c (.c (.c (.c .n))));refine⟨_,rfl,?_⟩;have Ac:=Aa.bP (.kk (.s (.aP (.kk .e))));refine ag<|bD hm fun Yc h_r_13 hm=>jb 61 U3 (Ho (Ro.n0 (Ac.rd 3 rfl)) (Ac.len 3 rfl) (Ac.KR 3 rfl) (Ro.n0 (Ac.rd 0 rfl)) (Ac.len 0 rfl) (Ac.KR 0 rfl) lY h_r_13) Ac fun Gw Eu=>?_;have CZ:=Eu.bP (.s (.kk (.s (.aP .e))));refine We 1 (.n 62 (.b Yc) (.gI .a))<|LD 62 Yc (.s .a) (by kernel_rfl) (fun hg=>?_) (fun hg=>?_)
  ·rw[if_pos hg] at hm;refine J4 1 [62] (.n 63 (pt g2 0) .a) qe (by kernel_rfl)<|ag<|bD hm fun KW h_r_14 hm=>?_;obtain⟨F13,O13,ML,hO3,hre3,hF3,hb3⟩:=CZ.go (.r (.r (.i (.i (.i (.r .e))))));refine oK [62] 64 _ dl_go11 (by kernel_rfl) (Gf ML h_r_14) ?_;rintro e_ Md ⟨fb,fb1,fb2,hfl,hfl1,Wu,rfl,MH⟩;have HY:=hb3 Md _ _ MH (.c (.c (.c .n)));refine E2<|J4 1 [62] (.n 65 (pt g1 0) (.k (.s .a))) qe (by kernel_rfl)<|ag ?_;have KC:=HY.bP (.aP (.kk .e));have Gx:=KC.fD 5 rfl;refine bD hm fun Ob h_r_15 hm=>?_;have Gy:=Gx.P6.P4.P4.P4.P6.P5.P6;obtain⟨F14,O14,O9,hO4,hre4,hF4,hb4⟩:=Gy.go (.i (.i (.i (.r (.r (.r (.r .e)))))));refine oK [62] 66 _ dl_go12 (by kernel_rfl) (IU O9 h_r_15) ?_;rintro e_ KY ⟨Ws,QV,YG,Wv,YH,hfl5,rfl,KZ⟩;have JB:=hb4 KY _ _ KZ (.c (.c (.c .n)));refine⟨_,rfl,?_⟩;have Jb:=JB.bP (.k (.s (.aP (.k .e))));refine ag<|bD hm fun Yd h_r_16 hm=>oK [62] 67 _ dl_go10 (by kernel_rfl) (Tj hfl hfl1 Wu Wv YH hfl5 lY h_r_16) ?_;rintro e_ Oc ⟨rfl,F7⟩;have H5:=Jb.call F7;refine E2<|J4 2 [62] (.n 69 (.b Yd) (.gI (.s .a))) qe (by kernel_rfl)<|LD 69 Yd (.s .a) (by kernel_rfl) (fun hg1=>?_) (fun hg1=>?_)
   ·rw[if_pos hg1] at hm;refine J4 1 [69] (.n 70 (pt g2 0) (.k (.s .a))) qe (by kernel_rfl)<|ag<|bD hm fun UY h_r_17 hm=>?_;obtain⟨F15,O15,O_,hO5,hre5,hF5,hb5⟩:=H5.go (.r (.r (.i (.i (.i (.r .e))))));refine oK [69] 71 _ dl_go14 (by kernel_rfl) (F9 O_ h_r_17) ?_;rintro e_ Vg ⟨A10,_,c11,rfl,rfl,H6⟩;have Jc:=hb5 Vg _ _ H6 (.c (.c (.c (.c .n))));refine⟨_,rfl,?_⟩;have KD:=Jc.bP (.k (.ss (.s (.kk (.k .e)))));refine J4 1 [69] (.n 72 (pt g1 0) (.k (.s (.k .z)))) qe (by kernel_rfl)<|ag ?_;have KE:=KD.fD 3 rfl;refine bD hm fun V6 h_r_18 hm=>?_;have Rx:=KE.P4.P2.P4.P3.P4;obtain⟨F16,O16,Vt,hO6,hre6,hF6,hb6⟩:=Rx.go (.i (.i (.i (.r (.r .e)))));refine oK [69] 73 _ dl_go15 (by kernel_rfl) (Ti Vt h_r_18) ?_;rintro e_ Qv ⟨A11,_,c12,A12,_,c13,ys9,A13,_,c14,ys10,rfl,rfl,rfl,rfl,K_⟩;have Qw:=hb6 Qv _ _ K_ (.c (.c (.c (.c .n))));refine⟨_,rfl,?_⟩;have Qx:=Qw.bP (.k (.ss (.s (.k .z))));refine ag ?_;have JC:=Qx.bP (.kk .e);refine bD hm fun Ye h_r_19 hm=>oK [69] 74 _ Yg (by kernel_rfl) (MO (Ro.n0 (JC.rd 1 rfl)) (JC.len 1 rfl) (JC.KR 1 rfl) (Ro.n0 (JC.rd 0 rfl)) (JC.len 0 rfl) (JC.KR 0 rfl) lY h_r_19) ?_;rintro e_ TG ⟨rfl,Qy⟩;have KF:=JC.call Qy;refine⟨_,rfl,?_⟩;have JD:=KF.bP .z;refine J4 2 [69] (.n 4 (.b Ye) .z) qe (by kernel_rfl)<|Wn<|aK ?_;obtain rfl:=si hm;refine aN [.b Ye] qe ?_;exact⟨rfl,JD⟩
   ·rw[if_neg (by rw[hg1];decide)] at hm;refine J4 7 [69] (.n 4 (.b false) .z) qe (by kernel_rfl)<|Wn<|aK ?_;obtain rfl:=si hm;refine aN [.b false] qe ?_;have O3:=H5.bP .z;exact⟨rfl,O3⟩
  ·rw[if_neg (by rw[hg];decide)] at hm;refine J4 7 [62] (.n 69 (.b false) (.s .a)) qe (by kernel_rfl)<|J4 7 [69] (.n 4 (.b false) .z) qe (by kernel_rfl)<|Wn<|aK ?_;obtain rfl:=si hm;refine aN [.b false] qe ?_;have KG:=CZ.bP .z;exact⟨rfl,KG⟩
end
section
variable {γ δ:Type}
def RG2 (F:Nat->Prop)(w:World)(E:Enc γ)(r:γ->δ->Prop)(h:Hd×List γ)(x:List δ):Prop:=h.1.2.1=x.length/\x.length<=h.1.2.2/\Nq F w E r h.1.1 h.2 x
theorem RG2.sh {w:World}{E:Enc γ}{r:γ->δ->Prop}{q:Rl γ δ}{y:Hd×List γ}{x:List δ}(h:RG2 N0 w E r y x)(conv:∀ y x,r y x->q.r w (BW w) y x):(nJ E q).r w (BW w) y x:=by
  obtain⟨h1,h2,h3⟩:=h;obtain⟨⟨hr,_⟩,hl,he⟩:=h3;refine⟨h1,h2,hr,fun hne a ha=>?_,hl,fun j y' z e1 e2=>conv _ _ (he j y' z e1 e2)⟩;cases hx:E.all y.2 with
  | nil=>exact absurd hx hne
  | cons c cs =>
    have h5:=hr.2 a 0 c ha (by rw[hx];rfl);have hb:(a.add 0).block < w.heap.size:=World.block_lt_of_cell? w _ h5
    rwa [uH] at hb
end
section
open Go.RowKit
set_option linter.unusedVariables false
set_option linter.unusedSimpArgs false
theorem oL (i:Nat)(h:i<=1000000000):bC ((i:Int)+1)=((i+1:Nat):Int):=by rw[jP (by omega)];omega
theorem bsame_eq (a b:AC)(ha:a.length<=16000000):BM a b=some (decide (a=b)):=by
  unfold BM;by_cases hn:((a.length:Nat):Int)≠((b.length:Nat):Int)
  ·rw[if_pos hn];congr 1;exact(A0q fun e=>hn (by rw[e])).symm
  rw[if_neg hn];have hl:a.length=b.length:=by omega
  refine Ai (fun i s=>s=(i:Int)/\i<=a.length/\a.take i=b.take i) _ a.length _ ⟨rfl,by omega,rfl⟩ ?_;rintro i s ⟨rfl,hi,he⟩;unfold yT;by_cases hlt:i < a.length
  ·rw[if_pos (by omega),bf hlt,bf (show i < b.length by omega)];simp only[A0o];by_cases hx:a[i]=b[i]
   ·left;refine⟨hlt,_,by rw[if_neg (by simpa using hx)],by rw[oL i (by omega)],by omega,?_⟩;rw[A0m,A0m,he,A0l hlt,A0l (show i < b.length by omega),hx]
   ·right;rw[if_pos hx];simp only[Option.map_some,Option.some.injEq,Sum.inr.injEq];refine(A0q fun e=>hx ?_).symm;subst e;rfl
  ·right;obtain rfl:i=a.length:=by omega
   rw[if_neg (by omega)];simp only[Option.map_some,Option.some.injEq,Sum.inr.injEq];rw[A0h,hl,A0h] at he;exact(A0p he).symm
theorem dsame_eq (a b:AC)(ha:a.length<=16000000):uM a b=some (decide (a=b)):=by
  unfold uM;rw[bsame_eq a b ha];rfl
def spr (s:UInt64)(x:UInt8):UInt64:=2*s+(UInt64.ofNat x.toNat+1)*11400714819323198485
def Tm (n:Nat)(s:UInt64):Bool:=decide (n=1024)||(decide (64<=n)&&decide (oU s ((58:UInt64).toNat)=0))
def cut:AC->AC->UInt64->WP
  | [],_,_=>[]
  | x::r,p,s=>if(Tm (p.length+1) (spr s x)||r.isEmpty)=true then(p++[x])::cut r [] 0 else cut r (p++[x]) (spr s x)
theorem Vy:∀ (r p:AC)(s:UInt64),r≠[]->(cut r p s).flatten=p++r
  | [],_,_,h=>absurd rfl h
  | x::r,p,s,_=>by
    unfold cut;split
    ·rename_i hc;cases r with
     | nil=>simp[cut]
     | cons y r=>rw[A1E,Vy (y::r) [] 0 (by simp)];simp
    ·rename_i hc;cases r with
     | nil=>simp at hc
     | cons y r=>rw[Vy (y::r) _ _ (by simp)];simp
theorem cut_all (data:AC):(cut data [] 0).flatten=data:=by
  cases data with
  | nil=>rfl
  | cons x r=>rw[Vy _ _ _ (by simp)];rfl
theorem EC:∀ (r p:AC)(s:UInt64),p.length < 1024->∀ c ∈ cut r p s,1<=c.length/\c.length<=1024
  | [],_,_,_,c,h=>by cases h
  | x::r,p,s,hp,c,h=>by
    unfold cut at h;split at h
    ·rcases ut.1 h with rfl | h
     ·simp;omega
     ·exact EC r [] 0 (by simp) c h
    ·rename_i hc;have hne:p.length+1≠1024:=fun e=>hc (by simp[Tm,e]);exact EC r _ _ (by simp;omega) c h
theorem JK (data:AC):(cut data [] 0).length<=data.length:=by
  have h1:=cut_all data;have h2:=EC data [] 0 (by simp);have key:∀ l:WP,(∀ c ∈ l,1<=c.length/\c.length<=1024)->l.length<=l.flatten.length:=by
    intro l
    induction l with
    | nil=>intro _;simp
    | cons c l ih =>
      intro h;have:=ih fun x hx=>h x (A0e _ hx);have:=(h c A0g).1;simp only[bi,A1E,Pi];omega
  have:=key _ h2;rw[h1] at this;exact this
theorem shl_two (s:UInt64):zq s ((1:UInt64).toNat)=2*s:=by
  rw[<- UInt64.toNat_inj];show((s.toBitVec <<< 1:BitVec 64)).toNat=_;rw[BitVec.toNat_shiftLeft,Nat.shiftLeft_eq,UInt64.toNat_mul];show s.toNat*2 ^ 1 % 2 ^ 64=(2*s.toNat) % 2 ^ 64;rw[Nat.mul_comm]
theorem drop_at (data:AC)(i:Nat)(h:i < data.length):data.drop i=data[i]::data.drop (i+1):=A0f h
theorem Xb (data:AC)(f i:Nat)(hf:f<=i)(h:i < data.length):(data.take (i+1)).drop f=(data.take i).drop f++[data[i]]:=by
  rw[A0m,A0l h,List.drop_append,A0i,show f - min i data.length=0 from by omega];rfl
theorem Vz (data:AC)(hd:data.length<=1048576):xQ data=some (cut data [] 0,0):=by
  unfold xQ;rw[if_neg (by omega)];have go:∀ (d i f:Nat) (l:WP) (s:UInt64),d+i=data.length->f<=i->l.length<=i ->
      aQ (rW data) (l,(f:Int),s,(i:Int))=some (l++cut (data.drop i) ((data.take i).drop f) s,0):=by
    intro d
    induction d with
    | zero =>
      intro i f l s hdi hf hl;refine fZ ?_;unfold rW;simp only[];rw[if_neg (by omega),List.drop_eq_nil_of_le (by omega)];simp[cut]
    | succ d ih =>
      intro i f l s hdi hf hl;have hi:i < data.length:=by omega
      have hpl:((data.take i).drop f).length+1=i+1 - f:=by simp;omega
      have hw:bC (bC ((i:Int)+1) - (f:Int))=((i+1 - f:Nat):Int):=by rw[oL i (by omega),jP (by omega)];omega
      have hemp:(data.drop (i+1)).isEmpty=decide ((i:Int)=bC (((data.length:Nat):Int) - 1)):=by
        rw[jP (by omega)];by_cases he:i+1=data.length
        ·rw[List.drop_eq_nil_of_le (by omega),A0p (by omega)];rfl
        ·rw[A0q (by omega)];cases hq:data.drop (i+1) with
         | nil=>have:=congrArg List.length hq;simp at this;omega
         | cons _ _=>rfl
      have hcond:((decide ((bC ((bC ((i:Int)+1)) - (f:Int)))=1024))||((decide (64<=(bC ((bC ((i:Int)+1)) - (f:Int)))))&&(decide ((oU ((zq s ((1:UInt64).toNat))+(((UInt64.ofNat data[i].toNat)+1)*11400714819323198485)) ((58:UInt64).toNat))=0)))) =
          Tm (((data.take i).drop f).length+1) (spr s data[i]):=by
        rw[hw,hpl,shl_two];unfold Tm spr;congr 1
        ·exact decide_eq_decide.2 (by omega)
        ·congr 1;exact decide_eq_decide.2 (by omega)
      rw[drop_at data i hi];unfold cut;by_cases hc:(Tm (((data.take i).drop f).length+1) (spr s data[i])||(data.drop (i+1)).isEmpty)=true
      ·rw[if_pos hc];refine(fE (s':=(l++[(data.take (i+1)).drop f],((i+1:Nat):Int),0,((i+1:Nat):Int))) ?_).trans ?_
       ·unfold rW rV;simp only[];rw[if_pos (by omega),bf hi];simp only[A0o];rw[hcond,<-hemp,if_pos hc,oL i (by omega),Eg (by omega)];simp only[A0o,A0Z];rw[uJ (by simp;omega)];simp only[A0o,List.nil_append];rw[uJ (by simp;omega)];rfl
       ·rw[ih (i+1) (i+1) _ _ (by omega) (by omega) (by simp;omega),show(data.take (i+1)).drop (i+1)=[] from List.drop_eq_nil_of_le (by simp;omega),Xb data f i hf hi,ul];rfl
      ·rw[if_neg hc,<-Xb data f i hf hi];refine(fE (s':=(l,(f:Int),spr s data[i],((i+1:Nat):Int))) ?_).trans (ih (i+1) f l _ (by omega) (by omega) (by omega));unfold rW rV;simp only[];rw[if_pos (by omega),bf hi];simp only[A0o];rw[hcond,<-hemp,if_neg hc,oL i (by omega),shl_two];rfl
  have:=go data.length 0 0 [] 0 (by omega) (by omega) (by simp);simpa using this
theorem rchunks_ok (data:AC)(hd:data.length<=1048576):DF data=some (cut data [] 0,0):=by
  unfold DF;rw[if_neg (by omega)];have go:∀ (d i:Nat) (l:WP) (p:AC) (s:UInt64),d+i=data.length->p.length<=i->l.length<=i ->
      aQ (vX data) (l,p,s,(i:Int))=some (l++cut (data.drop i) p s,0):=by
    intro d
    induction d with
    | zero =>
      intro i l p s hdi hp hl;refine fZ ?_;unfold vX;simp only[];rw[if_neg (by omega),List.drop_eq_nil_of_le (by omega)];simp[cut]
    | succ d ih =>
      intro i l p s hdi hp hl;have hi:i < data.length:=by omega
      have hemp:(data.drop (i+1)).isEmpty=decide ((i:Int)=bC (((data.length:Nat):Int) - 1)):=by
        rw[jP (by omega)];by_cases he:i+1=data.length
        ·rw[List.drop_eq_nil_of_le (by omega),A0p (by omega)];rfl
        ·rw[A0q (by omega)];cases hq:data.drop (i+1) with
         | nil=>have:=congrArg List.length hq;simp at this;omega
         | cons _ _=>rfl
      have hcond:((decide (((p.length+1:Nat):Int)=1024))||((decide (64<=((p.length+1:Nat):Int)))&&(decide ((oU (((2:UInt64)*s)+(((UInt64.ofNat data[i].toNat)+1)*11400714819323198485)) ((58:UInt64).toNat))=0)))) =
          Tm (p.length+1) (spr s data[i]):=by
        unfold Tm spr;congr 1
        ·exact decide_eq_decide.2 (by omega)
        ·congr 1;exact decide_eq_decide.2 (by omega)
      rw[drop_at data i hi];unfold cut;by_cases hc:(Tm (p.length+1) (spr s data[i])||(data.drop (i+1)).isEmpty)=true
      ·rw[if_pos hc];refine(fE (s':=(l++[p++[data[i]]],[],0,((i+1:Nat):Int))) ?_).trans ?_
       ·unfold vX vW;simp only[];rw[if_pos (by omega),bf hi];simp only[A0o];rw[uJ (by simp;omega)];simp only[A0o];rw[hcond,<-hemp,if_pos hc,uJ (by simp;omega),oL i (by omega)];rfl
       ·rw[ih (i+1) _ _ _ (by omega) (by simp) (by simp;omega),ul];rfl
      ·rw[if_neg hc];refine(fE (s':=(l,p++[data[i]],spr s data[i],((i+1:Nat):Int))) ?_).trans (ih (i+1) l _ _ (by omega) (by simp;omega) (by omega));unfold vX vW;simp only[];rw[if_pos (by omega),bf hi];simp only[A0o];rw[uJ (by simp;omega)];simp only[A0o];rw[hcond,<-hemp,if_neg hc,oL i (by omega)];rfl
  have:=go data.length 0 [] [] 0 (by omega) (by simp) (by simp);simpa using this
theorem dawake_ok:Fe=some true:=by
  unfold Fe;rw[Vz _ (by simp)];simp only[A0o];rw[show cut ([97,98,99]:AC) [] 0=[[97,98,99]] from by decide +kernel];rw[if_pos (by decide)];rw[show aW ([[97,98,99]]:WP) (0:Int)=some [97,98,99] from rfl];simp only[A0o];rw[dsame_eq _ _ (by simp)];rfl
end
section
open Go.RowKit
set_option linter.unusedVariables false
set_option linter.unusedSimpArgs false
def byI (i:Nat):UInt8:=UInt8.ofInt (i:Int)
theorem set_rep (v:UInt8)(b:AC)(k:Nat)(hk:k < b.length):(List.replicate k v++b.drop k).set k v=List.replicate (k+1) v++b.drop (k+1):=by
  rw[List.set_append_right _ _ (by simp),List.length_replicate,Nat.sub_self,A0f hk,A0y,List.replicate_succ',ul];rfl
theorem wipe1_ok (l1:WP)(i:Nat)(b:AC)(hi:i < l1.length)(hb:l1[i]=b)(hbl:b.length<=16000000)(hil:i<=16000000) :
    aQ (EJ (i:Int) b) (l1,(0:Int))=some (.inl (l1.set i (List.replicate (b.length+1) (byI i)),((i+1:Nat):Int))):=by
  refine Ai (fun k s=>s=(l1.set i (List.replicate k (byI i)++b.drop k),(k:Int))/\k<=b.length) _ b.length _ ⟨?_,by omega⟩ ?_
  ·congr 1;rw[List.replicate_zero,List.nil_append,A1C,<-hb,List.set_getElem_self]
  ·rintro k s ⟨rfl,hk⟩;unfold EJ;simp only[];have hg:aW (l1.set i (List.replicate k (byI i)++b.drop k)) (i:Int)=some (List.replicate k (byI i)++b.drop k):=by
     rw[bf (by simpa using hi)];simp
   by_cases hlt:k < b.length
   ·left;rw[if_pos (by omega),hg];simp only[A0o];rw[bf (by simp;omega)];simp only[A0o,A0Z];refine⟨hlt,_,rfl,?_,by omega⟩;rw[List.set_set,oL k (by omega),show UInt8.ofInt (i:Int)=byI i from rfl,set_rep _ b k hlt]
   ·right;obtain rfl:k=b.length:=by omega
    rw[if_neg (by omega),hg];simp only[A0o];rw[uJ (by simp;omega)];simp only[A0o,A0Z,Option.map_some];rw[List.set_set,oL i (by omega),List.drop_length,List.append_nil,List.replicate_succ'];rfl
def rowI (l:WP)(j:Nat):AC:=List.replicate ((l.getD j []).length+1) (byI j)
def Mk (l:WP)(i:Nat):WP:=(List.range i).map (rowI l)++l.drop i
theorem Mk_len (l:WP)(i:Nat)(h:i<=l.length):(Mk l i).length=l.length:=by simp[Mk];omega
theorem Mk_get (l:WP)(i:Nat)(h:i < l.length):(Mk l i)[i]'(by rw[Mk_len l i (by omega)];exact h)=l[i]:=by
  unfold Mk;rw[List.getElem_append_right (by simp)];simp
theorem Mk_set (l:WP)(i:Nat)(h:i < l.length):(Mk l i).set i (List.replicate (l[i].length+1) (byI i))=Mk l (i+1):=by
  unfold Mk;rw[List.set_append_right _ _ (by simp),A0f h];simp only[A0a,List.length_range,Nat.sub_self,A0y];rw[List.range_succ,List.map_append,ul];simp[rowI,List.getD,A0l h]
theorem wipe_ok (l:WP)(hl:l.length<=16000000)(hr:∀ x ∈ l,x.length<=16000000):Em l=some true:=by
  unfold Em;have h0:((l,(0:Int)):WP×Int)=(Mk l 0,((0:Nat):Int)):=by simp[Mk]
  rw[h0];refine gm (fun i=>(Mk l i,(i:Int))) l.length (fun i hi=>?_) ?_
  ·unfold EL;simp only[];have hM:i < (Mk l i).length:=by rw[Mk_len l i (by omega)];exact hi
   rw[if_pos (by omega),bf hM];simp only[A0o];rw[Mk_get l i hi,wipe1_ok (Mk l i) i l[i] hM (Mk_get l i hi) (hr _ (lw hi)) (by omega),Mk_set l i hi]
  ·unfold EL;simp only[];rw[if_neg (by omega)];have hML:=Mk_len l l.length (Nat.le_refl _);have hw:aQ (Be (Mk l l.length)) (0:Int)=some true:=by
     refine gm (fun i=>(i:Int)) l.length (fun i hi=>?_) ?_
     ·have hiM:i < (Mk l l.length).length:=by omega
      have hrow:aW (Mk l l.length) (i:Int)=some (rowI l i):=by
        rw[bf hiM,<-A0l hiM];unfold Mk;rw[List.getElem?_append_left (by simpa using hi)];simp[hi]
      unfold Be;rw[if_pos (by omega),hrow];simp only[A0o];have hrl:(rowI l i).length<=16000001:=by
        unfold rowI;simp only[List.length_replicate,List.getD,A0l hi,Option.getD_some];have:=hr _ (lw hi);omega
      refine gm (fun k=>(k:Int)) (rowI l i).length (fun k hk=>?_) ?_
      ·unfold EK;rw[if_pos (by omega),hrow];simp only[A0o];rw[bf hk];simp only[A0o];rw[if_neg (by simp[rowI,byI]),oL k (by omega)]
      ·unfold EK;rw[if_neg (by omega),oL i (by omega)];rfl
     ·unfold Be;rw[if_neg (by omega)];rfl
   rw[hw];rfl
end
section
open Go.RowKit
set_option linter.unusedVariables false
set_option linter.unusedSimpArgs false
section
variable {α σ ρ:Type}
def Vec.g [Inhabited α]{n:Nat}(v:Vec α n)(i:Nat):α:=v.l.getD i default
theorem mZ [Inhabited α]{n:Nat}(v:Vec α n)(i:Nat)(h:i < n):aW v.l (i:Int)=some (v.g i):=by
  have hl:i < v.l.length:=by rw[v.h];exact h
  rw[bf hl];simp[Vec.g,List.getD_eq_getElem?_getD,hl]
theorem kL (i:Nat)(h:i < 1000000000000000000):bC ((i:Int)+1)=((i+1:Nat):Int):=by rw[jP (by omega)];omega
theorem JL (step:σ×Int->Option ((σ×Int)⊕ρ))(n:Nat)(F:σ->Nat->σ)(s:σ)(r:ρ)(h:∀ s i,i < n->step (s,(i:Int))=some (.inl (F s i,((i+1:Nat):Int))))
    (he:step ((List.range n).foldl F s,(n:Int))=some (.inr r)):aQ step (s,0)=some r:=by
  refine gm (fun i=>((List.range i).foldl F s,(i:Int))) n (fun i hi=>?_) he;show step ((List.range i).foldl F s,(i:Int))=some (.inl ((List.range (i+1)).foldl F s,((i+1:Nat):Int)));rw[h _ _ hi,List.range_succ,List.foldl_append];rfl
theorem vec8 {v:Vec α 8}:∃ a b c d e f g h,v=⟨[a,b,c,d,e,f,g,h],rfl⟩:=by
  obtain⟨l,hl⟩:=v
  match l,hl with
  | [a,b,c,d,e,f,g,h],_=>exact⟨a,b,c,d,e,f,g,h,rfl⟩
end
def KQ (x:UInt64)(k:Nat):UInt64:=oU x k|||zq x (64 - k)
theorem rl32 (x:UInt64):jU x (-32)=some (KQ x 32):=by
  show some (zq x 32|||oU x 32)=_;rw[UInt64.or_comm];rfl
theorem rl24 (x:UInt64):jU x (-24)=some (KQ x 24):=by
  show some (zq x 40|||oU x 24)=_;rw[UInt64.or_comm];rfl
theorem rl16 (x:UInt64):jU x (-16)=some (KQ x 16):=by
  show some (zq x 48|||oU x 16)=_;rw[UInt64.or_comm];rfl
theorem rl63 (x:UInt64):jU x (-63)=some (KQ x 63):=by
  show some (zq x 1|||oU x 63)=_;rw[UInt64.or_comm];rfl
theorem tn32 (x:UInt64):qG x 32=some (KQ x 32):=by kernel_rfl
theorem tn24 (x:UInt64):qG x 24=some (KQ x 24):=by kernel_rfl
theorem tn16 (x:UInt64):qG x 16=some (KQ x 16):=by kernel_rfl
theorem tn63 (x:UInt64):qG x 63=some (KQ x 63):=by kernel_rfl
def Gb (v:Vec UInt64 16)(a b c d:Nat)(x y:UInt64):Vec UInt64 16 :=
  let v1:=zA v a (v.g a+(v.g b+x))
  let v2:=zA v1 d (KQ (v1.g d^^^v1.g a) 32)
  let v3:=zA v2 c (v2.g c+v2.g d)
  let v4:=zA v3 b (KQ (v3.g b^^^v3.g c) 24)
  let v5:=zA v4 a (v4.g a+(v4.g b+y))
  let v6:=zA v5 d (KQ (v5.g d^^^v5.g a) 16)
  let v7:=zA v6 c (v6.g c+v6.g d)
  zA v7 b (KQ (v7.g b^^^v7.g c) 63)
theorem step_ok (v:Vec UInt64 16)(a b c d:Nat)(x y:UInt64)(ha:a < 16)(hb:b < 16)(hc:c < 16)(hd:d < 16)(p:Vec Int 4)(hp:p.l=[(a:Int),(b:Int),(c:Int),(d:Int)]):EU v p x y=some (Gb v a b c d x y):=by
  unfold EU;have e0:aW p.l 0=some (a:Int):=by rw[hp];rfl
  have e1:aW p.l 1=some (b:Int):=by rw[hp];rfl
  have e2:aW p.l 2=some (c:Int):=by rw[hp];rfl
  have e3:aW p.l 3=some (d:Int):=by rw[hp];rfl
  simp only[e0,e1,e2,e3,mZ _ a ha,mZ _ b hb,mZ _ c hc,mZ _ d hd,A0o,rl32,rl24,rl16,rl63];rfl
theorem G_ok (v:Vec UInt64 16)(a b c d:Nat)(x y:UInt64)(ha:a < 16)(hb:b < 16)(hc:c < 16)(hd:d < 16)(hn:a≠b/\a≠c/\a≠d/\b≠c/\b≠d/\c≠d):PZ v a b c d x y=some (Gb v a b c d x y,0):=by
  have pl:∀ i:Nat,i < 16->yh (i:Int)=some true:=by
    intro i hi;unfold yh;simp only[Option.some.injEq,A0k,lm];omega
  unfold PZ;simp only[pl a ha,pl b hb,pl c hc,pl d hd,A0o,Bool.not_true,Bool.false_or,Bool.or_eq_true,lm,A0z,if_false,false_or];rw[if_neg (by omega)];simp only[mZ _ a ha,mZ _ b hb,mZ _ c hc,mZ _ d hd,A0o,tn32,tn24,tn16,tn63,UInt64.add_assoc];rfl
def pls:List (Nat×Nat×Nat×Nat):=[(0,4,8,12),(1,5,9,13),(2,6,10,14),(3,7,11,15),(0,5,10,15),(1,6,11,12),(2,7,8,13),(3,4,9,14)]
def pl (i:Nat):Nat×Nat×Nat×Nat:=pls.getD i (0,0,0,0)
theorem pl_ok:∀ i:Nat,i < 8->(pl i).1 < 16/\(pl i).2.1 < 16/\(pl i).2.2.1 < 16/\(pl i).2.2.2 < 16/\(pl i).1≠(pl i).2.1/\(pl i).1≠(pl i).2.2.1/\(pl i).1≠(pl i).2.2.2/\(pl i).2.1≠(pl i).2.2.1/\(pl i).2.1≠(pl i).2.2.2/\(pl i).2.2.1≠(pl i).2.2.2:=by decide
def sgs:A01:=[0,1,2,3,4,5,6,7,8,9,10,11,12,13,14,15,14,10,4,8,9,15,13,6,1,12,0,2,11,7,5,3,11,8,12,0,5,2,15,13,10,14,3,6,7,1,9,4,7,9,3,1,13,12,11,14,2,6,5,10,4,0,15,8,9,0,5,7,2,4,10,15,14,1,11,12,6,8,3,13,2,12,6,10,0,11,8,3,4,13,7,5,15,14,1,9,12,5,1,15,14,13,4,10,0,7,6,3,9,2,8,11,13,11,7,14,12,1,3,9,5,0,15,4,8,6,2,10,6,15,14,9,11,3,0,8,12,2,13,7,1,4,10,5,10,2,8,4,7,6,1,5,15,11,9,14,3,12,13,0]
def sg (r i:Nat):Nat:=sgs.getD (16*(r % 10)+i) 0
theorem sg_lt:∀ r:Nat,r < 12->∀ i:Nat,i < 16->sg r i < 16:=by decide +kernel
theorem rsg:∀ r:Nat,r < 12->∀ i:Nat,i < 16->E8 (r:Int) (i:Int)=some (sg r i:Int):=by decide +kernel
theorem wsg (r:Nat)(hr:r < 12):∃ row,Gp (r:Int)=some row/\∀ i:Nat,i < 16->aW row.l (i:Int)=some (sg r i:Int):=by
  match r,hr with
  | 0,_=>exact⟨_,rfl,by decide +kernel⟩
  | 1,_=>exact⟨_,rfl,by decide +kernel⟩
  | 2,_=>exact⟨_,rfl,by decide +kernel⟩
  | 3,_=>exact⟨_,rfl,by decide +kernel⟩
  | 4,_=>exact⟨_,rfl,by decide +kernel⟩
  | 5,_=>exact⟨_,rfl,by decide +kernel⟩
  | 6,_=>exact⟨_,rfl,by decide +kernel⟩
  | 7,_=>exact⟨_,rfl,by decide +kernel⟩
  | 8,_=>exact⟨_,rfl,by decide +kernel⟩
  | 9,_=>exact⟨_,rfl,by decide +kernel⟩
  | 10,_=>exact⟨_,rfl,by decide +kernel⟩
  | 11,_=>exact⟨_,rfl,by decide +kernel⟩
def Sb (m:Vec UInt64 16)(r:Nat)(v:Vec UInt64 16)(i:Nat):Vec UInt64 16:=Gb v (pl i).1 (pl i).2.1 (pl i).2.2.1 (pl i).2.2.2 (m.g (sg r (2*i))) (m.g (sg r (2*i+1)))
def Rb (v m:Vec UInt64 16)(r:Nat):Vec UInt64 16:=(List.range 8).foldl (Sb m r) v
theorem two_i (i:Nat)(h:i < 100):bC (2*(i:Int))=((2*i:Nat):Int):=by rw[jP (by omega)];omega
theorem turn_ok (v m:Vec UInt64 16)(r:Nat)(hr:r < 12):EW v m (r:Int)=some (Rb v m r,m):=by
  obtain⟨row,h1,h2⟩:=wsg r hr;unfold EW;rw[h1];simp only[A0o];unfold EG;simp only[A0o];refine JL _ 8 (Sb m r) v _ (fun v i hi=>?_) ?_
  ·unfold GZ;obtain⟨p1,p2,p3,p4,_⟩:=pl_ok i hi;simp only[];rw[if_pos (by omega),two_i i (by omega),kL _ (by omega),kL _ (by omega),h2 _ (by omega),h2 _ (by omega)];simp only[A0o];rw[mZ _ _ (sg_lt r hr _ (by omega)),mZ _ _ (sg_lt r hr _ (by omega))];have key:∃ p:Vec Int 4,aW (⟨[(⟨[0,4,8,12],rfl⟩:Vec Int 4),(⟨[1,5,9,13],rfl⟩:Vec Int 4),(⟨[2,6,10,14],rfl⟩:Vec Int 4),(⟨[3,7,11,15],rfl⟩:Vec Int 4),(⟨[0,5,10,15],rfl⟩:Vec Int 4),(⟨[1,6,11,12],rfl⟩:Vec Int 4),(⟨[2,7,8,13],rfl⟩:Vec Int 4),(⟨[3,4,9,14],rfl⟩:Vec Int 4)],rfl⟩:Vec (Vec Int 4) 8).l (i:Int)=some p/\p.l=[((pl i).1:Int),((pl i).2.1:Int),((pl i).2.2.1:Int),((pl i).2.2.2:Int)]:=by
     match i,hi with
     | 0,_=>exact⟨_,rfl,rfl⟩
     | 1,_=>exact⟨_,rfl,rfl⟩
     | 2,_=>exact⟨_,rfl,rfl⟩
     | 3,_=>exact⟨_,rfl,rfl⟩
     | 4,_=>exact⟨_,rfl,rfl⟩
     | 5,_=>exact⟨_,rfl,rfl⟩
     | 6,_=>exact⟨_,rfl,rfl⟩
     | 7,_=>exact⟨_,rfl,rfl⟩
   obtain⟨p,k1,k2⟩:=key;rw[k1];simp only[A0o];rw[step_ok v _ _ _ _ _ _ p1 p2 p3 p4 p k2];rfl
  ·rfl
theorem Places_ok (i:Nat)(hi:i < 8):∃ p:Vec Int 4,Gt (i:Int)=some p/\p.l=[((pl i).1:Int),((pl i).2.1:Int),((pl i).2.2.1:Int),((pl i).2.2.2:Int)]:=by
  match i,hi with
  | 0,_=>exact⟨_,rfl,rfl⟩
  | 1,_=>exact⟨_,rfl,rfl⟩
  | 2,_=>exact⟨_,rfl,rfl⟩
  | 3,_=>exact⟨_,rfl,rfl⟩
  | 4,_=>exact⟨_,rfl,rfl⟩
  | 5,_=>exact⟨_,rfl,rfl⟩
  | 6,_=>exact⟨_,rfl,rfl⟩
  | 7,_=>exact⟨_,rfl,rfl⟩
theorem Round_ok (v m:Vec UInt64 16)(r:Nat)(hr:r < 12):E_ v m (r:Int)=some (Rb v m r,0):=by
  unfold E_;rw[if_neg (by simp only[Bool.or_eq_true,lm];omega)];refine JL _ 8 (Sb m r) v _ (fun v i hi=>?_) ?_
  ·unfold G6;obtain⟨p1,p2,p3,p4,hn⟩:=pl_ok i hi;obtain⟨p,k1,k2⟩:=Places_ok i hi;have e0:aW p.l 0=some ((pl i).1:Int):=by rw[k2];rfl
   have e1:aW p.l 1=some ((pl i).2.1:Int):=by rw[k2];rfl
   have e2:aW p.l 2=some ((pl i).2.2.1:Int):=by rw[k2];rfl
   have e3:aW p.l 3=some ((pl i).2.2.2:Int):=by rw[k2];rfl
   simp only[];rw[if_pos (by omega),k1,two_i i (by omega),kL _ (by omega),kL _ (by omega)];simp only[A0o,e0,e1,e2,e3];rw[rsg r hr _ (by omega),rsg r hr _ (by omega)];simp only[A0o];rw[mZ _ _ (sg_lt r hr _ (by omega)),mZ _ _ (sg_lt r hr _ (by omega))];simp only[A0o];rw[G_ok v _ _ _ _ _ _ p1 p2 p3 p4 hn];rfl
  ·rfl
end
section
open Go.RowKit
set_option linter.unusedVariables false
set_option linter.unusedSimpArgs false
def ivb:List UInt64:=[7640891576956012808,13503953896175478587,4354685564936845355,11912009170470909681,5840696475078001361,11170449401992604703,2270897969802886507,6620516959819538809]
def I0b (h:Vec UInt64 8):Vec UInt64 16:=⟨h.l++ivb,by simp[h.h,ivb]⟩
def Ib (h:Vec UInt64 8)(lo hi:UInt64)(last node:Bool):Vec UInt64 16 :=
  let v0:=I0b h
  let v1:=zA v0 12 (v0.g 12^^^lo)
  let v2:=zA v1 13 (v1.g 13^^^hi)
  let v3:=if last then zA v2 14 (18446744073709551615^^^v2.g 14) else v2
  if node then zA v3 15 (18446744073709551615^^^v3.g 15) else v3
theorem wInit (h:Vec UInt64 8)(lo hi:UInt64)(last node:Bool):Iz h lo hi last node=some (Ib h lo hi last node):=by
  obtain⟨a,b,c,d,e,f,g,q,rfl⟩:=vec8 (v:=h);cases last <;> cases node <;> kernel_rfl
theorem riv (i:Nat)(hi:i < 8):LX (i:Int)=some (ivb.getD i 0):=by
  match i,hi with
  | 0,_=>rfl
  | 1,_=>rfl
  | 2,_=>rfl
  | 3,_=>rfl
  | 4,_=>rfl
  | 5,_=>rfl
  | 6,_=>rfl
  | 7,_=>rfl
theorem YL (i:Nat)(h:i < 100):bC ((i:Int)+8)=((i+8:Nat):Int):=by rw[jP (by omega)];omega
theorem rInit (h:Vec UInt64 8)(lo hi:UInt64)(last node:Bool):G5 h lo hi last node=some (Ib h lo hi last node):=by
  unfold G5;refine JL _ 8 (fun v i=>zA (zA v i (h.g i)) ((i+8:Nat):Int) (ivb.getD i 0)) _ _ (fun v i hi=>?_) ?_
  ·unfold IZ;simp only[];rw[if_pos (by omega),mZ _ _ hi,mZ _ _ (by omega),YL i (by omega),kL i (by omega),riv i hi];simp only[A0o];rw[mZ _ _ (by omega)];rfl
  ·obtain⟨a,b,c,d,e,f,g,q,rfl⟩:=vec8 (v:=h);cases last <;> cases node <;> kernel_rfl
def Eb (v:Vec UInt64 16)(h:Vec UInt64 8)(i:Nat):Vec UInt64 8:=zA h i (h.g i^^^(v.g i^^^v.g (i+8)))
def Fb (h:Vec UInt64 8)(m:Vec UInt64 16)(lo hi:UInt64)(last node:Bool):Vec UInt64 8 :=
  (List.range 8).foldl (Eb ((List.range 12).foldl (fun v r=>Rb v m r) (Ib h lo hi last node))) h
theorem wF (h:Vec UInt64 8)(m:Vec UInt64 16)(lo hi:UInt64)(last node:Bool):LW h m lo hi last node=some (Fb h m lo hi last node):=by
  unfold LW;rw[wInit];simp only[A0o];refine gm (fun i=>(m,(List.range i).foldl (fun v r=>Rb v m r) (Ib h lo hi last node),(i:Int))) 12 (fun i hi=>?_) ?_
  ·unfold IB;simp only[];rw[if_pos (by omega),turn_ok _ _ _ hi,kL i (by omega),List.range_succ,List.foldl_append];rfl
  ·unfold IB;simp only[];rw[if_neg (by omega)];rw[show aQ (IA ((List.range 12).foldl (fun v r=>Rb v m r) (Ib h lo hi last node))) (h,0)=some (Fb h m lo hi last node) from ?_]
   ·rfl
   refine JL _ 8 (Eb ((List.range 12).foldl (fun v r=>Rb v m r) (Ib h lo hi last node))) _ _ (fun v i hi=>?_) ?_
   ·unfold IA;simp only[];rw[if_pos (by omega),mZ _ _ (by omega),mZ _ _ (by omega),YL i (by omega),kL i (by omega),mZ _ _ (by omega)];rfl
   ·rfl
theorem rF (h:Vec UInt64 8)(m:Vec UInt64 16)(lo hi:UInt64)(last node:Bool):P_ h m lo hi last node=some (Fb h m lo hi last node):=by
  unfold P_;rw[rInit];simp only[A0o];refine JL _ 12 (fun v r=>Rb v m r) _ _ (fun v i hi=>?_) ?_
  ·unfold J8;simp only[];rw[if_pos (by omega),Round_ok _ _ _ hi,kL i (by omega)];rfl
  ·unfold J8;simp only[];rw[if_neg (by omega)];rw[show aQ (J7 ((List.range 12).foldl (fun v r=>Rb v m r) (Ib h lo hi last node))) (h,0)=some (Fb h m lo hi last node) from ?_]
   ·rfl
   refine JL _ 8 (Eb ((List.range 12).foldl (fun v r=>Rb v m r) (Ib h lo hi last node))) _ _ (fun v i hi=>?_) ?_
   ·unfold J7;simp only[];rw[if_pos (by omega),mZ _ _ (by omega),mZ _ _ (by omega),YL i (by omega),kL i (by omega),mZ _ _ (by omega)];simp only[A0o,UInt64.xor_assoc];rfl
   ·rfl
end
section
open Go.RowKit
set_option linter.unusedVariables false
set_option linter.unusedSimpArgs false
def word64:AC->UInt64
  | []=>0
  | b::r=>UInt64.ofNat b.toNat+256*word64 r
def VS:AC->Nat
  | []=>0
  | b::r=>b.toNat+256*VS r
theorem leN_lt (l:AC):VS l < 256 ^ l.length:=by
  induction l with
  | nil=>simp[VS]
  | cons b r ih =>
    have:=b.toNat_lt;simp only[VS,bi,Nat.pow_succ];omega
theorem leN_append (l:AC)(b:UInt8):VS (l++[b])=VS l+256 ^ l.length*b.toNat:=by
  induction l with
  | nil=>simp[VS]
  | cons x r ih =>
    simp only[A0x,VS,ih,bi,Nat.pow_succ,Nat.mul_add];rw[Nat.mul_comm (256 ^ r.length) 256,Nat.mul_assoc];omega
theorem pow256 (n:Nat):256 ^ n=2 ^ (8*n):=by
  rw[show(256:Nat)=2 ^ 8 from rfl,<-Nat.pow_mul]
theorem wload (b:AC)(hb:b.length<=33554432)(at_:Int)(ha:-9223372036854775808<=at_/\at_<=9223372036854775807)(n:Nat)(hn:n<=8) :
    CG b at_ n=some (if at_ < 0 then(0,1) else if(b.length:Int) < at_+n then(0,3) else(UInt64.ofNat (VS ((b.drop at_.toNat).take n)),0)):=by
  unfold CG;by_cases h0:at_ < 0
  ·rw[if_pos h0,if_pos h0]
  rw[if_neg h0,if_neg h0];have e:((decide (((b.length:Nat):Int) < at_))||(decide ((bC (((b.length:Nat):Int) - at_)) < n)))=true ↔ (b.length:Int) < at_+n:=by
    rw[jP (by omega)];simp only[Bool.or_eq_true,lm];omega
  by_cases h1:(b.length:Int) < at_+n
  ·rw[if_pos (e.2 h1),if_pos h1]
  rw[if_neg (fun h=>h1 (e.1 h)),if_neg h1];obtain⟨a,rfl⟩:∃ a:Nat,at_=a:=⟨at_.toNat,by omega⟩
  simp only[A0Z];refine Ai (fun i s=>s=(UInt64.ofNat (VS ((b.drop a).take i)),(i:Int))/\i<=n) _ n _ ⟨by simp[VS],by omega⟩ ?_;rintro i s ⟨rfl,hi⟩;unfold GX;by_cases hlt:i < n
  ·left;refine⟨hlt,(UInt64.ofNat (VS ((b.drop a).take (i+1))),((i+1:Nat):Int)),?_,rfl,by omega⟩;have e1:bC ((a:Int)+(i:Int))=((a+i:Nat):Int):=by rw[jP (by omega)];omega
   have hai:a+i < b.length:=by omega
   have e2:bC (8*(i:Int))=((8*i:Nat):Int):=by rw[jP (by omega)];omega
   have e3:bC ((i:Int)+1)=((i+1:Nat):Int):=by rw[jP (by omega)];omega
   simp only[];rw[if_pos (by omega),e1,bf hai];simp only[A0o];rw[e2,kH (by omega),e3];simp only[A0o,A0Z];congr 3;have hd:(b.drop a).take (i+1)=(b.drop a).take i++[b[a+i]]:=by
     rw[List.take_succ_eq_append_getElem (by simp;omega)];simp
   rw[hd,leN_append,A0i,A1F,Nat.min_eq_left (by omega),pow256];have hx:=(b[a+i]).toNat_lt;have hlt2:=leN_lt ((b.drop a).take i);rw[A0i,A1F,Nat.min_eq_left (by omega),pow256] at hlt2;have hp:2 ^ (8*i)*256=2 ^ (8*(i+1)):=by rw[show 8*(i+1)=8*i+8 from by omega,Nat.pow_add]
   have hq:2 ^ (8*(i+1))<=2 ^ 64:=Nat.pow_le_pow_right (by omega) (by omega);have hr:2 ^ (8*i)*(b[a+i]).toNat < 2 ^ (8*(i+1)):=by
     rw[<- hp];exact Nat.mul_lt_mul_of_pos_left hx (Nat.pow_pos (by omega))
   apply UInt64.eq_of_toBitVec_eq;apply BitVec.eq_of_toNat_eq;simp only[UInt64.toBitVec_or,zq,BitVec.toNat_or,BitVec.toNat_shiftLeft];simp only[UInt64.toNat_toBitVec,UInt64.toNat_ofNat'];have m1:VS ((b.drop a).take i) % 2 ^ 64=VS ((b.drop a).take i):=Nat.mod_eq_of_lt (by omega);have m2:(b[a+i]).toNat % 2 ^ 64=(b[a+i]).toNat:=Nat.mod_eq_of_lt (by omega);have m3:((b[a+i]).toNat <<< (8*i)) % 2 ^ 64=(b[a+i]).toNat <<< (8*i):=by
     apply Nat.mod_eq_of_lt;rw[Nat.shiftLeft_eq,Nat.mul_comm];omega
   rw[m1,m2,m3,Nat.or_comm,<-Nat.shiftLeft_add_eq_or_of_lt hlt2,Nat.shiftLeft_eq,Nat.mul_comm];rw[Nat.mod_eq_of_lt]
   ·omega
   ·have:VS ((b.drop a).take i)+2 ^ (8*i)*(b[a+i]).toNat < 2 ^ (8*(i+1)):=by
      rw[<- hp];have h5:2 ^ (8*i)*(b[a+i]).toNat+2 ^ (8*i)<=2 ^ (8*i)*256:=by
        rw[<- Nat.mul_succ];exact Nat.mul_le_mul_left _ (by omega)
      omega
    omega
  ·right;obtain rfl:i=n:=by omega
   simp
theorem rload (b:AC)(hb:b.length<=33554432)(at_:Int)(ha:-9223372036854775808<=at_/\at_<=9223372036854775807)(n:Nat)(hn:n<=8) :
    BJ b at_ n=some (if at_ < 0 then(0,1) else if(b.length:Int) < at_+n then(0,3) else(UInt64.ofNat (VS ((b.drop at_.toNat).take n)),0)):=by
  unfold BJ;by_cases h0:at_ < 0
  ·rw[if_pos h0,if_pos h0]
  rw[if_neg h0,if_neg h0];have e:((decide (((b.length:Nat):Int) < at_))||(decide ((bC (((b.length:Nat):Int) - at_)) < n)))=true ↔ (b.length:Int) < at_+n:=by
    rw[jP (by omega)];simp only[Bool.or_eq_true,lm];omega
  by_cases h1:(b.length:Int) < at_+n
  ·rw[if_pos (e.2 h1),if_pos h1]
  rw[if_neg (fun h=>h1 (e.1 h)),if_neg h1];obtain⟨a,rfl⟩:∃ a:Nat,at_=a:=⟨at_.toNat,by omega⟩
  simp only[A0Z];rw[jP (by omega)];refine Ai (fun i s=>s=(UInt64.ofNat (VS (((b.drop a).take n).drop (n - i))),(n:Int) - 1 - i)/\i<=n) _ n _ ⟨?_,by omega⟩ ?_
  ·have:((b.drop a).take n).drop (n - 0)=[]:=by apply List.drop_eq_nil_of_le;simp;omega
   rw[this];simp[VS]
  rintro i s ⟨rfl,hi⟩;unfold IY;by_cases hlt:i < n
  ·left;refine⟨hlt,_,?_,rfl,by omega⟩;have e1:bC ((a:Int)+((n:Int) - 1 - i))=((a+(n - 1 - i):Nat):Int):=by rw[jP (by omega)];omega
   have e3:bC ((n:Int) - 1 - i - 1)=(n:Int) - 1 - ((i+1:Nat):Int):=by rw[jP (by omega)];omega
   simp only[];rw[if_pos (by omega),e1,bf (by omega:a+(n - 1 - i) < b.length)];simp only[A0o];rw[e3];congr 3;have hd:((b.drop a).take n).drop (n - (i+1))=b[a+(n - 1 - i)]::((b.drop a).take n).drop (n - i):=by
     rw[A0f (by simp;omega)];simp only[List.getElem_take,List.getElem_drop];have q1:n - (i+1)+1=n - i:=by omega
     rw[q1];congr 2;omega
   rw[hd,VS];apply UInt64.eq_of_toBitVec_eq;apply BitVec.eq_of_toNat_eq;simp only[UInt64.toNat_toBitVec,UInt64.toNat_add,UInt64.toNat_mul,UInt64.toNat_ofNat'];generalize VS _=y;generalize (b[a+(n - 1 - i)]).toNat=z;have:UInt64.toNat 256=256:=rfl;rw[this];omega
  ·right;obtain rfl:i=n:=by omega
   simp only[];rw[if_neg (by omega)];simp
theorem load64 (b:AC)(hb:b.length<=33554432)(at_:Int)(ha:-9223372036854775808<=at_/\at_<=9223372036854775807) :
    uo b at_=some (if at_ < 0 then(0,1) else if(b.length:Int) < at_+8 then(0,3) else(UInt64.ofNat (VS ((b.drop at_.toNat).take 8)),0)):=by
  unfold uo;have:=wload b hb at_ ha 8 (by omega);rw[show((8:Nat):Int)=8 from rfl] at this;rw[this];rfl
theorem store64 (w:UInt64):zC w=some ((List.range 8).map fun i=>UInt8.ofNat (w.toNat / 256 ^ i)):=by
  unfold zC;refine Ai (fun i s=>s=((List.range i).map (fun i=>UInt8.ofNat (w.toNat / 256 ^ i))++List.replicate (8 - i) 0,(i:Int))/\i<=8) _ 8 _ ⟨by simp,by omega⟩ ?_;rintro i s ⟨rfl,hi⟩;unfold Du;by_cases hlt:i < 8
  ·left;refine⟨hlt,_,?_,rfl,by omega⟩;have e2:bC (8*(i:Int))=((8*i:Nat):Int):=by rw[jP (by omega)];omega
   have e3:bC ((i:Int)+1)=((i+1:Nat):Int):=by rw[jP (by omega)];omega
   simp only[];rw[if_pos (by omega),e2,kH (by omega),e3];simp only[A0o];rw[bf (by simp;omega)];simp only[A0o,A0Z];congr 3;have hr:List.replicate (8 - i) (0:UInt8)=0::List.replicate (8 - (i+1)) 0:=by
     rw[<- List.replicate_succ];congr 1;omega
   rw[hr,List.range_succ,List.map_append,ul];rw[List.set_append_right _ _ (by simp)];simp only[A0a,List.length_range,Nat.sub_self,A0y,kw,List.map_nil,A0x,List.nil_append];congr 2;apply UInt8.eq_of_toBitVec_eq;apply BitVec.eq_of_toNat_eq;simp only[oU,pow256];simp[Nat.shiftRight_eq_div_pow]
  ·right;obtain rfl:i=8:=by omega
   simp
theorem rstore (w:UInt64)(n:Nat)(hn:n<=8):CO w n=some ((List.range n).map fun i=>UInt8.ofNat (w.toNat / 256 ^ i)):=by
  unfold CO;refine Ai (fun i s=>s=(UInt64.ofNat (w.toNat / 256 ^ i),(List.range i).map (fun i=>UInt8.ofNat (w.toNat / 256 ^ i)),(i:Int))/\i<=n) _ n _ ⟨by simp,by omega⟩ ?_;rintro i s ⟨rfl,hi⟩;unfold G8;have hw:=w.toNat_lt;have hd:w.toNat / 256 ^ i<=w.toNat:=Nat.div_le_self _ _;by_cases hlt:i < n
  ·left;refine⟨hlt,_,?_,rfl,by omega⟩;have e3:bC ((i:Int)+1)=((i+1:Nat):Int):=by rw[jP (by omega)];omega
   simp only[];rw[if_pos (by omega),uJ (by simp;omega),e3];simp only[A0o];have q1:UInt64.ofNat (w.toNat / 256 ^ i) / 256=UInt64.ofNat (w.toNat / 256 ^ (i+1)):=by
     apply UInt64.eq_of_toBitVec_eq;apply BitVec.eq_of_toNat_eq;simp only[UInt64.toNat_toBitVec,UInt64.toNat_div,UInt64.toNat_ofNat'];rw[Nat.mod_eq_of_lt (by omega),Nat.mod_eq_of_lt (Nat.lt_of_le_of_lt (Nat.div_le_self _ _) hw),Nat.pow_succ,<-Nat.div_div_eq_div_mul];rfl
   have q2:UInt8.ofNat (UInt64.ofNat (w.toNat / 256 ^ i) % 256).toNat=UInt8.ofNat (w.toNat / 256 ^ i):=by
     apply UInt8.eq_of_toBitVec_eq;apply BitVec.eq_of_toNat_eq;simp only[UInt8.toNat_toBitVec,UInt8.toNat_ofNat',UInt64.toNat_mod,UInt64.toNat_ofNat'];rw[show UInt64.toNat 256=256 from rfl];omega
   rw[q1,q2,List.range_succ,List.map_append];rfl
  ·right;obtain rfl:i=n:=by omega
   simp
theorem add_ok (lo hi n:UInt64):BH lo hi n=some (UInt64.ofNat (lo.toNat+18446744073709551616*hi.toNat+n.toNat),UInt64.ofNat ((lo.toNat+18446744073709551616*hi.toNat+n.toNat) / 18446744073709551616),decide (340282366920938463463374607431768211456<=lo.toNat+18446744073709551616*hi.toNat+n.toNat)):=by
  have hl:=lo.toNat_lt;have hh:=hi.toNat_lt;have hn:=n.toNat_lt;unfold BH Zl;simp only[show(0:UInt64).toNat=0 from rfl,Nat.zero_le,if_true,A0o,Nat.add_zero];have hc:(UInt64.ofNat ((lo.toNat+n.toNat) / 18446744073709551616)).toNat=(lo.toNat+n.toNat) / 18446744073709551616:=by
    simp only[UInt64.toNat_ofNat'];omega
  rw[hc,if_pos (by omega)];simp only[A0o,Option.some.injEq,Prod.mk.injEq];refine⟨?_,?_,?_⟩
  ·rw[<- UInt64.toNat_inj];simp only[UInt64.toNat_ofNat'];omega
  ·rw[<- UInt64.toNat_inj];simp only[UInt64.toNat_ofNat'];omega
  ·rw[decide_eq_decide,<-UInt64.toNat_inj];simp only[UInt64.toNat_ofNat',show(1:UInt64).toNat=1 from rfl];omega
theorem radd (lo hi n:UInt64):Ej lo hi n=some (UInt64.ofNat (lo.toNat+18446744073709551616*hi.toNat+n.toNat),UInt64.ofNat ((lo.toNat+18446744073709551616*hi.toNat+n.toNat) / 18446744073709551616),decide (340282366920938463463374607431768211456<=lo.toNat+18446744073709551616*hi.toNat+n.toNat)):=by
  have hl:=lo.toNat_lt;have hh:=hi.toNat_lt;have hn:=n.toNat_lt;unfold Ej;have hs:(lo+n).toNat=(lo.toNat+n.toNat) % 18446744073709551616:=UInt64.toNat_add lo n;have hh1:(hi+1).toNat=(hi.toNat+1) % 18446744073709551616:=UInt64.toNat_add hi 1;by_cases hc:lo<=lo+n
  ·rw[if_pos hc];rw[UInt64.le_iff_toNat_le,hs] at hc;simp only[Option.some.injEq,Prod.mk.injEq];refine⟨?_,?_,?_⟩
   ·rw[<- UInt64.toNat_inj,hs];simp only[UInt64.toNat_ofNat'];omega
   ·rw[<- UInt64.toNat_inj];simp only[UInt64.toNat_ofNat'];omega
   ·symm;rw[decide_eq_false_iff_not];omega
  ·rw[if_neg hc];rw[UInt64.le_iff_toNat_le,hs] at hc;simp only[Option.some.injEq,Prod.mk.injEq];refine⟨?_,?_,?_⟩
   ·rw[<- UInt64.toNat_inj,hs];simp only[UInt64.toNat_ofNat'];omega
   ·rw[<- UInt64.toNat_inj,hh1];simp only[UInt64.toNat_ofNat'];omega
   ·rw[decide_eq_decide,<-UInt64.toNat_inj,hh1];simp only[show(0:UInt64).toNat=0 from rfl];omega
def FP (c:UInt64×UInt64)(n:UInt64):UInt64×UInt64:=(UInt64.ofNat (c.1.toNat+18446744073709551616*c.2.toNat+n.toNat),UInt64.ofNat ((c.1.toNat+18446744073709551616*c.2.toNat+n.toNat) / 18446744073709551616))
def YM (b:AC)(i:Nat):UInt64:=UInt64.ofNat (VS ((b.drop (8*i)).take 8))
def Wb (b:AC):Vec UInt64 16:=(List.range 16).foldl (fun m (i:Nat)=>zA m i (YM b i)) (Vec.rep 16 0)
theorem mul8 (i:Nat)(h:i < 100):bC (8*(i:Int))=((8*i:Nat):Int):=by rw[jP (by omega)];omega
theorem wload8 (b:AC)(i:Nat)(hb:b.length<=33554432)(hi:8*i+8<=b.length):uo b ((8*i:Nat):Int)=some (YM b i,0):=by
  rw[load64 b hb _ (by omega),if_neg (by omega),if_neg (by omega),A0Z];rfl
theorem rload8 (b:AC)(i:Nat)(hb:b.length<=33554432)(hi:8*i+8<=b.length):BJ b ((8*i:Nat):Int) 8=some (YM b i,0):=by
  have:=rload b hb ((8*i:Nat):Int) (by omega) 8 (by omega);rw[show((8:Nat):Int)=8 from rfl] at this;rw[this,if_neg (by omega),if_neg (by omega),A0Z];rfl
theorem wWords (b:AC)(hb:b.length=128):Dl b=some (Wb b,0):=by
  unfold Dl;rw[if_neg (by omega)];refine JL _ 16 (fun m (i:Nat)=>zA m i (YM b i)) _ _ (fun v i hi=>?_) (by unfold BA;simp only[];rw[if_neg (by omega)];rfl);unfold BA;simp only[];rw[if_pos (by omega),mul8 i (by omega),wload8 b i (by omega) (by omega),mZ _ _ hi,kL i (by omega)];rfl
theorem rWords (b:AC)(hb:b.length=128):E5 b=some (Wb b,0):=by
  unfold E5;rw[if_neg (by omega)];refine JL _ 16 (fun m (i:Nat)=>zA m i (YM b i)) _ _ (fun v i hi=>?_) (by unfold DC;simp only[];rw[if_neg (by omega)];rfl);unfold DC;simp only[];rw[if_pos (by omega),mul8 i (by omega),rload8 b i (by omega) (by omega),mZ _ _ hi,kL i (by omega)];rfl
def Stb (b:AC):Vec UInt64 8:=(List.range 8).foldl (fun h (i:Nat)=>zA h i (ivb.getD i 0^^^YM b i)) (Vec.rep 8 0)
theorem rStart (b:AC)(hb:b.length=64):EZ b=some (Stb b,0):=by
  unfold EZ;rw[if_neg (by omega)];refine JL _ 8 (fun m (i:Nat)=>zA m i (ivb.getD i 0^^^YM b i)) _ _ (fun v i hi=>?_) (by unfold Dx;simp only[];rw[if_neg (by omega)];rfl);unfold Dx;simp only[];rw[if_pos (by omega),mul8 i (by omega),rload8 b i (by omega) (by omega),mZ _ _ hi,kL i (by omega),riv i hi];rfl
theorem wStart (b:AC)(hb:b.length=64):Dk b=some (Stb b,0):=by
  unfold Dk Jo;rw[if_neg (by omega)];simp only[A0o];have key:∀ x:Nat->UInt64,(List.range 8).foldl (fun(h:Vec UInt64 8) (i:Nat)=>zA h i (h.g i^^^x i)) ⟨ivb,rfl⟩=(List.range 8).foldl (fun h (i:Nat)=>zA h i (ivb.getD i 0^^^x i)) (Vec.rep 8 0):=fun x=>rfl;refine JL _ 8 (fun h (i:Nat)=>zA h i (h.g i^^^YM b i)) _ _ (fun v i hi=>?_) ?_
  ·unfold FX;simp only[];rw[if_pos (by omega),mul8 i (by omega),wload8 b i (by omega) (by omega),mZ _ _ hi,kL i (by omega)];rfl
  ·have:=key (YM b);unfold ivb at this;rw[this];rfl
def st8 (n:Nat)(w:UInt64):AC:=(List.range n).map fun i=>UInt8.ofNat (w.toNat / 256 ^ i)
def Byb (h:Vec UInt64 8):AC:=(List.range 8).foldl (fun b i=>b++st8 8 (h.g i)) []
theorem by_len (h:Nat->AC)(k:Nat)(hk:∀ i,(h i).length=k):∀ n,((List.range n).foldl (fun b i=>b++h i) []).length=n*k:=by
  intro n
  induction n with
  | zero=>simp
  | succ n ih=>rw[List.range_succ,List.foldl_append];simp only[List.foldl_cons,List.foldl_nil,Pi,ih,hk];rw[Nat.succ_mul]
theorem YN (n:Nat)(w:UInt64):(st8 n w).length=n:=by simp[st8]
theorem YO (h:Vec UInt64 8):(Byb h).length=64:=by unfold Byb;rw[by_len _ 8 (fun i=>YN 8 _)]
theorem wBytes (h:Vec UInt64 8):Dv h=some (Byb h):=by
  unfold Dv;refine gm (fun i=>((List.range i).foldl (fun b i=>b++st8 8 (h.g i)) [],(i:Int))) 8 (fun i hi=>?_) rfl;unfold FY;simp only[];rw[if_pos (by omega),mZ _ _ hi,kL i (by omega)];simp only[A0o];rw[store64];simp only[A0o];have hq:(List.range (i+1)).foldl (fun b i=>b++st8 8 (h.g i)) []=(List.range i).foldl (fun b i=>b++st8 8 (h.g i)) []++st8 8 (h.g i):=by rw[List.range_succ,List.foldl_append];rfl
  rw[uJ (by rw[by_len _ 8 (fun i=>YN 8 _)];simp;omega),hq];rfl
end
section
open Go.RowKit
set_option linter.unusedVariables false
set_option linter.unusedSimpArgs false
theorem off32 (x:UInt64):((4294967296:UInt64)<=x) ↔ ((4294967295:UInt64) < x):=by
  rw[UInt64.le_iff_toNat_le,UInt64.lt_iff_toNat_lt,show(4294967296:UInt64).toNat=4294967296 from rfl,show(4294967295:UInt64).toNat=4294967295 from rfl];omega
theorem off48 (x:UInt64):((281474976710656:UInt64)<=x) ↔ ((281474976710655:UInt64) < x):=by
  rw[UInt64.le_iff_toNat_le,UInt64.lt_iff_toNat_lt,show(281474976710656:UInt64).toNat=281474976710656 from rfl,show(281474976710655:UInt64).toNat=281474976710655 from rfl];omega
variable {α:Type}
theorem pick_or {β:Type}(f:Bool->β)(c d:Bool):(if c=true then f c else f d)=f (c||d):=by cases c <;> rfl
theorem ifc {c d:Prop}[Decidable c][Decidable d]{x y z:α}(h:c ↔ d)(e:y=z):(if c then x else y)=(if d then x else z):=by
  subst e;by_cases hd:d
  ·rw[if_pos hd,if_pos (h.2 hd)]
  ·rw[if_neg hd,if_neg fun hc=>hd (h.1 hc)]
theorem check_at (k S m q d ky f dp:Int)(lf:UInt32)(off:UInt64)(sO:UInt32)(nd vC:Int)(lH lX:AC)(hk:yP k=some (S,m,q))(hm:sG k=some m)(h0:m≠0)(hq:bC (Int.tdiv m 4)=q):xn k d ky f dp lf off sO nd vC lH lX=lq k d ky f dp lf off sO nd vC lH lX:=by
  unfold xn lq;rw[hk,hm];simp only[A0o];rw[if_neg h0,if_neg h0,hq];have key:∀ least:Int,(least=0/\sO≠0∨least=1/\sO=0)->uy k d ky f dp off sO nd vC lH lX (S,m,q) least=(if((decide (d < 1))||(decide (m < d)))=true then
      (some (20:Int))
    else(if((decide (ky < 0))||(decide (m < ky)))=true then
      (some (8:Int))
    else(if((decide (f < 0))||(decide (255 < f)))=true then
      (some (21:Int))
    else(if(((decide (dp < 0))||(decide (255 < dp)))||((decide (dp=0))&&(decide (sO=0))))=true then
      (some (22:Int))
    else(if(((decide (sO≠0))&&(decide ((4294967295:UInt64) < off)))||(((decide (sO=0))&&(decide (k=2)))&&(decide ((281474976710655:UInt64) < off))))=true then
      (some (23:Int))
    else(if((decide (k=2))&&(decide ((65535:UInt32) < sO)))=true then
      (some (24:Int))
    else(if((decide (nd < 0))||(decide (255 < nd)))=true then
      (some (25:Int))
    else(if((decide (vC < 0))||(decide (m < vC)))=true then
      (some (26:Int))
    else(if q < ((lH.length:Nat):Int) then
      (some (27:Int))
    else(if q < ((lX.length:Nat):Int) then
      (some (28:Int))
    else(some (0:Int)))))))))))):=by
    intro least hl;unfold uy;rw[pick_or];unfold xN Aq;simp only[oW,A0o];refine ifc (by simp only[Bool.not_eq_true',Bool.and_eq_false_iff,decide_eq_false_iff_not,Bool.or_eq_true,lm];omega) ?_;refine ifc (by simp only[Bool.not_eq_true',Bool.and_eq_false_iff,decide_eq_false_iff_not,Bool.or_eq_true,lm];omega) ?_;refine ifc (by simp only[Bool.not_eq_true',Bool.and_eq_false_iff,decide_eq_false_iff_not,Bool.or_eq_true,lm];omega) ?_;refine ifc (by
      simp only[Bool.not_eq_true',Bool.and_eq_false_iff,decide_eq_false_iff_not,Bool.or_eq_true,lm,A0k];rcases hl with⟨rfl,hx⟩ | ⟨rfl,hx⟩
      ·simp only[hx,and_false,or_false];omega
      ·simp only[hx,and_true];omega) ?_
    refine ifc (by simp only[off32,off48]) ?_;refine ifc Iff.rfl ?_;refine ifc (by simp only[Bool.not_eq_true',Bool.and_eq_false_iff,decide_eq_false_iff_not,Bool.or_eq_true,lm];omega) ?_;refine ifc (by simp only[Bool.not_eq_true',Bool.and_eq_false_iff,decide_eq_false_iff_not,Bool.or_eq_true,lm];omega) ?_;rfl
  by_cases hx:sO=0
  ·rw[if_neg (by simpa using hx)];exact key 1 (.inr ⟨rfl,hx⟩)
  ·rw[if_pos hx];exact key 0 (.inl ⟨rfl,hx⟩)
theorem check_ok (k d ky f dp:Int)(lf:UInt32)(off:UInt64)(sO:UInt32)(nd vC:Int)(lH lX:AC):xn k d ky f dp lf off sO nd vC lH lX=lq k d ky f dp lf off sO nd vC lH lX:=by
  by_cases k1:k=1
  ·subst k1;exact check_at 1 64 64 16 _ _ _ _ _ _ _ _ _ _ _ rfl rfl (by omega) rfl
  ·by_cases k2:k=2
   ·subst k2;exact check_at 2 32 32 8 _ _ _ _ _ _ _ _ _ _ _ rfl rfl (by omega) rfl
   ·unfold xn yP lq sG;simp only[k1,k2,if_false,A0o,if_true]
theorem EN {c:Prop}[Decidable c]{n:Int}{Q:Int->Prop}{e:A06}(h0:n≠0)(h:¬ c->∃ r,e=some r/\(r=0->Q r)):∃ r,(if c then some n else e)=some r/\(r=0->Q r):=by
  by_cases hc:c
  ·rw[if_pos hc];exact⟨n,rfl,fun h=>absurd h h0⟩
  ·rw[if_neg hc];exact h hc
theorem VA (k d ky f dp:Int)(lf:UInt32)(off:UInt64)(sO:UInt32)(nd vC:Int)(lH lX:AC):∃ r,lq k d ky f dp lf off sO nd vC lH lX=some r/\(r=0->(k=1/\1<=d/\d<=64/\ky<=64/\lH.length<=16/\lX.length<=16)∨(k=2/\1<=d/\d<=32/\ky<=32/\lH.length<=8/\lX.length<=8)):=by
  have q1:bC (Int.tdiv 64 4)=16:=by rfl
  have q2:bC (Int.tdiv 32 4)=8:=by rfl
  have key:∀ m q:Int,bC (Int.tdiv m 4)=q->sG k=some m->m≠0->∃ r,lq k d ky f dp lf off sO nd vC lH lX=some r/\(r=0->(1<=d/\d<=m/\ky<=m/\(lH.length:Int)<=q/\(lX.length:Int)<=q)):=by
    intro m q hq hm h0;unfold lq;rw[hm];simp only[A0o];rw[if_neg h0,hq];refine EN (Q:=fun _=>_) (by omega) fun h1=>EN (Q:=fun _=>_) (by omega) fun h2=>EN (Q:=fun _=>_) (by omega) fun h3=>EN (Q:=fun _=>_) (by omega) fun h4=>EN (Q:=fun _=>_) (by omega) fun h5=>EN (Q:=fun _=>_) (by omega) fun h6=>EN (Q:=fun _=>_) (by omega) fun h7=>EN (Q:=fun _=>_) (by omega) fun h8=>EN (Q:=fun _=>_) (by omega) fun h9=>EN (Q:=fun _=>_) (by omega) fun h10=>⟨0,rfl,fun _=>?_⟩
    simp only[Bool.or_eq_true,lm] at h1 h2;omega
  by_cases k1:k=1
  ·obtain⟨r,h1,h2⟩:=key 64 16 q1 (by rw[k1];rfl) (by omega);exact⟨r,h1,fun h=>.inl ⟨k1,by have:=h2 h;omega⟩⟩
  ·by_cases k2:k=2
   ·obtain⟨r,h1,h2⟩:=key 32 8 q2 (by rw[k2];rfl) (by omega);exact⟨r,h1,fun h=>.inr ⟨k2,by have:=h2 h;omega⟩⟩
   ·refine⟨1,?_,fun h=>by omega⟩;unfold lq sG;simp only[k1,k2,if_false,A0o,if_true]
end
section
open Go.RowKit
set_option linter.unusedVariables false
set_option linter.unusedSimpArgs false
def ps (at_:Nat)(v:UInt64)(b:AC)(i:Nat):AC:=b.set (at_+i) (UInt8.ofNat (oU v (8*i)).toNat)
def pset (b:AC)(at_ n:Nat)(v:UInt64):AC:=(List.range n).foldl (ps at_ v) b
theorem ps_len (at_:Nat)(v:UInt64)(n:Nat)(b:AC):((List.range n).foldl (ps at_ v) b).length=b.length:=by
  induction n with
  | zero=>rfl
  | succ n ih=>rw[List.range_succ,List.foldl_append];simp only[List.foldl_cons,List.foldl_nil,ps,A1B,ih]
theorem pset_len (b:AC)(at_ n:Nat)(v:UInt64):(pset b at_ n v).length=b.length:=ps_len _ _ _ _
theorem at_i (a i:Nat)(h:a < 1000)(hi:i < 1000):bC ((a:Int)+(i:Int))=((a+i:Nat):Int):=by rw[jP (by omega)];omega
theorem wput (b:AC)(at_ n:Nat)(v:UInt64)(hn:n<=8)(hb:at_+n<=b.length)(ha:at_ < 1000):ET b (at_:Int) (n:Int) v=some (pset b at_ n v):=by
  unfold ET;refine gm (fun i=>((List.range i).foldl (ps at_ v) b,(i:Int))) n (fun i hi=>?_) ?_
  ·unfold Dj;simp only[];rw[if_pos (by omega),mul8 i (by omega),kH (by omega),at_i _ _ ha (by omega),bf (by rw[ps_len];omega),kL i (by omega),List.range_succ,List.foldl_append];rfl
  ·unfold Dj;simp only[];rw[if_neg (by omega)];rfl
theorem m8:∀ i:Nat,i < 8->((8:UInt64)*UInt64.ofInt (i:Int)).toNat=8*i:=by decide +kernel
theorem rput (b:AC)(at_ n:Nat)(v:UInt64)(hn:n<=8)(hb:at_+n<=b.length)(ha:at_ < 1000):Jp b (at_:Int) (n:Int) v=some (pset b at_ n v):=by
  unfold Jp;refine gm (fun i=>((List.range i).foldl (ps at_ v) b,(i:Int))) n (fun i hi=>?_) ?_
  ·unfold Gq;simp only[];rw[if_pos (by omega),at_i _ _ ha (by omega),bf (by rw[ps_len];omega),kL i (by omega),m8 i (by omega),List.range_succ,List.foldl_append];rfl
  ·unfold Gq;simp only[];rw[if_neg (by omega)];rfl
def cpy (b:AC)(at_:Nat)(xs:AC):AC:=(List.range xs.length).foldl (fun(b:AC) (i:Nat)=>b.set (at_+i) (xs.getD i 0)) b
theorem cpy_eq (at_:Nat)(xs:AC)(n:Nat)(b:AC)(hn:n<=xs.length)(hb:at_+n<=b.length):(List.range n).foldl (fun(b:AC) (i:Nat)=>b.set (at_+i) (xs.getD i 0)) b=b.take at_++xs.take n++b.drop (at_+n):=by
  induction n with
  | zero=>simp
  | succ n ih =>
    rw[List.range_succ,List.foldl_append,ih (by omega) (by omega)];simp only[List.foldl_cons,List.foldl_nil];have hd:b.drop (at_+n)=b[at_+n]::b.drop (at_+(n+1)):=A0f (by omega);rw[hd,List.set_append_right _ _ (by simp;omega)];have hx:at_+n - (b.take at_++xs.take n).length=0:=by simp;omega
    rw[hx,A0y,List.take_succ_eq_append_getElem (by omega)];simp only[ul,A0x,List.nil_append];congr 3;simp[List.getD_eq_getElem?_getD,show n < xs.length from by omega]
theorem IV (b:AC)(at_:Nat)(xs:AC)(h:at_+xs.length<=b.length):(cpy b at_ xs).length=b.length:=by
  unfold cpy;rw[cpy_eq at_ xs xs.length b (Nat.le_refl _) h];simp;omega
theorem lcp_cpy (b:AC)(at_ n:Nat)(xs:AC)(hn:xs.length<=n)(h:at_+xs.length<=b.length):lcp b at_ n xs=cpy b at_ xs:=by
  unfold cpy;rw[cpy_eq at_ xs xs.length b (Nat.le_refl _) h,lcp,A0h,List.take_of_length_le hn,Nat.min_eq_right hn]
def fpl (k:Int)(i:Nat):Nat×Nat:=if k=1 then[(0,1),(1,1),(2,1),(3,1),(4,4),(8,8),(12,4),(16,1),(17,1)].getD i (0,0) else[(0,1),(1,1),(2,1),(3,1),(4,4),(8,6),(12,2),(14,1),(15,1)].getD i (0,0)
theorem fpl_le (k:Int):∀ i:Nat,i < 9->(fpl k i).1+(fpl k i).2<=18/\(fpl k i).2<=8:=by
  intro i hi;unfold fpl;by_cases hk:k=1
  ·simp only[hk,if_true];revert i;decide
  ·simp only[hk,if_false];revert i;decide
theorem rplace (k:Int)(hk:k=1∨k=2):∀ i:Nat,i < 9->IE k ((i+1:Nat):Int)=some (((fpl k i).1:Int),((fpl k i).2:Int)):=by
  rcases hk with rfl | rfl <;> decide +kernel
theorem wrows (k:Int):∃ rows,yx k=some rows/\rows.length=9/\∀ i:Nat,i < 9->∃ row,aW rows (i:Int)=some row/\row.1=((i+1:Nat):Int)/\row.2.1=((fpl k i).1:Int)/\row.2.2.1=((fpl k i).2:Int):=by
  by_cases hk:k=1
  ·subst hk;refine⟨_,rfl,rfl,fun i hi=>?_⟩
   match i,hi with
   | 0,_=>exact⟨_,rfl,rfl,rfl,rfl⟩
   | 1,_=>exact⟨_,rfl,rfl,rfl,rfl⟩
   | 2,_=>exact⟨_,rfl,rfl,rfl,rfl⟩
   | 3,_=>exact⟨_,rfl,rfl,rfl,rfl⟩
   | 4,_=>exact⟨_,rfl,rfl,rfl,rfl⟩
   | 5,_=>exact⟨_,rfl,rfl,rfl,rfl⟩
   | 6,_=>exact⟨_,rfl,rfl,rfl,rfl⟩
   | 7,_=>exact⟨_,rfl,rfl,rfl,rfl⟩
   | 8,_=>exact⟨_,rfl,rfl,rfl,rfl⟩
  ·have h2:∀ i,fpl k i=fpl 2 i:=fun i=>by unfold fpl;simp only[hk,if_false];rfl
   have h3:yx k=yx 2:=by unfold yx;rw[if_neg hk,if_neg (by decide)]
   rw[h3];simp only[h2];refine⟨_,rfl,rfl,fun i hi=>?_⟩
   match i,hi with
   | 0,_=>exact⟨_,rfl,rfl,rfl,rfl⟩
   | 1,_=>exact⟨_,rfl,rfl,rfl,rfl⟩
   | 2,_=>exact⟨_,rfl,rfl,rfl,rfl⟩
   | 3,_=>exact⟨_,rfl,rfl,rfl,rfl⟩
   | 4,_=>exact⟨_,rfl,rfl,rfl,rfl⟩
   | 5,_=>exact⟨_,rfl,rfl,rfl,rfl⟩
   | 6,_=>exact⟨_,rfl,rfl,rfl,rfl⟩
   | 7,_=>exact⟨_,rfl,rfl,rfl,rfl⟩
   | 8,_=>exact⟨_,rfl,rfl,rfl,rfl⟩
section
variable (k d ky f dp:Int)(lf:UInt32)(off:UInt64)(sO:UInt32)(nd vC:Int)(lH lX:AC)
def pvals:List UInt64:=[UInt64.ofInt d,UInt64.ofInt ky,UInt64.ofInt f,UInt64.ofInt dp,UInt64.ofNat lf.toNat,off,UInt64.ofNat sO.toNat,UInt64.ofInt nd,UInt64.ofInt vC]
theorem wvalue (i:Nat)(hi:i < 9):EF d ky f dp lf off sO nd vC lH lX ((i+1:Nat):Int)=some ((pvals d ky f dp lf off sO nd vC).getD i 0):=by
  match i,hi with
  | 0,_=>rfl
  | 1,_=>rfl
  | 2,_=>rfl
  | 3,_=>rfl
  | 4,_=>rfl
  | 5,_=>rfl
  | 6,_=>rfl
  | 7,_=>rfl
  | 8,_=>rfl
def ens (b:AC)(i:Nat):AC:=if i=6/\sO=0 then b else pset b (fpl k i).1 (fpl k i).2 ((pvals d ky f dp lf off sO nd vC).getD i 0)
def Wx (b:AC)(n:Nat):AC:=(List.range n).foldl (ens k d ky f dp lf off sO nd vC) b
theorem BG (b:AC)(n:Nat):(Wx k d ky f dp lf off sO nd vC b n).length=b.length:=by
  unfold Wx
  induction n with
  | zero=>rfl
  | succ n ih =>
    rw[List.range_succ,List.foldl_append];simp only[List.foldl_cons,List.foldl_nil,ens];split
    ·exact ih
    ·rw[pset_len,ih]
def enc' (S:Nat):AC:=cpy (cpy (Wx k d ky f dp lf off sO nd vC (List.replicate S 0) 9) (S / 2) lH) (S / 4*3) lX
def encB:AC:=enc' k d ky f dp lf off sO nd vC lH lX (if k=1 then 64 else 32)
theorem wloop (S q:Nat)(hS:S=64/\q=16∨S=32/\q=8)(m:Int)(hs:lH.length<=q)(hp:lX.length<=q)(rows:A07)(hl:rows.length=9)
    (hr:∀ i:Nat,i < 9->∃ row,aW rows (i:Int)=some row/\row.1=((i+1:Nat):Int)/\row.2.1=((fpl k i).1:Int)/\row.2.2.1=((fpl k i).2:Int)) :
    aQ (wJ d ky f dp lf off sO nd vC lH lX ((S:Int),m,(q:Int)) rows) (List.replicate S 0,(0:Int))=some (enc' k d ky f dp lf off sO nd vC lH lX S,0):=by
  refine gm (fun i=>(Wx k d ky f dp lf off sO nd vC (List.replicate S 0) i,(i:Int))) 9 (fun i hi=>?_) ?_
  ·obtain⟨row,h1,h2,h3,h4⟩:=hr i hi;obtain⟨g1,g2⟩:=fpl_le k i hi;unfold wJ wI y9;simp only[];rw[hl,if_pos (by omega),h1];simp only[A0o];rw[h2,h3,h4,kL i (by omega)];have hss:Wx k d ky f dp lf off sO nd vC (List.replicate S 0) (i+1)=ens k d ky f dp lf off sO nd vC (Wx k d ky f dp lf off sO nd vC (List.replicate S 0) i) i:=by
     unfold Wx;rw[List.range_succ,List.foldl_append];rfl
   rw[hss];unfold ens;by_cases hc:i=6/\sO=0
   ·rw[if_pos (by simp only[A0k,lm];exact⟨by omega,hc.2⟩),if_pos hc]
   ·rw[if_neg (by simp only[A0k,lm];exact fun h=>hc ⟨by omega,h.2⟩),if_neg hc,wvalue _ _ _ _ _ _ _ _ _ _ _ i hi];simp only[A0o];rw[wput _ _ _ _ g2 (by rw[BG];simp;omega) (by omega)];rfl
  ·unfold wJ;simp only[];have hlen:(Wx k d ky f dp lf off sO nd vC (List.replicate S 0) 9).length=S:=by rw[BG];simp
   have e1:bC ((S:Int) - bC (2*(q:Int)))=((S / 2:Nat):Int):=by rw[jP (n:=2*(q:Int)) (by omega),jP (by omega)];omega
   have e2:bC ((S:Int) - (q:Int))=((S / 4*3:Nat):Int):=by rw[jP (by omega)];omega
   rw[hl,if_neg (by omega),e1,e2,A0Z];rw[Eg (by rw[hlen];omega)];simp only[A0o,A0Z];have l1:((Wx k d ky f dp lf off sO nd vC (List.replicate S 0) 9).take S).drop (S / 2)=(Wx k d ky f dp lf off sO nd vC (List.replicate S 0) 9).drop (S / 2):=by rw[List.take_of_length_le (by omega)]
   rw[l1,lcp_cpy _ _ _ _ (by rw[A1F,hlen];omega) (by rw[hlen];omega)];have hlen2:(cpy (Wx k d ky f dp lf off sO nd vC (List.replicate S 0) 9) (S / 2) lH).length=S:=by rw[IV _ _ _ (by omega),hlen]
   rw[Eg (by rw[hlen2];omega)];simp only[A0o,A0Z];rw[List.take_of_length_le (by omega),lcp_cpy _ _ _ _ (by rw[A1F,hlen2];omega) (by rw[hlen2];omega)];rfl
theorem cset_len (at_:Nat)(xs:AC)(n:Nat)(b:AC):((List.range n).foldl (fun(b:AC) (i:Nat)=>b.set (at_+i) (xs.getD i 0)) b).length=b.length:=by
  induction n with
  | zero=>rfl
  | succ n ih=>rw[List.range_succ,List.foldl_append];simp only[List.foldl_cons,List.foldl_nil,A1B,ih]
theorem getD_in (xs:AC)(i:Nat)(h:i < xs.length):xs.getD i 0=xs[i]:=by simp[List.getD_eq_getElem?_getD,h]
theorem rloop (hk:k=1∨k=2)(S q:Nat)(hS:S=64/\q=16∨S=32/\q=8)(hM:sG k=some (S:Int))(hs:lH.length<=q)(hp:lX.length<=q) :
    aQ (yK k d ky f dp lf off sO nd vC lH lX) (List.replicate S 0,(1:Int))=some (enc' k d ky f dp lf off sO nd vC lH lX S,0):=by
  refine gm (fun i=>(Wx k d ky f dp lf off sO nd vC (List.replicate S 0) i,((i+1:Nat):Int))) 9 (fun i hi=>?_) ?_
  ·obtain⟨g1,g2⟩:=fpl_le k i hi;unfold yK yH BB;simp only[];rw[if_pos (by omega),kL (i+1) (by omega)];have hss:Wx k d ky f dp lf off sO nd vC (List.replicate S 0) (i+1)=ens k d ky f dp lf off sO nd vC (Wx k d ky f dp lf off sO nd vC (List.replicate S 0) i) i:=by
     unfold Wx;rw[List.range_succ,List.foldl_append];rfl
   rw[hss];unfold ens;by_cases hc:i=6/\sO=0
   ·rw[if_pos (by simp only[A0k,lm];exact⟨by omega,hc.2⟩),if_pos hc]
   ·rw[if_neg (by simp only[A0k,lm];exact fun h=>hc ⟨by omega,h.2⟩),if_neg hc,rplace k hk i hi];simp only[A0o];have hw:bC (((i+1:Nat):Int) - 1)=(i:Int):=by rw[jP (by omega)];omega
    have hg:aW [UInt64.ofInt d,UInt64.ofInt ky,UInt64.ofInt f,UInt64.ofInt dp,UInt64.ofNat lf.toNat,off,UInt64.ofNat sO.toNat,UInt64.ofInt nd,UInt64.ofInt vC] (i:Int)=some ((pvals d ky f dp lf off sO nd vC).getD i 0):=by
      rw[bf (by simp;omega)];simp[pvals,List.getD_eq_getElem?_getD,hi]
    rw[hw,hg];simp only[A0o];rw[rput _ _ _ _ g2 (by rw[BG];simp;omega) (by omega)];rfl
  ·unfold yK;simp only[];have hlen:(Wx k d ky f dp lf off sO nd vC (List.replicate S 0) 9).length=S:=by rw[BG];simp
   rw[if_neg (by omega),hM];simp only[A0o];have t4:bC (Int.tdiv (S:Int) 4)=((S / 4:Nat):Int):=by rcases hS with⟨rfl,_⟩ | ⟨rfl,_⟩ <;> rfl
   have e1:bC (2*((S / 4:Nat):Int))=((S / 2:Nat):Int):=by rw[jP (by omega)];omega
   have e2:bC (3*((S / 4:Nat):Int))=((S / 4*3:Nat):Int):=by rw[jP (by omega)];omega
   rw[show aQ (yJ lH lX (S:Int)) (Wx k d ky f dp lf off sO nd vC (List.replicate S 0) 9,0)=some (enc' k d ky f dp lf off sO nd vC lH lX S,0) from ?_]
   ·rfl
   refine gm (fun i=>((List.range i).foldl (fun(b:AC) (i:Nat)=>b.set (S / 2+i) (lH.getD i 0)) (Wx k d ky f dp lf off sO nd vC (List.replicate S 0) 9),(i:Int))) lH.length (fun i hi=>?_) ?_
   ·unfold yJ;simp only[];rw[if_pos (by omega),t4,e1,bf hi,at_i _ _ (by omega) (by omega),bf (by rw[cset_len,hlen];omega),kL i (by omega),List.range_succ,List.foldl_append];simp only[A0o,List.foldl_cons,List.foldl_nil,A0Z,getD_in _ _ hi]
   ·unfold yJ;simp only[];rw[if_neg (by omega)];rw[show aQ (yI lX (S:Int)) ((List.range lH.length).foldl (fun(b:AC) (i:Nat)=>b.set (S / 2+i) (lH.getD i 0)) (Wx k d ky f dp lf off sO nd vC (List.replicate S 0) 9),0)=some (enc' k d ky f dp lf off sO nd vC lH lX S,0) from ?_]
    ·rfl
    have hlen2:(cpy (Wx k d ky f dp lf off sO nd vC (List.replicate S 0) 9) (S / 2) lH).length=S:=by rw[IV _ _ _ (by omega),hlen]
    refine gm (fun i=>((List.range i).foldl (fun(b:AC) (i:Nat)=>b.set (S / 4*3+i) (lX.getD i 0)) (cpy (Wx k d ky f dp lf off sO nd vC (List.replicate S 0) 9) (S / 2) lH),(i:Int))) lX.length (fun i hi=>?_) ?_
    ·unfold yI;simp only[];rw[if_pos (by omega),t4,e2,bf hi,at_i _ _ (by omega) (by omega),bf (by rw[cset_len,hlen2];omega),kL i (by omega),List.range_succ,List.foldl_append];simp only[A0o,List.foldl_cons,List.foldl_nil,A0Z,getD_in _ _ hi]
    ·unfold yI;simp only[];rw[if_neg (by omega)];rfl
theorem enc_ok (h:lq k d ky f dp lf off sO nd vC lH lX=some 0) :
    uK k d ky f dp lf off sO nd vC lH lX=some (encB k d ky f dp lf off sO nd vC lH lX,0)/\o5 k d ky f dp lf off sO nd vC lH lX=some (encB k d ky f dp lf off sO nd vC lH lX,0):=by
  obtain⟨r,h1,h2⟩:=VA k d ky f dp lf off sO nd vC lH lX;rw[h] at h1;obtain rfl:=Option.some.inj h1;obtain⟨rows,r1,r2,r3⟩:=wrows k;rcases h2 rfl with⟨rfl,_,_,_,hs,hp⟩ | ⟨rfl,_,_,_,hs,hp⟩
  ·constructor
   ·unfold uK;rw[check_ok,h,r1];exact wloop 1 d ky f dp lf off sO nd vC lH lX 64 16 (by omega) 64 hs hp rows r2 r3
   ·unfold o5;rw[h];exact rloop 1 d ky f dp lf off sO nd vC lH lX (by omega) 64 16 (by omega) rfl hs hp
  ·constructor
   ·unfold uK;rw[check_ok,h,r1];exact wloop 2 d ky f dp lf off sO nd vC lH lX 32 8 (by omega) 32 hs hp rows r2 r3
   ·unfold o5;rw[h];exact rloop 2 d ky f dp lf off sO nd vC lH lX (by omega) 32 8 (by omega) rfl hs hp
theorem encB_len (h:(k=1/\lH.length<=16/\lX.length<=16)∨(k=2/\lH.length<=8/\lX.length<=8)):(encB k d ky f dp lf off sO nd vC lH lX).length=if k=1 then 64 else 32:=by
  unfold encB enc';rcases h with⟨rfl,hs,hp⟩ | ⟨rfl,hs,hp⟩
  ·simp only[if_true];rw[IV _ _ _ (by rw[IV _ _ _ (by rw[BG];simp;omega),BG];simp;omega),IV _ _ _ (by rw[BG];simp;omega),BG];simp
  ·simp only[show ¬ ((2:Int)=1) from by omega,if_false];rw[IV _ _ _ (by rw[IV _ _ _ (by rw[BG];simp;omega),BG];simp;omega),IV _ _ _ (by rw[BG];simp;omega),BG];simp
end
end
section
open Go.RowKit
set_option linter.unusedVariables false
set_option linter.unusedSimpArgs false
section
variable {σ:Type}
def uZ (f:σ->AC->UInt64×UInt64->σ)(B:Nat)(h:σ)(c:UInt64×UInt64)(M:AC):σ×(UInt64×UInt64)×AC :=
  if hlt:0 < B/\B < M.length then uZ f B (f h (M.take B) (FP c (UInt64.ofNat B))) (FP c (UInt64.ofNat B)) (M.drop B) else(h,c,M)
termination_by M.length
decreasing_by simp only[A1F];omega
theorem FQ (f:σ->AC->UInt64×UInt64->σ)(B:Nat)(h:σ)(c:UInt64×UInt64)(M:AC)(hM:M.length<=B):uZ f B h c M=(h,c,M):=by
  rw[uZ,dif_neg (by omega)]
theorem RV (f:σ->AC->UInt64×UInt64->σ)(B:Nat)(h:σ)(c:UInt64×UInt64)(M:AC)(hB:0 < B)(hM:B < M.length):uZ f B h c M=uZ f B (f h (M.take B) (FP c (UInt64.ofNat B))) (FP c (UInt64.ofNat B)) (M.drop B):=by
  rw[uZ,dif_pos ⟨hB,hM⟩]
theorem absorb_end (f:σ->AC->UInt64×UInt64->σ)(B:Nat)(hB:0 < B):∀ (n:Nat) (h:σ) (c:UInt64×UInt64) (M:AC),M.length<=n->(uZ f B h c M).2.2.length<=B/\(uZ f B h c M).2.2=M.drop (M.length - (uZ f B h c M).2.2.length)/\(uZ f B h c M).2.2.length<=M.length:=by
  intro n
  induction n with
  | zero=>intro h c M hM;rw[FQ f B h c M (by omega)];simp;omega
  | succ n ih =>
    intro h c M hM;by_cases hl:B < M.length
    ·rw[RV f B h c M hB hl];obtain⟨h1,h2,h3⟩:=ih (f h (M.take B) (FP c (UInt64.ofNat B))) (FP c (UInt64.ofNat B)) (M.drop B) (by simp only[A1F];omega);refine⟨h1,?_,by simp only[A1F] at h3;omega⟩;rw[List.drop_drop] at h2;simp only[A1F] at h2 h3;rw[show B+(M.length - B - (uZ f B (f h (M.take B) (FP c (UInt64.ofNat B))) (FP c (UInt64.ofNat B)) (M.drop B)).2.2.length)=M.length - (uZ f B (f h (M.take B) (FP c (UInt64.ofNat B))) (FP c (UInt64.ofNat B)) (M.drop B)).2.2.length from by omega] at h2;exact h2
    ·rw[FQ f B h c M (by omega)];simp;omega
end
def pad (n:Nat)(xs:AC):AC:=xs++List.replicate (n - xs.length) 0
theorem NL (n:Nat)(xs:AC)(h:xs.length<=n):(pad n xs).length=n:=by simp[pad];omega
theorem YP (n:Nat):UInt64.ofInt (n:Int)=UInt64.ofNat n:=by
  rw[<- UInt64.toNat_inj];unfold UInt64.ofInt;simp;omega
theorem wadd (c:UInt64×UInt64)(n:UInt64):∃ o,BH c.1 c.2 n=some ((FP c n).1,(FP c n).2,o):=⟨_,add_ok _ _ _⟩
theorem radd' (c:UInt64×UInt64)(n:UInt64):∃ o,Ej c.1 c.2 n=some ((FP c n).1,(FP c n).2,o):=⟨_,radd _ _ _⟩
theorem wpad (b:AC)(n:Nat)(hb:b.length<=n)(hn:n<=1000):yQ b (n:Int)=some (pad n b):=by
  unfold yQ;rw[kH (by omega)];simp only[A0o];rw[uJ (by simp;omega)];simp only[A0o];have e:bC ((n:Int) - (b.length:Int))=((n - b.length:Nat):Int):=by rw[jP (by omega)];omega
  rw[e];unfold appz;rw[if_pos (by simp;omega)];simp only[A0o,A0Z];rfl
theorem cut_ok (b:AC)(a n:Nat)(hb:b.length<=33554432)(ha:a<=b.length)(hn:n<=1000):GK b (a:Int) (n:Int)=some (pad n ((b.drop a).take n)):=by
  unfold GK;have hz:∀ i,i<=n->(pad n ((b.drop a).take n)).take i=pad i ((b.drop a).take i):=by
    intro i hi;unfold pad;rw[List.take_append,List.take_take,Nat.min_eq_left hi,List.take_replicate];congr 2;simp only[A0i,A1F];omega
  have hlen:=NL n ((b.drop a).take n) (by simp;omega);suffices hsf:aQ (Dz b (a:Int) (n:Int)) (([]:AC),(0:Int))=some ((pad n ((b.drop a).take n)).take n) by rw[hsf,List.take_of_length_le (by omega)]
  refine gm (fun i=>((pad n ((b.drop a).take n)).take i,(i:Int))) n (fun i hi=>?_) ?_
  ·unfold Dz Dy Gs;have e1:bC ((a:Int)+(i:Int))=((a+i:Nat):Int):=by rw[jP (by omega)];omega
   have hs:(pad n ((b.drop a).take n)).take (i+1)=(pad n ((b.drop a).take n)).take i++[(pad n ((b.drop a).take n))[i]]:=List.take_succ_eq_append_getElem (by omega);simp only[];rw[if_pos (by omega),e1,hs,kL i (by omega)];by_cases hin:a+i < b.length
   ·rw[if_pos (by omega),bf hin];simp only[A0o];rw[uJ (by simp;omega)];simp only[A0o];have hx:(pad n ((b.drop a).take n))[i]=b[a+i]:=by
      unfold pad;rw[List.getElem_append_left (by simp;omega)];simp
    rw[hx]
   ·rw[if_neg (by omega),uJ (by simp;omega)];simp only[A0o];have hx:(pad n ((b.drop a).take n))[i]=0:=by
      unfold pad;rw[List.getElem_append_right (by simp;omega)];simp
    rw[hx]
  ·unfold Dz;simp only[];rw[if_neg (by omega)];rfl
theorem keyed_ok (k:Int)(B:Nat)(hB:zD k=some (B:Int))(hBl:B<=1000)(key:AC)(hk:key.length<=B):CJ k key=some (if key=[] then[] else pad B key):=by
  unfold CJ;by_cases h0:key=[]
  ·subst h0;rfl
  rw[if_neg (by have:=List.length_pos_iff.2 h0;omega),if_neg h0];have hlen:=NL B key hk;suffices hsf:aQ (zG k key) (([]:AC),(0:Int))=some ((pad B key).take B) by rw[hsf,List.take_of_length_le (by omega)]
  refine gm (fun i=>((pad B key).take i,(i:Int))) B (fun i hi=>?_) ?_
  ·unfold zG zF Dw;have hs:(pad B key).take (i+1)=(pad B key).take i++[(pad B key)[i]]:=List.take_succ_eq_append_getElem (by omega);simp only[];rw[hB];simp only[A0o];rw[if_pos (by omega),hs,kL i (by omega)];by_cases hin:i < key.length
   ·rw[if_pos (by omega),bf hin];simp only[A0o];rw[uJ (by simp;omega)];simp only[A0o];have hx:(pad B key)[i]=key[i]:=by
      unfold pad;rw[List.getElem_append_left (by omega)]
    rw[hx]
   ·rw[if_neg (by omega),uJ (by simp;omega)];simp only[A0o];have hx:(pad B key)[i]=0:=by
      unfold pad;rw[List.getElem_append_right (by omega)];simp
    rw[hx]
  ·unfold zG;simp only[];rw[hB];simp only[A0o];rw[if_neg (by omega)];rfl
end
section
open Go.RowKit
set_option linter.unusedVariables false
set_option linter.unusedSimpArgs false
structure Half where
  σ:Type
  k:Int
  B:Nat
  S:Nat
  f:σ->AC->UInt64×UInt64->Bool->Bool->σ
  st:AC->σ
  dig:σ->AC
  emb:σ->Vec UInt64 16
  hk:k=1/\B=128/\S=64∨k=2/\B=64/\S=32
  diglen:∀ h,(dig h).length=S
  hin:∀ h b (c:UInt64×UInt64) last node,b.length=B->G7 k (emb h) b c.1 c.2 last node=some (emb (f h b c last node))
  hbytes:∀ h,CP k (emb h)=some (dig h)
  hfirst:∀ (d ky fn dp:Int) (lf:UInt32) (off:UInt64) (sO:UInt32) (nd vC:Int) (lH lX key:AC) (last:Bool) (from_:Vec UInt64 16) (lo hi:UInt64) (msg:AC) (cn:UInt64) (blk:AC),o5 k d ky fn dp lf off sO nd vC lH lX=some (blk,0)->blk.length=S ->
    uB k d ky fn dp lf off sO nd vC lH lX key last from_ false lo hi msg cn=some (emb (st blk),k,d,ky,fn,dp,lf,off,sO,nd,vC,last,from_,false,lo,hi,msg,cn)
theorem Half.hB (H:Half):zD H.k=some (H.B:Int):=by
  rcases H.hk with⟨h1,h2,_⟩ | ⟨h1,h2,_⟩ <;> rw[h1,h2] <;> rfl
theorem Half.hS (H:Half):BI H.k=some (H.S:Int):=by
  rcases H.hk with⟨h1,_,h2⟩ | ⟨h1,_,h2⟩ <;> rw[h1,h2] <;> rfl
def QL (h:Vec UInt64 8):Vec UInt64 16:=⟨h.l++List.replicate 8 0,by simp[h.h]⟩
theorem embB_g (h:Vec UInt64 8)(i:Nat)(hi:i < 8):(QL h).g i=h.g i:=by
  have hl:i < h.l.length:=by rw[h.h];exact hi
  simp[Vec.g,QL,List.getD_eq_getElem?_getD,List.getElem?_append_left hl]
theorem embB_in (h r:Vec UInt64 8):(List.range 8).foldl (fun v (i:Nat)=>zA v i (r.g i)) (QL h)=QL r:=by
  obtain⟨a,b,c,d,e,f,g,q,rfl⟩:=vec8 (v:=h);obtain⟨a',b',c',d',e',f',g',q',rfl⟩:=vec8 (v:=r);rfl
theorem embB_out (h:Vec UInt64 8):(List.range 8).foldl (fun v (i:Nat)=>zA v i ((QL h).g i)) (Vec.rep 8 (0:UInt64))=h:=by
  obtain⟨a,b,c,d,e,f,g,q,rfl⟩:=vec8 (v:=h);rfl
theorem embB_0 (r:Vec UInt64 8):(List.range 8).foldl (fun v (i:Nat)=>zA v i (r.g i)) (Vec.rep 16 (0:UInt64))=QL r:=by
  obtain⟨a',b',c',d',e',f',g',q',rfl⟩:=vec8 (v:=r);rfl
theorem rin1 (h:Vec UInt64 8)(b:AC)(c:UInt64×UInt64)(last node:Bool)(hb:b.length=128):G7 1 (QL h) b c.1 c.2 last node=some (QL (Fb h (Wb b) c.1 c.2 last node)):=by
  unfold G7;rw[if_pos rfl];refine JL _ 8 (fun v (i:Nat)=>zA v i ((QL h).g i)) _ _ (fun v i hi=>?_) ?_
  ·unfold IG;simp only[];rw[if_pos (by omega),mZ _ _ (by omega),mZ _ _ hi,kL i (by omega)];rfl
  ·rw[embB_out];unfold IG;simp only[];rw[if_neg (by omega),rWords b hb];simp only[A0o];rw[rF];simp only[A0o];rw[show aQ (Fa (Fb h (Wb b) c.1 c.2 last node)) (QL h,0)=some (QL (Fb h (Wb b) c.1 c.2 last node)) from ?_]
   ·rfl
   refine JL _ 8 (fun v (i:Nat)=>zA v i ((Fb h (Wb b) c.1 c.2 last node).g i)) _ _ (fun v i hi=>?_) ?_
   ·unfold Fa;simp only[];rw[if_pos (by omega),mZ _ _ hi,mZ _ _ (by omega),kL i (by omega)];rfl
   ·rw[embB_in];unfold Fa;simp only[];rw[if_neg (by omega)];rfl
theorem rbytes1 (h:Vec UInt64 8):CP 1 (QL h)=some (Byb h):=by
  unfold CP;refine gm (fun i=>((List.range i).foldl (fun b i=>b++st8 8 (h.g i)) [],(i:Int))) 8 (fun i hi=>?_) rfl;unfold G9;simp only[];have hs:=rstore (h.g i) 8 (by omega);rw[if_pos (by omega),mZ _ _ (by omega),embB_g h i hi,kL i (by omega)];simp only[A0o];rw[show BI 1=some 64 from rfl];simp only[A0o];rw[show bC (Int.tdiv 64 8)=((8:Nat):Int) from rfl,hs];simp only[A0o];have hq:(List.range (i+1)).foldl (fun b i=>b++st8 8 (h.g i)) []=(List.range i).foldl (fun b i=>b++st8 8 (h.g i)) []++st8 8 (h.g i):=by rw[List.range_succ,List.foldl_append];rfl
  rw[uJ (by rw[by_len _ 8 (fun i=>YN 8 _)];simp;omega),hq];rfl
theorem rfirst1 (d ky fn dp:Int)(lf:UInt32)(off:UInt64)(sO:UInt32)(nd vC:Int)(lH lX key:AC)(last:Bool)(from_:Vec UInt64 16)(lo hi:UInt64)(msg:AC)(cn:UInt64)(blk:AC)(he:o5 1 d ky fn dp lf off sO nd vC lH lX=some (blk,0))(hl:blk.length=64) :
    uB 1 d ky fn dp lf off sO nd vC lH lX key last from_ false lo hi msg cn=some (QL (Stb blk),1,d,ky,fn,dp,lf,off,sO,nd,vC,last,from_,false,lo,hi,msg,cn):=by
  unfold uB;rw[if_neg (by decide),he];simp only[A0o];rw[if_pos trivial,rStart blk hl];simp only[A0o];refine JL _ 8 (fun v (i:Nat)=>zA v i ((Stb blk).g i)) _ _ (fun v i hi=>?_) ?_
  ·unfold xC;simp only[];rw[if_pos (by omega),mZ _ _ hi,mZ _ _ (by omega),kL i (by omega)];rfl
  ·rw[embB_0];unfold xC;simp only[];rw[if_neg (by omega)];rfl
def big:Half:=⟨Vec UInt64 8,1,128,64,fun h b c last node=>Fb h (Wb b) c.1 c.2 last node,Stb,Byb,QL,.inl ⟨rfl,rfl,rfl⟩,YO,rin1,rbytes1,rfirst1⟩
end
section
open Go.RowKit
set_option linter.unusedVariables false
set_option linter.unusedSimpArgs false
def Half.run (H:Half)(blk M:AC):H.σ×(UInt64×UInt64)×AC:=uZ (fun h b c=>H.f h b c false false) H.B (H.st blk) (0,0) M
def Half.hash (H:Half)(blk M:AC)(last:Bool):AC :=
  H.dig (H.f (H.run blk M).1 (pad H.B (H.run blk M).2.2) (FP (H.run blk M).2.1 (UInt64.ofNat (H.run blk M).2.2.length)) true last)
theorem Half.hash_len (H:Half)(blk M:AC)(last:Bool):(H.hash blk M last).length=H.S:=H.diglen _
theorem Half.bp (H:Half):0 < H.B/\H.B<=128:=by rcases H.hk with⟨_,h,_⟩ | ⟨_,h,_⟩ <;> omega
section
variable (H:Half)(d ky fn dp:Int)(lf:UInt32)(off:UInt64)(sO:UInt32)(nd vC:Int)(lH lX key:AC)(last:Bool)(from_:Vec UInt64 16)(msg:AC)(cn:UInt64)(blk:AC)
theorem passed_ok (he:o5 H.k d ky fn dp lf off sO nd vC lH lX=some (blk,0))(hl:blk.length=H.S)(hm:msg.length<=16000000) :
    wO H.k d ky fn dp lf off sO nd vC lH lX key last from_ false 0 0 msg cn =
      some (H.emb (H.run blk msg).1,(H.run blk msg).2.1.1,(H.run blk msg).2.1.2,((msg.length - (H.run blk msg).2.2.length:Nat):Int),H.k,d,ky,fn,dp,lf,off,sO,nd,vC,last,from_,false,0,0,msg,cn):=by
  have hb:=H.bp;unfold wO;rw[H.hfirst d ky fn dp lf off sO nd vC lH lX key last from_ 0 0 msg cn blk he hl];simp only[A0o];rw[H.hB];simp only[A0o];refine Ai (fun i s=>∃ (h:H.σ) (c:UInt64×UInt64) (a:Nat),s=(H.emb h,c.1,c.2,(a:Int))/\a<=msg.length/\a=i*H.B/\uZ (fun h b c=>H.f h b c false false) H.B h c (msg.drop a)=H.run blk msg) _ msg.length _ ⟨H.st blk,(0,0),0,rfl,by omega,by omega,rfl⟩ ?_;rintro i s ⟨h,c,a,rfl,ha,hai,hr⟩;unfold zH;simp only[];have e1:bC ((a:Int)+(H.B:Int))=((a+H.B:Nat):Int):=by rw[jP (by omega)];omega
  rw[e1];by_cases hlt:a+H.B < msg.length
  ·left;have hil:i<=i*H.B:=Nat.le_mul_of_pos_right i hb.1;obtain⟨o,hadd⟩:=radd' c (UInt64.ofNat H.B);refine⟨by omega,(H.emb (H.f h ((msg.drop a).take H.B) (FP c (UInt64.ofNat H.B)) false false),(FP c (UInt64.ofNat H.B)).1,(FP c (UInt64.ofNat H.B)).2,((a+H.B:Nat):Int)),?_,H.f h ((msg.drop a).take H.B) (FP c (UInt64.ofNat H.B)) false false,FP c (UInt64.ofNat H.B),a+H.B,rfl,by omega,by rw[hai,Nat.succ_mul],?_⟩
   ·rw[if_pos (by omega),YP,hadd];simp only[A0o];rw[cut_ok msg a H.B (by omega) (by omega) (by omega)];simp only[A0o];have hp:pad H.B ((msg.drop a).take H.B)=(msg.drop a).take H.B:=by
      unfold pad;rw[show H.B - ((msg.drop a).take H.B).length=0 from by simp;omega];simp
    rw[hp,H.hin h _ (FP c (UInt64.ofNat H.B)) false false (by simp;omega)];rfl
   ·rw[<- hr,RV _ H.B h c (msg.drop a) hb.1 (by simp;omega),List.drop_drop]
  ·right;rw[if_neg (by omega)];have hst:=FQ (fun h b c=>H.f h b c false false) H.B h c (msg.drop a) (by simp;omega);rw[hst] at hr;rw[<- hr];simp only[Option.map_some,Option.some.injEq,Sum.inr.injEq,Prod.mk.injEq,true_and,and_true,A1F];omega
theorem Half.held (H:Half)(blk M:AC):(H.run blk M).2.2.length<=H.B/\(H.run blk M).2.2=M.drop (M.length - (H.run blk M).2.2.length)/\(H.run blk M).2.2.length<=M.length :=
  absorb_end _ H.B H.bp.1 M.length _ _ M (Nat.le_refl _)
theorem rout_ok (he:o5 H.k d ky fn dp lf off sO nd vC lH lX=some (blk,0))(hl:blk.length=H.S)(hm:msg.length<=16000000) :
    zI H.k d ky fn dp lf off sO nd vC lH lX key last from_ false 0 0 msg cn=some (H.hash blk msg last,H.k,d,ky,fn,dp,lf,off,sO,nd,vC,last,from_,false,0,0,msg,cn):=by
  have hb:=H.bp;unfold zI;rw[passed_ok H d ky fn dp lf off sO nd vC lH lX key last from_ msg cn blk he hl hm];simp only[A0o];obtain⟨h1,h2,h3⟩:=H.held blk msg;have e1:bC ((msg.length:Int) - ((msg.length - (H.run blk msg).2.2.length:Nat):Int))=(((H.run blk msg).2.2.length:Nat):Int):=by rw[jP (by omega)];omega
  obtain⟨o,hadd⟩:=radd' (H.run blk msg).2.1 (UInt64.ofNat (H.run blk msg).2.2.length);rw[e1,YP,hadd];simp only[A0o];rw[H.hB];simp only[A0o];rw[cut_ok msg _ H.B (by omega) (by omega) (by omega),<-h2];simp only[A0o];rw[List.take_of_length_le h1];rw[H.hin _ _ _ true last (NL _ _ h1)];simp only[A0o];rw[H.hbytes];rfl
theorem rwrite_ok (b:AC)(lo hi:UInt64)(old:Bool)(hm:msg.length+b.length<=16000000) :
    xP H.k d ky fn dp lf off sO nd vC lH lX key last from_ old lo hi msg cn b=some (H.k,d,ky,fn,dp,lf,off,sO,nd,vC,last,from_,old,lo,hi,msg++b,cn+UInt64.ofInt ((b.length:Nat):Int)):=by
  unfold xP;rw[show((msg,(0:Int)):AC×Int)=(msg++b.take 0,((0:Nat):Int)) from by simp];refine gm (fun i=>(msg++b.take i,(i:Int))) b.length (fun i hi=>?_) ?_
  ·unfold xB;simp only[];rw[if_pos (by omega),bf hi];simp only[A0o];rw[uJ (by simp;omega),kL i (by omega),List.take_succ_eq_append_getElem hi,ul];rfl
  ·unfold xB;simp only[];rw[if_neg (by omega),A0h];rfl
end
def Half.ans (H:Half)(blk M:AC)(last:Bool)(out:Int):AC×Int:=if out < 1∨(H.S:Int) < out then([],1) else((H.hash blk M last).take out.toNat,0)
def Half.kb (H:Half)(key:AC):AC:=if key=[] then[] else pad H.B key
theorem Half.kb_len (H:Half)(key:AC)(h:key.length<=H.B):(H.kb key).length<=H.B:=by
  unfold Half.kb;split
  ·simp
  ·rw[NL _ _ h];exact Nat.le_refl _
theorem rhash_ok (H:Half)(d ky fn dp:Int)(lf:UInt32)(off:UInt64)(sO:UInt32)(nd vC:Int)(lH lX key:AC)(last:Bool)(out:Int)(data blk:AC)(hc:lq H.k d ky fn dp lf off sO nd vC lH lX=some 0)(he:o5 H.k d ky fn dp lf off sO nd vC lH lX=some (blk,0))(hl:blk.length=H.S)(hkey:key=[]∨(key.length:Int)=ky)(hkl:key.length<=H.B)(hd:data.length<=12000000) :
    BL H.k d ky fn dp lf off sO nd vC lH lX key last out data=some (H.ans blk (H.kb key++data) last out):=by
  have hb:=H.bp;unfold BL Nv;rw[hc];simp only[A0o,ne_eq,not_true_eq_false,if_false];rw[if_neg (by
    simp only[A0k,lm];rintro⟨h1,h2⟩;rcases hkey with rfl | h
    ·exact h1 rfl
    ·exact h2 h)]
  rw[show CJ H.k key=some (H.kb key) from keyed_ok H.k H.B H.hB (by omega) key hkl];simp only[A0o,Sum.elim_inr];unfold Half.ans;by_cases h1:out < 1
  ·rw[if_pos h1,if_pos (.inl h1)]
  rw[if_neg h1,H.hS];simp only[A0o];by_cases h2:(H.S:Int) < out
  ·rw[if_pos h2,if_pos (.inr h2)]
  rw[if_neg h2,if_neg (by omega)];have hkb:=H.kb_len key hkl;rw[rwrite_ok H d ky fn dp lf off sO nd vC lH lX key last (Vec.rep 16 0) (H.kb key) 0 data 0 0 false (by omega)];simp only[A0o];rw[rout_ok H d ky fn dp lf off sO nd vC lH lX key last _ _ _ blk he hl (by rw[Pi];omega)];simp only[A0o];rw[Eg (by rw[H.hash_len];omega)];simp
end
section
open Go.RowKit
set_option linter.unusedVariables false
set_option linter.unusedSimpArgs false
def fB (h:Vec UInt64 8)(b:AC)(c:UInt64×UInt64)(last node:Bool):Vec UInt64 8:=Fb h (Wb b) c.1 c.2 last node
theorem Xc (h:Vec UInt64 8)(b:AC)(c:UInt64×UInt64)(last node:Bool)(hb:b.length=128):yR h b c.1 c.2 last node=some (fB h b c last node):=by
  unfold yR;rw[wWords b hb];simp only[A0o];rw[wF];rfl
theorem wj0B (b:AC)(h:Vec UInt64 8)(lo hi:UInt64)(held:AC)(hb:b.length<=12000000)(hh:held.length<=128) :
    kJ 128 b h lo hi held=some (.inl (h,lo,hi,held++b.take (min (128 - held.length) b.length),b.drop (min (128 - held.length) b.length))):=by
  unfold kJ;have e1:bC ((128:Int) - ((held.length:Nat):Int))=((128 - held.length:Nat):Int):=by rw[jP (by omega)];omega
  have e2:(if bC ((128:Int) - ((held.length:Nat):Int)) < ((b.length:Nat):Int) then bC ((128:Int) - ((held.length:Nat):Int)) else((b.length:Nat):Int))=((min (128 - held.length) b.length:Nat):Int):=by
    rw[e1];split <;> omega
  rw[e2,Eg (by omega)];simp only[A0o,A0Z,Int.toNat_zero,A1C];rw[uJ (by simp;omega),Eg (by omega)];simp only[A0o,A0Z];rw[List.take_of_length_le (i:=b.length) (Nat.le_refl _)]
theorem wwriteB (h:Vec UInt64 8)(c:UInt64×UInt64)(held b:AC)(hb:b.length<=12000000)(hh:held.length<=128) :
    lJ h c.1 c.2 held 128 b=some ((uZ (fun h b c=>fB h b c false false) 128 h c (held++b)).1,(uZ (fun h b c=>fB h b c false false) 128 h c (held++b)).2.1.1,(uZ (fun h b c=>fB h b c false false) 128 h c (held++b)).2.1.2,(uZ (fun h b c=>fB h b c false false) 128 h c (held++b)).2.2,128):=by
  unfold lJ;refine Ai (fun i s=>∃ (h':Vec UInt64 8) (c':UInt64×UInt64) (held' b':AC),s=(h',c'.1,c'.2,held',b')/\held'.length<=128/\b'.length+i<=b.length/\uZ (fun h b c=>fB h b c false false) 128 h' c' (held'++b')=uZ (fun h b c=>fB h b c false false) 128 h c (held++b)) _ b.length _ ⟨h,c,held,b,rfl,hh,by omega,rfl⟩ ?_;rintro i s ⟨h',c',held',b',rfl,hh',hbl,hr⟩;rw[<- hr];unfold t_;simp only[];by_cases h0:b'.length=0
  ·right;obtain rfl:=List.length_eq_zero_iff.1 h0;rw[if_neg (by simp),List.append_nil,FQ _ _ _ _ _ hh'];rfl
  ·left;refine⟨by omega,?_⟩;rw[if_pos (by omega)];by_cases hf:held'.length=128
   ·rw[if_pos (by omega)];obtain⟨o,hadd⟩:=wadd c' (UInt64.ofNat 128);have e3:UInt64.ofInt 128=UInt64.ofNat 128:=rfl;rw[e3,hadd];simp only[A0o];rw[Xc h' held' (FP c' (UInt64.ofNat 128)) false false hf];simp only[A0o];rw[Eg (by omega)];simp only[A0o,Int.toNat_zero,List.take_zero,List.drop_nil];rw[wj0B b' _ _ _ [] (by omega) (by simp)];refine⟨_,rfl,_,FP c' (UInt64.ofNat 128),_,_,rfl,by simp;omega,by simp;omega,?_⟩;rw[RV _ 128 h' c' (held'++b') (by omega) (by simp;omega)];rw[show(held'++b').take 128=held' from by rw[List.take_append_of_le_length (by omega),List.take_of_length_le (by omega)],show(held'++b').drop 128=b' from by rw[<- hf,List.drop_left]];rw[List.nil_append,List.take_append_drop]
   ·rw[if_neg (by omega),wj0B b' _ _ _ held' (by omega) hh'];refine⟨_,rfl,_,c',_,_,rfl,by simp;omega,by simp;omega,?_⟩;rw[ul,List.take_append_drop]
theorem woutB (h:Vec UInt64 8)(c:UInt64×UInt64)(held:AC)(node:Bool)(hh:held.length<=128) :
    oZ h c.1 c.2 held 128 node=some (Byb (fB h (pad 128 held) (FP c (UInt64.ofNat held.length)) true node),h,c.1,c.2,held,128):=by
  unfold oZ pM;obtain⟨o,hadd⟩:=wadd c (UInt64.ofNat held.length);rw[YP,hadd];simp only[A0o];have:=wpad held 128 hh (by omega);rw[show((128:Nat):Int)=128 from rfl] at this;rw[this];simp only[A0o];rw[Xc h _ (FP c (UInt64.ofNat held.length)) true node (NL _ _ hh)];simp only[A0o];rw[wBytes];rfl
end
section
open Go.RowKit
set_option linter.unusedVariables false
set_option linter.unusedSimpArgs false
theorem beginB (d:Int)(blk key:AC)(hl:blk.length=64)(hk:key.length<=128):wK 1 d blk key false 0=some (1,d,blk,key,Stb blk,0,0,big.kb key,128):=by
  unfold wK Gn;rw[if_pos rfl];rw[wStart blk hl];simp only[A0o,Sum.elim_inl];unfold Half.kb;by_cases h0:key=[]
  ·subst h0;rfl
  ·rw[if_pos (by have:=List.length_pos_iff.2 h0;omega),if_neg h0];have hp:=wpad key 128 hk (by omega);rw[show((128:Nat):Int)=128 from rfl] at hp;rw[show xO 1=some 128 from rfl];simp only[A0o];rw[hp];simp only[A0o];have hlen:=NL 128 key hk;rw[wwriteB (Stb blk) (0,0) [] (pad 128 key) (by omega) (by simp)];rw[List.nil_append,FQ _ _ _ _ _ (by omega)];rfl
theorem wouB (d:Int)(blk key:AC)(last:Bool)(wr:UInt64)(h:Vec UInt64 8)(c:UInt64×UInt64)(held:AC)(hh:held.length<=128)(out:Int):∃ t,yF 1 d blk key last wr h c.1 c.2 held 128 out=some t/\(t.1,t.2.1)=(if out < 1∨(64:Int) < out then([],1) else((Byb (fB h (pad 128 held) (FP c (UInt64.ofNat held.length)) true last)).take out.toNat,0)):=by
  unfold yF Ar;simp only[A0o];by_cases h1:out < 1
  ·rw[if_pos h1,if_pos (.inl h1)];exact⟨_,rfl,rfl⟩
  rw[if_neg h1,show xO 1=some 128 from rfl];simp only[A0o];rw[show bC (Int.tdiv 128 2)=(64:Int) from rfl];by_cases h2:(64:Int) < out
  ·rw[if_pos h2,if_pos (.inr h2)];exact⟨_,rfl,rfl⟩
  rw[if_neg h2,if_neg (by omega),woutB h c held last hh];simp only[A0o];rw[Eg (by rw[YO];omega)];simp only[A0o];rw[kH (by rw[YO];omega)];exact⟨_,rfl,by simp⟩
theorem whashB (d ky fn dp:Int)(lf:UInt32)(off:UInt64)(sO:UInt32)(nd vC:Int)(lH lX key:AC)(last:Bool)(out:Int)(data blk:AC)(he:uK 1 d ky fn dp lf off sO nd vC lH lX=some (blk,0))(hl:blk.length=64)(hkey:key=[]∨(key.length:Int)=ky)(hkl:key.length<=128)(hd:data.length<=12000000) :
    wL 1 d ky fn dp lf off sO nd vC lH lX key last out data=some (big.ans blk (big.kb key++data) last out):=by
  unfold wL J6;rw[he];simp only[A0o,ne_eq,not_true_eq_false,if_false];rw[if_neg (by
    simp only[A0k,lm];rintro⟨h1,h2⟩;rcases hkey with rfl | h
    ·exact h1 rfl
    ·exact h2 h)]
  unfold IC;rw[uJ (by simp;omega),uJ (by simp;omega)];simp only[A0o,List.nil_append];rw[beginB d blk key hl hkl];simp only[A0o,Sum.elim_inl,Sum.elim_inr];have hkb:=big.kb_len key hkl;rw[wwriteB (Stb blk) (0,0) (big.kb key) data hd hkb];simp only[A0o];obtain⟨h1,h2,h3⟩:=big.held blk (big.kb key++data);obtain⟨t,ht1,ht2⟩:=wouB d blk key last 0 (uZ (fun h b c=>fB h b c false false) 128 (Stb blk) (0,0) (big.kb key++data)).1 (uZ (fun h b c=>fB h b c false false) 128 (Stb blk) (0,0) (big.kb key++data)).2.1 (uZ (fun h b c=>fB h b c false false) 128 (Stb blk) (0,0) (big.kb key++data)).2.2 h1 out;rw[ht1];simp only[A0o,Option.some.injEq];exact ht2
end
section
open Go.RowKit
set_option linter.unusedVariables false
set_option linter.unusedSimpArgs false
theorem hash_ok (d ky fn dp:Int)(lf:UInt32)(off:UInt64)(sO:UInt32)(nd vC:Int)(lH lX key:AC)(last:Bool)(out:Int)(data:AC)(hc:lq 1 d ky fn dp lf off sO nd vC lH lX=some 0)(hkey:key=[]∨(key.length:Int)=ky)(hd:data.length<=12000000) :
    ∃ (H:Half) (blk M:AC),H.k=1/\wL 1 d ky fn dp lf off sO nd vC lH lX key last out data=some (H.ans blk M last out)/\BL 1 d ky fn dp lf off sO nd vC lH lX key last out data=some (H.ans blk M last out):=by
  obtain⟨r,h1,h2⟩:=VA 1 d ky fn dp lf off sO nd vC lH lX;rw[hc] at h1;obtain rfl:=Option.some.inj h1;obtain⟨he1,he2⟩:=enc_ok 1 d ky fn dp lf off sO nd vC lH lX hc;rcases h2 rfl with⟨_,_,_,h3,hs,hp⟩ | ⟨h,_⟩
  ·have hl:(encB 1 d ky fn dp lf off sO nd vC lH lX).length=64:=by rw[encB_len _ _ _ _ _ _ _ _ _ _ _ _ (.inl ⟨rfl,hs,hp⟩)];rfl
   have hkl:key.length<=128:=by
     rcases hkey with rfl | h
     ·simp
     ·omega
   exact⟨big,_,_,rfl,whashB d ky fn dp lf off sO nd vC lH lX key last out data _ he1 hl hkey hkl hd,rhash_ok big d ky fn dp lf off sO nd vC lH lX key last out data _ hc he2 hl hkey hkl hd⟩
  ·cases h
end
section
open Go.RowKit
set_option linter.unusedVariables false
set_option linter.unusedSimpArgs false
section
variable {α σ ρ τ:Type}
def tZ (step:σ->α->σ⊕ρ)(fin:σ->ρ):List α->σ->ρ
  | [],s=>fin s
  | x::r,s=>match step s x with | .inl s'=>tZ step fin r s' | .inr q=>q
theorem QM {f:τ->Option (τ⊕ρ)}(l:List α)(st:σ->Nat->τ)(step:σ->α->σ⊕ρ)(fin:σ->ρ)(I:Nat->σ->Prop)
    (hn:∀ s i (h:i < l.length),I i s->f (st s i)=some (match step s l[i] with | .inl s'=>.inl (st s' (i+1)) | .inr q=>.inr q)/\∀ s',step s l[i]=.inl s'->I (i+1) s')
    (he:∀ s,I l.length s->f (st s l.length)=some (.inr (fin s))) (s:σ) (h0:I 0 s):aQ f (st s 0)=some (tZ step fin l s):=by
  have key:∀ (m k:Nat) (s:σ),m=l.length - k->k<=l.length->I k s->aQ f (st s k)=some (tZ step fin (l.drop k) s):=by
    intro m
    induction m with
    | zero =>
      intro k s hm hk hi;obtain rfl:k=l.length:=by omega
      rw[List.drop_length];exact fZ (he s hi)
    | succ m ih =>
      intro k s hm hk hi;have hlt:k < l.length:=by omega
      obtain⟨h1,h2⟩:=hn s k hlt hi;rw[A0f hlt,tZ];cases hs:step s l[k] with
      | inl s' =>
        rw[hs] at h1;rw[fE h1];exact ih (k+1) s' (by omega) (by omega) (h2 s' hs)
      | inr q =>
        rw[hs] at h1;exact fZ h1
  exact key _ 0 s rfl (Nat.zero_le _) h0
end
def um (s:AC):Bool:=decide (1<=s.length/\s.length<=64)&&s.all (fun c=>!(decide (c < 33)||decide ((126:UInt8) < c)))
theorem runL_all (p:UInt8->Bool):∀ l:AC,tZ (fun(_:Unit) c=>if p c=true then .inr false else .inl ()) (fun _=>true) l ()=l.all (fun c=>!p c)
  | []=>rfl
  | c::r=>by
    unfold tZ;by_cases h:p c=true
    ·simp[h]
    ·simp only[h,if_false,A0z];rw[runL_all p r];simp[h]
theorem named_ok (s:AC)(hs:s.length<=16000000):qH s=some (um s):=by
  unfold qH um;by_cases h:((decide ((s.length:Int) < 1))||(decide (64 < (s.length:Int))))=true
  ·rw[if_pos h];simp only[Bool.or_eq_true,lm] at h;rw[A0q (by omega)];rfl
  ·rw[if_neg h];simp only[Bool.or_eq_true,lm,not_or] at h;rw[A0p (by omega),Bool.true_and,<-runL_all (fun c=>decide (c < 33)||decide ((126:UInt8) < c))];refine QM (f:=xR s) s (fun(_:Unit) i=>(i:Int)) _ _ (fun _ _=>True) (fun _ i hi _=>⟨?_,fun _ _=>trivial⟩) (fun _ _=>?_) () trivial
   ·unfold xR;rw[if_pos (by omega),bf hi];simp only[A0o,Io];by_cases h1:s[i] < 33
    ·simp[h1]
    ·simp only[h1,decide_false,Bool.not_false,if_true,A0o,Bool.false_or,lm];by_cases h2:(126:UInt8) < s[i]
     ·simp[h2]
     ·simp only[h2,if_false];rw[oL i (by omega)]
   ·unfold xR;rw[if_neg (by omega)];rfl
noncomputable def zo (sz:Nat)(b:AC):AC:=((wL 1 sz 0 1 1 0 0 0 0 0 [] [] [] false sz b).getD ([],0)).1
theorem chkD (sz:Nat)(h1:1<=sz)(h2:sz<=64):lq 1 (sz:Int) 0 1 1 0 0 0 0 0 [] []=some 0:=by
  unfold lq;rw[show sG 1=some 64 from rfl];simp only[A0o];rw[if_neg (by decide),if_neg (by simp only[Bool.or_eq_true,lm];omega)];rfl
theorem JM (sz:Nat)(h1:1<=sz)(h2:sz<=64)(b:AC)(hb:b.length<=12000000) :
    wL 1 sz 0 1 1 0 0 0 0 0 [] [] [] false sz b=some (zo sz b,0)/\BL 1 sz 0 1 1 0 0 0 0 0 [] [] [] false sz b=some (zo sz b,0)/\(zo sz b).length=sz:=by
  obtain⟨H,blk,M,hk,e1,e2⟩:=hash_ok sz 0 1 1 0 0 0 0 0 [] [] [] false sz b (chkD sz h1 h2) (.inl rfl) hb;have hS:H.S=64:=by rcases H.hk with⟨_,_,h⟩ | ⟨h,_,_⟩ <;> omega
  have ha:H.ans blk M false sz=((H.hash blk M false).take sz,0):=by
    unfold Half.ans;rw[if_neg (by omega),A0Z]
  have hd:zo sz b=(H.hash blk M false).take sz:=by unfold zo;rw[e1,ha];rfl
  rw[e1,e2,ha,hd];refine⟨rfl,rfl,?_⟩;rw[A0i,H.hash_len,hS];omega
theorem digest_ok (sz:Nat)(h1:1<=sz)(h2:sz<=64)(C:A0E)(S:A0F)(b:AC)(hb:b.length<=12000000):rq sz C S b=some (zo sz b,(sz:Int)):=by
  unfold rq;rw[(JM sz h1 h2 b hb).1];rfl
abbrev Fi:=AC×AC
theorem copied_ok (b:AC)(h:b.length<=16000000):DD b=some b:=by
  unfold DD;rw[uJ (by simp;omega)];simp
theorem files_ok (l:List Fi)(hl:l.length<=16000000)(hd:∀ f ∈ l,f.2.length<=16000000):Fh l=some (l,l):=by
  unfold Fh;refine gm (fun i=>(l.take i,l.take i,(i:Int))) l.length (fun i hi=>?_) ?_
  ·unfold DI;simp only[];rw[if_pos (by omega),bf hi];simp only[A0o];rw[copied_ok _ (hd _ (lw hi))];simp only[A0o];rw[uJ (by simp;omega)];simp only[A0o];rw[oL i (by omega),A0m,A0l hi];rfl
  ·unfold DI;simp only[];rw[if_neg (by omega),A0h];rfl
end
noncomputable section
open Go.RowKit
set_option linter.unusedVariables false
set_option linter.unusedSimpArgs false
section
variable {α σ ρ ρ':Type}
theorem FT {step:σ->α->σ⊕ρ}{fin:σ->ρ}(g:ρ->ρ'):∀ (l:List α) (s:σ),g (tZ step fin l s)=tZ (fun s x=>Sum.map id g (step s x)) (fun s=>g (fin s)) l s
  | [],s=>rfl
  | x::r,s=>by
    unfold tZ;cases step s x with
    | inl a=>exact FT g r a
    | inr q=>rfl
end
abbrev Ch:=A0E
abbrev QW:=Mp WF
abbrev Sn:=A0F
def YQ (s:A0J×Nat)(f:Fi):(A0J×Nat)⊕A06 :=
  if um f.1=false then .inr (some 214) else if(bn s.1 f.1).isSome=true then .inr (some 213) else .inl (gQ s.1 f.1 s.2,s.2+1)
def seeA (l:List Fi):A06:=tZ YQ (fun _=>none) l ([],0)
def MR (sz:Nat)(C:Ch)(s:Ch×AC)(c:AC):(Ch×AC)⊕Option (Ch×AC) :=
  match(bn C (zo sz c)).or (bn s.1 (zo sz c)) with
  | some o=>if o≠c then .inr none else .inl (gQ s.1 (zo sz c) c,s.2++zo sz c)
  | none=>.inl (gQ s.1 (zo sz c) c,s.2++zo sz c)
def Wy (sz:Nat)(C:Ch)(l:WP)(m:Ch):Option (Ch×AC):=tZ (MR sz C) some l (m,[])
def QN (sz:Nat)(C:Ch)(s:Ch×QW)(f:Fi):(Ch×QW)⊕Option (Ch×QW) :=
  match Wy sz C (cut f.2 [] 0) s.1 with
  | none=>.inr none
  | some p=>.inl (p.1,gQ s.2 f.1 ((f.2.length:Int),p.2))
def keepA (sz:Nat)(C:Ch)(l:List Fi):Option (Ch×QW):=tZ (QN sz C) some l ([],[])
def yl (C m:Ch):Ch:=m.foldl (fun c p=>gQ c p.1 p.2) C
def putA (sz:Nat)(C:Ch)(S:Sn)(snap:AC)(l:List Fi):Int×Ch×Sn :=
  match bn S snap with
  | some _=>(if um snap=true then 213 else 214,C,S)
  | none=>if um snap=false then(214,C,S) else if 64<=S.length∨256 < l.length then(2,C,S) else
    match seeA l with
    | some e=>(e,C,S)
    | none=>match keepA sz C l with
      | none=>(271,C,S)
      | some p=>(0,yl C p.1,gQ S snap p.2)
def g2 (sz:Nat)(C:Ch)(S:Sn)(md:QW)(i:Nat)(f:Fi):Option (Ch×AC)->(Int×Ch×QW×Int)⊕(Int×Int×Ch×Sn)
  | none=>.inr (271,(sz:Int),C,S)
  | some p=>.inl ((sz:Int),p.1,gQ md f.1 ((f.2.length:Int),p.2),((i+1:Nat):Int))
def g1 (sz:Nat)(C:Ch)(S:Sn)(snap:AC):Option (Ch×QW)->Int×Int×Ch×Sn
  | none=>(271,(sz:Int),C,S)
  | some p=>(0,(sz:Int),yl C p.1,gQ S snap p.2)
def g0 (sz:Nat)(C:Ch)(S:Sn)(snap:AC)(l:List Fi):A06->Int×Int×Ch×Sn
  | some e=>(e,(sz:Int),C,S)
  | none=>g1 sz C S snap (keepA sz C l)
theorem f3_join (m:Ch):∀ C:Ch,jB mf C m=some (yl C m):=by
  induction m with
  | nil=>intro C;rfl
  | cons p r ih =>
    intro C;obtain⟨k,v⟩:=p;simp only[jB,mf,A0o];exact ih _
theorem l2_ok (sz:Nat)(h1:1<=sz)(h2:sz<=64)(C:Ch)(S:Sn)(md:QW)(i:Nat)(f:Fi)(hf:f.2.length<=1048576)(m:Ch)(hi:i<=1000000) :
    aQ (nT C S md (i:Int) f (cut f.2 [] 0,0)) ((sz:Int),m,([]:AC),(0:Int)) =
      some (g2 sz C S md i f (Wy sz C (cut f.2 [] 0) m)):=by
  have hc:=JK f.2;have hb:=EC f.2 [] 0 (by simp);unfold Wy;rw[FT (g2 sz C S md i f)];refine QM (f:=nT C S md (i:Int) f (cut f.2 [] 0,0)) (cut f.2 [] 0) (fun(s:Ch×AC) k=>((sz:Int),s.1,s.2,(k:Int))) _ _ (fun k s=>s.2.length=k*sz) (fun s k hk hI=>?_) (fun s hI=>?_) (m,[]) (by simp)
  ·have hx:=(hb _ (lw hk)).2;have hdl:=(JM sz h1 h2 (cut f.2 [] 0)[k] (by omega)).2.2;unfold nT;simp only[];rw[if_pos (by omega),bf hk];simp only[A0o];rw[digest_ok sz h1 h2 C S _ (by omega)];simp only[A0o];have hneed:s.2.length+(zo sz (cut f.2 [] 0)[k]).length<=9223372036854775807:=by
     rw[hI,hdl];have:k*sz<=1048576*64:=Nat.mul_le_mul (by omega) h2;omega
   unfold MR;constructor
   ·cases hC:bn C (zo sz (cut f.2 [] 0)[k]) with
    | some o =>
      simp only[A1A,Option.some_or];unfold wP;by_cases ho:o≠(cut f.2 [] 0)[k]
      ·rw[if_pos ho,if_pos ho];rfl
      ·rw[if_neg ho,if_neg ho,kH hneed];simp only[A0o];unfold l_;rw[oL k (by omega)];try rfl
    | none =>
      simp only[Option.elim_none,Option.none_or];cases hm:bn s.1 (zo sz (cut f.2 [] 0)[k]) with
      | some o =>
        simp only[A1A];unfold nS;by_cases ho:o≠(cut f.2 [] 0)[k]
        ·rw[if_pos (by simpa using ho),if_pos ho];rfl
        ·rw[if_neg (by simpa using ho),if_neg ho,kH hneed];simp only[A0o];unfold l_;rw[oL k (by omega)];try rfl
      | none =>
        simp only[Option.elim_none];unfold nS;rw[if_neg (by simp),kH hneed];simp only[A0o];unfold l_;rw[oL k (by omega)];try rfl
   ·have hlen:(s.2++zo sz (cut f.2 [] 0)[k]).length=(k+1)*sz:=by rw[Pi,hI,hdl,Nat.succ_mul]
    intro s' hs';generalize (bn C (zo sz (cut f.2 [] 0)[k])).or (bn s.1 (zo sz (cut f.2 [] 0)[k]))=o at hs';cases o with
    | none =>
      obtain rfl:=Sum.inl.inj hs';exact hlen
    | some o =>
      simp only[] at hs';by_cases ho:o≠(cut f.2 [] 0)[k]
      ·rw[if_pos ho] at hs';cases hs'
      ·rw[if_neg ho] at hs';obtain rfl:=Sum.inl.inj hs';exact hlen
  ·unfold nT;simp only[];rw[if_neg (by omega),oL i (by omega)];rfl
theorem l1_ok (sz:Nat)(h1:1<=sz)(h2:sz<=64)(C:Ch)(S:Sn)(snap:AC)(l:List Fi)(hl:l.length<=256)(hd:∀ f ∈ l,f.2.length<=1048576) :
    aQ (nU C S snap l) ((sz:Int),([]:Ch),([]:QW),(0:Int)) =
      some (g1 sz C S snap (keepA sz C l)):=by
  unfold keepA;rw[FT (g1 sz C S snap)];refine QM (f:=nU C S snap l) l (fun(s:Ch×QW) k=>((sz:Int),s.1,s.2,(k:Int))) _ _ (fun _ _=>True) (fun s k hk _=>⟨?_,fun _ _=>trivial⟩) (fun s _=>?_) ([],[]) trivial
  ·have hx:=hd _ (lw hk);unfold nU;simp only[];rw[if_pos (by omega),bf hk];simp only[A0o];rw[Vz _ hx];simp only[A0o];rw[l2_ok sz h1 h2 C S s.2 k l[k] hx s.1 (by omega)];unfold QN;cases Wy sz C (cut l[k].2 [] 0) s.1 <;> rfl
  ·unfold nU;simp only[];rw[if_neg (by omega),f3_join];rfl
theorem put_ok (sz:Nat)(h1:1<=sz)(h2:sz<=64)(C:Ch)(S:Sn)(snap:AC)(l:List Fi)(hsn:snap.length<=16000000)(hd:∀ f ∈ l,f.1.length<=16000000/\f.2.length<=1048576) :
    qh sz C S snap l=some ((putA sz C S snap l).1,(sz:Int),(putA sz C S snap l).2.1,(putA sz C S snap l).2.2):=by
  unfold qh dm putA;simp only[A0o];rw[named_ok snap hsn];cases hS:bn S snap with
  | some x =>
    simp only[A1A,A0o];cases hn:um snap <;> rfl
  | none =>
    simp only[Option.elim_none,A0o];cases hn:um snap with
    | false=>rfl
    | true =>
      simp only[Bool.not_true,A0z,if_false,Bool.true_eq_false];by_cases hw:64<=S.length∨256 < l.length
      ·rw[if_pos hw,if_pos (by simp only[Bool.or_eq_true,lm];omega)]
      rw[if_neg hw,if_neg (by simp only[Bool.or_eq_true,lm];omega)];simp only[not_or,Nat.not_le,Nat.not_lt] at hw;have hw1:=l1_ok sz h1 h2 C S snap l hw.2 (fun f hf=>(hd f hf).2);have key:aQ (nV C S snap l (sz:Int)) (([]:A0J),(0:Int))=some (g0 sz C S snap l (seeA l)):=by
        unfold seeA;rw[FT (g0 sz C S snap l)];refine QM (f:=nV C S snap l (sz:Int)) l (fun(s:A0J×Nat) k=>(s.1,(k:Int))) _ _ (fun k s=>s.2=k) (fun s k hk hI=>?_) (fun s _=>?_) ([],0) rfl
        ·have hx:=hd _ (lw hk);unfold nV YQ;simp only[];rw[if_pos (by omega),bf hk];simp only[A0o];rw[named_ok _ hx.1];simp only[A0o];constructor
         ·cases hnn:um l[k].1 with
          | false=>rfl
          | true =>
            simp only[Bool.not_true,A0z,if_false,Bool.true_eq_false];rw[if_neg (by omega)];by_cases hf:(bn s.1 l[k].1).isSome=true
            ·rw[if_pos hf,if_pos hf];rfl
            ·rw[if_neg hf,if_neg hf,oL k (by omega),hI];try rfl
         ·intro s' hs';cases hnn:um l[k].1 with
          | false=>rw[hnn] at hs';cases hs'
          | true =>
            rw[hnn] at hs';simp only[Bool.true_eq_false,if_false] at hs';by_cases hf:(bn s.1 l[k].1).isSome=true
            ·rw[if_pos hf] at hs';cases hs'
            ·rw[if_neg hf] at hs';obtain rfl:=Sum.inl.inj hs';show s.2+1=k+1;omega
        ·unfold nV;simp only[];rw[if_neg (by omega),hw1];rfl
      rw[key];cases seeA l with
      | some e=>rfl
      | none =>
        simp only[g0];cases keepA sz C l <;> rfl
end
section
def NN (x:Nat):Prop:=x % 9223372036854775808<=9218868437227405312
instance (x:Nat):Decidable (NN x):=inferInstanceAs (Decidable (_<=_))
def Num (x:Nat):Prop:=x % 9223372036854775808 < 9218868437227405312
instance (x:Nat):Decidable (Num x):=inferInstanceAs (Decidable (_ < _))
end
section
open Go.RowKit
set_option linter.unusedVariables false
set_option linter.unusedSimpArgs false
section
variable {δ:Type}
theorem EO (k:Ky)(v:δ):∀ m:Mp δ,bn (gQ m k v) k=some v
  | []=>by simp[gQ,bn]
  | p::r=>by
    unfold gQ;by_cases h1:k=p.1
    ·rw[if_pos h1];simp[bn]
    ·rw[if_neg h1];by_cases h2:k < p.1
     ·rw[if_pos h2];simp[bn]
     ·rw[if_neg h2,bn,if_neg (fun e=>h1 e.symm),EO k v r]
theorem wz (k k':Ky)(v:δ)(m:Mp δ):bn (gQ m k v) k'=if k=k' then some v else bn m k':=by
  by_cases h:k=k'
  ·rw[if_pos h,<-h,EO]
  ·rw[if_neg h,yU h]
theorem FU (k:Ky)(v:δ):∀ m:Mp δ,(gQ m k v).length<=m.length+1
  | []=>by simp[gQ]
  | p::r=>by
    unfold gQ;split
    ·simp
    ·split
     ·simp
     ·have:=FU k v r;simp only[bi];omega
theorem Ic {k:Ky}{v:δ}{q:Ky×δ}:∀ {m:Mp δ},q ∈ gQ m k v->q=(k,v)∨q ∈ m
  | [],h=>.inl (by simpa [gQ] using h)
  | p::r,h=>by
    unfold gQ at h;split at h
    ·rcases ut.1 h with h | h
     ·exact .inl h
     ·exact .inr (A0e _ h)
    ·split at h
     ·rcases ut.1 h with h | h
      ·exact .inl h
      ·exact .inr h
     ·rcases ut.1 h with h | h
      ·exact .inr (h▸A0g)
      ·rcases Ic h with h | h
       ·exact .inl h
       ·exact .inr (A0e _ h)
theorem RX (m:A0E)(k:Ky):∀ C:Ch,(m.map (·.1)).Nodup->bn (yl C m) k=(bn m k).or (bn C k):=by
  induction m with
  | nil=>intro C _;rfl
  | cons p r ih =>
    intro C hn;rw[kw,List.nodup_cons] at hn;show bn (yl (gQ C p.1 p.2) r) k=_;rw[ih _ hn.2,wz];rw[bn];by_cases h:p.1=k
    ·rw[if_pos h,if_pos h,jD.2 (h▸hn.1)];rfl
    ·rw[if_neg h,if_neg h]
theorem QO (m:Ch):∀ C:Ch,mM C->mM (yl C m):=by
  induction m with
  | nil=>intro C h;exact h
  | cons p r ih=>intro C h;exact ih _ (h.gQ _ _)
end
def xx (C:Ch):Nat:=(C.map (fun p=>p.2.length)).sum
theorem eat_step {sz:Nat}{s:Ch×AC}{c:AC}{s':Ch×AC}{C:Ch}(h:MR sz C s c=.inl s'):s'=(gQ s.1 (zo sz c) c,s.2++zo sz c)/\∀ o,bn C (zo sz c)=none->bn s.1 (zo sz c)=some o->o=c:=by
  unfold MR at h;cases hC:bn C (zo sz c) with
  | some o =>
    rw[hC] at h;simp only[Option.some_or] at h;by_cases ho:o≠c
    ·rw[if_pos ho] at h;cases h
    ·rw[if_neg ho] at h;exact⟨(Sum.inl.inj h).symm,fun _ e=>by cases e⟩
  | none =>
    rw[hC] at h;simp only[Option.none_or] at h;cases hm:bn s.1 (zo sz c) with
    | none =>
      rw[hm] at h;exact⟨(Sum.inl.inj h).symm,fun _ _ e=>by cases e⟩
    | some o =>
      rw[hm] at h;simp only[] at h;by_cases ho:o≠c
      ·rw[if_pos ho] at h;cases h
      ·rw[if_neg ho] at h;exact⟨(Sum.inl.inj h).symm,fun o' _ e=>by cases e;exact Classical.not_not.1 ho⟩
def sizes (m:QW):Int:=(m.map (fun p=>p.2.1)).sum
theorem Xd:∀ (l:List Fi)(m:A0J)(j:Nat),tZ YQ (fun _=>(none:A06)) l (m,j)=none->(l.map (·.1)).Nodup/\∀ f ∈ l,bn m f.1=none
  | [],_,_,_=>⟨List.nodup_nil,fun f hf=>by cases hf⟩
  | f::l,m,j,h=>by
    unfold tZ YQ at h;by_cases h1:um f.1=false
    ·rw[if_pos h1] at h;cases h
    rw[if_neg h1] at h;by_cases h2:(bn m f.1).isSome=true
    ·rw[if_pos h2] at h;cases h
    rw[if_neg h2] at h;obtain⟨h3,h4⟩:=Xd l _ _ h;have h5:bn m f.1=none:=by simpa using h2
    have h6:∀ g ∈ l,f.1≠g.1/\bn m g.1=none:=fun g hg=>by
      have h7:=h4 g hg;rw[wz] at h7;by_cases h8:f.1=g.1
      ·rw[if_pos h8] at h7;cases h7
      ·rw[if_neg h8] at h7;exact⟨h8,h7⟩
    refine⟨?_,fun g hg=>?_⟩
    ·rw[kw,List.nodup_cons];refine⟨fun hc=>?_,h3⟩;obtain⟨g,hg,he⟩:=ww.1 hc;exact(h6 g hg).1 he.symm
    ·rcases ut.1 hg with rfl | hg
     ·exact h5
     ·exact(h6 g hg).2
end
section
open Go.RowKit
set_option linter.unusedVariables false
set_option linter.unusedSimpArgs false
def MW:Nat->Nat->AC
  | 0,_=>[]
  | k+1,n=>UInt8.ofNat n::MW k (n / 256)
def D7:AC->Nat
  | []=>0
  | b::r=>b.toNat+256*D7 r
theorem iG:∀ k n,(MW k n).length=k
  | 0,_=>rfl
  | k+1,n=>by simp[MW,iG k]
theorem Ie:∀ k n,n < 256 ^ k->D7 (MW k n)=n
  | 0,n,h=>by simp at h;subst h;rfl
  | k+1,n,h=>by
    rw[Nat.pow_succ] at h;simp only[MW,D7,UInt8.toNat_ofNat'];rw[Ie k (n / 256) (by omega)];omega
theorem valD_app:∀ a b:AC,D7 (a++b)=D7 a+256 ^ a.length*D7 b
  | [],b=>by simp[D7]
  | x::a,b=>by
    simp only[A0x,D7,valD_app a b,bi,Nat.pow_succ,Nat.mul_add,Nat.add_assoc];congr 2;rw[<- Nat.mul_assoc,Nat.mul_comm 256]
theorem valD_lt:∀ a:AC,D7 a < 256 ^ a.length
  | []=>by simp[D7]
  | x::a=>by
    have:=valD_lt a;have:=x.toNat_lt;simp only[D7,bi,Nat.pow_succ];omega
theorem MZ (n:Nat):UInt8.ofInt (n:Int)=UInt8.ofNat n:=by
  apply UInt8.toNat_inj.1;simp[UInt8.ofInt];omega
theorem M_ (n:Nat)(h:n < 4294967296):uh (n:Int)=some (MW 4 n):=by
  unfold uh DJ;simp only[A0o,Option.some.injEq];have hw:(UInt32.ofInt (n:Int)).toNat=n:=by simp[UInt32.ofInt];omega
  have hs:∀ k,(Dc (UInt32.ofInt (n:Int)) k).toNat=n / 2 ^ k:=fun k=>by
    show((UInt32.ofInt (n:Int)).toBitVec >>> k).toNat=_;rw[BitVec.toNat_ushiftRight,Nat.shiftRight_eq_div_pow];congr 1
  rw[hs,hs,hs,hw];simp only[MW];have e1:n / 2 ^ (8:UInt64).toNat=n / 256:=rfl;have e2:n / 2 ^ (16:UInt64).toNat=n / 256 / 256:=by rw[Nat.div_div_eq_div_mul];rfl
  have e3:n / 2 ^ (24:UInt64).toNat=n / 256 / 256 / 256:=by rw[Nat.div_div_eq_div_mul,Nat.div_div_eq_div_mul];rfl
  rw[e1,e2,e3]
theorem dtwo_ok (n:Nat)(h:n < 65536):([UInt8.ofInt (n:Int),UInt8.ofInt (VT .i64 (n:Int) ((8:UInt64).toNat))]:AC)=MW 2 n:=by
  have:VT .i64 (n:Int) ((8:UInt64).toNat)=((n / 256:Nat):Int):=by
    show(n:Int).fdiv (2 ^ (min 8 64))=_;rw[show(2:Int) ^ (min 8 64)=256 from rfl,Int.fdiv_eq_ediv_of_nonneg _ (by omega)];omega
  rw[this,MZ,MZ];rfl
theorem or_byte (n c i:Nat)(hn:n < 256 ^ i)(hc:c < 256)(hi:i<=3):orI .i64 (n:Int) (shlI .i64 (c:Int) (8*i))=((n+256 ^ i*c:Nat):Int):=by
  have hp:(256:Nat) ^ i=2 ^ (8*i):=by rw[Nat.pow_mul]
  have hb:256 ^ i<=16777216:=Nat.pow_le_pow_right (n:=256) (by decide) hi;have h1:shlI .i64 (c:Int) (8*i)=((c*256 ^ i:Nat):Int):=by
    unfold shlI;have hm:min (8*i) IntKind.i64.bits=8*i:=Nat.min_eq_left (by show 8*i<=64;omega);rw[hm];have:(c:Int)*2 ^ (8*i)=((c*256 ^ i:Nat):Int):=by rw[hp];push_cast;rfl
    rw[this];show bC _=_;have:c*256 ^ i<=255*16777216:=Nat.mul_le_mul (by omega) hb;rw[jP (by omega)]
  rw[h1];unfold orI;have e:(BitVec.ofInt IntKind.i64.bits (n:Int)|||BitVec.ofInt IntKind.i64.bits ((c*256 ^ i:Nat):Int)).toNat=n+256 ^ i*c:=by
    have hc2:c*256 ^ i<=255*16777216:=Nat.mul_le_mul (by omega) hb;show(BitVec.ofInt 64 (n:Int)|||BitVec.ofInt 64 ((c*256 ^ i:Nat):Int)).toNat=_;rw[BitVec.toNat_or,BitVec.ofInt_natCast,BitVec.ofInt_natCast,BitVec.toNat_ofNat,BitVec.toNat_ofNat,Nat.mod_eq_of_lt (by omega),Nat.mod_eq_of_lt (by omega),Nat.or_comm];have h2:=Nat.shiftLeft_add_eq_or_of_lt (b:=n) (i:=8*i) (hp▸hn) c;rw[Nat.shiftLeft_eq,<-hp] at h2;rw[<- h2,Nat.mul_comm,Nat.add_comm]
  rw[e];show bC _=_;have hc2:256 ^ i*c<=16777216*255:=Nat.mul_le_mul hb (by omega);rw[jP (by omega)]
theorem pnum_run (bs rest:AC)(sh wr:Bool)(h:bs.length<=4):aQ (pV (bs,rest,sh,wr)) ((0:Int),(0:Int))=some ((D7 bs:Int),rest,sh,wr):=by
  refine gm (fun i=>((D7 (bs.take i):Int),(i:Int))) bs.length (fun i hi=>?_) ?_
  ·unfold pV;simp only[];rw[if_pos (by omega),bf hi];simp only[A0o];have e:bC (8*(i:Int))=((8*i:Nat):Int):=by rw[jP (by omega)];omega
   rw[e,kH (by omega)];simp only[A0o,A0Z];have hl:(bs.take i).length=i:=by rw[A0i];omega
   have hv:=valD_lt (bs.take i);rw[hl] at hv;rw[or_byte _ _ i hv bs[i].toNat_lt (by omega),oL i (by omega)];rw[A0m,A0l hi,valD_app,hl];simp[D7]
  ·unfold pV;simp only[];rw[if_neg (by omega),A0h];rfl
end
section
open Go.RowKit
set_option linter.unusedVariables false
set_option linter.unusedSimpArgs false
def Ox (p:Ky×AC):AC:=MW 2 p.2.length++p.2
def VB (sz:Nat)(p:Ky×WF):AC:=[UInt8.ofNat p.1.length]++p.1++MW 4 p.2.1.toNat++MW 4 (p.2.2.length / sz)++p.2.2
def TQ (sz:Nat)(p:Ky×Mp WF):AC:=[UInt8.ofNat p.1.length]++p.1++MW 4 p.2.length++(p.2.map (VB sz)).flatten
def Ig (sz:Nat)(C:Ch)(S:Sn):AC:=[68,81,1,UInt8.ofNat sz]++MW 4 C.length++(C.map Ox).flatten++MW 4 S.length++(S.map (TQ sz)).flatten
theorem FV {δ:Type}{m:Mp δ}(h:mM m):Di (m.map (·.1))=m.map (·.1):=by
  unfold Di;refine List.mergeSort_of_pairwise ?_;unfold mM at h;exact h.imp fun hab=>A0p (List.le_of_lt hab)
theorem EP {α:Type}(f:α->AC)(l:List α)(i:Nat)(h:i < l.length):((l.take (i+1)).map f).flatten=((l.take i).map f).flatten++f l[i]:=by
  rw[A0m,A0l h,Option.toList_some,List.map_append,List.flatten_append];simp only[kw,List.map_nil,A1E,List.flatten_nil,List.append_nil]
theorem Pv {α:Type}(f:α->AC)(l:List α)(i:Nat):((l.take i).map f).flatten.length<=(l.map f).flatten.length:=by
  have h:l.map f=(l.take i).map f++(l.drop i).map f:=by rw[<- List.map_append,List.take_append_drop]
  have h2:=congrArg (fun x=>x.flatten.length) h;simp only[List.flatten_append,Pi] at h2;omega
theorem YR {δ:Type}{m:Mp δ}(h:mM m)(i:Nat)(hi:i < m.length):bn m m[i].1=some m[i].2:=ku h.nodup (lw hi)
structure OkE (sz:Nat)(m:QW):Prop where
  Di:mM m
  len:m.length<=1000000
  name:∀ p ∈ m,1<=p.1.length/\p.1.length<=64
  size:∀ p ∈ m,0<=p.2.1/\p.2.1<=1048576
  digs:∀ p ∈ m,p.2.2.length<=1000000000
theorem app1 {a b:AC}(h:a.length+b.length<=100000000000000):app a b 1=some (a++b):=uJ (by omega)
theorem save_l2 (sz:Nat)(h1:1<=sz)(x3:Nat)(hx3:x3<=1000000)(m:QW)(hm:OkE sz m)(b:AC)(hb:b.length+(m.map (VB sz)).flatten.length<=100000000000000) :
    aQ (pO (sz:Int) (x3:Int) m (m.map (·.1))) (b,(0:Int))=some (.inl (b++(m.map (VB sz)).flatten,((x3+1:Nat):Int))):=by
  have h0:(b,(0:Int))=(b++((m.take 0).map (VB sz)).flatten,((0:Nat):Int)):=by simp
  rw[h0];refine gm (fun i=>(b++((m.take i).map (VB sz)).flatten,(i:Int))) m.length (fun i hi=>?_) ?_
  ·have hlen:=hm.len;have hnm:=hm.name _ (lw hi);have hsz:=hm.size _ (lw hi);have hdg:=hm.digs _ (lw hi);have hk:i < (m.map (·.1)).length:=by rw[A0a];exact hi
   have hf:=YR hm.Di i hi;have ht:=Pv (VB sz) m (i+1);rw[EP (VB sz) m i hi,Pi] at ht;have he:(VB sz m[i]).length=1+m[i].1.length+4+4+m[i].2.2.length:=by simp[VB,iG];omega
   unfold pO;simp only[];rw[if_pos (by rw[A0a];omega),bf hk];simp only[A0o,A0r];rw[app1 (by simp only[Pi,bi,A0b];omega)];simp only[A0o];rw[app1 (by simp only[Pi,bi,A0b];omega)];simp only[A0o,hf,Option.getD_some];obtain⟨q,hq⟩:∃ q:Nat,m[i].2.1=(q:Int):=⟨m[i].2.1.toNat,by omega⟩
   rw[hq,M_ q (by omega)];simp only[A0o];rw[app1 (by simp only[Pi,bi,A0b,iG];omega)];simp only[A0o];rw[kH (by omega)];simp only[A0o];have hdv:bC (Int.tdiv (m[i].2.2.length:Int) (sz:Int))=((m[i].2.2.length / sz:Nat):Int):=by
     have h2:m[i].2.2.length / sz<=m[i].2.2.length:=Nat.div_le_self _ _;rw[show Int.tdiv (m[i].2.2.length:Int) (sz:Int)=((m[i].2.2.length / sz:Nat):Int) from rfl];generalize m[i].2.2.length / sz=z at h2 ⊢;exact jP (by omega)
   have hdl:m[i].2.2.length / sz<=m[i].2.2.length:=Nat.div_le_self _ _;rw[hdv,M_ _ (by omega)];simp only[A0o];rw[app1 (by simp only[Pi,bi,A0b,iG];omega)];simp only[A0o];rw[app1 (by simp only[Pi,bi,A0b,iG];omega)];simp only[A0o];rw[oL i (by omega),EP (VB sz) m i hi,MZ];simp only[VB,hq,A0Z,ul]
  ·unfold pO;simp only[];rw[if_neg (by rw[A0a];omega),oL x3 (by omega),A0h];rfl
structure OkS (sz:Nat)(S:Sn):Prop where
  Di:mM S
  len:S.length<=1000000
  name:∀ p ∈ S,1<=p.1.length/\p.1.length<=64
  each:∀ p ∈ S,OkE sz p.2
theorem save_l1 (sz:Nat)(h1:1<=sz)(S:Sn)(hS:OkS sz S)(b:AC)(hb:b.length+(S.map (TQ sz)).flatten.length<=100000000000000) :
    aQ (pR S (sz:Int) (S.map (·.1))) (b,(0:Int))=some (b++(S.map (TQ sz)).flatten,(sz:Int)):=by
  have h0:(b,(0:Int))=(b++((S.take 0).map (TQ sz)).flatten,((0:Nat):Int)):=by simp
  rw[h0];refine gm (fun i=>(b++((S.take i).map (TQ sz)).flatten,(i:Int))) S.length (fun i hi=>?_) ?_
  ·have hlen:=hS.len;have hnm:=hS.name _ (lw hi);have hE:=hS.each _ (lw hi);have hEl:=hE.len;have hk:i < (S.map (·.1)).length:=by rw[A0a];exact hi
   have hf:=YR hS.Di i hi;have ht:=Pv (TQ sz) S (i+1);rw[EP (TQ sz) S i hi,Pi] at ht;have he:(TQ sz S[i]).length=1+S[i].1.length+4+(S[i].2.map (VB sz)).flatten.length:=by simp only[TQ,iG,Pi,bi,A0b]
   unfold pR;simp only[];rw[if_pos (by rw[A0a];omega),bf hk];simp only[A0o,A0r];rw[app1 (by simp only[Pi,bi,A0b];omega)];simp only[A0o];rw[app1 (by simp only[Pi,bi,A0b];omega)];simp only[A0o,hf,A1A];rw[M_ _ (by omega)];simp only[A0o];rw[app1 (by simp only[Pi,bi,A0b,iG];omega)];simp only[A0o];unfold lK;rw[kH (by omega)];simp only[A0o];rw[FV hE.Di,save_l2 sz h1 i (by omega) S[i].2 hE _ (by simp only[Pi,bi,A0b,iG];omega)];rw[EP (TQ sz) S i hi,MZ];simp only[TQ,ul]
  ·unfold pR;simp only[];rw[if_neg (by rw[A0a];omega),A0h];rfl
structure OkC (C:Ch):Prop where
  Di:mM C
  len:C.length<=1000000000
  each:∀ p ∈ C,1<=p.2.length/\p.2.length<=1024
theorem save_l0 (sz:Nat)(h1:1<=sz)(C:Ch)(hC:OkC C)(S:Sn)(hS:OkS sz S)(b:AC)(hb:b.length+(C.map Ox).flatten.length+4+(S.map (TQ sz)).flatten.length<=100000000000000) :
    aQ (pU C S (sz:Int) (C.map (·.1))) (b,(0:Int))=some (b++(C.map Ox).flatten++MW 4 S.length++(S.map (TQ sz)).flatten,(sz:Int)):=by
  have h0:(b,(0:Int))=(b++((C.take 0).map Ox).flatten,((0:Nat):Int)):=by simp
  rw[h0];refine gm (fun i=>(b++((C.take i).map Ox).flatten,(i:Int))) C.length (fun i hi=>?_) ?_
  ·have hlen:=hC.len;have hE:=hC.each _ (lw hi);have hk:i < (C.map (·.1)).length:=by rw[A0a];exact hi
   have hf:=YR hC.Di i hi;have ht:=Pv Ox C (i+1);rw[EP Ox C i hi,Pi] at ht;have he:(Ox C[i]).length=2+C[i].2.length:=by simp only[Ox,iG,Pi]
   unfold pU;simp only[];rw[if_pos (by rw[A0a];omega),bf hk];simp only[A0o,A0r,hf,A1A];rw[dtwo_ok _ (by omega),app1 (by simp only[Pi,iG];omega)];simp only[A0o];rw[app1 (by simp only[Pi,iG];omega)];simp only[A0o];rw[oL i (by omega),EP Ox C i hi];simp only[Ox,ul]
  ·have hSl:=hS.len;unfold pU;simp only[];rw[if_neg (by rw[A0a];omega),A0h,M_ _ (by omega)];simp only[A0o];rw[app1 (by simp only[Pi,iG];omega)];simp only[A0o];unfold iZ;rw[kH (by omega)];simp only[A0o];rw[FV hS.Di,save_l1 sz h1 S hS _ (by simp only[Pi,iG];omega)];rfl
theorem save_ok (sz:Nat)(h1:1<=sz)(C:Ch)(hC:OkC C)(S:Sn)(hS:OkS sz S)(hb:(Ig sz C S).length<=100000000000000):lQ (sz:Int) C S=some (Ig sz C S,(sz:Int)):=by
  have hlen:=hC.len;unfold Ig at hb;simp only[Pi,bi,A0b,iG] at hb;unfold lQ dm;simp only[A0o];rw[M_ _ (by omega)];simp only[A0o];rw[app1 (by simp only[bi,A0b,iG];omega)];simp only[A0o];unfold rX;rw[kH (by omega)];simp only[A0o];rw[FV hC.Di,save_l0 sz h1 C hC S hS _ (by simp only[Pi,bi,A0b,iG];omega),MZ];rfl
end
section
open Go.RowKit
set_option linter.unusedVariables false
set_option linter.unusedSimpArgs false
theorem xK:∀ a b:AC,Op.bytesLess a b=decide (a < b)
  | a,[]=>by
    have:¬ a < []:=List.not_lt_nil a;cases a <;> simp[Op.bytesLess,this]
  | [],y::b=>by
    have:([]:AC) < y::b:=List.nil_lt_cons y b;simp[Op.bytesLess,this]
  | x::a,y::b=>by
    rw[Op.bytesLess,xK a b];have:=List.cons_lt_cons_iff (a:=x) (b:=y) (l₁:=a) (l₂:=b);by_cases h1:x < y
    ·simp[h1,this]
    ·by_cases h2:x=y
     ·subst h2;simp[h1,this]
     ·simp[h1,h2,this]
theorem after_ok {k last:Ky}(h:last < k):(!(Op.bytesLess k last||decide (k=last)))=true:=by
  rw[xK,A0q (Hg h),A0q (fun e=>LZ h e.symm)];rfl
theorem Xe {δ:Type}(k:Ky)(v:δ):∀ m:Mp δ,(∀ p ∈ m,p.1 < k)->gQ m k v=m++[(k,v)]
  | [],_=>rfl
  | p::r,h=>by
    have h1:=h p A0g;rw[gQ,if_neg (fun e=>LZ h1 e.symm),if_neg (Hg h1),Xe k v r (fun q hq=>h q (A0e _ hq))];rfl
theorem VC {δ:Type}{m:Mp δ}(h:mM m)(i:Nat)(hi:i < m.length):∀ p ∈ m.take i,p.1 < m[i].1:=by
  intro p hp;obtain⟨j,hj,rfl⟩:=List.getElem_of_mem hp;rw[A0i] at hj;rw[List.getElem_take];unfold mM at h;have:=List.pairwise_iff_getElem.1 h j i (by rw[A0a];omega) (by rw[A0a];exact hi) (by omega);simpa using this
theorem RY {δ:Type}{m:Mp δ}(h:mM m)(i:Nat)(hi:i < m.length):gQ (m.take i) m[i].1 m[i].2=m.take (i+1):=by
  rw[Xe _ _ _ (VC h i hi),A0m,A0l hi];rfl
def Gg {δ:Type}(m:Mp δ):Nat->Ky
  | 0=>[]
  | i+1=>((m[i]?).map (·.1)).getD []
theorem YS {δ:Type}{m:Mp δ}(h:mM m)(i:Nat)(hi:i < m.length):(decide ((i:Int)=0)||!(Op.bytesLess m[i].1 (Gg m i)||decide (m[i].1=Gg m i)))=true:=by
  cases i with
  | zero=>simp
  | succ i =>
    have h1:Gg m (i+1)=m[i].1:=by simp[Gg,A0l (show i < m.length by omega)]
    have h2:m[i].1 < m[i+1].1:=VC h (i+1) hi _ (by
      have:m[i]=(m.take (i+1))[i]'(by rw[A0i];omega):=by rw[List.getElem_take]
      rw[this];exact lw _)
    rw[h1,after_ok h2,Bool.or_true]
theorem NM (X R:AC)(wr:Bool)(n:Int)(hn:n=X.length):lL (X++R) false wr n=some (X,R,false,wr):=by
  subst hn;unfold lL;rw[if_neg (by simp only[Bool.false_or,lm,Pi];omega),Eg (by simp only[Pi];omega)];simp only[A0o];rw[Eg (by simp only[Pi];omega)];have e1:((X++R).take ((X.length:Int)).toNat).drop (0:Int).toNat=X:=by rw[A0Z,List.take_left];rfl
  have e2:((X++R).take ((((X++R).length:Nat):Int)).toNat).drop ((X.length:Int)).toNat=R:=by rw[A0Z,A0Z,A0h,List.drop_left]
  rw[e1,e2];rfl
theorem RZ (X R:AC)(wr:Bool)(n:Int)(hn:n=X.length)(h4:X.length<=4):nN (X++R) false wr n=some ((D7 X:Int),R,false,wr):=by
  unfold nN;rw[NM X R wr n hn];simp only[A0o];exact pnum_run X R false wr h4
theorem KJ (X R:AC)(wr:Bool)(n:Int)(hn:n=X.length)(h4:X.length<=4)(hv:D7 X<=R.length):kR (X++R) false wr n=some ((D7 X:Int),R,false,wr):=by
  unfold kR;rw[RZ X R wr n hn h4];simp only[A0o];rw[if_neg (by omega)]
theorem KL (p:AC)(sh wr ok:Bool)(h:ok=true):lM p sh wr ok=some (p,sh,wr):=by
  subst h;rfl
theorem YT {α:Type}(f:α->AC)(l:List α)(i:Nat)(h:i < l.length):((l.drop i).map f).flatten=f l[i]++((l.drop (i+1)).map f).flatten:=by
  rw[A0f h];rfl
theorem QP {α:Type}(f:α->AC)(k:Nat):∀ l:List α,(∀ p ∈ l,k<=(f p).length)->k*l.length<=(l.map f).flatten.length
  | [],_=>by simp
  | p::l,h=>by
    have h1:=QP f k l (fun q hq=>h q (A0e _ hq));have h2:=h p A0g;simp only[kw,A1E,Pi,bi,Nat.mul_succ];omega
theorem valD1 (n:Nat)(h:n < 256):D7 [UInt8.ofNat n]=n:=by
  simp[D7];omega
theorem chunks_ok (sz:Nat)(h1:1<=sz)(h2:sz<=64)(C:Ch)(hC:OkC C)(hd:∀ p ∈ C,p.1=zo sz p.2)(Sx:A0K)(R:AC) :
    uP (MW 4 C.length++((C.map Ox).flatten++R)) false false (sz:Int) [] Sx=some (R,false,false,(sz:Int),C):=by
  have hlen:=hC.len;have hv:D7 (MW 4 C.length)=C.length:=Ie 4 _ (by have:(256:Nat) ^ 4=4294967296:=rfl;omega);have hcnt:=QP Ox 1 C (fun p hp=>by have:=(hC.each p hp).1;simp only[Ox,Pi,iG];omega);unfold uP;rw[KJ _ _ _ _ (by rw[iG];rfl) (by rw[iG];exact Nat.le_refl _) (by rw[hv,Pi];omega),hv];simp only[A0o];have h0:((C.map Ox).flatten++R,false,false,(sz:Int),([]:Ch),([]:AC),(0:Int))=(((C.drop 0).map Ox).flatten++R,false,false,(sz:Int),C.take 0,Gg C 0,((0:Nat):Int)):=rfl;rw[h0];refine gm (fun i=>(((C.drop i).map Ox).flatten++R,false,false,(sz:Int),C.take i,Gg C i,(i:Int))) C.length (fun i hi=>?_) ?_
  ·have hE:=hC.each _ (lw hi);have hk:=hd _ (lw hi);have hl:=YS hC.Di i hi;have hv2:D7 (MW 2 C[i].2.length)=C[i].2.length:=Ie 2 _ (by have:(256:Nat) ^ 2=65536:=rfl;omega);unfold ve;simp only[];rw[if_pos (by omega),if_neg (by decide),YT Ox C i hi];simp only[Ox,ul];rw[KJ _ _ _ _ (by rw[iG];rfl) (by rw[iG];decide) (by rw[hv2,Pi];omega),hv2];simp only[A0o];rw[NM _ _ _ _ rfl];simp only[A0o];rw[app1 (by simp only[A0b];omega)];simp only[A0o,List.nil_append];rw[KL _ _ _ _ (by simp only[Nat.zero_add,A0k,lm];omega)];simp only[A0o,Bool.or_self,A0z,if_false];have hdg:n_ (sz:Int) (C.take i) Sx C[i].2=some (C[i].1,(sz:Int)):=by
     unfold n_;rw[(JM sz h1 h2 C[i].2 (by omega)).1,hk];rfl
   rw[hdg];simp only[A0o];rw[KL _ _ _ _ hl];simp only[A0o];unfold pW u_;rw[RY hC.Di i hi,oL i (by omega)];have:C[i].1=Gg C (i+1):=by simp[Gg,A0l hi]
   rw[<- this]
  ·unfold ve;simp only[];rw[if_neg (by omega),List.drop_length,A0h];rfl
structure OkF (sz:Nat)(m:QW):Prop where
  ok:OkE sz m
  few:m.length<=256
  nm:∀ p ∈ m,um p.1=true
  whole:∀ p ∈ m,p.2.2.length / sz*sz=p.2.2.length
theorem files_load (sz:Nat)(h1:1<=sz)(h2:sz<=64)(m:QW)(hm:OkF sz m)(R:AC) :
    wR (MW 4 m.length++((m.map (VB sz)).flatten++R)) false false (sz:Int)=some (.inr (m,R,false,false)):=by
  have hlen:=hm.few;have hv:D7 (MW 4 m.length)=m.length:=Ie 4 _ (by have:(256:Nat) ^ 4=4294967296:=rfl;omega);have hcnt:=QP (VB sz) 1 m (fun p hp=>by simp only[VB,iG,Pi,bi,A0b];omega);unfold wR;rw[KJ _ _ _ _ (by rw[iG];rfl) (by rw[iG];exact Nat.le_refl _) (by rw[hv,Pi];omega),hv];simp only[A0o];rw[KL _ _ _ _ (by simp only[lm];omega)];simp only[A0o];have h0:((m.map (VB sz)).flatten++R,false,false,([]:QW),([]:AC),(0:Int))=(((m.drop 0).map (VB sz)).flatten++R,false,false,m.take 0,Gg m 0,((0:Nat):Int)):=rfl;rw[h0];refine gm (fun i=>(((m.drop i).map (VB sz)).flatten++R,false,false,m.take i,Gg m i,(i:Int))) m.length (fun i hi=>?_) ?_
  ·have hnm:=hm.ok.name _ (lw hi);have hsz:=hm.ok.size _ (lw hi);have hdg:=hm.ok.digs _ (lw hi);have hn:=hm.nm _ (lw hi);have hw:=hm.whole _ (lw hi);have hl:=YS hm.ok.Di i hi;obtain⟨q,hq⟩:∃ q:Nat,m[i].2.1=(q:Int):=⟨m[i].2.1.toNat,by omega⟩
   have hdl:m[i].2.2.length / sz<=m[i].2.2.length:=Nat.div_le_self _ _;have hv4:D7 (MW 4 q)=q:=Ie 4 _ (by have:(256:Nat) ^ 4=4294967296:=rfl;omega);have hv5:D7 (MW 4 (m[i].2.2.length / sz))=m[i].2.2.length / sz:=Ie 4 _ (by have:(256:Nat) ^ 4=4294967296:=rfl;omega);have hv1:D7 [UInt8.ofNat m[i].1.length]=m[i].1.length:=valD1 _ (by omega);unfold wQ;simp only[];rw[if_pos (by omega),if_neg (by decide),YT (VB sz) m i hi];simp only[VB,ul,hq,A0Z];rw[KJ [UInt8.ofNat m[i].1.length] _ _ 1 rfl (by simp) (by rw[hv1,Pi];omega),hv1];simp only[A0o];rw[NM _ _ _ _ rfl];simp only[A0o];rw[RZ _ _ _ _ (by rw[iG];rfl) (by rw[iG];exact Nat.le_refl _),hv4];simp only[A0o];rw[named_ok _ (by omega),hn];simp only[A0o];rw[KL _ _ _ _ (by rw[hl];simp only[Bool.and_self,Bool.true_and,lm];omega)];simp only[A0o];rw[KJ _ _ _ _ (by rw[iG];rfl) (by rw[iG];exact Nat.le_refl _) (by rw[hv5,Pi];omega),hv5];simp only[A0o];have hmul:bC (((m[i].2.2.length / sz:Nat):Int)*(sz:Int))=(m[i].2.2.length:Int):=by
     have:((m[i].2.2.length / sz:Nat):Int)*(sz:Int)=((m[i].2.2.length / sz*sz:Nat):Int):=by rw[Int.natCast_mul]
     rw[this,hw,jP (by omega)]
   rw[hmul,NM _ _ _ _ rfl];simp only[A0o];have hpair:((q:Int),m[i].2.2)=m[i].2:=by rw[<- hq]
   rw[hpair,RY hm.ok.Di i hi,oL i (by omega)];have:m[i].1=Gg m (i+1):=by simp[Gg,A0l hi]
   rw[<- this]
  ·unfold wQ;simp only[];rw[if_neg (by omega),List.drop_length,A0h];rfl
structure OkG (sz:Nat)(S:Sn):Prop where
  Di:mM S
  few:S.length<=64
  name:∀ p ∈ S,1<=p.1.length/\p.1.length<=64
  nm:∀ p ∈ S,um p.1=true
  each:∀ p ∈ S,OkF sz p.2
def som (S:Sn):A0K:=S.map fun p=>(p.1,some p.2)
theorem som_srt {S:Sn}(h:mM S):mM (som S):=by
  unfold mM som;rw[List.map_map];exact h
theorem load_ok (sz:Nat)(h1:1<=sz)(h2:sz<=64)(C:Ch)(hC:OkC C)(hd:∀ p ∈ C,p.1=zo sz p.2)(S:Sn)(hS:OkG sz S):Aw (Ig sz C S)=some (.inr ((sz:Int),C,S)):=by
  have hlen:=hS.few;have hv1:D7 [UInt8.ofNat sz]=sz:=valD1 _ (by omega);have hv:D7 (MW 4 S.length)=S.length:=Ie 4 _ (by have:(256:Nat) ^ 4=4294967296:=rfl;omega);have hcnt:=QP (TQ sz) 1 S (fun p hp=>by simp only[TQ,iG,Pi,bi,A0b];omega);have hb:Ig sz C S=[68,81,1]++([UInt8.ofNat sz]++(MW 4 C.length++((C.map Ox).flatten++(MW 4 S.length++(S.map (TQ sz)).flatten)))):=by
    unfold Ig;simp only[ul];rfl
  unfold Aw;rw[hb,NM [68,81,1] _ _ 3 rfl];simp only[A0o];rw[RZ [UInt8.ofNat sz] _ _ 1 rfl (by simp),hv1];simp only[A0o];rw[KL _ _ _ _ (by simp only[A0k,lm];exact⟨⟨trivial,by omega⟩,by omega⟩)];simp only[A0o];rw[chunks_ok sz h1 h2 C hC hd];simp only[A0o];rw[KJ _ _ _ _ (by rw[iG];rfl) (by rw[iG];exact Nat.le_refl _) (by rw[hv];omega),hv];simp only[A0o];rw[KL _ _ _ _ (by simp only[lm];omega)];simp only[A0o];have h0:((S.map (TQ sz)).flatten,false,false,([]:A0K),([]:AC),(0:Int))=(((S.drop 0).map (TQ sz)).flatten,false,false,(som S).take 0,Gg S 0,((0:Nat):Int)):=rfl;rw[h0];have hsl:(som S).length=S.length:=by unfold som;rw[A0a]
  refine gm (fun i=>(((S.drop i).map (TQ sz)).flatten,false,false,(som S).take i,Gg S i,(i:Int))) S.length (fun i hi=>?_) ?_
  ·have hnm:=hS.name _ (lw hi);have hn:=hS.nm _ (lw hi);have hF:=hS.each _ (lw hi);have hl:=YS hS.Di i hi;have hv1:D7 [UInt8.ofNat S[i].1.length]=S[i].1.length:=valD1 _ (by omega);unfold BD;simp only[];rw[if_pos (by omega),if_neg (by decide),YT (TQ sz) S i hi];simp only[TQ,ul];rw[KJ [UInt8.ofNat S[i].1.length] _ _ 1 rfl (by simp) (by rw[hv1,Pi];omega),hv1];simp only[A0o];rw[NM _ _ _ _ rfl];simp only[A0o];rw[named_ok _ (by omega),hn];simp only[A0o];rw[KL _ _ _ _ (by rw[hl];rfl)];simp only[A0o];rw[files_load sz h1 h2 S[i].2 hF];simp only[A0o,Sum.elim_inr];have hgi:(som S)[i]'(by omega)=(S[i].1,some S[i].2):=by unfold som;rw[A0r]
   have hmt:=RY (som_srt hS.Di) i (by omega);rw[hgi] at hmt;rw[hmt,oL i (by omega)];have:S[i].1=Gg S (i+1):=by simp[Gg,A0l hi]
   rw[<- this]
  ·unfold BD;simp only[];rw[if_neg (by omega),List.drop_length,<-hsl,A0h];unfold yL BC;rw[if_neg (by decide),if_neg (by simp),if_neg (by decide),kH (by unfold som;simp)];simp only[A0o,Option.map_some,som,List.map_map];have:S.map ((fun p:Ky×Option A0B=>(p.1,p.2.getD [])) ∘ fun p=>(p.1,some p.2))=S:=by
     conv=>rhs;rw[<- List.map_id S]
     rfl
   rw[this]
end
section
open Go.RowKit
set_option linter.unusedVariables false
set_option linter.unusedSimpArgs false
noncomputable def dks (sz:Nat)(f:Fi):A0G:=(cut f.2 [] 0).map (zo sz)
def Agree (C m:Ch):Prop:=∀ k v,bn m k=some v->∀ o,bn C k=some o->o=v
structure EatC (sz:Nat)(C:Ch)(cs:List (List UInt8))(s r:Ch×List UInt8):Prop where
  Di:mM s.1->mM r.1
  agree:Agree C s.1->Agree C r.1
  mono:Agree C s.1->∀ k v,bn s.1 k=some v->bn r.1 k=some v
  has:Agree C s.1->∀ c ∈ cs,bn r.1 (zo sz c)=some c
  mem:∀ p ∈ r.1,p ∈ s.1∨∃ c ∈ cs,p=(zo sz c,c)
  digs:r.2=s.2++(cs.map (zo sz)).flatten
  len:r.1.length<=s.1.length+cs.length
theorem Xf {sz:Nat}{s:Ch×AC}{c:AC}{s':Ch×AC}{C:Ch}(h:MR sz C s c=.inl s') :
    s'=(gQ s.1 (zo sz c) c,s.2++zo sz c)/\(∀ o,bn C (zo sz c)=some o->o=c)/\(∀ o,bn C (zo sz c)=none->bn s.1 (zo sz c)=some o->o=c):=by
  refine⟨(eat_step h).1,fun o ho=>?_,(eat_step h).2⟩;unfold MR at h;rw[ho] at h;simp only[Option.some_or] at h;by_cases h1:o≠c
  ·rw[if_pos h1] at h;cases h
  ·exact Classical.not_not.1 h1
theorem eat_inr {sz:Nat}{C:Ch}{s:Ch×AC}{c:AC}{q:Option (Ch×AC)}(h:MR sz C s c=.inr q):q=none:=by
  unfold MR at h;cases hC:(bn C (zo sz c)).or (bn s.1 (zo sz c)) with
  | none=>rw[hC] at h;cases h
  | some o =>
    rw[hC] at h;simp only[] at h;by_cases ho:o≠c
    ·rw[if_pos ho] at h;exact(Sum.inr.inj h).symm
    ·rw[if_neg ho] at h;cases h
theorem Na {sz:Nat}{C:Ch}:∀ (cs:WP) (s r:Ch×AC),tZ (MR sz C) some cs s=some r->EatC sz C cs s r
  | [],s,r,h=>by
    cases h;exact⟨id,id,fun _ _ _ h=>h,fun _ c hc=>(by cases hc),fun p hp=>.inl hp,by simp,by simp⟩
  | c::cs,s,r,h=>by
    unfold tZ at h;cases hs:MR sz C s c with
    | inr q =>
      rw[hs,eat_inr hs] at h;cases h
    | inl s' =>
      rw[hs] at h;obtain⟨rfl,hC,h2⟩:=Xf hs;have ih:=Na cs _ r h;have hag:Agree C s.1->Agree C (gQ s.1 (zo sz c) c):=fun ha k v hk o ho=>by
        rw[wz] at hk;by_cases hkk:zo sz c=k
        ·rw[if_pos hkk] at hk;rw[<- hkk] at ho;rw[<- Option.some.inj hk];exact hC o ho
        ·rw[if_neg hkk] at hk;exact ha k v hk o ho
      refine⟨fun hm=>ih.Di (hm.gQ _ _),fun ha=>ih.agree (hag ha),fun ha k v hk=>ih.mono (hag ha) k v ?_,fun ha x hx=>?_,fun p hp=>?_,?_,?_⟩
      ·show bn (gQ s.1 (zo sz c) c) k=some v;rw[wz];by_cases hkk:zo sz c=k
       ·rw[if_pos hkk];subst hkk;cases hCk:bn C (zo sz c) with
        | none=>rw[h2 v hCk hk]
        | some o=>rw[<- hC o hCk,ha _ v hk o hCk]
       ·rw[if_neg hkk];exact hk
      ·rcases ut.1 hx with rfl | hx
       ·exact ih.mono (hag ha) _ _ (EO _ _ _)
       ·exact ih.has (hag ha) x hx
      ·rcases ih.mem p hp with h3 | ⟨x,hx,rfl⟩
       ·rcases Ic h3 with rfl | h3
        ·exact .inr ⟨c,A0g,rfl⟩
        ·exact .inl h3
       ·exact .inr ⟨x,A0e _ hx,rfl⟩
      ·rw[ih.digs];simp
      ·have h3:=ih.len;have h4:=FU (zo sz c) c s.1;simp only[bi] at *;omega
structure KeptC (sz:Nat)(C:Ch)(l:List Fi)(s r:Ch×QW):Prop where
  Di:mM s.1->mM r.1
  srt2:mM s.2->mM r.2
  agree:Agree C s.1->Agree C r.1
  mono:Agree C s.1->∀ k v,bn s.1 k=some v->bn r.1 k=some v
  has:Agree C s.1->∀ f ∈ l,∀ c ∈ cut f.2 [] 0,bn r.1 (zo sz c)=some c
  mem:∀ p ∈ r.1,p ∈ s.1∨∃ f ∈ l,∃ c ∈ cut f.2 [] 0,p=(zo sz c,c)
  ent:∀ p ∈ r.2,p ∈ s.2∨∃ f ∈ l,p=(f.1,((f.2.length:Int),(dks sz f).flatten))
  find:(l.map (·.1)).Nodup->∀ f ∈ l,bn r.2 f.1=some ((f.2.length:Int),(dks sz f).flatten)
  keep:∀ k,k ∉ l.map (·.1)->bn r.2 k=bn s.2 k
  uI:r.2.length<=s.2.length+l.length
  len:r.1.length<=s.1.length+(l.map (fun f=>f.2.length)).sum
theorem Xg {sz:Nat}{C:Ch}:∀ (l:List Fi) (s r:Ch×QW),tZ (QN sz C) some l s=some r->KeptC sz C l s r
  | [],s,r,h=>by
    cases h;exact⟨id,id,id,fun _ _ _ h=>h,fun _ f hf=>(by cases hf),fun p hp=>.inl hp,fun p hp=>.inl hp,fun _ f hf=>(by cases hf),fun _ _=>rfl,by simp,by simp⟩
  | f::l,s,r,h=>by
    unfold tZ QN at h;unfold Wy at h;cases he:tZ (MR sz C) some (cut f.2 [] 0) (s.1,[]) with
    | none=>rw[he] at h;cases h
    | some q =>
      rw[he] at h;have hE:=Na _ _ _ he;have hdg:q.2=(dks sz f).flatten:=by rw[hE.digs];rfl
      have ih:KeptC sz C l (q.1,gQ s.2 f.1 ((f.2.length:Int),q.2)) r:=Xg l _ r h;rw[hdg] at ih;refine⟨fun hm=>ih.Di (hE.Di hm),fun hm=>ih.srt2 (hm.gQ _ _),fun ha=>ih.agree (hE.agree ha),fun ha k v hk=>ih.mono (hE.agree ha) k v (hE.mono ha k v hk),fun ha g hg c hc=>?_,fun p hp=>?_,fun p hp=>?_,fun hnd g hg=>?_,fun k hk=>?_,?_,?_⟩
      ·rcases ut.1 hg with rfl | hg
       ·exact ih.mono (hE.agree ha) _ _ (hE.has ha c hc)
       ·exact ih.has (hE.agree ha) g hg c hc
      ·rcases ih.mem p hp with h3 | ⟨g,hg,c,hc,rfl⟩
       ·rcases hE.mem p h3 with h3 | ⟨c,hc,rfl⟩
        ·exact .inl h3
        ·exact .inr ⟨f,A0g,c,hc,rfl⟩
       ·exact .inr ⟨g,A0e _ hg,c,hc,rfl⟩
      ·rcases ih.ent p hp with h3 | ⟨g,hg,rfl⟩
       ·rcases Ic h3 with rfl | h3
        ·exact .inr ⟨f,A0g,rfl⟩
        ·exact .inl h3
       ·exact .inr ⟨g,A0e _ hg,rfl⟩
      ·rw[kw,List.nodup_cons] at hnd;rcases ut.1 hg with rfl | hg
       ·rw[ih.keep _ hnd.1];exact EO _ _ _
       ·exact ih.find hnd.2 g hg
      ·rw[kw,ut,not_or] at hk;rw[ih.keep k hk.2];exact yU (fun e=>hk.1 e.symm) _ _
      ·have h3:=ih.uI;have h4:=FU f.1 ((f.2.length:Int),(dks sz f).flatten) s.2;simp only[bi] at *;omega
      ·have h3:=ih.len;have h4:=hE.len;have h5:=JK f.2;simp only[kw,List.sum_cons] at *;omega
theorem Xh:∀ (l:List Fi)(s:A0J×Nat),tZ YQ (fun _=>(none:A06)) l s=none->∀ f ∈ l,um f.1=true
  | [],_,_,f,hf=>by cases hf
  | f::l,s,h,g,hg=>by
    unfold tZ YQ at h;by_cases h1:um f.1=false
    ·rw[if_pos h1] at h;cases h
    rw[if_neg h1] at h;by_cases h2:(bn s.1 f.1).isSome=true
    ·rw[if_pos h2] at h;cases h
    rw[if_neg h2] at h;rcases ut.1 hg with rfl | hg
    ·simpa using h1
    ·exact Xh l _ h g hg
def chop (sz:Nat):Nat->AC->A0G
  | 0,_=>[]
  | n+1,s=>s.take sz::chop sz n (s.drop sz)
theorem JO (sz:Nat):∀ ks:A0G,(∀ k ∈ ks,k.length=sz)->chop sz ks.length ks.flatten=ks
  | [],_=>rfl
  | k::ks,h=>by
    have hk:=h k A0g;have ih:=JO sz ks (fun x hx=>h x (A0e _ hx));have e1:(k++ks.flatten).take sz=k:=by rw[<- hk,List.take_left]
    have e2:(k++ks.flatten).drop sz=ks.flatten:=by rw[<- hk,List.drop_left]
    simp only[bi,A1E,chop];rw[e1,e2,ih]
theorem Nb (sz:Nat):∀ ks:A0G,(∀ k ∈ ks,k.length=sz)->ks.flatten.length=ks.length*sz
  | [],_=>by simp
  | k::ks,h=>by
    have hk:=h k A0g;have ih:=Nb sz ks (fun x hx=>h x (A0e _ hx));simp only[A1E,Pi,bi,Nat.succ_mul,ih,hk];omega
theorem cut_run (sz:Nat)(h1:1<=sz)(ks:A0G)(hk:∀ k ∈ ks,k.length=sz)(hl:ks.length<=1000000000) :
    aQ (kC (sz:Int)) (ks.flatten,([]:A0G))=some (ks,(sz:Int)):=by
  have h0:(ks.flatten,([]:A0G))=((ks.drop 0).flatten,ks.take 0):=rfl;rw[h0];refine gm (fun i=>((ks.drop i).flatten,ks.take i)) ks.length (fun i hi=>?_) ?_
  ·have hki:=hk _ (lw hi);unfold kC;simp only[];rw[A0f hi,A1E];have hlen:(ks[i]++(ks.drop (i+1)).flatten).length=sz+(ks.drop (i+1)).flatten.length:=by rw[Pi,hki]
   rw[if_pos (by omega),Eg (by omega)];simp only[A0o];rw[uJ (by simp only[A0i,bi,A0b];omega)];simp only[A0o];rw[Eg (by omega)];simp only[A0o];have e1:((ks[i]++(ks.drop (i+1)).flatten).take ((sz:Int)).toNat).drop (0:Int).toNat=ks[i]:=by
     rw[A0Z,<-hki,List.take_left];rfl
   have e2:((ks[i]++(ks.drop (i+1)).flatten).take ((((ks[i]++(ks.drop (i+1)).flatten).length:Nat):Int)).toNat).drop ((sz:Int)).toNat=(ks.drop (i+1)).flatten:=by
     rw[A0Z,A0Z,A0h,<-hki,List.drop_left]
   rw[e1,e2,A0m,A0l hi];rfl
  ·unfold kC;simp only[];rw[List.drop_length,if_neg (by simp),A0h];rfl
end
section
open Go.RowKit
set_option linter.unusedVariables false
set_option linter.unusedSimpArgs false
theorem inc_find (T:A0J)(x k:Ky):(bn (inc T x) k).getD 0=if x=k then bC ((bn T k).getD 0+1) else(bn T k).getD 0:=by
  unfold inc;rw[wz];by_cases h:x=k
  ·rw[if_pos h,if_pos h,h];rfl
  ·rw[if_neg h,if_neg h]
theorem QQ (k:Ky):∀ (L:A0G) (T:A0J),0<=(bn T k).getD 0->(bn T k).getD 0+L.length < 4611686018427387904->(bn (L.foldl inc T) k).getD 0=(bn T k).getD 0+(L.count k:Int)
  | [],T,_,_=>by simp
  | x::L,T,h0,h1=>by
    simp only[bi] at h1;have hi:=inc_find T x k;rw[List.foldl_cons];by_cases h:x=k
    ·rw[if_pos h,jP (by omega)] at hi;rw[QQ k L (inc T x) (by omega) (by omega),hi,h,List.count_cons_self];omega
    ·rw[if_neg h] at hi;rw[QQ k L (inc T x) (by omega) (by omega),hi,List.count_cons_of_ne (by simpa using h)]
theorem Si (k:Ky):∀ (L:A0G) (T:A0J),bn (L.foldl inc T) k≠none->k ∈ L∨bn T k≠none
  | [],T,h=>.inr h
  | x::L,T,h=>by
    rcases Si k L (inc T x) h with h1 | h1
    ·exact .inl (A0e _ h1)
    ·unfold inc at h1;rw[wz] at h1;by_cases hx:x=k
     ·exact .inl (hx▸A0g)
     ·rw[if_neg hx] at h1;exact .inr h1
structure Whole (sz:Nat)(p:Ky×(Int×List UInt8))(ks:List Ky):Prop where
  eq:p.2.2=ks.flatten
  each:∀ k ∈ ks,k.length=sz
  len:ks.length<=1048576
theorem told_ens (sz:Nat)(h1:1<=sz)(C:Ch)(S:Sn)(kf:Ky×WF->A0G):∀ md:QW,(∀ p ∈ md,Whole sz p (kf p))->∀ T:A0J,
    jB (jo C S) ((sz:Int),T) md=some ((sz:Int),(md.map kf).flatten.foldl inc T)
  | [],_,T=>rfl
  | p::md,h,T=>by
    have hp:=h p A0g;have hl:=hp.len;have hc:jO (sz:Int) C S p.2.2=some (kf p,(sz:Int)):=by
      unfold jO;rw[hp.eq];exact cut_run sz h1 (kf p) hp.each (by omega)
    rw[jB,yz,hc];simp only[A0o];rw[if_pos (by omega)];simp only[A0o];rw[told_ens sz h1 C S kf md (fun q hq=>h q (A0e _ hq))];rw[kw,A1E,List.foldl_append]
theorem cut_s1:xU=kC:=rfl
end
end Go.Sx
