import Derived.Test.YtpmdigdlcejkaaaGreatDoorProg
import Derived.Test.YtpmdigdlcejkaaaGreatDoorK3
namespace Go.Sx
open Go.RowKit Go.Proofs Tryz
set_option linter.unusedVariables false
set_option linter.unusedSimpArgs false
set_option maxRecDepth 20000
variable {F O:Nat->Prop}{w:World}
abbrev A2E(F O:Nat->Prop)(w:World)(n:Nat)(a:List SV)(v:SV)(L:List HP):Prop:=Calls prog n (vals a) w fun e w'=>e=.returned (SV.val v)/\Cx F O w w' L
abbrev A2F(n:Nat)(a:List SV)(w:World)(p:Ending->World->Prop):Prop:=Calls prog n (vals a) w p
theorem A2C{P:Program}{n:Nat}{L:St}{w:World}{Q:Exit->Act->World->Prop}{y:Code}{K1 K2:Act->World->Prop}{i:Nat}{σ ρ:Type}{e:Option ρ}{z:σ⊕ρ}{r:ρ}(hm:e.map Sum.inr=some z)(hr:∀ r',z=.inr r'->r'=r)(k:e=some r->W P n y Q L w):W P n (.exit i) (Exit.then K1 (Exit.then K2 (Exit.inBlock i (Exit.then (y.wp P Q) Q)))) L w:=bU (aW (aW (eG (au (k (bC hm hr))))))
theorem A2B{w:World}{os:List SV}{cs:List Cond}(c:Prop)(g:Nat)(r:Ask os cs w):Ask os (dp (c->(some ⟨g,0,none⟩:EQ).isSome=true)::cs) w:=qp _ (fun _=>rfl) r
theorem y{α:Type _}{a:α}:a=a:=rfl
theorem C:type_of% @ae:=@ae
theorem D:type_of% @qe:=@qe
theorem H:type_of% @Wq:=@Wq
theorem J:type_of% @aJ:=@aJ
theorem K:type_of% @ai:=@ai
theorem A0n{n fn}(h:prog.funcs[n]?=some fn)(hb:∃ c,fn.body=some c:=by exact⟨_,rfl⟩)(hn:(fn.name=="runtime.NumGoroutine")=false:=by kernel_rfl):dV prog n:=hb.elim fun c hb=>⟨⟨fn,c,h,hb,hn⟩⟩
theorem A0o:dV prog 5:=A0n func5
theorem A0p:dV prog 6:=A0n func6
theorem A0q:dV prog 8:=A0n func8
theorem A0r:dV prog 9:=A0n func9
theorem Zc:dV prog 10:=A0n func10
theorem A0s:dV prog 11:=A0n func11
theorem Vp:dV prog 12:=A0n func12
theorem Vq:dV prog 13:=A0n func13
theorem RF:dV prog 14:=A0n func14
theorem A0t:dV prog 17:=A0n func17
theorem A0u:dV prog 18:=A0n func18
theorem RG:dV prog 26:=A0n func26
theorem RI:dV prog 31:=A0n func31
theorem GU:dV prog 32:=A0n func32
theorem Zd:dV prog 33:=A0n func33
theorem Ze:dV prog 34:=A0n func34
theorem RJ:dV prog 35:=A0n func35
theorem A0v:dV prog 36:=A0n func36
theorem A0w:dV prog 37:=A0n func37
theorem A0x:dV prog 38:=A0n func38
theorem A0y:dV prog 39:=A0n func39
theorem RN:dV prog 40:=A0n func40
theorem A0z:dV prog 41:=A0n func41
theorem A1A:dV prog 42:=A0n func42
theorem RS:dV prog 44:=A0n func44
theorem A1B:dV prog 45:=A0n func45
theorem A1C:dV prog 50:=A0n func50
theorem A1D:dV prog 51:=A0n func51
theorem Vr:dV prog 55:=A0n func55
theorem A1E:dV prog 61:=A0n func61
theorem Zf:dV prog 63:=A0n func63
theorem A1F:dV prog 64:=A0n func64
theorem A1G:dV prog 67:=A0n func67
theorem A1H:dV prog 89:=A0n func89
theorem Vs:dV prog 92:=A0n func92
theorem Vt:dV prog 93:=A0n func93
theorem A1J:dV prog 94:=A0n func94
theorem A1K:dV prog 95:=A0n func95
theorem A1L:dV prog 96:=A0n func96
theorem Na:dV prog 98:=A0n func98
theorem Wp:dV prog 100:=A0n func100
theorem A1M:dV prog 101:=A0n func101
theorem A1N:dV prog 102:=A0n func102
theorem Ws:dV prog 103:=A0n func103
theorem A1P:dV prog 104:=A0n func104
theorem y5:dV prog 122:=A0n func122
theorem OA:dV prog 125:=A0n func125
theorem RV:dV prog 126:=A0n func126
theorem y7:dV prog 127:=A0n func127
theorem Wu:dV prog 129:=A0n func129
theorem Wv:dV prog 141:=A0n func141
theorem A1Q:dV prog 142:=A0n func142
theorem A1R:dV prog 145:=A0n func145
theorem OB:dV prog 148:=A0n func148
theorem Wx:dV prog 150:=A0n func150
theorem A1S:dV prog 151:=A0n func151
theorem A1T:dV prog 152:=A0n func152
theorem LH:dV prog 160:=A0n func160
theorem RX:dV prog 161:=A0n func161
theorem LJ:dV prog 163:=A0n func163
theorem A1U:dV prog 164:=A0n func164
theorem OC:dV prog 165:=A0n func165
theorem A1V:dV prog 166:=A0n func166
theorem Wy:dV prog 167:=A0n func167
theorem WA:dV prog 168:=A0n func168
theorem A1W:dV prog 169:=A0n func169
theorem A1X:dV prog 171:=A0n func171
theorem WB:dV prog 173:=A0n func173
theorem A1Y:dV prog 177:=A0n func177
theorem A1Z:dV prog 178:=A0n func178
theorem A1a:dV prog 180:=A0n func180
theorem A1b:dV prog 182:=A0n func182
theorem A1c:dV prog 183:=A0n func183
theorem A1d:dV prog 184:=A0n func184
theorem A1e:dV prog 185:=A0n func185
theorem A1f:dV prog 186:=A0n func186
theorem WC:dV prog 188:=A0n func188
theorem A1g:dV prog 192:=A0n func192
theorem A1h:dV prog 194:=A0n func194
theorem A1i:dV prog 195:=A0n func195
theorem WE:dV prog 196:=A0n func196
theorem WG:dV prog 197:=A0n func197
theorem LK:dV prog 198:=A0n func198
theorem A1j:dV prog 202:=A0n func202
theorem A1k:dV prog 203:=A0n func203
theorem A1l:dV prog 212:=A0n func212
theorem RY:dV prog 213:=A0n func213
theorem HY:dV prog 214:=A0n func214
theorem RZ:dV prog 215:=A0n func215
theorem H5:dV prog 216:=A0n func216
theorem A1m:dV prog 230:=A0n func230
theorem A1n:dV prog 234:=A0n func234
theorem A1o:dV prog 237:=A0n func237
theorem A1p:dV prog 241:=A0n func241
theorem R_:dV prog 242:=A0n func242
theorem A1q:dV prog 247:=A0n func247
theorem A1r:dV prog 252:=A0n func252
theorem WH:dV prog 294:=A0n func294
open Go.Shelf in
def WI:Go.Shelf.Ren:=⟨fun | 190=>27 | 125=>53 | 258=>52 | 128=>80 | 129=>81 | 302=>71 | 303=>72 | 304=>73 | 305=>74 | 306=>75 | 307=>76 | 308=>77 | 309=>78 | 310=>79 | 333=>106 | 329=>107 | 330=>108 | 334=>109 | 335=>110 | 336=>111 | 344=>136 | n=>n,fun | 31=>42 | 9=>9 | 3=>3 | 46=>113 | 0=>0 | 51=>118 | 53=>24 | 4=>4 | 183=>139 | 182=>138 | 131=>143 | 5=>5 | 218=>166 | 222=>169 | 228=>197 | 229=>154 | n=>n,fun | n=>n⟩
open Go.Shelf in
theorem pp_lays190:Go.Proofs.Lays.n190 prog WI:={
  mixed:=Z
  f125:=func53.trans (A3s some Z)
  f128:=func80.trans (A3s some Z)
  f129:=func81.trans (A3s some Z)
  f190:=func27.trans (A3s some Z)
  f258:=func52.trans (A3s some Z)
  f302:=func71.trans (A3s some Z)
  f303:=func72.trans (A3s some Z)
  f304:=func73.trans (A3s some Z)
  f305:=func74.trans (A3s some Z)
  f306:=func75.trans (A3s some Z)
  f307:=func76.trans (A3s some Z)
  f308:=func77.trans (A3s some Z)
  f309:=func78.trans (A3s some Z)
  f310:=func79.trans (A3s some Z)
  f329:=func107.trans (A3s some Z)
  f330:=func108.trans (A3s some Z)
  f333:=func106.trans (A3s some Z)
  f334:=func109.trans (A3s some Z)
  f335:=func110.trans (A3s some Z)
  f336:=func111.trans (A3s some Z)
  f344:=func136.trans (A3s some Z)
  t0:=underlying0
  a0:=isAgg0
  z0:=sizeOf0
  v0:=zeroValue0
  t3:=underlying3
  a3:=isAgg3
  z3:=sizeOf3
  v3:=zeroValue3
  t4:=underlying4
  a4:=isAgg4
  z4:=sizeOf4
  v4:=zeroValue4
  t5:=underlying5
  a5:=isAgg5
  z5:=sizeOf5
  v5:=zeroValue5
  t9:=underlying9
  a9:=isAgg9
  z9:=sizeOf9
  v9:=zeroValue9
  t31:=underlying42
  a31:=isAgg42
  z31:=sizeOf42
  v31:=zeroValue42
  t46:=underlying113
  a46:=isAgg113
  z46:=sizeOf113
  v46:=zeroValue113
  t51:=underlying118
  a51:=isAgg118
  z51:=sizeOf118
  v51:=zeroValue118
  t53:=underlying24
  a53:=isAgg24
  z53:=sizeOf24
  v53:=zeroValue24
  t131:=underlying143
  a131:=isAgg143
  z131:=sizeOf143
  v131:=zeroValue143
  t182:=underlying138
  a182:=isAgg138
  z182:=sizeOf138
  v182:=zeroValue138
  t183:=underlying139
  a183:=isAgg139
  z183:=sizeOf139
  v183:=zeroValue139
  t218:=underlying166
  a218:=isAgg166
  z218:=sizeOf166
  v218:=zeroValue166
  t222:=underlying169
  a222:=isAgg169
  z222:=sizeOf169
  v222:=zeroValue169
  t228:=underlying197
  a228:=isAgg197
  z228:=sizeOf197
  v228:=zeroValue197
  t229:=underlying154
  a229:=isAgg154
  z229:=sizeOf154
  v229:=zeroValue154 }
theorem pp_sort27 {F O:Nat->Prop}{w0 w:World}{hs:List HP}{i:Nat}{A:EQ}{n c:Nat}{xs:A02}(k:Cx F O w0 w hs)(hi:hs[i]?=some (Ow eS A n c xs))(hsz:n < 4611686018427387904):A2F 27 [sl A n c] w fun e w'=>e=.returned (SV.val (.og []))/\Cx F O w0 w' (hs.set i (Ow eS A n c (srt xs))):=c_sort pp_lays190 k hi hsz
open Go.Shelf in
def WJ:Go.Shelf.Ren:=⟨fun | 171=>55 | 243=>83 | 246=>112 | 283=>113 | 284=>114 | 285=>115 | 286=>116 | 129=>81 | 317=>137 | 318=>138 | 319=>139 | 320=>140 | 337=>158 | 338=>159 | n=>n,fun | 3=>3 | 9=>9 | 2=>2 | 4=>4 | 171=>172 | 0=>0 | 53=>24 | 37=>36 | 5=>5 | 173=>174 | 212=>200 | 51=>118 | 20=>20 | 213=>201 | 46=>113 | 232=>251 | 233=>252 | n=>n,fun | 17=>1 | 18=>2 | 19=>3 | n=>n⟩
open Go.Shelf in
theorem pp_lays171:Go.Proofs.LaysM.n171 prog WJ:={
  mixed:=Z
  f129:=func81.trans (A3s some Z)
  f171:=func55.trans (A3s some Z)
  f243:=func83.trans (A3s some Z)
  f246:=func112.trans (A3s some Z)
  f283:=func113.trans (A3s some Z)
  f284:=func114.trans (A3s some Z)
  f285:=func115.trans (A3s some Z)
  f286:=func116.trans (A3s some Z)
  f317:=func137.trans (A3s some Z)
  f318:=func138.trans (A3s some Z)
  f319:=func139.trans (A3s some Z)
  f320:=func140.trans (A3s some Z)
  f337:=func158.trans (A3s some Z)
  f338:=func159.trans (A3s some Z)
  t0:=underlying0
  a0:=isAgg0
  z0:=sizeOf0
  v0:=zeroValue0
  t2:=underlying2
  a2:=isAgg2
  z2:=sizeOf2
  v2:=zeroValue2
  t3:=underlying3
  a3:=isAgg3
  z3:=sizeOf3
  v3:=zeroValue3
  t4:=underlying4
  a4:=isAgg4
  z4:=sizeOf4
  v4:=zeroValue4
  t5:=underlying5
  a5:=isAgg5
  z5:=sizeOf5
  v5:=zeroValue5
  t9:=underlying9
  a9:=isAgg9
  z9:=sizeOf9
  v9:=zeroValue9
  t20:=underlying20
  a20:=isAgg20
  z20:=sizeOf20
  v20:=zeroValue20
  t37:=underlying36
  a37:=isAgg36
  z37:=sizeOf36
  v37:=zeroValue36
  t46:=underlying113
  a46:=isAgg113
  z46:=sizeOf113
  v46:=zeroValue113
  t51:=underlying118
  a51:=isAgg118
  z51:=sizeOf118
  v51:=zeroValue118
  t53:=underlying24
  a53:=isAgg24
  z53:=sizeOf24
  v53:=zeroValue24
  t171:=underlying172
  a171:=isAgg172
  z171:=sizeOf172
  v171:=zeroValue172
  t173:=underlying174
  a173:=isAgg174
  z173:=sizeOf174
  v173:=zeroValue174
  t212:=underlying200
  a212:=isAgg200
  z212:=sizeOf200
  v212:=zeroValue200
  t213:=underlying201
  a213:=isAgg201
  z213:=sizeOf201
  t232:=underlying251
  a232:=isAgg251
  z232:=sizeOf251
  v232:=zeroValue251
  t233:=underlying252
  a233:=isAgg252
  z233:=sizeOf252
  v233:=zeroValue252
  g17:=Z
  g18:=Z
  g19:=Z
  i0:=Z
  i2:=Z
  i3:=Z
  i4:=Z
  i5:=Z
  i9:=Z
  i20:=Z
  i37:=Z
  i46:=Z
  i51:=Z
  i53:=Z
  i171:=Z
  i173:=Z
  i212:=Z
  i232:=Z
  i233:=Z
  m17:=Z
  m18:=Z
  m19:=Z }
theorem PI {F O:Nat->Prop}{w0 w:World}{hs:List HP}(k:Cx F O w0 w hs){n:Int}(hn:-9223372036854775808<=n/\n<=9223372036854775807)(hT:J7 prog F w0):A2F 55 [I n] w fun e w'=>e=.returned (SV.val (.s (Lib.itoa n)))/\Cx F O w0 w' hs:=c_itoa pp_lays171 k hn (hT.cx k)
theorem pp_ix117:IsIx prog 117:=⟨⟨f117,func117,Z,Z,Z,Z⟩⟩
theorem Ym:IsAdd prog 295:=⟨⟨f295,func295,Z,Z,Z,Z⟩⟩
theorem KG:TF prog 33 70 [.string ⟨⟨[]⟩⟩,.int .i64 0,.int .u64 0,.string ⟨⟨[]⟩⟩] 48:=⟨Z,Z,A2H,A2H⟩
theorem dM:TF prog 36 5 [.int .u8 0] 1:=⟨Z,Z,A2H,A2H⟩
theorem Vu:TF prog 42 9 [.string ⟨⟨[]⟩⟩] 16:=⟨Z,Z,A2H,A2H⟩
theorem pp_tf121:TF prog 121 124 [.int .i64 0,.int .i64 0,.int .i64 0] 24:=⟨Z,Z,A2H,A2H⟩
theorem OD:TF prog 151 36 [.slice none 0 0] 24:=⟨Z,Z,A2H,A2H⟩
theorem pp_tf183:TF prog 183 3 [.int .i64 0] 8:=⟨Z,Z,A2H,A2H⟩
theorem pp_tf203:TF prog 203 206 [.slice none 0 0] 24:=⟨Z,Z,A2H,A2H⟩
theorem pp_tf206:TF prog 206 209 (List.replicate 1024 (.int .u8 0)) 1024:=⟨Z,Z,A2H,A2H⟩
theorem Fg:TF prog 213 24 [.int .u64 0] 8:=⟨Z,Z,A2H,A2H⟩
theorem pp_tf317:TF prog 317 320 [.int .i64 0,.int .i64 0,.int .i64 0,.string ⟨⟨[]⟩⟩,.int .i64 0] 48:=⟨Z,Z,A2H,A2H⟩
theorem QD : ∀ (v : Option Addr) (l : Array Value) (w : World), (callMethod (.iface 336 (.pointer v)) "quern/node.out" l).run prog w = .ok (.enter 291 (#[.pointer v] ++ l)) w := by intro v l w;kernel_rfl
theorem H6 : ∀ (v : Option Addr) (l : Array Value) (w : World), (callMethod (.iface 336 (.pointer v)) "quern/node.write" l).run prog w = .ok (.enter 293 (#[.pointer v] ++ l)) w := by intro v l w;kernel_rfl
theorem bD:prog.follows .mixedOrders=true:=by kernel_rfl
theorem nX{oQ vz wR t lS}(k:Cx F O w w [Bx 86 lS [.s oQ,I vz,.b wR]]){r:(AC×Int×Bool)}(d:jT oQ vz wR t=some r):
    A2E F O w 32 [pt lS 0,.s t] (.og []) [Bx 86 lS [.s r.1,I r.2.1,.b r.2.2]]:=by
 unfold jT at d;refine dZ _ func32 y<|C<|H (.n 4 (I 0) .a)<|aB<|jh d (fun s L u=>∃ p i,(p,i)=s/\L=[(0,pt lS 0),(1,.s t),(4,I i)]/\Cx F O w u [Bx 86 lS [.s oQ,I p,.b wR]]) ⟨_,_,y,y,k⟩ ?_;rintro uK L_ w_ y0 ⟨p,i,rfl,rfl,f⟩ d g;simp only[nO] at d;refine C<|C<|Wa (.n 14 (.b ((decide (i < (t.length:Int)))&&wR)) .a) (A2B ((decide (i < (t.length:Int)))=true) lS<|A2B ((decide (i < (t.length:Int)))=true) lS<|qo (.b wR)<|qc (fun w=>(decide (i < (t.length:Int)))=true->∃ a,(some ⟨lS,2,none⟩:EQ)=some a/\w.cell? a=some (SV.val (.b wR))) (fun e=>f.yc 0 y 2 (.b wR) Z)<|D)<|jl d (fun x d=>?_) fun x d=>?_
 ·refine ay<|au<|C<|aB<|C<|C<|J d fun c l d=>J d fun q E d=>Vh bD Z (.n 41 (.b ((decide ((oQ.length:Int)<=p))||(decide (c≠q)))) (.s .a)) (fun m=>jI lS 0<|fJ (f.drew m) 0 y 1 (I p)<|jI lS 0<|fJ (f.drew m) 0 y 0 (.s oQ)<|A2B ((decide ((oQ.length:Int)<=p))=false) lS<|A2B ((decide ((oQ.length:Int)<=p))=false) lS<|qo (.s oQ)<|qc (fun w=>(decide ((oQ.length:Int)<=p))=false->∃ a,(some ⟨lS,0,none⟩:EQ)=some a/\w.cell? a=some (SV.val (.s oQ))) (fun e=>(f.drew m).yc 0 y 0 (.s oQ) Z)<|A2B ((decide ((oQ.length:Int)<=p))=false) lS<|A2B ((decide ((oQ.length:Int)<=p))=false) lS<|qo (I p)<|qc (fun w=>(decide ((oQ.length:Int)<=p))=false->∃ a,(some ⟨lS,1,none⟩:EQ)=some a/\w.cell? a=some (SV.val (I p))) (fun e=>(f.drew m).yc 0 y 1 (I p) Z)<|qo (.u8 c)<|qp ((decide ((oQ.length:Int)<=p))=false->0<=p/\oQ[Int.toNat p]?=some c) (fun e=>aS (Gx l e))<|qo (.u8 q)<|qp ((decide ((oQ.length:Int)<=p))=false->0<=i/\t[Int.toNat i]?=some q) (fun e=>aS (Gx E e))<|D) Z (fun v=>?_);have o:=f.drew v
  refine au<|jl d (fun j d=>?_) fun j d=>?_
  ·refine C<|ak<|Wl 3 (.n 44 (pt lS 2) .z) (jI lS 0<|D)<|K<|lK 0 (.b false) (Pt.at lS 2) o y (.kk .h) fun kN B=>Wn<|aC (aK (fE (aK (aK (fE ?_)))));have d:=bC d g;cases d;refine aF [] D ?_;exact⟨y,B⟩
  refine ay<|au<|ak<|Wl 7 (.n 49 (I (ax (p+1))) (.n 51 (pt lS 1) (.s .a))) (jI lS 0<|fJ o 0 y 1 (I p)<|jI lS 0<|D)<|K<|lK 0 (I (ax (p+1))) (Pt.at lS 1) o y (.k .h) fun mV A=>di<|cO<|au<|lM (.n 4 (I (ax (i+1))) (.ss (.kk .z))) ?_;exact fQ d ⟨_,_,y,y,A⟩
 refine bU (aW (aW (eG ?_)));have d:=bC d g;cases d;refine FX [] D Z ?_;exact⟨y,f⟩
theorem Fh{s_ pY}(k:Cx F O w w []){r}(d:jU s_ pY=some r):
    A2E F O w 57 [.s s_,.s pY] (.b r) []:=by
 unfold jU at d;refine dZ _ func57 y<|C<|H .a<|C<|J d fun e f d=>Wa (.n 4 (.b ((decide ((pY.length:Int)<=(s_.length:Int)))&&(decide (e=pY)))) .z) (qp ((decide ((pY.length:Int)<=(s_.length:Int)))=true->0<=(pY.length:Int)/\(pY.length:Int)<=(s_.length:Int)) (fun c=>by have hs:=jg (yI f c);omega)<|qo (.s e)<|qp ((decide ((pY.length:Int)<=(s_.length:Int)))=true->(s_.take (Int.toNat (pY.length:Int))).drop 0=e) (fun c=>(jg (yI f c)).2.2.2.symm)<|D)<|aC ?_;cases d;refine aF [.b ((decide ((pY.length:Int)<=(s_.length:Int)))&&(decide (e=pY)))] D ?_;exact⟨y,k⟩
theorem Cm{s_ pY}(k:Cx F O w w []){r}(hm:kJ s_ pY=some r):
    Calls prog 33 (vals [.s s_,.s pY]) w (fun e w'=>e=.returned (SV.val (.b r))/\Cx F O w w' []):=by
 unfold kJ at hm;refine dZ _ func33 rfl<|ae<|Wq .a<|ae<|ak<|We 2 (.n 5 (.s s_) (.n 6 (.s pY) .z))<|ai<|aJ hm fun r_ bT hm=>dJ 7 (A0n func57) (Fh gI bT) k fun w_ dH=>We 1 (.n 4 (.b r_) .z)<|Wn<|aC ?_;obtain rfl:=si hm;refine aF [.b r_] qe ?_;exact⟨rfl,dH⟩
theorem wM{oQ vz wR lS}(k:Cx F O w w [Bx 86 lS [.s oQ,I vz,.b wR]]){r:(UInt64×AC×Int×Bool)}(d:lZ oQ vz wR=some r):
    A2E F O w 35 [pt lS 0] (.u64 r.1) [Bx 86 lS [.s r.2.1,I r.2.2.1,.b r.2.2.2]]:=by
 unfold lZ at d;refine dZ _ func35 y<|C<|H .a<|C<|H (.n 3 (.u64 0) .a)<|C<|C<|Wa (.n 10 (.b (!wR)) .a) (jI lS 0<|fJ k 0 y 2 (.b wR)<|D)<|jl d (fun G d=>?_) fun G d=>?_
 ·refine C<|H (.n 2 (.u64 0) .z)<|aC (aK ?_);cases d;refine aF [.u64 0] D ?_;exact⟨y,k⟩
 refine ay<|au<|C<|Wa (.n 4 (I vz) (.s .a)) (jI lS 0<|fJ k 0 y 1 (I vz)<|D)<|C<|aB<|jh d (fun s L B=>∃ p v,(p,v)=s/\L=[(0,pt lS 0),(3,.u64 v),(4,I vz)]/\Cx F O w B [Bx 86 lS [.s oQ,I p,.b wR]]) ⟨_,_,y,y,k⟩ ?_;rintro uK L_ w_ y0 ⟨p,v,rfl,rfl,f⟩ d g;simp only[lh] at d;refine C<|C<|J d fun c t d=>J d fun x R d=>?_
 refine Vh bD Z (.n 48 (.b (((decide (p < (oQ.length:Int)))&&(decide ((48:UInt8)<=c)))&&(decide (x<=57)))) .a) (fun m=>jI lS 0<|fJ (f.drew m) 0 y 1 (I p)<|jI lS 0<|fJ (f.drew m) 0 y 0 (.s oQ)<|A2B ((decide (p < (oQ.length:Int)))=true) lS<|A2B ((decide (p < (oQ.length:Int)))=true) lS<|qo (.s oQ)<|qc (fun w=>(decide (p < (oQ.length:Int)))=true->∃ a,(some ⟨lS,0,none⟩:EQ)=some a/\w.cell? a=some (SV.val (.s oQ))) (fun e=>(f.drew m).yc 0 y 0 (.s oQ) Z)<|A2B ((decide (p < (oQ.length:Int)))=true) lS<|A2B ((decide (p < (oQ.length:Int)))=true) lS<|qo (I p)<|qc (fun w=>(decide (p < (oQ.length:Int)))=true->∃ a,(some ⟨lS,1,none⟩:EQ)=some a/\w.cell? a=some (SV.val (I p))) (fun e=>(f.drew m).yc 0 y 1 (I p) Z)<|qo (.u8 c)<|qp ((decide (p < (oQ.length:Int)))=true->0<=p/\oQ[Int.toNat p]?=some c) (fun e=>aS (yI t e))<|A2B (((decide (p < (oQ.length:Int)))&&(decide ((48:UInt8)<=c)))=true) lS<|A2B (((decide (p < (oQ.length:Int)))&&(decide ((48:UInt8)<=c)))=true) lS<|qo (.s oQ)<|qc (fun w=>((decide (p < (oQ.length:Int)))&&(decide ((48:UInt8)<=c)))=true->∃ a,(some ⟨lS,0,none⟩:EQ)=some a/\w.cell? a=some (SV.val (.s oQ))) (fun e=>(f.drew m).yc 0 y 0 (.s oQ) Z)<|A2B (((decide (p < (oQ.length:Int)))&&(decide ((48:UInt8)<=c)))=true) lS<|A2B (((decide (p < (oQ.length:Int)))&&(decide ((48:UInt8)<=c)))=true) lS<|qo (I p)<|qc (fun w=>((decide (p < (oQ.length:Int)))&&(decide ((48:UInt8)<=c)))=true->∃ a,(some ⟨lS,1,none⟩:EQ)=some a/\w.cell? a=some (SV.val (I p))) (fun e=>(f.drew m).yc 0 y 1 (I p) Z)<|qo (.u8 x)<|qp (((decide (p < (oQ.length:Int)))&&(decide ((48:UInt8)<=c)))=true->0<=p/\oQ[Int.toNat p]?=some x) (fun e=>aS (yI R e))<|D) Z (fun E=>?_)
 have j:=f.drew E;refine au<|jl d (fun q d=>?_) fun q d=>?_
 ·refine ay<|au<|aB<|C<|J d fun u i d=>Vh bD Z (.n 5 (.u64 (UInt64.ofNat (u - 48).toNat)) (.s .a)) (fun m=>jI lS 0<|fJ (j.drew m) 0 y 0 (.s oQ)<|jI lS 0<|fJ (j.drew m) 0 y 1 (I p)<|qX i<|D) Z (fun A=>?_);have l:=j.drew A;refine au<|C<|C<|Wa (.n 76 (.b (((decide (vz < p))&&(decide (v=0)))||(decide ((((18446744073709551615:UInt64) - (UInt64.ofNat (u - 48).toNat)) / 10) < v)))) .a) (jI lS 0<|fJ l 0 y 1 (I p)<|qp (((decide (vz < p))&&(decide (v=0)))=false->(10:UInt64)≠0) (fun e=>(by show(10:UInt64)≠0;decide))<|D)<|jl d (fun o d=>?_) fun o d=>?_
  ·refine C<|ak<|Wl 3 (.n 79 (pt lS 2) .z) (jI lS 0<|D)<|K<|lK 0 (.b false) (Pt.at lS 2) l y (.kk .h) fun kN Q=>Wn<|C<|H (.n 2 (.u64 0) .z)<|aC (aK (fE (aK (fE (aK ?_)))));have d:=bC d g;cases d;refine aF [.u64 0] D ?_;exact⟨y,Q⟩
  refine ay<|au<|C<|H (.n 3 (.u64 (((10:UInt64)*v)+(UInt64.ofNat (u - 48).toNat))) (.ss (.k (.s .a))))<|ak<|Wl 7 (.n 88 (I (ax (p+1))) (.n 90 (pt lS 1) .a)) (jI lS 0<|fJ l 0 y 1 (I p)<|jI lS 0<|D)<|K<|lK 0 (I (ax (p+1))) (Pt.at lS 1) l y (.k .h) fun mV P=>di<|cO ?_;exact fQ d ⟨_,_,y,y,P⟩
 refine A2C d g fun d=>C<|ak<|Wl 9 (.n 97 (A2D (vz < p)) (.n 99 (pt lS 2) (.ss (.k .z)))) (jI lS 0<|fJ j 0 y 1 (I p)<|jI lS 0<|D)<|K<|lK 0 (A2D (vz < p)) (Pt.at lS 2) j y (.kk .h) fun qG N=>Wn<|C<|H (.n 2 (.u64 v) .z)<|aC ?_;cases d;refine aF [.u64 v] D ?_;exact⟨y,N⟩
theorem Nb{v}(k:Cx F O w w []){r}(b:yj v=some r):
    A2E F O w 34 [.u64 v] (I r) []:=by
 unfold yj at b;refine dZ _ func34 y<|C<|H .a<|C<|C<|H (.n 4 (A2D ((9223372036854775807:UInt64) < v)) .a)<|bP b (fun c b=>?_) fun c b=>?_
 ·refine C<|H (.n 2 (I (-1)) .z)<|aC (aK ?_);cases b;refine aF [I (-1)] D ?_;exact⟨y,k⟩
 refine ay<|au<|C<|H (.n 2 (I (ax v.toNat)) .z)<|aC ?_;cases b;refine aF [I (ax v.toNat)] D ?_;exact⟨y,k⟩
theorem Fj{s_ c}(k:Cx F O w w []){r}(b:oW s_ c=some r):
    A2E F O w 85 [.s s_,.u8 c] (I r) []:=by
 unfold oW at b;refine dZ _ func85 y<|C<|H .a<|C<|ak<|We 2 (.n 5 (.s s_) (.n 6 (.u8 c) .z))<|K<|Op_idxb pp_ix117 [] 7 s_ c Z<|We 1 (.n 4 (I (Y6 s_ c)) .z)<|Wn<|aC ?_;cases b;refine aF [I (Y6 s_ c)] D ?_;exact⟨y,k⟩
theorem PZ{s_ c}(k:Cx F O w w []){r}(hm:xg s_ c=some r):
    Calls prog 58 (vals [.s s_,.u8 c]) w (fun e w'=>e=.returned (SV.val (I r))/\Cx F O w w' []):=by
 unfold xg at hm;refine dZ _ func58 rfl<|ae<|Wq .a<|ae<|ak<|We 2 (.n 5 (.s s_) (.n 6 (.u8 c) .z))<|ai<|aJ hm fun r_ bT hm=>dJ 7 (A0n func85) (Fj gI bT) k fun w_ dH=>We 1 (.n 4 (I r_) .z)<|Wn<|aC ?_;obtain rfl:=si hm;refine aF [I r_] qe ?_;exact⟨rfl,dH⟩
theorem JJ{oQ vz wR lS}(k:Cx F O w w [Bx 86 lS [.s oQ,I vz,.b wR]]){r:(AC×Int×AC×Int×Bool)}(j:qm oQ vz wR=some r):
    A2E F O w 36 [pt lS 0] (.og [.s r.1,I r.2.1]) [Bx 86 lS [.s r.2.2.1,I r.2.2.2.1,.b r.2.2.2.2]]:=by
 unfold qm at j;refine dZ _ func36 y<|C<|H .a<|C<|Wa (.n 4 (I vz) .a) (jI lS 0<|fJ k 0 y 1 (I vz)<|D)<|C<|aB<|jh j (fun s L wr=>∃ p,p=s/\L=[(0,pt lS 0),(4,I vz)]/\Cx F O w wr [Bx 86 lS [.s oQ,I p,.b wR]]) ⟨_,y,y,k⟩ ?_;rintro uK L_ w_ y0 ⟨p,rfl,rfl,k_⟩ j A;simp only[lX] at j;refine C<|C ?_;have R:=k_.drew 1;refine W_mN bD (tq [0,1,1,1,2,1,3,1,4,0,5,1,6,1,7,1,8,1,9,1,10,1,11,1,12,1,13,1,14,1,15,1,16,0,17,1,18,1,19,1,20,1,21,1,22,1,23,1,24,1,25,1] (.op 26 (tq [27,1,28,1,29,1,30,1,31,1,32,1,33,1,34,1,35,1,36,1,37,1,38,1,39,1,40,1,41,1,42,1,43,1,44,1,45,1,46,1,47,1,48,1,49,1,50,1,51,1,52,1,53,1,54,1,55,1,56,1,57,1,58,1,59,1,60,1,61,1,62,1,63,1,64,1,65,1,66,1,67,1,68,1,69,1,70,1,71,1,72,1,73,1,74,1,75,1,76,1,77,1,78,1,79,1,80,1,81,1,82,1,83,1,84,1,85,1,86,1,87,1,88,1,89,1,90,1,91,1,92,1,93,1,94,1,95,1,96,1,97,1,98,1,99,1,100,1] .nil))) [26] R (.c (.k .e) .l) Z (fun _=>?_)
 refine dQ 4 1 (.n 12 (.b wR) .a) (fun x hx=>jI lS 0<|fJ hx 0 y 2 (.b wR)<|D) fun _=>dQ 1 0 (.n 13 (.b wR) (.s .a)) (fun x hx=>D) fun _=>dQ 11 1 (.n 24 (.b (wR&&(decide (p < (oQ.length:Int))))) (.s .a)) (fun x hx=>A2B (wR=true) lS<|A2B (wR=true) lS<|qo (I p)<|qc (fun w=>wR=true->∃ a,(some ⟨lS,1,none⟩:EQ)=some a/\w.cell? a=some (SV.val (I p))) (fun d=>hx.yc 0 y 1 (I p) Z)<|A2B (wR=true) lS<|A2B (wR=true) lS<|qo (.s oQ)<|qc (fun w=>wR=true->∃ a,(some ⟨lS,0,none⟩:EQ)=some a/\w.cell? a=some (SV.val (.s oQ))) (fun d=>hx.yc 0 y 0 (.s oQ) Z)<|D) fun _=>dQ 1 0 (.n 25 (.b (wR&&(decide (p < (oQ.length:Int))))) (.s .a)) (fun x hx=>D) fun _=>MX_sp 25 (wR&&(decide (p < (oQ.length:Int)))) (.s .a) Z (fun V _=>?_) (fun V _=>?_)
 ·rw[A3p V] at j;refine J j fun c X j=>MXq 9 1 [25] (.n 34 (.u8 c) .a) (fun x hx=>jI lS 0<|fJ hx 0 y 0 (.s oQ)<|jI lS 0<|fJ hx 0 y 1 (I p)<|qX X<|D) Z (fun _=>?_);refine dD y<|J j fun g bT j=>uQ [25] 35 _ (A0n func58) Z (PZ gI bT) ?_;rintro e_ kN ⟨rfl,b_⟩;have v:=R.call b_;refine E2<|⟨v,fun _=>?_⟩
  refine J j fun i TN j=>J j fun o Q j=>J j fun q P j=>J j fun t N j=>J j fun u G j=>J j fun c6 E j=>?_
  refine MXq 74 1 [25] (.n 109 (.b ((((decide (0<=g))||((decide ((48:UInt8)<=i))&&(decide (o<=57))))||((decide ((65:UInt8)<=q))&&(decide (t<=90))))||((decide ((97:UInt8)<=u))&&(decide (c6<=122))))) (.lI .a)) (fun x hx=>A2B ((decide (0<=g))=false) lS<|A2B ((decide (0<=g))=false) lS<|qo (.s oQ)<|qc (fun w=>(decide (0<=g))=false->∃ a,(some ⟨lS,0,none⟩:EQ)=some a/\w.cell? a=some (SV.val (.s oQ))) (fun d=>hx.yc 0 y 0 (.s oQ) Z)<|A2B ((decide (0<=g))=false) lS<|A2B ((decide (0<=g))=false) lS<|qo (I p)<|qc (fun w=>(decide (0<=g))=false->∃ a,(some ⟨lS,1,none⟩:EQ)=some a/\w.cell? a=some (SV.val (I p))) (fun d=>hx.yc 0 y 1 (I p) Z)<|qo (.u8 i)<|qp ((decide (0<=g))=false->0<=p/\oQ[Int.toNat p]?=some i) (fun d=>aS (Gx TN d))<|qp ((decide (0<=g))=false->(decide ((48:UInt8)<=i))=true->(some ⟨lS,0,none⟩:EQ).isSome=true) (fun f=>fun d=>rfl)<|qp ((decide (0<=g))=false->(decide ((48:UInt8)<=i))=true->(some ⟨lS,0,none⟩:EQ).isSome=true) (fun f=>fun d=>rfl)<|qo (.s oQ)<|qc (fun w=>(decide (0<=g))=false->(decide ((48:UInt8)<=i))=true->∃ a,(some ⟨lS,0,none⟩:EQ)=some a/\w.cell? a=some (SV.val (.s oQ))) (fun f=>fun d=>hx.yc 0 y 0 (.s oQ) Z)<|qp ((decide (0<=g))=false->(decide ((48:UInt8)<=i))=true->(some ⟨lS,0,none⟩:EQ).isSome=true) (fun f=>fun d=>rfl)<|qp ((decide (0<=g))=false->(decide ((48:UInt8)<=i))=true->(some ⟨lS,0,none⟩:EQ).isSome=true) (fun f=>fun d=>rfl)<|qo (I p)<|qc (fun w=>(decide (0<=g))=false->(decide ((48:UInt8)<=i))=true->∃ a,(some ⟨lS,1,none⟩:EQ)=some a/\w.cell? a=some (SV.val (I p))) (fun f=>fun d=>hx.yc 0 y 1 (I p) Z)<|qo (.u8 o)<|qp ((decide (0<=g))=false->(decide ((48:UInt8)<=i))=true->0<=p/\oQ[Int.toNat p]?=some o) (fun f=>fun d=>aS (yI (Gx Q f) d))<|A2B (((decide (0<=g))||((decide ((48:UInt8)<=i))&&(decide (o<=57))))=false) lS<|A2B (((decide (0<=g))||((decide ((48:UInt8)<=i))&&(decide (o<=57))))=false) lS<|qo (.s oQ)<|qc (fun w=>((decide (0<=g))||((decide ((48:UInt8)<=i))&&(decide (o<=57))))=false->∃ a,(some ⟨lS,0,none⟩:EQ)=some a/\w.cell? a=some (SV.val (.s oQ))) (fun d=>hx.yc 0 y 0 (.s oQ) Z)<|A2B (((decide (0<=g))||((decide ((48:UInt8)<=i))&&(decide (o<=57))))=false) lS<|A2B (((decide (0<=g))||((decide ((48:UInt8)<=i))&&(decide (o<=57))))=false) lS<|qo (I p)<|qc (fun w=>((decide (0<=g))||((decide ((48:UInt8)<=i))&&(decide (o<=57))))=false->∃ a,(some ⟨lS,1,none⟩:EQ)=some a/\w.cell? a=some (SV.val (I p))) (fun d=>hx.yc 0 y 1 (I p) Z)<|qo (.u8 q)<|qp (((decide (0<=g))||((decide ((48:UInt8)<=i))&&(decide (o<=57))))=false->0<=p/\oQ[Int.toNat p]?=some q) (fun d=>aS (Gx P d))<|qp (((decide (0<=g))||((decide ((48:UInt8)<=i))&&(decide (o<=57))))=false->(decide ((65:UInt8)<=q))=true->(some ⟨lS,0,none⟩:EQ).isSome=true) (fun f=>fun d=>rfl)<|qp (((decide (0<=g))||((decide ((48:UInt8)<=i))&&(decide (o<=57))))=false->(decide ((65:UInt8)<=q))=true->(some ⟨lS,0,none⟩:EQ).isSome=true) (fun f=>fun d=>rfl)<|qo (.s oQ)<|qc (fun w=>((decide (0<=g))||((decide ((48:UInt8)<=i))&&(decide (o<=57))))=false->(decide ((65:UInt8)<=q))=true->∃ a,(some ⟨lS,0,none⟩:EQ)=some a/\w.cell? a=some (SV.val (.s oQ))) (fun f=>fun d=>hx.yc 0 y 0 (.s oQ) Z)<|qp (((decide (0<=g))||((decide ((48:UInt8)<=i))&&(decide (o<=57))))=false->(decide ((65:UInt8)<=q))=true->(some ⟨lS,0,none⟩:EQ).isSome=true) (fun f=>fun d=>rfl)<|qp (((decide (0<=g))||((decide ((48:UInt8)<=i))&&(decide (o<=57))))=false->(decide ((65:UInt8)<=q))=true->(some ⟨lS,0,none⟩:EQ).isSome=true) (fun f=>fun d=>rfl)<|qo (I p)<|qc (fun w=>((decide (0<=g))||((decide ((48:UInt8)<=i))&&(decide (o<=57))))=false->(decide ((65:UInt8)<=q))=true->∃ a,(some ⟨lS,1,none⟩:EQ)=some a/\w.cell? a=some (SV.val (I p))) (fun f=>fun d=>hx.yc 0 y 1 (I p) Z)<|qo (.u8 t)<|qp (((decide (0<=g))||((decide ((48:UInt8)<=i))&&(decide (o<=57))))=false->(decide ((65:UInt8)<=q))=true->0<=p/\oQ[Int.toNat p]?=some t) (fun f=>fun d=>aS (yI (Gx N f) d))<|A2B ((((decide (0<=g))||((decide ((48:UInt8)<=i))&&(decide (o<=57))))||((decide ((65:UInt8)<=q))&&(decide (t<=90))))=false) lS<|A2B ((((decide (0<=g))||((decide ((48:UInt8)<=i))&&(decide (o<=57))))||((decide ((65:UInt8)<=q))&&(decide (t<=90))))=false) lS<|qo (.s oQ)<|qc (fun w=>(((decide (0<=g))||((decide ((48:UInt8)<=i))&&(decide (o<=57))))||((decide ((65:UInt8)<=q))&&(decide (t<=90))))=false->∃ a,(some ⟨lS,0,none⟩:EQ)=some a/\w.cell? a=some (SV.val (.s oQ))) (fun d=>hx.yc 0 y 0 (.s oQ) Z)<|A2B ((((decide (0<=g))||((decide ((48:UInt8)<=i))&&(decide (o<=57))))||((decide ((65:UInt8)<=q))&&(decide (t<=90))))=false) lS<|A2B ((((decide (0<=g))||((decide ((48:UInt8)<=i))&&(decide (o<=57))))||((decide ((65:UInt8)<=q))&&(decide (t<=90))))=false) lS<|qo (I p)<|qc (fun w=>(((decide (0<=g))||((decide ((48:UInt8)<=i))&&(decide (o<=57))))||((decide ((65:UInt8)<=q))&&(decide (t<=90))))=false->∃ a,(some ⟨lS,1,none⟩:EQ)=some a/\w.cell? a=some (SV.val (I p))) (fun d=>hx.yc 0 y 1 (I p) Z)<|qo (.u8 u)<|qp ((((decide (0<=g))||((decide ((48:UInt8)<=i))&&(decide (o<=57))))||((decide ((65:UInt8)<=q))&&(decide (t<=90))))=false->0<=p/\oQ[Int.toNat p]?=some u) (fun d=>aS (Gx G d))<|qp ((((decide (0<=g))||((decide ((48:UInt8)<=i))&&(decide (o<=57))))||((decide ((65:UInt8)<=q))&&(decide (t<=90))))=false->(decide ((97:UInt8)<=u))=true->(some ⟨lS,0,none⟩:EQ).isSome=true) (fun f=>fun d=>rfl)<|qp ((((decide (0<=g))||((decide ((48:UInt8)<=i))&&(decide (o<=57))))||((decide ((65:UInt8)<=q))&&(decide (t<=90))))=false->(decide ((97:UInt8)<=u))=true->(some ⟨lS,0,none⟩:EQ).isSome=true) (fun f=>fun d=>rfl)<|qo (.s oQ)<|qc (fun w=>(((decide (0<=g))||((decide ((48:UInt8)<=i))&&(decide (o<=57))))||((decide ((65:UInt8)<=q))&&(decide (t<=90))))=false->(decide ((97:UInt8)<=u))=true->∃ a,(some ⟨lS,0,none⟩:EQ)=some a/\w.cell? a=some (SV.val (.s oQ))) (fun f=>fun d=>hx.yc 0 y 0 (.s oQ) Z)<|qp ((((decide (0<=g))||((decide ((48:UInt8)<=i))&&(decide (o<=57))))||((decide ((65:UInt8)<=q))&&(decide (t<=90))))=false->(decide ((97:UInt8)<=u))=true->(some ⟨lS,0,none⟩:EQ).isSome=true) (fun f=>fun d=>rfl)<|qp ((((decide (0<=g))||((decide ((48:UInt8)<=i))&&(decide (o<=57))))||((decide ((65:UInt8)<=q))&&(decide (t<=90))))=false->(decide ((97:UInt8)<=u))=true->(some ⟨lS,0,none⟩:EQ).isSome=true) (fun f=>fun d=>rfl)<|qo (I p)<|qc (fun w=>(((decide (0<=g))||((decide ((48:UInt8)<=i))&&(decide (o<=57))))||((decide ((65:UInt8)<=q))&&(decide (t<=90))))=false->(decide ((97:UInt8)<=u))=true->∃ a,(some ⟨lS,1,none⟩:EQ)=some a/\w.cell? a=some (SV.val (I p))) (fun f=>fun d=>hx.yc 0 y 1 (I p) Z)<|qo (.u8 c6)<|qp ((((decide (0<=g))||((decide ((48:UInt8)<=i))&&(decide (o<=57))))||((decide ((65:UInt8)<=q))&&(decide (t<=90))))=false->(decide ((97:UInt8)<=u))=true->0<=p/\oQ[Int.toNat p]?=some c6) (fun f=>fun d=>aS (yI (Gx E f) d))<|D) Z (fun _=>?_)
  refine eY<|au<|jl j (fun hc j=>?_) fun hc j=>?_
  ·refine ay<|au<|aB<|ak<|Wl 7 (.n 114 (I (ax (p+1))) (.n 116 (pt lS 1) (.s .a))) (jI lS 0<|fJ v 0 y 1 (I p)<|jI lS 0<|D)<|K<|lK 0 (I (ax (p+1))) (Pt.at lS 1) v y (.k .h) fun mV fM=>di<|cO ?_;exact fQ j ⟨_,y,y,fM⟩
  refine A2C j A fun j=>C<|J j fun S B j=>?_;have hs:=jg B;refine Vh bD Z (.n 2 (.s S) (.n 3 (I vz) .z)) (fun m=>jI lS 0<|fJ (v.drew m) 0 y 0 (.s oQ)<|jI lS 0<|fJ (v.drew m) 0 y 1 (I p)<|qp (0<=p/\p<=(oQ.length:Int)) Y<|qp (0<=vz/\vz<=((Int.toNat p:Nat):Int)) Y<|qo (.s S)<|qp ((oQ.take (Int.toNat p)).drop (Int.toNat vz)=S) hs.2.2.2.symm<|D) Z (fun m_=>?_);have gp:=v.drew m_;refine au<|aC ?_;cases j;refine aF [.s S,I vz] D ?_;exact⟨y,gp⟩
 ·rw[A3q (by rw[V];decide)] at j;refine MXq 9 1 [25] (.n 34 (.og []) .a) (fun x hx=>D) Z (fun _=>?_);refine Y5 35 [25] Z y Z (fun _=>?_);refine MXq 74 1 [25,37,48,61,72,85,96] (.n 109 (.b false) (.lI .a)) (fun x hx=>D) Z (fun _=>?_);refine eY<|au<|Oy<|bU (aW (aW (eG ?_)));have j:=bC j A;refine au<|C<|J j fun T NK j=>?_;have U:=jg NK;refine Vh bD Z (.n 2 (.s T) (.n 3 (I vz) .z)) (fun m=>jI lS 0<|fJ (R.drew m) 0 y 0 (.s oQ)<|jI lS 0<|fJ (R.drew m) 0 y 1 (I p)<|qp (0<=p/\p<=(oQ.length:Int)) Y<|qp (0<=vz/\vz<=((Int.toNat p:Nat):Int)) Y<|qo (.s T)<|qp ((oQ.take (Int.toNat p)).drop (Int.toNat vz)=T) U.2.2.2.symm<|D) Z (fun zU=>?_);have gX:=R.drew zU;refine au<|aC ?_;cases j;refine aF [.s T,I vz] D ?_;exact⟨y,gX⟩
theorem XX{c}(k:Cx F O w w []){r:(UInt32×Bool)}(d:zn c=some r):
    A2E F O w 59 [.u8 c] (.og [.u32 r.1,.b r.2]) []:=by
 unfold zn at d;refine dZ _ func59 y<|C<|H .a<|C<|aB<|C<|H (.n 4 (.b ((decide ((65:UInt8)<=c))&&(decide (c<=90)))) .a)<|jl d (fun i d=>?_) fun i d=>?_
 ·refine C<|H (.n 2 (.u32 (UInt32.ofNat (c - 65).toNat)) (.n 3 (.b true) .z))<|aC (fE (aK ?_));cases d;refine aF [.u32 (UInt32.ofNat (c - 65).toNat),.b true] D ?_;exact⟨y,k⟩
 refine C<|H (.n 14 (.b ((decide ((97:UInt8)<=c))&&(decide (c<=122)))) (.s .a))<|jl d (fun h d=>?_) fun h d=>?_
 ·refine C<|H (.n 2 (.u32 ((UInt32.ofNat (c - 97).toNat)+26)) (.n 3 (.b true) .z))<|aC (fE (aK ?_));cases d;refine aF [.u32 ((UInt32.ofNat (c - 97).toNat)+26),.b true] D ?_;exact⟨y,k⟩
 refine C<|H (.n 25 (.b ((decide ((48:UInt8)<=c))&&(decide (c<=57)))) (.s .a))<|jl d (fun g d=>?_) fun g d=>?_
 ·refine C<|H (.n 2 (.u32 ((UInt32.ofNat (c - 48).toNat)+52)) (.n 3 (.b true) .z))<|aC (fE (aK ?_));cases d;refine aF [.u32 ((UInt32.ofNat (c - 48).toNat)+52),.b true] D ?_;exact⟨y,k⟩
 refine C<|H (.n 36 (A2D (c=43)) (.s .a))<|bP d (fun f d=>?_) fun f d=>?_
 ·refine C<|H (.n 2 (.u32 62) (.n 3 (.b true) .z))<|aC (fE (aK ?_));cases d;refine aF [.u32 62,.b true] D ?_;exact⟨y,k⟩
 refine C<|H (.n 39 (A2D (c=47)) .z)<|bP d (fun e d=>?_) fun e d=>?_
 ·refine C<|H (.n 2 (.u32 63) (.n 3 (.b true) .z))<|aC (fE (aK ?_));cases d;refine aF [.u32 63,.b true] D ?_;exact⟨y,k⟩
 refine ay<|cO<|au<|C<|H (.n 2 (.u32 0) (.n 3 (.b false) .z))<|aC ?_;cases d;refine aF [.u32 0,.b false] D ?_;exact⟨y,k⟩
theorem NL{s_}(k:Cx F O w w []){r:(AC×Int×Int)}(d:vK s_=some r):
    A2F 37 [.s s_] w fun e w'=>∃ A n c,r.1.length=n/\e=.returned (SV.val (.og [sl A n c,I r.2.1,I r.2.2]))/\Cx F O w w' [A0H A n c r.1]:=by
 unfold vK at d;refine dZ _ func37 y<|C<|H .a<|C<|H (.n 5 (sl none 0 0) .a)<|C<|H (.n 6 (I 0) (.n 7 (.u32 0) .a))<|C<|C<|H (.n 12 (I (s_.length:Int)) (.n 13 (I 0) .a))<|aB ?_;have dH:=k.nil e8;refine jh d (fun s L B=>∃ b g v i m P l,(b,g,v,i)=s/\L=[(0,.s s_),(5,sl m P l),(6,I g),(7,.u32 v),(12,I (s_.length:Int)),(13,I i)]/\b.length=P/\Cx F O w B [A0H m P l b]) ⟨_,_,_,_,_,0,0,y,y,dH.len 0 y,dH⟩ ?_;rintro uK L_ w_ y0 ⟨b,g,v,i,m,_,l,rfl,rfl,rfl,o⟩ d p;simp only[Dy] at d;refine C<|H (.n 14 (A2D (i < (s_.length:Int))) .a)<|C<|bP d (fun hc d=>?_) fun hc d=>?_
 ·refine ay<|au<|mZ (fun L B=>∃ x f G V N U,qw i x f G=some y0/\L=[(0,.s s_),(5,sl V N U),(6,I f),(7,.u32 G),(12,I (s_.length:Int)),(13,I i)]/\x.length=N/\Cx F O w B [A0H V N U x]) ?_ ?_
  ·
   refine aB<|C<|H (.n 8 (I i) (.s .a))<|C<|ak<|J d fun c2 q d=>Wl 3 (.n 19 (.u8 c2) .a) (qX q<|D)<|K<|J d fun h bT d=>dJ 20 (A0n func59) (XX gI bT) o fun kN t=>We 5 (.n 9 (.u32 h.1) (.n 10 (.b h.2) (.ss .a)))<|Wn<|C<|C<|H (.n 24 (.b (!h.2)) (.k (.s .a)))<|jl d (fun T d=>?_) fun T d=>?_
   ·refine C<|H (.n 2 (sl none 0 0) (.n 3 (I i) (.n 4 (I 4) .z)))<|aC (aK (fE (aK (aK (fE (aK ?_))))));have d:=bC d p;have fM:=t.nil e8;cases d;refine aF [sl none 0 0,I i,I 4] D ?_;have gp:=fM.bH (.s (.k .e));exact⟨_,0,0,gp.len 0 y,y,gp⟩
   refine ay<|au<|C<|H (.n 7 (.u32 ((su v ((6:UInt64).toNat))|||h.1)) (.lI (.rQ (.s .a))))<|C<|H (.n 6 (I (ax (g+6))) (.rQ (.s .a)))<|C<|H (.n 33 (A2D (8<=(ax (g+6)))) .a)<|bP d (fun S d=>?_) fun S d=>?_
   ·refine C<|H (.n 6 (I (ax ((ax (g+6)) - 8))) (.ss .a))<|C<|ak<|J d fun u Ac d=>Wl 5 (.n 36 (M m b l) (.n 40 (.u8 (UInt8.ofNat (qK ((su v ((6:UInt64).toNat))|||h.1) (Int.toNat (ax ((ax (g+6)) - 8)))).toNat)) .a)) (qp (0<=ax ((ax (g+6)) - 8)) (bI Ac)<|D)<|K<|wY dM e8 41 ([UInt8.ofNat (qK ((su v ((6:UInt64).toNat))|||h.1) (Int.toNat (ax ((ax (g+6)) - 8)))).toNat]:AC) [(0,.u8 (UInt8.ofNat (qK ((su v ((6:UInt64).toNat))|||h.1) (Int.toNat (ax ((ax (g+6)) - 8)))).toNat))] [.u8 (UInt8.ofNat (qK ((su v ((6:UInt64).toNat))|||h.1) (Int.toNat (ax ((ax (g+6)) - 8)))).toNat)] t fun A2 mV j=>K<|J d fun b2 IC d=>?_;obtain⟨hz,hl⟩:=eU IC;refine dA (E:=e8) (v:=sl A2 1 1) (ys:=([UInt8.ofNat (qK ((su v ((6:UInt64).toNat))|||h.1) (Int.toNat (ax ((ax (g+6)) - 8)))).toNat]:AC)) dM [] 42 0 Z j y (Src.sl (j.rd 1 y) (j.len 1 y) A2J) (j.len 1 y) (by have:=j.len 0 y;have:=(j.len 1 y);omega) fun A3 c3 qG gJ=>?_;rw[<- hl] at gJ;have iF:=gJ.bH (.k .z);refine We 1 (.n 5 (sl A3 (b.length+1) c3) (.fV (.rQ (.s .a))))<|di<|au<|J d fun u1 OE d=>W_q [] (.n 7 (.u32 (((su v ((6:UInt64).toNat))|||h.1)&&&((su 1 (Int.toNat (ax ((ax (g+6)) - 8)))) - 1))) (.kk (.s .a))) (qp (0<=ax ((ax (g+6)) - 8)) (bI OE)<|D) Z<|cO ?_;exact fO ⟨_,_,_,_,_,_,d,y,iF.len 0 y,iF⟩
   refine ay<|cO ?_;exact fO ⟨_,_,_,_,_,_,d,y,t.len 0 y,t⟩
  rintro L_ uU ⟨x,f,G,V,_,U,d,rfl,rfl,X⟩;simp only[qw] at d;refine lM (.n 13 (I (ax (i+1))) (.dF (.k .z))) ?_;exact fQ d ⟨_,_,_,_,_,_,_,y,y,X.len 0 y,X⟩
 refine A2C d p fun d=>C<|C<|Wa (.n 52 (A2D ((Int.tmod (s_.length:Int) 4)=1)) (.s (.kk (.s (.k .z))))) (qp ((4:Int)≠(0:Int)) Y<|D)<|bP d (fun R d=>?_) fun R d=>?_
 ·refine C<|H (.n 2 (sl none 0 0) (.n 3 (I (s_.length:Int)) (.n 4 (I 4) .z)))<|aC (aK ?_);have df:=o.nil e8;cases d;refine aF [sl none 0 0,I (s_.length:Int),I 4] D ?_;have dP:=df.bH (.s (.k .e));exact⟨_,0,0,dP.len 0 y,y,dP⟩
 refine ay<|au<|C<|C<|H (.n 56 (A2D (v≠0)) (.s (.kk .z)))<|bP d (fun Q d=>?_) fun Q d=>?_
 ·refine C<|H (.n 2 (sl none 0 0) (.n 3 (I (ax ((s_.length:Int) - 1))) (.n 4 (I 4) .z)))<|aC (aK ?_);have dG:=o.nil e8;cases d;refine aF [sl none 0 0,I (ax ((s_.length:Int) - 1)),I 4] D ?_;have dW:=dG.bH (.s (.k .e));exact⟨_,0,0,dW.len 0 y,y,dW⟩
 refine ay<|au<|C<|H (.n 2 (M m b l) (.n 3 (I 0) (.n 4 (I 0) .z)))<|aC ?_;cases d;refine aF [M m b l,I 0,I 0] D ?_;exact⟨_,_,_,o.len 0 y,y,o⟩
theorem WM{aj ah af ag aA}(k:Cx F O w w []){r:(List A0B)}(b:Eu aj ah af ag aA=some r):
    A2F 60 [.agg [I aj,I ah,I af,I ag,I aA]] w fun e w'=>∃ A n c,r.length=n/\e=.returned (SV.val (sl A n c))/\Cx F O w w' [Ow (eP eI (eP eI eI)) A n c r]:=by
 unfold Eu at b;refine dZ _ func60 y<|C<|ak<|K<|iV 1 [I aj,I ah,I af,I ag,I aA] k fun g w_ a=>We 1 (.k .z)<|Wn<|C<|ak<|Wl 15 (.n 5 (.agg [I aj,I 0,I 2]) (.n 8 (.agg [I ag,I 1,I 8]) (.n 11 (.agg [I af,I 1,I 16]) (.n 14 (.agg [I aA,I 4,I 1024]) (.n 17 (.agg [I ah,I 8,I 4096]) .z))))) (qs g 0<|fJ a 0 y 0 (I aj)<|qs g 0<|fJ a 0 y 3 (I ag)<|qs g 0<|fJ a 0 y 2 (I af)<|qs g 0<|fJ a 0 y 4 (I aA)<|qs g 0<|fJ a 0 y 1 (I ah)<|D)<|K<|wY pp_tf121 (eP eI (eP eI eI)) 18 ([(aj,(0:Int),(2:Int)),(ag,(1:Int),(8:Int)),(af,(1:Int),(16:Int)),(aA,(4:Int),(1024:Int)),(ah,(8:Int),(4096:Int))]:List A0B) [(0,.agg [I aj,I 0,I 2]),(1,.agg [I ag,I 1,I 8]),(2,.agg [I af,I 1,I 16]),(3,.agg [I aA,I 4,I 1024]),(4,.agg [I ah,I 8,I 4096])] [I aj,I 0,I 2,I ag,I 1,I 8,I af,I 1,I 16,I aA,I 4,I 1024,I ah,I 8,I 4096] a fun f kN h=>We 1 (.n 2 (sl f 5 5) .z)<|Wn<|aC ?_;cases b;refine aF [sl f 5 5] D ?_;have d:=h.bH (.s (.k .e));exact⟨_,_,_,d.len 0 y,y,d⟩
theorem Uw{aj ah af ag aA}(k:Cx F O w w []){r}(e:DV aj ah af ag aA=some r):
    A2E F O w 39 [.agg [I aj,I ah,I af,I ag,I aA]] (.b r) []:=by
 unfold DV at e;refine dZ _ func39 y<|C<|ak<|K<|iV 1 [I aj,I ah,I af,I ag,I aA] k fun g w_ t=>We 1 (.k .z)<|Wn<|C<|C<|ak<|Wl 1 (.n 5 (.agg [I aj,I ah,I af,I ag,I aA]) .a) (mY t 0 y 0 5 [I aj,I ah,I af,I ag,I aA]<|D)<|K<|J e fun i R e=>aV 6 (A0n func60) (WM gI R) ?_;rintro e_ kN ⟨A,_,c,rfl,rfl,P⟩;have Q:=t.call P;refine E2<|We 2 (.n 7 (I (i.length:Int)) (.n 8 (I 0) (.k (.s .a))))<|Wn<|aB<|jh e (fun s L v=>∃ l,l=s/\L=[(1,pt g 0),(6,M A i c),(7,I (i.length:Int)),(8,I l)]/\Cx F O w v [Bx 23 g [I aj,I ah,I af,I ag,I aA],Ow (eP eI (eP eI eI)) A i.length c i]) ⟨_,y,y,Q⟩ ?_;rintro uK L_ mV y0 ⟨l,rfl,rfl,h⟩ e o;simp only[xw] at e;refine C<|H (.n 9 (A2D (l < (i.length:Int))) .a)<|C<|bP e (fun B e=>?_) fun B e=>?_
 ·refine ay<|au<|C<|aB<|C<|ak<|J e fun d u e=>Wl 2 (.n 11 (.agg [I d.1,I d.2.1,I d.2.2]) (.s .a)) (qJ (h.rd 1 y) u (h.len 1 y)<|qR [I d.1,I d.2.1,I d.2.2] (Rd.els (k:=0) (m:=3) (h.rd 1 y) u (Pt.vH A l 3) y A2H A2H)<|D)<|K<|gZ 4 [I 0,I 0,I 0] h fun f qG N=>K<|gz 2 (.agg [I d.1,I d.2.1,I d.2.2]) [I d.1,I d.2.1,I d.2.2] (Pt.at f 0) N y .all fun uU j=>Wn<|C<|Wa (.n 23 (.b ((decide (d.1 < d.2.1))||(decide (d.2.2 < d.1)))) (.ss .a)) (qs f 0<|fJ j 2 y 0 (I d.1)<|qs f 0<|fJ j 2 y 1 (I d.2.1)<|A2B ((decide (d.1 < d.2.1))=false) f<|qo (I d.1)<|qc (fun w=>(decide (d.1 < d.2.1))=false->∃ a,(some ⟨f,0,none⟩:EQ)=some a/\w.cell? a=some (SV.val (I d.1))) (fun p=>j.yc 2 y 0 (I d.1) Z)<|A2B ((decide (d.1 < d.2.1))=false) f<|qo (I d.2.2)<|qc (fun w=>(decide (d.1 < d.2.1))=false->∃ a,(some ⟨f,2,none⟩:EQ)=some a/\w.cell? a=some (SV.val (I d.2.2))) (fun p=>j.yc 2 y 2 (I d.2.2) Z)<|D)<|jl e (fun q e=>?_) fun q e=>?_
  ·refine C<|H (.n 2 (.b false) .z)<|aC (fE (aK (aK (fE (aK ?_)))));have e:=bC e o;cases e;refine aF [.b false] D ?_;have E:=j.bH .z;exact⟨y,E⟩
  refine ay<|cO<|au<|lM (.n 8 (I (ax (l+1))) (.s (.rQ .z))) ?_;have G:=j.bH (.kk .z);exact fQ e ⟨_,y,y,G⟩
 refine A2C e o fun e=>C<|Wa (.n 2 (A2D ((ax (8*ag))<=ah)) .z) (qs g 0<|fJ h 0 y 1 (I ah)<|qs g 0<|fJ h 0 y 3 (I ag)<|D)<|aC ?_;cases e;refine aF [.b (decide ((ax (8*ag))<=ah))] D ?_;have x:=h.bH .z;exact⟨y,x⟩
theorem GV{aj ah af ag aA}{aO:AC}{dX iD dY}(lL:Ro F w dX (e8.all aO))(kK:aO.length=iD)(jO:iD<=dY)(k:Cx F O w w []){r}(c:sW aj ah af ag aA aO=some r):
    A2E F O w 13 [.agg [I aj,I ah,I af,I ag,I aA],sl dX iD dY] (I r) []:=by
 unfold sW at c;subst kK;refine dZ _ func13 y<|C<|ak<|K<|iV 2 [I aj,I ah,I af,I ag,I aA] k fun g w_ f=>We 1 (.k (.s .a))<|Wn<|C<|aB<|C<|ak<|Wl 1 (.n 6 (.agg [I aj,I ah,I af,I ag,I aA]) (.s .a)) (mY f 0 y 0 5 [I aj,I ah,I af,I ag,I aA]<|D)<|K<|J c fun h l c=>dJ 7 A0y (Uw gI l) f fun kN j=>?_;have e:=j.bH .z;refine We 2 (.n 5 (.b (!h)) (.ss .a))<|Wn<|jl c (fun i c=>?_) fun i c=>?_
 ·refine C<|H (.n 4 (I 200) .z)<|aC (fE (aK ?_));cases c;refine aF [I 200] D ?_;exact⟨y,e⟩
 refine C<|H (.n 9 (.b ((decide ((aO.length:Int) < 8))||(decide (64 < (aO.length:Int))))) .z)<|jl c (fun d c=>?_) fun d c=>?_
 ·refine C<|H (.n 4 (I 201) .z)<|aC (fE (aK ?_));cases c;refine aF [I 201] D ?_;exact⟨y,e⟩
 refine ay<|cO<|au<|C<|H (.n 4 (I 0) .z)<|aC ?_;cases c;refine aF [I 0] D ?_;exact⟨y,e⟩
theorem Si{gq aX bn bQ gG}{nT:AC}{sZ:AC}{nY AQ nZ sS Fp sU}(JK:Ro F w nY (e8.all nT))(LM:nT.length=AQ)(Gs:AQ<=nZ)(Sj:Ro F w sS (e8.all sZ))(OG:sZ.length=Fp)(OH:Fp<=sU)(k:Cx F O w w []){r}(hm:Bi gq aX bn bQ gG nT sZ=some r):
    Calls prog 38 (vals [.agg [I gq,I aX,I bn,I bQ,I gG,sl nY AQ nZ,sl sS Fp sU]]) w (fun e w'=>e=.returned (SV.val (I r))/\Cx F O w w' []):=by
 unfold Bi at hm;subst LM;subst OG;refine dZ _ func38 rfl<|ae<|ak<|ai<|iV 1 [I gq,I aX,I bn,I bQ,I gG,sl nY nT.length nZ,sl sS sZ.length sU] k fun g w_ k_=>We 1 (.k .z)<|Wn<|ae<|ae<|ak<|Wl 4 (.n 5 (.agg [I gq,I aX,I bn,I bQ,I gG]) (.n 7 (sl nY nT.length nZ) .a)) (qs g 0<|mY k_ 0 rfl 0 5 [I gq,I aX,I bn,I bQ,I gG]<|qs g 0<|fJ k_ 0 rfl 5 (sl nY nT.length nZ)<|qe)<|ai<|aJ hm fun r_ bT hm=>dJ 8 Vq (GV (Ro.n0 (JK.cx k_)) rfl Gs gI bT) k_ fun kN b_=>We 1 (.n 3 (I r_) (.lI .a))<|Wn<|ae<|Wq (.n 10 (.b (decide (r_≠0))) .a)<|bP hm (fun hc hm=>?_) fun hc hm=>?_
 ·refine ae<|Wq (.n 2 (I r_) .z)<|aC (aK ?_);obtain rfl:=si hm;refine aF [I r_] qe ?_;have dB:=b_.bH .z;exact⟨rfl,dB⟩
 refine ay<|au<|ae<|ae<|Wa (.n 18 (.b (decide ((sZ.length:Int)≠gG))) .z) (qs g 0<|fJ b_ 0 rfl 6 (sl sS sZ.length sU)<|jI g 0<|fJ b_ 0 rfl 4 (I gG)<|qe)<|bP hm (fun hc1 hm=>?_) fun hc1 hm=>?_
 ·refine ae<|Wq (.n 2 (I 1) .z)<|aC (aK ?_);obtain rfl:=si hm;refine aF [I 1] qe ?_;have fM:=b_.bH .z;exact⟨rfl,fM⟩
 refine ay<|au<|ae<|Wq (.n 2 (I 0) .z)<|aC ?_;obtain rfl:=si hm;refine aF [I 0] qe ?_;have gp:=b_.bH .z;exact⟨rfl,gp⟩
theorem Jd{s_}(k:Cx F O w w []){r:(Int×Int×Int×Int×Int×AC×AC×Int×Int)}(d:sH s_=some r):
    A2F 12 [.s s_] w fun e w'=>∃ A n c A1 n1 c1,r.2.2.2.2.2.1.length=n/\r.2.2.2.2.2.2.1.length=n1/\e=.returned (SV.val (.og [.agg [I r.1,I r.2.1,I r.2.2.1,I r.2.2.2.1,I r.2.2.2.2.1,sl A n c,sl A1 n1 c1],I r.2.2.2.2.2.2.2.1,I r.2.2.2.2.2.2.2.2]))/\Cx F O w w' [A0H A n c r.2.2.2.2.2.1,A0H A1 n1 c1 r.2.2.2.2.2.2.1]:=by
 unfold sH at d;refine dZ _ func12 y<|C<|ak<|K<|gZ 2 [I 0,I 0,I 0,I 0,I 0,sl none 0 0,sl none 0 0] k fun g w_ k_=>We 2 .a<|Wn<|C<|ak<|We 2 (.n 13 (.agg [.s s_,I 0,.b true]) .a)<|K<|iV 14 [.s s_,I 0,.b true] k_ fun f kN dH=>We 1 (.n 5 (pt f 0) (.ss .a))<|Wn<|C<|ak<|K<|gZ 6 [I 0,I 0,I 0,I 0,I 0,sl none 0 0,sl none 0 0] dH fun m mV b_=>Wn<|C<|ak<|We 1 (.n 15 (pt f 0) .a)<|K<|J d fun j bT d=>?_;obtain⟨F1,O1,kin,hO,hre,hF,hb⟩:=b_.go (.r (.i (.r .e)));refine aV 16 GU (nX kin bT) ?_;rintro e_ qG ⟨rfl,dB⟩;have fM:=hb qG _ _ dB (.c .n);refine E2<|Wn<|mZ (fun L wr=>∃ p p1 p2 t,kM s_ p p1 p2 t=some r/\L=[(0,.s s_),(2,pt g 0),(5,pt f 0),(6,pt m 0)]/\Cx F O w wr [Bx 47 g [I 0,I 0,I 0,I 0,I 0,sl none 0 0,sl none 0 0],Bx 86 f [.s p,I p1,.b p2],Bx 47 m [I t,I 0,I 0,I 0,I 0,sl none 0 0,sl none 0 0]]) ?_ ?_
 ·
  refine aB<|C<|ak<|Wl 5 (.n 24 (.b j.2.2) (.ss .a)) (jI f 0<|fJ fM 0 y 2 (.b j.2.2)<|D)<|Kt 24 j.2.2 (.s .a) Z (fun hg=>?_) (fun hg=>?_)
  ·rw[A3p hg] at d;refine J d fun Aa NK d=>?_;have hs:=jg NK;refine J5 6 [24] (.n 30 (.s Aa) .a) (jI f 0<|fJ fM 0 y 1 (I j.2.1)<|qp (0<=j.2.1/\j.2.1<=(s_.length:Int)) Y<|qo (.s Aa)<|qp ((s_.take s_.length).drop (Int.toNat j.2.1)=Aa) hs.2.2.2.symm<|D) Z<|K ?_;have gp:=fM.bH (.kk (.k .e));refine J d fun aI dw d=>uQ [24] 31 _ Zd Z (Cm gI dw) ?_;rintro e_ uU ⟨rfl,gX⟩;have gJ:=gp.call gX;refine E2<|J5 2 [24] (.n 19 (.b aI) (.lI .a)) D Z<|Wn<|jl d (fun hc d=>?_) fun hc d=>?_
   ·refine C<|ak<|Wl 2 (.n 34 (pt m 0) (.s .a)) (jI m 0<|D)<|K<|lK 2 (I 2) (Pt.at m 0) gJ y .h fun zK iF=>Wn<|ak<|Wl 7 (.n 39 (I (ax (j.2.1+2))) (.n 41 (pt f 1) (.s .a))) (jI f 0<|fJ iF 0 y 1 (I j.2.1)<|jI f 0<|D)<|K<|lK 0 (I (ax (j.2.1+2))) (Pt.at f 1) iF y (.k .h) fun zX jk=>di<|cO ?_;have df:=jk.P2.P1.P2;exact fO ⟨_,_,_,_,d,y,df⟩
   refine C<|ak<|Wl 5 (.n 47 (.b j.2.2) (.s .a)) (jI f 0<|fJ gJ 0 y 2 (.b j.2.2)<|D)<|Kt 47 j.2.2 (.s .a) Z (fun hg1=>?_) (fun hg1=>?_)
   ·rw[A3p hg1] at d;refine J d fun Om h_s_2 d=>?_;have hs1:=jg h_s_2;refine J5 6 [47] (.n 53 (.s Om) .a) (jI f 0<|fJ gJ 0 y 1 (I j.2.1)<|qp (0<=j.2.1/\j.2.1<=(s_.length:Int)) Y<|qo (.s Om)<|qp ((s_.take s_.length).drop (Int.toNat j.2.1)=Om) hs1.2.2.2.symm<|D) Z<|K<|J d fun bY gW d=>uQ [47] 54 _ Zd Z (Cm gI gW) ?_;rintro e_ CB ⟨rfl,dP⟩;have dG:=gJ.call dP;refine E2<|J5 2 [47] (.n 42 (.b bY) (.lI .a)) D Z<|Wn<|jl d (fun hc1 d=>?_) fun hc1 d=>?_
    ·refine C<|ak<|Wl 2 (.n 57 (pt m 0) (.s .a)) (jI m 0<|D)<|K<|lK 2 (I 1) (Pt.at m 0) dG y .h fun Je dW=>Wn<|ak<|Wl 7 (.n 62 (I (ax (j.2.1+1))) (.n 64 (pt f 1) (.s .a))) (jI f 0<|fJ dW 0 y 1 (I j.2.1)<|jI f 0<|D)<|K<|lK 0 (I (ax (j.2.1+1))) (Pt.at f 1) dW y (.k .h) fun KZ fZ=>di<|cO ?_;have iE:=fZ.P2.P1.P2;exact fO ⟨_,_,_,_,d,y,iE⟩
    refine ak<|We 1 (.n 17 (pt f 0) (.s .a))<|K<|J d fun fU jy d=>?_;obtain⟨F11,O11,DI,hO1,QE,hF1,hb1⟩:=dG.go (.i (.r (.r .e)));refine aV 18 GU (nX DI jy) ?_;rintro e_ y9 ⟨rfl,iM⟩;have iW:=hb1 y9 _ _ iM (.c .n);refine E2<|di<|cO ?_;have jM:=iW.P2.P1.P2;exact fO ⟨_,_,_,_,d,y,jM⟩
   ·rw[A3q (by rw[hg1];decide)] at d;refine J5 9 [47] (.n 42 (.b false) (.s .a)) D Z<|Wn<|Oy<|ak<|We 1 (.n 17 (pt f 0) (.s .a))<|K<|J d fun iH kE d=>?_;obtain⟨F12,O12,WN,hO2,hre2,hF2,hb2⟩:=gJ.go (.i (.r (.r .e)));refine aV 18 GU (nX WN kE) ?_;rintro e_ C_ ⟨rfl,jZ⟩;have jF:=hb2 C_ _ _ jZ (.c .n);refine E2<|di<|cO ?_;have ku:=jF.P2.P1.P2;exact fO ⟨_,_,_,_,d,y,ku⟩
  ·rw[A3q (by rw[hg];decide)] at d;refine J5 9 [24] (.n 19 (.b false) (.s .a)) D Z<|Wn<|Oy<|C<|ak<|Wl 5 (.n 47 (.b j.2.2) (.s .a)) (jI f 0<|fJ fM 0 y 2 (.b j.2.2)<|D)<|Kt 47 j.2.2 (.s .a) Z (fun hg2=>?_) (fun hg2=>?_)
   ·rw[A3p hg2] at d;refine J d fun Tz h_s_3 d=>?_;have hs2:=jg h_s_3;refine J5 6 [47] (.n 53 (.s Tz) .a) (jI f 0<|fJ fM 0 y 1 (I j.2.1)<|qp (0<=j.2.1/\j.2.1<=(s_.length:Int)) Y<|qo (.s Tz)<|qp ((s_.take s_.length).drop (Int.toNat j.2.1)=Tz) hs2.2.2.2.symm<|D) Z<|K ?_;have lu:=fM.bH (.kk (.k .e));refine J d fun kz ry d=>uQ [47] 54 _ Zd Z (Cm gI ry) ?_;rintro e_ Gt ⟨rfl,lT⟩;have kR:=lu.call lT;refine E2<|J5 2 [47] (.n 42 (.b kz) (.lI .a)) D Z<|Wn<|jl d (fun hc2 d=>?_) fun hc2 d=>?_
    ·refine C<|ak<|Wl 2 (.n 57 (pt m 0) (.s .a)) (jI m 0<|D)<|K<|lK 2 (I 1) (Pt.at m 0) kR y .h fun Jf n_=>Wn<|ak<|Wl 7 (.n 62 (I (ax (j.2.1+1))) (.n 64 (pt f 1) (.s .a))) (jI f 0<|fJ n_ 0 y 1 (I j.2.1)<|jI f 0<|D)<|K<|lK 0 (I (ax (j.2.1+1))) (Pt.at f 1) n_ y (.k .h) fun NU rG=>di<|cO ?_;have vg:=rG.P2.P1.P2;exact fO ⟨_,_,_,_,d,y,vg⟩
    refine ak<|We 1 (.n 17 (pt f 0) (.s .a))<|K<|J d fun lC xR d=>?_;obtain⟨F13,O13,WO,hO3,hre3,hF3,hb3⟩:=kR.go (.i (.r (.r .e)));refine aV 18 GU (nX WO xR) ?_;rintro e_ LP ⟨rfl,rW⟩;have zf:=hb3 LP _ _ rW (.c .n);refine E2<|di<|cO ?_;have xU:=zf.P2.P1.P2;exact fO ⟨_,_,_,_,d,y,xU⟩
   ·rw[A3q (by rw[hg2];decide)] at d;refine J5 9 [47] (.n 42 (.b false) (.s .a)) D Z<|Wn<|Oy<|ak<|We 1 (.n 17 (pt f 0) (.s .a))<|K ?_;have BN:=fM.bH (.kk (.k .e));refine J d fun rU H7 d=>?_;obtain⟨F14,O14,Zg,hO4,hre4,hF4,hb4⟩:=BN.go (.i (.r (.r .e)));refine aV 18 GU (nX Zg H7) ?_;rintro e_ UW ⟨rfl,yf⟩;have uM:=hb4 UW _ _ yf (.c .n);refine E2<|di<|cO ?_;have J9:=uM.P2.P1.P2;exact fO ⟨_,_,_,_,d,y,J9⟩
 rintro L_ Zh ⟨p,p1,p2,t,d,rfl,BO⟩;simp only[kM] at d;refine C<|ak<|We 1 (.n 65 (pt f 0) .a)<|K<|J d fun Cf OI d=>?_;obtain⟨F15,O15,kin5,hO5,hre5,hF5,hb5⟩:=BO.go (.r (.i (.r .e)));refine aV 66 GU (nX kin5 OI) ?_;rintro e_ w_18 ⟨rfl,CE⟩;have H8:=hb5 w_18 _ _ CE (.c .n);refine E2<|Wn<|C<|ak<|We 1 (.n 67 (pt f 0) (.ss .a))<|K<|J d fun DW OJ d=>?_;obtain⟨F16,O16,kin6,hO6,hre6,hF6,hb6⟩:=H8.go (.i (.r (.r .e)));refine aV 68 RJ (wM kin6 OJ) ?_;rintro e_ w_19 ⟨rfl,CG⟩;have H9:=hb6 w_19 _ _ CG (.c .n);refine E2<|K<|J d fun qx Nc d=>aV 69 Ze (Nb gI Nc) ?_;rintro e_ w_20 ⟨rfl,IE⟩;have H_:=H9.call IE;refine E2<|Wl 2 (.n 71 (pt m 1) (.k (.ss .a))) (jI m 0<|D)<|K<|lK 2 (I qx) (Pt.at m 1) H_ y (.k .h) fun w_21 K_=>Wn<|C<|ak<|We 1 (.n 72 (pt f 0) (.ss .a))<|K ?_;have J_:=K_.bH (.kk (.k .e));refine J d fun pR Nh d=>?_;obtain⟨F17,O17,kin7,hO7,hre7,hF7,hb7⟩:=J_.go (.i (.r (.r .e)));refine aV 73 GU (nX kin7 Nh) ?_;rintro e_ w_22 ⟨rfl,NV⟩;have La:=hb7 w_22 _ _ NV (.c .n);refine E2<|Wn<|C<|ak<|We 1 (.n 74 (pt f 0) (.ss .a))<|K<|J d fun rD QG d=>?_;obtain⟨F18,O18,kin8,hO8,hre8,hF8,hb8⟩:=La.go (.i (.r (.r .e)));refine aV 75 RJ (wM kin8 QG) ?_;rintro e_ w_23 ⟨rfl,LQ⟩;have JL:=hb8 w_23 _ _ LQ (.c .n);refine E2<|K<|J d fun nU WQ d=>aV 76 Ze (Nb gI WQ) ?_;rintro e_ w_24 ⟨rfl,UX⟩;have Nj:=JL.call UX
 refine E2<|Wl 2 (.n 78 (pt m 2) (.k (.ss .a))) (jI m 0<|D)<|K<|lK 2 (I nU) (Pt.at m 2) Nj y (.kk .h) fun w_25 NW=>Wn<|C<|ak<|We 1 (.n 79 (pt f 0) (.ss .a))<|K ?_;have UY:=NW.bH (.kk (.k .e));refine J d fun xx QH d=>?_;obtain⟨F19,O19,kin9,hO9,hre9,hF9,hb9⟩:=UY.go (.i (.r (.r .e)));refine aV 80 GU (nX kin9 QH) ?_;rintro e_ w_26 ⟨rfl,Sm⟩;have Sr:=hb9 w_26 _ _ Sm (.c .n);refine E2<|Wn<|C<|ak<|We 1 (.n 81 (pt f 0) (.ss .a))<|K<|J d fun ve WR d=>?_;obtain⟨F110,O110,kin10,hO10,hre10,hF10,hb10⟩:=Sr.go (.i (.r (.r .e)));refine aV 82 RJ (wM kin10 WR) ?_;rintro e_ w_27 ⟨rfl,Zi⟩;have k_55:=hb10 w_27 _ _ Zi (.c .n);refine E2<|K<|J d fun Ai h_r_16 d=>aV 83 Ze (Nb gI h_r_16) ?_;rintro e_ w_28 ⟨rfl,TP⟩;have Zj:=k_55.call TP;refine E2<|Wl 2 (.n 85 (pt m 3) (.k (.ss .a))) (jI m 0<|D)<|K<|lK 2 (I Ai) (Pt.at m 3) Zj y (.kk (.k .h)) fun w_29 k_58=>Wn<|C<|ak<|We 1 (.n 86 (pt f 0) (.ss .a))<|K ?_;have WS:=k_58.bH (.kk (.k .e));refine J d fun yl h_r_17 d=>?_;obtain⟨F111,O111,kin11,hO11,hre11,hF11,hb11⟩:=WS.go (.i (.r (.r .e)));refine aV 87 GU (nX kin11 h_r_17) ?_;rintro e_ w_30 ⟨rfl,k_60⟩;have k_61:=hb11 w_30 _ _ k_60 (.c .n);refine E2<|Wn<|C<|ak<|We 1 (.n 89 (pt f 0) (.ss .a))<|K<|J d fun J8 h_r_18 d=>?_;obtain⟨F112,O112,kin12,hO12,hre12,hF12,hb12⟩:=k_61.go (.i (.r (.r .e)));refine aV 90 A0v (JJ kin12 h_r_18) ?_
 rintro e_ w_31 ⟨rfl,k_62⟩;have k_63:=hb12 w_31 _ _ k_62 (.c .n);refine E2<|We 5 (.n 7 (.s J8.1) (.n 8 (I J8.2.1) (.ss .a)))<|Wn<|C<|ak<|We 1 (.n 93 (pt f 0) .a)<|K<|J d fun Oq h_r_19 d=>?_;obtain⟨F113,O113,kin13,hO13,hre13,hF13,hb13⟩:=k_63.go (.i (.r (.r .e)));refine aV 94 GU (nX kin13 h_r_19) ?_;rintro e_ w_32 ⟨rfl,k_64⟩;have k_65:=hb13 w_32 _ _ k_64 (.c .n);refine E2<|Wn<|C<|ak<|We 1 (.n 96 (pt f 0) (.ss .a))<|K<|J d fun u h_r_20 d=>?_;obtain⟨F114,O114,kin14,hO14,hre14,hF14,hb14⟩:=k_65.go (.i (.r (.r .e)));refine aV 97 A0v (JJ kin14 h_r_20) ?_;rintro e_ w_33 ⟨rfl,k_66⟩;have E:=hb14 w_33 _ _ k_66 (.c .n);refine E2<|We 5 (.n 9 (.s u.1) (.n 10 (I u.2.1) (.ss .a)))<|Wn<|C<|C<|Wa (.n 113 (.b ((!u.2.2.2.2)||(decide (u.2.2.2.1 < (s_.length:Int))))) (.dF (.s .a))) (jI f 0<|fJ E 0 y 2 (.b u.2.2.2.2)<|A2B ((!u.2.2.2.2)=false) f<|A2B ((!u.2.2.2.2)=false) f<|qo (I u.2.2.2.1)<|qc (fun w=>(!u.2.2.2.2)=false->∃ a,(some ⟨f,1,none⟩:EQ)=some a/\w.cell? a=some (SV.val (I u.2.2.2.1))) (fun hg0=>E.yc 0 y 1 (I u.2.2.2.1) Z)<|D)<|jl d (fun hc3 d=>?_) fun hc3 d=>?_
 ·refine C ?_;have k_68:=E.drew 1;refine lg bD (tq [0,0,1,1,2,1,3,1,4,1] (.op 5 (tq [6,1,7,1] .nil))) [5] k_68 (.c (.k (.s (.k .e))) .l) fun _=>dQ 1 0 (.n 114 (.agg [I 0,I 0,I 0,I 0,I 0,sl none 0 0,sl none 0 0]) (.fV (.s (.kk .z)))) (fun x hx=>D) fun _=>dQ 4 1 (.n 118 (I u.2.2.2.1) (.kk .z)) (fun x hx=>jI f 0<|fJ hx 0 y 1 (I u.2.2.2.1)<|D) fun _=>dD y ?_;have k_69:=k_68.bH (.kk (.k .e));refine gz 1 (.agg [I 0,I 0,I 0,I 0,I 0,sl none 0 0,sl none 0 0]) [I 0,I 0,I 0,I 0,I 0,sl none 0 0,sl none 0 0] (Pt.at g 0) k_69 y .all fun w_34 V=>?_;refine⟨(V.bH (.k (.s (.k .e)))),fun _=>?_⟩;refine dQ 2 1 (.n 3 (I u.2.2.2.1) (.n 4 (I 4) (.ss .a))) (fun x hx=>D) fun _=>eY<|au<|aC (aK ?_);have k_71:=V.nil e8;have k_72:=k_71.nil e8;cases d;refine aF [.agg [I 0,I 0,I 0,I 0,I 0,sl none 0 0,sl none 0 0],I u.2.2.2.1,I 4] (qo (.agg [I 0,I 0,I 0,I 0,I 0,sl none 0 0,sl none 0 0])<|qc (fun w=>Rd w (some ⟨g,0,none⟩) (SV.cl [I 0,I 0,I 0,I 0,I 0,sl none 0 0,sl none 0 0])) (V.F7 1 y)<|D) ?_;have U:=k_72.bH (.ss (.s (.kk .e)));exact⟨_,0,0,_,0,0,U.len 0 y,U.len 1 y,y,U⟩
 refine ay<|au<|C<|H (.s (.dF (.k (.s .a))))<|C<|C<|ak<|We 1 (.n 120 (.s J8.1) (.kk (.s .a)))<|K ?_;have k_74:=E.bH (.kk (.k .e));refine J d fun G h_r_21 d=>aV 121 A0w (NL gI h_r_21) ?_;rintro e_ w_35 ⟨A0,_,c0,rfl,rfl,k_75⟩;have k_76:=k_74.call k_75;refine⟨_,y,?_⟩;have k_77:=k_76.bH (.s (.kk (.k .e)));refine Wl 5 (.n 122 (sl A0 G.1.length c0) (.n 124 (I G.2.2) (.n 125 (pt m 5) (.ss .a)))) (qs m 0<|D)<|K<|lK 1 (sl A0 G.1.length c0) (Pt.at m 5) k_77 y (.dF (.k .h)) fun w_36 k_78=>We 1 (.n 11 (I G.2.2) (.lI .a))<|Wn<|C<|H (.n 127 (A2D (G.2.2≠0)) (.s .a))<|bP d (fun hc4 d=>?_) fun hc4 d=>?_
 ·refine C<|ak<|We 2 (.n 128 (.agg [I 0,I 0,I 0,I 0,I 0,sl none 0 0,sl none 0 0]) (.n 129 (I J8.2.1) (.fV (.k .z))))<|K<|gz 0 (.agg [I 0,I 0,I 0,I 0,I 0,sl none 0 0,sl none 0 0]) [I 0,I 0,I 0,I 0,I 0,sl none 0 0,sl none 0 0] (Pt.at g 0) k_78 y .all fun w_37 k_79=>?_;have k_80:=k_79.bH (.k .z);refine We 2 (.n 3 (I J8.2.1) (.n 4 (I 4) (.ss .a)))<|Wn<|aC (aK ?_);have k_81:=k_80.nil e8;have k_82:=k_81.nil e8;cases d;refine aF [.agg [I 0,I 0,I 0,I 0,I 0,sl none 0 0,sl none 0 0],I J8.2.1,I 4] (qo (.agg [I 0,I 0,I 0,I 0,I 0,sl none 0 0,sl none 0 0])<|qc (fun w=>Rd w (some ⟨g,0,none⟩) (SV.cl [I 0,I 0,I 0,I 0,I 0,sl none 0 0,sl none 0 0])) (k_80.F7 0 y)<|D) ?_;have T:=k_82.bH (.s (.kk .e));exact⟨_,0,0,_,0,0,T.len 0 y,T.len 1 y,y,T⟩
 refine ay<|au<|C<|C<|ak<|We 1 (.n 131 (.s u.1) (.ss (.k (.s .a))))<|K<|J d fun q h_r_22 d=>aV 132 A0w (NL gI h_r_22) ?_;rintro e_ w_38 ⟨P,_,N,rfl,rfl,k_84⟩;have k_85:=k_78.call k_84;refine E2<|Wl 5 (.n 133 (sl P q.1.length N) (.n 135 (I q.2.2) (.n 136 (pt m 6) (.ss .a)))) (qs m 0<|D)<|K<|lK 1 (sl P q.1.length N) (Pt.at m 6) k_85 y (.dF (.kk .h)) fun w_39 S=>We 1 (.n 11 (I q.2.2) (.lI .a))<|Wn<|C<|H (.n 138 (A2D (q.2.2≠0)) (.s .a))<|bP d (fun hc5 d=>?_) fun hc5 d=>?_
 ·refine C<|ak<|We 2 (.n 139 (.agg [I 0,I 0,I 0,I 0,I 0,sl none 0 0,sl none 0 0]) (.n 140 (I u.2.1) (.ss (.k .z))))<|K ?_;have k_87:=S.bH (.dF .e);refine gz 0 (.agg [I 0,I 0,I 0,I 0,I 0,sl none 0 0,sl none 0 0]) [I 0,I 0,I 0,I 0,I 0,sl none 0 0,sl none 0 0] (Pt.at g 0) k_87 y .all fun w_40 k_88=>?_;have k_89:=k_88.bH (.k .z);refine We 2 (.n 3 (I u.2.1) (.n 4 (I 4) (.ss .a)))<|Wn<|aC (aK ?_);have k_90:=k_89.nil e8;have k_91:=k_90.nil e8;cases d;refine aF [.agg [I 0,I 0,I 0,I 0,I 0,sl none 0 0,sl none 0 0],I u.2.1,I 4] (qo (.agg [I 0,I 0,I 0,I 0,I 0,sl none 0 0,sl none 0 0])<|qc (fun w=>Rd w (some ⟨g,0,none⟩) (SV.cl [I 0,I 0,I 0,I 0,I 0,sl none 0 0,sl none 0 0])) (k_89.F7 0 y)<|D) ?_;have R:=k_91.bH (.s (.kk .e));exact⟨_,0,0,_,0,0,R.len 0 y,R.len 1 y,y,R⟩
 refine ay<|au<|C<|ak<|Wl 5 (.n 143 (I (q.1.length:Int)) (.n 145 (pt m 4) (.ss .a))) (qs m 0<|fJ S 1 y 6 (sl P q.1.length N)<|jI m 0<|D)<|K ?_;have k_93:=S.bH (.dF .e);refine lK 1 (I (q.1.length:Int)) (Pt.at m 4) k_93 y (.dF .h) fun w_41 o=>Wn<|C<|C<|ak<|Wl 1 (.n 146 (.agg [I t,I qx,I nU,I Ai,I (q.1.length:Int),sl A0 G.1.length c0,sl P q.1.length N]) (.ss .a)) (mY o 1 y 0 7 [I t,I qx,I nU,I Ai,I (q.1.length:Int),sl A0 G.1.length c0,sl P q.1.length N]<|D)<|K<|J d fun r_23 h_r_23 d=>dJ 147 A0x (Si (Ro.n0 (o.rd 2 y)) (o.len 2 y) (o.yH 2 y) (Ro.n0 (o.rd 3 y)) (o.len 3 y) (o.yH 3 y) gI h_r_23) o fun w_42 Q=>We 1 (.n 148 (A2D (r_23≠0)) (.ss .a))<|Wn<|bP d (fun hc6 d=>?_) fun hc6 d=>?_
 ·refine C<|ak<|We 1 (.n 149 (.agg [I 0,I 0,I 0,I 0,I 0,sl none 0 0,sl none 0 0]) (.s (.k .z)))<|K<|gz 0 (.agg [I 0,I 0,I 0,I 0,I 0,sl none 0 0,sl none 0 0]) [I 0,I 0,I 0,I 0,I 0,sl none 0 0,sl none 0 0] (Pt.at g 0) Q y .all fun w_43 k_97=>?_;have k_98:=k_97.bH (.k .z);refine We 2 (.n 3 (I 0) (.n 4 (I 1) (.s .a)))<|Wn<|aC (aK ?_);have k_99:=k_98.nil e8;have k_100:=k_99.nil e8;cases d;refine aF [.agg [I 0,I 0,I 0,I 0,I 0,sl none 0 0,sl none 0 0],I 0,I 1] (qo (.agg [I 0,I 0,I 0,I 0,I 0,sl none 0 0,sl none 0 0])<|qc (fun w=>Rd w (some ⟨g,0,none⟩) (SV.cl [I 0,I 0,I 0,I 0,I 0,sl none 0 0,sl none 0 0])) (k_98.F7 0 y)<|D) ?_;have B:=k_100.bH (.s (.kk .e));exact⟨_,0,0,_,0,0,B.len 0 y,B.len 1 y,y,B⟩
 refine ay<|au<|C<|ak<|Wl 1 (.n 150 (.agg [I t,I qx,I nU,I Ai,I (q.1.length:Int),sl A0 G.1.length c0,sl P q.1.length N]) (.s (.k .z))) (mY Q 1 y 0 7 [I t,I qx,I nU,I Ai,I (q.1.length:Int),sl A0 G.1.length c0,sl P q.1.length N]<|D)<|K<|gz 0 (.agg [I t,I qx,I nU,I Ai,I (q.1.length:Int),sl A0 G.1.length c0,sl P q.1.length N]) [I t,I qx,I nU,I Ai,I (q.1.length:Int),sl A0 G.1.length c0,sl P q.1.length N] (Pt.at g 0) Q y .all fun w_44 k_102=>?_;have X:=k_102.bH (.k (.s (.kk .e)));refine We 2 (.n 3 (I 0) (.n 4 (I 0) (.s .a)))<|Wn<|aC ?_;cases d;refine aF [.agg [I t,I qx,I nU,I Ai,I (q.1.length:Int),sl A0 G.1.length c0,sl P q.1.length N],I 0,I 0] (qo (.agg [I t,I qx,I nU,I Ai,I (q.1.length:Int),sl A0 G.1.length c0,sl P q.1.length N])<|qc (fun w=>Rd w (some ⟨g,0,none⟩) (SV.cl [I t,I qx,I nU,I Ai,I (q.1.length:Int),sl A0 G.1.length c0,sl P q.1.length N])) (X.F7 0 y)<|D) ?_;have v:=X.bH (.s (.kk .e));exact⟨_,_,_,_,_,_,v.len 0 y,v.len 1 y,y,v⟩
theorem c_l21_awake(k:Cx F O w w []){r}(e:G_=some r):
    A2E F O w 4 [] (.b r) []:=by
 unfold G_ at e;refine dZ _ func4 y<|C<|H .a<|C<|ak<|K<|J e fun d p e=>aV 5 Vp (Jd gI p) ?_;rintro e_ w_ ⟨A,_,c,h,_,f,rfl,rfl,rfl,i⟩;have l:=k.call i;refine E2<|We 4 (.n 6 (.agg [I d.1,I d.2.1,I d.2.2.1,I d.2.2.2.1,I d.2.2.2.2.1,sl A d.2.2.2.2.2.1.length c,sl h d.2.2.2.2.2.2.1.length f]) (.n 7 (I d.2.2.2.2.2.2.2.1) (.n 8 (I d.2.2.2.2.2.2.2.2) .z)))<|K<|gZ 1 [I 0,I 0,I 0,I 0,I 0,sl none 0 0,sl none 0 0] l fun g kN o=>K<|gz 2 (.agg [I d.1,I d.2.1,I d.2.2.1,I d.2.2.2.1,I d.2.2.2.2.1,sl A d.2.2.2.2.2.1.length c,sl h d.2.2.2.2.2.2.1.length f]) [I d.1,I d.2.1,I d.2.2.1,I d.2.2.2.1,I d.2.2.2.2.1,sl A d.2.2.2.2.2.1.length c,sl h d.2.2.2.2.2.2.1.length f] (Pt.at g 0) o y .all fun mV m=>?_;have j:=m.bH .z;refine We 2 (.n 2 (I d.2.2.2.2.2.2.2.1) (.n 3 (I d.2.2.2.2.2.2.2.2) .z))<|Wn<|C<|H (.n 0 (.b ((decide (d.2.2.2.2.2.2.2.1=13))&&(decide (d.2.2.2.2.2.2.2.2=4)))) .z)<|aC ?_;cases e;refine aF [.b ((decide (d.2.2.2.2.2.2.2.1=13))&&(decide (d.2.2.2.2.2.2.2.2=4)))] D ?_;exact⟨y,j⟩
theorem WT{aj ah af ag aA A1v A1z}(k:Cx F O w w []){r}(d:Gf aj ah af ag aA A1v A1z=some r):
    A2F 5 [.agg [I aj,I ah,I af,I ag,I aA],I A1v,.u64 A1z] w fun e w'=>match r with | .inl r0=>e=.returned (SV.val (.og [.v (.pointer none),I r0]))/\Cx F O w w' [] | .inr r1=>∃ g b,e=.returned (SV.val (.og [pt g 0,I 0]))/\Cx F O w w' [Bx 53 g [I r1.1,I r1.2.1,I r1.2.2.1,I r1.2.2.2.1,I r1.2.2.2.2.1,I r1.2.2.2.2.2.1,.u64 r1.2.2.2.2.2.2.1,mv b],MS A0F b r1.2.2.2.2.2.2.2]:=by
 unfold Gf at d;refine dZ _ func5 y<|C<|ak<|K<|iV 3 [I aj,I ah,I af,I ag,I aA] k fun g0 w_ t=>We 2 (.k (.s .a))<|Wn<|C<|C ?_;have o:=t.drew 1;refine lg bD (.q 0 1 (.op 1 (.op 2 (.q 3 2 .nil)))) [1,2] o (.c (.k .e) (.c (.k .e) .l)) fun _=>dQ 1 1 (.n 9 (.agg [I aj,I ah,I af,I ag,I aA]) .a) (fun x hx=>mY hx 0 y 0 5 [I aj,I ah,I af,I ag,I aA]<|D) fun _=>dD y<|xe dM e8 (0:UInt8) y [] 10 (I 16) (I 16) (16:Int) (16:Int) Z Y Y Y o fun A kN h=>?_;refine⟨(h.bH (.k .z)),fun _=>?_⟩;refine dD y<|J d fun i S d=>dJ 11 Vq (GV (Ro.n0 (h.rd 1 y)) (h.len 1 y) (h.yH 1 y) gI S) h fun mV N=>?_;have f:=N.bH (.k .z);refine⟨f,fun _=>?_⟩;refine dQ 1 2 (.n 8 (I i) (.lI .a)) (fun x hx=>D) fun _=>eY<|au<|C<|H (.n 13 (A2D (i≠0)) .a)<|bP d (fun E d=>?_) fun E d=>?_
 ·refine C<|H (.n 6 (.v (.pointer none)) (.n 7 (I i) .z))<|aC (aK ?_);cases d;refine aF [.v (.pointer none),I i] D ?_;have G:=f.bH .z;exact⟨y,G⟩
 refine ay<|au<|C<|C<|H (.n 20 (.b ((decide (A1v < 1))||(decide (100 < A1v)))) (.ss .a))<|jl d (fun j d=>?_) fun j d=>?_
 ·refine C<|H (.n 6 (.v (.pointer none)) (.n 7 (I 1) .z))<|aC (aK ?_);cases d;refine aF [.v (.pointer none),I 1] D ?_;have L:=f.bH .z;exact⟨y,L⟩
 refine ay<|au<|C<|ak<|Wl 3 (.n 21 (.agg [I aj,I ah,I af,I ag,I aA]) (.n 22 (I A1v) (.n 23 (.u64 A1z) .z))) (mY f 0 y 0 5 [I aj,I ah,I af,I ag,I aA]<|D)<|K<|Op_mkmap [] 24 Z f fun p qG B=>?_;have u:=B.ms_new (v:=A0F);refine We 1 (.n 25 (.agg [I aj,I ah,I af,I ag,I aA,I A1v,.u64 A1z,mv p]) .z)<|K ?_;have P:=u.bH (.kk .e);refine iV 26 [I aj,I ah,I af,I ag,I aA,I A1v,.u64 A1z,mv p] P fun m uU Q=>We 2 (.n 6 (pt m 0) (.n 7 (I 0) .z))<|Wn<|aC ?_;cases d;refine aF [pt m 0,I 0] D ?_;have R:=Q.P2.bH (.kk .z);exact⟨_,_,y,R⟩
theorem Ia{aj ah af ag aA}(k:Cx F O w w []){r}(e:qP aj ah af ag aA=some r):
    A2E F O w 40 [.agg [I aj,I ah,I af,I ag,I aA]] (I r) []:=by
 unfold qP at e;refine dZ _ func40 y<|C<|ak<|K<|iV 1 [I aj,I ah,I af,I ag,I aA] k fun g w_ d=>We 1 (.k .z) ?_
 refine Wn<|C<|C<|Wa (.n 53 (.b ((((((((((decide (aj < 0))||(decide (2 < aj)))||(decide (ag < 1)))||(decide (8 < ag)))||(decide (ah < (ax (8*ag)))))||(decide (4096 < ah)))||(decide (af < 1)))||(decide (16 < af)))||(decide (aA < 4)))||(decide (1024 < aA)))) .z) (qs g 0<|fJ d 0 y 0 (I aj)<|A2B ((decide (aj < 0))=false) g<|qo (I aj)<|qc (fun w=>(decide (aj < 0))=false->∃ a,(some ⟨g,0,none⟩:EQ)=some a/\w.cell? a=some (SV.val (I aj))) (fun c=>d.yc 0 y 0 (I aj) Z)<|A2B (((decide (aj < 0))||(decide (2 < aj)))=false) g<|qo (I ag)<|qc (fun w=>((decide (aj < 0))||(decide (2 < aj)))=false->∃ a,(some ⟨g,3,none⟩:EQ)=some a/\w.cell? a=some (SV.val (I ag))) (fun c=>d.yc 0 y 3 (I ag) Z)<|A2B ((((decide (aj < 0))||(decide (2 < aj)))||(decide (ag < 1)))=false) g<|qo (I ag)<|qc (fun w=>(((decide (aj < 0))||(decide (2 < aj)))||(decide (ag < 1)))=false->∃ a,(some ⟨g,3,none⟩:EQ)=some a/\w.cell? a=some (SV.val (I ag))) (fun c=>d.yc 0 y 3 (I ag) Z)<|A2B (((((decide (aj < 0))||(decide (2 < aj)))||(decide (ag < 1)))||(decide (8 < ag)))=false) g<|qo (I ah)<|qc (fun w=>((((decide (aj < 0))||(decide (2 < aj)))||(decide (ag < 1)))||(decide (8 < ag)))=false->∃ a,(some ⟨g,1,none⟩:EQ)=some a/\w.cell? a=some (SV.val (I ah))) (fun c=>d.yc 0 y 1 (I ah) Z)<|A2B (((((decide (aj < 0))||(decide (2 < aj)))||(decide (ag < 1)))||(decide (8 < ag)))=false) g<|qo (I ag)<|qc (fun w=>((((decide (aj < 0))||(decide (2 < aj)))||(decide (ag < 1)))||(decide (8 < ag)))=false->∃ a,(some ⟨g,3,none⟩:EQ)=some a/\w.cell? a=some (SV.val (I ag))) (fun c=>d.yc 0 y 3 (I ag) Z)<|A2B ((((((decide (aj < 0))||(decide (2 < aj)))||(decide (ag < 1)))||(decide (8 < ag)))||(decide (ah < (ax (8*ag)))))=false) g<|qo (I ah)<|qc (fun w=>(((((decide (aj < 0))||(decide (2 < aj)))||(decide (ag < 1)))||(decide (8 < ag)))||(decide (ah < (ax (8*ag)))))=false->∃ a,(some ⟨g,1,none⟩:EQ)=some a/\w.cell? a=some (SV.val (I ah))) (fun c=>d.yc 0 y 1 (I ah) Z)<|A2B (((((((decide (aj < 0))||(decide (2 < aj)))||(decide (ag < 1)))||(decide (8 < ag)))||(decide (ah < (ax (8*ag)))))||(decide (4096 < ah)))=false) g<|qo (I af)<|qc (fun w=>((((((decide (aj < 0))||(decide (2 < aj)))||(decide (ag < 1)))||(decide (8 < ag)))||(decide (ah < (ax (8*ag)))))||(decide (4096 < ah)))=false->∃ a,(some ⟨g,2,none⟩:EQ)=some a/\w.cell? a=some (SV.val (I af))) (fun c=>d.yc 0 y 2 (I af) Z)<|A2B ((((((((decide (aj < 0))||(decide (2 < aj)))||(decide (ag < 1)))||(decide (8 < ag)))||(decide (ah < (ax (8*ag)))))||(decide (4096 < ah)))||(decide (af < 1)))=false) g<|qo (I af)<|qc (fun w=>(((((((decide (aj < 0))||(decide (2 < aj)))||(decide (ag < 1)))||(decide (8 < ag)))||(decide (ah < (ax (8*ag)))))||(decide (4096 < ah)))||(decide (af < 1)))=false->∃ a,(some ⟨g,2,none⟩:EQ)=some a/\w.cell? a=some (SV.val (I af))) (fun c=>d.yc 0 y 2 (I af) Z)<|A2B (((((((((decide (aj < 0))||(decide (2 < aj)))||(decide (ag < 1)))||(decide (8 < ag)))||(decide (ah < (ax (8*ag)))))||(decide (4096 < ah)))||(decide (af < 1)))||(decide (16 < af)))=false) g<|qo (I aA)<|qc (fun w=>((((((((decide (aj < 0))||(decide (2 < aj)))||(decide (ag < 1)))||(decide (8 < ag)))||(decide (ah < (ax (8*ag)))))||(decide (4096 < ah)))||(decide (af < 1)))||(decide (16 < af)))=false->∃ a,(some ⟨g,4,none⟩:EQ)=some a/\w.cell? a=some (SV.val (I aA))) (fun c=>d.yc 0 y 4 (I aA) Z)<|A2B ((((((((((decide (aj < 0))||(decide (2 < aj)))||(decide (ag < 1)))||(decide (8 < ag)))||(decide (ah < (ax (8*ag)))))||(decide (4096 < ah)))||(decide (af < 1)))||(decide (16 < af)))||(decide (aA < 4)))=false) g<|qo (I aA)<|qc (fun w=>(((((((((decide (aj < 0))||(decide (2 < aj)))||(decide (ag < 1)))||(decide (8 < ag)))||(decide (ah < (ax (8*ag)))))||(decide (4096 < ah)))||(decide (af < 1)))||(decide (16 < af)))||(decide (aA < 4)))=false->∃ a,(some ⟨g,4,none⟩:EQ)=some a/\w.cell? a=some (SV.val (I aA))) (fun c=>d.yc 0 y 4 (I aA) Z)<|D) ?_
 refine jl e (fun f e=>?_) fun f e=>?_
 ·refine C<|H (.n 2 (I 200) .z)<|aC (aK ?_);cases e;refine aF [I 200] D ?_;have h:=d.bH .z;exact⟨y,h⟩
 refine ay<|au<|C<|H (.n 2 (I 0) .z)<|aC ?_;cases e;refine aF [I 0] D ?_;have i:=d.bH .z;exact⟨y,i⟩
theorem Ic{aj ah af ag aA}{aO:AC}{dX iD dY}(lL:Ro F w dX (e8.all aO))(kK:aO.length=iD)(jO:iD<=dY)(k:Cx F O w w []){r}(hm:vW aj ah af ag aA aO=some r):
    Calls prog 14 (vals [.agg [I aj,I ah,I af,I ag,I aA],sl dX iD dY]) w (fun e w'=>e=.returned (SV.val (I r))/\Cx F O w w' []):=by
 unfold vW at hm;subst kK;refine dZ _ func14 rfl<|ae<|ak<|ai<|iV 2 [I aj,I ah,I af,I ag,I aA] k fun g w_ k_=>We 1 (.k (.s .a))<|Wn<|ae<|ak<|Wl 1 (.n 6 (.agg [I aj,I ah,I af,I ag,I aA]) (.s .a)) (mY k_ 0 rfl 0 5 [I aj,I ah,I af,I ag,I aA]<|qe)<|ai<|aJ hm fun r_ bT hm=>dJ 7 RN (Ia gI bT) k_ fun kN b_=>?_;have dB:=b_.bH .z;refine We 1 (.n 5 (I r_) (.ss .a))<|Wn<|ae<|ae<|Wq (.n 9 (.b (decide (r_≠0))) .a)<|bP hm (fun hc hm=>?_) fun hc hm=>?_
 ·refine ae<|Wq (.n 4 (I r_) .z)<|aC (aK ?_);obtain rfl:=si hm;refine aF [I r_] qe ?_;exact⟨rfl,dB⟩
 refine ay<|au<|ae<|ae<|Wq (.n 18 (.b ((decide ((aO.length:Int) < 8))||(decide (64 < (aO.length:Int))))) .z)<|jl hm (fun hc1 hm=>?_) fun hc1 hm=>?_
 ·refine ae<|Wq (.n 4 (I 201) .z)<|aC (aK ?_);obtain rfl:=si hm;refine aF [I 201] qe ?_;exact⟨rfl,dB⟩
 refine ay<|au<|ae<|Wq (.n 4 (I 0) .z)<|aC ?_;obtain rfl:=si hm;refine aF [I 0] qe ?_;exact⟨rfl,dB⟩
theorem Ux{aj ah af ag aA A1v}(k:Cx F O w w []){r}(hm:D5 aj ah af ag aA A1v=some r):
    Calls prog 6 (vals [.agg [I aj,I ah,I af,I ag,I aA],I A1v]) w (fun e w'=>e=.returned (SV.val (I r))/\Cx F O w w' []):=by
 unfold D5 at hm;refine dZ _ func6 rfl<|ae<|ak<|ai<|iV 2 [I aj,I ah,I af,I ag,I aA] k fun g w_ k_=>We 1 (.k (.s .a))<|Wn<|ae ?_;have dH:=k_.drew 1;refine lg bD (.q 0 1 (.op 1 (.op 2 (.q 3 2 .nil)))) [1,2] dH (.c (.k .e) (.c (.k .e) .l)) fun _=>dQ 1 1 (.n 6 (.agg [I aj,I ah,I af,I ag,I aA]) (.s .a)) (fun x hx=>mY hx 0 rfl 0 5 [I aj,I ah,I af,I ag,I aA]<|qe) fun _=>dD rfl<|xe dM e8 (0:UInt8) rfl [] 7 (I 16) (I 16) (16:Int) (16:Int) Z Y Y Y dH fun A kN b_=>?_;refine⟨(b_.bH (.k .z)),fun _=>?_⟩;refine dD rfl<|aJ hm fun r_ bT hm=>dJ 8 RF (Ic (Ro.n0 (b_.rd 1 rfl)) (b_.len 1 rfl) (b_.yH 1 rfl) gI bT) b_ fun mV fM=>?_;have gp:=fM.bH (.k .z);refine⟨gp,fun _=>?_⟩;refine dQ 1 2 (.n 5 (I r_) (.lI .a)) (fun x hx=>qe) fun _=>eY<|au<|ae<|ae<|Wq (.n 10 (.b (decide (r_≠0))) .a)<|bP hm (fun hc hm=>?_) fun hc hm=>?_
 ·refine ae<|Wq (.n 4 (I r_) .z)<|aC (aK ?_);obtain rfl:=si hm;refine aF [I r_] qe ?_;have gX:=gp.bH .z;exact⟨rfl,gX⟩
 refine ay<|au<|ae<|ae<|Wq (.n 17 (.b ((decide (A1v < 1))||(decide (100 < A1v)))) .z)<|jl hm (fun hc1 hm=>?_) fun hc1 hm=>?_
 ·refine ae<|Wq (.n 4 (I 1) .z)<|aC (aK ?_);obtain rfl:=si hm;refine aF [I 1] qe ?_;have gJ:=gp.bH .z;exact⟨rfl,gJ⟩
 refine ay<|au<|ae<|Wq (.n 4 (I 0) .z)<|aC ?_;obtain rfl:=si hm;refine aF [I 0] qe ?_;have iF:=gp.bH .z;exact⟨rfl,iF⟩
theorem xW{gB dN dO fC iI jo jq aQ jK bM}(k:Cx F O w w [Bx 53 jK [I gB,I dN,I dO,I fC,I iI,I jo,.u64 jq,mv bM],MS A0F bM aQ]){r:(Int×Int×Int×Int×Int×Int×UInt64)}(c:jR gB dN dO fC iI jo jq aQ=some r):
    A2E F O w 26 [pt jK 0] (.b false) [Bx 53 jK [I r.1,I r.2.1,I r.2.2.1,I r.2.2.2.1,I r.2.2.2.2.1,I r.2.2.2.2.2.1,.u64 r.2.2.2.2.2.2,mv bM],MS A0F bM aQ]:=by
 unfold jR at c;refine dZ _ func26 y<|C<|H .a<|C<|W_q [5] (.n 2 (.b false) .z) (jI jK 0<|fJ k 0 y 7 (mv bM)<|D) Z<|au<|aC ?_;cases c;refine aF [.b false] D ?_;exact⟨y,k⟩
theorem Su{s_}(k:Cx F O w w []){r}(d:yw s_=some r):
    A2E F O w 41 [.s s_] (.b r) []:=by
 unfold yw at d;refine dZ _ func41 y<|C<|H .a<|C<|C<|H (.n 12 (.b ((decide ((s_.length:Int) < 1))||(decide (32 < (s_.length:Int))))) .a)<|jl d (fun m d=>?_) fun m d=>?_
 ·refine C<|H (.n 2 (.b false) .z)<|aC (aK ?_);cases d;refine aF [.b false] D ?_;exact⟨y,k⟩
 refine ay<|au<|C<|C<|H (.n 14 (I (s_.length:Int)) (.n 15 (I 0) (.s .a)))<|aB<|jh d (fun s L l=>∃ e,e=s/\L=[(0,.s s_),(14,I (s_.length:Int)),(15,I e)]/\Cx F O w l []) ⟨_,y,y,k⟩ ?_;rintro uK L_ w_ y0 ⟨e,rfl,rfl,g⟩ d f;simp only[oq] at d;refine C<|H (.n 16 (A2D (e < (s_.length:Int))) .a)<|C<|bP d (fun i d=>?_) fun i d=>?_
 ·refine ay<|au<|C<|aB<|C<|H (.n 3 (I e) (.s .a))<|C<|J d fun c j d=>Wa (.n 4 (.u8 c) (.s .a)) (qX j<|D)<|C<|H (.n 47 (.b (!((((((decide ((97:UInt8)<=c))&&(decide (c<=122)))||((decide ((48:UInt8)<=c))&&(decide (c<=57))))||(decide (c=95)))||(decide (c=46)))||(decide (c=45))))) (.s .a))<|jl d (fun h d=>?_) fun h d=>?_
  ·refine C<|H (.n 2 (.b false) .z)<|aC (fE (aK (aK (fE (aK ?_)))));have d:=bC d f;cases d;refine aF [.b false] D ?_;exact⟨y,g⟩
  refine ay<|cO<|au<|lM (.n 15 (I (ax (e+1))) (.s (.kk .z))) ?_;exact fQ d ⟨_,y,y,g⟩
 refine A2C d f fun d=>C<|H (.n 2 (.b true) .z)<|aC ?_;cases d;refine aF [.b true] D ?_;exact⟨y,g⟩
theorem OL{w_}(k:Cx F O w w []){r:AC}(d:xH w_=some r):
    A2F 152 [.u32 w_] w fun e w'=>∃ A n c,r.length=n/\e=.returned (SV.val (sl A n c))/\Cx F O w w' [A0H A n c r]:=by
 unfold xH at d;refine dZ _ func152 y<|C<|H .a<|C<|ak<|We 11 (.n 4 (.u8 (UInt8.ofNat w_.toNat)) (.n 7 (.u8 (UInt8.ofNat (qK w_ ((8:UInt64).toNat)).toNat)) (.n 10 (.u8 (UInt8.ofNat (qK w_ ((16:UInt64).toNat)).toNat)) (.n 13 (.u8 (UInt8.ofNat (qK w_ ((24:UInt64).toNat)).toNat)) .z))))<|K<|wY dM e8 14 ([UInt8.ofNat w_.toNat,UInt8.ofNat (qK w_ ((8:UInt64).toNat)).toNat,UInt8.ofNat (qK w_ ((16:UInt64).toNat)).toNat,UInt8.ofNat (qK w_ ((24:UInt64).toNat)).toNat]:AC) [(0,.u8 (UInt8.ofNat w_.toNat)),(1,.u8 (UInt8.ofNat (qK w_ ((8:UInt64).toNat)).toNat)),(2,.u8 (UInt8.ofNat (qK w_ ((16:UInt64).toNat)).toNat)),(3,.u8 (UInt8.ofNat (qK w_ ((24:UInt64).toNat)).toNat))] [.u8 (UInt8.ofNat w_.toNat),.u8 (UInt8.ofNat (qK w_ ((8:UInt64).toNat)).toNat),.u8 (UInt8.ofNat (qK w_ ((16:UInt64).toNat)).toNat),.u8 (UInt8.ofNat (qK w_ ((24:UInt64).toNat)).toNat)] k fun f kN b=>We 1 (.n 2 (sl f 4 4) .z)<|Wn<|aC ?_;cases d;refine aF [sl f 4 4] D ?_;exact⟨_,_,_,b.len 0 y,y,b⟩
theorem pV{b n kS xu pU}(k:Cx F O w w [A0H kS xu pU b]){r:AC}(d:lU b n=some r):
    A2F 127 [sl kS xu pU,I n] w fun e w'=>∃ A n1 c,r.length=n1/\e=.returned (SV.val (sl A n1 c))/\Cx F O w w' [A0H A n1 c r]:=by
 unfold lU at d;obtain rfl:=k.len 0 y;refine dZ _ func127 y<|C<|H .a<|C<|ak<|We 3 (.n 5 (M kS b pU) (.n 7 (.u32 (UInt32.ofInt n)) .z))<|K<|J d fun g s d=>aV 8 A1T (OL gI s) ?_;rintro e_ w_ ⟨t,_,q,rfl,rfl,o⟩;have f:=k.call o;refine E2<|K<|J d fun b1 m d=>?_;obtain⟨hz,p⟩:=eU m;refine dA (E:=e8) (v:=M t g q) (ys:=g) dM [] 9 0 Z f y (Src.sl (f.rd 1 y) (f.len 1 y) A2J) (f.len 1 y) (by have:=f.len 0 y;have:=(f.len 1 y);omega) fun l i kN j=>?_;rw[<- p] at j;have h:=j.bH (.k .z);refine We 1 (.n 4 (sl l (b.length+g.length) i) .z)<|Wn<|aC ?_;cases d;refine aF [sl l (b.length+g.length) i] D ?_;exact⟨_,_,_,h.len 0 y,y,h⟩
theorem Ld{k_}(k:Cx F O w w []){r:A0B}(b:tC k_=some r):
    A2E F O w 197 [I k_] (.og [I r.1,I r.2.1,I r.2.2]) []:=by
 unfold tC at b;refine dZ _ func197 y<|C<|H .a<|C<|C<|H (.n 5 (I k_) .z)<|aB<|C<|H (.n 6 (A2D (k_=1)) .a)<|bP b (fun d b=>?_) fun d b=>?_
 ·refine C<|H (.n 2 (I 64) (.n 3 (I 64) (.n 4 (I 16) .z)))<|aC (fE (aK ?_));cases b;refine aF [I 64,I 64,I 16] D ?_;exact⟨y,k⟩
 refine C<|H (.n 8 (A2D (k_=2)) .z)<|bP b (fun c b=>?_) fun c b=>?_
 ·refine C<|H (.n 2 (I 32) (.n 3 (I 32) (.n 4 (I 8) .z)))<|aC (fE (aK ?_));cases b;refine aF [I 32,I 32,I 8] D ?_;exact⟨y,k⟩
 refine ay<|cO<|au<|C<|H (.n 2 (I 0) (.n 3 (I 0) (.n 4 (I 0) .z)))<|aC ?_;cases b;refine aF [I 0,I 0,I 0] D ?_;exact⟨y,k⟩
theorem Zk{k_}(k:Cx F O w w []){r:A05}(b:IY k_=some r):
    A2E F O w 176 [I k_] (.og [I r.1,I r.2]) []:=by
 unfold IY at b;refine dZ _ func176 y<|C<|H .a<|C<|ak<|We 1 (.n 8 (I k_) .z)<|K<|J b fun c f b=>dJ 9 WG (Ld gI f) k fun w_ d=>We 7 (.n 4 (I c.1) .z)<|Wn<|C<|C<|H (.n 14 (A2D (c.1=0)) .a)<|bP b (fun e b=>?_) fun e b=>?_
 ·refine C<|H (.n 2 (I 0) (.n 3 (I 1) .z))<|aC (aK ?_);cases b;refine aF [I 0,I 1] D ?_;exact⟨y,d⟩
 refine ay<|au<|C<|H (.n 2 (I c.1) (.n 3 (I 0) .z))<|aC ?_;cases b;refine aF [I c.1,I 0] D ?_;exact⟨y,d⟩
theorem xX{n lo hi}(k:Cx F O w w []){r}(c:pg n lo hi=some r):
    A2E F O w 198 [I n,I lo,I hi] (.b r) []:=by
 unfold pg at c;refine dZ _ func198 y<|C<|H .a<|C<|H (.n 6 (.b ((decide (lo<=n))&&(decide (n<=hi)))) .z)<|aC ?_;cases c;refine aF [.b ((decide (lo<=n))&&(decide (n<=hi)))] D ?_;exact⟨y,k⟩
theorem Qh{k_ bf fA bg bF ed aU cZ aG bJ}{cu:AC}{aH:AC}{dK ji dL aY fD aZ}(pJ:Ro F w dK (e8.all cu))(oL:cu.length=ji)(oM:ji<=dL)(jD:Ro F w aY (e8.all aH))(jG:aH.length=fD)(jH:fD<=aZ)(k:Cx F O w w []){r}(c:tH k_ bf fA bg bF ed aU cZ aG bJ cu aH=some r):
    A2E F O w 177 [I k_,.agg [I bf,I fA,I bg,I bF,.u32 ed,.u64 aU,.u32 cZ,I aG,I bJ,sl dK ji dL,sl aY fD aZ]] (I r) []:=by
 unfold tH at c;subst oL;subst jG;refine dZ _ func177 y<|C<|ak<|K<|iV 3 [I bf,I fA,I bg,I bF,.u32 ed,.u64 aU,.u32 cZ,I aG,I bJ,M dK cu dL,M aY aH aZ] k fun g w_ dH=>We 1 (.kk .z)<|Wn<|C<|ak<|We 1 (.n 10 (I k_) .a)<|K<|J c fun d bT c=>dJ 11 WG (Ld gI bT) dH fun kN p=>We 7 (.n 6 (I d.2.1) (.n 7 (I d.2.2) (.ss .a)))<|Wn<|C<|C<|H (.n 16 (A2D (d.2.1=0)) .a)<|bP c (fun hc c=>?_) fun hc c=>?_
 ·refine C<|H (.n 4 (I 1) .z)<|aC (aK ?_);cases c;refine aF [I 1] D ?_;have fM:=p.bH .z;exact⟨y,fM⟩
 refine ay<|au<|C<|H (.n 8 (I 1) (.s .a))<|mZ (fun L h=>∃ least,t_ k_ bf fA bg bF aU cZ aG bJ cu aH d least=some r/\L=[(0,I k_),(3,pt g 0),(6,I d.2.1),(7,I d.2.2),(8,I least)]/\Cx F O w h [Bx 222 g [I bf,I fA,I bg,I bF,.u32 ed,.u64 aU,.u32 cZ,I aG,I bJ,M dK cu dL,M aY aH aZ]]) ?_ ?_
 ·
  refine C<|Wa (.n 19 (A2D (cZ≠0)) .a) (qs g 0<|fJ p 0 y 6 (.u32 cZ)<|D)<|bP c (fun N c=>?_) fun N c=>?_
  ·refine lM (.n 8 (I 0) (.ss .a)) ?_;exact fO ⟨_,c,y,p⟩
  refine ay ?_;exact fO ⟨_,c,y,p⟩
 rintro U mV ⟨least,c,rfl,T⟩;simp only[t_] at c;refine mZ (fun L h=>Bv  = some r/\L=[]/\Cx F O w h []) ?_ ?_
 ·
  refine aB<|C<|ak<|Wl 3 (.n 22 (I bf) (.n 23 (I d.2.1) .a)) (qs g 0<|fJ T 0 y 0 (I bf)<|D)<|K<|J c fun aI dw c=>dJ 24 LK (xX gI dw) T fun qG P=>We 2 (.n 20 (.b (!aI)) (.lI .a))<|Wn<|jl c (fun G c=>?_) fun G c=>?_
  ·refine C<|H (.n 4 (I 20) .z)<|aC (fE (aK ?_));cases c;refine aF [I 20] D ?_;have iF:=P.bH .z;exact⟨y,iF⟩
  refine C<|ak<|Wl 3 (.n 28 (I fA) (.n 29 (I d.2.1) (.s .a))) (qs g 0<|fJ P 0 y 1 (I fA)<|D)<|K<|J c fun bY gW c=>dJ 30 LK (xX gI gW) P fun uU Q=>We 2 (.n 26 (.b (!bY)) (.lI .a))<|Wn<|jl c (fun E c=>?_) fun E c=>?_
  ·refine C<|H (.n 4 (I 8) .z)<|aC (fE (aK ?_));cases c;refine aF [I 8] D ?_;have dP:=Q.bH .z;exact⟨y,dP⟩
  refine C<|ak<|Wl 2 (.n 34 (I bg) (.s .a)) (qs g 0<|fJ Q 0 y 2 (I bg)<|D)<|K<|J c fun fU jy c=>dJ 35 LK (xX gI jy) Q fun zK R=>We 2 (.n 32 (.b (!fU)) (.ss .a))<|Wn<|jl c (fun B c=>?_) fun B c=>?_
  ·refine C<|H (.n 4 (I 21) .z)<|aC (fE (aK ?_));cases c;refine aF [I 21] D ?_;have fZ:=R.bH .z;exact⟨y,fZ⟩
  refine C<|ak<|Wl 3 (.n 39 (I bF) (.n 40 (I least) (.s (.dF .z)))) (qs g 0<|fJ R 0 y 3 (I bF)<|D)<|K<|J c fun iH kE c=>dJ 41 LK (xX gI kE) R fun zX e=>We 2 (.n 37 (.b (!iH)) (.lI .a))<|Wn<|jl c (fun A c=>?_) fun A c=>?_
  ·refine C<|H (.n 4 (I 22) .z)<|aC (fE (aK ?_));cases c;refine aF [I 22] D ?_;have iW:=e.bH .z;exact⟨y,iW⟩
  refine mZ (fun L h=>∃ S,xB k_ cZ aG bJ cu aH d S=some r/\L=[(0,I k_),(3,pt g 0),(6,I d.2.1),(7,I d.2.2),(43,.b S)]/\Cx F O w h [Bx 222 g [I bf,I fA,I bg,I bF,.u32 ed,.u64 aU,.u32 cZ,I aG,I bJ,M dK cu dL,M aY aH aZ]]) ?_ ?_
  ·
   refine C<|Wa (.n 43 (.b ((decide (cZ≠0))&&(decide ((4294967296:UInt64)<=aU)))) (.s .a)) (qs g 0<|fJ e 0 y 6 (.u32 cZ)<|A2B ((decide (cZ≠0))=true) g<|qo (.u64 aU)<|qc (fun w=>(decide (cZ≠0))=true->∃ a,(some ⟨g,5,none⟩:EQ)=some a/\w.cell? a=some (SV.val (.u64 aU))) (fun j=>e.yc 0 y 5 (.u64 aU) Z)<|D)<|jl c (fun x c=>?_) fun x c=>?_
   ·refine ay ?_;exact fO ⟨_,c,y,e⟩
   refine W_q [] (.n 43 (.b (((decide (cZ=0))&&(decide (k_=2)))&&(decide ((281474976710656:UInt64)<=aU)))) (.s .a)) (qs g 0<|fJ e 0 y 6 (.u32 cZ)<|A2B (((decide (cZ=0))&&(decide (k_=2)))=true) g<|qo (.u64 aU)<|qc (fun w=>((decide (cZ=0))&&(decide (k_=2)))=true->∃ a,(some ⟨g,5,none⟩:EQ)=some a/\w.cell? a=some (SV.val (.u64 aU))) (fun j=>e.yc 0 y 5 (.u64 aU) Z)<|D) Z ?_;exact fO ⟨_,c,y,e⟩
  rintro U CB ⟨S,c,rfl,i⟩;simp only[xB] at c;refine jl c (fun v c=>?_) fun v c=>?_
  ·refine C<|H (.n 4 (I 23) .z)<|aC (fE (aK ?_));cases c;refine aF [I 23] D ?_;have jZ:=i.bH .z;exact⟨y,jZ⟩
  refine C<|Wa (.n 64 (.b ((decide (k_=2))&&(decide ((65535:UInt32) < cZ)))) (.s (.rQ .z))) (A2B ((decide (k_=2))=true) g<|qo (.u32 cZ)<|qc (fun w=>(decide (k_=2))=true->∃ a,(some ⟨g,6,none⟩:EQ)=some a/\w.cell? a=some (SV.val (.u32 cZ))) (fun j=>i.yc 0 y 6 (.u32 cZ) Z)<|D)<|jl c (fun u c=>?_) fun u c=>?_
  ·refine C<|H (.n 4 (I 24) .z)<|aC (fE (aK ?_));cases c;refine aF [I 24] D ?_;have jF:=i.bH .z;exact⟨y,jF⟩
  refine C<|ak<|Wl 2 (.n 74 (I aG) (.s .a)) (qs g 0<|fJ i 0 y 7 (I aG)<|D)<|K<|J c fun kz ry c=>dJ 75 LK (xX gI ry) i fun Je q=>We 2 (.n 72 (.b (!kz)) (.ss .a))<|Wn<|jl c (fun t c=>?_) fun t c=>?_
  ·refine C<|H (.n 4 (I 25) .z)<|aC (fE (aK ?_));cases c;refine aF [I 25] D ?_;have lT:=q.bH .z;exact⟨y,lT⟩
  refine C<|ak<|Wl 3 (.n 79 (I bJ) (.n 80 (I d.2.1) (.s (.k (.s .a))))) (qs g 0<|fJ q 0 y 8 (I bJ)<|D)<|K<|J c fun lC xR c=>dJ 81 LK (xX gI xR) q fun KZ f=>We 2 (.n 77 (.b (!lC)) (.lI .a))<|Wn<|jl c (fun o c=>?_) fun o c=>?_
  ·refine C<|H (.n 4 (I 26) .z)<|aC (fE (aK ?_));cases c;refine aF [I 26] D ?_;have rG:=f.bH .z;exact⟨y,rG⟩
  refine C<|Wa (.n 83 (A2D (d.2.2 < (cu.length:Int))) (.s .a)) (qs g 0<|fJ f 0 y 9 (M dK cu dL)<|D)<|bP c (fun m c=>?_) fun m c=>?_
  ·refine C<|H (.n 4 (I 27) .z)<|aC (fE (aK ?_));cases c;refine aF [I 27] D ?_;have vg:=f.bH .z;exact⟨y,vg⟩
  refine C<|Wa (.n 89 (A2D (d.2.2 < (aH.length:Int))) .z) (qs g 0<|fJ f 0 y 10 (M aY aH aZ)<|D)<|bP c (fun l c=>?_) fun l c=>?_
  ·refine C<|H (.n 4 (I 28) .z)<|aC (fE (aK ?_));cases c;refine aF [I 28] D ?_;have rW:=f.bH .z;exact⟨y,rW⟩
  refine ay<|cO ?_;have V:=f.bH .z;exact fO ⟨c,y,V⟩
 rintro U y9 ⟨c,rfl,X⟩;simp only[Bv] at c;refine C<|H (.n 4 (I 0) .a)<|aC ?_;cases c;refine aF [I 0] D ?_;exact⟨y,X⟩
theorem Zl{k_}(k:Cx F O w w []){r:A07}(d:yx k_=some r):
    A2F 226 [I k_] w fun e w'=>∃ A n c,r.length=n/\e=.returned (SV.val (sl A n c))/\Cx F O w w' [Ow A0G A n c r]:=by
 unfold yx at d;refine dZ _ func226 y<|C<|H .a<|C<|ak<|We 9 (.n 5 (.agg [I 1,I 0,I 1,.s ([100,105,103,101,115,116]:AC),I 20]) (.n 6 (.agg [I 2,I 1,I 1,.s ([107,101,121]:AC),I 8]) (.n 7 (.agg [I 3,I 2,I 1,.s ([102,97,110,111,117,116]:AC),I 21]) (.n 8 (.agg [I 4,I 3,I 1,.s ([100,101,112,116,104]:AC),I 22]) (.n 9 (.agg [I 5,I 4,I 4,.s ([108,101,97,102]:AC),I 1]) (.n 10 (.agg [I 6,I 8,I 8,.s ([111,102,102,115,101,116]:AC),I 23]) (.n 11 (.agg [I 7,I 12,I 4,.s ([120,111,102]:AC),I 24]) (.n 12 (.agg [I 8,I 16,I 1,.s ([110,111,100,101]:AC),I 25]) (.n 13 (.agg [I 9,I 17,I 1,.s ([105,110,110,101,114]:AC),I 26]) .a))))))))) ?_
 refine K<|wY pp_tf317 A0G 14 ([((1:Int),(0:Int),(1:Int),([100,105,103,101,115,116]:AC),(20:Int)),((2:Int),(1:Int),(1:Int),([107,101,121]:AC),(8:Int)),((3:Int),(2:Int),(1:Int),([102,97,110,111,117,116]:AC),(21:Int)),((4:Int),(3:Int),(1:Int),([100,101,112,116,104]:AC),(22:Int)),((5:Int),(4:Int),(4:Int),([108,101,97,102]:AC),(1:Int)),((6:Int),(8:Int),(8:Int),([111,102,102,115,101,116]:AC),(23:Int)),((7:Int),(12:Int),(4:Int),([120,111,102]:AC),(24:Int)),((8:Int),(16:Int),(1:Int),([110,111,100,101]:AC),(25:Int)),((9:Int),(17:Int),(1:Int),([105,110,110,101,114]:AC),(26:Int))]:A07) [(0,.agg [I 1,I 0,I 1,.s ([100,105,103,101,115,116]:AC),I 20]),(1,.agg [I 2,I 1,I 1,.s ([107,101,121]:AC),I 8]),(2,.agg [I 3,I 2,I 1,.s ([102,97,110,111,117,116]:AC),I 21]),(3,.agg [I 4,I 3,I 1,.s ([100,101,112,116,104]:AC),I 22]),(4,.agg [I 5,I 4,I 4,.s ([108,101,97,102]:AC),I 1]),(5,.agg [I 6,I 8,I 8,.s ([111,102,102,115,101,116]:AC),I 23]),(6,.agg [I 7,I 12,I 4,.s ([120,111,102]:AC),I 24]),(7,.agg [I 8,I 16,I 1,.s ([110,111,100,101]:AC),I 25]),(8,.agg [I 9,I 17,I 1,.s ([105,110,110,101,114]:AC),I 26])] [I 1,I 0,I 1,.s ([100,105,103,101,115,116]:AC),I 20,I 2,I 1,I 1,.s ([107,101,121]:AC),I 8,I 3,I 2,I 1,.s ([102,97,110,111,117,116]:AC),I 21,I 4,I 3,I 1,.s ([100,101,112,116,104]:AC),I 22,I 5,I 4,I 4,.s ([108,101,97,102]:AC),I 1,I 6,I 8,I 8,.s ([111,102,102,115,101,116]:AC),I 23,I 7,I 12,I 4,.s ([120,111,102]:AC),I 24,I 8,I 16,I 1,.s ([110,111,100,101]:AC),I 25,I 9,I 17,I 1,.s ([105,110,110,101,114]:AC),I 26] k fun b w_ g=>We 1 (.n 3 (sl b 9 9) (.fV (.fV (.ss .a))))<|Wn<|C<|C<|H (.n 16 (A2D (k_=1)) (.k .z))<|bP d (fun G d=>?_) fun G d=>?_
 ·refine C<|H (.n 2 (sl b 9 9) .z)<|aC (aK ?_);cases d;refine aF [sl b 9 9] D ?_;exact⟨_,_,_,g.len 0 y,y,g⟩
 refine ay<|au<|C<|H (.n 4 (sl b 9 9) .z)<|C<|ak<|J d fun u h d=>Wl 4 (.n 20 (sl b 9 9) (.n 22 (.v (.pointer (fa (jA b (5:Int) 5) 2))) .a)) (qJ (g.rd 0 y) h (g.len 0 y)<|qS (A:=jA b (5:Int) 5) (ja _ _ (oh (E:=A0G) (g.rd 0 y) A2H (fF h).1 (aS h).2))<|D)<|K<|vw (E:=A0G) (kk:=2) (sv:=I 6) (svs:=[I 6]) [] 0 (u.1,u.2.1,(6:Int),u.2.2.2.1,u.2.2.2.2) Z (Pt.fa2 (Pt.vH b (5:Int) 5) 2) g y (aS h).2 (oh (E:=A0G) (g.rd 0 y) A2H (fF h).1 (aS h).2) y (A2h Z) fun kN o=>J d fun f j d=>Wl 2 (.n 24 (.v (.pointer (fa (jA b (6:Int) 5) 2))) (.ss .a)) (qJ (o.rd 0 y) j (o.len 0 y)<|qS (A:=jA b (6:Int) 5) (ja _ _ (oh (E:=A0G) (o.rd 0 y) A2H (fF j).1 (aS j).2))<|D)<|K<|vw (E:=A0G) (kk:=2) (sv:=I 2) (svs:=[I 2]) [] 0 (f.1,f.2.1,(2:Int),f.2.2.2.1,f.2.2.2.2) Z (Pt.fa2 (Pt.vH b (6:Int) 5) 2) o y (aS j).2 (oh (E:=A0G) (o.rd 0 y) A2H (fF j).1 (aS j).2) y (A2h Z) fun mV m=>Wn<|C<|ak<|J d fun q i d=>Wl 4 (.n 26 (sl b 9 9) (.n 28 (.v (.pointer (fa (jA b (7:Int) 5) 1))) (.s .a))) (qJ (m.rd 0 y) i (m.len 0 y)<|qS (A:=jA b (7:Int) 5) (ja _ _ (oh (E:=A0G) (m.rd 0 y) A2H (fF i).1 (aS i).2))<|D)<|K<|vw (E:=A0G) (kk:=1) (sv:=I 14) (svs:=[I 14]) [] 0 (q.1,(14:Int),q.2.2.1,q.2.2.2.1,q.2.2.2.2) Z (Pt.fa2 (Pt.vH b (7:Int) 5) 1) m y (aS i).2 (oh (E:=A0G) (m.rd 0 y) A2H (fF i).1 (aS i).2) y (A2h Z) fun qG t=>J d fun p l d=>?_
 refine Wl 2 (.n 30 (.v (.pointer (fa (jA b (8:Int) 5) 1))) (.ss .a)) (qJ (t.rd 0 y) l (t.len 0 y)<|qS (A:=jA b (8:Int) 5) (ja _ _ (oh (E:=A0G) (t.rd 0 y) A2H (fF l).1 (aS l).2))<|D)<|K ?_;have x:=t.bH (.k .e);refine vw (E:=A0G) (kk:=1) (sv:=I 15) (svs:=[I 15]) [] 0 (p.1,(15:Int),p.2.2.1,p.2.2.2.1,p.2.2.2.2) Z (Pt.fa2 (Pt.vH b (8:Int) 5) 1) x y (aS l).2 (oh (E:=A0G) (x.rd 0 y) A2H (fF l).1 (aS l).2) y (A2h Z) fun uU B=>Wn<|C<|H (.n 2 (sl b 9 9) .z)<|aC ?_;cases d;refine aF [sl b 9 9] D ?_;exact⟨_,_,_,B.len 0 y,y,B⟩
theorem XY{bf fA bg bF ed aU cZ aG bJ}{cu:AC}{aH:AC}{field dK ji dL aY fD aZ}(pJ:Ro F w dK (e8.all cu))(oL:cu.length=ji)(oM:ji<=dL)(jD:Ro F w aY (e8.all aH))(jG:aH.length=fD)(jH:fD<=aZ)(k:Cx F O w w []){r}(b:Gy bf fA bg bF ed aU cZ aG bJ cu aH field=some r):
    A2E F O w 228 [.agg [I bf,I fA,I bg,I bF,.u32 ed,.u64 aU,.u32 cZ,I aG,I bJ,sl dK ji dL,sl aY fD aZ],I field] (.u64 r) []:=by
 unfold Gy at b;subst oL;subst jG;refine dZ _ func228 y<|C<|ak<|K<|iV 2 [I bf,I fA,I bg,I bF,.u32 ed,.u64 aU,.u32 cZ,I aG,I bJ,M dK cu dL,M aY aH aZ] k fun g w_ c=>We 1 (.k (.s .a))<|Wn<|C<|C<|H (.n 5 (I field) (.k .z))<|aB<|C<|H (.n 6 (A2D (field=1)) .a)<|bP b (fun p b=>?_) fun p b=>?_
 ·refine C<|Wa (.n 4 (.u64 (UInt64.ofInt bf)) .z) (qs g 0<|fJ c 0 y 0 (I bf)<|D)<|aC (fE (aK ?_));cases b;refine aF [.u64 (UInt64.ofInt bf)] D ?_;have x:=c.bH .z;exact⟨y,x⟩
 refine C<|H (.n 11 (A2D (field=2)) (.s .a))<|bP b (fun l b=>?_) fun l b=>?_
 ·refine C<|Wa (.n 4 (.u64 (UInt64.ofInt fA)) .z) (qs g 0<|fJ c 0 y 1 (I fA)<|D)<|aC (fE (aK ?_));cases b;refine aF [.u64 (UInt64.ofInt fA)] D ?_;have B:=c.bH .z;exact⟨y,B⟩
 refine C<|H (.n 16 (A2D (field=3)) (.s .a))<|bP b (fun j b=>?_) fun j b=>?_
 ·refine C<|Wa (.n 4 (.u64 (UInt64.ofInt bg)) .z) (qs g 0<|fJ c 0 y 2 (I bg)<|D)<|aC (fE (aK ?_));cases b;refine aF [.u64 (UInt64.ofInt bg)] D ?_;have A:=c.bH .z;exact⟨y,A⟩
 refine C<|H (.n 21 (A2D (field=4)) (.s .a))<|bP b (fun i b=>?_) fun i b=>?_
 ·refine C<|Wa (.n 4 (.u64 (UInt64.ofInt bF)) .z) (qs g 0<|fJ c 0 y 3 (I bF)<|D)<|aC (fE (aK ?_));cases b;refine aF [.u64 (UInt64.ofInt bF)] D ?_;have v:=c.bH .z;exact⟨y,v⟩
 refine C<|H (.n 26 (A2D (field=5)) (.s .a))<|bP b (fun h b=>?_) fun h b=>?_
 ·refine C<|Wa (.n 4 (.u64 (UInt64.ofNat ed.toNat)) .z) (qs g 0<|fJ c 0 y 4 (.u32 ed)<|D)<|aC (fE (aK ?_));cases b;refine aF [.u64 (UInt64.ofNat ed.toNat)] D ?_;have q:=c.bH .z;exact⟨y,q⟩
 refine C<|H (.n 31 (A2D (field=6)) (.s .a))<|bP b (fun f b=>?_) fun f b=>?_
 ·refine C<|Wa (.n 4 (.u64 aU) .z) (qs g 0<|fJ c 0 y 5 (.u64 aU)<|D)<|aC (fE (aK ?_));cases b;refine aF [.u64 aU] D ?_;have t:=c.bH .z;exact⟨y,t⟩
 refine C<|H (.n 35 (A2D (field=7)) (.s .a))<|bP b (fun e b=>?_) fun e b=>?_
 ·refine C<|Wa (.n 4 (.u64 (UInt64.ofNat cZ.toNat)) .z) (qs g 0<|fJ c 0 y 6 (.u32 cZ)<|D)<|aC (fE (aK ?_));cases b;refine aF [.u64 (UInt64.ofNat cZ.toNat)] D ?_;have u:=c.bH .z;exact⟨y,u⟩
 refine C<|H (.n 40 (A2D (field=8)) (.ss .a))<|bP b (fun d b=>?_) fun d b=>?_
 ·refine C<|Wa (.n 4 (.u64 (UInt64.ofInt aG)) .z) (qs g 0<|fJ c 0 y 7 (I aG)<|D)<|aC (fE (aK ?_));cases b;refine aF [.u64 (UInt64.ofInt aG)] D ?_;have o:=c.bH .z;exact⟨y,o⟩
 refine ay<|cO<|au<|C<|Wa (.n 4 (.u64 (UInt64.ofInt bJ)) .z) (qs g 0<|fJ c 0 y 8 (I bJ)<|D)<|aC ?_;cases b;refine aF [.u64 (UInt64.ofInt bJ)] D ?_;have m:=c.bH .z;exact⟨y,m⟩
theorem c_param_put{b at_ size v kS xu pU G_b}(FU:xu<=pU)(k:Cx F O w w [Mw e8 kS xu b G_b]){r}(c:Ha b at_ size v=some r):
    A2E F O w 227 [sl kS xu pU,I at_,I size,.u64 v] (.og []) [Mw e8 kS xu r G_b]:=by
 unfold Ha at c;obtain rfl:=k.mlen 0 y;refine dZ _ func227 y<|C<|H (.n 9 (I size) (.n 10 (I 0) (.kk (.s .a))))<|aB<|jh c (fun s L i=>∃ h d,(h,d)=s/\L=[(0,M kS b pU),(1,I at_),(3,.u64 v),(9,I size),(10,I d)]/\Cx F O w i [Mw e8 kS b.length h G_b]) ⟨_,_,y,y,k⟩ ?_;rintro uK L_ w_ y0 ⟨h,d,rfl,rfl,e⟩ c g;simp only[Ez] at c;refine C<|H (.n 11 (A2D (d < size)) .a)<|C<|bP c (fun j c=>?_) fun j c=>?_
 ·refine ay<|au<|C<|aB<|C<|H (.n 8 (I d) (.s .a))<|ak<|J c fun u m c=>J c fun x_1 f c=>Wl 10 (.n 21 (.u8 (UInt8.ofNat (jC v (Int.toNat (ax (8*d)))).toNat)) (.n 22 (.v (.pointer (jA kS (ax (at_+d)) 1))) (.s .a))) (qp (0<=ax (8*d)) (bI m)<|qJ (e.mrd 0 y) f (e.mlen 0 y)<|D)<|K<|Op_mst (E:=e8) (kk:=0) (sv:=.u8 (UInt8.ofNat (jC v (Int.toNat (ax (8*d)))).toNat)) (svs:=[.u8 (UInt8.ofNat (jC v (Int.toNat (ax (8*d)))).toNat)]) [] 0 (UInt8.ofNat (jC v (Int.toNat (ax (8*d)))).toNat) Z (Pt.vH kS (ax (at_+d)) 1) e y (aS f).2 (oh (E:=e8) (e.mrd 0 y) A2H (fF f).1 (aS f).2) y (A2h Z) fun kN l=>di<|cO<|au<|lM (.n 10 (I (ax (d+1))) (.ss (.dF .z))) ?_;exact fQ c ⟨_,_,y,y,l⟩
 refine bU (aW (aW (eG ?_)));have c:=bC c g;cases c;refine FX [] D Z ?_;exact⟨y,e⟩
theorem WU{k_ bf fA bg bF ed aU cZ aG bJ}{cu:AC}{aH:AC}{dK ji dL aY fD aZ}(pJ:Ro F w dK (e8.all cu))(oL:cu.length=ji)(oM:ji<=dL)(jD:Ro F w aY (e8.all aH))(jG:aH.length=fD)(jH:fD<=aZ)(k:Cx F O w w []){r:UV}(f:uw k_ bf fA bg bF ed aU cZ aG bJ cu aH=some r):
    A2F 209 [I k_,.agg [I bf,I fA,I bg,I bF,.u32 ed,.u64 aU,.u32 cZ,I aG,I bJ,sl dK ji dL,sl aY fD aZ]] w fun e w'=>∃ A n c,r.1.length=n/\e=.returned (SV.val (.og [sl A n c,I r.2]))/\Cx F O w w' [A0H A n c r.1]:=by
 unfold uw at f;subst oL;subst jG;refine dZ _ func209 y<|C<|ak<|K<|iV 3 [I bf,I fA,I bg,I bF,.u32 ed,.u64 aU,.u32 cZ,I aG,I bJ,M dK cu dL,M aY aH aZ] k fun g w_ dH=>We 2 (.kk .z)<|Wn<|C<|C<|ak<|Wl 2 (.n 13 (I k_) (.n 14 (.agg [I bf,I fA,I bg,I bF,.u32 ed,.u64 aU,.u32 cZ,I aG,I bJ,M dK cu dL,M aY aH aZ]) .a)) (mY dH 0 y 0 11 [I bf,I fA,I bg,I bF,.u32 ed,.u64 aU,.u32 cZ,I aG,I bJ,M dK cu dL,M aY aH aZ]<|D)<|K<|J f fun U bT f=>dJ 15 A1Y (Qh (Ro.n0 (pJ.cx dH)) y oM (Ro.n0 (jD.cx dH)) y jH gI bT) dH fun kN dB=>We 1 (.n 6 (I U) (.lI .a))<|Wn<|C<|H (.n 17 (A2D (U≠0)) .a)<|bP f (fun hc f=>?_) fun hc f=>?_
 ·refine C<|H (.n 4 (sl none 0 0) (.n 5 (I U) .z))<|aC (aK ?_);have fM:=dB.nil e8;cases f;refine aF [sl none 0 0,I U] D ?_;have gp:=fM.bH (.s (.k .e));exact⟨_,0,0,gp.len 0 y,y,gp⟩
 refine ay<|au<|C<|ak<|We 1 (.n 20 (I k_) (.ss .a))<|K<|J f fun d dw f=>dJ 21 WG (Ld gI dw) dB fun mV gJ=>We 7 (.n 7 (I d.1) (.n 9 (I d.2.2) (.ss .a)))<|Wn<|C<|ak<|We 1 (.n 25 (I d.1) .a)<|K<|J f fun u Ac f=>xe dM e8 (0:UInt8) y [] 26 (I d.1) (I d.1) d.1 d.1 Z (bI Ac).1 (bI Ac).2.1 (bI Ac).2.2 gJ fun j qG iF=>We 1 (.n 10 (sl j (Int.toNat d.1) (Int.toNat d.1)) (.ss .a))<|Wn<|C<|C<|ak<|We 1 (.n 27 (I k_) (.dF .z))<|K ?_;have jk:=iF.bH (.kk .e);refine J f fun o gW f=>aV 28 (A0n func226) (Zl gI gW) ?_;rintro e_ uU ⟨q,_,P,rfl,rfl,df⟩;have dP:=jk.call df;refine E2<|We 2 (.n 29 (I (o.length:Int)) (.n 30 (I 0) (.k (.s .a))))<|Wn<|aB<|jh f (fun s L R=>∃ b p,(b,p)=s/\L=[(3,pt g 0),(7,I d.1),(9,I d.2.2),(10,sl j (Int.toNat d.1) (Int.toNat d.1)),(28,M q o P),(29,I (o.length:Int)),(30,I p)]/\Cx F O w R [Bx 222 g [I bf,I fA,I bg,I bF,.u32 ed,.u64 aU,.u32 cZ,I aG,I bJ,M dK cu dL,M aY aH aZ],A0H j (Int.toNat d.1) (Int.toNat d.1) b,Ow A0G q o.length P o]) ⟨_,_,y,y,dP⟩ ?_;rintro uK L_ zK y0 ⟨b,p,rfl,rfl,S⟩ f hr0;simp only[vZ] at f;refine C<|H (.n 31 (A2D (p < (o.length:Int))) .a)<|C<|bP f (fun hc1 f=>?_) fun hc1 f=>?_
 ·refine ay<|au<|mZ (fun L R=>∃ b1,zT p b1=some y0/\L=[(3,pt g 0),(7,I d.1),(9,I d.2.2),(10,sl j (Int.toNat d.1) (Int.toNat d.1)),(28,M q o P),(29,I (o.length:Int)),(30,I p)]/\Cx F O w R [Bx 222 g [I bf,I fA,I bg,I bF,.u32 ed,.u64 aU,.u32 cZ,I aG,I bJ,M dK cu dL,M aY aH aZ],A0H j (Int.toNat d.1) (Int.toNat d.1) b1,Ow A0G q o.length P o]) ?_ ?_
  ·
   refine TI (fun L R=>∃ b2,vY p b2=some y0/\L=[(3,pt g 0),(7,I d.1),(9,I d.2.2),(10,sl j (Int.toNat d.1) (Int.toNat d.1)),(28,M q o P),(29,I (o.length:Int)),(30,I p)]/\Cx F O w R [Bx 222 g [I bf,I fA,I bg,I bF,.u32 ed,.u64 aU,.u32 cZ,I aG,I bJ,M dK cu dL,M aY aH aZ],A0H j (Int.toNat d.1) (Int.toNat d.1) b2,Ow A0G q o.length P o]) ?_ ?_
   ·
    refine C<|ak<|J f fun h GX f=>Wl 2 (.n 33 (.agg [I h.1,I h.2.1,I h.2.2.1,.s h.2.2.2.1,I h.2.2.2.2]) (.s .a)) (qJ (S.rd 2 y) GX (S.len 2 y)<|qR [I h.1,I h.2.1,I h.2.2.1,.s h.2.2.2.1,I h.2.2.2.2] (Rd.els (k:=0) (m:=5) (S.rd 2 y) GX (Pt.vH q p 5) y A2H A2H)<|D)<|K<|gZ 12 [I 0,I 0,I 0,.s ([]:AC),I 0] S fun N zX dW=>K<|gz 3 (.agg [I h.1,I h.2.1,I h.2.2.1,.s h.2.2.2.1,I h.2.2.2.2]) [I h.1,I h.2.1,I h.2.2.1,.s h.2.2.2.1,I h.2.2.2.2] (Pt.at N 0) dW y .all fun CB X=>Wn<|C<|C<|Wa (.n 41 (.b ((decide (h.1=7))&&(decide (cZ=0)))) (.k (.s .a))) (qs N 0<|fJ X 3 y 0 (I h.1)<|A2B ((decide (h.1=7))=true) g<|qo (.u32 cZ)<|qc (fun w=>(decide (h.1=7))=true->∃ a,(some ⟨g,6,none⟩:EQ)=some a/\w.cell? a=some (SV.val (.u32 cZ))) (fun hg0=>X.yc 0 y 6 (.u32 cZ) Z)<|D)<|jl f (fun hc2 f=>?_) fun hc2 f=>?_
    ·refine bU (aW (eG ?_));have iE:=X.bH (.kk (.k .z));exact fO ⟨_,f,y,iE⟩
    refine ay<|au ?_;have V:=X.drew 1;refine lg bD (tq [5,0,0,1,1,1,2,1,3,1,4,1,6,1,7,0] (.op 8 (.op 9 .nil))) [8,9] V (.c (.dF .e) (.c (.k (.s (.kk .e))) .l)) fun _=>dQ 1 0 (.n 47 (.agg [I bf,I fA,I bg,I bF,.u32 ed,.u64 aU,.u32 cZ,I aG,I bJ,M dK cu dL,M aY aH aZ]) (.s .a)) (fun x hx=>mY hx 0 y 0 11 [I bf,I fA,I bg,I bF,.u32 ed,.u64 aU,.u32 cZ,I aG,I bJ,M dK cu dL,M aY aH aZ]<|D) fun _=>dQ 6 1 (.n 42 (sl j (Int.toNat d.1) (Int.toNat d.1)) (.n 44 (I h.2.1) (.n 46 (I h.2.2.1) (.n 48 (pt N 0) (.k (.s .a)))))) (fun x hx=>qs N 0<|fJ hx 3 y 1 (I h.2.1)<|qs N 0<|fJ hx 3 y 2 (I h.2.2.1)<|qs N 0<|D) fun _=>dQ 1 0 (.n 49 (I h.1) (.rQ (.s .a))) (fun x hx=>fJ hx 3 y 0 (I h.1)<|D) fun _=>dD y<|J f fun fU jy f=>aV 50 (A0n func228) (XY (Ro.n0 (pJ.cx V)) y oM (Ro.n0 (jD.cx V)) y jH gI jy) ?_;rintro e_ Je ⟨rfl,iW⟩;have jM:=V.call iW;refine E2<|⟨jM,fun _=>?_⟩
    refine dD y ?_;obtain⟨G,hG,jZ⟩:=jM.openM 1 y;refine J f fun iH kE f=>?_;obtain⟨F1,O1,kin,hO,hre,hF,hb⟩:=jZ.go (.r (.i (.r (.r .e))));refine aV 51 (A0n func227) (c_param_put (jM.yH 1 y) kin kE) ?_;rintro e_ KZ ⟨rfl,jF⟩;have ku:=hb KZ _ _ jF (.c .n);refine⟨_,y,?_⟩;have lu:=ku.shutM hG 0 y;refine⟨(lu.bH (.s (.kk (.k .e)))),fun _=>?_⟩;refine eY<|cO ?_;have lT:=lu.P2.P1.P2.bH (.kk (.k .z));exact fO ⟨_,f,y,lT⟩
   rintro L_ y9 ⟨b2,f,rfl,kR⟩;simp only[vY] at f;exact fO ⟨_,f,y,kR⟩
  rintro L_ C_ ⟨b1,f,rfl,n_⟩;simp only[zT] at f;refine lM (.n 30 (I (ax (p+1))) (.dF (.kk .z))) ?_;exact fQ f ⟨_,_,y,y,n_⟩
 refine A2C f hr0 fun f=>C ?_;have B:=S.drew 1;refine lg bD (tq [0,0,6,0,7,0,1,1,2,1,3,1,4,0,5,0] (.op 8 .nil)) [8] B (.c (.k (.s (.k .e))) .l) fun _=>dQ 3 0 (.n 53 (sl j (Int.toNat d.1) (Int.toNat d.1)) (.n 60 (M dK cu dL) (.s (.dF .z)))) (fun x hx=>qs g 0<|fJ hx 0 y 9 (M dK cu dL)<|D) fun _=>dQ 3 1 (.n 54 (I d.1) (.n 56 (I (ax (2*d.2.2))) .a)) (fun x hx=>D) fun _=>J f fun Q Fq f=>?_;have hs:=jg Fq;have hl:=rJ Fq;have hn:b.length=Int.toNat d.1:=(B.len 1 y)
 have hc3:Int.toNat d.1<=Int.toNat d.1:=(B.yH 1 y)
 obtain⟨A2,c1,e_,hc4,hA,hc5⟩:=slx j (Int.toNat (ax (d.1 - (ax (2*d.2.2))))) (Int.toNat d.1) 1 (Int.toNat d.1 - Int.toNat (ax (d.1 - (ax (2*d.2.2))))) Q.length Y Y;refine dQ 2 0 (.n 58 (M A2 Q c1) (.lI .a)) (fun x hx=>qp (0<=ax (d.1 - (ax (2*d.2.2)))/\ax (d.1 - (ax (2*d.2.2)))<=((Int.toNat d.1:Nat):Int)) Y<|qo (.v (.slice A2 Q.length c1))<|qp (Value.slice (Iu j (Int.toNat (ax (d.1 - (ax (2*d.2.2))))) (Int.toNat d.1) 1) (Int.toNat d.1 - Int.toNat (ax (d.1 - (ax (2*d.2.2))))) (Int.toNat d.1 - Int.toNat (ax (d.1 - (ax (2*d.2.2)))))=.slice A2 Q.length c1) e_<|D) fun _=>dD y<|Op_ocp (E:=e8) (dn:=Q.length) (dc:=c1) (v:=M dK cu dL) (src:=cu) (lo:=Int.toNat (ax (d.1 - (ax (2*d.2.2))))) (m':=Int.toNat d.1) dM [] 61 1 Z hA y Y B y (Src.sl (pJ.cx B) y A2J) y (by have:=B.len 1 y;omega) fun Gt vg=>?_;refine⟨(vg.bH (.k (.s (.k .e)))),fun _=>?_⟩;refine eY<|au<|C ?_;have t:=vg.drew 1;refine lg bD (tq [0,0,5,0,6,0,1,1,2,1,3,0,4,0] (.op 7 .nil)) [7] t (.c (.k (.s (.k .e))) .l) fun _=>dQ 3 0 (.n 62 (sl j (Int.toNat d.1) (Int.toNat d.1)) (.n 68 (M aY aH aZ) (.fV .a))) (fun x hx=>qs g 0<|fJ hx 0 y 10 (M aY aH aZ)<|D) fun _=>dQ 2 1 (.n 63 (I d.1) (.n 64 (I d.2.2) (.kk (.ss .a)))) (fun x hx=>D) fun _=>J f fun T P7 f=>?_;have hs1:=jg P7
 have hl1:=rJ P7;have hn1:(lcp b (Int.toNat (ax (d.1 - (ax (2*d.2.2))))) Q.length cu).length=Int.toNat d.1:=(t.len 1 y)
 have hc6:Int.toNat d.1<=Int.toNat d.1:=(t.yH 1 y)
 obtain⟨A3,c2,e_1,hc7,hA1,hc8⟩:=slx j (Int.toNat (ax (d.1 - d.2.2))) (Int.toNat d.1) 1 (Int.toNat d.1 - Int.toNat (ax (d.1 - d.2.2))) T.length Y Y;refine dQ 2 0 (.n 66 (M A3 T c2) (.lI .a)) (fun x hx=>qp (0<=ax (d.1 - d.2.2)/\ax (d.1 - d.2.2)<=((Int.toNat d.1:Nat):Int)) Y<|qo (.v (.slice A3 T.length c2))<|qp (Value.slice (Iu j (Int.toNat (ax (d.1 - d.2.2))) (Int.toNat d.1) 1) (Int.toNat d.1 - Int.toNat (ax (d.1 - d.2.2))) (Int.toNat d.1 - Int.toNat (ax (d.1 - d.2.2)))=.slice A3 T.length c2) e_1<|D) fun _=>dD y<|Op_ocp (E:=e8) (dn:=T.length) (dc:=c2) (v:=M aY aH aZ) (src:=aH) (lo:=Int.toNat (ax (d.1 - d.2.2))) (m':=Int.toNat d.1) dM [] 69 1 Z hA1 y Y t y (Src.sl (jD.cx t) y A2J) y (by have:=t.len 1 y;omega) fun Jf zf=>?_;refine⟨(zf.bH (.k (.s (.k .e)))),fun _=>?_⟩;refine eY<|au<|C<|H (.n 4 (sl j (Int.toNat d.1) (Int.toNat d.1)) (.n 5 (I 0) .z))<|aC ?_;cases f;refine aF [sl j (Int.toNat d.1) (Int.toNat d.1),I 0] D ?_;have xU:=zf.bH (.s (.k .z));exact⟨_,_,_,xU.len 0 y,y,xU⟩
theorem Yn(k:Cx F O w w []){r}(b:Lu=some r):
    A2E F O w 252 [] (.agg [.ar e64 r]) []:=by
 unfold Lu at b;refine dZ _ func252 y<|C<|ak<|K<|gZ 0 [.ar e64 (Vec.rep 8 0)] k fun g w_ d=>Wn<|C<|ak<|We 1 (.n 1 (.agg [.ar e64 (⟨[7640891576956012808,13503953896175478587,4354685564936845355,11912009170470909681,5840696475078001361,11170449401992604703,2270897969802886507,6620516959819538809],y⟩:Vec UInt64 8)]) .a)<|K<|gz 0 (.agg [.ar e64 (⟨[7640891576956012808,13503953896175478587,4354685564936845355,11912009170470909681,5840696475078001361,11170449401992604703,2270897969802886507,6620516959819538809],y⟩:Vec UInt64 8)]) [.ar e64 (⟨[7640891576956012808,13503953896175478587,4354685564936845355,11912009170470909681,5840696475078001361,11170449401992604703,2270897969802886507,6620516959819538809],y⟩:Vec UInt64 8)] (Pt.at g 0) d y .all fun kN c=>Wn<|aC ?_;obtain rfl:=si b
 refine aF [.agg [.ar e64 (⟨[7640891576956012808,13503953896175478587,4354685564936845355,11912009170470909681,5840696475078001361,11170449401992604703,2270897969802886507,6620516959819538809],y⟩:Vec UInt64 8)]] (qo (.agg [.ar e64 (⟨[7640891576956012808,13503953896175478587,4354685564936845355,11912009170470909681,5840696475078001361,11170449401992604703,2270897969802886507,6620516959819538809],y⟩:Vec UInt64 8)])<|qc (fun w=>Rd w (some ⟨g,0,none⟩) (SV.cl [.ar e64 (⟨[7640891576956012808,13503953896175478587,4354685564936845355,11912009170470909681,5840696475078001361,11170449401992604703,2270897969802886507,6620516959819538809],y⟩:Vec UInt64 8)])) (c.F7 0 y)<|D) ?_;have e:=c.bH .z;exact⟨y,e⟩
theorem c_word_load{b:AC}{at_ n kS xu pU}(wQ:Ro F w kS (e8.all b))(AU:b.length=xu)(FU:xu<=pU)(k:Cx F O w w []){r:(UInt64×Int)}(c:D6 b at_ n=some r):
    A2E F O w 181 [sl kS xu pU,I at_,I n] (.og [.u64 r.1,I r.2]) []:=by
 unfold D6 at c;subst AU;refine dZ _ func181 y<|C<|H .a<|C<|C<|H (.n 11 (A2D (at_ < 0)) .a)<|bP c (fun m c=>?_) fun m c=>?_
 ·refine C<|H (.n 6 (.u64 0) (.n 7 (I 1) .z))<|aC (aK ?_);cases c;refine aF [.u64 0,I 1] D ?_;exact⟨y,k⟩
 refine ay<|au<|C<|C<|H (.n 23 (.b ((decide ((b.length:Int) < at_))||(decide ((ax ((b.length:Int) - at_)) < n)))) (.s .a))<|jl c (fun i c=>?_) fun i c=>?_
 ·refine C<|H (.n 6 (.u64 0) (.n 7 (I 3) .z))<|aC (aK ?_);cases c;refine aF [.u64 0,I 3] D ?_;exact⟨y,k⟩
 refine ay<|au<|C<|H (.n 8 (.u64 0) (.s .a))<|C<|C<|H (.n 24 (I n) (.n 25 (I 0) (.rQ .z)))<|aB<|jh c (fun s L l=>∃ e d,(e,d)=s/\L=[(0,M kS b pU),(1,I at_),(8,.u64 e),(24,I n),(25,I d)]/\Cx F O w l []) ⟨_,_,y,y,k⟩ ?_;rintro uK L_ kN y0 ⟨e,d,rfl,rfl,f⟩ c g;simp only[Jy] at c;refine C<|H (.n 26 (A2D (d < n)) .a)<|C<|bP c (fun h c=>?_) fun h c=>?_
 ·refine ay<|au<|C<|aB<|C<|lM (.n 9 (I d) (.s .a))<|au<|J c fun j o c=>J c fun u p c=>W_q [] (.n 8 (.u64 (e|||(G5 (UInt64.ofNat j.toNat) (Int.toNat (ax (8*d)))))) (.s (.kk (.s .a)))) (qW (wQ.cx f) o y (.u8 j) y<|qp (0<=ax (8*d)) (bI p)<|D) Z<|cO<|au<|lM (.n 25 (I (ax (d+1))) (.dF .z)) ?_;exact fQ c ⟨_,_,y,y,f⟩
 refine A2C c g fun c=>C<|H (.n 6 (.u64 e) (.n 7 (I 0) .z))<|aC ?_;cases c;refine aF [.u64 e,I 0] D ?_;exact⟨y,f⟩
theorem zL{b:AC}{at_ kS xu pU}(wQ:Ro F w kS (e8.all b))(AU:b.length=xu)(FU:xu<=pU)(k:Cx F O w w []){r:(UInt64×Int)}(d:mQ b at_=some r):
    A2E F O w 163 [sl kS xu pU,I at_] (.og [.u64 r.1,I r.2]) []:=by
 unfold mQ at d;subst AU;refine dZ _ func163 y<|C<|H .a<|C<|ak<|We 2 (.n 6 (M kS b pU) (.n 7 (I at_) .z))<|K<|J d fun c f d=>dJ 8 (A0n func181) (c_word_load (Ro.n0 (wQ.cx k)) y FU gI f) k fun w_ e=>We 4 (.n 4 (.u64 c.1) (.n 5 (I c.2) .z))<|Wn<|aC ?_;cases d;refine aF [.u64 c.1,I c.2] D ?_;exact⟨y,e⟩
theorem Zm{block:AC}{uV kD uX}(Nk:Ro F w uV (e8.all block))(JM:block.length=kD)(LU:kD<=uX)(k:Cx F O w w []){r:(Vec UInt64 8×Int)}(b:EC block=some r):
    A2E F O w 246 [sl uV kD uX] (.og [.agg [.ar e64 r.1],I r.2]) []:=by
 unfold EC at b;subst JM;refine dZ _ func246 y<|C<|ak<|K<|gZ 2 [.ar e64 (Vec.rep 8 0)] k fun g w_ o=>We 1 .a<|Wn<|C<|C<|H (.n 10 (A2D ((block.length:Int)≠64)) .a)<|bP b (fun A b=>?_) fun A b=>?_
 ·refine C<|ak<|We 1 (.n 11 (.agg [.ar e64 (Vec.rep 8 ((0:UInt64):UInt64))]) (.s (.k .z)))<|K<|gz 0 (.agg [.ar e64 (Vec.rep 8 ((0:UInt64):UInt64))]) [.ar e64 (Vec.rep 8 ((0:UInt64):UInt64))] (Pt.at g 0) o y .all fun kN q=>We 1 (.n 3 (I 1) (.s .a))<|Wn<|aC (aK ?_);cases b;refine aF [.agg [.ar e64 (Vec.rep 8 ((0:UInt64):UInt64))],I 1] (qo (.agg [.ar e64 (Vec.rep 8 ((0:UInt64):UInt64))])<|qc (fun w=>Rd w (some ⟨g,0,none⟩) (SV.cl [.ar e64 (Vec.rep 8 ((0:UInt64):UInt64))])) (q.F7 0 y)<|D) ?_;have S:=q.bH .z;exact⟨y,S⟩
 refine ay<|au<|C<|ak<|K<|J b fun m T b=>dJ 12 A1r (Yn gI T) o fun mV G=>K<|gZ 4 [.ar e64 (Vec.rep 8 0)] G fun d qG B=>K<|gz 1 (.agg [.ar e64 m]) [.ar e64 m] (Pt.at d 0) B y .all fun uU E=>Wn<|C<|C<|H (.n 13 (I 0) (.k (.ss .a)))<|aB<|jh b (fun s L x=>∃ h c,(h,c)=s/\L=[(0,M uV block uX),(2,pt g 0),(4,pt d 0),(13,I c)]/\Cx F O w x [Bx 291 g [.ar e64 (Vec.rep 8 0)],Bx 291 d [.ar e64 h]]) ⟨_,_,y,y,E⟩ ?_;rintro uK L_ zK y0 ⟨h,c,rfl,rfl,f⟩ b j;simp only[IA] at b;refine C<|H (.n 14 (A2D (c < 8)) .a)<|C<|bP b (fun l b=>?_) fun l b=>?_
 ·refine ay<|au<|C<|aB<|C<|H (.n 5 (I c) (.s .a))<|C<|ak<|We 3 (.n 17 (M uV block uX) (.n 19 (I (ax (8*c))) .a))<|K<|J b fun i N b=>dJ 20 LJ (zL (Ro.n0 (Nk.cx f)) y LU gI N) f fun zX p=>We 5 (.n 6 (.u64 i.1) (.lI .a))<|Wn<|ak<|J b fun e V b=>J b fun kY u b=>Wl 6 (.n 27 (.u64 (e^^^i.1)) (.n 28 (.v (.pointer (jA (some ⟨d,0,none⟩) c 1))) (.ss .a))) (qV (p.sG 1 y e64 h 0) V y (.u64 e) y<|qI d 0 u<|D)<|K ?_;obtain⟨v,U,b⟩:=nm b;refine lJ 1 (.u64 (e^^^i.1)) [.u64 (e^^^i.1)] U u (Pt.Iy (Pt.at d 0) c 1) p y .h y fun CB P=>di<|cO<|au<|lM (.n 13 (I (ax (c+1))) (.ss (.rQ .z))) ?_;exact fQ b ⟨_,_,y,y,P⟩
 refine A2C b j fun b=>C<|ak<|Wl 1 (.n 30 (.agg [.ar e64 h]) (.ss (.k .z))) (mY f 1 y 0 8 [.ar e64 h]<|D)<|K<|gz 0 (.agg [.ar e64 h]) [.ar e64 h] (Pt.at g 0) f y .all fun Je R=>?_;have t:=R.bH (.k .z);refine We 1 (.n 3 (I 0) (.s .a))<|Wn<|aC ?_;cases b;refine aF [.agg [.ar e64 h],I 0] (qo (.agg [.ar e64 h])<|qc (fun w=>Rd w (some ⟨g,0,none⟩) (SV.cl [.ar e64 h])) (t.F7 0 y)<|D) ?_;have Q:=t.bH .z;exact⟨y,Q⟩
theorem Zn{k_}{block:AC}{uV kD uX}(Nk:Ro F w uV (e8.all block))(JM:block.length=kD)(LU:kD<=uX)(k:Cx F O w w []){r:(Vec UInt64 8×AC)}(b:IZ k_ block=some r):
    A2F 240 [I k_,sl uV kD uX] w fun e w'=>∃ g A n c,r.2.length=n/\e=.returned (SV.val (.v (.iface 336 (SV.val (pt g 0)))))/\Cx F O w w' [Bx 342 g [.ar e64 r.1,.u64 0,.u64 0,sl A n c,I 128,.v (.func (.func 247) ⟨SV.vals []⟩ ⟨SV.vals []⟩),.v (.func (.func 248) ⟨SV.vals []⟩ ⟨SV.vals []⟩)],A0H A n c r.2]:=by
 unfold IZ at b;subst JM;refine dZ _ func240 y<|C<|H .a<|C<|C<|H (.n 10 (A2D (k_=1)) (.s .a))<|bP b (fun j b=>?_) fun j b=>?_
 ·refine C<|ak<|We 1 (.n 12 (M uV block uX) .z)<|K<|J b fun d t b=>dJ 13 (A0n func246) (Zm (Ro.n0 (Nk.cx k)) y LU gI t) k fun w_ q=>We 3 (.n 14 (.agg [.ar e64 d.1]) (.n 15 (I d.2) .z))<|K<|gZ 5 [.ar e64 (Vec.rep 8 0)] q fun o kN p=>K<|gz 0 (.agg [.ar e64 d.1]) [.ar e64 d.1] (Pt.at o 0) p y .all fun mV i=>We 1 (.k .z)<|Wn<|C<|ak<|Wl 2 (.n 17 (.agg [.ar e64 d.1,.u64 0,.u64 0,sl none 0 0,I 128,.v (.func (.func 247) ⟨SV.vals []⟩ ⟨SV.vals []⟩),.v (.func (.func 248) ⟨SV.vals []⟩ ⟨SV.vals []⟩)]) .z) (mY i 0 y 0 8 [.ar e64 d.1]<|D)<|K<|iV 18 [.ar e64 d.1,.u64 0,.u64 0,sl none 0 0,I 128,.v (.func (.func 247) ⟨SV.vals []⟩ ⟨SV.vals []⟩),.v (.func (.func 248) ⟨SV.vals []⟩ ⟨SV.vals []⟩)] i fun h qG l=>We 2 (.n 4 (.v (.iface 336 (SV.val (pt h 0)))) .z)<|Wn<|aC (aK ?_);have m:=l.nil e8;cases b;refine aF [.v (.iface 336 (SV.val (pt h 0)))] D ?_;have f:=m.bH (.s (.kk .e));exact⟨_,_,0,0,f.len 1 y,y,f⟩
 cases b
theorem OM{k_}(k:Cx F O w w []){r}(b:xC k_=some r):
    A2E F O w 212 [I k_] (I r) []:=by
 unfold xC at b;refine dZ _ func212 y<|C<|H .a<|C<|C<|H (.n 4 (A2D (k_=1)) .z)<|bP b (fun c b=>?_) fun c b=>?_
 ·refine C<|H (.n 2 (I 128) .z)<|aC (aK ?_);cases b;refine aF [I 128] D ?_;exact⟨y,k⟩
 refine ay<|au<|C<|H (.n 2 (I 64) .z)<|aC ?_;cases b;refine aF [I 64] D ?_;exact⟨y,k⟩
theorem Qi{b:AC}{n kS xu pU}(wQ:Ro F w kS (e8.all b))(AU:b.length=xu)(FU:xu<=pU)(k:Cx F O w w []){r:AC}(d:zq b n=some r):
    A2F 241 [sl kS xu pU,I n] w fun e w'=>∃ A n1 c,r.length=n1/\e=.returned (SV.val (sl A n1 c))/\Cx F O w w' [A0H A n1 c r]:=by
 unfold zq at d;subst AU;refine dZ _ func241 y<|C<|H .a<|C<|ak<|We 1 (.n 5 (I n) .a)<|K<|J d fun u j d=>xe dM e8 (0:UInt8) y [] 6 (I 0) (I n) (0:Int) n Z (bI j).1 (bI j).2.1 (bI j).2.2 k fun A0 w_ f=>We 1 (.n 7 (M kS b pU) (.k (.s .a)))<|K<|J d fun b1 o d=>?_;obtain⟨hz,p⟩:=eU o;refine dA (E:=e8) (v:=M kS b pU) (ys:=b) dM [] 8 0 Z f y (Src.sl (wQ.cx f) y A2J) y (by have:=f.len 0 y;have:=d;omega) fun A1 c0 kN h=>?_;rw[<- p] at h;refine We 4 (.n 12 (I (ax (n - (b.length:Int)))) (.k .z))<|K<|J d fun b2 t d=>?_;obtain⟨q,hz1,g⟩:=appz_some t;refine Op_appendZ (E:=e8) (kx:=.i64) (ik:=.i64) dM (0:UInt8) [] 13 0 (ax (n - (b.length:Int))) Z y h y q (by have:=h.len 0 y;omega) fun m l mV i=>?_;rw[<- g] at i;refine We 1 (.n 4 (sl m (Int.toNat (0:Int)+b.length+Int.toNat (ax (n - (b.length:Int)))) l) .z)<|Wn<|aC ?_;cases d;refine aF [sl m (Int.toNat (0:Int)+b.length+Int.toNat (ax (n - (b.length:Int)))) l] D ?_;exact⟨_,_,_,i.len 0 y,y,i⟩
theorem QI{PX PY n}(k:Cx F O w w []){r:(UInt64×UInt64×Bool)}(f:DC PX PY n=some r):
    A2E F O w 294 [.agg [.u64 PX,.u64 PY],.u64 n] (.og [.agg [.u64 r.1,.u64 r.2.1],.b r.2.2]) []:=by
 unfold DC at f;refine dZ _ func294 y<|C<|ak<|K<|iV 2 [.u64 PX,.u64 PY] k fun g w_ l=>K<|gZ 4 [.u64 0,.u64 0] l fun i kN h=>We 1 (.kk (.s .a))<|Wn<|C<|ak<|Wl 3 (.n 12 (.u64 PX) (.n 13 (.u64 n) (.kk .z))) (qs g 0<|fJ h 0 y 0 (.u64 PX)<|D)<|K<|J f fun d t f=>Op_add64 Ym [] 14 PX n (0:UInt64) Z t<|We 5 (.n 6 (.u64 d.1) (.n 7 (.u64 d.2) (.lI .a)))<|Wn<|C<|ak<|Wl 3 (.n 19 (.u64 PY) (.n 20 (.u64 d.2) (.k (.s (.k .z))))) (qs g 0<|fJ h 0 y 1 (.u64 PY)<|D)<|K<|J f fun c o f=>Op_add64 Ym [] 21 PY (0:UInt64) d.2 Z o<|We 5 (.n 8 (.u64 c.1) (.n 9 (.u64 c.2) (.lI .a)))<|Wn<|C<|ak<|We 5 (.n 26 (.agg [.u64 d.1,.u64 c.1]) (.n 28 (A2D (c.2=1)) (.lI .a)))<|K ?_;have q:=h.bH (.kk .e);refine gz 1 (.agg [.u64 d.1,.u64 c.1]) [.u64 d.1,.u64 c.1] (Pt.at i 0) q y .all fun mV p=>?_;have j:=p.bH (.s (.k .e));refine We 1 (.n 5 (A2D (c.2=1)) (.ss .a))<|Wn<|aC ?_;cases f;refine aF [.agg [.u64 d.1,.u64 c.1],.b (decide (c.2=1))] (qo (.agg [.u64 d.1,.u64 c.1])<|qc (fun w=>Rd w (some ⟨i,0,none⟩) (SV.cl [.u64 d.1,.u64 c.1])) (j.F7 0 y)<|D) ?_;have m:=j.bH .z;exact⟨y,m⟩
theorem Zo{b:AC}{kS xu pU}(wQ:Ro F w kS (e8.all b))(AU:b.length=xu)(FU:xu<=pU)(k:Cx F O w w []){r:(Vec UInt64 16×Int)}(c:ED b=some r):
    A2E F O w 253 [sl kS xu pU] (.og [.agg [.ar e64 r.1],I r.2]) []:=by
 unfold ED at c;subst AU;refine dZ _ func253 y<|C<|ak<|K<|gZ 2 [.ar e64 (Vec.rep 16 0)] k fun g w_ x=>We 1 .a<|Wn<|C<|ak<|K<|gZ 4 [.ar e64 (Vec.rep 16 0)] x fun f kN o=>Wn<|C<|C<|H (.n 8 (A2D ((b.length:Int)≠128)) .a)<|bP c (fun E c=>?_) fun E c=>?_
 ·refine C<|ak<|Wl 1 (.n 9 (.agg [.ar e64 (Vec.rep 16 0)]) (.ss (.k .z))) (mY o 1 y 0 16 [.ar e64 (Vec.rep 16 0)]<|D)<|K<|gz 0 (.agg [.ar e64 (Vec.rep 16 0)]) [.ar e64 (Vec.rep 16 0)] (Pt.at g 0) o y .all fun mV Q=>?_;have q:=Q.bH (.k .z);refine We 1 (.n 3 (I 1) (.s .a))<|Wn<|aC (aK ?_);cases c;refine aF [.agg [.ar e64 (Vec.rep 16 0)],I 1] (qo (.agg [.ar e64 (Vec.rep 16 0)])<|qc (fun w=>Rd w (some ⟨g,0,none⟩) (SV.cl [.ar e64 (Vec.rep 16 0)])) (q.F7 0 y)<|D) ?_;have N:=q.bH .z;exact⟨y,N⟩
 refine ay<|au<|C<|C<|H (.n 10 (I 0) (.s .a))<|aB<|jh c (fun s L u=>∃ d e,(d,e)=s/\L=[(0,M kS b pU),(2,pt g 0),(4,pt f 0),(10,I e)]/\Cx F O w u [Bx 243 g [.ar e64 (Vec.rep 16 0)],Bx 243 f [.ar e64 d]]) ⟨_,_,y,y,o⟩ ?_;rintro uK L_ qG y0 ⟨d,e,rfl,rfl,i⟩ c l;simp only[Dj] at c;refine C<|H (.n 11 (A2D (e < 16)) .a)<|C<|bP c (fun m c=>?_) fun m c=>?_
 ·refine ay<|au<|C<|aB<|C<|H (.n 5 (I e) (.s .a))<|ak<|We 4 (.n 14 (I e) (.n 15 (M kS b pU) (.n 17 (I (ax (8*e))) (.s .a))))<|K<|J c fun j R c=>dJ 18 LJ (zL (Ro.n0 (wQ.cx i)) y FU gI R) i fun uU G=>J c fun jE t c=>Wl 4 (.n 19 (.u64 j.1) (.n 21 (.v (.pointer (jA (some ⟨f,0,none⟩) e 1))) (.fV .a))) (qI f 0 t<|D)<|K ?_;obtain⟨v,S,c⟩:=nm c;refine lJ 1 (.u64 j.1) [.u64 j.1] S t (Pt.Iy (Pt.at f 0) e 1) G y .h y fun zK B=>di<|cO<|au<|lM (.n 10 (I (ax (e+1))) (.ss (.rQ .z))) ?_;exact fQ c ⟨_,_,y,y,B⟩
 refine A2C c l fun c=>C<|ak<|Wl 1 (.n 23 (.agg [.ar e64 d]) (.ss (.k .z))) (mY i 1 y 0 16 [.ar e64 d]<|D)<|K<|gz 0 (.agg [.ar e64 d]) [.ar e64 d] (Pt.at g 0) i y .all fun zX A=>?_;have p:=A.bH (.k .z);refine We 1 (.n 3 (I 0) (.s .a))<|Wn<|aC ?_;cases c;refine aF [.agg [.ar e64 d],I 0] (qo (.agg [.ar e64 d])<|qc (fun w=>Rd w (some ⟨g,0,none⟩) (SV.cl [.ar e64 d])) (p.F7 0 y)<|D) ?_;have P:=p.bH .z;exact⟨y,P⟩
theorem c_mixb_Init{h qQ qY A2A node}(k:Cx F O w w []){r}(hm:Kv h qQ qY A2A node=some r):
    Calls prog 260 (vals [.agg [.ar e64 h],.agg [.u64 qQ,.u64 qY],.b A2A,.b node]) w (fun e w'=>e=.returned (SV.val (.agg [.ar e64 r]))/\Cx F O w w' []):=by
 unfold Kv at hm;refine dZ _ func260 rfl<|ae<|ak<|ai<|iV 4 [.ar e64 h] k fun g w_ k_=>ai<|iV 5 [.u64 qQ,.u64 qY] k_ fun g1 kN dH=>ai<|gZ 8 [.ar e64 (Vec.rep 16 (0:UInt64))] dH fun g2 mV b_=>Wn<|ae<|ak<|ai<|gZ 9 [.ar e64 (Vec.rep 16 (0:UInt64))] b_ fun g3 qG dB=>Wn<|ae ?_;have fM:=dB.drew 1;refine lg bD (tq [0,0,1,0] (.op 2 .nil)) [2] fM (.c (.kk (.k .z)) .l) fun _=>aJ hm fun b wQ hm=>?_;have hs:=jg wQ;have hl:=rJ wQ;have hn:((Vec.rep 16 (0:UInt64)).l).length=16:=(Vec.rep 16 (0:UInt64)).h;have hc:16<=16:=(Nat.le_refl _)
 have hc1:b.length<=16:=Y
 refine dQ 2 0 (.n 11 (sl (some ⟨g3,0,none⟩) b.length 16) (.n 12 (sl (some ⟨g,0,none⟩) 8 8) (.rQ (.lI .a)))) (fun x hx=>qp (0<=(8:Int)/\(8:Int)<=((16:Nat):Int)) Y<|qo (.v (.slice (some ⟨g3,0,none⟩) b.length 16))<|qp (((some ⟨g3,0,none⟩):EQ).isSome=true/\Value.slice (Iu (some ⟨g3,0,none⟩) 0 16 1) (Int.toNat (8:Int) - 0) (16 - 0)=.slice (some ⟨g3,0,none⟩) b.length 16) ⟨rfl,FQ _ _ _ _ _ Y⟩<|qo (.v (.slice (some ⟨g,0,none⟩) 8 8))<|qp (((some ⟨g,0,none⟩):EQ).isSome=true/\Value.slice (Iu (some ⟨g,0,none⟩) 0 8 1) (8 - 0) (8 - 0)=.slice (some ⟨g,0,none⟩) 8 8) ⟨rfl,FQ _ _ _ _ _ rfl⟩<|qe) fun _=>dD rfl ?_;have gp:=fM.bH (.dF .e);refine Op_vcp (E:=e64) (dn:=b.length) (dc:=16) (v:=sl (some ⟨g,0,none⟩) 8 8) (src:=h.l) (lo:=0) (m':=16) Fg [] 13 3 [] [] (Vec.rep 16 (0:UInt64)) Z (VZ _ _ _).symm gp rfl (Src.sl (Rd.vec (gp.F7 0 rfl) (c:=Enc.all e64 h.l) (off:=0) Z) h.h A2J) h.h (by have:=(Vec.rep 16 (0:UInt64)).h;omega) Y Y fun uU gX=>?_;refine⟨(gX.bH (.kk (.k .z))),fun _=>?_⟩;refine eY<|au<|ae<|ak<|ai<|aJ hm fun r_ bT hm=>dJ 14 A1r (Yn gI bT) gX fun zK iF=>?_;have jk:=iF.bH (.s (.kk (.k .e)));refine ai<|gZ 10 [.ar e64 (Vec.rep 8 (0:UInt64))] jk fun g4 zX df=>ai<|gz 3 (.agg [.ar e64 r_]) [.ar e64 r_] (Pt.at g4 0) df rfl .all fun CB dP=>Wn<|ae ?_;have dG:=dP.drew 1
 refine lg bD (tq [0,0,1,0] (.op 2 .nil)) [2] dG (.c (.kk (.s (.k .e))) .l) fun _=>aJ hm fun b1 mP hm=>?_;have hs1:=jg mP;have hl1:=rJ mP;have hn1:((vcp (Vec.rep 16 (0:UInt64)) 0 b.length h.l).l).length=16:=(vcp (Vec.rep 16 (0:UInt64)) 0 b.length h.l).h;have hc2:16<=16:=(Nat.le_refl _)
 obtain⟨A,c,e_,hc3,hA,hc4⟩:=slx (some ⟨g3,0,none⟩) (Int.toNat (8:Int)) 16 1 (16 - Int.toNat (8:Int)) b1.length Y Y;refine dQ 2 0 (.n 15 (sl A b1.length c) (.n 16 (sl (some ⟨g4,0,none⟩) 8 8) (.fV (.s .a)))) (fun x hx=>qp (0<=(8:Int)/\(8:Int)<=((16:Nat):Int)) Y<|qo (.v (.slice A b1.length c))<|qp (((some ⟨g3,0,none⟩):EQ).isSome=true/\Value.slice (Iu (some ⟨g3,0,none⟩) (Int.toNat (8:Int)) 16 1) (16 - Int.toNat (8:Int)) (16 - Int.toNat (8:Int))=.slice A b1.length c) ⟨rfl,e_⟩<|qo (.v (.slice (some ⟨g4,0,none⟩) 8 8))<|qp (((some ⟨g4,0,none⟩):EQ).isSome=true/\Value.slice (Iu (some ⟨g4,0,none⟩) 0 8 1) (8 - 0) (8 - 0)=.slice (some ⟨g4,0,none⟩) 8 8) ⟨rfl,FQ _ _ _ _ _ rfl⟩<|qe) fun _=>dD rfl ?_;have dW:=dG.bH (.dF .e);refine Op_vcp (E:=e64) (dn:=b1.length) (dc:=c) (v:=sl (some ⟨g4,0,none⟩) 8 8) (src:=r_.l) (lo:=Int.toNat (8:Int)) (m':=16) Fg [] 17 2 [] [] (vcp (Vec.rep 16 (0:UInt64)) 0 b.length h.l) Z hA dW rfl (Src.sl (Rd.vec (dW.F7 3 rfl) (c:=Enc.all e64 r_.l) (off:=0) Z) r_.h A2J) r_.h (by have:=(vcp (Vec.rep 16 (0:UInt64)) 0 b.length h.l).h;omega) Y Y fun Je fZ=>?_;refine⟨(fZ.bH (.kk (.s (.k .e)))),fun _=>?_⟩
 refine eY<|au<|ae<|ak<|aJ hm fun aN qL hm=>aJ hm fun x_1 FY hm=>Wl 6 (.n 22 (.u64 (aN^^^qQ)) (.n 23 (.v (.pointer (jA (some ⟨g3,0,none⟩) (12:Int) 1))) (.lI .a))) (qV (fZ.sG 2 rfl e64 (vcp (vcp (Vec.rep 16 (0:UInt64)) 0 b.length h.l) (Int.toNat (8:Int)) b1.length r_.l) 0) qL rfl (.u64 aN) rfl<|qs g1 0<|fJ fZ 0 rfl 0 (.u64 qQ)<|qI g3 0 FY<|qe)<|ai ?_;obtain⟨v,TB,hm⟩:=nm hm;refine lJ 2 (.u64 (aN^^^qQ)) [.u64 (aN^^^qQ)] TB FY (Pt.Iy (Pt.at g3 0) (12:Int) 1) fZ rfl .h rfl fun KZ iE=>Wn<|ae<|ak<|aJ hm fun jE GX hm=>aJ hm fun kY FT hm=>Wl 6 (.n 28 (.u64 (jE^^^qY)) (.n 29 (.v (.pointer (jA (some ⟨g3,0,none⟩) (13:Int) 1))) (.ss (.kk (.s .a))))) (qV (iE.sG 2 rfl e64 v 0) GX rfl (.u64 jE) rfl<|qs g1 0<|fJ iE 0 rfl 1 (.u64 qY)<|qI g3 0 FT<|qe)<|ai ?_;obtain⟨v1,Ie,hm⟩:=nm hm;refine lJ 2 (.u64 (jE^^^qY)) [.u64 (jE^^^qY)] Ie FT (Pt.Iy (Pt.at g3 0) (13:Int) 1) iE rfl .h rfl fun y9 iM=>Wn<|mZ (fun L wr=>∃ (v2:Vec UInt64 16),EF node v2=some r/\L=[(3,.b node),(8,pt g2 0),(9,pt g3 0)]/\Cx F O w wr [Bx 243 g2 [.ar e64 (Vec.rep 16 (0:UInt64))],Bx 243 g3 [.ar e64 v2]]) ?_ ?_
 ·
  refine ae<|Wq (.n 30 (.b A2A) (.ss (.kk (.s .a))))<|jl hm (fun hc5 hm=>?_) fun hc5 hm=>?_
  ·refine ak<|aJ hm fun mX NM hm=>aJ hm fun ni J6 hm=>Wl 4 (.n 33 (.u64 (18446744073709551615^^^mX)) (.n 34 (.v (.pointer (jA (some ⟨g3,0,none⟩) (14:Int) 1))) (.s .a))) (qV (iM.sG 2 rfl e64 v1 0) NM rfl (.u64 mX) rfl<|qI g3 0 J6<|qe)<|ai ?_;obtain⟨v3,Sv,hm⟩:=nm hm;refine lJ 2 (.u64 (18446744073709551615^^^mX)) [.u64 (18446744073709551615^^^mX)] Sv J6 (Pt.Iy (Pt.at g3 0) (14:Int) 1) iM rfl .h rfl fun C_ iW=>di ?_;have jM:=iW.bH (.s (.kk .z));exact fO ⟨_,hm,rfl,jM⟩
  refine ay ?_;have jZ:=iM.bH (.s (.kk .z));exact fO ⟨_,hm,rfl,jZ⟩
 rintro L_ Gt ⟨v2,hm,rfl,jF⟩;simp only[EF] at hm;refine mZ (fun L wr=>∃ (v4:Vec UInt64 16),EE v4=some r/\L=[(8,pt g2 0),(9,pt g3 0)]/\Cx F O w wr [Bx 243 g2 [.ar e64 (Vec.rep 16 (0:UInt64))],Bx 243 g3 [.ar e64 v4]]) ?_ ?_
 ·
  refine ae<|Wq (.n 35 (.b node) (.s .a))<|jl hm (fun hc6 hm=>?_) fun hc6 hm=>?_
  ·refine ak<|aJ hm fun oG Ig hm=>aJ hm fun tZ QY hm=>Wl 4 (.n 38 (.u64 (18446744073709551615^^^oG)) (.n 39 (.v (.pointer (jA (some ⟨g3,0,none⟩) (15:Int) 1))) (.s .a))) (qV (jF.sG 1 rfl e64 v2 0) Ig rfl (.u64 oG) rfl<|qI g3 0 QY<|qe)<|ai ?_;obtain⟨v5,h_v5,hm⟩:=nm hm;refine lJ 1 (.u64 (18446744073709551615^^^oG)) [.u64 (18446744073709551615^^^oG)] h_v5 QY (Pt.Iy (Pt.at g3 0) (15:Int) 1) jF rfl .h rfl fun Jf ku=>di ?_;exact fO ⟨_,hm,rfl,ku⟩
  refine ay ?_;exact fO ⟨_,hm,rfl,jF⟩
 rintro L_ NU ⟨v4,hm,rfl,lu⟩;simp only[EE] at hm;refine ae<|ak<|Wl 1 (.n 40 (.agg [.ar e64 v4]) (.k .z)) (mY lu 1 rfl 0 16 [.ar e64 v4]<|qe)<|ai<|gz 0 (.agg [.ar e64 v4]) [.ar e64 v4] (Pt.at g2 0) lu rfl .all fun LP lT=>?_;have kR:=lT.bH (.k .z);refine Wn<|aC ?_;obtain rfl:=si hm;refine aF [.agg [.ar e64 v4]] (qo (.agg [.ar e64 v4])<|qc (fun w=>Rd w (some ⟨g2,0,none⟩) (SV.cl [.ar e64 v4])) (kR.F7 0 rfl)<|qe) ?_;have n_:=kR.bH .z;exact⟨rfl,n_⟩
end Go.Sx
