/- This file proves the tied card of the row 'quern/quernlaw21.PassMakes': the Go function returns true, and the input reads as it did. Conditions: the arguments are together of bulk at most 1048576;the listed package-level variables start as the program's text lays them (the card ties that). -/
import Derived.Test.YtognaacbiammfaaGreatDoorRows
import Derived.Test.YtognaacbiammfaaGreatDoorTie
import Derived.Test.YtognaacbiammfaaGreatDoorCards
import Derived.LaidMore
import Derived.Stop.Joined
import Derived.SevenTiedAt
import Derived.Deep.DeepHandedRow
import Derived.Deep.DeepWitnessRowRef
import Derived.Lib.LaidTab
import Derived.Stop.LaidErr
import Derived.WalkKit
import Derived.ProofKit
import Derived.OpenShut
import Derived.ShutString
import Derived.ChangeOld
import Derived.Below
import Derived.JoinedCond
import Derived.Test.YtognaacbiammfaaGreatDoorK8
namespace Go.Proofs.YtognaacbiammfaaGreatDoor.passMakes
open Go.ChangeShapes Go.WideShapes Go.ChangeAt Go.WideMaps Go.WideElems Go.RowKit Go.Sx
open Go.ChangeMaps (open_string shut_string)
set_option linter.unusedVariables false
set_option linter.unusedSimpArgs false

theorem own:ownKnob Tryz.prog.godebug=none:=by kernel_rfl
theorem laidOut:laidOutB Tryz.prog=true:=by kernel_rfl
theorem H7 {H:Type}(d:DataW H)(r:List (DataW H)):Rows.uptoBulkAll (d::r)=Rows.uptoBulk d+Rows.uptoBulkAll r:=rfl
theorem JW {H:Type}:Rows.uptoBulkAll ([]:List (DataW H))=0:=rfl
theorem yX {H:Type}(l:List (DataW H)):Rows.uptoBulk (.agg l)=Rows.uptoBulkAll l+1:=rfl
theorem Xr {H:Type}(l:List UInt8):Rows.uptoBulk (DataW.lit (H:=H) (.string l))=l.length+1:=rfl
theorem Xt {H:Type}(d:DataW H):0+1<=Rows.uptoBulk d:=by
  cases d with
  | lit l=>cases l <;> simp[Rows.uptoBulk]
  | _=>simp[Rows.uptoBulk]
theorem bulk_len {H:Type}(l:List (DataW H)):l.length<=Rows.uptoBulkAll l:=by
  induction l with
  | nil=>simp[Rows.uptoBulkAll]
  | cons x r ih=>have:=Xt x;simp only[Rows.uptoBulkAll,List.length_cons];omega
theorem wG {H:Type}{d:DataW H}{l:List (DataW H)}(h:d ∈ l):Rows.uptoBulk d<=Rows.uptoBulkAll l:=by
  induction l with
  | nil=>cases h
  | cons x r ih =>
    simp only[Rows.uptoBulkAll];cases List.mem_cons.1 h with
    | inl e=>subst e;omega
    | inr e=>have:=ih e;omega
theorem LZ {H:Type}(k:IntKind)(zs:List Int)(l:Nat)(h:l<=zs.length):l+1<=Rows.uptoBulk (.slice (lits (H:=H) k (zs.take l)) (lits k (zs.drop l))):=by
  have h1:=bulk_len (lits (H:=H) k (zs.take l));simp only[lits,List.length_map,List.length_take] at h1;simp only[Rows.uptoBulk];simp only[lits] at *;omega
theorem bulk_fam {H:Type}:∀ (ds:List (DataW H)) (xs:List (List UInt8)),Fam ds xs->Tot xs<=Rows.uptoBulkAll ds
  | [],[],_=>Nat.le_refl _
  | [],_::_,h=>h.elim
  | _::_,[],h=>h.elim
  | d::ds,x::xs,⟨h,hr⟩=>by
    have h1:=bulk_fam ds xs hr;have h2:x.length+1<=Rows.uptoBulk d:=by
      rcases h with h0 | ⟨zs,h3,h4⟩
      ·subst h0;exact Xt d
      ·rw[h3];exact LZ .u8 zs x.length h4
    simp only[Tot,Rows.uptoBulkAll];omega
theorem YL {H:Type}{l:List (DataW H)}(hk:Rows.uptoSmall H l=true):Rows.uptoBulkAll l<=1048576:=by
  simpa [Rows.uptoSmall] using hk

theorem gTab : Tryz.prog.globalNamed "internal/strconv.uint64pow10" = some 0 := by kernel_rfl
theorem gTabType:(Tryz.prog.globals[0]?).map (·.type)=some 185:=by kernel_rfl
set_option maxRecDepth 100000 in
theorem table {W:World}(h:laidMetH Tryz.prog Rows.passMakesUptoRow.laid W):Qn Tryz.prog N0 W:=by
  have h1:laidMet Tryz.prog Rows.passMakesUptoRow.laid W:=h;have h2:=laidMet.tail (laidMet.tail h1);exact⟨Lib.tabIs_of_head (rest:=[]) (n:=20) (e:=70) gTab gTabType (by kernel_rfl) (by kernel_rfl) (by kernel_rfl) (by kernel_rfl) h2,_,gTab,id⟩
set_option maxRecDepth 100000 in
theorem contract (H:Type)(enc:TypeId×Value->H)(W:World)(base:Nat)(args:Array Value)(ds gs:List (DataW H))(before:List MemPlace)
    (hval0:∀ (j:Nat) t v,Tryz.f3.params[j]?=some t->args[j]?=some v->Value.okWide Tryz.prog W .any base t v)
    (hW:DataW.Whole enc Tryz.prog Tryz.f3.params.toList Rows.passMakesSpec.vars false W args.toList ds gs before)
    (hk:Rows.uptoSmall H (ds++gs)=true) (hT:Qn Tryz.prog N0 W) :
    Calls Tryz.prog 3 args W fun e W'=>∃ v,e=.returned v/\Rows.passMakesSpec.post enc Tryz.prog Tryz.f3 false true false false W args v W':=by
  have hval:∀ (j:Nat) t v,Tryz.f3.params[j]?=some t->args[j]?=some v->Value.okWide Tryz.prog W .any base t v:=hval0;have hW':=hW;obtain⟨p,q,hA0,hV,rfl,hfz,hnd⟩:=hW;have hA:DataW.TrodAll enc Tryz.prog W 0 (fun _=>true) true Tryz.f3.params.toList args.toList ds p:=hA0;rw[Tryz.params3] at hA hval;obtain⟨v0,vs0,d0,ds0,p0,q0,hargs,rfl,rfl,h0,r0⟩:=trodAll_cons hA;obtain⟨v1,vs1,d1,ds1,p1,q1,rfl,rfl,rfl,h1,r1⟩:=trodAll_cons r0;obtain⟨v2,vs2,d2,ds2,p2,q2,rfl,rfl,rfl,h2,r2⟩:=trodAll_cons r1;obtain⟨v3,vs3,d3,ds3,p3,q3,rfl,rfl,rfl,h3,r3⟩:=trodAll_cons r2;obtain⟨v4,vs4,d4,ds4,p4,q4,rfl,rfl,rfl,h4,r4⟩:=trodAll_cons r3;obtain⟨rfl,rfl,rfl⟩:=trodAll_nil r4;obtain rfl:args=#[v0,v1,v2,v3,v4]:=by cases args;simp_all
  obtain⟨rfl,rfl⟩:=trodVars_none hV;have hk1:=YL hk;have k0:=h0;have lt0:∀ x ∈ p0,x.block < W.heap.size:=by obtain⟨m,hm⟩:=k0;exact DataW.trod_lt m _ _ _ hm
  have Xu:Rows.uptoBulk d0<=1048576:=by simp only[List.nil_append,List.append_nil,List.cons_append,H7,JW] at hk1;omega
  obtain⟨cs1,rfl,hs2⟩:=okWide_struct Tryz.underlying23 (hval 0 23 v0 rfl rfl);obtain⟨fuel0,hf0⟩:=h0;obtain⟨cs1⟩:=cs1;simp only[Value.cells] at hf0;obtain⟨xs3,n4,hx5,hl6,hf7⟩:=VC Tryz.underlying23 hf0
  try dsimp only at hx5
  obtain⟨y8,hm9,hy10⟩:=hf7 0 _ 3 0 1 rfl rfl rfl (by kernel_rfl);have bk11:Rows.uptoBulk y8.1<=1048576:=by have hq:=Xu;rw[hx5] at hq;have:=wG hm9;simp only[yX] at hq;omega
  obtain⟨m12,hc13,_,w14⟩:=DataW.trod_int Tryz.underlying3 hy10;have r15:=wf_i64 w14;obtain⟨y16,hm17,hy18⟩:=hf7 1 _ 3 1 1 rfl rfl rfl (by kernel_rfl);have bk19:Rows.uptoBulk y16.1<=1048576:=by have hq:=Xu;rw[hx5] at hq;have:=wG hm17;simp only[yX] at hq;omega
  obtain⟨m20,hc21,_,w22⟩:=DataW.trod_int Tryz.underlying3 hy18;have r23:=wf_i64 w22;obtain⟨y24,hm25,hy26⟩:=hf7 2 _ 3 2 1 rfl rfl rfl (by kernel_rfl);have bk27:Rows.uptoBulk y24.1<=1048576:=by have hq:=Xu;rw[hx5] at hq;have:=wG hm25;simp only[yX] at hq;omega
  obtain⟨m28,hc29,_,w30⟩:=DataW.trod_int Tryz.underlying3 hy26;have r31:=wf_i64 w30;obtain⟨y32,hm33,hy34⟩:=hf7 3 _ 3 3 1 rfl rfl rfl (by kernel_rfl);have bk35:Rows.uptoBulk y32.1<=1048576:=by have hq:=Xu;rw[hx5] at hq;have:=wG hm33;simp only[yX] at hq;omega
  obtain⟨m36,hc37,_,w38⟩:=DataW.trod_int Tryz.underlying3 hy34;have r39:=wf_i64 w38;obtain⟨y40,hm41,hy42⟩:=hf7 4 _ 3 4 1 rfl rfl rfl (by kernel_rfl);have bk43:Rows.uptoBulk y40.1<=1048576:=by have hq:=Xu;rw[hx5] at hq;have:=wG hm41;simp only[yX] at hq;omega
  obtain⟨m44,hc45,_,w46⟩:=DataW.trod_int Tryz.underlying3 hy42;have r47:=wf_i64 w46;have E48:=GG (cs1) 0 1 1 rfl;rw[hc13] at E48;rw[GG (cs1) 1 1 2 rfl,hc21] at E48;rw[GG (cs1) 2 1 3 rfl,hc29] at E48;rw[GG (cs1) 3 1 4 rfl,hc37] at E48;rw[GG (cs1) 4 1 5 rfl,hc45] at E48;rw[YV (cs1) _ 5 hl6 (by kernel_rfl)] at E48;simp only[List.drop_zero,List.cons_append,List.nil_append,List.append_nil] at E48;subst E48;have k1:=h1;have lt1:∀ x ∈ p1,x.block < W.heap.size:=by obtain⟨m,hm⟩:=k1;exact DataW.trod_lt m _ _ _ hm
  have bk0_1:Rows.uptoBulk d1<=1048576:=by simp only[List.nil_append,List.append_nil,List.cons_append,H7,JW] at hk1;omega
  obtain⟨a1_,l1_,c1_,rfl⟩:=okWide_slice Tryz.underlying24 (hval 1 24 v1 rfl rfl);obtain⟨fuel1,hf1⟩:=h1;simp only[Value.cells] at hf1;obtain⟨A49,len50,cap51,z52,hc53,w54,hb55⟩:=Go.Sx.open_row Tryz.underlying24 Tryz.underlying5 (by kernel_rfl) hf1;obtain⟨x56,rd57,ln58,lc59⟩:=row_u8 w54;have b60:x56.length<=1048576:=by
    rcases hb55 with h0 | ⟨h0,h1⟩
    ·omega
    ·have hq:=LZ (H:=H) .u8 z52 len50 h1;rw[<- h0] at hq;have hp:=bk0_1;try dsimp only at hq hp
     omega
  simp only[List.cons.injEq,and_true] at hc53;have he1:=hc53;rw[he1] at k1 hW' ⊢;have k2:=h2;have lt2:∀ x ∈ p2,x.block < W.heap.size:=by obtain⟨m,hm⟩:=k2;exact DataW.trod_lt m _ _ _ hm
  have bk0_2:Rows.uptoBulk d2<=1048576:=by simp only[List.nil_append,List.append_nil,List.cons_append,H7,JW] at hk1;omega
  obtain⟨a2_,l2_,c2_,rfl⟩:=okWide_slice Tryz.underlying24 (hval 2 24 v2 rfl rfl);obtain⟨fuel2,hf2⟩:=h2;simp only[Value.cells] at hf2;obtain⟨A61,len62,cap63,z64,hc65,w66,hb67⟩:=Go.Sx.open_row Tryz.underlying24 Tryz.underlying5 (by kernel_rfl) hf2;obtain⟨x68,rd69,ln70,lc71⟩:=row_u8 w66;have b72:x68.length<=1048576:=by
    rcases hb67 with h0 | ⟨h0,h1⟩
    ·omega
    ·have hq:=LZ (H:=H) .u8 z64 len62 h1;rw[<- h0] at hq;have hp:=bk0_2;try dsimp only at hq hp
     omega
  simp only[List.cons.injEq,and_true] at hc65;have he2:=hc65;rw[he2] at k2 hW' ⊢;have k3:=h3;have lt3:∀ x ∈ p3,x.block < W.heap.size:=by obtain⟨m,hm⟩:=k3;exact DataW.trod_lt m _ _ _ hm
  have bk0_3:Rows.uptoBulk d3<=1048576:=by simp only[List.nil_append,List.append_nil,List.cons_append,H7,JW] at hk1;omega
  obtain⟨a3_,rfl⟩:=okWide_string Tryz.underlying9 (hval 3 9 v3 rfl rfl);obtain⟨fuel3,hf3⟩:=h3;simp only[Value.cells] at hf3;obtain⟨m73,hc74,hx75,w76⟩:=DataW.trod_string Tryz.underlying9 hf3;obtain⟨x77,e78,ln79⟩:=get_str m73;rw[e78] at hc74;have b80:x77.length<=1048576:=by have hq:=bk0_3;have hx0:=congrArg Prod.fst hx75;try dsimp only at hx0;rw[hx0] at hq;simp only[Xr,Array.length_toList] at hq;have:m73.size=m73.data.size:=rfl;omega
  simp only[List.cons.injEq,and_true] at hc74;have he3:=hc74;rw[he3] at k3 hW' ⊢;have k4:=h4;have lt4:∀ x ∈ p4,x.block < W.heap.size:=by obtain⟨m,hm⟩:=k4;exact DataW.trod_lt m _ _ _ hm
  have Xv:Rows.uptoBulk d4<=1048576:=by simp only[List.nil_append,List.append_nil,List.cons_append,H7,JW] at hk1;omega
  obtain⟨Xw,rfl,hs82⟩:=okWide_struct Tryz.underlying23 (hval 4 23 v4 rfl rfl);obtain⟨fuel4,hf4⟩:=h4;obtain⟨Xw⟩:=Xw;simp only[Value.cells] at hf4;obtain⟨xs83,n84,hx85,hl86,hf87⟩:=VC Tryz.underlying23 hf4
  try dsimp only at hx85
  obtain⟨y88,hm89,hy90⟩:=hf87 0 _ 3 0 1 rfl rfl rfl (by kernel_rfl);have bk91:Rows.uptoBulk y88.1<=1048576:=by have hq:=Xv;rw[hx85] at hq;have:=wG hm89;simp only[yX] at hq;omega
  obtain⟨m92,hc93,_,w94⟩:=DataW.trod_int Tryz.underlying3 hy90;have r95:=wf_i64 w94;obtain⟨y96,hm97,hy98⟩:=hf87 1 _ 3 1 1 rfl rfl rfl (by kernel_rfl);have bk99:Rows.uptoBulk y96.1<=1048576:=by have hq:=Xv;rw[hx85] at hq;have:=wG hm97;simp only[yX] at hq;omega
  obtain⟨m100,hc101,_,w102⟩:=DataW.trod_int Tryz.underlying3 hy98;have r103:=wf_i64 w102;obtain⟨y104,hm105,hy106⟩:=hf87 2 _ 3 2 1 rfl rfl rfl (by kernel_rfl);have bk107:Rows.uptoBulk y104.1<=1048576:=by have hq:=Xv;rw[hx85] at hq;have:=wG hm105;simp only[yX] at hq;omega
  obtain⟨m108,hc109,_,w110⟩:=DataW.trod_int Tryz.underlying3 hy106;have r111:=wf_i64 w110;obtain⟨y112,hm113,hy114⟩:=hf87 3 _ 3 3 1 rfl rfl rfl (by kernel_rfl);have bk115:Rows.uptoBulk y112.1<=1048576:=by have hq:=Xv;rw[hx85] at hq;have:=wG hm113;simp only[yX] at hq;omega
  obtain⟨m116,hc117,_,w118⟩:=DataW.trod_int Tryz.underlying3 hy114;have r119:=wf_i64 w118;obtain⟨y120,hm121,hy122⟩:=hf87 4 _ 3 4 1 rfl rfl rfl (by kernel_rfl);have bk123:Rows.uptoBulk y120.1<=1048576:=by have hq:=Xv;rw[hx85] at hq;have:=wG hm121;simp only[yX] at hq;omega
  obtain⟨m124,hc125,_,w126⟩:=DataW.trod_int Tryz.underlying3 hy122;have r127:=wf_i64 w126;have Xx:=GG (Xw) 0 1 1 rfl;rw[hc93] at Xx;rw[GG (Xw) 1 1 2 rfl,hc101] at Xx;rw[GG (Xw) 2 1 3 rfl,hc109] at Xx;rw[GG (Xw) 3 1 4 rfl,hc117] at Xx;rw[GG (Xw) 4 1 5 rfl,hc125] at Xx;rw[YV (Xw) _ 5 hl86 (by kernel_rfl)] at Xx;simp only[List.drop_zero,List.cons_append,List.nil_append,List.append_nil] at Xx;subst Xx;clear hA0 hval0;have hm:=PD m12 m20 m28 m36 m44 x56 x68 x77 m92 m100 m108 m116 m124 b80;refine Calls.mono (Py (F:=N0) (O:=N0) m12 m20 m28 m36 m44 x56 x68 x77 m92 m100 m108 m116 m124 A49 len50 cap51 A61 len62 cap63 (Ro.n0 ((Lm x56).symm▸rd57)) ln58 lc59 (Ro.n0 ((Lm x68).symm▸rd69)) ln70 lc71 hT (Cx.refl _) true hm) fun e W' h=>?_;obtain⟨he,cx⟩:=h;have bel:=cx.below;subst he;exact⟨_,rfl,_,_,_,[],_,[],hW',(trodAll_cons_mk (shut_bool Tryz.underlying4 _) trodAll_mk0),(trodAll_cons_mk (Below.trod laidOut (by kernel_rfl) (of_decide_eq_true (by kernel_rfl)) k0 bel lt0) (trodAll_cons_mk (Below.trod laidOut (by kernel_rfl) (of_decide_eq_true (by kernel_rfl)) k1 bel lt1) (trodAll_cons_mk (Below.trod laidOut (by kernel_rfl) (of_decide_eq_true (by kernel_rfl)) k2 bel lt2) (trodAll_cons_mk (Below.trod laidOut (by kernel_rfl) (of_decide_eq_true (by kernel_rfl)) k3 bel lt3) (trodAll_cons_mk (Below.trod laidOut (by kernel_rfl) (of_decide_eq_true (by kernel_rfl)) k4 bel lt4) trodAll_mk0))))),rfl,bel.frame _,fun h=>by cases h⟩

theorem door_met (os:Os)(args:Array Value):laidMetH Tryz.prog Rows.passMakesUptoRow.laid ((World.doorLaid Tryz.prog 400 os).forCall (fun _ _=>0) ⟨#[],args,[]⟩).memory :=
  laidMetH_of_parts3 (fuel:=8) (laidMet_of_run' 8 (by kernel_rfl) (by kernel_rfl)) (by kernel_rfl) (by kernel_rfl)
theorem reads (os:Os){H:Type}(enc:TypeId×Value->H):∃ places,DataW.whole enc Tryz.prog ((World.doorLaid Tryz.prog 400 os).forCall (fun _ _=>0) ⟨#[],#[.agg #[.int .i64 0,.int .i64 0,.int .i64 0,.int .i64 0,.int .i64 0],.slice none 0 0,.slice none 0 0,.string ByteArray.empty,.agg #[.int .i64 0,.int .i64 0,.int .i64 0,.int .i64 0,.int .i64 0]],[]⟩).memory Tryz.f3.params.toList Rows.passMakesSpec.vars false (#[.agg #[.int .i64 0,.int .i64 0,.int .i64 0,.int .i64 0,.int .i64 0],.slice none 0 0,.slice none 0 0,.string ByteArray.empty,.agg #[.int .i64 0,.int .i64 0,.int .i64 0,.int .i64 0,.int .i64 0]]:Array Value).toList 8=some ([.agg [.lit (.int .i64 0),.lit (.int .i64 0),.lit (.int .i64 0),.lit (.int .i64 0),.lit (.int .i64 0)],.nil,.nil,.lit (.string []),.agg [.lit (.int .i64 0),.lit (.int .i64 0),.lit (.int .i64 0),.lit (.int .i64 0),.lit (.int .i64 0)]],[],places) :=
  ⟨[],by kernel_rfl⟩

set_option maxRecDepth 100000 in
theorem lifted (os:Os)(started:os.Started)(H:Type)(enc:TypeId×Value->H)(F:Stop.Interp) :
    ReturnsInHanded {} Tryz.checked os 3 .any ((Rows.OpenSpec.upto Rows.passMakesSpec).preRow enc Tryz.prog Tryz.f3 Rows.passMakesUptoRow.domain false Rows.passMakesUptoRow.laid) (((Rows.OpenSpec.upto Rows.passMakesSpec).at F).post enc Tryz.prog Tryz.f3 false true false false):=by
  obtain⟨places,hx⟩:=reads os enc;refine returnsInHanded_of_row (C:=Tryz.checked) (s:=Rows.OpenSpec.upto Rows.passMakesSpec) own started (by kernel_rfl) Tryz.func3
    (witness_row_atRef (enc:=enc) (C:=Tryz.checked) false (World.doorLaid Tryz.prog 400 os) #[.agg #[.int .i64 0,.int .i64 0,.int .i64 0,.int .i64 0,.int .i64 0],.slice none 0 0,.slice none 0 0,.string ByteArray.empty,.agg #[.int .i64 0,.int .i64 0,.int .i64 0,.int .i64 0,.int .i64 0]] rfl (by kernel_rfl) (by kernel_rfl) (by kernel_rfl)
      (OpenSpec.preRow_of_cond 8 hx (by kernel_rfl) (fun k hk=>by cases hk;kernel_rfl) (by kernel_rfl) (door_met os _))) ?_
  intro W base args ds gs before hval hW hconds hcond hweights hL hShapedOpen hholds;exact contract H enc W base args ds gs before hval hW (hcond _ rfl) (table hL)

theorem row:Rows.PassMakesUptoSaid :=
  OpenClaim.holds_of_cond 3 Tryz.f3 rfl rfl rfl rfl rfl rfl rfl ⟨rfl,rfl,rfl,rfl,rfl⟩ rfl rfl rfl rfl rfl (by kernel_rfl) Tryz.func3 (by kernel_rfl)
    (of_decide_eq_true (by kernel_rfl)) (by unfold Func.isWrapper;first | (rw[if_pos (by decide +kernel)];kernel_rfl) | (rw[if_neg (by decide +kernel)];exact⟨rfl,rfl⟩))
    (fun os started H enc _ F=>by rw[OpenClaim.pre_eq_preRow];exact lifted os started H enc F)

theorem proved:Rows.PassMakesUptoCardSaid :=
  Claim7.holds_tied_plain_at .later [] [.data, .data, .data] true (true, "032c5efb97b003a78bd5dadf4d71eb175607c1c95652f1b33344b6cff7d53550") false
    row (fun _ h=>by cases h) (by kernel_rfl) (fun _ h=>by cases h) passMakesUpto_row_tie rfl ⟨rfl,rfl⟩ (by kernel_rfl) rfl
    (fun f fn hf hfn=>by
      obtain rfl : f = 3 := Option.some.inj ((show Tryz.prog.funcNamed "quern/quernlaw21.PassMakes" = some 3 by kernel_rfl).symm.trans hf) |>.symm
      obtain rfl:fn=Tryz.f3:=(Option.some.inj (Tryz.func3.symm.trans hfn)).symm;exact⟨by kernel_rfl,fun j t ht=>by
        rw[Tryz.params3] at ht;rcases j with _ | _ | _ | _ | _ | j
        ·have e:=Option.some.inj (show(some 23:Option TypeId)=some t from ht);subst e;show _=_
         kernel_rfl
        ·have e:=Option.some.inj (show(some 24:Option TypeId)=some t from ht);subst e;show _=_
         kernel_rfl
        ·have e:=Option.some.inj (show(some 24:Option TypeId)=some t from ht);subst e;show _=_
         kernel_rfl
        ·have e:=Option.some.inj (show(some 9:Option TypeId)=some t from ht);subst e;show _=_
         kernel_rfl
        ·have e:=Option.some.inj (show(some 23:Option TypeId)=some t from ht);subst e;show _=_
         kernel_rfl
        ·simp at ht⟩)
    (by kernel_rfl)
#print axioms proved
end Go.Proofs.YtognaacbiammfaaGreatDoor.passMakes


