/- This file proves the tied card of the row 'quern/quernlaw21.PassPlays': the Go function returns true, and the input reads as it did. Conditions: the arguments are together of bulk at most 1048576;the listed package-level variables start as the program's text lays them (the card ties that). -/
import Derived.Test.YtpmdigdlcejkaaaGreatDoorRows
import Derived.Test.YtpmdigdlcejkaaaGreatDoorTie
import Derived.Test.YtpmdigdlcejkaaaGreatDoorCards
import Derived.LaidMore
import Derived.Stop.Joined
import Derived.SevenTiedAt
import Derived.Deep.DeepHandedRow
import Derived.Deep.DeepWitnessRowRef
import Derived.Lib.LaidTab
import Derived.Stop.LaidErr
import Derived.Lay
import Derived.MakeChecks
import Derived.WalkKit
import Derived.ProofKit
import Derived.OpenShut
import Derived.ShutString
import Derived.ChangeOld
import Derived.Below
import Derived.JoinedCond
import Derived.Test.YtpmdigdlcejkaaaGreatDoorK10
namespace Go.Proofs.YtpmdigdlcejkaaaGreatDoor.passPlays
open Go.ChangeShapes Go.WideShapes Go.ChangeAt Go.WideMaps Go.WideElems Go.RowKit Go.Sx
open Go.ChangeMaps (open_string shut_string)
set_option linter.unusedVariables false
set_option linter.unusedSimpArgs false

theorem own:ownKnob Tryz.prog.godebug=none:=by kernel_rfl
theorem laidOut:laidOutB Tryz.prog=true:=by kernel_rfl
theorem PS {H:Type}(d:DataW H)(r:List (DataW H)):Rows.uptoBulkAll (d::r)=Rows.uptoBulk d+Rows.uptoBulkAll r:=rfl
theorem Tv {H:Type}:Rows.uptoBulkAll ([]:List (DataW H))=0:=rfl
theorem Bg {H:Type}(l:List (DataW H)):Rows.uptoBulk (.agg l)=Rows.uptoBulkAll l+1:=rfl
theorem bulk_string {H:Type}(l:List UInt8):Rows.uptoBulk (DataW.lit (H:=H) (.string l))=l.length+1:=rfl
theorem bulk_one {H:Type}(d:DataW H):0+1<=Rows.uptoBulk d:=by
  cases d with
  | lit l=>cases l <;> simp[Rows.uptoBulk]
  | _=>simp[Rows.uptoBulk]
theorem bulk_len {H:Type}(l:List (DataW H)):l.length<=Rows.uptoBulkAll l:=by
  induction l with
  | nil=>simp[Rows.uptoBulkAll]
  | cons x r ih=>have:=bulk_one x;simp only[Rows.uptoBulkAll,List.length_cons];omega
theorem x9 {H:Type}{d:DataW H}{l:List (DataW H)}(h:d ∈ l):Rows.uptoBulk d<=Rows.uptoBulkAll l:=by
  induction l with
  | nil=>cases h
  | cons x r ih =>
    simp only[Rows.uptoBulkAll];cases List.mem_cons.1 h with
    | inl e=>subst e;omega
    | inr e=>have:=ih e;omega
theorem NJ {H:Type}(k:IntKind)(zs:List Int)(l:Nat)(h:l<=zs.length):l+1<=Rows.uptoBulk (.slice (lits (H:=H) k (zs.take l)) (lits k (zs.drop l))):=by
  have h1:=bulk_len (lits (H:=H) k (zs.take l));simp only[lits,List.length_map,List.length_take] at h1;simp only[Rows.uptoBulk];simp only[lits] at *;omega
theorem bulk_fam {H:Type}:∀ (ds:List (DataW H)) (xs:List (List UInt8)),Fam ds xs->Tot xs<=Rows.uptoBulkAll ds
  | [],[],_=>Nat.le_refl _
  | [],_::_,h=>h.elim
  | _::_,[],h=>h.elim
  | d::ds,x::xs,⟨h,hr⟩=>by
    have h1:=bulk_fam ds xs hr;have h2:x.length+1<=Rows.uptoBulk d:=by
      rcases h with h0 | ⟨zs,h3,h4⟩
      ·subst h0;exact bulk_one d
      ·rw[h3];exact NJ .u8 zs x.length h4
    simp only[Tot,Rows.uptoBulkAll];omega
theorem bulk_bound {H:Type}{l:List (DataW H)}(hk:Rows.uptoSmall H l=true):Rows.uptoBulkAll l<=1048576:=by
  simpa [Rows.uptoSmall] using hk

theorem gTab : Tryz.prog.globalNamed "internal/strconv.uint64pow10" = some 1 := by kernel_rfl
theorem gTabType:(Tryz.prog.globals[1]?).map (·.type)=some 200:=by kernel_rfl
set_option maxRecDepth 100000 in
theorem table {W:World}(h:laidMetH Tryz.prog Rows.passPlaysUptoRow.laid W):J7 Tryz.prog N0 W:=by
  have h1 : laidMet Tryz.prog Rows.passPlaysUptoRow.laid W := h;have h2 := laidMet.tail (laidMet.tail h1);exact ⟨Lib.tabIs_of_head (rest := [("unicode/utf8.acceptRanges", Rows.laid_unicode_utf8_acceptRanges), ("unicode/utf8.first", Rows.laid_unicode_utf8_first)]) (n := 20) (e := 24) gTab gTabType Z Z Z Z h2, _, gTab, id⟩
set_option maxRecDepth 100000 in
theorem contract (H:Type)(enc:TypeId×Value->H)(W:World)(base:Nat)(args:Array Value)(ds gs:List (DataW H))(before:List MemPlace)
    (hval0:∀ (j:Nat) t v,Tryz.f3.params[j]?=some t->args[j]?=some v->Value.okWide Tryz.prog W .any base t v)
    (hW:DataW.Whole enc Tryz.prog Tryz.f3.params.toList Rows.passPlaysSpec.vars false W args.toList ds gs before)
    (hk:Rows.uptoSmall H (ds++gs)=true) (hT:J7 Tryz.prog N0 W) :
    Calls Tryz.prog 3 args W fun e W'=>∃ v,e=.returned v/\Rows.passPlaysSpec.post enc Tryz.prog Tryz.f3 false true false false W args v W':=by
  have hval:∀ (j:Nat) t v,Tryz.f3.params[j]?=some t->args[j]?=some v->Value.okWide Tryz.prog W .any base t v:=hval0;have hW':=hW;obtain⟨p,q,hA0,hV,rfl,hfz,hnd⟩:=hW;have hA:DataW.TrodAll enc Tryz.prog W 0 (fun _=>true) true Tryz.f3.params.toList args.toList ds p:=hA0;rw[Tryz.params3] at hA hval;obtain⟨v0,vs0,d0,ds0,p0,q0,hargs,rfl,rfl,h0,r0⟩:=trodAll_cons hA;obtain⟨v1,vs1,d1,ds1,p1,q1,rfl,rfl,rfl,h1,r1⟩:=trodAll_cons r0;obtain⟨v2,vs2,d2,ds2,p2,q2,rfl,rfl,rfl,h2,r2⟩:=trodAll_cons r1;obtain⟨v3,vs3,d3,ds3,p3,q3,rfl,rfl,rfl,h3,r3⟩:=trodAll_cons r2;obtain⟨rfl,rfl,rfl⟩:=trodAll_nil r3;obtain rfl:args=#[v0,v1,v2,v3]:=by cases args;simp_all
  obtain⟨rfl,rfl⟩:=trodVars_none hV;have hk1:=bulk_bound hk;have k0:=h0;have lt0:∀ x ∈ p0,x.block < W.heap.size:=by obtain⟨m,hm⟩:=k0;exact DataW.trod_lt m _ _ _ hm
  have bk0_0:Rows.uptoBulk d0<=1048576:=by simp only[List.nil_append,List.append_nil,List.cons_append,PS,Tv] at hk1;omega
  obtain⟨cs1,rfl,hs2⟩:=okWide_struct Tryz.underlying23 (hval 0 23 v0 rfl rfl);obtain⟨fuel0,hf0⟩:=h0;obtain⟨cs1⟩:=cs1;simp only[Value.cells] at hf0;obtain⟨xs3,n4,hx5,hl6,hf7⟩:=open_fld Tryz.underlying23 hf0
  try dsimp only at hx5
  obtain⟨y8,hm9,hy10⟩:=hf7 0 _ 3 0 1 rfl rfl rfl Z;have bk11:Rows.uptoBulk y8.1<=1048576:=by have hq:=bk0_0;rw[hx5] at hq;have:=x9 hm9;simp only[Bg] at hq;omega
  obtain⟨m12,hc13,_,w14⟩:=DataW.trod_int Tryz.underlying3 hy10;have r15:=wf_i64 w14;obtain⟨y16,hm17,hy18⟩:=hf7 1 _ 3 1 1 rfl rfl rfl Z;have bk19:Rows.uptoBulk y16.1<=1048576:=by have hq:=bk0_0;rw[hx5] at hq;have:=x9 hm17;simp only[Bg] at hq;omega
  obtain⟨m20,hc21,_,w22⟩:=DataW.trod_int Tryz.underlying3 hy18;have r23:=wf_i64 w22;obtain⟨y24,hm25,hy26⟩:=hf7 2 _ 3 2 1 rfl rfl rfl Z;have bk27:Rows.uptoBulk y24.1<=1048576:=by have hq:=bk0_0;rw[hx5] at hq;have:=x9 hm25;simp only[Bg] at hq;omega
  obtain⟨m28,hc29,_,w30⟩:=DataW.trod_int Tryz.underlying3 hy26;have r31:=wf_i64 w30;obtain⟨y32,hm33,hy34⟩:=hf7 3 _ 3 3 1 rfl rfl rfl Z;have bk35:Rows.uptoBulk y32.1<=1048576:=by have hq:=bk0_0;rw[hx5] at hq;have:=x9 hm33;simp only[Bg] at hq;omega
  obtain⟨m36,hc37,_,w38⟩:=DataW.trod_int Tryz.underlying3 hy34;have r39:=wf_i64 w38;obtain⟨y40,hm41,hy42⟩:=hf7 4 _ 3 4 1 rfl rfl rfl Z;have bk43:Rows.uptoBulk y40.1<=1048576:=by have hq:=bk0_0;rw[hx5] at hq;have:=x9 hm41;simp only[Bg] at hq;omega
  obtain⟨m44,hc45,_,w46⟩:=DataW.trod_int Tryz.underlying3 hy42;have r47:=wf_i64 w46;have E48:=Jr (cs1) 0 1 1 rfl;rw[hc13] at E48;rw[Jr (cs1) 1 1 2 rfl,hc21] at E48;rw[Jr (cs1) 2 1 3 rfl,hc29] at E48;rw[Jr (cs1) 3 1 4 rfl,hc37] at E48;rw[Jr (cs1) 4 1 5 rfl,hc45] at E48;rw[cut_end (cs1) _ 5 hl6 Z] at E48;simp only[List.drop_zero,List.cons_append,List.nil_append,List.append_nil] at E48;subst E48;have k1:=h1;have lt1:∀ x ∈ p1,x.block < W.heap.size:=by obtain⟨m,hm⟩:=k1;exact DataW.trod_lt m _ _ _ hm
  have bk0_1:Rows.uptoBulk d1<=1048576:=by simp only[List.nil_append,List.append_nil,List.cons_append,PS,Tv] at hk1;omega
  obtain⟨a1_,rfl⟩:=okWide_int Tryz.underlying3 (hval 1 3 v1 rfl rfl);obtain⟨fuel1,hf1⟩:=h1;simp only[Value.cells] at hf1;obtain⟨m49,hc50,_,w51⟩:=DataW.trod_int Tryz.underlying3 hf1;have r52:=wf_i64 w51;simp only[List.cons.injEq,and_true] at hc50;have he1:=hc50;rw[he1] at k1 hW' ⊢;have k2:=h2;have lt2:∀ x ∈ p2,x.block < W.heap.size:=by obtain⟨m,hm⟩:=k2;exact DataW.trod_lt m _ _ _ hm
  have bk0_2:Rows.uptoBulk d2<=1048576:=by simp only[List.nil_append,List.append_nil,List.cons_append,PS,Tv] at hk1;omega
  obtain⟨a2_,rfl⟩:=okWide_int Tryz.underlying24 (hval 2 24 v2 rfl rfl);obtain⟨fuel2,hf2⟩:=h2;simp only[Value.cells] at hf2;obtain⟨m53,hc54,_,w55⟩:=DataW.trod_int Tryz.underlying24 hf2;obtain⟨x56,e57⟩:=get_u64 w55;rw[e57] at hc54;simp only[List.cons.injEq,and_true] at hc54;have he2:=hc54;rw[he2] at k2 hW' ⊢;have k3:=h3;have lt3:∀ x ∈ p3,x.block < W.heap.size:=by obtain⟨m,hm⟩:=k3;exact DataW.trod_lt m _ _ _ hm
  have bk0_3:Rows.uptoBulk d3<=1048576:=by simp only[List.nil_append,List.append_nil,List.cons_append,PS,Tv] at hk1;omega
  obtain⟨a3_,l3_,c3_,rfl⟩:=okWide_slice Tryz.underlying25 (hval 3 25 v3 rfl rfl);obtain⟨fuel3,hf3⟩:=h3;simp only[Value.cells] at hf3;have hel141:∀ (N_ fuel_:Nat) (cs_:List Value) (x_:DataW H×List MemPlace),Rows.uptoBulk x_.1<=N_->DataW.trod enc Tryz.prog W 0 (fun _=>true) true fuel_ 38 cs_=some x_->∃ (y_:Int×List UInt8×Hd×Hd×Hd×UInt64) (z_:Int×List UInt8×List UInt8×List UInt8×List UInt8×UInt64),cs_=Enc.f (eP eI (eP eS (eP eH (eP eH (eP eH e64))))) y_/\(RP RQ (RP RQ (RP (RH N0 W e8) (RP (RH N0 W e8) (RP (RH N0 W e8) RQ))))) y_ z_/\(fun z_:Int×List UInt8×List UInt8×List UInt8×List UInt8×UInt64=>max z_.2.1.length (max z_.2.2.1.length (max z_.2.2.2.1.length (z_.2.2.2.2.1.length)))) z_<=N_:=by
    intro N_ fuel_ cs_ x_ hN_ h_;obtain⟨xs58,n59,hx60,hl61,hf62⟩:=open_fld Tryz.underlying38 h_
    try dsimp only at hx60
    obtain⟨y63,hm64,hy65⟩:=hf62 0 _ 3 0 1 rfl rfl rfl Z;have bk66:Rows.uptoBulk y63.1<=N_:=by have hq:=hN_;rw[hx60] at hq;have:=x9 hm64;simp only[Bg] at hq;omega
    obtain⟨m67,hc68,_,w69⟩:=DataW.trod_int Tryz.underlying3 hy65;have r70:=wf_i64 w69;obtain⟨y71,hm72,hy73⟩:=hf62 1 _ 9 1 1 rfl rfl rfl Z;have bk74:Rows.uptoBulk y71.1<=N_:=by have hq:=hN_;rw[hx60] at hq;have:=x9 hm72;simp only[Bg] at hq;omega
    obtain⟨m75,hc76,hx77,w78⟩:=DataW.trod_string Tryz.underlying9 hy73;obtain⟨x79,e80,ln81⟩:=get_str m75;rw[e80] at hc76;have b82:x79.length<=N_:=by have hq:=bk74;have hx0:=congrArg Prod.fst hx77;try dsimp only at hx0;rw[hx0] at hq;simp only[bulk_string,Array.length_toList] at hq;have:m75.size=m75.data.size:=rfl;omega
    obtain⟨y83,hm84,hy85⟩:=hf62 2 _ 36 2 1 rfl rfl rfl Z;have bk86:Rows.uptoBulk y83.1<=N_:=by have hq:=hN_;rw[hx60] at hq;have:=x9 hm84;simp only[Bg] at hq;omega
    obtain⟨A87,len88,cap89,z90,hc91,w92,hb93⟩:=Go.Sx.open_row Tryz.underlying36 Tryz.underlying5 Z hy85;obtain⟨x94,rd95,ln96,lc97⟩:=row_u8 w92;have b98:x94.length<=N_:=by
      rcases hb93 with h0 | ⟨h0,h1⟩
      ·omega
      ·have hq:=NJ (H:=H) .u8 z90 len88 h1;rw[<- h0] at hq;have hp:=bk86;try dsimp only at hq hp
       omega
    obtain⟨y99,hm100,hy101⟩:=hf62 3 _ 36 3 1 rfl rfl rfl Z;have bk102:Rows.uptoBulk y99.1<=N_:=by have hq:=hN_;rw[hx60] at hq;have:=x9 hm100;simp only[Bg] at hq;omega
    obtain⟨A103,len104,cap105,z106,hc107,w108,hb109⟩:=Go.Sx.open_row Tryz.underlying36 Tryz.underlying5 Z hy101;obtain⟨x110,rd111,ln112,lc113⟩:=row_u8 w108;have b114:x110.length<=N_:=by
      rcases hb109 with h0 | ⟨h0,h1⟩
      ·omega
      ·have hq:=NJ (H:=H) .u8 z106 len104 h1;rw[<- h0] at hq;have hp:=bk102;try dsimp only at hq hp
       omega
    obtain⟨y115,hm116,hy117⟩:=hf62 4 _ 36 4 1 rfl rfl rfl Z;have bk118:Rows.uptoBulk y115.1<=N_:=by have hq:=hN_;rw[hx60] at hq;have:=x9 hm116;simp only[Bg] at hq;omega
    obtain⟨A119,len120,cap121,z122,hc123,w124,hb125⟩:=Go.Sx.open_row Tryz.underlying36 Tryz.underlying5 Z hy117;obtain⟨x126,rd127,ln128,lc129⟩:=row_u8 w124;have b130:x126.length<=N_:=by
      rcases hb125 with h0 | ⟨h0,h1⟩
      ·omega
      ·have hq:=NJ (H:=H) .u8 z122 len120 h1;rw[<- h0] at hq;have hp:=bk118;try dsimp only at hq hp
       omega
    obtain⟨y131,hm132,hy133⟩:=hf62 5 _ 24 5 1 rfl rfl rfl Z;have bk134:Rows.uptoBulk y131.1<=N_:=by have hq:=hN_;rw[hx60] at hq;have:=x9 hm132;simp only[Bg] at hq;omega
    obtain⟨m135,hc136,_,w137⟩:=DataW.trod_int Tryz.underlying24 hy133;obtain⟨x138,e139⟩:=get_u64 w137;rw[e139] at hc136;have aah:=Jr (cs_) 0 1 1 rfl;rw[hc68] at aah;rw[Jr (cs_) 1 1 2 rfl,hc76] at aah;rw[Jr (cs_) 2 1 3 rfl,hc91] at aah;rw[Jr (cs_) 3 1 4 rfl,hc107] at aah;rw[Jr (cs_) 4 1 5 rfl,hc123] at aah;rw[Jr (cs_) 5 1 6 rfl,hc136] at aah;rw[cut_end (cs_) _ 6 hl61 Z] at aah;simp only[List.drop_zero,List.cons_append,List.nil_append,List.append_nil] at aah;exact⟨(m67,x79,(A87,len88,cap89),(A103,len104,cap105),(A119,len120,cap121),x138),(m67,x79,x94,x110,x126,x138),aah,⟨rfl,rfl,⟨ln96.symm,(by show x94.length<=cap89;omega),(Ro.n0 ((KT x94).symm▸rd95))⟩,⟨ln112.symm,(by show x110.length<=cap105;omega),(Ro.n0 ((KT x110).symm▸rd111))⟩,⟨ln128.symm,(by show x126.length<=cap121;omega),(Ro.n0 ((KT x126).symm▸rd127))⟩,rfl⟩,Nat.max_le.2 ⟨b82,Nat.max_le.2 ⟨b98,Nat.max_le.2 ⟨b114,b130⟩⟩⟩⟩
  obtain⟨A142,len143,cap144,ys145,x146,hc147,ro148,ln149,lc150,fm151⟩:=open_rg (eP eI (eP eS (eP eH (eP eH (eP eH e64))))) (RP RQ (RP RQ (RP (RH N0 W e8) (RP (RH N0 W e8) (RP (RH N0 W e8) RQ))))) (fun d_ z_=>(fun z_:Int×List UInt8×List UInt8×List UInt8×List UInt8×UInt64=>max z_.2.1.length (max z_.2.2.1.length (max z_.2.2.2.1.length (z_.2.2.2.2.1.length)))) z_<=Rows.uptoBulk d_) Tryz.underlying25 Z (fun f_ c_ x_ h_=>hel141 (Rows.uptoBulk x_.1) f_ c_ x_ (Nat.le_refl _) h_) hf3;have b152:Y8 (fun z_:Int×List UInt8×List UInt8×List UInt8×List UInt8×UInt64=>max z_.2.1.length (max z_.2.2.1.length (max z_.2.2.2.1.length (z_.2.2.2.2.1.length)))) x146<=1048576:=by
    rcases fm151 with h0 | ⟨ds,rest,h0,h1⟩
    ·rw[h0];simp[Y8]
    ·have hq:=Rn.tot (bulk:=Rows.uptoBulk) (bulkAll:=Rows.uptoBulkAll) (fun _ _=>rfl) _ _ h1;have hp:=bk0_3;try dsimp only at h0
     rw[h0] at hp;simp only[Rows.uptoBulk] at hp;omega
  have bl153:x146.length<=1048576:=by
    rcases fm151 with h0 | ⟨ds,rest,h0,h1⟩
    ·rw[h0];simp
    ·have hq:=Rn.len (bulk:=Rows.uptoBulk) (bulkAll:=Rows.uptoBulkAll) (fun _ _=>rfl) (fun d_=>by unfold Rows.uptoBulk;split <;> omega) _ _ h1;have hp:=bk0_3;try dsimp only at h0
     rw[h0] at hp;simp only[Rows.uptoBulk] at hp;omega
  simp only[List.cons.injEq,and_true] at hc147;have he3:=hc147;rw[he3] at k3 hW' ⊢;clear hA0 hval0;have hm:=Vb m12 r15 m20 r23 m28 r31 m36 r39 m44 r47 m49 r52 x56 x146 b152 bl153;refine Calls.mono (U9 (F:=N0) (O:=N0) m12 m20 m28 m36 m44 m49 x56 x146 A142 len143 cap144 ys145 ro148 ln149 lc150 hT (Cx.refl _) true hm) fun e W' h=>?_;obtain⟨he,cx⟩:=h;have bel:=cx.below;subst he;exact⟨_,rfl,_,_,_,[],_,[],hW',(trodAll_cons_mk (shut_bool Tryz.underlying4 _) trodAll_mk0),(trodAll_cons_mk (Below.trod laidOut Z (of_decide_eq_true Z) k0 bel lt0) (trodAll_cons_mk (Below.trod laidOut Z (of_decide_eq_true Z) k1 bel lt1) (trodAll_cons_mk (Below.trod laidOut Z (of_decide_eq_true Z) k2 bel lt2) (trodAll_cons_mk (Below.trod laidOut Z (of_decide_eq_true Z) k3 bel lt3) trodAll_mk0)))),rfl,bel.frame _,fun h=>by cases h⟩

theorem door_met (os:Os)(args:Array Value):laidMetH Tryz.prog Rows.passPlaysUptoRow.laid ((World.laidAll Tryz.prog os Rows.passPlaysUptoRow.laid).forCall (fun _ _=>0) ⟨#[],args,[]⟩).memory:=by
  rw[MakeChecks.laidMetH_plain _ _ _ Z];exact laidMet_laidAll _ Z Z
theorem reads (os:Os){H:Type}(enc:TypeId×Value->H):∃ places,DataW.whole enc Tryz.prog ((World.laidAll Tryz.prog os Rows.passPlaysUptoRow.laid).forCall (fun _ _=>0) ⟨#[],#[.agg #[.int .i64 0,.int .i64 0,.int .i64 0,.int .i64 0,.int .i64 0],.int .i64 0,.int .u64 0,.slice none 0 0],[]⟩).memory Tryz.f3.params.toList Rows.passPlaysSpec.vars false (#[.agg #[.int .i64 0,.int .i64 0,.int .i64 0,.int .i64 0,.int .i64 0],.int .i64 0,.int .u64 0,.slice none 0 0]:Array Value).toList 8=some ([.agg [.lit (.int .i64 0),.lit (.int .i64 0),.lit (.int .i64 0),.lit (.int .i64 0),.lit (.int .i64 0)],.lit (.int .i64 0),.lit (.int .u64 0),.nil],[],places) :=
  ⟨[],Z⟩

set_option maxRecDepth 100000 in
theorem lifted (os:Os)(started:os.Started)(H:Type)(enc:TypeId×Value->H)(F:Stop.Interp) :
    ReturnsInHanded {} Tryz.checked os 3 .any ((Rows.OpenSpec.upto Rows.passPlaysSpec).preRow enc Tryz.prog Tryz.f3 Rows.passPlaysUptoRow.domain false Rows.passPlaysUptoRow.laid) (((Rows.OpenSpec.upto Rows.passPlaysSpec).at F).post enc Tryz.prog Tryz.f3 false true false false):=by
  obtain⟨places,hx⟩:=reads os enc;refine returnsInHanded_of_row (C:=Tryz.checked) (s:=Rows.OpenSpec.upto Rows.passPlaysSpec) own started Z Tryz.func3
    (witness_row_atRef (enc:=enc) (C:=Tryz.checked) false (World.laidAll Tryz.prog os Rows.passPlaysUptoRow.laid) #[.agg #[.int .i64 0,.int .i64 0,.int .i64 0,.int .i64 0,.int .i64 0],.int .i64 0,.int .u64 0,.slice none 0 0] rfl Z Z Z
      (OpenSpec.preRow_of_cond 8 hx Z (fun k hk=>by cases hk;kernel_rfl) Z (door_met os _))) ?_
  intro W base args ds gs before hval hW hconds hcond hweights hL hShapedOpen hholds;exact contract H enc W base args ds gs before hval hW (hcond _ rfl) (table hL)

theorem j_inPlace:(Rows.passPlaysUptoRow.inPlace == Program.inPlace Tryz.pinned.checked.prog 3)=true:=by kernel_rfl
theorem aai:(Rows.passPlaysUptoRow.unfollowed == Program.unfollowed Tryz.pinned.checked.prog 3)=true:=by kernel_rfl
theorem j_recurses:(Rows.passPlaysUptoRow.recurses == Program.recurses Tryz.pinned.checked.prog 3)=true:=by kernel_rfl
theorem j_named:(Rows.passPlaysUptoRow.named == Program.varsNamed Tryz.pinned.checked.prog 3)=true:=by kernel_rfl
theorem j_mayEnter:Program.mayEnter Tryz.pinned.checked.prog=true:=by kernel_rfl
theorem aaj:Program.stopsHeard Tryz.pinned.checked.prog=true:=by kernel_rfl
theorem j_mapsRowed:mapsRowed Tryz.pinned.checked.prog=true:=by kernel_rfl
theorem j_plainKeys:(Rows.passPlaysUptoRow.plainKeys == Program.plainKeys Tryz.pinned.checked.prog)=true:=by kernel_rfl
theorem jf:joinedFacts Tryz.pinned.checked.prog 3 Tryz.f3 (Rows.OpenSpec.upto Rows.passPlaysSpec).bare Rows.passPlaysUptoRow=true:=by
  unfold joinedFacts;rw[j_inPlace,aai,j_recurses,j_named,j_mayEnter,aaj,j_mapsRowed,j_plainKeys]
  kernel_rfl
theorem row:Rows.PassPlaysUptoSaid :=
  OpenClaim.holds_of_cond 3 Tryz.f3 rfl rfl rfl rfl rfl rfl rfl ⟨rfl,rfl,rfl,rfl,rfl⟩ rfl rfl rfl rfl rfl Z Tryz.func3 jf
    (of_decide_eq_true Z) (by unfold Func.isWrapper;first | (rw[if_pos (by decide +kernel)];kernel_rfl) | (rw[if_neg (by decide +kernel)];exact⟨rfl,rfl⟩))
    (fun os started H enc _ F=>by rw[OpenClaim.pre_eq_preRow];exact lifted os started H enc F)

theorem proved:Rows.PassPlaysUptoCardSaid :=
  Claim7.holds_tied_plain_at .later [] [.data, .data, .data, .data, .pinned] true (true, "389f03dbf883b1016e6875bd0bef23ba815aacc4f96e45bd6b127eb4555690b8") false
    row (fun _ h=>by cases h) Z (fun _ h=>by cases h) passPlaysUpto_row_tie rfl ⟨rfl,rfl⟩ Z rfl
    (fun f fn hf hfn=>by
      obtain rfl : f = 3 := Option.some.inj ((show Tryz.prog.funcNamed "quern/quernlaw21.PassPlays" = some 3 by kernel_rfl).symm.trans hf) |>.symm
      obtain rfl:fn=Tryz.f3:=(Option.some.inj (Tryz.func3.symm.trans hfn)).symm;exact⟨Z,fun j t ht=>by
        rw[Tryz.params3] at ht;rcases j with _ | _ | _ | _ | j
        ·have e:=Option.some.inj (show(some 23:Option TypeId)=some t from ht);subst e;show _=_
         kernel_rfl
        ·have e:=Option.some.inj (show(some 3:Option TypeId)=some t from ht);subst e;show _=_
         kernel_rfl
        ·have e:=Option.some.inj (show(some 24:Option TypeId)=some t from ht);subst e;show _=_
         kernel_rfl
        ·have e:=Option.some.inj (show(some 25:Option TypeId)=some t from ht);subst e;show _=_
         kernel_rfl
        ·simp at ht⟩)
    Z
#print axioms proved
end Go.Proofs.YtpmdigdlcejkaaaGreatDoor.passPlays


