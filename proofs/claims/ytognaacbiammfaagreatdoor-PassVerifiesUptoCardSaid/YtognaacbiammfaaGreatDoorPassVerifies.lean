/- This file proves the tied card of the row 'quern/quernlaw21.PassVerifies': the Go function returns true, and the input reads as it did. Conditions: the arguments are together of bulk at most 1048576;the listed package-level variables start as the program's text lays them (the card ties that). -/
import Derived.Test.YtognaacbiammfaaGreatDoorRows
import Derived.Test.YtognaacbiammfaaGreatDoorTie
import Derived.Test.YtognaacbiammfaaGreatDoorCards
import Derived.LaidMore
import Derived.Stop.Joined
import Derived.SevenTiedAt
import Derived.Deep.DeepHandedRow
import Derived.Deep.DeepWitnessRowRef
import Derived.Lib.LaidTab
import Derived.Stop.LaidErr
import Derived.WalkKit
import Derived.ProofKit
import Derived.OpenShut
import Derived.ShutString
import Derived.ChangeOld
import Derived.Below
import Derived.JoinedCond
import Derived.Test.YtognaacbiammfaaGreatDoorK7
namespace Go.Proofs.YtognaacbiammfaaGreatDoor.passVerifies
open Go.ChangeShapes Go.WideShapes Go.ChangeAt Go.WideMaps Go.WideElems Go.RowKit Go.Sx
open Go.ChangeMaps (open_string shut_string)
set_option linter.unusedVariables false
set_option linter.unusedSimpArgs false

theorem own:ownKnob Tryz.prog.godebug=none:=by kernel_rfl
theorem laidOut:laidOutB Tryz.prog=true:=by kernel_rfl
theorem IW {H:Type}(d:DataW H)(r:List (DataW H)):Rows.uptoBulkAll (d::r)=Rows.uptoBulk d+Rows.uptoBulkAll r:=rfl
theorem Lh {H:Type}:Rows.uptoBulkAll ([]:List (DataW H))=0:=rfl
theorem Iu {H:Type}(l:List (DataW H)):Rows.uptoBulk (.agg l)=Rows.uptoBulkAll l+1:=rfl
theorem bulk_string {H:Type}(l:List UInt8):Rows.uptoBulk (DataW.lit (H:=H) (.string l))=l.length+1:=rfl
theorem Vs {H:Type}(d:DataW H):0+1<=Rows.uptoBulk d:=by
  cases d with
  | lit l=>cases l <;> simp[Rows.uptoBulk]
  | _=>simp[Rows.uptoBulk]
theorem bulk_len {H:Type}(l:List (DataW H)):l.length<=Rows.uptoBulkAll l:=by
  induction l with
  | nil=>simp[Rows.uptoBulkAll]
  | cons x r ih=>have:=Vs x;simp only[Rows.uptoBulkAll,List.length_cons];omega
theorem FI {H:Type}{d:DataW H}{l:List (DataW H)}(h:d ∈ l):Rows.uptoBulk d<=Rows.uptoBulkAll l:=by
  induction l with
  | nil=>cases h
  | cons x r ih =>
    simp only[Rows.uptoBulkAll];cases List.mem_cons.1 h with
    | inl e=>subst e;omega
    | inr e=>have:=ih e;omega
theorem Gx {H:Type}(k:IntKind)(zs:List Int)(l:Nat)(h:l<=zs.length):l+1<=Rows.uptoBulk (.slice (lits (H:=H) k (zs.take l)) (lits k (zs.drop l))):=by
  have h1:=bulk_len (lits (H:=H) k (zs.take l));simp only[lits,List.length_map,List.length_take] at h1;simp only[Rows.uptoBulk];simp only[lits] at *;omega
theorem bulk_fam {H:Type}:∀ (ds:List (DataW H)) (xs:List (List UInt8)),Fam ds xs->Tot xs<=Rows.uptoBulkAll ds
  | [],[],_=>Nat.le_refl _
  | [],_::_,h=>h.elim
  | _::_,[],h=>h.elim
  | d::ds,x::xs,⟨h,hr⟩=>by
    have h1:=bulk_fam ds xs hr;have h2:x.length+1<=Rows.uptoBulk d:=by
      rcases h with h0 | ⟨zs,h3,h4⟩
      ·subst h0;exact Vs d
      ·rw[h3];exact Gx .u8 zs x.length h4
    simp only[Tot,Rows.uptoBulkAll];omega
theorem Xc {H:Type}{l:List (DataW H)}(hk:Rows.uptoSmall H l=true):Rows.uptoBulkAll l<=1048576:=by
  simpa [Rows.uptoSmall] using hk

theorem gTab : Tryz.prog.globalNamed "internal/strconv.uint64pow10" = some 0 := by kernel_rfl
theorem gTabType:(Tryz.prog.globals[0]?).map (·.type)=some 185:=by kernel_rfl
set_option maxRecDepth 100000 in
theorem table {W:World}(h:laidMetH Tryz.prog Rows.passVerifiesUptoRow.laid W):OC Tryz.prog N0 W:=by
  have h1:laidMet Tryz.prog Rows.passVerifiesUptoRow.laid W:=h;have h2:=laidMet.tail (laidMet.tail h1);exact⟨Lib.tabIs_of_head (rest:=[]) (n:=20) (e:=70) gTab gTabType (by kernel_rfl) (by kernel_rfl) (by kernel_rfl) (by kernel_rfl) h2,_,gTab,id⟩
set_option maxRecDepth 100000 in
theorem contract (H:Type)(enc:TypeId×Value->H)(W:World)(base:Nat)(args:Array Value)(ds gs:List (DataW H))(before:List MemPlace)
    (hval0:∀ (j:Nat) t v,Tryz.f4.params[j]?=some t->args[j]?=some v->Value.okWide Tryz.prog W .any base t v)
    (hW:DataW.Whole enc Tryz.prog Tryz.f4.params.toList Rows.passVerifiesSpec.vars false W args.toList ds gs before)
    (hk:Rows.uptoSmall H (ds++gs)=true) (hT:OC Tryz.prog N0 W) :
    Calls Tryz.prog 4 args W fun e W'=>∃ v,e=.returned v/\Rows.passVerifiesSpec.post enc Tryz.prog Tryz.f4 false true false false W args v W':=by
  have hval:∀ (j:Nat) t v,Tryz.f4.params[j]?=some t->args[j]?=some v->Value.okWide Tryz.prog W .any base t v:=hval0;have hW':=hW;obtain⟨p,q,hA0,hV,rfl,hfz,hnd⟩:=hW;have hA:DataW.TrodAll enc Tryz.prog W 0 (fun _=>true) true Tryz.f4.params.toList args.toList ds p:=hA0;rw[Tryz.params4] at hA hval;obtain⟨v0,vs0,d0,ds0,p0,q0,hargs,rfl,rfl,h0,r0⟩:=trodAll_cons hA;obtain⟨v1,vs1,d1,ds1,p1,q1,rfl,rfl,rfl,h1,r1⟩:=trodAll_cons r0;obtain⟨v2,vs2,d2,ds2,p2,q2,rfl,rfl,rfl,h2,r2⟩:=trodAll_cons r1;obtain⟨v3,vs3,d3,ds3,p3,q3,rfl,rfl,rfl,h3,r3⟩:=trodAll_cons r2;obtain⟨rfl,rfl,rfl⟩:=trodAll_nil r3;obtain rfl:args=#[v0,v1,v2,v3]:=by cases args;simp_all
  obtain⟨rfl,rfl⟩:=trodVars_none hV;have hk1:=Xc hk;have k0:=h0;have lt0:∀ x ∈ p0,x.block < W.heap.size:=by obtain⟨m,hm⟩:=k0;exact DataW.trod_lt m _ _ _ hm
  have Vt:Rows.uptoBulk d0<=1048576:=by simp only[List.nil_append,List.append_nil,List.cons_append,IW,Lh] at hk1;omega
  obtain⟨cs1,rfl,hs2⟩:=okWide_struct Tryz.underlying23 (hval 0 23 v0 rfl rfl);obtain⟨fuel0,hf0⟩:=h0;obtain⟨cs1⟩:=cs1;simp only[Value.cells] at hf0;obtain⟨xs3,n4,hx5,hl6,hf7⟩:=Zx Tryz.underlying23 hf0
  try dsimp only at hx5
  obtain⟨y8,hm9,hy10⟩:=hf7 0 _ 3 0 1 rfl rfl rfl (by kernel_rfl);have bk11:Rows.uptoBulk y8.1<=1048576:=by have hq:=Vt;rw[hx5] at hq;have:=FI hm9;simp only[Iu] at hq;omega
  obtain⟨m12,hc13,_,w14⟩:=DataW.trod_int Tryz.underlying3 hy10;have r15:=wf_i64 w14;obtain⟨y16,hm17,hy18⟩:=hf7 1 _ 3 1 1 rfl rfl rfl (by kernel_rfl);have bk19:Rows.uptoBulk y16.1<=1048576:=by have hq:=Vt;rw[hx5] at hq;have:=FI hm17;simp only[Iu] at hq;omega
  obtain⟨m20,hc21,_,w22⟩:=DataW.trod_int Tryz.underlying3 hy18;have r23:=wf_i64 w22;obtain⟨y24,hm25,hy26⟩:=hf7 2 _ 3 2 1 rfl rfl rfl (by kernel_rfl);have bk27:Rows.uptoBulk y24.1<=1048576:=by have hq:=Vt;rw[hx5] at hq;have:=FI hm25;simp only[Iu] at hq;omega
  obtain⟨m28,hc29,_,w30⟩:=DataW.trod_int Tryz.underlying3 hy26;have r31:=wf_i64 w30;obtain⟨y32,hm33,hy34⟩:=hf7 3 _ 3 3 1 rfl rfl rfl (by kernel_rfl);have bk35:Rows.uptoBulk y32.1<=1048576:=by have hq:=Vt;rw[hx5] at hq;have:=FI hm33;simp only[Iu] at hq;omega
  obtain⟨m36,hc37,_,w38⟩:=DataW.trod_int Tryz.underlying3 hy34;have r39:=wf_i64 w38;obtain⟨y40,hm41,hy42⟩:=hf7 4 _ 3 4 1 rfl rfl rfl (by kernel_rfl);have bk43:Rows.uptoBulk y40.1<=1048576:=by have hq:=Vt;rw[hx5] at hq;have:=FI hm41;simp only[Iu] at hq;omega
  obtain⟨m44,hc45,_,w46⟩:=DataW.trod_int Tryz.underlying3 hy42;have r47:=wf_i64 w46;have E48:=OA (cs1) 0 1 1 rfl;rw[hc13] at E48;rw[OA (cs1) 1 1 2 rfl,hc21] at E48;rw[OA (cs1) 2 1 3 rfl,hc29] at E48;rw[OA (cs1) 3 1 4 rfl,hc37] at E48;rw[OA (cs1) 4 1 5 rfl,hc45] at E48;rw[cut_end (cs1) _ 5 hl6 (by kernel_rfl)] at E48;simp only[List.drop_zero,List.cons_append,List.nil_append,List.append_nil] at E48;subst E48;have k1:=h1;have lt1:∀ x ∈ p1,x.block < W.heap.size:=by obtain⟨m,hm⟩:=k1;exact DataW.trod_lt m _ _ _ hm
  have bk0_1:Rows.uptoBulk d1<=1048576:=by simp only[List.nil_append,List.append_nil,List.cons_append,IW,Lh] at hk1;omega
  obtain⟨a1_,l1_,c1_,rfl⟩:=okWide_slice Tryz.underlying24 (hval 1 24 v1 rfl rfl);obtain⟨fuel1,hf1⟩:=h1;simp only[Value.cells] at hf1;obtain⟨A49,len50,cap51,z52,hc53,w54,hb55⟩:=Go.Sx.open_row Tryz.underlying24 Tryz.underlying5 (by kernel_rfl) hf1;obtain⟨x56,rd57,ln58,lc59⟩:=VT w54;have b60:x56.length<=1048576:=by
    rcases hb55 with h0 | ⟨h0,h1⟩
    ·omega
    ·have hq:=Gx (H:=H) .u8 z52 len50 h1;rw[<- h0] at hq;have hp:=bk0_1;try dsimp only at hq hp
     omega
  simp only[List.cons.injEq,and_true] at hc53;have he1:=hc53;rw[he1] at k1 hW' ⊢;have k2:=h2;have lt2:∀ x ∈ p2,x.block < W.heap.size:=by obtain⟨m,hm⟩:=k2;exact DataW.trod_lt m _ _ _ hm
  have bk0_2:Rows.uptoBulk d2<=1048576:=by simp only[List.nil_append,List.append_nil,List.cons_append,IW,Lh] at hk1;omega
  obtain⟨a2_,l2_,c2_,rfl⟩:=okWide_slice Tryz.underlying24 (hval 2 24 v2 rfl rfl);obtain⟨fuel2,hf2⟩:=h2;simp only[Value.cells] at hf2;obtain⟨A61,len62,cap63,z64,hc65,w66,hb67⟩:=Go.Sx.open_row Tryz.underlying24 Tryz.underlying5 (by kernel_rfl) hf2;obtain⟨x68,rd69,ln70,lc71⟩:=VT w66;have b72:x68.length<=1048576:=by
    rcases hb67 with h0 | ⟨h0,h1⟩
    ·omega
    ·have hq:=Gx (H:=H) .u8 z64 len62 h1;rw[<- h0] at hq;have hp:=bk0_2;try dsimp only at hq hp
     omega
  simp only[List.cons.injEq,and_true] at hc65;have he2:=hc65;rw[he2] at k2 hW' ⊢;have k3:=h3;have lt3:∀ x ∈ p3,x.block < W.heap.size:=by obtain⟨m,hm⟩:=k3;exact DataW.trod_lt m _ _ _ hm
  have bk0_3:Rows.uptoBulk d3<=1048576:=by simp only[List.nil_append,List.append_nil,List.cons_append,IW,Lh] at hk1;omega
  obtain⟨a3_,l3_,c3_,rfl⟩:=okWide_slice Tryz.underlying24 (hval 3 24 v3 rfl rfl);obtain⟨fuel3,hf3⟩:=h3;simp only[Value.cells] at hf3;obtain⟨A73,len74,cap75,z76,hc77,w78,hb79⟩:=Go.Sx.open_row Tryz.underlying24 Tryz.underlying5 (by kernel_rfl) hf3;obtain⟨x80,rd81,ln82,lc83⟩:=VT w78;have b84:x80.length<=1048576:=by
    rcases hb79 with h0 | ⟨h0,h1⟩
    ·omega
    ·have hq:=Gx (H:=H) .u8 z76 len74 h1;rw[<- h0] at hq;have hp:=bk0_3;try dsimp only at hq hp
     omega
  simp only[List.cons.injEq,and_true] at hc77;have he3:=hc77;rw[he3] at k3 hW' ⊢;clear hA0 hval0;have hm:=JJ m12 m20 m28 m36 m44 x56 x68 x80;refine Calls.mono (JF (F:=N0) (O:=N0) m12 m20 m28 m36 m44 x56 x68 x80 A49 len50 cap51 A61 len62 cap63 A73 len74 cap75 (Ro.n0 ((LC x56).symm▸rd57)) ln58 lc59 (Ro.n0 ((LC x68).symm▸rd69)) ln70 lc71 (Ro.n0 ((LC x80).symm▸rd81)) ln82 lc83 hT (Cx.refl _) true hm) fun e W' h=>?_;obtain⟨he,cx⟩:=h;have bel:=cx.below;subst he;exact⟨_,rfl,_,_,_,[],_,[],hW',(trodAll_cons_mk (shut_bool Tryz.underlying4 _) trodAll_mk0),(trodAll_cons_mk (Below.trod laidOut (by kernel_rfl) (of_decide_eq_true (by kernel_rfl)) k0 bel lt0) (trodAll_cons_mk (Below.trod laidOut (by kernel_rfl) (of_decide_eq_true (by kernel_rfl)) k1 bel lt1) (trodAll_cons_mk (Below.trod laidOut (by kernel_rfl) (of_decide_eq_true (by kernel_rfl)) k2 bel lt2) (trodAll_cons_mk (Below.trod laidOut (by kernel_rfl) (of_decide_eq_true (by kernel_rfl)) k3 bel lt3) trodAll_mk0)))),rfl,bel.frame _,fun h=>by cases h⟩

theorem door_met (os:Os)(args:Array Value):laidMetH Tryz.prog Rows.passVerifiesUptoRow.laid ((World.doorLaid Tryz.prog 400 os).forCall (fun _ _=>0) ⟨#[],args,[]⟩).memory :=
  laidMetH_of_parts3 (fuel:=8) (laidMet_of_run' 8 (by kernel_rfl) (by kernel_rfl)) (by kernel_rfl) (by kernel_rfl)
theorem reads (os:Os){H:Type}(enc:TypeId×Value->H):∃ places,DataW.whole enc Tryz.prog ((World.doorLaid Tryz.prog 400 os).forCall (fun _ _=>0) ⟨#[],#[.agg #[.int .i64 0,.int .i64 0,.int .i64 0,.int .i64 0,.int .i64 0],.slice none 0 0,.slice none 0 0,.slice none 0 0],[]⟩).memory Tryz.f4.params.toList Rows.passVerifiesSpec.vars false (#[.agg #[.int .i64 0,.int .i64 0,.int .i64 0,.int .i64 0,.int .i64 0],.slice none 0 0,.slice none 0 0,.slice none 0 0]:Array Value).toList 8=some ([.agg [.lit (.int .i64 0),.lit (.int .i64 0),.lit (.int .i64 0),.lit (.int .i64 0),.lit (.int .i64 0)],.nil,.nil,.nil],[],places) :=
  ⟨[],by kernel_rfl⟩

set_option maxRecDepth 100000 in
theorem lifted (os:Os)(started:os.Started)(H:Type)(enc:TypeId×Value->H)(F:Stop.Interp) :
    ReturnsInHanded {} Tryz.checked os 4 .any ((Rows.OpenSpec.upto Rows.passVerifiesSpec).preRow enc Tryz.prog Tryz.f4 Rows.passVerifiesUptoRow.domain false Rows.passVerifiesUptoRow.laid) (((Rows.OpenSpec.upto Rows.passVerifiesSpec).at F).post enc Tryz.prog Tryz.f4 false true false false):=by
  obtain⟨places,hx⟩:=reads os enc;refine returnsInHanded_of_row (C:=Tryz.checked) (s:=Rows.OpenSpec.upto Rows.passVerifiesSpec) own started (by kernel_rfl) Tryz.func4
    (witness_row_atRef (enc:=enc) (C:=Tryz.checked) false (World.doorLaid Tryz.prog 400 os) #[.agg #[.int .i64 0,.int .i64 0,.int .i64 0,.int .i64 0,.int .i64 0],.slice none 0 0,.slice none 0 0,.slice none 0 0] rfl (by kernel_rfl) (by kernel_rfl) (by kernel_rfl)
      (OpenSpec.preRow_of_cond 8 hx (by kernel_rfl) (fun k hk=>by cases hk;kernel_rfl) (by kernel_rfl) (door_met os _))) ?_
  intro W base args ds gs before hval hW hconds hcond hweights hL hShapedOpen hholds;exact contract H enc W base args ds gs before hval hW (hcond _ rfl) (table hL)

theorem row:Rows.PassVerifiesUptoSaid :=
  OpenClaim.holds_of_cond 4 Tryz.f4 rfl rfl rfl rfl rfl rfl rfl ⟨rfl,rfl,rfl,rfl,rfl⟩ rfl rfl rfl rfl rfl (by kernel_rfl) Tryz.func4 (by kernel_rfl)
    (of_decide_eq_true (by kernel_rfl)) (by unfold Func.isWrapper;first | (rw[if_pos (by decide +kernel)];kernel_rfl) | (rw[if_neg (by decide +kernel)];exact⟨rfl,rfl⟩))
    (fun os started H enc _ F=>by rw[OpenClaim.pre_eq_preRow];exact lifted os started H enc F)

theorem proved:Rows.PassVerifiesUptoCardSaid :=
  Claim7.holds_tied_plain_at .later [] [.data, .data, .data] true (true, "032c5efb97b003a78bd5dadf4d71eb175607c1c95652f1b33344b6cff7d53550") false
    row (fun _ h=>by cases h) (by kernel_rfl) (fun _ h=>by cases h) passVerifiesUpto_row_tie rfl ⟨rfl,rfl⟩ (by kernel_rfl) rfl
    (fun f fn hf hfn=>by
      obtain rfl : f = 4 := Option.some.inj ((show Tryz.prog.funcNamed "quern/quernlaw21.PassVerifies" = some 4 by kernel_rfl).symm.trans hf) |>.symm
      obtain rfl:fn=Tryz.f4:=(Option.some.inj (Tryz.func4.symm.trans hfn)).symm;exact⟨by kernel_rfl,fun j t ht=>by
        rw[Tryz.params4] at ht;rcases j with _ | _ | _ | _ | j
        ·have e:=Option.some.inj (show(some 23:Option TypeId)=some t from ht);subst e;show _=_
         kernel_rfl
        ·have e:=Option.some.inj (show(some 24:Option TypeId)=some t from ht);subst e;show _=_
         kernel_rfl
        ·have e:=Option.some.inj (show(some 24:Option TypeId)=some t from ht);subst e;show _=_
         kernel_rfl
        ·have e:=Option.some.inj (show(some 24:Option TypeId)=some t from ht);subst e;show _=_
         kernel_rfl
        ·simp at ht⟩)
    (by kernel_rfl)
#print axioms proved
end Go.Proofs.YtognaacbiammfaaGreatDoor.passVerifies


