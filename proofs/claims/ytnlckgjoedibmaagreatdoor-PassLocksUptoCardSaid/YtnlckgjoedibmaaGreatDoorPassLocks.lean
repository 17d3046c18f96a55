/- This file proves the tied card of the row 'quern/quernlaw21.PassLocks': the Go function returns true, and the input reads as it did. Conditions: the arguments are together of bulk at most 1048576;the listed package-level variables start as the program's text lays them (the card ties that). -/
import Derived.Test.YtnlckgjoedibmaaGreatDoorRows
import Derived.Test.YtnlckgjoedibmaaGreatDoorTie
import Derived.Test.YtnlckgjoedibmaaGreatDoorCards
import Derived.LaidMore
import Derived.Stop.Joined
import Derived.SevenTiedAt
import Derived.Deep.DeepHandedRow
import Derived.Deep.DeepWitnessRowRef
import Derived.Lib.LaidTab
import Derived.Stop.LaidErr
import Derived.WalkKit
import Derived.ProofKit
import Derived.OpenShut
import Derived.ShutString
import Derived.ChangeOld
import Derived.Below
import Derived.JoinedCond
import Derived.Test.YtnlckgjoedibmaaGreatDoorK8
namespace Go.Proofs.YtnlckgjoedibmaaGreatDoor.passLocks
open Go.ChangeShapes Go.WideShapes Go.ChangeAt Go.WideMaps Go.WideElems Go.RowKit Go.Sx
open Go.ChangeMaps (open_string shut_string)
set_option linter.unusedVariables false
set_option linter.unusedSimpArgs false

theorem own:ownKnob Tryz.prog.godebug=none:=by kernel_rfl
theorem laidOut:laidOutB Tryz.prog=true:=by kernel_rfl
theorem G5 {H:Type}(d:DataW H)(r:List (DataW H)):Rows.uptoBulkAll (d::r)=Rows.uptoBulk d+Rows.uptoBulkAll r:=rfl
theorem JI {H:Type}:Rows.uptoBulkAll ([]:List (DataW H))=0:=rfl
theorem bulk_agg {H:Type}(l:List (DataW H)):Rows.uptoBulk (.agg l)=Rows.uptoBulkAll l+1:=rfl
theorem bulk_string {H:Type}(l:List UInt8):Rows.uptoBulk (DataW.lit (H:=H) (.string l))=l.length+1:=rfl
theorem Xi {H:Type}(d:DataW H):0+1<=Rows.uptoBulk d:=by
  cases d with
  | lit l=>cases l <;> simp[Rows.uptoBulk]
  | _=>simp[Rows.uptoBulk]
theorem bulk_len {H:Type}(l:List (DataW H)):l.length<=Rows.uptoBulkAll l:=by
  induction l with
  | nil=>simp[Rows.uptoBulkAll]
  | cons x r ih=>have:=Xi x;simp only[Rows.uptoBulkAll,List.length_cons];omega
theorem bulk_part {H:Type}{d:DataW H}{l:List (DataW H)}(h:d ∈ l):Rows.uptoBulk d<=Rows.uptoBulkAll l:=by
  induction l with
  | nil=>cases h
  | cons x r ih =>
    simp only[Rows.uptoBulkAll];cases List.mem_cons.1 h with
    | inl e=>subst e;omega
    | inr e=>have:=ih e;omega
theorem Yz {H:Type}(k:IntKind)(zs:List Int)(l:Nat)(h:l<=zs.length):l+1<=Rows.uptoBulk (.slice (lits (H:=H) k (zs.take l)) (lits k (zs.drop l))):=by
  have h1:=bulk_len (lits (H:=H) k (zs.take l));simp only[lits,List.length_map,List.length_take] at h1;simp only[Rows.uptoBulk];simp only[lits] at *;omega
theorem bulk_fam {H:Type}:∀ (ds:List (DataW H)) (xs:List (List UInt8)),Fam ds xs->Tot xs<=Rows.uptoBulkAll ds
  | [],[],_=>Nat.le_refl _
  | [],_::_,h=>h.elim
  | _::_,[],h=>h.elim
  | d::ds,x::xs,⟨h,hr⟩=>by
    have h1:=bulk_fam ds xs hr;have h2:x.length+1<=Rows.uptoBulk d:=by
      rcases h with h0 | ⟨zs,h3,h4⟩
      ·subst h0;exact Xi d
      ·rw[h3];exact Yz .u8 zs x.length h4
    simp only[Tot,Rows.uptoBulkAll];omega
theorem YA {H:Type}{l:List (DataW H)}(hk:Rows.uptoSmall H l=true):Rows.uptoBulkAll l<=1048576:=by
  simpa [Rows.uptoSmall] using hk

theorem gTab : Tryz.prog.globalNamed "internal/strconv.uint64pow10" = some 1 := by kernel_rfl
theorem gTabType:(Tryz.prog.globals[1]?).map (·.type)=some 244:=by kernel_rfl
set_option maxRecDepth 100000 in
theorem table {W:World}(h:laidMetH Tryz.prog Rows.passLocksUptoRow.laid W):I9 Tryz.prog N0 W:=by
  have h1:laidMet Tryz.prog Rows.passLocksUptoRow.laid W:=h;have h2:=laidMet.tail (laidMet.tail h1);exact⟨Lib.tabIs_of_head (rest:=[]) (n:=20) (e:=32) gTab gTabType (by kernel_rfl) (by kernel_rfl) (by kernel_rfl) (by kernel_rfl) h2,_,gTab,id⟩
set_option maxRecDepth 100000 in
theorem contract (H:Type)(enc:TypeId×Value->H)(W:World)(base:Nat)(args:Array Value)(ds gs:List (DataW H))(before:List MemPlace)
    (hval0:∀ (j:Nat) t v,Tryz.f3.params[j]?=some t->args[j]?=some v->Value.okWide Tryz.prog W .any base t v)
    (hW:DataW.Whole enc Tryz.prog Tryz.f3.params.toList Rows.passLocksSpec.vars false W args.toList ds gs before)
    (hk:Rows.uptoSmall H (ds++gs)=true) (hT:I9 Tryz.prog N0 W) :
    Calls Tryz.prog 3 args W fun e W'=>∃ v,e=.returned v/\Rows.passLocksSpec.post enc Tryz.prog Tryz.f3 false true false false W args v W':=by
  have hval:∀ (j:Nat) t v,Tryz.f3.params[j]?=some t->args[j]?=some v->Value.okWide Tryz.prog W .any base t v:=hval0;have hW':=hW;obtain⟨p,q,hA0,hV,rfl,hfz,hnd⟩:=hW;have hA:DataW.TrodAll enc Tryz.prog W 0 (fun _=>true) true Tryz.f3.params.toList args.toList ds p:=hA0;rw[Tryz.params3] at hA hval;obtain⟨v0,vs0,d0,ds0,p0,q0,hargs,rfl,rfl,h0,r0⟩:=trodAll_cons hA;obtain⟨v1,vs1,d1,ds1,p1,q1,rfl,rfl,rfl,h1,r1⟩:=trodAll_cons r0;obtain⟨v2,vs2,d2,ds2,p2,q2,rfl,rfl,rfl,h2,r2⟩:=trodAll_cons r1;obtain⟨v3,vs3,d3,ds3,p3,q3,rfl,rfl,rfl,h3,r3⟩:=trodAll_cons r2;obtain⟨v4,vs4,d4,ds4,p4,q4,rfl,rfl,rfl,h4,r4⟩:=trodAll_cons r3;obtain⟨rfl,rfl,rfl⟩:=trodAll_nil r4;obtain rfl:args=#[v0,v1,v2,v3,v4]:=by cases args;simp_all
  obtain⟨rfl,rfl⟩:=trodVars_none hV;have hk1:=YA hk;have k0:=h0;have lt0:∀ x ∈ p0,x.block < W.heap.size:=by obtain⟨m,hm⟩:=k0;exact DataW.trod_lt m _ _ _ hm
  have bk0_0:Rows.uptoBulk d0<=1048576:=by simp only[List.nil_append,List.append_nil,List.cons_append,G5,JI] at hk1;omega
  obtain⟨a0_,rfl⟩:=okWide_int Tryz.underlying5 (hval 0 5 v0 rfl rfl);obtain⟨fuel0,hf0⟩:=h0;simp only[Value.cells] at hf0;obtain⟨m1,hc2,_,w3⟩:=DataW.trod_int Tryz.underlying5 hf0;obtain⟨x4,e5⟩:=XG w3;rw[e5] at hc2;simp only[List.cons.injEq,and_true] at hc2;have he0:=hc2;rw[he0] at k0 hW' ⊢;have k1:=h1;have lt1:∀ x ∈ p1,x.block < W.heap.size:=by obtain⟨m,hm⟩:=k1;exact DataW.trod_lt m _ _ _ hm
  have bk0_1:Rows.uptoBulk d1<=1048576:=by simp only[List.nil_append,List.append_nil,List.cons_append,G5,JI] at hk1;omega
  obtain⟨a1_,rfl⟩:=okWide_int Tryz.underlying22 (hval 1 22 v1 rfl rfl);obtain⟨fuel1,hf1⟩:=h1;simp only[Value.cells] at hf1;obtain⟨m6,UW,_,w8⟩:=DataW.trod_int Tryz.underlying22 hf1;obtain⟨x9,e10⟩:=YK w8;rw[e10] at UW;simp only[List.cons.injEq,and_true] at UW;have he1:=UW;rw[he1] at k1 hW' ⊢;have k2:=h2;have lt2:∀ x ∈ p2,x.block < W.heap.size:=by obtain⟨m,hm⟩:=k2;exact DataW.trod_lt m _ _ _ hm
  have bk0_2:Rows.uptoBulk d2<=1048576:=by simp only[List.nil_append,List.append_nil,List.cons_append,G5,JI] at hk1;omega
  obtain⟨a2_,rfl⟩:=okWide_int Tryz.underlying22 (hval 2 22 v2 rfl rfl);obtain⟨fuel2,hf2⟩:=h2;simp only[Value.cells] at hf2;obtain⟨m11,hc12,_,w13⟩:=DataW.trod_int Tryz.underlying22 hf2;obtain⟨x14,e15⟩:=YK w13;rw[e15] at hc12;simp only[List.cons.injEq,and_true] at hc12;have he2:=hc12;rw[he2] at k2 hW' ⊢;have k3:=h3;have lt3:∀ x ∈ p3,x.block < W.heap.size:=by obtain⟨m,hm⟩:=k3;exact DataW.trod_lt m _ _ _ hm
  have bk0_3:Rows.uptoBulk d3<=1048576:=by simp only[List.nil_append,List.append_nil,List.cons_append,G5,JI] at hk1;omega
  obtain⟨a3_,rfl⟩:=okWide_int Tryz.underlying5 (hval 3 5 v3 rfl rfl);obtain⟨fuel3,hf3⟩:=h3;simp only[Value.cells] at hf3;obtain⟨m16,hc17,_,w18⟩:=DataW.trod_int Tryz.underlying5 hf3;obtain⟨x19,e20⟩:=XG w18;rw[e20] at hc17;simp only[List.cons.injEq,and_true] at hc17;have he3:=hc17;rw[he3] at k3 hW' ⊢;have k4:=h4;have lt4:∀ x ∈ p4,x.block < W.heap.size:=by obtain⟨m,hm⟩:=k4;exact DataW.trod_lt m _ _ _ hm
  have bk0_4:Rows.uptoBulk d4<=1048576:=by simp only[List.nil_append,List.append_nil,List.cons_append,G5,JI] at hk1;omega
  obtain⟨cs21,rfl⟩:=okWide_arr Tryz.underlying23 (hval 4 23 v4 rfl rfl);obtain⟨fuel4,hf4⟩:=h4;obtain⟨cs21⟩:=cs21;simp only[Value.cells] at hf4;obtain⟨x22,e23⟩:=open_ar8 Tryz.underlying23 Tryz.underlying5 (by kernel_rfl) (by kernel_rfl) hf4;subst e23;clear hA0 hval0;have hm:=O8 x4 x9 x14 x19 x22;refine Calls.mono (O5 (F:=N0) (O:=N0) x4 x9 x14 x19 x22 hT (Cx.refl _) true hm) fun e W' h=>?_;obtain⟨he,cx⟩:=h;have bel:=cx.below;subst he;exact⟨_,rfl,_,_,_,[],_,[],hW',(trodAll_cons_mk (shut_bool Tryz.underlying4 _) trodAll_mk0),(trodAll_cons_mk (Below.trod laidOut (by kernel_rfl) (of_decide_eq_true (by kernel_rfl)) k0 bel lt0) (trodAll_cons_mk (Below.trod laidOut (by kernel_rfl) (of_decide_eq_true (by kernel_rfl)) k1 bel lt1) (trodAll_cons_mk (Below.trod laidOut (by kernel_rfl) (of_decide_eq_true (by kernel_rfl)) k2 bel lt2) (trodAll_cons_mk (Below.trod laidOut (by kernel_rfl) (of_decide_eq_true (by kernel_rfl)) k3 bel lt3) (trodAll_cons_mk (Below.trod laidOut (by kernel_rfl) (of_decide_eq_true (by kernel_rfl)) k4 bel lt4) trodAll_mk0))))),rfl,bel.frame _,fun h=>by cases h⟩

theorem door_met (os:Os)(args:Array Value):laidMetH Tryz.prog Rows.passLocksUptoRow.laid ((World.doorLaid Tryz.prog 400 os).forCall (fun _ _=>0) ⟨#[],args,[]⟩).memory :=
  laidMetH_of_parts3 (fuel:=8) (laidMet_of_run' 8 (by kernel_rfl) (by kernel_rfl)) (by kernel_rfl) (by kernel_rfl)
theorem reads (os:Os){H:Type}(enc:TypeId×Value->H):∃ places,DataW.whole enc Tryz.prog ((World.doorLaid Tryz.prog 400 os).forCall (fun _ _=>0) ⟨#[],#[.int .u8 0,.int .u32 0,.int .u32 0,.int .u8 0,.agg #[.int .u8 0,.int .u8 0,.int .u8 0,.int .u8 0,.int .u8 0,.int .u8 0,.int .u8 0,.int .u8 0]],[]⟩).memory Tryz.f3.params.toList Rows.passLocksSpec.vars false (#[.int .u8 0,.int .u32 0,.int .u32 0,.int .u8 0,.agg #[.int .u8 0,.int .u8 0,.int .u8 0,.int .u8 0,.int .u8 0,.int .u8 0,.int .u8 0,.int .u8 0]]:Array Value).toList 8=some ([.lit (.int .u8 0),.lit (.int .u32 0),.lit (.int .u32 0),.lit (.int .u8 0),.agg [.lit (.int .u8 0),.lit (.int .u8 0),.lit (.int .u8 0),.lit (.int .u8 0),.lit (.int .u8 0),.lit (.int .u8 0),.lit (.int .u8 0),.lit (.int .u8 0)]],[],places) :=
  ⟨[],by kernel_rfl⟩

set_option maxRecDepth 100000 in
theorem lifted (os:Os)(started:os.Started)(H:Type)(enc:TypeId×Value->H)(F:Stop.Interp) :
    ReturnsInHanded {} Tryz.checked os 3 .any ((Rows.OpenSpec.upto Rows.passLocksSpec).preRow enc Tryz.prog Tryz.f3 Rows.passLocksUptoRow.domain false Rows.passLocksUptoRow.laid) (((Rows.OpenSpec.upto Rows.passLocksSpec).at F).post enc Tryz.prog Tryz.f3 false true false false):=by
  obtain⟨places,hx⟩:=reads os enc;refine returnsInHanded_of_row (C:=Tryz.checked) (s:=Rows.OpenSpec.upto Rows.passLocksSpec) own started (by kernel_rfl) Tryz.func3
    (witness_row_atRef (enc:=enc) (C:=Tryz.checked) false (World.doorLaid Tryz.prog 400 os) #[.int .u8 0,.int .u32 0,.int .u32 0,.int .u8 0,.agg #[.int .u8 0,.int .u8 0,.int .u8 0,.int .u8 0,.int .u8 0,.int .u8 0,.int .u8 0,.int .u8 0]] rfl (by kernel_rfl) (by kernel_rfl) (by kernel_rfl)
      (OpenSpec.preRow_of_cond 8 hx (by kernel_rfl) (fun k hk=>by cases hk;kernel_rfl) (by kernel_rfl) (door_met os _))) ?_
  intro W base args ds gs before hval hW hconds hcond hweights hL hShapedOpen hholds;exact contract H enc W base args ds gs before hval hW (hcond _ rfl) (table hL)

theorem row:Rows.PassLocksUptoSaid :=
  OpenClaim.holds_of_cond 3 Tryz.f3 rfl rfl rfl rfl rfl rfl rfl ⟨rfl,rfl,rfl,rfl,rfl⟩ rfl rfl rfl rfl rfl (by kernel_rfl) Tryz.func3 (by kernel_rfl)
    (of_decide_eq_true (by kernel_rfl)) (by unfold Func.isWrapper;first | (rw[if_pos (by decide +kernel)];kernel_rfl) | (rw[if_neg (by decide +kernel)];exact⟨rfl,rfl⟩))
    (fun os started H enc _ F=>by rw[OpenClaim.pre_eq_preRow];exact lifted os started H enc F)

theorem proved:Rows.PassLocksUptoCardSaid :=
  Claim7.holds_tied_plain_at .later [] [.data, .data, .data] true (true, "0a40aeae05dc3934a14151a58d6bf5e43c69dbc94be1dcb11c0ad491ee6048a4") false
    row (fun _ h=>by cases h) (by kernel_rfl) (fun _ h=>by cases h) passLocksUpto_row_tie rfl ⟨rfl,rfl⟩ (by kernel_rfl) rfl
    (fun f fn hf hfn=>by
      obtain rfl : f = 3 := Option.some.inj ((show Tryz.prog.funcNamed "quern/quernlaw21.PassLocks" = some 3 by kernel_rfl).symm.trans hf) |>.symm
      obtain rfl:fn=Tryz.f3:=(Option.some.inj (Tryz.func3.symm.trans hfn)).symm;exact⟨by kernel_rfl,fun j t ht=>by
        rw[Tryz.params3] at ht;rcases j with _ | _ | _ | _ | _ | j
        ·have e:=Option.some.inj (show(some 5:Option TypeId)=some t from ht);subst e;show _=_
         kernel_rfl
        ·have e:=Option.some.inj (show(some 22:Option TypeId)=some t from ht);subst e;show _=_
         kernel_rfl
        ·have e:=Option.some.inj (show(some 22:Option TypeId)=some t from ht);subst e;show _=_
         kernel_rfl
        ·have e:=Option.some.inj (show(some 5:Option TypeId)=some t from ht);subst e;show _=_
         kernel_rfl
        ·have e:=Option.some.inj (show(some 23:Option TypeId)=some t from ht);subst e;show _=_
         kernel_rfl
        ·simp at ht⟩)
    (by kernel_rfl)
#print axioms proved
end Go.Proofs.YtnlckgjoedibmaaGreatDoor.passLocks


