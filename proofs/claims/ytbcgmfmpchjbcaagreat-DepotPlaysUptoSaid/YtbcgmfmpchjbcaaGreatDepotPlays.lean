/- This file proves the statement 'DepotPlaysUptoSaid' of the row 'quern/quernlaw27.DepotPlays': the Go function returns true, and the input reads as it did. Conditions: the arguments are together of bulk at most 1048576. -/
import Derived.Test.YtbcgmfmpchjbcaaGreatRows
import Derived.WalkKit
import Derived.ProofKit
import Derived.OpenShut
import Derived.ShutString
import Derived.ChangeOld
import Derived.Below
import Derived.JoinedCond
import Derived.Test.YtbcgmfmpchjbcaaGreatK9
namespace Go.Proofs.YtbcgmfmpchjbcaaGreat.depotPlays
open Go.ChangeShapes Go.WideShapes Go.ChangeAt Go.RowKit Go.Sx
open Go.ChangeMaps (open_string shut_string)
set_option linter.unusedVariables false
set_option linter.unusedSimpArgs false

theorem own:ownKnob Tryz.prog.godebug=none:=by kernel_rfl
theorem laidOut:laidOutB Tryz.prog=true:=by kernel_rfl
theorem Xy {H:Type}(d:DataW H)(r:List (DataW H)):Rows.uptoBulkAll (d::r)=Rows.uptoBulk d+Rows.uptoBulkAll r:=rfl
theorem bulk_nil {H:Type}:Rows.uptoBulkAll ([]:List (DataW H))=0:=rfl
theorem Il {H:Type}(l:List (DataW H)):Rows.uptoBulk (.agg l)=Rows.uptoBulkAll l+1:=rfl
theorem Nk {H:Type}(l:List UInt8):Rows.uptoBulk (DataW.lit (H:=H) (.string l))=l.length+1:=rfl
theorem bulk_one {H:Type}(d:DataW H):0+1<=Rows.uptoBulk d:=by
  cases d with
  | lit l=>cases l <;> simp[Rows.uptoBulk]
  | _=>simp[Rows.uptoBulk]
theorem bulk_len {H:Type}(l:List (DataW H)):l.length<=Rows.uptoBulkAll l:=by
  induction l with
  | nil=>simp[Rows.uptoBulkAll]
  | cons x r ih=>have:=bulk_one x;simp only[Rows.uptoBulkAll,List.length_cons];omega
theorem EE {H:Type}{d:DataW H}{l:List (DataW H)}(h:d ∈ l):Rows.uptoBulk d<=Rows.uptoBulkAll l:=by
  induction l with
  | nil=>cases h
  | cons x r ih =>
    simp only[Rows.uptoBulkAll];cases List.mem_cons.1 h with
    | inl e=>subst e;omega
    | inr e=>have:=ih e;omega
theorem VN {H:Type}(k:IntKind)(zs:List Int)(l:Nat)(h:l<=zs.length):l+1<=Rows.uptoBulk (.slice (lits (H:=H) k (zs.take l)) (lits k (zs.drop l))):=by
  have h1:=bulk_len (lits (H:=H) k (zs.take l));simp only[lits,List.length_map,List.length_take] at h1;simp only[Rows.uptoBulk];simp only[lits] at *;omega
theorem bulk_fam {H:Type}:∀ (ds:List (DataW H)) (xs:List (List UInt8)),Fam ds xs->Tot xs<=Rows.uptoBulkAll ds
  | [],[],_=>Nat.le_refl _
  | [],_::_,h=>h.elim
  | _::_,[],h=>h.elim
  | d::ds,x::xs,⟨h,hr⟩=>by
    have h1:=bulk_fam ds xs hr;have h2:x.length+1<=Rows.uptoBulk d:=by
      rcases h with h0 | ⟨zs,h3,h4⟩
      ·subst h0;exact bulk_one d
      ·rw[h3];exact VN .u8 zs x.length h4
    simp only[Tot,Rows.uptoBulkAll];omega
theorem bulk_bound {H:Type}{l:List (DataW H)}(hk:Rows.uptoSmall H l=true):Rows.uptoBulkAll l<=1048576:=by
  simpa [Rows.uptoSmall] using hk

set_option maxRecDepth 100000 in
theorem contract (H:Type)(enc:TypeId×Value->H)(W:World)(base:Nat)(args:Array Value)(ds gs:List (DataW H))(before:List MemPlace)
    (hval0:∀ (j:Nat) t v,Tryz.f3.params[j]?=some t->args[j]?=some v->Value.okWide Tryz.prog W .any base t v)
    (hW:DataW.Whole enc Tryz.prog Tryz.f3.params.toList Rows.depotPlaysSpec.vars false W args.toList ds gs before)
    (hk:Rows.uptoSmall H (ds++gs)=true) :
    Calls Tryz.prog 3 args W fun e W'=>∃ v,e=.returned v/\Rows.depotPlaysSpec.post enc Tryz.prog Tryz.f3 false true false false W args v W':=by
  have hval:∀ (j:Nat) t v,Tryz.f3.params[j]?=some t->args[j]?=some v->Value.okWide Tryz.prog W .any base t v:=hval0;have hW':=hW;obtain⟨p,q,hA0,hV,rfl,hfz,hnd⟩:=hW;have hA:DataW.TrodAll enc Tryz.prog W 0 (fun _=>true) true Tryz.f3.params.toList args.toList ds p:=hA0;rw[Tryz.params3] at hA hval;obtain⟨v0,vs0,d0,ds0,p0,q0,hargs,rfl,rfl,h0,r0⟩:=trodAll_cons hA;obtain⟨v1,vs1,d1,ds1,p1,q1,rfl,rfl,rfl,h1,r1⟩:=trodAll_cons r0;obtain⟨rfl,rfl,rfl⟩:=trodAll_nil r1;obtain rfl:args=#[v0,v1]:=by cases args;simp_all
  obtain⟨rfl,rfl⟩:=trodVars_none hV;have hk1:=bulk_bound hk;have k0:=h0;have lt0:∀ x ∈ p0,x.block < W.heap.size:=by obtain⟨m,hm⟩:=k0;exact DataW.trod_lt m _ _ _ hm
  have bk0_0:Rows.uptoBulk d0<=1048576:=by simp only[List.nil_append,List.append_nil,List.cons_append,Xy,bulk_nil] at hk1;omega
  obtain⟨a0_,rfl⟩:=okWide_int Tryz.underlying3 (hval 0 3 v0 rfl rfl);obtain⟨fuel0,hf0⟩:=h0;simp only[Value.cells] at hf0;obtain⟨m1,hc2,_,w3⟩:=DataW.trod_int Tryz.underlying3 hf0;have r4:=wf_i64 w3;simp only[List.cons.injEq,and_true] at hc2;have he0:=hc2;rw[he0] at k0 hW' ⊢;have k1:=h1;have lt1:∀ x ∈ p1,x.block < W.heap.size:=by obtain⟨m,hm⟩:=k1;exact DataW.trod_lt m _ _ _ hm
  have bk0_1:Rows.uptoBulk d1<=1048576:=by simp only[List.nil_append,List.append_nil,List.cons_append,Xy,bulk_nil] at hk1;omega
  obtain⟨a1_,l1_,c1_,rfl⟩:=okWide_slice Tryz.underlying22 (hval 1 22 v1 rfl rfl);obtain⟨fuel1,hf1⟩:=h1;simp only[Value.cells] at hf1;have hel102:∀ (N_ fuel_:Nat) (cs_:List Value) (x_:DataW H×List MemPlace),Rows.uptoBulk x_.1<=N_->DataW.trod enc Tryz.prog W 0 (fun _=>true) true fuel_ 35 cs_=some x_->∃ (y_:Int×List UInt8×List UInt8×(Hd×List (List UInt8×Hd))×Int) (z_:Int×List UInt8×List UInt8×(List (List UInt8×List UInt8))×Int),cs_=Enc.f (eP eI (eP eS (eP eS (eP eG eI)))) y_/\(RP RQ (RP RQ (RP RQ (RP (RG2 N0 W (eP eS eH) (RP RQ (RH N0 W e8))) RQ)))) y_ z_/\(fun z_:Int×List UInt8×List UInt8×(List (List UInt8×List UInt8))×Int=>max z_.2.1.length (max z_.2.2.1.length (max z_.2.2.2.1.length (Bc (fun z_:List UInt8×List UInt8=>max z_.1.length (z_.2.length)) z_.2.2.2.1)))) z_<=N_:=by
    intro N_ fuel_ cs_ x_ hN_ h_;obtain⟨xs5,n6,hx7,hl8,hf9⟩:=Zr Tryz.underlying35 h_
    try dsimp only at hx7
    obtain⟨y10,hm11,hy12⟩:=hf9 0 _ 3 0 1 rfl rfl rfl (by kernel_rfl);have bk13:Rows.uptoBulk y10.1<=N_:=by have hq:=hN_;rw[hx7] at hq;have:=EE hm11;simp only[Il] at hq;omega
    obtain⟨m14,hc15,_,w16⟩:=DataW.trod_int Tryz.underlying3 hy12;have r17:=wf_i64 w16;obtain⟨y18,hm19,hy20⟩:=hf9 1 _ 9 1 1 rfl rfl rfl (by kernel_rfl);have bk21:Rows.uptoBulk y18.1<=N_:=by have hq:=hN_;rw[hx7] at hq;have:=EE hm19;simp only[Il] at hq;omega
    obtain⟨m22,hc23,hx24,w25⟩:=DataW.trod_string Tryz.underlying9 hy20;obtain⟨x26,e27,ln28⟩:=XZ m22;rw[e27] at hc23;have b29:x26.length<=N_:=by have hq:=bk21;have hx0:=congrArg Prod.fst hx24;try dsimp only at hx0;rw[hx0] at hq;simp only[Nk,Array.length_toList] at hq;have:m22.size=m22.data.size:=rfl;omega
    obtain⟨y30,hm31,hy32⟩:=hf9 2 _ 9 2 1 rfl rfl rfl (by kernel_rfl);have bk33:Rows.uptoBulk y30.1<=N_:=by have hq:=hN_;rw[hx7] at hq;have:=EE hm31;simp only[Il] at hq;omega
    obtain⟨m34,hc35,hx36,w37⟩:=DataW.trod_string Tryz.underlying9 hy32;obtain⟨x38,e39,ln40⟩:=XZ m34;rw[e39] at hc35;have b41:x38.length<=N_:=by have hq:=bk33;have hx0:=congrArg Prod.fst hx36;try dsimp only at hx0;rw[hx0] at hq;simp only[Nk,Array.length_toList] at hq;have:m34.size=m34.data.size:=rfl;omega
    obtain⟨y42,hm43,hy44⟩:=hf9 3 _ 33 3 1 rfl rfl rfl (by kernel_rfl);have bk45:Rows.uptoBulk y42.1<=N_:=by have hq:=hN_;rw[hx7] at hq;have:=EE hm43;simp only[Il] at hq;omega
    have hel80:∀ (N_ fuel_:Nat) (cs_:List Value) (x_:DataW H×List MemPlace),Rows.uptoBulk x_.1<=N_->DataW.trod enc Tryz.prog W 0 (fun _=>true) true fuel_ 123 cs_=some x_->∃ (y_:List UInt8×Hd) (z_:List UInt8×List UInt8),cs_=Enc.f (eP eS eH) y_/\(RP RQ (RH N0 W e8)) y_ z_/\(fun z_:List UInt8×List UInt8=>max z_.1.length (z_.2.length)) z_<=N_:=by
      intro N_ fuel_ cs_ x_ hN_ h_;obtain⟨xs46,n47,hx48,hl49,hf50⟩:=Zr Tryz.underlying123 h_
      try dsimp only at hx48
      obtain⟨y51,hm52,hy53⟩:=hf50 0 _ 9 0 1 rfl rfl rfl (by kernel_rfl);have bk54:Rows.uptoBulk y51.1<=N_:=by have hq:=hN_;rw[hx48] at hq;have:=EE hm52;simp only[Il] at hq;omega
      obtain⟨m55,hc56,hx57,w58⟩:=DataW.trod_string Tryz.underlying9 hy53;obtain⟨x59,e60,ln61⟩:=XZ m55;rw[e60] at hc56;have b62:x59.length<=N_:=by have hq:=bk54;have hx0:=congrArg Prod.fst hx57;try dsimp only at hx0;rw[hx0] at hq;simp only[Nk,Array.length_toList] at hq;have:m55.size=m55.data.size:=rfl;omega
      obtain⟨y63,hm64,hy65⟩:=hf50 1 _ 39 1 1 rfl rfl rfl (by kernel_rfl);have bk66:Rows.uptoBulk y63.1<=N_:=by have hq:=hN_;rw[hx48] at hq;have:=EE hm64;simp only[Il] at hq;omega
      obtain⟨A67,len68,cap69,z70,hc71,w72,hb73⟩:=Go.Sx.open_row Tryz.underlying39 Tryz.underlying5 (by kernel_rfl) hy65;obtain⟨x74,rd75,ln76,lc77⟩:=row_u8 w72;have b78:x74.length<=N_:=by
        rcases hb73 with h0 | ⟨h0,h1⟩
        ·omega
        ·have hq:=VN (H:=H) .u8 z70 len68 h1;rw[<- h0] at hq;have hp:=bk66;try dsimp only at hq hp
         omega
      have E79:=OQ (cs_) 0 1 1 rfl;rw[hc56] at E79;rw[OQ (cs_) 1 1 2 rfl,hc71] at E79;rw[cut_end (cs_) _ 2 hl49 (by kernel_rfl)] at E79;simp only[List.drop_zero,List.cons_append,List.nil_append,List.append_nil] at E79;exact⟨(x59,(A67,len68,cap69)),(x59,x74),E79,⟨rfl,⟨ln76.symm,(by show x74.length<=cap69;omega),(Ro.n0 ((zy x74).symm▸rd75))⟩⟩,Nat.max_le.2 ⟨b62,b78⟩⟩
    obtain⟨A81,len82,cap83,ys84,x85,hc86,ro87,ln88,lc89,fm90⟩:=open_rg (eP eS eH) (RP RQ (RH N0 W e8)) (fun d_ z_=>(fun z_:List UInt8×List UInt8=>max z_.1.length (z_.2.length)) z_<=Rows.uptoBulk d_) Tryz.underlying33 (by kernel_rfl) (fun f_ c_ x_ h_=>hel80 (Rows.uptoBulk x_.1) f_ c_ x_ (Nat.le_refl _) h_) hy44;have b91:Bc (fun z_:List UInt8×List UInt8=>max z_.1.length (z_.2.length)) x85<=N_:=by
      rcases fm90 with h0 | ⟨ds,rest,h0,h1⟩
      ·rw[h0];simp[Bc]
      ·have hq:=N8.tot (bulk:=Rows.uptoBulk) (bulkAll:=Rows.uptoBulkAll) (fun _ _=>rfl) _ _ h1;have hp:=bk45;try dsimp only at h0
       rw[h0] at hp;simp only[Rows.uptoBulk] at hp;omega
    have bl92:x85.length<=N_:=by
      rcases fm90 with h0 | ⟨ds,rest,h0,h1⟩
      ·rw[h0];simp
      ·have hq:=N8.len (bulk:=Rows.uptoBulk) (bulkAll:=Rows.uptoBulkAll) (fun _ _=>rfl) (fun d_=>by unfold Rows.uptoBulk;split <;> omega) _ _ h1;have hp:=bk45;try dsimp only at h0
       rw[h0] at hp;simp only[Rows.uptoBulk] at hp;omega
    obtain⟨y93,hm94,hy95⟩:=hf9 4 _ 3 4 1 rfl rfl rfl (by kernel_rfl);have bk96:Rows.uptoBulk y93.1<=N_:=by have hq:=hN_;rw[hx7] at hq;have:=EE hm94;simp only[Il] at hq;omega
    obtain⟨m97,hc98,_,w99⟩:=DataW.trod_int Tryz.underlying3 hy95;have r100:=wf_i64 w99;have E101:=OQ (cs_) 0 1 1 rfl;rw[hc15] at E101;rw[OQ (cs_) 1 1 2 rfl,hc23] at E101;rw[OQ (cs_) 2 1 3 rfl,hc35] at E101;rw[OQ (cs_) 3 1 4 rfl,hc86] at E101;rw[OQ (cs_) 4 1 5 rfl,hc98] at E101;rw[cut_end (cs_) _ 5 hl8 (by kernel_rfl)] at E101;simp only[List.drop_zero,List.cons_append,List.nil_append,List.append_nil] at E101;exact⟨(m14,x26,x38,((A81,len82,cap83),ys84),m97),(m14,x26,x38,x85,m97),E101,⟨rfl,rfl,rfl,⟨ln88.symm,(by show x85.length<=cap83;omega),ro87⟩,rfl⟩,Nat.max_le.2 ⟨b29,Nat.max_le.2 ⟨b41,Nat.max_le.2 ⟨bl92,b91⟩⟩⟩⟩
  obtain⟨A103,len104,cap105,ys106,x107,hc108,ro109,ln110,lc111,fm112⟩:=open_rg (eP eI (eP eS (eP eS (eP eG eI)))) (RP RQ (RP RQ (RP RQ (RP (RG2 N0 W (eP eS eH) (RP RQ (RH N0 W e8))) RQ)))) (fun d_ z_=>(fun z_:Int×List UInt8×List UInt8×(List (List UInt8×List UInt8))×Int=>max z_.2.1.length (max z_.2.2.1.length (max z_.2.2.2.1.length (Bc (fun z_:List UInt8×List UInt8=>max z_.1.length (z_.2.length)) z_.2.2.2.1)))) z_<=Rows.uptoBulk d_) Tryz.underlying22 (by kernel_rfl) (fun f_ c_ x_ h_=>hel102 (Rows.uptoBulk x_.1) f_ c_ x_ (Nat.le_refl _) h_) hf1;have b113:Bc (fun z_:Int×List UInt8×List UInt8×(List (List UInt8×List UInt8))×Int=>max z_.2.1.length (max z_.2.2.1.length (max z_.2.2.2.1.length (Bc (fun z_:List UInt8×List UInt8=>max z_.1.length (z_.2.length)) z_.2.2.2.1)))) x107<=1048576:=by
    rcases fm112 with h0 | ⟨ds,rest,h0,h1⟩
    ·rw[h0];simp[Bc]
    ·have hq:=N8.tot (bulk:=Rows.uptoBulk) (bulkAll:=Rows.uptoBulkAll) (fun _ _=>rfl) _ _ h1;have hp:=bk0_1;try dsimp only at h0
     rw[h0] at hp;simp only[Rows.uptoBulk] at hp;omega
  have bl114:x107.length<=1048576:=by
    rcases fm112 with h0 | ⟨ds,rest,h0,h1⟩
    ·rw[h0];simp
    ·have hq:=N8.len (bulk:=Rows.uptoBulk) (bulkAll:=Rows.uptoBulkAll) (fun _ _=>rfl) (fun d_=>by unfold Rows.uptoBulk;split <;> omega) _ _ h1;have hp:=bk0_1;try dsimp only at h0
     rw[h0] at hp;simp only[Rows.uptoBulk] at hp;omega
  simp only[List.cons.injEq,and_true] at hc108;have he1:=hc108;rw[he1] at k1 hW' ⊢;clear hA0 hval0;have hm:=SB m1 r4 x107 b113 bl114;refine Calls.mono (RU (F:=N0) (O:=(BW W)) m1 x107 A103 len104 cap105 ys106 (RG2.sh (y:=((A103,len104,cap105),ys106)) ⟨ln110.symm,(by show x107.length<=cap105;omega),ro109⟩ (fun y_ x_ q_=>⟨(And.left q_),(And.left (And.right q_)),(And.left (And.right (And.right q_))),(RG2.sh (And.left (And.right (And.right (And.right q_)))) (fun y_ x_ q_=>⟨(And.left q_),(RH.sh (And.right q_))⟩)),(And.right (And.right (And.right (And.right q_))))⟩)) (Cx.refl1 _) true hm) fun e W' h=>?_;obtain⟨he,cx⟩:=h;have bel:=cx.below;subst he;exact⟨_,rfl,_,_,_,[],_,[],hW',(trodAll_cons_mk (shut_bool Tryz.underlying4 _) trodAll_mk0),(trodAll_cons_mk (Below.trod laidOut (by kernel_rfl) (of_decide_eq_true (by kernel_rfl)) k0 bel lt0) (trodAll_cons_mk (Below.trod laidOut (by kernel_rfl) (of_decide_eq_true (by kernel_rfl)) k1 bel lt1) trodAll_mk0)),rfl,bel.frame _,fun h=>by cases h⟩

set_option maxRecDepth 100000 in
theorem lifted (os:Os)(started:os.Started)(H:Type)(enc:TypeId×Value->H)(F:Stop.Interp) :
    ReturnsInHanded {} Tryz.checked os 3 .any ((Rows.OpenSpec.upto Rows.depotPlaysSpec).pre6 enc Tryz.prog Tryz.f3 Rows.depotPlaysUptoRow.domain false) (((Rows.OpenSpec.upto Rows.depotPlaysSpec).at F).post enc Tryz.prog Tryz.f3 false true false false):=by
  refine returnsInHanded_of_cond (C:=Tryz.checked) (s:=Rows.OpenSpec.upto Rows.depotPlaysSpec) (k:=Rows.uptoSmall) rfl own started (by kernel_rfl) Tryz.func3
    (OpenSpec.witness (enc:=enc) (C:=Tryz.checked) (s:=Rows.OpenSpec.upto Rows.depotPlaysSpec) (k:=Rows.uptoSmall) rfl false ⟨#[],#[.int .i64 0,.slice none 0 0],[]⟩ 8 (by kernel_rfl) (by kernel_rfl) (by kernel_rfl)
      (x:=([.lit (.int .i64 0),.nil],[],[])) (by kernel_rfl) rfl (by kernel_rfl)) ?_
  intro W base args ds gs before hval hW _ hk _;exact contract H enc W base args ds gs before hval hW hk

theorem over:Rows.depotPlaysUptoRow.holds Tryz.pinned (Rows.OpenSpec.upto Rows.depotPlaysSpec) :=
  OpenClaim.holds_of_cond 3 Tryz.f3 rfl rfl rfl rfl rfl rfl rfl ⟨rfl,rfl,rfl,rfl,rfl⟩ rfl rfl rfl rfl rfl (by kernel_rfl) Tryz.func3 (by kernel_rfl)
    (of_decide_eq_true (by kernel_rfl)) (by unfold Func.isWrapper;first | (rw[if_pos (by decide +kernel)];kernel_rfl) | (rw[if_neg (by decide +kernel)];exact⟨rfl,rfl⟩))
    (fun os started H enc _ F=>lifted os started H enc F)

theorem proved:Rows.DepotPlaysUptoSaid:=over
#print axioms proved
end Go.Proofs.YtbcgmfmpchjbcaaGreat.depotPlays

