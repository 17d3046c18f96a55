/- This file proves the statement 'DicePlaysUptoSaid' of the row 'quern/quernlaw25.DicePlays': the Go function returns true, and the input reads as it did. Conditions: the arguments are together of bulk at most 1048576. -/
import Derived.Test.YtaigeagbdhiccaaGreatRows
import Derived.WalkKit
import Derived.ProofKit
import Derived.OpenShut
import Derived.ShutString
import Derived.ChangeOld
import Derived.Below
import Derived.JoinedCond
import Derived.Test.YtaigeagbdhiccaaGreatK9
namespace Go.Proofs.YtaigeagbdhiccaaGreat.dicePlays
open Go.ChangeShapes Go.WideShapes Go.ChangeAt Go.RowKit Go.Sx
open Go.ChangeMaps (open_string shut_string)
set_option linter.unusedVariables false
set_option linter.unusedSimpArgs false

theorem own:ownKnob Tryz.prog.godebug=none:=by kernel_rfl
theorem laidOut:laidOutB Tryz.prog=true:=by kernel_rfl
theorem Yb {H:Type}(d:DataW H)(r:List (DataW H)):Rows.uptoBulkAll (d::r)=Rows.uptoBulk d+Rows.uptoBulkAll r:=rfl
theorem bulk_nil {H:Type}:Rows.uptoBulkAll ([]:List (DataW H))=0:=rfl
theorem Jr {H:Type}(l:List (DataW H)):Rows.uptoBulk (.agg l)=Rows.uptoBulkAll l+1:=rfl
theorem bulk_string {H:Type}(l:List UInt8):Rows.uptoBulk (DataW.lit (H:=H) (.string l))=l.length+1:=rfl
theorem bulk_one {H:Type}(d:DataW H):0+1<=Rows.uptoBulk d:=by
  cases d with
  | lit l=>cases l <;> simp[Rows.uptoBulk]
  | _=>simp[Rows.uptoBulk]
theorem bulk_len {H:Type}(l:List (DataW H)):l.length<=Rows.uptoBulkAll l:=by
  induction l with
  | nil=>simp[Rows.uptoBulkAll]
  | cons x r ih=>have:=bulk_one x;simp only[Rows.uptoBulkAll,List.length_cons];omega
theorem Gm {H:Type}{d:DataW H}{l:List (DataW H)}(h:d ∈ l):Rows.uptoBulk d<=Rows.uptoBulkAll l:=by
  induction l with
  | nil=>cases h
  | cons x r ih =>
    simp only[Rows.uptoBulkAll];cases List.mem_cons.1 h with
    | inl e=>subst e;omega
    | inr e=>have:=ih e;omega
theorem RZ {H:Type}(k:IntKind)(zs:List Int)(l:Nat)(h:l<=zs.length):l+1<=Rows.uptoBulk (.slice (lits (H:=H) k (zs.take l)) (lits k (zs.drop l))):=by
  have h1:=bulk_len (lits (H:=H) k (zs.take l));simp only[lits,List.length_map,List.length_take] at h1;simp only[Rows.uptoBulk];simp only[lits] at *;omega
theorem bulk_fam {H:Type}:∀ (ds:List (DataW H)) (xs:List (List UInt8)),Fam ds xs->Tot xs<=Rows.uptoBulkAll ds
  | [],[],_=>Nat.le_refl _
  | [],_::_,h=>h.elim
  | _::_,[],h=>h.elim
  | d::ds,x::xs,⟨h,hr⟩=>by
    have h1:=bulk_fam ds xs hr;have h2:x.length+1<=Rows.uptoBulk d:=by
      rcases h with h0 | ⟨zs,h3,h4⟩
      ·subst h0;exact bulk_one d
      ·rw[h3];exact RZ .u8 zs x.length h4
    simp only[Tot,Rows.uptoBulkAll];omega
theorem bulk_bound {H:Type}{l:List (DataW H)}(hk:Rows.uptoSmall H l=true):Rows.uptoBulkAll l<=1048576:=by
  simpa [Rows.uptoSmall] using hk

set_option maxRecDepth 100000 in
theorem contract (H:Type)(enc:TypeId×Value->H)(W:World)(base:Nat)(args:Array Value)(ds gs:List (DataW H))(before:List MemPlace)
    (hval0:∀ (j:Nat) t v,Tryz.f3.params[j]?=some t->args[j]?=some v->Value.okWide Tryz.prog W .any base t v)
    (hW:DataW.Whole enc Tryz.prog Tryz.f3.params.toList Rows.dicePlaysSpec.vars false W args.toList ds gs before)
    (hk:Rows.uptoSmall H (ds++gs)=true) :
    Calls Tryz.prog 3 args W fun e W'=>∃ v,e=.returned v/\Rows.dicePlaysSpec.post enc Tryz.prog Tryz.f3 false true false false W args v W':=by
  have hval:∀ (j:Nat) t v,Tryz.f3.params[j]?=some t->args[j]?=some v->Value.okWide Tryz.prog W .any base t v:=hval0;have hW':=hW;obtain⟨p,q,hA0,hV,rfl,hfz,hnd⟩:=hW;have hA:DataW.TrodAll enc Tryz.prog W 0 (fun _=>true) true Tryz.f3.params.toList args.toList ds p:=hA0;rw[Tryz.params3] at hA hval;obtain⟨v0,vs0,d0,ds0,p0,q0,hargs,rfl,rfl,h0,r0⟩:=trodAll_cons hA;obtain⟨v1,vs1,d1,ds1,p1,q1,rfl,rfl,rfl,h1,r1⟩:=trodAll_cons r0;obtain⟨rfl,rfl,rfl⟩:=trodAll_nil r1;obtain rfl:args=#[v0,v1]:=by cases args;simp_all
  obtain⟨rfl,rfl⟩:=trodVars_none hV;have hk1:=bulk_bound hk;have k0:=h0;have lt0:∀ x ∈ p0,x.block < W.heap.size:=by obtain⟨m,hm⟩:=k0;exact DataW.trod_lt m _ _ _ hm
  have bk0_0:Rows.uptoBulk d0<=1048576:=by simp only[List.nil_append,List.append_nil,List.cons_append,Yb,bulk_nil] at hk1;omega
  obtain⟨a0_,l0_,c0_,rfl⟩:=okWide_slice Tryz.underlying22 (hval 0 22 v0 rfl rfl);obtain⟨fuel0,hf0⟩:=h0;simp only[Value.cells] at hf0;obtain⟨A1,len2,cap3,z4,hc5,w6,hb7⟩:=Go.Sx.open_row Tryz.underlying22 Tryz.underlying5 (by kernel_rfl) hf0;obtain⟨x8,rd9,ln10,lc11⟩:=row_u8 w6;have b12:x8.length<=1048576:=by
    rcases hb7 with h0 | ⟨h0,h1⟩
    ·omega
    ·have hq:=RZ (H:=H) .u8 z4 len2 h1;rw[<- h0] at hq;have hp:=bk0_0;try dsimp only at hq hp
     omega
  simp only[List.cons.injEq,and_true] at hc5;have he0:=hc5;rw[he0] at k0 hW' ⊢;have k1:=h1;have lt1:∀ x ∈ p1,x.block < W.heap.size:=by obtain⟨m,hm⟩:=k1;exact DataW.trod_lt m _ _ _ hm
  have bk0_1:Rows.uptoBulk d1<=1048576:=by simp only[List.nil_append,List.append_nil,List.cons_append,Yb,bulk_nil] at hk1;omega
  obtain⟨a1_,l1_,c1_,rfl⟩:=okWide_slice Tryz.underlying23 (hval 1 23 v1 rfl rfl);obtain⟨fuel1,hf1⟩:=h1;simp only[Value.cells] at hf1;have hel97:∀ (N_ fuel_:Nat) (cs_:List Value) (x_:DataW H×List MemPlace),Rows.uptoBulk x_.1<=N_->DataW.trod enc Tryz.prog W 0 (fun _=>true) true fuel_ 36 cs_=some x_->∃ (y_:Int×UInt64×Int×Int×UInt64×UInt64×Hd×Hd) (z_:Int×UInt64×Int×Int×UInt64×UInt64×List UInt64×List UInt8),cs_=Enc.f (eP eI (eP e64 (eP eI (eP eI (eP eF (eP eF (eP eH eH))))))) y_/\(RP RQ (RP RQ (RP RQ (RP RQ (RP RQ (RP RQ (RP (RH N0 W eF) (RH N0 W e8)))))))) y_ z_/\(fun z_:Int×UInt64×Int×Int×UInt64×UInt64×List UInt64×List UInt8=>z_.2.2.2.2.2.2.2.length) z_<=N_:=by
    intro N_ fuel_ cs_ x_ hN_ h_;obtain⟨xs13,n14,ZH,hl16,hf17⟩:=open_fld Tryz.underlying36 h_
    try dsimp only at ZH
    obtain⟨y18,hm19,hy20⟩:=hf17 0 _ 3 0 1 rfl rfl rfl (by kernel_rfl);have bk21:Rows.uptoBulk y18.1<=N_:=by have hq:=hN_;rw[ZH] at hq;have:=Gm hm19;simp only[Jr] at hq;omega
    obtain⟨m22,hc23,_,w24⟩:=DataW.trod_int Tryz.underlying3 hy20;have r25:=wf_i64 w24;obtain⟨y26,hm27,hy28⟩:=hf17 1 _ 32 1 1 rfl rfl rfl (by kernel_rfl);have bk29:Rows.uptoBulk y26.1<=N_:=by have hq:=hN_;rw[ZH] at hq;have:=Gm hm27;simp only[Jr] at hq;omega
    obtain⟨m30,hc31,_,w32⟩:=DataW.trod_int Tryz.underlying32 hy28;obtain⟨x33,e34⟩:=get_u64 w32;rw[e34] at hc31;obtain⟨y35,hm36,hy37⟩:=hf17 2 _ 3 2 1 rfl rfl rfl (by kernel_rfl);have bk38:Rows.uptoBulk y35.1<=N_:=by have hq:=hN_;rw[ZH] at hq;have:=Gm hm36;simp only[Jr] at hq;omega
    obtain⟨m39,hc40,_,w41⟩:=DataW.trod_int Tryz.underlying3 hy37;have r42:=wf_i64 w41;obtain⟨y43,hm44,hy45⟩:=hf17 3 _ 3 3 1 rfl rfl rfl (by kernel_rfl);have bk46:Rows.uptoBulk y43.1<=N_:=by have hq:=hN_;rw[ZH] at hq;have:=Gm hm44;simp only[Jr] at hq;omega
    obtain⟨m47,hc48,_,w49⟩:=DataW.trod_int Tryz.underlying3 hy45;have r50:=wf_i64 w49;obtain⟨y51,hm52,hy53⟩:=hf17 4 _ 33 4 1 rfl rfl rfl (by kernel_rfl);have bk54:Rows.uptoBulk y51.1<=N_:=by have hq:=hN_;rw[ZH] at hq;have:=Gm hm52;simp only[Jr] at hq;omega
    obtain⟨m55,hc56,_,w57⟩:=Go.Sx.Rf Tryz.underlying33 hy53;have r58:=wf_f64 w57;rw[show m55=(UInt64.ofNat m55).toNat from(UInt64.toNat_ofNat_of_lt' r58).symm] at hc56;obtain⟨y59,hm60,hy61⟩:=hf17 5 _ 33 5 1 rfl rfl rfl (by kernel_rfl);have bk62:Rows.uptoBulk y59.1<=N_:=by have hq:=hN_;rw[ZH] at hq;have:=Gm hm60;simp only[Jr] at hq;omega
    obtain⟨m63,hc64,_,w65⟩:=Go.Sx.Rf Tryz.underlying33 hy61;have r66:=wf_f64 w65;rw[show m63=(UInt64.ofNat m63).toNat from(UInt64.toNat_ofNat_of_lt' r66).symm] at hc64;obtain⟨y67,hm68,hy69⟩:=hf17 6 _ 34 6 1 rfl rfl rfl (by kernel_rfl);have bk70:Rows.uptoBulk y67.1<=N_:=by have hq:=hN_;rw[ZH] at hq;have:=Gm hm68;simp only[Jr] at hq;omega
    obtain⟨A71,len72,cap73,x74,hc75,ro76,ln77,lc78,fm79⟩:=open_rowF Tryz.underlying34 Tryz.underlying33 (by kernel_rfl) hy69;obtain⟨y80,hm81,hy82⟩:=hf17 7 _ 22 7 1 rfl rfl rfl (by kernel_rfl);have bk83:Rows.uptoBulk y80.1<=N_:=by have hq:=hN_;rw[ZH] at hq;have:=Gm hm81;simp only[Jr] at hq;omega
    obtain⟨A84,len85,cap86,z87,hc88,w89,hb90⟩:=Go.Sx.open_row Tryz.underlying22 Tryz.underlying5 (by kernel_rfl) hy82;obtain⟨x91,rd92,ln93,lc94⟩:=row_u8 w89;have b95:x91.length<=N_:=by
      rcases hb90 with h0 | ⟨h0,h1⟩
      ·omega
      ·have hq:=RZ (H:=H) .u8 z87 len85 h1;rw[<- h0] at hq;have hp:=bk83;try dsimp only at hq hp
       omega
    have E96:=Po (cs_) 0 1 1 rfl;rw[hc23] at E96;rw[Po (cs_) 1 1 2 rfl,hc31] at E96;rw[Po (cs_) 2 1 3 rfl,hc40] at E96;rw[Po (cs_) 3 1 4 rfl,hc48] at E96;rw[Po (cs_) 4 1 5 rfl,hc56] at E96;rw[Po (cs_) 5 1 6 rfl,hc64] at E96;rw[Po (cs_) 6 1 7 rfl,hc75] at E96;rw[Po (cs_) 7 1 8 rfl,hc88] at E96;rw[cut_end (cs_) _ 8 hl16 (by kernel_rfl)] at E96;simp only[List.drop_zero,List.cons_append,List.nil_append,List.append_nil] at E96;exact⟨(m22,x33,m39,m47,(UInt64.ofNat m55),(UInt64.ofNat m63),(A71,len72,cap73),(A84,len85,cap86)),(m22,x33,m39,m47,(UInt64.ofNat m55),(UInt64.ofNat m63),x74,x91),E96,⟨rfl,rfl,rfl,rfl,rfl,rfl,⟨ln77.symm,(by show x74.length<=cap73;omega),ro76⟩,⟨ln93.symm,(by show x91.length<=cap86;omega),(Ro.n0 ((e8_all x91).symm▸rd92))⟩⟩,b95⟩
  obtain⟨A98,len99,cap100,ys101,x102,hc103,ro104,ln105,lc106,fm107⟩:=open_rg (eP eI (eP e64 (eP eI (eP eI (eP eF (eP eF (eP eH eH))))))) (RP RQ (RP RQ (RP RQ (RP RQ (RP RQ (RP RQ (RP (RH N0 W eF) (RH N0 W e8)))))))) (fun d_ z_=>(fun z_:Int×UInt64×Int×Int×UInt64×UInt64×List UInt64×List UInt8=>z_.2.2.2.2.2.2.2.length) z_<=Rows.uptoBulk d_) Tryz.underlying23 (by kernel_rfl) (fun f_ c_ x_ h_=>hel97 (Rows.uptoBulk x_.1) f_ c_ x_ (Nat.le_refl _) h_) hf1;have b108:TotG (fun z_:Int×UInt64×Int×Int×UInt64×UInt64×List UInt64×List UInt8=>z_.2.2.2.2.2.2.2.length) x102<=1048576:=by
    rcases fm107 with h0 | ⟨ds,rest,h0,h1⟩
    ·rw[h0];simp[TotG]
    ·have hq:=Q9.tot (bulk:=Rows.uptoBulk) (bulkAll:=Rows.uptoBulkAll) (fun _ _=>rfl) _ _ h1;have hp:=bk0_1;try dsimp only at h0
     rw[h0] at hp;simp only[Rows.uptoBulk] at hp;omega
  have bl109:x102.length<=1048576:=by
    rcases fm107 with h0 | ⟨ds,rest,h0,h1⟩
    ·rw[h0];simp
    ·have hq:=Q9.len (bulk:=Rows.uptoBulk) (bulkAll:=Rows.uptoBulkAll) (fun _ _=>rfl) (fun d_=>by unfold Rows.uptoBulk;split <;> omega) _ _ h1;have hp:=bk0_1;try dsimp only at h0
     rw[h0] at hp;simp only[Rows.uptoBulk] at hp;omega
  simp only[List.cons.injEq,and_true] at hc103;have he1:=hc103;rw[he1] at k1 hW' ⊢;clear hA0 hval0;have hm:=Vd x8 b12 x102 bl109;refine Calls.mono (TS (F:=N0) (O:=(BW W)) x8 x102 A1 len2 cap3 A98 len99 cap100 ys101 (RH.sh (E:=e8) (y:=(A1,len2,cap3)) ⟨ln10.symm,(by show x8.length<=cap3;omega),(Ro.n0 ((e8_all x8).symm▸rd9))⟩) ro104 ln105 lc106 (Cx.refl1 _) true hm) fun e W' h=>?_;obtain⟨he,cx⟩:=h;have bel:=cx.below;subst he;exact⟨_,rfl,_,_,_,[],_,[],hW',(trodAll_cons_mk (shut_bool Tryz.underlying4 _) trodAll_mk0),(trodAll_cons_mk (Below.trod laidOut (by kernel_rfl) (of_decide_eq_true (by kernel_rfl)) k0 bel lt0) (trodAll_cons_mk (Below.trod laidOut (by kernel_rfl) (of_decide_eq_true (by kernel_rfl)) k1 bel lt1) trodAll_mk0)),rfl,bel.frame _,fun h=>by cases h⟩

set_option maxRecDepth 100000 in
theorem lifted (os:Os)(started:os.Started)(H:Type)(enc:TypeId×Value->H)(F:Stop.Interp) :
    ReturnsInHanded {} Tryz.checked os 3 .any ((Rows.OpenSpec.upto Rows.dicePlaysSpec).pre6 enc Tryz.prog Tryz.f3 Rows.dicePlaysUptoRow.domain false) (((Rows.OpenSpec.upto Rows.dicePlaysSpec).at F).post enc Tryz.prog Tryz.f3 false true false false):=by
  refine returnsInHanded_of_cond (C:=Tryz.checked) (s:=Rows.OpenSpec.upto Rows.dicePlaysSpec) (k:=Rows.uptoSmall) rfl own started (by kernel_rfl) Tryz.func3
    (OpenSpec.witness (enc:=enc) (C:=Tryz.checked) (s:=Rows.OpenSpec.upto Rows.dicePlaysSpec) (k:=Rows.uptoSmall) rfl false ⟨#[],#[.slice none 0 0,.slice none 0 0],[]⟩ 8 (by kernel_rfl) (by kernel_rfl) (by kernel_rfl)
      (x:=([.nil,.nil],[],[])) (by kernel_rfl) rfl (by kernel_rfl)) ?_
  intro W base args ds gs before hval hW _ hk _;exact contract H enc W base args ds gs before hval hW hk

theorem over:Rows.dicePlaysUptoRow.holds Tryz.pinned (Rows.OpenSpec.upto Rows.dicePlaysSpec) :=
  OpenClaim.holds_of_cond 3 Tryz.f3 rfl rfl rfl rfl rfl rfl rfl ⟨rfl,rfl,rfl,rfl,rfl⟩ rfl rfl rfl rfl rfl (by kernel_rfl) Tryz.func3 (by kernel_rfl)
    (of_decide_eq_true (by kernel_rfl)) (by unfold Func.isWrapper;first | (rw[if_pos (by decide +kernel)];kernel_rfl) | (rw[if_neg (by decide +kernel)];exact⟨rfl,rfl⟩))
    (fun os started H enc _ F=>lifted os started H enc F)

theorem proved:Rows.DicePlaysUptoSaid:=over
#print axioms proved
end Go.Proofs.YtaigeagbdhiccaaGreat.dicePlays

