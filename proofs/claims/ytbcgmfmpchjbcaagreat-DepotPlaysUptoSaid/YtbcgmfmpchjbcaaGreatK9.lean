import Derived.Test.YtbcgmfmpchjbcaaGreatK8
namespace Go.Sx
open Go.RowKit
set_option linter.unusedVariables false
set_option linter.unusedSimpArgs false
section
def told (S:Sn):Int:=(S.map (fun p=>sizes p.2)).sum
theorem f0_sum (C:Ch):∀ s:Int,jB lC (bC s) C=some (bC (s+(xx C:Int))):=by
  induction C with
  | nil=>intro s;simp[jB,xx]
  | cons p r ih =>
    intro s;obtain⟨k,v⟩:=p;simp only[jB,lC,A0o,Hl];rw[ih];congr 2;simp only[xx,kw,List.sum_cons];omega
theorem f1_sum (S:Sn):∀ s:Int,jB lu (bC s) S=some (bC (s+told S)):=by
  induction S with
  | nil=>intro s;simp[jB,told]
  | cons p r ih =>
    intro s;obtain⟨k,v⟩:=p;simp only[jB,lu];rw[Qi];simp only[A0o];rw[ih];congr 2;simp only[told,sizes,kw,List.sum_cons];omega
theorem t0_ok (m:QW):∀ s:A0J,∃ s',jB jl s m=some s'/\s'.length<=s.length+m.length/\∀ k,bn s' k=if k ∈ m.map (·.1) then some 1 else bn s k:=by
  induction m with
  | nil=>intro s;exact⟨s,rfl,by simp,fun k=>by simp⟩
  | cons p r ih =>
    intro s;obtain⟨k0,v⟩:=p;obtain⟨s',h1,h2,h3⟩:=ih (gQ s k0 1);refine⟨s',?_,?_,fun k=>?_⟩
    ·simp only[jB,jl,A0o];exact h1
    ·have:=FU k0 (1:Int) s;simp only[bi];omega
    ·rw[h3,wz];simp only[kw,ut];by_cases h4:k ∈ r.map (·.1)
     ·simp[h4]
     ·by_cases h5:k0=k
      ·simp[h5]
      ·rw[if_neg h4,if_neg h5,if_neg];rintro(h6 | h6)
       ·exact h5 h6.symm
       ·exact h4 h6
theorem t1_ok (m:QW):(m.map (·.1)).Nodup->∀ s:A0J,∃ s',jB jk s m=some s'/\s'.length<=s.length+m.length/\∀ k,bn s' k=if k ∈ m.map (·.1) then some (bC ((bn s k).getD 0+2)) else bn s k:=by
  induction m with
  | nil=>intro _ s;exact⟨s,rfl,by simp,fun k=>by simp⟩
  | cons p r ih =>
    intro hn s;obtain⟨k0,v⟩:=p;rw[kw,List.nodup_cons] at hn;obtain⟨s',h1,h2,h3⟩:=ih hn.2 (gQ s k0 (bC ((bn s k0).getD 0+2)));refine⟨s',?_,?_,fun k=>?_⟩
    ·simp only[jB,jk,A0o];exact h1
    ·have:=FU k0 (bC ((bn s k0).getD 0+2)) s;simp only[bi];omega
    ·rw[h3,wz];simp only[kw,ut];by_cases h5:k0=k
     ·subst h5;rw[if_neg hn.1,if_pos rfl,if_pos (.inl rfl)]
     ·rw[if_neg h5];by_cases h4:k ∈ r.map (·.1)
      ·rw[if_pos h4,if_pos (.inr h4)]
      ·rw[if_neg h4,if_neg];rintro(h6 | h6)
       ·exact h5 h6.symm
       ·exact h4 h6
end
section
theorem see_ne:∀ (l:List Fi)(s:A0J×Nat)(e:Int),tZ YQ (fun _=>(none:A06)) l s=some e->e≠0
  | [],_,_,h=>by cases h
  | f::l,s,e,h=>by
    unfold tZ YQ at h;by_cases h1:um f.1=false
    ·rw[if_pos h1] at h;cases h;decide
    rw[if_neg h1] at h;by_cases h2:(bn s.1 f.1).isSome=true
    ·rw[if_pos h2] at h;cases h;decide
    rw[if_neg h2] at h;exact see_ne l _ e h
end
section
theorem NP (a:AC)(h:a.length<=100000000000000):uM a a=some true:=by
  unfold uM BM;rw[if_neg (by simp)];have:aQ (yT a a) (0:Int)=some true:=by
    refine gm (fun i=>(i:Int)) a.length (fun i hi=>?_) ?_
    ·unfold yT;rw[if_pos (by omega),bf hi];simp only[A0o,ne_eq,not_true_eq_false,if_false];rw[kL i (by omega)]
    ·unfold yT;rw[if_neg (by omega)];rfl
  rw[this];rfl
theorem agree_nil (C:Ch):Agree C []:=fun k v h=>by cases h
theorem YU {α:Type}(f:α->AC)(k:Nat):∀ l:List α,(∀ p ∈ l,(f p).length<=k)->(l.map f).flatten.length<=k*l.length
  | [],_=>by simp
  | p::l,h=>by
    have h1:=YU f k l (fun q hq=>h q (A0e _ hq));have h2:=h p A0g;simp only[kw,A1E,Pi,bi,Nat.mul_succ];omega
end
section
abbrev Tx:=Option AC
def tk (n:Nat):Tx->AC×Tx
  | none=>([],none)
  | some p=>if p.length < n then([],none) else(p.take n,some (p.drop n))
def nu (k:Nat)(t:Tx):Nat×Tx:=(D7 (tk k t).1,(tk k t).2)
def ma (k:Nat)(t:Tx):Nat×Tx :=
  match(nu k t).2 with
  | none=>(0,none)
  | some p=>if p.length < (nu k t).1 then(0,none) else((nu k t).1,some p)
end
section
variable {α ρ:Type}
def rep (f:Tx->α×Tx):Nat->Tx->List α×Tx
  | 0,t=>([],t)
  | _+1,none=>([],none)
  | n+1,some p=>((f (some p)).1::(rep f n (f (some p)).2).1,(rep f n (f (some p)).2).2)
abbrev Ae:=AC×Int×WP
abbrev wB:=AC×List Ae
def blob1 (t:Tx):AC×Tx:=tk (ma 2 t).1 (ma 2 t).2
def hd3 (b:AC):AC×Tx:=tk 3 (some b)
def hdz (b:AC):Nat×Tx:=nu 1 (hd3 b).2
def hdn (b:AC):Nat×Tx:=ma 4 (hdz b).2
def L6 (b:AC):WP×Tx:=rep blob1 (hdn b).1 (hdn b).2
theorem Af {β:Type}{a c:List β}{k:Nat}(hk:k<=64)(h:a.length+c.length<=1000000000000):app a c k=some (a++c):=uJ (by
  have:(a.length+c.length)*k<=1000000000000*64:=Nat.mul_le_mul h hk;omega)
theorem ed (i:Nat)(h:i<=1000000000000):bC ((i:Int)+1)=((i+1:Nat):Int):=by rw[jP (by omega)];omega
end
section
def emap (L:List Ae):QW:=L.map fun e=>(e.1,(e.2.1,e.2.2.flatten))
def smap (N:List wB):Sn:=N.map fun s=>(s.1,emap s.2)
def ER (L:List Ae):Prop:=(∀ e ∈ L,um e.1=true/\e.2.1<=1048576)/\mM (emap L)
def NR (N:List wB):Prop:=(∀ s ∈ N,um s.1=true/\s.2.length<=256/\ER s.2)/\mM (smap N)
theorem AU {δ:Type}:mM ([]:Mp δ):=List.Pairwise.nil
end
section
theorem JP (L:List Ae):(emap L).length=L.length:=by unfold emap;rw[A0a]
theorem Ih (N:List wB):(smap N).length=N.length:=by unfold smap;rw[A0a]
end
section
theorem JQ {ρ:Type}(f:Int->Option (Int⊕ρ))(n:Nat)(P:Nat->Bool)(bad:ρ)(fin:Option ρ)(h:∀ i,i < n->f (i:Int)=some (if P i=true then .inl ((i+1:Nat):Int) else .inr bad))(he:f (n:Int)=Option.map Sum.inr fin)(hf:fin.isSome=true) :
    aQ f (0:Int)=if(List.range n).all P=true then fin else some bad:=by
  obtain⟨r,rfl⟩:=Option.isSome_iff_exists.1 hf;have key:∀ m i,i+m=n->(List.range i).all P=true->aQ f (i:Int)=if(List.range n).all P=true then some r else some bad:=by
    intro m
    induction m with
    | zero =>
      intro i hi ha;obtain rfl:i=n:=by omega
      rw[if_pos ha,fZ (r:=r) he]
    | succ m ih =>
      intro i hi ha;have hs:=h i (by omega);by_cases hp:P i=true
      ·rw[if_pos hp] at hs;rw[fE hs];refine ih (i+1) (by omega) ?_;rw[List.range_succ,List.all_append,ha];simp[hp]
      ·rw[if_neg hp] at hs;rw[fZ hs,if_neg];intro hall;exact hp (List.all_eq_true.1 hall i (List.mem_range.2 (by omega)))
  exact key n 0 (by omega) rfl
theorem rname (s:AC)(hs:s.length<=16000000):Eo s=some (um s):=by
  unfold Eo;rw[JQ (Bg s) s.length (fun i=>!(decide (s[i]?.getD 0 < 33)||decide ((126:UInt8) < s[i]?.getD 0))) false (some (decide (1<=(s.length:Int))&&decide ((s.length:Int)<=64)))]
  ·unfold um;have hall:(List.range s.length).all (fun i=>!(decide (s[i]?.getD 0 < 33)||decide ((126:UInt8) < s[i]?.getD 0)))=s.all (fun c=>!(decide (c < 33)||decide ((126:UInt8) < c))):=by
     rw[Bool.eq_iff_iff,List.all_eq_true,List.all_eq_true];constructor
     ·intro h c hc;obtain⟨j,hj,rfl⟩:=List.getElem_of_mem hc;have:=h j (List.mem_range.2 hj)
      rwa [A0l hj] at this
     ·intro h j hj;have hj:=List.mem_range.1 hj;rw[A0l hj];exact h _ (lw hj)
   rw[hall];have hd:(decide (1<=(s.length:Int))&&decide ((s.length:Int)<=64))=decide (1<=s.length/\s.length<=64):=by
     rw[Bool.eq_iff_iff];simp only[A0k,lm];omega
   rw[hd];by_cases h:s.all (fun c=>!(decide (c < 33)||decide ((126:UInt8) < c)))=true
   ·rw[if_pos h,h,Bool.and_true]
   ·rw[if_neg h,Bool.eq_false_iff.2 h,Bool.and_false]
  ·intro i hi;unfold Bg;simp only[];rw[if_pos (by omega),bf hi];simp only[A0o];rw[A0l hi];simp only[Option.getD_some];rw[ed i (by omega)];by_cases h1:s[i] < 33
   ·simp[h1,Io]
   ·by_cases h2:(126:UInt8) < s[i]
    ·simp[h1,h2,Io]
    ·simp[h1,h2,Io]
  ·unfold Bg;simp only[];rw[if_neg (by omega)]
  ·rfl
theorem w64_pred (i:Nat)(h:i+1<=1000000000000):bC (((i+1:Nat):Int) - 1)=(i:Int):=by rw[jP (by omega)];omega
end
section
variable {α:Type}
def tl:Tx->Nat
  | none=>0
  | some p=>p.length
end
section
variable {α:Type}
theorem NQ (z:Nat):∀ l:WP,(∀ c ∈ l,c.length=z)->l.flatten.length=l.length*z
  | [],_=>by simp
  | c::l,h=>by
    rw[A1E,Pi,NQ z l (fun x hx=>h x (A0e _ hx)),h c A0g,bi,Nat.succ_mul];omega
def eEn (z:Nat)(e:Ae):AC:=VB z (e.1,(e.2.1,e.2.2.flatten))
def eSn (z:Nat)(s:wB):AC:=TQ z (s.1,emap s.2)
theorem eSn_eq (z:Nat)(s:wB):eSn z s=[UInt8.ofNat s.1.length]++s.1++MW 4 s.2.length++(s.2.map (eEn z)).flatten:=by
  unfold eSn TQ;simp only[];rw[JP];unfold emap;rw[List.map_map];rfl
theorem Ii {s:AC}(h:um s=true):1<=s.length/\s.length<=64:=by
  unfold um at h;rw[A0k,lm] at h;exact h.1
theorem okE_of (z:Nat)(L:List Ae)(hl:L.length<=256)(hR:ER L)(hs:∀ e ∈ L,0<=e.2.1/\e.2.2.flatten.length<=1000000000):OkE z (emap L):=by
  have hmem:∀ p ∈ emap L,∃ e ∈ L,p=(e.1,(e.2.1,e.2.2.flatten)):=fun p hp=>by
    unfold emap at hp;obtain⟨e,he,rfl⟩:=ww.1 hp;exact⟨e,he,rfl⟩
  refine⟨hR.2,by rw[JP];omega,fun p hp=>?_,fun p hp=>?_,fun p hp=>?_⟩
  ·obtain⟨e,he,rfl⟩:=hmem p hp;exact Ii (hR.1 e he).1
  ·obtain⟨e,he,rfl⟩:=hmem p hp;exact⟨(hs e he).1,(hR.1 e he).2⟩
  ·obtain⟨e,he,rfl⟩:=hmem p hp;exact(hs e he).2
theorem okS_of (z:Nat)(N:List wB)(hl:N.length<=64)(hR:NR N)(hs:∀ s ∈ N,∀ e ∈ s.2,0<=e.2.1/\e.2.2.flatten.length<=1000000000):OkS z (smap N):=by
  have hmem:∀ p ∈ smap N,∃ s ∈ N,p=(s.1,emap s.2):=fun p hp=>by
    unfold smap at hp;obtain⟨e,he,rfl⟩:=ww.1 hp;exact⟨e,he,rfl⟩
  refine⟨hR.2,by rw[Ih];omega,fun p hp=>?_,fun p hp=>?_⟩
  ·obtain⟨s,hs',rfl⟩:=hmem p hp;exact Ii (hR.1 s hs').1
  ·obtain⟨s,hs',rfl⟩:=hmem p hp;exact okE_of z s.2 (hR.1 s hs').2.1 (hR.1 s hs').2.2 (hs s hs')
end
section
variable {δ ε:Type}
theorem mfind_at {m:Mp δ}(h:mM m)(i:Nat)(hi:i < m.length):bn m m[i].1=some m[i].2:=ku h.nodup (lw hi)
theorem srt_lt {m:Mp δ}(h:mM m)(i j:Nat)(hj:j < m.length)(hij:i < j):m[i].1 < m[j].1:=by
  unfold mM at h;have:=List.pairwise_iff_getElem.1 h i j (by rw[A0a];omega) (by rw[A0a];exact hj) hij;simpa using this
theorem blob_run (L:Ch)(hS:mM L)(hL:L.length<=1000000000000)(k:Ky):∀ (m lo hi:Nat),hi - lo=m->lo<=hi->hi<=L.length->(∀ i (h:i < L.length),i < lo->L[i].1 < k)->(∀ i (h:i < L.length),hi<=i->¬ L[i].1 < k) ->
    ∃ lo':Nat,aQ (mr L k) ((lo:Int),(hi:Int))=aQ (mr L k) ((lo':Int),(lo':Int))/\lo'<=L.length/\(∀ i (h:i < L.length),i < lo'->L[i].1 < k)/\(∀ i (h:i < L.length),lo'<=i->¬ L[i].1 < k):=by
  intro m
  induction m using Nat.strongRecOn with
  | _ m ih =>
    intro lo hi hm hle hh h1 h2;by_cases he:lo=hi
    ·subst he;exact⟨lo,rfl,hh,h1,h2⟩
    ·have hmid:bC (Int.tdiv (bC ((lo:Int)+(hi:Int))) 2)=(((lo+hi) / 2:Nat):Int):=by
       rw[jP (n:=(lo:Int)+hi) (by omega)];have:Int.tdiv ((lo:Int)+(hi:Int)) 2=(((lo+hi) / 2:Nat):Int):=by
         rw[Int.tdiv_eq_ediv_of_nonneg (by omega)];omega
       rw[this,jP (by omega)]
     have hml:(lo+hi) / 2 < L.length:=by omega
     by_cases hc:L[(lo+hi) / 2].1 < k
     ·have hstep:mr L k ((lo:Int),(hi:Int))=some (.inl ((((lo+hi) / 2+1:Nat):Int),(hi:Int))):=by
        unfold mr;simp only[];rw[if_pos (by omega),hmid,bf hml];simp only[A0o];rw[xK,if_pos (A0p hc),ed _ (by omega)]
      obtain⟨lo',e,r⟩:=ih (hi - ((lo+hi) / 2+1)) (by omega) ((lo+hi) / 2+1) hi rfl (by omega) hh (fun i h hi2=>by
        by_cases hq:i=(lo+hi) / 2
        ·subst hq;exact hc
        ·exact List.lt_trans (srt_lt hS i ((lo+hi) / 2) hml (by omega)) hc) h2
      exact⟨lo',by rw[fE hstep,e],r⟩
     ·have hstep:mr L k ((lo:Int),(hi:Int))=some (.inl ((lo:Int),(((lo+hi) / 2:Nat):Int))):=by
        unfold mr;simp only[];rw[if_pos (by omega),hmid,bf hml];simp only[A0o];rw[xK,if_neg (by simpa using hc)]
      obtain⟨lo',e,r⟩:=ih ((lo+hi) / 2 - lo) (by omega) lo ((lo+hi) / 2) rfl (by omega) (by omega) h1 (fun i h hi2=>by
        by_cases hq:i=(lo+hi) / 2
        ·subst hq;exact hc
        ·intro hlt;exact hc (List.lt_trans (srt_lt hS ((lo+hi) / 2) i h (by omega)) hlt))
      exact⟨lo',by rw[fE hstep,e],r⟩
theorem NS (L:Ch)(hS:mM L)(hL:L.length<=1000000000000)(k:Ky) :
    ∃ r:Int,sH L k=some r/\((bn L k=none/\r=-1)∨∃ (j:Nat) (h:j < L.length),r=(j:Int)/\L[j].1=k/\bn L k=some L[j].2):=by
  obtain⟨lo,e,h0,h1,h2⟩:=blob_run L hS hL k L.length 0 L.length (by omega) (by omega) (Nat.le_refl _) (fun i h hi=>by omega) (fun i h hi=>by omega);unfold sH;rw[show(0:Int)=((0:Nat):Int) from rfl,e];by_cases hl:lo < L.length
  ·by_cases hk:L[lo].1=k
   ·refine⟨(lo:Int),fZ ?_,.inr ⟨lo,hl,rfl,hk,by rw[<- hk];exact mfind_at hS lo hl⟩⟩;unfold mr;simp only[];rw[if_neg (by omega)];have hd:decide ((lo:Int) < ((L.length:Nat):Int))=true:=A0p (by omega);simp only[hd,Io,if_true];rw[bf hl];simp only[A0o];rw[if_pos (by simp[hk])];rfl
   ·refine⟨-1,fZ ?_,.inl ⟨?_,rfl⟩⟩
    ·unfold mr;simp only[];rw[if_neg (by omega)];have hd:decide ((lo:Int) < ((L.length:Nat):Int))=true:=A0p (by omega);simp only[hd,Io,if_true];rw[bf hl];simp only[A0o];rw[if_neg (by simp[hk])];rfl
    ·rw[jD];intro hmem;obtain⟨p,hp,hpk⟩:=ww.1 hmem;obtain⟨j,hj,rfl⟩:=List.getElem_of_mem hp;rcases Nat.lt_trichotomy j lo with h | h | h
     ·exact LZ (h1 j hj h) hpk
     ·subst h;exact hk hpk
     ·have h3:=srt_lt hS lo j hj h;rw[hpk] at h3;exact h2 lo hl (Nat.le_refl _) h3
  ·refine⟨-1,fZ ?_,.inl ⟨?_,rfl⟩⟩
   ·unfold mr;simp only[];rw[if_neg (by omega)];have hd:decide ((lo:Int) < ((L.length:Nat):Int))=false:=A0q (by omega);simp only[hd,Io,A0z,if_false,A0o,Bool.false_and];rfl
   ·rw[jD];intro hmem;obtain⟨p,hp,hpk⟩:=ww.1 hmem;obtain⟨j,hj,rfl⟩:=List.getElem_of_mem hp;exact LZ (h1 j hj (by omega)) hpk
def insL (k:Ky)(v:AC):Ch->Ch
  | []=>[(k,v)]
  | p::r=>if k < p.1 then(k,v)::p::r else p::insL k v r
theorem Xi (k:Ky)(v:AC):∀ L:Ch,k ∉ L.map (·.1)->insL k v L=gQ L k v
  | [],_=>rfl
  | p::r,h=>by
    rw[kw,ut,not_or] at h;rw[insL,gQ,if_neg h.1,Xi k v r h.2]
theorem lay_run (l:Ch)(hl:l.length<=900000000000)(k:Ky)(v:AC):∀ (m i:Nat) (out:Ch) (done:Bool),i+m=l.length->out.length<=i+1 ->
    aQ (kE l k v) (out,done,(i:Int))=some (out++(if done then l.drop i else insL k v (l.drop i)))
  | 0,i,out,done,hi,ho=>by
    refine fZ ?_;unfold kE;simp only[];rw[if_neg (by omega),List.drop_eq_nil_of_le (by omega)];cases done with
    | true=>simp[wS]
    | false =>
      simp only[Bool.not_false,if_true,A0z,if_false];rw[Af (by omega) (by simp;omega)];rfl
  | m+1,i,out,done,hi,ho=>by
    have hil:i < l.length:=by omega
    have hd:=A0f hil;have hgo:∀ (o:Ch) (d:Bool),o.length<=i+1->aQ (kE l k v) (out,done,(i:Int))=aQ (kE l k v) (o++[l[i]],d,((i+1:Nat):Int))->aQ (kE l k v) (out,done,(i:Int))=some (o++[l[i]]++(if d then l.drop (i+1) else insL k v (l.drop (i+1)))):=by
      intro o d ho he;rw[he];exact lay_run l hl k v m (i+1) (o++[l[i]]) d (by omega) (by rw[Pi,A0n];omega)
    cases done with
    | true =>
      rw[hgo out true ho]
      ·rw[hd];simp
      ·refine fE ?_;unfold kE o8 qK;simp only[];rw[if_pos (by omega)];simp only[Bool.not_true,Io,A0z,if_false,A0o,Bool.false_and];rw[bf hil];simp only[A0o];rw[Af (by omega) (by simp;omega),ed i (by omega)];rfl
    | false =>
      by_cases hk:k < l[i].1
      ·by_cases hoi:out.length<=i
       ·have:=hgo (out++[(k,v)]) true (by rw[Pi,A0n];omega);rw[this]
        ·rw[hd];simp[insL,hk]
        ·refine fE ?_;unfold kE o8 qK;simp only[];rw[if_pos (by omega)];simp only[Bool.not_false,Io,if_true,Bool.true_and];rw[bf hil];simp only[A0o];rw[xK,if_pos (A0p hk),Af (by omega) (by simp;omega)];simp only[A0o];rw[Af (by omega) (by simp;omega),ed i (by omega)];rfl
       ·-- never reached from the beginning;said all the same
        have hstep:kE l k v (out,false,(i:Int))=some (.inl (out++[(k,v)]++[l[i]],true,((i+1:Nat):Int))):=by
          unfold kE o8 qK;simp only[];rw[if_pos (by omega)];simp only[Bool.not_false,Io,if_true,Bool.true_and];rw[bf hil];simp only[A0o];rw[xK,if_pos (A0p hk),Af (by omega) (by simp;omega)];simp only[A0o];rw[Af (by omega) (by simp;omega),ed i (by omega)];rfl
        rw[fE hstep];have hall:∀ (m2 j:Nat) (o:Ch),j+m2=l.length->o.length<=j+2->aQ (kE l k v) (o,true,(j:Int))=some (o++l.drop j):=by
          intro m2
          induction m2 with
          | zero =>
            intro j o hj hoo;refine fZ ?_;unfold kE;simp only[];rw[if_neg (by omega),List.drop_eq_nil_of_le (by omega)];simp[wS]
          | succ m2 ih =>
            intro j o hj hoo;have hjl:j < l.length:=by omega
            have hst:kE l k v (o,true,(j:Int))=some (.inl (o++[l[j]],true,((j+1:Nat):Int))):=by
              unfold kE o8 qK;simp only[];rw[if_pos (by omega)];simp only[Bool.not_true,Io,A0z,if_false,A0o,Bool.false_and];rw[bf hjl];simp only[A0o];rw[Af (by omega) (by simp;omega),ed j (by omega)];rfl
            rw[fE hst,ih (j+1) _ (by omega) (by rw[Pi,A0n];omega),A0f hjl];simp
        rw[hall m (i+1) _ (by omega) (by simp;omega),hd];simp[insL,hk]
      ·rw[hgo out false ho]
       ·rw[hd];simp[insL,hk]
       ·refine fE ?_;unfold kE o8 qK;simp only[];rw[if_pos (by omega)];simp only[Bool.not_false,Io,if_true,Bool.true_and];rw[bf hil];simp only[A0o];rw[xK,if_neg (by simpa using hk),Af (by omega) (by simp;omega),ed i (by omega)];rfl
theorem lay_ok (l:Ch)(hl:l.length<=900000000000)(k:Ky)(v:AC)(hk:k ∉ l.map (·.1)):Az l k v=some (gQ l k v):=by
  unfold Az;have:=lay_run l hl k v l.length 0 [] false (by omega) (by simp);rw[show((0:Nat):Int)=0 from rfl] at this;rw[this];simp only[A0z,if_false,List.nil_append,A1C];rw[Xi k v l hk]
end
section
variable {α σ ρ δ:Type}
theorem foldl_loop (l:List α)(f:σ×Int->Option ((σ×Int)⊕ρ))(g:σ->α->σ)(I:Nat->σ->Prop)(fin:σ->ρ)
    (h:∀ (i:Nat) (hi:i < l.length) (s:σ),I i s->f (s,(i:Int))=some (.inl (g s l[i],((i+1:Nat):Int)))/\I (i+1) (g s l[i]))
    (he:∀ s,I l.length s->f (s,(l.length:Int))=some (.inr (fin s))) :
    ∀ (m i:Nat) (s:σ),i+m=l.length->I i s->aQ f (s,(i:Int))=some (fin ((l.drop i).foldl g s))/\I l.length ((l.drop i).foldl g s)
  | 0,i,s,hi,hI=>by
    obtain rfl:i=l.length:=by omega
    rw[List.drop_length];exact⟨fZ (he s hI),hI⟩
  | m+1,i,s,hi,hI=>by
    obtain⟨h1,h2⟩:=h i (by omega) s hI;rw[A0f (by omega),fE h1];exact foldl_loop l f g I fin h he m (i+1) _ (by omega) h2
def insK (k:Ky):A0G->A0G
  | []=>[k]
  | x::r=>if k=x then x::r else if k < x then k::x::r else x::insK k r
theorem Sj (k:Ky)(v:δ):∀ m:Mp δ,(gQ m k v).map (·.1)=insK k (m.map (·.1))
  | []=>rfl
  | p::r=>by
    rw[gQ,kw,insK];by_cases h:k=p.1
    ·rw[if_pos h,if_pos h,kw,h]
    ·rw[if_neg h,if_neg h];by_cases h2:k < p.1
     ·rw[if_pos h2,if_pos h2];rfl
     ·rw[if_neg h2,if_neg h2,kw,Sj k v r]
theorem insK_mem (k:Ky):∀ ks:A0G,ks.Pairwise (· < ·)->k ∈ ks->insK k ks=ks
  | [],_,h=>by cases h
  | x::r,hp,h=>by
    rw[insK];by_cases h1:k=x
    ·rw[if_pos h1]
    ·rw[if_neg h1];rw[List.pairwise_cons] at hp;rcases ut.1 h with h2 | h2
     ·exact absurd h2 h1
     ·rw[if_neg (Hg (hp.1 k h2)),insK_mem k r hp.2 h2]
def Gh (L:Ch)(x:Ky):Ch:=if bn L x=none then gQ L x [] else L
theorem stp_srt (L:Ch)(x:Ky)(h:mM L):mM (Gh L x):=by
  unfold Gh;split
  ·exact h.gQ x []
  ·exact h
theorem stp_len (L:Ch)(x:Ky):(Gh L x).length<=L.length+1:=by
  unfold Gh;split
  ·exact FU x [] L
  ·omega
theorem stp_keys (L:Ch)(x:Ky)(h:mM L):(Gh L x).map (·.1)=insK x (L.map (·.1)):=by
  unfold Gh;split
  ·exact Sj x [] L
  ·rename_i hn;rw[insK_mem x _ h];rw[jD] at hn;exact Decidable.not_not.1 hn
theorem inc_srt (T:A0J)(x:Ky)(h:mM T):mM (inc T x):=h.gQ x _
theorem inc_keys (T:A0J)(x:Ky):(inc T x).map (·.1)=insK x (T.map (·.1)):=Sj x _ T
theorem NT:∀ (l:A0G)(T:A0J)(L:Ch),mM T->mM L->T.map (·.1)=L.map (·.1)->mM (l.foldl inc T)/\mM (l.foldl Gh L)/\(l.foldl inc T).map (·.1)=(l.foldl Gh L).map (·.1)
  | [],T,L,h1,h2,h3=>⟨h1,h2,h3⟩
  | x::l,T,L,h1,h2,h3=>NT l (inc T x) (Gh L x) (inc_srt T x h1) (stp_srt L x h2) (by rw[inc_keys,stp_keys L x h2,h3])
structure Few (z:Nat)(N:List wB):Prop where
  few:N.length<=64
  KN:∀ s ∈ N,s.2.length<=256
  chs:∀ s ∈ N,∀ e ∈ s.2,e.2.2.length<=1048576
  each:∀ s ∈ N,∀ e ∈ s.2,∀ c ∈ e.2.2,c.length=z
def dgE (L:List Ae):A0G:=(L.map (·.2.2)).flatten
def Ce (N:List wB):A0G:=(N.map (fun s=>dgE s.2)).flatten
theorem named_l2 (kq:Nat)(hkq:kq<=1000000)(e:Ae)(he:e.2.2.length<=1048576)(L:Ch)(hS:mM L)(c0:Nat)(hc0:c0<=800000000000)(hL:L.length<=c0) :
    aQ (ou (kq:Int) e) (L,(0:Int))=some (.inl (e.2.2.foldl Gh L,((kq+1:Nat):Int)))/\mM (e.2.2.foldl Gh L)/\(e.2.2.foldl Gh L).length<=c0+1048576:=by
  have:=foldl_loop e.2.2 (ou (kq:Int) e) Gh (fun i s=>mM s/\s.length<=c0+i) (fun s=>.inl (s,((kq+1:Nat):Int))) (fun i hi s hI=>by
    obtain⟨h1,h2⟩:=hI;refine⟨?_,stp_srt s _ h1,?_⟩
    ·unfold ou;simp only[];rw[if_pos (by omega),bf hi];simp only[A0o];obtain⟨r,hr,hcase⟩:=NS s h1 (by omega) e.2.2[i];rw[hr];simp only[A0o];unfold ry Gh;rcases hcase with⟨h3,rfl⟩ | ⟨j,hj,rfl,h3,h4⟩
     ·rw[if_pos (by omega),lay_ok s (by omega) _ _ (jD.1 h3),if_pos h3,ed i (by omega)];rfl
     ·rw[if_neg (by omega),if_neg (by rw[h4];simp),ed i (by omega)]
    ·have:=stp_len s e.2.2[i];omega) (fun s hI=>by
    unfold ou;simp only[];rw[if_neg (by omega),ed kq (by omega)];rfl) e.2.2.length 0 L (by omega) ⟨hS,by omega⟩
  rw[A1C] at this;exact⟨this.1,this.2.1,A0s this.2.2 (by omega)⟩
theorem named_l1 (N:List wB)(iq:Nat)(hiq:iq < N.length)(hN:N.length<=64)(he:(N[iq]).2.length<=256)(hc:∀ e ∈ (N[iq]).2,e.2.2.length<=1048576)(L:Ch)(hS:mM L)(c0:Nat)(hc0:c0<=700000000000)(hL:L.length<=c0) :
    aQ (oz N (iq:Int)) (L,(0:Int))=some (.inl ((N[iq]).2.foldl (fun s e=>e.2.2.foldl Gh s) L,((iq+1:Nat):Int)))/\mM ((N[iq]).2.foldl (fun s e=>e.2.2.foldl Gh s) L)/\((N[iq]).2.foldl (fun s e=>e.2.2.foldl Gh s) L).length<=c0+268435456:=by
  have:=foldl_loop (N[iq]).2 (oz N (iq:Int)) (fun s e=>e.2.2.foldl Gh s) (fun i s=>mM s/\s.length<=c0+i*1048576) (fun s=>.inl (s,((iq+1:Nat):Int))) (fun i hi s hI=>by
    obtain⟨h1,h2⟩:=hI;obtain⟨e1,e2,e3⟩:=named_l2 i (by omega) (N[iq]).2[i] (hc _ (lw hi)) s h1 (c0+i*1048576) (by omega) h2;refine⟨?_,e2,A0s e3 (by omega)⟩;unfold oz;simp only[];rw[bf hiq];simp only[A0o];rw[if_pos (by omega),bf hi];simp only[A0o];exact e1) (fun s hI=>by
    unfold oz;simp only[];rw[bf hiq];simp only[A0o];rw[if_neg (by omega),ed iq (by omega)];rfl) (N[iq]).2.length 0 L (by omega) ⟨hS,by omega⟩
  rw[A1C] at this;exact⟨this.1,this.2.1,A0s this.2.2 (by omega)⟩
theorem Sm {β:Type}(g:σ->β->σ)(F:α->List β):∀ (l:List α) (s:σ),l.foldl (fun s x=>(F x).foldl g s) s=(l.map F).flatten.foldl g s
  | [],s=>rfl
  | x::l,s=>by rw[List.foldl_cons,kw,A1E,List.foldl_append,Sm g F l]
theorem Sr (z:Nat)(zi:Int)(C:Ch)(N:List wB)(hN:Few z N):wU zi C N=some ((Ce N).foldl Gh [])/\mM ((Ce N).foldl Gh [])/\((Ce N).foldl Gh []).length<=17179869184:=by
  have:=foldl_loop N (rC N) (fun s x=>x.2.foldl (fun s e=>e.2.2.foldl Gh s) s) (fun i s=>mM s/\s.length<=i*268435456) (fun s=>s) (fun i hi s hI=>by
    obtain⟨h1,h2⟩:=hI;have hfew:=hN.few;obtain⟨e1,e2,e3⟩:=named_l1 N i hi hN.few (hN.KN _ (lw hi)) (hN.chs _ (lw hi)) s h1 (i*268435456) (by omega) h2;refine⟨?_,e2,A0s e3 (by omega)⟩;unfold rC;simp only[];rw[if_pos (by omega)];exact e1) (fun s hI=>by
    unfold rC;simp only[];rw[if_neg (by omega)];rfl) N.length 0 [] (by omega) ⟨AU,by simp⟩
  rw[A1C] at this;have hfew:=hN.few;have heq:N.foldl (fun s x=>x.2.foldl (fun s e=>e.2.2.foldl Gh s) s) ([]:Ch)=(Ce N).foldl Gh []:=by
    have h1:(fun(s:Ch) (x:wB)=>x.2.foldl (fun s e=>e.2.2.foldl Gh s) s)=(fun s x=>(dgE x.2).foldl Gh s):=by
      funext s x;exact Sm Gh (fun e:Ae=>e.2.2) x.2 s
    rw[h1];exact Sm Gh (fun x:wB=>dgE x.2) N []
  rw[heq] at this;exact⟨this.1,this.2.1,A0s this.2.2 (by omega)⟩
def Tn (C:Ch)(ks:A0G):A0G:=ks.foldl (fun out k=>if bn C k=none then out++[k] else out) []
theorem lack_len (C:Ch):∀ (ks out:A0G),(ks.foldl (fun out k=>if bn C k=none then out++[k] else out) out).length<=out.length+ks.length
  | [],out=>by simp
  | k::ks,out=>by
    rw[List.foldl_cons];have:=lack_len C ks (if bn C k=none then out++[k] else out);split at this
    ·rename_i h;rw[if_pos h];simp only[Pi,bi,A0b] at this ⊢;omega
    ·rename_i h;rw[if_neg h];simp only[bi];omega
theorem rmissing_ok (z:Nat)(hz:z<=64)(zi:Int)(C:Ch)(hC:mM C)(hCl:C.length<=1000000000)(N:List wB)(hN:Few z N):sQ zi C N=some (Tn C (((Ce N).foldl Gh []).map (·.1))):=by
  obtain⟨e1,e2,e3⟩:=Sr z zi C N hN;unfold sQ;rw[e1];simp only[A0o];have hkl:∀ p ∈ (Ce N).foldl Gh [],p.1.length<=1000:=by
    have key:∀ (l:A0G) (L:Ch),(∀ k ∈ l,k.length<=1000)->(∀ p ∈ L,p.1.length<=1000)->∀ p ∈ l.foldl Gh L,p.1.length<=1000:=by
      intro l
      induction l with
      | nil=>intro L _ h2;exact h2
      | cons x l ih =>
        intro L h1 h2;refine ih (Gh L x) (fun k hk=>h1 k (A0e _ hk)) (fun p hp=>?_);unfold Gh at hp;split at hp
        ·rcases Ic hp with rfl | hp
         ·exact h1 x A0g
         ·exact h2 p hp
        ·exact h2 p hp
    refine key _ _ (fun k hk=>?_) (fun p hp=>by cases hp);unfold Ce at hk;obtain⟨l,hl,hk⟩:=List.mem_flatten.1 hk;obtain⟨s,hs,rfl⟩:=ww.1 hl;unfold dgE at hk;obtain⟨l2,hl2,hk⟩:=List.mem_flatten.1 hk;obtain⟨e,he,rfl⟩:=ww.1 hl2;rw[hN.each s hs e he k hk];omega
  have:=foldl_loop ((Ce N).foldl Gh []) (o_ C ((Ce N).foldl Gh [])) (fun out p=>if bn C p.1=none then out++[p.1] else out) (fun i s=>s.length<=i) (fun s=>s) (fun i hi s hI=>by
    refine⟨?_,?_⟩
    ·unfold o_;simp only[];rw[if_pos (by omega),bf hi];simp only[A0o];obtain⟨r,hr,hcase⟩:=NS C hC (by omega) ((Ce N).foldl Gh [])[i].1;rw[hr];simp only[A0o];unfold o9;rcases hcase with⟨h3,rfl⟩ | ⟨j,hj,rfl,h3,h4⟩
     ·rw[if_pos (by omega),kH (by have:=hkl _ (lw hi);omega)];simp only[A0o];rw[Af (by omega) (by simp;omega),if_pos h3,ed i (by omega)];rfl
     ·rw[if_neg (by omega),if_neg (by rw[h4];simp),ed i (by omega)]
    ·show List.length (if bn C _=none then s++[_] else s)<=i+1;split
     ·rw[Pi,A0n];omega
     ·omega) (fun s hI=>by
    unfold o_;simp only[];rw[if_neg (by omega)];rfl) ((Ce N).foldl Gh []).length 0 [] (by omega) (by simp)
  rw[A1C] at this;rw[show(0:Int)=((0:Nat):Int) from rfl,this.1];unfold Tn;rw[List.foldl_map]
theorem VD (z:Nat)(h1:1<=z)(C:Ch)(S:Sn):∀ (N:List wB) (T:A0J),(∀ s ∈ N,∀ e ∈ s.2,e.2.2.length<=1048576/\∀ c ∈ e.2.2,c.length=z) ->
    jB (lT C S) ((z:Int),T) (smap N)=some ((z:Int),(Ce N).foldl inc T)
  | [],T,_=>rfl
  | s::N,T,h=>by
    have hs:=h s A0g;have hw:∀ p ∈ emap s.2,Whole z p (chop z (p.2.2.length / z) p.2.2)/\∃ e ∈ s.2,p=(e.1,(e.2.1,e.2.2.flatten))/\chop z (p.2.2.length / z) p.2.2=e.2.2:=fun p hp=>by
      unfold emap at hp;obtain⟨e,he,rfl⟩:=ww.1 hp;obtain⟨c1,c2⟩:=hs e he;have hch:chop z (e.2.2.flatten.length / z) e.2.2.flatten=e.2.2:=by
        rw[Nb z e.2.2 c2,Nat.mul_div_cancel _ (by omega)];exact JO z e.2.2 c2
      refine⟨⟨?_,?_,?_⟩,e,he,rfl,hch⟩
      ·show e.2.2.flatten=(chop z (e.2.2.flatten.length / z) e.2.2.flatten).flatten;rw[hch]
      ·show ∀ k ∈ chop z (e.2.2.flatten.length / z) e.2.2.flatten,k.length=z;rw[hch];exact c2
      ·show(chop z (e.2.2.flatten.length / z) e.2.2.flatten).length<=1048576;rw[hch];exact c1
    have he:=told_ens z h1 C S (fun p=>chop z (p.2.2.length / z) p.2.2) (emap s.2) (fun p hp=>(hw p hp).1) T;have hm:(emap s.2).map (fun p=>chop z (p.2.2.length / z) p.2.2)=s.2.map (·.2.2):=by
      unfold emap;rw[List.map_map];refine List.map_congr_left fun e he=>?_;obtain⟨_,e',_,h3,h4⟩:=hw (e.1,(e.2.1,e.2.2.flatten)) (by unfold emap;exact A0j he);show chop z (e.2.2.flatten.length / z) e.2.2.flatten=e.2.2;rw[Nb z e.2.2 (hs e he).2,Nat.mul_div_cancel _ (by omega)];exact JO z e.2.2 (hs e he).2
    rw[hm] at he;have hc:smap (s::N)=(s.1,emap s.2)::smap N:=rfl;rw[hc,jB,UZ,he];simp only[A0o];rw[VD z h1 C S N _ (fun s hs=>h s (A0e _ hs))];unfold Ce;rw[kw,A1E,List.foldl_append];rfl
theorem pmissing_ok (z:Nat)(h1:1<=z)(hz:z<=64)(C:Ch)(N:List wB)(hN:Few z N):o7 (z:Int) C (smap N)=some (Tn C (((Ce N).foldl inc []).map (·.1)),(z:Int)):=by
  obtain⟨hs1,hs2,hs3⟩:=NT (Ce N) [] [] AU AU rfl;obtain⟨_,_,e3⟩:=Sr z 0 [] N hN;have hlen:((Ce N).foldl inc []).length<=17179869184:=by
    have:(((Ce N).foldl inc []).map (·.1)).length=(((Ce N).foldl Gh []).map (·.1)).length:=by rw[hs3]
    rw[A0a,A0a] at this;omega
  unfold o7 dm;simp only[A0o];unfold qi;rw[VD z h1 C (smap N) N [] (fun s hs e he=>⟨hN.chs s hs e he,hN.each s hs e he⟩)];simp only[A0o];generalize hT:(Ce N).foldl inc []=T at hs1 hs3 hlen;unfold uC;rw[kH (by omega)];simp only[A0o];rw[FV hs1];have hkl:∀ k ∈ T.map (·.1),k.length<=1000:=by
    intro k hk;rw[<- hT] at hk;have hmem:k ∈ Ce N:=by
      rcases Si k (Ce N) [] (by rw[Ne,jD];exact fun h=>h hk) with h | h
      ·exact h
      ·exact absurd rfl h
    unfold Ce at hmem;obtain⟨l,hl,hk⟩:=List.mem_flatten.1 hmem;obtain⟨s,hs,rfl⟩:=ww.1 hl;unfold dgE at hk;obtain⟨l2,hl2,hk⟩:=List.mem_flatten.1 hk;obtain⟨e,he,rfl⟩:=ww.1 hl2;rw[hN.each s hs e he k hk];omega
  have hll:(T.map (·.1)).length=T.length:=A0a _;have:=foldl_loop (T.map (·.1)) (nH C (T,(z:Int)) (T.map (·.1))) (fun out k=>if bn C k=none then out++[k] else out) (fun i s=>s.length<=i) (fun s=>(s,(z:Int))) (fun i hi s hI=>by
    refine⟨?_,?_⟩
    ·unfold nH;simp only[];rw[if_pos (by omega),bf hi];simp only[A0o];unfold nG;cases hf:bn C (T.map (·.1))[i] with
     | none =>
       simp only[Option.elim_none];rw[kH (by have:=hkl _ (lw hi);omega)];simp only[A0o];rw[Af (by omega) (by simp;omega),if_pos trivial,ed i (by omega)];rfl
     | some v =>
       simp only[A1A];rw[if_neg (by simp),ed i (by omega)]
    ·show List.length (if bn C _=none then s++[_] else s)<=i+1;split
     ·rw[Pi,A0n];omega
     ·omega) (fun s hI=>by
    unfold nH;simp only[];rw[if_neg (by omega)];rfl) (T.map (·.1)).length 0 [] (by omega) (by simp)
  rw[A1C] at this;rw[show(0:Int)=((0:Nat):Int) from rfl,this.1];rfl
theorem YV (N:List wB)(C:Ch):Tn C (((Ce N).foldl inc []).map (·.1))=Tn C (((Ce N).foldl Gh []).map (·.1)):=by
  rw[(NT (Ce N) [] [] AU AU rfl).2.2]
end
noncomputable section
def offR (by_ ln x:Int):Nat:=far .sub (pF x) (far .quo (pF by_) (pF ln))
def spS (by_ ln:Int)(C:Ch):Nat:=C.foldl (fun s p=>far .add s (far .mul (offR by_ ln ((p.2.length:Nat):Int)) (offR by_ ln ((p.2.length:Nat):Int)))) 0
def Bz (C:Ch)(t:Int):Int×Int×Int×Nat×Nat×Nat :=
  ((C.length:Int),bC (xx C:Int),t,far .sub 4607182418800017408 (far .quo (pF (bC (xx C:Int))) (pF t)),far .quo (pF (bC (xx C:Int))) (pF (C.length:Int)),far .quo (spS (bC (xx C:Int)) (C.length:Int) C) (pF (C.length:Int)))
theorem Xj (zi:Int)(C:Ch)(hC:mM C)(hl:C.length<=1000000000)(S:Sn) :
    nY zi C S=some ((Bz C (bC (told S))).1,(Bz C (bC (told S))).2.1,(Bz C (bC (told S))).2.2.1,(Bz C (bC (told S))).2.2.2.1,(Bz C (bC (told S))).2.2.2.2.1,(Bz C (bC (told S))).2.2.2.2.2,zi):=by
  unfold nY dm;simp only[A0o];have e0:=f0_sum C 0;have e1:=f1_sum S 0;rw[show bC 0=0 from rfl,Int.zero_add] at e0 e1;rw[e0];simp only[A0o];rw[e1];simp only[A0o];unfold rX;rw[kH (by omega)];simp only[A0o];rw[FV hC];have:=foldl_loop C (o6 C zi (bC (xx C:Int)) (bC (told S)) (C.map (·.1))) (fun s p=>far .add s (far .mul (offR (bC (xx C:Int)) (C.length:Int) ((p.2.length:Nat):Int)) (offR (bC (xx C:Int)) (C.length:Int) ((p.2.length:Nat):Int)))) (fun _ _=>True) (fun s=>((Bz C (bC (told S))).1,(Bz C (bC (told S))).2.1,(Bz C (bC (told S))).2.2.1,(Bz C (bC (told S))).2.2.2.1,(Bz C (bC (told S))).2.2.2.2.1,far .quo s (pF (C.length:Int)),zi)) (fun i hi s _=>by
    refine⟨?_,trivial⟩;unfold o6;simp only[];rw[if_pos (by rw[A0a];omega),bf (by rw[A0a];exact hi)];simp only[A0o,A0r];rw[mfind_at hC i hi];simp only[A1A];rw[ed i (by omega)];rfl) (fun s _=>by
    unfold o6;simp only[];rw[if_neg (by rw[A0a];omega)];rfl) C.length 0 0 (by omega) trivial
  rw[A1C] at this;rw[show(0:Int)=((0:Nat):Int) from rfl,this.1];rfl
theorem VE:∀ (C:Ch)(s:Int),C.foldl (fun s p=>bC (s+((p.2.length:Nat):Int))) (bC s)=bC (s+(xx C:Int))
  | [],s=>by simp[xx]
  | p::C,s=>by
    rw[List.foldl_cons,Hl,VE C];congr 1;simp only[xx,kw,List.sum_cons];omega
theorem size_fold:∀ (L:List Ae)(s:Int),L.foldl (fun s e=>bC (s+e.2.1)) (bC s)=bC (s+sizes (emap L))
  | [],s=>by simp[sizes,emap]
  | e::L,s=>by
    rw[List.foldl_cons,Hl,size_fold L];congr 1;simp only[sizes,emap,kw,List.sum_cons];omega
theorem Xk:∀ (N:List wB)(s:Int),N.foldl (fun s x=>x.2.foldl (fun s e=>bC (s+e.2.1)) s) (bC s)=bC (s+told (smap N))
  | [],s=>by simp[told,smap]
  | x::N,s=>by
    rw[List.foldl_cons,size_fold,Xk N];congr 1;simp only[told,smap,kw,List.sum_cons];omega
theorem Xl (z:Nat)(zi:Int)(C:Ch)(hl:C.length<=1000000000)(N:List wB)(hN:Few z N):rY zi C N=some (Bz C (bC (told (smap N)))):=by
  have hfew:=hN.few;have h3:aQ (oD C (bC (xx C:Int)) (bC (told (smap N)))) (0,(0:Int))=some (Bz C (bC (told (smap N)))):=by
    have:=foldl_loop C (oD C (bC (xx C:Int)) (bC (told (smap N)))) (fun s p=>far .add s (far .mul (offR (bC (xx C:Int)) (C.length:Int) ((p.2.length:Nat):Int)) (offR (bC (xx C:Int)) (C.length:Int) ((p.2.length:Nat):Int)))) (fun _ _=>True) (fun s=>((Bz C (bC (told (smap N)))).1,(Bz C (bC (told (smap N)))).2.1,(Bz C (bC (told (smap N)))).2.2.1,(Bz C (bC (told (smap N)))).2.2.2.1,(Bz C (bC (told (smap N)))).2.2.2.2.1,far .quo s (pF (C.length:Int)))) (fun i hi s _=>by
      refine⟨?_,trivial⟩;unfold oD;simp only[];rw[if_pos (by omega),bf hi];simp only[A0o];rw[ed i (by omega)];rfl) (fun s _=>by
      unfold oD;simp only[];rw[if_neg (by omega)];rfl) C.length 0 0 (by omega) trivial
    rw[A1C] at this;rw[show(0:Int)=((0:Nat):Int) from rfl,this.1];rfl
  have h1:aQ (mg C N (bC (xx C:Int))) ((0:Int),(0:Int))=some (Bz C (bC (told (smap N)))):=by
    have h2:∀ (i:Nat) (hi:i < N.length) (s:Int),aQ (oC N (i:Int)) (s,(0:Int))=some (.inl ((N[i]).2.foldl (fun s e=>bC (s+e.2.1)) s,((i+1:Nat):Int))):=by
      intro i hi s;have hle:=hN.KN _ (lw hi);have:=foldl_loop (N[i]).2 (oC N (i:Int)) (fun s e=>bC (s+e.2.1)) (fun _ _=>True) (fun s=>Sum.inl (s,((i+1:Nat):Int))) (fun j hj s _=>by
        refine⟨?_,trivial⟩;unfold oC;simp only[];rw[bf hi];simp only[A0o];rw[if_pos (by omega),bf hj];simp only[A0o];rw[ed j (by omega)]) (fun s _=>by
        unfold oC;simp only[];rw[bf hi];simp only[A0o];rw[if_neg (by omega),ed i (by omega)];rfl) (N[i]).2.length 0 s (by omega) trivial
      rw[A1C] at this;exact this.1
    obtain⟨r,hr⟩:∃ r,r=Bz C (bC (told (smap N))):=⟨_,rfl⟩
    have hall:∀ (m i:Nat) (s:Int),i+m=N.length->(N.drop i).foldl (fun s x=>x.2.foldl (fun s e=>bC (s+e.2.1)) s) s=bC (told (smap N))->aQ (mg C N (bC (xx C:Int))) (s,(i:Int))=some r:=by
      intro m
      induction m with
      | zero =>
        intro i s hi hs;rw[List.drop_eq_nil_of_le (by omega),List.foldl_nil] at hs;subst hs;refine fZ ?_;unfold mg;simp only[];rw[if_neg (by omega),h3,hr];rfl
      | succ m ih =>
        intro i s hi hs;rw[A0f (by omega),List.foldl_cons] at hs;have hst:mg C N (bC (xx C:Int)) (s,(i:Int))=some (.inl ((N[i]).2.foldl (fun s e=>bC (s+e.2.1)) s,((i+1:Nat):Int))):=by
          unfold mg;simp only[];rw[if_pos (by omega)];exact h2 i (by omega) s
        rw[fE hst];exact ih (i+1) _ (by omega) hs
    have:=Xk N 0;rw[show bC 0=0 from rfl,Int.zero_add] at this;rw[<- hr];exact hall N.length 0 0 (by omega) (by rw[A1C];exact this)
  unfold rY;obtain⟨r,hr⟩:∃ r,r=Bz C (bC (told (smap N))):=⟨_,rfl⟩
  have hall:∀ (m i:Nat) (s:Int),i+m=C.length->(C.drop i).foldl (fun s p=>bC (s+((p.2.length:Nat):Int))) s=bC (xx C:Int)->aQ (oG C N) (s,(i:Int))=some r:=by
    intro m
    induction m with
    | zero =>
      intro i s hi hs;rw[List.drop_eq_nil_of_le (by omega),List.foldl_nil] at hs;subst hs;refine fZ ?_;unfold oG;simp only[];rw[if_neg (by omega),h1,hr];rfl
    | succ m ih =>
      intro i s hi hs;rw[A0f (by omega),List.foldl_cons] at hs;have hst:oG C N (s,(i:Int))=some (.inl (bC (s+(((C[i]).2.length:Nat):Int)),((i+1:Nat):Int))):=by
        unfold oG;simp only[];rw[if_pos (by omega),bf (by omega)];simp only[A0o];rw[ed i (by omega)]
      rw[fE hst];exact ih (i+1) _ (by omega) hs
  have:=VE C 0;rw[show bC 0=0 from rfl,Int.zero_add] at this;rw[<- hr];exact hall C.length 0 0 (by omega) (by rw[A1C];exact this)
theorem one_some (x:Nat)(h:Q_ .neq x x=true∨x≠UA):∃ y,uO x=some y:=by
  unfold uO Nw;simp only[A0o];by_cases hn:Q_ .neq x x=true
  ·rw[if_pos hn];exact⟨_,rfl⟩
  ·rw[if_neg hn,kH (h.resolve_left hn)];exact⟨_,rfl⟩
theorem fnan_ne:Q_ .neq UA UA=true:=by decide
theorem one_any (x:Nat):∃ y,uO x=some y:=one_some x (by
  by_cases h:x=UA
  ·subst h;exact .inl fnan_ne
  ·exact .inr h)
theorem Tq (r:Int×Int×Int×Nat×Nat×Nat):AA r.1 r.2.1 r.2.2.1 r.2.2.2.1 r.2.2.2.2.1 r.2.2.2.2.2 r.1 r.2.1 r.2.2.1 r.2.2.2.1 r.2.2.2.2.1 r.2.2.2.2.2=some true:=by
  obtain⟨y1,h1⟩:=one_any r.2.2.2.1;obtain⟨y2,h2⟩:=one_any r.2.2.2.2.1;obtain⟨y3,h3⟩:=one_any r.2.2.2.2.2;unfold AA;rw[if_pos (by simp),h1];simp only[A0o];rw[if_pos trivial,h2];simp only[A0o];rw[if_pos trivial,h3];simp
theorem Xm (zi:Int)(C:Ch)(N:List wB)(hl:N.length<=1000000000):xW zi C N=some (N.map (·.1),zi,C,N):=by
  unfold xW;have h0:(([]:WP),(0:Int))=((N.take 0).map (·.1),((0:Nat):Int)):=rfl;rw[h0];refine gm (fun i=>((N.take i).map (·.1),(i:Int))) N.length (fun i hi=>?_) ?_
  ·unfold zg;simp only[];rw[if_pos (by omega),bf hi];simp only[A0o];rw[Af (by omega) (by simp;omega),ed i (by omega)];simp only[A0o];rw[A0m,A0l hi,List.map_append];rfl
  ·unfold zg;simp only[];rw[if_neg (by omega),A0h];rfl
theorem Xn (zi:Int)(C:Ch)(S:Sn)(hS:mM S)(hl:S.length<=1000000000):nX zi C S=some (S.map (·.1),zi):=by
  unfold nX dm;simp only[A0o];unfold iZ;rw[kH (by omega)];simp only[A0o];rw[FV hS]
theorem Py (l:WP)(hl:l.length<=1000000000):zM l l=some true:=by
  unfold zM;rw[if_neg (by simp),JQ (zL l l) l.length (fun _=>true) false (some true)]
  ·simp
  ·intro i hi;unfold zL;simp only[];rw[if_pos (by omega),bf hi];simp only[A0o];rw[if_neg (by simp),ed i (by omega)];rfl
  ·unfold zL;simp only[];rw[if_neg (by omega)]
  ·rfl
theorem VF (l:WP)(hl:l.length<=100000000000)(hr:∀ x ∈ l,x.length<=100000000000000):CQ l l=some true:=by
  unfold CQ;rw[if_neg (by simp),JQ (zK l l) l.length (fun _=>true) false (some true)]
  ·simp
  ·intro i hi;unfold zK;simp only[];rw[if_pos (by omega),bf hi];simp only[A0o];rw[NP _ (hr _ (lw hi))];simp only[A0o];rw[if_neg (by decide),ed i (by omega)];rfl
  ·unfold zK;simp only[];rw[if_neg (by omega)]
  ·rfl
end
section
variable {α:Type}
theorem lack_mem (C:Ch):∀ (ks out:A0G) (x:Ky),x ∈ ks.foldl (fun out k=>if bn C k=none then out++[k] else out) out->x ∈ out∨x ∈ ks
  | [],out,x,h=>.inl h
  | k::ks,out,x,h=>by
    rw[List.foldl_cons] at h;rcases lack_mem C ks _ x h with h | h
    ·split at h
     ·rcases List.mem_append.1 h with h | h
      ·exact .inl h
      ·exact .inr (by simp at h;simp[h])
     ·exact .inl h
    ·exact .inr (A0e _ h)
theorem stp_mem:∀ (l:A0G)(L:Ch)(p:Ky×AC),p ∈ l.foldl Gh L->p ∈ L∨p.1 ∈ l
  | [],L,p,h=>.inl h
  | x::l,L,p,h=>by
    rcases stp_mem l (Gh L x) p h with h | h
    ·unfold Gh at h;split at h
     ·rcases Ic h with rfl | h
      ·exact .inr (by simp)
      ·exact .inl h
     ·exact .inl h
    ·exact .inr (A0e _ h)
theorem dgN_len (z:Nat)(N:List wB)(hN:Few z N):∀ k ∈ Ce N,k.length=z:=by
  intro k hk;unfold Ce at hk;obtain⟨l,hl,hk⟩:=List.mem_flatten.1 hk;obtain⟨s,hs,rfl⟩:=ww.1 hl;unfold dgE at hk;obtain⟨l2,hl2,hk⟩:=List.mem_flatten.1 hk;obtain⟨e,he,rfl⟩:=ww.1 hl2;exact hN.each s hs e he k hk
end
section
variable {α σ ρ δ:Type}
theorem Xo (f:Int->Option (Int⊕Int))(l:List α)(p:α->Prop)[DecidablePred p](bad:Int)
    (hs:∀ (i:Nat) (h:i < l.length),f (i:Int)=some (if p l[i] then .inr (i:Int) else .inl ((i+1:Nat):Int))) (he:f (l.length:Int)=some (.inr bad)) :
    ∀ (m i:Nat),i+m=l.length->(∃ (j:Nat) (h:j < l.length),p l[j]/\aQ f (i:Int)=some (j:Int))∨((∀ x ∈ l.drop i,¬ p x)/\aQ f (i:Int)=some bad)
  | 0,i,hi=>by
    obtain rfl:i=l.length:=by omega
    exact .inr ⟨fun x hx=>(by rw[List.drop_length] at hx;cases hx),fZ he⟩
  | m+1,i,hi=>by
    have hl:i < l.length:=by omega
    by_cases hp:p l[i]
    ·exact .inl ⟨i,hl,hp,fZ (by rw[hs i hl,if_pos hp])⟩
    ·have hn:=hs i hl;rw[if_neg hp] at hn;rcases Xo f l p bad hs he m (i+1) (by omega) with⟨j,h,h1,h2⟩ | ⟨h1,h2⟩
     ·exact .inl ⟨j,h,h1,by rw[fE hn];exact h2⟩
     ·refine .inr ⟨fun x hx=>?_,by rw[fE hn];exact h2⟩;rw[A0f hl] at hx;rcases ut.1 hx with rfl | hx
      ·exact hp
      ·exact h1 x hx
theorem smap_mem {N:List wB}{i:Nat}(hi:i < N.length):(N[i].1,emap N[i].2) ∈ smap N:=by
  unfold smap;exact A0j (lw hi)
theorem Nc (zi:Int)(C:Ch)(N:List wB)(name:Ky)(hl:N.length<=1000000000)(hS:mM (smap N)) :
    (∃ (i:Nat) (h:i < N.length),N[i].1=name/\bn (smap N) name=some (emap N[i].2)/\kS zi C N name=some (i:Int))∨(bn (smap N) name=none/\kS zi C N name=some (-1)):=by
  have:=Xo (sS N name) N (fun s=>s.1=name) (-1) (fun i h=>by
    unfold sS;rw[if_pos (by omega),bf h];simp only[A0o];by_cases hn:N[i].1=name
    ·rw[if_pos hn,if_pos hn];rfl
    ·rw[if_neg hn,if_neg hn,ed i (by omega)]) (by
    unfold sS;rw[if_neg (by omega)];rfl) N.length 0 (by omega)
  unfold kS;rcases this with⟨j,h,h1,h2⟩ | ⟨h1,h2⟩
  ·exact .inl ⟨j,h,h1,by rw[<- h1];exact ku hS.nodup (smap_mem h),h2⟩
  ·refine .inr ⟨jD.2 fun hm=>?_,h2⟩;unfold smap at hm;rw[List.map_map] at hm;obtain⟨s,hs,e⟩:=ww.1 hm;exact h1 s (by rw[A1C];exact hs) e
theorem fltm (k:Nat):∀ L:List (List α),(∀ l ∈ L,l.length<=k)->L.flatten.length<=L.length*k
  | [],_=>by simp
  | l::L,h=>by
    have h1:=fltm k L fun x hx=>h x (A0e _ hx);have h2:=h l A0g;rw[A1E,Pi,bi,Nat.succ_mul];omega
theorem dgN_few {z:Nat}{N:List wB}(hN:Few z N):(Ce N).length<=64*(256*1048576):=by
  unfold Ce;refine A0s (fltm (256*1048576) _ fun l hl=>?_) (A1D _ (by rw[A0a];exact hN.few));obtain⟨s,hs,rfl⟩:=ww.1 hl;unfold dgE;refine A0s (fltm 1048576 _ fun l hl=>?_) (A1D _ (by rw[A0a];exact hN.KN s hs));obtain⟨e,he,rfl⟩:=ww.1 hl;exact hN.chs s hs e he
theorem Xp (p:α->Bool):∀ (l out:List α),l.foldl (fun out x=>if p x=true then out++[x] else out) out=out++l.filter p
  | [],out=>by simp
  | x::l,out=>by
    rw[List.foldl_cons,Xp p l];cases h:p x <;> simp[List.filter,h]
theorem VG (l:List α)(hl:l.length<=1000000000)(f:List α×Int->Option ((List α×Int)⊕ρ))(p:α->Bool)(fin:List α->ρ)
    (hs:∀ (i:Nat) (h:i < l.length) (out:List α),out.length<=i->f (out,(i:Int))=some (.inl (if p l[i]=true then out++[l[i]] else out,((i+1:Nat):Int))))
    (he:∀ out,out.length<=l.length->f (out,(l.length:Int))=some (.inr (fin out))):aQ f ([],(0:Int))=some (fin (l.filter p)):=by
  have:=foldl_loop l f (fun out x=>if p x=true then out++[x] else out) (fun i s=>s.length<=i) fin (fun i hi s hI=>⟨hs i hi s hI,by
    show List.length (if p l[i]=true then s++[l[i]] else s)<=i+1;split
    ·rw[Pi,A0n];omega
    ·omega⟩) (fun s hI=>he s hI) l.length 0 [] (by omega) (by simp)
  rw[A1C,Xp,List.nil_append] at this;exact this.1
theorem NU (k:Ky):∀ m:Mp δ,(m.map (·.1)).Nodup->xy m k=m.filter (fun p=>decide (p.1≠k))
  | [],_=>rfl
  | p::r,h=>by
    rw[kw,List.nodup_cons] at h;unfold xy;by_cases hk:p.1=k
    ·rw[if_pos hk,List.filter_cons_of_neg (by simp[hk])];rw[List.filter_eq_self.2];intro q hq;refine A0p fun e=>h.1 ?_;rw[hk,<-e];exact A0j hq
    ·rw[if_neg hk,List.filter_cons_of_pos (by simp[hk]),NU k r h.2]
theorem smap_pick (k:Ky)(N:List wB):smap (N.filter (fun s=>decide (s.1≠k)))=(smap N).filter (fun p=>decide (p.1≠k)):=by
  unfold smap;rw[List.filter_map];rfl
theorem YW {m:List (Ky×δ)}(hn:(m.map (·.1)).Nodup)(i j:Nat)(hi:i < m.length)(hj:j < m.length):m[i].1=m[j].1 ↔ i=j:=by
  refine⟨fun e=>?_,fun e=>by subst e;rfl⟩;have h1:(m.map (·.1))[i]'(by simpa using hi)=(m.map (·.1))[j]'(by simpa using hj):=by rw[A0r,A0r];exact e
  exact(List.getElem?_inj (by simpa using hi) hn).1 (by rw[A0l (by simpa using hi),A0l (by simpa using hj),h1])
theorem wC (N:List wB):(smap N).map (·.1)=N.map (·.1):=by unfold smap;rw[List.map_map];rfl
theorem rdrop_ok (zi:Int)(C:Ch)(N:List wB)(name:Ky)(hl:N.length<=1000000000)(hS:mM (smap N)) :
    xY zi C N name=some (if bn (smap N) name=none then 272 else 0,N.filter (fun s=>decide (s.1≠name))):=by
  have hnd:=hS.nodup;rw[wC] at hnd;unfold xY;rcases Nc zi C N name hl hS with⟨i,hi,h1,h2,h3⟩ | ⟨h2,h3⟩
  ·rw[h3];simp only[A0o];rw[if_neg (by omega),h2,if_neg (by simp)];refine VG N hl (sV N (i:Int)) (fun s=>decide (s.1≠name)) (fun out=>(0,out)) (fun j hj out ho=>?_) (fun out ho=>?_)
   ·unfold sV sU;simp only[];rw[if_pos (by omega)];by_cases hij:j=i
    ·subst hij;rw[if_neg (by omega),if_neg (by simp[h1]),ed j (by omega)]
    ·have hk:N[j].1≠name:=fun e=>hij ((YW hnd j i hj hi).1 (e.trans h1.symm));rw[if_pos (by omega),bf hj];simp only[A0o];rw[Af (by omega) (by simp;omega),if_pos (by simp[hk]),ed j (by omega)];rfl
   ·unfold sV;simp only[];rw[if_neg (by omega)];rfl
  ·rw[h3];simp only[A0o];rw[if_pos (by omega),h2,if_pos rfl,List.filter_eq_self.2];intro s hs;rw[jD,wC] at h2;exact A0p fun e=>h2 (e▸A0j hs)
theorem pdrop_ok (zi:Int)(C:Ch)(N:List wB)(name:Ky)(hS:mM (smap N)) :
    mY zi C (smap N) name=some (if bn (smap N) name=none then 272 else 0,zi,smap (N.filter (fun s=>decide (s.1≠name)))):=by
  unfold mY dm;simp only[A0o];rw[smap_pick,<-NU name _ hS.nodup];cases h:bn (smap N) name with
  | none=>rw[Nr (jD.1 h)];rfl
  | some x=>rfl
theorem rlose_ok (zi:Int)(C:Ch)(N:List wB)(k:Ky)(hC:mM C)(hl:C.length<=1000000000) :
    xZ zi C N k=some (if bn C k=none then 270 else 0,xy C k):=by
  unfold xZ;obtain⟨r,hr,hcase⟩:=NS C hC (by omega) k;rw[hr];simp only[A0o];rcases hcase with⟨h3,rfl⟩ | ⟨i,hi,rfl,h1,h4⟩
  ·rw[if_pos (by omega),h3,if_pos rfl,Nr (jD.1 h3)]
  ·rw[if_neg (by omega),h4,if_neg (by simp),NU k C hC.nodup];refine VG C hl (tu C (i:Int)) (fun s=>decide (s.1≠k)) (fun out=>(0,out)) (fun j hj out ho=>?_) (fun out ho=>?_)
   ·unfold tu sZ;simp only[];rw[if_pos (by omega)];by_cases hij:j=i
    ·subst hij;rw[if_neg (by omega),if_neg (by simp[h1]),ed j (by omega)]
    ·have hk:C[j].1≠k:=fun e=>hij ((YW hC.nodup j i hj hi).1 (e.trans h1.symm));rw[if_pos (by omega),bf hj];simp only[A0o];rw[Af (by omega) (by simp;omega),if_pos (by simp[hk]),ed j (by omega)];rfl
   ·unfold tu;simp only[];rw[if_neg (by omega)];rfl
theorem plose_ok (zi:Int)(C:Ch)(S:Sn)(k:Ky):sW zi C S k=some (if bn C k=none then 270 else 0,zi,xy C k):=by
  unfold sW dm;simp only[A0o];cases h:bn C k with
  | none=>rw[Nr (jD.1 h)];rfl
  | some x=>rfl
def Tt (C:Ch)(ks:A0G):Ch:=C.filter (fun p=>decide (p.1 ∈ ks))
theorem rsweep_ok (z:Nat)(zi:Int)(C:Ch)(hC:mM C)(hl:C.length<=1000000000)(N:List wB)(hN:Few z N) :
    wX zi C N=some (((C.length - (Tt C (Ce N)).length:Nat):Int),Tt C (Ce N)):=by
  obtain⟨e1,e2,e3⟩:=Sr z zi C N hN;have hks:∀ k,bn ((Ce N).foldl Gh []) k=none ↔ k ∉ Ce N:=by
    intro k;obtain⟨hs1,hs2,hs3⟩:=NT (Ce N) [] [] AU AU rfl;rw[jD,<-hs3,<-jD];refine⟨fun h hk=>?_,fun h=>?_⟩
    ·have hc:=QQ k (Ce N) [] (by simp[bn]) (by
       have h5:=dgN_few hN;simp only[bn,Option.getD_none];omega)
     rw[h] at hc;have:=List.count_pos_iff.2 hk;simp only[bn,Option.getD_none] at hc;omega
    ·cases hf:bn ((Ce N).foldl inc []) k with
     | none=>rfl
     | some v=>exact absurd (Si k (Ce N) [] (by rw[hf];simp)) (fun q=>q.elim h (fun q=>q rfl))
  unfold wX;rw[e1];simp only[A0o];refine VG C hl (rE C ((Ce N).foldl Gh [])) (fun p=>decide (p.1 ∈ Ce N)) (fun out=>(((C.length - out.length:Nat):Int),out)) (fun j hj out ho=>?_) (fun out ho=>?_)
  ·unfold rE rD;simp only[];rw[if_pos (by omega),bf hj];simp only[A0o];obtain⟨r,hr,hcase⟩:=NS _ e2 (by omega) C[j].1;rw[hr];simp only[A0o];rcases hcase with⟨h3,rfl⟩ | ⟨i,hi,rfl,h1,h4⟩
   ·rw[if_neg (by omega),if_neg (by rw[lm];exact(hks _).1 h3),ed j (by omega)]
   ·have:C[j].1 ∈ Ce N:=Decidable.not_not.1 fun h=>by rw[(hks _).2 h] at h4;cases h4
    rw[if_pos (by omega),if_pos (by rw[lm];exact this),Af (by omega) (by simp;omega),A0o,ed j (by omega)]
  ·unfold rE;simp only[];rw[if_neg (by omega),jP (by omega)];show some (Sum.inr (_,_))=_;rw[show((C.length:Int) - (out.length:Int))=((C.length - out.length:Nat):Int) from by omega]
end
section
variable {α σ ρ δ:Type}
theorem Su (T:A0J)(z:Int):∀ (l m:Ch) (n:Nat),n+l.length < 1000000000000000000->mM m->(l.map (·.1)).Nodup->(∀ p ∈ l,p ∈ m) ->
    ∃ n':Nat,jB (kD (T,z)) (m,(n:Int)) l=some (m.filter (fun p=>!(decide (p.1 ∈ l.map (·.1))&&decide ((bn T p.1).getD 0=0))),(n':Int))/\n'+(m.filter (fun p=>!(decide (p.1 ∈ l.map (·.1))&&decide ((bn T p.1).getD 0=0)))).length=n+m.length
  | [],m,n,_,hs,_,_=>by
    have hf:m.filter (fun p=>!(decide (p.1 ∈ ([]:Ch).map (·.1))&&decide ((bn T p.1).getD 0=0)))=m:=List.filter_eq_self.2 fun q _=>by simp
    rw[hf];exact⟨n,rfl,rfl⟩
  | p::l,m,n,hn,hs,hd,hm=>by
    obtain⟨k0,v⟩:=p;simp only[bi] at hn;rw[kw,List.nodup_cons] at hd;by_cases h0:(bn T k0).getD 0=0
    ·have hperm:=Rh (hm (k0,v) A0g) hs.nodup;have hlen:=hperm.length_eq;rw[bi] at hlen;obtain⟨n',e1,e2⟩:=Su T z l (xy m k0) (n+1) (by omega) (hs.xy k0) hd.2 (fun q hq=>by
       have h1:=hperm.mem_iff.1 (hm q (A0e _ hq));rcases ut.1 h1 with rfl | h1
       ·exact absurd (A0j hq) hd.1
       ·exact h1)
     have hf:(xy m k0).filter (fun p=>!(decide (p.1 ∈ l.map (·.1))&&decide ((bn T p.1).getD 0=0)))=m.filter (fun p=>!(decide (p.1 ∈ ((k0,v)::l).map (·.1))&&decide ((bn T p.1).getD 0=0))):=by
       rw[NU k0 m hs.nodup,List.filter_filter];refine List.filter_congr fun q hq=>?_;rw[kw];by_cases hk:q.1=k0
       ·simp[hk,h0]
       ·rw[A0p (show q.1≠k0 from hk),Bool.and_true,decide_eq_decide.2 (show q.1 ∈ k0::l.map (·.1) ↔ q.1 ∈ l.map (·.1) from by rw[ut];exact⟨fun h=>h.resolve_left hk,.inr⟩)]
     rw[hf] at e1 e2;refine⟨n',?_,by omega⟩;simp only[jB,kD];rw[if_pos h0];simp only[A0o];rw[jP (by omega)];exact e1
    ·obtain⟨n',e1,e2⟩:=Su T z l m n (by omega) hs hd.2 (fun q hq=>hm q (A0e _ hq));have hf:m.filter (fun p=>!(decide (p.1 ∈ l.map (·.1))&&decide ((bn T p.1).getD 0=0)))=m.filter (fun p=>!(decide (p.1 ∈ ((k0,v)::l).map (·.1))&&decide ((bn T p.1).getD 0=0))):=by
       refine List.filter_congr fun q hq=>?_;rw[kw];by_cases hk:q.1=k0
       ·rw[hk];simp[h0]
       ·rw[decide_eq_decide.2 (show q.1 ∈ k0::l.map (·.1) ↔ q.1 ∈ l.map (·.1) from by rw[ut];exact⟨fun h=>h.resolve_left hk,.inr⟩)]
     rw[hf] at e1 e2;refine⟨n',?_,e2⟩;simp only[jB,kD];rw[if_neg h0];simp only[A0o];exact e1
theorem psweep_ok (z:Nat)(h1:1<=z)(C:Ch)(hC:mM C)(hl:C.length<=1000000000)(N:List wB)(hN:Few z N) :
    ru (z:Int) C (smap N)=some (((C.length - (Tt C (Ce N)).length:Nat):Int),(z:Int),Tt C (Ce N)):=by
  unfold ru dm;simp only[A0o];unfold qi;rw[VD z h1 C (smap N) N [] (fun s hs e he=>⟨hN.chs s hs e he,hN.each s hs e he⟩)];simp only[A0o];obtain⟨n',e1,e2⟩:=Su ((Ce N).foldl inc []) (z:Int) C C 0 (by omega) hC hC.nodup (fun p hp=>hp);have hf:C.filter (fun p=>!(decide (p.1 ∈ C.map (·.1))&&decide ((bn ((Ce N).foldl inc []) p.1).getD 0=0)))=Tt C (Ce N):=by
    unfold Tt;refine List.filter_congr fun q hq=>?_;have h5:=dgN_few hN;have hc:=QQ q.1 (Ce N) [] (by simp[bn]) (by simp only[bn,Option.getD_none];omega);simp only[bn,Option.getD_none,Int.zero_add] at hc;rw[hc];have hmem:q.1 ∈ C.map (·.1):=A0j hq;by_cases hk:q.1 ∈ Ce N
    ·simp[hmem,hk];intro h;rw[List.count_eq_zero] at h;exact h hk
    ·simp[hmem,hk];rw[List.count_eq_zero];exact hk
  rw[hf] at e1 e2;rw[show(0:Int)=((0:Nat):Int) from rfl,e1];simp only[A0o];rw[show n'=C.length - (Tt C (Ce N)).length from by omega]
theorem VH (f:Int->Option (Int⊕ρ))(l:List α)(p:α->Prop)[DecidablePred p](bad:ρ)(g:α->ρ)
    (hs:∀ (i:Nat) (h:i < l.length),f (i:Int)=some (if p l[i] then .inr (g l[i]) else .inl ((i+1:Nat):Int))) (he:f (l.length:Int)=some (.inr bad)) :
    ∀ (m i:Nat),i+m=l.length->aQ f (i:Int)=some (((l.drop i).find? (fun x=>decide (p x))).elim bad g)
  | 0,i,hi=>by
    obtain rfl:i=l.length:=by omega
    rw[List.drop_length];exact fZ he
  | m+1,i,hi=>by
    have hl:i < l.length:=by omega
    have hn:=hs i hl;rw[A0f hl];by_cases hp:p l[i]
    ·rw[if_pos hp] at hn;rw[fZ hn,List.find?_cons_of_pos (by simpa using hp)];rfl
    ·rw[if_neg hp] at hn;rw[fE hn,List.find?_cons_of_neg (by simpa using hp)];exact VH f l p bad g hs he m (i+1) (by omega)
def Oy (C:Ch)(b:AC)(k:Ky):AC⊕A00:=match bn C k with | none=>.inr ([],270) | some c=>.inl (b++c)
def Nh (C:Ch)(ks:A0G):AC×Int:=tZ (Oy C) (fun b=>(b,0)) ks []
theorem Sv {C:Ch}(hC:OkC C){b b':AC}{k:Ky}(h:Oy C b k=.inl b'):b'.length<=b.length+1024:=by
  unfold Oy at h;cases hk:bn C k with
  | none=>rw[hk] at h;cases h
  | some c =>
    rw[hk] at h;obtain rfl:=Sum.inl.inj h;have:=(hC.each _ (Am hk)).2;rw[Pi];simp only[] at this;omega
theorem rwhole_ok (zi:Int)(C:Ch)(hC:OkC C)(N:List wB)(n:Ky)(sz:Int)(ks:A0G)(hk:ks.length<=1048576):wZ zi C N n sz ks=some (Nh C ks):=by
  unfold wZ Nh;have hCl:=hC.len;refine QM (f:=rG C ks) ks (fun(b:AC) i=>(b,(i:Int))) (Oy C) (fun b=>(b,0)) (fun i b=>b.length<=i*1024) (fun s i hi hI=>⟨?_,fun s' hs'=>by have:=Sv hC hs';omega⟩) (fun s hI=>?_) [] (by simp)
  ·unfold rG Oy;simp only[];rw[if_pos (by omega),bf hi];simp only[A0o];obtain⟨r,hr,hcase⟩:=NS C hC.Di (by omega) ks[i];rw[hr];simp only[A0o];rcases hcase with⟨h3,rfl⟩ | ⟨j,hj,rfl,h3,h4⟩
   ·rw[if_pos (by omega),h3];rfl
   ·have:=(hC.each _ (lw hj)).2;rw[if_neg (by omega),h4,bf hj];simp only[A0o];rw[Af (by omega) (by omega),A0o,ed i (by omega)]
  ·unfold rG;simp only[];rw[if_neg (by omega)];rfl
theorem pwhole_ok (z:Int)(C:Ch)(hC:OkC C)(ks:A0G)(hk:ks.length<=1048576):aQ (oq C (ks,z)) (([]:AC),(0:Int))=some ((Nh C ks).1,(Nh C ks).2,z):=by
  unfold Nh;rw[FT (fun r:AC×Int=>(r.1,r.2,z))];refine QM (f:=oq C (ks,z)) ks (fun(b:AC) i=>(b,(i:Int))) _ _ (fun i b=>b.length<=i*1024) (fun s i hi hI=>⟨?_,fun s' hs'=>?_⟩) (fun s hI=>?_) [] (by simp)
  ·unfold oq Oy;simp only[];rw[if_pos (by omega),bf hi];simp only[A0o];cases h:bn C ks[i] with
   | none=>rfl
   | some c =>
     have:=(hC.each _ (Am h)).2;simp only[] at this;simp only[A1A];rw[Af (by omega) (by omega),A0o,ed i (by omega)];rfl
  ·cases h:Oy C s ks[i] with
   | inr q=>rw[h] at hs';cases hs'
   | inl b =>
     rw[h] at hs';obtain rfl:=Sum.inl.inj hs';have:=Sv hC h;simp only[id];omega
  ·unfold oq;simp only[];rw[if_neg (by omega)];rfl
theorem NV (name:Ky):∀ L:List Ae,bn (emap L) name=(L.find? (fun e=>decide (e.1=name))).map fun e=>(e.2.1,e.2.2.flatten)
  | []=>rfl
  | e::L=>by
    have h:emap (e::L)=(e.1,(e.2.1,e.2.2.flatten))::emap L:=rfl;rw[h,bn];by_cases hn:e.1=name
    ·rw[if_pos hn,List.find?_cons_of_pos (by simpa using hn)];rfl
    ·rw[if_neg hn,List.find?_cons_of_neg (by simpa using hn),NV name L]
def getL (C:Ch)(L:List Ae)(name:Ky):AC×Int:=(L.find? (fun e=>decide (e.1=name))).elim ([],273) fun e=>Nh C e.2.2
theorem cut_ks (z:Nat)(h1:1<=z)(C:Ch)(S:Sn)(ks:A0G)(hk:∀ k ∈ ks,k.length=z)(hl:ks.length<=1000000000):oh (z:Int) C S ks.flatten=some (ks,(z:Int)):=by
  unfold oh;rw[cut_s1,cut_run z h1 ks hk hl]
def WA (C:Ch)(N:List wB)(snap name:Ky):AC×Int:=(N.find? (fun s=>decide (s.1=snap))).elim ([],272) fun s=>getL C s.2 name
theorem yt {N:List wB}(hn:(N.map (·.1)).Nodup){i:Nat}(hi:i < N.length):N.find? (fun s=>decide (s.1=N[i].1))=some N[i]:=by
  cases h:N.find? (fun s=>decide (s.1=N[i].1)) with
  | none=>exact absurd (List.find?_eq_none.1 h _ (lw hi)) (by simp)
  | some s =>
    have h1:=List.find?_some h;have h2:=List.mem_of_find?_eq_some h;obtain⟨j,hj,rfl⟩:=List.getElem_of_mem h2;rw[lm] at h1;obtain rfl:=(YW hn j i hj hi).1 h1;rfl
theorem CW {N:List wB}{k:Ky}(h:bn (smap N) k=none):N.find? (fun s=>decide (s.1=k))=none:=by
  rw[jD,wC] at h;rw[List.find?_eq_none];intro s hs e;rw[lm] at e;exact h (e▸A0j hs)
theorem pget_ok (z:Nat)(h1:1<=z)(C:Ch)(hC:OkC C)(N:List wB)(hS:mM (smap N))(hN:Few z N)(snap name:Ky) :
    uQ (z:Int) C (smap N) snap name=some ((WA C N snap name).1,(WA C N snap name).2,(z:Int)):=by
  unfold uQ dm WA;simp only[A0o];rcases Nc 0 C N snap (by have:=hN.few;omega) hS with⟨i,hi,rfl,h2,_⟩ | ⟨h2,_⟩
  ·have hnd:=hS.nodup;rw[wC] at hnd;rw[h2,yt hnd hi];simp only[A1A];unfold getL;rw[NV];cases hf:N[i].2.find? (fun e=>decide (e.1=name)) with
   | none=>rfl
   | some e =>
     have hm:=List.mem_of_find?_eq_some hf;have hc:=hN.chs _ (lw hi) e hm;simp only[Option.map_some,Option.getD_some,A0o,Option.isSome_some,Bool.not_true,A0z,if_false,A1A];rw[cut_ks z h1 C _ _ (hN.each _ (lw hi) e hm) (by omega)];simp only[A0o];exact pwhole_ok (z:Int) C hC e.2.2 hc
  ·rw[h2,CW h2];rfl
theorem rget_ok (z:Nat)(zi:Int)(C:Ch)(hC:OkC C)(N:List wB)(hS:mM (smap N))(hN:Few z N)(snap name:Ky) :
    yN zi C N snap name=some (WA C N snap name):=by
  unfold yN WA;rcases Nc zi C N snap (by have:=hN.few;omega) hS with⟨i,hi,rfl,h2,h3⟩ | ⟨h2,h3⟩
  ·have hnd:=hS.nodup;rw[wC] at hnd;rw[h3,yt hnd hi];simp only[A0o,A1A];rw[if_neg (by omega)];have hents:=hN.KN _ (lw hi);have:=VH (uU zi C N name (i:Int)) N[i].2 (fun e=>e.1=name) ([],273) (fun e=>Nh C e.2.2) (fun k hk=>by
     unfold uU;rw[bf hi];simp only[A0o];rw[if_pos (by omega),bf hk];simp only[A0o];by_cases hn:N[i].2[k].1=name
     ·rw[if_pos hn,if_pos hn,rwhole_ok zi C hC N _ _ _ (hN.chs _ (lw hi) _ (lw hk))];rfl
     ·rw[if_neg hn,if_neg hn,ed k (by omega)]) (by
     unfold uU;rw[bf hi];simp only[A0o];rw[if_neg (by omega)];rfl) N[i].2.length 0 (by omega)
   rw[A1C] at this;exact this
  ·rw[h3,CW h2];simp only[A0o];rw[if_pos (by omega)];rfl
end
section
variable {α σ ρ δ:Type}
theorem plist_l1 (l:List Ae)(x0:Nat)(n:Ky)(e:Int×AC)(z:Nat)(h2:z<=64)(ks:A0G)(hk:ks.length<=1048576)(hz:∀ k ∈ ks,k.length=z)(hl:l.length<=1000000)(hx:x0<=1000000) :
    aQ (pX l (x0:Int) n e (ks,(z:Int))) (([]:A0G),(0:Int))=some (.inl ((z:Int),l++[(n,e.1,ks)],((x0+1:Nat):Int))):=by
  refine gm (fun i=>(ks.take i,(i:Int))) ks.length (fun i hi=>?_) ?_
  ·have:=hz _ (lw hi);unfold pX;simp only[];rw[if_pos (by omega),bf hi];simp only[A0o];rw[kH (by omega)];simp only[A0o];rw[Af (by omega) (by simp;omega),A0o,ed i (by omega),A0m,A0l hi];rfl
  ·unfold pX;simp only[];rw[if_neg (by omega),A0h,Af (by omega) (by simp;omega),A0o,ed x0 (by omega)];rfl
theorem NW (L:List Ae):(emap L).map (·.1)=L.map (·.1):=by unfold emap;rw[List.map_map];rfl
theorem plist_l0 (z:Nat)(h1:1<=z)(h2:z<=64)(C:Ch)(S:Sn)(L:List Ae)(hL:L.length<=256)(hS:mM (emap L))(hc:∀ e ∈ L,e.2.2.length<=1048576/\∀ k ∈ e.2.2,k.length=z) :
    aQ (pY C S (emap L) (L.map (·.1))) ((z:Int),([]:List Ae),(0:Int))=some (L,0,(z:Int)):=by
  refine gm (fun i=>((z:Int),L.take i,(i:Int))) L.length (fun i hi=>?_) ?_
  ·obtain⟨c1,c2⟩:=hc _ (lw hi);unfold pY;simp only[];rw[if_pos (by rw[A0a];omega),bf (by rw[A0a];exact hi)];simp only[A0o,A0r];have hf:bn (emap L) L[i].1=some (L[i].2.1,L[i].2.2.flatten):=ku hS.nodup (by unfold emap;exact A0j (f:=fun e:Ae=>(e.1,(e.2.1,e.2.2.flatten))) (lw hi));rw[hf];simp only[Option.getD_some];rw[cut_ks z h1 C S _ c2 (by omega)];simp only[A0o];rw[plist_l1 (L.take i) i L[i].1 _ z h2 L[i].2.2 c1 c2 (by rw[A0i];omega) (by omega),A0m,A0l hi];rfl
  ·unfold pY;simp only[];rw[if_neg (by rw[A0a];omega),A0h];rfl
def listN (N:List wB)(snap:Ky):List Ae×Int:=(N.find? (fun s=>decide (s.1=snap))).elim ([],272) fun s=>(s.2,0)
theorem plist_ok (z:Nat)(h1:1<=z)(h2:z<=64)(C:Ch)(N:List wB)(hS:mM (smap N))(hE:∀ s ∈ N,mM (emap s.2))(hN:Few z N)(snap:Ky) :
    tC (z:Int) C (smap N) snap=some ((listN N snap).1,(listN N snap).2,(z:Int)):=by
  unfold tC dm listN;simp only[A0o];rcases Nc 0 C N snap (by have:=hN.few;omega) hS with⟨i,hi,rfl,h3,_⟩ | ⟨h3,_⟩
  ·have hnd:=hS.nodup;rw[wC] at hnd;have hm:=lw hi;have hen:=hN.KN _ hm;rw[h3,yt hnd hi];simp only[A1A];unfold lK;rw[kH (by rw[JP];omega)];simp only[A0o];rw[FV (hE _ hm),NW];exact plist_l0 z h1 h2 C (smap N) N[i].2 hen (hE _ hm) fun e he=>⟨hN.chs _ hm e he,hN.each _ hm e he⟩
  ·rw[h3,CW h3];rfl
theorem rlist_l1 (l:List Ae)(x0:Nat)(e:Ae)(z:Nat)(h2:z<=64)(hk:e.2.2.length<=1048576)(hz:∀ k ∈ e.2.2,k.length=z)(hl:l.length<=1000000)(hx:x0<=1000000) :
    aQ (tH l (x0:Int) e) (([]:A0G),(0:Int))=some (.inl (l++[e],((x0+1:Nat):Int))):=by
  refine gm (fun i=>(e.2.2.take i,(i:Int))) e.2.2.length (fun i hi=>?_) ?_
  ·have:=hz _ (lw hi);unfold tH;simp only[];rw[if_pos (by omega),bf hi];simp only[A0o];rw[kH (by omega)];simp only[A0o];rw[Af (by omega) (by simp;omega),A0o,ed i (by omega),A0m,A0l hi];rfl
  ·unfold tH;simp only[];rw[if_neg (by omega),A0h,Af (by omega) (by simp;omega),A0o,ed x0 (by omega)];rfl
theorem rlist_ok (z:Nat)(h2:z<=64)(zi:Int)(C:Ch)(N:List wB)(hS:mM (smap N))(hN:Few z N)(snap:Ky) :
    x8 zi C N snap=some (listN N snap):=by
  unfold x8 listN;rcases Nc zi C N snap (by have:=hN.few;omega) hS with⟨i,hi,rfl,h3,h4⟩ | ⟨h3,h4⟩
  ·have hnd:=hS.nodup;rw[wC] at hnd;have hm:=lw hi;have hen:=hN.KN _ hm;rw[h4,yt hnd hi];simp only[A0o,A1A];rw[if_neg (by omega)];refine gm (fun k=>(N[i].2.take k,(k:Int))) N[i].2.length (fun k hk=>?_) ?_
   ·unfold xE;simp only[];rw[bf hi];simp only[A0o];rw[if_pos (by omega),bf hk];simp only[A0o];rw[rlist_l1 _ k _ z h2 (hN.chs _ hm _ (lw hk)) (hN.each _ hm _ (lw hk)) (by rw[A0i];omega) (by omega),A0m,A0l hk];rfl
   ·unfold xE;simp only[];rw[bf hi];simp only[A0o];rw[if_neg (by omega),A0h];rfl
  ·rw[h4,CW h3];simp only[A0o];rw[if_pos (by omega)];rfl
theorem YX (L:List Ae)(hL:L.length<=1000000)(z:Nat)(h2:z<=64)(hc:∀ e ∈ L,e.2.2.length<=1048576/\∀ k ∈ e.2.2,k.length=z):Bh L L=some true:=by
  unfold Bh;rw[if_neg (by simp),JQ (x9 L L) L.length (fun _=>true) false (some true)]
  ·simp
  ·intro i hi;obtain⟨c1,c2⟩:=hc _ (lw hi);unfold x9;simp only[];rw[if_pos (by omega),bf hi];simp only[A0o,ne_eq,not_true_eq_false,decide_false,Bool.not_false,Io,if_true,Bool.or_self,A0z,if_false];rw[VF _ (by omega) (fun x hx=>by rw[c2 x hx];omega)];simp only[A0o];rw[if_neg (by decide),ed i (by omega)]
   try rfl
  ·unfold x9;simp only[];rw[if_neg (by omega)]
  ·rfl
theorem Xq:∀ k n:Nat,(List.range k).map (fun i=>UInt8.ofNat (n / 256 ^ i))=MW k n
  | 0,n=>rfl
  | k+1,n=>by
    rw[List.range_succ_eq_map,kw,List.map_map,MW,<-Xq k (n / 256)];congr 1
    ·simp
    ·refine List.map_congr_left fun i _=>?_;show UInt8.ofNat (n / 256 ^ (i+1))=_;rw[Nat.pow_succ,Nat.mul_comm,<-Nat.div_div_eq_div_mul]
theorem ED (n k:Nat)(hk:k<=8)(hn:n < 18446744073709551616):qL (n:Int) (k:Int)=some (MW k n):=by
  have h:(UInt64.ofInt (n:Int)).toNat=n:=by simp[UInt64.ofInt];omega
  unfold qL;rw[rstore _ k hk,h,Xq];rfl
theorem rsave_l3 (e:Ae)(hk:e.2.2.length<=1048576)(x0:Nat)(hx:x0<=1000000)(b:AC)(hb:b.length+e.2.2.flatten.length<=100000000000000) :
    aQ (tJ (x0:Int) e) (b,(0:Int))=some (.inl (b++e.2.2.flatten,((x0+1:Nat):Int))):=by
  have h0:(b,(0:Int))=(b++((e.2.2.take 0).map id).flatten,((0:Nat):Int)):=by simp
  rw[h0];refine gm (fun i=>(b++((e.2.2.take i).map id).flatten,(i:Int))) e.2.2.length (fun i hi=>?_) ?_
  ·have h3:=Pv id e.2.2 (i+1);have h4:=EP id e.2.2 i hi;rw[h4,Pi] at h3;rw[List.map_id] at h3;unfold tJ;simp only[];rw[if_pos (by omega),bf hi];simp only[A0o];rw[app1 (by rw[Pi,List.map_id];simp only[id,List.map_id] at h3;omega),A0o,ed i (by omega),h4,ul];rfl
  ·unfold tJ;simp only[];rw[if_neg (by omega),A0h,List.map_id,ed x0 (by omega)];rfl
theorem rsave_l2 (z:Nat)(h1:1<=z)(N:List wB)(iq:Nat)(hiq:iq < N.length)(hN:N.length<=64)(hents:(N[iq]).2.length<=256)(hE:OkE z (emap (N[iq]).2))(hc:∀ e ∈ (N[iq]).2,e.2.2.length<=1048576/\∀ k ∈ e.2.2,k.length=z)(b:AC)(hb:b.length+(((N[iq]).2).map (eEn z)).flatten.length<=100000000000000) :
    aQ (tK N (iq:Int)) (b,(0:Int))=some (.inl (b++(((N[iq]).2).map (eEn z)).flatten,((iq+1:Nat):Int))):=by
  have h0:(b,(0:Int))=(b++((((N[iq]).2).take 0).map (eEn z)).flatten,((0:Nat):Int)):=by simp
  rw[h0];refine gm (fun i=>(b++((((N[iq]).2).take i).map (eEn z)).flatten,(i:Int))) (N[iq]).2.length (fun i hi=>?_) ?_
  ·obtain⟨c1,c2⟩:=hc _ (lw hi);have h3:=Pv (eEn z) (N[iq]).2 (i+1);have h4:=EP (eEn z) (N[iq]).2 i hi;have hmem:((N[iq]).2[i].1,((N[iq]).2[i].2.1,(N[iq]).2[i].2.2.flatten)) ∈ emap (N[iq]).2:=by unfold emap;exact A0j (f:=fun e:Ae=>(e.1,(e.2.1,e.2.2.flatten))) (lw hi)
   have hn:=hE.name _ hmem;have hs:=hE.size _ hmem;simp only[] at hn hs;have hfl:=NQ z _ c2;have hen:eEn z (N[iq]).2[i]=[UInt8.ofNat (N[iq]).2[i].1.length]++(N[iq]).2[i].1++MW 4 (N[iq]).2[i].2.1.toNat++MW 4 (N[iq]).2[i].2.2.length++(N[iq]).2[i].2.2.flatten:=by
     unfold eEn VB;simp only[];rw[hfl,Nat.mul_div_cancel _ (by omega)]
   rw[h4,Pi] at h3;have hel:(eEn z (N[iq]).2[i]).length=1+(N[iq]).2[i].1.length+4+4+(N[iq]).2[i].2.2.flatten.length:=by
     rw[hen];simp only[Pi,bi,A0b,iG]
   unfold tK;simp only[];rw[bf hiq];simp only[A0o];rw[if_pos (by omega),bf hi];simp only[A0o];rw[app1 (by rw[Pi,A0n];omega),A0o,app1 (by simp only[Pi,A0n];omega),A0o];rw[show(N[iq]).2[i].2.1=(((N[iq]).2[i].2.1.toNat:Nat):Int) from by omega,show(4:Int)=((4:Nat):Int) from rfl,ED _ 4 (by omega) (by omega),A0o];rw[app1 (by simp only[Pi,A0n,iG];omega),A0o,ED _ 4 (by omega) (by omega),A0o];rw[app1 (by simp only[Pi,A0n,iG];omega),A0o];rw[rsave_l3 _ c1 i (by omega) _ (by simp only[Pi,A0n,iG];omega)];rw[h4,hen,MZ];simp only[ul,A0Z]
  ·unfold tK;simp only[];rw[bf hiq];simp only[A0o];rw[if_neg (by omega),A0h,ed iq (by omega)];rfl
theorem rsave_ok (z:Nat)(h1:1<=z)(C:Ch)(hC:OkC C)(N:List wB)(hS:OkS z (smap N))(hN:Few z N)(hb:(Ig z C (smap N)).length<=90000000000000):qw (z:Int) C N=some (Ig z C (smap N)):=by
  have hfew:=hN.few;have hCl:=hC.len;have hsn:(smap N).map (TQ z)=N.map (eSn z):=by unfold smap;rw[List.map_map];rfl
  have hsv:Ig z C (smap N)=(([68,81,1,UInt8.ofNat z]++MW 4 C.length)++(C.map Ox).flatten)++MW 4 N.length++(N.map (eSn z)).flatten:=by
    unfold Ig;rw[hsn,Ih]
  rw[hsv] at hb ⊢;simp only[Pi,bi,A0b,iG] at hb;unfold qw;rw[show(4:Int)=((4:Nat):Int) from rfl,ED _ 4 (by omega) (by omega),A0o,MZ,app1 (by simp only[bi,A0b,iG];omega),A0o];generalize hB0:([68,81,1,UInt8.ofNat z]++MW 4 C.length:AC)=B0;have hB0l:B0.length=8:=by rw[<- hB0];simp only[Pi,bi,A0b,iG]
  have h0:(B0,(0:Int))=(B0++((C.take 0).map Ox).flatten,((0:Nat):Int)):=by simp
  rw[h0];refine gm (fun i=>(B0++((C.take i).map Ox).flatten,(i:Int))) C.length (fun i hi=>?_) ?_
  ·have h3:=Pv Ox C (i+1);have h4:=EP Ox C i hi;have hd:=(hC.each _ (lw hi)).2;rw[h4,Pi] at h3;have hel:(Ox C[i]).length=2+C[i].2.length:=by unfold Ox;rw[Pi,iG]
   unfold xG;simp only[];rw[if_pos (by omega),bf hi];simp only[A0o];rw[show(2:Int)=((2:Nat):Int) from rfl,ED _ 2 (by omega) (by omega),A0o,app1 (by simp only[Pi,iG];omega),A0o,app1 (by simp only[Pi,iG];omega),A0o,ed i (by omega),h4];unfold Ox;simp only[ul]
  ·unfold xG;simp only[];rw[if_neg (by omega),A0h,show(4:Int)=((4:Nat):Int) from rfl,ED _ 4 (by omega) (by omega),A0o,app1 (by simp only[Pi,iG];omega),A0o];generalize hB1:B0++(C.map Ox).flatten++MW 4 N.length=B1;have hB1l:B1.length=B0.length+(C.map Ox).flatten.length+4:=by rw[<- hB1];simp only[Pi,iG]
   have h0:(B1,(0:Int))=(B1++((N.take 0).map (eSn z)).flatten,((0:Nat):Int)):=by simp
   have:aQ (tN N) (B1,(0:Int))=some (B1++(N.map (eSn z)).flatten):=by
     rw[h0];refine gm (fun i=>(B1++((N.take i).map (eSn z)).flatten,(i:Int))) N.length (fun i hi=>?_) ?_
     ·have h3:=Pv (eSn z) N (i+1);have h4:=EP (eSn z) N i hi;rw[h4,Pi] at h3;have hmem:=lw hi;have hents:=hN.KN _ hmem;have hel:(eSn z N[i]).length=1+N[i].1.length+4+(N[i].2.map (eEn z)).flatten.length:=by
        rw[eSn_eq];simp only[Pi,bi,A0b,iG]
      unfold tN;simp only[];rw[if_pos (by omega),bf hi];simp only[A0o];rw[app1 (by rw[Pi,A0n];omega),A0o,app1 (by simp only[Pi,A0n];omega),A0o];rw[show(4:Int)=((4:Nat):Int) from rfl,ED _ 4 (by omega) (by omega),A0o,app1 (by simp only[Pi,A0n,iG];omega),A0o];rw[rsave_l2 z h1 N i hi hfew hents (hS.each _ (smap_mem hi)) (fun e he=>⟨hN.chs _ hmem e he,hN.each _ hmem e he⟩) _ (by simp only[Pi,A0n,iG];omega)];rw[h4,eSn_eq,MZ];simp only[ul]
     ·unfold tN;simp only[];rw[if_neg (by omega),A0h];rfl
   rw[this,<-hB1];rfl
end
section
variable {α σ ρ δ:Type}
def F8:Nat->List Ae->List Ae->A0G
  | 0,_,_=>[]
  | _+1,[],[]=>[]
  | n+1,a::A,[]=>([45]++a.1)::F8 n A []
  | n+1,[],b::B=>([43]++b.1)::F8 n [] B
  | n+1,a::A,b::B=>if a.1 < b.1 then([45]++a.1)::F8 n A (b::B) else if b.1 < a.1 then([43]++b.1)::F8 n (a::A) B else(if a.2.2=b.2.2 then[] else[[61]++a.1])++F8 n A B
def AV:Nat->List Ae->List Ae->A0G
  | 0,_,_=>[]
  | _+1,[],[]=>[]
  | n+1,a::A,[]=>a.1::AV n A []
  | n+1,[],b::B=>b.1::AV n [] B
  | n+1,a::A,b::B=>if a.1 < b.1 then a.1::AV n A (b::B) else if b.1 < a.1 then b.1::AV n (a::A) B else a.1::AV n A B
theorem alike_ok (a b:Ae)(ha:a.2.2.length<=1048576):Fq a.1 a.2.1 a.2.2 b.1 b.2.1 b.2.2=some (decide (a.2.2=b.2.2)):=by
  unfold Fq;by_cases hl:a.2.2.length=b.2.2.length
  ·rw[if_neg (by omega),JQ (zS a.2.2 b.2.2) a.2.2.length (fun i=>decide (a.2.2[i]?=b.2.2[i]?)) false (some true)]
   ·by_cases he:a.2.2=b.2.2
    ·rw[if_pos,A0p he];rw[he];simp
    ·rw[if_neg,A0q he];intro hall;refine he (List.ext_getElem? fun i=>?_);by_cases hi:i < a.2.2.length
     ·exact of_decide_eq_true (List.all_eq_true.1 hall i (List.mem_range.2 hi))
     ·rw[List.getElem?_eq_none (by omega),List.getElem?_eq_none (by omega)]
   ·intro i hi;unfold zS;simp only[];rw[if_pos (by omega),bf hi];simp only[A0o];rw[bf (by omega)];simp only[A0o];rw[A0l hi,A0l (by omega:i < b.2.2.length)];by_cases he:a.2.2[i]=b.2.2[i]'(by omega)
    ·rw[if_neg (by simp[he]),if_pos (by simp[he]),ed i (by omega)]
    ·rw[if_pos he,if_neg (by simp[he])];rfl
   ·unfold zS;simp only[];rw[if_neg (by omega)]
   ·rfl
  ·rw[if_pos (by omega),A0q (fun e=>hl (by rw[e]))]
theorem GM (sA sB:wB)(hA:sA.2.length<=256)(hB:sB.2.length<=256)(hcA:∀ e ∈ sA.2,e.2.2.length<=1048576/\e.1.length<=64)(hcB:∀ e ∈ sB.2,e.1.length<=64) :
    ∀ (n x y:Nat) (out:A0G),x<=sA.2.length->y<=sB.2.length->(sA.2.length - x)+(sB.2.length - y)<=n->out.length<=x+y ->
    aQ (jq sA sB) (out,(x:Int),(y:Int))=some (out++F8 n (sA.2.drop x) (sB.2.drop y),0)
  | 0,x,y,out,hx,hy,hm,ho=>by
    refine fZ ?_;unfold jq;simp only[];rw[if_neg (by simp only[Bool.or_eq_true,lm];omega)];simp[F8]
  | n+1,x,y,out,hx,hy,hm,ho=>by
    by_cases hxl:x < sA.2.length
    ·have ha:=hcA _ (lw hxl);have dA:=A0f hxl;by_cases hyl:y < sB.2.length
     ·have hb:=hcB _ (lw hyl);have dB:=A0f hyl;rw[dA,dB];by_cases h1:sA.2[x].1 < sB.2[y].1
      ·rw[fE (s':=(out++[[45]++sA.2[x].1],((x+1:Nat):Int),(y:Int)))]
       ·rw[GM sA sB hA hB hcA hcB n (x+1) y _ (by omega) hy (by omega) (by rw[Pi,A0n];omega),F8,if_pos h1,dB,ul];rfl
       ·unfold jq;simp only[];rw[if_pos (by simp only[Bool.or_eq_true,lm];omega),A0q (by omega:¬ (y:Int)=(sB.2.length:Int)),A0p (by omega:(x:Int) < (sA.2.length:Int))];simp only[Bool.not_false,Io,if_true];rw[bf hxl];simp only[A0o];rw[bf hyl];simp only[A0o];rw[xK,A0p h1,if_pos (by rfl),kH (by simp only[bi,A0b];omega),A0o,Af (by omega) (by simp;omega),A0o,ed x (by omega)]
      ·by_cases h2:sB.2[y].1 < sA.2[x].1
       ·rw[fE (s':=(out++[[43]++sB.2[y].1],(x:Int),((y+1:Nat):Int)))]
        ·rw[GM sA sB hA hB hcA hcB n x (y+1) _ hx (by omega) (by omega) (by rw[Pi,A0n];omega),F8,if_neg h1,if_pos h2,dA,ul];rfl
        ·unfold jq;simp only[];rw[if_pos (by simp only[Bool.or_eq_true,lm];omega),A0q (by omega:¬ (y:Int)=(sB.2.length:Int)),A0p (by omega:(x:Int) < (sA.2.length:Int)),A0q (by omega:¬ (x:Int)=(sA.2.length:Int))];simp only[Bool.not_false,Io,if_true];rw[bf hxl];simp only[A0o];rw[bf hyl];simp only[A0o];rw[xK,A0q h1,if_neg (by decide),xK,A0p h2,if_pos (by rfl),kH (by simp only[bi,A0b];omega),A0o,Af (by omega) (by simp;omega),A0o,ed y (by omega)]
       ·rw[fE (s':=(out++(if sA.2[x].2.2=sB.2[y].2.2 then[] else[[61]++sA.2[x].1]),((x+1:Nat):Int),((y+1:Nat):Int)))]
        ·rw[GM sA sB hA hB hcA hcB n (x+1) (y+1) _ (by omega) (by omega) (by omega) (by rw[Pi];split <;> simp <;> omega),F8,if_neg h1,if_neg h2,ul]
        ·unfold jq;simp only[];rw[if_pos (by simp only[Bool.or_eq_true,lm];omega),A0q (by omega:¬ (y:Int)=(sB.2.length:Int)),A0p (by omega:(x:Int) < (sA.2.length:Int)),A0q (by omega:¬ (x:Int)=(sA.2.length:Int))];simp only[Bool.not_false,Io,if_true];rw[bf hxl];simp only[A0o];rw[bf hyl];simp only[A0o];rw[xK,A0q h1,if_neg (by decide),xK,A0q h2,if_neg (by decide),alike_ok _ _ ha.1,A0o];unfold qf;by_cases he:sA.2[x].2.2=sB.2[y].2.2
         ·rw[A0p he,if_neg (by decide),if_pos he,ed x (by omega),ed y (by omega),List.append_nil]
         ·rw[A0q he,if_pos (by decide),if_neg he,kH (by simp only[bi,A0b];omega),A0o,Af (by omega) (by simp;omega),A0o,ed x (by omega),ed y (by omega)]
     ·obtain rfl:y=sB.2.length:=by omega
      rw[dA,List.drop_length];rw[fE (s':=(out++[[45]++sA.2[x].1],((x+1:Nat):Int),(sB.2.length:Int)))]
      ·rw[GM sA sB hA hB hcA hcB n (x+1) sB.2.length _ (by omega) hy (by omega) (by rw[Pi,A0n];omega),F8,List.drop_length,ul];rfl
      ·unfold jq;simp only[];rw[if_pos (by simp only[Bool.or_eq_true,lm];omega)];simp only[decide_true,Bool.not_true,Io,if_false,A0z,A0o,Bool.true_or,if_true];rw[bf hxl];simp only[A0o];rw[kH (by simp only[bi,A0b];omega),A0o,Af (by omega) (by simp;omega),A0o,ed x (by omega)]
    ·obtain rfl:x=sA.2.length:=by omega
     by_cases hyl:y < sB.2.length
     ·have hb:=hcB _ (lw hyl);rw[List.drop_length,A0f hyl];rw[fE (s':=(out++[[43]++sB.2[y].1],(sA.2.length:Int),((y+1:Nat):Int)))]
      ·rw[GM sA sB hA hB hcA hcB n sA.2.length (y+1) _ hx (by omega) (by omega) (by rw[Pi,A0n];omega),F8,List.drop_length,ul];rfl
      ·unfold jq;simp only[];rw[if_pos (by simp only[Bool.or_eq_true,lm];omega),A0q (by omega:¬ (y:Int)=(sB.2.length:Int)),A0q (by omega:¬ (sA.2.length:Int) < (sA.2.length:Int))];simp only[decide_true,Bool.not_false,Bool.not_true,Io,if_true,if_false,A0z,A0o,Bool.false_and,Bool.or_self,Bool.true_or];rw[bf hyl];simp only[A0o];rw[kH (by simp only[bi,A0b];omega),A0o,Af (by omega) (by simp;omega),A0o,ed y (by omega)]
     ·obtain rfl:y=sB.2.length:=by omega
      refine fZ ?_;unfold jq;simp only[];rw[if_neg (by simp only[Bool.or_eq_true,lm];omega),List.drop_length,List.drop_length];simp[F8]
end
section
variable {α σ ρ δ:Type}
def Ij (A:List Ae)(k:Ky):Option Ae:=A.find? (fun e=>decide (e.1=k))
theorem Ik {A:List Ae}{k:Ky}:Ij A k=none ↔ k ∉ A.map (·.1):=by
  unfold Ij;rw[List.find?_eq_none];refine⟨fun h hk=>?_,fun h e he hd=>?_⟩
  ·obtain⟨e,he,rfl⟩:=ww.1 hk;exact h e he (by simp)
  ·rw[lm] at hd;exact h (hd▸A0j he)
theorem sK (a:Ae)(A:List Ae)(k:Ky):Ij (a::A) k=if a.1=k then some a else Ij A k:=by
  unfold Ij;by_cases h:a.1=k
  ·rw[if_pos h,List.find?_cons_of_pos (by simpa using h)]
  ·rw[if_neg h,List.find?_cons_of_neg (by simpa using h)]
def TR (A B:List Ae)(k:Ky):A0G :=
  match Ij A k,Ij B k with
  | some a,none=>[[45]++k]
  | none,some b=>[[43]++k]
  | some a,some b=>if a.2.2=b.2.2 then[] else[[61]++k]
  | none,none=>[]
theorem ny:∀ (n:Nat)(A B:List Ae),A.length+B.length<=n->∀ k,k ∈ AV n A B ↔ k ∈ A.map (·.1)∨k ∈ B.map (·.1)
  | 0,A,B,h,k=>by
    have hA:A=[]:=List.length_eq_zero_iff.1 (by omega);have hB:B=[]:=List.length_eq_zero_iff.1 (by omega);subst hA hB;simp[AV]
  | n+1,[],[],h,k=>by simp[AV]
  | n+1,a::A,[],h,k=>by
    simp only[bi,A0b] at h;rw[AV,ut,ny n A [] (by simp;omega) k];simp
  | n+1,[],b::B,h,k=>by
    simp only[bi,A0b] at h;rw[AV,ut,ny n [] B (by simp;omega) k];simp
  | n+1,a::A,b::B,h,k=>by
    simp only[bi] at h;rw[AV];by_cases h1:a.1 < b.1
    ·rw[if_pos h1,ut,ny n A (b::B) (by simp only[bi];omega) k,kw (l:=A),ut (l:=A.map _),or_assoc]
    ·rw[if_neg h1];by_cases h2:b.1 < a.1
     ·rw[if_pos h2,ut,ny n (a::A) B (by simp only[bi];omega) k,kw (l:=B),ut (l:=B.map _)];exact⟨fun h=>h.elim (fun h=>.inr (.inl h)) (fun h=>h.elim .inl (fun h=>.inr (.inr h))),fun h=>h.elim (fun h=>.inr (.inl h)) (fun h=>h.elim .inl (fun h=>.inr (.inr h)))⟩
     ·have he:a.1=b.1:=(LU a.1 b.1).resolve_left h1 |>.resolve_right h2;rw[if_neg h2,ut,ny n A B (by omega) k,kw,kw,ut,ut,<-he];exact⟨fun h=>h.elim (fun h=>.inl (.inl h)) (fun h=>h.elim (fun h=>.inl (.inr h)) (fun h=>.inr (.inr h))),fun h=>h.elim (fun h=>h.elim .inl (fun h=>.inr (.inl h))) (fun h=>h.elim .inl (fun h=>.inr (.inr h)))⟩
theorem Nj {A:List Ae}:mM (emap A) ↔ (A.map (·.1)).Pairwise (· < ·):=by unfold mM;rw[NW]
theorem GN:∀ (n:Nat)(A B:List Ae),A.length+B.length<=n->(A.map (·.1)).Pairwise (· < ·)->(B.map (·.1)).Pairwise (· < ·)->(AV n A B).Pairwise (· < ·)
  | 0,A,B,h,hA,hB=>List.Pairwise.nil
  | n+1,[],[],h,hA,hB=>List.Pairwise.nil
  | n+1,a::A,[],h,hA,hB=>by
    simp only[bi,A0b] at h;rw[kw,List.pairwise_cons] at hA;rw[AV,List.pairwise_cons];exact⟨fun k hk=>hA.1 k (((ny n A [] (by simp;omega) k).1 hk).resolve_right (by simp)),GN n A [] (by simp;omega) hA.2 hB⟩
  | n+1,[],b::B,h,hA,hB=>by
    simp only[bi,A0b] at h;rw[kw,List.pairwise_cons] at hB;rw[AV,List.pairwise_cons];exact⟨fun k hk=>hB.1 k (((ny n [] B (by simp;omega) k).1 hk).resolve_left (by simp)),GN n [] B (by simp;omega) hA hB.2⟩
  | n+1,a::A,b::B,h,hA,hB=>by
    simp only[bi] at h;have hA':=hA;have hB':=hB;rw[kw,List.pairwise_cons] at hA hB;rw[AV];by_cases h1:a.1 < b.1
    ·rw[if_pos h1,List.pairwise_cons];refine⟨fun k hk=>?_,GN n A (b::B) (by simp only[bi];omega) hA.2 hB'⟩;rcases(ny n A (b::B) (by simp only[bi];omega) k).1 hk with h | h
     ·exact hA.1 k h
     ·rcases ut.1 h with rfl | h
      ·exact h1
      ·exact List.lt_trans h1 (hB.1 k h)
    ·rw[if_neg h1];by_cases h2:b.1 < a.1
     ·rw[if_pos h2,List.pairwise_cons];refine⟨fun k hk=>?_,GN n (a::A) B (by simp only[bi];omega) hA' hB.2⟩;rcases(ny n (a::A) B (by simp only[bi];omega) k).1 hk with h | h
      ·rcases ut.1 h with rfl | h
       ·exact h2
       ·exact List.lt_trans h2 (hA.1 k h)
      ·exact hB.1 k h
     ·have he:a.1=b.1:=(LU a.1 b.1).resolve_left h1 |>.resolve_right h2;rw[if_neg h2,List.pairwise_cons];refine⟨fun k hk=>?_,GN n A B (by omega) hA.2 hB.2⟩;rcases(ny n A B (by omega) k).1 hk with h | h
      ·exact hA.1 k h
      ·rw[he];exact hB.1 k h
theorem JR {f g:α->List δ}:∀ (l:List α),(∀ x ∈ l,f x=g x)->l.flatMap f=l.flatMap g
  | [],_=>rfl
  | x::l,h=>by
    rw[List.flatMap_cons,List.flatMap_cons,h x A0g,JR l fun y hy=>h y (A0e _ hy)]
theorem GR:∀ (n:Nat)(A B:List Ae),A.length+B.length<=n->(A.map (·.1)).Pairwise (· < ·)->(B.map (·.1)).Pairwise (· < ·)->F8 n A B=(AV n A B).flatMap (TR A B)
  | 0,A,B,h,hA,hB=>by simp[F8,AV]
  | n+1,[],[],h,hA,hB=>by simp[F8,AV]
  | n+1,a::A,[],h,hA,hB=>by
    simp only[bi,A0b] at h;rw[kw,List.pairwise_cons] at hA;rw[AV,F8,List.flatMap_cons,GR n A [] (by simp;omega) hA.2 hB];have h1:TR (a::A) [] a.1=[[45]++a.1]:=by unfold TR;rw[sK,if_pos rfl];rfl
    rw[h1,JR (g:=TR (a::A) []) _ fun k hk=>?_]
    ·rfl
    ·have h3:=((ny n A [] (by simp;omega) k).1 hk).resolve_right (by simp);have hne:a.1≠k:=fun e=>List.lt_irrefl a.1 (by have:=hA.1 k h3;rw[<- e] at this;exact this);unfold TR;rw[sK,if_neg hne]
  | n+1,[],b::B,h,hA,hB=>by
    simp only[bi,A0b] at h;rw[kw,List.pairwise_cons] at hB;rw[AV,F8,List.flatMap_cons,GR n [] B (by simp;omega) hA hB.2];have h1:TR [] (b::B) b.1=[[43]++b.1]:=by unfold TR;rw[sK,if_pos rfl];rfl
    rw[h1,JR (g:=TR [] (b::B)) _ fun k hk=>?_]
    ·rfl
    ·have h3:=((ny n [] B (by simp;omega) k).1 hk).resolve_left (by simp);have hne:b.1≠k:=fun e=>List.lt_irrefl b.1 (by have:=hB.1 k h3;rw[<- e] at this;exact this);unfold TR;rw[sK,if_neg hne]
  | n+1,a::A,b::B,h,hA,hB=>by
    simp only[bi] at h;have hA':=hA;have hB':=hB;rw[kw,List.pairwise_cons] at hA hB;have hlt:∀ {x y:Ky},x < y->x≠y:=fun h e=>List.lt_irrefl _ (by rw[e] at h;exact h);rw[AV,F8];by_cases h1:a.1 < b.1
    ·rw[if_pos h1,if_pos h1,List.flatMap_cons,GR n A (b::B) (by simp only[bi];omega) hA.2 hB'];have hnb:Ij (b::B) a.1=none:=Ik.2 fun hm=>by
       rcases ut.1 hm with e | hm
       ·exact hlt h1 e
       ·exact hlt (List.lt_trans h1 (hB.1 _ hm)) rfl
     have h2:TR (a::A) (b::B) a.1=[[45]++a.1]:=by unfold TR;rw[sK,if_pos rfl,hnb]
     rw[h2,JR (g:=TR (a::A) (b::B)) _ fun k hk=>?_]
     ·rfl
     ·have hak:a.1 < k:=by
        rcases(ny n A (b::B) (by simp only[bi];omega) k).1 hk with h | h
        ·exact hA.1 k h
        ·rcases ut.1 h with rfl | h
         ·exact h1
         ·exact List.lt_trans h1 (hB.1 k h)
      unfold TR;rw[sK a,if_neg (hlt hak)]
    ·rw[if_neg h1,if_neg h1];by_cases h2:b.1 < a.1
     ·rw[if_pos h2,if_pos h2,List.flatMap_cons,GR n (a::A) B (by simp only[bi];omega) hA' hB.2];have hna:Ij (a::A) b.1=none:=Ik.2 fun hm=>by
        rcases ut.1 hm with e | hm
        ·exact hlt h2 e
        ·exact hlt (List.lt_trans h2 (hA.1 _ hm)) rfl
      have h3:TR (a::A) (b::B) b.1=[[43]++b.1]:=by unfold TR;rw[hna,sK b,if_pos rfl]
      rw[h3,JR (g:=TR (a::A) (b::B)) _ fun k hk=>?_]
      ·rfl
      ·have hak:b.1 < k:=by
         rcases(ny n (a::A) B (by simp only[bi];omega) k).1 hk with h | h
         ·rcases ut.1 h with rfl | h
          ·exact h2
          ·exact List.lt_trans h2 (hA.1 k h)
         ·exact hB.1 k h
       unfold TR;rw[sK b,if_neg (hlt hak)]
     ·have he:a.1=b.1:=(LU a.1 b.1).resolve_left h1 |>.resolve_right h2;rw[if_neg h2,if_neg h2,List.flatMap_cons,GR n A B (by omega) hA.2 hB.2];have h3:TR (a::A) (b::B) a.1=if a.2.2=b.2.2 then[] else[[61]++a.1]:=by unfold TR;rw[sK a,if_pos rfl,sK b,if_pos he.symm]
      rw[h3,JR (g:=TR (a::A) (b::B)) _ fun k hk=>?_];have hak:a.1 < k:=by
        rcases(ny n A B (by omega) k).1 hk with h | h
        ·exact hA.1 k h
        ·rw[he];exact hB.1 k h
      unfold TR;rw[sK a,if_neg (hlt hak),sK b,if_neg (by rw[<- he];exact hlt hak)]
theorem srt_uniq {l l':A0G}(h:l.Pairwise (· < ·))(h':l'.Pairwise (· < ·))(he:∀ k,k ∈ l ↔ k ∈ l'):l=l':=by
  have hm:∀ l:A0G,(l.map fun k=>(k,())).map (·.1)=l:=fun l=>by rw[List.map_map];exact List.map_id l
  have h1:mM (l.map fun k=>(k,())):=by unfold mM;rw[hm];exact h
  have h2:mM (l'.map fun k=>(k,())):=by unfold mM;rw[hm];exact h'
  have:=mM.ext h1 h2 fun k=>by
    cases h3:bn (l.map fun k=>(k,())) k with
    | none =>
      rw[jD,hm] at h3;rw[eq_comm,jD,hm];exact fun h=>h3 ((he k).2 h)
    | some u =>
      cases h4:bn (l'.map fun k=>(k,())) k with
      | none =>
        rw[jD,hm] at h4;have h5:=A0j (f:=(·.1)) (Am h3);rw[hm] at h5;exact absurd ((he k).1 h5) h4
      | some u'=>rfl
  have h5:=congrArg (List.map (·.1)) this;rw[hm,hm] at h5;exact h5
end
section
variable {α σ ρ δ:Type}
theorem t0_srt (m:QW):∀ s s':A0J,mM s->jB jl s m=some s'->mM s':=by
  induction m with
  | nil=>intro s s' h e;cases e;exact h
  | cons p r ih =>
    intro s s' h e;obtain⟨k0,v⟩:=p;simp only[jB,jl,A0o] at e;exact ih _ _ (h.gQ k0 1) e
theorem t1_srt (m:QW):∀ s s':A0J,mM s->jB jk s m=some s'->mM s':=by
  induction m with
  | nil=>intro s s' h e;cases e;exact h
  | cons p r ih =>
    intro s s' h e;obtain⟨k0,v⟩:=p;simp only[jB,jk,A0o] at e;exact ih _ _ (h.gQ k0 _) e
theorem fm_fold (f:α->List δ):∀ (l:List α) (out:List δ),l.foldl (fun out k=>out++f k) out=out++l.flatMap f
  | [],out=>by simp
  | x::l,out=>by rw[List.foldl_cons,fm_fold f l,List.flatMap_cons,ul]
theorem tkM_len (A B:List Ae)(k:Ky):(TR A B k).length<=1:=by
  unfold TR;split
  ·exact Nat.le_refl _
  ·exact Nat.le_refl _
  ·split
   ·exact Nat.zero_le _
   ·exact Nat.le_refl _
  ·exact Nat.zero_le _
theorem flat_inj (z:Nat)(h1:1<=z){a b:A0G}(ha:∀ k ∈ a,k.length=z)(hb:∀ k ∈ b,k.length=z):a.flatten=b.flatten ↔ a=b:=by
  refine⟨fun h=>?_,fun h=>by rw[h]⟩;have e1:=Nb z a ha;have e2:=Nb z b hb;have hl:a.length=b.length:=by
    rw[h,e2] at e1;exact(Nat.eq_of_mul_eq_mul_right (by omega) e1).symm
  rw[<- JO z a ha,<-JO z b hb,h,hl]
structure OkL (z:Nat)(A:List Ae):Prop where
  few:A.length<=256
  Di:mM (emap A)
  name:∀ e ∈ A,1<=e.1.length/\e.1.length<=64
  chs:∀ e ∈ A,e.2.2.length<=1048576
  each:∀ e ∈ A,∀ c ∈ e.2.2,c.length=z
theorem Ag {A:List Ae}{k:Ky}{a:Ae}(h:Ij A k=some a):a ∈ A/\a.1=k:=by
  refine⟨List.mem_of_find?_eq_some h,?_⟩;have:=List.find?_some h;simpa using this
theorem pturn_ok (z:Nat)(h1:1<=z)(zi:Int)(C:Ch)(S:Sn)(p q:Ky)(A B:List Ae)(hA:OkL z A)(hB:OkL z B)(hp:bn S p=some (emap A))(hq:bn S q=some (emap B)) :
    kN zi C S p q=some (F8 (A.length+B.length) A B,0,zi):=by
  unfold kN dm;simp only[A0o];rw[hp,hq];simp only[A1A];obtain⟨s,f1,f2,f3⟩:=t0_ok (emap A) [];obtain⟨s',g1,g2,g3⟩:=t1_ok (emap B) hB.Di.nodup s;have hs:=t1_srt _ _ _ (t0_srt _ _ _ AU f1) g1;rw[f1];simp only[A0o];rw[g1];simp only[A0o];have hAf:=hA.few;have hBf:=hB.few;rw[JP,A0b] at f2;rw[JP] at g2;unfold uC;rw[kH (by omega)];simp only[A0o];rw[FV hs];have hfind:∀ k,bn s' k=if k ∈ B.map (·.1) then some (if k ∈ A.map (·.1) then 3 else 2) else if k ∈ A.map (·.1) then some 1 else none:=fun k=>by
    rw[g3,f3,NW,NW];by_cases hb:k ∈ B.map (·.1)
    ·rw[if_pos hb,if_pos hb];by_cases ha:k ∈ A.map (·.1)
     ·rw[if_pos ha,if_pos ha];rfl
     ·rw[if_neg ha,if_neg ha];rfl
    ·rw[if_neg hb,if_neg hb];by_cases ha:k ∈ A.map (·.1)
     ·rw[if_pos ha,if_pos ha]
     ·rw[if_neg ha,if_neg ha];rfl
  have hkeys:s'.map (·.1)=AV (A.length+B.length) A B:=srt_uniq hs (GN _ A B (Nat.le_refl _) (Nj.1 hA.Di) (Nj.1 hB.Di)) fun k=>by
    rw[ny _ A B (Nat.le_refl _),<-Decidable.not_not (p:=k ∈ s'.map (·.1)),<-jD,hfind];by_cases hb:k ∈ B.map (·.1)
    ·rw[if_pos hb];simp[hb]
    ·rw[if_neg hb];by_cases ha:k ∈ A.map (·.1)
     ·rw[if_pos ha];simp[ha]
     ·rw[if_neg ha];simp only[not_true_eq_false,ha,hb,or_self]
  have hkl:∀ k ∈ s'.map (·.1),k.length<=64:=fun k hk=>by
    rw[hkeys,ny _ A B (Nat.le_refl _)] at hk;rcases hk with hk | hk
    ·obtain⟨e,he,rfl⟩:=ww.1 hk;exact(hA.name e he).2
    ·obtain⟨e,he,rfl⟩:=ww.1 hk;exact(hB.name e he).2
  have hll:(s'.map (·.1)).length=s'.length:=A0a _;have:=foldl_loop (s'.map (·.1)) (nZ zi (emap A) (emap B) s' (s'.map (·.1))) (fun out k=>out++TR A B k) (fun i s=>s.length<=i) (fun s=>(s,(0:Int),zi)) (fun i hi s hI=>by
    have hlen:=tkM_len A B (s'.map (·.1))[i];refine⟨?_,by rw[Pi];omega⟩;have hk:=hkl _ (lw hi);have hmem:=lw hi;unfold nZ kQ;simp only[];rw[if_pos (by omega),bf hi];simp only[A0o];generalize (s'.map (·.1))[i]=k at hk hmem;rw[hfind k];unfold TR;cases ea:Ij A k with
    | none =>
      have ha:=Ik.1 ea;rw[if_neg ha,if_neg ha];cases eb:Ij B k with
      | none =>
        exfalso;have hb:=Ik.1 eb;rw[hkeys,ny _ A B (Nat.le_refl _)] at hmem;exact hmem.elim ha hb
      | some b =>
        have hb:k ∈ B.map (·.1):=(Ag eb).2▸A0j (Ag eb).1;rw[if_pos hb,Option.getD_some,if_neg (by decide),if_pos rfl,kH (by simp only[bi,A0b];omega),A0o,Af (by omega) (by simp;omega),A0o,ed i (by omega)]
    | some a =>
      have ha:k ∈ A.map (·.1):=(Ag ea).2▸A0j (Ag ea).1;rw[if_pos ha,if_pos ha];cases eb:Ij B k with
      | none =>
        have hb:=Ik.1 eb;rw[if_neg hb,Option.getD_some,if_pos rfl,kH (by simp only[bi,A0b];omega),A0o,Af (by omega) (by simp;omega),A0o,ed i (by omega)]
      | some b =>
        have hb:k ∈ B.map (·.1):=(Ag eb).2▸A0j (Ag eb).1;rw[if_pos hb,Option.getD_some,if_neg (by decide),if_neg (by decide)];have e1:bn (emap A) k=some (a.2.1,a.2.2.flatten):=by rw[NV];unfold Ij at ea;rw[ea];rfl
        have e2:bn (emap B) k=some (b.2.1,b.2.2.flatten):=by rw[NV];unfold Ij at eb;rw[eb];rfl
        rw[e1,e2,Option.getD_some,Option.getD_some];have hfi:=flat_inj z h1 (hA.each a (Ag ea).1) (hB.each b (Ag eb).1);by_cases he:a.2.2=b.2.2
        ·rw[if_neg (by simp[he]),ed i (by omega)];simp[he]
        ·rw[if_pos (fun h=>he (hfi.1 h)),kH (by simp only[bi,A0b];omega),A0o,Af (by omega) (by simp;omega),A0o,ed i (by omega)];simp[he]) (fun s hI=>by
    unfold nZ;simp only[];rw[if_neg (by omega)];rfl) (s'.map (·.1)).length 0 [] (by omega) (by simp)
  rw[A1C] at this;rw[show(0:Int)=((0:Nat):Int) from rfl,this.1,fm_fold,List.nil_append,GR _ A B (Nat.le_refl _) (Nj.1 hA.Di) (Nj.1 hB.Di),hkeys];rfl
def turN (N:List wB)(p q:Ky):A0G×Int :=
  match N.find? (fun s=>decide (s.1=p)),N.find? (fun s=>decide (s.1=q)) with
  | some a,some b=>(F8 (a.2.length+b.2.length) a.2 b.2,0)
  | _,_=>([],272)
theorem pturned_ok (z:Nat)(h1:1<=z)(zi:Int)(C:Ch)(N:List wB)(hl:N.length<=1000000000)(hS:mM (smap N))(hN:∀ s ∈ N,OkL z s.2)(p q:Ky) :
    kN zi C (smap N) p q=some ((turN N p q).1,(turN N p q).2,zi):=by
  have hnd:=hS.nodup;rw[wC] at hnd;unfold turN;rcases Nc 0 C N p hl hS with⟨i,hi,rfl,h3,_⟩ | ⟨h3,_⟩
  ·rcases Nc 0 C N q hl hS with⟨j,hj,rfl,h4,_⟩ | ⟨h4,_⟩
   ·rw[yt hnd hi,yt hnd hj];exact pturn_ok z h1 zi C (smap N) _ _ _ _ (hN _ (lw hi)) (hN _ (lw hj)) h3 h4
   ·rw[CW h4];unfold kN dm;simp only[A0o];rw[h3,h4];cases N.find? (fun s=>decide (s.1=N[i].1)) <;> rfl
  ·rw[CW h3];unfold kN dm;simp only[A0o];rw[h3];cases bn (smap N) q <;> rfl
theorem rturned_ok (z:Nat)(zi:Int)(C:Ch)(N:List wB)(hl:N.length<=1000000000)(hS:mM (smap N))(hN:∀ s ∈ N,OkL z s.2)(p q:Ky) :
    uV zi C N p q=some (turN N p q):=by
  have hnd:=hS.nodup;rw[wC] at hnd;unfold turN uV;rcases Nc zi C N p hl hS with⟨i,hi,rfl,h3,h5⟩ | ⟨h3,h5⟩
  ·rcases Nc zi C N q hl hS with⟨j,hj,rfl,h4,h6⟩ | ⟨h4,h6⟩
   ·rw[yt hnd hi,yt hnd hj,h5,h6];simp only[A0o];have hA:=hN _ (lw hi);have hB:=hN _ (lw hj);rw[if_neg (by simp only[Bool.or_eq_true,lm];omega),bf hi];simp only[A0o];rw[bf hj];simp only[A0o];have:=GM N[i] N[j] hA.few hB.few (fun e he=>⟨hA.chs e he,(hA.name e he).2⟩) (fun e he=>(hB.name e he).2) (N[i].2.length+N[j].2.length) 0 0 [] (by omega) (by omega) (by omega) (by simp);rw[A1C,A1C,List.nil_append] at this;exact this
   ·rw[CW h4,h5,h6];simp only[A0o];rw[if_pos (by simp)];cases N.find? (fun s=>decide (s.1=N[i].1)) <;> rfl
  ·rw[CW h3,h5];simp only[A0o];rcases Nc zi C N q hl hS with⟨j,hj,rfl,h4,h6⟩ | ⟨h4,h6⟩
   ·rw[h6];simp only[A0o];rw[if_pos (by simp)]
   ·rw[h6];simp only[A0o];rw[if_pos (by simp)]
theorem JS:∀ (n:Nat)(A B:List Ae),(F8 n A B).length<=n
  | 0,_,_=>Nat.le_refl _
  | n+1,[],[]=>Nat.zero_le _
  | n+1,a::A,[]=>by rw[F8,bi];have:=JS n A [];omega
  | n+1,[],b::B=>by rw[F8,bi];have:=JS n [] B;omega
  | n+1,a::A,b::B=>by
    rw[F8];split
    ·rw[bi];have:=JS n A (b::B);omega
    ·split
     ·rw[bi];have:=JS n (a::A) B;omega
     ·rw[Pi];have:=JS n A B;split <;> simp <;> omega
end
noncomputable section
variable {α σ ρ δ:Type}
theorem rnames_l1 (l:List Fi)(hl:l.length<=256)(i:Nat)(hi:i < l.length) :
    aQ (xX l (i:Int)) (0:Int)=some (if ∃ j,∃ h:j < i,l[j].1=l[i].1 then .inr 213 else .inl ((i+1:Nat):Int)):=by
  rw[JQ (xX l (i:Int)) i (fun k=>decide ((l[k]?).map (·.1)≠some l[i].1)) (.inr 213) (some (.inl ((i+1:Nat):Int)))]
  ·by_cases he:∃ j,∃ h:j < i,l[j].1=l[i].1
   ·rw[if_pos he,if_neg];intro hall;obtain⟨j,hj,e⟩:=he;have:=of_decide_eq_true (List.all_eq_true.1 hall j (List.mem_range.2 hj));rw[A0l (by omega),Option.map_some,e] at this;exact this rfl
   ·rw[if_neg he,if_pos];refine List.all_eq_true.2 fun j hj=>A0p fun e=>he ⟨j,List.mem_range.1 hj,?_⟩;rw[A0l (by have:=List.mem_range.1 hj;omega),Option.map_some] at e;exact Option.some.inj e
  ·intro k hk;unfold xX;simp only[];rw[if_pos (by omega),bf (by omega)];simp only[A0o];rw[bf hi];simp only[A0o];rw[A0l (by omega:k < l.length)];by_cases he:(l[k]'(by omega)).1=l[i].1
   ·rw[if_pos he,if_neg (by simp[he])];rfl
   ·rw[if_neg he,if_pos (by simp[he]),ed k (by omega)]
  ·unfold xX;simp only[];rw[if_neg (by omega),ed i (by omega)]
  ·rfl
theorem rnames_ok (l:List Fi)(hl:l.length<=256)(hd:∀ f ∈ l,f.1.length<=16000000/\f.2.length<=1048576):Fj l=some ((seeA l).getD 0):=by
  unfold Fj seeA;rw[FT (fun o:A06=>o.getD 0)];refine QM (f:=zN l) l (fun(s:A0J×Nat) k=>(k:Int)) _ _ (fun k s=>∀ key,(bn s.1 key).isSome=true ↔ ∃ j,∃ h:j < l.length,j < k/\l[j].1=key) (fun s i hi hI=>?_) (fun s _=>?_) ([],0) (fun key=>by simp[bn])
  ·have hx:=hd _ (lw hi);unfold zN YQ;simp only[];rw[if_pos (by omega),bf hi];simp only[A0o];rw[rname _ hx.1];simp only[A0o];cases hn:um l[i].1 with
   | false=>exact⟨rfl,fun s' h=>by cases h⟩
   | true =>
     simp only[Bool.not_true,A0z,if_false,Bool.true_eq_false];rw[if_neg (by omega),rnames_l1 l hl i hi];have hiff:(∃ j,∃ h:j < i,l[j].1=l[i].1) ↔ (bn s.1 l[i].1).isSome=true:=by
       rw[hI];exact⟨fun⟨j,h,e⟩=>⟨j,by omega,h,e⟩,fun⟨j,h,h',e⟩=>⟨j,h',e⟩⟩
     by_cases he:(bn s.1 l[i].1).isSome=true
     ·rw[if_pos he,if_pos (hiff.2 he)];exact⟨rfl,fun s' h=>by cases h⟩
     ·rw[if_neg he,if_neg (fun h=>he (hiff.1 h))];refine⟨rfl,fun s' h=>?_⟩;obtain rfl:=Sum.inl.inj h;intro key;simp only[id];rw[wz];by_cases hk:l[i].1=key
      ·rw[if_pos hk];exact⟨fun _=>⟨i,hi,by omega,hk⟩,fun _=>rfl⟩
      ·rw[if_neg hk,hI];refine⟨fun⟨j,h,h',e⟩=>⟨j,h,by omega,e⟩,fun⟨j,h,h',e⟩=>⟨j,h,?_,e⟩⟩;rcases Nat.lt_succ_iff_lt_or_eq.1 h' with h2 | h2
       ·exact h2
       ·subst h2;exact absurd e hk
  ·unfold zN;simp only[];rw[if_neg (by omega)];rfl
def Pz (z:Nat)(s:Ch×A0G)(c:AC):(Ch×A0G)⊕Option (Ch×A0G) :=
  match bn s.1 (zo z c) with
  | some o=>if o≠c then .inr none else .inl (s.1,s.2++[zo z c])
  | none=>.inl (gQ s.1 (zo z c) c,s.2++[zo z c])
theorem VI {C m:Ch}(hC:mM C)(hm:mM m)(k:Ky)(v:AC):yl C (gQ m k v)=gQ (yl C m) k v:=by
  refine mM.ext (QO _ _ hC) ((QO _ _ hC).gQ k v) fun k'=>?_;rw[RX _ _ _ (hm.gQ k v).nodup,wz,wz,RX _ _ _ hm.nodup];by_cases h:k=k'
  ·rw[if_pos h,if_pos h];rfl
  ·rw[if_neg h,if_neg h]
theorem mins_same {m:Ch}(hm:mM m){k:Ky}{v:AC}(h:bn m k=some v):gQ m k v=m:=by
  refine mM.ext (hm.gQ k v) hm fun k'=>?_;rw[wz];by_cases h':k=k'
  ·rw[if_pos h',<-h',h]
  ·rw[if_neg h']
theorem reat_run (z:Nat)(C:Ch)(hC:mM C):∀ (cs:WP) (m:Ch) (e:AC) (ks:A0G),mM m->Agree C m ->
    tZ (Pz z) some cs (yl C m,ks)=(tZ (MR z C) some cs (m,e)).map (fun r=>(yl C r.1,ks++cs.map (zo z)))
  | [],m,e,ks,hm,hA=>by simp[tZ]
  | c::cs,m,e,ks,hm,hA=>by
    have hf:bn (yl C m) (zo z c)=(bn C (zo z c)).or (bn m (zo z c)):=by
      rw[RX _ _ _ hm.nodup];cases h1:bn m (zo z c) with
      | none=>rw[Option.none_or,Option.or_none]
      | some v =>
        cases h2:bn C (zo z c) with
        | none=>rfl
        | some o=>simp[hA _ _ h1 _ h2]
    unfold tZ;have hstep:Pz z (yl C m,ks) c=match MR z C (m,e) c with | .inl s'=>.inl (yl C s'.1,ks++[zo z c]) | .inr q=>.inr none:=by
      unfold Pz MR;simp only[];rw[hf];cases ho:(bn C (zo z c)).or (bn m (zo z c)) with
      | none =>
        show Sum.inl (gQ (yl C m) (zo z c) c,_)=Sum.inl (yl C (gQ m (zo z c) c),_);rw[VI hC hm]
      | some o =>
        simp only[];by_cases hoc:o≠c
        ·rw[if_pos hoc,if_pos hoc]
        ·rw[if_neg hoc,if_neg hoc];show Sum.inl (yl C m,_)=Sum.inl (yl C (gQ m (zo z c) c),_);rw[VI hC hm,mins_same (QO _ _ hC)];rw[hf,ho,Decidable.not_not.1 hoc]
    rw[hstep];cases hs:MR z C (m,e) c with
    | inr q =>
      have:=eat_inr hs;subst this;rfl
    | inl s' =>
      obtain⟨rfl,hC1,hC2⟩:=Xf hs;simp only[];have hE:=Na (sz:=z) (C:=C) [c] (m,e) (gQ m (zo z c) c,e++zo z c) (by unfold tZ;rw[hs];rfl);rw[reat_run z C hC cs (gQ m (zo z c) c) (e++zo z c) (ks++[zo z c]) (hE.Di hm) (hE.agree hA)];simp only[kw,ul,A0x,List.nil_append]
def QR (z:Nat)(f:Fi):Ae:=(f.1,((f.2.length:Int),(cut f.2 [] 0).map (zo z)))
def keepR (z:Nat)(s:Ch×List Ae)(f:Fi):(Ch×List Ae)⊕Option (Ch×List Ae) :=
  match tZ (Pz z) some (cut f.2 [] 0) (s.1,[]) with
  | none=>.inr none
  | some p=>.inl (p.1,s.2++[(f.1,((f.2.length:Int),p.2))])
theorem Xr (z:Nat)(C:Ch)(hC:mM C):∀ (l:List Fi) (m:Ch) (md:QW) (L:List Ae),mM m->Agree C m ->
    tZ (keepR z) some l (yl C m,L)=(tZ (QN z C) some l (m,md)).map (fun r=>(yl C r.1,L++l.map (QR z)))
  | [],m,md,L,hm,hA=>by simp[tZ]
  | f::l,m,md,L,hm,hA=>by
    have h1:keepR z (yl C m,L) f=match Wy z C (cut f.2 [] 0) m with | none=>.inr none | some p=>.inl (yl C p.1,L++[QR z f]):=by
      unfold keepR Wy;simp only[];rw[reat_run z C hC (cut f.2 [] 0) m [] [] hm hA];cases tZ (MR z C) some (cut f.2 [] 0) (m,[]) <;> rfl
    have h2:QN z C (m,md) f=match Wy z C (cut f.2 [] 0) m with | none=>.inr none | some p=>.inl (p.1,gQ md f.1 ((f.2.length:Int),p.2)):=rfl
    rw[tZ,tZ,h1,h2];cases he:Wy z C (cut f.2 [] 0) m with
    | none=>rfl
    | some p =>
      have hE:=Na _ _ _ he;simp only[];rw[Xr z C hC l p.1 (gQ md f.1 ((f.2.length:Int),p.2)) _ (hE.Di hm) (hE.agree hA),kw,ul];rfl
theorem Xt (z:Nat)(C:Ch):∀ (l:List Fi) (m:Ch) (md:QW) (r:Ch×QW),tZ (QN z C) some l (m,md)=some r->r.2=(l.map (QR z)).foldl (fun md e=>gQ md e.1 (e.2.1,e.2.2.flatten)) md
  | [],m,md,r,h=>by cases h;rfl
  | f::l,m,md,r,h=>by
    unfold tZ QN Wy at h;simp only[] at h;cases he:tZ (MR z C) some (cut f.2 [] 0) (m,[]) with
    | none=>rw[he] at h;cases h
    | some p =>
      rw[he] at h;have hE:=Na _ _ _ he;have hd:p.2=((cut f.2 [] 0).map (zo z)).flatten:=by rw[hE.digs];rfl
      have:=Xt z C l p.1 _ r h;rw[this,kw,List.foldl_cons,hd];rfl
end
section
variable {α σ ρ δ:Type}
theorem VJ (i:Nat)(hi:i<=1000)(x:Ae):∀ (n:Nat) (P Q:List Ae),P.length=n->n<=1000 ->
    ∃ P1 P2:List Ae,P=P1++P2/\aQ (vY (i:Int)) (P++x::Q,(n:Int))=some (.inl (P1++x::P2++Q,((i+1:Nat):Int)))/\(∀ p ∈ P2,x.1 < p.1)/\∀ p,P1.getLast?=some p->¬ x.1 < p.1
  | 0,P,Q,hP,hn=>by
    obtain rfl:=List.length_eq_zero_iff.1 hP;refine⟨[],[],rfl,fZ ?_,fun p hp=>(by cases hp),fun p hp=>(by cases hp)⟩;unfold vY;simp only[];rw[A0q (by omega:¬ (0:Int) < ((0:Nat):Int))];simp only[Io,A0z,if_false,A0o,Bool.false_and];rw[ed i (by omega)];rfl
  | n+1,P,Q,hP,hn=>by
    have hne:P≠[]:=fun h=>by rw[h] at hP;cases hP
    have hsp:=List.dropLast_concat_getLast hne;generalize hp:P.getLast hne=p at hsp;generalize hP':P.dropLast=P' at hsp;have hl':P'.length=n:=by rw[<- hP',List.length_dropLast,hP];rfl
    subst hsp;have hg1:aW (P'++[p]++x::Q) ((n+1:Nat):Int)=some x:=by
      rw[bf (by simp[hl'])];congr 1;rw[List.getElem_append_right (by simp[hl'])];simp[hl']
    have hg0:aW (P'++[p]++x::Q) (n:Int)=some p:=by
      rw[bf (by simp[hl'])];congr 1;rw[List.getElem_append_left (by simp[hl']),List.getElem_append_right (by simp[hl'])];simp[hl']
    by_cases hx:x.1 < p.1
    ·obtain⟨P1,P2,e1,e2,e3,e4⟩:=VJ i hi x n P' (p::Q) hl' (by omega);refine⟨P1,P2++[p],by rw[e1,ul],?_,fun q hq=>?_,e4⟩
     ·rw[fE (s':=(P'++x::p::Q,(n:Int))),e2]
      ·simp
      ·unfold vY;simp only[];rw[A0p (by omega:(0:Int) < ((n+1:Nat):Int)),w64_pred n (by omega)];simp only[Io,if_true];rw[hg1,hg0];simp only[A0o];rw[xK,A0p hx,if_pos (by rfl),bf (by simp[hl'])];simp only[A0o];congr 2;rw[A0Z,A0Z];have s1:(P'++[p]++x::Q).set (n+1) (p.1,p.2.1,p.2.2)=P'++[p]++p::Q:=by
         rw[List.set_append_right _ _ (by simp[hl'])];simp[hl']
       rw[s1,ul,List.set_append_right _ _ (by omega),hl',Nat.sub_self];rfl
     ·rcases List.mem_append.1 hq with hq | hq
      ·exact e3 q hq
      ·rw[A0d] at hq;rw[hq];exact hx
    ·refine⟨P'++[p],[],by rw[List.append_nil],fZ ?_,fun p hp=>(by cases hp),fun q hq=>?_⟩
     ·unfold vY;simp only[];rw[A0p (by omega:(0:Int) < ((n+1:Nat):Int)),w64_pred n (by omega)];simp only[Io,if_true];rw[hg1,hg0];simp only[A0o];rw[xK,A0q hx,if_neg (by decide),ed i (by omega)];simp
     ·rw[List.getLast?_concat] at hq;rw[<- Option.some.inj hq];exact hx
theorem VK (L:List Ae)(hl:L.length<=256)(hn:(L.map (·.1)).Nodup):∃ L',AB L=some L'/\L'.Perm L/\mM (emap L'):=by
  have key:∀ (m i:Nat) (S:List Ae),i+m=L.length->S.Perm (L.take i)->(S.map (·.1)).Pairwise (· < ·) ->
      ∃ L',aQ (vZ) (S++L.drop i,(i:Int))=some L'/\L'.Perm L/\mM (emap L'):=by
    intro m
    induction m with
    | zero =>
      intro i S hi hp hs;obtain rfl:i=L.length:=by omega
      rw[A0h] at hp;refine⟨S,fZ ?_,hp,Nj.2 hs⟩;unfold vZ;simp only[];rw[List.drop_length,List.append_nil,if_neg (by rw[hp.length_eq];omega)];rfl
    | succ m ih =>
      intro i S hi hp hs;have hil:i < L.length:=by omega
      have hSl:S.length=i:=by rw[hp.length_eq,A0i];omega
      have hd:=A0f hil;obtain⟨P1,P2,e1,e2,e3,e4⟩:=VJ i (by omega) L[i] S.length S (L.drop (i+1)) rfl (by omega);have hxS:L[i].1 ∉ S.map (·.1):=fun hm=>by
        have h1:L[i].1 ∈ (L.take i).map (·.1):=(hp.map _).mem_iff.1 hm;obtain⟨e,he,hee⟩:=ww.1 h1;obtain⟨j,hj,rfl⟩:=List.getElem_of_mem he;rw[A0i] at hj;rw[List.getElem_take] at hee;have:=(YW hn j i (by omega) hil).1 hee;omega
      have hlt1:∀ p ∈ P1,p.1 < L[i].1:=by
        intro p hpm;cases hP1:P1.getLast? with
        | none=>rw[List.getLast?_eq_none_iff] at hP1;rw[hP1] at hpm;cases hpm
        | some q =>
          have hq:=e4 q hP1;have hqm:=List.mem_of_getLast? hP1;have hne:L[i].1≠q.1:=fun e=>hxS (e▸A0j (by rw[e1];exact List.mem_append_left _ hqm));have hqx:q.1 < L[i].1:=((LU L[i].1 q.1).resolve_left hq).resolve_left hne;obtain⟨P0,hP0⟩:=List.getLast?_eq_some_iff.1 hP1;rw[hP0] at hpm;rcases List.mem_append.1 hpm with h | h
          ·rw[e1,hP0,List.map_append,List.map_append,List.pairwise_append,List.pairwise_append] at hs;exact List.lt_trans (hs.1.2.2 p.1 (A0j h) q.1 (by simp)) hqx
          ·rw[A0d] at h;rw[h];exact hqx
      obtain⟨L',f1,f2,f3⟩:=ih (i+1) (P1++L[i]::P2) (by omega) (by
        rw[A0m,A0l hil];refine List.perm_middle.trans ?_;rw[<- e1];exact(List.Perm.cons _ hp).trans (A0t (l₁:=[_]))) (by
        rw[e1,List.map_append,List.pairwise_append] at hs;rw[List.map_append,kw,List.pairwise_append,List.pairwise_cons];refine⟨hs.1,⟨fun k hk=>?_,hs.2.1⟩,fun a ha b hb=>?_⟩
        ·obtain⟨p,hp,rfl⟩:=ww.1 hk;exact e3 p hp
        ·obtain⟨p,hp,rfl⟩:=ww.1 ha;rcases ut.1 hb with rfl | hb
         ·exact hlt1 p hp
         ·exact hs.2.2 _ ha _ hb)
      refine⟨L',?_,f2,f3⟩;rw[fE (s':=(P1++L[i]::P2++L.drop (i+1),((i+1:Nat):Int)))]
      ·exact f1
      ·unfold vZ;simp only[];rw[if_pos (by rw[Pi,A1F];omega),hd];rw[hSl] at e2;exact e2
  unfold AB;cases hL:L with
  | nil =>
    refine⟨[],fZ ?_,List.Perm.refl _,AU⟩;unfold vZ;simp only[];rw[if_neg (by simp)];rfl
  | cons a r =>
    have h1:L.take 1=[a]:=by rw[hL];rfl
    have:=key (L.length - 1) 1 [a] (by rw[hL];simp;omega) (by rw[h1]) (List.pairwise_singleton _ _);rw[hL] at this;exact this
theorem Xu:∀ (L:List Ae)(md:QW),mM md->(L.map (·.1)).Nodup->(∀ e ∈ L,e.1 ∉ md.map (·.1)) ->
    (L.foldl (fun md e=>gQ md e.1 (e.2.1,e.2.2.flatten)) md).Perm (emap L++md)/\mM (L.foldl (fun md e=>gQ md e.1 (e.2.1,e.2.2.flatten)) md)
  | [],md,hs,_,_=>⟨List.Perm.refl _,hs⟩
  | e::L,md,hs,hn,hk=>by
    rw[kw,List.nodup_cons] at hn;have hp:=WR (m:=md) (k:=e.1) (e.2.1,e.2.2.flatten) (hk e A0g);obtain⟨h1,h2⟩:=Xu L (gQ md e.1 (e.2.1,e.2.2.flatten)) (hs.gQ _ _) hn.2 (fun e' he' hm=>by
      have h3:=(hp.map (·.1)).mem_iff.1 hm;rw[kw] at h3;rcases ut.1 h3 with h3 | h3
      ·exact hn.1 (h3▸A0j he')
      ·exact hk e' (A0e _ he') h3)
    refine⟨?_,h2⟩;rw[List.foldl_cons];refine h1.trans ((List.Perm.append_left _ hp).trans ?_);exact List.perm_middle
def QS (k:Ky)(v:List Ae):List wB->List wB
  | []=>[(k,v)]
  | p::r=>if k < p.1 then(k,v)::p::r else p::QS k v r
theorem Sz (k:Ky)(v:List Ae):∀ N:List wB,k ∉ N.map (·.1)->smap (QS k v N)=gQ (smap N) k (emap v)
  | [],_=>rfl
  | p::r,h=>by
    rw[kw,ut,not_or] at h;have h1:smap (p::r)=(p.1,emap p.2)::smap r:=rfl;rw[QS,h1,gQ,if_neg h.1];by_cases hk:k < p.1
    ·rw[if_pos hk,if_pos hk];rfl
    ·rw[if_neg hk,if_neg hk,<-Sz k v r h.2];rfl
theorem JU (k:Ky)(v:List Ae):∀ (N:List wB) (s:wB),s ∈ QS k v N->s=(k,v)∨s ∈ N
  | [],s,h=>.inl (by simpa [QS] using h)
  | p::r,s,h=>by
    rw[QS] at h;split at h
    ·rcases ut.1 h with h | h
     ·exact .inl h
     ·exact .inr h
    ·rcases ut.1 h with h | h
     ·exact .inr (h▸A0g)
     ·exact(JU k v r s h).imp id (A0e _)
theorem SA (k:Ky)(v:List Ae):∀ N:List wB,(QS k v N).Perm ((k,v)::N)
  | []=>List.Perm.refl _
  | p::r=>by
    rw[QS];split
    ·exact List.Perm.refl _
    ·exact(List.Perm.cons _ (SA k v r)).trans (List.Perm.swap _ _ _)
theorem Ua (N:List wB)(hl:N.length<=1000)(k:Ky)(v:List Ae):∀ (m i:Nat) (out:List wB) (done:Bool),i+m=N.length->out.length<=i+(if done=true then 1 else 0) ->
    aQ (nP N k v) (out,done,(i:Int))=some (out++(if done=true then N.drop i else QS k v (N.drop i)))
  | 0,i,out,done,hi,ho=>by
    refine fZ ?_;unfold nP;simp only[];rw[if_neg (by omega),List.drop_eq_nil_of_le (by omega)];cases done with
    | true=>simp[uT]
    | false =>
      simp only[Bool.not_false,if_true,A0z,if_false] at ho ⊢;rw[Af (by omega) (by simp;omega)];rfl
  | m+1,i,out,done,hi,ho=>by
    have hil:i < N.length:=by omega
    have hd:=A0f hil;cases done with
    | true =>
      rw[if_pos rfl] at ho;rw[fE (s':=(out++[N[i]],true,((i+1:Nat):Int))),Ua N hl k v m (i+1) _ true (by omega) (by rw[Pi,A0n,if_pos rfl];omega)]
      ·rw[if_pos rfl,if_pos rfl,hd];simp
      ·unfold nP nO qj;simp only[];rw[if_pos (by omega)];simp only[Bool.not_true,Io,A0z,if_false,A0o,Bool.false_and];rw[bf hil];simp only[A0o];rw[Af (by omega) (by simp;omega),ed i (by omega)];rfl
    | false =>
      rw[if_neg (by decide)] at ho;by_cases hk:k < N[i].1
      ·rw[fE (s':=(out++[(k,v)]++[N[i]],true,((i+1:Nat):Int))),Ua N hl k v m (i+1) _ true (by omega) (by simp only[Pi,A0n,if_pos];omega)]
       ·rw[if_pos rfl,if_neg (by decide),hd];simp[QS,hk]
       ·unfold nP nO qj;simp only[];rw[if_pos (by omega)];simp only[Bool.not_false,Io,if_true,Bool.true_and];rw[bf hil];simp only[A0o];rw[xK,if_pos (A0p hk),Af (by omega) (by simp;omega)];simp only[A0o];rw[Af (by omega) (by simp;omega),ed i (by omega)];rfl
      ·rw[fE (s':=(out++[N[i]],false,((i+1:Nat):Int))),Ua N hl k v m (i+1) _ false (by omega) (by rw[Pi,A0n,if_neg (by decide)];omega)]
       ·rw[if_neg (by decide),if_neg (by decide),hd];simp[QS,hk]
       ·unfold nP nO qj;simp only[];rw[if_pos (by omega)];simp only[Bool.not_false,Io,if_true,Bool.true_and];rw[bf hil];simp only[A0o];rw[xK,if_neg (by simpa using hk),Af (by omega) (by simp;omega),ed i (by omega)];rfl
theorem radd_ok (zi:Int)(C:Ch)(N:List wB)(hl:N.length<=1000)(k:Ky)(v:List Ae):yM zi C N k v=some (QS k v N):=by
  unfold yM;rw[show(0:Int)=((0:Nat):Int) from rfl,Ua N hl k v N.length 0 [] false (by omega) (by simp)];rw[if_neg (by decide),A1C,List.nil_append]
end
section
variable {α σ ρ δ:Type}
def gR1 (C:Ch)(N:List wB)(L:List Ae)(i:Nat)(f:Fi):Option (Ch×A0G)->(Ch×List Ae×Int)⊕(Int×Ch×List wB)
  | none=>.inr (271,C,N)
  | some p=>.inl (p.1,L++[(f.1,((f.2.length:Int),p.2))],((i+1:Nat):Int))
theorem rput_l1 (z:Nat)(h1:1<=z)(h2:z<=64)(C:Ch)(N:List wB)(L:List Ae)(hL:L.length<=1000)(i:Nat)(hi:i<=1000)(f:Fi)(hf:f.2.length<=1048576)(B:Ch)(hB:mM B)(hBl:B.length<=1000000000)(hBe:∀ p ∈ B,p.2.length<=1024) :
    aQ (ql (z:Int) C N L (i:Int) f f (cut f.2 [] 0,0)) (B,([]:A0G),(0:Int))=some (gR1 C N L i f (tZ (Pz z) some (cut f.2 [] 0) (B,[])))/\∀ p,tZ (Pz z) some (cut f.2 [] 0) (B,[])=some p->mM p.1/\p.1.length<=B.length+f.2.length/\∀ q ∈ p.1,q.2.length<=1024:=by
  have hcnt:=JK f.2;have hbd:=EC f.2 [] 0 (by simp);have hI:∀ (s s':Ch×A0G) (c:AC),c.length<=1024->mM s.1->(∀ q ∈ s.1,q.2.length<=1024)->Pz z s c=.inl s'->mM s'.1/\s'.1.length<=s.1.length+1/\s'.2.length=s.2.length+1/\∀ q ∈ s'.1,q.2.length<=1024:=by
    intro s s' c hc hs hq he;unfold Pz at he;cases hm:bn s.1 (zo z c) with
    | some o =>
      rw[hm] at he;simp only[] at he;split at he
      ·cases he
      ·obtain rfl:=Sum.inl.inj he;exact⟨hs,Nat.le_succ _,by simp,hq⟩
    | none =>
      rw[hm] at he;obtain rfl:=Sum.inl.inj he;refine⟨hs.gQ _ _,FU _ _ _,by simp,fun q hqm=>?_⟩;rcases Ic hqm with rfl | hqm
      ·exact hc
      ·exact hq q hqm
  constructor
  ·rw[FT (gR1 C N L i f)];refine QM (f:=ql (z:Int) C N L (i:Int) f f (cut f.2 [] 0,0)) (cut f.2 [] 0) (fun(s:Ch×A0G) k=>(s.1,s.2,(k:Int))) _ _ (fun k s=>mM s.1/\s.1.length<=B.length+k/\s.2.length=k/\∀ q ∈ s.1,q.2.length<=1024) (fun s k hk hI'=>⟨?_,fun s' hs'=>?_⟩) (fun s hI'=>?_) (B,[]) ⟨hB,by simp,rfl,hBe⟩
   ·obtain⟨i1,i2,i3,i4⟩:=hI';have hc:=(hbd _ (lw hk)).2;unfold ql Pz;simp only[];rw[if_pos (by omega),bf hk];simp only[A0o];have hdg:uS (z:Int) C N (cut f.2 [] 0)[k]=some (zo z (cut f.2 [] 0)[k]):=by
      unfold uS;rw[(JM z h1 h2 _ (by omega)).2.1];rfl
    rw[hdg];simp only[A0o];rw[Af (by omega) (by simp;omega)];simp only[A0o];obtain⟨r,hr,hcase⟩:=NS s.1 i1 (by omega) (zo z (cut f.2 [] 0)[k]);rw[hr];simp only[A0o];unfold nR;rcases hcase with⟨h3,rfl⟩ | ⟨j,hj,rfl,h3,h4⟩
    ·rw[if_neg (by omega),if_pos (by omega),lay_ok s.1 (by omega) _ _ (jD.1 h3),h3,ed k (by omega)];rfl
    ·have hjl:=i4 _ (lw hj);rw[if_pos (by omega),bf hj];simp only[A0o];rw[bsame_eq _ _ (by omega)];simp only[A0o];rw[h4];simp only[];by_cases he:s.1[j].2=(cut f.2 [] 0)[k]
     ·rw[A0p he,if_neg (by decide),if_neg (by omega),if_neg (by simp[he]),ed k (by omega)];rfl
     ·rw[A0q he,if_pos (by decide),if_pos he];rfl
   ·obtain⟨i1,i2,i3,i4⟩:=hI';cases he:Pz z s (cut f.2 [] 0)[k] with
    | inr q=>rw[he] at hs';cases hs'
    | inl s2 =>
      rw[he] at hs';obtain rfl:=Sum.inl.inj hs';obtain⟨j1,j2,j3,j4⟩:=hI s s2 _ (hbd _ (lw hk)).2 i1 i4 he;simp only[id];exact⟨j1,by omega,by omega,j4⟩
   ·unfold ql;simp only[];rw[if_neg (by omega),Af (by omega) (by simp;omega),A0o,ed i (by omega)];rfl
  ·have key:∀ (cs:WP) (s p:Ch×A0G),(∀ c ∈ cs,c.length<=1024)->mM s.1->(∀ q ∈ s.1,q.2.length<=1024)->tZ (Pz z) some cs s=some p->mM p.1/\p.1.length<=s.1.length+cs.length/\∀ q ∈ p.1,q.2.length<=1024:=by
     intro cs
     induction cs with
     | nil=>intro s p _ hs hq h;cases h;exact⟨hs,by simp,hq⟩
     | cons c cs ih =>
       intro s p hcs hs hq h;unfold tZ at h;cases he:Pz z s c with
       | inr q =>
         rw[he] at h;simp only[] at h;unfold Pz at he;split at he
         ·split at he
          ·cases he;cases h
          ·cases he
         ·cases he
       | inl s2 =>
         rw[he] at h;obtain⟨j1,j2,j3,j4⟩:=hI s s2 c (hcs c A0g) hs hq he;obtain⟨k1,k2,k3⟩:=ih s2 p (fun c hc=>hcs c (A0e _ hc)) j1 j4 h;exact⟨k1,by rw[bi];omega,k3⟩
   intro p hp;obtain⟨k1,k2,k3⟩:=key _ _ p (fun c hc=>(hbd c hc).2) hB hBe hp;exact⟨k1,by simp only[] at k2;omega,k3⟩
noncomputable def srtE (L:List Ae):List Ae:=(AB L).getD []
noncomputable def gR0 (C:Ch)(N:List wB)(name:Ky):Option (Ch×List Ae)->Int×Ch×List wB
  | none=>(271,C,N)
  | some p=>(0,p.1,QS name (srtE p.2) N)
theorem rput_l0 (z:Nat)(h1:1<=z)(h2:z<=64)(C:Ch)(hC:OkC C)(hCl:C.length<=100000000)(N:List wB)(hN:N.length<=64)(name:Ky)(l:List Fi)(hl:l.length<=256)(hd:∀ f ∈ l,f.2.length<=1048576)(hnd:(l.map (·.1)).Nodup) :
    aQ (qm (z:Int) C N name l) (C,([]:List Ae),(0:Int))=some (gR0 C N name (tZ (keepR z) some l (C,[]))):=by
  rw[FT (gR0 C N name)];refine QM (f:=qm (z:Int) C N name l) l (fun(s:Ch×List Ae) k=>(s.1,s.2,(k:Int))) _ _ (fun k s=>mM s.1/\s.1.length<=C.length+k*1048576/\s.2.map (·.1)=(l.take k).map (·.1)/\∀ q ∈ s.1,q.2.length<=1024) (fun s k hk hI'=>?_) (fun s hI'=>?_) (C,[]) ⟨hC.Di,by simp,rfl,fun q hq=>(hC.each q hq).2⟩
  ·obtain⟨i1,i2,i3,i4⟩:=hI';have hx:=hd _ (lw hk);have hsl:s.2.length=k:=by
     have:=congrArg List.length i3;rw[A0a,A0a,A0i] at this;omega
   obtain⟨e1,e2⟩:=rput_l1 z h1 h2 C N s.2 (by omega) k (by omega) l[k] hx s.1 i1 (by omega) i4;constructor
   ·unfold qm keepR;simp only[];rw[if_pos (by omega),bf hk];simp only[A0o];rw[rchunks_ok _ hx];simp only[A0o];rw[e1];cases tZ (Pz z) some (cut l[k].2 [] 0) (s.1,[]) <;> rfl
   ·intro s' hs';unfold keepR at hs';cases he:tZ (Pz z) some (cut l[k].2 [] 0) (s.1,[]) with
    | none=>rw[he] at hs';cases hs'
    | some p =>
      rw[he] at hs';obtain rfl:=Sum.inl.inj hs';obtain⟨j1,j2,j3⟩:=e2 p he;simp only[id];refine⟨j1,by omega,?_,j3⟩;rw[List.map_append,i3,A0m,A0l hk,List.map_append];rfl
  ·obtain⟨i1,i2,i3,i4⟩:=hI';rw[A0h] at i3;have hsl:s.2.length=l.length:=by
     have:=congrArg List.length i3;rw[A0a,A0a] at this;exact this
   obtain⟨L',g1,g2,g3⟩:=VK s.2 (by omega) (by rw[i3];exact hnd);unfold qm;simp only[];rw[if_neg (by omega),g1];simp only[A0o];rw[radd_ok _ _ _ (by omega)];unfold gR0 srtE;simp only[];rw[g1];rfl
structure Inv (z:Nat)(C:Ch)(N:List wB)(B:Nat):Prop where
  z1:1<=z
  z2:z<=64
  NY:OkC C
  dig:∀ p ∈ C,p.1=zo z p.2
  nr:NR N
  few:Few z N
  pos:∀ s ∈ N,∀ e ∈ s.2,0<=e.2.1
  cl:C.length<=B
  dl:(Ce N).length<=B
theorem Xv (m:Ch):∀ (C:Ch) (p:Ky×AC),p ∈ yl C m->p ∈ C∨p ∈ m:=by
  induction m with
  | nil=>intro C p h;exact .inl h
  | cons q r ih =>
    intro C p h;rcases ih (gQ C q.1 q.2) p h with h | h
    ·rcases Ic h with rfl | h
     ·exact .inr A0g
     ·exact .inl h
    ·exact .inr (A0e _ h)
theorem joinM_len (m:Ch):∀ C:Ch,(yl C m).length<=C.length+m.length:=by
  induction m with
  | nil=>intro C;exact Nat.le_refl _
  | cons q r ih =>
    intro C;have h1:=ih (gQ C q.1 q.2);have h2:=FU q.1 q.2 C;show(yl (gQ C q.1 q.2) r).length<=_;rw[bi];omega
def wtF (l:List Fi):Nat:=(l.map (fun f=>f.2.length)).sum
theorem dgE_ent (z:Nat):∀ l:List Fi,(dgE (l.map (QR z))).length<=wtF l
  | []=>Nat.le_refl _
  | f::l=>by
    have h1:=dgE_ent z l;have h2:=JK f.2;unfold dgE wtF at *;simp only[kw,A1E,Pi,List.sum_cons] at *;have h3:(QR z f).2.2.length=(cut f.2 [] 0).length:=by unfold QR;rw[A0a]
    omega
theorem dgN_perm {N N':List wB}(h:N.Perm N'):(Ce N).length=(Ce N').length:=by
  unfold Ce;exact(List.Perm.flatten (h.map _)).length_eq
theorem dgE_perm {L L':List Ae}(h:L.Perm L'):(dgE L).length=(dgE L').length:=by
  unfold dgE;exact(List.Perm.flatten (h.map _)).length_eq
theorem put_both (z:Nat)(C:Ch)(N:List wB)(B:Nat)(hI:Inv z C N B)(name:Ky)(l:List Fi)(hB:B+wtF l<=1048576)(hsn:name.length<=16000000)(hd:∀ f ∈ l,f.1.length<=16000000/\f.2.length<=1048576) :
    ∃ (r:Int) (C':Ch) (N':List wB),Inv z C' N' (B+wtF l)/\qh (z:Int) C (smap N) name l=some (r,(z:Int),C',smap N')/\v_ (z:Int) C N name l=some (r,C',N'):=by
  obtain⟨z1,z2,NY,dig,nr,few,pos,cl,dl⟩:=hI;have hsame:Inv z C N (B+wtF l):=⟨z1,z2,NY,dig,nr,few,pos,by omega,by omega⟩
  have hf64:=few.few;rw[put_ok z z1 z2 C (smap N) name l hsn hd];unfold putA v_;rw[rname name hsn];simp only[A0o];rcases Nc (z:Int) C N name (by omega) nr.2 with⟨i,hi,rfl,h3,h4⟩ | ⟨h3,h4⟩
  ·rw[h3,h4];simp only[A0o];cases hn:um N[i].1 with
   | false=>exact⟨_,C,N,hsame,rfl,rfl⟩
   | true =>
     refine⟨213,C,N,hsame,rfl,?_⟩;rw[if_neg (by decide),if_pos (by omega)]
  ·rw[h3,h4];simp only[A0o];cases hn:um name with
   | false=>exact⟨_,C,N,hsame,rfl,rfl⟩
   | true =>
     simp only[Bool.true_eq_false,if_false,Bool.not_true,A0z];rw[if_neg (by omega:¬ (0:Int)<=-1)];by_cases hw:64<=(smap N).length∨256 < l.length
     ·rw[if_pos hw];rw[Ih] at hw;rw[if_pos (by simp only[Bool.or_eq_true,lm];omega)];exact⟨_,C,N,hsame,rfl,rfl⟩
     ·rw[if_neg hw];rw[Ih,not_or,Nat.not_le,Nat.not_lt] at hw;rw[if_neg (by simp only[Bool.or_eq_true,lm];omega),rnames_ok l hw.2 hd];simp only[A0o];cases hse:seeA l with
      | some e =>
        have hne:e≠0:=fun h=>see_ne l _ e hse h;simp only[Option.getD_some];rw[if_pos hne];exact⟨_,C,N,hsame,rfl,rfl⟩
      | none =>
        simp only[Option.getD_none];rw[if_neg (by omega)];have hnd:=(Xd l [] 0 hse).1;have hnm:=Xh l _ hse;rw[rput_l0 z z1 z2 C NY (by omega) N hf64 name l hw.2 (fun f hf=>(hd f hf).2) hnd];have hrk:=Xr z C NY.Di l [] [] [] AU (agree_nil C);have hj0:yl C []=C:=rfl;rw[hj0] at hrk;rw[hrk];unfold keepA;cases hk:tZ (QN z C) some l ([],[]) with
        | none=>exact⟨_,C,N,hsame,rfl,rfl⟩
        | some r =>
          have hK:=Xg l _ r hk;have hmd:=Xt z C l [] [] r hk;have hmapn:(l.map (QR z)).map (·.1)=l.map (·.1):=by rw[List.map_map];rfl
          obtain⟨L',g1,g2,g3⟩:=VK (l.map (QR z)) (by rw[A0a];exact hw.2) (by rw[hmapn];exact hnd);obtain⟨m1,m2⟩:=Xu (l.map (QR z)) [] AU (by rw[hmapn];exact hnd) (fun e _ h=>by cases h);have hL':srtE (l.map (QR z))=L':=by unfold srtE;rw[g1];rfl
          have hem:emap L'=r.2:=by
            rw[hmd];refine mM.eq g3 m2 ?_;have h5:(emap L').Perm (emap (l.map (QR z))):=by unfold emap;exact g2.map _
            rw[List.append_nil] at m1;exact h5.trans m1.symm
          have hnk:name ∉ N.map (·.1):=by rw[jD,wC] at h3;exact h3
          have hbd:=fun f:Fi=>EC f.2 [] 0 (by simp);have hmem:∀ e ∈ L',∃ f ∈ l,e=QR z f:=fun e he=>by
            have:=g2.mem_iff.1 he;obtain⟨f,hf,rfl⟩:=ww.1 this;exact⟨f,hf,rfl⟩
          have hrl:r.1.length<=wtF l:=by have:=hK.len;simp only[A0b,Nat.zero_add] at this;exact this
          have hjl:=joinM_len r.1 C;refine⟨0,yl C r.1,QS name L' N,⟨z1,z2,⟨QO _ _ NY.Di,by omega,fun p hp=>?_⟩,fun p hp=>?_,⟨fun s hs=>?_,?_⟩,⟨?_,fun s hs=>?_,fun s hs e he=>?_,fun s hs e he c hc=>?_⟩,fun s hs e he=>?_,by omega,?_⟩,?_,?_⟩
          ·rcases Xv _ _ p hp with hp | hp
           ·exact NY.each p hp
           ·rcases hK.mem p hp with hp | ⟨f,hf,c,hc,rfl⟩
            ·cases hp
            ·exact hbd f c hc
          ·rcases Xv _ _ p hp with hp | hp
           ·exact dig p hp
           ·rcases hK.mem p hp with hp | ⟨f,hf,c,hc,rfl⟩
            ·cases hp
            ·rfl
          ·rcases JU name L' N s hs with rfl | hs
           ·refine⟨hn,by simp only[];rw[g2.length_eq,A0a];exact hw.2,fun e he=>?_,g3⟩;obtain⟨f,hf,rfl⟩:=hmem e he;exact⟨hnm f hf,by have:=(hd f hf).2;show((f.2.length:Nat):Int)<=1048576;omega⟩
           ·exact nr.1 s hs
          ·rw[Sz name L' N hnk];exact nr.2.gQ _ _
          ·rw[(SA name L' N).length_eq,bi];omega
          ·rcases JU name L' N s hs with rfl | hs
           ·simp only[];rw[g2.length_eq,A0a];exact hw.2
           ·exact few.KN s hs
          ·rcases JU name L' N s hs with rfl | hs
           ·obtain⟨f,hf,rfl⟩:=hmem e he;have:=JK f.2;have:=(hd f hf).2;unfold QR;simp only[A0a];omega
           ·exact few.chs s hs e he
          ·rcases JU name L' N s hs with rfl | hs
           ·obtain⟨f,hf,rfl⟩:=hmem e he;unfold QR at hc;obtain⟨c',hc',rfl⟩:=ww.1 hc;exact(JM z z1 z2 c' (by have:=(hbd f c' hc').2;omega)).2.2
           ·exact few.each s hs e he c hc
          ·rcases JU name L' N s hs with rfl | hs
           ·obtain⟨f,hf,rfl⟩:=hmem e he;show(0:Int)<=((f.2.length:Nat):Int);omega
           ·exact pos s hs e he
          ·rw[dgN_perm (SA name L' N)];unfold Ce at dl ⊢;rw[kw,A1E,Pi];have h6:=dgE_perm g2;have h7:=dgE_ent z l;simp only[] at h6 ⊢;omega
          ·rw[Sz name L' N hnk,hem]
          ·simp only[Option.map_some,List.nil_append,gR0];rw[hL']
end
section
variable {α σ ρ δ:Type}
theorem keeps_l1 (x0:Nat)(hx0:x0<=2000000)(x5:Fi)(hx5:x5.2.length<=1048576):∀ (m k:Nat) (a:List Fi) (h:x0 < a.length),k+m=x5.2.length->a[x0].2.length=x5.2.length->(∀ f ∈ a,f.2.length<=1048576) ->
    ∃ a':List Fi,aQ (zO (x0:Int) x5) (a,(k:Int))=some (.inl (a',((x0+1:Nat):Int)))/\a'.length=a.length/\∀ f ∈ a',f.2.length<=1048576
  | 0,k,a,h,hk,hl,ha=>by
    refine⟨a,fZ ?_,rfl,ha⟩;unfold zO;simp only[];rw[if_neg (by omega),ed x0 (by omega)];rfl
  | m+1,k,a,h,hk,hl,ha=>by
    have hkl:k < a[x0].2.length:=by omega
    obtain⟨a',e1,e2,e3⟩:=keeps_l1 x0 hx0 x5 hx5 m (k+1) (a.set x0 (a[x0].1,a[x0].2.set k (255^^^a[x0].2[k]))) (by rw[A1B];exact h) (by omega) (by rw[List.getElem_set_self,A1B];exact hl) (fun f hf=>by
      rcases List.mem_or_eq_of_mem_set hf with hf | rfl
      ·exact ha f hf
      ·simp only[A1B];exact ha _ (lw h))
    refine⟨a',?_,by rw[e2,A1B],e3⟩;rw[fE (s':=(a.set x0 (a[x0].1,a[x0].2.set k (255^^^a[x0].2[k])),((k+1:Nat):Int)))]
    ·exact e1
    ·unfold zO;simp only[];rw[if_pos (by omega),bf h];simp only[A0o];rw[bf hkl];simp only[A0o];rw[ed k (by omega),A0Z,A0Z]
theorem keeps_l0 (zi:Int)(C:Ch)(N:List wB)(snap:Ky)(l:List Fi)(hll:l.length<=2000000)(r1:Int×Int×Ch×Sn)(r2:Int×Ch×List wB)(hput:v_ zi C N snap l=some r2) :
    ∀ (m i:Nat) (a:List Fi),i+m=l.length->a.length=l.length->(∀ f ∈ a,f.2.length<=1048576) ->
    aQ (zQ zi C N snap (l,l) r1) (a,(i:Int))=some (decide (r1.1=r2.1),r1.2.1,r1.2.2.1,r1.2.2.2,zi,r2.2.1,r2.2.2)
  | 0,i,a,hi,hl,ha=>by
    refine fZ ?_;unfold zQ;simp only[];rw[if_neg (by omega),hput];rfl
  | m+1,i,a,hi,hl,ha=>by
    have hia:i < a.length:=by omega
    obtain⟨a',e1,e2,e3⟩:=keeps_l1 i (by omega) a[i] (ha _ (lw hia)) a[i].2.length 0 a hia (by omega) rfl ha;rw[fE (s':=(a',((i+1:Nat):Int)))]
    ·exact keeps_l0 zi C N snap l hll r1 r2 hput m (i+1) a' (by omega) (by omega) e3
    ·unfold zQ;simp only[];rw[if_pos (by omega),bf hia];simp only[A0o];exact e1
theorem Inv.subC {z:Nat}{C C':Ch}{N:List wB}{B:Nat}(h:Inv z C N B)(hs:List.Sublist C' C):Inv z C' N B :=
  ⟨h.z1,h.z2,⟨List.Pairwise.sublist (hs.map _) h.NY.Di,A0s hs.length_le h.NY.len,fun p hp=>h.NY.each p (hs.subset hp)⟩,fun p hp=>h.dig p (hs.subset hp),h.nr,h.few,h.pos,A0s hs.length_le h.cl,h.dl⟩
theorem dgN_sub {N N':List wB}(h:List.Sublist N' N):(Ce N').length<=(Ce N).length:=by
  unfold Ce
  induction h with
  | slnil=>exact Nat.le_refl _
  | cons a _ ih=>simp only[kw,A1E,Pi];omega
  | cons_cons a _ ih=>simp only[kw,A1E,Pi];omega
theorem Inv.subN {z:Nat}{C:Ch}{N N':List wB}{B:Nat}(h:Inv z C N B)(hs:List.Sublist N' N):Inv z C N' B :=
  ⟨h.z1,h.z2,h.NY,h.dig,⟨fun s hm=>h.nr.1 s (hs.subset hm),List.Pairwise.sublist ((hs.map _).map _) h.nr.2⟩,⟨A0s hs.length_le h.few.few,fun s hm=>h.few.KN s (hs.subset hm),fun s hm=>h.few.chs s (hs.subset hm),fun s hm=>h.few.each s (hs.subset hm)⟩,fun s hm=>h.pos s (hs.subset hm),h.cl,A0s (dgN_sub hs) h.dl⟩
theorem Inv.more {z:Nat}{C:Ch}{N:List wB}{B B':Nat}(h:Inv z C N B)(hb:B<=B'):Inv z C N B' :=
  ⟨h.z1,h.z2,h.NY,h.dig,h.nr,h.few,h.pos,A0s h.cl hb,A0s h.dl hb⟩
theorem lose_j1 {z:Nat}{C:Ch}{N:List wB}{B:Nat}(h:Inv z C N B)(k:Ky):yV (z:Int) C (smap N) (z:Int) C N k=some (true,(z:Int),xy C k,(z:Int),xy C k,N):=by
  unfold yV;rw[plose_ok,rlose_ok _ _ _ _ h.NY.Di h.NY.len];simp
theorem lose_j0 {z:Nat}{C:Ch}{N:List wB}{B:Nat}(h:Inv z C N B)(at_:Int)(k:Ky)(h1:1<=k.length)(h2:k.length<=1000):∃ k',yX (z:Int) C (smap N) (z:Int) C N at_ k=some (true,(z:Int),xy C k',(z:Int),xy C k',N):=by
  unfold yX;by_cases ha:Int.tmod at_ 5=0
  ·rw[if_pos ha,show((k.length:Nat):Int) - 1=((k.length - 1:Nat):Int) from by omega,jP (by omega),Eg (by omega)];simp only[A0o];exact⟨_,lose_j1 h _⟩
  ·rw[if_neg ha];exact⟨_,lose_j1 h _⟩
theorem rest_ok (n:Int)(m:Nat)(hm:1<=m)(hm2:m<=1000000000):∃ j:Nat,j < m/\BK n (m:Int)=some (j:Int):=by
  unfold BK Bd;rw[kH (by omega)];simp only[A0o];have h1:=Int.tmod_lt_of_pos n (b:=(m:Int)) (by omega);have h2:=Int.lt_tmod_of_pos n (b:=(m:Int)) (by omega);by_cases h:Int.tmod n (m:Int) < 0
  ·rw[if_pos h,jP (by omega)];exact⟨(Int.tmod n (m:Int)+m).toNat,by omega,by congr 1;omega⟩
  ·rw[if_neg h];exact⟨(Int.tmod n (m:Int)).toNat,by omega,by congr 1;omega⟩
theorem lose_both {z:Nat}{C:Ch}{N:List wB}{B:Nat}(h:Inv z C N B)(at_:Int):∃ k',Hm (z:Int) C (smap N) (z:Int) C N at_=some (true,(z:Int),xy C k',(z:Int),xy C k',N):=by
  unfold Hm;by_cases hc:0 < ((C.length:Nat):Int)
  ·rw[if_pos hc];obtain⟨j,hj,e⟩:=rest_ok at_ C.length (by omega) h.NY.len;rw[e];simp only[A0o];rw[bf hj];simp only[A0o];have hm:=lw hj;have hl:C[j].1.length=z:=by
     rw[h.dig _ hm];exact(JM z h.z1 h.z2 _ (by have:=(h.NY.each _ hm).2;omega)).2.2
   have hz:=h.z2;have hz1:=h.z1;rw[kH (by omega)];simp only[A0o];exact lose_j0 h at_ _ (by omega) (by omega)
  ·rw[if_neg hc];exact lose_j0 h at_ _ (by simp) (by simp)
theorem Inv.KN {z:Nat}{C:Ch}{N:List wB}{B:Nat}(h:Inv z C N B):∀ s ∈ N,∀ e ∈ s.2,0<=e.2.1/\e.2.2.flatten.length<=100000000:=fun s hs e he=>by
  refine⟨h.pos s hs e he,?_⟩;rw[NQ z _ (h.few.each s hs e he)];have h1:=h.few.chs s hs e he;have h2:=Nat.mul_le_mul h1 h.z2;omega
theorem Inv.okS {z:Nat}{C:Ch}{N:List wB}{B:Nat}(h:Inv z C N B):OkS z (smap N):=okS_of z N h.few.few h.nr fun s hs e he=>⟨(h.KN s hs e he).1,by have:=(h.KN s hs e he).2;omega⟩
theorem Inv.len {z:Nat}{C:Ch}{N:List wB}{B:Nat}(h:Inv z C N B)(hB:B<=1048576):(Ig z C (smap N)).length<=90000000000000:=by
  have hcl:=h.cl;have hfew:=h.few.few;have hsn:(smap N).map (TQ z)=N.map (eSn z):=by unfold smap;rw[List.map_map];rfl
  have h1:=YU Ox 1026 C (fun p hp=>by unfold Ox;rw[Pi,iG];have:=(h.NY.each p hp).2;omega);have h2:=YU (eSn z) 30000000000 N (fun s hs=>by
    have h3:=YU (eEn z) 100000100 s.2 (fun e he=>by
      unfold eEn VB;simp only[Pi,bi,A0b,iG];have h4:=(Ii ((h.nr.1 s hs).2.2.1 e he).1).2;have h5:=(h.KN s hs e he).2;omega)
    have h6:=h.few.KN s hs;have h7:=(Ii (h.nr.1 s hs).1).2;rw[eSn_eq];simp only[Pi,bi,A0b,iG];have:=Nat.mul_le_mul_left 100000100 h6;omega)
  unfold Ig;rw[hsn];simp only[Pi,bi,A0b,iG];have h8:=Nat.mul_le_mul_left 1026 hcl;have h9:=Nat.mul_le_mul_left 30000000000 hfew;omega
theorem VL {z:Nat}{C:Ch}{N:List wB}{B:Nat}(h:Inv z C N B)(hB:B<=1048576):lQ (z:Int) C (smap N)=some (Ig z C (smap N),(z:Int)):=save_ok z h.z1 C h.NY _ h.okS (by have:=h.len hB;omega)
theorem dsave_ok {z:Nat}{C:Ch}{N:List wB}{B:Nat}(h:Inv z C N B)(hB:B<=1048576):qw (z:Int) C N=some (Ig z C (smap N)):=rsave_ok z h.z1 C h.NY N h.okS h.few (h.len hB)
theorem Inv.okG {z:Nat}{C:Ch}{N:List wB}{B:Nat}(h:Inv z C N B):OkG z (smap N):=by
  have hS:=h.okS;have hm:∀ p ∈ smap N,∃ s ∈ N,p=(s.1,emap s.2):=fun p hp=>by
    unfold smap at hp;obtain⟨s,hs,rfl⟩:=ww.1 hp;exact⟨s,hs,rfl⟩
  refine⟨hS.Di,by rw[Ih];exact h.few.few,hS.name,fun p hp=>?_,fun p hp=>?_⟩
  ·obtain⟨s,hs,rfl⟩:=hm p hp;exact(h.nr.1 s hs).1
  ·have hE:=hS.each p hp;obtain⟨s,hs,rfl⟩:=hm p hp;have hme:∀ q ∈ emap s.2,∃ e ∈ s.2,q=(e.1,(e.2.1,e.2.2.flatten)):=fun q hq=>by
     unfold emap at hq;obtain⟨e,he,rfl⟩:=ww.1 hq;exact⟨e,he,rfl⟩
   refine⟨hE,by rw[JP];exact h.few.KN s hs,fun q hq=>?_,fun q hq=>?_⟩
   ·obtain⟨e,he,rfl⟩:=hme q hq;exact((h.nr.1 s hs).2.2.1 e he).1
   ·obtain⟨e,he,rfl⟩:=hme q hq;simp only[];rw[NQ z _ (h.few.each s hs e he),Nat.mul_div_cancel _ (by have:=h.z1;omega)]
theorem dload_ok {z:Nat}{C:Ch}{N:List wB}{B:Nat}(h:Inv z C N B):Aw (Ig z C (smap N))=some (.inr ((z:Int),C,smap N)):=load_ok z h.z1 h.z2 C h.NY h.dig _ h.okG
theorem Inv.okL {z:Nat}{C:Ch}{N:List wB}{B:Nat}(h:Inv z C N B):∀ s ∈ N,OkL z s.2:=fun s hs =>
  ⟨h.few.KN s hs,(h.nr.1 s hs).2.2.2,fun e he=>Ii ((h.nr.1 s hs).2.2.1 e he).1,h.few.chs s hs,h.few.each s hs⟩
end
section
variable {α σ ρ δ:Type}
theorem Xw {C:Ch}(hC:OkC C):∀ (ks:A0G) (b:AC),(tZ (Oy C) (fun b=>(b,(0:Int))) ks b).1.length<=b.length+ks.length*1024
  | [],b=>by simp[tZ]
  | k::ks,b=>by
    unfold tZ;cases h:Oy C b k with
    | inr q =>
      unfold Oy at h;split at h
      ·obtain rfl:=Sum.inr.inj h;simp
      ·cases h
    | inl b' =>
      have h1:=Sv hC h;have h2:=Xw hC ks b';simp only[bi] at *;omega
theorem getN_len {z:Nat}{C:Ch}{N:List wB}{B:Nat}(h:Inv z C N B)(snap name:Ky):(WA C N snap name).1.length<=1073741824:=by
  unfold WA;cases hf:N.find? (fun s=>decide (s.1=snap)) with
  | none=>simp
  | some s =>
    have hs:=List.mem_of_find?_eq_some hf;simp only[A1A];unfold getL;cases hg:s.2.find? (fun e=>decide (e.1=name)) with
    | none=>simp
    | some e =>
      have he:=List.mem_of_find?_eq_some hg;have h1:=h.few.chs s hs e he;have h2:=Xw h.NY e.2.2 [];simp only[A1A,A0b] at *;unfold Nh;omega
theorem tells_l0 (zi:Int)(C:Ch)(N:List wB)(v:AC)(c z:Int)(hv:v.length<=1073741824):∀ (m i:Nat) (a:AC),i+m=v.length->a.length=v.length ->
    aQ (zT zi C N (v,c,z) (v,c) true) (a,(i:Int))=some (true,z,zi,C,N)
  | 0,i,a,hi,ha=>by
    refine fZ ?_;unfold zT;simp only[];rw[if_neg (by omega)];simp
  | m+1,i,a,hi,ha=>by
    have hia:i < a.length:=by omega
    rw[fE (s':=(a.set i (255^^^a[i]),((i+1:Nat):Int)))]
    ·exact tells_l0 zi C N v c z hv m (i+1) _ (by omega) (by rw[A1B];exact ha)
    ·unfold zT;simp only[];rw[if_pos (by omega),bf hia];simp only[A0o];rw[ed i (by omega),A0Z]
theorem tells_l1 (zi:Int)(C:Ch)(N:List wB)(L:List Ae)(c z:Int)(hL:L.length<=1000000)(hw:∀ e ∈ L,e.2.2.length<=1048576/\∀ k ∈ e.2.2,k.length<=1000) :
    aQ (zU zi C N (L,c,z)) (true,(0:Int))=some (true,z,zi,C,N):=by
  refine gm (fun i=>(true,(i:Int))) L.length (fun i hi=>?_) ?_
  ·obtain⟨h1,h2⟩:=hw _ (lw hi);unfold zU;simp only[];rw[if_pos (by omega),if_pos trivial,bf hi];simp only[A0o];rw[wipe_ok _ (by omega) (fun x hx=>by have:=h2 x hx;omega)];simp only[A0o];rw[ed i (by omega)]
  ·unfold zU;simp only[];rw[if_neg (by omega)];rfl
theorem stps_len:∀ (l:A0G)(L:Ch),(l.foldl Gh L).length<=L.length+l.length
  | [],L=>Nat.le_refl _
  | x::l,L=>by
    have h1:=stps_len l (Gh L x);have h2:=stp_len L x;rw[List.foldl_cons,bi];omega
theorem listN_ok {z:Nat}{C:Ch}{N:List wB}{B:Nat}(h:Inv z C N B)(snap:Ky):(listN N snap).1.length<=256/\∀ e ∈ (listN N snap).1,e.2.2.length<=1048576/\∀ k ∈ e.2.2,k.length=z:=by
  unfold listN;cases hf:N.find? (fun s=>decide (s.1=snap)) with
  | none=>exact⟨by simp,fun e he=>by cases he⟩
  | some s =>
    have hs:=List.mem_of_find?_eq_some hf;exact⟨h.few.KN s hs,fun e he=>⟨h.few.chs s hs e he,h.few.each s hs e he⟩⟩
theorem turN_len {z:Nat}{C:Ch}{N:List wB}{B:Nat}(h:Inv z C N B)(p q:Ky):(turN N p q).1.length<=512:=by
  unfold turN;cases hf:N.find? (fun s=>decide (s.1=p)) with
  | none=>simp
  | some a =>
    cases hg:N.find? (fun s=>decide (s.1=q)) with
    | none=>simp
    | some b =>
      have h1:=h.few.KN a (List.mem_of_find?_eq_some hf);have h2:=h.few.KN b (List.mem_of_find?_eq_some hg);have h3:=JS (a.2.length+b.2.length) a.2 b.2;simp only[];omega
theorem tells_ok {z:Nat}{C:Ch}{N:List wB}{B:Nat}(h:Inv z C N B)(hB:B<=1048576)(W:Int)(snap name:Ky)(l:List Fi)(at_:Int) :
    Fv (z:Int) C (smap N) (z:Int) C N W snap name l at_=some (true,(z:Int),(z:Int),C,N):=by
  have hz2:=h.z2;have hfew:=h.few.few;have hcl:=h.cl;have hdl:=h.dl;unfold Fv;by_cases h1:W=1
  ·rw[if_pos h1,pget_ok z h.z1 C h.NY N h.nr.2 h.few,rget_ok z _ C h.NY N h.nr.2 h.few];have hg:=getN_len h snap name;simp only[A0o];rw[NP _ (by omega)];simp only[A0o];exact tells_l0 (z:Int) C N (WA C N snap name).1 (WA C N snap name).2 (z:Int) hg (WA C N snap name).1.length 0 _ (by omega) rfl
  rw[if_neg h1];by_cases h2:W=2
  ·rw[if_pos h2,plist_ok z h.z1 h.z2 C N h.nr.2 (fun s hs=>(h.nr.1 s hs).2.2.2) h.few,rlist_ok z h.z2 _ C N h.nr.2 h.few];obtain⟨g1,g2⟩:=listN_ok h snap;simp only[A0o];rw[YX _ (by omega) z h.z2 g2];simp only[A0o];simp only[decide_true,Bool.and_self];exact tells_l1 (z:Int) C N _ _ (z:Int) (by omega) (fun e he=>⟨(g2 e he).1,fun k hk=>by rw[(g2 e he).2 k hk];omega⟩)
  rw[if_neg h2];by_cases h3:W=3
  ·rw[if_pos h3,Xn _ _ _ h.nr.2 (by rw[Ih];omega)];simp only[A0o];rw[Xm _ _ _ (by omega)];simp only[A0o];rw[wC,Py _ (by rw[A0a];omega)];rfl
  rw[if_neg h3];by_cases h7:W=7
  ·have hml:(Tn C (((Ce N).foldl Gh []).map (·.1))).length<=1048576:=by
     have a1:(Tn C (((Ce N).foldl Gh []).map (·.1))).length<=0+(((Ce N).foldl Gh []).map (·.1)).length:=lack_len C _ [];have a2:=stps_len (Ce N) [];rw[A0a] at a1;simp only[A0b] at a2;exact A0s a1 (by omega)
   have hmr:∀ x ∈ Tn C (((Ce N).foldl Gh []).map (·.1)),x.length<=64:=fun x hx=>by
     rcases lack_mem _ _ _ x hx with h | hq
     ·cases h
     ·obtain⟨p,hp,rfl⟩:=ww.1 hq;rcases stp_mem _ _ p hp with hq | hq
      ·cases hq
      ·rw[dgN_len _ _ h.few _ hq];omega
   rw[if_pos h7,pmissing_ok z h.z1 h.z2 C N h.few];simp only[A0o];rw[rmissing_ok z h.z2 _ C h.NY.Di h.NY.len N h.few,YV];simp only[A0o];rw[VF _ (by omega) (fun x hx=>by have:=hmr x hx;omega)];simp only[A0o];rw[if_pos trivial,wipe_ok _ (by omega) (fun x hx=>by have:=hmr x hx;omega)];rfl
  rw[if_neg h7];by_cases h8:W=8
  ·rw[if_pos h8,pturned_ok z h.z1 _ C N (by omega) h.nr.2 h.okL,rturned_ok z _ C N (by omega) h.nr.2 h.okL];simp only[A0o];rw[Py _ (by have:=turN_len h snap name;omega)];simp
  rw[if_neg h8];by_cases h9:W=9
  ·rw[if_pos h9,Xj _ _ h.NY.Di h.NY.len,Xl z _ C h.NY.len N h.few];simp only[A0o];rw[Tq];rfl
  rw[if_neg h9,VL h hB,dsave_ok h hB];simp only[A0o];rw[NP _ (by have:=h.len hB;omega)];rfl
theorem keeps_ok {z:Nat}{C:Ch}{N:List wB}{B:Nat}(h:Inv z C N B)(W:Int)(snap name:Ky)(l:List Fi)(at_:Int)(hB:B+wtF l<=1048576)(hsn:snap.length<=16000000)(hd:∀ f ∈ l,f.1.length<=16000000/\f.2.length<=1048576)(hl:l.length<=2000000) :
    ∃ C' N',Inv z C' N' (B+wtF l)/\Fp (z:Int) C (smap N) (z:Int) C N W snap name l at_=some (true,(z:Int),C',smap N',(z:Int),C',N'):=by
  unfold Fp;by_cases h0:W=0
  ·obtain⟨r,C',N',hI,e1,e2⟩:=put_both z C N B h snap l hB hsn hd;refine⟨C',N',hI,?_⟩;rw[if_pos h0,files_ok l (by omega) (fun f hf=>by have:=(hd f hf).2;omega)];simp only[A0o];rw[e1];simp only[A0o];have:=keeps_l0 (z:Int) C N snap l hl (r,(z:Int),C',smap N') (r,C',N') e2 l.length 0 l (by omega) rfl (fun f hf=>(hd f hf).2);simp only[decide_true] at this;exact this
  rw[if_neg h0];by_cases h4:W=4
  ·refine⟨C,N.filter (fun s=>decide (s.1≠snap)),(h.subN List.filter_sublist).more (by omega),?_⟩;rw[if_pos h4,pdrop_ok _ _ _ _ h.nr.2,rdrop_ok _ _ _ _ (by have:=h.few.few;omega) h.nr.2];simp
  rw[if_neg h4];by_cases h5:W=5
  ·refine⟨Tt C (Ce N),N,(h.subC List.filter_sublist).more (by omega),?_⟩;rw[if_pos h5,psweep_ok z h.z1 C h.NY.Di h.NY.len N h.few,rsweep_ok z _ C h.NY.Di h.NY.len N h.few];simp
  rw[if_neg h5];obtain⟨k',e⟩:=lose_both h at_;refine⟨xy C k',N,(h.subC (Zv _ _)).more (by omega),?_⟩;rw[e];rfl
end
section
variable {α σ ρ δ:Type}
theorem dstep_ok {z:Nat}{C:Ch}{N:List wB}{B:Nat}(h:Inv z C N B)(W:Int)(snap name:Ky)(l:List Fi)(at_:Int)(hB:B+wtF l<=1048576)(hsn:snap.length<=16000000)(hd:∀ f ∈ l,f.1.length<=16000000/\f.2.length<=1048576)(hl:l.length<=2000000) :
    ∃ C' N',Inv z C' N' (B+wtF l)/\(Ep (z:Int) C (smap N) (z:Int) C N W snap name l at_=some (.inl ((z:Int),C',smap N',true,(z:Int),C',N'))∨∃ a b,Ep (z:Int) C (smap N) (z:Int) C N W snap name l at_=some (.inr (.inr ((z:Int),C',smap N',true,a,b,(z:Int),C',N')))):=by
  have hk:∀ x:Bool,x=true->∃ C' N',Inv z C' N' (B+wtF l)/\qM (z:Int) C (smap N) (z:Int) C N W snap name l at_ x=some (.inl ((z:Int),C',smap N',true,(z:Int),C',N')):=fun x hx=>by
    obtain⟨C',N',hI,e⟩:=keeps_ok h W snap name l at_ hB hsn hd hl;refine⟨C',N',hI,?_⟩;unfold qM;rw[if_pos hx,e];rfl
  have ht:∀ x:Bool,x=true->mD (z:Int) C (smap N) (z:Int) C N W snap name l at_ x=some (.inl ((z:Int),C,smap N,true,(z:Int),C,N)):=fun x hx=>by
    unfold mD;rw[if_pos hx,tells_ok h (by omega)];rfl
  have hm:Inv z C N (B+wtF l):=h.more (by omega);unfold Ep;by_cases h0:W=0
  ·obtain⟨C',N',hI,e⟩:=hk _ (A0p h0);exact⟨C',N',hI,.inl (by rw[if_pos h0,e])⟩
  rw[if_neg h0];by_cases h4:W=4
  ·obtain⟨C',N',hI,e⟩:=hk _ (A0p h4);exact⟨C',N',hI,.inl (by rw[if_pos h4,e])⟩
  rw[if_neg h4];by_cases h5:W=5
  ·obtain⟨C',N',hI,e⟩:=hk _ (A0p h5);exact⟨C',N',hI,.inl (by rw[if_pos h5,e])⟩
  rw[if_neg h5];by_cases h6:W=6
  ·obtain⟨C',N',hI,e⟩:=hk _ (A0p h6);exact⟨C',N',hI,.inl (by rw[e])⟩
  unfold qM;rw[if_neg (by simp[h6])];by_cases h1:W=1
  ·rw[if_pos h1,ht _ (A0p h1)];exact⟨C,N,hm,.inl rfl⟩
  rw[if_neg h1];by_cases h2:W=2
  ·rw[if_pos h2,ht _ (A0p h2)];exact⟨C,N,hm,.inl rfl⟩
  rw[if_neg h2];by_cases h3:W=3
  ·rw[if_pos h3,ht _ (A0p h3)];exact⟨C,N,hm,.inl rfl⟩
  rw[if_neg h3];by_cases h7:W=7
  ·rw[if_pos h7,ht _ (A0p h7)];exact⟨C,N,hm,.inl rfl⟩
  rw[if_neg h7];by_cases h8:W=8
  ·rw[if_pos h8,ht _ (A0p h8)];exact⟨C,N,hm,.inl rfl⟩
  rw[if_neg h8];by_cases h9:W=9
  ·rw[if_pos h9,ht _ (A0p h9)];exact⟨C,N,hm,.inl rfl⟩
  rw[if_neg h9];by_cases h10:W=10
  ·rw[ht _ (A0p h10)];exact⟨C,N,hm,.inl rfl⟩
  unfold mD;rw[if_neg (by simp[h10])];by_cases h11:W=11
  ·refine⟨C,N,hm,.inr ?_⟩;rw[if_pos h11,VL h (by omega)];simp only[A0o];rw[dload_ok h];simp only[A0o,Sum.elim_inr];rw[pdrop_ok _ _ _ _ h.nr.2];exact⟨_,_,rfl⟩
  ·rw[if_neg h11];exact⟨C,N,hm,.inl rfl⟩
abbrev Opx:=Int×AC×AC×List Fi×Int
def wtO (o:Opx):Nat:=max o.2.1.length (max o.2.2.1.length (max o.2.2.2.1.length (Bc (fun z_:AC×AC=>max z_.1.length (z_.2.length)) o.2.2.2.1)))
theorem VM (wt:δ->Nat):∀ a b:List δ,Bc wt (a++b)=Bc wt a+Bc wt b
  | [],b=>by simp[Bc]
  | x::a,b=>by rw[A0x,Bc,Bc,VM wt a b];omega
theorem TotG_mem (wt:δ->Nat):∀ (l:List δ) (x:δ),x ∈ l->wt x<=Bc wt l
  | [],x,h=>by cases h
  | y::l,x,h=>by
    rw[Bc];rcases ut.1 h with rfl | h
    ·omega
    ·have:=TotG_mem wt l x h;omega
theorem wtF_le:∀ l:List Fi,wtF l<=Bc (fun z_:AC×AC=>max z_.1.length (z_.2.length)) l
  | []=>Nat.le_refl _
  | f::l=>by
    have:=wtF_le l;unfold wtF at *;rw[Bc,kw,List.sum_cons];omega
theorem Xx (z:Nat)(script:List Opx)(h1:Bc wtO script<=1048576)(h2:script.length<=1048576):∀ (m i:Nat) (C:Ch) (N:List wB),i+m=script.length->Inv z C N (Bc wtO (script.take i)) ->
    aQ (tV script) ((z:Int),C,smap N,(z:Int),C,N,(i:Int))=some true
  | 0,i,C,N,hi,hI=>by
    obtain rfl:i=script.length:=by omega
    rw[A0h] at hI;refine fZ ?_;unfold tV;simp only[];have hfew:=hI.few.few;rw[if_neg (by omega),VL hI h1];simp only[A0o];rw[dsave_ok hI h1];simp only[A0o];rw[NP _ (by have:=hI.len h1;omega)];simp only[A0o,if_true];rw[Xj _ _ hI.NY.Di hI.NY.len];simp only[A0o];rw[Xl z _ C hI.NY.len N hI.few];simp only[A0o];rw[Tq];simp only[A0o,if_true];rw[Xn _ _ _ hI.nr.2 (by rw[Ih];omega)];simp only[A0o];rw[Xm _ _ _ (by omega)];simp only[A0o];rw[wC,Py _ (by rw[A0a];omega)];rfl
  | m+1,i,C,N,hi,hI=>by
    have hil:i < script.length:=by omega
    have htk:Bc wtO (script.take (i+1))=Bc wtO (script.take i)+wtO script[i]:=by
      rw[A0m,A0l hil,VM];rfl
    have hle:Bc wtO (script.take (i+1))<=Bc wtO script:=by
      have:=congrArg (Bc wtO) (List.take_append_drop (i+1) script);rw[VM] at this;omega
    have hw:wtO script[i]<=1048576:=by omega
    have hwf:wtF script[i].2.2.2.1<=wtO script[i]:=by have:=wtF_le script[i].2.2.2.1;unfold wtO;omega
    have hw':max script[i].2.1.length (max script[i].2.2.1.length (max script[i].2.2.2.1.length (Bc (fun z_:AC×AC=>max z_.1.length (z_.2.length)) script[i].2.2.2.1)))<=1048576:=hw;obtain⟨C',N',hI',hs⟩:=dstep_ok hI script[i].1 script[i].2.1 script[i].2.2.1 script[i].2.2.2.1 script[i].2.2.2.2 (by omega) (by omega) (fun f hf=>by
      have:=TotG_mem (fun z_:AC×AC=>max z_.1.length (z_.2.length)) _ f hf;omega) (by omega)
    have hI2:Inv z C' N' (Bc wtO (script.take (i+1))):=hI'.more (by omega);rw[fE (s':=((z:Int),C',smap N',(z:Int),C',N',((i+1:Nat):Int)))]
    ·exact Xx z script h1 h2 m (i+1) C' N' (by omega) hI2
    ·unfold tV;simp only[];rw[if_pos (by omega),bf hil];simp only[A0o];rcases hs with e | ⟨a,b,e⟩
     ·rw[e];simp only[A0o,Sum.elim_inl,Bool.not_true,A0z,if_false];rw[ed i (by omega)]
     ·rw[e];simp only[A0o,Sum.elim_inr,Bool.not_true,A0z,if_false];rw[ed i (by omega)]
theorem SB (size:Int)(hsz:-9223372036854775808<=size/\size<=9223372036854775807)(script:List (Int×AC×AC×PP×Int))(h1:Bc wtO script<=1048576)(h2:script.length<=1048576):AL size script=some true:=by
  unfold AL II;rw[dawake_ok];simp only[A0o,Bool.not_true,A0z,if_false];by_cases hs:(decide (size < 1)||decide (64 < size))=true
  ·rw[if_pos hs];simp only[A0o,Sum.elim_inl];rw[if_pos hs];rfl
  ·rw[if_neg hs];simp only[A0o,Sum.elim_inr];rw[if_neg hs,if_neg (by simp)];simp only[Bool.or_eq_true,lm,not_or,Int.not_lt] at hs;obtain⟨z,rfl⟩:∃ z:Nat,size=(z:Int):=⟨size.toNat,by omega⟩
   have hI:Inv z [] [] (Bc wtO (script.take 0)):=⟨by omega,by omega,⟨AU,by simp,fun p hp=>(by cases hp)⟩,fun p hp=>(by cases hp),⟨fun s hs=>(by cases hs),AU⟩,⟨by simp,fun s hs=>(by cases hs),fun s hs=>(by cases hs),fun s hs=>(by cases hs)⟩,fun s hs=>(by cases hs),by simp,by simp[Ce]⟩
   exact Xx z script h1 h2 script.length 0 [] [] (by omega) hI
end
end Go.Sx
