import Derived.WalkKit
import Derived.Deep.QuietTactic
import Derived.Laws.StructEq
import Derived.Maps.AppendAt
namespace Go.Sx
set_option linter.unusedSimpArgs false
set_option linter.unusedVariables false
theorem Pi:type_of% @List.length_append:=@List.length_append
theorem bi:type_of% @List.length_cons:=@List.length_cons
theorem kw:type_of% @List.map_cons:=@List.map_cons
theorem lm:type_of% @decide_eq_true_eq:=@decide_eq_true_eq
theorem lw:type_of% @List.getElem_mem:=@List.getElem_mem
theorem ul:type_of% @List.append_assoc:=@List.append_assoc
theorem ut:type_of% @List.mem_cons:=@List.mem_cons
theorem ww:type_of% @List.mem_map:=@List.mem_map
theorem A0Z:type_of% @Int.toNat_natCast:=@Int.toNat_natCast
theorem A0a:type_of% @List.length_map:=@List.length_map
theorem A0b:type_of% @List.length_nil:=@List.length_nil
theorem A0c:type_of% @Option.map_eq_some_iff:=@Option.map_eq_some_iff
theorem A0d:type_of% @List.mem_singleton:=@List.mem_singleton
theorem A0e:type_of% @List.mem_cons_of_mem:=@List.mem_cons_of_mem
theorem A0f:type_of% @List.drop_eq_getElem_cons:=@List.drop_eq_getElem_cons
theorem A0g:type_of% @List.mem_cons_self:=@List.mem_cons_self
theorem A0h:type_of% @List.take_length:=@List.take_length
theorem A0i:type_of% @List.length_take:=@List.length_take
theorem A0j:type_of% @List.mem_map_of_mem:=@List.mem_map_of_mem
theorem A0k:type_of% @Bool.and_eq_true:=@Bool.and_eq_true
theorem A0l:type_of% @List.getElem?_eq_getElem:=@List.getElem?_eq_getElem
theorem A0m:type_of% @List.take_add_one:=@List.take_add_one
theorem A0n:type_of% @List.length_singleton:=@List.length_singleton
theorem A0o:type_of% @Option.bind_some:=@Option.bind_some
theorem A0p:type_of% @decide_eq_true:=@decide_eq_true
theorem A0q:type_of% @decide_eq_false:=@decide_eq_false
theorem A0r:type_of% @List.getElem_map:=@List.getElem_map
theorem A0s:type_of% @Nat.le_trans:=@Nat.le_trans
theorem A0t:type_of% @List.perm_append_comm:=@List.perm_append_comm
theorem A0u:type_of% @Nat.lt_of_lt_of_le:=@Nat.lt_of_lt_of_le
theorem A0v:type_of% @Option.bind_eq_some_iff:=@Option.bind_eq_some_iff
theorem A0w:type_of% @List.getElem?_eq_some_iff:=@List.getElem?_eq_some_iff
theorem A0x:type_of% @List.cons_append:=@List.cons_append
theorem A0y:type_of% @List.set_cons_zero:=@List.set_cons_zero
theorem A0z:type_of% @Bool.false_eq_true:=@Bool.false_eq_true
theorem A1A:type_of% @Option.elim_some:=@Option.elim_some
theorem A1B:type_of% @List.length_set:=@List.length_set
theorem A1C:type_of% @List.drop_zero:=@List.drop_zero
theorem A1D:type_of% @Nat.mul_le_mul_right:=@Nat.mul_le_mul_right
theorem A1E:type_of% @List.flatten_cons:=@List.flatten_cons
theorem A1F:type_of% @List.length_drop:=@List.length_drop
section
@[reducible] def AC:=List UInt8
@[reducible] def EQ:=Option Addr
@[reducible] def NE:=List (AC×(List (AC×Int×List AC)))
@[reducible] def PP:=List (AC×AC)
@[reducible] def UV:=Option (Nat×Bool)
@[reducible] def WF:=Int×AC
@[reducible] def WP:=List AC
@[reducible] def A00:=AC×Int
@[reducible] def A01:=List Nat
@[reducible] def A02:=AC×Int×WP
@[reducible] def A03:=Option Nat
@[reducible] def A04:=WP×Int
@[reducible] def A05:=(Bool×Int×Int×Int)⊕(Bool×Int×Int×PP)
@[reducible] def A06:=Option Int
@[reducible] def A07:=List (Int×Int×Int×AC×Int)
@[reducible] def A08:=List A02
@[reducible] def A09:=Option (A00⊕AC)
structure Vec (α:Type)(n:Nat) where
  l:List α
  h:l.length=n
structure Cells (n:Nat) where
  l:List Value
  h:l.length=n
  one:∀ v ∈ l,v.oneCell'=true
inductive SV where
  | b (x:Bool)
  | u8 (x:UInt8)
  | u16 (x:UInt16)
  | u32 (x:UInt32)
  | u64 (x:UInt64)
  | i (k:IntKind) (n:Int)
  | s (x:AC)
  | v (x:Value)
    | vec (n:Nat) (x:Cells n)
  | agg (xs:List SV)
  | qA (xs:List SV)
mutual
def SV.val:SV->Value
  | .b x=>.bool x
  | .u8 x=>.int .u8 x.toNat
  | .u16 x=>.int .u16 x.toNat
  | .u32 x=>.int .u32 x.toNat
  | .u64 x=>.int .u64 x.toNat
  | .i k n=>.int k n
  | .s x=>.string ⟨⟨x⟩⟩
  | .v x=>x
  | .vec _ x=>.agg ⟨x.l⟩
  | .agg xs=>.agg ⟨SV.cl xs⟩
  | .qA xs=>.tuple ⟨SV.vals xs⟩
def SV.vals:List SV->List Value
  | []=>[]
  | x::xs=>x.val::SV.vals xs
def SV.cl:List SV->List Value
  | []=>[]
  | .vec _ x::xs=>x.l++SV.cl xs
  | x::xs=>x.val::SV.cl xs
end
def umin (a b:UInt64):UInt64:=if b < a then b else a
theorem vals_eq (xs:List SV):SV.vals xs=xs.map SV.val:=by
  induction xs with
  | nil=>rfl
  | cons x xs ih=>simp[SV.vals,ih]
def vals (xs:List SV):Array Value:=⟨SV.vals xs⟩
def SV.width:List SV->Nat
  | []=>0
  | .vec n _::xs=>n+SV.width xs
  | _::xs=>1+SV.width xs
def SV.Oh:SV->Bool
  | .vec _ _=>true
  | _=>false
theorem Gi {x:SV}(h:x.Oh=false)(xs:List SV):SV.cl (x::xs)=x.val::SV.cl xs:=by
  cases x <;> first | rfl | cases h
theorem Oz {x:SV}(h:x.Oh=false)(xs:List SV):SV.width (x::xs)=1+SV.width xs:=by
  cases x <;> first | rfl | cases h
theorem Ec (n:Nat)(x:Cells n)(xs:List SV):SV.cl (.vec n x::xs)=x.l++SV.cl xs:=rfl
theorem Lj (x:SV):(∃ n v,x=.vec n v)∨x.Oh=false:=by
  cases x <;> first | exact .inl ⟨_,_,rfl⟩ | exact .inr rfl
theorem jg:∀ xs:List SV,(SV.cl xs).length=SV.width xs:=by
  intro xs
  induction xs with
  | nil=>rfl
  | cons x xs ih =>
    rcases Lj x with⟨n,v,rfl⟩ | h
    ·rw[Ec];simp[SV.width,ih,v.h]
    ·rw[Gi h,Oz h];simp[ih];omega
theorem OA (xs ys:List SV):SV.cl (xs++ys)=SV.cl xs++SV.cl ys:=by
  induction xs with
  | nil=>rfl
  | cons x xs ih =>
    rcases Lj x with⟨n,v,rfl⟩ | h
    ·rw[A0x,Ec,Ec,ih,ul]
    ·rw[A0x,Gi h,Gi h,ih];rfl
def Iq:Nat->List SV->Option (List SV)
  | 0,xs=>some xs
  | _+1,[]=>none
  | k+1,.vec n _::xs=>if n<=k+1 then Iq (k+1 - n) xs else none
  | k+1,_::xs=>Iq k xs
def Oi:Nat->List SV->Option (List SV)
  | 0,_=>some []
  | _+1,[]=>none
  | k+1,.vec n v::xs=>if n<=k+1 then(Oi (k+1 - n) xs).map (.vec n v::·) else none
  | k+1,x::xs=>(Oi k xs).map (x::·)
theorem dropS_cons {k:Nat}{x:SV}(h:x.Oh=false)(xs:List SV):Iq (k+1) (x::xs)=Iq k xs:=by
  cases x <;> first | rfl | cases h
theorem takeS_cons {k:Nat}{x:SV}(h:x.Oh=false)(xs:List SV):Oi (k+1) (x::xs)=(Oi k xs).map (x::·):=by
  cases x <;> first | rfl | cases h
theorem JV:∀ (xs:List SV)(k:Nat)(ys:List SV),Iq k xs=some ys->(SV.cl xs).drop k=SV.cl ys/\k<=SV.width xs:=by
  intro xs
  induction xs with
  | nil =>
    intro k ys h;cases k with
    | zero=>simp only[Iq,Option.some.injEq] at h;subst h;exact⟨rfl,Nat.zero_le _⟩
    | succ k=>cases h
  | cons x xs ih =>
    intro k ys h;cases k with
    | zero=>simp only[Iq,Option.some.injEq] at h;subst h;exact⟨rfl,Nat.zero_le _⟩
    | succ k =>
      rcases Lj x with⟨n,v,rfl⟩ | hx
      ·simp only[Iq] at h;split at h
       ·rename_i hn;obtain⟨e1,e2⟩:=ih _ _ h;rw[Ec];refine⟨?_,by simp only[SV.width];omega⟩;rw[<- e1,List.drop_append,v.h,List.drop_of_length_le (by rw[v.h];exact hn)];rfl
       ·cases h
      ·rw[dropS_cons hx] at h;obtain⟨e1,e2⟩:=ih _ _ h;rw[Gi hx,Oz hx];exact⟨by simpa using e1,by omega⟩
theorem Ub:∀ (xs:List SV)(k:Nat)(ys:List SV),Oi k xs=some ys->(SV.cl xs).take k=SV.cl ys/\SV.width ys=k:=by
  intro xs
  induction xs with
  | nil =>
    intro k ys h;cases k with
    | zero=>simp only[Oi,Option.some.injEq] at h;subst h;exact⟨rfl,rfl⟩
    | succ k=>cases h
  | cons x xs ih =>
    intro k ys h;cases k with
    | zero=>simp only[Oi,Option.some.injEq] at h;subst h;exact⟨rfl,rfl⟩
    | succ k =>
      rcases Lj x with⟨n,v,rfl⟩ | hx
      ·simp only[Oi] at h;split at h
       ·rename_i hn;simp only[A0c] at h;obtain⟨zs,hz,rfl⟩:=h;obtain⟨e1,e2⟩:=ih _ _ hz;rw[Ec,Ec];refine⟨?_,by simp only[SV.width];omega⟩;rw[<- e1,List.take_append,v.h,List.take_of_length_le (by rw[v.h];exact hn)]
       ·cases h
      ·rw[takeS_cons hx] at h;simp only[A0c] at h;obtain⟨zs,hz,rfl⟩:=h;obtain⟨e1,e2⟩:=ih _ _ hz;rw[Gi hx,Gi hx,Oz hx,e2];exact⟨by simpa using e1,by omega⟩
def cellS (off:Nat)(xs:List SV):Option SV :=
  match Iq off xs with
  | some (x::_)=>if x.Oh then none else some x
  | _=>none
theorem Uc {off:Nat}{xs:List SV}{x:SV}(h:cellS off xs=some x):(SV.cl xs)[off]?=some x.val/\off < SV.width xs:=by
  unfold cellS at h;split at h
  ·rename_i y ys hd;split at h
   ·cases h
   ·rename_i hv;simp only[Option.some.injEq] at h;subst h;obtain⟨e1,e2⟩:=JV _ _ _ hd;rw[Gi (by simpa using hv)] at e1;have h3:(SV.cl xs)[off]?=some y.val:=by
      rw[<- Nat.add_zero off,<-List.getElem?_drop,e1];rfl
    refine⟨h3,?_⟩;rw[<- jg];exact(A0w.1 h3).1
  ·cases h
def QX (off n:Nat)(xs:List SV):Option (List SV):=(Iq off xs).bind (Oi n)
theorem SC {off n:Nat}{xs ys:List SV}(h:QX off n xs=some ys):((SV.cl xs).drop off).take n=SV.cl ys/\SV.width ys=n/\off+n<=SV.width xs:=by
  unfold QX at h;simp only[A0v] at h;obtain⟨zs,h1,h2⟩:=h;obtain⟨e1,e2⟩:=JV _ _ _ h1;obtain⟨e3,e4⟩:=Ub _ _ _ h2;refine⟨by rw[e1,e3],e4,?_⟩;have h3:=congrArg List.length e1;have h4:=congrArg List.length e3;simp only[A1F,A0i,jg] at h3 h4;omega
def putS (off n:Nat)(ys xs:List SV):Option (List SV) :=
  match Oi off xs,Iq (off+n) xs with
  | some a,some b=>if SV.width ys=n then some (a++ys++b) else none
  | _,_=>none
theorem WB {off n:Nat}{xs ys zs:List SV}(h:putS off n ys xs=some zs):SV.cl zs=(SV.cl xs).take off++SV.cl ys++(SV.cl xs).drop (off+n)/\SV.width zs=SV.width xs/\SV.width ys=n/\off+n<=SV.width xs:=by
  unfold putS at h;split at h
  ·rename_i a b ha hb;split at h
   ·rename_i hw;simp only[Option.some.injEq] at h;subst h;obtain⟨e1,e2⟩:=Ub _ _ _ ha;obtain⟨e3,e4⟩:=JV _ _ _ hb;have h3:=congrArg List.length e3;simp only[A1F,jg] at h3;refine⟨by rw[OA,OA,e1,e3],?_,hw,e4⟩;rw[<- jg,OA,OA,Pi,Pi,jg,jg,jg];omega
   ·cases h
  ·cases h
def SV.one1:SV->Bool
  | .v x=>x.oneCell'
  | .agg _=>false
  | .qA _=>false
  | _=>true
theorem ones_spec:∀ xs:List SV,xs.all SV.one1=true->∀ v ∈ SV.cl xs,v.oneCell'=true:=by
  intro xs
  induction xs with
  | nil=>intro _ v hv;cases hv
  | cons x xs ih =>
    intro h v hv;simp only[List.all_cons,A0k] at h;rcases Lj x with⟨n,y,rfl⟩ | hx
    ·rw[Ec,List.mem_append] at hv;exact hv.elim (y.one v) (ih h.2 v)
    ·rw[Gi hx,ut] at hv;rcases hv with rfl | hv
     ·cases x <;> first | (cases hx;done) | rfl | exact h.1 | (simp[SV.one1] at h;done)
     ·exact ih h.2 v hv
structure En where
  k:Nat
  g:UV
  x:SV
abbrev Cond:=World->Prop
structure Fr (n:Nat)(a:Act)(L:List En):Prop where
  defers:a.defers=[]
  size:a.tmps.size=n
  at_:∀ e ∈ L,(∀ g w,e.g=some (g,w)->a.tmps[g]?=some (.bool w))->a.tmps[e.k]?=some e.x.val
def look (L:List En)(k:Nat):Option En:=L.find? fun e=>e.k == k
theorem Je {L:List En}{k:Nat}{e:En}(h:look L k=some e):e ∈ L/\e.k=k:=by
  unfold look at h;exact⟨List.mem_of_find?_eq_some h,by simpa using List.find?_some h⟩
def OB:Value->SV
  | .bool b=>.b b
  | .int .u8 n=>if 0<=n/\n < 256 then .u8 (UInt8.ofNat n.toNat) else .v (.int .u8 n)
  | .int .u16 n=>if 0<=n/\n < 65536 then .u16 (UInt16.ofNat n.toNat) else .v (.int .u16 n)
  | .int .u32 n=>if 0<=n/\n < 4294967296 then .u32 (UInt32.ofNat n.toNat) else .v (.int .u32 n)
  | .int .u64 n=>if 0<=n/\n < 18446744073709551616 then .u64 (UInt64.ofNat n.toNat) else .v (.int .u64 n)
  | .int k n=>.i k n
  | .string s=>.s s.data.toList
  | v=>.v v
theorem Ud (v:Value):(OB v).val=v:=by
  unfold OB;split <;> try rfl
  all_goals
    split
    ·rename_i n h;simp only[SV.val];congr 1;simp;omega
    ·rfl
theorem kst1_vec (v:Value):(OB v).Oh=false:=by
  unfold OB;split <;> try rfl
  all_goals (split <;> rfl)
theorem Xz:∀ l:List Value,SV.cl (l.map OB)=l:=by
  intro l
  induction l with
  | nil=>rfl
  | cons v l ih=>rw[kw,Gi (kst1_vec v),Ud,ih]
def kst:Value->SV
  | .agg cs=>.agg (cs.toList.map OB)
  | .tuple cs=>.qA (cs.toList.map OB)
  | v=>OB v
theorem kst_val (v:Value):(kst v).val=v:=by
  unfold kst;split
  ·simp only[SV.val,Xz]
  ·rename_i cs;have:SV.val ∘ OB=id:=funext Ud;simp only[SV.val,vals_eq,List.map_map,this,List.map_id]
  ·exact Ud v
def ev (L:List En)(g:UV):Operand->Option SV
  | .tmp t=>match look L t with
    | some e=>match e.g,g with
      | none,_=>some e.x
      | some (a,x),some (b,y)=>if a=b/\x=y then some e.x else none
      | some _,none=>none
    | none=>none
  | .const v=>some (kst v)
  | .global g=>some (.v (.pointer (some ⟨g,0,none⟩)))
  | .func f=>some (.v (.func (.func f) #[] #[]))
theorem PD {n:Nat}{a:Act}{L:List En}{g:UV}{o:Operand}{x:SV}(hf:Fr n a L)(hg:∀ k w,g=some (k,w)->a.tmps[k]?=some (.bool w))(h:ev L g o=some x):a.eval o=x.val:=by
  cases o with
  | tmp t =>
    simp only[ev] at h;split at h
    ·rename_i e he;obtain⟨hm,hk⟩:=Je he;have key:(∀ k w,e.g=some (k,w)->a.tmps[k]?=some (.bool w))->e.x=x->a.eval (.tmp t)=x.val:=by
       intro h1 h2;have:=hf.at_ e hm h1;rw[hk,h2] at this;simp[Act.eval,Array.getD_eq_getD_getElem?,this]
     split at h
     ·rename_i h0;injection h with h;exact key (by rw[h0];intro _ _ hh;cases hh) h
     ·rename_i a' x' b' y' h0;split at h
      ·rename_i hh;injection h with h;obtain⟨rfl,rfl⟩:=hh;exact key (by rw[h0];exact hg) h
      ·cases h
     ·cases h
    ·cases h
  | const v=>simp only[ev,Option.some.injEq] at h;subst h;simp[Act.eval,kst_val]
  | global g=>simp only[ev,Option.some.injEq] at h;subst h;rfl
  | func f=>simp only[ev,Option.some.injEq] at h;subst h;rfl
def shl8 (x:UInt8)(n:Nat):UInt8:=⟨x.toBitVec <<< n⟩
def shr8 (x:UInt8)(n:Nat):UInt8:=⟨x.toBitVec >>> n⟩
def shl16 (x:UInt16)(n:Nat):UInt16:=⟨x.toBitVec <<< n⟩
def shr16 (x:UInt16)(n:Nat):UInt16:=⟨x.toBitVec >>> n⟩
def shl32 (x:UInt32)(n:Nat):UInt32:=⟨x.toBitVec <<< n⟩
def Dc (x:UInt32)(n:Nat):UInt32:=⟨x.toBitVec >>> n⟩
def zq (x:UInt64)(n:Nat):UInt64:=⟨x.toBitVec <<< n⟩
def oU (x:UInt64)(n:Nat):UInt64:=⟨x.toBitVec >>> n⟩
def shlI (k:IntKind)(x:Int)(n:Nat):Int:=k.wrap (x*2 ^ (min n k.bits))
def VT (k:IntKind)(x:Int)(n:Nat):Int:=x.fdiv (2 ^ (min n k.bits))
def andI (k:IntKind)(x y:Int):Int:=k.wrap (BitVec.ofInt k.bits x&&&BitVec.ofInt k.bits y).toNat
def orI (k:IntKind)(x y:Int):Int:=k.wrap (BitVec.ofInt k.bits x|||BitVec.ofInt k.bits y).toNat
def xorI (k:IntKind)(x y:Int):Int:=k.wrap (BitVec.ofInt k.bits x^^^BitVec.ofInt k.bits y).toNat
def andNotI (k:IntKind)(x y:Int):Int:=k.wrap (BitVec.ofInt k.bits x&&&~~~BitVec.ofInt k.bits y).toNat
abbrev Ans:=Option (SV×List Cond)
def binI (op:BinOp)(k:IntKind)(a b:Int):Ans :=
  match op with
  | .add=>some (.i k (k.wrap (a+b)),[])
  | .sub=>some (.i k (k.wrap (a - b)),[])
  | .mul=>some (.i k (k.wrap (a*b)),[])
  | .quo=>some (.i k (k.wrap (a.tdiv b)),[fun _=>b≠0])
  | .rem=>some (.i k (a.tmod b),[fun _=>b≠0])
  | .and=>some (.i k (andI k a b),[])
  | .or=>some (.i k (orI k a b),[])
  | .xor=>some (.i k (xorI k a b),[])
  | .andNot=>some (.i k (andNotI k a b),[])
  | .eql=>some (.b (decide (a=b)),[])
  | .neq=>some (.b (decide (a≠b)),[])
  | .lss=>some (.b (decide (a < b)),[])
  | .leq=>some (.b (decide (a<=b)),[])
  | .gtr=>some (.b (decide (b < a)),[])
  | .geq=>some (.b (decide (b<=a)),[])
  | _=>none
theorem binI_sound {P:Program}{w:World}{op:BinOp}{k:IntKind}{a b:Int}{x:SV}{cs:List Cond}{t:TypeId}(h:binI op k a b=some (x,cs))(hc:∀ c ∈ cs,c w) :
    (binOp op t (.int k a) (.int k b)).run P w=.ok x.val w:=by
  cases op <;> simp only[binI,Option.some.injEq,Prod.mk.injEq,reduceCtorEq] at h <;> obtain⟨rfl,rfl⟩:=h
  all_goals simp[binOp,Op.intArith,Op.intDiv,Op.intBits,Op.intCmp,SV.val,andI,orI,xorI,andNotI] at hc ⊢
  all_goals first | exact fun h=>absurd h hc | (rw[Bool.eq_iff_iff];simp)
def binU8 (op:BinOp)(a b:UInt8):Ans :=
  match op with
  | .add=>some (.u8 (a+b),[])
  | .sub=>some (.u8 (a - b),[])
  | .mul=>some (.u8 (a*b),[])
  | .quo=>some (.u8 (a / b),[fun _=>b≠0])
  | .rem=>some (.u8 (a % b),[fun _=>b≠0])
  | .and=>some (.u8 (a&&&b),[])
  | .or=>some (.u8 (a|||b),[])
  | .xor=>some (.u8 (a^^^b),[])
  | .andNot=>some (.u8 (a&&&~~~b),[])
  | .eql=>some (.b (decide (a=b)),[])
  | .neq=>some (.b (decide (a≠b)),[])
  | .lss=>some (.b (decide (a < b)),[])
  | .leq=>some (.b (decide (a<=b)),[])
  | .gtr=>some (.b (decide (b < a)),[])
  | .geq=>some (.b (decide (b<=a)),[])
  | _=>none
theorem Ue (n:Nat):IntKind.u8.wrap (n:Int)=((n % 2 ^ 8:Nat):Int):=by
  simp only[IntKind.wrap,IntKind.bits,IntKind.signed];simp[Int.natCast_emod]
theorem Ll {n:Nat}(h:n < 2 ^ 8):IntKind.u8.wrap (n:Int)=(n:Int):=by rw[Ue,Nat.mod_eq_of_lt h]
theorem WC (n:Int):IntKind.u8.wrap n=n % 2 ^ 8:=by
  simp only[IntKind.wrap,IntKind.bits,IntKind.signed];simp
theorem Zb (z:UInt8):BitVec.ofInt 8 (z.toNat:Int)=z.toBitVec:=by
  apply BitVec.eq_of_toNat_eq;have:=z.toNat_lt;simp[IntKind.bits]
  try omega
theorem Lm {P:Program}{w:World}{op:BinOp}{a b:UInt8}{x:SV}{cs:List Cond}{t:TypeId}(h:binU8 op a b=some (x,cs))(hc:∀ c ∈ cs,c w) :
    (binOp op t (.int .u8 a.toNat) (.int .u8 b.toNat)).run P w=.ok x.val w:=by
  have ha:=a.toNat_lt;have hb:=b.toNat_lt;have hz:(b=0) ↔ (b.toNat=0):=by rw[<- UInt8.toNat_inj];simp
  cases op <;> simp only[binU8,Option.some.injEq,Prod.mk.injEq,reduceCtorEq] at h <;> obtain⟨rfl,rfl⟩:=h
  case add=>simp only[binOp,Op.intArith,SV.val,ne_eq,not_true_eq_false,if_false,Sem.run_pure];rw[<- Int.natCast_add,Ue,UInt8.toNat_add]
  case sub =>
    simp only[binOp,Op.intArith,SV.val,ne_eq,not_true_eq_false,if_false,Sem.run_pure];congr 2;rw[WC,UInt8.toNat_sub];simp only[Nat.reducePow,Int.reducePow] at *;omega
  case mul=>simp only[binOp,Op.intArith,SV.val,ne_eq,not_true_eq_false,if_false,Sem.run_pure];rw[<- Int.natCast_mul,Ue,UInt8.toNat_mul]
  case quo =>
    simp only[A0d,forall_eq] at hc;have h0:¬ (b.toNat=0):=fun h=>hc (hz.2 h);have hl:a.toNat / b.toNat < 2 ^ 8:=Nat.lt_of_le_of_lt (Nat.div_le_self _ _) ha;simp[binOp,Op.intDiv,SV.val,h0];rw[<- Int.natCast_ediv,Ll hl]
  case rem =>
    simp only[A0d,forall_eq] at hc;have h0:¬ (b.toNat=0):=fun h=>hc (hz.2 h);simp[binOp,Op.intDiv,SV.val,h0];rw[Int.tmod_eq_emod_of_nonneg (by omega)]
  case and =>
    show Result.ok (Value.int .u8 (IntKind.u8.wrap ((BitVec.ofInt 8 a.toNat&&&BitVec.ofInt 8 b.toNat).toNat:Nat))) w=_;rw[Zb,Zb];exact congrArg (fun z=>Result.ok (Value.int .u8 z) w) (Ll (BitVec.isLt _))
  case or =>
    show Result.ok (Value.int .u8 (IntKind.u8.wrap ((BitVec.ofInt 8 a.toNat|||BitVec.ofInt 8 b.toNat).toNat:Nat))) w=_;rw[Zb,Zb];exact congrArg (fun z=>Result.ok (Value.int .u8 z) w) (Ll (BitVec.isLt _))
  case xor =>
    show Result.ok (Value.int .u8 (IntKind.u8.wrap ((BitVec.ofInt 8 a.toNat^^^BitVec.ofInt 8 b.toNat).toNat:Nat))) w=_;rw[Zb,Zb];exact congrArg (fun z=>Result.ok (Value.int .u8 z) w) (Ll (BitVec.isLt _))
  case andNot =>
    show Result.ok (Value.int .u8 (IntKind.u8.wrap ((BitVec.ofInt 8 a.toNat&&&~~~BitVec.ofInt 8 b.toNat).toNat:Nat))) w=_;rw[Zb,Zb];exact congrArg (fun z=>Result.ok (Value.int .u8 z) w) (Ll (BitVec.isLt _))
  case eql=>simp[binOp,Op.intCmp,SV.val,<-UInt8.toNat_inj];rw[Bool.eq_iff_iff];simp;omega
  case neq=>simp[binOp,Op.intCmp,SV.val,<-UInt8.toNat_inj];rw[Bool.eq_iff_iff];simp;omega
  case lss=>simp[binOp,Op.intCmp,SV.val,UInt8.lt_iff_toNat_lt]
  case leq=>simp[binOp,Op.intCmp,SV.val,UInt8.le_iff_toNat_le]
  case gtr=>simp[binOp,Op.intCmp,SV.val,UInt8.lt_iff_toNat_lt]
  case geq=>simp[binOp,Op.intCmp,SV.val,UInt8.le_iff_toNat_le]
theorem Zc {P:Program}{w:World}(a:UInt8)(yk:IntKind)(n:Nat):(Op.shift .shl .u8 a.toNat yk n).run P w=.ok (SV.u8 (shl8 a n)).val w:=by
  have h0:¬ ((n:Int) < 0):=by omega
  simp only[Op.shift,h0,if_false,SV.val,shl8,A0Z,Sem.run_pure];congr 2;rw[show((a.toNat:Int)*2 ^ (min n IntKind.u8.bits))=((a.toNat*2 ^ (min n IntKind.u8.bits):Nat):Int) from by simp,Ue];congr 1;show _=(a.toBitVec <<< n).toNat;rw[BitVec.toNat_shiftLeft,Nat.shiftLeft_eq];simp only[IntKind.bits];rcases Nat.lt_or_ge n 8 with h | h
  ·rw[Nat.min_eq_left (by omega)];rfl
  ·rw[Nat.min_eq_right h];have e1:a.toNat*2 ^ 8 % 2 ^ 8=0:=Nat.mul_mod_left _ _;have e2:a.toBitVec.toNat*2 ^ n % 2 ^ 8=0:=by
     obtain⟨d,rfl⟩:=Nat.exists_eq_add_of_le h;rw[Nat.pow_add,Nat.mul_comm (2 ^ 8),<-Nat.mul_assoc];exact Nat.mul_mod_left _ _
   rw[e1,e2]
theorem Zd {P:Program}{w:World}(a:UInt8)(yk:IntKind)(n:Nat):(Op.shift .shr .u8 a.toNat yk n).run P w=.ok (SV.u8 (shr8 a n)).val w:=by
  have h0:¬ ((n:Int) < 0):=by omega
  simp only[Op.shift,h0,if_false,SV.val,shr8,A0Z,Sem.run_pure];congr 2;rw[Int.fdiv_eq_ediv_of_nonneg _ (by exact Int.le_of_lt (Int.pow_pos (by omega)))];rw[show((a.toNat:Int) / 2 ^ (min n IntKind.u8.bits))=((a.toNat / 2 ^ (min n IntKind.u8.bits):Nat):Int) from by simp];congr 1;show _=(a.toBitVec >>> n).toNat;rw[BitVec.toNat_ushiftRight,Nat.shiftRight_eq_div_pow];simp only[IntKind.bits];have ha:=a.toNat_lt;rcases Nat.lt_or_ge n 8 with h | h
  ·rw[Nat.min_eq_left (by omega)];rfl
  ·rw[Nat.min_eq_right h,Nat.div_eq_of_lt ha];exact(Nat.div_eq_of_lt (A0u ha (Nat.pow_le_pow_right (by omega) h))).symm
def binU16 (op:BinOp)(a b:UInt16):Ans :=
  match op with
  | .add=>some (.u16 (a+b),[])
  | .sub=>some (.u16 (a - b),[])
  | .mul=>some (.u16 (a*b),[])
  | .quo=>some (.u16 (a / b),[fun _=>b≠0])
  | .rem=>some (.u16 (a % b),[fun _=>b≠0])
  | .and=>some (.u16 (a&&&b),[])
  | .or=>some (.u16 (a|||b),[])
  | .xor=>some (.u16 (a^^^b),[])
  | .andNot=>some (.u16 (a&&&~~~b),[])
  | .eql=>some (.b (decide (a=b)),[])
  | .neq=>some (.b (decide (a≠b)),[])
  | .lss=>some (.b (decide (a < b)),[])
  | .leq=>some (.b (decide (a<=b)),[])
  | .gtr=>some (.b (decide (b < a)),[])
  | .geq=>some (.b (decide (b<=a)),[])
  | _=>none
theorem PE (n:Nat):IntKind.u16.wrap (n:Int)=((n % 2 ^ 16:Nat):Int):=by
  simp only[IntKind.wrap,IntKind.bits,IntKind.signed];simp[Int.natCast_emod]
theorem Jf {n:Nat}(h:n < 2 ^ 16):IntKind.u16.wrap (n:Int)=(n:Int):=by rw[PE,Nat.mod_eq_of_lt h]
theorem Uf (n:Int):IntKind.u16.wrap n=n % 2 ^ 16:=by
  simp only[IntKind.wrap,IntKind.bits,IntKind.signed];simp
theorem SE (z:UInt16):BitVec.ofInt 16 (z.toNat:Int)=z.toBitVec:=by
  apply BitVec.eq_of_toNat_eq;have:=z.toNat_lt;simp[IntKind.bits]
  try omega
theorem JW {P:Program}{w:World}{op:BinOp}{a b:UInt16}{x:SV}{cs:List Cond}{t:TypeId}(h:binU16 op a b=some (x,cs))(hc:∀ c ∈ cs,c w) :
    (binOp op t (.int .u16 a.toNat) (.int .u16 b.toNat)).run P w=.ok x.val w:=by
  have ha:=a.toNat_lt;have hb:=b.toNat_lt;have hz:(b=0) ↔ (b.toNat=0):=by rw[<- UInt16.toNat_inj];simp
  cases op <;> simp only[binU16,Option.some.injEq,Prod.mk.injEq,reduceCtorEq] at h <;> obtain⟨rfl,rfl⟩:=h
  case add=>simp only[binOp,Op.intArith,SV.val,ne_eq,not_true_eq_false,if_false,Sem.run_pure];rw[<- Int.natCast_add,PE,UInt16.toNat_add]
  case sub =>
    simp only[binOp,Op.intArith,SV.val,ne_eq,not_true_eq_false,if_false,Sem.run_pure];congr 2;rw[Uf,UInt16.toNat_sub];simp only[Nat.reducePow,Int.reducePow] at *;omega
  case mul=>simp only[binOp,Op.intArith,SV.val,ne_eq,not_true_eq_false,if_false,Sem.run_pure];rw[<- Int.natCast_mul,PE,UInt16.toNat_mul]
  case quo =>
    simp only[A0d,forall_eq] at hc;have h0:¬ (b.toNat=0):=fun h=>hc (hz.2 h);have hl:a.toNat / b.toNat < 2 ^ 16:=Nat.lt_of_le_of_lt (Nat.div_le_self _ _) ha;simp[binOp,Op.intDiv,SV.val,h0];rw[<- Int.natCast_ediv,Jf hl]
  case rem =>
    simp only[A0d,forall_eq] at hc;have h0:¬ (b.toNat=0):=fun h=>hc (hz.2 h);simp[binOp,Op.intDiv,SV.val,h0];rw[Int.tmod_eq_emod_of_nonneg (by omega)]
  case and =>
    show Result.ok (Value.int .u16 (IntKind.u16.wrap ((BitVec.ofInt 16 a.toNat&&&BitVec.ofInt 16 b.toNat).toNat:Nat))) w=_;rw[SE,SE];exact congrArg (fun z=>Result.ok (Value.int .u16 z) w) (Jf (BitVec.isLt _))
  case or =>
    show Result.ok (Value.int .u16 (IntKind.u16.wrap ((BitVec.ofInt 16 a.toNat|||BitVec.ofInt 16 b.toNat).toNat:Nat))) w=_;rw[SE,SE];exact congrArg (fun z=>Result.ok (Value.int .u16 z) w) (Jf (BitVec.isLt _))
  case xor =>
    show Result.ok (Value.int .u16 (IntKind.u16.wrap ((BitVec.ofInt 16 a.toNat^^^BitVec.ofInt 16 b.toNat).toNat:Nat))) w=_;rw[SE,SE];exact congrArg (fun z=>Result.ok (Value.int .u16 z) w) (Jf (BitVec.isLt _))
  case andNot =>
    show Result.ok (Value.int .u16 (IntKind.u16.wrap ((BitVec.ofInt 16 a.toNat&&&~~~BitVec.ofInt 16 b.toNat).toNat:Nat))) w=_;rw[SE,SE];exact congrArg (fun z=>Result.ok (Value.int .u16 z) w) (Jf (BitVec.isLt _))
  case eql=>simp[binOp,Op.intCmp,SV.val,<-UInt16.toNat_inj];rw[Bool.eq_iff_iff];simp;omega
  case neq=>simp[binOp,Op.intCmp,SV.val,<-UInt16.toNat_inj];rw[Bool.eq_iff_iff];simp;omega
  case lss=>simp[binOp,Op.intCmp,SV.val,UInt16.lt_iff_toNat_lt]
  case leq=>simp[binOp,Op.intCmp,SV.val,UInt16.le_iff_toNat_le]
  case gtr=>simp[binOp,Op.intCmp,SV.val,UInt16.lt_iff_toNat_lt]
  case geq=>simp[binOp,Op.intCmp,SV.val,UInt16.le_iff_toNat_le]
theorem XA {P:Program}{w:World}(a:UInt16)(yk:IntKind)(n:Nat):(Op.shift .shl .u16 a.toNat yk n).run P w=.ok (SV.u16 (shl16 a n)).val w:=by
  have h0:¬ ((n:Int) < 0):=by omega
  simp only[Op.shift,h0,if_false,SV.val,shl16,A0Z,Sem.run_pure];congr 2;rw[show((a.toNat:Int)*2 ^ (min n IntKind.u16.bits))=((a.toNat*2 ^ (min n IntKind.u16.bits):Nat):Int) from by simp,PE];congr 1;show _=(a.toBitVec <<< n).toNat;rw[BitVec.toNat_shiftLeft,Nat.shiftLeft_eq];simp only[IntKind.bits];rcases Nat.lt_or_ge n 16 with h | h
  ·rw[Nat.min_eq_left (by omega)];rfl
  ·rw[Nat.min_eq_right h];have e1:a.toNat*2 ^ 16 % 2 ^ 16=0:=Nat.mul_mod_left _ _;have e2:a.toBitVec.toNat*2 ^ n % 2 ^ 16=0:=by
     obtain⟨d,rfl⟩:=Nat.exists_eq_add_of_le h;rw[Nat.pow_add,Nat.mul_comm (2 ^ 16),<-Nat.mul_assoc];exact Nat.mul_mod_left _ _
   rw[e1,e2]
theorem XB {P:Program}{w:World}(a:UInt16)(yk:IntKind)(n:Nat):(Op.shift .shr .u16 a.toNat yk n).run P w=.ok (SV.u16 (shr16 a n)).val w:=by
  have h0:¬ ((n:Int) < 0):=by omega
  simp only[Op.shift,h0,if_false,SV.val,shr16,A0Z,Sem.run_pure];congr 2;rw[Int.fdiv_eq_ediv_of_nonneg _ (by exact Int.le_of_lt (Int.pow_pos (by omega)))];rw[show((a.toNat:Int) / 2 ^ (min n IntKind.u16.bits))=((a.toNat / 2 ^ (min n IntKind.u16.bits):Nat):Int) from by simp];congr 1;show _=(a.toBitVec >>> n).toNat;rw[BitVec.toNat_ushiftRight,Nat.shiftRight_eq_div_pow];simp only[IntKind.bits];have ha:=a.toNat_lt;rcases Nat.lt_or_ge n 16 with h | h
  ·rw[Nat.min_eq_left (by omega)];rfl
  ·rw[Nat.min_eq_right h,Nat.div_eq_of_lt ha];exact(Nat.div_eq_of_lt (A0u ha (Nat.pow_le_pow_right (by omega) h))).symm
def binU32 (op:BinOp)(a b:UInt32):Ans :=
  match op with
  | .add=>some (.u32 (a+b),[])
  | .sub=>some (.u32 (a - b),[])
  | .mul=>some (.u32 (a*b),[])
  | .quo=>some (.u32 (a / b),[fun _=>b≠0])
  | .rem=>some (.u32 (a % b),[fun _=>b≠0])
  | .and=>some (.u32 (a&&&b),[])
  | .or=>some (.u32 (a|||b),[])
  | .xor=>some (.u32 (a^^^b),[])
  | .andNot=>some (.u32 (a&&&~~~b),[])
  | .eql=>some (.b (decide (a=b)),[])
  | .neq=>some (.b (decide (a≠b)),[])
  | .lss=>some (.b (decide (a < b)),[])
  | .leq=>some (.b (decide (a<=b)),[])
  | .gtr=>some (.b (decide (b < a)),[])
  | .geq=>some (.b (decide (b<=a)),[])
  | _=>none
theorem PG (n:Nat):IntKind.u32.wrap (n:Int)=((n % 2 ^ 32:Nat):Int):=by
  simp only[IntKind.wrap,IntKind.bits,IntKind.signed];simp[Int.natCast_emod]
theorem Jg {n:Nat}(h:n < 2 ^ 32):IntKind.u32.wrap (n:Int)=(n:Int):=by rw[PG,Nat.mod_eq_of_lt h]
theorem Ug (n:Int):IntKind.u32.wrap n=n % 2 ^ 32:=by
  simp only[IntKind.wrap,IntKind.bits,IntKind.signed];simp
theorem SG (z:UInt32):BitVec.ofInt 32 (z.toNat:Int)=z.toBitVec:=by
  apply BitVec.eq_of_toNat_eq;have:=z.toNat_lt;simp[IntKind.bits]
  try omega
theorem JX {P:Program}{w:World}{op:BinOp}{a b:UInt32}{x:SV}{cs:List Cond}{t:TypeId}(h:binU32 op a b=some (x,cs))(hc:∀ c ∈ cs,c w) :
    (binOp op t (.int .u32 a.toNat) (.int .u32 b.toNat)).run P w=.ok x.val w:=by
  have ha:=a.toNat_lt;have hb:=b.toNat_lt;have hz:(b=0) ↔ (b.toNat=0):=by rw[<- UInt32.toNat_inj];simp
  cases op <;> simp only[binU32,Option.some.injEq,Prod.mk.injEq,reduceCtorEq] at h <;> obtain⟨rfl,rfl⟩:=h
  case add=>simp only[binOp,Op.intArith,SV.val,ne_eq,not_true_eq_false,if_false,Sem.run_pure];rw[<- Int.natCast_add,PG,UInt32.toNat_add]
  case sub =>
    simp only[binOp,Op.intArith,SV.val,ne_eq,not_true_eq_false,if_false,Sem.run_pure];congr 2;rw[Ug,UInt32.toNat_sub];simp only[Nat.reducePow,Int.reducePow] at *;omega
  case mul=>simp only[binOp,Op.intArith,SV.val,ne_eq,not_true_eq_false,if_false,Sem.run_pure];rw[<- Int.natCast_mul,PG,UInt32.toNat_mul]
  case quo =>
    simp only[A0d,forall_eq] at hc;have h0:¬ (b.toNat=0):=fun h=>hc (hz.2 h);have hl:a.toNat / b.toNat < 2 ^ 32:=Nat.lt_of_le_of_lt (Nat.div_le_self _ _) ha;simp[binOp,Op.intDiv,SV.val,h0];rw[<- Int.natCast_ediv,Jg hl]
  case rem =>
    simp only[A0d,forall_eq] at hc;have h0:¬ (b.toNat=0):=fun h=>hc (hz.2 h);simp[binOp,Op.intDiv,SV.val,h0];rw[Int.tmod_eq_emod_of_nonneg (by omega)]
  case and =>
    show Result.ok (Value.int .u32 (IntKind.u32.wrap ((BitVec.ofInt 32 a.toNat&&&BitVec.ofInt 32 b.toNat).toNat:Nat))) w=_;rw[SG,SG];exact congrArg (fun z=>Result.ok (Value.int .u32 z) w) (Jg (BitVec.isLt _))
  case or =>
    show Result.ok (Value.int .u32 (IntKind.u32.wrap ((BitVec.ofInt 32 a.toNat|||BitVec.ofInt 32 b.toNat).toNat:Nat))) w=_;rw[SG,SG];exact congrArg (fun z=>Result.ok (Value.int .u32 z) w) (Jg (BitVec.isLt _))
  case xor =>
    show Result.ok (Value.int .u32 (IntKind.u32.wrap ((BitVec.ofInt 32 a.toNat^^^BitVec.ofInt 32 b.toNat).toNat:Nat))) w=_;rw[SG,SG];exact congrArg (fun z=>Result.ok (Value.int .u32 z) w) (Jg (BitVec.isLt _))
  case andNot =>
    show Result.ok (Value.int .u32 (IntKind.u32.wrap ((BitVec.ofInt 32 a.toNat&&&~~~BitVec.ofInt 32 b.toNat).toNat:Nat))) w=_;rw[SG,SG];exact congrArg (fun z=>Result.ok (Value.int .u32 z) w) (Jg (BitVec.isLt _))
  case eql=>simp[binOp,Op.intCmp,SV.val,<-UInt32.toNat_inj];rw[Bool.eq_iff_iff];simp;omega
  case neq=>simp[binOp,Op.intCmp,SV.val,<-UInt32.toNat_inj];rw[Bool.eq_iff_iff];simp;omega
  case lss=>simp[binOp,Op.intCmp,SV.val,UInt32.lt_iff_toNat_lt]
  case leq=>simp[binOp,Op.intCmp,SV.val,UInt32.le_iff_toNat_le]
  case gtr=>simp[binOp,Op.intCmp,SV.val,UInt32.lt_iff_toNat_lt]
  case geq=>simp[binOp,Op.intCmp,SV.val,UInt32.le_iff_toNat_le]
theorem XC {P:Program}{w:World}(a:UInt32)(yk:IntKind)(n:Nat):(Op.shift .shl .u32 a.toNat yk n).run P w=.ok (SV.u32 (shl32 a n)).val w:=by
  have h0:¬ ((n:Int) < 0):=by omega
  simp only[Op.shift,h0,if_false,SV.val,shl32,A0Z,Sem.run_pure];congr 2;rw[show((a.toNat:Int)*2 ^ (min n IntKind.u32.bits))=((a.toNat*2 ^ (min n IntKind.u32.bits):Nat):Int) from by simp,PG];congr 1;show _=(a.toBitVec <<< n).toNat;rw[BitVec.toNat_shiftLeft,Nat.shiftLeft_eq];simp only[IntKind.bits];rcases Nat.lt_or_ge n 32 with h | h
  ·rw[Nat.min_eq_left (by omega)];rfl
  ·rw[Nat.min_eq_right h];have e1:a.toNat*2 ^ 32 % 2 ^ 32=0:=Nat.mul_mod_left _ _;have e2:a.toBitVec.toNat*2 ^ n % 2 ^ 32=0:=by
     obtain⟨d,rfl⟩:=Nat.exists_eq_add_of_le h;rw[Nat.pow_add,Nat.mul_comm (2 ^ 32),<-Nat.mul_assoc];exact Nat.mul_mod_left _ _
   rw[e1,e2]
theorem XD {P:Program}{w:World}(a:UInt32)(yk:IntKind)(n:Nat):(Op.shift .shr .u32 a.toNat yk n).run P w=.ok (SV.u32 (Dc a n)).val w:=by
  have h0:¬ ((n:Int) < 0):=by omega
  simp only[Op.shift,h0,if_false,SV.val,Dc,A0Z,Sem.run_pure];congr 2;rw[Int.fdiv_eq_ediv_of_nonneg _ (by exact Int.le_of_lt (Int.pow_pos (by omega)))];rw[show((a.toNat:Int) / 2 ^ (min n IntKind.u32.bits))=((a.toNat / 2 ^ (min n IntKind.u32.bits):Nat):Int) from by simp];congr 1;show _=(a.toBitVec >>> n).toNat;rw[BitVec.toNat_ushiftRight,Nat.shiftRight_eq_div_pow];simp only[IntKind.bits];have ha:=a.toNat_lt;rcases Nat.lt_or_ge n 32 with h | h
  ·rw[Nat.min_eq_left (by omega)];rfl
  ·rw[Nat.min_eq_right h,Nat.div_eq_of_lt ha];exact(Nat.div_eq_of_lt (A0u ha (Nat.pow_le_pow_right (by omega) h))).symm
def binU64 (op:BinOp)(a b:UInt64):Ans :=
  match op with
  | .add=>some (.u64 (a+b),[])
  | .sub=>some (.u64 (a - b),[])
  | .mul=>some (.u64 (a*b),[])
  | .quo=>some (.u64 (a / b),[fun _=>b≠0])
  | .rem=>some (.u64 (a % b),[fun _=>b≠0])
  | .and=>some (.u64 (a&&&b),[])
  | .or=>some (.u64 (a|||b),[])
  | .xor=>some (.u64 (a^^^b),[])
  | .andNot=>some (.u64 (a&&&~~~b),[])
  | .eql=>some (.b (decide (a=b)),[])
  | .neq=>some (.b (decide (a≠b)),[])
  | .lss=>some (.b (decide (a < b)),[])
  | .leq=>some (.b (decide (a<=b)),[])
  | .gtr=>some (.b (decide (b < a)),[])
  | .geq=>some (.b (decide (b<=a)),[])
  | _=>none
theorem PH (n:Nat):IntKind.u64.wrap (n:Int)=((n % 2 ^ 64:Nat):Int):=by
  simp only[IntKind.wrap,IntKind.bits,IntKind.signed];simp[Int.natCast_emod]
theorem Jh {n:Nat}(h:n < 2 ^ 64):IntKind.u64.wrap (n:Int)=(n:Int):=by rw[PH,Nat.mod_eq_of_lt h]
theorem Uh (n:Int):IntKind.u64.wrap n=n % 2 ^ 64:=by
  simp only[IntKind.wrap,IntKind.bits,IntKind.signed];simp
theorem SI (z:UInt64):BitVec.ofInt 64 (z.toNat:Int)=z.toBitVec:=by
  apply BitVec.eq_of_toNat_eq;have:=z.toNat_lt;simp[IntKind.bits]
  try omega
theorem JY {P:Program}{w:World}{op:BinOp}{a b:UInt64}{x:SV}{cs:List Cond}{t:TypeId}(h:binU64 op a b=some (x,cs))(hc:∀ c ∈ cs,c w) :
    (binOp op t (.int .u64 a.toNat) (.int .u64 b.toNat)).run P w=.ok x.val w:=by
  have ha:=a.toNat_lt;have hb:=b.toNat_lt;have hz:(b=0) ↔ (b.toNat=0):=by rw[<- UInt64.toNat_inj];simp
  cases op <;> simp only[binU64,Option.some.injEq,Prod.mk.injEq,reduceCtorEq] at h <;> obtain⟨rfl,rfl⟩:=h
  case add=>simp only[binOp,Op.intArith,SV.val,ne_eq,not_true_eq_false,if_false,Sem.run_pure];rw[<- Int.natCast_add,PH,UInt64.toNat_add]
  case sub =>
    simp only[binOp,Op.intArith,SV.val,ne_eq,not_true_eq_false,if_false,Sem.run_pure];congr 2;rw[Uh,UInt64.toNat_sub];simp only[Nat.reducePow,Int.reducePow] at *;omega
  case mul=>simp only[binOp,Op.intArith,SV.val,ne_eq,not_true_eq_false,if_false,Sem.run_pure];rw[<- Int.natCast_mul,PH,UInt64.toNat_mul]
  case quo =>
    simp only[A0d,forall_eq] at hc;have h0:¬ (b.toNat=0):=fun h=>hc (hz.2 h);have hl:a.toNat / b.toNat < 2 ^ 64:=Nat.lt_of_le_of_lt (Nat.div_le_self _ _) ha;simp[binOp,Op.intDiv,SV.val,h0];rw[<- Int.natCast_ediv,Jh hl]
  case rem =>
    simp only[A0d,forall_eq] at hc;have h0:¬ (b.toNat=0):=fun h=>hc (hz.2 h);simp[binOp,Op.intDiv,SV.val,h0];rw[Int.tmod_eq_emod_of_nonneg (by omega)]
  case and =>
    show Result.ok (Value.int .u64 (IntKind.u64.wrap ((BitVec.ofInt 64 a.toNat&&&BitVec.ofInt 64 b.toNat).toNat:Nat))) w=_;rw[SI,SI];exact congrArg (fun z=>Result.ok (Value.int .u64 z) w) (Jh (BitVec.isLt _))
  case or =>
    show Result.ok (Value.int .u64 (IntKind.u64.wrap ((BitVec.ofInt 64 a.toNat|||BitVec.ofInt 64 b.toNat).toNat:Nat))) w=_;rw[SI,SI];exact congrArg (fun z=>Result.ok (Value.int .u64 z) w) (Jh (BitVec.isLt _))
  case xor =>
    show Result.ok (Value.int .u64 (IntKind.u64.wrap ((BitVec.ofInt 64 a.toNat^^^BitVec.ofInt 64 b.toNat).toNat:Nat))) w=_;rw[SI,SI];exact congrArg (fun z=>Result.ok (Value.int .u64 z) w) (Jh (BitVec.isLt _))
  case andNot =>
    show Result.ok (Value.int .u64 (IntKind.u64.wrap ((BitVec.ofInt 64 a.toNat&&&~~~BitVec.ofInt 64 b.toNat).toNat:Nat))) w=_;rw[SI,SI];exact congrArg (fun z=>Result.ok (Value.int .u64 z) w) (Jh (BitVec.isLt _))
  case eql=>simp[binOp,Op.intCmp,SV.val,<-UInt64.toNat_inj];rw[Bool.eq_iff_iff];simp;omega
  case neq=>simp[binOp,Op.intCmp,SV.val,<-UInt64.toNat_inj];rw[Bool.eq_iff_iff];simp;omega
  case lss=>simp[binOp,Op.intCmp,SV.val,UInt64.lt_iff_toNat_lt]
  case leq=>simp[binOp,Op.intCmp,SV.val,UInt64.le_iff_toNat_le]
  case gtr=>simp[binOp,Op.intCmp,SV.val,UInt64.lt_iff_toNat_lt]
  case geq=>simp[binOp,Op.intCmp,SV.val,UInt64.le_iff_toNat_le]
theorem XE {P:Program}{w:World}(a:UInt64)(yk:IntKind)(n:Nat):(Op.shift .shl .u64 a.toNat yk n).run P w=.ok (SV.u64 (zq a n)).val w:=by
  have h0:¬ ((n:Int) < 0):=by omega
  simp only[Op.shift,h0,if_false,SV.val,zq,A0Z,Sem.run_pure];congr 2;rw[show((a.toNat:Int)*2 ^ (min n IntKind.u64.bits))=((a.toNat*2 ^ (min n IntKind.u64.bits):Nat):Int) from by simp,PH];congr 1;show _=(a.toBitVec <<< n).toNat;rw[BitVec.toNat_shiftLeft,Nat.shiftLeft_eq];simp only[IntKind.bits];rcases Nat.lt_or_ge n 64 with h | h
  ·rw[Nat.min_eq_left (by omega)];rfl
  ·rw[Nat.min_eq_right h];have e1:a.toNat*2 ^ 64 % 2 ^ 64=0:=Nat.mul_mod_left _ _;have e2:a.toBitVec.toNat*2 ^ n % 2 ^ 64=0:=by
     obtain⟨d,rfl⟩:=Nat.exists_eq_add_of_le h;rw[Nat.pow_add,Nat.mul_comm (2 ^ 64),<-Nat.mul_assoc];exact Nat.mul_mod_left _ _
   rw[e1,e2]
theorem XF {P:Program}{w:World}(a:UInt64)(yk:IntKind)(n:Nat):(Op.shift .shr .u64 a.toNat yk n).run P w=.ok (SV.u64 (oU a n)).val w:=by
  have h0:¬ ((n:Int) < 0):=by omega
  simp only[Op.shift,h0,if_false,SV.val,oU,A0Z,Sem.run_pure];congr 2;rw[Int.fdiv_eq_ediv_of_nonneg _ (by exact Int.le_of_lt (Int.pow_pos (by omega)))];rw[show((a.toNat:Int) / 2 ^ (min n IntKind.u64.bits))=((a.toNat / 2 ^ (min n IntKind.u64.bits):Nat):Int) from by simp];congr 1;show _=(a.toBitVec >>> n).toNat;rw[BitVec.toNat_ushiftRight,Nat.shiftRight_eq_div_pow];simp only[IntKind.bits];have ha:=a.toNat_lt;rcases Nat.lt_or_ge n 64 with h | h
  ·rw[Nat.min_eq_left (by omega)];rfl
  ·rw[Nat.min_eq_right h,Nat.div_eq_of_lt ha];exact(Nat.div_eq_of_lt (A0u ha (Nat.pow_le_pow_right (by omega) h))).symm
def cnt:SV->Option (Nat×List Cond)
  | .u8 x=>some (x.toNat,[])
  | .u16 x=>some (x.toNat,[])
  | .u32 x=>some (x.toNat,[])
  | .u64 x=>some (x.toNat,[])
  | .i _ n=>some (n.toNat,[fun _=>0<=n])
  | _=>none
theorem cnt_spec {y:SV}{n:Nat}{cs:List Cond}{w:World}(h:cnt y=some (n,cs))(hc:∀ c ∈ cs,c w):∃ k,y.val=.int k (n:Int):=by
  cases y <;> simp only[cnt,Option.some.injEq,Prod.mk.injEq,reduceCtorEq] at h <;> obtain⟨rfl,rfl⟩:=h
  all_goals first | exact⟨_,rfl⟩ | skip
  rename_i k n;simp only[A0d,forall_eq] at hc;exact⟨k,by rw[Int.toNat_of_nonneg hc];rfl⟩
def sh (op:BinOp)(x:SV)(n:Nat):Option SV :=
  match op,x with
  | .shl,.u8 a=>some (.u8 (shl8 a n))
  | .shl,.u16 a=>some (.u16 (shl16 a n))
  | .shl,.u32 a=>some (.u32 (shl32 a n))
  | .shl,.u64 a=>some (.u64 (zq a n))
  | .shl,.i k a=>some (.i k (shlI k a n))
  | .shr,.u8 a=>some (.u8 (shr8 a n))
  | .shr,.u16 a=>some (.u16 (shr16 a n))
  | .shr,.u32 a=>some (.u32 (Dc a n))
  | .shr,.u64 a=>some (.u64 (oU a n))
  | .shr,.i k a=>some (.i k (VT k a n))
  | _,_=>none
theorem sh_sound {P:Program}{w:World}{op:BinOp}{x r:SV}{yk:IntKind}{n:Nat}{t:TypeId}(h:sh op x n=some r):(binOp op t x.val (.int yk n)).run P w=.ok r.val w:=by
  unfold sh at h;split at h <;> simp only[Option.some.injEq,reduceCtorEq] at h <;> subst h
  ·exact Zc _ yk n
  ·exact XA _ yk n
  ·exact XC _ yk n
  ·exact XE _ yk n
  ·have h0:¬ ((n:Int) < 0):=by omega
   simp only[SV.val,binOp,Op.shift,h0,if_false,A0Z,Sem.run_pure,shlI]
  ·exact Zd _ yk n
  ·exact XB _ yk n
  ·exact XD _ yk n
  ·exact XF _ yk n
  ·have h0:¬ ((n:Int) < 0):=by omega
   simp only[SV.val,binOp,Op.shift,h0,if_false,A0Z,Sem.run_pure,VT]
def binS (op:BinOp)(a b:AC):Ans :=
  match op with
  | .add=>some (.s (a++b),[fun _=>a.length+b.length<=9223372036854775807])
  | .eql=>some (.b (decide (a=b)),[])
  | .neq=>some (.b (decide (a≠b)),[])
  | .lss=>some (.b (Op.bytesLess a b),[])
  | .gtr=>some (.b (!(Op.bytesLess a b||decide (a=b))),[])
  | .leq=>some (.b (Op.bytesLess a b||decide (a=b)),[])
  | .geq=>some (.b (!(Op.bytesLess a b)),[])
  | _=>none
theorem binS_sound {P:Program}{w:World}{op:BinOp}{a b:AC}{x:SV}{cs:List Cond}{t:TypeId}(h:binS op a b=some (x,cs))(hc:∀ c ∈ cs,c w) :
    (binOp op t (.string ⟨⟨a⟩⟩) (.string ⟨⟨b⟩⟩)).run P w=.ok x.val w:=by
  have ea:(ByteArray.mk ⟨a⟩).toList=a:=ByteArray.toList_mk a;have eb:(ByteArray.mk ⟨b⟩).toList=b:=ByteArray.toList_mk b;cases op <;> simp only[binS,Option.some.injEq,Prod.mk.injEq,reduceCtorEq] at h <;> obtain⟨rfl,rfl⟩:=h
  case add =>
    simp only[A0d,forall_eq] at hc;show(Op.stringOp .add _ _).run P w=_;have h1:=run_string_add_sum (P:=P) (w:=w) (ByteArray.mk a.toArray) (ByteArray.mk b.toArray) (by simpa [ByteArray.size] using hc);exact h1.trans (congrArg (fun z=>Result.ok (Value.string z) w) (ByteArray.mk_append_mk a b))
  all_goals
    simp only[binOp,Op.stringOp,ea,eb,SV.val,Sem.run_pure,Result.ok.injEq,and_true,Value.bool.injEq]
    try (rw[Bool.eq_iff_iff];simp)
section
variable {P:Program}{w:World}{t:TypeId}
theorem run_equalIn_bool (d:Nat)(ht:P.underlying t=some .bool)(a b:Bool):(Op.equalIn (d+1) t (.bool a) (.bool b)).run P w=.ok (a == b) w:=by
  simp only[Op.equalIn,Sem.run_bind,run_underlying ht,Result.andThen_ok,Sem.run_pure]
theorem run_equal_bool (ht:P.underlying t=some .bool)(a b:Bool):(Op.equal t (.bool a) (.bool b)).run P w=.ok (a == b) w:=run_equalIn_bool 9999 ht a b
theorem run_equalIn_slice_nil (d:Nat){e:TypeId}(ht:P.underlying t=some (.slice e))(p:EQ)(n c n' c':Nat):(Op.equalIn (d+1) t (.slice p n c) (.slice none n' c')).run P w=.ok p.isNone w:=by
  cases p <;> simp only[Op.equalIn,Sem.run_bind,run_underlying ht,Result.andThen_ok,Sem.run_pure] <;> rfl
theorem run_equal_slice_nil {e:TypeId}(ht:P.underlying t=some (.slice e))(p:EQ)(n c n' c':Nat):(Op.equal t (.slice p n c) (.slice none n' c')).run P w=.ok p.isNone w:=run_equalIn_slice_nil 9999 ht p n c n' c'
theorem NZ (d:Nat){e:TypeId}(ht:P.underlying t=some (.pointer e))(p:EQ):(Op.equalIn (d+1) t (.pointer p) (.pointer none)).run P w=.ok p.isNone w:=by
  cases p <;> simp only[Op.equalIn,Sem.run_bind,run_underlying ht,Result.andThen_ok,Sem.run_pure] <;> rfl
theorem run_equalIn_iface_nil (n:Nat){ms:Array (String×TypeId)}(ht:P.underlying t=some (.interface ms))(d:TypeId)(v:Value):(Op.equalIn (n+1) t (.iface d v) .nilIface).run P w=.ok false w:=by
  simp only[Op.equalIn,Sem.run_bind,run_underlying ht,Result.andThen_ok,Sem.run_pure]
theorem N7 {ms:Array (String×TypeId)}(ht:P.underlying t=some (.interface ms))(d:TypeId)(v:Value):(Op.equal t (.iface d v) .nilIface).run P w=.ok false w:=run_equalIn_iface_nil 9999 ht d v
theorem Lp (n:Nat){ps rs:Array TypeId}{vr:Bool}(ht:P.underlying t=some (.func ps rs vr))(f:Fn)(a b:Array Value):(Op.equalIn (n+1) t (.func f a b) .nilFunc).run P w=.ok false w:=by
  simp only[Op.equalIn,Sem.run_bind,run_underlying ht,Result.andThen_ok,Sem.run_pure]
theorem OC {ps rs:Array TypeId}{vr:Bool}(ht:P.underlying t=some (.func ps rs vr))(f:Fn)(a b:Array Value):(Op.equal t (.func f a b) .nilFunc).run P w=.ok false w:=Lp 9999 ht f a b
theorem run_equalIn_map_nil (n:Nat){k e:TypeId}(ht:P.underlying t=some (.map k e))(p:A03):(Op.equalIn (n+1) t (.map p) (.map none)).run P w=.ok p.isNone w:=by
  cases p <;> simp only[Op.equalIn,Sem.run_bind,run_underlying ht,Result.andThen_ok,Sem.run_pure] <;> rfl
theorem run_equal_map_nil {k e:TypeId}(ht:P.underlying t=some (.map k e))(p:A03):(Op.equal t (.map p) (.map none)).run P w=.ok p.isNone w:=run_equalIn_map_nil 9999 ht p
theorem PI {e:TypeId}(ht:P.underlying t=some (.pointer e))(p:EQ):(Op.equal t (.pointer p) (.pointer none)).run P w=.ok p.isNone w:=NZ 9999 ht p
end
def eqB (P:Program)(op:BinOp)(t:TypeId)(x y:SV):Option SV :=
  match P.underlying t,x,y with
  | some .bool,.b a,.b b=>match op with
    | .eql=>some (.b (decide (a=b)))
    | .neq=>some (.b (decide (a≠b)))
    | _=>none
  | some (.slice _),.v (.slice p _ _),.v (.slice none _ _)=>match op with
    | .eql=>some (.b p.isNone)
    | .neq=>some (.b p.isSome)
    | _=>none
  | some (.pointer _),.v (.pointer p),.v (.pointer none)=>match op with
    | .eql=>some (.b p.isNone)
    | .neq=>some (.b p.isSome)
    | _=>none
  | some (.interface _),.v (.iface _ _),.v .nilIface=>match op with
    | .eql=>some (.b false)
    | .neq=>some (.b true)
    | _=>none
  | some (.func _ _ _),.v (.func _ _ _),.v .nilFunc=>match op with
    | .eql=>some (.b false)
    | .neq=>some (.b true)
    | _=>none
  | some (.map _ _),.v (.map p),.v (.map none)=>match op with
    | .eql=>some (.b p.isNone)
    | .neq=>some (.b p.isSome)
    | _=>none
  | _,_,_=>none
theorem eqB_sound {P:Program}{w:World}{op:BinOp}{x y r:SV}{t:TypeId}(h:eqB P op t x y=some r) :
    (binOp op t x.val y.val).run P w=.ok r.val w:=by
  unfold eqB at h;split at h
  ·rename_i a b ht;split at h <;> simp only[Option.some.injEq,reduceCtorEq] at h <;> subst h
   all_goals
     simp only[SV.val,binOp,Sem.run_bind,run_equal_bool ht,Result.andThen_ok,Sem.run_pure,Result.ok.injEq,and_true,Value.bool.injEq]
     try (rw[Bool.eq_iff_iff];simp)
  ·rename_i ht;split at h <;> simp only[Option.some.injEq,reduceCtorEq] at h <;> subst h
   all_goals
     simp only[SV.val,binOp,Sem.run_bind,run_equal_slice_nil ht,Result.andThen_ok,Sem.run_pure,Result.ok.injEq,and_true,Value.bool.injEq]
     try (rw[Bool.eq_iff_iff];simp)
  ·rename_i ht;split at h <;> simp only[Option.some.injEq,reduceCtorEq] at h <;> subst h
   all_goals
     simp only[SV.val,binOp,Sem.run_bind,PI ht,Result.andThen_ok,Sem.run_pure,Result.ok.injEq,and_true,Value.bool.injEq]
     try (rw[Bool.eq_iff_iff];simp)
  ·rename_i ht;split at h <;> simp only[Option.some.injEq,reduceCtorEq] at h <;> subst h
   all_goals
     simp only[SV.val,binOp,Sem.run_bind,N7 ht,Result.andThen_ok,Sem.run_pure,Result.ok.injEq,and_true,Value.bool.injEq]
     try rfl
  ·rename_i ht;split at h <;> simp only[Option.some.injEq,reduceCtorEq] at h <;> subst h
   all_goals
     simp only[SV.val,binOp,Sem.run_bind,OC ht,Result.andThen_ok,Sem.run_pure,Result.ok.injEq,and_true,Value.bool.injEq]
     try rfl
  ·rename_i ht;split at h <;> simp only[Option.some.injEq,reduceCtorEq] at h <;> subst h
   all_goals
     simp only[SV.val,binOp,Sem.run_bind,run_equal_map_nil ht,Result.andThen_ok,Sem.run_pure,Result.ok.injEq,and_true,Value.bool.injEq]
     try (rw[Bool.eq_iff_iff];simp)
  ·cases h
def bin (P:Program)(op:BinOp)(t:TypeId)(x y:SV):Ans :=
  if op=.shl∨op=.shr then
    match cnt y with
    | some (n,cs)=>match sh op x n with
      | some r=>some (r,cs)
      | none=>none
    | none=>none
  else match x,y with
  | .i k a,.i k' b=>if k=k' then binI op k a b else none
  | .u8 a,.u8 b=>binU8 op a b
  | .u16 a,.u16 b=>binU16 op a b
  | .u32 a,.u32 b=>binU32 op a b
  | .u64 a,.u64 b=>binU64 op a b
  | .s a,.s b=>binS op a b
  | x,y=>(eqB P op t x y).map fun r=>(r,[])
theorem bin_sound {P:Program}{w:World}{op:BinOp}{x y r:SV}{cs:List Cond}{t:TypeId}(h:bin P op t x y=some (r,cs))(hc:∀ c ∈ cs,c w) :
    (binOp op t x.val y.val).run P w=.ok r.val w:=by
  unfold bin at h;split at h
  ·split at h
   ·rename_i n cs' hn;split at h
    ·rename_i r' hr;simp only[Option.some.injEq,Prod.mk.injEq] at h;obtain⟨rfl,rfl⟩:=h;obtain⟨k,hk⟩:=cnt_spec hn hc;rw[hk];exact sh_sound hr
    ·cases h
   ·cases h
  ·split at h
   ·split at h
    ·rename_i hk;subst hk;exact binI_sound h hc
    ·cases h
   ·exact Lm h hc
   ·exact JW h hc
   ·exact JX h hc
   ·exact JY h hc
   ·exact binS_sound h hc
   ·simp only[A0c,Prod.mk.injEq] at h;obtain⟨r',hr,rfl,rfl⟩:=h;exact eqB_sound hr
def un (op:UnOp)(x:SV):Option SV :=
  match op,x with
  | .not,.b a=>some (.b (!a))
  | .neg,.i k a=>some (.i k (k.wrap (0 - a)))
  | .neg,.u8 a=>some (.u8 (0 - a))
  | .neg,.u16 a=>some (.u16 (0 - a))
  | .neg,.u32 a=>some (.u32 (0 - a))
  | .neg,.u64 a=>some (.u64 (0 - a))
  | .xor,.i k a=>if k.signed then some (.i k (xorI k (-1) a)) else none
  | .xor,.u8 a=>some (.u8 (255^^^a))
  | .xor,.u16 a=>some (.u16 (65535^^^a))
  | .xor,.u32 a=>some (.u32 (4294967295^^^a))
  | .xor,.u64 a=>some (.u64 (18446744073709551615^^^a))
  | _,_=>none
theorem un_sound {P:Program}{w:World}{op:UnOp}{x r:SV}(h:un op x=some r):(Op.unary op x.val).run P w=.ok r.val w:=by
  unfold un at h;split at h <;> (try split at h) <;> simp only[Option.some.injEq,reduceCtorEq] at h <;> subst h
  ·rfl
  ·rfl
  ·exact Lm (P:=P) (w:=w) (op:=.sub) (a:=0) (t:=0) rfl (by simp)
  ·exact JW (P:=P) (w:=w) (op:=.sub) (a:=0) (t:=0) rfl (by simp)
  ·exact JX (P:=P) (w:=w) (op:=.sub) (a:=0) (t:=0) rfl (by simp)
  ·exact JY (P:=P) (w:=w) (op:=.sub) (a:=0) (t:=0) rfl (by simp)
  ·rename_i hk;simp only[SV.val,Op.unary,hk,if_true,Op.intBits,xorI,Sem.run_pure]
  ·exact Lm (P:=P) (w:=w) (op:=.xor) (a:=255) (t:=0) rfl (by simp)
  ·exact JW (P:=P) (w:=w) (op:=.xor) (a:=65535) (t:=0) rfl (by simp)
  ·exact JX (P:=P) (w:=w) (op:=.xor) (a:=4294967295) (t:=0) rfl (by simp)
  ·exact JY (P:=P) (w:=w) (op:=.xor) (a:=18446744073709551615) (t:=0) rfl (by simp)
def ofI (k:IntKind)(n:Int):SV :=
  match k with
  | .u8=>.u8 (UInt8.ofInt n)
  | .u16=>.u16 (UInt16.ofInt n)
  | .u32=>.u32 (UInt32.ofInt n)
  | .u64=>.u64 (UInt64.ofInt n)
  | k=>.i k (k.wrap n)
theorem ofI_val (k:IntKind)(n:Int):(ofI k n).val=.int k (k.wrap n):=by
  cases k <;> simp only[ofI,SV.val]
  ·rw[WC];congr 1;show((UInt8.ofNat (n % 2 ^ 8).toNat).toNat:Int)=_;simp;omega
  ·rw[Uf];congr 1;show((UInt16.ofNat (n % 2 ^ 16).toNat).toNat:Int)=_;simp;omega
  ·rw[Ug];congr 1;show((UInt32.ofNat (n % 2 ^ 32).toNat).toNat:Int)=_;simp;omega
  ·rw[Uh];congr 1;show((UInt64.ofNat (n % 2 ^ 64).toNat).toNat:Int)=_;simp;omega
def ofN (k:IntKind)(n:Nat):SV :=
  match k with
  | .u8=>.u8 (UInt8.ofNat n)
  | .u16=>.u16 (UInt16.ofNat n)
  | .u32=>.u32 (UInt32.ofNat n)
  | .u64=>.u64 (UInt64.ofNat n)
  | k=>.i k (k.wrap n)
theorem ofN_val (k:IntKind)(n:Nat):(ofN k n).val=.int k (k.wrap n):=by
  cases k <;> simp only[ofN,SV.val]
  ·rw[Ue];rfl
  ·rw[PE];rfl
  ·rw[PG];rfl
  ·rw[PH];rfl
theorem Ed {n:Nat}(h:n < 9223372036854775808):IntKind.i64.wrap (n:Int)=n:=by
  simp only[IntKind.wrap,IntKind.bits,IntKind.signed];simp;omega
def cvI (k:IntKind)(x:SV):Option SV :=
  match k,x with
  | .i64,.u8 a=>some (.i .i64 a.toNat)
  | .i64,.u16 a=>some (.i .i64 a.toNat)
  | .i64,.u32 a=>some (.i .i64 a.toNat)
  | k,.u8 a=>some (ofN k a.toNat)
  | k,.u16 a=>some (ofN k a.toNat)
  | k,.u32 a=>some (ofN k a.toNat)
  | k,.u64 a=>some (ofN k a.toNat)
  | k,.i _ n=>some (ofI k n)
  | _,_=>none
theorem cvI_sound {P:Program}{w:World}{k:IntKind}{x r:SV}(h:cvI k x=some r):∃ k' n,x.val=.int k' n/\(Conv.intToInt k n).run P w=.ok r.val w:=by
  unfold cvI at h;split at h <;> simp only[Option.some.injEq,reduceCtorEq] at h <;> subst h
  ·rename_i a;exact⟨_,_,rfl,congrArg (fun z=>Result.ok (Value.int .i64 z) w) (Ed (by have:=a.toNat_lt;omega))⟩
  ·rename_i a;exact⟨_,_,rfl,congrArg (fun z=>Result.ok (Value.int .i64 z) w) (Ed (by have:=a.toNat_lt;omega))⟩
  ·rename_i a;exact⟨_,_,rfl,congrArg (fun z=>Result.ok (Value.int .i64 z) w) (Ed (by have:=a.toNat_lt;omega))⟩
  all_goals first
    | exact⟨_,_,rfl,congrArg (fun z=>Result.ok z w) (ofN_val _ _).symm⟩
    | exact⟨_,_,rfl,congrArg (fun z=>Result.ok z w) (ofI_val _ _).symm⟩
end
section
def lh (p:EQ)(i:Int)(size:Nat):EQ:=p.map (·.add (i.toNat*size))
def fa (p:EQ)(off:Nat):EQ:=p.map (·.add off)
def Oj (p:EQ)(l m size:Nat):EQ:=if m=l then p else p.map (·.add (l*size))
def bV (x:UInt8):Value:=.int .u8 x.toNat
def Rd (w:World)(p:EQ)(cs:List Value):Prop :=
  (cs≠[]->∃ a,p=some a)/\∀ a j u,p=some a->cs[j]?=some u->w.cell? (a.add j)=some u
def toI:SV->A06
  | .u8 x=>some x.toNat
  | .u16 x=>some x.toNat
  | .u32 x=>some x.toNat
  | .u64 x=>some x.toNat
  | .i _ n=>some n
  | _=>none
theorem toI_spec {x:SV}{n:Int}(h:toI x=some n):∃ k,x.val=.int k n:=by
  cases x <;> simp only[toI,Option.some.injEq,reduceCtorEq] at h <;> subst h <;> exact⟨_,rfl⟩
theorem Cf {P:Program}{t:TypeId}{i:TypeInfo}(h:P.info? t=some i)(w:World):(sizeOf t).run P w=.ok i.size w:=by
  simp[sizeOf,typeInfo,h]
def D9 (P:Program)(t:TypeId):A03:=(P.info? t).map (·.size)
theorem wE {P:Program}{t:TypeId}{n:Nat}(h:D9 P t=some n)(w:World):(sizeOf t).run P w=.ok n w:=by
  unfold D9 at h;cases hi:P.info? t with
  | none=>simp[hi] at h
  | some i=>simp[hi] at h;subst h;exact Cf hi w
structure Sl where
  l:Nat
  h:Nat
  m:Nat
  cs:List Cond
def bnd (v:Int)(y:Nat):List Cond:=[fun _=>0<=v/\v<=y]
def slB (n cap:Nat)(lo hi mx:A06):Sl :=
  let m:=match mx with | some v=>v.toNat | none=>cap
  let h:=match hi with | some v=>v.toNat | none=>n
  let l:=match lo with | some v=>v.toNat | none=>0
  { l,h,m,cs:=(match mx with | some v=>bnd v cap | none=>[])++(match hi with | some v=>bnd v m | none=>[])++(match lo with | some v=>bnd v h | none=>[]) }
theorem Ah {P:Program}{w:World}{x:Value}{k:IntKind}{v:Int}{y:Nat}{code:BoundsCode}(hx:x=.int k v)(h:0<=v/\v<=y):(Instr.sliceBound x y code).run P w=.ok v.toNat w:=by
  subst hx;simp[Instr.sliceBound,asIntOf,h]
def oI:Option SV->Option A06
  | none=>some none
  | some x=>(toI x).map some
theorem OD {P:Program}{w:World}{isS:Bool}{n cap:Nat}{lo hi mx:Option SV}{lo' hi' mx':A06}(h1:oI lo=some lo')(h2:oI hi=some hi')(h3:oI mx=some mx')(h0:mx.isSome->hi.isSome)
    (hc:∀ c ∈ (slB n cap lo' hi' mx').cs,c w) :
    (Instr.sliceBounds isS n cap (lo.map SV.val) (hi.map SV.val) (mx.map SV.val)).run P w=.ok ((slB n cap lo' hi' mx').l,(slB n cap lo' hi' mx').h,(slB n cap lo' hi' mx').m) w:=by
  have key:∀ {o:Option SV} {o':A06},oI o=some o'->(o=none/\o'=none)∨∃ x v k,o=some x/\o'=some v/\x.val=.int k v:=by
    intro o o' h;cases o with
    | none=>simp[oI] at h;exact .inl ⟨rfl,h.symm⟩
    | some x =>
      simp only[oI,A0c] at h;obtain⟨v,hv,rfl⟩:=h;obtain⟨k,hk⟩:=toI_spec hv;exact .inr ⟨x,v,k,rfl,rfl,hk⟩
  unfold Instr.sliceBounds;rcases key h3 with⟨rfl,rfl⟩ | ⟨xm,vm,km,rfl,rfl,em⟩ <;> rcases key h2 with⟨rfl,rfl⟩ | ⟨xh,vh,kh,rfl,rfl,eh⟩ <;> rcases key h1 with⟨rfl,rfl⟩ | ⟨xl,vl,kl,rfl,rfl,el⟩
  all_goals (try (simp at h0;done))
  ·simp[slB]
  ·have e1:0<=vl/\vl<=(n:Nat):=hc (fun _=>0<=vl/\vl<=(n:Nat)) (by simp[slB,bnd]);simp[slB,Ah el e1]
  ·have e1:0<=vh/\vh<=(cap:Nat):=hc (fun _=>0<=vh/\vh<=(cap:Nat)) (by simp[slB,bnd]);simp[slB,Ah eh e1]
  ·have e1:0<=vh/\vh<=(cap:Nat):=hc (fun _=>0<=vh/\vh<=(cap:Nat)) (List.mem_append_left _ (by simp[bnd]));have e2:0<=vl/\vl<=(vh.toNat:Nat):=hc (fun _=>0<=vl/\vl<=(vh.toNat:Nat)) (List.mem_append_right _ (by simp[bnd]));simp only[slB,Option.map_none,Option.map_some,Sem.run_bind,Sem.run_pure,Result.andThen_ok,Ah eh e1,Ah el e2]
  ·have e1:0<=vm/\vm<=(cap:Nat):=hc (fun _=>0<=vm/\vm<=(cap:Nat)) (List.mem_append_left _ (List.mem_append_left _ (by simp[bnd])));have e2:0<=vh/\vh<=(vm.toNat:Nat):=hc (fun _=>0<=vh/\vh<=(vm.toNat:Nat)) (List.mem_append_left _ (List.mem_append_right _ (by simp[bnd])));simp only[slB,Option.map_none,Option.map_some,Sem.run_bind,Sem.run_pure,Result.andThen_ok,Ah em e1,Ah eh e2]
  ·have e1:0<=vm/\vm<=(cap:Nat):=hc (fun _=>0<=vm/\vm<=(cap:Nat)) (List.mem_append_left _ (List.mem_append_left _ (by simp[bnd])));have e2:0<=vh/\vh<=(vm.toNat:Nat):=hc (fun _=>0<=vh/\vh<=(vm.toNat:Nat)) (List.mem_append_left _ (List.mem_append_right _ (by simp[bnd])));have e3:0<=vl/\vl<=(vh.toNat:Nat):=hc (fun _=>0<=vl/\vl<=(vh.toNat:Nat)) (List.mem_append_right _ (by simp[bnd]));simp only[slB,Option.map_none,Option.map_some,Sem.run_bind,Sem.run_pure,Result.andThen_ok,Ah em e1,Ah eh e2,Ah el e3]
def cellsS:SV->Option (List SV)
  | .agg xs=>some xs
  | .vec n x=>some [.vec n x]
  | .v (.agg _)=>none
  | .qA _=>none
  | x=>some [x]
theorem Lr {x:SV}{l:List SV}(h:cellsS x=some l):x.val.cells=⟨SV.cl l⟩:=by
  unfold cellsS at h;split at h <;> simp only[Option.some.injEq,reduceCtorEq] at h <;> subst h
  ·rfl
  ·simp only[SV.val,SV.cl,Value.cells,List.append_nil]
  ·rename_i h1 h2 h3 h4;cases x <;> simp only[SV.val,SV.cl,Value.cells] <;> try rfl
   all_goals first
     | exact absurd rfl (h1 _)
     | exact absurd rfl (h2 _ _)
     | exact absurd rfl (h4 _)
     | skip
   rename_i v;cases v <;> first | rfl | exact absurd rfl (h3 _)
def PK (place:Nat->Option (Nat×Nat))(cells:List SV):List (Nat×SV)->Option (List SV)
  | []=>some cells
  | (i,v)::rest =>
    match place i,cellsS v with
    | some (off,size),some l=>match putS off size l cells with
      | some cells'=>PK place cells' rest
      | none=>none
    | _,_=>none
theorem foldSet:∀ (l:List Value)(off:Nat)(cells:List Value),off+l.length<=cells.length ->
    (l.zipIdx).foldl (fun(cs:Array Value) (p:Value×Nat)=>cs.setIfInBounds (off+p.2) p.1) ⟨cells⟩=⟨cells.take off++l++cells.drop (off+l.length)⟩:=by
  intro l
  induction l with
  | nil=>intro off cells h;simp
  | cons x xs ih =>
    intro off cells h;simp only[bi] at h;have e:=ih (off+1) (cells.set off x) (by simp;omega);rw[List.zipIdx_cons,List.foldl_cons,List.zipIdx_succ,List.foldl_map];have e0:(⟨cells⟩:Array Value).setIfInBounds (off+(x,0).2) (x,0).1=⟨cells.set off x⟩:=by simp
    rw[e0];have e1:(fun(cs:Array Value) (p:Value×Nat)=>cs.setIfInBounds (off+(p.1,p.2+1).2) (p.1,p.2+1).1)=fun(cs:Array Value) (p:Value×Nat)=>cs.setIfInBounds (off+1+p.2) p.1:=by
      funext cs p;show cs.setIfInBounds (off+(p.2+1)) p.1=_;rw[show off+(p.2+1)=off+1+p.2 from by omega]
    rw[e1,e];congr 1;have h2:off < cells.length:=by omega
    rw[List.take_set,List.take_succ_eq_append_getElem h2];rw[List.set_append_right _ _ (by simp;omega)];rw[List.drop_set_of_lt (by omega)];simp[Nat.min_eq_left (Nat.le_of_lt h2),Nat.add_assoc,Nat.add_comm 1]
theorem OE {place:Nat->Option (Nat×Nat)}(parts:List (Nat×SV)):∀ (cells r:List SV),PK place cells parts=some r ->
    Instr.fill place ⟨SV.cl cells⟩ (parts.map fun p=>(p.1,p.2.val))=some ⟨SV.cl r⟩:=by
  induction parts with
  | nil=>intro cells r h;simp only[PK,Option.some.injEq] at h;subst h;rfl
  | cons p rest ih =>
    intro cells r h;obtain⟨i,v⟩:=p;simp only[PK] at h;split at h
    ·rename_i off size l hp hl;split at h
     ·rename_i cells' hput;obtain⟨e1,e2,e3,e4⟩:=WB hput;have hv:=Lr hl;have hlen:(SV.cl l).length=size:=by rw[jg];exact e3
      have hlc:(SV.cl cells).length=SV.width cells:=jg _;simp only[kw,Instr.fill,hp,hv];rw[if_neg (by simp[hlen,hlc];omega)];have:=foldSet (SV.cl l) off (SV.cl cells) (by rw[hlen,hlc];exact e4);have e:Array.foldl (fun cs (x:Value×Nat)=>cs.setIfInBounds (off+x.2) x.1) (⟨SV.cl cells⟩:Array Value) (Array.zipIdx ⟨SV.cl l⟩)=⟨SV.cl cells'⟩:=by
        rw[e1,<-hlen,<-this];simp[Array.foldl_toList]
      exact(congrArg (fun z=>Instr.fill place z _) e).trans (ih _ _ h)
     ·cases h
    ·cases h
def QY (P:Program)(t:TypeId):Option Bool :=
  match P.underlying t with
  | some (.struct _) | some (.array _ _)=>some true
  | some _=>some false
  | none=>none
theorem zt {P:Program}{t:TypeId}{b:Bool}(h:QY P t=some b)(w:World):(isAgg t).run P w=.ok b w:=by
  unfold QY at h;cases hu:P.underlying t with
  | none=>simp[hu] at h
  | some d=>cases d <;> simp[hu] at h <;> subst h <;> simp[isAgg,run_underlying hu]
def Ze (P:Program)(t:TypeId)(xs:List SV)(off:Nat):Option SV :=
  match QY P t,D9 P t with
  | some true,some n=>(QX off n xs).map .agg
  | some false,_=>cellS off xs
  | _,_=>none
theorem Lt {P:Program}{w:World}{t:TypeId}{xs:List SV}{off:Nat}{r:SV}(h:Ze P t xs off=some r):(part t ⟨SV.cl xs⟩ off).run P w=.ok r.val w:=by
  unfold Ze at h;split at h
  ·rename_i n ha hs;simp only[A0c] at h;obtain⟨ys,hy,rfl⟩:=h;obtain⟨e1,e2,e3⟩:=SC hy;simp only[part,Sem.run_bind,zt ha,wE hs,Result.andThen_ok,if_true,Sem.run_pure,SV.val];congr 2;rw[<- e1];simp[List.drop_take]
  ·rename_i ha;have h':=(Uc h).1;simp only[part,Sem.run_bind,zt ha,Result.andThen_ok];simp[h']
  ·cases h
def toSS:List Operand->(Operand->Option SV)->Option (List SV)
  | [],_=>some []
  | o::os,f=>match f o,toSS os f with
    | some x,some xs=>some (x::xs)
    | _,_=>none
theorem toSS_spec {os:List Operand}{f:Operand->Option SV}{ρ:Operand->Value}(hf:∀ o x,f o=some x->ρ o=x.val):∀ {xs:List SV},toSS os f=some xs->os.map ρ=SV.vals xs:=by
  induction os with
  | nil=>intro xs h;simp only[toSS,Option.some.injEq] at h;subst h;rfl
  | cons o os ih =>
    intro xs h;simp only[toSS] at h;split at h
    ·rename_i x xs' hx hxs;simp only[Option.some.injEq] at h;subst h;simp only[kw,SV.vals,hf _ _ hx,ih hxs]
    ·cases h
def toPS:List (Nat×Operand)->(Operand->Option SV)->Option (List (Nat×SV))
  | [],_=>some []
  | (i,o)::os,f=>match f o,toPS os f with
    | some x,some xs=>some ((i,x)::xs)
    | _,_=>none
theorem toPS_spec {os:List (Nat×Operand)}{f:Operand->Option SV}{ρ:Operand->Value}(hf:∀ o x,f o=some x->ρ o=x.val):∀ {xs:List (Nat×SV)},toPS os f=some xs->os.map (fun p=>(p.1,ρ p.2))=xs.map (fun p=>(p.1,p.2.val)):=by
  induction os with
  | nil=>intro xs h;simp only[toPS,Option.some.injEq] at h;subst h;rfl
  | cons o os ih =>
    intro xs h;obtain⟨i,o⟩:=o;simp only[toPS] at h;split at h
    ·rename_i x xs' hx hxs;simp only[Option.some.injEq] at h;subst h;simp only[kw,hf _ _ hx,ih hxs]
    ·cases h
def zeroS (P:Program)(t:TypeId):Option (List SV) :=
  match(P.info? t).bind (·.zero) with
  | some z=>some (z.cells.toList.map OB)
  | none=>none
theorem OH {P:Program}{t:TypeId}{l:List SV}(h:zeroS P t=some l)(w:World):∃ z,(zeroValue t).run P w=.ok z w/\z.cells=⟨SV.cl l⟩:=by
  unfold zeroS at h;split at h
  ·rename_i z hz;simp only[Option.some.injEq] at h;subst h;cases hi:P.info? t with
   | none=>simp[hi] at hz
   | some i =>
     simp only[hi,A0o] at hz;refine⟨z,by simp[zeroValue,typeInfo,hi,hz],?_⟩;rw[Xz]
  ·cases h
def places (P:Program)(fs:List Field):Option (List (Nat×Nat)) :=
  match fs with
  | []=>some []
  | f::fs=>match D9 P f.type,places P fs with
    | some n,some l=>some ((f.offset,n)::l)
    | _,_=>none
theorem places_run {P:Program}(w:World):∀ (fs:List Field) (l:List (Nat×Nat)),places P fs=some l->(fs.mapM fun f=>(do pure (f.offset,<-sizeOf f.type):Sem (Nat×Nat))).run P w=.ok l w:=by
  intro fs
  induction fs with
  | nil=>intro l h;simp only[places,Option.some.injEq] at h;subst h;rfl
  | cons f fs ih =>
    intro l h;simp only[places] at h;split at h
    ·rename_i n l' hn hl;simp only[Option.some.injEq] at h;subst h;simp only[List.mapM_cons,Sem.run_bind,wE hn,Result.andThen_ok,Sem.run_pure,ih _ hl]
    ·cases h
def buildS (P:Program)(t:TypeId)(ps:List (Nat×SV)):Option SV :=
  match zeroS P t,P.underlying t with
  | some z,some (.struct fs)=>match places P fs.toList with
    | some pl=>(PK (fun i=>pl[i]?) z ps).map .agg
    | none=>none
  | some z,some (.array _ e)=>match D9 P e with
    | some n=>(PK (fun i=>some (i*n,n)) z ps).map .agg
    | none=>none
  | _,_=>none
theorem XG {P:Program}{w:World}{t:TypeId}{ps:List (Nat×SV)}{r:SV}(h:buildS P t ps=some r):(Instr.build t ⟨ps.map fun p=>(p.1,p.2.val)⟩).run P w=.ok r.val w:=by
  unfold buildS at h;split at h
  ·rename_i z fs hz ht;split at h
   ·rename_i pl hpl;simp only[A0c] at h;obtain⟨l,hl,rfl⟩:=h;obtain⟨zv,hz1,hz2⟩:=OH hz w;have hp:=places_run w _ _ hpl;have hm:(fs.mapM fun f=>(do pure (f.offset,<-sizeOf f.type):Sem (Nat×Nat))).run P w=.ok pl.toArray w:=by
      rw[Array.mapM_eq_mapM_toList,Sem.run_map,hp];rfl
    have hf:=OE ps z l hl;simp only[Instr.build,Sem.run_bind,hz1,Result.andThen_ok,run_underlying ht,hm,hz2];have e:(fun x:Nat=>(pl.toArray)[x]?)=fun i=>pl[i]?:=by funext i;simp
    simp only[e,hf,Sem.run_pure,SV.val]
   ·cases h
  ·rename_i z n e hz ht;split at h
   ·rename_i sz hsz;simp only[A0c] at h;obtain⟨l,hl,rfl⟩:=h;obtain⟨zv,hz1,hz2⟩:=OH hz w;have hf:=OE ps z l hl;simp only[Instr.build,Sem.run_bind,hz1,Result.andThen_ok,run_underlying ht,wE hsz,hz2];simp only[hf,Sem.run_pure,SV.val]
   ·cases h
  ·cases h
theorem XH {P:Program}{w:World}{p:EQ}{n c:Nat}{xs:AC}(h:Rd w p (xs.map bV))(hn:xs.length=n):(Conv.bytesToString (.slice p n c)).run P w=.ok (.string ⟨⟨xs⟩⟩) w:=by
  cases p with
  | none =>
    have:xs=[]:=by
      rcases xs with _ | ⟨x,xs⟩
      ·rfl
      ·obtain⟨a,ha⟩:=h.1 (by simp);cases ha
    subst this;rfl
  | some a =>
    have h1:=run_loadCells_list (P:=P) (w:=w) a (xs.map bV) (fun j v hv=>h.2 a j v rfl hv);have this:=run_bytesToString (P:=P) w a n c (xs.map fun x=>(x.toNat:Int)) (by
      rw[show n=(xs.map bV).length from by simp[hn],h1,List.map_map];rfl)
    rw[this];have e:∀ (l:AC) (b:ByteArray),((l.map fun x=>(x.toNat:Int))).foldl (fun r n=>r.push (UInt8.ofNat n.toNat)) b=⟨b.data++l.toArray⟩:=by
      intro l
      induction l with
      | nil=>intro b;simp
      | cons x l ih=>intro b;rw[kw,List.foldl_cons,ih];simp[ByteArray.push]
    rw[e];simp
def eqCell (P:Program)(t:TypeId)(x y:SV):Option Bool :=
  match P.underlying t,x,y with
  | some .bool,.b a,.b b=>some (decide (a=b))
  | some (.int _),.i k a,.i k' b=>if k=k' then some (decide (a=b)) else none
  | some (.int _),.u8 a,.u8 b=>some (decide (a=b))
  | some (.int _),.u16 a,.u16 b=>some (decide (a=b))
  | some (.int _),.u32 a,.u32 b=>some (decide (a=b))
  | some (.int _),.u64 a,.u64 b=>some (decide (a=b))
  | some .string,.s a,.s b=>some (decide (a=b))
  | _,_,_=>none
theorem XI {a b:Int}{p:Prop}[Decidable p](h:a=b ↔ p):(a == b)=decide p:=by
  by_cases hp:p
  ·simp[hp,h.2 hp]
  ·simp only[hp,decide_false,beq_eq_false_iff_ne,ne_eq];exact fun e=>hp (h.1 e)
theorem XJ {P:Program}{w:World}{t:TypeId}{x y:SV}{r:Bool}(d:Nat)(h:eqCell P t x y=some r):(Op.equalIn (d+1) t x.val y.val).run P w=.ok r w:=by
  unfold eqCell at h;split at h
  ·rename_i a b ht;cases h;simp only[SV.val];rw[run_equalIn_bool' w d t a b ht];congr 1
  ·rename_i ht;split at h
   ·rename_i hk;cases h;subst hk;simp only[SV.val];rw[run_equalIn_int w d t _ _ _ _ ht];congr 1
   ·cases h
  ·rename_i a b ht;cases h;simp only[SV.val];rw[run_equalIn_int w d t _ _ _ _ ht];congr 1;exact XI (by rw[<- UInt8.toNat_inj];omega)
  ·rename_i a b ht;cases h;simp only[SV.val];rw[run_equalIn_int w d t _ _ _ _ ht];congr 1;exact XI (by rw[<- UInt16.toNat_inj];omega)
  ·rename_i a b ht;cases h;simp only[SV.val];rw[run_equalIn_int w d t _ _ _ _ ht];congr 1;exact XI (by rw[<- UInt32.toNat_inj];omega)
  ·rename_i a b ht;cases h;simp only[SV.val];rw[run_equalIn_int w d t _ _ _ _ ht];congr 1;exact XI (by rw[<- UInt64.toNat_inj];omega)
  ·rename_i a b ht;cases h;simp only[SV.val];rw[run_equalIn_string w d t _ _ ht];congr 1;rw[ByteArray.toList_eq,ByteArray.toList_eq];by_cases hab:a=b
   ·simp[hab]
   ·simp[hab]
  ·cases h
def eqFs (P:Program)(xs ys:List SV):List Field->Option Bool
  | []=>some true
  | f :: fs => if f.name = "_" then none else
    match Ze P f.type xs f.offset,Ze P f.type ys f.offset with
    | some a,some b=>match eqCell P f.type a b,eqFs P xs ys fs with
      | some r,some r'=>some (r&&r')
      | _,_=>none
    | _,_=>none
theorem Ui {P:Program}{w:World}{xs ys:List SV}(d:Nat):∀ (fs:List Field) (r:Bool),eqFs P xs ys fs=some r->(Op.eqFields (d+1) ⟨SV.cl xs⟩ ⟨SV.cl ys⟩ fs).run P w=.ok r w:=by
  intro fs
  induction fs with
  | nil=>intro r h;cases h;simp[Op.eqFields]
  | cons f fs ih =>
    intro r h;unfold eqFs at h;split at h
    ·cases h
    ·rename_i hn;split at h
     ·rename_i a b ha hb;split at h
      ·rename_i r1 r2 h1 h2;cases h;simp only[Op.eqFields,hn,ne_eq,not_false_eq_true,if_true,Sem.run_bind,Lt ha,Lt hb,XJ d h1,Result.andThen_ok];cases r1
       ·simp
       ·simpa using ih r2 h2
      ·cases h
     ·cases h
def eqS (P:Program)(op:BinOp)(t:TypeId)(xs ys:List SV):Option SV :=
  match P.underlying t with
  | some (.struct fs)=>if P.stoodInHeld t||P.eqGuardType P.depth t then none else
    match op with
    | .eql=>(eqFs P xs ys fs.toList).map fun r=>.b r
    | .neq=>(eqFs P xs ys fs.toList).map fun r=>.b (!r)
    | _=>none
  | _=>none
theorem WE {P:Program}{w:World}{op:BinOp}{t:TypeId}{xs ys:List SV}{r:SV}(h:eqS P op t xs ys=some r)(x y:Operand) :
    (eqGuard op t x y (SV.agg xs).val (SV.agg ys).val).run P w=.ok () w/\(binOp op t (SV.agg xs).val (SV.agg ys).val).run P w=.ok r.val w:=by
  unfold eqS at h;split at h
  ·rename_i fs ht;split at h
   ·cases h
   ·rename_i hs;simp only[Bool.or_eq_true,not_or,Bool.not_eq_true] at hs;have hf:P.fieldsOf t=fs:=by simp[Program.fieldsOf,ht]
    have ht':P.underlying t=some (.struct (P.fieldsOf t)):=by rw[hf];exact ht
    split at h
    ·simp only[A0c] at h;obtain⟨b,hb,rfl⟩:=h;refine⟨run_eqGuard_agg w _ _ _ _ _ _ hs.2,?_⟩;simp only[SV.val];rw[run_eql_struct,run_equalIn_struct w 9999 t _ _ ht' hs.1,hf,Ui 9998 _ _ hb];rfl
    ·simp only[A0c] at h;obtain⟨b,hb,rfl⟩:=h;refine⟨run_eqGuard_agg w _ _ _ _ _ _ hs.2,?_⟩;simp only[SV.val];rw[run_neq_struct,run_equalIn_struct w 9999 t _ _ ht' hs.1,hf,Ui 9998 _ _ hb];rfl
    ·cases h
  ·cases h
def XK (P:Program)(f:Operand->Option SV)(os:List SV)(op:Op):Option (SV×List Cond×List SV) :=
  match op with
  | .move x | .assign x=>(f x).map fun r=>(r,[],os)
  | .binOp op t x y _=>match f x,f y with
    | some (.agg xs),some (.agg ys)=>(eqS P op t xs ys).map fun r=>(r,[],os)
    | some a,some b=>(bin P op t a b).map fun r=>(r.1,r.2,os)
    | _,_=>none
  | .unOp op _ x=>match f x with
    | some a=>(un op a).map fun r=>(r,[],os)
    | none=>none
  | .convert src dst x=>match P.underlying src,P.underlying dst,f x with
    | some _,some (.int k),some a=>(cvI k a).map fun r=>(r,[],os)
    | some .string,some .string,some (.s a)=>some (.s a,[],os)
    | some (.slice e),some .string,some (.v (.slice p n _))=>match P.underlying e,os with
      | some (.int .u8),.s xs::os=>some (.s xs,[fun w=>Rd w p (xs.map bV)/\xs.length=n],os)
      | _,_=>none
    | _,_,_=>none
  | .extract x ix=>match f x with
    | some (.qA xs)=>(xs[ix]?).map fun r=>(r,[],os)
    | _=>none
  | .call { callee:=.builtin .len,args,argTypes }=>match argTypes.toList,args.toList with
    | [t],[x]=>match P.underlying t,f x with
      | some .string,some (.s a)=>some (.i .i64 a.length,[],os)
      | some (.slice _),some (.v (.slice _ n _))=>some (.i .i64 n,[],os)
      | some (.array n _),some _=>some (.i .i64 n,[],os)
      | some (.pointer t'),some _=>match P.underlying t' with
        | some (.array n _)=>some (.i .i64 n,[],os)
        | _=>none
      | _,_=>none
    | _,_=>none
  | .call { callee:=.builtin .min,args,.. }=>match args.toList with
    | [x,y]=>match f x,f y with
      | some (.i k a),some (.i k' b)=>if k=k' then some (.i k (if b < a then b else a),[],os) else none
      | some (.u64 a),some (.u64 b)=>some (.u64 (umin a b),[],os)
      | _,_=>none
    | _=>none
  | .call { callee:=.builtin .max,args,.. }=>match args.toList with
    | [x,y]=>match f x,f y with
      | some (.i k a),some (.i k' b)=>if k=k' then some (.i k (if b > a then b else a),[],os) else none
      | _,_=>none
    | _=>none
  | .index t x ix=>match P.underlying t,f x,(f ix).bind toI,os with
    | some .string,some (.s a),some i,.u8 b::os=>some (.u8 b,[fun _=>0<=i/\a[i.toNat]?=some b],os)
    | some (.array n e),some (.agg xs),some i,r::os=>match QY P e,D9 P e,r with
      | some false,some s,r=>some (r,[fun _=>(0<=i/\i < n)/\(SV.cl xs)[i.toNat*s]?=some r.val],os)
      | some true,some s,.agg ys=>some (.agg ys,[fun _=>(0<=i/\i < n)/\((SV.cl xs).drop (i.toNat*s)).take s=SV.cl ys],os)
      | _,_,_=>none
    | _,_,_,_=>none
  | .indexAddr t x ix=>match P.underlying t,f x,(f ix).bind toI with
    | some (.slice e),some (.v (.slice p n _)),some i=>(D9 P e).map fun s=>(.v (.pointer (lh p i s)),[fun _=>0<=i/\i < n/\p.isSome=true],os)
    | some (.array n e),some (.v (.pointer p)),some i=>if n<=1 then none else(D9 P e).map fun s=>(.v (.pointer (lh p i s)),[fun _=>0<=i/\i < n/\p.isSome=true],os)
    | _,_,_=>none
  | .fieldAddr t x fd=>match P.underlying t,f x with
    | some (.struct fs),some (.v (.pointer p))=>match fs[fd]? with
      | some fl=>match D9 P fl.type with
        | some (_+1)=>some (.v (.pointer (fa p fl.offset)),[fun _=>p.isSome=true],os)
        | _=>none
      | none=>none
    | _,_=>none
  | .nilCheck x=>match f x with
    | some (.v (.pointer p))=>some (.v (.pointer p),[fun _=>p.isSome=true],os)
    | some (.v (.iface d v))=>some (.v (.iface d v),[],os)
    | some (.v (.func (.func g) a b))=>some (.v (.func (.func g) a b),[],os)
    | _=>none
  | .load t x=>match QY P t,f x,os with
    | some false,some (.v (.pointer p)),r::os=>some (r,[fun w=>∃ a,p=some a/\w.cell? a=some r.val],os)
    | some true,some (.v (.pointer p)),.agg xs::os=>if D9 P t=some (SV.width xs) then some (.agg xs,[fun w=>∃ a,p=some a/\Rd w (some a) (SV.cl xs)],os) else none
    | _,_,_=>none
  | .slice t x lo hi mx=>match P.underlying t,f x,oO f lo,oO f hi,oO f mx with
    | some .string,some (.s a),some lo,some hi,some none=>match os with
      | .s r::os =>
        let b:=slB a.length a.length lo hi none
        some (.s r,b.cs++([fun _=>(a.take b.h).drop b.l=r]:List Cond),os)
      | _=>none
    | some (.slice e),some (.v (.slice p n c)),some lo,some hi,some mx=>if mx.isSome&&!hi.isSome then none else match D9 P e,os with
      | some s,.v r::os =>
        let b:=slB n c lo hi mx
        some (.v r,b.cs++([fun _=>Value.slice (Oj p b.l b.m s) (b.h - b.l) (b.m - b.l)=r]:List Cond),os)
      | _,_=>none
    | some (.array n e),some (.v (.pointer p)),some lo,some hi,some mx=>if mx.isSome&&!hi.isSome then none else match D9 P e,os with
      | some s,.v r::os =>
        let b:=slB n n lo hi mx
        some (.v r,b.cs++([fun _=>p.isSome=true/\Value.slice (Oj p b.l b.m s) (b.h - b.l) (b.m - b.l)=r]:List Cond),os)
      | _,_=>none
    | _,_,_,_,_=>none
  | .field t x fd=>match P.underlying t,f x with
    | some (.struct fs),some (.agg xs)=>match fs[fd]? with
      | some fl=>(Ze P fl.type xs fl.offset).map fun r=>(r,[],os)
      | none=>none
    | _,_=>none
  | .build t parts=>match toPS parts.toList f with
    | some ps=>(buildS P t ps).map fun r=>(r,[],os)
    | none=>none
  | .makeInterface t x=>match P.underlying t,f x with
    | some (.interface _),_=>none
    | some _,some a=>some (.v (.iface t a.val),[],os)
    | _,_=>none
  | .makeFunc fn first captured=>match toSS first.toList f,toSS captured.toList f with
    | some xs,some ys=>some (.v (.func fn ⟨SV.vals xs⟩ ⟨SV.vals ys⟩),[],os)
    | _,_=>none
  | _=>none
where
  oO (f:Operand->Option SV):Option Operand->Option A06
    | none=>some none
    | some x=>match f x with
      | some a=>(toI a).map some
      | none=>none
theorem Gj {f:Operand->Option SV}{ρ:Operand->Value}(hf:∀ o x,f o=some x->ρ o=x.val){o:Option Operand}{r:A06}(h:XK.oO f o=some r):∃ s:Option SV,oI s=some r/\o.map ρ=s.map SV.val/\s.isSome=r.isSome:=by
  cases o with
  | none=>simp only[XK.oO,Option.some.injEq] at h;subst h;exact⟨none,rfl,rfl,rfl⟩
  | some x =>
    simp only[XK.oO] at h;split at h
    ·rename_i a ha;refine⟨some a,h,by simp[hf _ _ ha],?_⟩;simp only[A0c] at h;obtain⟨z,_,rfl⟩:=h;rfl
    ·cases h
theorem VU {P:Program}{w:World}{op:BinOp}{t:TypeId}{x y:Operand}{a b:Value}(h1:a≠.nilIface)(h2:∀ xs,a≠.agg xs):(eqGuard op t x y a b).run P w=.ok () w:=by
  cases a <;> first | exact absurd rfl h1 | exact absurd rfl (h2 _) | (cases op <;> rfl)
theorem bin_plain {P:Program}{op:BinOp}{t:TypeId}{a b r:SV}{cs:List Cond}(h:bin P op t a b=some (r,cs)):a.val≠.nilIface/\∀ xs,a.val≠.agg xs:=by
  unfold bin at h;split at h
  ·split at h
   ·split at h
    ·rename_i r' hr;unfold sh at hr;split at hr <;> first | (constructor <;> simp[SV.val];done) | cases hr
    ·cases h
   ·cases h
  ·split at h <;> first | (constructor <;> simp[SV.val];done) | skip
   simp only[A0c] at h;obtain⟨r',h,_⟩:=h;unfold eqB at h;split at h <;> first | (constructor <;> simp[SV.val];done) | cases h
theorem vO {P:Program}{w:World}{x:Sem Value}{v:Value}(h:x.run P w=.ok v w):((do pure (.value (<- x))):Sem Next).run P w=.ok (.value v) w:=by
  simp[h]
theorem XL {r:Result Value}{w:World}{v:Value}(h:r=.ok v w):(r.andThen fun a w'=>Result.ok (Next.value a) w')=.ok (.value v) w:=by rw[h];rfl
theorem evOp_sound {P:Program}{w:World}{f:Operand->Option SV}{ρ:Operand->Value}{os os':List SV}{o:Oper}{r:SV}{cs:List Cond}(hf:∀ o x,f o=some x->ρ o=x.val)
    (h:XK P f os o.op=some (r,cs,os')) (hc:∀ c ∈ cs,c w):(execOp ρ o).run P w=.ok (.value r.val) w:=by
  unfold execOp;cases hop:o.op <;> rw[hop] at h <;> simp only[XK,reduceCtorEq,A0c,Prod.mk.injEq] at h ⊢
  case move x =>
    obtain⟨a,ha,rfl,rfl,rfl⟩:=h;simp[hf _ _ ha]
  case assign x =>
    obtain⟨a,ha,rfl,rfl,rfl⟩:=h;simp[hf _ _ ha]
  case binOp op t x y _ =>
    split at h
    ·rename_i xs ys ha hb;simp only[A0c,Prod.mk.injEq] at h;obtain⟨r1,hr,rfl,rfl,rfl⟩:=h;refine vO ?_;rw[hf _ _ ha,hf _ _ hb];simp only[Sem.run_bind,(WE hr x y).1,Result.andThen_ok];exact(WE hr x y).2
    ·rename_i a b _ ha hb;simp only[A0c,Prod.mk.injEq] at h;obtain⟨⟨r1,c1⟩,hr,rfl,rfl,rfl⟩:=h;have hp:=bin_plain hr;refine vO ?_;rw[hf _ _ ha,hf _ _ hb];simp only[Sem.run_bind,VU hp.1 hp.2,Result.andThen_ok];exact bin_sound hr hc
    ·cases h
  case unOp op _ x =>
    split at h
    ·rename_i a ha;simp only[A0c,Prod.mk.injEq] at h;obtain⟨r1,hr,rfl,rfl,rfl⟩:=h;refine vO ?_;rw[hf _ _ ha];exact un_sound hr
    ·cases h
  case convert src dst x =>
    split at h
    ·rename_i d k a hs hd ha;simp only[A0c,Prod.mk.injEq] at h;obtain⟨r1,hr,rfl,rfl,rfl⟩:=h;refine vO ?_;obtain⟨k',n,hv,hr2⟩:=cvI_sound (P:=P) (w:=w) hr;rw[hf _ _ ha,hv];simp only[convert,Sem.run_bind,run_underlying hs,run_underlying hd,Result.andThen_ok];exact hr2
    ·rename_i a hs hd ha;simp only[Option.some.injEq,Prod.mk.injEq] at h;obtain⟨rfl,rfl,rfl⟩:=h;refine vO ?_;rw[hf _ _ ha];simp only[convert,Sem.run_bind,run_underlying hs,run_underlying hd,Result.andThen_ok,SV.val,Sem.run_pure]
    ·rename_i e p n c hs hd ha;split at h
     ·rename_i xs os1 he;simp only[Option.some.injEq,Prod.mk.injEq] at h;obtain⟨rfl,rfl,rfl⟩:=h;simp only[A0d,forall_eq] at hc;refine vO ?_;rw[hf _ _ ha];simp only[convert,Sem.run_bind,run_underlying hs,run_underlying hd,run_underlying he,Result.andThen_ok,SV.val];exact XH hc.1 hc.2
     ·cases h
    ·cases h
  case extract x ix =>
    split at h
    ·rename_i xs ha;simp only[A0c,Prod.mk.injEq] at h;obtain⟨r1,hr,rfl,rfl,rfl⟩:=h;refine vO ?_;rw[hf _ _ ha];have h':(SV.vals xs)[ix]?=some r1.val:=by rw[vals_eq];simp[hr]
     simp[SV.val,Instr.extract,h']
    ·cases h
  case build t parts =>
    split at h
    ·rename_i ps hps;simp only[A0c,Prod.mk.injEq] at h;obtain⟨r1,hr,rfl,rfl,rfl⟩:=h;refine vO ?_;have e:=toPS_spec hf hps;have e2:parts.map (fun x=>(x.1,ρ x.2))=⟨ps.map fun p=>(p.1,p.2.val)⟩:=by
       rw[<- e];simp[<- Array.toList_map]
     have e3:parts.map (fun | (i,x)=>(i,ρ x))=⟨ps.map fun p=>(p.1,p.2.val)⟩:=e2;rw[e3];exact XG hr
    ·cases h
  case load t x =>
    split at h
    ·rename_i p r1 os1 ha hx;simp only[Option.some.injEq,Prod.mk.injEq] at h;obtain⟨rfl,rfl,rfl⟩:=h;simp only[A0d,forall_eq] at hc;obtain⟨a,rfl,hc⟩:=hc;refine vO ?_;rw[hf _ _ hx];simp only[SV.val,Instr.loadAt,Instr.sureAddr,Sem.run_bind,Sem.run_pure,Result.andThen_ok,loadVar,zt ha,A0z,if_false];simp[load,Sem.run,hc]
    ·rename_i p xs os1 ha hx;split at h
     ·rename_i hsz;simp only[Option.some.injEq,Prod.mk.injEq] at h;obtain⟨rfl,rfl,rfl⟩:=h;simp only[A0d,forall_eq] at hc;obtain⟨a,rfl,hc⟩:=hc;refine vO ?_;rw[hf _ _ hx];have hl:=run_loadCells_list (P:=P) (w:=w) a (SV.cl xs) (fun j v hv=>hc.2 a j v rfl hv);have hl2:(SV.cl xs).length=SV.width xs:=jg xs;rw[hl2] at hl;simp only[SV.val,Instr.loadAt,Instr.sureAddr,Sem.run_bind,Sem.run_pure,Result.andThen_ok,loadVar,zt ha,if_true,wE hsz,hl]
     ·cases h
    ·cases h
  case nilCheck x =>
    split at h
    ·rename_i p hx;simp only[Option.some.injEq,Prod.mk.injEq] at h;obtain⟨rfl,rfl,rfl⟩:=h;simp only[A0d,forall_eq] at hc;obtain⟨a,rfl⟩:=Option.isSome_iff_exists.1 hc;rw[hf _ _ hx];rfl
    ·rename_i d v hx;simp only[Option.some.injEq,Prod.mk.injEq] at h;obtain⟨rfl,rfl,rfl⟩:=h;rw[hf _ _ hx];rfl
    ·rename_i g a b hx;simp only[Option.some.injEq,Prod.mk.injEq] at h;obtain⟨rfl,rfl,rfl⟩:=h;rw[hf _ _ hx];rfl
    ·cases h
  case makeInterface t x =>
    split at h
    ·cases h
    ·rename_i d a hne ht hx;simp only[Option.some.injEq,Prod.mk.injEq] at h;obtain⟨rfl,rfl,rfl⟩:=h;refine vO ?_;rw[hf _ _ hx];simp only[Instr.makeInterface,Sem.run_bind,run_underlying ht,Result.andThen_ok];cases d <;> first | rfl | exact absurd ht (hne _)
    ·cases h
  case makeFunc fn first captured =>
    split at h
    ·rename_i xs ys h1 h2;simp only[Option.some.injEq,Prod.mk.injEq] at h;obtain⟨rfl,rfl,rfl⟩:=h;refine vO ?_;have e1:first.map ρ=⟨SV.vals xs⟩:=by rw[<- toSS_spec hf h1];simp[<- Array.toList_map]
     have e2:captured.map ρ=⟨SV.vals ys⟩:=by rw[<- toSS_spec hf h2];simp[<- Array.toList_map]
     rw[e1,e2];rfl
    ·cases h
  case field t x fd =>
    split at h
    ·rename_i fs xs ht hx;split at h
     ·rename_i fl hfl;simp only[A0c,Prod.mk.injEq] at h;obtain⟨r1,hr,rfl,rfl,rfl⟩:=h;refine vO ?_;rw[hf _ _ hx];simp only[Instr.field,Sem.run_bind,run_underlying ht,Result.andThen_ok,hfl,SV.val,asAgg,Sem.run_pure];exact Lt hr
     ·cases h
    ·cases h
  case fieldAddr t x fd =>
    split at h
    ·rename_i fs p ht hx;split at h
     ·rename_i fl hfl;split at h
      ·rename_i n hn;simp only[Option.some.injEq,Prod.mk.injEq] at h;obtain⟨rfl,rfl,rfl⟩:=h;simp only[A0d,forall_eq] at hc;obtain⟨a,rfl⟩:=Option.isSome_iff_exists.1 hc;refine vO ?_;rw[hf _ _ hx];simp only[Instr.fieldAt,Sem.run_bind,run_underlying ht,Result.andThen_ok,hfl,SV.val,Instr.sureAddr,Sem.run_pure,fieldPlace,wE hn];simp[fa]
      ·cases h
     ·cases h
    ·cases h
  case indexAddr t x ix =>
    split at h
    ·rename_i e p n c i ht hx hi;simp only[A0c,Prod.mk.injEq] at h;obtain⟨s,hs,rfl,rfl,rfl⟩:=h;simp only[A0d,forall_eq] at hc;obtain⟨h1,h2,h3⟩:=hc;obtain⟨a,rfl⟩:=Option.isSome_iff_exists.1 h3;simp only[A0v] at hi;obtain⟨y,hy,hyi⟩:=hi;obtain⟨k,hk⟩:=toI_spec hyi;refine vO ?_;rw[hf _ _ hx,hf _ _ hy,hk];simp only[SV.val,Instr.indexAt,asIntOf,Sem.run_bind,Sem.run_pure,Result.andThen_ok,run_underlying ht];rw[if_pos ⟨h1,h2⟩];simp[wE hs,lh]
    ·rename_i n e p i ht hx hi;split at h
     ·cases h
     ·rename_i hn;simp only[A0c,Prod.mk.injEq] at h;obtain⟨s,hs,rfl,rfl,rfl⟩:=h;simp only[A0d,forall_eq] at hc;obtain⟨h1,h2,h3⟩:=hc;obtain⟨a,rfl⟩:=Option.isSome_iff_exists.1 h3;simp only[A0v] at hi;obtain⟨y,hy,hyi⟩:=hi;obtain⟨k,hk⟩:=toI_spec hyi;refine vO ?_;rw[hf _ _ hx,hf _ _ hy,hk];simp only[SV.val,Instr.indexAt,asIntOf,Sem.run_bind,Sem.run_pure,Result.andThen_ok,run_underlying ht,Instr.sureAddr];rw[if_pos ⟨h1,h2⟩];simp[wE hs,lh]
    ·cases h
  case index t x ix =>
    split at h
    ·rename_i a i b os1 ht hx hi;simp only[Option.some.injEq,Prod.mk.injEq] at h;obtain⟨rfl,rfl,rfl⟩:=h;simp only[A0d,forall_eq] at hc;simp only[A0v] at hi;obtain⟨y,hy,hyi⟩:=hi;obtain⟨k,hk⟩:=toI_spec hyi;refine vO ?_;rw[hf _ _ hx,hf _ _ hy,hk];simp only[SV.val,Instr.index,asIntOf,Sem.run_bind,Sem.run_pure,Result.andThen_ok,run_underlying ht];rw[if_pos hc.1];have hb:(ByteArray.mk ⟨a⟩)[i.toNat]?=some b:=by
       have hlt:i.toNat < a.length:=(A0w.1 hc.2).1;rw[ByteArray.getElem?_lt' _ _ (by simpa [ByteArray.size] using hlt)];have:=(A0w.1 hc.2).2;simp[<- this];rfl
     rw[hb];rfl
    ·rename_i n e xs i r1 os1 ht hx hi;simp only[A0v] at hi;obtain⟨y,hy,hyi⟩:=hi;obtain⟨k,hk⟩:=toI_spec hyi;split at h
     ·rename_i s r2 ha hs;simp only[Option.some.injEq,Prod.mk.injEq] at h;obtain⟨rfl,rfl,rfl⟩:=h;simp only[A0d,forall_eq] at hc;refine vO ?_;rw[hf _ _ hx,hf _ _ hy,hk];simp only[SV.val,Instr.index,asIntOf,Sem.run_bind,Sem.run_pure,Result.andThen_ok,run_underlying ht];rw[if_pos hc.1];simp only[wE hs,Sem.run_bind,Result.andThen_ok,part,zt ha];simp[hc.2]
     ·rename_i s ys ha hs;simp only[Option.some.injEq,Prod.mk.injEq] at h;obtain⟨rfl,rfl,rfl⟩:=h;simp only[A0d,forall_eq] at hc;refine vO ?_;rw[hf _ _ hx,hf _ _ hy,hk];simp only[SV.val,Instr.index,asIntOf,Sem.run_bind,Sem.run_pure,Result.andThen_ok,run_underlying ht];rw[if_pos hc.1];simp only[wE hs,Sem.run_bind,Result.andThen_ok,part,zt ha,if_true,Sem.run_pure];refine congrArg (fun z=>Result.ok (Value.agg z) w) ?_;rw[<- hc.2];simp[List.drop_take]
     ·cases h
    ·cases h
  case slice t x lo hi mx =>
    split at h
    ·rename_i a lo' hi' ht hx hlo hhi hmx;split at h
     ·rename_i r1 os1;simp only[Option.some.injEq,Prod.mk.injEq] at h;obtain⟨rfl,rfl,rfl⟩:=h;obtain⟨s1,e1,m1,i1⟩:=Gj hf hlo;obtain⟨s2,e2,m2,i2⟩:=Gj hf hhi;obtain⟨s3,e3,m3,i3⟩:=Gj hf hmx;have hs3:s3=none:=by
        cases s3 with
        | none=>rfl
        | some z=>simp[oI] at e3
      subst hs3;refine vO ?_;rw[hf _ _ hx,m1,m2,m3];have hb:=OD (P:=P) (w:=w) (isS:=false) (n:=a.length) (cap:=a.length) e1 e2 e3 (by simp) (fun x hx=>hc x (List.mem_append_left _ hx));have hr:=hc _ (List.mem_append_right _ (A0d.2 rfl));simp only[SV.val,Option.map_none] at hb ⊢;simp only[Instr.sliceAt,Sem.run_bind,run_underlying ht,Result.andThen_ok,Instr.slice];have hsz:(ByteArray.mk ⟨a⟩).size=a.length:=rfl;simp only[Option.map_none,Option.isSome_none,A0z,if_false,Sem.run_bind,Sem.run_pure,Result.andThen_ok,hsz,hb];refine congrArg (fun z=>Result.ok (Value.string z) w) ?_;rw[show(ByteArray.mk ⟨a⟩)=ByteArray.mk a.toArray from rfl,ByteArray.extract_mk,<-hr,List.drop_take]
     ·cases h
    ·rename_i e p n c lo' hi' mx' ht hx hlo hhi hmx;split at h
     ·cases h
     ·rename_i hcnd;split at h
      ·rename_i s r1 os1 hs;simp only[Option.some.injEq,Prod.mk.injEq] at h;obtain⟨rfl,rfl,rfl⟩:=h;obtain⟨s1,e1,m1,i1⟩:=Gj hf hlo;obtain⟨s2,e2,m2,i2⟩:=Gj hf hhi;obtain⟨s3,e3,m3,i3⟩:=Gj hf hmx;refine vO ?_;rw[hf _ _ hx,m1,m2,m3];have h0:s3.isSome->s2.isSome:=by
         rw[i3,i2];cases hmm:mx' <;> cases hhh:hi' <;> simp_all
       have hb:=OD (P:=P) (w:=w) (isS:=true) (n:=n) (cap:=c) e1 e2 e3 h0 (fun x hx=>hc x (List.mem_append_left _ hx));have hr:=hc _ (List.mem_append_right _ (A0d.2 rfl));simp only[SV.val,Instr.sliceAt,Sem.run_bind,run_underlying ht,Result.andThen_ok,Instr.slice,hb,wE hs,Sem.run_pure];exact congrArg (fun z=>Result.ok z w) hr
      ·cases h
    ·rename_i n e p lo' hi' mx' ht hx hlo hhi hmx;split at h
     ·cases h
     ·rename_i hcnd;split at h
      ·rename_i s r1 os1 hs;simp only[Option.some.injEq,Prod.mk.injEq] at h;obtain⟨rfl,rfl,rfl⟩:=h;obtain⟨s1,e1,m1,i1⟩:=Gj hf hlo;obtain⟨s2,e2,m2,i2⟩:=Gj hf hhi;obtain⟨s3,e3,m3,i3⟩:=Gj hf hmx;refine vO ?_;rw[hf _ _ hx,m1,m2,m3];have h0:s3.isSome->s2.isSome:=by
         rw[i3,i2];cases hmm:mx' <;> cases hhh:hi' <;> simp_all
       have hb:=OD (P:=P) (w:=w) (isS:=false) (n:=n) (cap:=n) e1 e2 e3 h0 (fun x hx=>hc x (List.mem_append_left _ hx));have hr:=hc _ (List.mem_append_right _ (A0d.2 rfl));obtain⟨a,rfl⟩:=Option.isSome_iff_exists.1 hr.1;have hr2:=hr.2;simp only[SV.val,Instr.sliceAt,Sem.run_bind,run_underlying ht,Result.andThen_ok,Instr.sureAddr,hb,wE hs,Sem.run_pure];refine congrArg (fun z=>Result.ok z w) ?_;rw[<- hr2];unfold Oj;split <;> simp_all
      ·cases h
    ·cases h
  case call c =>
    obtain⟨callee,args,argTypes⟩:=c;cases callee with
    | value f=>simp only[XK,reduceCtorEq] at h
    | invoke f m=>simp only[XK,reduceCtorEq] at h
    | builtin b =>
    cases b <;> simp only[XK,reduceCtorEq] at h
    case len =>
      split at h
      ·rename_i t x ht hx;obtain rfl:argTypes=#[t]:=by cases argTypes;simp_all
       obtain rfl:args=#[x]:=by cases args;simp_all
       simp only[resolve,Sem.run_bind,Sem.run_pure,Result.andThen_ok,invoke,builtin];refine XL ?_;split at h
       ·rename_i a hu hxa;simp only[Option.some.injEq,Prod.mk.injEq] at h;obtain⟨rfl,rfl,rfl⟩:=h;simp[Builtin.len_,run_underlying hu,hf _ _ hxa,SV.val,goInt]
        try rfl
       ·rename_i e p n c hu hxa;simp only[Option.some.injEq,Prod.mk.injEq] at h;obtain⟨rfl,rfl,rfl⟩:=h;simp[Builtin.len_,run_underlying hu,hf _ _ hxa,SV.val,goInt]
       ·rename_i n e a hu hxa;simp only[Option.some.injEq,Prod.mk.injEq] at h;obtain⟨rfl,rfl,rfl⟩:=h;simp[Builtin.len_,run_underlying hu,hf _ _ hxa,SV.val,goInt]
       ·rename_i t' a hu hxa;split at h
        ·rename_i n e hu2;simp only[Option.some.injEq,Prod.mk.injEq] at h;obtain⟨rfl,rfl,rfl⟩:=h;simp[Builtin.len_,run_underlying hu,run_underlying hu2,SV.val,goInt]
        ·cases h
       ·cases h
      ·cases h
    case min =>
      split at h
      ·rename_i x y hx;obtain rfl:args=#[x,y]:=by cases args;simp_all
       split at h
       ·rename_i k a k' b h1 h2;split at h
        ·rename_i hk;subst hk;simp only[Option.some.injEq,Prod.mk.injEq] at h;obtain⟨rfl,rfl,rfl⟩:=h;simp only[resolve,Sem.run_bind,Sem.run_pure,Result.andThen_ok,invoke,builtin];refine XL ?_;simp[Builtin.min_,hf _ _ h1,hf _ _ h2,SV.val,Builtin.min2]
        ·cases h
       ·rename_i a b h1 h2;simp only[Option.some.injEq,Prod.mk.injEq] at h;obtain⟨rfl,rfl,rfl⟩:=h;simp only[resolve,Sem.run_bind,Sem.run_pure,Result.andThen_ok,invoke,builtin];refine XL ?_;simp only[Builtin.min_,hf _ _ h1,hf _ _ h2,SV.val,Builtin.min2];by_cases hba:b < a
        ·have hb2:(b.toNat:Int) < (a.toNat:Int):=by exact_mod_cast UInt64.lt_iff_toNat_lt.1 hba
         simp[hf _ _ h1,hf _ _ h2,SV.val,Builtin.min2,umin,hba,hb2]
        ·have hb2:¬ (b.toNat:Int) < (a.toNat:Int):=by
           intro hh;exact hba (UInt64.lt_iff_toNat_lt.2 (by exact_mod_cast hh))
         simp[hf _ _ h1,hf _ _ h2,SV.val,Builtin.min2,umin,hba,hb2]
       ·cases h
      ·cases h
    case max =>
      split at h
      ·rename_i x y hx;obtain rfl:args=#[x,y]:=by cases args;simp_all
       split at h
       ·rename_i k a k' b h1 h2;split at h
        ·rename_i hk;subst hk;simp only[Option.some.injEq,Prod.mk.injEq] at h;obtain⟨rfl,rfl,rfl⟩:=h;simp only[resolve,Sem.run_bind,Sem.run_pure,Result.andThen_ok,invoke,builtin];refine XL ?_;simp[Builtin.max_,hf _ _ h1,hf _ _ h2,SV.val,Builtin.max2]
        ·cases h
       ·cases h
      ·cases h
end
section
def put (L:List En)(d:Nat)(g:UV)(x:SV):List En :=
  { k:=d,g,x }::L.filter fun e=>e.k != d&&(match e.g with | some (k,_)=>k != d | none=>true)
def wipe (L:List En)(d:Nat):List En:=L.filter fun e=>e.k != d&&(match e.g with | some (k,_)=>k != d | none=>true)
structure Fu (n:Nat)(a:Act)(L:List En):Prop extends Fr n a L where
  un:∀ e ∈ L,∀ g w,e.g=some (g,w)->a.tmps[g]?≠some (.bool w)->a.tmps[e.k]?=some undef
theorem Fr.wipe {n:Nat}{a:Act}{L:List En}(h:Fr n a L)(d:Nat)(v:Value):Fr n (a.put (some d) v) (wipe L d):=by
  refine⟨by simpa [Act.put] using h.defers,by simpa [Act.put] using h.size,fun e he hg=>?_⟩;simp only[Sx.wipe,List.mem_filter,A0k,bne_iff_ne,ne_eq] at he;obtain⟨hm,hne,hgn⟩:=he;simp only[Act.put];rw[Array.getElem?_setIfInBounds_ne (by omega)];refine h.at_ e hm fun g w hgw=>?_;have:=hg g w hgw;rw[hgw] at hgn;simp at hgn;simp only[Act.put] at this
  rwa [Array.getElem?_setIfInBounds_ne (by omega)] at this
theorem Fr.put {n:Nat}{a:Act}{L:List En}{d:Nat}{g:UV}{x:SV}{v:Value}(h:Fr n a L)(hd:d < n)(hgd:∀ k w,g=some (k,w)->k≠d)
    (hv:(∀ k w,g=some (k,w)->a.tmps[k]?=some (.bool w))->v=x.val):Fr n (a.put (some d) v) (put L d g x):=by
  have h0:=h.wipe d v;refine⟨h0.defers,h0.size,fun e he hg=>?_⟩;simp only[Sx.put,ut] at he;rcases he with rfl | he
  ·have e1:v=x.val:=hv fun k w hk=>by
     have:=hg k w hk;simp only[Act.put] at this
     rwa [Array.getElem?_setIfInBounds_ne (by have:=hgd k w hk;omega)] at this
   have hs:d < a.tmps.size:=by rw[h.size];exact hd
   simp[Act.put,hs,e1]
  ·exact h0.at_ e he hg
theorem Fu.put {n:Nat}{a:Act}{L:List En}{d:Nat}{g:UV}{x:SV}{v:Value}(h:Fu n a L)(hd:d < n)(hgd:∀ k w,g=some (k,w)->k≠d)
    (hv:(∀ k w,g=some (k,w)->a.tmps[k]?=some (.bool w))->v=x.val) (hu:∀ k w,g=some (k,w)->a.tmps[k]?≠some (.bool w)->v=undef):Fu n (a.put (some d) v) (Sx.put L d g x):=by
  refine⟨h.toFr.put hd hgd hv,fun e he k w hg hne=>?_⟩;have hs:d < a.tmps.size:=by rw[h.size];exact hd
  simp only[Sx.put,ut,List.mem_filter,A0k,bne_iff_ne,ne_eq] at he;rcases he with rfl | ⟨hm,hed,hgn⟩
  ·have hkd:=hgd k w hg;simp only[Act.put] at hne ⊢;rw[Array.getElem?_setIfInBounds_ne (by omega)] at hne;simp[hs,hu k w hg hne]
  ·rw[hg] at hgn;simp at hgn;simp only[Act.put] at hne ⊢;rw[Array.getElem?_setIfInBounds_ne (by omega)] at hne ⊢;exact h.un e hm k w hg hne
def keeps (L' L:List En):Prop:=∀ e ∈ L',e.g=none/\look L e.k=some { k:=e.k,g:=none,x:=e.x }
def Zf (ops:Array Oper)(o:Oper):Option UV :=
  match o.guard with
  | none=>some none
  | some (j,w)=>match(ops[j]?).bind (·.dst) with
    | some k=>some (some (k,w))
    | none=>none
theorem Gl {ops:Array Oper}{o:Oper}{g:UV}{a:Act}(h:Zf ops o=some g) :
    (Region.wanted o (yielded ops a.tmps)=true ↔ ∀ k w,g=some (k,w)->a.tmps[k]?=some (.bool w)):=by
  unfold Zf at h;unfold Region.wanted;cases hg:o.guard with
  | none=>rw[hg] at h;simp only[Option.some.injEq] at h;subst h;simp
  | some p =>
    obtain⟨j,w⟩:=p;rw[hg] at h;simp only at h;split at h
    ·rename_i k hk;simp only[Option.some.injEq] at h;subst h;simp only[Option.some.injEq,Prod.mk.injEq,yielded];rw[A0v] at hk;obtain⟨o',ho',hd⟩:=hk;simp only[ho',A0o,hd];constructor
     ·intro hh k' w' ⟨e1,e2⟩;subst e1;subst e2;revert hh;cases ht:a.tmps[k]? with
      | none=>simp
      | some v=>cases v <;> simp
     ·intro hh;have:=hh k w ⟨rfl,rfl⟩;simp[this]
    ·cases h
def gcl (L:List En):Nat->UV->Option (List (Bool×Bool))
  | _,none=>some []
  | 0,some _=>none
  | n+1,some (k,w)=>match look L k with
    | some { g,x:=.b c,.. }=>(gcl L n g).map fun l=>(c,w)::l
    | _=>none
theorem gcl_spec {n:Nat}{a:Act}{L:List En}(hf:Fu n a L):∀ (m:Nat) (g:UV) (l:List (Bool×Bool)),gcl L m g=some l->(∀ k w,g=some (k,w)->a.tmps[k]?=some (.bool w))->∀ p ∈ l,p.1=p.2:=by
  intro m
  induction m with
  | zero =>
    intro g l h hg;cases g with
    | none=>simp only[gcl,Option.some.injEq] at h;subst h;simp
    | some p=>simp[gcl] at h
  | succ m ih =>
    intro g l h hg;cases g with
    | none=>simp only[gcl,Option.some.injEq] at h;subst h;simp
    | some p =>
      obtain⟨k,w⟩:=p;simp only[gcl] at h;split at h
      ·rename_i k' g' c hl;simp only[A0c] at h;obtain⟨l',hl',rfl⟩:=h;obtain⟨hm,hk⟩:=Je hl;simp only at hk;subst hk;have h1:=hg k' w rfl;have h2:∀ k2 w2,g'=some (k2,w2)->a.tmps[k2]?=some (.bool w2):=by
         intro k2 w2 he;apply Classical.byContradiction;intro hne;have:=hf.un _ hm k2 w2 he hne;simp only at this;rw[h1] at this;simp[undef] at this
       have h3:=hf.at_ _ hm h2;simp only[SV.val] at h3;rw[h1] at h3;simp only[Option.some.injEq,Value.bool.injEq] at h3;intro p hp;simp only[ut] at hp;rcases hp with rfl | hp
       ·exact h3.symm
       ·exact ih _ _ hl' h2 p hp
      ·cases h
def under:List (Bool×Bool)->Cond->Cond
  | [],p=>p
  | (c,w)::l,p=>under l fun x=>c=w->p x
theorem Uj {w:World}:∀ (l:List (Bool×Bool)) (p:Cond),under l p w->(∀ q ∈ l,q.1=q.2)->p w
  | [],_,h,_=>h
  | (c,v)::l,p,h,hl=>Uj l (fun x=>c=v->p x) h (fun q hq=>hl q (A0e _ hq)) (hl (c,v) (A0g))
def gne:UV->Nat->Bool
  | some (k,_),d=>k != d
  | none,_=>true
def settled (ss:A01)(L:List En)(g:UV):Option Bool :=
  match g with
  | none=>none
  | some (k,w)=>if ss.contains k then(match look L k with
    | some { g:=none,x:=.b c,.. }=>some (c == w)
    | some { g:=none,x:=.qA [],.. }=>some false
    | _=>none) else none
def ev2 (L:List En)(g:UV)(k:Nat)(w:Bool):Operand->Option SV
  | .tmp t=>match look L t with
    | some e=>match e.g with
      | none=>some e.x
      | some (a,x)=>if a=k/\x=w then some e.x else(match g with
        | some (b,y)=>if a=b/\x=y then some e.x else none
        | none=>none)
    | none=>none
  | .const v=>some (kst v)
  | _=>none
theorem Nl {n:Nat}{a:Act}{L:List En}{g:UV}{k:Nat}{w:Bool}{o:Operand}{x:SV}(hf:Fr n a L)(hg:∀ k w,g=some (k,w)->a.tmps[k]?=some (.bool w))(hk:a.tmps[k]?=some (.bool w))
    (h:ev2 L g k w o=some x):a.eval o=x.val:=by
  cases o with
  | tmp t =>
    simp only[ev2] at h;split at h
    ·rename_i e he;obtain⟨hm,hk'⟩:=Je he;have key:(∀ k w,e.g=some (k,w)->a.tmps[k]?=some (.bool w))->e.x=x->a.eval (.tmp t)=x.val:=by
       intro h1 h2;have:=hf.at_ e hm h1;rw[hk',h2] at this;simp[Act.eval,Array.getD_eq_getD_getElem?,this]
     split at h
     ·rename_i h0;injection h with h;exact key (by rw[h0];intro _ _ hh;cases hh) h
     ·rename_i a' x' h0;split at h
      ·rename_i hh;injection h with h;obtain⟨rfl,rfl⟩:=hh;exact key (by rw[h0];intro _ _ hh;simp only[Option.some.injEq,Prod.mk.injEq] at hh;obtain⟨rfl,rfl⟩:=hh;exact hk) h
      ·split at h
       ·split at h
        ·rename_i b y hh;injection h with h;obtain⟨rfl,rfl⟩:=hh;exact key (by rw[h0];exact hg) h
        ·cases h
       ·cases h
    ·cases h
  | const v=>simp only[ev2,Option.some.injEq] at h;subst h;simp[Act.eval,kst_val]
  | global g=>cases h
  | func f=>cases h
def evPick (ss:A01)(L:List En)(g:UV):Op->Option SV
  | .pick (.tmp k) a b=>if ss.contains k then(match ev L g (.tmp k) with
    | some (.b true)=>ev2 L g k true a
    | some (.b false)=>ev2 L g k false b
    | _=>none) else match ev L g (.tmp k),ev2 L g k true a,ev2 L g k false b with
    | some (.b c),some (.b x),some (.b y)=>match a,b with
      | .const (.bool true),_=>some (.b (c||y))
      | _,.const (.bool false)=>some (.b (c&&x))
      | _,_=>some (.b (if c then x else y))
    | _,_,_=>none
  | _=>none
theorem XM {P:Program}{ss:A01}{n:Nat}{a:Act}{L:List En}{g:UV}{o:Oper}{r:SV}{w:World}(hf:Fr n a L)(hg:∀ k w,g=some (k,w)->a.tmps[k]?=some (.bool w))(h:evPick ss L g o.op=some r) :
    (execOp a.eval o).run P w=.ok (.value r.val) w:=by
  unfold evPick at h;split at h
  ·rename_i k x y hop;have hkey:∀ c,ev L g (.tmp k)=some (.b c)->a.tmps[k]?=some (.bool c)/\a.eval (.tmp k)=.bool c:=by
     intro c hc;have hcv:=PD hf hg hc;refine⟨?_,hcv⟩;simp only[Act.eval,SV.val] at hcv;rw[Array.getD_eq_getD_getElem?] at hcv;cases ht:a.tmps[k]? with
     | none=>simp[ht,undef] at hcv
     | some v=>simp[ht] at hcv;rw[hcv]
   split at h
   ·split at h
    ·rename_i hc;obtain⟨h1,h2⟩:=hkey _ hc;have h3:=Nl hf hg h1 h;unfold execOp;rw[hop];simp[h2,asBool,h3]
    ·rename_i hc;obtain⟨h1,h2⟩:=hkey _ hc;have h3:=Nl hf hg h1 h;unfold execOp;rw[hop];simp[h2,asBool,h3]
    ·cases h
   split at h
   ·rename_i c vx vy hc hx hy;have hcv:=PD hf hg hc;have hk:a.tmps[k]?=some (.bool c):=by
      simp only[Act.eval,SV.val] at hcv;rw[Array.getD_eq_getD_getElem?] at hcv;cases ht:a.tmps[k]? with
      | none=>simp[ht,undef] at hcv
      | some v=>simp[ht] at hcv;rw[hcv]
    have hrun:(execOp a.eval o).run P w=.ok (.value (.bool (if c then vx else vy))) w:=by
      unfold execOp;rw[hop];simp only[hcv,SV.val,asBool,Sem.run_bind,Sem.run_pure,Result.andThen_ok];cases c with
      | true =>
        have:=Nl hf hg hk hx;simp[this,SV.val]
      | false =>
        have:=Nl hf hg hk hy;simp[this,SV.val]
    rw[hrun];split at h
    ·simp only[ev2,kst,OB,Option.some.injEq,SV.b.injEq] at hx;simp only[Option.some.injEq] at h;subst h;subst hx;cases c <;> simp[SV.val]
    ·simp only[ev2,kst,OB,Option.some.injEq,SV.b.injEq] at hy;simp only[Option.some.injEq] at h;subst h;subst hy;cases c <;> simp[SV.val]
    ·simp only[Option.some.injEq] at h;subst h;rfl
   ·cases h
  ·cases h
def evA (P:Program)(ss:A01)(L:List En)(g:UV)(os:List SV)(op:Op):Option (SV×List Cond×List SV) :=
  match evPick ss L g op with
  | some r=>some (r,[],os)
  | none=>XK P (ev L g) os op
theorem WG {P:Program}{ss:A01}{n:Nat}{a:Act}{L:List En}{g:UV}{os os':List SV}{o:Oper}{r:SV}{cs:List Cond}{w:World}(hf:Fr n a L)(hg:∀ k w,g=some (k,w)->a.tmps[k]?=some (.bool w))
    (h:evA P ss L g os o.op=some (r,cs,os')) (hc:∀ c ∈ cs,c w):(execOp a.eval o).run P w=.ok (.value r.val) w:=by
  unfold evA at h;split at h
  ·rename_i r' hr;simp only[Option.some.injEq,Prod.mk.injEq] at h;obtain⟨rfl,rfl,rfl⟩:=h;exact XM hf hg hr
  ·exact evOp_sound (f:=ev L g) (os:=os) (os':=os') (r:=r) (cs:=cs) (fun o x hx=>PD hf hg hx) h hc
def ev1 (P:Program)(n:Nat)(ops:Array Oper)(ss:A01)(L:List En)(os:List SV)(o:Oper):Option (List En×List Cond×List SV) :=
  match Zf ops o,o.dst with
  | some g,some d =>
    match settled ss L g with
    | some false=>if d < n then some (put L d none (.qA []),[],os) else none
    | some true=>if d < n then
        match evA P ss L none os o.op with
        | some (r,cs,os')=>some (put L d none r,cs,os')
        | none=>none
      else none
    | none=>if d < n&&gne g d then
        match gcl L 4 g,evA P ss L g os o.op with
        | some gc,some (r,cs,os')=>some (put L d g r,cs.map (under gc),os')
        | _,_=>none
      else none
  | _,_=>none
theorem Gm {ss:A01}{n:Nat}{a:Act}{L:List En}{g:UV}{b:Bool}(hf:Fu n a L)(h:settled ss L g=some b) :
    ∃ k w,g=some (k,w)/\(b=true->a.tmps[k]?=some (.bool w))/\(b=false->a.tmps[k]?≠some (.bool w)):=by
  cases g with
  | none=>simp[settled] at h
  | some p =>
    obtain⟨k,w⟩:=p;simp only[settled] at h;split at h
    ·split at h
     ·rename_i k' c hl;simp only[Option.some.injEq] at h;obtain⟨hm,hk⟩:=Je hl;simp only at hk;subst hk;have h3:=hf.at_ _ hm (by intro _ _ hh;cases hh);simp only[SV.val] at h3;refine⟨k',w,rfl,fun hb=>?_,fun hb=>?_⟩
      ·subst hb;simp at h;rw[h3,h]
      ·subst hb;simp at h;rw[h3];simpa using h
     ·rename_i k' hl;simp only[Option.some.injEq] at h;subst h;obtain⟨hm,hk⟩:=Je hl;simp only at hk;subst hk;have h3:=hf.at_ _ hm (by intro _ _ hh;cases hh);simp only[SV.val] at h3;refine⟨k',w,rfl,fun hb=>(by cases hb),fun hb=>?_⟩;rw[h3];simp
     ·cases h
    ·cases h
theorem QZ {P:Program}{n:Nat}{ops:Array Oper}{ss:A01}{L L':List En}{os os':List SV}{o:Oper}{cs:List Cond}{a:Act}(hf:Fu n a L)
    (h:ev1 P n ops ss L os o=some (L',cs,os')) :
    (Region.wanted o (yielded ops a.tmps)=true/\∃ v,(∀ w,(∀ c ∈ cs,c w)->(execOp a.eval o).run P w=.ok (.value v) w)/\Fu n (a.put o.dst v) L') ∨
    (Region.wanted o (yielded ops a.tmps)=false/\Fu n (a.put o.dst undef) L'):=by
  unfold ev1 at h;split at h
  ·rename_i g d hgs hd;have hw:=Gl (a:=a) hgs;split at h
   ·rename_i hset;split at h
    case isFalse=>cases h
    rename_i hdn;simp only[Option.some.injEq,Prod.mk.injEq] at h;obtain⟨rfl,rfl,rfl⟩:=h;obtain⟨k,w,rfl,_,h2⟩:=Gm hf hset;refine .inr ⟨?_,by rw[hd];exact hf.put hdn (by intro _ _ hh;cases hh) (fun _=>rfl) (by intro _ _ hh;cases hh)⟩;cases hwant:Region.wanted o (yielded ops a.tmps) with
    | true=>exact absurd (hw.1 hwant k w rfl) (h2 rfl)
    | false=>rfl
   ·rename_i hset;obtain⟨k,w,rfl,h1,_⟩:=Gm hf hset;split at h
    ·rename_i hdn;split at h
     ·rename_i r cs1 os1 he;simp only[Option.some.injEq,Prod.mk.injEq] at h;obtain⟨rfl,rfl,rfl⟩:=h;refine .inl ⟨hw.2 (fun k' w' hh=>by simp only[Option.some.injEq,Prod.mk.injEq] at hh;obtain⟨rfl,rfl⟩:=hh;exact h1 rfl),r.val,fun w hc=>?_,?_⟩
      ·exact WG hf.toFr (by intro _ _ hh;cases hh) he hc
      ·rw[hd];exact hf.put hdn (by intro _ _ hh;cases hh) (fun _=>rfl) (by intro _ _ hh;cases hh)
     ·cases h
    ·cases h
   ·split at h
    ·rename_i hcond;simp only[A0k,lm] at hcond;obtain⟨hdn,hgk⟩:=hcond;split at h
     ·rename_i gc r cs1 os1 hgc he;simp only[Option.some.injEq,Prod.mk.injEq] at h;obtain⟨rfl,rfl,rfl⟩:=h;have hkd:∀ k w,g=some (k,w)->k≠d:=by
        intro k w hh;subst hh;simpa [gne] using hgk
      cases hwant:Region.wanted o (yielded ops a.tmps) with
      | true =>
        have hg:=hw.1 hwant;refine .inl ⟨rfl,r.val,fun w hc=>?_,?_⟩
        ·refine WG hf.toFr hg he fun c hcm=>?_;exact Uj gc c (hc _ (ww.2 ⟨c,hcm,rfl⟩)) (gcl_spec hf 4 g gc hgc hg)
        ·rw[hd];exact hf.put hdn hkd (fun _=>rfl) fun k w hk hne=>absurd (hg k w hk) hne
      | false =>
        refine .inr ⟨rfl,?_⟩;rw[hd];refine hf.put hdn hkd (fun hh=>?_) fun _ _ _ _=>rfl;rw[hw.2 hh] at hwant;cases hwant
     ·cases h
    ·cases h
  ·cases h
def evs (P:Program)(n:Nat)(ops:Array Oper)(ss:A01):List Oper->List En->List SV->Option (List En×List Cond×List SV)
  | [],L,os=>some (L,[],os)
  | o::rest,L,os=>match ev1 P n ops ss L os o with
    | some (L1,c1,os1)=>match evs P n ops ss rest L1 os1 with
      | some (L2,c2,os2)=>some (L2,c1++c2,os2)
      | none=>none
    | none=>none
theorem Zg {P:Program}{n:Nat}{ops:Array Oper}{ss:A01}{Q:Exit->Act->World->Prop}{rest:List Oper}{w:World}:∀ (l:List Oper) (L L':List En) (os os':List SV) (cs:List Cond) (a:Act),Fu n a L ->
    evs P n ops ss l L os=some (L',cs,os')->(∀ c ∈ cs,c w)->(∀ a',Fu n a' L'->wpList P ops Q rest a' w)->wpList P ops Q (l++rest) a w:=by
  intro l
  induction l with
  | nil =>
    intro L L' os os' cs a hf h hc hk;simp only[evs,Option.some.injEq,Prod.mk.injEq] at h;obtain⟨rfl,rfl,rfl⟩:=h;exact hk a hf
  | cons o l ih =>
    intro L L' os os' cs a hf h hc hk;simp only[evs] at h;split at h
    ·rename_i L1 c1 os1 h1;split at h
     ·rename_i L2 c2 os2 h2;simp only[Option.some.injEq,Prod.mk.injEq] at h;obtain⟨rfl,rfl,rfl⟩:=h;show wpList P ops Q (o::(l++rest)) a w;unfold wpList;rcases QZ hf h1 with⟨hw,v,hr,hf'⟩ | ⟨hw,hf'⟩
      ·rw[if_pos hw];refine .inl ?_;unfold Oper.wp;rw[hr w fun c hcm=>hc c (List.mem_append_left _ hcm)];exact ih _ _ _ _ _ _ hf' h2 (fun c hcm=>hc c (List.mem_append_right _ hcm)) hk
      ·rw[if_neg (by simp[hw])];exact ih _ _ _ _ _ _ hf' h2 (fun c hcm=>hc c (List.mem_append_right _ hcm)) hk
     ·cases h
    ·cases h
theorem evs_quiet {P:Program}{n:Nat}{ops:Array Oper}{ss:A01}{C:World->Prop}{Q:Act->Prop}:∀ (l:List Oper) (L L':List En) (os os':List SV) (cs:List Cond) (a:Act),Fu n a L ->
    evs P n ops ss l L os=some (L',cs,os')->(∀ w,C w->∀ c ∈ cs,c w)->(∀ a',Fu n a' L'->Q a')->wpQuiet P ops C Q l a:=by
  intro l
  induction l with
  | nil =>
    intro L L' os os' cs a hf h hc hk;simp only[evs,Option.some.injEq,Prod.mk.injEq] at h;obtain⟨rfl,rfl,rfl⟩:=h;exact hk a hf
  | cons o l ih =>
    intro L L' os os' cs a hf h hc hk;simp only[evs] at h;split at h
    ·rename_i L1 c1 os1 h1;split at h
     ·rename_i L2 c2 os2 h2;simp only[Option.some.injEq,Prod.mk.injEq] at h;obtain⟨rfl,rfl,rfl⟩:=h;unfold wpQuiet;rcases QZ hf h1 with⟨hw,v,hr,hf'⟩ | ⟨hw,hf'⟩
      ·rw[if_pos hw];refine⟨v,fun w hcw=>?_,ih _ _ _ _ _ _ hf' h2 (fun w hcw c hcm=>hc w hcw c (List.mem_append_right _ hcm)) hk⟩;unfold Oper.quietAt;rw[hr w fun c hcm=>hc w hcw c (List.mem_append_left _ hcm)];exact⟨rfl,rfl⟩
      ·rw[if_neg (by simp[hw])];exact ih _ _ _ _ _ _ hf' h2 (fun w hcw c hcm=>hc w hcw c (List.mem_append_right _ hcm)) hk
     ·cases h
    ·cases h
abbrev St:=List (Nat×SV)
def Kn (L:St):List En:=L.map fun p=>{ k:=p.1,g:=none,x:=p.2 }
def W (P:Program)(n:Nat)(c:Code)(Q:Exit->Act->World->Prop)(L:St)(w:World):Prop:=∀ a,Fu n a (Kn L)->c.wp P Q a w
def At (n:Nat)(q:Act->World->Prop)(L:St)(w:World):Prop:=∀ a,Fu n a (Kn L)->q a w
def WL (P:Program)(n:Nat)(ops:Array Oper)(Q:Exit->Act->World->Prop)(l:List Oper)(L:St)(w:World):Prop:=∀ a,Fu n a (Kn L)->wpList P ops Q l a w
def All:List Cond->World->Prop
  | [],_=>True
  | c::cs,w=>c w/\All cs w
theorem PL {cs:List Cond}{w:World}(h:All cs w):∀ c ∈ cs,c w:=by
  induction cs with
  | nil=>simp
  | cons c cs ih =>
    intro x hx;simp only[ut] at hx;rcases hx with rfl | hx
    ·exact h.1
    ·exact ih h.2 x hx
def Seg (P:Program)(n:Nat)(ops:Array Oper)(ss:A01)(l:List Oper)(L:St)(os:List SV)(L':St)(cs:List Cond):Prop :=
  (evs P n ops ss l (Kn L) os).map (fun r=>(L'.map fun e=>(look r.1 e.1).map fun e=>(e.g,e.x.val),r.2.1,r.2.2))=some (L'.map fun p=>some (none,p.2.val),cs,[])
theorem Seg.keep {P:Program}{n:Nat}{ops:Array Oper}{ss:A01}{l:List Oper}{L:St}{os:List SV}{L':St}{cs:List Cond}(h:Seg P n ops ss l L os L' cs) :
    ∃ Lc,evs P n ops ss l (Kn L) os=some (Lc,cs,[])/\∀ a,Fu n a Lc->Fu n a (Kn L'):=by
  unfold Seg at h;simp only[A0c,Prod.mk.injEq] at h;obtain⟨⟨Lc,cs',os'⟩,he,h1,rfl,rfl⟩:=h;refine⟨Lc,he,fun a hf=>⟨⟨hf.defers,hf.size,fun e hm _=>?_⟩,fun e hm g w hg=>?_⟩⟩
  ·simp only[Kn,ww] at hm;obtain⟨p,hp,rfl⟩:=hm;have:=List.map_inj_left.1 h1 p hp;simp only[A0c,Prod.mk.injEq] at this;obtain⟨e,he,hg,hv⟩:=this;obtain⟨hm,hk⟩:=Je he;have:=hf.at_ _ hm (by rw[hg];intro _ _ hh;cases hh);rw[hk,hv] at this;exact this
  ·simp only[Kn,ww] at hm;obtain⟨p,hp,rfl⟩:=hm;cases hg
section
variable {P:Program}{n:Nat}{Q:Exit->Act->World->Prop}{L:St}{w:World}
theorem ae {x y:Code}(h:W P n x (Exit.then (y.wp P Q) Q) L w):W P n (.seq x y) Q L w:=fun a ha=>wp_seq (h a ha)
theorem aC {id:Nat}{c:Code}(h:W P n c (Exit.inBlock id Q) L w):W P n (.block id c) Q L w:=fun a ha=>wp_block (h a ha)
theorem aH (h:At n (Q .normal) L w):W P n .skip Q L w:=fun a ha=>wp_skip (h a ha)
theorem cZ {id:Nat}(h:At n (Q (.exit id)) L w):W P n (.exit id) Q L w:=fun a ha=>wp_exit (h a ha)
theorem aK (h:At n (Q .ret) L w):W P n .ret Q L w:=fun a ha=>wp_ret (h a ha)
theorem go {q:Act->World->Prop}{y:Code}{Q':Exit->Act->World->Prop}(hq:∀ a w,y.wp P Q' a w->q a w)(h:W P n y Q' L w):At n q L w:=fun a ha=>hq _ _ (h a ha)
theorem au {id:Nat}{l:List Oper}(h:WL P n l.toArray Q l L w):W P n (.region id l.toArray false) Q L w:=fun a ha=>wp_region_lit (h a ha)
theorem dY {ops:Array Oper}(h:At n (Q .normal) L w):WL P n ops Q [] L w:=fun a ha=>wpList_nil (h a ha)
theorem WL_seg {ops:Array Oper}{l:List Oper}(k:Nat)(ss:A01)(os:List SV)(L':St)(cs:List Cond)(hs:(evs P n ops ss (l.take k) (Kn L) os).map (fun r=>(L'.map fun e=>(look r.1 e.1).map fun e=>(e.g,e.x.val),r.2.1,r.2.2))=some (L'.map fun p=>some (none,p.2.val),cs,[]))(hc:All cs w)(h:WL P n ops Q (l.drop k) L' w):WL P n ops Q l L w:=by
  intro a ha;obtain⟨Lc,he,hk⟩:=Seg.keep hs;have:=Zg (Q:=Q) (rest:=l.drop k) (w:=w) (l.take k) (Kn L) Lc os [] cs a ha he (PL hc) (fun a' ha'=>h a' (hk a' ha'))
  rwa [List.take_append_drop] at this
theorem W_quiet {id:Nat}{l:List Oper}(ss:A01)(os:List SV)(L':St)(cs:List Cond)(hs:(evs P n l.toArray ss l (Kn L) os).map (fun r=>(L'.map fun e=>(look r.1 e.1).map fun e=>(e.g,e.x.val),r.2.1,r.2.2))=some (L'.map fun p=>some (none,p.2.val),cs,[]))(hc:All cs w)(h:At n (Q .normal) L' w):W P n (.region id l.toArray false) Q L w:=by
  refine au fun a ha=>?_;obtain⟨Lc,he,hk⟩:=Seg.keep hs;have:=Zg (Q:=Q) (rest:=[]) (w:=w) l (Kn L) Lc os [] cs a ha he (PL hc) (fun a' ha'=>wpList_nil (h a' (hk a' ha')));simpa using this
theorem W_draw {id:Nat}{l:List Oper}(hm:P.follows .mixedOrders=true)(os:List SV)(L':St)(cs:List Cond)(hB:Region.lexB .any l.toArray=true)(hs:(evs P n l.toArray [] l (Kn L) os).map (fun r=>(L'.map fun e=>(look r.1 e.1).map fun e=>(e.g,e.x.val),r.2.1,r.2.2))=some (L'.map fun p=>some (none,p.2.val),cs,[]))
    (hc:∀ m,All cs (w.drewN m)) (h:∀ m,At n (Q .normal) L' (w.drewN m)):W P n (.region id l.toArray true) Q L w:=by
  intro a ha;obtain⟨Lc,he,hk⟩:=Seg.keep hs;refine wp_region_quiet_lit hm hB ?_;refine evs_quiet (C:=fun w'=>∃ n,w'=w.drewN n) l (Kn L) Lc os [] cs a ha he ?_ ?_
  ·rintro w' ⟨m,rfl⟩;exact PL (hc m)
  ·rintro a' ha' w' ⟨m,rfl⟩;exact h m a' (hk a' ha')
theorem Fu.Zh {a:Act}(h:Fu n a (Kn L)){k:Nat}{x:SV}(hl:(k,x) ∈ L):a.tmps[k]?=some x.val :=
  h.at_ { k,g:=none,x } (ww.2 ⟨_,hl,rfl⟩) (by intro _ _ hh;cases hh)
def find (L:St)(k:Nat):Option SV:=(L.find? fun p=>p.1 == k).map (·.2)
theorem Lu {k:Nat}{x:SV}(h:find L k=some x):(k,x) ∈ L:=by
  unfold find at h;simp only[A0c] at h;obtain⟨⟨k',x'⟩,h1,rfl⟩:=h;have:=List.mem_of_find?_eq_some h1;have h2:=List.find?_some h1;simp at h2;subst h2;exact this
theorem Fu.of_val {a:Act}(h:Fu n a (Kn L)){k:Nat}{x:Value}(hl:(find L k).map SV.val=some x):a.tmps[k]?=some x:=by
  simp only[A0c] at hl;obtain⟨y,hy,rfl⟩:=hl;exact h.Zh (Lu hy)
theorem XN {k:Nat}{x y:Code}(c:Bool)(hf:find L k=some (.b c))(h1:c=true->W P n x Q L w)(h2:c=false->W P n y Q L w):W P n (.cond (.tmp k) x y) Q L w:=by
  intro a ha;have h:=ha.Zh (Lu hf);exact wp_cond_split (t:=c) (by simp[Act.eval,Array.getD_eq_getD_getElem?,h,SV.val]) (fun hc=>h1 hc a ha) (fun hc=>h2 hc a ha)
theorem W_condp {k:Nat}{x y:Code}(p:Prop)[Decidable p](hf:find L k=some (.b (decide p)))(h1:p->W P n x Q L w)(h2:¬ p->W P n y Q L w):W P n (.cond (.tmp k) x y) Q L w :=
  XN (decide p) hf (fun h=>h1 (of_decide_eq_true h)) (fun h=>h2 (of_decide_eq_false h))
theorem Zi {c:Code}(L':St)(hk:L'.map (fun p=>(find L p.1).map SV.val)=L'.map (fun p=>some p.2.val))(h:W P n c Q L' w):W P n c Q L w:=by
  intro a ha;refine h a ⟨⟨ha.defers,ha.size,fun e hm _=>?_⟩,fun e hm g w hg=>?_⟩
  ·simp only[Kn,ww] at hm;obtain⟨p,hp,rfl⟩:=hm;exact ha.of_val (List.map_inj_left.1 hk p hp)
  ·simp only[Kn,ww] at hm;obtain⟨p,hp,rfl⟩:=hm;cases hg
theorem Ji {q:Act->World->Prop}(L':St)(hk:L'.map (fun p=>(find L p.1).map SV.val)=L'.map (fun p=>some p.2.val))(h:At n q L' w):At n q L w:=by
  intro a ha;refine h a ⟨⟨ha.defers,ha.size,fun e hm _=>?_⟩,fun e hm g w hg=>?_⟩
  ·simp only[Kn,ww] at hm;obtain⟨p,hp,rfl⟩:=hm;exact ha.of_val (List.map_inj_left.1 hk p hp)
  ·simp only[Kn,ww] at hm;obtain⟨p,hp,rfl⟩:=hm;cases hg
theorem mO {x y:Code}(K:St->World->Prop)(h1:W P n x (Exit.then (fun a w=>∃ L,Fu n a (Kn L)/\K L w) Q) L w)(h2:∀ L w,K L w->W P n y Q L w):W P n (.seq x y) Q L w:=by
  refine ae fun a ha=>wp_mono (h1 a ha) ?_;intro e a' w' hq;cases e with
  | normal=>obtain⟨L',hf,hk⟩:=hq;exact h2 L' w' hk a' hf
  | _=>exact hq
theorem XO {id:Nat}{c:Code}(K:St->World->Prop)(h1:W P n c (Exit.inBlock id (Exit.then (fun a w=>∃ L,Fu n a (Kn L)/\K L w) Q)) L w)(h2:∀ L w,K L w->At n (Q .normal) L w):W P n (.block id c) Q L w:=by
  refine aC fun a ha=>wp_mono (h1 a ha) ?_;intro e a' w' hq;cases e with
  | normal=>obtain⟨L',hf,hk⟩:=hq;exact h2 L' w' hk a' hf
  | exit i =>
    simp only[Exit.inBlock] at hq ⊢;split
    ·rename_i hi;rw[if_pos hi] at hq;obtain⟨L',hf,hk⟩:=hq;exact h2 L' w' hk a' hf
    ·rename_i hi;rw[if_neg hi] at hq;exact hq
  | _=>exact hq
theorem At_cut {K:St->World->Prop}(h:K L w):At n (Exit.then (fun a w=>∃ L,Fu n a (Kn L)/\K L w) Q .normal) L w:=fun _ ha=>⟨L,ha,h⟩
theorem aU {K:Act->World->Prop}(h:At n (Q .ret) L w):At n (Exit.then K Q .ret) L w:=fun a ha=>h a ha
theorem dN {id:Nat}(h:At n (Q .ret) L w):At n (Exit.inBlock id Q .ret) L w:=fun a ha=>h a ha
theorem aX {K:Act->World->Prop}{i:Nat}(h:At n (Q (.exit i)) L w):At n (Exit.then K Q (.exit i)) L w:=fun a ha=>h a ha
theorem dZ {i:Nat}(h:At n (Q .normal) L w):At n (Exit.inBlock i Q (.exit i)) L w:=fun a ha=>by simpa [Exit.inBlock] using h a ha
theorem At_ine {i j:Nat}(hij:i≠j)(h:At n (Q (.exit i)) L w):At n (Exit.inBlock j Q (.exit i)) L w:=fun a ha=>by simpa [Exit.inBlock,hij] using h a ha
theorem df {id:Nat}(h:At n (Q .normal) L w):At n (Exit.inBlock id Q .normal) L w:=fun a ha=>h a ha
theorem ay {y:Code}(h:W P n y Q L w):At n (Exit.then (y.wp P Q) Q .normal) L w:=fun a ha=>h a ha
def Tu (P:Program)(rs:List ResultVar)(L:St)(os:List SV):Option (List SV×List Cond×List SV) :=
  match rs with
  | []=>some ([],[],os)
  | .tmp t::rs=>match find L t,Tu P rs L os with
    | some x,some (xs,cs,os)=>some (x::xs,cs,os)
    | _,_=>none
  | .cell a t::rs=>match QY P t,find L a,os with
    | some false,some (.v (.pointer (some p))),r::os=>match Tu P rs L os with
      | some (xs,cs,os)=>some (r::xs,(fun w=>w.cell? p=some r.val)::cs,os)
      | none=>none
    | some true,some (.v (.pointer (some p))),.agg ys::os=>if D9 P t=some (SV.width ys) then(match Tu P rs L os with
      | some (xs,cs,os)=>some (.agg ys::xs,(fun w=>Rd w (some p) (SV.cl ys))::cs,os)
      | none=>none) else none
    | _,_,_=>none
def WH:List SV->SV
  | [x]=>x
  | xs=>.qA xs
def resF (a:Act):ResultVar->Sem Value
  | .tmp t=>pure (a.tmps.getD t undef)
  | .cell b t=>do loadVar t (<- asAddr (a.tmps.getD b undef))
theorem resS_sound {a:Act}(ha:Fu n a (Kn L)):∀ (rs:List ResultVar) (os os':List SV) (xs:List SV) (cs:List Cond),Tu P rs L os=some (xs,cs,os')->(∀ c ∈ cs,c w) ->
    (rs.mapM (resF a)).run P w=.ok (SV.vals xs) w:=by
  intro rs
  induction rs with
  | nil =>
    intro os os' xs cs h hc;simp only[Tu,Option.some.injEq,Prod.mk.injEq] at h;obtain⟨rfl,rfl,rfl⟩:=h;rfl
  | cons r rs ih =>
    intro os os' xs cs h hc;cases r with
    | tmp t =>
      simp only[Tu] at h;split at h
      ·rename_i x xs1 cs1 os1 hx hr;simp only[Option.some.injEq,Prod.mk.injEq] at h;obtain⟨rfl,rfl,rfl⟩:=h;have h1:=ha.Zh (Lu hx);simp only[List.mapM_cons,resF,Sem.run_bind,Sem.run_pure,Result.andThen_ok,ih _ _ _ _ hr hc,SV.vals];simp[Array.getD_eq_getD_getElem?,h1]
      ·cases h
    | cell b t =>
      simp only[Tu] at h;split at h
      ·rename_i p r1 os1 hag hx;split at h
       ·rename_i xs1 cs1 os2 hr;simp only[Option.some.injEq,Prod.mk.injEq] at h;obtain⟨rfl,rfl,rfl⟩:=h;have h1:=ha.Zh (Lu hx);have h2:=hc _ (A0g);have h3:=ih _ _ _ _ hr (fun c hcm=>hc c (A0e _ hcm));simp only[List.mapM_cons,resF,Sem.run_bind,Array.getD_eq_getD_getElem?,h1,Option.getD_some,SV.val,asAddr,Sem.run_pure,Result.andThen_ok,loadVar,zt hag,A0z,if_false];simp only[load,Sem.run,h2,Result.andThen_ok];simp only[h3,Result.andThen_ok,Sem.run_pure,SV.vals]
       ·cases h
      ·rename_i p ys os1 hag hx;split at h
       ·rename_i hsz;split at h
        ·rename_i xs1 cs1 os2 hr;simp only[Option.some.injEq,Prod.mk.injEq] at h;obtain⟨rfl,rfl,rfl⟩:=h;have h1:=ha.Zh (Lu hx);have h2:=hc _ (A0g);have h3:=ih _ _ _ _ hr (fun c hcm=>hc c (A0e _ hcm));have hl:=run_loadCells_list (P:=P) (w:=w) p (SV.cl ys) (fun j v hv=>h2.2 p j v rfl hv);have hl2:(SV.cl ys).length=SV.width ys:=jg ys;rw[hl2] at hl;simp only[List.mapM_cons,resF,Sem.run_bind,Array.getD_eq_getD_getElem?,h1,Option.getD_some,SV.val,asAddr,Sem.run_pure,Result.andThen_ok,loadVar,zt hag,if_true,wE hsz,hl,h3,SV.vals]
        ·cases h
       ·cases h
      ·cases h
theorem At_ret {fn:Func}{R:Ending->World->Prop}(os xs:List SV)(cs:List Cond)(hr:Tu P fn.results.toList L os=some (xs,cs,[]))(hc:All cs w)(h:R (.returned (WH xs).val) w) :
    At n (bodyPost P fn R .ret) L w:=by
  intro a ha;refine⟨ha.defers,(WH xs).val,?_,h⟩;have h1:=resS_sound ha _ _ _ _ _ hr (PL hc);have h2:(fn.results.mapM (resF a)).run P w=.ok (vals xs) w:=by
    rw[Array.mapM_eq_mapM_toList,Sem.run_map,h1];rfl
  have h3:results fn a.tmps=(do
      let vs<-fn.results.mapM (resF a)
      pure (if h:vs.size=1 then vs[0] else .tuple vs)):=by
    unfold results;congr 2
  rw[h3];simp only[Sem.run_bind,h2,Result.andThen_ok,Sem.run_pure];congr 1
  match xs with
  | []=>rfl
  | [x]=>rfl
  | x::y::zs=>rfl
def numbered:Nat->List SV->St
  | _,[]=>[]
  | k,x::xs=>(k,x)::numbered (k+1) xs
theorem Fu_enter (xs:List SV)(n:Nat)(hn:xs.length<=n):Fu n { tmps:=vals xs++Array.replicate (n - (vals xs).size) undef,defers:=[] } (Kn (numbered 0 xs)):=by
  have hl:(SV.vals xs).length=xs.length:=by rw[vals_eq];simp
  have hs:(vals xs).size=xs.length:=by simp[vals,hl]
  have key:∀ (ys:List SV) (k:Nat) (p:Nat×SV),p ∈ numbered k ys->k<=p.1/\ys[p.1 - k]?=some p.2:=by
    intro ys
    induction ys with
    | nil=>intro k p hp;simp[numbered] at hp
    | cons y ys ih =>
      intro k p hp;simp only[numbered,ut] at hp;rcases hp with rfl | hp
      ·simp
      ·obtain⟨h1,h2⟩:=ih (k+1) p hp;refine⟨by omega,?_⟩;rw[show p.1 - k=(p.1 - (k+1))+1 from by omega];simpa using h2
  refine⟨⟨rfl,?_,fun e hm _=>?_⟩,fun e hm g w hg=>?_⟩
  ·simp[hs];omega
  ·simp only[Kn,ww] at hm;obtain⟨p,hp,rfl⟩:=hm;obtain⟨_,h2⟩:=key xs 0 p hp;simp only[Nat.sub_zero] at h2;have hlt:p.1 < xs.length:=(A0w.1 h2).1;show(vals xs++_)[p.1]?=_;rw[Array.getElem?_append_left (by rw[hs];exact hlt)];simp only[vals,List.getElem?_toArray];rw[vals_eq];simp[h2]
  ·simp only[Kn,ww] at hm;obtain⟨p,hp,rfl⟩:=hm;cases hg
theorem calls {f:FuncId}{fn:Func}{c:Code}{R:Ending->World->Prop}(xs:List SV)(hf:P.funcs[f]?=some fn)(hb:fn.body=some c)(hn:xs.length<=fn.ntmps)
    (h:W P fn.ntmps c (bodyPost P fn R) (numbered 0 xs) w):Calls P f (vals xs) w R :=
  calls_of_wp hf hb (h _ (Fu_enter xs fn.ntmps hn))
end
section
variable {σ ρ:Type}
def runK (step:σ->Option (σ⊕ρ)):Nat->σ->Option ρ
  | 0,_=>none
  | k+1,s=>match step s with
    | some (.inl s')=>runK step k s'
    | some (.inr r)=>some r
    | none=>none
theorem runK_mono (step:σ->Option (σ⊕ρ)):∀ (k:Nat) (s:σ) (r:ρ),runK step k s=some r->runK step (k+1) s=some r:=by
  intro k
  induction k with
  | zero=>intro s r h;cases h
  | succ k ih =>
    intro s r h;rw[runK] at h;show(match step s with | some (.inl s')=>runK step (k+1) s' | some (.inr r)=>some r | none=>none)=some r;cases hs:step s with
    | none=>rw[hs] at h;cases h
    | some y =>
      rw[hs] at h;cases y with
      | inl s'=>exact ih _ _ h
      | inr r'=>exact h
theorem runK_le (step:σ->Option (σ⊕ρ)){k k':Nat}(h:k<=k'){s:σ}{r:ρ}(hr:runK step k s=some r):runK step k' s=some r:=by
  obtain⟨d,rfl⟩:=Nat.exists_eq_add_of_le h
  induction d with
  | zero=>exact hr
  | succ d ih=>exact runK_mono step _ s r (ih (by omega))
open Classical in
noncomputable def aQ (step:σ->Option (σ⊕ρ))(s:σ):Option ρ :=
  if h:∃ k r,runK step k s=some r then runK step (Classical.choose h) s else none
theorem Ci {step:σ->Option (σ⊕ρ)}{s:σ}{r:ρ}:aQ step s=some r ↔ ∃ k,runK step k s=some r:=by
  unfold aQ;split
  ·rename_i h;obtain⟨r',hr'⟩:=Classical.choose_spec h;constructor
   ·intro hh;exact⟨_,hh⟩
   ·rintro⟨k,hk⟩;have e1:=runK_le step (Nat.le_max_left (Classical.choose h) k) hr';have e2:=runK_le step (Nat.le_max_right (Classical.choose h) k) hk;rw[e1] at e2;rw[hr'];exact e2
  ·rename_i h;constructor
   ·intro hh;cases hh
   ·rintro⟨k,hk⟩;exact absurd ⟨k,r,hk⟩ h
theorem fE {step:σ->Option (σ⊕ρ)}{s s':σ}(h:step s=some (.inl s')):aQ step s=aQ step s':=by
  have key:∀ r,aQ step s=some r ↔ aQ step s'=some r:=by
    intro r;rw[Ci,Ci];constructor
    ·rintro⟨k,hk⟩;cases k with
     | zero=>cases hk
     | succ k=>rw[runK,h] at hk;exact⟨k,hk⟩
    ·rintro⟨k,hk⟩;exact⟨k+1,by rw[runK,h];exact hk⟩
  cases h1:aQ step s with
  | some r=>exact((key r).1 h1).symm
  | none =>
    cases h2:aQ step s' with
    | none=>rfl
    | some r=>rw[(key r).2 h2] at h1;cases h1
theorem fZ {step:σ->Option (σ⊕ρ)}{s:σ}{r:ρ}(h:step s=some (.inr r)):aQ step s=some r :=
  Ci.2 ⟨1,by rw[runK,h]⟩
theorem least {p:Nat->Prop}(h:∃ k,p k):∃ k,p k/\∀ m,p m->k<=m:=by
  obtain⟨k,hk⟩:=h
  induction k using Nat.strongRecOn with
  | _ k ih =>
    by_cases hm:∃ m,m < k/\p m
    ·obtain⟨m,hlt,hp⟩:=hm;exact ih m hlt hp
    ·exact⟨k,hk,fun m hp=>Nat.le_of_not_lt fun hlt=>hm ⟨m,hlt,hp⟩⟩
open Classical in
theorem W_loop {P:Program}{n:Nat}{Q:Exit->Act->World->Prop}{L0:St}{w0:World}{c:Code}(step:σ->Option (σ⊕ρ))(rel:σ->St->World->Prop)(s0:σ)(r:ρ)(hm:aQ step s0=some r)(h0:rel s0 L0 w0)
    (hb:∀ s L w y,rel s L w->step s=some y->(∀ r',y=.inr r'->r'=r) ->
      W P n c (Exit.then (fun a w=>∃ s' L',y=.inl s'/\Fu n a (Kn L')/\rel s' L' w) Q) L w):W P n (.loop c) Q L0 w0:=by
  intro a0 ha0;obtain⟨k0,hk0⟩:=Ci.1 hm
  let J:Nat->Act->World->Prop:=fun k a w=>∃ s L,Fu n a (Kn L)/\rel s L w/\runK step k s=some r
  let μ:Act->World->Nat:=fun a w=>if h:∃ k,J k a w then Classical.choose (least h) else 0
  refine wp_loop (fun a w=>∃ k,J k a w) μ ⟨k0,s0,L0,ha0,h0,hk0⟩ ?_;intro a w hI;have hμ:μ a w=Classical.choose (least hI):=dif_pos hI;obtain⟨s,L,hfu,hrel,hrun⟩:=(Classical.choose_spec (least hI)).1;rw[<- hμ] at hrun;cases hk:μ a w with
  | zero=>rw[hk] at hrun;cases hrun
  | succ k =>
    rw[hk,runK] at hrun;cases hs:step s with
    | none=>rw[hs] at hrun;cases hrun
    | some y =>
      rw[hs] at hrun;have:=hb s L w y hrel hs (by intro r' e;subst e;simpa using hrun) a hfu;refine wp_mono this ?_;intro e a' w' hq;cases e with
      | normal =>
        obtain⟨s',L',rfl,hfu',hrel'⟩:=hq;simp only at hrun;have hJ:J k a' w':=⟨s',L',hfu',hrel',hrun⟩
        refine⟨⟨k,hJ⟩,?_⟩;have hE:∃ k,J k a' w':=⟨k,hJ⟩
        have h1:μ a' w'=Classical.choose (least hE):=dif_pos hE;have h2:Classical.choose (least hE)<=k:=(Classical.choose_spec (least hE)).2 k hJ;omega
      | _=>exact hq
theorem At_round {n:Nat}{Q:Exit->Act->World->Prop}{rel:σ->St->World->Prop}{y:σ⊕ρ}{L:St}{w:World}(s':σ)(hy:y=.inl s')(h:rel s' L w):At n (Exit.then (fun a w=>∃ s' L',y=.inl s'/\Fu n a (Kn L')/\rel s' L' w) Q .normal) L w :=
  fun _ ha=>⟨s',L,hy,ha,h⟩
end
end
section
open Go.RowKit
set_option linter.unusedSimpArgs false
set_option linter.unusedVariables false
structure gy (P:Program)(f:FuncId):Prop where
  ok : ∃ fn c, P.funcs[f]? = some fn /\ fn.body = some c /\ (fn.name == "runtime.NumGoroutine") = false
theorem gy.run {P:Program}{f:FuncId}(h:gy P f)(args:Array Value)(w:World):(callFunc f args).run P w=.ok (.enter f args) w:=by
  obtain⟨fn,c,hf,hb,hn⟩:=h.ok;simp only[callFunc,Sem.run_bind];show(match P.funcs[f]? with | none=>_ | some fn=>_:Sem Next).run P w=_;rw[hf];simp[hn,hb]
def y7 (ops:Array Oper)(ss:A01)(L:St)(o:Oper):Bool :=
  match Zf ops o with
  | some none=>true
  | some g=>settled ss (Kn L) g == some true
  | none=>false
theorem Uk {ops:Array Oper}{ss:A01}{L:St}{o:Oper}{n:Nat}{a:Act}(ha:Fu n a (Kn L))(h:y7 ops ss L o=true):Region.wanted o (yielded ops a.tmps)=true:=by
  unfold y7 at h;split at h
  ·rename_i hg;exact(Gl hg).2 (by intro _ _ hh;cases hh)
  ·rename_i g hne hg;simp only[beq_iff_eq] at h;obtain⟨k,w,rfl,h1,_⟩:=Gm ha h;exact(Gl hg).2 fun k' w' hh=>by
     simp only[Option.some.injEq,Prod.mk.injEq] at hh;obtain⟨rfl,rfl⟩:=hh;exact h1 rfl
  ·cases h
def lk (L:St):Operand->Option SV:=ev (Kn L) none
theorem XP {n:Nat}{a:Act}{L:St}{o:Operand}{x:SV}(ha:Fu n a (Kn L))(h:lk L o=some x):a.eval o=x.val :=
  PD ha.toFr (by intro _ _ hh;cases hh) h
theorem Fu.more {n:Nat}{a:Act}{L:St}(ha:Fu n a (Kn L)){d:Nat}{x:SV}(hd:d < n)(hn:(L.any fun p=>p.1 == d)=false):Fu n (a.put (some d) x.val) (Kn ((d,x)::L)):=by
  have h:=ha.put hd (g:=none) (x:=x) (v:=x.val) (by intro _ _ hh;cases hh) (fun _=>rfl) (by intro _ _ hh;cases hh);refine⟨⟨h.defers,h.size,fun e hm hg=>?_⟩,fun e hm g w hg=>?_⟩
  ·simp only[Kn,kw,ut] at hm;rcases hm with rfl | hm
   ·exact h.at_ _ (by simp[Sx.put]) hg
   ·refine h.at_ e ?_ hg;simp only[Sx.put,ut,List.mem_filter];refine .inr ⟨hm,?_⟩;simp only[ww] at hm;obtain⟨p,hp,rfl⟩:=hm;have:(p.1 == d)=false:=by
      have:=List.any_eq_false.1 hn p hp;simpa using this
    simp only[beq_eq_false_iff_ne,ne_eq] at this;simp[this]
  ·simp only[Kn,ww] at hm;obtain⟨p,_,rfl⟩:=hm;cases hg
section
variable {P:Program}{n:Nat}{Q:Exit->Act->World->Prop}{ops:Array Oper}{rest:List Oper}{L:St}{w:World}{K:St->World->Prop}
def Side (n:Nat)(ops:Array Oper)(ss:A01)(L:St)(o:Oper)(d:Nat)(xs:List Operand)(svs:List SV):Prop :=
  (y7 ops ss L o,o.dst,(decide (d < n)),(L.any fun p=>p.1 == d),toSS xs (lk L))=(true,some d,true,false,some svs)
def yE (P:Program)(n:Nat)(ops:Array Oper)(L:St)(w:World)(o:Oper)(K:St->World->Prop):Prop :=
  ∀ a,Fu n a (Kn L)->Region.wanted o (yielded ops a.tmps)=true/\o.wp P a w (fun a' w'=>∃ L',Fu n a' (Kn L')/\K L' w') (fun _ _ _=>False)
theorem Oper.wp_Q {P:Program}{o:Oper}{a:Act}{w:World}{K:Act->World->Prop}{Q Q':Exit->Act->World->Prop}(hq:∀ e a w,Q e a w->Q' e a w)(h:o.wp P a w K Q):o.wp P a w K Q':=by
  unfold Oper.wp at *;generalize (execOp a.eval o).run P w=r at *;cases r with
  | ok x w' =>
    cases x <;> simp only[Oper.upon] at h ⊢ <;> first | exact h | skip
    refine h.mono fun e w'' he=>?_;cases e with
    | returned v=>exact he
    | panicked c=>exact hq _ _ _ he
    | outgrown=>obtain⟨a',w3,h3⟩:=he;exact⟨a',w3,hq _ _ _ h3⟩
  | halt x w'=>cases x <;> simp only[Oper.upon] at h ⊢ <;> first | exact hq _ _ _ h | exact h
theorem ag {o:Oper}(h:yE P n ops L w o (fun L' w'=>WL P n ops Q rest L' w')):WL P n ops Q (o::rest) L w:=by
  intro a ha;obtain⟨h1,h2⟩:=h a ha;unfold wpList;rw[if_pos h1];refine .inl (Oper.wp_Q (fun _ _ _ hf=>hf.elim) (Oper.wp_mono ?_ h2));rintro a' w' ⟨L',hf,hk⟩;exact hk a' hf
theorem zu {o:Oper}{d:Nat}{xs:List Operand}{svs:List SV}{K:St->World->Prop}(ss:A01)(hs:Side n ops ss L o d xs svs)
    (h:∀ a,Fu n a (Kn L)->xs.map a.eval=SV.vals svs->o.wp P a w (fun a' w'=>∃ x,a'=a.put (some d) x.val/\K ((d,x)::L) w') (fun _ _ _=>False)):yE P n ops L w o K:=by
  intro a ha;simp only[Side,Prod.mk.injEq,lm] at hs;obtain⟨h1,h2,h3,h4,h5⟩:=hs;refine⟨Uk ha h1,Oper.wp_mono ?_ (h a ha (toSS_spec (fun o x hx=>XP ha hx) h5))⟩;rintro a' w' ⟨x,rfl,hk⟩;exact⟨_,ha.more h3 h4,hk⟩
theorem XQ {o:Oper}{xs:List Operand}{svs:List SV}{K:St->World->Prop}(ss:A01)(hs:(y7 ops ss L o,o.dst,toSS xs (lk L))=(true,none,some svs))
    (h:∀ a,Fu n a (Kn L)->xs.map a.eval=SV.vals svs->o.wp P a w (fun a' w'=>a'=a/\K L w') (fun _ _ _=>False)):yE P n ops L w o K:=by
  intro a ha;simp only[Prod.mk.injEq] at hs;obtain⟨h1,h2,h5⟩:=hs;refine⟨Uk ha h1,Oper.wp_mono ?_ (h a ha (toSS_spec (fun o x hx=>XP ha hx) h5))⟩;rintro a' w' ⟨rfl,hk⟩;exact⟨_,ha,hk⟩
end
end
section
open Go.RowKit
set_option linter.unusedSimpArgs false
set_option linter.unusedVariables false
structure HP where
  p:World->(Nat->Prop)->(Nat->Prop)->Prop
  loc:∀ w w' S R,p w S R->(∀ b,S b∨R b->w'.heap[b]?=w.heap[b]?)->p w' S R
def Sep (w:World):List HP->(Nat->Prop)->(Nat->Prop)->Prop
  | [],U,V=>(∀ b,¬ U b)/\∀ b,¬ V b
  | h::hs,U,V=>∃ S R U' V',h.p w S R/\Sep w hs U' V'/\(∀ b,U b ↔ S b∨U' b)/\(∀ b,V b ↔ R b∨V' b)/\(∀ b,S b->¬ U' b/\¬ R b/\¬ V' b)/\∀ b,R b->¬ U' b
theorem Sep.apart {w:World}:∀ {hs:List HP} {U V:Nat->Prop},Sep w hs U V->∀ b,U b->¬ V b:=by
  intro hs
  induction hs with
  | nil=>intro U V h b hb;exact absurd hb (h.1 b)
  | cons x hs ih =>
    rintro U V ⟨S,R,U',V',h1,h2,h3,h4,h5,h6⟩ b hb hv;rcases(h3 b).1 hb with hs' | hu
    ·rcases(h4 b).1 hv with hr | hv'
     ·exact(h5 b hs').2.1 hr
     ·exact(h5 b hs').2.2 hv'
    ·rcases(h4 b).1 hv with hr | hv'
     ·exact h6 b hr hu
     ·exact ih h2 b hu hv'
theorem Sep.keep {w w':World}:∀ {hs:List HP} {U V:Nat->Prop},Sep w hs U V->(∀ b,U b∨V b->w'.heap[b]?=w.heap[b]?)->Sep w' hs U V:=by
  intro hs
  induction hs with
  | nil=>intro U V h _;exact h
  | cons x hs ih =>
    rintro U V ⟨S,R,U',V',h1,h2,h3,h4,h5,h6⟩ hk;exact⟨S,R,U',V',x.loc _ _ _ _ h1 fun b hb=>hk b (hb.imp (fun h=>(h3 b).2 (.inl h)) (fun h=>(h4 b).2 (.inl h))),ih h2 fun b hb=>hk b (hb.imp (fun h=>(h3 b).2 (.inr h)) (fun h=>(h4 b).2 (.inr h))),h3,h4,h5,h6⟩
theorem Sep.split {w:World}:∀ {az bs:List HP} {U V:Nat->Prop},Sep w (az++bs) U V ->
    ∃ U1 V1 U2 V2,Sep w az U1 V1/\Sep w bs U2 V2/\(∀ b,U b ↔ U1 b∨U2 b)/\(∀ b,V b ↔ V1 b∨V2 b)/\(∀ b,U1 b->¬ U2 b/\¬ V2 b)/\∀ b,V1 b->¬ U2 b:=by
  intro az
  induction az with
  | nil=>intro bs U V h;exact⟨fun _=>False,fun _=>False,U,V,⟨fun _ h=>h,fun _ h=>h⟩,h,by simp,by simp,fun _ h=>h.elim,fun _ h=>h.elim⟩
  | cons x az ih =>
    rintro bs U V ⟨S,R,U',V',h1,h2,h3,h4,h5,h6⟩;obtain⟨U1,V1,U2,V2,e1,e2,e3,e4,e5,e6⟩:=ih h2;refine⟨fun b=>S b∨U1 b,fun b=>R b∨V1 b,U2,V2,⟨S,R,U1,V1,h1,e1,fun _=>Iff.rfl,fun _=>Iff.rfl,fun b hb=>?_,fun b hb=>?_⟩,e2,?_,?_,?_,?_⟩
    ·have:=h5 b hb;rw[e3,e4] at this;exact⟨fun h=>this.1 (.inl h),this.2.1,fun h=>this.2.2 (.inl h)⟩
    ·have:=h6 b hb;rw[e3] at this;exact fun h=>this (.inl h)
    ·intro b;rw[h3,e3,or_assoc]
    ·intro b;rw[h4,e4,or_assoc]
    ·rintro b (hb | hb)
     ·have:=h5 b hb;rw[e3,e4] at this;exact⟨fun h=>this.1 (.inr h),fun h=>this.2.2 (.inr h)⟩
     ·exact e5 b hb
    ·rintro b (hb | hb)
     ·have:=h6 b hb;rw[e3] at this;exact fun h=>this (.inr h)
     ·exact e6 b hb
theorem Sep.join {w:World}:∀ {az bs:List HP} {U1 V1 U2 V2:Nat->Prop},Sep w az U1 V1->Sep w bs U2 V2->(∀ b,U1 b->¬ U2 b/\¬ V2 b)->(∀ b,V1 b->¬ U2 b) ->
    Sep w (az++bs) (fun b=>U1 b∨U2 b) (fun b=>V1 b∨V2 b):=by
  intro az
  induction az with
  | nil =>
    rintro bs U1 V1 U2 V2 ⟨ha,hb⟩ h2 h3 h4;have e1:(fun b=>U1 b∨U2 b)=U2:=by funext b;simp[ha b]
    have e2:(fun b=>V1 b∨V2 b)=V2:=by funext b;simp[hb b]
    rw[e1,e2];exact h2
  | cons x az ih =>
    rintro bs U1 V1 U2 V2 ⟨S,R,U',V',h1,h2,h3,h4,h5,h6⟩ hb hu hv;refine⟨S,R,_,_,h1,ih h2 hb (fun b h=>hu b ((h3 b).2 (.inr h))) (fun b h=>hv b ((h4 b).2 (.inr h))),fun b=>by simp only[h3,or_assoc],fun b=>by simp only[h4,or_assoc],fun b hs=>?_,fun b hr=>?_⟩
    ·have e:=h5 b hs;have e':=hu b ((h3 b).2 (.inl hs));exact⟨fun h=>h.elim e.1 e'.1,e.2.1,fun h=>h.elim e.2.2 e'.2⟩
    ·have e:=h6 b hr;have e':=hv b ((h4 b).2 (.inl hr));exact fun h=>h.elim e e'
theorem Sep.cut {w:World}{hs:List HP}{i:Nat}{h:HP}{U V:Nat->Prop}(hi:hs[i]?=some h)(k:Sep w hs U V) :
    ∃ S R U' V',h.p w S R/\Sep w (hs.eraseIdx i) U' V'/\(∀ b,U b ↔ S b∨U' b)/\(∀ b,V b ↔ R b∨V' b)/\(∀ b,S b->¬ U' b/\¬ R b/\¬ V' b)/\∀ b,R b->¬ U' b:=by
  induction hs generalizing i U V with
  | nil=>simp at hi
  | cons x hs ih =>
    cases i with
    | zero =>
      simp only[List.getElem?_cons_zero,Option.some.injEq] at hi;subst hi;exact k
    | succ i =>
      simp only[List.getElem?_cons_succ] at hi;obtain⟨S,R,U',V',h1,h2,h3,h4,h5,h6⟩:=k;obtain⟨S1,R1,U1,V1,e1,e2,e3,e4,e5,e6⟩:=ih hi h2;refine⟨S1,R1,fun b=>S b∨U1 b,fun b=>R b∨V1 b,e1,⟨S,R,U1,V1,h1,e2,fun _=>Iff.rfl,fun _=>Iff.rfl,fun b hb=>?_,fun b hb=>?_⟩,?_,?_,?_,?_⟩
      ·have:=h5 b hb;rw[e3,e4] at this;exact⟨fun h=>this.1 (.inr h),this.2.1,fun h=>this.2.2 (.inr h)⟩
      ·have:=h6 b hb;rw[e3] at this;exact fun h=>this (.inr h)
      ·intro b;rw[h3,e3];constructor <;> (rintro(h | h | h) <;> simp[h])
      ·intro b;rw[h4,e4];constructor <;> (rintro(h | h | h) <;> simp[h])
      ·intro b hb;refine⟨?_,(e5 b hb).2.1,?_⟩
       ·rintro(h | h)
        ·exact(h5 b h).1 ((e3 b).2 (.inl hb))
        ·exact(e5 b hb).1 h
       ·rintro(h | h)
        ·exact h6 b h ((e3 b).2 (.inl hb))
        ·exact(e5 b hb).2.2 h
      ·intro b hb;rintro(h | h)
       ·exact(h5 b h).2.2 ((e4 b).2 (.inl hb))
       ·exact e6 b hb h
theorem Sep.put {w:World}{hs:List HP}{i:Nat}{h h':HP}(hi:hs[i]?=some h){S R U' V':Nat->Prop}(h1:h'.p w S R)(h2:Sep w (hs.eraseIdx i) U' V')(h3:∀ b,S b->¬ U' b/\¬ R b/\¬ V' b)(h4:∀ b,R b->¬ U' b) :
    Sep w (hs.set i h') (fun b=>S b∨U' b) (fun b=>R b∨V' b):=by
  induction hs generalizing i U' V' with
  | nil=>simp at hi
  | cons x hs ih =>
    cases i with
    | zero=>exact⟨S,R,U',V',h1,h2,fun _=>Iff.rfl,fun _=>Iff.rfl,h3,h4⟩
    | succ i =>
      simp only[List.getElem?_cons_succ] at hi;simp only[List.eraseIdx_cons_succ] at h2;obtain⟨S1,R1,U1,V1,e1,e2,e3,e4,e5,e6⟩:=h2;have key:=ih hi e2 (fun b hb=>⟨fun h=>(h3 b hb).1 ((e3 b).2 (.inr h)),(h3 b hb).2.1,fun h=>(h3 b hb).2.2 ((e4 b).2 (.inr h))⟩) (fun b hb h=>h4 b hb ((e3 b).2 (.inr h)));refine⟨S1,R1,_,_,e1,key,fun b=>?_,fun b=>?_,fun b hb=>?_,fun b hb=>?_⟩
      ·simp only[e3];constructor <;> (rintro(h | h | h) <;> simp[h])
      ·simp only[e4];constructor <;> (rintro(h | h | h) <;> simp[h])
      ·refine⟨?_,(e5 b hb).2.1,?_⟩
       ·rintro(h | h)
        ·exact(h3 b h).1 ((e3 b).2 (.inl hb))
        ·exact(e5 b hb).1 h
       ·rintro(h | h)
        ·exact h4 b h ((e3 b).2 (.inl hb))
        ·exact(e5 b hb).2.2 h
      ·rintro(h | h)
       ·exact(h3 b h).2.2 ((e4 b).2 (.inl hb))
       ·exact e6 b hb h
structure Cx (F O:Nat->Prop)(w0 w:World)(hs:List HP):Prop where
  os:w.os=w0.os
  tape:w.tape=w0.tape
  output:w.output=w0.output
  size:w0.heap.size<=w.heap.size
  block:∀ b,b < w0.heap.size->¬ F b->w.heap[b]?=w0.heap[b]?
  fin:∀ b,F b->b < w0.heap.size/\¬ O b
  QT:∀ b,O b->b < w0.heap.size
  sep:∃ U V,Sep w hs U V/\(∀ b,U b->F b∨(w0.heap.size<=b/\b < w.heap.size))/\∀ b,V b->(O b∨F b)∨(w0.heap.size<=b/\b < w.heap.size)
section
variable {F O:Nat->Prop}{w0 w w':World}{hs:List HP}
theorem Cx.drew (h:Cx F O w0 w hs)(m:Nat):Cx F O w0 (w.drewN m) hs:=by
  obtain⟨U,V,h1,h2,h3⟩:=h.sep;exact⟨h.os,h.tape,h.output,h.size,h.block,h.fin,h.QT,U,V,Sep.keep (w:=w) (w':=w.drewN m) h1 fun _ _=>rfl,h2,h3⟩
theorem Cx.drop (h:Cx F O w0 w hs)(i:Nat):Cx F O w0 w (hs.eraseIdx i):=by
  cases hi:hs[i]? with
  | none =>
    have:hs.eraseIdx i=hs:=List.eraseIdx_of_length_le (by simpa using hi);rw[this];exact h
  | some x =>
    obtain⟨U,V,h1,h2,h3⟩:=h.sep;obtain⟨S,R,U',V',e1,e2,e3,e4,e5,e6⟩:=Sep.cut hi h1;exact⟨h.os,h.tape,h.output,h.size,h.block,h.fin,h.QT,U',V',e2,fun b hb=>h2 b ((e3 b).2 (.inr hb)),fun b hb=>h3 b ((e4 b).2 (.inr hb))⟩
theorem Cx.get {h:HP}(k:Cx F O w0 w hs)(i:Nat)(hi:hs[i]?=some h):∃ S R,h.p w S R:=by
  obtain⟨U,V,h1,h2,h3⟩:=k.sep;obtain⟨S,R,U',V',e1,_⟩:=Sep.cut hi h1;exact⟨S,R,e1⟩
theorem Cx.upd {h h':HP}(k:Cx F O w0 w hs)(i:Nat)(hi:hs[i]?=some h)(row:A03)(hg:w.grownBy w' row)
    (hstep:∀ S R,h.p w S R->(∀ b,S b->¬ R b)->(∀ b,S b∨R b->b < w.heap.size)->(∀ g,row=some g->S g)/\∃ S' R',h'.p w' S' R'/\(∀ b,S' b->b < w'.heap.size/\¬ R' b/\(S b∨w.heap.size<=b))/\∀ b,R' b->b < w'.heap.size/\(R b∨S b∨w.heap.size<=b)):Cx F O w0 w' (hs.set i h'):=by
  obtain⟨U,V,h1,h2,h3⟩:=k.sep;obtain⟨S,R,U',V',e1,e2,e3,e4,e5,e6⟩:=Sep.cut hi h1;have hU:∀ b,U b->b < w.heap.size:=fun b hb=>(h2 b hb).elim (fun h=>A0u (k.fin b h).1 k.size) (·.2);have hV:∀ b,V b->b < w.heap.size:=fun b hb=>(h3 b hb).elim (fun h=>A0u (h.elim (k.QT b) fun h=>(k.fin b h).1) k.size) (·.2);obtain⟨hrow,S',R',f1,f2,f3⟩:=hstep S R e1 (fun b hb=>(e5 b hb).2.1) (fun b hb=>hb.elim (fun h=>hU b ((e3 b).2 (.inl h))) (fun h=>hV b ((e4 b).2 (.inl h))));have hkeep:∀ b,b < w.heap.size->¬ S b->w'.heap[b]?=w.heap[b]?:=fun b hb hn=>hg.block b hb fun e=>hn (hrow b e.symm);have e2':Sep w' (hs.eraseIdx i) U' V':=Sep.keep e2 fun b hb=>by
    rcases hb with hb | hb
    ·exact hkeep b (hU b ((e3 b).2 (.inr hb))) fun hs=>(e5 b hs).1 hb
    ·exact hkeep b (hV b ((e4 b).2 (.inr hb))) fun hs=>(e5 b hs).2.2 hb
  have hnew:∀ b,w.heap.size<=b->¬ U' b/\¬ V' b:=fun b hb=>⟨fun h=>by have:=hU b ((e3 b).2 (.inr h));omega,fun h=>by have:=hV b ((e4 b).2 (.inr h));omega⟩
  refine⟨hg.os.trans k.os,hg.tape.trans k.tape,hg.output.trans k.output,A0s k.size hg.size,fun b hb hn=>?_,k.fin,k.QT,_,_,Sep.put hi f1 e2' (fun b hb=>?_) (fun b hb=>?_),?_,?_⟩
  ·rw[hkeep b (A0u hb k.size) fun hs=>?_]
   ·exact k.block b hb hn
   ·rcases h2 b ((e3 b).2 (.inl hs)) with h | h
    ·exact hn h
    ·omega
  ·obtain⟨g1,g2,g3⟩:=f2 b hb;rcases g3 with g3 | g3
   ·exact⟨(e5 b g3).1,g2,(e5 b g3).2.2⟩
   ·exact⟨(hnew b g3).1,g2,(hnew b g3).2⟩
  ·obtain⟨g1,g2⟩:=f3 b hb;rcases g2 with g2 | g2 | g2
   ·exact e6 b g2
   ·exact(e5 b g2).1
   ·exact(hnew b g2).1
  ·rintro b (hb | hb)
   ·obtain⟨g1,g2,g3⟩:=f2 b hb;rcases g3 with g3 | g3
    ·rcases h2 b ((e3 b).2 (.inl g3)) with h | h
     ·exact .inl h
     ·exact .inr ⟨h.1,g1⟩
    ·exact .inr ⟨A0s k.size g3,g1⟩
   ·rcases h2 b ((e3 b).2 (.inr hb)) with h | h
    ·exact .inl h
    ·exact .inr ⟨h.1,A0u h.2 hg.size⟩
  ·rintro b (hb | hb)
   ·obtain⟨g1,g2⟩:=f3 b hb;rcases g2 with g2 | g2 | g2
    ·rcases h3 b ((e4 b).2 (.inl g2)) with h | h
     ·exact .inl h
     ·exact .inr ⟨h.1,g1⟩
    ·rcases h2 b ((e3 b).2 (.inl g2)) with h | h
     ·exact .inl (.inr h)
     ·exact .inr ⟨h.1,g1⟩
    ·exact .inr ⟨A0s k.size g2,g1⟩
   ·rcases h3 b ((e4 b).2 (.inr hb)) with h | h
    ·exact .inl h
    ·exact .inr ⟨h.1,A0u h.2 hg.size⟩
theorem Cx.enter {ins rest:List HP}(k:Cx F O w0 w (ins++rest)):∃ F1 O1:Nat->Prop,Cx F1 O1 w w ins/\(∀ b,O b->O1 b)/\(∀ (i:Nat) (h:HP),rest[i]?=some h->∃ S R,h.p w S R/\(∀ b,R b->O1 b)/\∀ b,S b->¬ F1 b)/\(∀ b,F1 b->F b∨w0.heap.size<=b) /\
    ∀ w' outs,Cx F1 O1 w w' outs->Cx F O w0 w' (outs++rest):=by
  obtain⟨U,V,h1,h2,h3⟩:=k.sep;obtain⟨U1,V1,U2,V2,e1,e2,e3,e4,e5,e6⟩:=Sep.split h1;have hU:∀ b,U b->b < w.heap.size:=fun b hb=>(h2 b hb).elim (fun h=>A0u (k.fin b h).1 k.size) (·.2);have hV:∀ b,V b->b < w.heap.size:=fun b hb=>(h3 b hb).elim (fun h=>A0u (h.elim (k.QT b) fun h=>(k.fin b h).1) k.size) (·.2);have hOw:∀ b,O b->b < w.heap.size:=fun b hb=>A0u (k.QT b hb) k.size;have hUO:∀ b,U b->¬ O b:=fun b hb ho=>(h2 b hb).elim (fun h=>(k.fin b h).2 ho) (fun h=>by have:=k.QT b ho;omega);refine⟨U1,fun b=>O b∨V1 b∨V2 b,⟨rfl,rfl,rfl,Nat.le_refl _,fun _ _ _=>rfl,fun b hb=>⟨hU b ((e3 b).2 (.inl hb)),?_⟩,?_,U1,V1,e1,fun b hb=>.inl hb,fun b hb=>.inl (.inl (.inr (.inl hb)))⟩,fun b hb=>.inl hb,?_,fun b hb=>(h2 b ((e3 b).2 (.inl hb))).imp id (·.1),?_⟩
  ·rintro(h | h | h)
   ·exact hUO b ((e3 b).2 (.inl hb)) h
   ·exact Sep.apart e1 b hb h
   ·exact(e5 b hb).2 h
  ·rintro b (h | h | h)
   ·exact hOw b h
   ·exact hV b ((e4 b).2 (.inl h))
   ·exact hV b ((e4 b).2 (.inr h))
  ·intro i h hi;obtain⟨S,R,U',V',f1,f2,f3,f4,f5,f6⟩:=Sep.cut hi e2;exact⟨S,R,f1,fun b hb=>.inr (.inr ((f4 b).2 (.inl hb))),fun b hb hf=>(e5 b hf).1 ((f3 b).2 (.inl hb))⟩
  ·intro w' outs k';obtain⟨U',V',g1,g2,g3⟩:=k'.sep;have e2':Sep w' rest U2 V2:=Sep.keep e2 fun b hb=>by
     refine k'.block b ?_ ?_
     ·exact hb.elim (fun h=>hU b ((e3 b).2 (.inr h))) (fun h=>hV b ((e4 b).2 (.inr h)))
     ·exact fun hf=>hb.elim (fun h=>(e5 b hf).1 h) (fun h=>(e5 b hf).2 h)
   refine⟨k'.os.trans k.os,k'.tape.trans k.tape,k'.output.trans k.output,A0s k.size k'.size,fun b hb hn=>?_,k.fin,k.QT,_,_,Sep.join g1 e2' (fun b hb=>?_) (fun b hb=>?_),?_,?_⟩
   ·rw[k'.block b (A0u hb k.size) fun hf=>?_]
    ·exact k.block b hb hn
    ·rcases h2 b ((e3 b).2 (.inl hf)) with h | h
     ·exact hn h
     ·omega
   ·rcases g2 b hb with h | h
    ·exact e5 b h
    ·exact⟨fun h'=>by have:=hU b ((e3 b).2 (.inr h'));omega,fun h'=>by have:=hV b ((e4 b).2 (.inr h'));omega⟩
   ·intro h';rcases g3 b hb with(h | h) | h
    ·rcases h with h | h | h
     ·exact hUO b ((e3 b).2 (.inr h')) h
     ·exact e6 b h h'
     ·exact Sep.apart e2 b h' h
    ·exact(e5 b h).1 h'
    ·have:=hU b ((e3 b).2 (.inr h'));omega
   ·rintro b (hb | hb)
    ·rcases g2 b hb with h | h
     ·rcases h2 b ((e3 b).2 (.inl h)) with h' | h'
      ·exact .inl h'
      ·exact .inr ⟨h'.1,A0u h'.2 k'.size⟩
     ·exact .inr ⟨A0s k.size h.1,h.2⟩
    ·rcases h2 b ((e3 b).2 (.inr hb)) with h' | h'
     ·exact .inl h'
     ·exact .inr ⟨h'.1,A0u h'.2 k'.size⟩
   ·have old:∀ b,V b->(O b∨F b)∨(w0.heap.size<=b/\b < w'.heap.size):=fun b hb=>(h3 b hb).imp id fun h=>⟨h.1,A0u h.2 k'.size⟩
    rintro b (hb | hb)
    ·rcases g3 b hb with(h | h) | h
     ·rcases h with h | h | h
      ·exact .inl (.inl h)
      ·exact old b ((e4 b).2 (.inl h))
      ·exact old b ((e4 b).2 (.inr h))
     ·rcases h2 b ((e3 b).2 (.inl h)) with h' | h'
      ·exact .inl (.inr h')
      ·exact .inr ⟨h'.1,A0u h'.2 k'.size⟩
     ·exact .inr ⟨A0s k.size h.1,h.2⟩
    ·exact old b ((e4 b).2 (.inr hb))
theorem Cx.Ul {h h':HP}(k:Cx F O w0 w hs)(i:Nat)(hi:hs[i]?=some h)(row:A03)(hg:w.grownBy w' row)
    (hstep:∀ S R,h.p w S R->(∀ b,S b->b < w.heap.size)->(∀ g,row=some g->S g)/\∃ S' R',h'.p w' S' R'/\(∀ b,S' b->b < w'.heap.size/\(S b∨w.heap.size<=b))/\∀ b,¬ R' b):Cx F O w0 w' (hs.set i h') :=
  k.upd i hi row hg fun S R hp hd hlt=>by
    obtain⟨h1,S',R',h2,h3,h4⟩:=hstep S R hp fun b hb=>hlt b (.inl hb);exact⟨h1,S',R',h2,fun b hb=>⟨(h3 b hb).1,h4 b,(h3 b hb).2⟩,fun b hb=>(h4 b hb).elim⟩
def N0:Nat->Prop:=fun _=>False
theorem Cx.refl (w:World):Cx N0 N0 w w []:=⟨rfl,rfl,rfl,Nat.le_refl _,fun _ _ _=>rfl,fun _ h=>h.elim,fun _ h=>h.elim,N0,N0,⟨fun _ h=>h,fun _ h=>h⟩,fun _ h=>h.elim,fun _ h=>h.elim⟩
theorem Cx.below {w0 w:World}{O:Nat->Prop}{hs:List HP}(k:Cx N0 O w0 w hs):Below w0.heap.size w0 w:=⟨k.os,k.tape,k.output,k.size,fun b hb=>k.block b hb fun h=>h⟩
theorem Cx.call {az:List HP}(k:Cx F O w0 w hs)(k':Cx N0 N0 w w' az):Cx F O w0 w' (hs++az):=by
  obtain⟨U,V,h1,h2,h3⟩:=k.sep;obtain⟨U',V',g1,g2,g3⟩:=k'.sep;have hU:∀ b,U b->b < w.heap.size:=fun b hb=>(h2 b hb).elim (fun h=>A0u (k.fin b h).1 k.size) (·.2);have hV:∀ b,V b->b < w.heap.size:=fun b hb=>(h3 b hb).elim (fun h=>A0u (h.elim (k.QT b) fun h=>(k.fin b h).1) k.size) (·.2);have gU:∀ b,U' b->w.heap.size<=b/\b < w'.heap.size:=fun b hb=>(g2 b hb).elim (fun h=>h.elim) id;have gV:∀ b,V' b->w.heap.size<=b/\b < w'.heap.size:=fun b hb=>(g3 b hb).elim (fun h=>h.elim (fun h=>h.elim) (fun h=>h.elim)) id;have e1:Sep w' hs U V:=Sep.keep h1 fun b hb=>k'.block b (hb.elim (hU b) (hV b)) fun h=>h;refine⟨k'.os.trans k.os,k'.tape.trans k.tape,k'.output.trans k.output,A0s k.size k'.size,fun b hb hn=>?_,k.fin,k.QT,_,_,Sep.join e1 g1 (fun b hb=>⟨fun h=>?_,fun h=>?_⟩) (fun b hb h=>?_),?_,?_⟩
  ·rw[k'.block b (A0u hb k.size) fun h=>h];exact k.block b hb hn
  ·have:=hU b hb;have:=gU b h;omega
  ·have:=hU b hb;have:=gV b h;omega
  ·have:=hV b hb;have:=gU b h;omega
  ·rintro b (hb | hb)
   ·exact(h2 b hb).imp id fun h=>⟨h.1,A0u h.2 k'.size⟩
   ·exact .inr ⟨A0s k.size (gU b hb).1,(gU b hb).2⟩
  ·rintro b (hb | hb)
   ·exact(h3 b hb).imp id fun h=>⟨h.1,A0u h.2 k'.size⟩
   ·exact .inr ⟨A0s k.size (gV b hb).1,(gV b hb).2⟩
end
end
section
open Go.RowKit
set_option linter.unusedSimpArgs false
set_option linter.unusedVariables false
variable {α β:Type}
structure Enc (α:Type) where
  sz:Nat
  f:α->List Value
  len:∀ x,(f x).length=sz
  one:∀ x,∀ v ∈ f x,v.oneCell'=true
def Enc.all (E:Enc α):List α->List Value
  | []=>[]
  | x::xs=>E.f x++E.all xs
theorem Enc.iy (E:Enc α)(xs:List α):(E.all xs).length=xs.length*E.sz:=by
  induction xs with
  | nil=>simp[Enc.all]
  | cons x xs ih=>simp only[Enc.all,Pi,E.len,ih,bi,Nat.add_mul];omega
theorem Enc.all_append (E:Enc α)(xs ys:List α):E.all (xs++ys)=E.all xs++E.all ys:=by
  induction xs with
  | nil=>rfl
  | cons x xs ih=>simp[Enc.all,ih,ul]
theorem Enc.JZ (E:Enc α)(xs:List α):∀ v ∈ E.all xs,v.oneCell'=true:=by
  induction xs with
  | nil=>intro v hv;cases hv
  | cons x xs ih =>
    intro v hv;simp only[Enc.all,List.mem_append] at hv;exact hv.elim (E.one x v) (ih v)
theorem Enc.GU (E:Enc α)(xs:List α)(j:Nat):(E.all xs).take (j*E.sz)=E.all (xs.take j):=by
  by_cases h:j<=xs.length
  ·have e:E.all xs=E.all (xs.take j)++E.all (xs.drop j):=by rw[<- Enc.all_append,List.take_append_drop]
   rw[e];have:(E.all (xs.take j)).length=j*E.sz:=by rw[Enc.iy,A0i,Nat.min_eq_left h]
   rw[<- this,List.take_left]
  ·rw[List.take_of_length_le (l:=xs) (by omega),List.take_of_length_le];rw[Enc.iy];exact A1D _ (by omega)
theorem Enc.PM (E:Enc α)(xs:List α)(j:Nat):(E.all xs).drop (j*E.sz)=E.all (xs.drop j):=by
  by_cases h:j<=xs.length
  ·have e:E.all xs=E.all (xs.take j)++E.all (xs.drop j):=by rw[<- Enc.all_append,List.take_append_drop]
   rw[e];have:(E.all (xs.take j)).length=j*E.sz:=by rw[Enc.iy,A0i,Nat.min_eq_left h]
   rw[<- this,List.drop_left]
  ·rw[List.drop_of_length_le (by omega:xs.length<=j),List.drop_of_length_le]
   ·rfl
   ·rw[Enc.iy];exact A1D _ (by omega)
theorem Enc.WI (E:Enc α){xs:List α}{j:Nat}{x:α}(h:xs[j]?=some x):E.all xs=E.all (xs.take j)++E.f x++E.all (xs.drop (j+1)):=by
  have hlt:=(A0w.1 h).1;have e:xs=xs.take j++(x::xs.drop (j+1)):=by
    have:=List.take_append_drop j xs;rw[A0f hlt,(A0w.1 h).2] at this;exact this.symm
  rw[show E.all xs=E.all (xs.take j++(x::xs.drop (j+1))) from by rw[<- e],Enc.all_append];simp[Enc.all,ul]
theorem Enc.XR (E:Enc α){xs:List α}{j:Nat}{x:α}(h:xs[j]?=some x):((E.all xs).drop (j*E.sz)).take E.sz=E.f x:=by
  rw[Enc.PM];have hlt:=(A0w.1 h).1;rw[A0f hlt,(A0w.1 h).2];simp only[Enc.all];have:=E.len x;rw[<- this,List.take_left]
theorem Enc.Zj (E:Enc α){xs:List α}{j:Nat}{x:α}(h:xs[j]?=some x){k:Nat}{v:Value}(hv:(E.f x)[k]?=some v):(E.all xs)[j*E.sz+k]?=some v:=by
  have h1:=E.XR h;have hk:k < E.sz:=by rw[<- E.len x];exact(A0w.1 hv).1
  rw[<- h1,List.getElem?_take_of_lt hk,List.getElem?_drop] at hv;exact hv
def pat (l:List Value)(k:Nat)(vs:List Value):List Value:=l.take k++vs++l.drop (k+vs.length)
theorem Um {l vs:List Value}{k:Nat}(h:k+vs.length<=l.length):(pat l k vs).length=l.length:=by
  simp only[pat,Pi,A0i,A1F];omega
theorem XT (a l b:List Value)(k:Nat)(vs:List Value)(h:k+vs.length<=l.length):pat (a++l++b) (a.length+k) vs=a++pat l k vs++b:=by
  unfold pat;rw[ul a l b,List.take_append,List.take_of_length_le (by omega),List.drop_append,List.drop_of_length_le (by omega)];rw[show a.length+k - a.length=k from by omega,show a.length+k+vs.length - a.length=k+vs.length from by omega];rw[List.take_append_of_le_length (by omega),List.drop_append_of_le_length h];simp[ul]
theorem Enc.XU (E:Enc α){xs:List α}{j:Nat}{x y:α}(h:xs[j]?=some x){k:Nat}{vs:List Value}(hy:E.f y=pat (E.f x) k vs)(hk:k+vs.length<=E.sz):E.all (xs.set j y)=pat (E.all xs) (j*E.sz+k) vs:=by
  have hlt:=(A0w.1 h).1;rw[E.WI h];have hl:(E.all (xs.take j)).length=j*E.sz:=by rw[Enc.iy,A0i,Nat.min_eq_left (Nat.le_of_lt hlt)]
  rw[<- hl,XT _ _ _ _ _ (by rw[E.len];exact hk),<-hy];have h2:(xs.set j y)[j]?=some y:=by simp[hlt]
  rw[E.WI h2];rw[List.take_set,List.set_eq_of_length_le (by simp;omega),List.drop_set_of_lt (by omega)]
def e8:Enc UInt8:=⟨1,fun x=>[bV x],fun _=>rfl,fun x v h=>by rw[A0d.1 h];rfl⟩
def e16:Enc UInt16:=⟨1,fun x=>[.int .u16 x.toNat],fun _=>rfl,fun x v h=>by rw[A0d.1 h];rfl⟩
def e32:Enc UInt32:=⟨1,fun x=>[.int .u32 x.toNat],fun _=>rfl,fun x v h=>by rw[A0d.1 h];rfl⟩
def e64:Enc UInt64:=⟨1,fun x=>[.int .u64 x.toNat],fun _=>rfl,fun x v h=>by rw[A0d.1 h];rfl⟩
def eI:Enc Int:=⟨1,fun x=>[.int .i64 x],fun _=>rfl,fun x v h=>by rw[A0d.1 h];rfl⟩
def eS:Enc (AC):=⟨1,fun x=>[.string ⟨⟨x⟩⟩],fun _=>rfl,fun x v h=>by rw[A0d.1 h];rfl⟩
def eB:Enc Bool:=⟨1,fun x=>[.bool x],fun _=>rfl,fun x v h=>by rw[A0d.1 h];rfl⟩
def eP (E:Enc α)(F:Enc β):Enc (α×β):=⟨E.sz+F.sz,fun x=>E.f x.1++F.f x.2,fun x=>by simp[E.len,F.len],fun x v h=>by
  simp only[List.mem_append] at h;exact h.elim (E.one _ v) (F.one _ v)⟩
def eV (E:Enc α)(n:Nat):Enc (Vec α n):=⟨n*E.sz,fun x=>E.all x.l,fun x=>by rw[E.iy,x.h],fun x=>E.JZ x.l⟩
def Enc.vec (E:Enc α){n:Nat}(x:Vec α n):Cells (n*E.sz):=⟨E.all x.l,by rw[E.iy,x.h],E.JZ x.l⟩
theorem zy (xs:AC):e8.all xs=xs.map bV:=by
  induction xs with
  | nil=>rfl
  | cons x xs ih=>simp[Enc.all,e8,ih] ;exact ih
def Pt (A:EQ)(off:Nat)(p:EQ):Prop:=A.isSome=true->p=fa A off
theorem J3 (a:Addr)(i j:Nat):(a.add i).add j=a.add (i+j):=by
  unfold Addr.add;by_cases hi:i=0 <;> by_cases hj:j=0 <;> simp[hi,hj,Nat.add_assoc]
theorem Pt.refl (A:EQ):Pt A 0 A:=fun h=>by
  cases A with
  | none=>cases h
  | some a=>simp[fa,Addr.add]
theorem Pt.ix {A p:EQ}{off:Nat}(h:Pt A off p)(i:Int)(s:Nat):Pt A (off+i.toNat*s) (lh p i s):=fun hA=>by
  rw[h hA];cases A with
  | none=>cases hA
  | some a=>simp[lh,fa,J3]
theorem Pt.fa {A p:EQ}{off:Nat}(h:Pt A off p)(k:Nat):Pt A (off+k) (fa p k):=fun hA=>by
  rw[h hA];cases A with
  | none=>cases hA
  | some a=>simp[Sx.fa,J3]
theorem Rd.cellP {w:World}{A p:EQ}{off:Nat}{cs:List Value}{v:Value}(h:Rd w A cs)(hp:Pt A off p)(hv:cs[off]?=some v):∃ a,p=some a/\w.cell? a=some v:=by
  obtain⟨a,rfl⟩:=h.1 (by intro e;rw[e] at hv;cases hv);exact⟨a.add off,hp rfl,h.2 a off v rfl hv⟩
theorem Rd.partP {w:World}{A p:EQ}{off n:Nat}{cs:List Value}(h:Rd w A cs)(hp:Pt A off p)(hl:off+n<=cs.length)(hn:0 < n):∃ a,p=some a/\Rd w (some a) ((cs.drop off).take n):=by
  obtain⟨a,rfl⟩:=h.1 (by intro e;rw[e] at hl;simp at hl;omega);refine⟨a.add off,hp rfl,fun _=>⟨_,rfl⟩,fun b j u hb hu=>?_⟩;cases hb;rw[List.getElem?_take] at hu;split at hu
  ·rw[List.getElem?_drop] at hu;rw[J3];exact h.2 a _ u rfl hu
  ·cases hu
theorem kY {E:Enc α}{w:World}{A:EQ}{xs:List α}{i:Int}{x:α}(h:Rd w A (E.all xs))(hsz:0 < E.sz)(h0:0<=i)(hx:xs[i.toNat]?=some x):A.isSome=true:=by
  obtain⟨a,rfl⟩:=h.1 (by
    intro e;have:=congrArg List.length e;rw[Enc.iy] at this;have hlt:=(A0w.1 hx).1;have:0 < xs.length*E.sz:=Nat.mul_pos (by omega) hsz
    simp_all)
  rfl
end
section
open Go.RowKit
set_option linter.unusedSimpArgs false
set_option linter.unusedVariables false
variable {α β:Type}
def NF (fr:Nat×Nat)(n:Nat):Prop:=fr.2=fr.1∨n<=fr.1
def Rw (w:World)(g:Nat)(cur:Array Value)(t:TypeId):Prop:=∃ fr,w.heap[g]?=some (.cells cur t fr)/\NF fr cur.size
theorem Rw.lt {w:World}{g:Nat}{cur:Array Value}{t:TypeId}(h:Rw w g cur t):g < w.heap.size:=by
  obtain⟨fr,h,_⟩:=h;exact(Array.getElem?_eq_some_iff.1 h).1
theorem Rw.keep {w w':World}{g:Nat}{cur:Array Value}{t:TypeId}(h:Rw w g cur t)(he:w'.heap[g]?=w.heap[g]?):Rw w' g cur t:=by
  obtain⟨fr,h,h2⟩:=h;exact⟨fr,by rw[he];exact h,h2⟩
theorem Rw.inj {w:World}{g:Nat}{cur cur':Array Value}{t t':TypeId}(h:Rw w g cur t)(h':Rw w g cur' t'):cur=cur'/\t=t':=by
  obtain⟨fr,h,_⟩:=h;obtain⟨fr',h',_⟩:=h';rw[h] at h';simp only[Option.some.injEq,Obj.cells.injEq] at h';exact⟨h'.1,h'.2.1⟩
theorem Rw.cell {w:World}{g:Nat}{cur:Array Value}{t:TypeId}(h:Rw w g cur t)(j:Nat):w.cell? ⟨g,j,none⟩=cur[j]?:=by
  obtain⟨fr,h,_⟩:=h;exact cell_of_row w g j cur t fr h
theorem Rw.new (w:World)(cur:Array Value)(t:TypeId):Rw (w.alloc (.cells cur t)) w.heap.size cur t:=⟨(0,0),heap_alloc_new w _,.inl rfl⟩
theorem Rw.set {w:World}{g:Nat}{cur cs:Array Value}{t:TypeId}(h:Rw w g cur t)(hs:cs.size=cur.size):Rw (w.setRow g cs) g cs t:=by
  obtain⟨fr,h,h2⟩:=h;exact⟨fr,setRow_heap w g cur cs t fr h,by rw[hs];exact h2⟩
theorem wG (P:Program)(g o:Nat)(t:TypeId):∀ (vs:List Value) (i:Nat) (cur:Array Value) (w:World),Rw w g cur t->o+i+vs.length<=cur.size->(∀ v ∈ vs,v.oneCell'=true) ->
    (storeCells ⟨g,o,none⟩ vs i).run P w=.ok () (w.setRow g (cur.toList.take (o+i)++vs++cur.toList.drop (o+i+vs.length)).toArray)
  | [],i,cur,w,hg,_,_=>by
    simp only[storeCells,List.append_nil,A0b,Nat.add_zero,List.take_append_drop,Array.toArray_toList];obtain⟨fr,hg,_⟩:=hg;rw[setRow_self w g cur t fr hg];rfl
  | v::rest,i,cur,w,hg,hl,h1=>by
    have hi:o+i < cur.size:=by simp at hl;omega
    have hadd:(⟨g,o,none⟩:Addr).add i=⟨g,o+i,none⟩:=by unfold Addr.add;split <;> simp_all
    obtain⟨fr,hg,hn⟩:=hg;have hcell:w.cell? ⟨g,o+i,none⟩=some cur[o+i]:=by simp[World.cell?,hg,hi]
    have hfro:w.frozen? ⟨g,o+i,none⟩=false:=by
      simp only[World.frozen?,hg,Bool.and_eq_false_iff,decide_eq_false_iff_not];rcases hn with hn | hn
      ·by_cases h:fr.1<=o+i
       ·exact .inr (by omega)
       ·exact .inl h
      ·exact .inl (by omega)
    have hst:(store ((⟨g,o,none⟩:Addr).add i) v).run P w=.ok () (w.setRow g (cur.setIfInBounds (o+i) v)):=by
      rw[hadd,run_store P w _ v _ (h1 v (by simp)),hcell];simp[hfro,setCell_eq_setRow w g (o+i) cur t fr v hg]
    have ih:=wG P g o t rest (i+1) (cur.setIfInBounds (o+i) v) (w.setRow g (cur.setIfInBounds (o+i) v)) ⟨fr,setRow_heap w g cur _ t fr hg,by simpa using hn⟩ (by simp at hl ⊢;omega) (fun x hx=>h1 x (by simp[hx]));simp only[storeCells,Sem.run_bind,hst,Result.andThen_ok,ih,setRow_setRow];congr 3;have e:=list_seg_step cur.toList (o+i) v rest (by simp at hl ⊢;omega);simpa [Array.toList_setIfInBounds,Nat.add_assoc] using e
def Ow (E:Enc α)(A:EQ)(n c:Nat)(xs:List α):HP where
  p w S R:=xs.length=n/\((A=none/\n=0/\c=0)∨∃ g t cur,A=some ⟨g,0,none⟩/\Rw w g cur t/\n<=c/\c<=maxLen/\c*E.sz<=cur.size/\cur.toList.take (n*E.sz)=E.all xs/\S g)
  loc:=by
    rintro w w' S R ⟨h0,h⟩ hk;refine⟨h0,h.imp id ?_⟩;rintro⟨g,t,cur,h1,h2,h3⟩;exact⟨g,t,cur,h1,h2.keep (hk g (.inl h3.2.2.2.2)),h3⟩
def Bx (t:TypeId)(g:Nat)(ys:List SV):HP where
  p w S R:=Rw w g ⟨SV.cl ys⟩ t/\S g
  loc:=by
    rintro w w' S R ⟨h1,h2⟩ hk;exact⟨h1.keep (hk g (.inl h2)),h2⟩
structure Win where
  g:Nat
  t:TypeId
  pre:List Value
  post:List Value
def Mw (E:Enc α)(A:EQ)(n:Nat)(xs:List α)(G:Win):HP where
  p w S R:=xs.length=n/\((A=none/\n=0)∨(A=some ⟨G.g,G.pre.length,none⟩/\Rw w G.g ⟨G.pre++E.all xs++G.post⟩ G.t/\S G.g))
  loc:=by
    rintro w w' S R ⟨h0,h⟩ hk;refine⟨h0,h.imp id ?_⟩;rintro⟨h1,h2,h3⟩;exact⟨h1,h2.keep (hk G.g (.inl h3)),h3⟩
theorem Ow.rd' {E:Enc α}{A:EQ}{n c:Nat}{xs:List α}{w:World}{S R:Nat->Prop}(h:(Ow E A n c xs).p w S R):Rd w A (E.all xs):=by
  obtain⟨h0,h⟩:=h;rcases h with⟨_,hn,_⟩ | ⟨g,t,cur,rfl,h2,h3,h4,h5,h6,h7⟩
  ·have:xs=[]:=List.eq_nil_of_length_eq_zero (h0.trans hn);subst this;exact⟨fun h=>absurd rfl h,fun _ j u _ hu=>by simp[Enc.all] at hu⟩
  ·refine⟨fun _=>⟨_,rfl⟩,fun a j u ha hu=>?_⟩;cases ha;have e1:(⟨g,0,none⟩:Addr).add j=⟨g,j,none⟩:=by unfold Addr.add;split <;> simp_all
   rw[e1,h2.cell j,<-Array.getElem?_toList];rw[<- h6,List.getElem?_take] at hu;split at hu
   ·exact hu
   ·cases hu
section
variable {F O:Nat->Prop}{w0 w w':World}{hs:List HP}
theorem Cx.len {E:Enc α}{A:EQ}{n c:Nat}{xs:List α}(k:Cx F O w0 w hs)(i:Nat)(hi:hs[i]?=some (Ow E A n c xs)):xs.length=n:=by
  obtain⟨S,R,h⟩:=k.get i hi;exact h.1
theorem Cx.rd {E:Enc α}{A:EQ}{n c:Nat}{xs:List α}(k:Cx F O w0 w hs)(i:Nat)(hi:hs[i]?=some (Ow E A n c xs)):Rd w A (E.all xs):=by
  obtain⟨S,R,h⟩:=k.get i hi;exact Ow.rd' h
theorem Cx.KR {E:Enc α}{A:EQ}{n c:Nat}{xs:List α}(k:Cx F O w0 w hs)(i:Nat)(hi:hs[i]?=some (Ow E A n c xs)):n<=c:=by
  obtain⟨S,R,h⟩:=k.get i hi;rcases h.2 with⟨_,h1,h2⟩ | ⟨g,t,cur,_,_,h3,_⟩ <;> omega
theorem Cx.mlen {E:Enc α}{A:EQ}{n:Nat}{G:Win}{xs:List α}(k:Cx F O w0 w hs)(i:Nat)(hi:hs[i]?=some (Mw E A n xs G)):xs.length=n:=by
  obtain⟨S,R,h⟩:=k.get i hi;exact h.1
theorem Cx.mrd {E:Enc α}{A:EQ}{n:Nat}{G:Win}{xs:List α}(k:Cx F O w0 w hs)(i:Nat)(hi:hs[i]?=some (Mw E A n xs G)):Rd w A (E.all xs):=by
  obtain⟨S,R,h0,h⟩:=k.get i hi;rcases h with⟨_,hn⟩ | ⟨rfl,h2,h3⟩
  ·have:xs=[]:=List.eq_nil_of_length_eq_zero (h0.trans hn);subst this;exact⟨fun h=>absurd rfl h,fun _ j u _ hu=>by simp[Enc.all] at hu⟩
  ·refine⟨fun _=>⟨_,rfl⟩,fun a j u ha hu=>?_⟩;cases ha;have e1:(⟨G.g,G.pre.length,none⟩:Addr).add j=⟨G.g,G.pre.length+j,none⟩:=by unfold Addr.add;split <;> simp_all
   rw[e1,h2.cell];have hj:=(A0w.1 hu).1;simp only[List.getElem?_toArray,ul];rw[List.getElem?_append_right (by omega),List.getElem?_append_left (by omega)];rw[show G.pre.length+j - G.pre.length=j from by omega];exact hu
theorem Cx.bxh {t:TypeId}{g:Nat}{ys:List SV}(k:Cx F O w0 w hs)(i:Nat)(hi:hs[i]?=some (Bx t g ys)):Rw w g ⟨SV.cl ys⟩ t:=by
  obtain⟨S,R,h⟩:=k.get i hi;exact h.1
theorem Cx.Ld {t:TypeId}{g:Nat}{ys:List SV}(k:Cx F O w0 w hs)(i:Nat)(hi:hs[i]?=some (Bx t g ys)):Rd w (some ⟨g,0,none⟩) (SV.cl ys):=by
  refine⟨fun _=>⟨_,rfl⟩,fun a j u ha hu=>?_⟩;cases ha;have e:(⟨g,0,none⟩:Addr).add j=⟨g,j,none⟩:=by unfold Addr.add;split <;> simp_all
  rw[e,(k.bxh i hi).cell j];simpa using hu
def Ro (F:Nat->Prop)(w:World)(A:EQ)(cs:List Value):Prop:=Rd w A cs/\(cs≠[]->∀ a,A=some a->¬ F a.block)
theorem uH (a:Addr)(n:Nat):(a.add n).block=a.block:=by
  unfold Addr.add;split <;> rfl
theorem Ro.cx {A:EQ}{cs:List Value}(h:Ro F w0 A cs)(k:Cx F O w0 w hs):Rd w A cs :=
  ⟨h.1.1,fun a j u ha hu=>by
    have h1:=h.1.2 a j u ha hu;have hb:(a.add j).block < w0.heap.size:=World.block_lt_of_cell? w0 _ h1;have h2:=k.block _ hb (by rw[uH];exact h.2 (fun e=>by rw[e] at hu;cases hu) a ha);rw[World.cell?_of_block h2];exact h1⟩
theorem Ro.nil {A:EQ}:Ro F w none []:=⟨⟨fun h=>absurd rfl h,fun _ _ _ h=>by cases h⟩,fun _ _ h=>by cases h⟩
theorem Ro.n0 {A:EQ}{cs:List Value}(h:Rd w A cs):Ro N0 w A cs:=⟨h,fun _ _ _ h=>h⟩
theorem Cx.sub {ι:Type}{h:HP}{h':ι->HP}(k:Cx F O w0 w hs)(i:Nat)(hi:hs[i]?=some h)(he:∀ S R,h.p w S R->∃ x,(h' x).p w S R):∃ x,Cx F O w0 w (hs.set i (h' x)):=by
  obtain⟨U,V,h1,h2,h3⟩:=k.sep;obtain⟨S,R,U',V',e1,e2,e3,e4,e5,e6⟩:=Sep.cut hi h1;obtain⟨x,hx⟩:=he S R e1;refine⟨x,k.os,k.tape,k.output,k.size,k.block,k.fin,k.QT,_,_,Sep.put hi hx e2 e5 e6,fun b hb=>h2 b ((e3 b).2 hb),fun b hb=>h3 b ((e4 b).2 hb)⟩
theorem Cx.as {h h':HP}(k:Cx F O w0 w hs)(i:Nat)(hi:hs[i]?=some h)(he:∀ S R,h.p w S R->h'.p w S R):Cx F O w0 w (hs.set i h'):=by
  obtain⟨_,hk⟩:=k.sub (ι:=Unit) (h':=fun _=>h') i hi (fun S R hp=>⟨(),he S R hp⟩);exact hk
theorem Cx.pre {E:Enc α}{A:EQ}{n c:Nat}{xs:List α}(k:Cx F O w0 w hs)(i:Nat)(hi:hs[i]?=some (Ow E A n c xs))(m c':Nat)(ys:List α)(hm:m<=n)(hmc:m<=c')(hc:c'<=c)(hy:ys=xs.take m):Cx F O w0 w (hs.set i (Ow E A m c' ys)):=by
  refine k.as i hi fun S R h=>?_;subst hy;obtain⟨h0,h⟩:=h;refine⟨by rw[A0i];omega,?_⟩;rcases h with⟨h1,h2,h3⟩ | ⟨g,t,cur,h1,h2,h3,h4,h5,h6,h7⟩
  ·exact .inl ⟨h1,by omega,by omega⟩
  ·refine .inr ⟨g,t,cur,h1,h2,hmc,by omega,A0s (A1D _ hc) h5,?_,h7⟩;rw[<- Enc.GU,<-h6,List.take_take,Nat.min_eq_left (A1D _ hm)]
theorem Sep.snoc {h:HP}(hp:h.p w (fun _=>False) (fun _=>False)){U V:Nat->Prop}(hS:Sep w hs U V):Sep w (hs++[h]) U V:=by
  have h1:Sep w [h] (fun _=>False) (fun _=>False):=⟨_,_,fun _=>False,fun _=>False,hp,⟨fun _ h=>h,fun _ h=>h⟩,by simp,by simp,by simp,by simp⟩
  have h2:=Sep.join hS h1 (fun b _=>⟨fun h=>h,fun h=>h⟩) (fun b _ h=>h);have e1:(fun b=>U b∨False)=U:=by funext b;simp
  have e2:(fun b=>V b∨False)=V:=by funext b;simp
  rwa [e1,e2] at h2
theorem Cx.nil (k:Cx F O w0 w hs)(E:Enc α):Cx F O w0 w (hs++[Ow E none 0 0 []]):=by
  obtain⟨U,V,h1,h2,h3⟩:=k.sep;exact⟨k.os,k.tape,k.output,k.size,k.block,k.fin,k.QT,U,V,Sep.snoc (h:=Ow E none 0 0 []) ⟨rfl,.inl ⟨rfl,rfl,rfl⟩⟩ h1,h2,h3⟩
theorem Cx.new (k:Cx F O w0 w hs)(o:Obj)(h:HP)(hp:h.p (w.alloc o) (fun b=>b=w.heap.size) (fun _=>False)):Cx F O w0 (w.alloc o) (hs++[h]):=by
  refine k.call ⟨rfl,rfl,rfl,by rw[World.size_alloc];omega,fun b hb _=>heap_alloc_old w o hb,fun _ h=>h.elim,fun _ h=>h.elim,fun b=>b=w.heap.size,fun _=>False,
    ⟨_,_,fun _=>False,fun _=>False,hp,⟨fun _ h=>h,fun _ h=>h⟩,by simp,by simp,by simp,by simp⟩,fun b hb=>.inr ?_,fun _ h=>h.elim⟩
  subst hb;exact⟨Nat.le_refl _,by rw[World.size_alloc];omega⟩
theorem OI {g:Nat}{cur:Array Value}{t:TypeId}(h:Rw w g cur t)(off:Nat)(vs:List Value)(hl:off+vs.length<=cur.size):Rw (w.setRow g (pat cur.toList off vs).toArray) g (pat cur.toList off vs).toArray t :=
  h.set (by simp only[List.size_toArray];rw[Um (by simpa using hl)];simp)
theorem ES (g:Nat)(cs:Array Value):w.grownBy (w.setRow g cs) (some g) :=
  ⟨rfl,rfl,rfl,by simp,fun k _ hk=>setRow_other w g k _ (fun e=>hk (by simp[e]))⟩
theorem Cx.bput {t:TypeId}{g:Nat}{ys zs:List SV}(k:Cx F O w0 w hs)(i:Nat)(hi:hs[i]?=some (Bx t g ys))(off:Nat)(vs:List Value)(hz:SV.cl zs=pat (SV.cl ys) off vs)(hl:off+vs.length<=SV.width ys):Cx F O w0 (w.setRow g (pat (SV.cl ys) off vs).toArray) (hs.set i (Bx t g zs)):=by
  refine k.Ul i hi (some g) (ES g _) fun S R hS hlt=>⟨fun b hb=>by cases hb;exact hS.2,fun b=>b=g,fun _=>False,⟨?_,rfl⟩,fun b hb=>?_,fun _ h=>h⟩
  ·have:=OI hS.1 off vs (by simpa [jg] using hl);rw[hz];exact this
  ·subst hb;exact⟨by simp[World.setRow];exact hlt _ hS.2,.inl hS.2⟩
theorem Cx.oput {E:Enc α}{A:EQ}{n c:Nat}{xs xs':List α}(k:Cx F O w0 w hs)(i:Nat)(hi:hs[i]?=some (Ow E A n c xs)){g:Nat}{cur:Array Value}{t:TypeId}(hA:A=some ⟨g,0,none⟩)(hc:Rw w g cur t)(off:Nat)(vs:List Value)
    (hl:xs'.length=xs.length) (hz:E.all xs'=pat (E.all xs) off vs) (hle:off+vs.length<=n*E.sz):Cx F O w0 (w.setRow g (pat cur.toList off vs).toArray) (hs.set i (Ow E A n c xs')):=by
  subst hA;refine k.Ul i hi (some g) (ES g _) fun S R hS hlt=>?_;obtain⟨h0,h⟩:=hS;rcases h with⟨h1,_⟩ | ⟨g',t',cur',h1,h2,h3,h4,h5,h6,h7⟩
  ·cases h1
  ·simp only[Option.some.injEq,Addr.mk.injEq,and_true] at h1;subst h1;obtain⟨rfl,rfl⟩:=hc.inj h2;refine⟨fun b hb=>by cases hb;exact h7,fun b=>b=g,fun _=>False,⟨by rw[hl,h0],.inr ⟨g,t,_,rfl,OI hc off vs (by have:=A1D E.sz h3;omega),h3,h4,?_,?_,rfl⟩⟩,fun b hb=>?_,fun _ h=>h⟩
   ·have hsz:off+vs.length<=cur.toList.length:=by
      have:=A1D E.sz h3;simp only[Array.length_toList];omega
    simp only[List.size_toArray,Um hsz];simpa using h5
   ·rw[hz,<-h6];simp only[pat];have e:cur.toList=cur.toList.take (n*E.sz)++cur.toList.drop (n*E.sz):=(List.take_append_drop _ _).symm;have hsz:n*E.sz<=cur.toList.length:=by
      have:=A1D E.sz h3;simp only[Array.length_toList];omega
    rw[List.take_append,List.take_append];simp only[Pi,A0i];rw[List.take_take,List.take_of_length_le (l:=vs) (by omega),List.take_take,List.drop_take];rw[show min off cur.toList.length=off from by omega,show min (n*E.sz) off=off from by omega,show min off (n*E.sz)=off from by omega]
   ·subst hb;exact⟨by simp[World.setRow];exact hlt _ h7,.inl h7⟩
theorem Cx.oat {E:Enc α}{A:EQ}{n c:Nat}{xs:List α}(k:Cx F O w0 w hs)(i:Nat)(hi:hs[i]?=some (Ow E A n c xs))(hA:A.isSome=true):∃ g t cur,A=some ⟨g,0,none⟩/\Rw w g cur t/\n*E.sz<=cur.size:=by
  obtain⟨S,R,h0,h⟩:=k.get i hi;rcases h with⟨rfl,_⟩ | ⟨g,t,cur,h1,h2,h3,h4,h5,h6,h7⟩
  ·cases hA
  ·exact⟨g,t,cur,h1,h2,A0s (A1D _ h3) h5⟩
theorem Cx.mput {E:Enc α}{A:EQ}{n:Nat}{xs xs':List α}{G:Win}(k:Cx F O w0 w hs)(i:Nat)(hi:hs[i]?=some (Mw E A n xs G))(hA:A.isSome=true)(off:Nat)(vs:List Value)
    (hl:xs'.length=xs.length) (hz:E.all xs'=pat (E.all xs) off vs) (hle:off+vs.length<=n*E.sz) :
    A=some ⟨G.g,G.pre.length,none⟩/\∃ cur,Rw w G.g cur G.t/\G.pre.length+n*E.sz<=cur.size/\Cx F O w0 (w.setRow G.g (pat cur.toList (G.pre.length+off) vs).toArray) (hs.set i (Mw E A n xs' G)):=by
  obtain⟨S0,R0,h0,h⟩:=k.get i hi;rcases h with⟨rfl,_⟩ | ⟨rfl,h2,h3⟩
  ·cases hA
  ·refine⟨rfl,_,h2,by simp[Enc.iy,h0],?_⟩;refine k.Ul i hi (some G.g) (ES G.g _) fun S R hS hlt=>?_;obtain⟨_,h⟩:=hS;rcases h with⟨h1,_⟩ | ⟨_,_,h7⟩
   ·cases h1
   refine⟨fun b hb=>by cases hb;exact h7,fun b=>b=G.g,fun _=>False,⟨by rw[hl,h0],.inr ⟨rfl,?_,rfl⟩⟩,fun b hb=>?_,fun _ h=>h⟩
   ·have:=OI h2 (G.pre.length+off) vs (by simp[Enc.iy,h0];omega);rw[hz,<-XT _ _ _ _ _ (by rw[Enc.iy,h0];exact hle)];exact this
   ·subst hb;exact⟨by simp[World.setRow];exact hlt _ h7,.inl h7⟩
end
end
section
open Go.RowKit
set_option linter.unusedSimpArgs false
set_option linter.unusedVariables false
variable {α β:Type}
structure TF (P:Program)(t e:TypeId)(zs:List Value)(bytes:Nat):Prop where
  ht:P.underlying t=some (.slice e)
  hi:(P.info? e).map (fun i=>(i.zero.map (·.cells),i.size,i.bytes))=some (some ⟨zs⟩,zs.length,bytes)
  hs:0 < zs.length
  hb:0 < bytes
theorem TF.parts {P:Program}{t e:TypeId}{zs:List Value}{bytes:Nat}(tf:TF P t e zs bytes):∃ i z,P.info? e=some i/\i.zero=some z/\z.cells=⟨zs⟩/\i.size=zs.length/\i.bytes=bytes:=by
  have h:=tf.hi;simp only[A0c,Prod.mk.injEq] at h;obtain⟨i,hi,⟨z,hz,hc⟩,hs,hb⟩:=h;exact⟨i,z,hi,hz,hc,hs,hb⟩
structure Src (P:Program)(sz:Nat)(w:World)(x:Value)(m:Nat)(news:List Value):Prop where
  hl:news.length=m*sz
  len:∀ w',(Builtin.lenOf x).run P w'=.ok m w'
  cells:∀ (k:Nat) (w':World),k<=m->w'.heap=w.heap->(Builtin.firstCells sz k x).run P w'=.ok (news.take (k*sz)).toArray w'
theorem cell_heap {w w':World}(h:w'.heap=w.heap)(a:Addr):w'.cell? a=w.cell? a:=by simp[World.cell?,h]
theorem Src.slice {P:Program}{sz m c:Nat}{w:World}{A:EQ}{news:List Value}(h:Rd w A news)(hl:news.length=m*sz):Src P sz w (.slice A m c) m news:=by
  refine⟨hl,fun _=>rfl,fun k w' hk hw=>?_⟩;cases A with
  | none =>
    have:news=[]:=by
      rcases news with _ | ⟨x,l⟩
      ·rfl
      ·obtain⟨a,ha⟩:=h.1 (by simp);cases ha
    subst this;simp[Builtin.firstCells]
  | some a =>
    have hle:k*sz<=news.length:=by rw[hl];exact A1D _ hk
    have h1:=run_loadCells_list (P:=P) (w:=w') a (news.take (k*sz)) (fun j v hv=>by
      rw[cell_heap hw];rw[List.getElem?_take] at hv;split at hv
      ·exact h.2 a j v rfl hv
      ·cases hv)
    rw[A0i,Nat.min_eq_left hle] at h1;simp only[Builtin.firstCells,h1]
theorem Src.str {P:Program}{w:World}(s:AC):Src P 1 w (.string ⟨⟨s⟩⟩) s.length (e8.all s):=by
  refine⟨by rw[Enc.iy];rfl,fun _=>rfl,fun k w' hk hw=>?_⟩;simp only[Builtin.firstCells,Sem.run_pure];congr 1;have e1:(ByteArray.mk ⟨s⟩).extract 0 k=ByteArray.mk ⟨s.take k⟩:=by
    rw[show(ByteArray.mk ⟨s⟩)=ByteArray.mk s.toArray from rfl,ByteArray.extract_mk];rfl
  rw[e1,zy];simp[List.map_take];rfl
theorem Q3 (zs:List Value):∀ (k:Nat),(Array.range (k*zs.length)).map (fun i=>(⟨zs⟩:Array Value)[i % zs.length]!)=⟨(List.replicate k zs).flatten⟩:=by
  intro k;apply Array.ext';simp only[Array.toList_map,Array.toList_range]
  induction k with
  | zero=>simp
  | succ k ih =>
    rw[List.replicate_succ',List.flatten_append,<-ih,Nat.add_mul,Nat.one_mul,List.range_add,List.map_append,List.map_map];congr 1;simp only[A1E,List.flatten_nil,List.append_nil];apply List.ext_getElem?;intro j;by_cases hj:j < zs.length
    ·simp[hj,Nat.mod_eq_of_lt hj,Nat.mul_add_mod_self_right]
    ·simp[hj,List.getElem?_eq_none (Nat.le_of_not_lt hj)]
theorem all_replicate (E:Enc α)(x:α):∀ k,E.all (List.replicate k x)=(List.replicate k (E.f x)).flatten:=by
  intro k
  induction k with
  | zero=>rfl
  | succ k ih=>simp[List.replicate_succ,Enc.all,ih]
theorem XV (zs:List Value)(k:Nat):Builtin.zeroCells ⟨zs⟩ k=⟨(List.replicate k zs).flatten⟩:=Q3 zs k
section
variable {P:Program}{w:World}
theorem Un {t t2 e ty:TypeId}{zs:List Value}{bytes:Nat}(tf:TF P t e zs bytes)(ht2:(match P.underlying t2 with | some (.slice _)=>true | some .string=>true | _=>false)=true){E:Enc α}(hE:E.sz=zs.length){A:EQ}{n m c:Nat}{x:Value}{xs ys:List α}{S R:Nat->Prop}
    (hown:(Ow E A n c xs).p w S R) (hx:Src P zs.length w x m (E.all ys)) (hym:ys.length=m) (hroom:(n+m)*bytes<=140737488355328) :
    ∃ A' c' w',(Builtin.append_ #[t,t2] ty #[.slice A n c,x]).run P w=.ok (.slice A' (n+m) c') w'/\(∃ S',(Ow E A' (n+m) c' (xs++ys)).p w' S' (fun _=>False)/\(∀ b,S' b->b < w'.heap.size/\(S b∨w.heap.size<=b))) /\
      w.grownBy w' (A.map (·.block)):=by
  obtain⟨i,z,hi,hz,hzc,hsz,hby⟩:=tf.parts;have ht2':(∃ e',P.underlying t2=some (.slice e'))∨P.underlying t2=some .string:=by
    split at ht2
    ·exact .inl ⟨_,by assumption⟩
    ·exact .inr (by assumption)
    ·cases ht2
  have OJ:(sizeOf e).run P w=.ok zs.length w:=by rw[<- hsz];exact Cf hi w
  have hmb:n+m<=(n+m)*bytes:=Nat.le_mul_of_pos_right _ tf.hb;have hml:n+m<=maxLen:=by unfold maxLen;omega
  have hlen:(xs++ys).length=n+m:=by rw[Pi,hown.1,hym]
  have hys:(E.all ys).length=m*zs.length:=hx.hl;have hcf:∀ w',w'.heap=w.heap->(Builtin.firstCells zs.length m x).run P w'=.ok (E.all ys).toArray w':=fun w' hw=>by
    have:=hx.cells m w' (Nat.le_refl _) hw
    rwa [<- hys,A0h] at this
  by_cases hr:n+m<=c
  ·rcases hown.2 with⟨rfl,hn,hc⟩ | ⟨g,t',cur,rfl,h2,h3,h4,h5,h6,h7⟩
   ·have hm0:m=0:=by omega
    subst hm0;subst hn;subst hc;have hy:ys=[]:=List.eq_nil_of_length_eq_zero hym;subst hy;refine⟨none,0,w,?_,⟨fun _=>False,⟨by simpa using hown.1,.inl ⟨rfl,rfl,rfl⟩⟩,fun _ h=>h.elim⟩,⟨rfl,rfl,rfl,Nat.le_refl _,fun _ _ _=>rfl⟩⟩;have hc0:=hcf w rfl;rcases ht2' with⟨e',hd⟩ | hd <;> simp[Builtin.append_,run_underlying tf.ht,run_underlying hd,OJ,hx.len,hc0]
   ·have hc0:=hcf w rfl;have hfit:n*zs.length+(E.all ys).length<=cur.size:=by
      have:=A1D zs.length hr;rw[hE] at h5;rw[hys,<-Nat.add_mul];omega
    have hst:=wG P g (n*zs.length) t' (E.all ys) 0 cur w h2 (by simpa using hfit) (E.JZ ys);simp only[Nat.add_zero] at hst;have hadd:(⟨g,0,none⟩:Addr).add (n*zs.length)=⟨g,n*zs.length,none⟩:=by unfold Addr.add;split <;> simp_all
    refine⟨some ⟨g,0,none⟩,c,w.setRow g (cur.toList.take (n*zs.length)++E.all ys++cur.toList.drop (n*zs.length+(E.all ys).length)).toArray,?_,⟨fun b=>b=g,⟨hlen,.inr ⟨g,t',_,rfl,h2.set (by simp only[List.size_toArray,Pi,A0i,A1F,Array.length_toList];omega),hr,h4,?_,?_,rfl⟩⟩,?_⟩,ES g _⟩
    ·rcases ht2' with⟨e',hd⟩ | hd <;> simp[Builtin.append_,run_underlying tf.ht,run_underlying hd,OJ,hx.len,hr,hc0,hadd,hst]
    ·simp only[List.size_toArray,Pi,A0i,A1F,Array.length_toList];omega
    ·rw[Enc.all_append,<-h6,hE];simp only[Nat.add_mul];rw[<- hys];have e1:(cur.toList.take (n*zs.length)).length=n*zs.length:=by simp;omega
     rw[List.take_append_of_le_length (by simp;omega)];rw[List.take_of_length_le (by simp;omega)]
    ·intro b hb;subst hb;exact⟨by simp[World.setRow];exact h2.lt,.inl h7⟩
  ·-- a new block
   have hge:=grownCap_ge w (n+m) c e;have hcm:grownCap w (n+m) c e<=maxLen:=grownCap_le_maxLen w (n+m) c e hml;have hold:∃ olds:List Value,olds=E.all xs/\(Builtin.firstCells zs.length n (.slice A n c)).run P w.drew=.ok olds.toArray w.drew:=by
     refine⟨_,rfl,?_⟩;have h1:(E.all xs).length=n*zs.length:=by rw[Enc.iy,hown.1,hE]
     have:=(Src.slice (P:=P) (sz:=zs.length) (m:=n) (c:=c) (Ow.rd' hown) h1).cells n w.drew (Nat.le_refl _) rfl
     rwa [<- h1,A0h] at this
   obtain⟨olds,rfl,hold⟩:=hold;have hc0:=hcf w.drew rfl;have hnb:Builtin.nextslicecap (n+m) c*i.bytes<=281474976710656:=by rw[hby];exact growslice_fits (by omega) hroom
   have h63:¬ (9223372036854775807 < ((n:Int)+(m:Int))):=by omega
   have h48:¬ (281474976710656 < Builtin.nextslicecap (n+m) c*i.bytes):=by omega
   refine⟨some ⟨w.heap.size,0,none⟩,grownCap w (n+m) c e,w.drew.alloc (.cells ((E.all xs).toArray++(E.all ys).toArray++Builtin.zeroCells z.cells (grownCap w (n+m) c e - (n+m))) e),?_,⟨fun b=>b=w.heap.size,⟨hlen,.inr ⟨w.heap.size,e,_,rfl,Rw.new w.drew _ _,hge,hcm,?_,?_,rfl⟩⟩,?_⟩,⟨rfl,rfl,rfl,by simp,fun k hk _=>heap_alloc_old w.drew _ hk⟩⟩
   ·rcases ht2' with⟨e',hd⟩ | hd <;> simp[Builtin.append_,run_underlying tf.ht,run_underlying hd,OJ,hx.len,hr,h63,h48,typeInfo,zeroValue,hi,hz,Question.forced,hold,hc0,newRow,grownCap] <;> (congr 2;apply Array.ext';simp)
   ·simp only[Array.size_append,List.size_toArray,size_zeroCells,hzc,Enc.iy,hown.1,hym,<-Nat.add_mul,hE];exact A1D _ (by omega)
   ·simp only[Array.toList_append,ul];rw[<- ul,<-Enc.all_append];have:(E.all (xs++ys)).length=(n+m)*E.sz:=by rw[Enc.iy,hlen]
    rw[<- this,List.take_left]
   ·intro b hb;subst hb;exact⟨by simp,.inr (Nat.le_refl _)⟩
end
section
variable {P:Program}{w:World}
theorem SK {t t2 e ty:TypeId}{zs:List Value}{bytes:Nat}(tf:TF P t e zs bytes){ik kx:IntKind}(ht2:P.underlying t2=some (.int ik)){E:Enc α}{zx:α}(hzx:E.f zx=zs){A:EQ}{n c:Nat}{l:Int}{xs:List α}{S R:Nat->Prop}
    (hown:(Ow E A n c xs).p w S R) (h0:0<=l) (hroom:(n+l.toNat)*bytes<=140737488355328) :
    ∃ A' c' w',(Builtin.append_ #[t,t2] ty #[.slice A n c,.int kx l]).run P w=.ok (.slice A' (n+l.toNat) c') w'/\(∃ S',(Ow E A' (n+l.toNat) c' (xs++List.replicate l.toNat zx)).p w' S' (fun _=>False)/\(∀ b,S' b->b < w'.heap.size/\(S b∨w.heap.size<=b))) /\
      w.grownBy w' (A.map (·.block)):=by
  obtain⟨i,z,hi,hz,hzc,hsz,hby⟩:=tf.parts;have hE:E.sz=zs.length:=by rw[<- hzx,E.len]
  obtain⟨m,hm⟩:∃ m,l.toNat=m:=⟨_,rfl⟩
  have hlm:l=(m:Int):=by omega
  subst hlm;simp only[A0Z] at hroom ⊢;clear hm h0;have OJ:(sizeOf e).run P w=.ok zs.length w:=by rw[<- hsz];exact Cf hi w
  have hmb:n+m<=(n+m)*bytes:=Nat.le_mul_of_pos_right _ tf.hb;have hml:n+m<=maxLen:=by unfold maxLen;omega
  have hwr:IntKind.i64.wrap (m:Int)=m:=Ed (by omega);have hlen:(xs++List.replicate m zx).length=n+m:=by rw[Pi,hown.1,List.length_replicate]
  have hys:(E.all (List.replicate m zx)).length=m*zs.length:=by rw[Enc.iy,hE];simp
  have hall:E.all (List.replicate m zx)=(List.replicate m zs).flatten:=by rw[all_replicate,hzx]
  have hti:(typeInfo e).run P w=.ok i w:=by simp[typeInfo,hi]
  have hmbytes:m*bytes<=140737488355328:=A0s (A1D _ (by omega)) hroom;have h48a:¬ ((m:Int)*(i.bytes:Int) > 2 ^ 48):=by
    rw[hby];have:=Int.ofNat_le.2 hmbytes;simp only[Int.natCast_mul] at this;omega
  have hneg:¬ ((m:Int) < 0):=by omega
  have happ:∀ w':World,((if m*zs.length=0 then pure #[] else do pure (Builtin.zeroCells (<- zeroValue e).cells m)):Sem (Array Value)).run P w'=.ok (E.all (List.replicate m zx)).toArray w':=by
    intro w';rw[hall];split
    ·rename_i h;have:m=0:=by
       have:=tf.hs;rcases Nat.mul_eq_zero.1 h with h | h
       ·exact h
       ·omega
     subst this;simp
    ·have hzv:(zeroValue e).run P w'=.ok z w':=by simp[zeroValue,typeInfo,hi,hz]
     simp only[Sem.run_bind,hzv,Result.andThen_ok,Sem.run_pure,hzc,XV]
  by_cases hr:n+m<=c
  ·rcases hown.2 with⟨rfl,hn,hc⟩ | ⟨g,t',cur,rfl,h2,h3,h4,h5,h6,h7⟩
   ·have hm0:m=0:=by omega
    subst hm0;subst hn;subst hc;refine⟨none,0,w,?_,⟨fun _=>False,⟨by simpa using hown.1,.inl ⟨rfl,rfl,rfl⟩⟩,fun _ h=>h.elim⟩,⟨rfl,rfl,rfl,Nat.le_refl _,fun _ _ _=>rfl⟩⟩;have hw0:IntKind.i64.wrap 0=0:=by rfl
    simp[Builtin.append_,run_underlying tf.ht,run_underlying ht2,OJ,asInt,asIntOf,hti,hw0]
   ·have hfit:n*zs.length+(E.all (List.replicate m zx)).length<=cur.size:=by
      have:=A1D zs.length hr;rw[hE] at h5;rw[hys,<-Nat.add_mul];omega
    have hst:=wG P g (n*zs.length) t' (E.all (List.replicate m zx)) 0 cur w h2 (by simpa using hfit) (E.JZ _);simp only[Nat.add_zero] at hst;have hadd:(⟨g,0,none⟩:Addr).add (n*zs.length)=⟨g,n*zs.length,none⟩:=by unfold Addr.add;split <;> simp_all
    refine⟨some ⟨g,0,none⟩,c,w.setRow g (cur.toList.take (n*zs.length)++E.all (List.replicate m zx)++cur.toList.drop (n*zs.length+(E.all (List.replicate m zx)).length)).toArray,?_,⟨fun b=>b=g,⟨hlen,.inr ⟨g,t',_,rfl,h2.set (by simp only[List.size_toArray,Pi,A0i,A1F,Array.length_toList];omega),hr,h4,?_,?_,rfl⟩⟩,?_⟩,ES g _⟩
    ·have ha:=happ w;simp only[Builtin.append_,List.getElem?_toArray,List.getElem?_cons_zero,List.getElem?_cons_succ,Sem.run_bind,run_underlying tf.ht,run_underlying ht2,Result.andThen_ok,OJ,Sem.run_pure,asInt,asIntOf,hwr,hneg,if_false,if_true,hti,h48a,A0Z,hr,Bool.not_true,A0z,ha,hadd,hst]
    ·simp only[List.size_toArray,Pi,A0i,A1F,Array.length_toList];omega
    ·rw[Enc.all_append,<-h6,hE];simp only[Nat.add_mul];rw[<- hys];rw[List.take_append_of_le_length (by simp;omega)];rw[List.take_of_length_le (by simp;omega)]
    ·intro b hb;subst hb;exact⟨by simp[World.setRow];exact h2.lt,.inl h7⟩
  ·have hge:=grownCap_ge w (n+m) c e;have hcm:grownCap w (n+m) c e<=maxLen:=grownCap_le_maxLen w (n+m) c e hml;have hold:(Builtin.firstCells zs.length n (.slice A n c)).run P w.drew=.ok (E.all xs).toArray w.drew:=by
     have h1:(E.all xs).length=n*zs.length:=by rw[Enc.iy,hown.1,hE]
     have:=(Src.slice (P:=P) (sz:=zs.length) (m:=n) (c:=c) (Ow.rd' hown) h1).cells n w.drew (Nat.le_refl _) rfl
     rwa [<- h1,A0h] at this
   have hnb:Builtin.nextslicecap (n+m) c*i.bytes<=281474976710656:=by rw[hby];exact growslice_fits (by omega) hroom
   have h63:¬ (((n+m:Nat):Int) > IntKind.i64.max):=by
     have:IntKind.i64.max=9223372036854775807:=rfl;rw[this];omega
   have h48:¬ (Builtin.nextslicecap (n+m) c*i.bytes > 2 ^ 48):=by omega
   have ha:=happ w.drew;have hch:(choose (.appendCap (n+m) c e)).run P w=.ok (grownCap w (n+m) c e) w.drew:=by simp[choose,Sem.run,Question.forced,grownCap]
   have htd:(typeInfo e).run P w.drew=.ok i w.drew:=by simp[typeInfo,hi]
   have har:∀ b w',(askRoom b).run P w'=.ok () w':=fun b w'=>by unfold askRoom;split <;> rfl
   have hzd:(zeroValue e).run P w.drew=.ok z w.drew:=by simp[zeroValue,typeInfo,hi,hz]
   refine⟨some ⟨w.heap.size,0,none⟩,grownCap w (n+m) c e,w.drew.alloc (.cells ((E.all xs).toArray++(E.all (List.replicate m zx)).toArray++Builtin.zeroCells z.cells (grownCap w (n+m) c e - (n+m))) e),?_,⟨fun b=>b=w.heap.size,⟨hlen,.inr ⟨w.heap.size,e,_,rfl,Rw.new w.drew _ _,hge,hcm,?_,?_,rfl⟩⟩,?_⟩,⟨rfl,rfl,rfl,by simp,fun k hk _=>heap_alloc_old w.drew _ hk⟩⟩
   ·simp only[Builtin.append_,List.getElem?_toArray,List.getElem?_cons_zero,List.getElem?_cons_succ,Sem.run_bind,run_underlying tf.ht,run_underlying ht2,Result.andThen_ok,OJ,Sem.run_pure,asInt,asIntOf,hwr,hneg,if_false,if_true,hti,h48a,A0Z,hr,h63,false_and,h48,hch,htd,har,hold,Bool.not_true,A0z,ha,hzd];rfl
   ·simp only[Array.size_append,List.size_toArray,size_zeroCells,hzc,Enc.iy,hown.1,List.length_replicate,<-Nat.add_mul,hE];exact A1D _ (by omega)
   ·simp only[Array.toList_append,ul];rw[<- ul,<-Enc.all_append];have:(E.all (xs++List.replicate m zx)).length=(n+m)*E.sz:=by rw[Enc.iy,hlen]
    rw[<- this,List.take_left]
   ·intro b hb;subst hb;exact⟨by simp,.inr (Nat.le_refl _)⟩
end
section
variable {P:Program}{n:Nat}{ops:Array Oper}{L:St}{w w0:World}{F O:Nat->Prop}{hs:List HP}{K:St->World->Prop}
theorem dK {dst:A03}{x y:Operand}{t t2 ty:TypeId}{pos:String}{jf:Array Edge}{g:UV}{e:TypeId}{zs:List Value}{bytes:Nat}(tf:TF P t e zs bytes)
    {E:Enc α} (ss:A01) (d:Nat) (i:Nat) {A:EQ} {n1 m c:Nat} {v:SV} {xs ys:List α}
    (hside:(y7 ops ss L ⟨dst,.call ⟨.builtin .append,#[x,y],#[t,t2]⟩,ty,pos,jf,g⟩,dst,(decide (d < n)),(L.any fun p=>p.1 == d),(toSS [x,y] (lk L)).map SV.vals,(match P.underlying t2 with | some (.slice _)=>true | some .string=>true | _=>false),E.sz)=(true,some d,true,false,some [.slice A n1 c,v.val],true,zs.length))
    (k:Cx F O w0 w hs) (hi:hs[i]?=some (Ow E A n1 c xs)) (hx:Src P zs.length w v.val m (E.all ys)) (hm:ys.length=m) (hroom:(n1+m)*bytes<=140737488355328)
    (hk:∀ A' c' w',Cx F O w0 w' (hs.set i (Ow E A' (n1+m) c' (xs++ys)))->K ((d,.v (.slice A' (n1+m) c'))::L) w') :
    yE P n ops L w ⟨dst,.call ⟨.builtin .append,#[x,y],#[t,t2]⟩,ty,pos,jf,g⟩ K:=by
  simp only[Prod.mk.injEq,A0c,lm] at hside;obtain⟨s1,rfl,s3,s4,⟨svs,s5,s6⟩,s7,s8⟩:=hside;refine zu (xs:=[x,y]) (svs:=svs) ss (d:=d) (by simp[Side,s1,s3,s4,s5]) fun a ha he=>?_;rw[s6] at he;simp only[kw,List.map_nil,List.cons.injEq,and_true] at he;obtain⟨S,R,hS⟩:=k.get i hi;obtain⟨A',c',w',hrun,_,hgrow⟩:=Un (P:=P) tf (t2:=t2) s7 s8 (ty:=ty) hS hx hm hroom;unfold Oper.wp execOp;simp only[resolve,invoke,builtin,Sem.run_bind,Sem.run_pure,Result.andThen_ok,List.map_toArray,kw,List.map_nil,he.1,he.2,hrun];refine⟨.v (.slice A' (n1+m) c'),rfl,hk A' c' w' ?_⟩;refine k.Ul i hi _ hgrow fun S R hS hlt=>?_;obtain⟨A2,c2,w2,hrun2,⟨S',hS',hb⟩,_⟩:=Un (P:=P) tf (t2:=t2) s7 s8 (ty:=ty) hS hx hm hroom;rw[hrun] at hrun2;simp only[Result.ok.injEq,Value.slice.injEq,true_and] at hrun2;obtain⟨⟨rfl,rfl⟩,rfl⟩:=hrun2;refine⟨fun g hg=>?_,S',fun _=>False,hS',hb,fun _ h=>h⟩;simp only[A0c] at hg;obtain⟨a,rfl,rfl⟩:=hg;rcases hS.2 with⟨h,_⟩ | ⟨g,t',cur,h1,_,_,_,_,_,h7⟩
  ·cases h
  ·simp only[Option.some.injEq] at h1;subst h1;exact h7
theorem Op_appendZ {dst:A03}{x y:Operand}{t t2 ty:TypeId}{pos:String}{jf:Array Edge}{g:UV}{e:TypeId}{zs:List Value}{bytes:Nat}(tf:TF P t e zs bytes)
    {E:Enc α} (zx:α) (ss:A01) (d:Nat) (i:Nat) {A:EQ} {n1 c:Nat} {ik kx:IntKind} (l:Int) {xs:List α}
    (hside:(y7 ops ss L ⟨dst,.call ⟨.builtin .append,#[x,y],#[t,t2]⟩,ty,pos,jf,g⟩,dst,(decide (d < n)),(L.any fun p=>p.1 == d),(toSS [x,y] (lk L)).map SV.vals,P.underlying t2)=(true,some d,true,false,some [.slice A n1 c,.int kx l],some (.int ik))) (hzx:E.f zx=zs)
    (k:Cx F O w0 w hs) (hi:hs[i]?=some (Ow E A n1 c xs)) (h0:0<=l) (hroom:(n1+l.toNat)*bytes<=140737488355328)
    (hk:∀ A' c' w',Cx F O w0 w' (hs.set i (Ow E A' (n1+l.toNat) c' (xs++List.replicate l.toNat zx)))->K ((d,.v (.slice A' (n1+l.toNat) c'))::L) w') :
    yE P n ops L w ⟨dst,.call ⟨.builtin .append,#[x,y],#[t,t2]⟩,ty,pos,jf,g⟩ K:=by
  simp only[Prod.mk.injEq,A0c,lm] at hside;obtain⟨s1,rfl,s3,s4,⟨svs,s5,s6⟩,s7⟩:=hside;refine zu (xs:=[x,y]) (svs:=svs) ss (d:=d) (by simp[Side,s1,s3,s4,s5]) fun a ha he=>?_;rw[s6] at he;simp only[kw,List.map_nil,List.cons.injEq,and_true] at he;obtain⟨S,R,hS⟩:=k.get i hi;obtain⟨A',c',w',hrun,_,hgrow⟩:=SK (P:=P) tf (t2:=t2) s7 hzx (ty:=ty) (kx:=kx) hS h0 hroom;unfold Oper.wp execOp;simp only[resolve,invoke,builtin,Sem.run_bind,Sem.run_pure,Result.andThen_ok,List.map_toArray,kw,List.map_nil,he.1,he.2,hrun];refine⟨.v (.slice A' (n1+l.toNat) c'),rfl,hk A' c' w' ?_⟩;refine k.Ul i hi _ hgrow fun S R hS hlt=>?_;obtain⟨A2,c2,w2,hrun2,⟨S',hS',hb⟩,_⟩:=SK (P:=P) tf (t2:=t2) s7 hzx (ty:=ty) (kx:=kx) hS h0 hroom;rw[hrun] at hrun2;simp only[Result.ok.injEq,Value.slice.injEq,true_and] at hrun2;obtain⟨⟨rfl,rfl⟩,rfl⟩:=hrun2;refine⟨fun g hg=>?_,S',fun _=>False,hS',hb,fun _ h=>h⟩;simp only[A0c] at hg;obtain⟨a,rfl,rfl⟩:=hg;rcases hS.2 with⟨h,_⟩ | ⟨g,t',cur,h1,_,_,_,_,_,h7⟩
  ·cases h
  ·simp only[Option.some.injEq] at h1;subst h1;exact h7
theorem Ow.new (w:World)(E:Enc α)(e:TypeId)(cs:List Value)(l c:Nat)(xs:List α)(hl:xs.length=l)(hlc:l<=c)(hm:c<=maxLen)(hc:c*E.sz<=cs.length)(hx:cs.take (l*E.sz)=E.all xs):(Ow E (some ⟨w.heap.size,0,none⟩) l c xs).p (w.alloc (.cells ⟨cs⟩ e)) (fun b=>b=w.heap.size) (fun _=>False) :=
  ⟨hl,.inr ⟨w.heap.size,e,⟨cs⟩,rfl,Rw.new w _ _,hlc,hm,by simpa using hc,by simpa using hx,rfl⟩⟩
theorem Op_mk {dst:A03}{t ty:TypeId}{len:Nat}{parts:Array (Nat×Operand)}{pos:String}{jf:Array Edge}{g:UV}{e:TypeId}{zs:List Value}{bytes:Nat}(tf:TF P t e zs bytes)
    (E:Enc α) (ss:A01) (d:Nat) (xs:List α) (ps:List (Nat×SV)) (svs:List SV)
    (hside:(y7 ops ss L ⟨dst,.buildSlice t len parts,ty,pos,jf,g⟩,dst,(decide (d < n)),(L.any fun p=>p.1 == d),(toPS parts.toList (lk L)).map (·.map fun p=>(p.1,p.2.val)))=(true,some d,true,false,some (ps.map fun p=>(p.1,p.2.val))))
    (hf:(PK (fun i=>some (i*zs.length,zs.length)) ((List.replicate len zs).flatten.map OB) ps,decide (len*zs.length<=16777216),xs.length,E.sz)=(some svs,true,len,zs.length)) (hx:SV.cl svs=E.all xs)
    (k:Cx F O w0 w hs) (hk:∀ A w',Cx F O w0 w' (hs++[Ow E A len len xs])->K ((d,.v (.slice A len len))::L) w') :
    yE P n ops L w ⟨dst,.buildSlice t len parts,ty,pos,jf,g⟩ K:=by
  simp only[Prod.mk.injEq,lm,A0c] at hside hf;obtain⟨h1,rfl,h3,h4,⟨ps',h5,h6⟩⟩:=hside;obtain⟨hf,hlen,hxl,hE⟩:=hf;refine zu (xs:=[]) (svs:=[]) ss (d:=d) (by simp[Side,h1,h3,h4,toSS]) fun a ha _=>?_;have hps:=toPS_spec (fun o x hx=>XP ha hx) h5;rw[h6] at hps;obtain⟨i,z,hi,hz,hzc,hsz,hby⟩:=tf.parts;have hfill:=OE (place:=fun i=>some (i*zs.length,zs.length)) ps _ _ hf;rw[Xz] at hfill;have OJ:(sizeOf e).run P w=.ok zs.length w:=by rw[<- hsz];exact Cf hi w
  have hrun:(Instr.buildSlice t len (parts.map fun(i,x)=>(i,a.eval x))).run P w=.ok (.slice (some ⟨w.heap.size,0,none⟩) len len) (w.alloc (.cells ⟨E.all xs⟩ e)):=by
    have e1:(parts.map fun(i,x)=>(i,a.eval x)).toList=ps.map fun p=>(p.1,p.2.val):=by rw[<- hps];simp
    have hfl:Instr.fill (fun i=>some (i*zs.length,zs.length)) ⟨(List.replicate len zs).flatten⟩ (parts.map fun(i,x)=>(i,a.eval x)).toList=some ⟨E.all xs⟩:=by rw[e1,hfill,hx]
    simp only[Instr.buildSlice,Sem.run_bind,run_underlying tf.ht,Result.andThen_ok,OJ];rw[if_neg (by omega)];split
    ·rename_i h0;have hl0:len=0:=by
       have:=tf.hs;rcases Nat.mul_eq_zero.1 h0 with h | h
       ·exact h
       ·omega
     subst hl0;have hnil:∀ f:Nat->Value,(Array.range 0).map f=⟨[]⟩:=fun f=>by simp
     simp only[List.replicate_zero,List.flatten_nil] at hfl;simp only[Sem.run_bind,Sem.run_pure,Result.andThen_ok,Nat.zero_mul,hnil,hfl];rfl
    ·have hzv:(zeroValue e).run P w=.ok z w:=by simp[zeroValue,typeInfo,hi,hz]
     simp only[Sem.run_bind,Sem.run_pure,Result.andThen_ok,hzv,hzc];have hr:=Q3 zs len;simp only[show(⟨zs⟩:Array Value).size=zs.length from rfl,hr,hfl];rfl
  have hA:=hk (some ⟨w.heap.size,0,none⟩) _ (k.new (.cells ⟨E.all xs⟩ e) _ (Ow.new w E e _ len len xs hxl (Nat.le_refl _) (by
    unfold maxLen;have:=Nat.le_mul_of_pos_right len tf.hs;omega) (by rw[Enc.iy,hxl];exact Nat.le_refl _) (by
    have:(E.all xs).length=len*E.sz:=by rw[Enc.iy,hxl]
    rw[<- this,A0h])))
  unfold Oper.wp execOp;simp only[Sem.run_bind,hrun,Result.andThen_ok,Sem.run_pure];exact⟨.v (.slice (some ⟨w.heap.size,0,none⟩) len len),rfl,hA⟩
end
end
section
open Go.RowKit
set_option linter.unusedSimpArgs false
set_option linter.unusedVariables false
variable {α β:Type}
section
variable {P:Program}{n:Nat}{ops:Array Oper}{L:St}{w w0:World}{F O:Nat->Prop}{hs:List HP}{K:St->World->Prop}
theorem Zk {t e:TypeId}{zs:List Value}{bytes:Nat}(tf:TF P t e zs bytes)(kl kc:IntKind)(l c:Nat)(hl:l<=c)(hb:c*bytes<=140737488355328) :
    (Instr.makeSlice t (.int kl (l:Int)) (.int kc (c:Int))).run P w=.ok (.slice (some ⟨w.heap.size,0,none⟩) l c) (w.alloc (.cells ⟨(List.replicate c zs).flatten⟩ e)):=by
  obtain⟨i,z,hi,hz,hzc,hsz,hby⟩:=tf.parts;have OJ:D9 P e=some zs.length:=by simp[D9,hi,hsz]
  have hc:c<=140737488355328:=A0s (Nat.le_mul_of_pos_right c tf.hb) hb;have w1:IntKind.i64.wrap (l:Int)=l:=Ed (by omega);have w2:IntKind.i64.wrap (c:Int)=c:=Ed (by omega);have hbi:((i.bytes:Int)*(c:Int))<=140737488355328:=by
    rw[hby,Int.mul_comm];have:=Int.ofNat_le.2 hb;simpa using this
  have hnot:¬ ((i.bytes:Int)*(c:Int) > 2 ^ 48):=by omega
  have hroom:(askRoom (c*i.bytes)).run P w=.ok () w:=by
    unfold askRoom roomBytes;rw[hby,if_neg (by omega)];rfl
  simp only[Instr.makeSlice,Sem.run_bind,run_underlying tf.ht,Result.andThen_ok,asInt,asIntOf,Sem.run_pure,typeInfo,run_program,hi,w1,w2];rw[if_neg (by simp;omega)];simp only[Sem.run_bind,Sem.run_pure,Result.andThen_ok,A0Z,hroom,wE OJ];split
  ·rename_i h0;have hc0:c=0:=by
     have:=tf.hs;rcases Nat.mul_eq_zero.1 h0 with h | h
     ·exact h
     ·omega
   subst hc0;have hnil:∀ f:Nat->Value,(Array.range 0).map f=⟨[]⟩:=fun f=>by simp
   simp only[Sem.run_bind,Sem.run_pure,Result.andThen_ok,Nat.zero_mul,hnil];rfl
  ·have hzv:(zeroValue e).run P w=.ok z w:=by simp[zeroValue,typeInfo,hi,hz]
   simp only[Sem.run_bind,Sem.run_pure,Result.andThen_ok,hzv,hzc];have hr:=Q3 zs c;simp only[show(⟨zs⟩:Array Value).size=zs.length from rfl,hr];rfl
theorem PN {dst:A03}{t ty:TypeId}{lo co:Operand}{pos:String}{jf:Array Edge}{g:UV}{e:TypeId}{zs:List Value}{bytes:Nat}(tf:TF P t e zs bytes)
    (E:Enc α) (x:α) (hz:E.f x=zs) (ss:A01) (d:Nat) (sl sc:SV) (nl nc:Int)
    (hside:(y7 ops ss L ⟨dst,.makeSlice t lo co,ty,pos,jf,g⟩,dst,(decide (d < n)),(L.any fun p=>p.1 == d),toSS [lo,co] (lk L),toI sl,toI sc)=(true,some d,true,false,some [sl,sc],some nl,some nc))
    (h0:0<=nl) (h1:nl<=nc) (hb:nc.toNat*bytes<=140737488355328)
    (k:Cx F O w0 w hs) (hk:∀ A w',Cx F O w0 w' (hs++[Ow E A nl.toNat nc.toNat (List.replicate nl.toNat x)])->K ((d,.v (.slice A nl.toNat nc.toNat))::L) w') :
    yE P n ops L w ⟨dst,.makeSlice t lo co,ty,pos,jf,g⟩ K:=by
  simp only[Prod.mk.injEq,lm] at hside;obtain⟨s1,rfl,s3,s4,s5,s6,s7⟩:=hside;obtain⟨k1,e1⟩:=toI_spec s6;obtain⟨k2,e2⟩:=toI_spec s7;refine zu (xs:=[lo,co]) (svs:=[sl,sc]) ss (d:=d) (by simp[Side,s1,s3,s4,s5]) fun a ha he=>?_;simp only[kw,List.map_nil,SV.vals,List.cons.injEq,and_true] at he;have hc:nc.toNat<=maxLen:=by
    have:=A0s (Nat.le_mul_of_pos_right nc.toNat tf.hb) hb;unfold maxLen;omega
  have hrun:=Zk (P:=P) (w:=w) tf k1 k2 nl.toNat nc.toNat (by omega) hb;rw[Int.toNat_of_nonneg h0,Int.toNat_of_nonneg (by omega)] at hrun;have hE:E.sz=zs.length:=by rw[<- hz,E.len]
  have hA:=hk (some ⟨w.heap.size,0,none⟩) _ (k.new (.cells ⟨(List.replicate nc.toNat zs).flatten⟩ e) _ (Ow.new w E e _ nl.toNat nc.toNat _ (by simp) (by omega) hc (by rw[<- hz,<-all_replicate,Enc.iy];simp) (by
    rw[<- hz,<-all_replicate,Enc.GU,List.take_replicate,Nat.min_eq_left (by omega)])))
  unfold Oper.wp execOp;simp only[he.1,he.2,e1,e2,Sem.run_bind,hrun,Result.andThen_ok,Sem.run_pure];exact⟨.v (.slice (some ⟨w.heap.size,0,none⟩) nl.toNat nc.toNat),by simp[SV.val],hA⟩
theorem XW {t bt:TypeId}{b off:Nat}{cur:Array Value}{v:Value}{vs:List Value}(hv:v.cells=⟨vs⟩)(hs:D9 P t=some vs.length)(h1:∀ u ∈ vs,u.oneCell'=true)(hb:Rw w b cur bt)(hl:off+vs.length<=cur.size) :
    (Instr.storeAt t (.pointer (some ⟨b,off,none⟩)) v).run P w=.ok () (w.setRow b (pat cur.toList off vs).toArray):=by
  have hst:=wG P b off bt vs 0 cur w hb (by simpa using hl) h1;simp only[Nat.add_zero] at hst;simp only[Instr.storeAt,Instr.sureAddr,Sem.run_bind,Sem.run_pure,Result.andThen_ok,storeVar,wE hs,hv];rw[if_neg (by simp)];exact hst
theorem add0 (b off j:Nat):(⟨b,off,none⟩:Addr).add j=⟨b,off+j,none⟩:=by unfold Addr.add;split <;> simp_all
theorem Q4 {ty t:TypeId}{p x:Operand}{pos:String}{jf:Array Edge}{g:UV}(ss:A01){pa:EQ}{sv:SV}{svs:List SV}
    (hside:(y7 ops ss L (⟨none,.store t p x,ty,pos,jf,g⟩:Oper),(none:A03),(toSS [p,x] (lk L)).map SV.vals,D9 P t,cellsS sv,svs.all SV.one1)=(true,none,some [.pointer pa,sv.val],some (SV.width svs),some svs,true))
    {b off:Nat} {cur:Array Value} {bt:TypeId} (hp:pa=some ⟨b,off,none⟩) (hb:Rw w b cur bt) (hl:off+SV.width svs<=cur.size)
    (hk:K L (w.setRow b (pat cur.toList off (SV.cl svs)).toArray)) :
    yE P n ops L w ⟨none,.store t p x,ty,pos,jf,g⟩ K:=by
  simp only[Prod.mk.injEq,A0c] at hside;obtain⟨s1,_,⟨vs,s5,s6⟩,s7,s8,s9⟩:=hside;refine XQ (xs:=[p,x]) (svs:=vs) ss (by simp[s1,s5]) fun a ha he=>?_;rw[s6] at he;simp only[kw,List.map_nil,List.cons.injEq,and_true] at he;have hcl:=jg svs;have hrun:=XW (P:=P) (w:=w) (t:=t) (Lr s8) (by rw[hcl];exact s7) (ones_spec svs s9) hb (by rw[hcl];exact hl);unfold Oper.wp execOp;simp only[he.1,he.2,hp,Sem.run_bind,hrun,Result.andThen_ok,Sem.run_pure];exact⟨rfl,hk⟩
theorem Op_bst {ty t:TypeId}{p x:Operand}{pos:String}{jf:Array Edge}{g:UV}(ss:A01)(i:Nat){pa:EQ}{sv:SV}{svs:List SV}{bt:TypeId}{b:Nat}{ys:List SV}(zs:List SV){off:Nat}
    (hside:(y7 ops ss L (⟨none,.store t p x,ty,pos,jf,g⟩:Oper),(none:A03),(toSS [p,x] (lk L)).map SV.vals,D9 P t,cellsS sv,svs.all SV.one1)=(true,none,some [.pointer pa,sv.val],some (SV.width svs),some svs,true))
    (hp:Pt (some ⟨b,0,none⟩) off pa) (k:Cx F O w0 w hs) (hi:hs[i]?=some (Bx bt b ys)) (hz:SV.cl zs=pat (SV.cl ys) off (SV.cl svs)) (hl:off+SV.width svs<=SV.width ys)
    (hk:∀ w',Cx F O w0 w' (hs.set i (Bx bt b zs))->K L w') :
    yE P n ops L w ⟨none,.store t p x,ty,pos,jf,g⟩ K:=by
  refine Q4 ss hside (b:=b) (off:=off) (cur:=⟨SV.cl ys⟩) (bt:=bt) ?_ (k.bxh i hi) (by simpa [jg] using hl) (hk _ (k.bput i hi off _ hz (by rw[jg];exact hl)));rw[hp rfl];simp[fa,add0]
theorem Ee {ty t:TypeId}{p x:Operand}{pos:String}{jf:Array Edge}{g:UV}{E:Enc α}(ss:A01)(i:Nat){pa:EQ}{sv:SV}{svs:List SV}{A:EQ}{n1 c:Nat}{xs:List α}{j:Nat}{x0:α}(y:α){kk:Nat}
    (hside:(y7 ops ss L (⟨none,.store t p x,ty,pos,jf,g⟩:Oper),(none:A03),(toSS [p,x] (lk L)).map SV.vals,D9 P t,cellsS sv,svs.all SV.one1)=(true,none,some [.pointer pa,sv.val],some (SV.width svs),some svs,true))
    (hp:Pt A (j*E.sz+kk) pa) (k:Cx F O w0 w hs) (hi:hs[i]?=some (Ow E A n1 c xs)) (hx:xs[j]?=some x0) (hA:A.isSome=true) (hy:E.f y=pat (E.f x0) kk (SV.cl svs)) (hl:kk+SV.width svs<=E.sz)
    (hk:∀ w',Cx F O w0 w' (hs.set i (Ow E A n1 c (xs.set j y)))->K L w') :
    yE P n ops L w ⟨none,.store t p x,ty,pos,jf,g⟩ K:=by
  obtain⟨b,bt,cur,rfl,hb,hsz⟩:=k.oat i hi hA;have hlt:=(A0w.1 hx).1;have hn:=k.len i hi;have h1:j*E.sz+kk+SV.width svs<=n1*E.sz:=by
    have:(j+1)*E.sz<=n1*E.sz:=A1D _ (by omega);rw[Nat.add_mul] at this;omega
  refine Q4 ss hside (b:=b) (off:=j*E.sz+kk) (cur:=cur) (bt:=bt) ?_ hb (by omega) (hk _ (k.oput i hi rfl hb (j*E.sz+kk) (SV.cl svs) (by simp) (E.XU hx hy (by rw[jg];exact hl)) (by rw[jg];exact h1)));rw[hp rfl];simp[fa,add0]
theorem Op_mst {ty t:TypeId}{p x:Operand}{pos:String}{jf:Array Edge}{g:UV}{E:Enc α}(ss:A01)(i:Nat){pa:EQ}{sv:SV}{svs:List SV}{A:EQ}{n1:Nat}{G:Win}{xs:List α}{j:Nat}{x0:α}(y:α){kk:Nat}
    (hside:(y7 ops ss L (⟨none,.store t p x,ty,pos,jf,g⟩:Oper),(none:A03),(toSS [p,x] (lk L)).map SV.vals,D9 P t,cellsS sv,svs.all SV.one1)=(true,none,some [.pointer pa,sv.val],some (SV.width svs),some svs,true))
    (hp:Pt A (j*E.sz+kk) pa) (k:Cx F O w0 w hs) (hi:hs[i]?=some (Mw E A n1 xs G)) (hx:xs[j]?=some x0) (hA:A.isSome=true) (hy:E.f y=pat (E.f x0) kk (SV.cl svs)) (hl:kk+SV.width svs<=E.sz)
    (hk:∀ w',Cx F O w0 w' (hs.set i (Mw E A n1 (xs.set j y) G))->K L w') :
    yE P n ops L w ⟨none,.store t p x,ty,pos,jf,g⟩ K:=by
  have hlt:=(A0w.1 hx).1;have hn:=k.mlen i hi;have h1:j*E.sz+kk+SV.width svs<=n1*E.sz:=by
    have:(j+1)*E.sz<=n1*E.sz:=A1D _ (by omega);rw[Nat.add_mul] at this;omega
  obtain⟨rfl,cur,hb,hsz,hk'⟩:=k.mput i hi hA (j*E.sz+kk) (SV.cl svs) (xs':=xs.set j y) (by simp) (E.XU hx hy (by rw[jg];exact hl)) (by rw[jg];exact h1);refine Q4 ss hside (b:=G.g) (off:=G.pre.length+(j*E.sz+kk)) (cur:=cur) (bt:=G.t) ?_ hb (by omega) (hk _ hk');rw[hp rfl];simp[fa,add0]
theorem Op_box {dst:A03}{ty t:TypeId}{x:Operand}{pos:String}{jf:Array Edge}{g:UV}(ss:A01)(d:Nat)(sv:SV)(cs:List SV)
    (hside:(y7 ops ss L ⟨dst,.box t x,ty,pos,jf,g⟩,dst,(decide (d < n)),(L.any fun p=>p.1 == d),(toSS [x] (lk L)).map SV.vals,(cellsS sv).map SV.cl)=(true,some d,true,false,some [sv.val],some (SV.cl cs)))
    (k:Cx F O w0 w hs) (hk:∀ b w',Cx F O w0 w' (hs++[Bx t b cs])->K ((d,.v (.pointer (some ⟨b,0,none⟩)))::L) w') :
    yE P n ops L w ⟨dst,.box t x,ty,pos,jf,g⟩ K:=by
  simp only[Prod.mk.injEq,lm,A0c] at hside;obtain⟨s1,rfl,s3,s4,⟨svs,s5,s5'⟩,⟨cs',s6,s6'⟩⟩:=hside;refine zu (xs:=[x]) (svs:=svs) ss (d:=d) (by simp[Side,s1,s3,s4,s5]) fun a ha he=>?_;rw[s5'] at he;simp only[kw,List.map_nil,List.cons.injEq,and_true] at he;have hcs:=Lr s6;rw[s6'] at hcs;have hrun:(Instr.box t (a.eval x)).run P w=.ok (.pointer (some ⟨w.heap.size,0,none⟩)) (w.alloc (.cells ⟨SV.cl cs⟩ t)):=by
    rw[he,<-hcs];rfl
  unfold Oper.wp execOp;simp only[Sem.run_bind,hrun,Result.andThen_ok,Sem.run_pure];exact⟨.v (.pointer (some ⟨w.heap.size,0,none⟩)),rfl,hk w.heap.size _ (k.new _ (Bx t w.heap.size cs) ⟨Rw.new w _ _,rfl⟩)⟩
theorem Op_alloc {dst:A03}{ty t:TypeId}{pos:String}{jf:Array Edge}{g:UV}(ss:A01)(d:Nat)(cs:List SV)
    (hside:(y7 ops ss L ⟨dst,.alloc t,ty,pos,jf,g⟩,dst,(decide (d < n)),(L.any fun p=>p.1 == d),(zeroS P t).map SV.cl)=(true,some d,true,false,some (SV.cl cs)))
    (k:Cx F O w0 w hs) (hk:∀ b w',Cx F O w0 w' (hs++[Bx t b cs])->K ((d,.v (.pointer (some ⟨b,0,none⟩)))::L) w') :
    yE P n ops L w ⟨dst,.alloc t,ty,pos,jf,g⟩ K:=by
  simp only[Prod.mk.injEq,lm,A0c] at hside;obtain⟨s1,rfl,s3,s4,⟨cs',s6,s7⟩⟩:=hside;refine zu (xs:=[]) (svs:=[]) ss (d:=d) (by simp[Side,s1,s3,s4,toSS]) fun a ha he=>?_;obtain⟨z,hz1,hz2⟩:=OH s6 w;rw[s7] at hz2;have hrun:(Instr.alloc t true (.tuple #[])).run P w=.ok (.pointer (some ⟨w.heap.size,0,none⟩)) (w.alloc (.cells ⟨SV.cl cs⟩ t)):=by
    rw[<- hz2];simp only[Instr.alloc,Sem.run_bind,hz1,Result.andThen_ok];rfl
  unfold Oper.wp execOp;simp only[Sem.run_bind,hrun,Result.andThen_ok,Sem.run_pure];exact⟨.v (.pointer (some ⟨w.heap.size,0,none⟩)),rfl,hk w.heap.size _ (k.new _ (Bx t w.heap.size cs) ⟨Rw.new w _ _,rfl⟩)⟩
def lcp (xs:List α)(lo n:Nat)(ys:List α):List α:=xs.take lo++ys.take n++xs.drop (lo+min n ys.length)
theorem Uo {xs ys:List α}{lo n:Nat}(h:lo+n<=xs.length):(lcp xs lo n ys).length=xs.length:=by
  simp only[lcp,Pi,A0i,A1F];omega
theorem lcp_all (E:Enc α){xs ys:List α}{lo n:Nat}(h:lo+n<=xs.length):E.all (lcp xs lo n ys)=pat (E.all xs) (lo*E.sz) (E.all (ys.take n)):=by
  simp only[lcp,pat,Enc.all_append,Enc.GU,Enc.iy,A0i];rw[<- Nat.add_mul,Enc.PM]
theorem lcp_nil {xs ys:List α}{lo n:Nat}(h:min n ys.length=0):lcp xs lo n ys=xs:=by
  have:ys.take n=[]:=by
    apply List.eq_nil_of_length_eq_zero;rw[A0i];exact h
  simp[lcp,this,h]
def Pw (A:EQ)(off n:Nat)(p:EQ):Prop:=A.isSome=true->p.isSome=true/\(n≠0->p=fa A off)
theorem run_copy {t t2 ty e:TypeId}{zs:List Value}{bytes:Nat}(tf:TF P t e zs bytes){b off:Nat}{cur:Array Value}{bt:TypeId}{x:Value}{m dn dc:Nat}{news:List Value}(hb:Rw w b cur bt)(hx:Src P zs.length w x m news)(h1:∀ u ∈ news,u.oneCell'=true)(hl:off+dn*zs.length<=cur.size) :
    (Builtin.copy_ #[t,t2] ty #[.slice (some ⟨b,off,none⟩) dn dc,x]).run P w=.ok (.int .i64 (min m dn:Nat)) (w.setRow b (pat cur.toList off (news.take (min m dn*zs.length))).toArray):=by
  obtain⟨i,z,hi,hz,hzc,hsz,hby⟩:=tf.parts;have OJ:(sizeOf e).run P w=.ok zs.length w:=by rw[<- hsz];exact Cf hi w
  have hc:=hx.cells (min m dn) w (Nat.min_le_left _ _) rfl;have hll:(news.take (min m dn*zs.length)).length<=dn*zs.length:=by
    rw[A0i];exact A0s (Nat.min_le_left _ _) (A1D _ (Nat.min_le_right _ _))
  have hst:=wG P b off bt (news.take (min m dn*zs.length)) 0 cur w hb (by simp only[Nat.add_zero];omega) (fun u hu=>h1 u (List.mem_of_mem_take hu));simp only[Nat.add_zero] at hst;have hmin:Nat.min m dn=min m dn:=rfl;simp only[Builtin.copy_,List.getElem?_toArray,List.getElem?_cons_zero,List.getElem?_cons_succ,Sem.run_bind,run_underlying tf.ht,Result.andThen_ok,hx.len,OJ,hmin,hc,hst,Sem.run_pure];rfl
theorem Ur {dst:A03}{x y:Operand}{t t2 ty:TypeId}{pos:String}{jf:Array Edge}{g:UV}{e:TypeId}{zs:List Value}{bytes:Nat}(tf:TF P t e zs bytes)(ss:A01)(d:Nat){pa:EQ}{dn dc m:Nat}{v:SV}{news:List Value}
    (hside:(y7 ops ss L ⟨dst,.call ⟨.builtin .copy,#[x,y],#[t,t2]⟩,ty,pos,jf,g⟩,dst,(decide (d < n)),(L.any fun p=>p.1 == d),(toSS [x,y] (lk L)).map SV.vals)=(true,some d,true,false,some [.slice pa dn dc,v.val]))
    {b off:Nat} {cur:Array Value} {bt:TypeId} (hp:pa=some ⟨b,off,none⟩) (hb:Rw w b cur bt) (hx:Src P zs.length w v.val m news) (h1:∀ u ∈ news,u.oneCell'=true) (hl:off+dn*zs.length<=cur.size)
    (hk:K ((d,.i .i64 (min m dn:Nat))::L) (w.setRow b (pat cur.toList off (news.take (min m dn*zs.length))).toArray)) :
    yE P n ops L w ⟨dst,.call ⟨.builtin .copy,#[x,y],#[t,t2]⟩,ty,pos,jf,g⟩ K:=by
  simp only[Prod.mk.injEq,A0c,lm] at hside;obtain⟨s1,rfl,s3,s4,⟨svs,s5,s6⟩⟩:=hside;subst hp;refine zu (xs:=[x,y]) (svs:=svs) ss (d:=d) (by simp[Side,s1,s3,s4,s5]) fun a ha he=>?_;rw[s6] at he;simp only[kw,List.map_nil,List.cons.injEq,and_true] at he;have hrun:=run_copy (P:=P) (w:=w) (t2:=t2) (ty:=ty) (dc:=dc) tf hb hx h1 hl;unfold Oper.wp execOp;simp only[resolve,invoke,builtin,Sem.run_bind,Sem.run_pure,Result.andThen_ok,List.map_toArray,kw,List.map_nil,he.1,he.2,hrun];exact⟨.i .i64 (min m dn:Nat),rfl,hk⟩
theorem pat_nil (l:List Value)(k k':Nat):pat l k []=pat l k' []:=by simp[pat,List.take_append_drop]
theorem Op_bcp {dst:A03}{x y:Operand}{t t2 ty:TypeId}{pos:String}{jf:Array Edge}{g:UV}{e:TypeId}{zs:List Value}{bytes:Nat}(tf:TF P t e zs bytes){E:Enc α}(ss:A01)(d i:Nat){pa:EQ}{dn dc m:Nat}{v:SV}{src:List α}{bt:TypeId}{b off:Nat}{ys:List SV}(vs:List SV)
    (hside:(y7 ops ss L ⟨dst,.call ⟨.builtin .copy,#[x,y],#[t,t2]⟩,ty,pos,jf,g⟩,dst,(decide (d < n)),(L.any fun p=>p.1 == d),(toSS [x,y] (lk L)).map SV.vals)=(true,some d,true,false,some [.slice pa dn dc,v.val])) (hE:E.sz=zs.length)
    (hp:Pw (some ⟨b,0,none⟩) off dn pa) (k:Cx F O w0 w hs) (hi:hs[i]?=some (Bx bt b ys)) (hx:Src P zs.length w v.val m (E.all src)) (hm:src.length=m) (hz:SV.cl vs=pat (SV.cl ys) off (E.all (src.take dn))) (hl:off+dn*E.sz<=SV.width ys) (hsp:∀ a,pa=some a->a.block=b/\a.spot=none/\a.off<=SV.width ys)
    (hk:∀ w',Cx F O w0 w' (hs.set i (Bx bt b vs))->K ((d,.i .i64 (min m dn:Nat))::L) w') :
    yE P n ops L w ⟨dst,.call ⟨.builtin .copy,#[x,y],#[t,t2]⟩,ty,pos,jf,g⟩ K:=by
  have htk:(E.all src).take (min m dn*zs.length)=E.all (src.take dn):=by
    rw[<- hE,Enc.GU];congr 1;rw[<- hm];rw[List.take_eq_take_iff];omega
  obtain⟨q1,q2⟩:=hp rfl;by_cases hdn:dn=0
  ·subst hdn;obtain⟨⟨pb,po,ps⟩,rfl⟩:=Option.isSome_iff_exists.1 q1;obtain⟨rfl,hsp2,hsp3⟩:=hsp _ rfl;simp only at hsp2 hsp3;subst hsp2;refine Ur tf ss d hside (b:=pb) (off:=po) (cur:=⟨SV.cl ys⟩) (bt:=bt) rfl (k.bxh i hi) hx (E.JZ src) (by simpa [jg] using hsp3) ?_;rw[htk];refine hk _ (k.bput i hi po _ ?_ (by simpa [Enc.all] using hsp3));rw[hz];simp only[List.take_zero];exact pat_nil _ _ _
  ·have hpa:=q2 hdn;simp only[fa,Option.map_some,add0,Nat.zero_add] at hpa;refine Ur tf ss d hside (b:=b) (off:=off) (cur:=⟨SV.cl ys⟩) (bt:=bt) hpa (k.bxh i hi) hx (E.JZ src) (by simpa [jg,<-hE] using hl) ?_;rw[htk];exact hk _ (k.bput i hi off _ hz (by
     rw[Enc.iy];have:(src.take dn).length*E.sz<=dn*E.sz:=A1D _ (by rw[A0i];omega);omega))
end
end
section
open Go.RowKit
set_option linter.unusedSimpArgs false
set_option linter.unusedVariables false
variable {α β:Type}
abbrev I (n:Int):SV:=.i .i64 n
abbrev sl (A:EQ)(n c:Nat):SV:=.v (.slice A n c)
abbrev pt (g off:Nat):SV:=.v (.pointer (some ⟨g,off,none⟩))
abbrev bC (n:Int):Int:=IntKind.i64.wrap n
theorem bz {σ ρ:Type}{e:Option ρ}{y:σ⊕ρ}{r:ρ}(hm:e.map Sum.inr=some y)(hr:∀ r',y=.inr r'->r'=r):e=some r:=by
  simp only[A0c] at hm;obtain⟨r',he,hy⟩:=hm;rw[he,hr r' hy.symm]
def aW (xs:List α)(i:Int):Option α:=if 0<=i then xs[i.toNat]? else none
theorem aS {xs:List α}{i:Int}{x:α}(h:aW xs i=some x):0<=i/\xs[i.toNat]?=some x:=by
  unfold aW at h;split at h
  ·exact⟨by assumption,h⟩
  ·cases h
theorem dD {xs:List α}{i:Int}{x:α}(h:aW xs i=some x):0<=i/\i < xs.length:=by
  obtain⟨h1,h2⟩:=aS h;have:=(A0w.1 h2).1;omega
theorem bf {xs:List α}{i:Nat}(h:i < xs.length):aW xs (i:Int)=some xs[i]:=by
  unfold aW;rw[if_pos (by omega)];simp[h]
def Io {β:Type}[Inhabited β](c:Bool)(o:Option β):Option β:=if c then o else some default
theorem Df {β:Type}[Inhabited β]{c:Bool}{o:Option β}{x:β}(h:Io c o=some x)(hc:c=true):o=some x:=by
  subst hc;simpa [Io] using h
theorem Ir {β:Type}[Inhabited β]{c:Bool}{o:Option β}{x:β}(h:Io (!c) o=some x)(hc:c=false):o=some x:=by
  subst hc;simpa [Io] using h
def OL (xs:List α)(lo hi:Int):Option (List α):=if 0<=lo/\lo<=hi/\hi<=xs.length then some ((xs.take hi.toNat).drop lo.toNat) else none
theorem nz {xs ys:List α}{lo hi:Int}(h:OL xs lo hi=some ys):0<=lo/\lo<=hi/\hi<=xs.length/\ys=(xs.take hi.toNat).drop lo.toNat:=by
  unfold OL at h;split at h
  ·rename_i hc;simp only[Option.some.injEq] at h;exact⟨hc.1,hc.2.1,hc.2.2,h.symm⟩
  ·cases h
theorem y8 {xs ys:List α}{lo hi:Int}(h:OL xs lo hi=some ys):ys.length=hi.toNat - lo.toNat:=by
  obtain⟨h1,h2,h3,rfl⟩:=nz h;simp;omega
theorem slx (A:EQ)(l m s n n':Nat)(hn:n=n')(hm:n'<=m - l):∃ A2 c2,Value.slice (Oj A l m s) n (m - l)=.slice A2 n' c2/\n'<=c2/\A2=Oj A l m s/\c2=m - l:=by
  subst hn;exact⟨_,_,rfl,hm,rfl,rfl⟩
theorem PO (A:EQ)(m s:Nat):Oj A 0 m s=A:=by
  unfold Oj;split
  ·rfl
  ·cases A with
   | none=>rfl
   | some a=>simp[Addr.add]
theorem XX (A:EQ)(m s n n':Nat)(hn:n=n'):Value.slice (Oj A 0 m s) (n - 0) (m - 0)=.slice A n' m:=by
  rw[PO];subst hn;rfl
theorem Rd.cut {w:World}{A A2:EQ}{E:Enc α}{xs ys:List α}{lo hi:Int}{l m s:Nat}(h:Rd w A (E.all xs))(hs:OL xs lo hi=some ys)(hl:l=lo.toNat)(hsz:s=E.sz)(hA:A2=Oj A l m s)(hm:hi.toNat<=m):Rd w A2 (E.all ys):=by
  obtain⟨h1,h2,h3,rfl⟩:=nz hs;subst hA;subst hl;subst hsz;by_cases he:m=lo.toNat
  ·have:(xs.take hi.toNat).drop lo.toNat=[]:=by
     apply List.eq_nil_of_length_eq_zero;simp;omega
   rw[this];exact⟨fun h=>absurd rfl h,fun _ j u _ hu=>by simp[Enc.all] at hu⟩
  ·unfold Oj;rw[if_neg he];rw[<- Enc.PM,<-Enc.GU];refine⟨fun hne=>?_,fun a j u ha hu=>?_⟩
   ·obtain⟨a,ha⟩:=h.1 (by intro e;rw[e] at hne;simp at hne);exact⟨_,by rw[ha];rfl⟩
   ·simp only[A0c] at ha;obtain⟨b,hb,rfl⟩:=ha;rw[J3];refine h.2 b _ u hb ?_;rw[List.getElem?_drop,List.getElem?_take] at hu;split at hu
    ·exact hu
    ·cases hu
theorem Rd.pre {w:World}{A:EQ}{E:Enc α}{xs ys:List α}{lo hi:Int}(h:Rd w A (E.all xs))(hs:OL xs lo hi=some ys)(hl:lo=0):Rd w A (E.all ys):=by
  have:=h.cut hs rfl rfl (l:=lo.toNat) (m:=hi.toNat+1) rfl (by omega);subst hl
  rwa [show Int.toNat 0=0 from rfl,PO] at this
theorem Ro.cut {F:Nat->Prop}{w:World}{A A2:EQ}{E:Enc α}{xs ys:List α}{lo hi:Int}{l m s:Nat}(h:Ro F w A (E.all xs))(hs:OL xs lo hi=some ys)(hl:l=lo.toNat)(hsz:s=E.sz)(hA:A2=Oj A l m s)(hm:hi.toNat<=m):Ro F w A2 (E.all ys):=by
  refine⟨h.1.cut hs hl hsz hA hm,fun hne a ha=>?_⟩;have h2:E.all xs≠[]:=by
    intro e;apply hne;obtain⟨_,_,_,rfl⟩:=nz hs;rw[<- Enc.PM,<-Enc.GU,e];simp
  subst hA;unfold Oj at ha;split at ha
  ·exact h.2 h2 a ha
  ·simp only[A0c] at ha;obtain⟨b,hb,rfl⟩:=ha;rw[uH];exact h.2 h2 b hb
theorem Ro.pre {F:Nat->Prop}{w:World}{A:EQ}{E:Enc α}{xs ys:List α}{lo hi:Int}(h:Ro F w A (E.all xs))(hs:OL xs lo hi=some ys)(hl:lo=0):Ro F w A (E.all ys):=by
  have:=h.cut hs rfl rfl (l:=lo.toNat) (m:=hi.toNat+1) rfl (by omega);subst hl
  rwa [show Int.toNat 0=0 from rfl,PO] at this
def app (xs ys:List α)(b:Nat):Option (List α):=if(xs.length+ys.length)*b<=140737488355328 then some (xs++ys) else none
theorem dw {xs ys zs:List α}{b:Nat}(h:app xs ys b=some zs):(xs.length+ys.length)*b<=140737488355328/\zs=xs++ys:=by
  unfold app at h;split at h
  ·simp only[Option.some.injEq] at h;exact⟨by assumption,h.symm⟩
  ·cases h
def need (p:Prop)[Decidable p]:Option Unit:=if p then some () else none
theorem gp {p:Prop}[Decidable p]{u:Unit}(h:need p=some u):p:=by
  unfold need at h;split at h
  ·assumption
  ·cases h
theorem dO {A:EQ}(i:Int)(s:Nat)(h:A.isSome=true):(lh A i s).isSome=true:=by
  cases A with
  | none=>cases h
  | some a=>rfl
theorem Rd.ix {w:World}{A:EQ}{E:Enc α}{xs:List α}{i:Int}{x:α}{n:Nat}(h:Rd w A (E.all xs))(hg:aW xs i=some x)(hn:xs.length=n)(hsz:0 < E.sz):0<=i/\i < (n:Int)/\A.isSome=true:=by
  have h1:=dD hg;exact⟨h1.1,by omega,kY h hsz h1.1 (aS hg).2⟩
theorem Rd.el {w:World}{A p:EQ}{E:Enc α}{xs:List α}{i:Int}{x:α}{k:Nat}{v:Value}(h:Rd w A (E.all xs))(hg:aW xs i=some x)(hp:Pt A (i.toNat*E.sz+k) p)(hv:(E.f x)[k]?=some v):∃ a,p=some a/\w.cell? a=some v :=
  h.cellP hp (E.Zj (aS hg).2 hv)
theorem Rd.els {w:World}{A p:EQ}{E:Enc α}{xs:List α}{i:Int}{x:α}{k m:Nat}{vs:List Value}(h:Rd w A (E.all xs))(hg:aW xs i=some x)(hp:Pt A (i.toNat*E.sz+k) p)(hv:((E.f x).drop k).take m=vs)(hm:0 < m)(hkm:k+m<=E.sz):∃ a,p=some a/\Rd w (some a) vs:=by
  obtain⟨h0,hx⟩:=aS hg;have hlt:=(A0w.1 hx).1;have hle:i.toNat*E.sz+k+m<=(E.all xs).length:=by
    rw[Enc.iy];have:(i.toNat+1)*E.sz<=xs.length*E.sz:=A1D _ (by omega);rw[Nat.add_mul] at this;omega
  obtain⟨a,ha,hr⟩:=h.partP hp hle hm;refine⟨a,ha,?_⟩;rw[<- hv];have e:=E.XR hx;rw[<- e,List.drop_take,List.take_take,List.drop_drop]
  rwa [show min m (E.sz - k)=m from by omega]
theorem Pt.nC (A:EQ)(i:Int)(s:Nat):Pt A (i.toNat*s+0) (lh A i s):=by
  have:=(Pt.refl A).ix i s
  rwa [Nat.zero_add] at this
theorem Pt.fa2 {A p:EQ}{t j:Nat}(h:Pt A (t+j) p)(k:Nat):Pt A (t+(j+k)) (Sx.fa p k):=by
  have:=h.fa k
  rwa [Nat.add_assoc] at this
def Vec.rep (n:Nat)(x:α):Vec α n:=⟨List.replicate n x,by simp⟩
def zA {n:Nat}(x:Vec α n)(i:Int)(y:α):Vec α n:=⟨x.l.set i.toNat y,by simp[x.h]⟩
def YY {n:Nat}(x:Vec α n)(lo m:Nat)(ys:List α):Vec α n:=if h:lo+m<=n then⟨lcp x.l lo m ys,by rw[Uo (by rw[x.h];exact h),x.h]⟩ else x
theorem Rd.vec {w:World}{g:Nat}{ys:List SV}{off:Nat}{c:List Value}(h:Rd w (some ⟨g,0,none⟩) (SV.cl ys))(hd:((Iq off ys).bind List.head?).map (fun v=>(v.Oh,v.val))=some (true,.agg ⟨c⟩)):Rd w (some ⟨g,off,none⟩) c:=by
  simp only[A0c,A0v,Prod.mk.injEq] at hd;obtain⟨v,⟨l,hl,hh⟩,hv1,hv2⟩:=hd;obtain⟨e1,e2⟩:=JV _ _ _ hl;cases l with
  | nil=>cases hh
  | cons y l =>
    simp only[List.head?_cons,Option.some.injEq] at hh;subst hh;cases y with
    | vec n z =>
      simp only[SV.val,Value.agg.injEq,Array.mk.injEq] at hv2;subst hv2;refine⟨fun _=>⟨_,rfl⟩,fun a j u ha hu=>?_⟩;cases ha;have e3:(SV.cl ys)[off+j]?=some u:=by
        rw[<- List.getElem?_drop,e1,Ec,List.getElem?_append_left (A0w.1 hu).1];exact hu
      have:=h.2 ⟨g,0,none⟩ (off+j) u rfl e3;rw[add0] at this ⊢;simpa using this
    | _=>cases hv1
theorem cl_vput (pre post:List SV){n:Nat}(c c':Cells n)(k:Nat)(vs:List Value)(h:c'.l=pat c.l k vs)(hk:k+vs.length<=n):SV.cl (pre++.vec n c'::post)=pat (SV.cl (pre++.vec n c::post)) (SV.width pre+k) vs:=by
  rw[OA,OA,Ec,Ec,h,<-jg,<-ul,<-ul];rw[XT _ _ _ _ _ (by rw[c.h];exact hk)]
theorem Np (xs ys:List SV):SV.width (xs++ys)=SV.width xs+SV.width ys:=by
  rw[<- jg,OA,Pi,jg,jg]
theorem Pt.at (g off:Nat):Pt (Option.some ⟨g,0,none⟩) off (Option.some ⟨g,off,none⟩):=fun _=>by simp[Sx.fa,add0]
theorem Pt.Le {A p:EQ}{o:Nat}(h:Pt A o p)(i:Int)(s:Nat):Pt A (o+(i.toNat*s+0)) (lh p i s):=h.ix i s
section
variable {P:Program}{n:Nat}{ops:Array Oper}{L:St}{w w0:World}{F O:Nat->Prop}{hs:List HP}{K:St->World->Prop}
theorem Op_vst {ty t:TypeId}{p x:Operand}{pos:String}{jf:Array Edge}{g:UV}{E:Enc α}(ss:A01)(i:Nat){pa:EQ}{sv:SV}{svs:List SV}{bt:TypeId}{b:Nat}(pre post:List SV){m:Nat}(x0:Vec α m){j:Int}{e0:α}(y:α){kk:Nat}
    (hside:(y7 ops ss L (⟨none,.store t p x,ty,pos,jf,g⟩:Oper),(none:A03),(toSS [p,x] (lk L)).map SV.vals,D9 P t,cellsS sv,svs.all SV.one1)=(true,none,some [.pointer pa,sv.val],some (SV.width svs),some svs,true))
    (hp:Pt (some ⟨b,0,none⟩) (SV.width pre+(j.toNat*E.sz+kk)) pa) (k:Cx F O w0 w hs) (hi:hs[i]?=some (Bx bt b (pre++.vec (m*E.sz) (E.vec x0)::post))) (hx:aW x0.l j=some e0) (hy:E.f y=pat (E.f e0) kk (SV.cl svs)) (hl:kk+SV.width svs<=E.sz)
    (hk:∀ w',Cx F O w0 w' (hs.set i (Bx bt b (pre++.vec (m*E.sz) (E.vec (zA x0 j y))::post)))->K L w') :
    yE P n ops L w ⟨none,.store t p x,ty,pos,jf,g⟩ K:=by
  obtain⟨h0,hx'⟩:=aS hx;have hlt:=(A0w.1 hx').1;rw[x0.h] at hlt;have h1:j.toNat*E.sz+kk+SV.width svs<=m*E.sz:=by
    have:(j.toNat+1)*E.sz<=m*E.sz:=A1D _ (by omega);rw[Nat.add_mul] at this;omega
  refine Op_bst ss i (pre++.vec (m*E.sz) (E.vec (zA x0 j y))::post) hside hp k hi (cl_vput pre post (E.vec x0) (E.vec (zA x0 j y)) _ _ (E.XU hx' hy (by rw[jg];exact hl)) (by rw[jg];exact h1)) ?_ hk;rw[Np];simp only[SV.width];omega
theorem Op_vcp {dst:A03}{x y:Operand}{t t2 ty:TypeId}{pos:String}{jf:Array Edge}{g:UV}{e:TypeId}{zs:List Value}{bytes:Nat}(tf:TF P t e zs bytes){E:Enc α}(ss:A01)(d i:Nat){pa:EQ}{lo dn dc m m':Nat}{v:SV}{src:List α}{bt:TypeId}{b:Nat}(pre post:List SV){N:Nat}(x0:Vec α N)
    (hside:(y7 ops ss L ⟨dst,.call ⟨.builtin .copy,#[x,y],#[t,t2]⟩,ty,pos,jf,g⟩,dst,(decide (d < n)),(L.any fun p=>p.1 == d),(toSS [x,y] (lk L)).map SV.vals,E.sz)=(true,some d,true,false,some [.slice pa dn dc,v.val],zs.length))
    (hp:pa=Oj (some ⟨b,SV.width pre,none⟩) lo m' E.sz) (k:Cx F O w0 w hs) (hi:hs[i]?=some (Bx bt b (pre++.vec (N*E.sz) (E.vec x0)::post))) (hx:Src P zs.length w v.val m (E.all src)) (hm:src.length=m) (hl:lo+dn<=N) (hdc:dn<=m' - lo) (hm':m'<=N)
    (hk:∀ w',Cx F O w0 w' (hs.set i (Bx bt b (pre++.vec (N*E.sz) (E.vec (YY x0 lo dn src))::post)))->K ((d,.i .i64 (min m dn:Nat))::L) w') :
    yE P n ops L w ⟨dst,.call ⟨.builtin .copy,#[x,y],#[t,t2]⟩,ty,pos,jf,g⟩ K:=by
  simp only[Prod.mk.injEq] at hside;obtain⟨s1,s2,s3,s4,s5,hE⟩:=hside;have hle:lo*E.sz+dn*E.sz<=N*E.sz:=by rw[<- Nat.add_mul];exact A1D _ hl
  refine Op_bcp tf ss d i (off:=SV.width pre+lo*E.sz) (pre++.vec (N*E.sz) (E.vec (YY x0 lo dn src))::post) (by rw[s1,s2,s3,s4,s5]) hE ?_ k hi hx hm ?_ ?_ ?_ hk
  ·intro _;subst hp;unfold Oj;split
   ·exact⟨rfl,fun hd=>by omega⟩
   ·exact⟨rfl,fun _=>by simp[fa,add0]⟩
  ·refine cl_vput pre post (E.vec x0) (E.vec (YY x0 lo dn src)) _ _ ?_ ?_
   ·show E.all (YY x0 lo dn src).l=_;unfold YY;rw[dif_pos hl];exact lcp_all E (by rw[x0.h];exact hl)
   ·rw[Enc.iy];have:(src.take dn).length*E.sz<=dn*E.sz:=A1D _ (by rw[A0i];omega);omega
  ·rw[Np];simp only[SV.width];omega
  ·intro a ha;subst hp;unfold Oj at ha;rw[Np];simp only[SV.width];split at ha
   ·simp only[Option.some.injEq] at ha;subst ha;exact⟨rfl,rfl,by simp⟩
   ·rename_i hne;simp only[Option.map_some,Option.some.injEq] at ha;subst ha;rw[add0];exact⟨rfl,rfl,by simp only;omega⟩
end
end
section
open Go.RowKit
set_option linter.unusedSimpArgs false
set_option linter.unusedVariables false
variable {α β:Type}
section
variable {P:Program}{n:Nat}{ops:Array Oper}{L:St}{w w0:World}{F O:Nat->Prop}{hs:List HP}{K:St->World->Prop}
theorem set_self {h:HP}{i:Nat}(hi:hs[i]?=some h):hs.set i h=hs:=by
  obtain⟨hl,rfl⟩:=A0w.1 hi;exact List.set_getElem_self hl
theorem Us {o:Oper}{f:FuncId}{xs:List Operand}{svs0:List Value}(ss:A01)(d:Nat)(svs:List SV){R:Ending->World->Prop}
    (hs:(y7 ops ss L o,o.dst,(decide (d < n)),(L.any fun p=>p.1 == d),(toSS xs (lk L)).map SV.vals)=(true,some d,true,false,some svs0))
    (hrun:∀ a:Act,xs.map a.eval=svs0->(execOp a.eval o).run P w=.ok (.enter f (vals svs)) w) (hc:Calls P f (vals svs) w R)
    (hk:∀ e w',R e w'->∃ x,e=.returned x.val/\K ((d,x)::L) w'):yE P n ops L w o K:=by
  simp only[Prod.mk.injEq,A0c,lm] at hs;obtain⟨s1,s2,s3,s4,⟨vs,s5,s6⟩⟩:=hs;refine zu (xs:=xs) (svs:=vs) ss (d:=d) (by simp[Side,s1,s2,s3,s4,s5]) fun a ha he=>?_;rw[s6] at he;unfold Oper.wp;rw[hrun a he];refine hc.mono fun e w' hR=>?_;obtain⟨x,rfl,hx⟩:=hk e w' hR;exact⟨x,by rw[s2],hx⟩
theorem oK {dst:A03}{f:FuncId}{xs:Array Operand}{ats:Array TypeId}{ty:TypeId}{pos:String}{jf:Array Edge}{g:UV}(ss:A01)(d:Nat)(svs:List SV){R:Ending->World->Prop}(hgo:gy P f)
    (hs:(y7 ops ss L ⟨dst,.call ⟨.value (.func f),xs,ats⟩,ty,pos,jf,g⟩,dst,(decide (d < n)),(L.any fun p=>p.1 == d),(toSS xs.toList (lk L)).map SV.vals)=(true,some d,true,false,some (SV.vals svs))) (hc:Calls P f (vals svs) w R)
    (hk:∀ e w',R e w'->∃ x,e=.returned x.val/\K ((d,x)::L) w') :
    yE P n ops L w ⟨dst,.call ⟨.value (.func f),xs,ats⟩,ty,pos,jf,g⟩ K:=by
  refine Us ss d svs hs (fun a he=>?_) hc hk;have hargs:(#[]++xs.map a.eval++#[]:Array Value)=vals svs:=by
    apply Array.ext';simp[vals,<-he]
  show(callFunc f (#[]++xs.map a.eval++#[])).run P w=_;rw[hargs];exact hgo.run _ w
theorem Ut {dst:A03}{f:FuncId}{c:Operand}{xs:Array Operand}{ats:Array TypeId}{ty:TypeId}{pos:String}{jf:Array Edge}{g:UV}(ss:A01)(d:Nat)(first args cap:List SV){R:Ending->World->Prop}(hgo:gy P f)
    (hs:(y7 ops ss L ⟨dst,.call ⟨.value c,xs,ats⟩,ty,pos,jf,g⟩,dst,(decide (d < n)),(L.any fun p=>p.1 == d),(toSS (c::xs.toList) (lk L)).map SV.vals)=(true,some d,true,false,some (.func (.func f) ⟨SV.vals first⟩ ⟨SV.vals cap⟩::SV.vals args))) (hc:Calls P f (vals (first++args++cap)) w R)
    (hk:∀ e w',R e w'->∃ x,e=.returned x.val/\K ((d,x)::L) w') :
    yE P n ops L w ⟨dst,.call ⟨.value c,xs,ats⟩,ty,pos,jf,g⟩ K:=by
  refine Us ss d (first++args++cap) hs (fun a he=>?_) hc hk;simp only[kw,List.cons.injEq] at he;have hargs:((⟨SV.vals first⟩:Array Value)++xs.map a.eval++⟨SV.vals cap⟩:Array Value)=vals (first++args++cap):=by
    apply Array.ext';simp[vals,vals_eq];exact he.2.trans (vals_eq args)
  unfold execOp;simp only[resolve,he.1,Deferred.ofValue,invoke,Sem.run_bind,Sem.run_pure,Result.andThen_ok,hargs];exact hgo.run _ w
theorem Q5 {dst:A03}{f:FuncId}{c:Operand}{name:String}{xs:Array Operand}{ats:Array TypeId}{ty:TypeId}{pos:String}{jf:Array Edge}{g:UV}(ss:A01)(d:Nat)(t:TypeId)(recv:SV)(args:List SV){R:Ending->World->Prop}
    (hinv:∀ (v:EQ) (l:Array Value) (w:World),(callMethod (.iface t (.pointer v)) name l).run P w=.ok (.enter f (#[.pointer v]++l)) w) {v:EQ} (hv:recv.val=.pointer v)
    (hs:(y7 ops ss L ⟨dst,.call ⟨.invoke c name,xs,ats⟩,ty,pos,jf,g⟩,dst,(decide (d < n)),(L.any fun p=>p.1 == d),(toSS (c::xs.toList) (lk L)).map SV.vals)=(true,some d,true,false,some (.iface t recv.val::SV.vals args))) (hc:Calls P f (vals (recv::args)) w R)
    (hk:∀ e w',R e w'->∃ x,e=.returned x.val/\K ((d,x)::L) w') :
    yE P n ops L w ⟨dst,.call ⟨.invoke c name,xs,ats⟩,ty,pos,jf,g⟩ K:=by
  refine Us ss d (recv::args) hs (fun a he=>?_) hc hk;simp only[kw,List.cons.injEq] at he;have hargs:(#[a.eval c]++xs.map a.eval:Array Value)=⟨.iface t (.pointer v)::SV.vals args⟩:=by
    apply Array.ext';simp[he.1,<-he.2,hv]
  have hr:vals (recv::args)=⟨.pointer v::SV.vals args⟩:=by simp[vals,SV.vals,hv]
  unfold execOp;simp only[resolve,Sem.run_bind,Sem.run_pure,Result.andThen_ok,hargs,hr,invoke];have e1:(⟨.iface t (.pointer v)::SV.vals args⟩:Array Value)[0]?=some (.iface t (.pointer v)):=rfl;have e2:(⟨.iface t (.pointer v)::SV.vals args⟩:Array Value).extract 1 (⟨.iface t (.pointer v)::SV.vals args⟩:Array Value).size=⟨SV.vals args⟩:=by
    apply Array.ext';simp
  simp only[e1,e2,hinv];congr 2;apply Array.ext';simp
theorem Ro.of_rest {E:Enc α}{A:EQ}{m c:Nat}{xs:List α}{F1 O1:Nat->Prop}{rest:List HP}(hr:∀ (i:Nat) (h:HP),rest[i]?=some h->∃ S R,h.p w S R/\(∀ b,R b->O1 b)/\∀ b,S b->¬ F1 b)(i:Nat)(hi:rest[i]?=some (Ow E A m c xs)):Ro F1 w A (E.all xs):=by
  obtain⟨S,R,h,_,hS⟩:=hr i _ hi;refine⟨Ow.rd' h,fun _ a ha=>?_⟩;rcases h.2 with⟨h1,_⟩ | ⟨g,t,cur,h1,_,_,_,_,_,h7⟩
  ·rw[h1] at ha;cases ha
  ·rw[h1] at ha;simp only[Option.some.injEq] at ha;subst ha;exact hS g h7
theorem Ro.yu {A:EQ}{cs:List Value}{F1:Nat->Prop}(h:Ro F w0 A cs)(k:Cx F O w0 w hs)(hF:∀ b,F1 b->F b∨w0.heap.size<=b):Ro F1 w A cs:=by
  refine⟨h.cx k,fun hne a ha hf=>?_⟩;rcases hF _ hf with h1 | h1
  ·exact h.2 hne a ha h1
  ·obtain⟨v,l,rfl⟩:∃ v l,cs=v::l:=by
     cases cs with
     | nil=>exact absurd rfl hne
     | cons v l=>exact⟨v,l,rfl⟩
   have:=World.block_lt_of_cell? w0 _ (h.1.2 a 0 v ha rfl);rw[uH] at this;omega
structure Fit (E:Enc α)(A:Option Addr)(m c:Nat)(G:Win):Prop where
  pre:A.isSome=true->G.pre=[]/\m<=c/\c<=maxLen/\c*E.sz<=m*E.sz+G.post.length
  nil:A=none->c=0
theorem Cx.openM {E:Enc α}{A:EQ}{m c:Nat}{xs:List α}(k:Cx F O w0 w hs)(i:Nat)(hi:hs[i]?=some (Ow E A m c xs)):∃ G,Fit E A m c G/\Cx F O w0 w (hs.set i (Mw E A m xs G)):=by
  obtain⟨S0,R0,h0⟩:=k.get i hi;rcases h0.2 with⟨h1,h2,h3⟩ | ⟨g,t,cur,h1,h2,h3,h4,h5,h6,h7⟩
  ·subst h1;refine⟨⟨0,0,[],[]⟩,⟨fun h=>(by cases h),fun _=>h3⟩,k.as i hi fun S R h=>⟨h.1,.inl ⟨rfl,h2⟩⟩⟩
  ·subst h1;have hlen:(E.all xs).length=m*E.sz:=by rw[Enc.iy,h0.1]
   refine⟨⟨g,t,[],cur.toList.drop (m*E.sz)⟩,⟨fun _=>⟨rfl,h3,h4,by simp;omega⟩,fun h=>(by cases h)⟩,k.as i hi fun S R h=>⟨h.1,.inr ⟨rfl,?_,?_⟩⟩⟩
   ·simp only[List.nil_append];rw[<- h6,List.take_append_drop];exact h2
   ·rcases h.2 with⟨h,_⟩ | ⟨g',t',cur',h1',_,_,_,_,_,h7'⟩
    ·cases h
    ·simp only[Option.some.injEq,Addr.mk.injEq,and_true] at h1';subst h1';exact h7'
theorem Cx.shutM {E:Enc α}{A:EQ}{m c:Nat}{xs:List α}{G:Win}(k:Cx F O w0 w hs)(hG:Fit E A m c G)(i:Nat)(hi:hs[i]?=some (Mw E A m xs G)):Cx F O w0 w (hs.set i (Ow E A m c xs)):=by
  refine k.as i hi fun S R h=>⟨h.1,?_⟩
  rcases h.2 with⟨h1,h2⟩ | ⟨h1,h2,h3⟩
  ·exact .inl ⟨h1,h2,hG.nil h1⟩
  ·obtain⟨e1,e2,e3,e4⟩:=hG.pre (by rw[h1];rfl);have hlen:(E.all xs).length=m*E.sz:=by rw[Enc.iy,h.1]
   rw[e1] at h1 h2;refine .inr ⟨G.g,G.t,_,h1,h2,e2,e3,?_,?_,h3⟩
   ·simp only[List.nil_append,List.size_toArray,Pi];omega
   ·simp only[List.nil_append];rw[<- hlen,List.take_left]
theorem PQ {w:World}{g:Nat}{cur:Array Value}{t:TypeId}(h:w.heap[g]?=some (.cells cur t (0,0))):∃ w',(markStringish ⟨g,0,none⟩).run P w=.ok () w'/\Rw w' g cur t/\w.grownBy w' (some g)/\w'.heap.size=w.heap.size:=by
  have hsh:w.shape? g=some (t,cur.size):=by simp[World.shape?,h]
  refine⟨w.freeze { block:=g,off:=cur.size } 1,?_,⟨(cur.size,cur.size+1),?_,.inr (Nat.le_refl _)⟩,⟨rfl,rfl,rfl,by simp[World.freeze],fun k hk hne=>?_⟩,by simp[World.freeze]⟩
  ·simp[markStringish,shape,Sem.run,hsh,freeze]
  ·simp[World.freeze,Array.getElem?_modify,h]
  ·have:¬ g=k:=fun e=>hne (by rw[e]);simp[World.freeze,Array.getElem?_modify,this]
theorem LC {dst:A03}{x:Operand}{src t ty:TypeId}{pos:String}{jf:Array Edge}{g:UV}(ss:A01)(d:Nat)(s:AC){e:TypeId}
    (hside:(y7 ops ss L ⟨dst,.convert src t x,ty,pos,jf,g⟩,dst,(decide (d < n)),(L.any fun p=>p.1 == d),(toSS [x] (lk L)).map SV.vals,(match P.underlying src,P.underlying t with | some .string,some (.slice e')=>(e',match P.underlying e' with | some (.int .u8)=>true | _=>false) | _,_=>(0,false)))=(true,some d,true,false,some [.string ⟨⟨s⟩⟩],(e,true))) (hroom:s.length<=140737488355328)
    (k:Cx F O w0 w hs) (hk:∀ A c w',Cx F O w0 w' (hs++[Ow e8 A s.length c s])->K ((d,.v (.slice A s.length c))::L) w') :
    yE P n ops L w ⟨dst,.convert src t x,ty,pos,jf,g⟩ K:=by
  simp only[Prod.mk.injEq,A0c,lm] at hside;obtain⟨s1,rfl,s3,s4,⟨svs,s5,s6⟩,s7⟩:=hside;have hty:P.underlying src=some .string/\P.underlying t=some (.slice e)/\P.underlying e=some (.int .u8):=by
    split at s7
    ·rename_i e' h1 h2;simp only[Prod.mk.injEq] at s7;obtain⟨rfl,h3⟩:=s7;refine⟨h1,h2,?_⟩;split at h3
     ·assumption
     ·cases h3
    ·simp at s7
  refine zu (xs:=[x]) (svs:=svs) ss (d:=d) (by simp[Side,s1,s3,s4,s5]) fun a ha he=>?_;rw[s6] at he;simp only[kw,List.map_nil,List.cons.injEq,and_true] at he;obtain⟨h1,h2,h3⟩:=hty;have hml:s.length<=maxLen:=by unfold maxLen;omega
  have hge:=grownCap_ge w s.length 0 e;have hcm:=grownCap_le_maxLen w s.length 0 e hml;obtain⟨cur,hcur⟩:∃ cur:Array Value,cur=(⟨s.map bV⟩:Array Value)++Array.replicate (grownCap w s.length 0 e - s.length) (.int .u8 0):=⟨_,rfl⟩
  have hal:(w.drew.alloc (.cells cur e)).heap[w.heap.size]?=some (.cells cur e (0,0)):=heap_alloc_new w.drew _;obtain⟨w',hm1,hm2,hm3,hm4⟩:=PQ (P:=P) hal;have hrun:(execOp a.eval ⟨some d,.convert src t x,ty,pos,jf,g⟩).run P w=.ok (.value (.slice (some ⟨w.heap.size,0,none⟩) s.length (grownCap w s.length 0 e))) w':=by
    unfold execOp;simp only[he,convert,Sem.run_bind,run_underlying h1,run_underlying h2,run_underlying h3,Result.andThen_ok,Conv.stringToBytes];have e1:(ByteArray.mk ⟨s⟩).size=s.length:=rfl;have e2:((ByteArray.mk ⟨s⟩).data.map fun b=>Value.int .u8 b.toNat)=⟨s.map bV⟩:=by simp;intro a _;rfl
    have e3:(choose (.appendCap s.length 0 e)).run P w=.ok (grownCap w s.length 0 e) w.drew:=by simp[choose,Sem.run,Question.forced,grownCap]
    have e4:(newRow e cur).run P w.drew=.ok ⟨w.heap.size,0,none⟩ (w.drew.alloc (.cells cur e)):=rfl;simp only[e1,e2,e3,Result.andThen_ok,<-hcur,e4,hm1,Sem.run_bind,Sem.run_pure]
  have kk:Cx F O w0 w' (hs++[Ow e8 (some ⟨w.heap.size,0,none⟩) s.length (grownCap w s.length 0 e) s]):=by
    refine k.call ⟨hm3.os,hm3.tape,hm3.output,by rw[hm4];simp,fun b hb _=>?_,fun _ h=>h.elim,fun _ h=>h.elim,fun b=>b=w.heap.size,fun _=>False,
      ⟨_,_,fun _=>False,fun _=>False,(?_:(Ow e8 (some ⟨w.heap.size,0,none⟩) s.length (grownCap w s.length 0 e) s).p w' (fun b=>b=w.heap.size) (fun _=>False)),⟨fun _ h=>h,fun _ h=>h⟩,by simp,by simp,by simp,by simp⟩,fun b hb=>.inr ?_,fun _ h=>h.elim⟩
    ·rw[hm3.block b (by simp;omega) (fun e=>by simp at e;omega)];exact heap_alloc_old w.drew _ hb
    ·refine⟨rfl,.inr ⟨w.heap.size,e,cur,rfl,hm2,hge,hcm,?_,?_,rfl⟩⟩
     ·subst hcur;simp[e8];omega
     ·rw[zy];subst hcur;simp only[Array.toList_append,e8,Nat.mul_one];rw[List.take_append_of_le_length (by simp),List.take_of_length_le (by simp)]
    ·subst hb;exact⟨Nat.le_refl _,by rw[hm4];simp⟩
  unfold Oper.wp;rw[hrun];exact⟨.v (.slice (some ⟨w.heap.size,0,none⟩) s.length (grownCap w s.length 0 e)),rfl,hk _ _ _ kk⟩
theorem Op_ocp {dst:A03}{x y:Operand}{t t2 ty:TypeId}{pos:String}{jf:Array Edge}{g:UV}{e:TypeId}{zs:List Value}{bytes:Nat}(tf:TF P t e zs bytes){E:Enc α}(ss:A01)(d i:Nat){pa A:EQ}{lo dn dc m n1 c l' m':Nat}{v:SV}{src xs:List α}
    (hside:(y7 ops ss L ⟨dst,.call ⟨.builtin .copy,#[x,y],#[t,t2]⟩,ty,pos,jf,g⟩,dst,(decide (d < n)),(L.any fun p=>p.1 == d),(toSS [x,y] (lk L)).map SV.vals,E.sz)=(true,some d,true,false,some [.slice pa dn dc,v.val],zs.length))
    (hp:pa=Oj A l' m' E.sz) (hlo:l'=lo) (hmm:dn<=m' - l') (k:Cx F O w0 w hs) (hi:hs[i]?=some (Ow E A n1 c xs)) (hx:Src P zs.length w v.val m (E.all src)) (hm:src.length=m) (hl:lo+dn<=n1)
    (hk:∀ w',Cx F O w0 w' (hs.set i (Ow E A n1 c (lcp xs lo dn src)))->K ((d,.i .i64 (min m dn:Nat))::L) w') :
    yE P n ops L w ⟨dst,.call ⟨.builtin .copy,#[x,y],#[t,t2]⟩,ty,pos,jf,g⟩ K:=by
  subst hlo;simp only[Prod.mk.injEq] at hside;obtain⟨s1,s2,s3,s4,s5,hE⟩:=hside;have hxl:=k.len i hi;by_cases h0:min dn src.length=0
  ·-- nothing is copied
   have hm0:min m dn=0:=by omega
   simp only[Prod.mk.injEq,A0c,lm] at s3 s5;subst s2;obtain⟨svs,s5,s6⟩:=s5;refine zu (xs:=[x,y]) (svs:=svs) ss (d:=d) (by simp[Side,s1,s3,s4,s5]) fun a ha he=>?_;rw[s6] at he;simp only[kw,List.map_nil,List.cons.injEq,and_true] at he;obtain⟨i',z,hi',hz,hzc,hsz,hby⟩:=tf.parts;have OJ:(sizeOf e).run P w=.ok zs.length w:=by rw[<- hsz];exact Cf hi' w
   have hc:=hx.cells 0 w (Nat.zero_le _) rfl;have hmin:Nat.min m dn=0:=hm0;have hrun:(Builtin.copy_ #[t,t2] ty #[.slice pa dn dc,v.val]).run P w=.ok (.int .i64 0) w:=by
     cases hpa:pa <;>
     simp[Builtin.copy_,run_underlying tf.ht,hx.len,OJ,hmin,hc,storeCells,goInt]
   unfold Oper.wp execOp;simp only[resolve,invoke,builtin,Sem.run_bind,Sem.run_pure,Result.andThen_ok,List.map_toArray,kw,List.map_nil,he.1,he.2,hrun];refine⟨.i .i64 (min m dn:Nat),by rw[hm0];rfl,hk _ ?_⟩;rw[lcp_nil (by omega),set_self hi];exact k
  ·-- there is a row
   have hA:A.isSome=true:=by
     obtain⟨S,R,h⟩:=k.get i hi;rcases h.2 with⟨_,h2,_⟩ | ⟨g,t,cur,h1,_⟩
     ·omega
     ·rw[h1];rfl
   obtain⟨b,bt,cur,rfl,hb,hsz⟩:=k.oat i hi hA;have hpa:pa=some ⟨b,l'*E.sz,none⟩:=by
     rw[hp];unfold Oj;rw[if_neg (by omega)];simp[add0]
   have hle:l'*E.sz+dn*E.sz<=n1*E.sz:=by rw[<- Nat.add_mul];exact A1D _ hl
   have htk:(E.all src).take (min m dn*zs.length)=E.all (src.take dn):=by
     rw[<- hE,Enc.GU];congr 1;rw[<- hm,List.take_eq_take_iff];omega
   refine Ur tf ss d (by rw[s1,s2,s3,s4,s5]) hpa hb hx (E.JZ src) (by rw[<- hE];omega) ?_;rw[htk];refine hk _ (k.oput i hi rfl hb (l'*E.sz) _ (Uo (by omega)) (lcp_all E (by omega)) ?_);rw[Enc.iy];have:(src.take dn).length*E.sz<=dn*E.sz:=A1D _ (by rw[A0i];omega);omega
end
structure IsAdd (P:Program)(f:FuncId):Prop where
  ok : ∃ fn, P.funcs[f]? = some fn /\ (fn.name == "runtime.NumGoroutine") = false /\ fn.body.isNone = true /\ Extern.findNext fn = none /\ Extern.find fn = some add64Entry
def Zl (x y c:UInt64):Option (UInt64×UInt64):=if c.toNat<=1 then some (UInt64.ofNat (x.toNat+y.toNat+c.toNat),UInt64.ofNat ((x.toNat+y.toNat+c.toNat) / 18446744073709551616)) else none
section
variable {P:Program}{n:Nat}{ops:Array Oper}{L:St}{w:World}{K:St->World->Prop}
theorem Zm {dst:A03}{f:FuncId}{xs:Array Operand}{ats:Array TypeId}{ty:TypeId}{pos:String}{jf:Array Edge}{g:UV}(hadd:IsAdd P f)(ss:A01)(d:Nat)(x y c:UInt64){r:UInt64×UInt64}
    (hs:(y7 ops ss L ⟨dst,.call ⟨.value (.func f),xs,ats⟩,ty,pos,jf,g⟩,dst,(decide (d < n)),(L.any fun p=>p.1 == d),(toSS xs.toList (lk L)).map SV.vals)=(true,some d,true,false,some (SV.vals [.u64 x,.u64 y,.u64 c])))
    (hr:Zl x y c=some r) (hk:K ((d,.qA [.u64 r.1,.u64 r.2])::L) w):yE P n ops L w ⟨dst,.call ⟨.value (.func f),xs,ats⟩,ty,pos,jf,g⟩ K:=by
  simp only[Prod.mk.injEq,A0c,lm] at hs;obtain⟨s1,s2,s3,s4,⟨vs,s5,s6⟩⟩:=hs;subst s2;refine zu (xs:=xs.toList) (svs:=vs) ss (d:=d) (by simp[Side,s1,s3,s4,s5]) fun a ha he=>?_;rw[s6] at he;unfold Zl at hr;split at hr
  ·rename_i hc;simp only[Option.some.injEq] at hr;subst hr;have hargs:(#[]++xs.map a.eval++#[]:Array Value)=#[.int .u64 x.toNat,.int .u64 y.toNat,.int .u64 c.toNat]:=by
     apply Array.ext';simpa [SV.vals,SV.val] using he
   obtain⟨fn,h1,h2,h3,h4,h5⟩:=hadd.ok;have hx:=x.toNat_lt;have hy:=y.toNat_lt;have hcc:=c.toNat_lt;have hrun:(execOp a.eval ⟨some d,.call ⟨.value (.func f),xs,ats⟩,ty,pos,jf,g⟩).run P w=.ok (.value (SV.qA [.u64 (UInt64.ofNat (x.toNat+y.toNat+c.toNat)),.u64 (UInt64.ofNat ((x.toNat+y.toNat+c.toNat) / 18446744073709551616))]).val) w:=by
     show(callFunc f (#[]++xs.map a.eval++#[])).run P w=_;rw[hargs,run_callFunc_extern h1 h2 h3 h4 h5,run_add64 x.toNat y.toNat c.toNat (by omega) (by omega) (by omega) (by omega)];have q1:(UInt64.ofNat (x.toNat+y.toNat+c.toNat)).toNat=(x.toNat+y.toNat+c.toNat) % 18446744073709551616:=rfl;have q2:(UInt64.ofNat ((x.toNat+y.toNat+c.toNat) / 18446744073709551616)).toNat=((x.toNat+y.toNat+c.toNat) / 18446744073709551616) % 18446744073709551616:=rfl;have e1:((x.toNat:Int)+y.toNat+c.toNat) % 18446744073709551616=((UInt64.ofNat (x.toNat+y.toNat+c.toNat)).toNat:Int):=by rw[q1];omega
     have e2:((x.toNat:Int)+y.toNat+c.toNat) / 18446744073709551616=((UInt64.ofNat ((x.toNat+y.toNat+c.toNat) / 18446744073709551616)).toNat:Int):=by
       rw[q2];simp only[Nat.reducePow] at hx hy;omega
     rw[e1,e2];rfl
   unfold Oper.wp;rw[hrun];exact⟨_,rfl,hk⟩
  ·cases hr
end
end
end Go.Sx
