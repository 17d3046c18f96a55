import Derived.WalkKit
import Derived.Deep.QuietTactic
import Derived.Laws.StructEq
import Derived.Maps.AppendAt
namespace Go.Sx
set_option linter.unusedSimpArgs false
set_option linter.unusedVariables false
theorem Pi:type_of% @List.length_append:=@List.length_append
theorem bi:type_of% @List.length_cons:=@List.length_cons
theorem kw:type_of% @List.map_cons:=@List.map_cons
theorem lm:type_of% @decide_eq_true_eq:=@decide_eq_true_eq
theorem lw:type_of% @List.append_assoc:=@List.append_assoc
theorem ul:type_of% @List.mem_cons:=@List.mem_cons
theorem ut:type_of% @List.mem_map:=@List.mem_map
theorem ww:type_of% @Int.toNat_natCast:=@Int.toNat_natCast
theorem A0K:type_of% @List.length_map:=@List.length_map
theorem A0L:type_of% @List.length_nil:=@List.length_nil
theorem A0M:type_of% @Option.map_eq_some_iff:=@Option.map_eq_some_iff
theorem A0N:type_of% @List.mem_singleton:=@List.mem_singleton
theorem A0P:type_of% @List.mem_cons_of_mem:=@List.mem_cons_of_mem
theorem A0Q:type_of% @List.drop_eq_getElem_cons:=@List.drop_eq_getElem_cons
theorem A0R:type_of% @List.mem_cons_self:=@List.mem_cons_self
theorem A0S:type_of% @List.take_length:=@List.take_length
theorem A0T:type_of% @List.length_take:=@List.length_take
theorem A0U:type_of% @Bool.and_eq_true:=@Bool.and_eq_true
theorem A0V:type_of% @List.getElem?_eq_getElem:=@List.getElem?_eq_getElem
theorem A0W:type_of% @List.length_singleton:=@List.length_singleton
theorem A0X:type_of% @Option.bind_some:=@Option.bind_some
theorem A0Y:type_of% @decide_eq_true:=@decide_eq_true
theorem A0Z:type_of% @decide_eq_false:=@decide_eq_false
theorem A0a:type_of% @Nat.le_trans:=@Nat.le_trans
theorem A0b:type_of% @List.perm_append_comm:=@List.perm_append_comm
theorem A0c:type_of% @Nat.lt_of_lt_of_le:=@Nat.lt_of_lt_of_le
theorem A0d:type_of% @Option.bind_eq_some_iff:=@Option.bind_eq_some_iff
theorem A0e:type_of% @List.getElem?_eq_some_iff:=@List.getElem?_eq_some_iff
theorem A0f:type_of% @List.cons_append:=@List.cons_append
theorem A0g:type_of% @List.set_cons_zero:=@List.set_cons_zero
theorem A0h:type_of% @Bool.false_eq_true:=@Bool.false_eq_true
theorem A0i:type_of% @List.drop_zero:=@List.drop_zero
theorem A0j:type_of% @List.drop_drop:=@List.drop_drop
theorem A0k:type_of% @Nat.mul_le_mul_right:=@Nat.mul_le_mul_right
theorem A0l:type_of% @List.flatten_cons:=@List.flatten_cons
theorem A0m:type_of% @List.length_drop:=@List.length_drop
theorem Y{p:Prop}(h:p:=by omega):p:=h
theorem Z{p:Prop}(h:p:=by kernel_rfl):p:=h
theorem A2H{p:Prop}(h:p:=by decide):p:=h
theorem A2J{p:Prop}(h:p:=by rfl):p:=h
theorem A2K{p:Prop}(h:p:=by simp):p:=h
theorem A2L{p:Prop}(h:p:=by simp;omega):p:=h
theorem A2M{p:Prop}(h:p:=by simp only[Pi,bi,A0L];omega):p:=h
theorem A2N{p:Prop}(h:p:=by simp only[Bool.or_eq_true,lm];omega):p:=h
theorem A2P{p:Prop}(h:p:=by simp only[bi,A0L];omega):p:=h
theorem A2Q{p:Prop}(h:p:=by simp only[A0U,lm];omega):p:=h
theorem A2R{p:Prop}(h:p:=by rw[A0K];omega):p:=h
theorem A2S{p:Prop}(h:p:=by split <;> omega):p:=h
theorem A2T{p:Prop}(h:p:=by simp only[Bool.not_eq_true',Bool.and_eq_false_iff,decide_eq_false_iff_not,Bool.or_eq_true,lm];omega):p:=h
theorem A2U{p:Prop}(h:p:=by simp only[Bool.or_eq_true,A0U,lm];omega):p:=h
theorem A2V{p:Prop}(h:p:=by exact Int.le_of_lt (Int.pow_pos (by omega))):p:=h
theorem A2W{p:Prop}(h:p:=by simp only[List.size_toArray,Pi,A0T,A0m,Array.length_toList];omega):p:=h
theorem A2X{p:Prop}(h:p:=by rw[List.getElem?_append_right (by simp)];simp):p:=h
theorem A2Y{p:Prop}(h:p:=by have:UInt64.size=18446744073709551616:=rfl;omega):p:=h
theorem A2Z{p:Prop}(h:p:=by simp only[Bool.not_eq_true',Bool.or_eq_false_iff,Bool.and_eq_false_iff,Bool.or_eq_false_iff,decide_eq_false_iff_not];omega):p:=h
theorem A2a:type_of% @Option.some.injEq:=@Option.some.injEq
theorem A2b:type_of% @Result.andThen_ok:=@Result.andThen_ok
theorem A2c:type_of% @Prod.mk.injEq:=@Prod.mk.injEq
theorem A2d:type_of% @Sem.run_pure:=@Sem.run_pure
theorem A2e:type_of% @Sem.run_bind:=@Sem.run_bind
theorem A2f:type_of% @Nat.le_refl:=@Nat.le_refl
theorem A2g:type_of% @List.map_append:=@List.map_append
theorem A2h:type_of% @Nat.le_of_ble_eq_true:=@Nat.le_of_ble_eq_true
theorem A2i:type_of% @List.take_of_length_le:=@List.take_of_length_le
theorem A2j:type_of% @Option.some.inj:=@Option.some.inj
theorem A2k:type_of% @Bool.or_eq_true:=@Bool.or_eq_true
theorem A2l:type_of% @List.range_succ:=@List.range_succ
theorem A2m:type_of% @UInt64.toNat_inj:=@UInt64.toNat_inj
theorem A2n:type_of% @List.append_nil:=@List.append_nil
theorem A2o:type_of% @Array.getD_eq_getD_getElem?:=@Array.getD_eq_getD_getElem?
theorem A2p:type_of% @Nat.zero_le:=@Nat.zero_le
theorem A2q:type_of% @List.map_nil:=@List.map_nil
theorem A2r:type_of% @List.getElem?_map:=@List.getElem?_map
theorem A2s:type_of% @UInt64.lt_iff_toNat_lt:=@UInt64.lt_iff_toNat_lt
theorem A2t:type_of% @List.foldl_append:=@List.foldl_append
theorem A2u:type_of% @List.cons.injEq:=@List.cons.injEq
theorem A2v:type_of% @List.mem_append_left:=@List.mem_append_left
theorem A2w:type_of% @Nat.mod_eq_of_lt:=@Nat.mod_eq_of_lt
theorem A2x:type_of% @List.mem_append_right:=@List.mem_append_right
theorem A2y:type_of% @List.eq_nil_of_length_eq_zero:=@List.eq_nil_of_length_eq_zero
theorem A2z:type_of% @Bool.not_eq_true':=@Bool.not_eq_true'
theorem A30:type_of% @Nat.shiftRight_eq_div_pow:=@Nat.shiftRight_eq_div_pow
theorem A31:type_of% @Option.map_some:=@Option.map_some
theorem A32:type_of% @List.take_append_drop:=@List.take_append_drop
theorem A33:type_of% @UInt64.toNat_ofNat':=@UInt64.toNat_ofNat'
theorem A34:type_of% @List.getD_eq_getElem?_getD:=@List.getD_eq_getElem?_getD
theorem A35:type_of% @Nat.min_eq_left:=@Nat.min_eq_left
theorem A36:type_of% @BitVec.eq_of_toNat_eq:=@BitVec.eq_of_toNat_eq
theorem A37:type_of% @List.nil_append:=@List.nil_append
theorem A38:type_of% @UInt64.le_iff_toNat_le:=@UInt64.le_iff_toNat_le
theorem A39:type_of% @List.take_succ_eq_append_getElem:=@List.take_succ_eq_append_getElem
theorem A3A:type_of% @Nat.lt_or_ge:=@Nat.lt_or_ge
theorem A3B:type_of% @Bool.eq_iff_iff:=@Bool.eq_iff_iff
theorem A3C:type_of% @Sum.elim_inr:=@Sum.elim_inr
theorem A3D:type_of% @Nat.pow_le_pow_right:=@Nat.pow_le_pow_right
theorem A3E:type_of% @Sum.elim_inl:=@Sum.elim_inl
theorem A3F:type_of% @Nat.mul_comm:=@Nat.mul_comm
theorem A3G:type_of% @Bool.and_eq_false_iff:=@Bool.and_eq_false_iff
theorem A3H:type_of% @UInt64.toNat_add:=@UInt64.toNat_add
theorem A3J:type_of% @Nat.shiftLeft_eq:=@Nat.shiftLeft_eq
theorem A3K:type_of% @Bool.not_true:=@Bool.not_true
theorem A3L:type_of% @List.lt_irrefl:=@List.lt_irrefl
theorem A3M:type_of% @List.getElem?_append_left:=@List.getElem?_append_left
theorem A3N:type_of% @Nat.div_eq_of_lt:=@Nat.div_eq_of_lt
theorem A3P:type_of% @List.mem_append:=@List.mem_append
theorem A3Q:type_of% @List.getElem?_drop:=@List.getElem?_drop
theorem A3R:type_of% @List.getElem?_cons_succ:=@List.getElem?_cons_succ
theorem A3S:type_of% @Nat.add_zero:=@Nat.add_zero
theorem A3T:type_of% @List.drop_of_length_le:=@List.drop_of_length_le
theorem A3U:type_of% @BitVec.toNat_shiftLeft:=@BitVec.toNat_shiftLeft
theorem A3V:type_of% @BitVec.isLt:=@BitVec.isLt
theorem A3W:type_of% @Array.getElem?_setIfInBounds_ne:=@Array.getElem?_setIfInBounds_ne
theorem A3X:type_of% @UInt64.toNat_ofNat_of_lt':=@UInt64.toNat_ofNat_of_lt'
theorem A3Y:type_of% @Nat.add_mul:=@Nat.add_mul
theorem A3Z:type_of% @List.size_toArray:=@List.size_toArray
theorem A3a:type_of% @Result.ok.injEq:=@Result.ok.injEq
theorem A3b:type_of% @List.foldl_cons:=@List.foldl_cons
theorem A3c:type_of% @List.getElem?_append_right:=@List.getElem?_append_right
theorem A3d:type_of% @Int.tmod_eq_emod_of_nonneg:=@Int.tmod_eq_emod_of_nonneg
theorem A3e:type_of% @Nat.min_eq_right:=@Nat.min_eq_right
theorem A3f:type_of% @List.Perm.cons:=@List.Perm.cons
theorem A3g:type_of% @Bool.true_and:=@Bool.true_and
theorem A3h:type_of% @Array.length_toList:=@Array.length_toList
theorem A3i:type_of% @UInt8.eq_of_toBitVec_eq:=@UInt8.eq_of_toBitVec_eq
theorem A3j:type_of% @Nat.le_mul_of_pos_right:=@Nat.le_mul_of_pos_right
theorem A3k:type_of% @Nat.exists_eq_add_of_le:=@Nat.exists_eq_add_of_le
theorem A3l:type_of% @List.getElem?_cons_zero:=@List.getElem?_cons_zero
theorem A3m:type_of% @Value.bool.injEq:=@Value.bool.injEq
theorem A3n:type_of% @Nat.mul_mod_left:=@Nat.mul_mod_left
theorem A3o:type_of% @List.map_toArray:=@List.map_toArray
theorem A3p:type_of% @if_pos:=@if_pos
theorem A3q:type_of% @if_neg:=@if_neg
theorem A3r:type_of% @if_false:=@if_false
theorem A3s:type_of% @congrArg:=@congrArg
theorem A3t:type_of% @not_true_eq_false:=@not_true_eq_false
theorem A3u:type_of% @decide_eq_false_iff_not:=@decide_eq_false_iff_not
theorem A3v:type_of% @List.singleton_append:=@List.singleton_append
theorem A3w:type_of% @List.set_append_right:=@List.set_append_right
theorem A3x:type_of% @List.getElem?_eq_none:=@List.getElem?_eq_none
theorem A3y:type_of% @UInt32.toNat_toBitVec:=@UInt32.toNat_toBitVec
theorem A3z:type_of% @List.pairwise_append:=@List.pairwise_append
theorem A40:type_of% @List.mem_of_getElem?:=@List.mem_of_getElem?
theorem A41:type_of% @List.getElem?_set_ne:=@List.getElem?_set_ne
theorem A42:type_of% @List.foldl_nil:=@List.foldl_nil
theorem A43:type_of% @Bool.false_and:=@Bool.false_and
theorem A44:type_of% @UInt64.toNat_mul:=@UInt64.toNat_mul
theorem A45:type_of% @UInt64.toNat_mod:=@UInt64.toNat_mod
theorem A46:type_of% @UInt64.toNat_div:=@UInt64.toNat_div
theorem A47:type_of% @Option.getD_some:=@Option.getD_some
theorem A48:type_of% @List.take_append:=@List.take_append
theorem A49:type_of% @and_true:=@and_true
section
@[reducible] def AC:=List UInt8
@[reducible] def EQ:=Option Addr
@[reducible] def NE:=AC×Int×UInt64×AC
@[reducible] def PP:=Option (Nat×Bool)
@[reducible] def UV:=AC×Int
@[reducible] def WF:=AC×Int×UInt64
@[reducible] def WP:=Int×Int×Int×Int×Int×Int×Int×UInt64×(List NE)
@[reducible] def A00:=List Nat
@[reducible] def A01:=List UInt64
@[reducible] def A02:=List AC
@[reducible] def A03:=Option Nat
@[reducible] def A04:=Option Int
@[reducible] def A05:=Int×Int
@[reducible] def A06:=List NE
@[reducible] def A07:=List (Int×Int×Int×AC×Int)
@[reducible] def A08:=A02×Int
@[reducible] def A09:=AC×Int×Int×Int
@[reducible] def A0A:=Option (UV⊕AC)
@[reducible] def A0B:=Int×Int×Int
structure Vec (α:Type)(n:Nat) where
  l:List α
  h:l.length=n
theorem Vec.ext{α:Type}{n}{x:Vec α n}{y:Vec α n}(h:x.l=y.l):x=y:=by
  cases x;cases y;simp only at h;subst h;rfl
structure Cells (n:Nat) where
  l:List Value
  h:l.length=n
  one:∀ v ∈ l,v.oneCell'=true
inductive SV where
  | b (x:Bool)
  | u8 (x:UInt8)
  | u16 (x:UInt16)
  | u32 (x:UInt32)
  | u64 (x:UInt64)
  | i (k:IntKind) (n:Int)
  | s (x:AC)
  | v (x:Value)
    | vec (n:Nat) (x:Cells n)
  | agg (xs:List SV)
  | og (xs:List SV)
mutual
def SV.val:SV->Value
  | .b x=>.bool x
  | .u8 x=>.int .u8 x.toNat
  | .u16 x=>.int .u16 x.toNat
  | .u32 x=>.int .u32 x.toNat
  | .u64 x=>.int .u64 x.toNat
  | .i k n=>.int k n
  | .s x=>.string ⟨⟨x⟩⟩
  | .v x=>x
  | .vec _ x=>.agg ⟨x.l⟩
  | .agg xs=>.agg ⟨SV.cl xs⟩
  | .og xs=>.tuple ⟨SV.vals xs⟩
def SV.vals:List SV->List Value
  | []=>[]
  | x::xs=>x.val::SV.vals xs
def SV.cl:List SV->List Value
  | []=>[]
  | .vec _ x::xs=>x.l++SV.cl xs
  | x::xs=>x.val::SV.cl xs
end
def YK (a b:UInt64):UInt64:=if b < a then b else a
theorem vals_eq(xs:List SV):SV.vals xs=xs.map SV.val:=by
  induction xs with
  | nil=>rfl
  | cons x xs ih=>simp[SV.vals,ih]
def vals (xs:List SV):Array Value:=⟨SV.vals xs⟩
def SV.width:List SV->Nat
  | []=>0
  | .vec n _::xs=>n+SV.width xs
  | _::xs=>1+SV.width xs
def SV.Qa:SV->Bool
  | .vec _ _=>true
  | _=>false
theorem IQ{x}(h:x.Qa=false)(xs:List SV):SV.cl (x::xs)=x.val::SV.cl xs:=by
  cases x <;> first | rfl | cases h
theorem Qs{x}(h:x.Qa=false)(xs:List SV):SV.width (x::xs)=1+SV.width xs:=by
  cases x <;> first | rfl | cases h
theorem F5(n:Nat)(x:Cells n)(xs:List SV):SV.cl (.vec n x::xs)=x.l++SV.cl xs:=rfl
theorem NZ(x:SV):(∃ n v,x=.vec n v)∨x.Qa=false:=by
  cases x <;> first | exact .inl ⟨_,_,rfl⟩ | exact .inr rfl
theorem jr:∀ xs:List SV,(SV.cl xs).length=SV.width xs:=by
  intro xs
  induction xs with
  | nil=>rfl
  | cons x xs ih =>
    rcases NZ x with⟨n,v,rfl⟩ | h
    ·rw[F5];simp[SV.width,ih,v.h]
    ·rw[IQ h,Qs h];simp[ih];omega
theorem Qu(xs ys:List SV):SV.cl (xs++ys)=SV.cl xs++SV.cl ys:=by
  induction xs with
  | nil=>rfl
  | cons x xs ih =>
    rcases NZ x with⟨n,v,rfl⟩ | h
    ·rw[A0f,F5,F5,ih,lw]
    ·rw[A0f,IQ h,IQ h,ih];rfl
def Ko:Nat->List SV->Option (List SV)
  | 0,xs=>some xs
  | _+1,[]=>none
  | k+1,.vec n _::xs=>if n<=k+1 then Ko (k+1 - n) xs else none
  | k+1,_::xs=>Ko k xs
def Qb:Nat->List SV->Option (List SV)
  | 0,_=>some []
  | _+1,[]=>none
  | k+1,.vec n v::xs=>if n<=k+1 then(Qb (k+1 - n) xs).map (.vec n v::·) else none
  | k+1,x::xs=>(Qb k xs).map (x::·)
theorem dropS_cons{k x}(h:x.Qa=false)(xs:List SV):Ko (k+1) (x::xs)=Ko k xs:=by
  cases x <;> first | rfl | cases h
theorem takeS_cons{k x}(h:x.Qa=false)(xs:List SV):Qb (k+1) (x::xs)=(Qb k xs).map (x::·):=by
  cases x <;> first | rfl | cases h
theorem Me:∀(xs:List SV)(k:Nat)(ys:List SV),Ko k xs=some ys->(SV.cl xs).drop k=SV.cl ys/\k<=SV.width xs:=by
  intro xs
  induction xs with
  | nil =>
    intro k ys h;cases k with
    | zero=>simp only[Ko,A2a] at h;subst h;exact⟨rfl,A2p _⟩
    | succ k=>cases h
  | cons x xs ih =>
    intro k ys h;cases k with
    | zero=>simp only[Ko,A2a] at h;subst h;exact⟨rfl,A2p _⟩
    | succ k =>
      rcases NZ x with⟨n,v,rfl⟩ | hx
      ·simp only[Ko] at h;split at h
       ·rename_i hn;obtain⟨a,b⟩:=ih _ _ h;rw[F5];refine⟨?_,by simp only[SV.width];omega⟩;rw[<- a,List.drop_append,v.h,A3T (by rw[v.h];exact hn)];rfl
       ·cases h
      ·rw[dropS_cons hx] at h;obtain⟨a,b⟩:=ih _ _ h;rw[IQ hx,Qs hx];exact⟨by simpa using a,Y⟩
theorem VM:∀(xs:List SV)(k:Nat)(ys:List SV),Qb k xs=some ys->(SV.cl xs).take k=SV.cl ys/\SV.width ys=k:=by
  intro xs
  induction xs with
  | nil =>
    intro k ys h;cases k with
    | zero=>simp only[Qb,A2a] at h;subst h;exact⟨rfl,rfl⟩
    | succ k=>cases h
  | cons x xs ih =>
    intro k ys h;cases k with
    | zero=>simp only[Qb,A2a] at h;subst h;exact⟨rfl,rfl⟩
    | succ k =>
      rcases NZ x with⟨n,v,rfl⟩ | hx
      ·simp only[Qb] at h;split at h
       ·rename_i hn;simp only[A0M] at h;obtain⟨d,a,rfl⟩:=h;obtain⟨b,c⟩:=ih _ _ a;rw[F5,F5];refine⟨?_,by simp only[SV.width];omega⟩;rw[<- b,A48,v.h,A2i (by rw[v.h];exact hn)]
       ·cases h
      ·rw[takeS_cons hx] at h;simp only[A0M] at h;obtain⟨d,a,rfl⟩:=h;obtain⟨b,c⟩:=ih _ _ a;rw[IQ hx,IQ hx,Qs hx,c];exact⟨by simpa using b,Y⟩
def cellS (off:Nat)(xs:List SV):Option SV :=
  match Ko off xs with
  | some (x::_)=>if x.Qa then none else some x
  | _=>none
theorem VN{off xs x}(h:cellS off xs=some x):(SV.cl xs)[off]?=some x.val/\off < SV.width xs:=by
  unfold cellS at h;split at h
  ·rename_i y ys hd;split at h
   ·cases h
   ·rename_i b;simp only[A2a] at h;subst h;obtain⟨a,e2⟩:=Me _ _ _ hd;rw[IQ (by simpa using b)] at a;have h3:(SV.cl xs)[off]?=some y.val:=by
      rw[<- A3S off,<-A3Q,a];rfl
    refine⟨h3,?_⟩;rw[<- jr];exact(A0e.1 h3).1
  ·cases h
def TC (off n:Nat)(xs:List SV):Option (List SV):=(Ko off xs).bind (Qb n)
theorem Um{off n xs ys}(h:TC off n xs=some ys):((SV.cl xs).drop off).take n=SV.cl ys/\SV.width ys=n/\off+n<=SV.width xs:=by
  unfold TC at h;simp only[A0d] at h;obtain⟨zs,e,d⟩:=h;obtain⟨b,e2⟩:=Me _ _ _ e;obtain⟨a,f⟩:=VM _ _ _ d;refine⟨by rw[b,a],f,?_⟩;have h3:=A3s List.length b;have c:=A3s List.length a;simp only[A0m,A0T,jr] at h3 c;omega
def putS (off n:Nat)(ys xs:List SV):Option (List SV) :=
  match Qb off xs,Ko (off+n) xs with
  | some a,some b=>if SV.width ys=n then some (a++ys++b) else none
  | _,_=>none
theorem X_{off n xs ys c}(h:putS off n ys xs=some c):SV.cl c=(SV.cl xs).take off++SV.cl ys++(SV.cl xs).drop (off+n)/\SV.width c=SV.width xs/\SV.width ys=n/\off+n<=SV.width xs:=by
  unfold putS at h;split at h
  ·rename_i a b g f;split at h
   ·rename_i e;simp only[A2a] at h;subst h;obtain⟨j,e2⟩:=VM _ _ _ g;obtain⟨d,i⟩:=Me _ _ _ f;have h3:=A3s List.length d;simp only[A0m,jr] at h3;refine⟨by rw[Qu,Qu,j,d],?_,e,i⟩;rw[<- jr,Qu,Qu,Pi,Pi,jr,jr,jr];omega
   ·cases h
  ·cases h
def SV.one1:SV->Bool
  | .v x=>x.oneCell'
  | .agg _=>false
  | .og _=>false
  | _=>true
theorem ones_spec:∀ xs:List SV,xs.all SV.one1=true->∀ v ∈ SV.cl xs,v.oneCell'=true:=by
  intro xs
  induction xs with
  | nil=>intro _ v a;cases a
  | cons x xs ih =>
    intro h v a;simp only[List.all_cons,A0U] at h;rcases NZ x with⟨n,y,rfl⟩ | hx
    ·rw[F5,A3P] at a;exact a.elim (y.one v) (ih h.2 v)
    ·rw[IQ hx,ul] at a;rcases a with rfl | a
     ·cases x <;> first | (cases hx;done) | rfl | exact h.1 | (simp[SV.one1] at h;done)
     ·exact ih h.2 v a
structure En where
  k:Nat
  g:PP
  x:SV
abbrev Cond:=World->Prop
structure Fr (n:Nat)(a:Act)(L:List En):Prop where
  defers:a.defers=[]
  size:a.tmps.size=n
  at_:∀ e ∈ L,(∀ g w,e.g=some (g,w)->a.tmps[g]?=some (.bool w))->a.tmps[e.k]?=some e.x.val
def look (L:List En)(k:Nat):Option En:=L.find? fun e=>e.k == k
theorem Lj{L k e}(h:look L k=some e):e ∈ L/\e.k=k:=by
  unfold look at h;exact⟨List.mem_of_find?_eq_some h,by simpa using List.find?_some h⟩
def PT:Value->SV
  | .bool b=>.b b
  | .int .u8 n=>if 0<=n/\n < 256 then .u8 (UInt8.ofNat n.toNat) else .v (.int .u8 n)
  | .int .u16 n=>if 0<=n/\n < 65536 then .u16 (UInt16.ofNat n.toNat) else .v (.int .u16 n)
  | .int .u32 n=>if 0<=n/\n < 4294967296 then .u32 (UInt32.ofNat n.toNat) else .v (.int .u32 n)
  | .int .u64 n=>if 0<=n/\n < 18446744073709551616 then .u64 (UInt64.ofNat n.toNat) else .v (.int .u64 n)
  | .int k n=>.i k n
  | .string s=>.s s.data.toList
  | v=>.v v
theorem VO(v:Value):(PT v).val=v:=by
  unfold PT;split <;> try rfl
  all_goals
    split
    ·rename_i n h;simp only[SV.val];congr 1;simp;omega
    ·rfl
theorem kst1_vec(v:Value):(PT v).Qa=false:=by
  unfold PT;split <;> try rfl
  all_goals (split <;> rfl)
theorem Vd:∀ l:List Value,SV.cl (l.map PT)=l:=by
  intro l
  induction l with
  | nil=>rfl
  | cons v l ih=>rw[kw,IQ (kst1_vec v),VO,ih]
def kst:Value->SV
  | .agg cs=>.agg (cs.toList.map PT)
  | .tuple cs=>.og (cs.toList.map PT)
  | v=>PT v
theorem kst_val(v:Value):(kst v).val=v:=by
  unfold kst;split
  ·simp only[SV.val,Vd]
  ·rename_i cs;have:SV.val ∘ PT=id:=funext VO;simp only[SV.val,vals_eq,List.map_map,this,List.map_id]
  ·exact VO v
def ev (L:List En)(g:PP):Operand->Option SV
  | .tmp t=>match look L t with
    | some e=>match e.g,g with
      | none,_=>some e.x
      | some (a,x),some (b,y)=>if a=b/\x=y then some e.x else none
      | some _,none=>none
    | none=>none
  | .const v=>some (kst v)
  | .global g=>some (.v (.pointer (some ⟨g,0,none⟩)))
  | .func f=>some (.v (.func (.func f) #[] #[]))
theorem Q7{n a L g o x}(j:Fr n a L)(i:∀ k w,g=some (k,w)->a.tmps[k]?=some (.bool w))(h:ev L g o=some x):a.eval o=x.val:=by
  cases o with
  | tmp t =>
    simp only[ev] at h;split at h
    ·rename_i e l;obtain⟨hm,d⟩:=Lj l;have key:(∀ k w,e.g=some (k,w)->a.tmps[k]?=some (.bool w))->e.x=x->a.eval (.tmp t)=x.val:=by
       intro p m;have:=j.at_ e hm p;rw[d,m] at this;simp[Act.eval,A2o,this]
     split at h
     ·rename_i c;injection h with h;exact key (by rw[c];intro _ _ b;cases b) h
     ·rename_i a' x' b' y' c;split at h
      ·rename_i b;injection h with h;obtain⟨rfl,rfl⟩:=b;exact key (by rw[c];exact i) h
      ·cases h
     ·cases h
    ·cases h
  | const v=>simp only[ev,A2a] at h;subst h;simp[Act.eval,kst_val]
  | global g=>simp only[ev,A2a] at h;subst h;rfl
  | func f=>simp only[ev,A2a] at h;subst h;rfl
def shl8 (x:UInt8)(n:Nat):UInt8:=⟨x.toBitVec <<< n⟩
def XQ (x:UInt8)(n:Nat):UInt8:=⟨x.toBitVec >>> n⟩
def shl16 (x:UInt16)(n:Nat):UInt16:=⟨x.toBitVec <<< n⟩
def shr16 (x:UInt16)(n:Nat):UInt16:=⟨x.toBitVec >>> n⟩
def su (x:UInt32)(n:Nat):UInt32:=⟨x.toBitVec <<< n⟩
def qK (x:UInt32)(n:Nat):UInt32:=⟨x.toBitVec >>> n⟩
def G5 (x:UInt64)(n:Nat):UInt64:=⟨x.toBitVec <<< n⟩
def jC (x:UInt64)(n:Nat):UInt64:=⟨x.toBitVec >>> n⟩
def shlI (k:IntKind)(x:Int)(n:Nat):Int:=k.wrap (x*2 ^ (min n k.bits))
def TD (k:IntKind)(x:Int)(n:Nat):Int:=x.fdiv (2 ^ (min n k.bits))
def andI (k:IntKind)(x y:Int):Int:=k.wrap (BitVec.ofInt k.bits x&&&BitVec.ofInt k.bits y).toNat
def orI (k:IntKind)(x y:Int):Int:=k.wrap (BitVec.ofInt k.bits x|||BitVec.ofInt k.bits y).toNat
def xorI (k:IntKind)(x y:Int):Int:=k.wrap (BitVec.ofInt k.bits x^^^BitVec.ofInt k.bits y).toNat
def andNotI (k:IntKind)(x y:Int):Int:=k.wrap (BitVec.ofInt k.bits x&&&~~~BitVec.ofInt k.bits y).toNat
abbrev Ans:=Option (SV×List Cond)
def binI (op:BinOp)(k:IntKind)(a b:Int):Ans :=
  match op with
  | .add=>some (.i k (k.wrap (a+b)),[])
  | .sub=>some (.i k (k.wrap (a - b)),[])
  | .mul=>some (.i k (k.wrap (a*b)),[])
  | .quo=>some (.i k (k.wrap (a.tdiv b)),[fun _=>b≠0])
  | .rem=>some (.i k (a.tmod b),[fun _=>b≠0])
  | .and=>some (.i k (andI k a b),[])
  | .or=>some (.i k (orI k a b),[])
  | .xor=>some (.i k (xorI k a b),[])
  | .andNot=>some (.i k (andNotI k a b),[])
  | .eql=>some (.b (decide (a=b)),[])
  | .neq=>some (.b (decide (a≠b)),[])
  | .lss=>some (.b (decide (a < b)),[])
  | .leq=>some (.b (decide (a<=b)),[])
  | .gtr=>some (.b (decide (b < a)),[])
  | .geq=>some (.b (decide (b<=a)),[])
  | _=>none
theorem binI_sound{P w op k a b x cs}{t:TypeId}(h:binI op k a b=some (x,cs))(d:∀ c ∈ cs,c w) :
    (binOp op t (.int k a) (.int k b)).run P w=.ok x.val w:=by
  cases op <;> simp only[binI,A2a,A2c,reduceCtorEq] at h <;> obtain⟨rfl,rfl⟩:=h
  all_goals simp[binOp,Op.intArith,Op.intDiv,Op.intBits,Op.intCmp,SV.val,andI,orI,xorI,andNotI] at d ⊢
  all_goals first | exact fun h=>absurd h d | (rw[A3B];simp)
def binU8 (op:BinOp)(a b:UInt8):Ans :=
  match op with
  | .add=>some (.u8 (a+b),[])
  | .sub=>some (.u8 (a - b),[])
  | .mul=>some (.u8 (a*b),[])
  | .quo=>some (.u8 (a / b),[fun _=>b≠0])
  | .rem=>some (.u8 (a % b),[fun _=>b≠0])
  | .and=>some (.u8 (a&&&b),[])
  | .or=>some (.u8 (a|||b),[])
  | .xor=>some (.u8 (a^^^b),[])
  | .andNot=>some (.u8 (a&&&~~~b),[])
  | .eql=>some (.b (decide (a=b)),[])
  | .neq=>some (.b (decide (a≠b)),[])
  | .lss=>some (.b (decide (a < b)),[])
  | .leq=>some (.b (decide (a<=b)),[])
  | .gtr=>some (.b (decide (b < a)),[])
  | .geq=>some (.b (decide (b<=a)),[])
  | _=>none
theorem VP(n:Nat):IntKind.u8.wrap (n:Int)=((n % 2 ^ 8:Nat):Int):=by
  simp only[IntKind.wrap,IntKind.bits,IntKind.signed];simp[Int.natCast_emod]
theorem N7{n:Nat}(h:n < 2 ^ 8):IntKind.u8.wrap (n:Int)=(n:Int):=by rw[VP,A2w h]
theorem Ya(n:Int):IntKind.u8.wrap n=n % 2 ^ 8:=by
  simp only[IntKind.wrap,IntKind.bits,IntKind.signed];simp
theorem bvU8(z:UInt8):BitVec.ofInt 8 (z.toNat:Int)=z.toBitVec:=by
  apply A36;have:=z.toNat_lt;simp[IntKind.bits]
  try omega
theorem N8{P w op a b x cs}{t:TypeId}(h:binU8 op a b=some (x,cs))(hc:∀ c ∈ cs,c w) :
    (binOp op t (.int .u8 a.toNat) (.int .u8 b.toNat)).run P w=.ok x.val w:=by
  have ha:=a.toNat_lt;have hb:=b.toNat_lt;have hz:(b=0) ↔ (b.toNat=0):=by rw[<- UInt8.toNat_inj];simp
  cases op <;> simp only[binU8,A2a,A2c,reduceCtorEq] at h <;> obtain⟨rfl,rfl⟩:=h
  case add=>simp only[binOp,Op.intArith,SV.val,ne_eq,A3t,A3r,A2d];rw[<- Int.natCast_add,VP,UInt8.toNat_add]
  case sub =>
    simp only[binOp,Op.intArith,SV.val,ne_eq,A3t,A3r,A2d];congr 2;rw[Ya,UInt8.toNat_sub];simp only[Nat.reducePow,Int.reducePow] at *;omega
  case mul=>simp only[binOp,Op.intArith,SV.val,ne_eq,A3t,A3r,A2d];rw[<- Int.natCast_mul,VP,UInt8.toNat_mul]
  case quo =>
    simp only[A0N,forall_eq] at hc;have h0:¬ (b.toNat=0):=fun h=>hc (hz.2 h);have hl:a.toNat / b.toNat < 2 ^ 8:=Nat.lt_of_le_of_lt (Nat.div_le_self _ _) ha;simp[binOp,Op.intDiv,SV.val,h0];rw[<- Int.natCast_ediv,N7 hl]
  case rem =>
    simp only[A0N,forall_eq] at hc;have h0:¬ (b.toNat=0):=fun h=>hc (hz.2 h);simp[binOp,Op.intDiv,SV.val,h0];rw[A3d Y]
  case and =>
    show Result.ok (Value.int .u8 (IntKind.u8.wrap ((BitVec.ofInt 8 a.toNat&&&BitVec.ofInt 8 b.toNat).toNat:Nat))) w=_;rw[bvU8,bvU8];exact A3s (fun z=>Result.ok (Value.int .u8 z) w) (N7 (A3V _))
  case or =>
    show Result.ok (Value.int .u8 (IntKind.u8.wrap ((BitVec.ofInt 8 a.toNat|||BitVec.ofInt 8 b.toNat).toNat:Nat))) w=_;rw[bvU8,bvU8];exact A3s (fun z=>Result.ok (Value.int .u8 z) w) (N7 (A3V _))
  case xor =>
    show Result.ok (Value.int .u8 (IntKind.u8.wrap ((BitVec.ofInt 8 a.toNat^^^BitVec.ofInt 8 b.toNat).toNat:Nat))) w=_;rw[bvU8,bvU8];exact A3s (fun z=>Result.ok (Value.int .u8 z) w) (N7 (A3V _))
  case andNot =>
    show Result.ok (Value.int .u8 (IntKind.u8.wrap ((BitVec.ofInt 8 a.toNat&&&~~~BitVec.ofInt 8 b.toNat).toNat:Nat))) w=_;rw[bvU8,bvU8];exact A3s (fun z=>Result.ok (Value.int .u8 z) w) (N7 (A3V _))
  case eql=>simp[binOp,Op.intCmp,SV.val,<-UInt8.toNat_inj];rw[A3B];simp;omega
  case neq=>simp[binOp,Op.intCmp,SV.val,<-UInt8.toNat_inj];rw[A3B];simp;omega
  case lss=>simp[binOp,Op.intCmp,SV.val,UInt8.lt_iff_toNat_lt]
  case leq=>simp[binOp,Op.intCmp,SV.val,UInt8.le_iff_toNat_le]
  case gtr=>simp[binOp,Op.intCmp,SV.val,UInt8.lt_iff_toNat_lt]
  case geq=>simp[binOp,Op.intCmp,SV.val,UInt8.le_iff_toNat_le]
theorem shlU8_sound{P w}(a:UInt8)(b:IntKind)(n:Nat):(Op.shift .shl .u8 a.toNat b n).run P w=.ok (SV.u8 (shl8 a n)).val w:=by
  have c:¬ ((n:Int) < 0):=Y
  simp only[Op.shift,c,A3r,SV.val,shl8,ww,A2d];congr 2;rw[show((a.toNat:Int)*2 ^ (min n IntKind.u8.bits))=((a.toNat*2 ^ (min n IntKind.u8.bits):Nat):Int) from by simp,VP];congr 1;show _=(a.toBitVec <<< n).toNat;rw[A3U,A3J];simp only[IntKind.bits];rcases A3A n 8 with h | h
  ·rw[A35 Y];rfl
  ·rw[A3e h];have f:a.toNat*2 ^ 8 % 2 ^ 8=0:=A3n _ _;have e:a.toBitVec.toNat*2 ^ n % 2 ^ 8=0:=by
     obtain⟨d,rfl⟩:=A3k h;rw[Nat.pow_add,A3F (2 ^ 8),<-Nat.mul_assoc];exact A3n _ _
   rw[f,e]
theorem shrU8_sound{P w}(a:UInt8)(c:IntKind)(n:Nat):(Op.shift .shr .u8 a.toNat c n).run P w=.ok (SV.u8 (XQ a n)).val w:=by
  have d:¬ ((n:Int) < 0):=Y
  simp only[Op.shift,d,A3r,SV.val,XQ,ww,A2d];congr 2;rw[Int.fdiv_eq_ediv_of_nonneg _ A2V];rw[show((a.toNat:Int) / 2 ^ (min n IntKind.u8.bits))=((a.toNat / 2 ^ (min n IntKind.u8.bits):Nat):Int) from by simp];congr 1;show _=(a.toBitVec >>> n).toNat;rw[BitVec.toNat_ushiftRight,A30];simp only[IntKind.bits];have b:=a.toNat_lt;rcases A3A n 8 with h | h
  ·rw[A35 Y];rfl
  ·rw[A3e h,A3N b];exact(A3N (A0c b (A3D Y h))).symm
def binU16 (op:BinOp)(a b:UInt16):Ans :=
  match op with
  | .add=>some (.u16 (a+b),[])
  | .sub=>some (.u16 (a - b),[])
  | .mul=>some (.u16 (a*b),[])
  | .quo=>some (.u16 (a / b),[fun _=>b≠0])
  | .rem=>some (.u16 (a % b),[fun _=>b≠0])
  | .and=>some (.u16 (a&&&b),[])
  | .or=>some (.u16 (a|||b),[])
  | .xor=>some (.u16 (a^^^b),[])
  | .andNot=>some (.u16 (a&&&~~~b),[])
  | .eql=>some (.b (decide (a=b)),[])
  | .neq=>some (.b (decide (a≠b)),[])
  | .lss=>some (.b (decide (a < b)),[])
  | .leq=>some (.b (decide (a<=b)),[])
  | .gtr=>some (.b (decide (b < a)),[])
  | .geq=>some (.b (decide (b<=a)),[])
  | _=>none
theorem Q8(n:Nat):IntKind.u16.wrap (n:Int)=((n % 2 ^ 16:Nat):Int):=by
  simp only[IntKind.wrap,IntKind.bits,IntKind.signed];simp[Int.natCast_emod]
theorem Ll{n:Nat}(h:n < 2 ^ 16):IntKind.u16.wrap (n:Int)=(n:Int):=by rw[Q8,A2w h]
theorem VQ(n:Int):IntKind.u16.wrap n=n % 2 ^ 16:=by
  simp only[IntKind.wrap,IntKind.bits,IntKind.signed];simp
theorem Un(z:UInt16):BitVec.ofInt 16 (z.toNat:Int)=z.toBitVec:=by
  apply A36;have:=z.toNat_lt;simp[IntKind.bits]
  try omega
theorem MB{P w op a b x cs}{t:TypeId}(h:binU16 op a b=some (x,cs))(hc:∀ c ∈ cs,c w) :
    (binOp op t (.int .u16 a.toNat) (.int .u16 b.toNat)).run P w=.ok x.val w:=by
  have ha:=a.toNat_lt;have hb:=b.toNat_lt;have hz:(b=0) ↔ (b.toNat=0):=by rw[<- UInt16.toNat_inj];simp
  cases op <;> simp only[binU16,A2a,A2c,reduceCtorEq] at h <;> obtain⟨rfl,rfl⟩:=h
  case add=>simp only[binOp,Op.intArith,SV.val,ne_eq,A3t,A3r,A2d];rw[<- Int.natCast_add,Q8,UInt16.toNat_add]
  case sub =>
    simp only[binOp,Op.intArith,SV.val,ne_eq,A3t,A3r,A2d];congr 2;rw[VQ,UInt16.toNat_sub];simp only[Nat.reducePow,Int.reducePow] at *;omega
  case mul=>simp only[binOp,Op.intArith,SV.val,ne_eq,A3t,A3r,A2d];rw[<- Int.natCast_mul,Q8,UInt16.toNat_mul]
  case quo =>
    simp only[A0N,forall_eq] at hc;have h0:¬ (b.toNat=0):=fun h=>hc (hz.2 h);have hl:a.toNat / b.toNat < 2 ^ 16:=Nat.lt_of_le_of_lt (Nat.div_le_self _ _) ha;simp[binOp,Op.intDiv,SV.val,h0];rw[<- Int.natCast_ediv,Ll hl]
  case rem =>
    simp only[A0N,forall_eq] at hc;have h0:¬ (b.toNat=0):=fun h=>hc (hz.2 h);simp[binOp,Op.intDiv,SV.val,h0];rw[A3d Y]
  case and =>
    show Result.ok (Value.int .u16 (IntKind.u16.wrap ((BitVec.ofInt 16 a.toNat&&&BitVec.ofInt 16 b.toNat).toNat:Nat))) w=_;rw[Un,Un];exact A3s (fun z=>Result.ok (Value.int .u16 z) w) (Ll (A3V _))
  case or =>
    show Result.ok (Value.int .u16 (IntKind.u16.wrap ((BitVec.ofInt 16 a.toNat|||BitVec.ofInt 16 b.toNat).toNat:Nat))) w=_;rw[Un,Un];exact A3s (fun z=>Result.ok (Value.int .u16 z) w) (Ll (A3V _))
  case xor =>
    show Result.ok (Value.int .u16 (IntKind.u16.wrap ((BitVec.ofInt 16 a.toNat^^^BitVec.ofInt 16 b.toNat).toNat:Nat))) w=_;rw[Un,Un];exact A3s (fun z=>Result.ok (Value.int .u16 z) w) (Ll (A3V _))
  case andNot =>
    show Result.ok (Value.int .u16 (IntKind.u16.wrap ((BitVec.ofInt 16 a.toNat&&&~~~BitVec.ofInt 16 b.toNat).toNat:Nat))) w=_;rw[Un,Un];exact A3s (fun z=>Result.ok (Value.int .u16 z) w) (Ll (A3V _))
  case eql=>simp[binOp,Op.intCmp,SV.val,<-UInt16.toNat_inj];rw[A3B];simp;omega
  case neq=>simp[binOp,Op.intCmp,SV.val,<-UInt16.toNat_inj];rw[A3B];simp;omega
  case lss=>simp[binOp,Op.intCmp,SV.val,UInt16.lt_iff_toNat_lt]
  case leq=>simp[binOp,Op.intCmp,SV.val,UInt16.le_iff_toNat_le]
  case gtr=>simp[binOp,Op.intCmp,SV.val,UInt16.lt_iff_toNat_lt]
  case geq=>simp[binOp,Op.intCmp,SV.val,UInt16.le_iff_toNat_le]
theorem YL{P w}(a:UInt16)(b:IntKind)(n:Nat):(Op.shift .shl .u16 a.toNat b n).run P w=.ok (SV.u16 (shl16 a n)).val w:=by
  have c:¬ ((n:Int) < 0):=Y
  simp only[Op.shift,c,A3r,SV.val,shl16,ww,A2d];congr 2;rw[show((a.toNat:Int)*2 ^ (min n IntKind.u16.bits))=((a.toNat*2 ^ (min n IntKind.u16.bits):Nat):Int) from by simp,Q8];congr 1;show _=(a.toBitVec <<< n).toNat;rw[A3U,A3J];simp only[IntKind.bits];rcases A3A n 16 with h | h
  ·rw[A35 Y];rfl
  ·rw[A3e h];have f:a.toNat*2 ^ 16 % 2 ^ 16=0:=A3n _ _;have e:a.toBitVec.toNat*2 ^ n % 2 ^ 16=0:=by
     obtain⟨d,rfl⟩:=A3k h;rw[Nat.pow_add,A3F (2 ^ 16),<-Nat.mul_assoc];exact A3n _ _
   rw[f,e]
theorem YM{P w}(a:UInt16)(c:IntKind)(n:Nat):(Op.shift .shr .u16 a.toNat c n).run P w=.ok (SV.u16 (shr16 a n)).val w:=by
  have d:¬ ((n:Int) < 0):=Y
  simp only[Op.shift,d,A3r,SV.val,shr16,ww,A2d];congr 2;rw[Int.fdiv_eq_ediv_of_nonneg _ A2V];rw[show((a.toNat:Int) / 2 ^ (min n IntKind.u16.bits))=((a.toNat / 2 ^ (min n IntKind.u16.bits):Nat):Int) from by simp];congr 1;show _=(a.toBitVec >>> n).toNat;rw[BitVec.toNat_ushiftRight,A30];simp only[IntKind.bits];have b:=a.toNat_lt;rcases A3A n 16 with h | h
  ·rw[A35 Y];rfl
  ·rw[A3e h,A3N b];exact(A3N (A0c b (A3D Y h))).symm
def binU32 (op:BinOp)(a b:UInt32):Ans :=
  match op with
  | .add=>some (.u32 (a+b),[])
  | .sub=>some (.u32 (a - b),[])
  | .mul=>some (.u32 (a*b),[])
  | .quo=>some (.u32 (a / b),[fun _=>b≠0])
  | .rem=>some (.u32 (a % b),[fun _=>b≠0])
  | .and=>some (.u32 (a&&&b),[])
  | .or=>some (.u32 (a|||b),[])
  | .xor=>some (.u32 (a^^^b),[])
  | .andNot=>some (.u32 (a&&&~~~b),[])
  | .eql=>some (.b (decide (a=b)),[])
  | .neq=>some (.b (decide (a≠b)),[])
  | .lss=>some (.b (decide (a < b)),[])
  | .leq=>some (.b (decide (a<=b)),[])
  | .gtr=>some (.b (decide (b < a)),[])
  | .geq=>some (.b (decide (b<=a)),[])
  | _=>none
theorem Q9(n:Nat):IntKind.u32.wrap (n:Int)=((n % 2 ^ 32:Nat):Int):=by
  simp only[IntKind.wrap,IntKind.bits,IntKind.signed];simp[Int.natCast_emod]
theorem Lm{n:Nat}(h:n < 2 ^ 32):IntKind.u32.wrap (n:Int)=(n:Int):=by rw[Q9,A2w h]
theorem VR(n:Int):IntKind.u32.wrap n=n % 2 ^ 32:=by
  simp only[IntKind.wrap,IntKind.bits,IntKind.signed];simp
theorem Uo(z:UInt32):BitVec.ofInt 32 (z.toNat:Int)=z.toBitVec:=by
  apply A36;have:=z.toNat_lt;simp[IntKind.bits]
  try omega
theorem MC{P w op a b x cs}{t:TypeId}(h:binU32 op a b=some (x,cs))(hc:∀ c ∈ cs,c w) :
    (binOp op t (.int .u32 a.toNat) (.int .u32 b.toNat)).run P w=.ok x.val w:=by
  have ha:=a.toNat_lt;have hb:=b.toNat_lt;have hz:(b=0) ↔ (b.toNat=0):=by rw[<- UInt32.toNat_inj];simp
  cases op <;> simp only[binU32,A2a,A2c,reduceCtorEq] at h <;> obtain⟨rfl,rfl⟩:=h
  case add=>simp only[binOp,Op.intArith,SV.val,ne_eq,A3t,A3r,A2d];rw[<- Int.natCast_add,Q9,UInt32.toNat_add]
  case sub =>
    simp only[binOp,Op.intArith,SV.val,ne_eq,A3t,A3r,A2d];congr 2;rw[VR,UInt32.toNat_sub];simp only[Nat.reducePow,Int.reducePow] at *;omega
  case mul=>simp only[binOp,Op.intArith,SV.val,ne_eq,A3t,A3r,A2d];rw[<- Int.natCast_mul,Q9,UInt32.toNat_mul]
  case quo =>
    simp only[A0N,forall_eq] at hc;have h0:¬ (b.toNat=0):=fun h=>hc (hz.2 h);have hl:a.toNat / b.toNat < 2 ^ 32:=Nat.lt_of_le_of_lt (Nat.div_le_self _ _) ha;simp[binOp,Op.intDiv,SV.val,h0];rw[<- Int.natCast_ediv,Lm hl]
  case rem =>
    simp only[A0N,forall_eq] at hc;have h0:¬ (b.toNat=0):=fun h=>hc (hz.2 h);simp[binOp,Op.intDiv,SV.val,h0];rw[A3d Y]
  case and =>
    show Result.ok (Value.int .u32 (IntKind.u32.wrap ((BitVec.ofInt 32 a.toNat&&&BitVec.ofInt 32 b.toNat).toNat:Nat))) w=_;rw[Uo,Uo];exact A3s (fun z=>Result.ok (Value.int .u32 z) w) (Lm (A3V _))
  case or =>
    show Result.ok (Value.int .u32 (IntKind.u32.wrap ((BitVec.ofInt 32 a.toNat|||BitVec.ofInt 32 b.toNat).toNat:Nat))) w=_;rw[Uo,Uo];exact A3s (fun z=>Result.ok (Value.int .u32 z) w) (Lm (A3V _))
  case xor =>
    show Result.ok (Value.int .u32 (IntKind.u32.wrap ((BitVec.ofInt 32 a.toNat^^^BitVec.ofInt 32 b.toNat).toNat:Nat))) w=_;rw[Uo,Uo];exact A3s (fun z=>Result.ok (Value.int .u32 z) w) (Lm (A3V _))
  case andNot =>
    show Result.ok (Value.int .u32 (IntKind.u32.wrap ((BitVec.ofInt 32 a.toNat&&&~~~BitVec.ofInt 32 b.toNat).toNat:Nat))) w=_;rw[Uo,Uo];exact A3s (fun z=>Result.ok (Value.int .u32 z) w) (Lm (A3V _))
  case eql=>simp[binOp,Op.intCmp,SV.val,<-UInt32.toNat_inj];rw[A3B];simp;omega
  case neq=>simp[binOp,Op.intCmp,SV.val,<-UInt32.toNat_inj];rw[A3B];simp;omega
  case lss=>simp[binOp,Op.intCmp,SV.val,UInt32.lt_iff_toNat_lt]
  case leq=>simp[binOp,Op.intCmp,SV.val,UInt32.le_iff_toNat_le]
  case gtr=>simp[binOp,Op.intCmp,SV.val,UInt32.lt_iff_toNat_lt]
  case geq=>simp[binOp,Op.intCmp,SV.val,UInt32.le_iff_toNat_le]
theorem YN{P w}(a:UInt32)(b:IntKind)(n:Nat):(Op.shift .shl .u32 a.toNat b n).run P w=.ok (SV.u32 (su a n)).val w:=by
  have c:¬ ((n:Int) < 0):=Y
  simp only[Op.shift,c,A3r,SV.val,su,ww,A2d];congr 2;rw[show((a.toNat:Int)*2 ^ (min n IntKind.u32.bits))=((a.toNat*2 ^ (min n IntKind.u32.bits):Nat):Int) from by simp,Q9];congr 1;show _=(a.toBitVec <<< n).toNat;rw[A3U,A3J];simp only[IntKind.bits];rcases A3A n 32 with h | h
  ·rw[A35 Y];rfl
  ·rw[A3e h];have f:a.toNat*2 ^ 32 % 2 ^ 32=0:=A3n _ _;have e:a.toBitVec.toNat*2 ^ n % 2 ^ 32=0:=by
     obtain⟨d,rfl⟩:=A3k h;rw[Nat.pow_add,A3F (2 ^ 32),<-Nat.mul_assoc];exact A3n _ _
   rw[f,e]
theorem YO{P w}(a:UInt32)(c:IntKind)(n:Nat):(Op.shift .shr .u32 a.toNat c n).run P w=.ok (SV.u32 (qK a n)).val w:=by
  have d:¬ ((n:Int) < 0):=Y
  simp only[Op.shift,d,A3r,SV.val,qK,ww,A2d];congr 2;rw[Int.fdiv_eq_ediv_of_nonneg _ A2V];rw[show((a.toNat:Int) / 2 ^ (min n IntKind.u32.bits))=((a.toNat / 2 ^ (min n IntKind.u32.bits):Nat):Int) from by simp];congr 1;show _=(a.toBitVec >>> n).toNat;rw[BitVec.toNat_ushiftRight,A30];simp only[IntKind.bits];have b:=a.toNat_lt;rcases A3A n 32 with h | h
  ·rw[A35 Y];rfl
  ·rw[A3e h,A3N b];exact(A3N (A0c b (A3D Y h))).symm
def binU64 (op:BinOp)(a b:UInt64):Ans :=
  match op with
  | .add=>some (.u64 (a+b),[])
  | .sub=>some (.u64 (a - b),[])
  | .mul=>some (.u64 (a*b),[])
  | .quo=>some (.u64 (a / b),[fun _=>b≠0])
  | .rem=>some (.u64 (a % b),[fun _=>b≠0])
  | .and=>some (.u64 (a&&&b),[])
  | .or=>some (.u64 (a|||b),[])
  | .xor=>some (.u64 (a^^^b),[])
  | .andNot=>some (.u64 (a&&&~~~b),[])
  | .eql=>some (.b (decide (a=b)),[])
  | .neq=>some (.b (decide (a≠b)),[])
  | .lss=>some (.b (decide (a < b)),[])
  | .leq=>some (.b (decide (a<=b)),[])
  | .gtr=>some (.b (decide (b < a)),[])
  | .geq=>some (.b (decide (b<=a)),[])
  | _=>none
theorem Q_(n:Nat):IntKind.u64.wrap (n:Int)=((n % 2 ^ 64:Nat):Int):=by
  simp only[IntKind.wrap,IntKind.bits,IntKind.signed];simp[Int.natCast_emod]
theorem Lr{n:Nat}(h:n < 2 ^ 64):IntKind.u64.wrap (n:Int)=(n:Int):=by rw[Q_,A2w h]
theorem VS(n:Int):IntKind.u64.wrap n=n % 2 ^ 64:=by
  simp only[IntKind.wrap,IntKind.bits,IntKind.signed];simp
theorem Ur(z:UInt64):BitVec.ofInt 64 (z.toNat:Int)=z.toBitVec:=by
  apply A36;have:=z.toNat_lt;simp[IntKind.bits]
  try omega
theorem MF{P w op a b x cs}{t:TypeId}(h:binU64 op a b=some (x,cs))(hc:∀ c ∈ cs,c w) :
    (binOp op t (.int .u64 a.toNat) (.int .u64 b.toNat)).run P w=.ok x.val w:=by
  have ha:=a.toNat_lt;have hb:=b.toNat_lt;have hz:(b=0) ↔ (b.toNat=0):=by rw[<- A2m];simp
  cases op <;> simp only[binU64,A2a,A2c,reduceCtorEq] at h <;> obtain⟨rfl,rfl⟩:=h
  case add=>simp only[binOp,Op.intArith,SV.val,ne_eq,A3t,A3r,A2d];rw[<- Int.natCast_add,Q_,A3H]
  case sub =>
    simp only[binOp,Op.intArith,SV.val,ne_eq,A3t,A3r,A2d];congr 2;rw[VS,UInt64.toNat_sub];simp only[Nat.reducePow,Int.reducePow] at *;omega
  case mul=>simp only[binOp,Op.intArith,SV.val,ne_eq,A3t,A3r,A2d];rw[<- Int.natCast_mul,Q_,A44]
  case quo =>
    simp only[A0N,forall_eq] at hc;have h0:¬ (b.toNat=0):=fun h=>hc (hz.2 h);have hl:a.toNat / b.toNat < 2 ^ 64:=Nat.lt_of_le_of_lt (Nat.div_le_self _ _) ha;simp[binOp,Op.intDiv,SV.val,h0];rw[<- Int.natCast_ediv,Lr hl]
  case rem =>
    simp only[A0N,forall_eq] at hc;have h0:¬ (b.toNat=0):=fun h=>hc (hz.2 h);simp[binOp,Op.intDiv,SV.val,h0];rw[A3d Y]
  case and =>
    show Result.ok (Value.int .u64 (IntKind.u64.wrap ((BitVec.ofInt 64 a.toNat&&&BitVec.ofInt 64 b.toNat).toNat:Nat))) w=_;rw[Ur,Ur];exact A3s (fun z=>Result.ok (Value.int .u64 z) w) (Lr (A3V _))
  case or =>
    show Result.ok (Value.int .u64 (IntKind.u64.wrap ((BitVec.ofInt 64 a.toNat|||BitVec.ofInt 64 b.toNat).toNat:Nat))) w=_;rw[Ur,Ur];exact A3s (fun z=>Result.ok (Value.int .u64 z) w) (Lr (A3V _))
  case xor =>
    show Result.ok (Value.int .u64 (IntKind.u64.wrap ((BitVec.ofInt 64 a.toNat^^^BitVec.ofInt 64 b.toNat).toNat:Nat))) w=_;rw[Ur,Ur];exact A3s (fun z=>Result.ok (Value.int .u64 z) w) (Lr (A3V _))
  case andNot =>
    show Result.ok (Value.int .u64 (IntKind.u64.wrap ((BitVec.ofInt 64 a.toNat&&&~~~BitVec.ofInt 64 b.toNat).toNat:Nat))) w=_;rw[Ur,Ur];exact A3s (fun z=>Result.ok (Value.int .u64 z) w) (Lr (A3V _))
  case eql=>simp[binOp,Op.intCmp,SV.val,<-A2m];rw[A3B];simp;omega
  case neq=>simp[binOp,Op.intCmp,SV.val,<-A2m];rw[A3B];simp;omega
  case lss=>simp[binOp,Op.intCmp,SV.val,A2s]
  case leq=>simp[binOp,Op.intCmp,SV.val,A38]
  case gtr=>simp[binOp,Op.intCmp,SV.val,A2s]
  case geq=>simp[binOp,Op.intCmp,SV.val,A38]
theorem YP{P w}(a:UInt64)(b:IntKind)(n:Nat):(Op.shift .shl .u64 a.toNat b n).run P w=.ok (SV.u64 (G5 a n)).val w:=by
  have c:¬ ((n:Int) < 0):=Y
  simp only[Op.shift,c,A3r,SV.val,G5,ww,A2d];congr 2;rw[show((a.toNat:Int)*2 ^ (min n IntKind.u64.bits))=((a.toNat*2 ^ (min n IntKind.u64.bits):Nat):Int) from by simp,Q_];congr 1;show _=(a.toBitVec <<< n).toNat;rw[A3U,A3J];simp only[IntKind.bits];rcases A3A n 64 with h | h
  ·rw[A35 Y];rfl
  ·rw[A3e h];have f:a.toNat*2 ^ 64 % 2 ^ 64=0:=A3n _ _;have e:a.toBitVec.toNat*2 ^ n % 2 ^ 64=0:=by
     obtain⟨d,rfl⟩:=A3k h;rw[Nat.pow_add,A3F (2 ^ 64),<-Nat.mul_assoc];exact A3n _ _
   rw[f,e]
theorem YQ{P w}(a:UInt64)(c:IntKind)(n:Nat):(Op.shift .shr .u64 a.toNat c n).run P w=.ok (SV.u64 (jC a n)).val w:=by
  have d:¬ ((n:Int) < 0):=Y
  simp only[Op.shift,d,A3r,SV.val,jC,ww,A2d];congr 2;rw[Int.fdiv_eq_ediv_of_nonneg _ A2V];rw[show((a.toNat:Int) / 2 ^ (min n IntKind.u64.bits))=((a.toNat / 2 ^ (min n IntKind.u64.bits):Nat):Int) from by simp];congr 1;show _=(a.toBitVec >>> n).toNat;rw[BitVec.toNat_ushiftRight,A30];simp only[IntKind.bits];have b:=a.toNat_lt;rcases A3A n 64 with h | h
  ·rw[A35 Y];rfl
  ·rw[A3e h,A3N b];exact(A3N (A0c b (A3D Y h))).symm
def cnt:SV->Option (Nat×List Cond)
  | .u8 x=>some (x.toNat,[])
  | .u16 x=>some (x.toNat,[])
  | .u32 x=>some (x.toNat,[])
  | .u64 x=>some (x.toNat,[])
  | .i _ n=>some (n.toNat,[fun _=>0<=n])
  | _=>none
theorem cnt_spec{y n cs w}(h:cnt y=some (n,cs))(a:∀ c ∈ cs,c w):∃ k,y.val=.int k (n:Int):=by
  cases y <;> simp only[cnt,A2a,A2c,reduceCtorEq] at h <;> obtain⟨rfl,rfl⟩:=h
  all_goals first | exact⟨_,rfl⟩ | skip
  rename_i k n;simp only[A0N,forall_eq] at a;exact⟨k,by rw[Int.toNat_of_nonneg a];rfl⟩
def sh (op:BinOp)(x:SV)(n:Nat):Option SV :=
  match op,x with
  | .shl,.u8 a=>some (.u8 (shl8 a n))
  | .shl,.u16 a=>some (.u16 (shl16 a n))
  | .shl,.u32 a=>some (.u32 (su a n))
  | .shl,.u64 a=>some (.u64 (G5 a n))
  | .shl,.i k a=>some (.i k (shlI k a n))
  | .shr,.u8 a=>some (.u8 (XQ a n))
  | .shr,.u16 a=>some (.u16 (shr16 a n))
  | .shr,.u32 a=>some (.u32 (qK a n))
  | .shr,.u64 a=>some (.u64 (jC a n))
  | .shr,.i k a=>some (.i k (TD k a n))
  | _,_=>none
theorem sh_sound{P w op x r a n}{t:TypeId}(h:sh op x n=some r):(binOp op t x.val (.int a n)).run P w=.ok r.val w:=by
  unfold sh at h;split at h <;> simp only[A2a,reduceCtorEq] at h <;> subst h
  ·exact shlU8_sound _ a n
  ·exact YL _ a n
  ·exact YN _ a n
  ·exact YP _ a n
  ·have b:¬ ((n:Int) < 0):=Y
   simp only[SV.val,binOp,Op.shift,b,A3r,ww,A2d,shlI]
  ·exact shrU8_sound _ a n
  ·exact YM _ a n
  ·exact YO _ a n
  ·exact YQ _ a n
  ·have b:¬ ((n:Int) < 0):=Y
   simp only[SV.val,binOp,Op.shift,b,A3r,ww,A2d,TD]
def binS (op:BinOp)(a b:AC):Ans :=
  match op with
  | .add=>some (.s (a++b),[fun _=>a.length+b.length<=9223372036854775807])
  | .eql=>some (.b (decide (a=b)),[])
  | .neq=>some (.b (decide (a≠b)),[])
  | .lss=>some (.b (Op.bytesLess a b),[])
  | .gtr=>some (.b (!(Op.bytesLess a b||decide (a=b))),[])
  | .leq=>some (.b (Op.bytesLess a b||decide (a=b)),[])
  | .geq=>some (.b (!(Op.bytesLess a b)),[])
  | _=>none
theorem binS_sound{P w op a b x cs}{t:TypeId}(h:binS op a b=some (x,cs))(d:∀ c ∈ cs,c w) :
    (binOp op t (.string ⟨⟨a⟩⟩) (.string ⟨⟨b⟩⟩)).run P w=.ok x.val w:=by
  have g:(ByteArray.mk ⟨a⟩).toList=a:=ByteArray.toList_mk a;have f:(ByteArray.mk ⟨b⟩).toList=b:=ByteArray.toList_mk b;cases op <;> simp only[binS,A2a,A2c,reduceCtorEq] at h <;> obtain⟨rfl,rfl⟩:=h
  case add =>
    simp only[A0N,forall_eq] at d;show(Op.stringOp .add _ _).run P w=_;have e:=run_string_add_sum (P:=P) (w:=w) (ByteArray.mk a.toArray) (ByteArray.mk b.toArray) (by simpa [ByteArray.size] using d);exact e.trans (A3s (fun z=>Result.ok (Value.string z) w) (ByteArray.mk_append_mk a b))
  all_goals
    simp only[binOp,Op.stringOp,g,f,SV.val,A2d,A3a,A49,A3m]
    try (rw[A3B];simp)
section
variable {P:Program}{w:World}{t:TypeId}
theorem run_equalIn_bool(d:Nat)(c:P.underlying t=some .bool)(a b:Bool):(Op.equalIn (d+1) t (.bool a) (.bool b)).run P w=.ok (a == b) w:=by
  simp only[Op.equalIn,A2e,run_underlying c,A2b,A2d]
theorem run_equal_bool(c:P.underlying t=some .bool)(a b:Bool):(Op.equal t (.bool a) (.bool b)).run P w=.ok (a == b) w:=run_equalIn_bool 9999 c a b
theorem run_equalIn_slice_nil(d:Nat){e:TypeId}(b:P.underlying t=some (.slice e))(p:EQ)(n c a f:Nat):(Op.equalIn (d+1) t (.slice p n c) (.slice none a f)).run P w=.ok p.isNone w:=by
  cases p <;> simp only[Op.equalIn,A2e,run_underlying b,A2b,A2d] <;> rfl
theorem run_equal_slice_nil{e:TypeId}(d:P.underlying t=some (.slice e))(p:EQ)(n c a b:Nat):(Op.equal t (.slice p n c) (.slice none a b)).run P w=.ok p.isNone w:=run_equalIn_slice_nil 9999 d p n c a b
theorem PU(d:Nat){e:TypeId}(a:P.underlying t=some (.pointer e))(p:EQ):(Op.equalIn (d+1) t (.pointer p) (.pointer none)).run P w=.ok p.isNone w:=by
  cases p <;> simp only[Op.equalIn,A2e,run_underlying a,A2b,A2d] <;> rfl
theorem run_equalIn_iface_nil(n:Nat){a}(b:P.underlying t=some (.interface a))(d:TypeId)(v:Value):(Op.equalIn (n+1) t (.iface d v) .nilIface).run P w=.ok false w:=by
  simp only[Op.equalIn,A2e,run_underlying b,A2b,A2d]
theorem PV{a}(b:P.underlying t=some (.interface a))(d:TypeId)(v:Value):(Op.equal t (.iface d v) .nilIface).run P w=.ok false w:=run_equalIn_iface_nil 9999 b d v
theorem N9(n:Nat){ps d c}(e:P.underlying t=some (.func ps d c))(f:Fn)(a b:Array Value):(Op.equalIn (n+1) t (.func f a b) .nilFunc).run P w=.ok false w:=by
  simp only[Op.equalIn,A2e,run_underlying e,A2b,A2d]
theorem Qv{ps d c}(e:P.underlying t=some (.func ps d c))(f:Fn)(a b:Array Value):(Op.equal t (.func f a b) .nilFunc).run P w=.ok false w:=N9 9999 e f a b
theorem run_equalIn_map_nil(n:Nat){k e:TypeId}(a:P.underlying t=some (.map k e))(p:A03):(Op.equalIn (n+1) t (.map p) (.map none)).run P w=.ok p.isNone w:=by
  cases p <;> simp only[Op.equalIn,A2e,run_underlying a,A2b,A2d] <;> rfl
theorem run_equal_map_nil{k e:TypeId}(a:P.underlying t=some (.map k e))(p:A03):(Op.equal t (.map p) (.map none)).run P w=.ok p.isNone w:=run_equalIn_map_nil 9999 a p
theorem Rf{e:TypeId}(a:P.underlying t=some (.pointer e))(p:EQ):(Op.equal t (.pointer p) (.pointer none)).run P w=.ok p.isNone w:=PU 9999 a p
end
def eqB (P:Program)(op:BinOp)(t:TypeId)(x y:SV):Option SV :=
  match P.underlying t,x,y with
  | some .bool,.b a,.b b=>match op with
    | .eql=>some (.b (decide (a=b)))
    | .neq=>some (.b (decide (a≠b)))
    | _=>none
  | some (.slice _),.v (.slice p _ _),.v (.slice none _ _)=>match op with
    | .eql=>some (.b p.isNone)
    | .neq=>some (.b p.isSome)
    | _=>none
  | some (.pointer _),.v (.pointer p),.v (.pointer none)=>match op with
    | .eql=>some (.b p.isNone)
    | .neq=>some (.b p.isSome)
    | _=>none
  | some (.interface _),.v (.iface _ _),.v .nilIface=>match op with
    | .eql=>some (.b false)
    | .neq=>some (.b true)
    | _=>none
  | some (.func _ _ _),.v (.func _ _ _),.v .nilFunc=>match op with
    | .eql=>some (.b false)
    | .neq=>some (.b true)
    | _=>none
  | some (.map _ _),.v (.map p),.v (.map none)=>match op with
    | .eql=>some (.b p.isNone)
    | .neq=>some (.b p.isSome)
    | _=>none
  | _,_,_=>none
theorem eqB_sound{P w op x y r}{t:TypeId}(h:eqB P op t x y=some r) :
    (binOp op t x.val y.val).run P w=.ok r.val w:=by
  unfold eqB at h;split at h
  ·rename_i a b c;split at h <;> simp only[A2a,reduceCtorEq] at h <;> subst h
   all_goals
     simp only[SV.val,binOp,A2e,run_equal_bool c,A2b,A2d,A3a,A49,A3m]
     try (rw[A3B];simp)
  ·rename_i c;split at h <;> simp only[A2a,reduceCtorEq] at h <;> subst h
   all_goals
     simp only[SV.val,binOp,A2e,run_equal_slice_nil c,A2b,A2d,A3a,A49,A3m]
     try (rw[A3B];simp)
  ·rename_i c;split at h <;> simp only[A2a,reduceCtorEq] at h <;> subst h
   all_goals
     simp only[SV.val,binOp,A2e,Rf c,A2b,A2d,A3a,A49,A3m]
     try (rw[A3B];simp)
  ·rename_i c;split at h <;> simp only[A2a,reduceCtorEq] at h <;> subst h
   all_goals
     simp only[SV.val,binOp,A2e,PV c,A2b,A2d,A3a,A49,A3m]
     try rfl
  ·rename_i c;split at h <;> simp only[A2a,reduceCtorEq] at h <;> subst h
   all_goals
     simp only[SV.val,binOp,A2e,Qv c,A2b,A2d,A3a,A49,A3m]
     try rfl
  ·rename_i c;split at h <;> simp only[A2a,reduceCtorEq] at h <;> subst h
   all_goals
     simp only[SV.val,binOp,A2e,run_equal_map_nil c,A2b,A2d,A3a,A49,A3m]
     try (rw[A3B];simp)
  ·cases h
def bin (P:Program)(op:BinOp)(t:TypeId)(x y:SV):Ans :=
  if op=.shl∨op=.shr then
    match cnt y with
    | some (n,cs)=>match sh op x n with
      | some r=>some (r,cs)
      | none=>none
    | none=>none
  else match x,y with
  | .i k a,.i k' b=>if k=k' then binI op k a b else none
  | .u8 a,.u8 b=>binU8 op a b
  | .u16 a,.u16 b=>binU16 op a b
  | .u32 a,.u32 b=>binU32 op a b
  | .u64 a,.u64 b=>binU64 op a b
  | .s a,.s b=>binS op a b
  | x,y=>(eqB P op t x y).map fun r=>(r,[])
theorem bin_sound{P w op x y r cs}{t:TypeId}(h:bin P op t x y=some (r,cs))(a:∀ c ∈ cs,c w) :
    (binOp op t x.val y.val).run P w=.ok r.val w:=by
  unfold bin at h;split at h
  ·split at h
   ·rename_i n cs' hn;split at h
    ·rename_i e b;simp only[A2a,A2c] at h;obtain⟨rfl,rfl⟩:=h;obtain⟨k,d⟩:=cnt_spec hn a;rw[d];exact sh_sound b
    ·cases h
   ·cases h
  ·split at h
   ·split at h
    ·rename_i d;subst d;exact binI_sound h a
    ·cases h
   ·exact N8 h a
   ·exact MB h a
   ·exact MC h a
   ·exact MF h a
   ·exact binS_sound h a
   ·simp only[A0M,A2c] at h;obtain⟨e,b,rfl,rfl⟩:=h;exact eqB_sound b
def un (op:UnOp)(x:SV):Option SV :=
  match op,x with
  | .not,.b a=>some (.b (!a))
  | .neg,.i k a=>some (.i k (k.wrap (0 - a)))
  | .neg,.u8 a=>some (.u8 (0 - a))
  | .neg,.u16 a=>some (.u16 (0 - a))
  | .neg,.u32 a=>some (.u32 (0 - a))
  | .neg,.u64 a=>some (.u64 (0 - a))
  | .xor,.i k a=>if k.signed then some (.i k (xorI k (-1) a)) else none
  | .xor,.u8 a=>some (.u8 (255^^^a))
  | .xor,.u16 a=>some (.u16 (65535^^^a))
  | .xor,.u32 a=>some (.u32 (4294967295^^^a))
  | .xor,.u64 a=>some (.u64 (18446744073709551615^^^a))
  | _,_=>none
theorem un_sound{P w op x r}(h:un op x=some r):(Op.unary op x.val).run P w=.ok r.val w:=by
  unfold un at h;split at h <;> (try split at h) <;> simp only[A2a,reduceCtorEq] at h <;> subst h
  ·rfl
  ·rfl
  ·exact N8 (P:=P) (w:=w) (op:=.sub) (a:=0) (t:=0) rfl A2K
  ·exact MB (P:=P) (w:=w) (op:=.sub) (a:=0) (t:=0) rfl A2K
  ·exact MC (P:=P) (w:=w) (op:=.sub) (a:=0) (t:=0) rfl A2K
  ·exact MF (P:=P) (w:=w) (op:=.sub) (a:=0) (t:=0) rfl A2K
  ·rename_i b;simp only[SV.val,Op.unary,b,if_true,Op.intBits,xorI,A2d]
  ·exact N8 (P:=P) (w:=w) (op:=.xor) (a:=255) (t:=0) rfl A2K
  ·exact MB (P:=P) (w:=w) (op:=.xor) (a:=65535) (t:=0) rfl A2K
  ·exact MC (P:=P) (w:=w) (op:=.xor) (a:=4294967295) (t:=0) rfl A2K
  ·exact MF (P:=P) (w:=w) (op:=.xor) (a:=18446744073709551615) (t:=0) rfl A2K
def ofI (k:IntKind)(n:Int):SV :=
  match k with
  | .u8=>.u8 (UInt8.ofInt n)
  | .u16=>.u16 (UInt16.ofInt n)
  | .u32=>.u32 (UInt32.ofInt n)
  | .u64=>.u64 (UInt64.ofInt n)
  | k=>.i k (k.wrap n)
theorem ofI_val(k:IntKind)(n:Int):(ofI k n).val=.int k (k.wrap n):=by
  cases k <;> simp only[ofI,SV.val]
  ·rw[Ya];congr 1;show((UInt8.ofNat (n % 2 ^ 8).toNat).toNat:Int)=_;simp;omega
  ·rw[VQ];congr 1;show((UInt16.ofNat (n % 2 ^ 16).toNat).toNat:Int)=_;simp;omega
  ·rw[VR];congr 1;show((UInt32.ofNat (n % 2 ^ 32).toNat).toNat:Int)=_;simp;omega
  ·rw[VS];congr 1;show((UInt64.ofNat (n % 2 ^ 64).toNat).toNat:Int)=_;simp;omega
def ofN (k:IntKind)(n:Nat):SV :=
  match k with
  | .u8=>.u8 (UInt8.ofNat n)
  | .u16=>.u16 (UInt16.ofNat n)
  | .u32=>.u32 (UInt32.ofNat n)
  | .u64=>.u64 (UInt64.ofNat n)
  | k=>.i k (k.wrap n)
theorem ofN_val(k:IntKind)(n:Nat):(ofN k n).val=.int k (k.wrap n):=by
  cases k <;> simp only[ofN,SV.val]
  ·rw[VP];rfl
  ·rw[Q8];rfl
  ·rw[Q9];rfl
  ·rw[Q_];rfl
theorem F6{n:Nat}(h:n < 9223372036854775808):IntKind.i64.wrap (n:Int)=n:=by
  simp only[IntKind.wrap,IntKind.bits,IntKind.signed];simp;omega
def cvI (k:IntKind)(x:SV):Option SV :=
  match k,x with
  | .i64,.u8 a=>some (.i .i64 a.toNat)
  | .i64,.u16 a=>some (.i .i64 a.toNat)
  | .i64,.u32 a=>some (.i .i64 a.toNat)
  | k,.u8 a=>some (ofN k a.toNat)
  | k,.u16 a=>some (ofN k a.toNat)
  | k,.u32 a=>some (ofN k a.toNat)
  | k,.u64 a=>some (ofN k a.toNat)
  | k,.i _ n=>some (ofI k n)
  | _,_=>none
theorem cvI_sound{P w k x r}(h:cvI k x=some r):∃ b n,x.val=.int b n/\(Conv.intToInt k n).run P w=.ok r.val w:=by
  unfold cvI at h;split at h <;> simp only[A2a,reduceCtorEq] at h <;> subst h
  ·rename_i a;exact⟨_,_,rfl,A3s (fun z=>Result.ok (Value.int .i64 z) w) (F6 (by have:=a.toNat_lt;omega))⟩
  ·rename_i a;exact⟨_,_,rfl,A3s (fun z=>Result.ok (Value.int .i64 z) w) (F6 (by have:=a.toNat_lt;omega))⟩
  ·rename_i a;exact⟨_,_,rfl,A3s (fun z=>Result.ok (Value.int .i64 z) w) (F6 (by have:=a.toNat_lt;omega))⟩
  all_goals first
    | exact⟨_,_,rfl,A3s (fun z=>Result.ok z w) (ofN_val _ _).symm⟩
    | exact⟨_,_,rfl,A3s (fun z=>Result.ok z w) (ofI_val _ _).symm⟩
end
section
def jA (p:EQ)(i:Int)(a:Nat):EQ:=p.map (·.add (i.toNat*a))
def fa (p:EQ)(off:Nat):EQ:=p.map (·.add off)
def Iu (p:EQ)(l m a:Nat):EQ:=if m=l then p else p.map (·.add (l*a))
def bV (x:UInt8):Value:=.int .u8 x.toNat
def Rd (w:World)(p:EQ)(cs:List Value):Prop :=
  (cs≠[]->∃ a,p=some a)/\∀ a j u,p=some a->cs[j]?=some u->w.cell? (a.add j)=some u
def toI:SV->A04
  | .u8 x=>some x.toNat
  | .u16 x=>some x.toNat
  | .u32 x=>some x.toNat
  | .u64 x=>some x.toNat
  | .i _ n=>some n
  | _=>none
theorem toI_spec{x n}(h:toI x=some n):∃ k,x.val=.int k n:=by
  cases x <;> simp only[toI,A2a,reduceCtorEq] at h <;> subst h <;> exact⟨_,rfl⟩
theorem Ad{P}{t:TypeId}{i:TypeInfo}(h:P.info? t=some i)(w:World):(sizeOf t).run P w=.ok i.size w:=by
  simp[sizeOf,typeInfo,h]
def FP (P:Program)(t:TypeId):A03:=(P.info? t).map (·.size)
theorem vU{P}{t:TypeId}{n}(h:FP P t=some n)(w:World):(sizeOf t).run P w=.ok n w:=by
  unfold FP at h;cases hi:P.info? t with
  | none=>simp[hi] at h
  | some i=>simp[hi] at h;subst h;exact Ad hi w
structure Sl where
  l:Nat
  h:Nat
  m:Nat
  cs:List Cond
def bnd (v:Int)(y:Nat):List Cond:=[fun _=>0<=v/\v<=y]
def slB (n cap:Nat)(lo b a:A04):Sl :=
  let m:=match a with | some v=>v.toNat | none=>cap
  let h:=match b with | some v=>v.toNat | none=>n
  let l:=match lo with | some v=>v.toNat | none=>0
  { l,h,m,cs:=(match a with | some v=>bnd v cap | none=>[])++(match b with | some v=>bnd v m | none=>[])++(match lo with | some v=>bnd v h | none=>[]) }
theorem Bh{P w x}{k:IntKind}{v:Int}{y:Nat}{a}(hx:x=.int k v)(h:0<=v/\v<=y):(Instr.sliceBound x y a).run P w=.ok v.toNat w:=by
  subst hx;simp[Instr.sliceBound,asIntOf,h]
def oI:Option SV->Option A04
  | none=>some none
  | some x=>(toI x).map some
theorem Qw{P w}{isS:Bool}{n:Nat}{cap:Nat}{lo:Option SV}{t:Option SV}{s:Option SV}{f g e}(C:oI lo=some f)(B:oI t=some g)(h3:oI s=some e)(D:s.isSome->t.isSome)(i:∀ c ∈ (slB n cap f g e).cs,c w) :
    (Instr.sliceBounds isS n cap (lo.map SV.val) (t.map SV.val) (s.map SV.val)).run P w=.ok ((slB n cap f g e).l,(slB n cap f g e).h,(slB n cap f g e).m) w:=by
  have key:∀ {o:Option SV} {q:A04},oI o=some q->(o=none/\q=none)∨∃ x v k,o=some x/\q=some v/\x.val=.int k v:=by
    intro o q h;cases o with
    | none=>simp[oI] at h;exact .inl ⟨rfl,h.symm⟩
    | some x =>
      simp only[oI,A0M] at h;obtain⟨v,z,rfl⟩:=h;obtain⟨k,A⟩:=toI_spec z;exact .inr ⟨x,v,k,rfl,rfl,A⟩
  unfold Instr.sliceBounds;rcases key h3 with⟨rfl,rfl⟩ | ⟨xm,b,km,rfl,rfl,y⟩ <;> rcases key B with⟨rfl,rfl⟩ | ⟨xh,a,kh,rfl,rfl,r⟩ <;> rcases key C with⟨rfl,rfl⟩ | ⟨xl,d,kl,rfl,rfl,u⟩
  all_goals (try (simp at D;done))
  ·simp[slB]
  ·have j:0<=d/\d<=(n:Nat):=i (fun _=>0<=d/\d<=(n:Nat)) (by simp[slB,bnd]);simp[slB,Bh u j]
  ·have j:0<=a/\a<=(cap:Nat):=i (fun _=>0<=a/\a<=(cap:Nat)) (by simp[slB,bnd]);simp[slB,Bh r j]
  ·have j:0<=a/\a<=(cap:Nat):=i (fun _=>0<=a/\a<=(cap:Nat)) (A2v _ (by simp[bnd]));have p:0<=d/\d<=(a.toNat:Nat):=i (fun _=>0<=d/\d<=(a.toNat:Nat)) (A2x _ (by simp[bnd]));simp only[slB,Option.map_none,A31,A2e,A2d,A2b,Bh r j,Bh u p]
  ·have j:0<=b/\b<=(cap:Nat):=i (fun _=>0<=b/\b<=(cap:Nat)) (A2v _ (A2v _ (by simp[bnd])));have p:0<=a/\a<=(b.toNat:Nat):=i (fun _=>0<=a/\a<=(b.toNat:Nat)) (A2v _ (A2x _ (by simp[bnd])));simp only[slB,Option.map_none,A31,A2e,A2d,A2b,Bh y j,Bh r p]
  ·have j:0<=b/\b<=(cap:Nat):=i (fun _=>0<=b/\b<=(cap:Nat)) (A2v _ (A2v _ (by simp[bnd])));have p:0<=a/\a<=(b.toNat:Nat):=i (fun _=>0<=a/\a<=(b.toNat:Nat)) (A2v _ (A2x _ (by simp[bnd])));have E:0<=d/\d<=(a.toNat:Nat):=i (fun _=>0<=d/\d<=(a.toNat:Nat)) (A2x _ (by simp[bnd]));simp only[slB,Option.map_none,A31,A2e,A2d,A2b,Bh y j,Bh r p,Bh u E]
def cellsS:SV->Option (List SV)
  | .agg xs=>some xs
  | .vec n x=>some [.vec n x]
  | .v (.agg _)=>none
  | .og _=>none
  | x=>some [x]
theorem Oa{x l}(h:cellsS x=some l):x.val.cells=⟨SV.cl l⟩:=by
  unfold cellsS at h;split at h <;> simp only[A2a,reduceCtorEq] at h <;> subst h
  ·rfl
  ·simp only[SV.val,SV.cl,Value.cells,A2n]
  ·rename_i c b h3 a;cases x <;> simp only[SV.val,SV.cl,Value.cells] <;> try rfl
   all_goals first
     | exact absurd rfl (c _)
     | exact absurd rfl (b _ _)
     | exact absurd rfl (a _)
     | skip
   rename_i v;cases v <;> first | rfl | exact absurd rfl (h3 _)
def Qc (place:Nat->Option (Nat×Nat))(a:List SV):List (Nat×SV)->Option (List SV)
  | []=>some a
  | (i,v)::rest =>
    match place i,cellsS v with
    | some (off,size),some l=>match putS off size l a with
      | some cells'=>Qc place cells' rest
      | none=>none
    | _,_=>none
theorem foldSet:∀(l:List Value)(off:Nat)(a:List Value),off+l.length<=a.length ->
    (l.zipIdx).foldl (fun(cs:Array Value) (p:Value×Nat)=>cs.setIfInBounds (off+p.2) p.1) ⟨a⟩=⟨a.take off++l++a.drop (off+l.length)⟩:=by
  intro l
  induction l with
  | nil=>intro off a h;simp
  | cons x xs ih =>
    intro off a h;simp only[bi] at h;have e:=ih (off+1) (a.set off x) A2L;rw[List.zipIdx_cons,A3b,List.zipIdx_succ,List.foldl_map];have d:(⟨a⟩:Array Value).setIfInBounds (off+(x,0).2) (x,0).1=⟨a.set off x⟩:=by simp
    rw[d];have c:(fun(cs:Array Value) (p:Value×Nat)=>cs.setIfInBounds (off+(p.1,p.2+1).2) (p.1,p.2+1).1)=fun(cs:Array Value) (p:Value×Nat)=>cs.setIfInBounds (off+1+p.2) p.1:=by
      funext cs p;show cs.setIfInBounds (off+(p.2+1)) p.1=_;rw[show off+(p.2+1)=off+1+p.2 from by omega]
    rw[c,e];congr 1;have b:off < a.length:=Y
    rw[List.take_set,A39 b];rw[A3w _ _ A2L];rw[List.drop_set_of_lt Y];simp[A35 (Nat.le_of_lt b),Nat.add_assoc,Nat.add_comm 1]
theorem MG{place}(b:List (Nat×SV)):∀ (a r:List SV),Qc place a b=some r ->
    Instr.fill place ⟨SV.cl a⟩ (b.map fun p=>(p.1,p.2.val))=some ⟨SV.cl r⟩:=by
  induction b with
  | nil=>intro a r h;simp only[Qc,A2a] at h;subst h;rfl
  | cons p rest ih =>
    intro a r h;obtain⟨i,v⟩:=p;simp only[Qc] at h;split at h
    ·rename_i off f l hp hl;split at h
     ·rename_i d g;obtain⟨o,e2,n,m⟩:=X_ g;have k:=Oa hl;have c:(SV.cl l).length=f:=by rw[jr];exact n
      have j:(SV.cl a).length=SV.width a:=jr _;simp only[kw,Instr.fill,hp,k];rw[A3q (by simp[c,j];omega)];have:=foldSet (SV.cl l) off (SV.cl a) (by rw[c,j];exact m);have e:Array.foldl (fun cs (x:Value×Nat)=>cs.setIfInBounds (off+x.2) x.1) (⟨SV.cl a⟩:Array Value) (Array.zipIdx ⟨SV.cl l⟩)=⟨SV.cl d⟩:=by
        rw[o,<-c,<-this];simp[Array.foldl_toList]
      exact(A3s (fun z=>Instr.fill place z _) e).trans (ih _ _ h)
     ·cases h
    ·cases h
def TE (P:Program)(t:TypeId):Option Bool :=
  match P.underlying t with
  | some (.struct _) | some (.array _ _)=>some true
  | some _=>some false
  | none=>none
theorem Ae{P}{t:TypeId}{b}(h:TE P t=some b)(w:World):(isAgg t).run P w=.ok b w:=by
  unfold TE at h;cases hu:P.underlying t with
  | none=>simp[hu] at h
  | some d=>cases d <;> simp[hu] at h <;> subst h <;> simp[isAgg,run_underlying hu]
def partS (P:Program)(t:TypeId)(xs:List SV)(off:Nat):Option SV :=
  match TE P t,FP P t with
  | some true,some n=>(TC off n xs).map .agg
  | some false,_=>cellS off xs
  | _,_=>none
theorem Ob{P w}{t:TypeId}{xs off r}(h:partS P t xs off=some r):(part t ⟨SV.cl xs⟩ off).run P w=.ok r.val w:=by
  unfold partS at h;split at h
  ·rename_i n a hs;simp only[A0M] at h;obtain⟨ys,hy,rfl⟩:=h;obtain⟨b,e2,e3⟩:=Um hy;simp only[part,A2e,Ae a,vU hs,A2b,if_true,A2d,SV.val];congr 2;rw[<- b];simp[List.drop_take]
  ·rename_i a;have h':=(VN h).1;simp only[part,A2e,Ae a,A2b];simp[h']
  ·cases h
def toSS:List Operand->(Operand->Option SV)->Option (List SV)
  | [],_=>some []
  | o::os,f=>match f o,toSS os f with
    | some x,some xs=>some (x::xs)
    | _,_=>none
theorem toSS_spec{os f ρ}(b:∀ o x,f o=some x->ρ o=x.val):∀ {xs:List SV},toSS os f=some xs->os.map ρ=SV.vals xs:=by
  induction os with
  | nil=>intro xs h;simp only[toSS,A2a] at h;subst h;rfl
  | cons o os ih =>
    intro xs h;simp only[toSS] at h;split at h
    ·rename_i x xs' hx a;simp only[A2a] at h;subst h;simp only[kw,SV.vals,b _ _ hx,ih a]
    ·cases h
def toPS:List (Nat×Operand)->(Operand->Option SV)->Option (List (Nat×SV))
  | [],_=>some []
  | (i,o)::os,f=>match f o,toPS os f with
    | some x,some xs=>some ((i,x)::xs)
    | _,_=>none
theorem toPS_spec{os:List (Nat×Operand)}{f:Operand->Option SV}{ρ:Operand->Value}(b:∀ o x,f o=some x->ρ o=x.val):∀ {xs:List (Nat×SV)},toPS os f=some xs->os.map (fun p=>(p.1,ρ p.2))=xs.map (fun p=>(p.1,p.2.val)):=by
  induction os with
  | nil=>intro xs h;simp only[toPS,A2a] at h;subst h;rfl
  | cons o os ih =>
    intro xs h;obtain⟨i,o⟩:=o;simp only[toPS] at h;split at h
    ·rename_i x xs' hx a;simp only[A2a] at h;subst h;simp only[kw,b _ _ hx,ih a]
    ·cases h
def zeroS (P:Program)(t:TypeId):Option (List SV) :=
  match(P.info? t).bind (·.zero) with
  | some z=>some (z.cells.toList.map PT)
  | none=>none
theorem MH{P}{t:TypeId}{l}(h:zeroS P t=some l)(w:World):∃ z,(zeroValue t).run P w=.ok z w/\z.cells=⟨SV.cl l⟩:=by
  unfold zeroS at h;split at h
  ·rename_i z a;simp only[A2a] at h;subst h;cases hi:P.info? t with
   | none=>simp[hi] at a
   | some i =>
     simp only[hi,A0X] at a;refine⟨z,by simp[zeroValue,typeInfo,hi,a],?_⟩;rw[Vd]
  ·cases h
def places (P:Program)(a:List Field):Option (List (Nat×Nat)) :=
  match a with
  | []=>some []
  | f::a=>match FP P f.type,places P a with
    | some n,some l=>some ((f.offset,n)::l)
    | _,_=>none
theorem places_run{P}(w:World):∀ (a:List Field) (l:List (Nat×Nat)),places P a=some l->(a.mapM fun f=>(do pure (f.offset,<-sizeOf f.type):Sem (Nat×Nat))).run P w=.ok l w:=by
  intro a
  induction a with
  | nil=>intro l h;simp only[places,A2a] at h;subst h;rfl
  | cons f a ih =>
    intro l h;simp only[places] at h;split at h
    ·rename_i n l' hn hl;simp only[A2a] at h;subst h;simp only[List.mapM_cons,A2e,vU hn,A2b,A2d,ih _ hl]
    ·cases h
def buildS (P:Program)(t:TypeId)(ps:List (Nat×SV)):Option SV :=
  match zeroS P t,P.underlying t with
  | some z,some (.struct fs)=>match places P fs.toList with
    | some pl=>(Qc (fun i=>pl[i]?) z ps).map .agg
    | none=>none
  | some z,some (.array _ e)=>match FP P e with
    | some n=>(Qc (fun i=>some (i*n,n)) z ps).map .agg
    | none=>none
  | _,_=>none
theorem YR{P w}{t:TypeId}{ps r}(h:buildS P t ps=some r):(Instr.build t ⟨ps.map fun p=>(p.1,p.2.val)⟩).run P w=.ok r.val w:=by
  unfold buildS at h;split at h
  ·rename_i z o c d;split at h
   ·rename_i pl j;simp only[A0M] at h;obtain⟨l,hl,rfl⟩:=h;obtain⟨m,b,a⟩:=MH c w;have hp:=places_run w _ _ j;have hm:(o.mapM fun f=>(do pure (f.offset,<-sizeOf f.type):Sem (Nat×Nat))).run P w=.ok pl.toArray w:=by
      rw[Array.mapM_eq_mapM_toList,Sem.run_map,hp];rfl
    have k:=MG ps z l hl;simp only[Instr.build,A2e,b,A2b,run_underlying d,hm,a];have e:(fun x:Nat=>(pl.toArray)[x]?)=fun i=>pl[i]?:=by funext i;simp
    simp only[e,k,A2d,SV.val]
   ·cases h
  ·rename_i z n e c d;split at h
   ·rename_i sz g;simp only[A0M] at h;obtain⟨l,hl,rfl⟩:=h;obtain⟨m,b,a⟩:=MH c w;have k:=MG ps z l hl;simp only[Instr.build,A2e,b,A2b,run_underlying d,vU g,a];simp only[k,A2d,SV.val]
   ·cases h
  ·cases h
theorem YS{P w p n c xs}(h:Rd w p (xs.map bV))(hn:xs.length=n):(Conv.bytesToString (.slice p n c)).run P w=.ok (.string ⟨⟨xs⟩⟩) w:=by
  cases p with
  | none =>
    have:xs=[]:=by
      rcases xs with _ | ⟨x,xs⟩
      ·rfl
      ·obtain⟨a,f⟩:=h.1 A2K;cases f
    subst this;rfl
  | some a =>
    have g:=run_loadCells_list (P:=P) (w:=w) a (xs.map bV) (fun j v d=>h.2 a j v rfl d);have this:=run_bytesToString (P:=P) w a n c (xs.map fun x=>(x.toNat:Int)) (by
      rw[show n=(xs.map bV).length from by simp[hn],g,List.map_map];rfl)
    rw[this];have e:∀ (l:AC) (b:ByteArray),((l.map fun x=>(x.toNat:Int))).foldl (fun r n=>r.push (UInt8.ofNat n.toNat)) b=⟨b.data++l.toArray⟩:=by
      intro l
      induction l with
      | nil=>intro b;simp
      | cons x l ih=>intro b;rw[kw,A3b,ih];simp[ByteArray.push]
    rw[e];simp
def eqCell (P:Program)(t:TypeId)(x y:SV):Option Bool :=
  match P.underlying t,x,y with
  | some .bool,.b a,.b b=>some (decide (a=b))
  | some (.int _),.i k a,.i k' b=>if k=k' then some (decide (a=b)) else none
  | some (.int _),.u8 a,.u8 b=>some (decide (a=b))
  | some (.int _),.u16 a,.u16 b=>some (decide (a=b))
  | some (.int _),.u32 a,.u32 b=>some (decide (a=b))
  | some (.int _),.u64 a,.u64 b=>some (decide (a=b))
  | some .string,.s a,.s b=>some (decide (a=b))
  | _,_,_=>none
theorem YT{a:Int}{b:Int}{p}[Decidable p](h:a=b ↔ p):(a == b)=decide p:=by
  by_cases hp:p
  ·simp[hp,h.2 hp]
  ·simp only[hp,decide_false,beq_eq_false_iff_ne,ne_eq];exact fun e=>hp (h.1 e)
theorem YU{P w}{t:TypeId}{x y r}(d:Nat)(h:eqCell P t x y=some r):(Op.equalIn (d+1) t x.val y.val).run P w=.ok r w:=by
  unfold eqCell at h;split at h
  ·rename_i a b c;cases h;simp only[SV.val];rw[run_equalIn_bool' w d t a b c];congr 1
  ·rename_i c;split at h
   ·rename_i f;cases h;subst f;simp only[SV.val];rw[run_equalIn_int w d t _ _ _ _ c];congr 1
   ·cases h
  ·rename_i a b c;cases h;simp only[SV.val];rw[run_equalIn_int w d t _ _ _ _ c];congr 1;exact YT (by rw[<- UInt8.toNat_inj];omega)
  ·rename_i a b c;cases h;simp only[SV.val];rw[run_equalIn_int w d t _ _ _ _ c];congr 1;exact YT (by rw[<- UInt16.toNat_inj];omega)
  ·rename_i a b c;cases h;simp only[SV.val];rw[run_equalIn_int w d t _ _ _ _ c];congr 1;exact YT (by rw[<- UInt32.toNat_inj];omega)
  ·rename_i a b c;cases h;simp only[SV.val];rw[run_equalIn_int w d t _ _ _ _ c];congr 1;exact YT (by rw[<- A2m];omega)
  ·rename_i a b c;cases h;simp only[SV.val];rw[run_equalIn_string w d t _ _ c];congr 1;rw[ByteArray.toList_eq,ByteArray.toList_eq];by_cases e:a=b
   ·simp[e]
   ·simp[e]
  ·cases h
def eqFs (P:Program)(xs ys:List SV):List Field->Option Bool
  | []=>some true
  | f :: fs => if f.name = "_" then none else
    match partS P f.type xs f.offset,partS P f.type ys f.offset with
    | some a,some b=>match eqCell P f.type a b,eqFs P xs ys fs with
      | some r,some r'=>some (r&&r')
      | _,_=>none
    | _,_=>none
theorem VT{P w xs ys}(d:Nat):∀ (c:List Field) (r:Bool),eqFs P xs ys c=some r->(Op.eqFields (d+1) ⟨SV.cl xs⟩ ⟨SV.cl ys⟩ c).run P w=.ok r w:=by
  intro c
  induction c with
  | nil=>intro r h;cases h;simp[Op.eqFields]
  | cons f c ih =>
    intro r h;unfold eqFs at h;split at h
    ·cases h
    ·rename_i hn;split at h
     ·rename_i a b i g;split at h
      ·rename_i e r2 k j;cases h;simp only[Op.eqFields,hn,ne_eq,not_false_eq_true,if_true,A2e,Ob i,Ob g,YU d k,A2b];cases e
       ·simp
       ·simpa using ih r2 j
      ·cases h
     ·cases h
def eqS (P:Program)(op:BinOp)(t:TypeId)(xs ys:List SV):Option SV :=
  match P.underlying t with
  | some (.struct fs)=>if P.stoodInHeld t||P.eqGuardType P.depth t then none else
    match op with
    | .eql=>(eqFs P xs ys fs.toList).map fun r=>.b r
    | .neq=>(eqFs P xs ys fs.toList).map fun r=>.b (!r)
    | _=>none
  | _=>none
theorem Yb{P w op}{t:TypeId}{xs ys r}(h:eqS P op t xs ys=some r)(x y:Operand) :
    (eqGuard op t x y (SV.agg xs).val (SV.agg ys).val).run P w=.ok () w/\(binOp op t (SV.agg xs).val (SV.agg ys).val).run P w=.ok r.val w:=by
  unfold eqS at h;split at h
  ·rename_i f e;split at h
   ·cases h
   ·rename_i hs;simp only[A2k,not_or,Bool.not_eq_true] at hs;have c:P.fieldsOf t=f:=by simp[Program.fieldsOf,e]
    have a:P.underlying t=some (.struct (P.fieldsOf t)):=by rw[c];exact e
    split at h
    ·simp only[A0M] at h;obtain⟨b,d,rfl⟩:=h;refine⟨run_eqGuard_agg w _ _ _ _ _ _ hs.2,?_⟩;simp only[SV.val];rw[run_eql_struct,run_equalIn_struct w 9999 t _ _ a hs.1,c,VT 9998 _ _ d];rfl
    ·simp only[A0M] at h;obtain⟨b,d,rfl⟩:=h;refine⟨run_eqGuard_agg w _ _ _ _ _ _ hs.2,?_⟩;simp only[SV.val];rw[run_neq_struct,run_equalIn_struct w 9999 t _ _ a hs.1,c,VT 9998 _ _ d];rfl
    ·cases h
  ·cases h
def YV (P:Program)(f:Operand->Option SV)(os:List SV)(op:Op):Option (SV×List Cond×List SV) :=
  match op with
  | .move x | .assign x=>(f x).map fun r=>(r,[],os)
  | .binOp op t x y _=>match f x,f y with
    | some (.agg xs),some (.agg ys)=>(eqS P op t xs ys).map fun r=>(r,[],os)
    | some a,some b=>(bin P op t a b).map fun r=>(r.1,r.2,os)
    | _,_=>none
  | .unOp op _ x=>match f x with
    | some a=>(un op a).map fun r=>(r,[],os)
    | none=>none
  | .convert src dst x=>match P.underlying src,P.underlying dst,f x with
    | some _,some (.int k),some a=>(cvI k a).map fun r=>(r,[],os)
    | some .string,some .string,some (.s a)=>some (.s a,[],os)
    | some (.slice e),some .string,some (.v (.slice p n _))=>match P.underlying e,os with
      | some (.int .u8),.s xs::os=>some (.s xs,[fun w=>Rd w p (xs.map bV)/\xs.length=n],os)
      | _,_=>none
    | _,_,_=>none
  | .extract x ix=>match f x with
    | some (.og xs)=>(xs[ix]?).map fun r=>(r,[],os)
    | _=>none
  | .call { callee:=.builtin .len,args,argTypes }=>match argTypes.toList,args.toList with
    | [t],[x]=>match P.underlying t,f x with
      | some .string,some (.s a)=>some (.i .i64 a.length,[],os)
      | some (.slice _),some (.v (.slice _ n _))=>some (.i .i64 n,[],os)
      | some (.array n _),some _=>some (.i .i64 n,[],os)
      | some (.pointer t'),some _=>match P.underlying t' with
        | some (.array n _)=>some (.i .i64 n,[],os)
        | _=>none
      | _,_=>none
    | _,_=>none
  | .call { callee:=.builtin .min,args,.. }=>match args.toList with
    | [x,y]=>match f x,f y with
      | some (.i k a),some (.i k' b)=>if k=k' then some (.i k (if b < a then b else a),[],os) else none
      | some (.u64 a),some (.u64 b)=>some (.u64 (YK a b),[],os)
      | _,_=>none
    | _=>none
  | .call { callee:=.builtin .max,args,.. }=>match args.toList with
    | [x,y]=>match f x,f y with
      | some (.i k a),some (.i k' b)=>if k=k' then some (.i k (if b > a then b else a),[],os) else none
      | _,_=>none
    | _=>none
  | .index t x ix=>match P.underlying t,f x,(f ix).bind toI,os with
    | some .string,some (.s a),some i,.u8 b::os=>some (.u8 b,[fun _=>0<=i/\a[i.toNat]?=some b],os)
    | some (.array n e),some (.agg xs),some i,r::os=>match TE P e,FP P e,r with
      | some false,some s,r=>some (r,[fun _=>(0<=i/\i < n)/\(SV.cl xs)[i.toNat*s]?=some r.val],os)
      | some true,some s,.agg ys=>some (.agg ys,[fun _=>(0<=i/\i < n)/\((SV.cl xs).drop (i.toNat*s)).take s=SV.cl ys],os)
      | _,_,_=>none
    | _,_,_,_=>none
  | .indexAddr t x ix=>match P.underlying t,f x,(f ix).bind toI with
    | some (.slice e),some (.v (.slice p n _)),some i=>(FP P e).map fun s=>(.v (.pointer (jA p i s)),[fun _=>0<=i/\i < n/\p.isSome=true],os)
    | some (.array n e),some (.v (.pointer p)),some i=>if n<=1 then none else(FP P e).map fun s=>(.v (.pointer (jA p i s)),[fun _=>0<=i/\i < n/\p.isSome=true],os)
    | _,_,_=>none
  | .fieldAddr t x fd=>match P.underlying t,f x with
    | some (.struct fs),some (.v (.pointer p))=>match fs[fd]? with
      | some fl=>match FP P fl.type with
        | some (_+1)=>some (.v (.pointer (fa p fl.offset)),[fun _=>p.isSome=true],os)
        | _=>none
      | none=>none
    | _,_=>none
  | .nilCheck x=>match f x with
    | some (.v (.pointer p))=>some (.v (.pointer p),[fun _=>p.isSome=true],os)
    | some (.v (.iface d v))=>some (.v (.iface d v),[],os)
    | some (.v (.func (.func g) a b))=>some (.v (.func (.func g) a b),[],os)
    | _=>none
  | .load t x=>match TE P t,f x,os with
    | some false,some (.v (.pointer p)),r::os=>some (r,[fun w=>∃ a,p=some a/\w.cell? a=some r.val],os)
    | some true,some (.v (.pointer p)),.agg xs::os=>if FP P t=some (SV.width xs) then some (.agg xs,[fun w=>∃ a,p=some a/\Rd w (some a) (SV.cl xs)],os) else none
    | _,_,_=>none
  | .slice t x lo hi mx=>match P.underlying t,f x,oO f lo,oO f hi,oO f mx with
    | some .string,some (.s a),some lo,some hi,some none=>match os with
      | .s r::os =>
        let b:=slB a.length a.length lo hi none
        some (.s r,b.cs++([fun _=>(a.take b.h).drop b.l=r]:List Cond),os)
      | _=>none
    | some (.slice e),some (.v (.slice p n c)),some lo,some hi,some mx=>if mx.isSome&&!hi.isSome then none else match FP P e,os with
      | some s,.v r::os =>
        let b:=slB n c lo hi mx
        some (.v r,b.cs++([fun _=>Value.slice (Iu p b.l b.m s) (b.h - b.l) (b.m - b.l)=r]:List Cond),os)
      | _,_=>none
    | some (.array n e),some (.v (.pointer p)),some lo,some hi,some mx=>if mx.isSome&&!hi.isSome then none else match FP P e,os with
      | some s,.v r::os =>
        let b:=slB n n lo hi mx
        some (.v r,b.cs++([fun _=>p.isSome=true/\Value.slice (Iu p b.l b.m s) (b.h - b.l) (b.m - b.l)=r]:List Cond),os)
      | _,_=>none
    | _,_,_,_,_=>none
  | .field t x fd=>match P.underlying t,f x with
    | some (.struct fs),some (.agg xs)=>match fs[fd]? with
      | some fl=>(partS P fl.type xs fl.offset).map fun r=>(r,[],os)
      | none=>none
    | _,_=>none
  | .build t parts=>match toPS parts.toList f with
    | some ps=>(buildS P t ps).map fun r=>(r,[],os)
    | none=>none
  | .makeInterface t x=>match P.underlying t,f x with
    | some (.interface _),_=>none
    | some _,some a=>some (.v (.iface t a.val),[],os)
    | _,_=>none
  | .makeFunc fn first captured=>match toSS first.toList f,toSS captured.toList f with
    | some xs,some ys=>some (.v (.func fn ⟨SV.vals xs⟩ ⟨SV.vals ys⟩),[],os)
    | _,_=>none
  | _=>none
where
  oO (f:Operand->Option SV):Option Operand->Option A04
    | none=>some none
    | some x=>match f x with
      | some a=>(toI a).map some
      | none=>none
theorem IU{f ρ}(b:∀ o x,f o=some x->ρ o=x.val){o r}(h:YV.oO f o=some r):∃ s:Option SV,oI s=some r/\o.map ρ=s.map SV.val/\s.isSome=r.isSome:=by
  cases o with
  | none=>simp only[YV.oO,A2a] at h;subst h;exact⟨none,rfl,rfl,rfl⟩
  | some x =>
    simp only[YV.oO] at h;split at h
    ·rename_i a c;refine⟨some a,h,by simp[b _ _ c],?_⟩;simp only[A0M] at h;obtain⟨z,_,rfl⟩:=h;rfl
    ·cases h
theorem XR{P w op}{t:TypeId}{x y a b}(d:a≠.nilIface)(c:∀ xs,a≠.agg xs):(eqGuard op t x y a b).run P w=.ok () w:=by
  cases a <;> first | exact absurd rfl d | exact absurd rfl (c _) | (cases op <;> rfl)
theorem bin_plain{P op}{t:TypeId}{a b r cs}(h:bin P op t a b=some (r,cs)):a.val≠.nilIface/\∀ xs,a.val≠.agg xs:=by
  unfold bin at h;split at h
  ·split at h
   ·split at h
    ·rename_i d c;unfold sh at c;split at c <;> first | (constructor <;> simp[SV.val];done) | cases c
    ·cases h
   ·cases h
  ·split at h <;> first | (constructor <;> simp[SV.val];done) | skip
   simp only[A0M] at h;obtain⟨d,h,_⟩:=h;unfold eqB at h;split at h <;> first | (constructor <;> simp[SV.val];done) | cases h
theorem vk{P w x v}(h:x.run P w=.ok v w):((do pure (.value (<- x))):Sem Next).run P w=.ok (.value v) w:=by
  simp[h]
theorem YW{r:Result Value}{w v}(h:r=.ok v w):(r.andThen fun a w'=>Result.ok (Next.value a) w')=.ok (.value v) w:=by rw[h];rfl
theorem evOp_sound{P w f ρ os os' o r cs}(hf:∀ o x,f o=some x->ρ o=x.val)(h:YV P f os o.op=some (r,cs,os'))(hc:∀ c ∈ cs,c w):(execOp ρ o).run P w=.ok (.value r.val) w:=by
  unfold execOp;cases hop:o.op <;> rw[hop] at h <;> simp only[YV,reduceCtorEq,A0M,A2c] at h ⊢
  case move x =>
    obtain⟨a,ha,rfl,rfl,rfl⟩:=h;simp[hf _ _ ha]
  case assign x =>
    obtain⟨a,ha,rfl,rfl,rfl⟩:=h;simp[hf _ _ ha]
  case binOp op t x y _ =>
    split at h
    ·rename_i xs ys ha hb;simp only[A0M,A2c] at h;obtain⟨r1,hr,rfl,rfl,rfl⟩:=h;refine vk ?_;rw[hf _ _ ha,hf _ _ hb];simp only[A2e,(Yb hr x y).1,A2b];exact(Yb hr x y).2
    ·rename_i a b _ ha hb;simp only[A0M,A2c] at h;obtain⟨⟨r1,c1⟩,hr,rfl,rfl,rfl⟩:=h;have hp:=bin_plain hr;refine vk ?_;rw[hf _ _ ha,hf _ _ hb];simp only[A2e,XR hp.1 hp.2,A2b];exact bin_sound hr hc
    ·cases h
  case unOp op _ x =>
    split at h
    ·rename_i a ha;simp only[A0M,A2c] at h;obtain⟨r1,hr,rfl,rfl,rfl⟩:=h;refine vk ?_;rw[hf _ _ ha];exact un_sound hr
    ·cases h
  case convert src dst x =>
    split at h
    ·rename_i d k a hs hd ha;simp only[A0M,A2c] at h;obtain⟨r1,hr,rfl,rfl,rfl⟩:=h;refine vk ?_;obtain⟨k',n,hv,hr2⟩:=cvI_sound (P:=P) (w:=w) hr;rw[hf _ _ ha,hv];simp only[convert,A2e,run_underlying hs,run_underlying hd,A2b];exact hr2
    ·rename_i a hs hd ha;simp only[A2a,A2c] at h;obtain⟨rfl,rfl,rfl⟩:=h;refine vk ?_;rw[hf _ _ ha];simp only[convert,A2e,run_underlying hs,run_underlying hd,A2b,SV.val,A2d]
    ·rename_i e p n c hs hd ha;split at h
     ·rename_i xs os1 he;simp only[A2a,A2c] at h;obtain⟨rfl,rfl,rfl⟩:=h;simp only[A0N,forall_eq] at hc;refine vk ?_;rw[hf _ _ ha];simp only[convert,A2e,run_underlying hs,run_underlying hd,run_underlying he,A2b,SV.val];exact YS hc.1 hc.2
     ·cases h
    ·cases h
  case extract x ix =>
    split at h
    ·rename_i xs ha;simp only[A0M,A2c] at h;obtain⟨r1,hr,rfl,rfl,rfl⟩:=h;refine vk ?_;rw[hf _ _ ha];have h':(SV.vals xs)[ix]?=some r1.val:=by rw[vals_eq];simp[hr]
     simp[SV.val,Instr.extract,h']
    ·cases h
  case build t parts =>
    split at h
    ·rename_i ps hps;simp only[A0M,A2c] at h;obtain⟨r1,hr,rfl,rfl,rfl⟩:=h;refine vk ?_;have e:=toPS_spec hf hps;have e2:parts.map (fun x=>(x.1,ρ x.2))=⟨ps.map fun p=>(p.1,p.2.val)⟩:=by
       rw[<- e];simp[<- Array.toList_map]
     have e3:parts.map (fun | (i,x)=>(i,ρ x))=⟨ps.map fun p=>(p.1,p.2.val)⟩:=e2;rw[e3];exact YR hr
    ·cases h
  case load t x =>
    split at h
    ·rename_i p r1 os1 ha hx;simp only[A2a,A2c] at h;obtain⟨rfl,rfl,rfl⟩:=h;simp only[A0N,forall_eq] at hc;obtain⟨a,rfl,hc⟩:=hc;refine vk ?_;rw[hf _ _ hx];simp only[SV.val,Instr.loadAt,Instr.sureAddr,A2e,A2d,A2b,loadVar,Ae ha,A0h,A3r];simp[load,Sem.run,hc]
    ·rename_i p xs os1 ha hx;split at h
     ·rename_i hsz;simp only[A2a,A2c] at h;obtain⟨rfl,rfl,rfl⟩:=h;simp only[A0N,forall_eq] at hc;obtain⟨a,rfl,hc⟩:=hc;refine vk ?_;rw[hf _ _ hx];have hl:=run_loadCells_list (P:=P) (w:=w) a (SV.cl xs) (fun j v hv=>hc.2 a j v rfl hv);have hl2:(SV.cl xs).length=SV.width xs:=jr xs;rw[hl2] at hl;simp only[SV.val,Instr.loadAt,Instr.sureAddr,A2e,A2d,A2b,loadVar,Ae ha,if_true,vU hsz,hl]
     ·cases h
    ·cases h
  case nilCheck x =>
    split at h
    ·rename_i p hx;simp only[A2a,A2c] at h;obtain⟨rfl,rfl,rfl⟩:=h;simp only[A0N,forall_eq] at hc;obtain⟨a,rfl⟩:=Option.isSome_iff_exists.1 hc;rw[hf _ _ hx];rfl
    ·rename_i d v hx;simp only[A2a,A2c] at h;obtain⟨rfl,rfl,rfl⟩:=h;rw[hf _ _ hx];rfl
    ·rename_i g a b hx;simp only[A2a,A2c] at h;obtain⟨rfl,rfl,rfl⟩:=h;rw[hf _ _ hx];rfl
    ·cases h
  case makeInterface t x =>
    split at h
    ·cases h
    ·rename_i d a hne ht hx;simp only[A2a,A2c] at h;obtain⟨rfl,rfl,rfl⟩:=h;refine vk ?_;rw[hf _ _ hx];simp only[Instr.makeInterface,A2e,run_underlying ht,A2b];cases d <;> first | rfl | exact absurd ht (hne _)
    ·cases h
  case makeFunc fn first captured =>
    split at h
    ·rename_i xs ys h1 h2;simp only[A2a,A2c] at h;obtain⟨rfl,rfl,rfl⟩:=h;refine vk ?_;have e1:first.map ρ=⟨SV.vals xs⟩:=by rw[<- toSS_spec hf h1];simp[<- Array.toList_map]
     have e2:captured.map ρ=⟨SV.vals ys⟩:=by rw[<- toSS_spec hf h2];simp[<- Array.toList_map]
     rw[e1,e2];rfl
    ·cases h
  case field t x fd =>
    split at h
    ·rename_i fs xs ht hx;split at h
     ·rename_i fl hfl;simp only[A0M,A2c] at h;obtain⟨r1,hr,rfl,rfl,rfl⟩:=h;refine vk ?_;rw[hf _ _ hx];simp only[Instr.field,A2e,run_underlying ht,A2b,hfl,SV.val,asAgg,A2d];exact Ob hr
     ·cases h
    ·cases h
  case fieldAddr t x fd =>
    split at h
    ·rename_i fs p ht hx;split at h
     ·rename_i fl hfl;split at h
      ·rename_i n hn;simp only[A2a,A2c] at h;obtain⟨rfl,rfl,rfl⟩:=h;simp only[A0N,forall_eq] at hc;obtain⟨a,rfl⟩:=Option.isSome_iff_exists.1 hc;refine vk ?_;rw[hf _ _ hx];simp only[Instr.fieldAt,A2e,run_underlying ht,A2b,hfl,SV.val,Instr.sureAddr,A2d,fieldPlace,vU hn];simp[fa]
      ·cases h
     ·cases h
    ·cases h
  case indexAddr t x ix =>
    split at h
    ·rename_i e p n c i ht hx hi;simp only[A0M,A2c] at h;obtain⟨s,hs,rfl,rfl,rfl⟩:=h;simp only[A0N,forall_eq] at hc;obtain⟨h1,h2,h3⟩:=hc;obtain⟨a,rfl⟩:=Option.isSome_iff_exists.1 h3;simp only[A0d] at hi;obtain⟨y,hy,hyi⟩:=hi;obtain⟨k,hk⟩:=toI_spec hyi;refine vk ?_;rw[hf _ _ hx,hf _ _ hy,hk];simp only[SV.val,Instr.indexAt,asIntOf,A2e,A2d,A2b,run_underlying ht];rw[A3p ⟨h1,h2⟩];simp[vU hs,jA]
    ·rename_i n e p i ht hx hi;split at h
     ·cases h
     ·rename_i hn;simp only[A0M,A2c] at h;obtain⟨s,hs,rfl,rfl,rfl⟩:=h;simp only[A0N,forall_eq] at hc;obtain⟨h1,h2,h3⟩:=hc;obtain⟨a,rfl⟩:=Option.isSome_iff_exists.1 h3;simp only[A0d] at hi;obtain⟨y,hy,hyi⟩:=hi;obtain⟨k,hk⟩:=toI_spec hyi;refine vk ?_;rw[hf _ _ hx,hf _ _ hy,hk];simp only[SV.val,Instr.indexAt,asIntOf,A2e,A2d,A2b,run_underlying ht,Instr.sureAddr];rw[A3p ⟨h1,h2⟩];simp[vU hs,jA]
    ·cases h
  case index t x ix =>
    split at h
    ·rename_i a i b os1 ht hx hi;simp only[A2a,A2c] at h;obtain⟨rfl,rfl,rfl⟩:=h;simp only[A0N,forall_eq] at hc;simp only[A0d] at hi;obtain⟨y,hy,hyi⟩:=hi;obtain⟨k,hk⟩:=toI_spec hyi;refine vk ?_;rw[hf _ _ hx,hf _ _ hy,hk];simp only[SV.val,Instr.index,asIntOf,A2e,A2d,A2b,run_underlying ht];rw[A3p hc.1];have hb:(ByteArray.mk ⟨a⟩)[i.toNat]?=some b:=by
       have hlt:i.toNat < a.length:=(A0e.1 hc.2).1;rw[ByteArray.getElem?_lt' _ _ (by simpa [ByteArray.size] using hlt)];have:=(A0e.1 hc.2).2;simp[<- this];rfl
     rw[hb];rfl
    ·rename_i n e xs i r1 os1 ht hx hi;simp only[A0d] at hi;obtain⟨y,hy,hyi⟩:=hi;obtain⟨k,hk⟩:=toI_spec hyi;split at h
     ·rename_i s r2 ha hs;simp only[A2a,A2c] at h;obtain⟨rfl,rfl,rfl⟩:=h;simp only[A0N,forall_eq] at hc;refine vk ?_;rw[hf _ _ hx,hf _ _ hy,hk];simp only[SV.val,Instr.index,asIntOf,A2e,A2d,A2b,run_underlying ht];rw[A3p hc.1];simp only[vU hs,A2e,A2b,part,Ae ha];simp[hc.2]
     ·rename_i s ys ha hs;simp only[A2a,A2c] at h;obtain⟨rfl,rfl,rfl⟩:=h;simp only[A0N,forall_eq] at hc;refine vk ?_;rw[hf _ _ hx,hf _ _ hy,hk];simp only[SV.val,Instr.index,asIntOf,A2e,A2d,A2b,run_underlying ht];rw[A3p hc.1];simp only[vU hs,A2e,A2b,part,Ae ha,if_true,A2d];refine A3s (fun z=>Result.ok (Value.agg z) w) ?_;rw[<- hc.2];simp[List.drop_take]
     ·cases h
    ·cases h
  case slice t x lo hi mx =>
    split at h
    ·rename_i a lo' hi' ht hx hlo hhi hmx;split at h
     ·rename_i r1 os1;simp only[A2a,A2c] at h;obtain⟨rfl,rfl,rfl⟩:=h;obtain⟨s1,e1,m1,i1⟩:=IU hf hlo;obtain⟨s2,e2,m2,i2⟩:=IU hf hhi;obtain⟨s3,e3,m3,i3⟩:=IU hf hmx;have hs3:s3=none:=by
        cases s3 with
        | none=>rfl
        | some z=>simp[oI] at e3
      subst hs3;refine vk ?_;rw[hf _ _ hx,m1,m2,m3];have hb:=Qw (P:=P) (w:=w) (isS:=false) (n:=a.length) (cap:=a.length) e1 e2 e3 A2K (fun x hx=>hc x (A2v _ hx));have hr:=hc _ (A2x _ (A0N.2 rfl));simp only[SV.val,Option.map_none] at hb ⊢;simp only[Instr.sliceAt,A2e,run_underlying ht,A2b,Instr.slice];have hsz:(ByteArray.mk ⟨a⟩).size=a.length:=rfl;simp only[Option.map_none,Option.isSome_none,A0h,A3r,A2e,A2d,A2b,hsz,hb];refine A3s (fun z=>Result.ok (Value.string z) w) ?_;rw[show(ByteArray.mk ⟨a⟩)=ByteArray.mk a.toArray from rfl,ByteArray.extract_mk,<-hr,List.drop_take]
     ·cases h
    ·rename_i e p n c lo' hi' mx' ht hx hlo hhi hmx;split at h
     ·cases h
     ·rename_i hcnd;split at h
      ·rename_i s r1 os1 hs;simp only[A2a,A2c] at h;obtain⟨rfl,rfl,rfl⟩:=h;obtain⟨s1,e1,m1,i1⟩:=IU hf hlo;obtain⟨s2,e2,m2,i2⟩:=IU hf hhi;obtain⟨s3,e3,m3,i3⟩:=IU hf hmx;refine vk ?_;rw[hf _ _ hx,m1,m2,m3];have h0:s3.isSome->s2.isSome:=by
         rw[i3,i2];cases hmm:mx' <;> cases hhh:hi' <;> simp_all
       have hb:=Qw (P:=P) (w:=w) (isS:=true) (n:=n) (cap:=c) e1 e2 e3 h0 (fun x hx=>hc x (A2v _ hx));have hr:=hc _ (A2x _ (A0N.2 rfl));simp only[SV.val,Instr.sliceAt,A2e,run_underlying ht,A2b,Instr.slice,hb,vU hs,A2d];exact A3s (fun z=>Result.ok z w) hr
      ·cases h
    ·rename_i n e p lo' hi' mx' ht hx hlo hhi hmx;split at h
     ·cases h
     ·rename_i hcnd;split at h
      ·rename_i s r1 os1 hs;simp only[A2a,A2c] at h;obtain⟨rfl,rfl,rfl⟩:=h;obtain⟨s1,e1,m1,i1⟩:=IU hf hlo;obtain⟨s2,e2,m2,i2⟩:=IU hf hhi;obtain⟨s3,e3,m3,i3⟩:=IU hf hmx;refine vk ?_;rw[hf _ _ hx,m1,m2,m3];have h0:s3.isSome->s2.isSome:=by
         rw[i3,i2];cases hmm:mx' <;> cases hhh:hi' <;> simp_all
       have hb:=Qw (P:=P) (w:=w) (isS:=false) (n:=n) (cap:=n) e1 e2 e3 h0 (fun x hx=>hc x (A2v _ hx));have hr:=hc _ (A2x _ (A0N.2 rfl));obtain⟨a,rfl⟩:=Option.isSome_iff_exists.1 hr.1;have hr2:=hr.2;simp only[SV.val,Instr.sliceAt,A2e,run_underlying ht,A2b,Instr.sureAddr,hb,vU hs,A2d];refine A3s (fun z=>Result.ok z w) ?_;rw[<- hr2];unfold Iu;split <;> simp_all
      ·cases h
    ·cases h
  case call c =>
    obtain⟨callee,args,argTypes⟩:=c;cases callee with
    | value f=>simp only[YV,reduceCtorEq] at h
    | invoke f m=>simp only[YV,reduceCtorEq] at h
    | builtin b =>
    cases b <;> simp only[YV,reduceCtorEq] at h
    case len =>
      split at h
      ·rename_i t x ht hx;obtain rfl:argTypes=#[t]:=by cases argTypes;simp_all
       obtain rfl:args=#[x]:=by cases args;simp_all
       simp only[resolve,A2e,A2d,A2b,invoke,builtin];refine YW ?_;split at h
       ·rename_i a hu hxa;simp only[A2a,A2c] at h;obtain⟨rfl,rfl,rfl⟩:=h;simp[Builtin.len_,run_underlying hu,hf _ _ hxa,SV.val,goInt]
        try rfl
       ·rename_i e p n c hu hxa;simp only[A2a,A2c] at h;obtain⟨rfl,rfl,rfl⟩:=h;simp[Builtin.len_,run_underlying hu,hf _ _ hxa,SV.val,goInt]
       ·rename_i n e a hu hxa;simp only[A2a,A2c] at h;obtain⟨rfl,rfl,rfl⟩:=h;simp[Builtin.len_,run_underlying hu,hf _ _ hxa,SV.val,goInt]
       ·rename_i t' a hu hxa;split at h
        ·rename_i n e hu2;simp only[A2a,A2c] at h;obtain⟨rfl,rfl,rfl⟩:=h;simp[Builtin.len_,run_underlying hu,run_underlying hu2,SV.val,goInt]
        ·cases h
       ·cases h
      ·cases h
    case min =>
      split at h
      ·rename_i x y hx;obtain rfl:args=#[x,y]:=by cases args;simp_all
       split at h
       ·rename_i k a k' b h1 h2;split at h
        ·rename_i hk;subst hk;simp only[A2a,A2c] at h;obtain⟨rfl,rfl,rfl⟩:=h;simp only[resolve,A2e,A2d,A2b,invoke,builtin];refine YW ?_;simp[Builtin.min_,hf _ _ h1,hf _ _ h2,SV.val,Builtin.min2]
        ·cases h
       ·rename_i a b h1 h2;simp only[A2a,A2c] at h;obtain⟨rfl,rfl,rfl⟩:=h;simp only[resolve,A2e,A2d,A2b,invoke,builtin];refine YW ?_;simp only[Builtin.min_,hf _ _ h1,hf _ _ h2,SV.val,Builtin.min2];by_cases hba:b < a
        ·have hb2:(b.toNat:Int) < (a.toNat:Int):=by exact_mod_cast A2s.1 hba
         simp[hf _ _ h1,hf _ _ h2,SV.val,Builtin.min2,YK,hba,hb2]
        ·have hb2:¬ (b.toNat:Int) < (a.toNat:Int):=by
           intro hh;exact hba (A2s.2 (by exact_mod_cast hh))
         simp[hf _ _ h1,hf _ _ h2,SV.val,Builtin.min2,YK,hba,hb2]
       ·cases h
      ·cases h
    case max =>
      split at h
      ·rename_i x y hx;obtain rfl:args=#[x,y]:=by cases args;simp_all
       split at h
       ·rename_i k a k' b h1 h2;split at h
        ·rename_i hk;subst hk;simp only[A2a,A2c] at h;obtain⟨rfl,rfl,rfl⟩:=h;simp only[resolve,A2e,A2d,A2b,invoke,builtin];refine YW ?_;simp[Builtin.max_,hf _ _ h1,hf _ _ h2,SV.val,Builtin.max2]
        ·cases h
       ·cases h
      ·cases h
end
section
def put (L:List En)(d:Nat)(g:PP)(x:SV):List En :=
  { k:=d,g,x }::L.filter fun e=>e.k != d&&(match e.g with | some (k,_)=>k != d | none=>true)
def wipe (L:List En)(d:Nat):List En:=L.filter fun e=>e.k != d&&(match e.g with | some (k,_)=>k != d | none=>true)
structure Fu (n:Nat)(a:Act)(L:List En):Prop extends Fr n a L where
  un:∀ e ∈ L,∀ g w,e.g=some (g,w)->a.tmps[g]?≠some (.bool w)->a.tmps[e.k]?=some undef
theorem Fr.wipe{n a L}(h:Fr n a L)(d:Nat)(v:Value):Fr n (a.put (some d) v) (wipe L d):=by
  refine⟨by simpa [Act.put] using h.defers,by simpa [Act.put] using h.size,fun e f i=>?_⟩;simp only[Sx.wipe,List.mem_filter,A0U,bne_iff_ne,ne_eq] at f;obtain⟨hm,hne,c⟩:=f;simp only[Act.put];rw[A3W Y];refine h.at_ e hm fun g w b=>?_;have:=i g w b;rw[b] at c;simp at c;simp only[Act.put] at this
  rwa [A3W Y] at this
theorem Fr.put{n a L d g x v}(h:Fr n a L)(hd:d < n)(c:∀ k w,g=some (k,w)->k≠d)(l:(∀ k w,g=some (k,w)->a.tmps[k]?=some (.bool w))->v=x.val):Fr n (a.put (some d) v) (put L d g x):=by
  have f:=h.wipe d v;refine⟨f.defers,f.size,fun e b j=>?_⟩;simp only[Sx.put,ul] at b;rcases b with rfl | b
  ·have m:v=x.val:=l fun k w i=>by
     have:=j k w i;simp only[Act.put] at this
     rwa [A3W (by have:=c k w i;omega)] at this
   have hs:d < a.tmps.size:=by rw[h.size];exact hd
   simp[Act.put,hs,m]
  ·exact f.at_ e b j
theorem Fu.put{n a L d g x v}(h:Fu n a L)(hd:d < n)(c:∀ k w,g=some (k,w)->k≠d)(j:(∀ k w,g=some (k,w)->a.tmps[k]?=some (.bool w))->v=x.val)(l:∀ k w,g=some (k,w)->a.tmps[k]?≠some (.bool w)->v=undef):Fu n (a.put (some d) v) (Sx.put L d g x):=by
  refine⟨h.toFr.put hd c j,fun e i k w f hne=>?_⟩;have hs:d < a.tmps.size:=by rw[h.size];exact hd
  simp only[Sx.put,ul,List.mem_filter,A0U,bne_iff_ne,ne_eq] at i;rcases i with rfl | ⟨hm,hed,b⟩
  ·have hkd:=c k w f;simp only[Act.put] at hne ⊢;rw[A3W Y] at hne;simp[hs,l k w f hne]
  ·rw[f] at b;simp at b;simp only[Act.put] at hne ⊢;rw[A3W Y] at hne ⊢;exact h.un e hm k w f hne
def gslot (ops:Array Oper)(o:Oper):Option PP :=
  match o.guard with
  | none=>some none
  | some (j,w)=>match(ops[j]?).bind (·.dst) with
    | some k=>some (some (k,w))
    | none=>none
theorem IV{ops o g}{a:Act}(h:gslot ops o=some g) :
    (Region.wanted o (yielded ops a.tmps)=true ↔ ∀ k w,g=some (k,w)->a.tmps[k]?=some (.bool w)):=by
  unfold gslot at h;unfold Region.wanted;cases hg:o.guard with
  | none=>rw[hg] at h;simp only[A2a] at h;subst h;simp
  | some p =>
    obtain⟨j,w⟩:=p;rw[hg] at h;simp only at h;split at h
    ·rename_i k d;simp only[A2a] at h;subst h;simp only[A2a,A2c,yielded];rw[A0d] at d;obtain⟨o',b,hd⟩:=d;simp only[b,A0X,hd];constructor
     ·intro c k' w' ⟨e1,e2⟩;subst e1;subst e2;revert c;cases ht:a.tmps[k]? with
      | none=>simp
      | some v=>cases v <;> simp
     ·intro c;have:=c k w ⟨rfl,rfl⟩;simp[this]
    ·cases h
def gcl (L:List En):Nat->PP->Option (List (Bool×Bool))
  | _,none=>some []
  | 0,some _=>none
  | n+1,some (k,w)=>match look L k with
    | some { g,x:=.b c,.. }=>(gcl L n g).map fun l=>(c,w)::l
    | _=>none
theorem gcl_spec{n a L}(j:Fu n a L):∀ (m:Nat) (g:PP) (l:List (Bool×Bool)),gcl L m g=some l->(∀ k w,g=some (k,w)->a.tmps[k]?=some (.bool w))->∀ p ∈ l,p.1=p.2:=by
  intro m
  induction m with
  | zero =>
    intro g l h i;cases g with
    | none=>simp only[gcl,A2a] at h;subst h;simp
    | some p=>simp[gcl] at h
  | succ m ih =>
    intro g l h i;cases g with
    | none=>simp only[gcl,A2a] at h;subst h;simp
    | some p =>
      obtain⟨k,w⟩:=p;simp only[gcl] at h;split at h
      ·rename_i r t c hl;simp only[A0M] at h;obtain⟨l',e,rfl⟩:=h;obtain⟨hm,f⟩:=Lj hl;simp only at f;subst f;have q:=i r w rfl;have o:∀ d b,t=some (d,b)->a.tmps[d]?=some (.bool b):=by
         intro d b s;apply Classical.byContradiction;intro hne;have:=j.un _ hm d b s hne;simp only at this;rw[q] at this;simp[undef] at this
       have h3:=j.at_ _ hm o;simp only[SV.val] at h3;rw[q] at h3;simp only[A2a,A3m] at h3;intro p hp;simp only[ul] at hp;rcases hp with rfl | hp
       ·exact h3.symm
       ·exact ih _ _ e o p hp
      ·cases h
def under:List (Bool×Bool)->Cond->Cond
  | [],p=>p
  | (c,w)::l,p=>under l fun x=>c=w->p x
theorem VU {w:World}:∀ (l:List (Bool×Bool)) (p:Cond),under l p w->(∀ q ∈ l,q.1=q.2)->p w
  | [],_,h,_=>h
  | (c,v)::l,p,h,hl=>VU l (fun x=>c=v->p x) h (fun q a=>hl q (A0P _ a)) (hl (c,v) (A0R))
def gne:PP->Nat->Bool
  | some (k,_),d=>k != d
  | none,_=>true
def settled (ss:A00)(L:List En)(g:PP):Option Bool :=
  match g with
  | none=>none
  | some (k,w)=>if ss.contains k then(match look L k with
    | some { g:=none,x:=.b c,.. }=>some (c == w)
    | some { g:=none,x:=.og [],.. }=>some false
    | _=>none) else none
def ev2 (L:List En)(g:PP)(k:Nat)(w:Bool):Operand->Option SV
  | .tmp t=>match look L t with
    | some e=>match e.g with
      | none=>some e.x
      | some (a,x)=>if a=k/\x=w then some e.x else(match g with
        | some (b,y)=>if a=b/\x=y then some e.x else none
        | none=>none)
    | none=>none
  | .const v=>some (kst v)
  | _=>none
theorem Pn{n a L g k w o x}(m:Fr n a L)(l:∀ k w,g=some (k,w)->a.tmps[k]?=some (.bool w))(j:a.tmps[k]?=some (.bool w))(h:ev2 L g k w o=some x):a.eval o=x.val:=by
  cases o with
  | tmp t =>
    simp only[ev2] at h;split at h
    ·rename_i e p;obtain⟨hm,i⟩:=Lj p;have key:(∀ k w,e.g=some (k,w)->a.tmps[k]?=some (.bool w))->e.x=x->a.eval (.tmp t)=x.val:=by
       intro r q;have:=m.at_ e hm r;rw[i,q] at this;simp[Act.eval,A2o,this]
     split at h
     ·rename_i d;injection h with h;exact key (by rw[d];intro _ _ c;cases c) h
     ·rename_i a' x' d;split at h
      ·rename_i c;injection h with h;obtain⟨rfl,rfl⟩:=c;exact key (by rw[d];intro _ _ c;simp only[A2a,A2c] at c;obtain⟨rfl,rfl⟩:=c;exact j) h
      ·split at h
       ·split at h
        ·rename_i b y c;injection h with h;obtain⟨rfl,rfl⟩:=c;exact key (by rw[d];exact l) h
        ·cases h
       ·cases h
    ·cases h
  | const v=>simp only[ev2,A2a] at h;subst h;simp[Act.eval,kst_val]
  | global g=>cases h
  | func f=>cases h
def evPick (ss:A00)(L:List En)(g:PP):Op->Option SV
  | .pick (.tmp k) a b=>if ss.contains k then(match ev L g (.tmp k) with
    | some (.b true)=>ev2 L g k true a
    | some (.b false)=>ev2 L g k false b
    | _=>none) else match ev L g (.tmp k),ev2 L g k true a,ev2 L g k false b with
    | some (.b c),some (.b x),some (.b y)=>match a,b with
      | .const (.bool true),_=>some (.b (c||y))
      | _,.const (.bool false)=>some (.b (c&&x))
      | _,_=>some (.b (if c then x else y))
    | _,_,_=>none
  | _=>none
theorem YX{P ss n a L g o r w}(l:Fr n a L)(j:∀ k w,g=some (k,w)->a.tmps[k]?=some (.bool w))(h:evPick ss L g o.op=some r) :
    (execOp a.eval o).run P w=.ok (.value r.val) w:=by
  unfold evPick at h;split at h
  ·rename_i k x y f;have e:∀ c,ev L g (.tmp k)=some (.b c)->a.tmps[k]?=some (.bool c)/\a.eval (.tmp k)=.bool c:=by
     intro c i;have d:=Q7 l j i;refine⟨?_,d⟩;simp only[Act.eval,SV.val] at d;rw[A2o] at d;cases ht:a.tmps[k]? with
     | none=>simp[ht,undef] at d
     | some v=>simp[ht] at d;rw[d]
   split at h
   ·split at h
    ·rename_i i;obtain⟨q,p⟩:=e _ i;have h3:=Pn l j q h;unfold execOp;rw[f];simp[p,asBool,h3]
    ·rename_i i;obtain⟨q,p⟩:=e _ i;have h3:=Pn l j q h;unfold execOp;rw[f];simp[p,asBool,h3]
    ·cases h
   split at h
   ·rename_i c u t i hx hy;have d:=Q7 l j i;have s:a.tmps[k]?=some (.bool c):=by
      simp only[Act.eval,SV.val] at d;rw[A2o] at d;cases ht:a.tmps[k]? with
      | none=>simp[ht,undef] at d
      | some v=>simp[ht] at d;rw[d]
    have m:(execOp a.eval o).run P w=.ok (.value (.bool (if c then u else t))) w:=by
      unfold execOp;rw[f];simp only[d,SV.val,asBool,A2e,A2d,A2b];cases c with
      | true =>
        have:=Pn l j s hx;simp[this,SV.val]
      | false =>
        have:=Pn l j s hy;simp[this,SV.val]
    rw[m];split at h
    ·simp only[ev2,kst,PT,A2a,SV.b.injEq] at hx;simp only[A2a] at h;subst h;subst hx;cases c <;> simp[SV.val]
    ·simp only[ev2,kst,PT,A2a,SV.b.injEq] at hy;simp only[A2a] at h;subst h;subst hy;cases c <;> simp[SV.val]
    ·simp only[A2a] at h;subst h;rfl
   ·cases h
  ·cases h
def evA (P:Program)(ss:A00)(L:List En)(g:PP)(os:List SV)(op:Op):Option (SV×List Cond×List SV) :=
  match evPick ss L g op with
  | some r=>some (r,[],os)
  | none=>YV P (ev L g) os op
theorem Yc{P ss n a L g os os' o r cs w}(d:Fr n a L)(b:∀ k w,g=some (k,w)->a.tmps[k]?=some (.bool w))(h:evA P ss L g os o.op=some (r,cs,os'))(i:∀ c ∈ cs,c w):(execOp a.eval o).run P w=.ok (.value r.val) w:=by
  unfold evA at h;split at h
  ·rename_i r' e;simp only[A2a,A2c] at h;obtain⟨rfl,rfl,rfl⟩:=h;exact YX d b e
  ·exact evOp_sound (f:=ev L g) (os:=os) (os':=os') (r:=r) (cs:=cs) (fun o x hx=>Q7 d b hx) h i
def ev1 (P:Program)(n:Nat)(ops:Array Oper)(ss:A00)(L:List En)(os:List SV)(o:Oper):Option (List En×List Cond×List SV) :=
  match gslot ops o,o.dst with
  | some g,some d =>
    match settled ss L g with
    | some false=>if d < n then some (put L d none (.og []),[],os) else none
    | some true=>if d < n then
        match evA P ss L none os o.op with
        | some (r,cs,os')=>some (put L d none r,cs,os')
        | none=>none
      else none
    | none=>if d < n&&gne g d then
        match gcl L 4 g,evA P ss L g os o.op with
        | some gc,some (r,cs,os')=>some (put L d g r,cs.map (under gc),os')
        | _,_=>none
      else none
  | _,_=>none
theorem IW{ss n a L g b}(j:Fu n a L)(h:settled ss L g=some b) :
    ∃ k w,g=some (k,w)/\(b=true->a.tmps[k]?=some (.bool w))/\(b=false->a.tmps[k]?≠some (.bool w)):=by
  cases g with
  | none=>simp[settled] at h
  | some p =>
    obtain⟨k,w⟩:=p;simp only[settled] at h;split at h
    ·split at h
     ·rename_i f c hl;simp only[A2a] at h;obtain⟨hm,e⟩:=Lj hl;simp only at e;subst e;have h3:=j.at_ _ hm (by intro _ _ i;cases i);simp only[SV.val] at h3;refine⟨f,w,rfl,fun d=>?_,fun d=>?_⟩
      ·subst d;simp at h;rw[h3,h]
      ·subst d;simp at h;rw[h3];simpa using h
     ·rename_i f hl;simp only[A2a] at h;subst h;obtain⟨hm,e⟩:=Lj hl;simp only at e;subst e;have h3:=j.at_ _ hm (by intro _ _ i;cases i);simp only[SV.val] at h3;refine⟨f,w,rfl,fun d=>(by cases d),fun d=>?_⟩;rw[h3];simp
     ·cases h
    ·cases h
theorem TG{P n ops ss L L' os os' o cs a}(j:Fu n a L)(h:ev1 P n ops ss L os o=some (L',cs,os')) :
    (Region.wanted o (yielded ops a.tmps)=true/\∃ v,(∀ w,(∀ c ∈ cs,c w)->(execOp a.eval o).run P w=.ok (.value v) w)/\Fu n (a.put o.dst v) L') ∨
    (Region.wanted o (yielded ops a.tmps)=false/\Fu n (a.put o.dst undef) L'):=by
  unfold ev1 at h;split at h
  ·rename_i g d q hd;have m:=IV (a:=a) q;split at h
   ·rename_i f;split at h
    case isFalse=>cases h
    rename_i e;simp only[A2a,A2c] at h;obtain⟨rfl,rfl,rfl⟩:=h;obtain⟨k,w,rfl,_,D⟩:=IW j f;refine .inr ⟨?_,by rw[hd];exact j.put e (by intro _ _ b;cases b) (fun _=>rfl) (by intro _ _ b;cases b)⟩;cases hwant:Region.wanted o (yielded ops a.tmps) with
    | true=>exact absurd (m.1 hwant k w rfl) (D rfl)
    | false=>rfl
   ·rename_i f;obtain⟨k,w,rfl,E,_⟩:=IW j f;split at h
    ·rename_i e;split at h
     ·rename_i r A p x;simp only[A2a,A2c] at h;obtain⟨rfl,rfl,rfl⟩:=h;refine .inl ⟨m.2 (fun k' w' b=>by simp only[A2a,A2c] at b;obtain⟨rfl,rfl⟩:=b;exact E rfl),r.val,fun w z=>?_,?_⟩
      ·exact Yc j.toFr (by intro _ _ b;cases b) x z
      ·rw[hd];exact j.put e (by intro _ _ b;cases b) (fun _=>rfl) (by intro _ _ b;cases b)
     ·cases h
    ·cases h
   ·split at h
    ·rename_i i;simp only[A0U,lm] at i;obtain⟨e,s⟩:=i;split at h
     ·rename_i B r A p t x;simp only[A2a,A2c] at h;obtain⟨rfl,rfl,rfl⟩:=h;have l:∀ k w,g=some (k,w)->k≠d:=by
        intro k w b;subst b;simpa [gne] using s
      cases hwant:Region.wanted o (yielded ops a.tmps) with
      | true =>
        have u:=m.1 hwant;refine .inl ⟨rfl,r.val,fun w z=>?_,?_⟩
        ·refine Yc j.toFr u x fun c y=>?_;exact VU B c (z _ (ut.2 ⟨c,y,rfl⟩)) (gcl_spec j 4 g B t u)
        ·rw[hd];exact j.put e l (fun _=>rfl) fun k w C hne=>absurd (u k w C) hne
      | false =>
        refine .inr ⟨rfl,?_⟩;rw[hd];refine j.put e l (fun b=>?_) fun _ _ _ _=>rfl;rw[m.2 b] at hwant;cases hwant
     ·cases h
    ·cases h
  ·cases h
def evs (P:Program)(n:Nat)(ops:Array Oper)(ss:A00):List Oper->List En->List SV->Option (List En×List Cond×List SV)
  | [],L,os=>some (L,[],os)
  | o::rest,L,os=>match ev1 P n ops ss L os o with
    | some (L1,c1,os1)=>match evs P n ops ss rest L1 os1 with
      | some (L2,c2,os2)=>some (L2,c1++c2,os2)
      | none=>none
    | none=>none
theorem evs_list{P n ops ss Q rest w}:∀ (l:List Oper) (L L':List En) (os os':List SV) (cs:List Cond) (a:Act),Fu n a L ->
    evs P n ops ss l L os=some (L',cs,os')->(∀ c ∈ cs,c w)->(∀ k,Fu n k L'->wpList P ops Q rest k w)->wpList P ops Q (l++rest) a w:=by
  intro l
  induction l with
  | nil =>
    intro L L' os os' cs a i h f e;simp only[evs,A2a,A2c] at h;obtain⟨rfl,rfl,rfl⟩:=h;exact e a i
  | cons o l ih =>
    intro L L' os os' cs a i h f e;simp only[evs] at h;split at h
    ·rename_i L1 c1 os1 p;split at h
     ·rename_i L2 c2 os2 j;simp only[A2a,A2c] at h;obtain⟨rfl,rfl,rfl⟩:=h;show wpList P ops Q (o::(l++rest)) a w;unfold wpList;rcases TG i p with⟨g,v,m,d⟩ | ⟨g,d⟩
      ·rw[A3p g];refine .inl ?_;unfold Oper.wp;rw[m w fun c b=>f c (A2v _ b)];exact ih _ _ _ _ _ _ d j (fun c b=>f c (A2x _ b)) e
      ·rw[A3q (by simp[g])];exact ih _ _ _ _ _ _ d j (fun c b=>f c (A2x _ b)) e
     ·cases h
    ·cases h
theorem evs_quiet{P n ops ss C Q}:∀ (l:List Oper) (L L':List En) (os os':List SV) (cs:List Cond) (a:Act),Fu n a L ->
    evs P n ops ss l L os=some (L',cs,os')->(∀ w,C w->∀ c ∈ cs,c w)->(∀ m,Fu n m L'->Q m)->wpQuiet P ops C Q l a:=by
  intro l
  induction l with
  | nil =>
    intro L L' os os' cs a j h g f;simp only[evs,A2a,A2c] at h;obtain⟨rfl,rfl,rfl⟩:=h;exact f a j
  | cons o l ih =>
    intro L L' os os' cs a j h g f;simp only[evs] at h;split at h
    ·rename_i L1 c1 os1 q;split at h
     ·rename_i L2 c2 os2 k;simp only[A2a,A2c] at h;obtain⟨rfl,rfl,rfl⟩:=h;unfold wpQuiet;rcases TG j q with⟨i,v,p,e⟩ | ⟨i,e⟩
      ·rw[A3p i];refine⟨v,fun w b=>?_,ih _ _ _ _ _ _ e k (fun w b c d=>g w b c (A2x _ d)) f⟩;unfold Oper.quietAt;rw[p w fun c d=>g w b c (A2v _ d)];exact⟨rfl,rfl⟩
      ·rw[A3q (by simp[i])];exact ih _ _ _ _ _ _ e k (fun w b c d=>g w b c (A2x _ d)) f
     ·cases h
    ·cases h
abbrev St:=List (Nat×SV)
def Kn (L:St):List En:=L.map fun p=>{ k:=p.1,g:=none,x:=p.2 }
def W (P:Program)(n:Nat)(c:Code)(Q:Exit->Act->World->Prop)(L:St)(w:World):Prop:=∀ a,Fu n a (Kn L)->c.wp P Q a w
def At (n:Nat)(q:Act->World->Prop)(L:St)(w:World):Prop:=∀ a,Fu n a (Kn L)->q a w
def WL (P:Program)(n:Nat)(ops:Array Oper)(Q:Exit->Act->World->Prop)(l:List Oper)(L:St)(w:World):Prop:=∀ a,Fu n a (Kn L)->wpList P ops Q l a w
def All:List Cond->World->Prop
  | [],_=>True
  | c::cs,w=>c w/\All cs w
theorem Rh{cs w}(h:All cs w):∀ c ∈ cs,c w:=by
  induction cs with
  | nil=>simp
  | cons c cs ih =>
    intro x hx;simp only[ul] at hx;rcases hx with rfl | hx
    ·exact h.1
    ·exact ih h.2 x hx
def Seg (P:Program)(n:Nat)(ops:Array Oper)(ss:A00)(l:List Oper)(L:St)(os:List SV)(L':St)(cs:List Cond):Prop :=
  (evs P n ops ss l (Kn L) os).map (fun r=>(L'.map fun e=>(look r.1 e.1).map fun e=>(e.g,e.x.val),r.2.1,r.2.2))=some (L'.map fun p=>some (none,p.2.val),cs,[])
theorem Seg.keep{P n ops ss l L os L' cs}(h:Seg P n ops ss l L os L' cs) :
    ∃ b,evs P n ops ss l (Kn L) os=some (b,cs,[])/\∀ a,Fu n a b->Fu n a (Kn L'):=by
  unfold Seg at h;simp only[A0M,A2c] at h;obtain⟨⟨b,cs',os'⟩,f,m,rfl,rfl⟩:=h;refine⟨b,f,fun a d=>⟨⟨d.defers,d.size,fun e hm _=>?_⟩,fun e hm g w c=>?_⟩⟩
  ·simp only[Kn,ut] at hm;obtain⟨p,hp,rfl⟩:=hm;have:=List.map_inj_left.1 m p hp;simp only[A0M,A2c] at this;obtain⟨e,f,c,i⟩:=this;obtain⟨hm,j⟩:=Lj f;have:=d.at_ _ hm (by rw[c];intro _ _ k;cases k);rw[j,i] at this;exact this
  ·simp only[Kn,ut] at hm;obtain⟨p,hp,rfl⟩:=hm;cases c
section
variable {P:Program}{n:Nat}{Q:Exit->Act->World->Prop}{L:St}{w:World}
theorem ae{x y}(h:W P n x (Exit.then (y.wp P Q) Q) L w):W P n (.seq x y) Q L w:=fun a b=>wp_seq (h a b)
theorem aB{id c}(h:W P n c (Exit.inBlock id Q) L w):W P n (.block id c) Q L w:=fun a b=>wp_block (h a b)
theorem ay(h:At n (Q .normal) L w):W P n .skip Q L w:=fun a b=>wp_skip (h a b)
theorem bU{id}(h:At n (Q (.exit id)) L w):W P n (.exit id) Q L w:=fun a b=>wp_exit (h a b)
theorem aC(h:At n (Q .ret) L w):W P n .ret Q L w:=fun a b=>wp_ret (h a b)
theorem go{q y b}(c:∀ a w,y.wp P b a w->q a w)(h:W P n y b L w):At n q L w:=fun a d=>c _ _ (h a d)
theorem ak{id l}(h:WL P n l.toArray Q l L w):W P n (.region id l.toArray false) Q L w:=fun a b=>wp_region_lit (h a b)
theorem di{ops}(h:At n (Q .normal) L w):WL P n ops Q [] L w:=fun a b=>wpList_nil (h a b)
theorem WL_seg{ops l}(k:Nat)(ss:A00)(os:List SV)(L':St)(cs:List Cond)(hs:(evs P n ops ss (l.take k) (Kn L) os).map (fun r=>(L'.map fun e=>(look r.1 e.1).map fun e=>(e.g,e.x.val),r.2.1,r.2.2))=some (L'.map fun p=>some (none,p.2.val),cs,[]))(i:All cs w)(h:WL P n ops Q (l.drop k) L' w):WL P n ops Q l L w:=by
  intro a j;obtain⟨m,f,d⟩:=Seg.keep hs;have:=evs_list (Q:=Q) (rest:=l.drop k) (w:=w) (l.take k) (Kn L) m os [] cs a j f (Rh i) (fun c b=>h c (d c b))
  rwa [A32] at this
theorem W_quiet{id l}(ss:A00)(os:List SV)(L':St)(cs:List Cond)(hs:(evs P n l.toArray ss l (Kn L) os).map (fun r=>(L'.map fun e=>(look r.1 e.1).map fun e=>(e.g,e.x.val),r.2.1,r.2.2))=some (L'.map fun p=>some (none,p.2.val),cs,[]))(i:All cs w)(h:At n (Q .normal) L' w):W P n (.region id l.toArray false) Q L w:=by
  refine ak fun a j=>?_;obtain⟨k,f,d⟩:=Seg.keep hs;have:=evs_list (Q:=Q) (rest:=[]) (w:=w) l (Kn L) k os [] cs a j f (Rh i) (fun c b=>wpList_nil (h c (d c b)));simpa using this
theorem W_draw{id l}(hm:P.follows .mixedOrders=true)(os:List SV)(L':St)(cs:List Cond)(k:Region.lexB .any l.toArray=true)(hs:(evs P n l.toArray [] l (Kn L) os).map (fun r=>(L'.map fun e=>(look r.1 e.1).map fun e=>(e.g,e.x.val),r.2.1,r.2.2))=some (L'.map fun p=>some (none,p.2.val),cs,[]))(i:∀ m,All cs (w.drewN m))(h:∀ m,At n (Q .normal) L' (w.drewN m)):W P n (.region id l.toArray true) Q L w:=by
  intro a j;obtain⟨o,f,d⟩:=Seg.keep hs;refine wp_region_quiet_lit hm k ?_;refine evs_quiet (C:=fun w'=>∃ n,w'=w.drewN n) l (Kn L) o os [] cs a j f ?_ ?_
  ·rintro w' ⟨m,rfl⟩;exact Rh (i m)
  ·rintro c b w' ⟨m,rfl⟩;exact h m c (d c b)
theorem Fu.of_at{a}(h:Fu n a (Kn L)){k x}(hl:(k,x) ∈ L):a.tmps[k]?=some x.val :=
  h.at_ { k,g:=none,x } (ut.2 ⟨_,hl,rfl⟩) (by intro _ _ b;cases b)
def find (L:St)(k:Nat):Option SV:=(L.find? fun p=>p.1 == k).map (·.2)
theorem Oc{k x}(h:find L k=some x):(k,x) ∈ L:=by
  unfold find at h;simp only[A0M] at h;obtain⟨⟨k',x'⟩,b,rfl⟩:=h;have:=List.mem_of_find?_eq_some b;have a:=List.find?_some b;simp at a;subst a;exact this
theorem Fu.of_val{a}(h:Fu n a (Kn L)){k x}(hl:(find L k).map SV.val=some x):a.tmps[k]?=some x:=by
  simp only[A0M] at hl;obtain⟨y,hy,rfl⟩:=hl;exact h.of_at (Oc hy)
theorem Af{k x y}(c:Bool)(f:find L k=some (.b c))(i:c=true->W P n x Q L w)(g:c=false->W P n y Q L w):W P n (.cond (.tmp k) x y) Q L w:=by
  intro a e;have h:=e.of_at (Oc f);exact wp_cond_split (t:=c) (by simp[Act.eval,A2o,h,SV.val]) (fun d=>i d a e) (fun d=>g d a e)
theorem W_condp{k x y}(p:Prop)[Decidable p](a:find L k=some (.b (decide p)))(d:p->W P n x Q L w)(c:¬ p->W P n y Q L w):W P n (.cond (.tmp k) x y) Q L w :=
  Af (decide p) a (fun h=>d (of_decide_eq_true h)) (fun h=>c (of_decide_eq_false h))
theorem W_forget{c}(L':St)(d:L'.map (fun p=>(find L p.1).map SV.val)=L'.map (fun p=>some p.2.val))(h:W P n c Q L' w):W P n c Q L w:=by
  intro a b;refine h a ⟨⟨b.defers,b.size,fun e hm _=>?_⟩,fun e hm g w f=>?_⟩
  ·simp only[Kn,ut] at hm;obtain⟨p,hp,rfl⟩:=hm;exact b.of_val (List.map_inj_left.1 d p hp)
  ·simp only[Kn,ut] at hm;obtain⟨p,hp,rfl⟩:=hm;cases f
theorem Lt{q}(L':St)(c:L'.map (fun p=>(find L p.1).map SV.val)=L'.map (fun p=>some p.2.val))(h:At n q L' w):At n q L w:=by
  intro a b;refine h a ⟨⟨b.defers,b.size,fun e hm _=>?_⟩,fun e hm g w d=>?_⟩
  ·simp only[Kn,ut] at hm;obtain⟨p,hp,rfl⟩:=hm;exact b.of_val (List.map_inj_left.1 c p hp)
  ·simp only[Kn,ut] at hm;obtain⟨p,hp,rfl⟩:=hm;cases d
theorem mZ{x y}(K:St->World->Prop)(h:W P n x (Exit.then (fun a w=>∃ L,Fu n a (Kn L)/\K L w) Q) L w)(g:∀ L w,K L w->W P n y Q L w):W P n (.seq x y) Q L w:=by
  refine ae fun a f=>wp_mono (h a f) ?_;intro e i w' b;cases e with
  | normal=>obtain⟨L',d,c⟩:=b;exact g L' w' c i d
  | _=>exact b
theorem TI{id c}(K:St->World->Prop)(l:W P n c (Exit.inBlock id (Exit.then (fun a w=>∃ L,Fu n a (Kn L)/\K L w) Q)) L w)(h:∀ L w,K L w->At n (Q .normal) L w):W P n (.block id c) Q L w:=by
  refine aB fun a k=>wp_mono (l a k) ?_;intro e j w' b;cases e with
  | normal=>obtain⟨L',g,d⟩:=b;exact h L' w' d j g
  | exit i =>
    simp only[Exit.inBlock] at b ⊢;split
    ·rename_i f;rw[A3p f] at b;obtain⟨L',g,d⟩:=b;exact h L' w' d j g
    ·rename_i f;rw[A3q f] at b;exact b
  | _=>exact b
theorem At_cut{K:St->World->Prop}(h:K L w):At n (Exit.then (fun a w=>∃ L,Fu n a (Kn L)/\K L w) Q .normal) L w:=fun _ b=>⟨L,b,h⟩
theorem aK{K}(h:At n (Q .ret) L w):At n (Exit.then K Q .ret) L w:=fun a b=>h a b
theorem fE{id}(h:At n (Q .ret) L w):At n (Exit.inBlock id Q .ret) L w:=fun a b=>h a b
theorem aW{K i}(h:At n (Q (.exit i)) L w):At n (Exit.then K Q (.exit i)) L w:=fun a b=>h a b
theorem eG{i}(h:At n (Q .normal) L w):At n (Exit.inBlock i Q (.exit i)) L w:=fun a b=>by simpa [Exit.inBlock] using h a b
theorem At_ine{i j}(b:i≠j)(h:At n (Q (.exit i)) L w):At n (Exit.inBlock j Q (.exit i)) L w:=fun a c=>by simpa [Exit.inBlock,b] using h a c
theorem cO{id}(h:At n (Q .normal) L w):At n (Exit.inBlock id Q .normal) L w:=fun a b=>h a b
theorem au{y}(h:W P n y Q L w):At n (Exit.then (y.wp P Q) Q .normal) L w:=fun a b=>h a b
def UN (P:Program)(b:List ResultVar)(L:St)(os:List SV):Option (List SV×List Cond×List SV) :=
  match b with
  | []=>some ([],[],os)
  | .tmp t::b=>match find L t,UN P b L os with
    | some x,some (xs,cs,os)=>some (x::xs,cs,os)
    | _,_=>none
  | .cell a t::b=>match TE P t,find L a,os with
    | some false,some (.v (.pointer (some p))),r::os=>match UN P b L os with
      | some (xs,cs,os)=>some (r::xs,(fun w=>w.cell? p=some r.val)::cs,os)
      | none=>none
    | some true,some (.v (.pointer (some p))),.agg ys::os=>if FP P t=some (SV.width ys) then(match UN P b L os with
      | some (xs,cs,os)=>some (.agg ys::xs,(fun w=>Rd w (some p) (SV.cl ys))::cs,os)
      | none=>none) else none
    | _,_,_=>none
def Yd:List SV->SV
  | [x]=>x
  | xs=>.og xs
def resF (a:Act):ResultVar->Sem Value
  | .tmp t=>pure (a.tmps.getD t undef)
  | .cell b t=>do loadVar t (<- asAddr (a.tmps.getD b undef))
theorem resS_sound{a}(y:Fu n a (Kn L)):∀ (i:List ResultVar) (os os':List SV) (xs:List SV) (cs:List Cond),UN P i L os=some (xs,cs,os')->(∀ c ∈ cs,c w) ->
    (i.mapM (resF a)).run P w=.ok (SV.vals xs) w:=by
  intro i
  induction i with
  | nil =>
    intro os os' xs cs h f;simp only[UN,A2a,A2c] at h;obtain⟨rfl,rfl,rfl⟩:=h;rfl
  | cons r i ih =>
    intro os os' xs cs h f;cases r with
    | tmp t =>
      simp only[UN] at h;split at h
      ·rename_i x g o k hx l;simp only[A2a,A2c] at h;obtain⟨rfl,rfl,rfl⟩:=h;have m:=y.of_at (Oc hx);simp only[List.mapM_cons,resF,A2e,A2d,A2b,ih _ _ _ _ l f,SV.vals];simp[A2o,m]
      ·cases h
    | cell b t =>
      simp only[UN] at h;split at h
      ·rename_i p r1 k e hx;split at h
       ·rename_i g o q l;simp only[A2a,A2c] at h;obtain⟨rfl,rfl,rfl⟩:=h;have m:=y.of_at (Oc hx);have z:=f _ (A0R);have h3:=ih _ _ _ _ l (fun c d=>f c (A0P _ d));simp only[List.mapM_cons,resF,A2e,A2o,m,A47,SV.val,asAddr,A2d,A2b,loadVar,Ae e,A0h,A3r];simp only[load,Sem.run,z,A2b];simp only[h3,A2b,A2d,SV.vals]
       ·cases h
      ·rename_i p ys k e hx;split at h
       ·rename_i s;split at h
        ·rename_i g o q l;simp only[A2a,A2c] at h;obtain⟨rfl,rfl,rfl⟩:=h;have m:=y.of_at (Oc hx);have z:=f _ (A0R);have h3:=ih _ _ _ _ l (fun c d=>f c (A0P _ d));have hl:=run_loadCells_list (P:=P) (w:=w) p (SV.cl ys) (fun j v A=>z.2 p j v rfl A);have u:(SV.cl ys).length=SV.width ys:=jr ys;rw[u] at hl;simp only[List.mapM_cons,resF,A2e,A2o,m,A47,SV.val,asAddr,A2d,A2b,loadVar,Ae e,if_true,vU s,hl,h3,SV.vals]
        ·cases h
       ·cases h
      ·cases h
theorem At_ret{fn R}(os xs:List SV)(cs:List Cond)(c:UN P fn.results.toList L os=some (xs,cs,[]))(d:All cs w)(h:R (.returned (Yd xs).val) w) :
    At n (bodyPost P fn R .ret) L w:=by
  intro a b;refine⟨b.defers,(Yd xs).val,?_,h⟩;have f:=resS_sound b _ _ _ _ _ c (Rh d);have e:(fn.results.mapM (resF a)).run P w=.ok (vals xs) w:=by
    rw[Array.mapM_eq_mapM_toList,Sem.run_map,f];rfl
  have h3:results fn a.tmps=(do
      let vs<-fn.results.mapM (resF a)
      pure (if h:vs.size=1 then vs[0] else .tuple vs)):=by
    unfold results;congr 2
  rw[h3];simp only[A2e,e,A2b,A2d];congr 1
  match xs with
  | []=>rfl
  | [x]=>rfl
  | x::y::zs=>rfl
def numbered:Nat->List SV->St
  | _,[]=>[]
  | k,x::xs=>(k,x)::numbered (k+1) xs
theorem Fu_enter(xs:List SV)(n:Nat)(hn:xs.length<=n):Fu n { tmps:=vals xs++Array.replicate (n - (vals xs).size) undef,defers:=[] } (Kn (numbered 0 xs)):=by
  have hl:(SV.vals xs).length=xs.length:=by rw[vals_eq];simp
  have hs:(vals xs).size=xs.length:=by simp[vals,hl]
  have key:∀ (ys:List SV) (k:Nat) (p:Nat×SV),p ∈ numbered k ys->k<=p.1/\ys[p.1 - k]?=some p.2:=by
    intro ys
    induction ys with
    | nil=>intro k p hp;simp[numbered] at hp
    | cons y ys ih =>
      intro k p hp;simp only[numbered,ul] at hp;rcases hp with rfl | hp
      ·simp
      ·obtain⟨h1,a⟩:=ih (k+1) p hp;refine⟨Y,?_⟩;rw[show p.1 - k=(p.1 - (k+1))+1 from by omega];simpa using a
  refine⟨⟨rfl,?_,fun e hm _=>?_⟩,fun e hm g w c=>?_⟩
  ·simp[hs];omega
  ·simp only[Kn,ut] at hm;obtain⟨p,hp,rfl⟩:=hm;obtain⟨_,a⟩:=key xs 0 p hp;simp only[Nat.sub_zero] at a;have b:p.1 < xs.length:=(A0e.1 a).1;show(vals xs++_)[p.1]?=_;rw[Array.getElem?_append_left (by rw[hs];exact b)];simp only[vals,List.getElem?_toArray];rw[vals_eq];simp[a]
  ·simp only[Kn,ut] at hm;obtain⟨p,hp,rfl⟩:=hm;cases c
theorem calls{f fn c R}(xs:List SV)(a:P.funcs[f]?=some fn)(b:fn.body=some c)(hn:xs.length<=fn.ntmps)(h:W P fn.ntmps c (bodyPost P fn R) (numbered 0 xs) w):Calls P f (vals xs) w R :=
  calls_of_wp a b (h _ (Fu_enter xs fn.ntmps hn))
end
section
variable {σ ρ:Type}
def runK (a:σ->Option (σ⊕ρ)):Nat->σ->Option ρ
  | 0,_=>none
  | k+1,s=>match a s with
    | some (.inl s')=>runK a k s'
    | some (.inr r)=>some r
    | none=>none
theorem runK_mono(a:σ->Option (σ⊕ρ)):∀ (k:Nat) (s:σ) (r:ρ),runK a k s=some r->runK a (k+1) s=some r:=by
  intro k
  induction k with
  | zero=>intro s r h;cases h
  | succ k ih =>
    intro s r h;rw[runK] at h;show(match a s with | some (.inl s')=>runK a (k+1) s' | some (.inr r)=>some r | none=>none)=some r;cases hs:a s with
    | none=>rw[hs] at h;cases h
    | some y =>
      rw[hs] at h;cases y with
      | inl s'=>exact ih _ _ h
      | inr r'=>exact h
theorem runK_le(a:σ->Option (σ⊕ρ)){k b}(h:k<=b){s:σ}{r:ρ}(c:runK a k s=some r):runK a b s=some r:=by
  obtain⟨d,rfl⟩:=A3k h
  induction d with
  | zero=>exact c
  | succ d ih=>exact runK_mono a _ s r (ih Y)
open Classical in
noncomputable def aT (a:σ->Option (σ⊕ρ))(s:σ):Option ρ :=
  if h:∃ k r,runK a k s=some r then runK a (Classical.choose h) s else none
theorem Kq{a:σ->Option (σ⊕ρ)}{s:σ}{r:ρ}:aT a s=some r ↔ ∃ k,runK a k s=some r:=by
  unfold aT;split
  ·rename_i h;obtain⟨r',b⟩:=Classical.choose_spec h;constructor
   ·intro d;exact⟨_,d⟩
   ·rintro⟨k,c⟩;have f:=runK_le a (Nat.le_max_left (Classical.choose h) k) b;have e:=runK_le a (Nat.le_max_right (Classical.choose h) k) c;rw[f] at e;rw[b];exact e
  ·rename_i h;constructor
   ·intro d;cases d
   ·rintro⟨k,c⟩;exact absurd ⟨k,r,c⟩ h
theorem iJ{a:σ->Option (σ⊕ρ)}{s:σ}{s':σ}(h:a s=some (.inl s')):aT a s=aT a s':=by
  have key:∀ r,aT a s=some r ↔ aT a s'=some r:=by
    intro r;rw[Kq,Kq];constructor
    ·rintro⟨k,b⟩;cases k with
     | zero=>cases b
     | succ k=>rw[runK,h] at b;exact⟨k,b⟩
    ·rintro⟨k,b⟩;exact⟨k+1,by rw[runK,h];exact b⟩
  cases h1:aT a s with
  | some r=>exact((key r).1 h1).symm
  | none =>
    cases h2:aT a s' with
    | none=>rfl
    | some r=>rw[(key r).2 h2] at h1;cases h1
theorem dm{a:σ->Option (σ⊕ρ)}{s:σ}{r:ρ}(h:a s=some (.inr r)):aT a s=some r :=
  Kq.2 ⟨1,by rw[runK,h]⟩
theorem least{p:Nat->Prop}(h:∃ k,p k):∃ k,p k/\∀ m,p m->k<=m:=by
  obtain⟨k,b⟩:=h
  induction k using Nat.strongRecOn with
  | _ k ih =>
    by_cases hm:∃ m,m < k/\p m
    ·obtain⟨m,a,hp⟩:=hm;exact ih m a hp
    ·exact⟨k,b,fun m hp=>Nat.le_of_not_lt fun a=>hm ⟨m,a,hp⟩⟩
open Classical in
theorem W_loop{P}{n:Nat}{Q:Exit->Act->World->Prop}{x w0 c}(d:σ->Option (σ⊕ρ))(f:σ->St->World->Prop)(m:σ)(r:ρ)(hm:aT d m=some r)(D:f m x w0)(C:∀ s L w y,f s L w->d s=some y->(∀ o,y=.inr o->o=r) ->
      W P n c (Exit.then (fun a w=>∃ s' L',y=.inl s'/\Fu n a (Kn L')/\f s' L' w) Q) L w):W P n (.loop c) Q x w0:=by
  intro a0 t;obtain⟨A,p⟩:=Kq.1 hm
  let J:Nat->Act->World->Prop:=fun k a w=>∃ s L,Fu n a (Kn L)/\f s L w/\runK d k s=some r
  let μ:Act->World->Nat:=fun a w=>if h:∃ k,J k a w then Classical.choose (least h) else 0
  refine wp_loop (fun a w=>∃ k,J k a w) μ ⟨A,m,x,t,D,p⟩ ?_;intro a w hI;have B:μ a w=Classical.choose (least hI):=dif_pos hI;obtain⟨s,L,q,i,b⟩:=(Classical.choose_spec (least hI)).1;rw[<- B] at b;cases hk:μ a w with
  | zero=>rw[hk] at b;cases b
  | succ k =>
    rw[hk,runK] at b;cases hs:d s with
    | none=>rw[hs] at b;cases b
    | some y =>
      rw[hs] at b;have:=C s L w y i hs (by intro o e;subst e;simpa using b) a q;refine wp_mono this ?_;intro e v w' z;cases e with
      | normal =>
        obtain⟨s',L',rfl,j,g⟩:=z;simp only at b;have u:J k v w':=⟨s',L',j,g,b⟩
        refine⟨⟨k,u⟩,?_⟩;have l:∃ k,J k v w':=⟨k,u⟩
        have h1:μ v w'=Classical.choose (least l):=dif_pos l;have h2:Classical.choose (least l)<=k:=(Classical.choose_spec (least l)).2 k u;omega
      | _=>exact z
theorem At_round{n Q}{b:σ->St->World->Prop}{y:σ⊕ρ}{L w}(s':σ)(hy:y=.inl s')(h:b s' L w):At n (Exit.then (fun a w=>∃ s' L',y=.inl s'/\Fu n a (Kn L')/\b s' L' w) Q .normal) L w :=
  fun _ c=>⟨s',L,hy,c,h⟩
end
end
section
open Go.RowKit
set_option linter.unusedSimpArgs false
set_option linter.unusedVariables false
structure dV (P:Program)(f:FuncId):Prop where
  ok : ∃ fn c, P.funcs[f]? = some fn /\ fn.body = some c /\ (fn.name == "runtime.NumGoroutine") = false
theorem dV.run{P f}(h:dV P f)(args:Array Value)(w:World):(callFunc f args).run P w=.ok (.enter f args) w:=by
  obtain⟨fn,c,a,b,hn⟩:=h.ok;simp only[callFunc,A2e];show(match P.funcs[f]? with | none=>_ | some fn=>_:Sem Next).run P w=_;rw[a];simp[hn,b]
def Ep (ops:Array Oper)(ss:A00)(L:St)(o:Oper):Bool :=
  match gslot ops o with
  | some none=>true
  | some g=>settled ss (Kn L) g == some true
  | none=>false
theorem VV{ops ss L o n a}(d:Fu n a (Kn L))(h:Ep ops ss L o=true):Region.wanted o (yielded ops a.tmps)=true:=by
  unfold Ep at h;split at h
  ·rename_i c;exact(IV c).2 (by intro _ _ b;cases b)
  ·rename_i g hne c;simp only[beq_iff_eq] at h;obtain⟨k,w,rfl,e,_⟩:=IW d h;exact(IV c).2 fun k' w' b=>by
     simp only[A2a,A2c] at b;obtain⟨rfl,rfl⟩:=b;exact e rfl
  ·cases h
def lk (L:St):Operand->Option SV:=ev (Kn L) none
theorem Ve{n a L o x}(c:Fu n a (Kn L))(h:lk L o=some x):a.eval o=x.val :=
  Q7 c.toFr (by intro _ _ b;cases b) h
theorem Fu.more{n a L}(f:Fu n a (Kn L)){d x}(hd:d < n)(hn:(L.any fun p=>p.1 == d)=false):Fu n (a.put (some d) x.val) (Kn ((d,x)::L)):=by
  have h:=f.put hd (g:=none) (x:=x) (v:=x.val) (by intro _ _ c;cases c) (fun _=>rfl) (by intro _ _ c;cases c);refine⟨⟨h.defers,h.size,fun e hm b=>?_⟩,fun e hm g w b=>?_⟩
  ·simp only[Kn,kw,ul] at hm;rcases hm with rfl | hm
   ·exact h.at_ _ (by simp[Sx.put]) b
   ·refine h.at_ e ?_ b;simp only[Sx.put,ul,List.mem_filter];refine .inr ⟨hm,?_⟩;simp only[ut] at hm;obtain⟨p,hp,rfl⟩:=hm;have:(p.1 == d)=false:=by
      have:=List.any_eq_false.1 hn p hp;simpa using this
    simp only[beq_eq_false_iff_ne,ne_eq] at this;simp[this]
  ·simp only[Kn,ut] at hm;obtain⟨p,_,rfl⟩:=hm;cases b
section
variable {P:Program}{n:Nat}{Q:Exit->Act->World->Prop}{ops:Array Oper}{rest:List Oper}{L:St}{w:World}{K:St->World->Prop}
def Side (n:Nat)(ops:Array Oper)(ss:A00)(L:St)(o:Oper)(d:Nat)(xs:List Operand)(svs:List SV):Prop :=
  (Ep ops ss L o,o.dst,(decide (d < n)),(L.any fun p=>p.1 == d),toSS xs (lk L))=(true,some d,true,false,some svs)
def Dv (P:Program)(n:Nat)(ops:Array Oper)(L:St)(w:World)(o:Oper)(K:St->World->Prop):Prop :=
  ∀ a,Fu n a (Kn L)->Region.wanted o (yielded ops a.tmps)=true/\o.wp P a w (fun b w'=>∃ L',Fu n b (Kn L')/\K L' w') (fun _ _ _=>False)
theorem Oper.wp_Q{P}{o:Oper}{a}{w:World}{K:Act->World->Prop}{Q:Exit->Act->World->Prop}{f:Exit->Act->World->Prop}(b:∀ e a w,Q e a w->f e a w)(h:o.wp P a w K Q):o.wp P a w K f:=by
  unfold Oper.wp at *;generalize (execOp a.eval o).run P w=r at *;cases r with
  | ok x w' =>
    cases x <;> simp only[Oper.upon] at h ⊢ <;> first | exact h | skip
    refine h.mono fun e w'' d=>?_;cases e with
    | returned v=>exact d
    | panicked c=>exact b _ _ _ d
    | outgrown=>obtain⟨i,g,h3⟩:=d;exact⟨i,g,b _ _ _ h3⟩
  | halt x w'=>cases x <;> simp only[Oper.upon] at h ⊢ <;> first | exact b _ _ _ h | exact h
theorem ai {o:Oper}(h:Dv P n ops L w o (fun L' w'=>WL P n ops Q rest L' w')):WL P n ops Q (o::rest) L w:=by
  intro a d;obtain⟨f,e⟩:=h a d;unfold wpList;rw[A3p f];refine .inl (Oper.wp_Q (fun _ _ _ b=>b.elim) (Oper.wp_mono ?_ e));rintro g w' ⟨L',b,c⟩;exact c g b
theorem DU{o d xs svs K}(ss:A00)(hs:Side n ops ss L o d xs svs)(h:∀ a,Fu n a (Kn L)->xs.map a.eval=SV.vals svs->o.wp P a w (fun c w'=>∃ x,c=a.put (some d) x.val/\K ((d,x)::L) w') (fun _ _ _=>False)):Dv P n ops L w o K:=by
  intro a b;simp only[Side,A2c,lm] at hs;obtain⟨i,h2,h3,g,f⟩:=hs;refine⟨VV b i,Oper.wp_mono ?_ (h a b (toSS_spec (fun o x hx=>Ve b hx) f))⟩;rintro c w' ⟨x,rfl,e⟩;exact⟨_,b.more h3 g,e⟩
theorem WL_of0{o xs svs K}(ss:A00)(hs:(Ep ops ss L o,o.dst,toSS xs (lk L))=(true,none,some svs))(h:∀ a,Fu n a (Kn L)->xs.map a.eval=SV.vals svs->o.wp P a w (fun c w'=>c=a/\K L w') (fun _ _ _=>False)):Dv P n ops L w o K:=by
  intro a b;simp only[A2c] at hs;obtain⟨f,h2,e⟩:=hs;refine⟨VV b f,Oper.wp_mono ?_ (h a b (toSS_spec (fun o x hx=>Ve b hx) e))⟩;rintro c w' ⟨rfl,d⟩;exact⟨_,b,d⟩
end
end
section
open Go.RowKit
set_option linter.unusedSimpArgs false
set_option linter.unusedVariables false
structure HP where
  p:World->(Nat->Prop)->(Nat->Prop)->Prop
  loc:∀ w w' S R,p w S R->(∀ b,S b∨R b->w'.heap[b]?=w.heap[b]?)->p w' S R
def Sep (w:World):List HP->(Nat->Prop)->(Nat->Prop)->Prop
  | [],U,V=>(∀ b,¬ U b)/\∀ b,¬ V b
  | h::hs,U,V=>∃ S R a c,h.p w S R/\Sep w hs a c/\(∀ b,U b ↔ S b∨a b)/\(∀ b,V b ↔ R b∨c b)/\(∀ b,S b->¬ a b/\¬ R b/\¬ c b)/\∀ b,R b->¬ a b
theorem Sep.apart{w}:∀ {hs:List HP} {U V:Nat->Prop},Sep w hs U V->∀ b,U b->¬ V b:=by
  intro hs
  induction hs with
  | nil=>intro U V h b e;exact absurd e (h.1 b)
  | cons x hs ih =>
    rintro U V ⟨S,R,U',V',h1,l,h3,j,i,k⟩ b e f;rcases(h3 b).1 e with c | g
    ·rcases(j b).1 f with d | a
     ·exact(i b c).2.1 d
     ·exact(i b c).2.2 a
    ·rcases(j b).1 f with d | a
     ·exact k b d g
     ·exact ih l b g a
theorem Sep.keep{w w'}:∀ {hs:List HP} {U V:Nat->Prop},Sep w hs U V->(∀ b,U b∨V b->w'.heap[b]?=w.heap[b]?)->Sep w' hs U V:=by
  intro hs
  induction hs with
  | nil=>intro U V h _;exact h
  | cons x hs ih =>
    rintro U V ⟨S,R,k,j,i,g,h3,c,f,e⟩ d;exact⟨S,R,k,j,x.loc _ _ _ _ i fun b a=>d b (a.imp (fun h=>(h3 b).2 (.inl h)) (fun h=>(c b).2 (.inl h))),ih g fun b a=>d b (a.imp (fun h=>(h3 b).2 (.inr h)) (fun h=>(c b).2 (.inr h))),h3,c,f,e⟩
theorem Sep.split{w}:∀ {g j:List HP} {U V:Nat->Prop},Sep w (g++j) U V ->
    ∃ e c d i,Sep w g e c/\Sep w j d i/\(∀ b,U b ↔ e b∨d b)/\(∀ b,V b ↔ c b∨i b)/\(∀ b,e b->¬ d b/\¬ i b)/\∀ b,c b->¬ d b:=by
  intro g
  induction g with
  | nil=>intro j U V h;exact⟨fun _=>False,fun _=>False,U,V,⟨fun _ h=>h,fun _ h=>h⟩,h,A2K,A2K,fun _ h=>h.elim,fun _ h=>h.elim⟩
  | cons x g ih =>
    rintro j U V ⟨S,R,U',V',p,o,h3,n,m,l⟩;obtain⟨e,c,d,i,t,s,f,k,r,q⟩:=ih o;refine⟨fun b=>S b∨e b,fun b=>R b∨c b,d,i,⟨S,R,e,c,p,t,fun _=>Iff.rfl,fun _=>Iff.rfl,fun b a=>?_,fun b a=>?_⟩,s,?_,?_,?_,?_⟩
    ·have:=m b a;rw[f,k] at this;exact⟨fun h=>this.1 (.inl h),this.2.1,fun h=>this.2.2 (.inl h)⟩
    ·have:=l b a;rw[f] at this;exact fun h=>this (.inl h)
    ·intro b;rw[h3,f,or_assoc]
    ·intro b;rw[n,k,or_assoc]
    ·rintro b (a | a)
     ·have:=m b a;rw[f,k] at this;exact⟨fun h=>this.1 (.inr h),fun h=>this.2.2 (.inr h)⟩
     ·exact r b a
    ·rintro b (a | a)
     ·have:=l b a;rw[f] at this;exact fun h=>this (.inr h)
     ·exact q b a
theorem Sep.join{w}:∀ {g k:List HP} {f d a c:Nat->Prop},Sep w g f d->Sep w k a c->(∀ b,f b->¬ a b/\¬ c b)->(∀ b,d b->¬ a b) ->
    Sep w (g++k) (fun b=>f b∨a b) (fun b=>d b∨c b):=by
  intro g
  induction g with
  | nil =>
    rintro k f d a c ⟨q,l⟩ m h3 i;have v:(fun b=>f b∨a b)=a:=by funext b;simp[q b]
    have u:(fun b=>d b∨c b)=c:=by funext b;simp[l b]
    rw[v,u];exact m
  | cons x g ih =>
    rintro k f d a c ⟨S,R,U',V',t,m,h3,i,s,r⟩ l o n;refine⟨S,R,_,_,t,ih m l (fun b h=>o b ((h3 b).2 (.inr h))) (fun b h=>n b ((i b).2 (.inr h))),fun b=>by simp only[h3,or_assoc],fun b=>by simp only[i,or_assoc],fun b hs=>?_,fun b p=>?_⟩
    ·have e:=s b hs;have j:=o b ((h3 b).2 (.inl hs));exact⟨fun h=>h.elim e.1 j.1,e.2.1,fun h=>h.elim e.2.2 j.2⟩
    ·have e:=r b p;have j:=n b ((i b).2 (.inl p));exact fun h=>h.elim e j
theorem Sep.cut{w hs i h U V}(c:hs[i]?=some h)(k:Sep w hs U V) :
    ∃ S R e f,h.p w S R/\Sep w (hs.eraseIdx i) e f/\(∀ b,U b ↔ S b∨e b)/\(∀ b,V b ↔ R b∨f b)/\(∀ b,S b->¬ e b/\¬ R b/\¬ f b)/\∀ b,R b->¬ e b:=by
  induction hs generalizing i U V with
  | nil=>simp at c
  | cons x hs ih =>
    cases i with
    | zero =>
      simp only[A3l,A2a] at c;subst c;exact k
    | succ i =>
      simp only[A3R] at c;obtain⟨S,R,e,f,s,r,h3,q,g,m⟩:=k;obtain⟨y,z,o,n,v,u,d,l,j,t⟩:=ih c r;refine⟨y,z,fun b=>S b∨o b,fun b=>R b∨n b,v,⟨S,R,o,n,s,u,fun _=>Iff.rfl,fun _=>Iff.rfl,fun b a=>?_,fun b a=>?_⟩,?_,?_,?_,?_⟩
      ·have:=g b a;rw[d,l] at this;exact⟨fun h=>this.1 (.inr h),this.2.1,fun h=>this.2.2 (.inr h)⟩
      ·have:=m b a;rw[d] at this;exact fun h=>this (.inr h)
      ·intro b;rw[h3,d];constructor <;> (rintro(h | h | h) <;> simp[h])
      ·intro b;rw[q,l];constructor <;> (rintro(h | h | h) <;> simp[h])
      ·intro b a;refine⟨?_,(j b a).2.1,?_⟩
       ·rintro(h | h)
        ·exact(g b h).1 ((d b).2 (.inl a))
        ·exact(j b a).1 h
       ·rintro(h | h)
        ·exact m b h ((d b).2 (.inl a))
        ·exact(j b a).2.2 h
      ·intro b a;rintro(h | h)
       ·exact(g b h).2.2 ((l b).2 (.inl a))
       ·exact t b a h
theorem Sep.put{w}{hs:List HP}{i:Nat}{h}{h':HP}(f:hs[i]?=some h){S:Nat->Prop}{R:Nat->Prop}{c:Nat->Prop}{e:Nat->Prop}(m:h'.p w S R)(j:Sep w (hs.eraseIdx i) c e)(h3:∀ b,S b->¬ c b/\¬ R b/\¬ e b)(g:∀ b,R b->¬ c b) :
    Sep w (hs.set i h') (fun b=>S b∨c b) (fun b=>R b∨e b):=by
  induction hs generalizing i c e with
  | nil=>simp at f
  | cons x hs ih =>
    cases i with
    | zero=>exact⟨S,R,c,e,m,j,fun _=>Iff.rfl,fun _=>Iff.rfl,h3,g⟩
    | succ i =>
      simp only[A3R] at f;simp only[List.eraseIdx_cons_succ] at j;obtain⟨r,s,U1,V1,q,o,d,l,k,n⟩:=j;have key:=ih f o (fun b a=>⟨fun h=>(h3 b a).1 ((d b).2 (.inr h)),(h3 b a).2.1,fun h=>(h3 b a).2.2 ((l b).2 (.inr h))⟩) (fun b a h=>g b a ((d b).2 (.inr h)));refine⟨r,s,_,_,q,key,fun b=>?_,fun b=>?_,fun b a=>?_,fun b a=>?_⟩
      ·simp only[d];constructor <;> (rintro(h | h | h) <;> simp[h])
      ·simp only[l];constructor <;> (rintro(h | h | h) <;> simp[h])
      ·refine⟨?_,(k b a).2.1,?_⟩
       ·rintro(h | h)
        ·exact(h3 b h).1 ((d b).2 (.inl a))
        ·exact(k b a).1 h
       ·rintro(h | h)
        ·exact g b h ((d b).2 (.inl a))
        ·exact(k b a).2.2 h
      ·rintro(h | h)
       ·exact(h3 b h).2.2 ((l b).2 (.inl a))
       ·exact n b a h
structure Cx (F O:Nat->Prop)(w0 w:World)(hs:List HP):Prop where
  os:w.os=w0.os
  tape:w.tape=w0.tape
  output:w.output=w0.output
  size:w0.heap.size<=w.heap.size
  block:∀ b,b < w0.heap.size->¬ F b->w.heap[b]?=w0.heap[b]?
  fin:∀ b,F b->b < w0.heap.size/\¬ O b
  Vf:∀ b,O b->b < w0.heap.size
  sep:∃ U V,Sep w hs U V/\(∀ b,U b->F b∨(w0.heap.size<=b/\b < w.heap.size))/\∀ b,V b->(O b∨F b)∨(w0.heap.size<=b/\b < w.heap.size)
section
variable {F O:Nat->Prop}{w0 w w':World}{hs:List HP}
theorem Cx.drew(h:Cx F O w0 w hs)(m:Nat):Cx F O w0 (w.drewN m) hs:=by
  obtain⟨U,V,b,a,h3⟩:=h.sep;exact⟨h.os,h.tape,h.output,h.size,h.block,h.fin,h.Vf,U,V,Sep.keep (w:=w) (w':=w.drewN m) b fun _ _=>rfl,a,h3⟩
theorem Cx.drop(h:Cx F O w0 w hs)(i:Nat):Cx F O w0 w (hs.eraseIdx i):=by
  cases hi:hs[i]? with
  | none =>
    have:hs.eraseIdx i=hs:=List.eraseIdx_of_length_le (by simpa using hi);rw[this];exact h
  | some x =>
    obtain⟨U,V,d,c,h3⟩:=h.sep;obtain⟨S,R,k,j,e1,g,f,e,e5,e6⟩:=Sep.cut hi d;exact⟨h.os,h.tape,h.output,h.size,h.block,h.fin,h.Vf,k,j,g,fun b a=>c b ((f b).2 (.inr a)),fun b a=>h3 b ((e b).2 (.inr a))⟩
theorem Cx.get{h}(k:Cx F O w0 w hs)(i:Nat)(a:hs[i]?=some h):∃ S R,h.p w S R:=by
  obtain⟨U,V,b,h2,h3⟩:=k.sep;obtain⟨S,R,U',V',c,_⟩:=Sep.cut a b;exact⟨S,R,c⟩
theorem Cx.upd{h:HP}{h':HP}(k:Cx F O w0 w hs)(i:Nat)(y:hs[i]?=some h)(row:A03)(m:w.grownBy w' row)(l:∀ S R,h.p w S R->(∀ b,S b->¬ R b)->(∀ b,S b∨R b->b < w.heap.size)->(∀ g,row=some g->S g)/\∃ x t,h'.p w' x t/\(∀ b,x b->b < w'.heap.size/\¬ t b/\(S b∨w.heap.size<=b))/\∀ b,t b->b < w'.heap.size/\(R b∨S b∨w.heap.size<=b)):Cx F O w0 w' (hs.set i h'):=by
  obtain⟨U,V,D,r,h3⟩:=k.sep;obtain⟨S,R,C,B,I,H,n,s,o,G⟩:=Sep.cut y D;have u:∀ b,U b->b < w.heap.size:=fun b a=>(r b a).elim (fun h=>A0c (k.fin b h).1 k.size) (·.2);have hV:∀ b,V b->b < w.heap.size:=fun b a=>(h3 b a).elim (fun h=>A0c (h.elim (k.Vf b) fun h=>(k.fin b h).1) k.size) (·.2);obtain⟨q,x,t,E,A,z⟩:=l S R I (fun b a=>(o b a).2.1) (fun b a=>a.elim (fun h=>u b ((n b).2 (.inl h))) (fun h=>hV b ((s b).2 (.inl h))));have d:∀ b,b < w.heap.size->¬ S b->w'.heap[b]?=w.heap[b]?:=fun b a hn=>m.block b a fun e=>hn (q b e.symm);have v:Sep w' (hs.eraseIdx i) C B:=Sep.keep H fun b a=>by
    rcases a with a | a
    ·exact d b (u b ((n b).2 (.inr a))) fun hs=>(o b hs).1 a
    ·exact d b (hV b ((s b).2 (.inr a))) fun hs=>(o b hs).2.2 a
  have j:∀ b,w.heap.size<=b->¬ C b/\¬ B b:=fun b a=>⟨fun h=>by have:=u b ((n b).2 (.inr h));omega,fun h=>by have:=hV b ((s b).2 (.inr h));omega⟩
  refine⟨m.os.trans k.os,m.tape.trans k.tape,m.output.trans k.output,A0a k.size m.size,fun b a hn=>?_,k.fin,k.Vf,_,_,Sep.put y E v (fun b a=>?_) (fun b a=>?_),?_,?_⟩
  ·rw[d b (A0c a k.size) fun hs=>?_]
   ·exact k.block b a hn
   ·rcases r b ((n b).2 (.inl hs)) with h | h
    ·exact hn h
    ·omega
  ·obtain⟨g1,c,f⟩:=A b a;rcases f with f | f
   ·exact⟨(o b f).1,c,(o b f).2.2⟩
   ·exact⟨(j b f).1,c,(j b f).2⟩
  ·obtain⟨g1,c⟩:=z b a;rcases c with c | c | c
   ·exact G b c
   ·exact(o b c).1
   ·exact(j b c).1
  ·rintro b (a | a)
   ·obtain⟨g1,c,f⟩:=A b a;rcases f with f | f
    ·rcases r b ((n b).2 (.inl f)) with h | h
     ·exact .inl h
     ·exact .inr ⟨h.1,g1⟩
    ·exact .inr ⟨A0a k.size f,g1⟩
   ·rcases r b ((n b).2 (.inr a)) with h | h
    ·exact .inl h
    ·exact .inr ⟨h.1,A0c h.2 m.size⟩
  ·rintro b (a | a)
   ·obtain⟨g1,c⟩:=z b a;rcases c with c | c | c
    ·rcases h3 b ((s b).2 (.inl c)) with h | h
     ·exact .inl h
     ·exact .inr ⟨h.1,g1⟩
    ·rcases r b ((n b).2 (.inl c)) with h | h
     ·exact .inl (.inr h)
     ·exact .inr ⟨h.1,g1⟩
    ·exact .inr ⟨A0a k.size c,g1⟩
   ·rcases h3 b ((s b).2 (.inr a)) with h | h
    ·exact .inl h
    ·exact .inr ⟨h.1,A0c h.2 m.size⟩
theorem Cx.enter{ins rest}(k:Cx F O w0 w (ins++rest)):∃ F1 O1:Nat->Prop,Cx F1 O1 w w ins/\(∀ b,O b->O1 b)/\(∀ (i:Nat) (h:HP),rest[i]?=some h->∃ S R,h.p w S R/\(∀ b,R b->O1 b)/\∀ b,S b->¬ F1 b)/\(∀ b,F1 b->F b∨w0.heap.size<=b) /\
    ∀ w' c,Cx F1 O1 w w' c->Cx F O w0 w' (c++rest):=by
  obtain⟨U,V,C,g,h3⟩:=k.sep;obtain⟨A,z,J,y,x,s,e,j,m,H⟩:=Sep.split C;have o:∀ b,U b->b < w.heap.size:=fun b a=>(g b a).elim (fun h=>A0c (k.fin b h).1 k.size) (·.2);have hV:∀ b,V b->b < w.heap.size:=fun b a=>(h3 b a).elim (fun h=>A0c (h.elim (k.Vf b) fun h=>(k.fin b h).1) k.size) (·.2);have q:∀ b,O b->b < w.heap.size:=fun b a=>A0c (k.Vf b a) k.size;have n:∀ b,U b->¬ O b:=fun b a t=>(g b a).elim (fun h=>(k.fin b h).2 t) (fun h=>by have:=k.Vf b t;omega);refine⟨A,fun b=>O b∨z b∨y b,⟨rfl,rfl,rfl,A2f _,fun _ _ _=>rfl,fun b a=>⟨o b ((e b).2 (.inl a)),?_⟩,?_,A,z,x,fun b a=>.inl a,fun b a=>.inl (.inl (.inr (.inl a)))⟩,fun b a=>.inl a,?_,fun b a=>(g b ((e b).2 (.inl a))).imp id (·.1),?_⟩
  ·rintro(h | h | h)
   ·exact n b ((e b).2 (.inl a)) h
   ·exact Sep.apart x b a h
   ·exact(m b a).2 h
  ·rintro b (h | h | h)
   ·exact q b h
   ·exact hV b ((j b).2 (.inl h))
   ·exact hV b ((j b).2 (.inr h))
  ·intro i h B;obtain⟨S,R,K,I,G,f2,E,D,f5,f6⟩:=Sep.cut B s;exact⟨S,R,G,fun b a=>.inr (.inr ((D b).2 (.inl a))),fun b a l=>(m b l).1 ((E b).2 (.inl a))⟩
  ·intro w' c d;obtain⟨K,I,g1,v,u⟩:=d.sep;have r:Sep w' rest J y:=Sep.keep s fun b a=>by
     refine d.block b ?_ ?_
     ·exact a.elim (fun h=>o b ((e b).2 (.inr h))) (fun h=>hV b ((j b).2 (.inr h)))
     ·exact fun l=>a.elim (fun h=>(m b l).1 h) (fun h=>(m b l).2 h)
   refine⟨d.os.trans k.os,d.tape.trans k.tape,d.output.trans k.output,A0a k.size d.size,fun b a hn=>?_,k.fin,k.Vf,_,_,Sep.join g1 r (fun b a=>?_) (fun b a=>?_),?_,?_⟩
   ·rw[d.block b (A0c a k.size) fun l=>?_]
    ·exact k.block b a hn
    ·rcases g b ((e b).2 (.inl l)) with h | h
     ·exact hn h
     ·omega
   ·rcases v b a with h | h
    ·exact m b h
    ·exact⟨fun h'=>by have:=o b ((e b).2 (.inr h'));omega,fun h'=>by have:=hV b ((j b).2 (.inr h'));omega⟩
   ·intro h';rcases u b a with(h | h) | h
    ·rcases h with h | h | h
     ·exact n b ((e b).2 (.inr h')) h
     ·exact H b h h'
     ·exact Sep.apart s b h' h
    ·exact(m b h).1 h'
    ·have:=o b ((e b).2 (.inr h'));omega
   ·rintro b (a | a)
    ·rcases v b a with h | h
     ·rcases g b ((e b).2 (.inl h)) with h' | h'
      ·exact .inl h'
      ·exact .inr ⟨h'.1,A0c h'.2 d.size⟩
     ·exact .inr ⟨A0a k.size h.1,h.2⟩
    ·rcases g b ((e b).2 (.inr a)) with h' | h'
     ·exact .inl h'
     ·exact .inr ⟨h'.1,A0c h'.2 d.size⟩
   ·have f:∀ b,V b->(O b∨F b)∨(w0.heap.size<=b/\b < w'.heap.size):=fun b a=>(h3 b a).imp id fun h=>⟨h.1,A0c h.2 d.size⟩
    rintro b (a | a)
    ·rcases u b a with(h | h) | h
     ·rcases h with h | h | h
      ·exact .inl (.inl h)
      ·exact f b ((j b).2 (.inl h))
      ·exact f b ((j b).2 (.inr h))
     ·rcases g b ((e b).2 (.inl h)) with h' | h'
      ·exact .inl (.inr h')
      ·exact .inr ⟨h'.1,A0c h'.2 d.size⟩
     ·exact .inr ⟨A0a k.size h.1,h.2⟩
    ·exact f b ((j b).2 (.inr a))
theorem Cx.XT{h h'}(k:Cx F O w0 w hs)(i:Nat)(l:hs[i]?=some h)(row:A03)(m:w.grownBy w' row)(a:∀ S R,h.p w S R->(∀ b,S b->b < w.heap.size)->(∀ g,row=some g->S g)/\∃ d e,h'.p w' d e/\(∀ b,d b->b < w'.heap.size/\(S b∨w.heap.size<=b))/\∀ b,¬ e b):Cx F O w0 w' (hs.set i h') :=
  k.upd i l row m fun S R hp hd f=>by
    obtain⟨o,d,e,n,h3,j⟩:=a S R hp fun b c=>f b (.inl c);exact⟨o,d,e,n,fun b c=>⟨(h3 b c).1,j b,(h3 b c).2⟩,fun b c=>(j b c).elim⟩
def N0:Nat->Prop:=fun _=>False
theorem Cx.refl(w:World):Cx N0 N0 w w []:=⟨rfl,rfl,rfl,A2f _,fun _ _ _=>rfl,fun _ h=>h.elim,fun _ h=>h.elim,N0,N0,⟨fun _ h=>h,fun _ h=>h⟩,fun _ h=>h.elim,fun _ h=>h.elim⟩
theorem Cx.below{w0 w O hs}(k:Cx N0 O w0 w hs):Below w0.heap.size w0 w:=⟨k.os,k.tape,k.output,k.size,fun b a=>k.block b a fun h=>h⟩
theorem Cx.call{i}(k:Cx F O w0 w hs)(c:Cx N0 N0 w w' i):Cx F O w0 w' (hs++i):=by
  obtain⟨U,V,j,g,h3⟩:=k.sep;obtain⟨p,o,g1,m,l⟩:=c.sep;have e:∀ b,U b->b < w.heap.size:=fun b a=>(g b a).elim (fun h=>A0c (k.fin b h).1 k.size) (·.2);have hV:∀ b,V b->b < w.heap.size:=fun b a=>(h3 b a).elim (fun h=>A0c (h.elim (k.Vf b) fun h=>(k.fin b h).1) k.size) (·.2);have d:∀ b,p b->w.heap.size<=b/\b < w'.heap.size:=fun b a=>(m b a).elim (fun h=>h.elim) id;have f:∀ b,o b->w.heap.size<=b/\b < w'.heap.size:=fun b a=>(l b a).elim (fun h=>h.elim (fun h=>h.elim) (fun h=>h.elim)) id;have n:Sep w' hs U V:=Sep.keep j fun b a=>c.block b (a.elim (e b) (hV b)) fun h=>h;refine⟨c.os.trans k.os,c.tape.trans k.tape,c.output.trans k.output,A0a k.size c.size,fun b a hn=>?_,k.fin,k.Vf,_,_,Sep.join n g1 (fun b a=>⟨fun h=>?_,fun h=>?_⟩) (fun b a h=>?_),?_,?_⟩
  ·rw[c.block b (A0c a k.size) fun h=>h];exact k.block b a hn
  ·have:=e b a;have:=d b h;omega
  ·have:=e b a;have:=f b h;omega
  ·have:=hV b a;have:=d b h;omega
  ·rintro b (a | a)
   ·exact(g b a).imp id fun h=>⟨h.1,A0c h.2 c.size⟩
   ·exact .inr ⟨A0a k.size (d b a).1,(d b a).2⟩
  ·rintro b (a | a)
   ·exact(h3 b a).imp id fun h=>⟨h.1,A0c h.2 c.size⟩
   ·exact .inr ⟨A0a k.size (f b a).1,(f b a).2⟩
end
end
section
open Go.RowKit
set_option linter.unusedSimpArgs false
set_option linter.unusedVariables false
variable {α β:Type}
structure Enc (α:Type) where
  sz:Nat
  f:α->List Value
  len:∀ x,(f x).length=sz
  one:∀ x,∀ v ∈ f x,v.oneCell'=true
def Enc.all (E:Enc α):List α->List Value
  | []=>[]
  | x::xs=>E.f x++E.all xs
theorem Enc.g_(E:Enc α)(xs:List α):(E.all xs).length=xs.length*E.sz:=by
  induction xs with
  | nil=>simp[Enc.all]
  | cons x xs ih=>simp only[Enc.all,Pi,E.len,ih,bi,A3Y];omega
theorem Enc.all_append(E:Enc α)(xs ys:List α):E.all (xs++ys)=E.all xs++E.all ys:=by
  induction xs with
  | nil=>rfl
  | cons x xs ih=>simp[Enc.all,ih,lw]
theorem Enc.MI(E:Enc α)(xs:List α):∀ v ∈ E.all xs,v.oneCell'=true:=by
  induction xs with
  | nil=>intro v a;cases a
  | cons x xs ih =>
    intro v a;simp only[Enc.all,A3P] at a;exact a.elim (E.one x v) (ih v)
theorem Enc.G6(E:Enc α)(xs:List α)(j:Nat):(E.all xs).take (j*E.sz)=E.all (xs.take j):=by
  by_cases h:j<=xs.length
  ·have e:E.all xs=E.all (xs.take j)++E.all (xs.drop j):=by rw[<- Enc.all_append,A32]
   rw[e];have:(E.all (xs.take j)).length=j*E.sz:=by rw[Enc.g_,A0T,A35 h]
   rw[<- this,List.take_left]
  ·rw[A2i (l:=xs) Y,A2i];rw[Enc.g_];exact A0k _ Y
theorem Enc.Ri(E:Enc α)(xs:List α)(j:Nat):(E.all xs).drop (j*E.sz)=E.all (xs.drop j):=by
  by_cases h:j<=xs.length
  ·have e:E.all xs=E.all (xs.take j)++E.all (xs.drop j):=by rw[<- Enc.all_append,A32]
   rw[e];have:(E.all (xs.take j)).length=j*E.sz:=by rw[Enc.g_,A0T,A35 h]
   rw[<- this,List.drop_left]
  ·rw[A3T (by omega:xs.length<=j),A3T]
   ·rfl
   ·rw[Enc.g_];exact A0k _ Y
theorem Enc.Ye(E:Enc α){xs:List α}{j}{x:α}(h:xs[j]?=some x):E.all xs=E.all (xs.take j)++E.f x++E.all (xs.drop (j+1)):=by
  have a:=(A0e.1 h).1;have e:xs=xs.take j++(x::xs.drop (j+1)):=by
    have:=A32 j xs;rw[A0Q a,(A0e.1 h).2] at this;exact this.symm
  rw[show E.all xs=E.all (xs.take j++(x::xs.drop (j+1))) from by rw[<- e],Enc.all_append];simp[Enc.all,lw]
theorem Enc.YY(E:Enc α){xs:List α}{j}{x:α}(h:xs[j]?=some x):((E.all xs).drop (j*E.sz)).take E.sz=E.f x:=by
  rw[Enc.Ri];have a:=(A0e.1 h).1;rw[A0Q a,(A0e.1 h).2];simp only[Enc.all];have:=E.len x;rw[<- this,List.take_left]
theorem Enc.all_cell(E:Enc α){xs:List α}{j}{x:α}(h:xs[j]?=some x){k v}(a:(E.f x)[k]?=some v):(E.all xs)[j*E.sz+k]?=some v:=by
  have c:=E.YY h;have b:k < E.sz:=by rw[<- E.len x];exact(A0e.1 a).1
  rw[<- c,List.getElem?_take_of_lt b,A3Q] at a;exact a
def pat (l:List Value)(k:Nat)(vs:List Value):List Value:=l.take k++vs++l.drop (k+vs.length)
theorem VW{l vs k}(h:k+vs.length<=l.length):(pat l k vs).length=l.length:=by
  simp only[pat,Pi,A0T,A0m];omega
theorem YZ(a l b:List Value)(k:Nat)(vs:List Value)(h:k+vs.length<=l.length):pat (a++l++b) (a.length+k) vs=a++pat l k vs++b:=by
  unfold pat;rw[lw a l b,A48,A2i Y,List.drop_append,A3T Y];rw[show a.length+k - a.length=k from by omega,show a.length+k+vs.length - a.length=k+vs.length from by omega];rw[List.take_append_of_le_length Y,List.drop_append_of_le_length h];simp[lw]
theorem Enc.Y0(E:Enc α){xs:List α}{j}{x:α}{y:α}(h:xs[j]?=some x){k vs}(hy:E.f y=pat (E.f x) k vs)(b:k+vs.length<=E.sz):E.all (xs.set j y)=pat (E.all xs) (j*E.sz+k) vs:=by
  have a:=(A0e.1 h).1;rw[E.Ye h];have hl:(E.all (xs.take j)).length=j*E.sz:=by rw[Enc.g_,A0T,A35 (Nat.le_of_lt a)]
  rw[<- hl,YZ _ _ _ _ _ (by rw[E.len];exact b),<-hy];have c:(xs.set j y)[j]?=some y:=by simp[a]
  rw[E.Ye c];rw[List.take_set,List.set_eq_of_length_le A2L,List.drop_set_of_lt Y]
def e8:Enc UInt8:=⟨1,fun x=>[bV x],fun _=>rfl,fun x v h=>by rw[A0N.1 h];rfl⟩
def e16:Enc UInt16:=⟨1,fun x=>[.int .u16 x.toNat],fun _=>rfl,fun x v h=>by rw[A0N.1 h];rfl⟩
def e32:Enc UInt32:=⟨1,fun x=>[.int .u32 x.toNat],fun _=>rfl,fun x v h=>by rw[A0N.1 h];rfl⟩
def e64:Enc UInt64:=⟨1,fun x=>[.int .u64 x.toNat],fun _=>rfl,fun x v h=>by rw[A0N.1 h];rfl⟩
def eI:Enc Int:=⟨1,fun x=>[.int .i64 x],fun _=>rfl,fun x v h=>by rw[A0N.1 h];rfl⟩
def eS:Enc (AC):=⟨1,fun x=>[.string ⟨⟨x⟩⟩],fun _=>rfl,fun x v h=>by rw[A0N.1 h];rfl⟩
def eB:Enc Bool:=⟨1,fun x=>[.bool x],fun _=>rfl,fun x v h=>by rw[A0N.1 h];rfl⟩
def eP (E:Enc α)(F:Enc β):Enc (α×β):=⟨E.sz+F.sz,fun x=>E.f x.1++F.f x.2,fun x=>by simp[E.len,F.len],fun x v h=>by
  simp only[A3P] at h;exact h.elim (E.one _ v) (F.one _ v)⟩
def eV (E:Enc α)(n:Nat):Enc (Vec α n):=⟨n*E.sz,fun x=>E.all x.l,fun x=>by rw[E.g_,x.h],fun x=>E.MI x.l⟩
def Enc.vec (E:Enc α){n:Nat}(x:Vec α n):Cells (n*E.sz):=⟨E.all x.l,by rw[E.g_,x.h],E.MI x.l⟩
theorem KT(xs:AC):e8.all xs=xs.map bV:=by
  induction xs with
  | nil=>rfl
  | cons x xs ih=>simp[Enc.all,e8,ih] ;exact ih
def Pt (A:EQ)(off:Nat)(p:EQ):Prop:=A.isSome=true->p=fa A off
theorem MJ(a:Addr)(i j:Nat):(a.add i).add j=a.add (i+j):=by
  unfold Addr.add;by_cases c:i=0 <;> by_cases b:j=0 <;> simp[c,b,Nat.add_assoc]
theorem Pt.refl(A:EQ):Pt A 0 A:=fun h=>by
  cases A with
  | none=>cases h
  | some a=>simp[fa,Addr.add]
theorem Pt.ix{A p off}(h:Pt A off p)(i:Int)(s:Nat):Pt A (off+i.toNat*s) (jA p i s):=fun b=>by
  rw[h b];cases A with
  | none=>cases b
  | some a=>simp[jA,fa,MJ]
theorem Pt.fa{A p off}(h:Pt A off p)(k:Nat):Pt A (off+k) (fa p k):=fun b=>by
  rw[h b];cases A with
  | none=>cases b
  | some a=>simp[Sx.fa,MJ]
theorem Rd.cellP{w A p off cs v}(h:Rd w A cs)(hp:Pt A off p)(b:cs[off]?=some v):∃ a,p=some a/\w.cell? a=some v:=by
  obtain⟨a,rfl⟩:=h.1 (by intro e;rw[e] at b;cases b);exact⟨a.add off,hp rfl,h.2 a off v rfl b⟩
theorem Rd.partP{w A p off n cs}(h:Rd w A cs)(hp:Pt A off p)(hl:off+n<=cs.length)(hn:0 < n):∃ a,p=some a/\Rd w (some a) ((cs.drop off).take n):=by
  obtain⟨a,rfl⟩:=h.1 (by intro e;rw[e] at hl;simp at hl;omega);refine⟨a.add off,hp rfl,fun _=>⟨_,rfl⟩,fun b j u d c=>?_⟩;cases d;rw[List.getElem?_take] at c;split at c
  ·rw[A3Q] at c;rw[MJ];exact h.2 a _ u rfl c
  ·cases c
theorem Rd.isSome{w}{A:EQ}{cs}{off:Nat}{v}(h:Rd w A cs)(b:cs[off]?=some v):A.isSome=true:=by
  obtain⟨a,rfl⟩:=h.1 (by intro e;rw[e] at b;cases b);rfl
theorem oh{E:Enc α}{w}{A:EQ}{xs:List α}{i:Int}{x:α}(h:Rd w A (E.all xs))(b:0 < E.sz)(h0:0<=i)(hx:xs[i.toNat]?=some x):A.isSome=true:=by
  obtain⟨a,rfl⟩:=h.1 (by
    intro e;have:=A3s List.length e;rw[Enc.g_] at this;have hlt:=(A0e.1 hx).1;have:0 < xs.length*E.sz:=Nat.mul_pos Y b
    simp_all)
  rfl
end
section
open Go.RowKit
set_option linter.unusedSimpArgs false
set_option linter.unusedVariables false
variable {α β:Type}
def NF (a:Nat×Nat)(n:Nat):Prop:=a.2=a.1∨n<=a.1
def Rw (w:World)(g:Nat)(cur:Array Value)(t:TypeId):Prop:=∃ a,w.heap[g]?=some (.cells cur t a)/\NF a cur.size
theorem Rw.lt{w g cur}{t:TypeId}(h:Rw w g cur t):g < w.heap.size:=by
  obtain⟨fr,h,_⟩:=h;exact(Array.getElem?_eq_some_iff.1 h).1
theorem Rw.keep{w w' g cur}{t:TypeId}(h:Rw w g cur t)(a:w'.heap[g]?=w.heap[g]?):Rw w' g cur t:=by
  obtain⟨c,h,b⟩:=h;exact⟨c,by rw[a];exact h,b⟩
theorem Rw.inj{w g cur a}{t b:TypeId}(h:Rw w g cur t)(h':Rw w g a b):cur=a/\t=b:=by
  obtain⟨fr,h,_⟩:=h;obtain⟨fr',h',_⟩:=h';rw[h] at h';simp only[A2a,Obj.cells.injEq] at h';exact⟨h'.1,h'.2.1⟩
theorem Rw.cell{w g cur}{t:TypeId}(h:Rw w g cur t)(j:Nat):w.cell? ⟨g,j,none⟩=cur[j]?:=by
  obtain⟨a,h,_⟩:=h;exact cell_of_row w g j cur t a h
theorem Rw.new(w:World)(cur:Array Value)(t:TypeId):Rw (w.alloc (.cells cur t)) w.heap.size cur t:=⟨(0,0),heap_alloc_new w _,.inl rfl⟩
theorem Rw.set{w g cur cs}{t:TypeId}(h:Rw w g cur t)(hs:cs.size=cur.size):Rw (w.setRow g cs) g cs t:=by
  obtain⟨a,h,b⟩:=h;exact⟨a,setRow_heap w g cur cs t a h,by rw[hs];exact b⟩
theorem vV(P:Program)(g o:Nat)(t:TypeId):∀ (vs:List Value) (i:Nat) (cur:Array Value) (w:World),Rw w g cur t->o+i+vs.length<=cur.size->(∀ v ∈ vs,v.oneCell'=true) ->
    (storeCells ⟨g,o,none⟩ vs i).run P w=.ok () (w.setRow g (cur.toList.take (o+i)++vs++cur.toList.drop (o+i+vs.length)).toArray)
  | [],i,cur,w,a,_,_=>by
    simp only[storeCells,A2n,A0L,A3S,A32,Array.toArray_toList];obtain⟨c,a,_⟩:=a;rw[setRow_self w g cur t c a];rfl
  | v::rest,i,cur,w,a,hl,h1=>by
    have l:o+i < cur.size:=by simp at hl;omega
    have f:(⟨g,o,none⟩:Addr).add i=⟨g,o+i,none⟩:=by unfold Addr.add;split <;> simp_all
    obtain⟨c,a,hn⟩:=a;have b:w.cell? ⟨g,o+i,none⟩=some cur[o+i]:=by simp[World.cell?,a,l]
    have d:w.frozen? ⟨g,o+i,none⟩=false:=by
      simp only[World.frozen?,a,A3G,A3u];rcases hn with hn | hn
      ·by_cases h:c.1<=o+i
       ·exact .inr Y
       ·exact .inl h
      ·exact .inl Y
    have j:(store ((⟨g,o,none⟩:Addr).add i) v).run P w=.ok () (w.setRow g (cur.setIfInBounds (o+i) v)):=by
      rw[f,run_store P w _ v _ (h1 v A2K),b];simp[d,setCell_eq_setRow w g (o+i) cur t c v a]
    have k:=vV P g o t rest (i+1) (cur.setIfInBounds (o+i) v) (w.setRow g (cur.setIfInBounds (o+i) v)) ⟨c,setRow_heap w g cur _ t c a,by simpa using hn⟩ (by simp at hl ⊢;omega) (fun x hx=>h1 x (by simp[hx]));simp only[storeCells,A2e,j,A2b,k,setRow_setRow];congr 3;have e:=list_seg_step cur.toList (o+i) v rest (by simp at hl ⊢;omega);simpa [Array.toList_setIfInBounds,Nat.add_assoc] using e
def Ow (E:Enc α)(A:EQ)(n c:Nat)(xs:List α):HP where
  p w S R:=xs.length=n/\((A=none/\n=0/\c=0)∨∃ g t cur,A=some ⟨g,0,none⟩/\Rw w g cur t/\n<=c/\c<=maxLen/\c*E.sz<=cur.size/\cur.toList.take (n*E.sz)=E.all xs/\S g)
  loc:=by
    rintro w w' S R ⟨e,h⟩ a;refine⟨e,h.imp id ?_⟩;rintro⟨g,t,cur,d,b,h3⟩;exact⟨g,t,cur,d,b.keep (a g (.inl h3.2.2.2.2)),h3⟩
def Bx (t:TypeId)(g:Nat)(ys:List SV):HP where
  p w S R:=Rw w g ⟨SV.cl ys⟩ t/\S g
  loc:=by
    rintro w w' S R ⟨c,a⟩ b;exact⟨c.keep (b g (.inl a)),a⟩
structure Win where
  g:Nat
  t:TypeId
  pre:List Value
  post:List Value
def Mw (E:Enc α)(A:EQ)(n:Nat)(xs:List α)(G:Win):HP where
  p w S R:=xs.length=n/\((A=none/\n=0)∨(A=some ⟨G.g,G.pre.length,none⟩/\Rw w G.g ⟨G.pre++E.all xs++G.post⟩ G.t/\S G.g))
  loc:=by
    rintro w w' S R ⟨d,h⟩ a;refine⟨d,h.imp id ?_⟩;rintro⟨c,b,h3⟩;exact⟨c,b.keep (a G.g (.inl h3)),h3⟩
theorem Ow.rd'{E:Enc α}{A n c}{xs:List α}{w S R}(h:(Ow E A n c xs).p w S R):Rd w A (E.all xs):=by
  obtain⟨i,h⟩:=h;rcases h with⟨_,hn,_⟩ | ⟨g,t,cur,rfl,f,h3,h4,h5,e,h7⟩
  ·have:xs=[]:=A2y (i.trans hn);subst this;exact⟨fun h=>absurd rfl h,fun _ j u _ b=>by simp[Enc.all] at b⟩
  ·refine⟨fun _=>⟨_,rfl⟩,fun a j u d b=>?_⟩;cases d;have k:(⟨g,0,none⟩:Addr).add j=⟨g,j,none⟩:=by unfold Addr.add;split <;> simp_all
   rw[k,f.cell j,<-Array.getElem?_toList];rw[<- e,List.getElem?_take] at b;split at b
   ·exact b
   ·cases b
section
variable {F O:Nat->Prop}{w0 w w':World}{hs:List HP}
theorem Cx.len{E:Enc α}{A n c}{xs:List α}(k:Cx F O w0 w hs)(i:Nat)(a:hs[i]?=some (Ow E A n c xs)):xs.length=n:=by
  obtain⟨S,R,h⟩:=k.get i a;exact h.1
theorem Cx.rd{E:Enc α}{A n c}{xs:List α}(k:Cx F O w0 w hs)(i:Nat)(a:hs[i]?=some (Ow E A n c xs)):Rd w A (E.all xs):=by
  obtain⟨S,R,h⟩:=k.get i a;exact Ow.rd' h
theorem Cx.yH{E:Enc α}{A n c}{xs:List α}(k:Cx F O w0 w hs)(i:Nat)(a:hs[i]?=some (Ow E A n c xs)):n<=c:=by
  obtain⟨S,R,h⟩:=k.get i a;rcases h.2 with⟨_,h1,h2⟩ | ⟨g,t,cur,_,_,h3,_⟩ <;> omega
theorem Cx.mlen{E:Enc α}{A n G}{xs:List α}(k:Cx F O w0 w hs)(i:Nat)(a:hs[i]?=some (Mw E A n xs G)):xs.length=n:=by
  obtain⟨S,R,h⟩:=k.get i a;exact h.1
theorem Cx.mrd{E:Enc α}{A n G}{xs:List α}(k:Cx F O w0 w hs)(i:Nat)(c:hs[i]?=some (Mw E A n xs G)):Rd w A (E.all xs):=by
  obtain⟨S,R,f,h⟩:=k.get i c;rcases h with⟨_,hn⟩ | ⟨rfl,e,h3⟩
  ·have:xs=[]:=A2y (f.trans hn);subst this;exact⟨fun h=>absurd rfl h,fun _ j u _ b=>by simp[Enc.all] at b⟩
  ·refine⟨fun _=>⟨_,rfl⟩,fun a j u d b=>?_⟩;cases d;have l:(⟨G.g,G.pre.length,none⟩:Addr).add j=⟨G.g,G.pre.length+j,none⟩:=by unfold Addr.add;split <;> simp_all
   rw[l,e.cell];have hj:=(A0e.1 b).1;simp only[List.getElem?_toArray,lw];rw[A3c Y,A3M Y];rw[show G.pre.length+j - G.pre.length=j from by omega];exact b
theorem Cx.bxh{t:TypeId}{g ys}(k:Cx F O w0 w hs)(i:Nat)(a:hs[i]?=some (Bx t g ys)):Rw w g ⟨SV.cl ys⟩ t:=by
  obtain⟨S,R,h⟩:=k.get i a;exact h.1
theorem Cx.F7{t:TypeId}{g ys}(k:Cx F O w0 w hs)(i:Nat)(c:hs[i]?=some (Bx t g ys)):Rd w (some ⟨g,0,none⟩) (SV.cl ys):=by
  refine⟨fun _=>⟨_,rfl⟩,fun a j u d b=>?_⟩;cases d;have e:(⟨g,0,none⟩:Addr).add j=⟨g,j,none⟩:=by unfold Addr.add;split <;> simp_all
  rw[e,(k.bxh i c).cell j];simpa using b
def Ro (F:Nat->Prop)(w:World)(A:EQ)(cs:List Value):Prop:=Rd w A cs/\(cs≠[]->∀ a,A=some a->¬ F a.block)
theorem Jq(a:Addr)(n:Nat):(a.add n).block=a.block:=by
  unfold Addr.add;split <;> rfl
theorem Ro.cx{A cs}(h:Ro F w0 A cs)(k:Cx F O w0 w hs):Rd w A cs :=
  ⟨h.1.1,fun a j u c b=>by
    have d:=h.1.2 a j u c b;have f:(a.add j).block < w0.heap.size:=World.block_lt_of_cell? w0 _ d;have g:=k.block _ f (by rw[Jq];exact h.2 (fun e=>by rw[e] at b;cases b) a c);rw[World.cell?_of_block g];exact d⟩
theorem Ro.nil {A:EQ}:Ro F w none []:=⟨⟨fun h=>absurd rfl h,fun _ _ _ h=>by cases h⟩,fun _ _ h=>by cases h⟩
theorem Ro.n0{A cs}(h:Rd w A cs):Ro N0 w A cs:=⟨h,fun _ _ _ h=>h⟩
theorem Cx.sub{ι:Type}{h}{h':ι->HP}(k:Cx F O w0 w hs)(i:Nat)(hi:hs[i]?=some h)(he:∀ S R,h.p w S R->∃ x,(h' x).p w S R):∃ x,Cx F O w0 w (hs.set i (h' x)):=by
  obtain⟨U,V,h1,h2,h3⟩:=k.sep;obtain⟨S,R,U',V',e1,e2,e3,e4,e5,e6⟩:=Sep.cut hi h1;obtain⟨x,hx⟩:=he S R e1;refine⟨x,k.os,k.tape,k.output,k.size,k.block,k.fin,k.Vf,_,_,Sep.put hi hx e2 e5 e6,fun b hb=>h2 b ((e3 b).2 hb),fun b hb=>h3 b ((e4 b).2 hb)⟩
theorem Cx.as{h h'}(k:Cx F O w0 w hs)(i:Nat)(b:hs[i]?=some h)(c:∀ S R,h.p w S R->h'.p w S R):Cx F O w0 w (hs.set i h'):=by
  obtain⟨_,a⟩:=k.sub (ι:=Unit) (h':=fun _=>h') i b (fun S R hp=>⟨(),c S R hp⟩);exact a
theorem Cx.pre{E:Enc α}{A n c}{xs:List α}(k:Cx F O w0 w hs)(i:Nat)(f:hs[i]?=some (Ow E A n c xs))(m d:Nat)(ys:List α)(hm:m<=n)(a:m<=d)(j:d<=c)(hy:ys=xs.take m):Cx F O w0 w (hs.set i (Ow E A m d ys)):=by
  refine k.as i f fun S R h=>?_;subst hy;obtain⟨h0,h⟩:=h;refine⟨by rw[A0T];omega,?_⟩;rcases h with⟨b,e,h3⟩ | ⟨g,t,cur,b,e,h3,h4,p,o,l⟩
  ·exact .inl ⟨b,Y,Y⟩
  ·refine .inr ⟨g,t,cur,b,e,a,Y,A0a (A0k _ j) p,?_,l⟩;rw[<- Enc.G6,<-o,List.take_take,A35 (A0k _ hm)]
theorem Sep.snoc{h}(hp:h.p w (fun _=>False) (fun _=>False)){U V}(a:Sep w hs U V):Sep w (hs++[h]) U V:=by
  have d:Sep w [h] (fun _=>False) (fun _=>False):=⟨_,_,fun _=>False,fun _=>False,hp,⟨fun _ h=>h,fun _ h=>h⟩,A2K,A2K,A2K,A2K⟩
  have c:=Sep.join a d (fun b _=>⟨fun h=>h,fun h=>h⟩) (fun b _ h=>h);have f:(fun b=>U b∨False)=U:=by funext b;simp
  have e:(fun b=>V b∨False)=V:=by funext b;simp
  rwa [f,e] at c
theorem Cx.nil(k:Cx F O w0 w hs)(E:Enc α):Cx F O w0 w (hs++[Ow E none 0 0 []]):=by
  obtain⟨U,V,b,a,h3⟩:=k.sep;exact⟨k.os,k.tape,k.output,k.size,k.block,k.fin,k.Vf,U,V,Sep.snoc (h:=Ow E none 0 0 []) ⟨rfl,.inl ⟨rfl,rfl,rfl⟩⟩ b,a,h3⟩
theorem Cx.new(k:Cx F O w0 w hs)(o:Obj)(h:HP)(hp:h.p (w.alloc o) (fun b=>b=w.heap.size) (fun _=>False)):Cx F O w0 (w.alloc o) (hs++[h]):=by
  refine k.call ⟨rfl,rfl,rfl,by rw[World.size_alloc];omega,fun b a _=>heap_alloc_old w o a,fun _ h=>h.elim,fun _ h=>h.elim,fun b=>b=w.heap.size,fun _=>False,
    ⟨_,_,fun _=>False,fun _=>False,hp,⟨fun _ h=>h,fun _ h=>h⟩,A2K,A2K,A2K,A2K⟩,fun b a=>.inr ?_,fun _ h=>h.elim⟩
  subst a;exact⟨A2f _,by rw[World.size_alloc];omega⟩
theorem Qx{g cur}{t:TypeId}(h:Rw w g cur t)(off:Nat)(vs:List Value)(hl:off+vs.length<=cur.size):Rw (w.setRow g (pat cur.toList off vs).toArray) g (pat cur.toList off vs).toArray t :=
  h.set (by simp only[A3Z];rw[VW (by simpa using hl)];simp)
theorem G7(g:Nat)(cs:Array Value):w.grownBy (w.setRow g cs) (some g) :=
  ⟨rfl,rfl,rfl,A2K,fun k _ a=>setRow_other w g k _ (fun e=>a (by simp[e]))⟩
theorem Cx.bput{t:TypeId}{g ys e}(k:Cx F O w0 w hs)(i:Nat)(j:hs[i]?=some (Bx t g ys))(off:Nat)(vs:List Value)(f:SV.cl e=pat (SV.cl ys) off vs)(hl:off+vs.length<=SV.width ys):Cx F O w0 (w.setRow g (pat (SV.cl ys) off vs).toArray) (hs.set i (Bx t g e)):=by
  refine k.XT i j (some g) (G7 g _) fun S R a c=>⟨fun b d=>by cases d;exact a.2,fun b=>b=g,fun _=>False,⟨?_,rfl⟩,fun b d=>?_,fun _ h=>h⟩
  ·have:=Qx a.1 off vs (by simpa [jr] using hl);rw[f];exact this
  ·subst d;exact⟨by simp[World.setRow];exact c _ a.2,.inl a.2⟩
theorem Cx.oput{E:Enc α}{A n c}{xs:List α}{xs':List α}(k:Cx F O w0 w hs)(i:Nat)(q:hs[i]?=some (Ow E A n c xs)){g cur}{t:TypeId}(s:A=some ⟨g,0,none⟩)(o:Rw w g cur t)(off:Nat)(vs:List Value)(hl:xs'.length=xs.length)(p:E.all xs'=pat (E.all xs) off vs)(hle:off+vs.length<=n*E.sz):Cx F O w0 (w.setRow g (pat cur.toList off vs).toArray) (hs.set i (Ow E A n c xs')):=by
  subst s;refine k.XT i q (some g) (G7 g _) fun S R r f=>?_;obtain⟨z,h⟩:=r;rcases h with⟨d,_⟩ | ⟨g',t',cur',d,y,h3,x,v,u,m⟩
  ·cases d
  ·simp only[A2a,Addr.mk.injEq,A49] at d;subst d;obtain⟨rfl,rfl⟩:=o.inj y;refine⟨fun b j=>by cases j;exact m,fun b=>b=g,fun _=>False,⟨by rw[hl,z],.inr ⟨g,t,_,rfl,Qx o off vs (by have:=A0k E.sz h3;omega),h3,x,?_,?_,rfl⟩⟩,fun b j=>?_,fun _ h=>h⟩
   ·have a:off+vs.length<=cur.toList.length:=by
      have:=A0k E.sz h3;simp only[A3h];omega
    simp only[A3Z,VW a];simpa using v
   ·rw[p,<-u];simp only[pat];have e:cur.toList=cur.toList.take (n*E.sz)++cur.toList.drop (n*E.sz):=(A32 _ _).symm;have a:n*E.sz<=cur.toList.length:=by
      have:=A0k E.sz h3;simp only[A3h];omega
    rw[A48,A48];simp only[Pi,A0T];rw[List.take_take,A2i (l:=vs) Y,List.take_take,List.drop_take];rw[show min off cur.toList.length=off from by omega,show min (n*E.sz) off=off from by omega,show min off (n*E.sz)=off from by omega]
   ·subst j;exact⟨by simp[World.setRow];exact f _ m,.inl m⟩
theorem Cx.oat{E:Enc α}{A n c}{xs:List α}(k:Cx F O w0 w hs)(i:Nat)(a:hs[i]?=some (Ow E A n c xs))(b:A.isSome=true):∃ g t cur,A=some ⟨g,0,none⟩/\Rw w g cur t/\n*E.sz<=cur.size:=by
  obtain⟨S,R,h0,h⟩:=k.get i a;rcases h with⟨rfl,_⟩ | ⟨g,t,cur,f,e,h3,h4,d,h6,h7⟩
  ·cases b
  ·exact⟨g,t,cur,f,e,A0a (A0k _ h3) d⟩
theorem Cx.mput{E:Enc α}{A n}{xs:List α}{xs':List α}{G}(k:Cx F O w0 w hs)(i:Nat)(j:hs[i]?=some (Mw E A n xs G))(p:A.isSome=true)(off:Nat)(vs:List Value)(hl:xs'.length=xs.length)(m:E.all xs'=pat (E.all xs) off vs)(d:off+vs.length<=n*E.sz) :
    A=some ⟨G.g,G.pre.length,none⟩/\∃ cur,Rw w G.g cur G.t/\G.pre.length+n*E.sz<=cur.size/\Cx F O w0 (w.setRow G.g (pat cur.toList (G.pre.length+off) vs).toArray) (hs.set i (Mw E A n xs' G)):=by
  obtain⟨S0,R0,a,h⟩:=k.get i j;rcases h with⟨rfl,_⟩ | ⟨rfl,l,h3⟩
  ·cases p
  ·refine⟨rfl,_,l,by simp[Enc.g_,a],?_⟩;refine k.XT i j (some G.g) (G7 G.g _) fun S R o c=>?_;obtain⟨_,h⟩:=o;rcases h with⟨q,_⟩ | ⟨_,_,f⟩
   ·cases q
   refine⟨fun b e=>by cases e;exact f,fun b=>b=G.g,fun _=>False,⟨by rw[hl,a],.inr ⟨rfl,?_,rfl⟩⟩,fun b e=>?_,fun _ h=>h⟩
   ·have:=Qx l (G.pre.length+off) vs (by simp[Enc.g_,a];omega);rw[m,<-YZ _ _ _ _ _ (by rw[Enc.g_,a];exact d)];exact this
   ·subst e;exact⟨by simp[World.setRow];exact c _ f,.inl f⟩
end
end
section
open Go.RowKit
set_option linter.unusedSimpArgs false
set_option linter.unusedVariables false
variable {α β:Type}
structure TF (P:Program)(t e:TypeId)(zs:List Value)(bytes:Nat):Prop where
  ht:P.underlying t=some (.slice e)
  hi:(P.info? e).map (fun i=>(i.zero.map (·.cells),i.size,i.bytes))=some (some ⟨zs⟩,zs.length,bytes)
  hs:0 < zs.length
  hb:0 < bytes
theorem TF.parts{P}{t e:TypeId}{b a}(c:TF P t e b a):∃ i z,P.info? e=some i/\i.zero=some z/\z.cells=⟨b⟩/\i.size=b.length/\i.bytes=a:=by
  have h:=c.hi;simp only[A0M,A2c] at h;obtain⟨i,f,⟨z,d,g⟩,hs,j⟩:=h;exact⟨i,z,f,d,g,hs,j⟩
structure Src (P:Program)(sz:Nat)(w:World)(x:Value)(m:Nat)(news:List Value):Prop where
  hl:news.length=m*sz
  len:∀ w',(Builtin.lenOf x).run P w'=.ok m w'
  cells:∀ (k:Nat) (w':World),k<=m->w'.heap=w.heap->(Builtin.firstCells sz k x).run P w'=.ok (news.take (k*sz)).toArray w'
theorem cell_heap{w:World}{w':World}(h:w'.heap=w.heap)(a:Addr):w'.cell? a=w.cell? a:=by simp[World.cell?,h]
theorem Src.slice{P sz m c w A news}(h:Rd w A news)(hl:news.length=m*sz):Src P sz w (.slice A m c) m news:=by
  refine⟨hl,fun _=>rfl,fun k w' hk hw=>?_⟩;cases A with
  | none =>
    have:news=[]:=by
      rcases news with _ | ⟨x,l⟩
      ·rfl
      ·obtain⟨a,ha⟩:=h.1 A2K;cases ha
    subst this;simp[Builtin.firstCells]
  | some a =>
    have hle:k*sz<=news.length:=by rw[hl];exact A0k _ hk
    have h1:=run_loadCells_list (P:=P) (w:=w') a (news.take (k*sz)) (fun j v hv=>by
      rw[cell_heap hw];rw[List.getElem?_take] at hv;split at hv
      ·exact h.2 a j v rfl hv
      ·cases hv)
    rw[A0T,A35 hle] at h1;simp only[Builtin.firstCells,h1]
theorem Src.str{P w}(s:AC):Src P 1 w (.string ⟨⟨s⟩⟩) s.length (e8.all s):=by
  refine⟨by rw[Enc.g_];rfl,fun _=>rfl,fun k w' hk hw=>?_⟩;simp only[Builtin.firstCells,A2d];congr 1;have a:(ByteArray.mk ⟨s⟩).extract 0 k=ByteArray.mk ⟨s.take k⟩:=by
    rw[show(ByteArray.mk ⟨s⟩)=ByteArray.mk s.toArray from rfl,ByteArray.extract_mk];rfl
  rw[a,KT];simp[List.map_take];rfl
theorem Po(a:List Value):∀ (k:Nat),(Array.range (k*a.length)).map (fun i=>(⟨a⟩:Array Value)[i % a.length]!)=⟨(List.replicate k a).flatten⟩:=by
  intro k;apply Array.ext';simp only[Array.toList_map,Array.toList_range]
  induction k with
  | zero=>simp
  | succ k ih =>
    rw[List.replicate_succ',List.flatten_append,<-ih,A3Y,Nat.one_mul,List.range_add,A2g,List.map_map];congr 1;simp only[A0l,List.flatten_nil,A2n];apply List.ext_getElem?;intro j;by_cases b:j < a.length
    ·simp[b,A2w b,Nat.mul_add_mod_self_right]
    ·simp[b,A3x (Nat.le_of_not_lt b)]
theorem all_replicate(E:Enc α)(x:α):∀ k,E.all (List.replicate k x)=(List.replicate k (E.f x)).flatten:=by
  intro k
  induction k with
  | zero=>rfl
  | succ k ih=>simp[List.replicate_succ,Enc.all,ih]
theorem Y1(a:List Value)(k:Nat):Builtin.zeroCells ⟨a⟩ k=⟨(List.replicate k a).flatten⟩:=Po a k
section
variable {P:Program}{w:World}
theorem Qy{t t2 e ty:TypeId}{f j}(B:TF P t e f j)(C:(match P.underlying t2 with | some (.slice _)=>true | some .string=>true | _=>false)=true){E:Enc α}(I:E.sz=f.length){A n m c x}{xs:List α}{ys:List α}{S R}(d:(Ow E A n c xs).p w S R)(hx:Src P f.length w x m (E.all ys))(u:ys.length=m)(v:(n+m)*j<=140737488355328) :
    ∃ A' c' w',(Builtin.append_ #[t,t2] ty #[.slice A n c,x]).run P w=.ok (.slice A' (n+m) c') w'/\(∃ S',(Ow E A' (n+m) c' (xs++ys)).p w' S' (fun _=>False)/\(∀ b,S' b->b < w'.heap.size/\(S b∨w.heap.size<=b))) /\
      w.grownBy w' (A.map (·.block)):=by
  obtain⟨i,z,hi,hz,K,L,T⟩:=B.parts;have o:(∃ J,P.underlying t2=some (.slice J))∨P.underlying t2=some .string:=by
    split at C
    ·exact .inl ⟨_,by assumption⟩
    ·exact .inr (by assumption)
    ·cases C
  have Oe:(sizeOf e).run P w=.ok f.length w:=by rw[<- L];exact Ad hi w
  have hmb:n+m<=(n+m)*j:=A3j _ B.hb;have M:n+m<=maxLen:=by unfold maxLen;omega
  have q:(xs++ys).length=n+m:=by rw[Pi,d.1,u]
  have s:(E.all ys).length=m*f.length:=hx.hl;have y:∀ w',w'.heap=w.heap->(Builtin.firstCells f.length m x).run P w'=.ok (E.all ys).toArray w':=fun w' hw=>by
    have:=hx.cells m w' (A2f _) hw
    rwa [<- s,A0S] at this
  by_cases H:n+m<=c
  ·rcases d.2 with⟨rfl,hn,hc⟩ | ⟨g,t',cur,rfl,X,h3,h4,h5,h6,h7⟩
   ·have N:m=0:=Y
    subst N;subst hn;subst hc;have hy:ys=[]:=A2y u;subst hy;refine⟨none,0,w,?_,⟨fun _=>False,⟨by simpa using d.1,.inl ⟨rfl,rfl,rfl⟩⟩,fun _ h=>h.elim⟩,⟨rfl,rfl,rfl,A2f _,fun _ _ _=>rfl⟩⟩;have r:=y w rfl;rcases o with⟨J,hd⟩ | hd <;> simp[Builtin.append_,run_underlying B.ht,run_underlying hd,Oe,hx.len,r]
   ·have r:=y w rfl;have F:n*f.length+(E.all ys).length<=cur.size:=by
      have:=A0k f.length H;rw[I] at h5;rw[s,<-A3Y];omega
    have D:=vV P g (n*f.length) t' (E.all ys) 0 cur w X (by simpa using F) (E.MI ys);simp only[A3S] at D;have G:(⟨g,0,none⟩:Addr).add (n*f.length)=⟨g,n*f.length,none⟩:=by unfold Addr.add;split <;> simp_all
    refine⟨some ⟨g,0,none⟩,c,w.setRow g (cur.toList.take (n*f.length)++E.all ys++cur.toList.drop (n*f.length+(E.all ys).length)).toArray,?_,⟨fun b=>b=g,⟨q,.inr ⟨g,t',_,rfl,X.set (by simp only[A3Z,Pi,A0T,A0m,A3h];omega),H,h4,?_,?_,rfl⟩⟩,?_⟩,G7 g _⟩
    ·rcases o with⟨J,hd⟩ | hd <;> simp[Builtin.append_,run_underlying B.ht,run_underlying hd,Oe,hx.len,H,r,G,D]
    ·simp only[A3Z,Pi,A0T,A0m,A3h];omega
    ·rw[Enc.all_append,<-h6,I];simp only[A3Y];rw[<- s];have e1:(cur.toList.take (n*f.length)).length=n*f.length:=by simp;omega
     rw[List.take_append_of_le_length A2L];rw[A2i A2L]
    ·intro b U;subst U;exact⟨by simp[World.setRow];exact X.lt,.inl h7⟩
  ·-- a new block
   have O:=grownCap_ge w (n+m) c e;have Q:grownCap w (n+m) c e<=maxLen:=grownCap_le_maxLen w (n+m) c e M;have A1z:∃ l:List Value,l=E.all xs/\(Builtin.firstCells f.length n (.slice A n c)).run P w.drew=.ok l.toArray w.drew:=by
     refine⟨_,rfl,?_⟩;have h1:(E.all xs).length=n*f.length:=by rw[Enc.g_,d.1,I]
     have:=(Src.slice (P:=P) (sz:=f.length) (m:=n) (c:=c) (Ow.rd' d) h1).cells n w.drew (A2f _) rfl
     rwa [<- h1,A0S] at this
   obtain⟨l,rfl,A1z⟩:=A1z;have r:=y w.drew rfl;have hnb:Builtin.nextslicecap (n+m) c*i.bytes<=281474976710656:=by rw[T];exact growslice_fits Y v
   have V:¬ (9223372036854775807 < ((n:Int)+(m:Int))):=Y
   have W:¬ (281474976710656 < Builtin.nextslicecap (n+m) c*i.bytes):=Y
   refine⟨some ⟨w.heap.size,0,none⟩,grownCap w (n+m) c e,w.drew.alloc (.cells ((E.all xs).toArray++(E.all ys).toArray++Builtin.zeroCells z.cells (grownCap w (n+m) c e - (n+m))) e),?_,⟨fun b=>b=w.heap.size,⟨q,.inr ⟨w.heap.size,e,_,rfl,Rw.new w.drew _ _,O,Q,?_,?_,rfl⟩⟩,?_⟩,⟨rfl,rfl,rfl,A2K,fun k hk _=>heap_alloc_old w.drew _ hk⟩⟩
   ·rcases o with⟨J,hd⟩ | hd <;> simp[Builtin.append_,run_underlying B.ht,run_underlying hd,Oe,hx.len,H,V,W,typeInfo,zeroValue,hi,hz,Question.forced,A1z,r,newRow,grownCap] <;> (congr 2;apply Array.ext';simp)
   ·simp only[Array.size_append,A3Z,size_zeroCells,K,Enc.g_,d.1,u,<-A3Y,I];exact A0k _ Y
   ·simp only[Array.toList_append,lw];rw[<- lw,<-Enc.all_append];have:(E.all (xs++ys)).length=(n+m)*E.sz:=by rw[Enc.g_,q]
    rw[<- this,List.take_left]
   ·intro b U;subst U;exact⟨A2K,.inr (A2f _)⟩
end
section
variable {P:Program}{w:World}
theorem Us{t t2 e ty:TypeId}{j d}(C:TF P t e j d){ik kx}(B:P.underlying t2=some (.int ik)){E:Enc α}{q:α}(D:E.f q=j){A n c l}{xs:List α}{S R}(a:(Ow E A n c xs).p w S R)(h0:0<=l)(o:(n+l.toNat)*d<=140737488355328) :
    ∃ A' c' w',(Builtin.append_ #[t,t2] ty #[.slice A n c,.int kx l]).run P w=.ok (.slice A' (n+l.toNat) c') w'/\(∃ S',(Ow E A' (n+l.toNat) c' (xs++List.replicate l.toNat q)).p w' S' (fun _=>False)/\(∀ b,S' b->b < w'.heap.size/\(S b∨w.heap.size<=b))) /\
      w.grownBy w' (A.map (·.block)):=by
  obtain⟨i,z,J,hz,F,X,L⟩:=C.parts;have O:E.sz=j.length:=by rw[<- D,E.len]
  obtain⟨m,hm⟩:∃ m,l.toNat=m:=⟨_,rfl⟩
  have hlm:l=(m:Int):=Y
  subst hlm;simp only[ww] at o ⊢;clear hm h0;have Oe:(sizeOf e).run P w=.ok j.length w:=by rw[<- X];exact Ad J w
  have hmb:n+m<=(n+m)*d:=A3j _ C.hb;have hml:n+m<=maxLen:=by unfold maxLen;omega
  have H:IntKind.i64.wrap (m:Int)=m:=F6 Y;have s:(xs++List.replicate m q).length=n+m:=by rw[Pi,a.1,List.length_replicate]
  have G:(E.all (List.replicate m q)).length=m*j.length:=by rw[Enc.g_,O];simp
  have M:E.all (List.replicate m q)=(List.replicate m j).flatten:=by rw[all_replicate,D]
  have y:(typeInfo e).run P w=.ok i w:=by simp[typeInfo,J]
  have r:m*d<=140737488355328:=A0a (A0k _ Y) o;have x:¬ ((m:Int)*(i.bytes:Int) > 2 ^ 48):=by
    rw[L];have:=Int.ofNat_le.2 r;simp only[Int.natCast_mul] at this;omega
  have u:¬ ((m:Int) < 0):=Y
  have v:∀ w':World,((if m*j.length=0 then pure #[] else do pure (Builtin.zeroCells (<- zeroValue e).cells m)):Sem (Array Value)).run P w'=.ok (E.all (List.replicate m q)).toArray w':=by
    intro w';rw[M];split
    ·rename_i h;have:m=0:=by
       have:=C.hs;rcases Nat.mul_eq_zero.1 h with h | h
       ·exact h
       ·omega
     subst this;simp
    ·have T:(zeroValue e).run P w'=.ok z w':=by simp[zeroValue,typeInfo,J,hz]
     simp only[A2e,T,A2b,A2d,F,Y1]
  by_cases Q:n+m<=c
  ·rcases a.2 with⟨rfl,hn,hc⟩ | ⟨g,t',cur,rfl,h2,h3,h4,h5,h6,h7⟩
   ·have hm0:m=0:=Y
    subst hm0;subst hn;subst hc;refine⟨none,0,w,?_,⟨fun _=>False,⟨by simpa using a.1,.inl ⟨rfl,rfl,rfl⟩⟩,fun _ h=>h.elim⟩,⟨rfl,rfl,rfl,A2f _,fun _ _ _=>rfl⟩⟩;have V:IntKind.i64.wrap 0=0:=by rfl
    simp[Builtin.append_,run_underlying C.ht,run_underlying B,Oe,asInt,asIntOf,y,V]
   ·have K:n*j.length+(E.all (List.replicate m q)).length<=cur.size:=by
      have:=A0k j.length Q;rw[O] at h5;rw[G,<-A3Y];omega
    have I:=vV P g (n*j.length) t' (E.all (List.replicate m q)) 0 cur w h2 (by simpa using K) (E.MI _);simp only[A3S] at I;have N:(⟨g,0,none⟩:Addr).add (n*j.length)=⟨g,n*j.length,none⟩:=by unfold Addr.add;split <;> simp_all
    refine⟨some ⟨g,0,none⟩,c,w.setRow g (cur.toList.take (n*j.length)++E.all (List.replicate m q)++cur.toList.drop (n*j.length+(E.all (List.replicate m q)).length)).toArray,?_,⟨fun b=>b=g,⟨s,.inr ⟨g,t',_,rfl,h2.set (by simp only[A3Z,Pi,A0T,A0m,A3h];omega),Q,h4,?_,?_,rfl⟩⟩,?_⟩,G7 g _⟩
    ·have ha:=v w;simp only[Builtin.append_,List.getElem?_toArray,A3l,A3R,A2e,run_underlying C.ht,run_underlying B,A2b,Oe,A2d,asInt,asIntOf,H,u,A3r,if_true,y,x,ww,Q,A3K,A0h,ha,N,I]
    ·simp only[A3Z,Pi,A0T,A0m,A3h];omega
    ·rw[Enc.all_append,<-h6,O];simp only[A3Y];rw[<- G];rw[List.take_append_of_le_length A2L];rw[A2i A2L]
    ·intro b hb;subst hb;exact⟨by simp[World.setRow];exact h2.lt,.inl h7⟩
  ·have hge:=grownCap_ge w (n+m) c e;have hcm:grownCap w (n+m) c e<=maxLen:=grownCap_le_maxLen w (n+m) c e hml;have A1z:(Builtin.firstCells j.length n (.slice A n c)).run P w.drew=.ok (E.all xs).toArray w.drew:=by
     have h1:(E.all xs).length=n*j.length:=by rw[Enc.g_,a.1,O]
     have:=(Src.slice (P:=P) (sz:=j.length) (m:=n) (c:=c) (Ow.rd' a) h1).cells n w.drew (A2f _) rfl
     rwa [<- h1,A0S] at this
   have hnb:Builtin.nextslicecap (n+m) c*i.bytes<=281474976710656:=by rw[L];exact growslice_fits Y o
   have h63:¬ (((n+m:Nat):Int) > IntKind.i64.max):=by
     have:IntKind.i64.max=9223372036854775807:=rfl;rw[this];omega
   have h48:¬ (Builtin.nextslicecap (n+m) c*i.bytes > 2 ^ 48):=Y
   have ha:=v w.drew;have hch:(choose (.appendCap (n+m) c e)).run P w=.ok (grownCap w (n+m) c e) w.drew:=by simp[choose,Sem.run,Question.forced,grownCap]
   have W:(typeInfo e).run P w.drew=.ok i w.drew:=by simp[typeInfo,J]
   have har:∀ b w',(askRoom b).run P w'=.ok () w':=fun b w'=>by unfold askRoom;split <;> rfl
   have U:(zeroValue e).run P w.drew=.ok z w.drew:=by simp[zeroValue,typeInfo,J,hz]
   refine⟨some ⟨w.heap.size,0,none⟩,grownCap w (n+m) c e,w.drew.alloc (.cells ((E.all xs).toArray++(E.all (List.replicate m q)).toArray++Builtin.zeroCells z.cells (grownCap w (n+m) c e - (n+m))) e),?_,⟨fun b=>b=w.heap.size,⟨s,.inr ⟨w.heap.size,e,_,rfl,Rw.new w.drew _ _,hge,hcm,?_,?_,rfl⟩⟩,?_⟩,⟨rfl,rfl,rfl,A2K,fun k hk _=>heap_alloc_old w.drew _ hk⟩⟩
   ·simp only[Builtin.append_,List.getElem?_toArray,A3l,A3R,A2e,run_underlying C.ht,run_underlying B,A2b,Oe,A2d,asInt,asIntOf,H,u,A3r,if_true,y,x,ww,Q,h63,false_and,h48,hch,W,har,A1z,A3K,A0h,ha,U];rfl
   ·simp only[Array.size_append,A3Z,size_zeroCells,F,Enc.g_,a.1,List.length_replicate,<-A3Y,O];exact A0k _ Y
   ·simp only[Array.toList_append,lw];rw[<- lw,<-Enc.all_append];have:(E.all (xs++List.replicate m q)).length=(n+m)*E.sz:=by rw[Enc.g_,s]
    rw[<- this,List.take_left]
   ·intro b hb;subst hb;exact⟨A2K,.inr (A2f _)⟩
end
section
variable {P:Program}{n:Nat}{ops:Array Oper}{L:St}{w w0:World}{F O:Nat->Prop}{hs:List HP}{K:St->World->Prop}
theorem dA{q x y}{t t2 ty:TypeId}{s M g}{e:TypeId}{D:List Value}{j:Nat}(H:TF P t e D j){E:Enc α}(ss:A00)(d:Nat)(i:Nat){A}{r:Nat}{m:Nat}{c:Nat}{v:SV}{xs:List α}{ys:List α}(A28:(Ep ops ss L ⟨q,.call ⟨.builtin .append,#[x,y],#[t,t2]⟩,ty,s,M,g⟩,q,(decide (d < n)),(L.any fun p=>p.1 == d),(toSS [x,y] (lk L)).map SV.vals,(match P.underlying t2 with | some (.slice _)=>true | some .string=>true | _=>false),E.sz)=(true,some d,true,false,some [.slice A r c,v.val],true,D.length))(k:Cx F O w0 w hs)(N:hs[i]?=some (Ow E A r c xs))(hx:Src P D.length w v.val m (E.all ys))(hm:ys.length=m)(f:(r+m)*j<=140737488355328)(hk:∀ z u w',Cx F O w0 w' (hs.set i (Ow E z (r+m) u (xs++ys)))->K ((d,.v (.slice z (r+m) u))::L) w') :
    Dv P n ops L w ⟨q,.call ⟨.builtin .append,#[x,y],#[t,t2]⟩,ty,s,M,g⟩ K:=by
  simp only[A2c,A0M,lm] at A28;obtain⟨s1,rfl,X,W,⟨svs,V,U⟩,J,I⟩:=A28;refine DU (xs:=[x,y]) (svs:=svs) ss (d:=d) (by simp[Side,s1,X,W,V]) fun a ha B=>?_;rw[U] at B;simp only[kw,A2q,A2u,A49] at B;obtain⟨S,R,C⟩:=k.get i N;obtain⟨z,u,w',l,_,o⟩:=Qy (P:=P) H (t2:=t2) J I (ty:=ty) C hx hm f;unfold Oper.wp execOp;simp only[resolve,invoke,builtin,A2e,A2d,A2b,A3o,kw,A2q,B.1,B.2,l];refine⟨.v (.slice z (r+m) u),rfl,hk z u w' ?_⟩;refine k.XT i N _ o fun S R C hlt=>?_;obtain⟨A2,c2,w2,b,⟨S',G,hb⟩,_⟩:=Qy (P:=P) H (t2:=t2) J I (ty:=ty) C hx hm f;rw[l] at b;simp only[A3a,Value.slice.injEq,true_and] at b;obtain⟨⟨rfl,rfl⟩,rfl⟩:=b;refine⟨fun g Q=>?_,S',fun _=>False,G,hb,fun _ h=>h⟩;simp only[A0M] at Q;obtain⟨a,rfl,rfl⟩:=Q;rcases C.2 with⟨h,_⟩ | ⟨g,t',cur,T,_,_,_,_,_,h7⟩
  ·cases h
  ·simp only[A2a] at T;subst T;exact h7
theorem Op_appendZ{r x y}{t t2 ty:TypeId}{u Q g}{e:TypeId}{J m}(M:TF P t e J m){E:Enc α}(I:α)(ss:A00)(d:Nat)(i:Nat){A s c ik kx}(l:Int){xs:List α}(A28:(Ep ops ss L ⟨r,.call ⟨.builtin .append,#[x,y],#[t,t2]⟩,ty,u,Q,g⟩,r,(decide (d < n)),(L.any fun p=>p.1 == d),(toSS [x,y] (lk L)).map SV.vals,P.underlying t2)=(true,some d,true,false,some [.slice A s c,.int kx l],some (.int ik)))(z:E.f I=J)(k:Cx F O w0 w hs)(T:hs[i]?=some (Ow E A s c xs))(W:0<=l)(j:(s+l.toNat)*m<=140737488355328)(hk:∀ C B w',Cx F O w0 w' (hs.set i (Ow E C (s+l.toNat) B (xs++List.replicate l.toNat I)))->K ((d,.v (.slice C (s+l.toNat) B))::L) w') :
    Dv P n ops L w ⟨r,.call ⟨.builtin .append,#[x,y],#[t,t2]⟩,ty,u,Q,g⟩ K:=by
  simp only[A2c,A0M,lm] at A28;obtain⟨s1,rfl,s3,s4,⟨svs,s5,X⟩,N⟩:=A28;refine DU (xs:=[x,y]) (svs:=svs) ss (d:=d) (by simp[Side,s1,s3,s4,s5]) fun a ha D=>?_;rw[X] at D;simp only[kw,A2q,A2u,A49] at D;obtain⟨S,R,G⟩:=k.get i T;obtain⟨C,B,w',o,_,q⟩:=Us (P:=P) M (t2:=t2) N z (ty:=ty) (kx:=kx) G W j;unfold Oper.wp execOp;simp only[resolve,invoke,builtin,A2e,A2d,A2b,A3o,kw,A2q,D.1,D.2,o];refine⟨.v (.slice C (s+l.toNat) B),rfl,hk C B w' ?_⟩;refine k.XT i T _ q fun S R G hlt=>?_;obtain⟨A2,c2,w2,b,⟨S',H,hb⟩,_⟩:=Us (P:=P) M (t2:=t2) N z (ty:=ty) (kx:=kx) G W j;rw[o] at b;simp only[A3a,Value.slice.injEq,true_and] at b;obtain⟨⟨rfl,rfl⟩,rfl⟩:=b;refine⟨fun g U=>?_,S',fun _=>False,H,hb,fun _ h=>h⟩;simp only[A0M] at U;obtain⟨a,rfl,rfl⟩:=U;rcases G.2 with⟨h,_⟩ | ⟨g,t',cur,V,_,_,_,_,_,h7⟩
  ·cases h
  ·simp only[A2a] at V;subst V;exact h7
theorem Ow.new(w:World)(E:Enc α)(e:TypeId)(cs:List Value)(l c:Nat)(xs:List α)(hl:xs.length=l)(a:l<=c)(hm:c<=maxLen)(d:c*E.sz<=cs.length)(hx:cs.take (l*E.sz)=E.all xs):(Ow E (some ⟨w.heap.size,0,none⟩) l c xs).p (w.alloc (.cells ⟨cs⟩ e)) (fun b=>b=w.heap.size) (fun _=>False) :=
  ⟨hl,.inr ⟨w.heap.size,e,⟨cs⟩,rfl,Rw.new w _ _,a,hm,by simpa using d,by simpa using hx,rfl⟩⟩
theorem Op_mk{dst}{t ty:TypeId}{len parts pos kX g}{e:TypeId}{zs bytes}(tf:TF P t e zs bytes)(E:Enc α)(ss:A00)(d:Nat)(xs:List α)(ps:List (Nat×SV))(svs:List SV)(A28:(Ep ops ss L ⟨dst,.buildSlice t len parts,ty,pos,kX,g⟩,dst,(decide (d < n)),(L.any fun p=>p.1 == d),(toPS parts.toList (lk L)).map (·.map fun p=>(p.1,p.2.val)))=(true,some d,true,false,some (ps.map fun p=>(p.1,p.2.val))))(hf:(Qc (fun i=>some (i*zs.length,zs.length)) ((List.replicate len zs).flatten.map PT) ps,decide (len*zs.length<=16777216),xs.length,E.sz)=(some svs,true,len,zs.length))(hx:SV.cl svs=E.all xs)(k:Cx F O w0 w hs)(hk:∀ A w',Cx F O w0 w' (hs++[Ow E A len len xs])->K ((d,.v (.slice A len len))::L) w') :
    Dv P n ops L w ⟨dst,.buildSlice t len parts,ty,pos,kX,g⟩ K:=by
  simp only[A2c,lm,A0M] at A28 hf;obtain⟨h1,rfl,h3,h4,⟨ps',h5,h6⟩⟩:=A28;obtain⟨hf,hlen,hxl,hE⟩:=hf;refine DU (xs:=[]) (svs:=[]) ss (d:=d) (by simp[Side,h1,h3,h4,toSS]) fun a ha _=>?_;have hps:=toPS_spec (fun o x hx=>Ve ha hx) h5;rw[h6] at hps;obtain⟨i,z,hi,hz,hzc,hsz,hby⟩:=tf.parts;have hfill:=MG (place:=fun i=>some (i*zs.length,zs.length)) ps _ _ hf;rw[Vd] at hfill;have Oe:(sizeOf e).run P w=.ok zs.length w:=by rw[<- hsz];exact Ad hi w
  have hrun:(Instr.buildSlice t len (parts.map fun(i,x)=>(i,a.eval x))).run P w=.ok (.slice (some ⟨w.heap.size,0,none⟩) len len) (w.alloc (.cells ⟨E.all xs⟩ e)):=by
    have e1:(parts.map fun(i,x)=>(i,a.eval x)).toList=ps.map fun p=>(p.1,p.2.val):=by rw[<- hps];simp
    have hfl:Instr.fill (fun i=>some (i*zs.length,zs.length)) ⟨(List.replicate len zs).flatten⟩ (parts.map fun(i,x)=>(i,a.eval x)).toList=some ⟨E.all xs⟩:=by rw[e1,hfill,hx]
    simp only[Instr.buildSlice,A2e,run_underlying tf.ht,A2b,Oe];rw[A3q Y];split
    ·rename_i h0;have hl0:len=0:=by
       have:=tf.hs;rcases Nat.mul_eq_zero.1 h0 with h | h
       ·exact h
       ·omega
     subst hl0;have hnil:∀ f:Nat->Value,(Array.range 0).map f=⟨[]⟩:=fun f=>by simp
     simp only[List.replicate_zero,List.flatten_nil] at hfl;simp only[A2e,A2d,A2b,Nat.zero_mul,hnil,hfl];rfl
    ·have hzv:(zeroValue e).run P w=.ok z w:=by simp[zeroValue,typeInfo,hi,hz]
     simp only[A2e,A2d,A2b,hzv,hzc];have hr:=Po zs len;simp only[show(⟨zs⟩:Array Value).size=zs.length from rfl,hr,hfl];rfl
  have hA:=hk (some ⟨w.heap.size,0,none⟩) _ (k.new (.cells ⟨E.all xs⟩ e) _ (Ow.new w E e _ len len xs hxl (A2f _) (by
    unfold maxLen;have:=A3j len tf.hs;omega) (by rw[Enc.g_,hxl];exact A2f _) (by
    have:(E.all xs).length=len*E.sz:=by rw[Enc.g_,hxl]
    rw[<- this,A0S])))
  unfold Oper.wp execOp;simp only[A2e,hrun,A2b,A2d];exact⟨.v (.slice (some ⟨w.heap.size,0,none⟩) len len),rfl,hA⟩
end
end
section
open Go.RowKit
set_option linter.unusedSimpArgs false
set_option linter.unusedVariables false
variable {α β:Type}
section
variable {P:Program}{n:Nat}{ops:Array Oper}{L:St}{w w0:World}{F O:Nat->Prop}{hs:List HP}{K:St->World->Prop}
theorem run_mkslice{t e:TypeId}{d a}(k:TF P t e d a)(v x:IntKind)(l c:Nat)(hl:l<=c)(r:c*a<=140737488355328) :
    (Instr.makeSlice t (.int v (l:Int)) (.int x (c:Int))).run P w=.ok (.slice (some ⟨w.heap.size,0,none⟩) l c) (w.alloc (.cells ⟨(List.replicate c d).flatten⟩ e)):=by
  obtain⟨i,z,p,y,n,o,j⟩:=k.parts;have C:FP P e=some d.length:=by simp[FP,p,o]
  have hc:c<=140737488355328:=A0a (A3j c k.hb) r;have u:IntKind.i64.wrap (l:Int)=l:=F6 Y;have s:IntKind.i64.wrap (c:Int)=c:=F6 Y;have hbi:((i.bytes:Int)*(c:Int))<=140737488355328:=by
    rw[j,Int.mul_comm];have:=Int.ofNat_le.2 r;simpa using this
  have hnot:¬ ((i.bytes:Int)*(c:Int) > 2 ^ 48):=Y
  have b:(askRoom (c*i.bytes)).run P w=.ok () w:=by
    unfold askRoom roomBytes;rw[j,A3q Y];rfl
  simp only[Instr.makeSlice,A2e,run_underlying k.ht,A2b,asInt,asIntOf,A2d,typeInfo,run_program,p,u,s];rw[A3q A2L];simp only[A2e,A2d,A2b,ww,b,vU C];split
  ·rename_i B;have q:c=0:=by
     have:=k.hs;rcases Nat.mul_eq_zero.1 B with h | h
     ·exact h
     ·omega
   subst q;have g:∀ f:Nat->Value,(Array.range 0).map f=⟨[]⟩:=fun f=>by simp
   simp only[A2e,A2d,A2b,Nat.zero_mul,g];rfl
  ·have m:(zeroValue e).run P w=.ok z w:=by simp[zeroValue,typeInfo,p,y]
   simp only[A2e,A2d,A2b,m,n];have A:=Po d c;simp only[show(⟨d⟩:Array Value).size=d.length from rfl,A];rfl
theorem xe{j}{t ty:TypeId}{lo o l y g}{e:TypeId}{m c}(u:TF P t e m c)(E:Enc α)(x:α)(r:E.f x=m)(ss:A00)(d:Nat)(sl q:SV)(h b:Int)(A28:(Ep ops ss L ⟨j,.makeSlice t lo o,ty,l,y,g⟩,j,(decide (d < n)),(L.any fun p=>p.1 == d),toSS [lo,o] (lk L),toI sl,toI q)=(true,some d,true,false,some [sl,q],some h,some b))(S:0<=h)(h1:h<=b)(z:b.toNat*c<=140737488355328)(k:Cx F O w0 w hs)(N:∀ A w',Cx F O w0 w' (hs++[Ow E A h.toNat b.toNat (List.replicate h.toNat x)])->K ((d,.v (.slice A h.toNat b.toNat))::L) w') :
    Dv P n ops L w ⟨j,.makeSlice t lo o,ty,l,y,g⟩ K:=by
  simp only[A2c,lm] at A28;obtain⟨I,rfl,H,G,D,C,B⟩:=A28;obtain⟨M,U⟩:=toI_spec C;obtain⟨J,T⟩:=toI_spec B;refine DU (xs:=[lo,o]) (svs:=[sl,q]) ss (d:=d) (by simp[Side,I,H,G,D]) fun a ha s=>?_;simp only[kw,A2q,SV.vals,A2u,A49] at s;have Q:b.toNat<=maxLen:=by
    have:=A0a (A3j b.toNat u.hb) z;unfold maxLen;omega
  have i:=run_mkslice (P:=P) (w:=w) u M J h.toNat b.toNat Y z;rw[Int.toNat_of_nonneg S,Int.toNat_of_nonneg Y] at i;have hE:E.sz=m.length:=by rw[<- r,E.len]
  have R:=N (some ⟨w.heap.size,0,none⟩) _ (k.new (.cells ⟨(List.replicate b.toNat m).flatten⟩ e) _ (Ow.new w E e _ h.toNat b.toNat _ A2K Y Q (by rw[<- r,<-all_replicate,Enc.g_];simp) (by
    rw[<- r,<-all_replicate,Enc.G6,List.take_replicate,A35 Y])))
  unfold Oper.wp execOp;simp only[s.1,s.2,U,T,A2e,i,A2b,A2d];exact⟨.v (.slice (some ⟨w.heap.size,0,none⟩) h.toNat b.toNat),by simp[SV.val],R⟩
theorem Y2{t bt:TypeId}{b off cur v vs}(c:v.cells=⟨vs⟩)(hs:FP P t=some vs.length)(e:∀ u ∈ vs,u.oneCell'=true)(d:Rw w b cur bt)(hl:off+vs.length<=cur.size) :
    (Instr.storeAt t (.pointer (some ⟨b,off,none⟩)) v).run P w=.ok () (w.setRow b (pat cur.toList off vs).toArray):=by
  have a:=vV P b off bt vs 0 cur w d (by simpa using hl) e;simp only[A3S] at a;simp only[Instr.storeAt,Instr.sureAddr,A2e,A2d,A2b,storeVar,vU hs,c];rw[A3q A2K];exact a
theorem add0(b off j:Nat):(⟨b,off,none⟩:Addr).add j=⟨b,off+j,none⟩:=by unfold Addr.add;split <;> simp_all
theorem TJ{ty t:TypeId}{p x c i g}(ss:A00){h sv svs}(A28:(Ep ops ss L (⟨none,.store t p x,ty,c,i,g⟩:Oper),(none:A03),(toSS [p,x] (lk L)).map SV.vals,FP P t,cellsS sv,svs.all SV.one1)=(true,none,some [.pointer h,sv.val],some (SV.width svs),some svs,true)){b off cur}{bt:TypeId}(hp:h=some ⟨b,off,none⟩)(s:Rw w b cur bt)(hl:off+SV.width svs<=cur.size)(r:K L (w.setRow b (pat cur.toList off (SV.cl svs)).toArray)) :
    Dv P n ops L w ⟨none,.store t p x,ty,c,i,g⟩ K:=by
  simp only[A2c,A0M] at A28;obtain⟨q,_,⟨vs,o,m⟩,l,k,j⟩:=A28;refine WL_of0 (xs:=[p,x]) (svs:=vs) ss (by simp[q,o]) fun a ha f=>?_;rw[m] at f;simp only[kw,A2q,A2u,A49] at f;have e:=jr svs;have d:=Y2 (P:=P) (w:=w) (t:=t) (Oa k) (by rw[e];exact l) (ones_spec svs j) s (by rw[e];exact hl);unfold Oper.wp execOp;simp only[f.1,f.2,hp,A2e,d,A2b,A2d];exact⟨rfl,r⟩
theorem Op_bst{ty t:TypeId}{p x a e g}(ss:A00)(i:Nat){d sv svs}{bt:TypeId}{b ys}(c:List SV){off}(A28:(Ep ops ss L (⟨none,.store t p x,ty,a,e,g⟩:Oper),(none:A03),(toSS [p,x] (lk L)).map SV.vals,FP P t,cellsS sv,svs.all SV.one1)=(true,none,some [.pointer d,sv.val],some (SV.width svs),some svs,true))(hp:Pt (some ⟨b,0,none⟩) off d)(k:Cx F O w0 w hs)(f:hs[i]?=some (Bx bt b ys))(h:SV.cl c=pat (SV.cl ys) off (SV.cl svs))(hl:off+SV.width svs<=SV.width ys)(j:∀ w',Cx F O w0 w' (hs.set i (Bx bt b c))->K L w') :
    Dv P n ops L w ⟨none,.store t p x,ty,a,e,g⟩ K:=by
  refine TJ ss A28 (b:=b) (off:=off) (cur:=⟨SV.cl ys⟩) (bt:=bt) ?_ (k.bxh i f) (by simpa [jr] using hl) (j _ (k.bput i f off _ h (by rw[jr];exact hl)));rw[hp rfl];simp[fa,add0]
theorem vw{ty t:TypeId}{p x a l g}{E:Enc α}(ss:A00)(i:Nat){h sv svs A d c}{xs:List α}{j}{x0:α}(y:α){kk}(A28:(Ep ops ss L (⟨none,.store t p x,ty,a,l,g⟩:Oper),(none:A03),(toSS [p,x] (lk L)).map SV.vals,FP P t,cellsS sv,svs.all SV.one1)=(true,none,some [.pointer h,sv.val],some (SV.width svs),some svs,true))(hp:Pt A (j*E.sz+kk) h)(k:Cx F O w0 w hs)(e:hs[i]?=some (Ow E A d c xs))(hx:xs[j]?=some x0)(q:A.isSome=true)(hy:E.f y=pat (E.f x0) kk (SV.cl svs))(hl:kk+SV.width svs<=E.sz)(o:∀ w',Cx F O w0 w' (hs.set i (Ow E A d c (xs.set j y)))->K L w') :
    Dv P n ops L w ⟨none,.store t p x,ty,a,l,g⟩ K:=by
  obtain⟨b,bt,cur,rfl,m,hsz⟩:=k.oat i e q;have hlt:=(A0e.1 hx).1;have hn:=k.len i e;have r:j*E.sz+kk+SV.width svs<=d*E.sz:=by
    have:(j+1)*E.sz<=d*E.sz:=A0k _ Y;rw[A3Y] at this;omega
  refine TJ ss A28 (b:=b) (off:=j*E.sz+kk) (cur:=cur) (bt:=bt) ?_ m Y (o _ (k.oput i e rfl m (j*E.sz+kk) (SV.cl svs) A2K (E.Y0 hx hy (by rw[jr];exact hl)) (by rw[jr];exact r)));rw[hp rfl];simp[fa,add0]
theorem Op_mst{ty t:TypeId}{p x a h g}{E:Enc α}(ss:A00)(i:Nat){e sv svs A c G}{xs:List α}{j}{x0:α}(y:α){kk}(A28:(Ep ops ss L (⟨none,.store t p x,ty,a,h,g⟩:Oper),(none:A03),(toSS [p,x] (lk L)).map SV.vals,FP P t,cellsS sv,svs.all SV.one1)=(true,none,some [.pointer e,sv.val],some (SV.width svs),some svs,true))(hp:Pt A (j*E.sz+kk) e)(k:Cx F O w0 w hs)(l:hs[i]?=some (Mw E A c xs G))(hx:xs[j]?=some x0)(q:A.isSome=true)(hy:E.f y=pat (E.f x0) kk (SV.cl svs))(hl:kk+SV.width svs<=E.sz)(m:∀ w',Cx F O w0 w' (hs.set i (Mw E A c (xs.set j y) G))->K L w') :
    Dv P n ops L w ⟨none,.store t p x,ty,a,h,g⟩ K:=by
  have hlt:=(A0e.1 hx).1;have hn:=k.mlen i l;have r:j*E.sz+kk+SV.width svs<=c*E.sz:=by
    have:(j+1)*E.sz<=c*E.sz:=A0k _ Y;rw[A3Y] at this;omega
  obtain⟨rfl,cur,o,hsz,d⟩:=k.mput i l q (j*E.sz+kk) (SV.cl svs) (xs':=xs.set j y) A2K (E.Y0 hx hy (by rw[jr];exact hl)) (by rw[jr];exact r);refine TJ ss A28 (b:=G.g) (off:=G.pre.length+(j*E.sz+kk)) (cur:=cur) (bt:=G.t) ?_ o Y (m _ d);rw[hp rfl];simp[fa,add0]
theorem Op_box{c}{ty t:TypeId}{x e m g}(ss:A00)(d:Nat)(sv:SV)(cs:List SV)(A28:(Ep ops ss L ⟨c,.box t x,ty,e,m,g⟩,c,(decide (d < n)),(L.any fun p=>p.1 == d),(toSS [x] (lk L)).map SV.vals,(cellsS sv).map SV.cl)=(true,some d,true,false,some [sv.val],some (SV.cl cs)))(k:Cx F O w0 w hs)(y:∀ b w',Cx F O w0 w' (hs++[Bx t b cs])->K ((d,.v (.pointer (some ⟨b,0,none⟩)))::L) w') :
    Dv P n ops L w ⟨c,.box t x,ty,e,m,g⟩ K:=by
  simp only[A2c,lm,A0M] at A28;obtain⟨u,rfl,s,r,⟨svs,q,j⟩,⟨cs',o,i⟩⟩:=A28;refine DU (xs:=[x]) (svs:=svs) ss (d:=d) (by simp[Side,u,s,r,q]) fun a ha l=>?_;rw[j] at l;simp only[kw,A2q,A2u,A49] at l;have h:=Oa o;rw[i] at h;have f:(Instr.box t (a.eval x)).run P w=.ok (.pointer (some ⟨w.heap.size,0,none⟩)) (w.alloc (.cells ⟨SV.cl cs⟩ t)):=by
    rw[l,<-h];rfl
  unfold Oper.wp execOp;simp only[A2e,f,A2b,A2d];exact⟨.v (.pointer (some ⟨w.heap.size,0,none⟩)),rfl,y w.heap.size _ (k.new _ (Bx t w.heap.size cs) ⟨Rw.new w _ _,rfl⟩)⟩
theorem Op_alloc{c}{ty t:TypeId}{e j g}(ss:A00)(d:Nat)(cs:List SV)(A28:(Ep ops ss L ⟨c,.alloc t,ty,e,j,g⟩,c,(decide (d < n)),(L.any fun p=>p.1 == d),(zeroS P t).map SV.cl)=(true,some d,true,false,some (SV.cl cs)))(k:Cx F O w0 w hs)(s:∀ b w',Cx F O w0 w' (hs++[Bx t b cs])->K ((d,.v (.pointer (some ⟨b,0,none⟩)))::L) w') :
    Dv P n ops L w ⟨c,.alloc t,ty,e,j,g⟩ K:=by
  simp only[A2c,lm,A0M] at A28;obtain⟨r,rfl,q,o,⟨cs',m,l⟩⟩:=A28;refine DU (xs:=[]) (svs:=[]) ss (d:=d) (by simp[Side,r,q,o,toSS]) fun a ha he=>?_;obtain⟨z,i,f⟩:=MH m w;rw[l] at f;have h:(Instr.alloc t true (.tuple #[])).run P w=.ok (.pointer (some ⟨w.heap.size,0,none⟩)) (w.alloc (.cells ⟨SV.cl cs⟩ t)):=by
    rw[<- f];simp only[Instr.alloc,A2e,i,A2b];rfl
  unfold Oper.wp execOp;simp only[A2e,h,A2b,A2d];exact⟨.v (.pointer (some ⟨w.heap.size,0,none⟩)),rfl,s w.heap.size _ (k.new _ (Bx t w.heap.size cs) ⟨Rw.new w _ _,rfl⟩)⟩
def lcp (xs:List α)(lo n:Nat)(ys:List α):List α:=xs.take lo++ys.take n++xs.drop (lo+min n ys.length)
theorem VX{xs:List α}{ys:List α}{lo n}(h:lo+n<=xs.length):(lcp xs lo n ys).length=xs.length:=by
  simp only[lcp,Pi,A0T,A0m];omega
theorem lcp_all(E:Enc α){xs:List α}{ys:List α}{lo n}(h:lo+n<=xs.length):E.all (lcp xs lo n ys)=pat (E.all xs) (lo*E.sz) (E.all (ys.take n)):=by
  simp only[lcp,pat,Enc.all_append,Enc.G6,Enc.g_,A0T];rw[<- A3Y,Enc.Ri]
theorem lcp_nil{xs:List α}{ys:List α}{lo n}(h:min n ys.length=0):lcp xs lo n ys=xs:=by
  have:ys.take n=[]:=by
    apply A2y;rw[A0T];exact h
  simp[lcp,this,h]
def Pw (A:EQ)(off n:Nat)(p:EQ):Prop:=A.isSome=true->p.isSome=true/\(n≠0->p=fa A off)
theorem run_copy{t t2 ty e:TypeId}{zs bytes}(tf:TF P t e zs bytes){b off cur}{bt:TypeId}{x m dn dc news}(hb:Rw w b cur bt)(hx:Src P zs.length w x m news)(h1:∀ u ∈ news,u.oneCell'=true)(hl:off+dn*zs.length<=cur.size) :
    (Builtin.copy_ #[t,t2] ty #[.slice (some ⟨b,off,none⟩) dn dc,x]).run P w=.ok (.int .i64 (min m dn:Nat)) (w.setRow b (pat cur.toList off (news.take (min m dn*zs.length))).toArray):=by
  obtain⟨i,z,hi,hz,hzc,hsz,hby⟩:=tf.parts;have Oe:(sizeOf e).run P w=.ok zs.length w:=by rw[<- hsz];exact Ad hi w
  have hc:=hx.cells (min m dn) w (Nat.min_le_left _ _) rfl;have hll:(news.take (min m dn*zs.length)).length<=dn*zs.length:=by
    rw[A0T];exact A0a (Nat.min_le_left _ _) (A0k _ (Nat.min_le_right _ _))
  have hst:=vV P b off bt (news.take (min m dn*zs.length)) 0 cur w hb (by simp only[A3S];omega) (fun u hu=>h1 u (List.mem_of_mem_take hu));simp only[A3S] at hst;have hmin:Nat.min m dn=min m dn:=rfl;simp only[Builtin.copy_,List.getElem?_toArray,A3l,A3R,A2e,run_underlying tf.ht,A2b,hx.len,Oe,hmin,hc,hst,A2d];rfl
theorem VY{dst x y}{t t2 ty:TypeId}{pos kX g}{e:TypeId}{zs:List Value}{bytes:Nat}(tf:TF P t e zs bytes)(ss:A00)(d:Nat){pa}{dn:Nat}{dc:Nat}{m:Nat}{v:SV}{news:List Value}(A28:(Ep ops ss L ⟨dst,.call ⟨.builtin .copy,#[x,y],#[t,t2]⟩,ty,pos,kX,g⟩,dst,(decide (d < n)),(L.any fun p=>p.1 == d),(toSS [x,y] (lk L)).map SV.vals)=(true,some d,true,false,some [.slice pa dn dc,v.val])){b:Nat}{off:Nat}{cur:Array Value}{bt:TypeId}(hp:pa=some ⟨b,off,none⟩)(hb:Rw w b cur bt)(hx:Src P zs.length w v.val m news)(h1:∀ u ∈ news,u.oneCell'=true)(hl:off+dn*zs.length<=cur.size)(hk:K ((d,.i .i64 (min m dn:Nat))::L) (w.setRow b (pat cur.toList off (news.take (min m dn*zs.length))).toArray)) :
    Dv P n ops L w ⟨dst,.call ⟨.builtin .copy,#[x,y],#[t,t2]⟩,ty,pos,kX,g⟩ K:=by
  simp only[A2c,A0M,lm] at A28;obtain⟨s1,rfl,s3,s4,⟨svs,s5,s6⟩⟩:=A28;subst hp;refine DU (xs:=[x,y]) (svs:=svs) ss (d:=d) (by simp[Side,s1,s3,s4,s5]) fun a ha he=>?_;rw[s6] at he;simp only[kw,A2q,A2u,A49] at he;have hrun:=run_copy (P:=P) (w:=w) (t2:=t2) (ty:=ty) (dc:=dc) tf hb hx h1 hl;unfold Oper.wp execOp;simp only[resolve,invoke,builtin,A2e,A2d,A2b,A3o,kw,A2q,he.1,he.2,hrun];exact⟨.i .i64 (min m dn:Nat),rfl,hk⟩
theorem pat_nil(l:List Value)(k a:Nat):pat l k []=pat l a []:=by simp[pat,A32]
theorem Op_bcp{dst x y}{t t2 ty:TypeId}{pos kX g}{e:TypeId}{zs:List Value}{bytes:Nat}(tf:TF P t e zs bytes){E:Enc α}(ss:A00)(d i:Nat){pa}{dn:Nat}{dc:Nat}{m:Nat}{v:SV}{src:List α}{bt:TypeId}{b:Nat}{off:Nat}{ys}(vs:List SV)(A28:(Ep ops ss L ⟨dst,.call ⟨.builtin .copy,#[x,y],#[t,t2]⟩,ty,pos,kX,g⟩,dst,(decide (d < n)),(L.any fun p=>p.1 == d),(toSS [x,y] (lk L)).map SV.vals)=(true,some d,true,false,some [.slice pa dn dc,v.val]))(hE:E.sz=zs.length)(hp:Pw (some ⟨b,0,none⟩) off dn pa)(k:Cx F O w0 w hs)(hi:hs[i]?=some (Bx bt b ys))(hx:Src P zs.length w v.val m (E.all src))(hm:src.length=m)(hz:SV.cl vs=pat (SV.cl ys) off (E.all (src.take dn)))(hl:off+dn*E.sz<=SV.width ys)(hsp:∀ a,pa=some a->a.block=b/\a.spot=none/\a.off<=SV.width ys)(hk:∀ w',Cx F O w0 w' (hs.set i (Bx bt b vs))->K ((d,.i .i64 (min m dn:Nat))::L) w') :
    Dv P n ops L w ⟨dst,.call ⟨.builtin .copy,#[x,y],#[t,t2]⟩,ty,pos,kX,g⟩ K:=by
  have htk:(E.all src).take (min m dn*zs.length)=E.all (src.take dn):=by
    rw[<- hE,Enc.G6];congr 1;rw[<- hm];rw[List.take_eq_take_iff];omega
  obtain⟨q1,q2⟩:=hp rfl;by_cases hdn:dn=0
  ·subst hdn;obtain⟨⟨pb,po,ps⟩,rfl⟩:=Option.isSome_iff_exists.1 q1;obtain⟨rfl,hsp2,hsp3⟩:=hsp _ rfl;simp only at hsp2 hsp3;subst hsp2;refine VY tf ss d A28 (b:=pb) (off:=po) (cur:=⟨SV.cl ys⟩) (bt:=bt) rfl (k.bxh i hi) hx (E.MI src) (by simpa [jr] using hsp3) ?_;rw[htk];refine hk _ (k.bput i hi po _ ?_ (by simpa [Enc.all] using hsp3));rw[hz];simp only[List.take_zero];exact pat_nil _ _ _
  ·have hpa:=q2 hdn;simp only[fa,A31,add0,Nat.zero_add] at hpa;refine VY tf ss d A28 (b:=b) (off:=off) (cur:=⟨SV.cl ys⟩) (bt:=bt) hpa (k.bxh i hi) hx (E.MI src) (by simpa [jr,<-hE] using hl) ?_;rw[htk];exact hk _ (k.bput i hi off _ hz (by
     rw[Enc.g_];have:(src.take dn).length*E.sz<=dn*E.sz:=A0k _ (by rw[A0T];omega);omega))
end
end
section
open Go.RowKit
set_option linter.unusedSimpArgs false
set_option linter.unusedVariables false
variable {α β:Type}
abbrev I (n:Int):SV:=.i .i64 n
abbrev sl (A:EQ)(n c:Nat):SV:=.v (.slice A n c)
abbrev M{α:Type}(A:EQ)(x:List α)(c:Nat):SV:=sl A x.length c
abbrev A2D(p:Prop)[Decidable p]:SV:=.b (decide p)
abbrev pt (g off:Nat):SV:=.v (.pointer (some ⟨g,off,none⟩))
abbrev ax (n:Int):Int:=IntKind.i64.wrap n
theorem bC{σ ρ:Type}{e:Option ρ}{y:σ⊕ρ}{r:ρ}(hm:e.map Sum.inr=some y)(b:∀ a,y=.inr a->a=r):e=some r:=by
  simp only[A0M] at hm;obtain⟨a,c,hy⟩:=hm;rw[c,b a hy.symm]
def aP (xs:List α)(i:Int):Option α:=if 0<=i then xs[i.toNat]? else none
theorem aS{xs:List α}{i}{x:α}(h:aP xs i=some x):0<=i/\xs[i.toNat]?=some x:=by
  unfold aP at h;split at h
  ·exact⟨by assumption,h⟩
  ·cases h
theorem fF{xs:List α}{i}{x:α}(h:aP xs i=some x):0<=i/\i < xs.length:=by
  obtain⟨h1,a⟩:=aS h;have:=(A0e.1 a).1;omega
theorem fG{xs:List α}{i}(h:i < xs.length):aP xs (i:Int)=some xs[i]:=by
  unfold aP;rw[A3p Y];simp[h]
def IJ {β:Type}[Inhabited β](c:Bool)(o:Option β):Option β:=if c then o else some default
theorem yI{β:Type}[Inhabited β]{c}{o:Option β}{x:β}(h:IJ c o=some x)(a:c=true):o=some x:=by
  subst a;simpa [IJ] using h
theorem Gx{β:Type}[Inhabited β]{c}{o:Option β}{x:β}(h:IJ (!c) o=some x)(a:c=false):o=some x:=by
  subst a;simpa [IJ] using h
def Iw (xs:List α)(lo a:Int):Option (List α):=if 0<=lo/\lo<=a/\a<=xs.length then some ((xs.take a.toNat).drop lo.toNat) else none
theorem jg{xs:List α}{ys:List α}{lo a}(h:Iw xs lo a=some ys):0<=lo/\lo<=a/\a<=xs.length/\ys=(xs.take a.toNat).drop lo.toNat:=by
  unfold Iw at h;split at h
  ·rename_i b;simp only[A2a] at h;exact⟨b.1,b.2.1,b.2.2,h.symm⟩
  ·cases h
theorem rJ{xs:List α}{ys:List α}{lo a}(h:Iw xs lo a=some ys):ys.length=a.toNat - lo.toNat:=by
  obtain⟨h1,h2,h3,rfl⟩:=jg h;simp;omega
theorem slx(A:EQ)(l m s n a:Nat)(hn:n=a)(hm:a<=m - l):∃ A2 b,Value.slice (Iu A l m s) n (m - l)=.slice A2 a b/\a<=b/\A2=Iu A l m s/\b=m - l:=by
  subst hn;exact⟨_,_,rfl,hm,rfl,rfl⟩
theorem VZ(A:EQ)(m s:Nat):Iu A 0 m s=A:=by
  unfold Iu;split
  ·rfl
  ·cases A with
   | none=>rfl
   | some a=>simp[Addr.add]
theorem FQ(A:EQ)(m s n a:Nat)(hn:n=a):Value.slice (Iu A 0 m s) (n - 0) (m - 0)=.slice A a m:=by
  rw[VZ];subst hn;rfl
theorem Rd.cut{w A A2}{E:Enc α}{xs:List α}{ys:List α}{lo g l m s}(h:Rd w A (E.all xs))(hs:Iw xs lo g=some ys)(hl:l=lo.toNat)(f:s=E.sz)(n:A2=Iu A l m s)(hm:g.toNat<=m):Rd w A2 (E.all ys):=by
  obtain⟨h1,h2,h3,rfl⟩:=jg hs;subst n;subst hl;subst f;by_cases i:m=lo.toNat
  ·have:(xs.take g.toNat).drop lo.toNat=[]:=by
     apply A2y;simp;omega
   rw[this];exact⟨fun h=>absurd rfl h,fun _ j u _ c=>by simp[Enc.all] at c⟩
  ·unfold Iu;rw[A3q i];rw[<- Enc.Ri,<-Enc.G6];refine⟨fun hne=>?_,fun a j u d c=>?_⟩
   ·obtain⟨a,d⟩:=h.1 (by intro e;rw[e] at hne;simp at hne);exact⟨_,by rw[d];rfl⟩
   ·simp only[A0M] at d;obtain⟨b,k,rfl⟩:=d;rw[MJ];refine h.2 b _ u k ?_;rw[A3Q,List.getElem?_take] at c;split at c
    ·exact c
    ·cases c
theorem Rd.pre{w A}{E:Enc α}{xs:List α}{ys:List α}{lo a}(h:Rd w A (E.all xs))(hs:Iw xs lo a=some ys)(hl:lo=0):Rd w A (E.all ys):=by
  have:=h.cut hs rfl rfl (l:=lo.toNat) (m:=a.toNat+1) rfl Y;subst hl
  rwa [show Int.toNat 0=0 from rfl,VZ] at this
theorem Ro.cut{F w A A2}{E:Enc α}{xs:List α}{ys:List α}{lo f l m s}(h:Ro F w A (E.all xs))(hs:Iw xs lo f=some ys)(hl:l=lo.toNat)(d:s=E.sz)(g:A2=Iu A l m s)(hm:f.toNat<=m):Ro F w A2 (E.all ys):=by
  refine⟨h.1.cut hs hl d g hm,fun hne a c=>?_⟩;have i:E.all xs≠[]:=by
    intro e;apply hne;obtain⟨_,_,_,rfl⟩:=jg hs;rw[<- Enc.Ri,<-Enc.G6,e];simp
  subst g;unfold Iu at c;split at c
  ·exact h.2 i a c
  ·simp only[A0M] at c;obtain⟨b,j,rfl⟩:=c;rw[Jq];exact h.2 i b j
def app (xs ys:List α)(b:Nat):Option (List α):=if(xs.length+ys.length)*b<=140737488355328 then some (xs++ys) else none
theorem eU{xs:List α}{ys:List α}{a:List α}{b}(h:app xs ys b=some a):(xs.length+ys.length)*b<=140737488355328/\a=xs++ys:=by
  unfold app at h;split at h
  ·simp only[A2a] at h;exact⟨by assumption,h.symm⟩
  ·cases h
def need (p:Prop)[Decidable p]:Option Unit:=if p then some () else none
theorem bI{p}[Decidable p]{u}(h:need p=some u):p:=by
  unfold need at h;split at h
  ·assumption
  ·cases h
theorem ja{A}(i:Int)(s:Nat)(h:A.isSome=true):(jA A i s).isSome=true:=by
  cases A with
  | none=>cases h
  | some a=>rfl
theorem Rd.ix{w A}{E:Enc α}{xs:List α}{i}{x:α}{n}(h:Rd w A (E.all xs))(b:aP xs i=some x)(hn:xs.length=n)(a:0 < E.sz):0<=i/\i < (n:Int)/\A.isSome=true:=by
  have c:=fF b;exact⟨c.1,Y,oh h a c.1 (aS b).2⟩
theorem Rd.el{w A p}{E:Enc α}{xs:List α}{i}{x:α}{k v}(h:Rd w A (E.all xs))(c:aP xs i=some x)(hp:Pt A (i.toNat*E.sz+k) p)(b:(E.f x)[k]?=some v):∃ a,p=some a/\w.cell? a=some v :=
  h.cellP hp (E.all_cell (aS c).2 b)
theorem Rd.els{w A p}{E:Enc α}{xs:List α}{i}{x:α}{k m vs}(h:Rd w A (E.all xs))(d:aP xs i=some x)(hp:Pt A (i.toNat*E.sz+k) p)(c:((E.f x).drop k).take m=vs)(hm:0 < m)(hkm:k+m<=E.sz):∃ a,p=some a/\Rd w (some a) vs:=by
  obtain⟨h0,hx⟩:=aS d;have hlt:=(A0e.1 hx).1;have b:i.toNat*E.sz+k+m<=(E.all xs).length:=by
    rw[Enc.g_];have:(i.toNat+1)*E.sz<=xs.length*E.sz:=A0k _ Y;rw[A3Y] at this;omega
  obtain⟨a,g,hr⟩:=h.partP hp b hm;refine⟨a,g,?_⟩;rw[<- c];have e:=E.YY hx;rw[<- e,List.drop_take,List.take_take,A0j]
  rwa [show min m (E.sz - k)=m from by omega]
theorem Pt.vH(A:EQ)(i:Int)(s:Nat):Pt A (i.toNat*s+0) (jA A i s):=by
  have:=(Pt.refl A).ix i s
  rwa [Nat.zero_add] at this
theorem Pt.fa2{A p t j}(h:Pt A (t+j) p)(k:Nat):Pt A (t+(j+k)) (Sx.fa p k):=by
  have:=h.fa k
  rwa [Nat.add_assoc] at this
def Vec.rep (n:Nat)(x:α):Vec α n:=⟨List.replicate n x,A2K⟩
def oP {n:Nat}(x:Vec α n)(i:Int)(y:α):Vec α n:=⟨x.l.set i.toNat y,by simp[x.h]⟩
def vcp {n:Nat}(x:Vec α n)(lo m:Nat)(ys:List α):Vec α n:=if h:lo+m<=n then⟨lcp x.l lo m ys,by rw[VX (by rw[x.h];exact h),x.h]⟩ else x
theorem Rd.vec{w g ys off c}(h:Rd w (some ⟨g,0,none⟩) (SV.cl ys))(hd:((Ko off ys).bind List.head?).map (fun v=>(v.Qa,v.val))=some (true,.agg ⟨c⟩)):Rd w (some ⟨g,off,none⟩) c:=by
  simp only[A0M,A0d,A2c] at hd;obtain⟨v,⟨l,hl,e⟩,d,b⟩:=hd;obtain⟨m,e2⟩:=Me _ _ _ hl;cases l with
  | nil=>cases e
  | cons y l =>
    simp only[List.head?_cons,A2a] at e;subst e;cases y with
    | vec n z =>
      simp only[SV.val,Value.agg.injEq,Array.mk.injEq] at b;subst b;refine⟨fun _=>⟨_,rfl⟩,fun a j u i f=>?_⟩;cases i;have k:(SV.cl ys)[off+j]?=some u:=by
        rw[<- A3Q,m,F5,A3M (A0e.1 f).1];exact f
      have:=h.2 ⟨g,0,none⟩ (off+j) u rfl k;rw[add0] at this ⊢;simpa using this
    | _=>cases d
theorem cl_vput(b a:List SV){n}(c d:Cells n)(k:Nat)(vs:List Value)(h:d.l=pat c.l k vs)(e:k+vs.length<=n):SV.cl (b++.vec n d::a)=pat (SV.cl (b++.vec n c::a)) (SV.width b+k) vs:=by
  rw[Qu,Qu,F5,F5,h,<-jr,<-lw,<-lw];rw[YZ _ _ _ _ _ (by rw[c.h];exact e)]
theorem Pq(xs ys:List SV):SV.width (xs++ys)=SV.width xs+SV.width ys:=by
  rw[<- jr,Qu,Pi,jr,jr]
theorem Pt.at(g off:Nat):Pt (Option.some ⟨g,0,none⟩) off (Option.some ⟨g,off,none⟩):=fun _=>by simp[Sx.fa,add0]
theorem Pt.Iy{A p o}(h:Pt A o p)(i:Int)(s:Nat):Pt A (o+(i.toNat*s+0)) (jA p i s):=h.ix i s
section
variable {P:Program}{n:Nat}{ops:Array Oper}{L:St}{w w0:World}{F O:Nat->Prop}{hs:List HP}{K:St->World->Prop}
theorem Op_vst{ty t:TypeId}{p x d r g}{E:Enc α}(ss:A00)(i:Nat){q sv svs}{bt:TypeId}{b}(c a:List SV){m}(x0:Vec α m){j}{s:α}(y:α){kk}(A28:(Ep ops ss L (⟨none,.store t p x,ty,d,r,g⟩:Oper),(none:A03),(toSS [p,x] (lk L)).map SV.vals,FP P t,cellsS sv,svs.all SV.one1)=(true,none,some [.pointer q,sv.val],some (SV.width svs),some svs,true))(hp:Pt (some ⟨b,0,none⟩) (SV.width c+(j.toNat*E.sz+kk)) q)(k:Cx F O w0 w hs)(v:hs[i]?=some (Bx bt b (c++.vec (m*E.sz) (E.vec x0)::a)))(hx:aP x0.l j=some s)(hy:E.f y=pat (E.f s) kk (SV.cl svs))(hl:kk+SV.width svs<=E.sz)(u:∀ w',Cx F O w0 w' (hs.set i (Bx bt b (c++.vec (m*E.sz) (E.vec (oP x0 j y))::a)))->K L w') :
    Dv P n ops L w ⟨none,.store t p x,ty,d,r,g⟩ K:=by
  obtain⟨h0,e⟩:=aS hx;have o:=(A0e.1 e).1;rw[x0.h] at o;have z:j.toNat*E.sz+kk+SV.width svs<=m*E.sz:=by
    have:(j.toNat+1)*E.sz<=m*E.sz:=A0k _ Y;rw[A3Y] at this;omega
  refine Op_bst ss i (c++.vec (m*E.sz) (E.vec (oP x0 j y))::a) A28 hp k v (cl_vput c a (E.vec x0) (E.vec (oP x0 j y)) _ _ (E.Y0 e hy (by rw[jr];exact hl)) (by rw[jr];exact z)) ?_ u;rw[Pq];simp only[SV.width];omega
theorem Op_vcp{j x y}{t t2 ty:TypeId}{r z g}{e:TypeId}{s:List Value}{o:Nat}(A:TF P t e s o){E:Enc α}(ss:A00)(d i:Nat){u}{lo:Nat}{dn:Nat}{dc:Nat}{m:Nat}{m':Nat}{v:SV}{src:List α}{bt:TypeId}{b:Nat}(f c:List SV){N:Nat}(x0:Vec α N)(A28:(Ep ops ss L ⟨j,.call ⟨.builtin .copy,#[x,y],#[t,t2]⟩,ty,r,z,g⟩,j,(decide (d < n)),(L.any fun p=>p.1 == d),(toSS [x,y] (lk L)).map SV.vals,E.sz)=(true,some d,true,false,some [.slice u dn dc,v.val],s.length))(hp:u=Iu (some ⟨b,SV.width f,none⟩) lo m' E.sz)(k:Cx F O w0 w hs)(J:hs[i]?=some (Bx bt b (f++.vec (N*E.sz) (E.vec x0)::c)))(hx:Src P s.length w v.val m (E.all src))(hm:src.length=m)(hl:lo+dn<=N)(hdc:dn<=m' - lo)(hm':m'<=N)(I:∀ w',Cx F O w0 w' (hs.set i (Bx bt b (f++.vec (N*E.sz) (E.vec (vcp x0 lo dn src))::c)))->K ((d,.i .i64 (min m dn:Nat))::L) w') :
    Dv P n ops L w ⟨j,.call ⟨.builtin .copy,#[x,y],#[t,t2]⟩,ty,r,z,g⟩ K:=by
  simp only[A2c] at A28;obtain⟨H,G,D,C,B,M⟩:=A28;have hle:lo*E.sz+dn*E.sz<=N*E.sz:=by rw[<- A3Y];exact A0k _ hl
  refine Op_bcp A ss d i (off:=SV.width f+lo*E.sz) (f++.vec (N*E.sz) (E.vec (vcp x0 lo dn src))::c) (by rw[H,G,D,C,B]) M ?_ k J hx hm ?_ ?_ ?_ I
  ·intro _;subst hp;unfold Iu;split
   ·exact⟨rfl,fun hd=>by omega⟩
   ·exact⟨rfl,fun _=>by simp[fa,add0]⟩
  ·refine cl_vput f c (E.vec x0) (E.vec (vcp x0 lo dn src)) _ _ ?_ ?_
   ·show E.all (vcp x0 lo dn src).l=_;unfold vcp;rw[dif_pos hl];exact lcp_all E (by rw[x0.h];exact hl)
   ·rw[Enc.g_];have:(src.take dn).length*E.sz<=dn*E.sz:=A0k _ (by rw[A0T];omega);omega
  ·rw[Pq];simp only[SV.width];omega
  ·intro a q;subst hp;unfold Iu at q;rw[Pq];simp only[SV.width];split at q
   ·simp only[A2a] at q;subst q;exact⟨rfl,rfl,A2K⟩
   ·rename_i hne;simp only[A31,A2a] at q;subst q;rw[add0];exact⟨rfl,rfl,by simp only;omega⟩
end
end
section
open Go.RowKit
set_option linter.unusedSimpArgs false
set_option linter.unusedVariables false
variable {α β:Type}
section
variable {P:Program}{n:Nat}{ops:Array Oper}{L:St}{w w0:World}{F O:Nat->Prop}{hs:List HP}{K:St->World->Prop}
theorem set_self{h i}(a:hs[i]?=some h):hs.set i h=hs:=by
  obtain⟨hl,rfl⟩:=A0e.1 a;exact List.set_getElem_self hl
theorem V3{o f xs b}(ss:A00)(d:Nat)(svs:List SV){R}(hs:(Ep ops ss L o,o.dst,(decide (d < n)),(L.any fun p=>p.1 == d),(toSS xs (lk L)).map SV.vals)=(true,some d,true,false,some b))(c:∀ a:Act,xs.map a.eval=b->(execOp a.eval o).run P w=.ok (.enter f (vals svs)) w)(r:Calls P f (vals svs) w R)(q:∀ e w',R e w'->∃ x,e=.returned x.val/\K ((d,x)::L) w'):Dv P n ops L w o K:=by
  simp only[A2c,A0M,lm] at hs;obtain⟨m,g,l,k,⟨vs,j,i⟩⟩:=hs;refine DU (xs:=xs) (svs:=vs) ss (d:=d) (by simp[Side,m,g,l,k,j]) fun a ha h=>?_;rw[i] at h;unfold Oper.wp;rw[c a h];refine r.mono fun e w' s=>?_;obtain⟨x,rfl,hx⟩:=q e w' s;exact⟨x,by rw[g],hx⟩
theorem uQ{c f xs i}{ty:TypeId}{h k g}(ss:A00)(d:Nat)(svs:List SV){R}(j:dV P f)(hs:(Ep ops ss L ⟨c,.call ⟨.value (.func f),xs,i⟩,ty,h,k,g⟩,c,(decide (d < n)),(L.any fun p=>p.1 == d),(toSS xs.toList (lk L)).map SV.vals)=(true,some d,true,false,some (SV.vals svs)))(o:Calls P f (vals svs) w R)(l:∀ e w',R e w'->∃ x,e=.returned x.val/\K ((d,x)::L) w') :
    Dv P n ops L w ⟨c,.call ⟨.value (.func f),xs,i⟩,ty,h,k,g⟩ K:=by
  refine V3 ss d svs hs (fun a m=>?_) o l;have b:(#[]++xs.map a.eval++#[]:Array Value)=vals svs:=by
    apply Array.ext';simp[vals,<-m]
  show(callFunc f (#[]++xs.map a.eval++#[])).run P w=_;rw[b];exact j.run _ w
theorem Ag{h f c xs j}{ty:TypeId}{i m g}(ss:A00)(d:Nat)(first args cap:List SV){R}(k:dV P f)(hs:(Ep ops ss L ⟨h,.call ⟨.value c,xs,j⟩,ty,i,m,g⟩,h,(decide (d < n)),(L.any fun p=>p.1 == d),(toSS (c::xs.toList) (lk L)).map SV.vals)=(true,some d,true,false,some (.func (.func f) ⟨SV.vals first⟩ ⟨SV.vals cap⟩::SV.vals args)))(q:Calls P f (vals (first++args++cap)) w R)(o:∀ e w',R e w'->∃ x,e=.returned x.val/\K ((d,x)::L) w') :
    Dv P n ops L w ⟨h,.call ⟨.value c,xs,j⟩,ty,i,m,g⟩ K:=by
  refine V3 ss d (first++args++cap) hs (fun a l=>?_) q o;simp only[kw,A2u] at l;have b:((⟨SV.vals first⟩:Array Value)++xs.map a.eval++⟨SV.vals cap⟩:Array Value)=vals (first++args++cap):=by
    apply Array.ext';simp[vals,vals_eq];exact l.2.trans (vals_eq args)
  unfold execOp;simp only[resolve,l.1,Deferred.ofValue,invoke,A2e,A2d,A2b,b];exact k.run _ w
theorem TK{i f c name xs m}{ty:TypeId}{j q g}(ss:A00)(d:Nat)(t:TypeId)(b:SV)(args:List SV){R}(k:∀ (v:EQ) (l:Array Value) (w:World),(callMethod (.iface t (.pointer v)) name l).run P w=.ok (.enter f (#[.pointer v]++l)) w){v}(r:b.val=.pointer v)(hs:(Ep ops ss L ⟨i,.call ⟨.invoke c name,xs,m⟩,ty,j,q,g⟩,i,(decide (d < n)),(L.any fun p=>p.1 == d),(toSS (c::xs.toList) (lk L)).map SV.vals)=(true,some d,true,false,some (.iface t b.val::SV.vals args)))(y:Calls P f (vals (b::args)) w R)(u:∀ e w',R e w'->∃ x,e=.returned x.val/\K ((d,x)::L) w') :
    Dv P n ops L w ⟨i,.call ⟨.invoke c name,xs,m⟩,ty,j,q,g⟩ K:=by
  refine V3 ss d (b::args) hs (fun a o=>?_) y u;simp only[kw,A2u] at o;have h:(#[a.eval c]++xs.map a.eval:Array Value)=⟨.iface t (.pointer v)::SV.vals args⟩:=by
    apply Array.ext';simp[o.1,<-o.2,r]
  have s:vals (b::args)=⟨.pointer v::SV.vals args⟩:=by simp[vals,SV.vals,r]
  unfold execOp;simp only[resolve,A2e,A2d,A2b,h,s,invoke];have A:(⟨.iface t (.pointer v)::SV.vals args⟩:Array Value)[0]?=some (.iface t (.pointer v)):=rfl;have z:(⟨.iface t (.pointer v)::SV.vals args⟩:Array Value).extract 1 (⟨.iface t (.pointer v)::SV.vals args⟩:Array Value).size=⟨SV.vals args⟩:=by
    apply Array.ext';simp
  simp only[A,z,k];congr 2;apply Array.ext';simp
theorem Ro.of_rest {E:Enc α}{A:EQ}{m c:Nat}{xs:List α}{F1 O1:Nat->Prop}{rest:List HP}(f:∀ (i:Nat) (h:HP),rest[i]?=some h->∃ S R,h.p w S R/\(∀ b,R b->O1 b)/\∀ b,S b->¬ F1 b)(i:Nat)(j:rest[i]?=some (Ow E A m c xs)):Ro F1 w A (E.all xs):=by
  obtain⟨S,R,h,_,k⟩:=f i _ j;refine⟨Ow.rd' h,fun _ a d=>?_⟩;rcases h.2 with⟨e,_⟩ | ⟨g,t,cur,e,_,_,_,_,_,l⟩
  ·rw[e] at d;cases d
  ·rw[e] at d;simp only[A2a] at d;subst d;exact k g l
theorem Ro.lH{A cs F1}(h:Ro F w0 A cs)(k:Cx F O w0 w hs)(f:∀ b,F1 b->F b∨w0.heap.size<=b):Ro F1 w A cs:=by
  refine⟨h.cx k,fun hne a c e=>?_⟩;rcases f _ e with d | d
  ·exact h.2 hne a c d
  ·obtain⟨v,l,rfl⟩:∃ v l,cs=v::l:=by
     cases cs with
     | nil=>exact absurd rfl hne
     | cons v l=>exact⟨v,l,rfl⟩
   have:=World.block_lt_of_cell? w0 _ (h.1.2 a 0 v c rfl);rw[Jq] at this;omega
structure Fit (E:Enc α)(A:Option Addr)(m c:Nat)(G:Win):Prop where
  pre:A.isSome=true->G.pre=[]/\m<=c/\c<=maxLen/\c*E.sz<=m*E.sz+G.post.length
  nil:A=none->c=0
theorem Cx.openM{E:Enc α}{A m c}{xs:List α}(k:Cx F O w0 w hs)(i:Nat)(b:hs[i]?=some (Ow E A m c xs)):∃ G,Fit E A m c G/\Cx F O w0 w (hs.set i (Mw E A m xs G)):=by
  obtain⟨S0,R0,j⟩:=k.get i b;rcases j.2 with⟨f,e,h3⟩ | ⟨g,t,cur,f,e,h3,n,h5,l,h7⟩
  ·subst f;refine⟨⟨0,0,[],[]⟩,⟨fun h=>(by cases h),fun _=>h3⟩,k.as i b fun S R h=>⟨h.1,.inl ⟨rfl,e⟩⟩⟩
  ·subst f;have hlen:(E.all xs).length=m*E.sz:=by rw[Enc.g_,j.1]
   refine⟨⟨g,t,[],cur.toList.drop (m*E.sz)⟩,⟨fun _=>⟨rfl,h3,n,by simp;omega⟩,fun h=>(by cases h)⟩,k.as i b fun S R h=>⟨h.1,.inr ⟨rfl,?_,?_⟩⟩⟩
   ·simp only[A37];rw[<- l,A32];exact e
   ·rcases h.2 with⟨h,_⟩ | ⟨g',t',cur',a,_,_,_,_,_,d⟩
    ·cases h
    ·simp only[A2a,Addr.mk.injEq,A49] at a;subst a;exact d
theorem Cx.shutM{E:Enc α}{A m c}{xs:List α}{G}(k:Cx F O w0 w hs)(e:Fit E A m c G)(i:Nat)(f:hs[i]?=some (Mw E A m xs G)):Cx F O w0 w (hs.set i (Ow E A m c xs)):=by
  refine k.as i f fun S R h=>⟨h.1,?_⟩
  rcases h.2 with⟨a,d⟩ | ⟨a,d,h3⟩
  ·exact .inl ⟨a,d,e.nil a⟩
  ·obtain⟨n,l,j,e4⟩:=e.pre (by rw[a];rfl);have b:(E.all xs).length=m*E.sz:=by rw[Enc.g_,h.1]
   rw[n] at a d;refine .inr ⟨G.g,G.t,_,a,d,l,j,?_,?_,h3⟩
   ·simp only[A37,A3Z,Pi];omega
   ·simp only[A37];rw[<- b,List.take_left]
theorem Op_ocp{dst x y}{t t2 ty:TypeId}{pos kX g}{e:TypeId}{zs:List Value}{bytes:Nat}(tf:TF P t e zs bytes){E:Enc α}(ss:A00)(d i:Nat){pa A}{lo:Nat}{dn:Nat}{dc:Nat}{m:Nat}{n1:Nat}{c:Nat}{l':Nat}{m':Nat}{v:SV}{src:List α}{xs:List α}(A28:(Ep ops ss L ⟨dst,.call ⟨.builtin .copy,#[x,y],#[t,t2]⟩,ty,pos,kX,g⟩,dst,(decide (d < n)),(L.any fun p=>p.1 == d),(toSS [x,y] (lk L)).map SV.vals,E.sz)=(true,some d,true,false,some [.slice pa dn dc,v.val],zs.length))(hp:pa=Iu A l' m' E.sz)(hlo:l'=lo)(hmm:dn<=m' - l')(k:Cx F O w0 w hs)(hi:hs[i]?=some (Ow E A n1 c xs))(hx:Src P zs.length w v.val m (E.all src))(hm:src.length=m)(hl:lo+dn<=n1)(hk:∀ w',Cx F O w0 w' (hs.set i (Ow E A n1 c (lcp xs lo dn src)))->K ((d,.i .i64 (min m dn:Nat))::L) w') :
    Dv P n ops L w ⟨dst,.call ⟨.builtin .copy,#[x,y],#[t,t2]⟩,ty,pos,kX,g⟩ K:=by
  subst hlo;simp only[A2c] at A28;obtain⟨s1,s2,s3,s4,s5,hE⟩:=A28;have hxl:=k.len i hi;by_cases h0:min dn src.length=0
  ·-- nothing is copied
   have hm0:min m dn=0:=Y
   simp only[A2c,A0M,lm] at s3 s5;subst s2;obtain⟨svs,s5,s6⟩:=s5;refine DU (xs:=[x,y]) (svs:=svs) ss (d:=d) (by simp[Side,s1,s3,s4,s5]) fun a ha he=>?_;rw[s6] at he;simp only[kw,A2q,A2u,A49] at he;obtain⟨i',z,hi',hz,hzc,hsz,hby⟩:=tf.parts;have Oe:(sizeOf e).run P w=.ok zs.length w:=by rw[<- hsz];exact Ad hi' w
   have hc:=hx.cells 0 w (A2p _) rfl;have hmin:Nat.min m dn=0:=hm0;have hrun:(Builtin.copy_ #[t,t2] ty #[.slice pa dn dc,v.val]).run P w=.ok (.int .i64 0) w:=by
     cases hpa:pa <;>
     simp[Builtin.copy_,run_underlying tf.ht,hx.len,Oe,hmin,hc,storeCells,goInt]
   unfold Oper.wp execOp;simp only[resolve,invoke,builtin,A2e,A2d,A2b,A3o,kw,A2q,he.1,he.2,hrun];refine⟨.i .i64 (min m dn:Nat),by rw[hm0];rfl,hk _ ?_⟩;rw[lcp_nil Y,set_self hi];exact k
  ·-- there is a row
   have hA:A.isSome=true:=by
     obtain⟨S,R,h⟩:=k.get i hi;rcases h.2 with⟨_,h2,_⟩ | ⟨g,t,cur,h1,_⟩
     ·omega
     ·rw[h1];rfl
   obtain⟨b,bt,cur,rfl,hb,hsz⟩:=k.oat i hi hA;have hpa:pa=some ⟨b,l'*E.sz,none⟩:=by
     rw[hp];unfold Iu;rw[A3q Y];simp[add0]
   have hle:l'*E.sz+dn*E.sz<=n1*E.sz:=by rw[<- A3Y];exact A0k _ hl
   have htk:(E.all src).take (min m dn*zs.length)=E.all (src.take dn):=by
     rw[<- hE,Enc.G6];congr 1;rw[<- hm,List.take_eq_take_iff];omega
   refine VY tf ss d (by rw[s1,s2,s3,s4,s5]) hpa hb hx (E.MI src) (by rw[<- hE];omega) ?_;rw[htk];refine hk _ (k.oput i hi rfl hb (l'*E.sz) _ (VX Y) (lcp_all E Y) ?_);rw[Enc.g_];have:(src.take dn).length*E.sz<=dn*E.sz:=A0k _ (by rw[A0T];omega);omega
end
structure IsAdd (P:Program)(f:FuncId):Prop where
  ok : ∃ fn, P.funcs[f]? = some fn /\ (fn.name == "runtime.NumGoroutine") = false /\ fn.body.isNone = true /\ Extern.findNext fn = none /\ Extern.find fn = some add64Entry
def add64 (x y c:UInt64):Option (UInt64×UInt64):=if c.toNat<=1 then some (UInt64.ofNat (x.toNat+y.toNat+c.toNat),UInt64.ofNat ((x.toNat+y.toNat+c.toNat) / 18446744073709551616)) else none
section
variable {P:Program}{n:Nat}{ops:Array Oper}{L:St}{w:World}{K:St->World->Prop}
theorem Op_add64{h f xs i}{ty:TypeId}{b m g}(l:IsAdd P f)(ss:A00)(d:Nat)(x y c:UInt64){r}(hs:(Ep ops ss L ⟨h,.call ⟨.value (.func f),xs,i⟩,ty,b,m,g⟩,h,(decide (d < n)),(L.any fun p=>p.1 == d),(toSS xs.toList (lk L)).map SV.vals)=(true,some d,true,false,some (SV.vals [.u64 x,.u64 y,.u64 c])))(k:add64 x y c=some r)(C:K ((d,.og [.u64 r.1,.u64 r.2])::L) w):Dv P n ops L w ⟨h,.call ⟨.value (.func f),xs,i⟩,ty,b,m,g⟩ K:=by
  simp only[A2c,A0M,lm] at hs;obtain⟨z,v,u,t,⟨vs,s,q⟩⟩:=hs;subst v;refine DU (xs:=xs.toList) (svs:=vs) ss (d:=d) (by simp[Side,z,u,t,s]) fun a ha o=>?_;rw[q] at o;unfold add64 at k;split at k
  ·rename_i hc;simp only[A2a] at k;subst k;have e:(#[]++xs.map a.eval++#[]:Array Value)=#[.int .u64 x.toNat,.int .u64 y.toNat,.int .u64 c.toNat]:=by
     apply Array.ext';simpa [SV.vals,SV.val] using o
   obtain⟨fn,G,F,h3,E,D⟩:=l.ok;have hx:=x.toNat_lt;have hy:=y.toNat_lt;have hcc:=c.toNat_lt;have j:(execOp a.eval ⟨some d,.call ⟨.value (.func f),xs,i⟩,ty,b,m,g⟩).run P w=.ok (.value (SV.og [.u64 (UInt64.ofNat (x.toNat+y.toNat+c.toNat)),.u64 (UInt64.ofNat ((x.toNat+y.toNat+c.toNat) / 18446744073709551616))]).val) w:=by
     show(callFunc f (#[]++xs.map a.eval++#[])).run P w=_;rw[e,run_callFunc_extern G F h3 E D,run_add64 x.toNat y.toNat c.toNat Y Y Y Y];have B:(UInt64.ofNat (x.toNat+y.toNat+c.toNat)).toNat=(x.toNat+y.toNat+c.toNat) % 18446744073709551616:=rfl;have A:(UInt64.ofNat ((x.toNat+y.toNat+c.toNat) / 18446744073709551616)).toNat=((x.toNat+y.toNat+c.toNat) / 18446744073709551616) % 18446744073709551616:=rfl;have I:((x.toNat:Int)+y.toNat+c.toNat) % 18446744073709551616=((UInt64.ofNat (x.toNat+y.toNat+c.toNat)).toNat:Int):=by rw[B];omega
     have H:((x.toNat:Int)+y.toNat+c.toNat) / 18446744073709551616=((UInt64.ofNat ((x.toNat+y.toNat+c.toNat) / 18446744073709551616)).toNat:Int):=by
       rw[A];simp only[Nat.reducePow] at hx hy;omega
     rw[I,H];rfl
   unfold Oper.wp;rw[j];exact⟨_,rfl,C⟩
  ·cases k
end
end
end Go.Sx
