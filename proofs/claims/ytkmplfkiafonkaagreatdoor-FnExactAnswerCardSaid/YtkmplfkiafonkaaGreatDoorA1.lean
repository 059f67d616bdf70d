/- What is here: a deterministic evaluator of the model's code over plain data (lists, numbers), by the help of which each Go function is told as a Lean function. Definitions alone. -/
import Derived.Calls
import Derived.Orders
import Derived.WalkKit
import Derived.Laws.Tables
import Derived.Laws.MakeOwn
import Derived.Laws.BytesString
import Derived.Laws.Slices
import Derived.Lib.ConvBytes
set_option linter.unusedVariables false
set_option linter.unusedSimpArgs false
set_option maxRecDepth 100000
open Go.IntKind (i64 u64 u8)
section
namespace Go.Abs
theorem aB9:∀{p:Prop}[inst:Decidable p],¬p->decide p=false:= @decide_eq_false
theorem aC0.{u_1,u_2}:∀{α:Type u_1}{β:Type u_2}(a:α)(f:α->Option β),(some a).bind f=f a:= @Option.bind_some
theorem aC1:∀{p:Prop}[inst:Decidable p],p->decide p=true:= @decide_eq_true
theorem aC2.{u}:∀{α:Type u}{as bs:List α},(as++bs).length=as.length+bs.length:= @List.length_append
theorem aC3.{u}:∀{α:Type u}{a:α}{as:List α},(a::as).length=as.length+1:= @List.length_cons
theorem aC4:∀{p:Prop}[inst:Decidable p],(decide p=true)=p:= @decide_eq_true_eq
theorem aC5.{u}:∀{α:Type u},([]:List α).length=0:= @List.length_nil
theorem aC6:∀(a b:Bool),((a&&b)=true)=(a=true/\b=true):= @Bool.and_eq_true
theorem aC7.{u}:∀{α:Type u}(as bs cs:List α),as++bs++cs=as++(bs++cs):= @List.append_assoc
theorem aC8:∀{p:Prop}{x:Decidable p},decide p=false↔¬p:= @decide_eq_false_iff_not
theorem aC9:∀(b:Bool),(true&&b)=b:= @Bool.true_and
theorem aD0:∀(b:Bool),(b&&false)=false:= @Bool.and_false
theorem aD1.{u_1}:∀{α:Sort u_1}(a b:α),(bif false then a else b)=b:= @cond_false
theorem aD2:∀(b:Bool),(false&&b)=false:= @Bool.false_and
theorem aD3:∀(b:Bool),(false||b)=b:= @Bool.false_or
theorem aD4:∀(b:Bool),(b&&true)=b:= @Bool.and_true
theorem aD5:∀(b:Bool),(b||false)=b:= @Bool.or_false
theorem aD6.{u_1}:∀{α:Sort u_1}(a b:α),(bif true then a else b)=a:= @cond_true
theorem aD7:∀(b:Bool),(true||b)=true:= @Bool.true_or
theorem aD8:∀(b:Bool),(b||true)=true:= @Bool.or_true
theorem aD9.{u_1}:∀{α:Type u_1}(y:α){a:α}{l:List α},a∈l->a∈y::l:= @List.mem_cons_of_mem
theorem aE0.{u_1}:∀{α:Type u_1}{a:α}{l:List α},a∈a::l:= @List.mem_cons_self
theorem aE1.{u_1}:∀{α:Type u_1}{l:List α}{i:Nat}(h:i<l.length),l[i]?=some l[i]:= @List.getElem?_eq_getElem
theorem aE2.{u_1}:∀{α:Type u_1}{l:List α}{i:Nat}{a:α},l.getD i a=l[i]?.getD a:= @List.getD_eq_getElem?_getD
theorem aE3.{u_1,u_2,u_3}:∀{α:Type u_1}{γ:Sort u_2}{β:Type u_3}(f:α->γ)(g:β->γ)(x:α),Sum.elim f g (Sum.inl x)=f x:= @Sum.elim_inl
theorem aE4:∀(b:Bool),(b&&b)=b:= @Bool.and_self
theorem aE5:∀(n:Nat),n<=n:= @Nat.le_refl
theorem aE6:(!true)=false:= @Bool.not_true
theorem aE7:∀{n m:Nat},n.ble m=true->n<=m:= @Nat.le_of_ble_eq_true
theorem aE8:(!false)=true:= @Bool.not_false
theorem aE9.{u_1}:∀{α:Type u_1}{a:α}{s t:List α},a∈s++t↔a∈s\/a∈t:= @List.mem_append
theorem aF0.{u}:∀{α:Type u}(as:List α),as++[]=as:= @List.append_nil
theorem aF1.{u_1,u_2}:∀{α:Type u_1}{b:α}{α_1:Type u_2}{x:Option α_1}{f:α_1->α},Option.map f x=some b↔∃a,x=some a/\f a=b:= @Option.map_eq_some_iff
theorem aF2.{u_1,u_2,u_3}:∀{α:Type u_1}{γ:Sort u_2}{β:Type u_3}(f:α->γ)(g:β->γ)(x:β),Sum.elim f g (Sum.inr x)=g x:= @Sum.elim_inr
theorem aF3.{u}:∀{α:Type u}{b:α}(as:List α){bs:List α},b∈bs->b∈as++bs:= @List.mem_append_right
theorem aF4.{u}:∀{c:Prop}{h:Decidable c},¬c->∀{α:Sort u}{t e:α},(if c then t else e)=e:= @if_neg
theorem aF5.{u_1}:∀{α:Type u_1}{i:Nat}{l:List α},(List.take i l).length=Min.min i l.length:= @List.length_take
theorem aF6.{u}:∀{α:Type u}{a:α}{as:List α}(bs:List α),a∈as->a∈as++bs:= @List.mem_append_left
theorem aF7:∀{n m k:Nat},n<m->m<=k->n<k:= @Nat.lt_of_lt_of_le
theorem aF8.{u_1}:∀{α:Type u_1}{b:α}{l:List α}{a:α},a∈b::l↔a=b\/a∈l:= @List.mem_cons
theorem aF9:∀(b:Bool),(!!b)=b:= @Bool.not_not
theorem aG0:∀(a b:Bool),((a||b)=true)=(a=true\/b=true):= @Bool.or_eq_true
theorem aG1.{u}:∀{α:Type u}(val val_1:α),(some val=some val_1)=(val=val_1):= @Option.some.injEq
theorem aG2:(false=true)=False:= @Bool.false_eq_true
theorem aG3.{u}:∀{c:Prop}{h:Decidable c},c->∀{α:Sort u}{t e:α},(if c then t else e)=t:= @if_pos
theorem aG4.{u_1}:∀{α:Type u_1}{l:List α},l.length=0->l=[]:= @List.eq_nil_of_length_eq_zero
theorem aG5.{u_1}:∀{α:Type u_1},([]:List α).Nodup:= @List.nodup_nil
theorem aG6.{u_1}:∀{α:Type u_1}{i:Nat}{l:List α},(List.drop i l).length=l.length - i:= @List.length_drop
theorem aG7.{u_1}:∀{α:Type u_1}{l:List α}{n:Nat}(h:n<l.length),l[n]∈l:= @List.getElem_mem
theorem aG8:∀(n:Nat),0<=n:= @Nat.zero_le
theorem aG9:∀{x y:Bool},(x&&y)=false↔x=false\/y=false:= @Bool.and_eq_false_iff
theorem aH0.{u_1}:∀{α:Type u_1}{l₁ l₂:List α},(l₁++l₂).Nodup↔l₁.Nodup/\l₂.Nodup/\∀(a:α),a∈l₁->∀(b:α),b∈l₂->a≠b:= @List.nodup_append
theorem aH1.{u_1,u_2}:∀{α:Type u_1}{b:α}{α_1:Type u_2}{x:Option α_1}{f:α_1->Option α},x.bind f=some b↔∃a,x=some a/\f a=some b:= @Option.bind_eq_some_iff
theorem aH2.{u,v}:∀{α:Type u}{β:Type v}(fst:α)(snd:β)(fst_1:α)(snd_1:β),((fst,snd)=(fst_1,snd_1))=(fst=fst_1/\snd=snd_1):= @Prod.mk.injEq
theorem aH3:∀(b:Bool),((!b)=true)=(b=false):= @Bool.not_eq_true'
theorem aH4.{u}:∀{α:Type u}{a:α},[a].length=1:= @List.length_singleton
theorem aH6.{u_1}:∀{α:Sort u_1}{x:Decidable False}(t e:α),(if False then t else e)=e:= @if_false
abbrev LI:=List Int
end Go.Abs
namespace Go.Abs
inductive Ty where
 |int (k:IntKind)|bool|str|sl (e:Ty)|un|pr (a b:Ty)|cl
 deriving DecidableEq
@[reducible] def Ty.den:Ty->Type
 | .int _=>Int
 | .bool=>Bool
 | .str=>List Int
 | .sl e=>List e.den
 | .un=>Unit
 | .pr a b=>a.den×b.den
 | .cl=>List Int
def Ty.Vz:(τ:Ty)->τ.den
 | .int _=>(0:Int)
 | .bool=>false
 | .str=>([]:List Int)
 | .sl _=>[]
 | .un=>()
 | .pr a b=>(a.Vz,b.Vz)
 | .cl=>([]:List Int)
def Ty.size:Ty->Nat
 | .un=>0
 | .pr a b=>a.size+b.size
 |_=>1
def Ty.flat:Ty->Bool
 | .sl _=>false
 | .cl=>false
 | .pr a b=>a.flat&&b.flat
 |_=>true
def Ty.one:Ty->Bool
 | .un=>false
 | .pr _ _=>false
 |_=>true
inductive Cell where
 |v (τ:Ty) (x:τ.den)
 |nil
 |own (id gen:Nat)
 |ptr (id gen off:Nat)
 |np
 |nf
 |fn (f:FuncId) (jJ:List (Nat×Nat))
 |err (isNil:Bool)
inductive Val where
 |one (c:Cell)
 |agg (cs:List Cell)
inductive Slot where
 |val (v:Val)
 |tb (vs:List Val)
 |ea (src:Cell) (i:Int) (off sz:Nat)
 |fa (xs:List Int) (off:Nat)
 |ga (g:Nat)
 |un
 |sk
inductive Obj where
 |box (gen:Nat) (r:Nat×List Cell)
 |own (gen:Nat) (τ:Ty) (deep:Bool) (xs:List τ.den)
 |cH (gen:Nat) (τ:Ty) (xs:List τ.den)
 |Xx (gen:Nat) (xs:List Int)
 |dead (gen:Nat)
 |iH (gen:Nat) (r:Nat×List Cell)
 |hole (gen:Nat) (τ:Ty) (xs:List τ.den) (i:Int) (off d gd:Nat)
 |mp (gen:Nat) (τ:Ty) (xs:List (Int×τ.den))
 |sA (gen:Nat) (xs:List Int) (a ag:Nat) (id bg off:Nat)
def Obj.gen:Obj->Nat
 | .box g _| .own g _ _ _| .cH g _ _| .Xx g _| .dead g| .iH g _| .sA g _ _ _ _ _ _| .hole g _ _ _ _ _ _| .mp g _ _=>g
structure St where
 env:List (Nat×Slot)
 hp:List (Nat×Obj)
def look {β:Type}:List (Nat×β)->Nat->Option β
 |[],_=>none
 |(m,b)::r,n=>bif Nat.beq m n then some b else look r n
inductive AM (α:Type):Type where
 |ret (a:α)
 |br (b:Bool) (t e:AM α)
 |fail
 |vq (t:Nat) (k:Slot->AM α)
 |AK (t:Nat) (s:Slot) (k:AM α)
 |ke (id:Nat) (k:Option Obj->AM α)
 |kr (id:Nat) (o:Obj) (k:AM α)
 |opt (c:Ty) (x:Option c.den) (k:c.den->AM α)
def AM.bind {α β:Type}:AM α->(α->AM β)->AM β
 | .ret a,f=>f a
 | .br b t e,f=> .br b (t.bind f) (e.bind f)
 | .fail,_=> .fail
 | .vq t k,f=> .vq t λs=>(k s).bind f
 | .AK t s k,f=> .AK t s (k.bind f)
 | .ke i k,f=> .ke i λo=>(k o).bind f
 | .kr i o k,f=> .kr i o (k.bind f)
 | .opt c x k,f=> .opt c x λd=>(k d).bind f
instance:Monad AM where
 pure:=AM.ret
 bind:=AM.bind
def AM.run {α:Type}:AM α->St->Option (α×St)
 | .ret a,s=>some (a,s)
 | .br b t e,s=>bif b then t.run s else e.run s
 | .fail,_=>none
 | .vq t k,s=>match look s.env t with
  |some x=>(k x).run s
  |none=>none
 | .AK t x k,s=>k.run {s with env:=(t,x)::s.env}
 | .ke i k,s=>(k (look s.hp i)).run s
 | .kr i o k,s=>k.run {s with hp:=(i,o)::s.hp}
 | .opt _ x k,s=>match x with
  |some d=>(k d).run s
  |none=>none
@[irreducible] def brk {ρ:Type}(b:Bool)(t e:Option ρ):Option ρ:=bif b then t else e
theorem dO {ρ:Type}(b:Bool)(t e:Option ρ):brk b t e=bif b then t else e:=by unfold brk;rfl
def AM.exec {α ρ:Type}:AM α->St->(α->St->Option ρ)->Option ρ
 | .ret a,s,K=>K a s
 | .br b t e,s,K=>brk b (t.exec s K) (e.exec s K)
 | .fail,_,_=>none
 | .vq t k,s,K=>match look s.env t with
  |some x=>(k x).exec s K
  |none=>none
 | .AK t x k,s,K=>k.exec {s with env:=(t,x)::s.env} K
 | .ke i k,s,K=>(k (look s.hp i)).exec s K
 | .kr i o k,s,K=>k.exec {s with hp:=(i,o)::s.hp} K
 | .opt _ x k,s,K=>x.bind λd=>(k d).exec s K
theorem AM.PE {α ρ:Type}(m:AM α):∀(s:St)(K:α->St->Option ρ),m.exec s K=(m.run s).bind λp=>K p.1 p.2:=by
 induction m with
 |ret a=>intro s K;rfl
 |br b t e Rf Rn=>intro s K;cases b<;>simp[exec,run,Rf,Rn,dO]
 |fail=>intro s K;rfl
 |vq t k ih=>intro s K;simp only[exec,run];cases look s.env t<;>simp[ih]
 |AK t x k ih=>intro s K;simp[exec,run,ih]
 |ke i k ih=>intro s K;simp[exec,run,ih]
 |kr i o k ih=>intro s K;simp[exec,run,ih]
 |opt c x k ih=>intro s K;cases x<;>simp[exec,run,ih]
abbrev PT:=Nat×List (Nat×Nat×Nat)
def Fw:List (Nat×Nat×Nat)->Nat->Nat->Nat->Bool
 |[],_,_,_=>false
 |t::r,a,b,c=>(Nat.beq t.1 a&&Nat.beq t.2.1 b&&Nat.beq t.2.2 c)||Fw r a b c
inductive Sp where
 |un
 |pr (a b:Sp)
 |cH (τ:Ty)
 |own (τ:Ty) (deep:Bool)
 |lnd (τ:Ty) (deep:Bool)
 |ptr (whole:Bool) (ty:PT) (s:Sp)
 |yK (ok:List (Nat×Nat×Nat))
 |sA
 |err
 |np
 |slf (f m:Nat)
@[reducible] def Sp.ty:Sp->Ty
 | .un=> .un
 | .pr a b=> .pr a.ty b.ty
 | .cH τ=>τ
 | .own τ _=> .sl τ
 | .lnd τ _=> .sl τ
 | .ptr _ _ s=>s.ty
 | .yK _=> .str
 | .sA=> .str
 | .err=> .bool
 | .np=> .un
 | .slf _ _=> .un
@[reducible] def Sp.size:Sp->Nat
 | .un=>0
 | .pr a b=>a.size+b.size
 | .sA=>2
 |_=>1
@[reducible] def Sp.oQ:Sp->Ty
 | .pr a b=> .pr a.oQ b.oQ
 | .ptr _ _ s=>s.ty
 | .lnd τ _=> .sl τ
 |_=> .un
inductive VSp where
 |one (s:Sp)
 |agg (s:Sp)
def vF:List VSp->Option (Nat×Nat)
 |[]=>none
 |[.one (.slf f m)]=>some (f,m)
 |_::r=>vF r
def EU (as:List VSp):Option (Nat×List Nat):=match vF as with
 |some p=>some (p.1,(List.range as.length).drop p.2)
 |none=>none
@[reducible] def VSp.sp:VSp->Sp
 | .one s=>s
 | .agg s=>s
@[reducible] def cf:List VSp->Ty
 |[]=> .un
 |a::r=> .pr a.sp.ty (cf r)
@[reducible] def pf:List VSp->Ty
 |[]=> .un
 |a::r=> .pr a.sp.oQ (pf r)
inductive RSp where
 |val (v:VSp)
 |tb (vs:List VSp)
 |none
@[reducible] def RSp.ty:RSp->Ty
 | .val v=>v.sp.ty
 | .tb vs=>cf vs
 | .none=> .un
structure Sig where
 args:List VSp
 res:RSp
@[reducible] def Sig.dom (s:Sig):Ty:=cf s.args
@[reducible] def Sig.cod (s:Sig):Ty:= .pr s.res.ty (pf s.args)
structure Callee where
 sig:Sig
 F:sig.dom.den->Option sig.cod.den
end Go.Abs
end

section
namespace Go.Abs
structure Env where
 P:Program
 callee:FuncId->Option Callee
 df:Nat->Option (List Cell)
 cl:TypeId
 nt:Nat
 lZ:List Nat
 nest:Bool:=false
 trim:Bool:=false
 ini:Bool:=false
 slf:Option (FuncId×List Nat):=none
def lim:Nat:=1099511627776
def G8:Nat:=100000
def fits (n:Nat):Bool:=Nat.ble n lim
namespace Env
variable(E:Env)
def JR (f:TypeId->Option Ty):List Field->Option Ty
 |[]=>some .un
 |x::r=>(f x.type).bind λa=>(JR f r).map (.pr a)
def tyN:Nat->TypeId->Option Ty
 |0,_=>none
 |k+1,t=>match E.P.underlying t with
  |some (.int k)=>some (.int k)
  |some .bool=>some .bool
  |some .string=>some .str
  |some (.slice e)=>(tyN k e).map .sl
  |some (.struct fs)=>JR (tyN k) fs.toList
  |some (.pointer _)=>bif Nat.beq t E.cl then some .cl else none
  |_=>none
def ty (t:TypeId):AM Ty:=match E.tyN 6 t with
 |some τ=> .ret τ
 |none=> .fail
def isAgg (t:TypeId):Option Bool:=match E.P.underlying t with
 |some (.struct _)|some (.array _ _)=>some true
 |some _=>some false
 |none=>none
def sizeOf (t:TypeId):Option Nat:=(E.P.info? t).map (·.size)
def field (s:TypeId)(i:Nat):Option Field:=match E.P.underlying s with
 |some (.struct fs)=>fs[i]?
 |_=>none
def elem (t:TypeId):Option TypeId:=match E.P.underlying t with
 |some (.slice e)=>some e
 |_=>none
def Kx (e:TypeId)(τ:Ty):Bool:=match E.P.info? e with
 |some i=>Nat.beq i.size τ.size&&Nat.ble i.bytes 128&&Nat.ble τ.size 64&&match i.zero with
  |some z=>Nat.beq z.cells.toList.length τ.size
  |none=>false
 |none=>false
def sized (t:TypeId):Bool:=match E.P.underlying t with
 |some (.struct fs)=>fs.toList.all λf=>(E.P.info? f.type).isSome
 |_=>false
end Env
def iD {α:Type}:Option α->AM α
 |some a=> .ret a
 |none=> .fail
def bytesOf (s:ByteArray):List Int:=s.data.toList.map λb=>(b.toNat:Int)
def Bp:Value->Option Cell
 | .int k n=>some (.v (.int k) n)
 | .bool b=>some (.v .bool b)
 | .string s=>some (.v .str (bytesOf s))
 | .slice none 0 0=>some .nil
 | .pointer none=>some .np
 | .nilIface=>some (.err true)
 | .nilFunc=>some .nf
 |_=>none
def r8:List Value->Option (List Cell)
 |[]=>some []
 |x::r=>(Bp x).bind λc=>(r8 r).map (c:: ·)
def xh:Value->Option Val
 | .agg cs=>(r8 cs.toList).map .agg
 |x=>(Bp x).map .one
def Env.zeroCells (E:Env)(t:TypeId):Option (List Cell):=((E.P.info? t).bind (·.zero)).bind λz=>r8 z.cells.toList
def ev:Operand->AM Slot
 | .tmp t=> .vq t .ret
 | .const x=>match xh x with
  |some c=> .ret (.val c)
  |none=> .fail
 | .global g=> .ret (.ga g)
 | .func f=> .ret (.val (.one (.fn f [])))
def Kw:Slot->AM Val
 | .val v=> .ret v
 |_=> .fail
def evV (x:Operand):AM Val:=(ev x).bind Kw
def Val.cells:Val->List Cell
 | .one c=>[c]
 | .agg cs=>cs
def Cw (agg:Bool)(cs:List Cell):AM Val:=
 bif agg then .ret (.agg cs)else match cs with
  |[c]=> .ret (.one c)
  |_=> .fail
def asInt:Val->AM Int
 | .one (.v (.int _) n)=> .ret n
 |_=> .fail
def asBool:Val->AM Bool
 | .one (.v .bool b)=> .ret b
 |_=> .fail
def uJ {τ τ':Ty}(x:List τ.den):AM (List τ'.den):=if h:τ=τ' then .ret (h ▸ x)else .fail
def chk (b:Bool):AM Unit:= .br b (.ret ()) .fail
def ON:Nat->Cell->AM (List Int)
 |_, .np=> .ret []
 |_, .v .cl xs=> .ret xs
 |k+1, .ptr id gen 0=> .ke id fun
  |some (.box g (_,[.v (.int .i64) x,c]))=>bif Nat.beq g gen&&Nat.blt id G8 then(ON k c).bind λxs=> .ke id fun
    |some (.box _ _)=> .kr id (.Xx g (x::xs)) (.ret (x::xs:List Int))
    |_=> .fail
   else .fail
  |some (.Xx g xs)=>bif Nat.beq g gen then .ret xs else .fail
  |_=> .fail
 |_,_=> .fail
def datum:(τ:Ty)->Cell->AM τ.den
 | .int k, .v (.int k') x=>if k=k' then .ret x else .fail
 | .bool, .v .bool b=> .ret b
 | .str, .v .str l=> .ret l
 | .sl e, .v (.sl e') xs=>uJ (τ':=e) xs
 | .sl _, .nil=> .ret []
 | .sl e, .own id gen=> .ke id fun
  |some (.own g τ _ xs)=>bif Nat.beq g gen then .kr id (.cH g τ xs) (uJ (τ':=e) xs)else .fail
  |some (.cH g _ xs)=>bif Nat.beq g gen then uJ (τ':=e) xs else .fail
  |_=> .fail
 | .cl,c=>ON 4 c
 |_,_=> .fail
def Ku:(τ:Ty)->Cell->AM τ.den
 | .sl e, .own id gen=> .ke id fun
  |some (.own g τ _ xs)=>bif Nat.beq g gen&&τ.flat then .kr id (.dead g) (uJ (τ':=e) xs)else .fail
  |_=> .fail
 | .sl e, .nil=>bif e.flat then .ret []else .fail
 | .int k, .v (.int k') x=>if k=k' then .ret x else .fail
 | .bool, .v .bool b=> .ret b
 | .str, .v .str l=> .ret l
 |_,_=> .fail
def xU:List Cell->Bool
 |[]=>true
 | .v (.sl _) _::_=>false
 | .v .cl _::_=>false
 | .ptr _ _ _::_=>false
 |_::r=>xU r
def pack (mv:Bool):(τ:Ty)->List Cell->AM (τ.den×List Cell)
 | .un,cs=> .ret ((),cs)
 | .pr a b,cs=>(pack mv a cs).bind λp=>(pack mv b p.2).bind λq=> .ret ((p.1,q.1),q.2)
 |τ,c::cs=>(bif mv then Ku τ c else datum τ c).bind λx=> .ret (x,cs)
 |_,_=> .fail
def unpack:(τ:Ty)->τ.den->List Cell
 | .un,_=>[]
 | .pr a b,x=>unpack a x.1++unpack b x.2
 |τ,x=>[.v τ x]
def fP:(τ:Ty)->τ.den->Nat->Cell->Option τ.den
 | .pr a b,x,off,c=>bif Nat.blt off a.size then(fP a x.1 off c).map λy=>(y,x.2)else(fP b x.2 (off - a.size) c).map λy=>(x.1,y)
 | .int k,_,0, .v (.int k') y=>if k=k' then some y else none
 | .bool,_,0, .v .bool y=>some y
 | .str,_,0, .v .str y=>some y
 |_,_,_,_=>none
def hJ (id:Nat):AM Nat:= .ke id fun
 |some (.iH _ _)=> .fail
 |some o=> .ret (o.gen+1)
 |none=> .ret 0
def Fc (d:Nat)(ty:Nat)(cs:List Cell):AM Slot:=(hJ d).bind λg=> .kr d (.box g (ty,cs)) (.ret (.val (.one (.ptr d g 0))))
def Fo (d:Nat)(τ:Ty)(deep:Bool)(xs:List τ.den):AM Cell:=(hJ d).bind λg=> .kr d (.own g τ deep xs) (.ret (.own d g))
def G6 (cs:List Cell):Bool:=cs.any fun
 | .v (.sl _) _=>true
 | .v .cl _=>true
 |_=>false
def cut (off n:Nat)(cs:List Cell):List Cell:=(cs.drop off).take n
def at_ {τ:Ty}(xs:List τ.den)(i:Int):τ.den:=xs.getD i.toNat τ.Vz
def xv:(τ:Ty)->τ.den->Nat->Option ((e:Ty)×List e.den)
 | .pr a b,x,off=>bif Nat.blt off a.size then xv a x.1 off else xv b x.2 (off - a.size)
 | .sl e,xs,0=>some ⟨e,xs⟩
 |_,_,_=>none
def mS:(τ:Ty)->τ.den->Nat->(e:Ty)->List e.den->Option τ.den
 | .pr a b,x,off,e,ys=>bif Nat.blt off a.size then(mS a x.1 off e ys).map λy=>(y,x.2)else(mS b x.2 (off - a.size) e ys).map λy=>(x.1,y)
 | .sl e',_,0,e,ys=>if h:e=e' then some (h ▸ ys)else none
 |_,_,_,_,_=>none
def pX (id gen:Nat):AM Unit:= .ke id fun
 |some (.hole g τ xs i off d gd)=>bif Nat.beq g gen then .ke d fun
   |some (.own g2 e _ ys)=>bif Nat.beq g2 gd&& !Nat.beq d id then match mS τ (at_ xs i) off e ys with
     |some x=> .kr d (.dead g2) (.kr id (.own g τ true (xs.set i.toNat x)) (.ret ()))
     |none=> .fail
    else .fail
   |_=> .fail
  else .fail
 |_=> .ret ()
def Bu:Cell->AM Unit
 | .own id gen=>pX id gen
 |_=> .ret ()
def Iv (d id gen:Nat)(i:Int)(off sz:Nat):AM Slot:= .ke id fun
 |some (.own g τ true xs)=>bif Nat.beq g gen&&Nat.beq sz τ.size&& !τ.flat&& !Nat.beq d id then match xv τ (at_ xs i) off with
   |some ⟨e,ys⟩=>match mS τ (at_ xs i) off e []with
     |some _=>(hJ d).bind λgd=> .kr d (.own gd e true ys) (.kr id (.hole g τ xs i off d gd) (.ret (.val (.one (.own d gd)))))
     |none=> .fail
   |none=> .fail
  else .fail
 |_=> .fail
def EM (τ:Ty)(off:Nat):Bool:=match τ with
 | .pr a b=>bif Nat.blt off a.size then EM a off else EM b (off - a.size)
 | .sl _=>Nat.beq off 0
 |_=>false
def LX (E:Env)(ag:Bool):Slot->AM Bool
 | .ea (.own id gen) _ off _=>bif E.nest&& !ag then .ke id fun
   |some (.own _ τ true _)=> .ret (EM τ off)
   |_=> .ret false
  else .ret false
 |_=> .ret false
def EV (d:Nat):Slot->AM Slot
 | .ea (.own id gen) i off sz=>Iv d id gen i off sz
 |_=> .fail
def xg (E:Env)(n:Nat):Slot->AM (List Cell)
 | .val (.one (.ptr id gen off))=> .ke id fun
  |some (.box g (_,cs))=>bif Nat.beq g gen&&Nat.ble (off+n) cs.length then .ret (cut off n cs)else .fail
  |_=> .fail
 | .ea (.v (.sl τ) xs) i off sz=>bif Nat.beq sz τ.size&&Nat.ble (off+n) τ.size then .ret (cut off n (unpack τ (at_ xs i)))else .fail
 | .ea (.own id gen) i off sz=> .ke id fun
  |some (.cH g τ xs)=>bif Nat.beq g gen&&Nat.beq sz τ.size&&Nat.ble (off+n) τ.size then .ret (cut off n (unpack τ (at_ xs i)))else .fail
  |some (.own g τ deep xs)=>bif Nat.beq g gen&&Nat.beq sz τ.size&&Nat.ble (off+n) τ.size then
    let cs:=cut off n (unpack τ (at_ xs i))
    bif deep&&G6 cs then .kr id (.own g τ false xs) (.ret cs)else .ret cs
   else .fail
  |_=> .fail
 | .fa xs 0=>bif Nat.beq n 1 then .ret [.v (.int .i64) (xs.headD 0)]else .fail
 | .fa xs 1=>bif Nat.beq n 1 then .ret [.v .cl xs.tail]else .fail
 | .ga g=>bif Nat.beq n 1 then(iD ((E.df g).bind λ|[c]=>some c|_=>none)).bind λc=> .ret [c]else .fail
 |_=> .fail
def setCells (off:Nat)(new cs:List Cell):List Cell:=cs.take off++new++cs.drop (off+new.length)
def QU (id gen:Nat)(τ:Ty)(deep:Bool)(i:Int)(x:τ.den):AM Unit:= .ke id fun
 |some (.own g τ' dp xs)=>bif Nat.beq g gen&&(dp==deep)then
   if h:τ=τ' then .kr id (.own g τ' dp (xs.set i.toNat (h ▸ x))) (.ret ())else .fail
  else .fail
 |_=> .fail
def Bv (new:List Cell):Slot->AM Unit
 | .val (.one (.ptr id gen off))=> .ke id fun
  |some (.box g (ty,cs))=>bif Nat.beq g gen&&Nat.ble (off+new.length) cs.length then .kr id (.box g (ty,setCells off new cs)) (.ret ())else .fail
  |_=> .fail
 | .ea (.own id gen) i off sz=> .ke id fun
  |some (.own g τ deep xs)=>bif Nat.beq g gen&&Nat.beq sz τ.size then
    bif Nat.beq off 0&&Nat.beq new.length τ.size then
     (pack (deep&& !τ.flat) τ new).bind λp=>QU id gen τ deep i p.1
    else match new with
     |[c]=>match fP τ (at_ xs i) off c with
      |some x=> .kr id (.own g τ deep (xs.set i.toNat x)) (.ret ())
      |none=> .fail
     |_=> .fail
   else .fail
  |_=> .fail
 |_=> .fail
def wb (b:Bool):Slot:= .val (.one (.v .bool b))
def wi (k:IntKind)(n:Int):Slot:= .val (.one (.v (.int k) n))
def ws (l:List Int):Slot:= .val (.one (.v .str l))
def ky:List Cell->List Cell->Option Bool
 |[],[]=>some true
 | .v (.int k) x::a, .v (.int k') y::b=>if k=k' then(ky a b).map (decide (x=y)&& ·)else none
 | .v .bool x::a, .v .bool y::b=>(ky a b).map (decide (x=y)&& ·)
 | .v .str x::a, .v .str y::b=>(ky a b).map (decide (x=y)&& ·)
 |_,_=>none
def intBits (op:BinOp)(k:IntKind)(x y:Int):Int:=
 match op with
 | .and=>k.wrap (BitVec.ofInt k.bits x&&&BitVec.ofInt k.bits y).toNat
 | .or=>k.wrap (BitVec.ofInt k.bits x|||BitVec.ofInt k.bits y).toNat
 |_=>k.wrap (BitVec.ofInt k.bits x^^^BitVec.ofInt k.bits y).toNat
def Mi (op:BinOp)(k k':IntKind)(x y:Int):AM Slot:=
 match op with
 | .shr=> .br (decide (0<=y)) (.ret (wi k (x.fdiv (2^min y.toNat k.bits)))) .fail
 | .shl=> .br (decide (0<=y)) (.ret (wi k (k.wrap (x*2^min y.toNat k.bits)))) .fail
 |_=>if k=k' then match op with
  | .add=> .ret (wi k (k.wrap (x+y)))
  | .sub=> .ret (wi k (k.wrap (x - y)))
  | .mul=> .ret (wi k (k.wrap (x*y)))
  | .quo=> .br (decide (y≠0)) (.ret (wi k (k.wrap (x.tdiv y)))) .fail
  | .rem=> .br (decide (y≠0)) (.ret (wi k (x.tmod y))) .fail
  | .and=> .ret (wi k (intBits .and k x y))
  | .or=> .ret (wi k (intBits .or k x y))
  | .xor=> .ret (wi k (intBits .xor k x y))
  | .eql=> .ret (wb (decide (x=y)))
  | .neq=> .ret (wb (!decide (x=y)))
  | .lss=> .ret (wb (decide (x<y)))
  | .leq=> .ret (wb (decide (x<=y)))
  | .gtr=> .ret (wb (decide (y<x)))
  | .geq=> .ret (wb (decide (y<=x)))
  |_=> .fail
  else .fail
def Ij (op:BinOp)(x y:List Int):AM Slot:=
 match op with
 | .add=> .br (fits (x.length+y.length)) (.ret (ws (x++y))) .fail
 | .eql=> .ret (wb (decide (x=y)))
 | .neq=> .ret (wb (!decide (x=y)))
 |_=> .fail
def BJ (op:BinOp)(b:Bool):AM Slot:=
 match op with
 | .eql=> .ret (wb b)
 | .neq=> .ret (wb !b)
 |_=> .fail
def mq (P:Program):List Field->List Cell->Nat->Bool
 |[],[],_=>true
 |f::r, .v τ _::cs,n=>Nat.beq f.offset n&&f.name != "_" &&(match P.underlying f.type,τ with
  |some (.int _), .int _=>true
  |some .bool, .bool=>true
  |some .string, .str=>true
  |_,_=>false)&&mq P r cs (n+1)
 |_,_,_=>false
def binOp (E:Env)(op:BinOp)(t:TypeId):Val->Val->AM Slot
 | .one (.v (.int k) x), .one (.v (.int k') y)=>Mi op k k' x y
 | .one (.v .str x), .one (.v .str y)=>Ij op x y
 | .one (.v .bool x), .one (.v .bool y)=>match E.P.underlying t with
  |some .bool=>BJ op (decide (x=y))
  |_=> .fail
 | .one (.v .cl xs), .one .np=>match E.P.underlying t with
  |some (.pointer _)=>BJ op xs.isEmpty
  |_=> .fail
 | .agg a, .agg b=>match E.P.underlying t,ky a b with
  |some (.struct fs),some r=>bif !E.P.stoodInHeld t&& !E.P.eqGuardType E.P.depth t&&mq E.P fs.toList a 0 then BJ op r else .fail
  |_,_=> .fail
 |_,_=> .fail
def L4 (E:Env)(op:BinOp)(t:TypeId):Val->AM Slot
 | .one (.err b)=>match E.P.underlying t with
  |some (.interface _)=>BJ op b
  |_=> .fail
 |_=> .fail
def Da:Cell->AM Nat
 | .v .str l=> .ret l.length
 | .v (.sl _) xs=> .ret xs.length
 | .nil=> .ret 0
 | .own id gen=> .ke id fun
  |some (.own g _ _ xs)=>bif Nat.beq g gen then .ret xs.length else .fail
  |some (.cH g _ xs)=>bif Nat.beq g gen then .ret xs.length else .fail
  |some (.sA g xs _ _ _ _ _)=>bif Nat.beq g gen then .ret xs.length else .fail
  |_=> .fail
 |_=> .fail
def source (e:Ty):Cell->AM (Bool×List e.den)
 | .nil=> .ret (true,[])
 | .v (.sl τ) xs=>(uJ (τ':=e) (τ:=τ) xs).bind λxs=> .ret (e.flat,xs)
 | .v .str l=>match e,l with
  | .int .u8,l=> .ret (true,l)
  |_,_=> .fail
 | .own id gen=> .ke id fun
  |some (.own g τ deep xs)=>bif Nat.beq g gen then
    bif τ.flat then(uJ (τ':=e) xs).bind λxs=> .ret (true,xs)
    else .kr id (bif deep then .dead g else .cH g τ xs) ((uJ (τ':=e) xs).bind λxs=> .ret (deep,xs))
   else .fail
  |some (.cH g _ xs)=>bif Nat.beq g gen then(uJ (τ':=e) xs).bind λxs=> .ret (e.flat,xs)else .fail
  |_=> .fail
 |_=> .fail
def target (e:Ty):Cell->AM (Bool×List e.den)
 | .nil=> .ret (true,[])
 | .own id gen=> .ke id fun
  |some (.own g _ deep xs)=>bif Nat.beq g gen then .kr id (.dead g) ((uJ (τ':=e) xs).bind λxs=> .ret (deep,xs))else .fail
  |_=> .fail
 |_=> .fail
def append (d:Nat)(e:Ty)(s x:Cell):AM Slot:=
 (source e x).bind λq=>(target e s).bind λp=>
  .br (fits (p.2.length+q.2.length)) ((Fo d e (p.1&&q.1) (p.2++q.2)).bind λc=> .ret (.val (.one c))) .fail
def Cell.isStr:Cell->Bool
 | .v .str _=>true
 |_=>false
def Env.fit (E:Env)(t:TypeId)(c:Cell):Bool:=match E.P.underlying t with
 |some .string=>c.isStr
 |some (.slice _)=> !c.isStr
 |_=>false
def HW (lo:Option Val):AM Int:=match lo with
 |some v=>asInt v
 |none=> .ret 0
def Dj (n:Nat)(hi:Option Val):AM Int:=match hi with
 |some v=>asInt v
 |none=> .ret (n:Int)
def sub {α:Type}(xs:List α)(l h:Int):List α:=(xs.take h.toNat).drop l.toNat
def bounds (n:Nat)(l h:Int):Bool:=decide (0<=l)&&decide (l<=h)&&decide (h<=n)
def AA (sz:Option Nat)(τ:Ty)(xs:List τ.den)(lo hi:Option Val):AM Slot:=
 match sz with
 |some n=>bif Nat.beq n τ.size then
   (HW lo).bind λl=>(Dj xs.length hi).bind λh=> .br (bounds xs.length l h) (.ret (.val (.one (.v (.sl τ) (sub xs l h))))) .fail
  else .fail
 |none=> .fail
def H8 (sz:Option Nat)(lo hi:Option Val):Cell->AM Slot
 | .v .str s=>(HW lo).bind λl=>(Dj s.length hi).bind λh=> .br (bounds s.length l h) (.ret (ws (sub s l h))) .fail
 | .v (.sl τ) xs=>AA sz τ xs lo hi
 | .own id gen=> .ke id fun
  |some (.own g τ _ xs)=>bif Nat.beq g gen then .kr id (.cH g τ xs) (AA sz τ xs lo hi)else .fail
  |some (.cH g τ xs)=>bif Nat.beq g gen then AA sz τ xs lo hi else .fail
  |_=> .fail
 |_=> .fail
def Ia (d id gen:Nat)(sz:Option Nat)(hi:Option Val):AM Slot:= .ke id fun
 |some (.own g τ _ xs)=>bif Nat.beq g gen&&τ.flat&& !Nat.beq d id then match sz with
   |some n=>bif Nat.beq n τ.size then
     (Dj xs.length hi).bind λh=> .br (bounds xs.length 0 h) ((hJ d).bind λgd=> .kr d (.own gd τ true (xs.take h.toNat)) (.kr id (.dead g) (.ret (.val (.one (.own d gd)))))) .fail
    else .fail
   |none=> .fail
  else .fail
 |_=> .fail
def indexAddr (sz:Nat)(x:Cell)(i:Int):AM Slot:=(Da x).bind λn=> .br (decide (0<=i)&&decide (i<n)) (.ret (.ea x i 0 sz)) .fail
def nilCheck:Slot->AM Slot
 | .val (.one (.ptr id gen off))=> .ret (.val (.one (.ptr id gen off)))
 | .val (.one (.fn f jJ))=> .ret (.val (.one (.fn f jJ)))
 | .val (.one (.v .cl xs))=> .br (!xs.isEmpty) (.ret (.val (.one (.v .cl xs)))) .fail
 |_=> .fail
def fieldAddr (off:Nat):Slot->AM Slot
 | .val (.one (.ptr id gen o))=> .ret (.val (.one (.ptr id gen (o+off))))
 | .ea c i o sz=> .ret (.ea c i (o+off) sz)
 | .val (.one (.v .cl xs))=> .br (!xs.isEmpty) (.ret (.fa xs off)) .fail
 |_=> .fail
def fill (place:Nat->Option (Nat×Nat))(cells:List Cell):List (Nat×Val)->Option (List Cell)
 |[]=>some cells
 |(i,x)::r=>match place i with
  |some (off,size)=>bif Nat.beq x.cells.length size&&Nat.ble (off+size) cells.length then fill place (setCells off x.cells cells) r else none
  |none=>none
def Dl:List (Nat×Operand)->AM (List (Nat×Val))
 |[]=> .ret []
 |(i,x)::r=>(evV x).bind λc=>(Dl r).bind λcs=> .ret ((i,c)::cs)
def Q1 (mv:Bool)(τ:Ty):Nat->List Cell->AM (List τ.den)
 |0,_=> .ret []
 |n+1,cs=>(pack mv τ (cs.take τ.size)).bind λp=>(Q1 mv τ n (cs.drop τ.size)).bind λr=> .ret (p.1::r)
def AF:(τ:Ty)->List Cell->Option (τ.den×List Cell)
 | .un,cs=>some ((),cs)
 | .pr a b,cs=>(AF a cs).bind λp=>(AF b p.2).bind λq=>some ((p.1,q.1),q.2)
 | .int k, .v (.int k') x::cs=>if k=k' then some (x,cs)else none
 | .bool, .v .bool b::cs=>some (b,cs)
 | .str, .v .str l::cs=>some (l,cs)
 | .sl _, .nil::cs=>some ([],cs)
 | .cl, .np::cs=>some (([]:List Int),cs)
 |_,_=>none
def Ty.nG:Ty->Bool
 | .sl e=>e.flat
 | .cl=>false
 | .pr a b=>a.nG&&b.nG
 |_=>true
def byte (n:Int):Int:=((n.toNat % 256:Nat):Int)
def rep (n:Nat)(z:List Cell):List Cell:=match n with
 |0=>[]
 |n+1=>z++rep n z
abbrev Plc:=Option (Nat×Nat×Nat)
def Plc.on (p:Plc)(n:Nat):Plc:=match p with
 |some (id,g,o)=>some (id,g,o+n)
 |none=>none
def Plc.is (p:Plc)(id g o:Nat):Bool:=match p with
 |some (Uf,g',o')=>Nat.beq Uf id&&Nat.beq g' g&&Nat.beq o' o
 |none=>false
def zz:(s:Sp)->Plc->List Cell->AM (s.ty.den×List Cell)
 | .un,_,cs=> .ret ((),cs)
 | .pr a b,pl,cs=>(zz a pl cs).bind λp=>(zz b (pl.on a.size) p.2).bind λq=> .ret ((p.1,q.1),q.2)
 | .cH τ,_,c::cs=>(datum τ c).bind λx=> .ret (x,cs)
 | .own τ _,_, .nil::cs=> .ret (([]:List τ.den),cs)
 | .own τ dp,_, .own id gen::cs=>(pX id gen).bind λ_=> .ke id fun
  |some (.own g _ deep xs)=>bif Nat.beq g gen&&(deep|| !dp||τ.flat)then .kr id (.dead g) ((uJ (τ':=τ) xs).bind λxs=> .ret (xs,cs))else .fail
  |_=> .fail
 | .lnd τ _,_, .nil::cs=> .ret (([]:List τ.den),cs)
 | .lnd τ dp,_, .own id gen::cs=>(pX id gen).bind λ_=> .ke id fun
  |some (.own g _ deep xs)=>bif Nat.beq g gen&&(deep|| !dp||τ.flat)then .kr id (.iH g (0,[])) ((uJ (τ':=τ) xs).bind λxs=> .ret (xs,cs))else .fail
  |_=> .fail
 | .ptr wh ty s,_, .ptr id gen off::cs=> .ke id fun
  |some (.box g (bt,bs))=>bif Nat.beq g gen&&((!wh||(Nat.beq off 0&&Nat.beq s.size bs.length&&Nat.beq bt ty.1))&&(wh||Fw ty.2 bt off bs.length))&&Nat.ble (off+s.size) bs.length then
    .kr id (.iH g (bt,bs)) ((zz s (some (id,gen,off)) (cut off s.size bs)).bind λp=> .ret (p.1,cs))else .fail
  |_=> .fail
 | .yK ok,_, .ptr id gen off::cs=> .ke id fun
  |some (.box g (bt,bs))=>bif Nat.beq g gen&&Fw ok bt off bs.length&&Nat.ble (off+2) bs.length then match cut off 2 bs with
    |[.np, .nil]=> .ret (([]:List Int),cs)
    |[.own a ag, .own ai8 Yw]=> .ke ai8 fun
     |some (.sA g2 xs a' YM bid bg Ro)=>bif Nat.beq g2 Yw&&Nat.beq a a'&&Nat.beq ag YM&&(Nat.beq bid id&&Nat.beq bg gen&&Nat.beq Ro off)then .kr ai8 (.dead g2) (.ret ((xs:List Int),cs))else .fail
     |_=> .fail
    |_=> .fail
   else .fail
  |_=> .fail
 | .sA,_, .np:: .nil::cs=> .ret (([]:List Int),cs)
 | .sA,pl, .own a ag:: .own id gen::cs=> .ke id fun
  |some (.sA g xs a' YM bid bg off)=>bif Nat.beq g gen&&Nat.beq a a'&&Nat.beq ag YM&&pl.is bid bg off then .kr id (.dead g) (.ret ((xs:List Int),cs))else .fail
  |_=> .fail
 | .err,_, .err b::cs=> .ret (b,cs)
 | .np,_, .np::cs=> .ret ((),cs)
 | .slf _ _,_, .ptr _ _ off::cs=>bif Nat.beq off 0 then .ret ((),cs)else .fail
 |_,_,_=> .fail
def Va (n:Nat)(xs:List Int):Plc->AM (List Cell)
 |some (id,bg,off)=>(hJ n).bind λg1=> .kr n (.dead g1) ((hJ (n+1)).bind λg2=> .kr (n+1) (.sA g2 xs n g1 id bg off) (.ret [.own n g1, .own (n+1) g2]))
 |none=> .fail
def yH:(s:Sp)->s.ty.den->Plc->List Cell->Nat->AM (List Cell×List Cell×Nat)
 | .un,_,_,old,n=> .ret ([],old,n)
 | .pr a b,x,pl,old,n=>(yH a x.1 pl old n).bind λp=>(yH b x.2 (pl.on a.size) p.2.1 p.2.2).bind λq=> .ret (p.1++q.1,q.2.1,q.2.2)
 | .cH τ,x,_,old,n=> .ret ([.v τ x],old.tail,n)
 | .own τ dp,xs,_,old,n=>(Fo n τ (dp||τ.flat) xs).bind λc=> .ret ([c],old.tail,n+1)
 | .lnd _ _,_,_, .nil::old,n=> .ret ([.nil],old,n)
 | .lnd τ dp,xs,_, .own id gen::old,n=> .ke id fun
  |some (.iH g _)=>bif Nat.beq g gen then .kr id (.own g τ (dp||τ.flat) xs) (.ret ([.own id gen],old,n))else .fail
  |_=> .fail
 | .ptr _ _ s,x,_, .ptr id gen off::old,n=> .ke id fun
  |some (.iH g (bt,bs))=>bif Nat.beq g gen then(yH s x (some (id,gen,off)) (cut off s.size bs) (200000+64*id)).bind λp=> .kr id (.box g (bt,setCells off p.1 bs)) (.ret ([.ptr id gen off],old,n))else .fail
  |_=> .fail
 | .sA,x,pl,old,n=>(Va n x pl).bind λcs=> .ret (cs,old.drop 2,n+2)
 | .err,b,_,old,n=> .ret ([.err b],old.tail,n)
 | .np,_,_,old,n=> .ret ([.np],old.tail,n)
 |_,_,_,_,_=> .fail
def NB:(s:Sp)->s.oQ.den->List Cell->AM (List Cell)
 | .pr a b,x,cs=>(NB a x.1 cs).bind λr=>NB b x.2 r
 | .un,_,cs=> .ret cs
 | .ptr wh ty s,x,c::cs=>(yH (.ptr wh ty s) x none [c] 0).bind λ_=> .ret cs
 | .lnd τ dp,x,c::cs=>(yH (.lnd τ dp) x none [c] 0).bind λ_=> .ret cs
 | .sA,_,_::_::cs=> .ret cs
 | .yK _,_,_::cs=> .ret cs
 | .cH _,_,_::cs=> .ret cs
 | .own _ _,_,_::cs=> .ret cs
 | .err,_,_::cs=> .ret cs
 | .np,_,_::cs=> .ret cs
 | .slf _ _,_,_::cs=> .ret cs
 |_,_,_=> .fail
def QY:(a:VSp)->Val->AM a.sp.ty.den
 | .one s, .one c=>(zz s none [c]).bind λp=>match p.2 with
  |[]=> .ret p.1
  |_=> .fail
 | .agg s, .agg cs=>(zz s none cs).bind λp=>match p.2 with
  |[]=> .ret p.1
  |_=> .fail
 |_,_=> .fail
def BD:(as:List VSp)->List Val->AM (cf as).den
 |[],[]=> .ret ()
 |a::as,x::xs=>(QY a x).bind λp=>(BD as xs).bind λq=> .ret (p,q)
 |_,_=> .fail
def Dk:(as:List VSp)->(pf as).den->List Val->AM Unit
 |[],_,[]=> .ret ()
 |a::as,x,v::vs=>(NB a.sp x.1 v.cells).bind λ_=>Dk as x.2 vs
 |_,_,_=> .fail
def Ma:(a:VSp)->a.sp.ty.den->Nat->AM (Val×Nat)
 | .one s,x,n=>(yH s x none [] n).bind λp=>match p.1 with
  |[c]=> .ret (.one c,p.2.2)
  |_=> .fail
 | .agg s,x,n=>(yH s x none [] n).bind λp=> .ret (.agg p.1,p.2.2)
def H5:(as:List VSp)->(cf as).den->Nat->AM (List Val)
 |[],_,_=> .ret []
 |a::as,x,n=>(Ma a x.1 n).bind λp=>(H5 as x.2 p.2).bind λq=> .ret (p.1::q)
def Ic:(r:RSp)->r.ty.den->Nat->AM Slot
 | .val a,x,n=>(Ma a x n).bind λp=> .ret (.val p.1)
 | .tb as,x,n=>(H5 as x n).bind λvs=> .ret (.tb vs)
 | .none,_,_=> .ret (.tb [])
def call (c:Callee)(d:Nat)(args:List Val):AM Slot:=
 (BD c.sig.args args).bind λx=> .opt c.sig.cod (c.F x) λy=>
  (Dk c.sig.args y.2 args).bind λ_=>Ic c.sig.res y.1 (300000+16*d)
def zr:List Operand->AM (List Val)
 |[]=> .ret []
 |x::r=>(evV x).bind λc=>(zr r).bind λcs=> .ret (c::cs)
def TL (chk:AM Unit)(c:Callee)(d:Nat)(args:List Val):AM Slot:=
 (BD c.sig.args args).bind λx=>chk.bind λ_=> .opt c.sig.cod (c.F x) λy=>
  (Dk c.sig.args y.2 args).bind λ_=>Ic c.sig.res y.1 (300000+16*d)
def uF:List (Nat×Nat)->List (Nat×Nat)->Bool
 |[],[]=>true
 |a::r,b::q=>Nat.beq a.1 b.1&&Nat.beq a.2 b.2&&uF r q
 |_,_=>false
def xV:List Nat->AM (List (Nat×Nat))
 |[]=> .ret []
 |t::ts=> .vq t fun
  | .val (.one (.ptr id gen 0))=>(xV ts).bind λcs=> .ret ((id,gen)::cs)
  |_=> .fail
def QW (f:FuncId)(jJ:List (Nat×Nat)):AM Unit:=match jJ.getLast? with
 |some p=> .ke p.1 fun
  |some (.box g (_,[.fn f2 cs]))=>bif Nat.beq g p.2&&Nat.beq f2 f&&uF cs jJ then .ret ()else .fail
  |_=> .fail
 |none=> .fail
def kept (E:Env)(ts:List Nat):Bool:= !ts.isEmpty&&ts.all λt=>E.lZ.any (Nat.beq t)
def Fg (E:Env)(f:FuncId)(jJ:List (Nat×Nat)):AM Unit:=match E.slf with
 |some (f',ts)=>bif Nat.beq f f'&&kept E ts then(xV ts).bind λcs=>bif uF cs jJ then .ret ()else .fail else .fail
 |none=>QW f jJ
def QL (E:Env)(d:Nat)(args:List Val):Cell->AM Slot
 | .fn f jJ=>match E.callee f with
  |some c=>match vF c.sig.args with
   |none=>call c d (args++jJ.map λp=> .one (.ptr p.1 p.2 0))
   |some sf=>bif Nat.beq sf.1 f&&Nat.beq sf.2 args.length then TL (Fg E f jJ) c d (args++jJ.map λp=> .one (.ptr p.1 p.2 0))else .fail
  |none=> .fail
 |_=> .fail
def QF:Option Bool->Bool
 |some false=>true
 |_=>false
def HT (E:Env)(t:TypeId)(a:Operand):Option (FuncId×List Nat):=match E.slf,a with
 |some (f,ts), .tmp k=>bif Nat.beq k (ts.getLastD 0)&&kept E ts&&QF (E.isAgg t)then some (f,ts)else none
 |_,_=>none
def xo:List Val->Option (List (Nat×Nat))
 |[]=>some []
 | .one (.ptr id gen 0)::r=>(xo r).map ((id,gen):: ·)
 |_=>none
def Vw (x:Option Operand):AM (Option Val):=match x with
 |some y=>(evV y).bind λv=> .ret (some v)
 |none=> .ret none
def one (v:Val):AM Cell:=match v with
 | .one c=> .ret c
 |_=> .fail
def convert (E:Env)(src dst:TypeId)(v:Val):AM Slot:=
 match E.P.underlying src,E.P.underlying dst with
 |some (.int _),some (.int k)=>(asInt v).bind λn=> .ret (wi k (k.wrap n))
 |some (.slice e),some .string=>match E.P.underlying e,v with
  |some (.int .u8), .one c=>match c with
   | .v (.sl (.int .u8)) xs=> .ret (ws (xs.map byte))
   | .nil=> .ret (ws [])
   | .own id gen=> .ke id fun
    |some (.own g (.int .u8) _ xs)=>bif Nat.beq g gen then .ret (ws (xs.map byte))else .fail
    |some (.cH g (.int .u8) xs)=>bif Nat.beq g gen then .ret (ws (xs.map byte))else .fail
    |_=> .fail
   |_=> .fail
  |_,_=> .fail
 |some .string,some (.slice e)=>match E.P.underlying e,v with
  |some (.int .u8), .one (.v .str l)=> .ret (.val (.one (.v (.sl (.int .u8)) l)))
  |_,_=> .fail
 |_,_=> .fail
def KJ {α:Type}(z:α):List (Int×α)->Int->α
 |[],_=>z
 |p::r,n=>bif decide (n=p.1)then p.2 else KJ z r n
def mapKey (E:Env)(t:TypeId):Option TypeId:=match E.P.underlying t with
 |some (.map k e)=>match E.P.underlying k with
  |some (.int .i64)=>some e
  |_=>none
 |_=>none
def MU (E:Env)(t:TypeId):Option Val:=((E.P.info? t).bind (·.zero)).bind xh
def QA (E:Env)(t:TypeId)(n:Int)(τ:Ty)(y:τ.den):Cell->AM Slot
 | .own id gen=>(iD (mapKey E t)).bind λ_=> .ke id fun
  |some (.mp g τ' xs)=>bif Nat.beq g gen&& !(xs.any λp=>decide (p.1=n))then if h:τ=τ' then .kr id (.mp g τ' (xs++[(n,(h ▸ y:τ'.den))])) (.ret .un)else .fail else .fail
  |_=> .fail
 |_=> .fail
def Qh (E:Env)(t:TypeId)(n:Int):Cell->AM Slot
 | .own id gen=>(iD (mapKey E t)).bind λe=>match MU E e with
  |some (.one (.v τ0 z))=> .ke id fun
   |some (.mp g τ xs)=>bif Nat.beq g gen then if h:τ0=τ then .ret (.val (.one (.v τ (KJ (h ▸ z:τ.den) xs n))))else .fail else .fail
   |_=> .fail
  |_=> .fail
 |_=> .fail
def Md (E:Env)(d:Nat)(t:TypeId)(a:Operand):AM Slot:=
 (ev a).bind λs=>(iD (E.isAgg t)).bind λag=>(LX E ag s).bind λne=>bif ne then EV d s else(iD (E.sizeOf t)).bind λn=>
   (xg E (bif ag then n else 1) s).bind λcs=>(Cw ag cs).bind λv=> .ret (.val v)
def eC (E:Env)(d:Nat):Op->AM Slot
 | .move x| .assign x=>ev x
 | .pick c a b=>(evV c).bind λv=>(asBool v).bind λt=> .br t (ev a) (ev b)
 | .alloc t=>(iD (E.zeroCells t)).bind λcs=>Fc d t cs
 | .box t x=>(evV x).bind λv=>Fc d t v.cells
 | .build t ps=>(iD (E.zeroCells t)).bind λz=>(Dl ps.toList).bind λps=>
   (iD (fill (λi=>(E.field t i).bind λf=>(E.sizeOf f.type).map (f.offset, ·)) z ps)).bind λcs=>bif E.sized t then .ret (.val (.agg cs))else .fail
 | .buildSlice t n ps=>(iD (E.elem t)).bind λe=>(E.ty e).bind λτ=>(iD (E.zeroCells e)).bind λz=>
   (Dl ps.toList).bind λps=>(iD (fill (λi=>some (i*z.length,z.length)) (rep n z) ps)).bind λcs=>
    bif E.Kx e τ&&Nat.ble n 4096 then
     (Q1 (xU cs&&τ.nG&& !τ.flat) τ n cs).bind λxs=>(Fo d τ (xU cs&&τ.nG&& !τ.flat) xs).bind λc=> .ret (.val (.one c))
    else .fail
 | .load t a=>match HT E t a with
  |some p=>(xV p.2).bind λcs=> .ret (.val (.one (.fn p.1 cs)))
  |none=>Md E d t a
 | .store t a x=>(evV x).bind λv=>(ev a).bind λs=>(iD (E.sizeOf t)).bind λn=>
   bif Nat.beq v.cells.length n then(Bv v.cells s).bind λ_=> .ret .un else .fail
 | .nilCheck x=>(ev x).bind nilCheck
 | .binOp op t x y _=>(evV x).bind λa=>match y with
   | .const .nilIface=>L4 E op t a
   |_=>(evV y).bind λb=>binOp E op t a b
 | .unOp .not _ x=>(evV x).bind λv=>(asBool v).bind λb=> .ret (wb !b)
 | .unOp .neg _ x=>(evV x).bind λv=>match v with
   | .one (.v (.int k) n)=> .ret (wi k (k.wrap (0 - n)))
   |_=> .fail
 | .convert s t x=>(evV x).bind λv=>convert E s t v
 | .makeMap t none=>(iD (mapKey E t)).bind λe=>(E.ty e).bind λτ=>bif τ.one then(hJ d).bind λg=> .kr d (.mp g τ []) (.ret (.val (.one (.own d g))))else .fail
 | .makeMap t (some x)=>(evV x).bind λv=>(asInt v).bind λ_=>(iD (mapKey E t)).bind λe=>(E.ty e).bind λτ=>bif τ.one then(hJ d).bind λg=> .kr d (.mp g τ []) (.ret (.val (.one (.own d g))))else .fail
 | .insert t m k x=>(evV m).bind λvm=>(one vm).bind λcm=>(evV k).bind λvk=>(evV x).bind λvx=>match vk,vx with
   | .one (.v (.int .i64) n), .one (.v τ y)=>QA E t n τ y cm
   |_,_=> .fail
 | .lookup t m k false=>(evV m).bind λvm=>(one vm).bind λcm=>(evV k).bind λvk=>match vk with
   | .one (.v (.int .i64) n)=>Qh E t n cm
   |_=> .fail
 | .makeInterface t x=>(evV x).bind λ_=>match E.P.underlying t with
   |some (.interface _)=> .fail
   |some _=> .ret (.val (.one (.err false)))
   |none=> .fail
 | .makeFunc (.func f) first jJ=>bif first.isEmpty then(zr jJ.toList).bind λvs=>(iD (xo vs)).bind λcs=> .ret (.val (.one (.fn f cs)))else .fail
 | .makeSlice t l c=>(iD (E.elem t)).bind λe=>(E.ty e).bind λτ=>(iD (E.zeroCells e)).bind λz=>(iD (AF τ z)).bind λx=>
   (evV l).bind λl=>(asInt l).bind λl=>(evV c).bind λc=>(asInt c).bind λc=>bif E.Kx e τ&&x.2.isEmpty then
    .br (decide (0<=l)&&decide (l<=c)&&decide (c<=lim)) ((Fo d τ (τ.nG&& !τ.flat) (List.replicate l.toNat x.1)).bind λc=> .ret (.val (.one c))) .fail else .fail
 | .slice t x lo hi none=>(evV x).bind λv=>(one v).bind λc=>(Vw lo).bind λlo=>(Vw hi).bind λhi=>bif E.fit t c then
   (match E.trim,lo,c with
    |true,none, .own id gen=>Ia d id gen ((E.elem t).bind E.sizeOf) hi
    |_,_,_=>H8 ((E.elem t).bind E.sizeOf) lo hi c)else .fail
 | .fieldAddr s x i=>(ev x).bind λa=>(iD (E.field s i)).bind λf=>(iD (E.sizeOf f.type)).bind λn=>bif Nat.blt 0 n then fieldAddr f.offset a else .fail
 | .field s x i=>(evV x).bind λv=>match v with
   | .agg cs=>(iD (E.field s i)).bind λf=>(iD (E.isAgg f.type)).bind λag=>(iD (E.sizeOf f.type)).bind λn=>
     (Cw ag (cut f.offset (bif ag then n else 1) cs)).bind λv=> .ret (.val v)
   |_=> .fail
 | .indexAddr t x i=>(iD ((E.elem t).bind E.sizeOf)).bind λsz=>(evV x).bind λv=>(one v).bind λc=>(evV i).bind λi=>(asInt i).bind λi=>bif E.fit t c&& !c.isStr then(Bu c).bind λ_=>indexAddr sz c i else .fail
 | .index t x i=>(evV x).bind λv=>(evV i).bind λi=>(asInt i).bind λi=>match v,E.P.underlying t with
   | .one (.v .str s),some .string=> .br (decide (0<=i)&&decide (i<s.length)) (.ret (wi .u8 (s.getD i.toNat 0))) .fail
   |_,_=> .fail
 | .extract t i=>(ev t).bind λs=>match s with
   | .tb vs=>(iD vs[i]?).bind λv=> .ret (.val v)
   |_=> .fail
 | .call c=>match c.callee with
  | .builtin .len=>(zr c.args.toList).bind λvs=>match vs with
   |[.one x]=>bif(c.argTypes[0]?).any λt=>E.fit t x then(Da x).bind λn=> .ret (wi .i64 n)else .fail
   |_=> .fail
  | .builtin .max=>(zr c.args.toList).bind λvs=>match vs with
   |[.one (.v (.int k) x), .one (.v (.int _) y)]=> .ret (wi k (if y>x then y else x))
   |_=> .fail
  | .builtin .append=>match c.argTypes.toList with
   |[t,tx]=>(iD (E.elem t)).bind λe=>(E.ty e).bind λτ=>(zr c.args.toList).bind λvs=>match vs with
    |[.one s, .one x]=>bif E.Kx e τ&&E.fit tx x then append d τ s x else .fail
    |_=> .fail
   |_=> .fail
  | .value f=>(zr c.args.toList).bind λvs=>(evV f).bind λv=>(one v).bind λc=>QL E d vs c
  |_=> .fail
 |_=> .fail
def step (E:Env)(alt:Nat)(o:Oper):AM Unit:=
 match o.dst with
 |some d=>bif Nat.blt d E.nt&& !E.lZ.any (Nat.beq d)then(eC E d o.op).bind λs=> .AK d s (.ret ())else .fail
 |none=>(eC E alt o.op).bind λ_=> .ret ()
end Go.Abs
end

section
namespace Go.Abs
def AM.oA {α ρ:Type}:AM α->St->List Nat->List Nat->(α->St->List Nat->List Nat->Option ρ)->Option ρ
 | .ret a,s,r,w,K=>K a s r w
 | .br b t e,s,r,w,K=>brk b (t.oA s r w K) (e.oA s r w K)
 | .fail,_,_,_,_=>none
 | .vq t k,s,r,w,K=>match look s.env t with
  |some x=>(k x).oA s ((2*t)::r) w K
  |none=>none
 | .AK t x k,s,r,w,K=>k.oA {s with env:=(t,x)::s.env} r ((2*t)::w) K
 | .ke i k,s,r,w,K=>(k (look s.hp i)).oA s ((2*i+1)::r) w K
 | .kr i o k,s,r,w,K=>k.oA {s with hp:=(i,o)::s.hp} r ((2*i+1)::w) K
 | .opt _ x k,s,r,w,K=>x.bind λd=>(k d).oA s r w K
def KB:List Oper->Nat->Option Oper
 |[],_=>none
 |o::_,0=>some o
 |_::r,n+1=>KB r n
def vn (ops:List Oper)(j:Nat):Option Nat:=(KB ops j).bind (·.dst)
def skip (E:Env)(o:Oper):AM Unit:=match o.dst with
 |some d=>bif Nat.blt d E.nt&& !E.lZ.any (Nat.beq d)then .AK d .sk (.ret ())else .fail
 |none=> .ret ()
def alt (n:Nat):Nat:=90000+n
def stepG (E:Env)(ops:List Oper)(n:Nat)(o:Oper):AM Unit:=match o.guard with
 |none=>step E (alt n) o
 |some (j,want)=>(iD (vn ops j)).bind λd=> .vq d fun
  | .val (.one (.v .bool g))=> .br (g==want) (step E (alt n) o) (skip E o)
  | .sk=>skip E o
  |_=> .fail
def pF {ρ:Type}(E:Env)(ops:List Oper):List Oper->Nat->St->(St->Option ρ)->Option ρ
 |[],_,s,K=>K s
 |o::r,n,s,K=>match o.guard with
  |none=>(step E (alt n) o).exec s λ_ s=>pF E ops r (n+1) s K
  |some (j,want)=>match vn ops j with
   |some d=>match look s.env d with
    |some (.val (.one (.v .bool g)))=>brk g
      ((bif want then step E (alt n) o else skip E o).exec {s with env:=(d,wb true)::s.env} λ_ s=>pF E ops r (n+1) s K)
      ((bif want then skip E o else step E (alt n) o).exec {s with env:=(d,wb false)::s.env} λ_ s=>pF E ops r (n+1) s K)
    |some .sk=>(skip E o).exec s λ_ s=>pF E ops r (n+1) s K
    |_=>none
   |none=>none
abbrev Log:=List (List Nat×List Nat)
def nw {ρ:Type}(E:Env)(ops:List Oper):List Oper->Nat->St->Log->(St->Log->Option ρ)->Option ρ
 |[],_,s,L,K=>K s L
 |o::r,n,s,L,K=>match o.guard with
  |none=>(step E (alt n) o).oA s [] [] λ_ s rd wr=>nw E ops r (n+1) s ((rd,wr)::L) K
  |some (j,want)=>match vn ops j with
   |some d=>match look s.env d with
    |some (.val (.one (.v .bool g)))=>brk g
      ((bif want then step E (alt n) o else skip E o).oA {s with env:=(d,wb true)::s.env} [2*d] [] λ_ s rd wr=>nw E ops r (n+1) s ((rd,wr)::L) K)
      ((bif want then skip E o else step E (alt n) o).oA {s with env:=(d,wb false)::s.env} [2*d] [] λ_ s rd wr=>nw E ops r (n+1) s ((rd,wr)::L) K)
    |some .sk=>(skip E o).oA s [2*d] [] λ_ s rd wr=>nw E ops r (n+1) s ((rd,wr)::L) K
    |_=>none
   |none=>none
def mem (n:Nat):List Nat->Bool
 |[]=>false
 |m::r=>Nat.beq m n||mem n r
def meet (a b:List Nat):Bool:=match a with
 |[]=>false
 |x::r=>mem x b||meet r b
def ta (ops:List Oper):List (List Nat):=ops.map λo=>o.after.toList.filterMap λe=>bif Region.binds .any e then some e.on else none
def vU:List (List Nat)->List (List Nat)->List (List Nat)
 |[],acc=>acc
 |es::r,acc=>vU r (acc++[es.flatMap λi=>i::acc.getD i []])
def vi:List (List Nat)->Nat->Bool
 |[],_=>true
 |es::r,n=>es.all (Nat.blt · n)&&vi r (n+1)
def Ay (x:List Nat×List Nat)(bx:List Nat):Log->Nat->Bool
 |[],_=>true
 |y::r,n=>(mem (n - 1) bx|| !(meet x.2 y.2||meet x.2 y.1||meet x.1 y.2))&&Ay x bx r (n - 1)
def apart:Log->List (List Nat)->Nat->Bool
 |x::r,bx::b,n=>Ay x bx r (n - 1)&&apart r b (n - 1)
 |[],_,_=>true
 |_,_,_=>false
def Ed {ρ:Type}(E:Env)(ops:List Oper)(draw:Bool)(s:St)(K:St->Option ρ):Option ρ:=
 bif draw then
  nw E ops ops 0 s [] λs' L=>bif vi (ta ops) 0&&apart L (vU (ta ops) []).reverse ops.length then K s' else none
 else pF E ops ops 0 s K
def first:Code->Option Nat
 | .region id _ _=>some id
 | .seq a b=>(first a).orElse λ_=>first b
 | .block _ c=>first c
 | .loop c=>(first c).map (1000+ ·)
 | .scope c=>first c
 | .cond _ a b=>(first a).orElse λ_=>first b
 |_=>none
abbrev Handler:=∀ρ:Type,St->(Exit->St->Option ρ)->Option ρ
structure Cuts where
 loop:Nat->Option Handler
 join:Nat->Option Handler
def Ar (s:St):Operand->Option Bool
 | .tmp t=>match look s.env t with
  |some (.val (.one (.v .bool b)))=>some b
  |_=>none
 | .const (.bool b)=>some b
 |_=>none
def exec {ρ:Type}(E:Env)(H:Cuts):Code->St->(Exit->St->Option ρ)->Option ρ
 | .skip,s,K=>K .normal s
 | .region _ ops draw,s,K=>Ed E ops.toList draw s (K .normal)
 | .seq a b,s,K=>exec E H a s λe s'=>match e with
  | .normal=>match(first b).bind H.join with
   |some h=>h ρ s' K
   |none=>exec E H b s' K
  |e=>K e s'
 | .cond c a b,s,K=>match Ar s c with
  |some t=>brk t (exec E H a s K) (exec E H b s K)
  |none=>none
 | .block id c,s,K=>exec E H c s λe s'=>match e with
  | .exit i=>bif Nat.beq i id then K .normal s' else K (.exit i) s'
  |e=>K e s'
 | .loop c,s,K=>match(first c).bind H.loop with
  |some h=>h ρ s K
  |none=>none
 | .exit i,s,K=>K (.exit i) s
 | .ret,s,K=>K .ret s
 | .label _,s,K=>K .normal s
 | .scope c,s,K=>exec E H c s λe s'=>match e with
  | .goto _=>none
  |e=>K e s'
 |_,_,_=>none
def mk0:(s:Sp)->s.ty.den->Nat×Nat->Nat->(List Cell×List (Nat×Obj)×Nat)
 | .un,_,_,n=>([],[],n)
 | .pr a b,x,pl,n=>let p:=mk0 a x.1 pl n;let q:=mk0 b x.2 (pl.1,pl.2+a.size) p.2.2;(p.1++q.1,q.2.1++p.2.1,q.2.2)
 | .cH τ,x,_,n=>([.v τ x],[],n)
 | .own τ dp,xs,_,n=>([.own n 0],[(n, .own 0 τ (dp||τ.flat) xs)],n+1)
 | .lnd τ dp,xs,_,n=>([.own n 0],[(n, .own 0 τ (dp||τ.flat) xs)],n+1)
 | .ptr _ ty s,x,_,n=>let p:=mk0 s x (n,0) (n+1);([.ptr n 0 0],(n, .box 0 (ty.1,p.1))::p.2.1,p.2.2)
 | .yK _,_,_,n=>([],[],n)
 | .sA,x,pl,n=>([.own n 0, .own (n+1) 0],[(n+1, .sA 0 x n 0 pl.1 0 pl.2),(n, .dead 0)],n+2)
 | .err,b,_,n=>([.err b],[],n)
 | .np,_,_,n=>([.np],[],n)
 | .slf _ _,_,_,n=>([.ptr n 0 0],[(n, .dead 0)],n+1)
def zw:(a:VSp)->a.sp.ty.den->Nat->(Option Val×List (Nat×Obj)×Nat)
 | .one s,x,n=>let p:=mk0 s x (0,0) n;(match p.1 with|[c]=>some (.one c)|_=>none,p.2.1,p.2.2)
 | .agg s,x,n=>let p:=mk0 s x (0,0) n;(some (.agg p.1),p.2.1,p.2.2)
def vg:(as:List VSp)->List Nat->(cf as).den->Nat->(List (Nat×Slot)×List (Nat×Obj))
 |a::as,t::ts,x,n=>
  let p:=zw a x.1 n
  let q:=vg as ts x.2 p.2.2
  (match p.1 with|some v=>(t, .val v)::q.1|none=>q.1,q.2++p.2.1)
 |_,_,_,_=>([],[])
def dec (ts:List Nat)(as:List VSp)(x:(cf as).den):St:=let p:=vg as ts x G8;⟨p.1,p.2⟩
def EP:List Nat->AM (List Val)
 |[]=> .ret []
 |t::ts=>(AM.vq t Kw).bind λv=>(EP ts).bind λvs=> .ret (v::vs)
def upto:List VSp->Nat->List Nat
 |[],_=>[]
 |_::r,n=>n::upto r (n+1)
def Sp.plain:Sp->Bool
 | .ptr _ _ _=>false
 | .lnd _ _=>false
 | .yK _=>false
 | .slf _ _=>false
 | .pr a b=>a.plain&&b.plain
 |_=>true
def Sp.whole (RJ:Bool):Sp->Bool
 | .ptr wh _ s=>wh&&s.whole true
 | .pr a b=>a.whole RJ&&b.whole RJ
 | .sA=>RJ
 | .yK _=>false
 |_=>true
def mM:List VSp->Bool
 |[]=>true
 |a::r=>a.sp.whole false&&mM r
def enc (ts:List Nat)(as:List VSp):AM (cf as).den:=bif mM as then(EP ts).bind λvs=>BD as vs else .fail
def Sp.Iw:Sp->Bool
 | .ptr _ _ _=>true
 | .lnd _ _=>true
 | .pr a b=>a.Iw||b.Iw
 |_=>false
def NG:(s:Sp)->AM s.oQ.den
 | .pr a b=>(NG a).bind λp=>(NG b).bind λq=> .ret (p,q)
 | .un=> .ret ()
 | .cH _=> .ret ()
 | .own _ _=> .ret ()
 | .sA=> .ret ()
 | .yK _=> .ret ()
 | .err=> .ret ()
 | .np=> .ret ()
 | .slf _ _=> .ret ()
 | .ptr _ _ _=> .fail
 | .lnd _ _=> .fail
def TS (hp:List (Nat×Obj))(n:Nat):Bool:=match look hp n with
 |some (.box 0 (_,[.ptr m 0 0]))=>Nat.beq m (n+1)&&(look hp m).isSome
 |_=>false
def stays (vr:List (Nat×Obj)):Cell->AM Unit
 | .ptr n 0 0=>bif TS vr n then .ke n fun
   |some (.box 0 (_,[.ptr m 0 0]))=>bif Nat.beq m (n+1)then .ret ()else .fail
   |_=> .fail
  else .fail
 |_=> .fail
def Sp.inner:Sp->Bool
 | .ptr wh _ s=>s.plain&&wh
 |_=>false
def IB (ini:Bool)(vr:List (Nat×Obj)):(s:Sp)->List Cell->AM (s.oQ.den×List Cell)
 | .pr a b,cs=>(IB ini vr a cs).bind λp=>(IB ini vr b p.2).bind λq=> .ret ((p.1,q.1),q.2)
 | .un,cs=> .ret ((),cs)
 | .ptr wh ty s,c::cs=>bif s.plain&&wh then(zz (.ptr wh ty s) none [c]).bind λp=> .ret (p.1,cs)else bif ini&&(s.inner&&wh)then(stays vr c).bind λ_=>(zz (.ptr wh ty s) none [c]).bind λp=> .ret (p.1,cs)else .fail
 | .lnd τ dp,c::cs=>(zz (.own τ dp) none [c]).bind λp=> .ret (p.1,cs)
 | .cH _,_::cs=> .ret ((),cs)
 | .own _ _,_::cs=> .ret ((),cs)
 | .yK _,_::cs=> .ret ((),cs)
 | .err,_::cs=> .ret ((),cs)
 | .np,_::cs=> .ret ((),cs)
 | .slf _ _,_::cs=> .ret ((),cs)
 |_,_=> .fail
def H3 (ini:Bool)(vr:List (Nat×Obj))(lZ:List Nat):(as:List VSp)->Nat->AM (pf as).den
 |[],_=> .ret ()
 |a::as,n=>(bif a.sp.Iw then(bif lZ.any (Nat.beq n)then(AM.vq n Kw).bind λv=>(IB ini vr a.sp v.cells).bind λp=> .ret p.1 else .fail)else NG a.sp).bind λp=>
   (H3 ini vr lZ as (n+1)).bind λq=> .ret (p,q)
def Iy (E:Env):ResultVar->AM Val
 | .tmp t=> .vq t Kw
 | .cell a t=> .vq a λs=>(iD (E.isAgg t)).bind λag=>(iD (E.sizeOf t)).bind λn=>(xg E (bif ag then n else 1) s).bind λcs=>Cw ag cs
def AB (E:Env):List ResultVar->AM (List Val)
 |[]=> .ret []
 |r::rs=>(Iy E r).bind λv=>(AB E rs).bind λvs=> .ret (v::vs)
def xQ:List VSp->Bool
 |[]=>true
 |a::r=>a.sp.plain&&xQ r
def Qk (E:Env)(rs:List ResultVar):(r:RSp)->AM r.ty.den
 | .val a=>(AB E rs).bind λvs=>bif a.sp.plain then match vs with
  |[v]=>QY a v
  |_=> .fail
  else .fail
 | .tb as=>(AB E rs).bind λvs=>bif xQ as then match vs with
  |[_]=> .fail
  |vs=>BD as vs
  else .fail
 | .none=>(AB E rs).bind λvs=>match vs with
  |[]=> .ret ()
  |_=> .fail
def finish (E:Env)(vr:List (Nat×Obj))(rs:List ResultVar)(sg:Sig):AM sg.cod.den:=
 (Qk E rs sg.res).bind λr=>(H3 E.ini vr E.lZ sg.args 0).bind λo=> .ret (r,o)
def atEnd (E:Env)(vr:List (Nat×Obj))(rs:List ResultVar)(sg:Sig)(e:Exit)(s:St):Option sg.cod.den:=match e with
 | .normal| .ret=>(finish E vr rs sg).exec s λr _=>some r
 |_=>none
def Fq (E:Env)(fn:Func)(sg:Sig)(H:Cuts)(x:sg.dom.den):Option sg.cod.den:=
 match fn.body with
 |some c=>exec E H c (dec (upto sg.args 0) sg.args x) (atEnd E (dec (upto sg.args 0) sg.args x).hp fn.results.toList sg)
 |none=>none
abbrev Der:=List (Nat×Nat×List Nat)
def zp (env:List (Nat×Slot)):List Nat->Option (List (Nat×Nat))
 |[]=>some []
 |t::r=>match look env t with
  |some (.val (.one (.ptr id gen 0)))=>(zp env r).map ((id,gen):: ·)
  |_=>none
def derive (env:List (Nat×Slot)):Der->List (Nat×Slot)
 |[]=>env
 |d::r=>match zp env d.2.2 with
  |some cs=>(d.1, .val (.one (.fn d.2.1 cs)))::derive env r
  |none=>derive env r
def si (env:List (Nat×Slot)):Der->Bool
 |[]=>true
 |d::r=>(match look env d.1,zp env d.2.2 with
  |some (.val (.one (.fn f jJ))),some cs=>Nat.beq f d.2.1&&uF jJ cs
  |_,_=>false)&&si env r
def IK (ts:List Nat)(as:List VSp)(yl:Der)(x:(cf as).den):St:=⟨derive (dec ts as x).env yl,(dec ts as x).hp⟩
structure Way1 where
 e:Exit
 ts:List Nat
 as:List VSp
 yl:Der
@[reducible] def n8:List Way1->Type
 |[]=>Empty
 |w::r=>(cf w.as).den⊕n8 r
def ER:Exit->Exit->Bool
 | .normal, .normal=>true
 | .exit i, .exit j=>Nat.beq i j
 | .ret, .ret=>true
 |_,_=>false
def BK:(ws:List Way1)->Exit->St->Option (n8 ws)
 |[],_,_=>none
 |w::r,e,s=>bif ER w.e e then(bif si s.env w.yl then(enc w.ts w.as).exec s λz _=>some (.inl z)else none)else(BK r e s).bind λy=>some (.inr y)
def Fs {ρ:Type}:(ws:List Way1)->n8 ws->(Exit->St->Option ρ)->Option ρ
 |[],y,_=>Empty.elim y
 |w::r,y,K=>Sum.elim (λz=>K w.e (IK w.ts w.as w.yl z)) (λy=>Fs r y K) y
structure Cut where
 ts:List Nat
 as:List VSp
 ws:List Way1
 yl:Der
def Cut.xS (c:Cut)(L:(cf c.as).den->Option (n8 c.ws)):Handler:=λ_ s K=>bif si s.env c.yl then(enc c.ts c.as).exec s λx _=>(L x).bind λy=>Fs c.ws y K else none
def Cut.round (c:Cut)(E:Env)(H:Cuts)(body:Code)(L:(cf c.as).den->Option (n8 c.ws))(x:(cf c.as).den):Option (n8 c.ws):=
 exec E H body (IK c.ts c.as c.yl x) λe s=>match e with
  | .normal=>bif si s.env c.yl then(enc c.ts c.as).exec s λx' _=>L x' else none
  |e=>BK c.ws e s
def Cut.tail (c:Cut)(E:Env)(H:Cuts)(body:Code)(x:(cf c.as).den):Option (n8 c.ws):=
 exec E H body (IK c.ts c.as c.yl x) λe s=>BK c.ws e s
end Go.Abs
end

section
namespace Go.Abs
def oc:Value->Bool
 | .agg _| .tuple _=>false
 |_=>true
structure Gh where
 aD:Nat->Option (List Value)
 top:Nat->Nat
 cv:Nat->Nat->Value
 dj:Nat->Option Nat
 ep:Nat->Option (List Value)
 outer:Nat->List Value
abbrev Rd:=Nat->Option (List Value)
def oN (r:Rd):List Int->Value->Prop
 |[],u=>u= .pointer none
 |x::xs,u=>∃b p,u= .pointer (some ⟨b,0,none⟩)/\r b=some [.int .i64 x,p]/\oN r xs p
def Rc (r:Rd):(τ:Ty)->τ.den->List Value->Prop
 | .int k,x,cs=>cs=[.int k x]
 | .bool,b,cs=>cs=[.bool b]
 | .str,l,cs=>∃s,cs=[.string s]/\l=bytesOf s
 | .un,_,cs=>cs=[]
 | .pr a b,x,cs=>∃c1 c2,cs=c1++c2/\Rc r a x.1 c1/\Rc r b x.2 c2
 | .sl e,xs,cs=>∃A c,cs=[.slice A xs.length c]/\xs.length<=c/\
   (xs=[]\/∃b o L,A=some ⟨b,o,none⟩/\r b=some L/\∀i (h:i<xs.length),Rc r e xs[i] ((L.drop (o+i*e.size)).take e.size))
 | .cl,xs,cs=>∃u,cs=[u]/\oN r xs u
def Els (r:Rd)(e:Ty)(xs:List e.den)(L:List Value)(o:Nat):Prop:=
 ∀i (h:i<xs.length),Rc r e xs[i] ((L.drop (o+i*e.size)).take e.size)
def Lin (r:Rd):(τ:Ty)->τ.den->List Value->List Nat->Prop
 | .int k,x,cs,nb=>cs=[.int k x]/\nb=[]
 | .bool,b,cs,nb=>cs=[.bool b]/\nb=[]
 | .str,l,cs,nb=>(∃s,cs=[.string s]/\l=bytesOf s)/\nb=[]
 | .un,_,cs,nb=>cs=[]/\nb=[]
 | .pr a b,x,cs,nb=>∃c1 c2 n1 n2,cs=c1++c2/\nb=n1++n2/\Lin r a x.1 c1 n1/\Lin r b x.2 c2 n2
 | .sl e,xs,cs,nb=>e.flat=true/\((cs=[.slice none 0 0]/\xs=[]/\nb=[])\/
   ∃b c L,cs=[.slice (some ⟨b,0,none⟩) xs.length c]/\xs.length<=c/\nb=[b]/\r b=some L/\L.length=c*e.size/\Els r e xs L 0)
 | .cl,_,_,_=>False
def fk (r:Rd)(e:Ty):List e.den->List Value->List Nat->Prop
 |[],_,nb=>nb=[]
 |x::xs,L,nb=>∃n1 n2,nb=n1++n2/\Lin r e x (L.take e.size) n1/\fk r e xs (L.drop e.size) n2
def sx (g:Gh):List (Nat×Nat)->List Value->Prop
 |[],us=>us=[]
 |p::r,us=>∃b o v,us= .pointer (some ⟨b,o,none⟩)::v/\p.2<g.top p.1/\g.cv p.1 p.2= .pointer (some ⟨b,o,none⟩)/\sx g r v
def bu (g:Gh):Cell->Value->Prop
 | .v τ x,u=>τ.one=true/\Rc g.aD τ x [u]
 | .nil,u=>u= .slice none 0 0
 | .own id gen,u=>gen<g.top id/\u=g.cv id gen/\oc u=true
 | .ptr id gen off,u=>gen<g.top id/\∃b o,g.cv id gen= .pointer (some ⟨b,o,none⟩)/\u= .pointer (some ⟨b,o+off,none⟩)
 | .np,u=>u= .pointer none
 | .nf,u=>u= .nilFunc
 | .fn f jJ,u=>∃vs:List Value,u= .func (.func f) #[] vs.toArray/\sx g jJ vs
 | .err b,u=>(b=true/\u= .nilIface)\/(b=false/\∃t v,u= .iface t v)
def aF (g:Gh):List Cell->List Value->Prop
 |[],us=>us=[]
 |c::cs,us=>∃u r,us=u::r/\bu g c u/\aF g cs r
def ed (g:Gh):Val->Value->Prop
 | .one c,u=>bu g c u
 | .agg cs,u=>∃us:List Value,u= .agg us.toArray/\aF g cs us
def fj (g:Gh):List Val->List Value->Prop
 |[],us=>us=[]
 |c::cs,us=>∃u r,us=u::r/\ed g c u/\fj g cs r
def di (g:Gh):Slot->Value->Prop
 | .val v,u=>ed g v u
 | .tb vs,u=>∃us:List Value,u= .tuple us.toArray/\fj g vs us
 | .ea c i off sz,u=>∃b o n cap,bu g c (.slice (some ⟨b,o,none⟩) n cap)/\0<=i/\i.toNat<n/\u= .pointer (some ⟨b,o+i.toNat*sz+off,none⟩)
 | .fa xs off,u=>∃x R6 b p,xs=x::R6/\g.aD b=some [.int .i64 x,p]/\oN g.aD R6 p/\u= .pointer (some ⟨b,off,none⟩)
 | .ga k,u=>u= .pointer (some ⟨k,0,none⟩)
 | .un,_=>True
 | .sk,u=>u=undef
def M1 (g:Gh)(id:Nat)(τ:Ty)(xs:List τ.den)(L:List Value):Prop:=
 ∃nb,fk g.ep τ xs L nb/\nb.Nodup/\∀b∈nb,g.dj b=some (id+1)
def dJ (g:Gh)(id:Nat)(τ:Ty)(deep:Bool)(xs:List τ.den)(L:List Value):Prop:=
 if deep&& !τ.flat then M1 g id τ xs L else Els g.aD τ xs L 0
def pa (r:Rd)(τ:Ty):List (Int×τ.den)->List MapEntry->Prop
 |[],es=>es=[]
 |p::xs,es=>∃e r',es=e::r'/\e.key= .int .i64 p.1/\Rc r τ p.2 [e.val]/\pa r τ xs r'
def lQ:Nat:=5
def mZ (g:Gh)(w:World)(id:Nat):Obj->Prop
 | .box gen r=>∃b o arr ty L,g.cv id gen= .pointer (some ⟨b,o,none⟩)/\(g.dj b=some (id+1)/\g.ep b=none)/\w.heap[b]?=some (.cells arr ty (0,0))/\aF g r.2 L/\
   arr.toList=(g.outer id).take o++L++(g.outer id).drop (o+L.length)/\o+L.length<=(g.outer id).length/\
   o=0/\(g.outer id).length=r.2.length/\ty=r.1
 | .own gen τ deep xs=>(g.cv id gen= .slice none 0 0/\xs=[])\/
   ∃b cap arr ty,g.cv id gen= .slice (some ⟨b,0,none⟩) xs.length cap/\g.dj b=some (id+1)/\g.ep b=none/\w.heap[b]?=some (.cells arr ty (0,0))/\
    xs.length<=cap/\arr.size=cap*τ.size/\dJ g id τ deep xs arr.toList
 | .cH gen τ xs=>Rc g.aD (.sl τ) xs [g.cv id gen]
 | .Xx gen xs=>oN g.aD xs (g.cv id gen)
 | .dead _=>True
 | .iH _ _=>True
 | .mp gen τ xs=>τ.one=true/\∃b es Td,g.cv id gen= .map (some b)/\g.dj b=some (id+1)/\g.ep b=none/\w.heap[b]?=some (.map es Td)/\pa g.aD τ xs es.toList
 | .hole gen τ xs i off d gd=>gd<g.top d/\0<=i/\i.toNat<xs.length/\τ.flat=false/\∃b cap arr ty e ys x',g.cv id gen= .slice (some ⟨b,0,none⟩) xs.length cap/\g.dj b=some (id+1)/\g.ep b=none/\w.heap[b]?=some (.cells arr ty (0,0))/\
   xs.length<=cap/\arr.size=cap*τ.size/\xv τ (at_ xs i) off=some ⟨e,ys⟩/\mS τ (at_ xs i) off e []=some x'/\arr.toList[i.toNat*τ.size+off]?=some (g.cv d gd)/\
   M1 g id τ (xs.set i.toNat x') (arr.toList.set (i.toNat*τ.size+off) (.slice none 0 0))
 | .sA gen xs a ag bid bg off=>ag<g.top a/\bg<g.top bid/\oc (g.cv a ag)=true/\((g.cv a ag= .pointer none/\g.cv id gen= .slice none 0 0/\xs=[])\/
   ∃bb oo,g.cv bid bg= .pointer (some ⟨bb,oo,none⟩)/\g.cv a ag= .pointer (some ⟨bb,oo+off,none⟩)/\((g.cv id gen= .slice none 0 0/\xs=[])\/
    ∃b cap arr ty,g.cv id gen= .slice (some ⟨b,0,none⟩) xs.length cap/\g.dj b=some (id+1)/\g.ep b=none/\w.heap[b]?=some (.cells arr ty (0,0))/\xs.length<=cap/\arr.size=cap/\Els g.aD (.int .u8) xs arr.toList 0/\ty=lQ))
structure Base where
 aD:Nat->Option (List Value)
 dj:Nat->Option Nat
 w:World
 arg:Nat->Value
 g0:Gh:=⟨λ_=>none,λ_=>0,λ_ _=> .tuple #[],λ_=>none,λ_=>none,λ_=>[]⟩
structure HRel (B:Base)(g:Gh)(hp:List (Nat×Obj))(w:World):Prop where
 top:∀id,g.top id=match look hp id with|some o=>o.gen+1|none=>0
 eD:∀id o,look hp id=some o->mZ g w id o
 aD:∀b L,g.aD b=some L->g.dj b=none/\g.ep b=none/\∃arr ty fr,w.heap[b]?=some (.cells arr ty fr)/\arr.toList=L
 ep:∀b L,g.ep b=some L->g.dj b≠none/\∃arr ty,w.heap[b]?=some (.cells arr ty (0,0))/\arr.toList=L
 dQ:∀b,g.dj b≠none->b<w.heap.size
 jo:∀b L,B.aD b=some L->g.aD b=some L
 frame:∀b,b<B.w.heap.size->B.dj b=none->B.aD b=none->g.dj b=none/\g.aD b=none/\w.heap[b]?=B.w.heap[b]?
 size:B.w.heap.size<=w.heap.size
 os:w.os=B.w.os
 tape:w.tape=B.w.tape
 output:w.output=B.w.output
 fix:∀b L,B.aD b=some L->w.heap[b]?=B.w.heap[b]?
structure Le (g g':Gh):Prop where
 aD:∀b L,g.aD b=some L->g'.aD b=some L
 top:∀id,g.top id<=g'.top id
 cv:∀id gen,gen<g.top id->g'.cv id gen=g.cv id gen
theorem Le.refl (g:Gh):Le g g:=⟨λ_ _ h=>h,λ_=>aE5 _,λ_ _ _=>rfl⟩
theorem Le.trans {a b c:Gh}(h:Le a b)(k:Le b c):Le a c:=
  ⟨λx L hx=>k.aD _ _ (h.aD _ _ hx),λid=>Nat.le_trans (h.top id) (k.top id),
   λid gen hg=>(k.cv id gen (aF7 hg (h.top id))).trans (h.cv id gen hg)⟩
structure Lk (g g':Gh):Prop where
 le:Le g g'
 kp:∀b,g.dj b=some 0->g'.dj b=some 0/\g'.ep b=g.ep b
 out:g'.outer=g.outer
theorem Lk.refl (g:Gh):Lk g g:=⟨Le.refl g,λ_ h=>⟨h,rfl⟩,rfl⟩
theorem Lk.trans {a b c:Gh}(h:Lk a b)(k:Lk b c):Lk a c:=
 ⟨h.le.trans k.le,λx hx=>⟨(k.kp x (h.kp x hx).1).1,((k.kp x (h.kp x hx).1).2).trans (h.kp x hx).2⟩,k.out.trans h.out⟩
theorem oN.mono {r r':Rd}(h:∀b L,r b=some L->r' b=some L):∀{xs:List Int}{u:Value},oN r xs u->oN r' xs u
 |[],_,hc=>hc
 |_::_,_,⟨b,p,e,hb,hc⟩=>⟨b,p,e,h _ _ hb,oN.mono h hc⟩
theorem Rc.mono {r r':Rd}(h:∀b L,r b=some L->r' b=some L):∀{τ:Ty}{x:τ.den}{cs:List Value},Rc r τ x cs->Rc r' τ x cs
 | .int _,_,_,hc=>hc
 | .bool,_,_,hc=>hc
 | .str,_,_,hc=>hc
 | .un,_,_,hc=>hc
 | .pr _ _,_,_,⟨c1,c2,e,h1,h2⟩=>⟨c1,c2,e,Rc.mono h h1,Rc.mono h h2⟩
 | .sl _,_,_,⟨A,c,e,hl,hc⟩=>⟨A,c,e,hl,hc.imp id λ⟨b,o,L,ea,hb,hi⟩=>⟨b,o,L,ea,h _ _ hb,λi qX=>Rc.mono h (hi i qX)⟩⟩
 | .cl,_,_,⟨u,e,hc⟩=>⟨u,e,hc.mono h⟩
theorem Rc.length {r:Rd}:∀{τ:Ty}{x:τ.den}{cs:List Value},Rc r τ x cs->cs.length=τ.size
 | .int _,_,_,h=>by have h:_=_:=h;subst h;rfl
 | .bool,_,_,h=>by have h:_=_:=h;subst h;rfl
 | .str,_,_,⟨_,e,_⟩=>by subst e;rfl
 | .un,_,_,h=>by have h:_=_:=h;subst h;rfl
 | .pr _ _,_,_,⟨c1,c2,e,h1,h2⟩=>by subst e;simp[Ty.size,h1.length,h2.length]
 | .sl _,_,_,⟨A,c,e,_⟩=>by subst e;rfl
 | .cl,_,_,⟨u,e,_⟩=>by subst e;rfl
theorem Rc.flat {r r':Rd}:∀{τ:Ty}{x:τ.den}{cs:List Value},τ.flat=true->Rc r τ x cs->Rc r' τ x cs
 | .int _,_,_,_,hc=>hc
 | .bool,_,_,_,hc=>hc
 | .str,_,_,_,hc=>hc
 | .un,_,_,_,hc=>hc
 | .pr _ _,_,_,hf,⟨c1,c2,e,h1,h2⟩=>by
  simp only[Ty.flat,aC6]at hf;exact⟨c1,c2,e,Rc.flat hf.1 h1,Rc.flat hf.2 h2⟩
 | .sl _,_,_,hf,_=>by simp[Ty.flat]at hf
 | .cl,_,_,hf,_=>by simp[Ty.flat]at hf
theorem pa.mono {r r':Rd}{τ:Ty}(h:∀b L,r b=some L->r' b=some L):∀{xs:List (Int×τ.den)}{es:List MapEntry},pa r τ xs es->pa r' τ xs es
 |[],_,hc=>hc
 |_::_,_,⟨e,r2,h1,h2,h3,h4⟩=>⟨e,r2,h1,h2,h3.mono h,pa.mono h h4⟩
theorem Els.mono {r r':Rd}(h:∀b L,r b=some L->r' b=some L){e:Ty}{xs:List e.den}{L:List Value}{o:Nat}(H:Els r e xs L o):Els r' e xs L o:=
 λi hi=>(H i hi).mono h
theorem Els.flat {r r':Rd}{e:Ty}(hf:e.flat=true){xs:List e.den}{L:List Value}{o:Nat}(H:Els r e xs L o):Els r' e xs L o:=
 λi hi=>(H i hi).flat hf
theorem sx.mono {g g':Gh}(h:Le g g'):∀{cs:List (Nat×Nat)}{us:List Value},sx g cs us->sx g' cs us
 |[],_,hc=>hc
 |_::_,_,⟨b,o,v,e,ht,kM,hc⟩=>⟨b,o,v,e,aF7 ht (h.top _),(h.cv _ _ ht).trans kM,sx.mono h hc⟩
theorem bu.mono {g g':Gh}(h:Le g g'){c:Cell}{u:Value}(hc:bu g c u):bu g' c u:=by
 cases c with
 |v τ x=>exact⟨hc.1,hc.2.mono h.aD⟩
 |nil=>exact hc
 |own id gen=>exact⟨aF7 hc.1 (h.top _),hc.2.1.trans (h.cv _ _ hc.1).symm,hc.2.2⟩
 |ptr id gen off=>obtain⟨ht,b,o,e,e'⟩:=hc;exact⟨aF7 ht (h.top _),b,o,(h.cv _ _ ht).trans e,e'⟩
 |np=>exact hc
 |nf=>exact hc
 |fn f jJ=>obtain⟨vs,e,hv⟩:=hc;exact⟨vs,e,hv.mono h⟩
 |err b=>exact hc
theorem aF.mono {g g':Gh}(h:Le g g'):∀{cs:List Cell}{us:List Value},aF g cs us->aF g' cs us
 |[],_,hc=>hc
 |_::_,_,⟨u,r,e,hu,hr⟩=>⟨u,r,e,hu.mono h,aF.mono h hr⟩
theorem ed.mono {g g':Gh}(h:Le g g'){v:Val}{u:Value}(hv:ed g v u):ed g' v u:=by
 cases v with
 |one c=>exact bu.mono h hv
 |agg cs=>obtain⟨us,e,hu⟩:=hv;exact⟨us,e,hu.mono h⟩
theorem fj.mono {g g':Gh}(h:Le g g'):∀{cs:List Val}{us:List Value},fj g cs us->fj g' cs us
 |[],_,hc=>hc
 |_::_,_,⟨u,r,e,hu,hr⟩=>⟨u,r,e,hu.mono h,fj.mono h hr⟩
theorem di.mono {g g':Gh}(h:Le g g'){s:Slot}{u:Value}(hs:di g s u):di g' s u:=by
 cases s with
 |val v=>exact ed.mono h hs
 |tb vs=>obtain⟨us,e,hu⟩:=hs;exact⟨us,e,hu.mono h⟩
 |ea c i off sz=>obtain⟨b,o,n,cap,hc,h0,h1,e⟩:=hs;exact⟨b,o,n,cap,hc.mono h,h0,h1,e⟩
 |fa xs off=>obtain⟨x,R6,b,p,e,hb,hc,e'⟩:=hs;exact⟨x,R6,b,p,e,h.aD _ _ hb,hc.mono h.aD,e'⟩
 |ga k=>exact hs
 |un=>exact hs
 |sk=>exact hs
theorem bu.Dd {g:Gh}{c:Cell}{u:Value}(h:bu g c u):oc u=true:=by
 cases c with
 |v τ x=>
  obtain⟨h1,h⟩:=h
  cases τ with
  |int k=>have h:_=_:=h;injection h with h;subst h;rfl
  |bool=>have h:_=_:=h;injection h with h;subst h;rfl
  |str=>obtain⟨s,e,_⟩:=h;injection e with e;subst e;rfl
  |un=>simp[Ty.one]at h1
  |pr a b=>simp[Ty.one]at h1
  |sl e=>obtain⟨A,c,e,_⟩:=h;injection e with e;subst e;rfl
  |cl=>
   obtain⟨u',e,h⟩:=h
   injection e with e;subst e
   have hx:oN g.aD (x:List Int) u:=h
   revert hx
   generalize(x:List Int)=xs
   intro hx
   cases xs with
   |nil=>have hx:_=_:=hx;subst hx;rfl
   |cons y ys=>obtain⟨b,p,e,_⟩:=hx;subst e;rfl
 |nil=>have h:_=_:=h;subst h;rfl
 |own id gen=>exact h.2.2
 |ptr id gen off=>obtain⟨_,b,o,_,e⟩:=h;subst e;rfl
 |np=>have h:_=_:=h;subst h;rfl
 |nf=>have h:_=_:=h;subst h;rfl
 |fn f jJ=>obtain⟨vs,e,_⟩:=h;subst e;rfl
 |err b=>rcases h with⟨_,e⟩|⟨_,t,v,e⟩<;>subst e<;>rfl
theorem Ab {u:Value}(h:oc u=true):u.cells=#[u]:=by cases u<;>simp_all[oc,Value.cells]
theorem aF.length {g:Gh}:∀{cs:List Cell}{us:List Value},aF g cs us->us.length=cs.length
 |[],_,h=>by have h:_=_:=h;subst h;rfl
 |_::_,_,⟨_,_,e,_,hr⟩=>by subst e;simp[hr.length]
theorem ed.cells {g:Gh}{v:Val}{u:Value}(h:ed g v u):aF g v.cells u.cells.toList:=by
 cases v with
 |one c=>rw[Ab (bu.Dd h)];exact⟨u,[],rfl,h,rfl⟩
 |agg cs=>obtain⟨us,e,hu⟩:=h;subst e;exact hu
theorem aF.append {g:Gh}:∀{a b:List Cell}{us vs:List Value},aF g a us->aF g b vs->aF g (a++b) (us++vs)
 |[],_,_,_,h,k=>by have h:_=_:=h;subst h;exact k
 |_::_,_,_,_,⟨u,r,e,hu,hr⟩,k=>by subst e;exact⟨u,_,rfl,hu,hr.append k⟩
theorem aF.take {g:Gh}:∀{a:List Cell}{us:List Value}(n:Nat),aF g a us->aF g (a.take n) (us.take n)
 |_,_,0,_=>by simp[aF]
 |[],_,n+1,h=>by have h:_=_:=h;subst h;simp[aF]
 |_::_,_,n+1,⟨u,r,e,hu,hr⟩=>by subst e;exact⟨u,_,rfl,hu,hr.take n⟩
theorem aF.drop {g:Gh}:∀{a:List Cell}{us:List Value}(n:Nat),aF g a us->aF g (a.drop n) (us.drop n)
 |_,_,0,h=>h
 |[],_,n+1,h=>by have h:_=_:=h;subst h;simp[aF]
 |_::_,_,n+1,⟨u,r,e,hu,hr⟩=>by subst e;exact hr.drop n
theorem aF.split {g:Gh}:∀{a b:List Cell}{us:List Value},aF g (a++b) us->∃u v,us=u++v/\aF g a u/\aF g b v
 |[],_,us,h=>⟨[],us,rfl,rfl,h⟩
 |_::_,_,_,⟨u,r,e,hu,hr⟩=>by
  obtain⟨x,y,e',hx,hy⟩:=aF.split hr;subst e;subst e';exact⟨u::x,y,rfl,⟨u,x,rfl,hu,hx⟩,hy⟩
theorem Lin.rc {r:Rd}:∀{τ:Ty}{x:τ.den}{cs:List Value}{nb:List Nat},Lin r τ x cs nb->Rc r τ x cs
 | .int _,_,_,_,h=>h.1
 | .bool,_,_,_,h=>h.1
 | .str,_,_,_,h=>h.1
 | .un,_,_,_,h=>h.1
 | .pr _ _,_,_,_,⟨c1,c2,_,_,e,_,h1,h2⟩=>⟨c1,c2,e,h1.rc,h2.rc⟩
 | .sl _,_,_,_,⟨_, .inl ⟨e,e',_⟩⟩=>by subst e';exact⟨none,0,e,aE5 _, .inl rfl⟩
 | .sl _,_,_,_,⟨_, .inr ⟨b,c,L,e,hl,_,hb,_,he⟩⟩=>⟨some ⟨b,0,none⟩,c,e,hl, .inr ⟨b,0,L,rfl,hb,he⟩⟩
 | .cl,_,_,_,h=>h.elim
theorem Lin.mono {r r':Rd}:∀{τ:Ty}{x:τ.den}{cs:List Value}{nb:List Nat},(∀b∈nb,∀L,r b=some L->r' b=some L)->Lin r τ x cs nb->Lin r' τ x cs nb
 | .int _,_,_,_,_,h=>h
 | .bool,_,_,_,_,h=>h
 | .str,_,_,_,_,h=>h
 | .un,_,_,_,_,h=>h
 | .pr _ _,_,_,_,hm,⟨c1,c2,n1,n2,e,e',h1,h2⟩=>
  ⟨c1,c2,n1,n2,e,e',h1.mono (λb hb=>hm b (by subst e';exact aF6 _ hb)),h2.mono (λb hb=>hm b (by subst e';exact aF3 _ hb))⟩
 | .sl _,_,_,_,_,⟨f, .inl h⟩=>⟨f, .inl h⟩
 | .sl _,_,_,_,hm,⟨f, .inr ⟨b,c,L,e,hl,hn,hb,hL,he⟩⟩=>⟨f, .inr ⟨b,c,L,e,hl,hn,hm b (by subst hn;simp) L hb,hL,he.flat f⟩⟩
 | .cl,_,_,_,_,h=>h.elim
theorem fk.mono {r r':Rd}{e:Ty}:∀{xs:List e.den}{L:List Value}{nb:List Nat},(∀b∈nb,∀L,r b=some L->r' b=some L)->fk r e xs L nb->fk r' e xs L nb
 |[],_,_,_,h=>h
 |_::_,_,_,hm,⟨n1,n2,e',h1,h2⟩=>
  ⟨n1,n2,e',h1.mono (λb hb=>hm b (by subst e';exact aF6 _ hb)),h2.mono (λb hb=>hm b (by subst e';exact aF3 _ hb))⟩
theorem fk.els {r:Rd}{e:Ty}:∀{xs:List e.den}{L:List Value}{nb:List Nat},fk r e xs L nb->Els r e xs L 0
 |[],_,_,_=>λi hi=>absurd hi (by simp)
 |x::xs,L,_,⟨_,_,_,h1,h2⟩=>λi hi=>by
  cases i with
  |zero=>simpa using h1.rc
  |succ i=>
   have qX:i<xs.length:=(by simpa using hi);have h:=h2.els i qX
   have e1:0+(i+1)*e.size=e.size+(0+i*e.size):=by rw[Nat.add_mul];omega
   simp only[List.getElem_cons_succ];rw[e1,<-List.drop_drop];exact h
theorem fk.nv {r:Rd}{e:Ty}:∀{xs:List e.den}{L:List Value}{nb:List Nat},fk r e xs L nb->∀b∈nb,r b≠none:=by
 have aw3:∀{τ:Ty} {x:τ.den} {cs:List Value} {nb:List Nat},Lin r τ x cs nb->∀b∈nb,r b≠none:=by
  intro τ
  induction τ with
  |int k=>intro x cs nb h b hb;rw[h.2]at hb;simp at hb
  |bool=>intro x cs nb h b hb;rw[h.2]at hb;simp at hb
  |str=>intro x cs nb h b hb;rw[h.2]at hb;simp at hb
  |un=>intro x cs nb h b hb;rw[h.2]at hb;simp at hb
  |pr a b vW vY=>
   intro x cs nb ⟨c1,c2,n1,n2,_,e,h1,h2⟩ b hb;subst e
   rcases aE9.1 hb with hb|hb
   ·exact vW h1 b hb
   ·exact vY h2 b hb
  |sl e _=>
   intro x cs nb ⟨_,h⟩ b hb
   rcases h with⟨_,_,e⟩|⟨b',c,L,_,_,e,hr,_⟩
   ·subst e;simp at hb
   ·subst e;simp only[List.mem_singleton]at hb;subst hb;rw[hr];simp
  |cl=>intro x cs nb h;exact h.elim
 intro xs
 induction xs with
 |nil=>intro L nb h b hb;have h:_=_:=h;subst h;simp at hb
 |cons x xs ih=>
  intro L nb ⟨n1,n2,e,h1,h2⟩ b hb;subst e
  rcases aE9.1 hb with hb|hb
  ·exact aw3 h1 b hb
  ·exact ih h2 b hb
theorem mZ.tr {g g':Gh}{w w':World}{id:Nat}{o:Obj}(hle:Le g g')(hl:∀b,g.dj b=some (id+1)->g'.dj b=some (id+1)/\g'.ep b=g.ep b/\w'.heap[b]?=w.heap[b]?)
  (ho:g'.outer id=g.outer id) (hg:o.gen<g.top id) (h:mZ g w id o):mZ g' w' id o:=by
 cases o with
 |box gen r=>
  obtain⟨b,o,arr,ty,L,h1,h2,h3,h4,h5,h6,h7⟩:=h;obtain⟨a1,a2,a3⟩:=hl b h2.1;refine⟨b,o,arr,ty,L,(hle.cv _ _ hg).trans h1,⟨a1,a2.trans h2.2⟩,a3.trans h3,h4.mono hle, ?_, ?_,by rw[ho];exact h7⟩
  ·rw[ho];exact h5
  ·rw[ho];exact h6
 |own gen τ deep xs=>
  rcases h with⟨h1,h2⟩|⟨b,cap,arr,ty,h1,h2,h3,h4,h5,h6,h7⟩
  ·exact .inl ⟨(hle.cv _ _ hg).trans h1,h2⟩
  ·obtain⟨a1,a2,a3⟩:=hl b h2;refine .inr ⟨b,cap,arr,ty,(hle.cv _ _ hg).trans h1,a1,a2.trans h3,a3.trans h4,h5,h6, ?_⟩;unfold dJ at h7⊢;split
   ·rename_i hd;rw[aG3 hd]at h7;obtain⟨nb,k1,k2,k3⟩:=h7;exact⟨nb,k1.mono (λb hb L hL=>by rw[(hl b (k3 b hb)).2.1];exact hL),k2,λb hb=>(hl b (k3 b hb)).1⟩
   ·rename_i hd;rw[aF4 hd]at h7;exact h7.mono hle.aD
 |cH gen τ xs=>have h:Rc _ _ _ _:=h;show Rc _ _ _ _;rw[show g'.cv id gen=g.cv id gen from hle.cv _ _ hg];exact h.mono hle.aD
 |Xx gen xs=>have h:oN _ _ _:=h;show oN _ _ _;rw[show g'.cv id gen=g.cv id gen from hle.cv _ _ hg];exact h.mono hle.aD
 |dead _=>trivial
 |iH _ _=>trivial
 |mp gen τ xs=>
  obtain⟨h1,b,es,Td,k1,k2,k3,k4,k5⟩:=h;obtain⟨a1,a2,a3⟩:=hl b k2;exact⟨h1,b,es,Td,(hle.cv _ _ hg).trans k1,a1,a2.trans k3,a3.trans k4,k5.mono hle.aD⟩
 |hole gen τ xs i off d gd=>
  obtain⟨h0,av3,WK,hf,b,cap,arr,ty,e,ys,x',h1,h2,h3,h4,h5,h6,h7,h8,h9,nb,k1,k2,k3⟩:=h;obtain⟨a1,a2,a3⟩:=hl b h2
  exact⟨aF7 h0 (hle.top _),av3,WK,hf,b,cap,arr,ty,e,ys,x',(hle.cv _ _ hg).trans h1,a1,a2.trans h3,a3.trans h4,h5,h6,h7,h8,by rw[hle.cv _ _ h0];exact h9,
   nb,k1.mono (λb hb L hL=>by rw[(hl b (k3 b hb)).2.1];exact hL),k2,λb hb=>(hl b (k3 b hb)).1⟩
 |sA gen xs a ag bid bg off=>
  obtain⟨h1,h2,h3,h4⟩:=h;refine⟨aF7 h1 (hle.top _),aF7 h2 (hle.top _),by rw[hle.cv _ _ h1];exact h3, ?_⟩;rw[hle.cv _ _ h1,hle.cv _ _ h2,show g'.cv id gen=g.cv id gen from hle.cv _ _ hg]
  rcases h4 with h4|⟨bb,oo,k1,k2,h4⟩
  ·exact .inl h4
  ·refine .inr ⟨bb,oo,k1,k2, ?_⟩
   rcases h4 with h4|⟨b,cap,arr,ty,e1,e2,e3,e4,e5,e6,e7,e8⟩
   ·exact .inl h4
   ·obtain⟨a1,a2,a3⟩:=hl b e2;exact .inr ⟨b,cap,arr,ty,e1,a1,a2.trans e3,a3.trans e4,e5,e6,e7.mono hle.aD,e8⟩
end Go.Abs
end

section
namespace Go.Abs
theorem AM.run_bind {α β:Type}(m:AM α)(f:α->AM β):∀s,(m.bind f).run s=(m.run s).bind λp=>(f p.1).run p.2:=by
 induction m with
 |ret a=>intro s;rfl
 |br b t e Rf Rn=>intro s;cases b<;>simp[AM.bind,AM.run,Rf,Rn]
 |fail=>intro s;rfl
 |vq t k ih=>intro s;simp only[AM.bind,AM.run];cases look s.env t<;>simp[ih]
 |AK t x k ih=>intro s;simp[AM.bind,AM.run,ih]
 |ke i k ih=>intro s;simp[AM.bind,AM.run,ih]
 |kr i o k ih=>intro s;simp[AM.bind,AM.run,ih]
 |opt c x k ih=>intro s;cases x<;>simp[AM.bind,AM.run,ih]
theorem AM.af {α β:Type}{m:AM α}{f:α->AM β}{s s':St}{b:β}(h:(m.bind f).run s=some (b,s')):
  ∃a t,m.run s=some (a,t)/\(f a).run t=some (b,s'):=by
 rw[AM.run_bind]at h
 cases hm:m.run s with
 |none=>rw[hm]at h;cases h
 |some p=>rw[hm]at h;exact⟨p.1,p.2,rfl,h⟩
theorem aE {β:Type}(l:List (Nat×β))(n:Nat)(b:β):look ((n,b)::l) n=some b:=by simp[look]
theorem ay {β:Type}(l:List (Nat×β)){n m:Nat}(b:β)(h:n≠m):look ((n,b)::l) m=look l m:=by
 have:Nat.beq n m=false:=by rw[Bool.eq_false_iff];intro e;exact h (Nat.eq_of_beq_eq_true e)
 simp[look,this]
theorem beq_eq {a b:Nat}(h:Nat.beq a b=true):a=b:=Nat.eq_of_beq_eq_true h
def Gh.nB (g:Gh)(S:Nat->Option (List Value)):Gh:=
  { g with aD := fun x => match S x with | some L => some L | none => g.aD x
           dj:=λx=>match S x with|some _=>none|none=>g.dj x
           ep:=λx=>match S x with|some _=>none|none=>g.ep x}
theorem HRel.Dc {B:Base}{g:Gh}{hp:List (Nat×Obj)}{w:World}(R:HRel B g hp w){S:Nat->Option (List Value)}{id:Nat}
  (hS:∀x L,S x=some L->g.dj x=some (id+1)):Le g (g.nB S):=by
 refine⟨λb L h=> ?_,λ_=>aE5 _,λ_ _ _=>rfl⟩;show(match S b with|some L=>some L|none=>g.aD b)=some L
 cases hs:S b with
 |none=>exact h
 |some L'=>exact absurd (hS b L' hs) (by rw[(R.aD b L h).1];simp)
theorem HRel.Di {B:Base}{g:Gh}{hp:List (Nat×Obj)}{w:World}(R:HRel B g hp w){S:Nat->Option (List Value)}{id:Nat}
  (hS:∀x L,S x=some L->g.dj x=some (id+1)):Lk g (g.nB S):=by
 refine⟨R.Dc hS,λb hb=> ?_,rfl⟩
 have hn:S b=none:=by
  cases hs:S b with
  |none=>rfl
  |some L=>exact absurd ((hS b L hs).symm.trans hb) (by simp)
 simp[Gh.nB,hn,hb]
theorem HRel.Iz {B:Base}{g:Gh}{hp:List (Nat×Obj)}{w:World}(R:HRel B g hp w){S:Nat->Option (List Value)}{id:Nat}{o o':Obj}
  (hS:∀x L,S x=some L->g.dj x=some (id+1)/\∃arr ty fr,w.heap[x]?=some (.cells arr ty fr)/\arr.toList=L)
  (ho:look hp id=some o) (xG:o'.gen=o.gen) (Fz:mZ (g.nB S) w id o'):HRel B (g.nB S) ((id,o')::hp) w:=by
 have hle:=R.Dc (λx L h=>(hS x L h).1);refine⟨λi=> ?_,λi oi hi=> ?_,λb L h=> ?_,λb L h=> ?_,λb h=> ?_,λb L h=>hle.aD _ _ (R.jo b L h),λb hb hl hi=> ?_,R.size,R.os,R.tape,R.output,R.fix⟩
 ·show g.top i=_;rw[R.top i]
  by_cases e:id=i
  ·subst e;rw[aE,ho];simp[xG]
  ·rw[ay _ _ e]
 ·by_cases e:id=i
  ·subst e;rw[aE]at hi;injection hi with hi;subst hi;exact Fz
  ·rw[ay _ _ e]at hi;refine(R.eD i oi hi).tr hle (λb hb=> ?_) rfl (by rw[R.top i,hi];exact Nat.lt_succ_self _)
   have hn:S b=none:=by
    cases hs:S b with
    |none=>rfl
    |some L=>exact absurd ((hS b L hs).1.symm.trans hb) (by simpa using e)
   simp[Gh.nB,hn,hb]
 ·simp only[Gh.nB]at h⊢
  cases hs:S b with
  |some L'=>
   rw[hs]at h
   injection h with h;subst h
   obtain⟨arr,ty,fr,h1,h2⟩:=(hS b L' hs).2;exact⟨rfl,rfl,arr,ty,fr,h1,h2⟩
  |none=>rw[hs]at h;exact R.aD b L h
 ·simp only[Gh.nB]at h⊢
  cases hs:S b with
  |some L'=>rw[hs]at h;cases h
  |none=>rw[hs]at h;exact R.ep b L h
 ·simp only[Gh.nB]at h
  cases hs:S b with
  |some L'=>rw[hs]at h;exact absurd rfl h
  |none=>rw[hs]at h;exact R.dQ b h
 ·obtain⟨f1,f2,f3⟩:=R.frame b hb hl hi
  have hn:S b=none:=by
   cases hs:S b with
   |none=>rfl
   |some L=>exact absurd (hS b L hs).1 (by rw[f1];simp)
  simp[Gh.nB,hn,f1,f2,f3]
theorem HRel.put {B:Base}{g:Gh}{hp:List (Nat×Obj)}{w:World}(R:HRel B g hp w){id:Nat}{o o':Obj}
  (ho:look hp id=some o) (xG:o'.gen=o.gen) (Fz:mZ g w id o'):HRel B g ((id,o')::hp) w:=by
 refine⟨λi=> ?_,λi oi hi=> ?_,R.aD,R.ep,R.dQ,R.jo,R.frame,R.size,R.os,R.tape,R.output,R.fix⟩
 ·rw[R.top i]
  by_cases e:id=i
  ·subst e;rw[aE,ho];simp[xG]
  ·rw[ay _ _ e]
 ·by_cases e:id=i
  ·subst e;rw[aE]at hi;injection hi with hi;subst hi;exact Fz
  ·rw[ay _ _ e]at hi;exact R.eD i oi hi
open Classical in
noncomputable def nbS (g:Gh)(nb:List Nat):Nat->Option (List Value):=λx=>if x∈nb then g.ep x else none
theorem HRel.MY {B:Base}{g:Gh}{hp:List (Nat×Obj)}{w:World}(R:HRel B g hp w){id gen:Nat}{τ:Ty}{deep:Bool}{xs:List τ.den}
  (h:look hp id=some (.own gen τ deep xs)):∃g',Lk g g'/\HRel B g' ((id, .own gen τ false xs)::hp) w:=by
 have hO:=R.eD _ _ h
 rcases hO with⟨h1,h2⟩|⟨b,cap,arr,ty,h1,h2,h3,h4,h5,h6,h7⟩
 ·exact⟨g,Lk.refl g,R.put h rfl (.inl ⟨h1,h2⟩)⟩
 ·by_cases hd:(deep&& !τ.flat)=true
  ·unfold dJ at h7;rw[aG3 hd]at h7;obtain⟨nb,k1,k2,k3⟩:=h7
   have hS:∀x L,nbS g nb x=some L->g.dj x=some (id+1)/\∃arr ty fr,w.heap[x]?=some (.cells arr ty fr)/\arr.toList=L:=by
    intro x L hx;unfold nbS at hx;split at hx
    ·rename_i hm;obtain⟨_,arr,ty,a,b⟩:=R.ep x L hx;exact⟨k3 x hm,arr,ty,(0,0),a,b⟩
    ·cases hx
   have BQ:b∉nb:=λhm=>k1.nv b hm h3
   have oS:nbS g nb b=none:=(by simp[nbS,BQ]);refine⟨_,R.Di (λx L hx=>(hS x L hx).1),R.Iz hS h rfl (.inr ⟨b,cap,arr,ty,h1,by simp[Gh.nB,oS,h2],by simp[Gh.nB,oS,h3],h4,h5,h6, ?_⟩)⟩;show dJ _ _ _ false _ _;unfold dJ;simp only[aD2,aG2,aH6];refine fk.els (nb:=nb) (k1.mono λx hx L hL=> ?_);simp[Gh.nB,nbS,hx,hL]
  ·refine⟨g,Lk.refl g,R.put h rfl (.inr ⟨b,cap,arr,ty,h1,h2,h3,h4,h5,h6, ?_⟩)⟩;unfold dJ at h7⊢;rw[aF4 hd]at h7;simpa using h7
theorem HRel.Sy {B:Base}{g:Gh}{hp:List (Nat×Obj)}{w:World}(R:HRel B g hp w){id gen:Nat}{τ:Ty}{xs:List τ.den}
  (h:look hp id=some (.own gen τ false xs)):∃g',Lk g g'/\HRel B g' ((id, .cH gen τ xs)::hp) w:=by
 have hO:=R.eD _ _ h
 rcases hO with⟨h1,h2⟩|⟨b,cap,arr,ty,h1,h2,h3,h4,h5,h6,h7⟩
 ·exact⟨g,Lk.refl g,R.put h rfl (by subst h2;exact⟨none,0,by rw[h1];rfl,aE5 _, .inl rfl⟩)⟩
 ·let S:Nat->Option (List Value):=λx=>if x=b then some arr.toList else none
  have hS:∀x L,S x=some L->g.dj x=some (id+1)/\∃arr ty fr,w.heap[x]?=some (.cells arr ty fr)/\arr.toList=L:=by
   intro x L hx;simp only[S]at hx;split at hx
   ·rename_i e;subst e;injection hx with hx;exact⟨h2,arr,ty,_,h4,hx⟩
   ·cases hx
  have hle:=R.Dc (λx L hx=>(hS x L hx).1);refine⟨_,R.Di (λx L hx=>(hS x L hx).1),R.Iz hS h rfl ?_⟩;unfold dJ at h7;simp only[aD2,aG2,aH6]at h7;exact⟨some ⟨b,0,none⟩,cap,by show [g.cv id gen]=_;rw[h1],h5, .inr ⟨b,0,arr.toList,rfl,by simp[Gh.nB,S],λi hi=>(h7 i hi).mono hle.aD⟩⟩
theorem HRel.EZ {B:Base}{g:Gh}{hp:List (Nat×Obj)}{w:World}(R:HRel B g hp w){id gen:Nat}{τ:Ty}{deep:Bool}{xs:List τ.den}
  (h:look hp id=some (.own gen τ deep xs)):∃g',Lk g g'/\HRel B g' ((id, .cH gen τ xs)::hp) w:=by
 obtain⟨g1,l1,R1⟩:=R.MY h;obtain⟨g2,l2,R2⟩:=R1.Sy (aE _ _ _);refine⟨g2,l1.trans l2,⟨λi=> ?_,λi o hi=> ?_,R2.aD,R2.ep,R2.dQ,R2.jo,R2.frame,R2.size,R2.os,R2.tape,R2.output,R2.fix⟩⟩
 ·rw[R2.top i]
  by_cases e:id=i
  ·subst e;simp[aE]
  ·simp[ay _ _ e]
 ·refine R2.eD i o ?_
  by_cases e:id=i
  ·subst e;simpa[aE]using hi
  ·simpa[ay _ _ e]using hi
theorem HRel.Lo {B:Base}{g:Gh}{hp:List (Nat×Obj)}{w:World}(R:HRel B g hp w){id gen:Nat}{x:Int}{c:Cell}{xs:List Int}{bt:Nat}
  (h:look hp id=some (.box gen (bt,[.v (.int .i64) x,c]))) (hid:id<G8)
  {b0 o0:Nat} {kN:Array Value} {FP:TypeId} {av5:Nat×Nat} {u0:Value} (Hg:g.cv id gen= .pointer (some ⟨b0,o0,none⟩)) (O8:w.heap[b0]?=some (.cells kN FP av5))
  (OT:kN.toList[1]?=some u0) (hc:oN g.aD xs u0):∃g',Lk g g'/\HRel B g' ((id, .Xx gen (x::xs))::hp) w:=by
 obtain⟨b,o,arr,ty,L,h1,h2,h3,h4,h5,h6,h7⟩:=R.eD _ _ h;obtain⟨u1,r1,e1,nN,u2,r2,e2,yi,e3⟩:=h4;have e3:r2=[]:=e3;subst e3;subst e2;subst e1;have V8:_=_:=nN.2
 injection V8 with V8
 subst V8;obtain⟨rfl,hlen,_⟩:=h7;simp only[aC3,aC5]at hlen;rw[h1]at Hg
 injection Hg with Hg;injection Hg with Hg;injection Hg with Hg ho0
 subst Hg;rw[h3]at O8
 injection O8 with O8;injection O8 with O8
 subst O8
 have AJ:arr.toList=[.int .i64 x,u2]:=by
  rw[h5];have:List.drop (0+2) (g.outer id)=[]:=List.drop_eq_nil_of_le (by omega);simp[this]
 let S:Nat->Option (List Value):=λy=>if y=b then some arr.toList else none
 have hS:∀x L,S x=some L->g.dj x=some (id+1)/\∃arr ty fr,w.heap[x]?=some (.cells arr ty fr)/\arr.toList=L:=by
  intro x L hx;simp only[S]at hx;split at hx
  ·rename_i e;subst e;injection hx with hx;exact⟨h2.1,arr,ty,_,h3,hx⟩
  ·cases hx
 have hle:=R.Dc (λx L hx=>(hS x L hx).1);refine⟨_,R.Di (λx L hx=>(hS x L hx).1),R.Iz hS h rfl ?_⟩
 have hu:u2=u0:=by rw[AJ]at OT;simpa using OT
 subst hu;exact⟨b,u2,h1,by simp[Gh.nB,S,AJ],hc.mono hle.aD⟩
theorem HRel.Q9 {B:Base}{g:Gh}{hp:List (Nat×Obj)}{w:World}(R:HRel B g hp w){id gen:Nat}{τ:Ty}{deep:Bool}{xs:List τ.den}
  (h:look hp id=some (.own gen τ deep xs)) (hf:τ.flat=true):∃g' nb,Lk g g'/\HRel B g' ((id, .dead gen)::hp) w/\
   Lin g'.ep (.sl τ) xs [g.cv id gen] nb/\nb.Nodup/\∀b∈nb,g'.dj b=some 0/\g.dj b≠some 0:=by
 rcases R.eD _ _ h with⟨h1,h2⟩|⟨b,cap,arr,ty,h1,h2,h3,h4,h5,h6,h7⟩
 ·exact⟨g,[],Lk.refl g,R.put h rfl trivial,⟨hf, .inl ⟨by rw[h1],h2,rfl⟩⟩,aG5,λb hb=>by simp at hb⟩
 ·let g':Gh:={g with dj:=λx=>if x=b then some 0 else g.dj x,ep:=λx=>if x=b then some arr.toList else g.ep x}
  have hle:Le g g':=⟨λ_ _ h=>h,λ_=>aE5 _,λ_ _ _=>rfl⟩
  have jy:∀x,g.dj x=some 0->x≠b:=λx hx e=>by subst e;rw[h2]at hx;simp at hx
  refine⟨g',[b],⟨hle,λx hx=>by simp[g',jy x hx,hx],rfl⟩, ?_,⟨hf, .inr ⟨b,cap,arr.toList,by rw[h1],h5,rfl,by simp[g'],by simpa using h6, ?_⟩⟩,by simp,λx hx=>by
   simp only[List.mem_singleton]at hx;subst hx;exact⟨by simp[g'],by rw[h2];simp⟩⟩
  ·refine⟨λi=> ?_,λi oi hi=> ?_,λx L hx=> ?_,λx L hx=> ?_,λx hx=> ?_,R.jo,λx hx hl hi=> ?_,R.size,R.os,R.tape,R.output,R.fix⟩
   ·show g.top i=_;rw[R.top i]
    by_cases e:id=i
    ·subst e;rw[aE,h];rfl
    ·rw[ay _ _ e]
   ·by_cases e:id=i
    ·subst e;rw[aE]at hi;injection hi with hi;subst hi;trivial
    ·rw[ay _ _ e]at hi;refine(R.eD i oi hi).tr hle (λx hx=> ?_) rfl (by rw[R.top i,hi];exact Nat.lt_succ_self _)
     have kn:x≠b:=λe'=>by subst e';rw[h2]at hx;simp at hx;exact e hx
     simp[g',kn,hx]
   ·have kn:x≠b:=λe'=>by subst e';have:=(R.aD x L hx).1;rw[h2]at this;cases this
    obtain⟨a1,a2,a3⟩:=R.aD x L hx;exact⟨by simp[g',kn,a1],by simp[g',kn,a2],a3⟩
   ·by_cases kn:x=b
    ·subst kn;simp only[g',if_true]at hx⊢
     injection hx with hx
     exact⟨by simp,arr,ty,h4,hx⟩
    ·simp only[g',kn,aH6]at hx⊢;exact R.ep x L hx
   ·by_cases kn:x=b
    ·subst kn;exact R.dQ x (by rw[h2];simp)
    ·simp only[g',kn,aH6]at hx;exact R.dQ x hx
   ·obtain⟨f1,f2,f3⟩:=R.frame x hx hl hi
    have kn:x≠b:=λe'=>by subst e';rw[h2]at f1;cases f1
    exact⟨by simp[g',kn,f1],f2,f3⟩
  ·unfold dJ at h7;simp only[hf,aE6,aD0,aG2,aH6]at h7;exact h7.flat hf
end Go.Abs
end

section
namespace Go.Abs
def iC (g:Gh)(env:List (Nat×Slot))(a:Act):Prop:=∀t s,look env t=some s->di g s (a.tmps.getD t undef)
theorem iC.mono {g g':Gh}(h:Le g g'){env:List (Nat×Slot)}{a:Act}(H:iC g env a):iC g' env a:=λt s hs=>(H t s hs).mono h
theorem ah {α:Type}{a b:α}{s s':St}(h:(AM.ret a).run s=some (b,s')):b=a/\s'=s:=by
 simp only[AM.run,aG1,aH2]at h;exact⟨h.1.symm,h.2.symm⟩
theorem ct {α:Type}{x:Option α}{b:α}{s s':St}(h:(iD x).run s=some (b,s')):x=some b/\s'=s:=by
 cases x with
 |none=>cases h
 |some a=>obtain⟨rfl,rfl⟩:=ah h;exact⟨rfl,rfl⟩
theorem j6 {τ τ':Ty}{x:List τ.den}{y:List τ'.den}{s s':St}(h:(uJ (τ':=τ') x).run s=some (y,s')):∃e:τ=τ',y=e ▸ x/\s'=s:=by
 unfold uJ at h;split at h
 ·rename_i e;obtain⟨h1,h2⟩:=ah h;exact⟨e,h1,h2⟩
 ·cases h
theorem Mk {α:Type}{b:Bool}{m n:AM α}{x:α}{s s':St}(h:(AM.br b m n).run s=some (x,s')):(b=true/\m.run s=some (x,s'))\/(b=false/\n.run s=some (x,s')):=by
 cases b
 ·exact .inr ⟨rfl,h⟩
 ·exact .inl ⟨rfl,h⟩
theorem lV {α:Type}{b:Bool}{m:AM α}{x:α}{s s':St}(h:(AM.br b m .fail).run s=some (x,s')):b=true/\m.run s=some (x,s'):=by
 rcases Mk h with h|⟨_,h⟩
 ·exact h
 ·cases h
theorem bm {α:Type}{b:Bool}{m:AM α}{x:α}{s s':St}(h:(bif b then m else AM.fail).run s=some (x,s')):b=true/\m.run s=some (x,s'):=by
 cases b
 ·cases h
 ·exact⟨rfl,h⟩
theorem gN {B:Base}{g:Gh}{hp:List (Nat×Obj)}{w:World}(R:HRel B g hp w){id:Nat}{o:Obj}(h:look hp id=some o):o.gen<g.top id:=by
 rw[R.top id,h];exact Nat.lt_succ_self _
theorem Lz:∀(k:Nat)(c:Cell)(s:St)(xs:List Int)(s':St),(ON k c).run s=some (xs,s')->
  s'.env=s.env/\(∀i g cs,look s'.hp i=some (.box g cs)->look s.hp i=some (.box g cs))/\
   ∀B g w,HRel B g s.hp w->∃g',Lk g g'/\HRel B g' s'.hp w/\∀u,bu g c u->oN g'.aD xs u:=by
 intro k
 have np:∀(s:St) (xs:List Int) (s':St),(AM.ret ([]:List Int)).run s=some (xs,s')->
   s'.env=s.env/\(∀i g cs,look s'.hp i=some (.box g cs)->look s.hp i=some (.box g cs))/\
   ∀B g w,HRel B g s.hp w->∃g',Lk g g'/\HRel B g' s'.hp w/\∀u,bu g .np u->oN g'.aD xs u:=by
  intro s xs s' h;obtain⟨rfl,rfl⟩:=ah h;exact⟨rfl,λ_ _ _ h=>h,λB g w R=>⟨g,Lk.refl g,R,λu hc=>hc⟩⟩
 have v:∀(x:List Int) (s:St) (xs:List Int) (s':St),(AM.ret x).run s=some (xs,s')->
   s'.env=s.env/\(∀i g cs,look s'.hp i=some (.box g cs)->look s.hp i=some (.box g cs))/\
   ∀B g w,HRel B g s.hp w->∃g',Lk g g'/\HRel B g' s'.hp w/\∀u,bu g (.v .cl x) u->oN g'.aD xs u:=by
  intro x s xs s' h;obtain⟨rfl,rfl⟩:=ah h;exact⟨rfl,λ_ _ _ h=>h,λB g w R=>⟨g,Lk.refl g,R,λu hc=>by obtain⟨_,u',e,hx⟩:=hc;injection e with e;subst e;exact hx⟩⟩
 induction k with
 |zero=>
  intro c s xs s' h
  cases c with
  |v τ x=>cases τ<;>first|exact v _ _ _ _ h|exact nomatch h
  |np=>exact np _ _ _ h
  |nf=>exact nomatch h
  |nil=>exact nomatch h
  |own _ _=>exact nomatch h
  |ptr _ _ off=>cases off<;>exact nomatch h
  |fn _ _=>exact nomatch h
  |err _=>exact nomatch h
 |succ k ih=>
  intro c s xs s' h
  cases c with
  |v τ x=>cases τ<;>first|exact v _ _ _ _ h|exact nomatch h
  |np=>exact np _ _ _ h
  |nf=>exact nomatch h
  |nil=>exact nomatch h
  |own _ _=>exact nomatch h
  |fn _ _=>exact nomatch h
  |err _=>exact nomatch h
  |ptr id gen off=>
   cases off with
   |succ n=>exact nomatch h
   |zero=>
    simp only[ON,AM.run]at h;split at h
    ·rename_i g0 x c heq;obtain⟨hb,h'⟩:=bm h;clear h;simp only[aC6]at hb;obtain rfl:=beq_eq hb.1;have hid:id<G8:=aE7 hb.2;obtain⟨ys,t,h1,h2⟩:=AM.af h';clear h';obtain⟨he,YV,hs⟩:=ih _ _ _ _ h1;simp only[AM.run]at h2;split at h2
     ·rename_i g1 cs1 Zt;have e1:=(YV _ _ _ Zt).symm.trans heq
      injection e1 with e1
      injection e1 with ea eb
      subst ea;subst eb;simp only[AM.run,aG1,aH2]at h2;obtain⟨rfl,rfl⟩:=h2;refine⟨he,λi g cs hi=> ?_,λB g w R=> ?_⟩
      ·by_cases ei:id=i
       ·subst ei;simp[aE]at hi
       ·rw[ay _ _ ei]at hi;exact YV _ _ _ hi
      ·have ht:=gN R heq;obtain⟨b',o',arr,ty,L,k1,k2,k3,k4,k5,k6,k7⟩:=R.eD _ _ heq;obtain⟨u1,r1,e1,nN,u2,r2,e2,yi,e3⟩:=k4;have e3:r2=[]:=e3;subst e3;subst e2;subst e1;obtain⟨g2,l1,R1,Tm⟩:=hs B g w R;obtain⟨rfl,hlen,_⟩:=k7;have aj5:g2.cv id g1= .pointer (some ⟨b',0,none⟩):=(l1.le.cv _ _ ht).trans k1;obtain⟨g3,l2,R2⟩:=R1.Lo Zt hid aj5 k3 (by rw[k5];simp) (Tm u2 yi);refine⟨g3,l1.trans l2,R2,λu hc=> ?_⟩;obtain⟨_,b,o,kM,hu⟩:=hc;have hP:oN _ _ _:=R2.eD _ _ (aE _ _ _);have aj7:g3.cv id g1=g.cv id g1:=(l1.trans l2).le.cv _ _ ht;rw[aj7,kM]at hP;subst hu;exact hP
     ·exact nomatch h2
    ·rename_i g0 ys heq;obtain⟨hb,h'⟩:=bm h;clear h;obtain rfl:=beq_eq hb;obtain⟨rfl,rfl⟩:=ah h';refine⟨rfl,λ_ _ _ h=>h,λB g w R=>⟨g,Lk.refl g,R,λu hc=> ?_⟩⟩;obtain⟨ht,b,o,kM,hu⟩:=hc;have Tm:oN _ _ _:=R.eD _ _ heq;rw[kM]at Tm;subst hu;exact Tm
    ·exact nomatch h
theorem B8 (τ:Ty)(c:Cell)(s:St)(x:τ.den)(s':St)(h:(datum τ c).run s=some (x,s')):
  s'.env=s.env/\∀B g w,HRel B g s.hp w->∃g',Lk g g'/\HRel B g' s'.hp w/\∀u,bu g c u->τ.one=true/\Rc g'.aD τ x [u]:=by
 cases τ with
 |int k=>
  cases c with
  |v τ' x'=>
   cases τ' with
   |int k'=> ?_
   |_=>exact nomatch h
   simp only[datum]at h;split at h
   ·rename_i e;subst e;obtain⟨rfl,rfl⟩:=ah h;exact⟨rfl,λB g w R=>⟨g,Lk.refl g,R,λu hc=>hc⟩⟩
   ·exact nomatch h
  |_=>exact nomatch h
 |bool=>
  cases c with
  |v τ' x'=>
   cases τ' with
   |bool=> ?_
   |_=>exact nomatch h
   obtain⟨rfl,rfl⟩:=ah h;exact⟨rfl,λB g w R=>⟨g,Lk.refl g,R,λu hc=>hc⟩⟩
  |_=>exact nomatch h
 |str=>
  cases c with
  |v τ' x'=>
   cases τ' with
   |str=> ?_
   |_=>exact nomatch h
   obtain⟨rfl,rfl⟩:=ah h;exact⟨rfl,λB g w R=>⟨g,Lk.refl g,R,λu hc=>hc⟩⟩
  |_=>exact nomatch h
 |un=>cases c<;>exact nomatch h
 |pr a b=>cases c<;>exact nomatch h
 |cl=>
  obtain⟨he,_,hs⟩:=Lz 4 c s x s' h;refine⟨he,λB g w R=> ?_⟩;obtain⟨g',l,R',hc⟩:=hs B g w R;exact⟨g',l,R',λu hu=>⟨rfl,u,rfl,hc u hu⟩⟩
 |sl e=>
  cases c with
  |v τ' x'=>
   cases τ' with
   |sl e'=> ?_
   |_=>exact nomatch h
   simp only[datum]at h;obtain⟨ee,hx,rfl⟩:=j6 h;subst ee;subst hx;exact⟨rfl,λB g w R=>⟨g,Lk.refl g,R,λu hc=>hc⟩⟩
  |nil=>
   obtain⟨rfl,rfl⟩:=ah h;exact⟨rfl,λB g w R=>⟨g,Lk.refl g,R,λu hc=>⟨rfl,none,0,by have hc:_=_:=hc;subst hc;rfl,aE5 _, .inl rfl⟩⟩⟩
  |own id gen=>
   simp only[datum,AM.run]at h;split at h
   ·rename_i g0 τ' deep xs heq;obtain⟨hb,h'⟩:=bm h;clear h;obtain rfl:=beq_eq hb;simp only[AM.run]at h';obtain⟨ee,hx,rfl⟩:=j6 h';subst ee;subst hx;refine⟨rfl,λB g w R=> ?_⟩;obtain⟨g',l,R'⟩:=R.EZ heq;refine⟨g',l,R',λu hc=>⟨rfl, ?_⟩⟩;have hP:Rc _ _ _ _:=R'.eD _ _ (aE _ _ _);rw[show g'.cv id g0=g.cv id g0 from l.le.cv _ _ (gN R heq)]at hP;rw[hc.2.1];exact hP
   ·rename_i g0 τ' xs heq;obtain⟨hb,h'⟩:=bm h;clear h;obtain rfl:=beq_eq hb;obtain⟨ee,hx,rfl⟩:=j6 h';subst ee;subst hx;refine⟨rfl,λB g w R=>⟨g,Lk.refl g,R,λu hc=>⟨rfl, ?_⟩⟩⟩;have hP:Rc _ _ _ _:=R.eD _ _ heq;rw[hc.2.1];exact hP
   ·exact nomatch h
  |ptr _ _ _=>exact nomatch h
  |np=>exact nomatch h
  |nf=>exact nomatch h
  |fn _ _=>exact nomatch h
  |err _=>exact nomatch h
theorem Jk (τ:Ty)(c:Cell)(s:St)(x:τ.den)(s':St)(h:(Ku τ c).run s=some (x,s')):
  s'.env=s.env/\∀B g w,HRel B g s.hp w->∃g',Lk g g'/\HRel B g' s'.hp w/\∀u,bu g c u->∃nb,Lin g'.ep τ x [u] nb/\nb.Nodup/\∀b∈nb,g'.dj b=some 0/\g.dj b≠some 0:=by
 have none_:∀{g:Gh} {b:Nat},b∈([]:List Nat)->g.dj b=some 0/\g.dj b≠some 0:=λh=>by simp at h
 cases τ with
 |int k=>
  cases c with
  |v τ' x'=>
   cases τ' with
   |int k'=> ?_
   |_=>exact nomatch h
   simp only[Ku]at h;split at h
   ·rename_i e;subst e;obtain⟨rfl,rfl⟩:=ah h;exact⟨rfl,λB g w R=>⟨g,Lk.refl g,R,λu hc=>⟨[],⟨hc.2,rfl⟩,aG5,λb h=>none_ h⟩⟩⟩
   ·exact nomatch h
  |_=>exact nomatch h
 |bool=>
  cases c with
  |v τ' x'=>
   cases τ' with
   |bool=> ?_
   |_=>exact nomatch h
   obtain⟨rfl,rfl⟩:=ah h;exact⟨rfl,λB g w R=>⟨g,Lk.refl g,R,λu hc=>⟨[],⟨hc.2,rfl⟩,aG5,λb h=>none_ h⟩⟩⟩
  |_=>exact nomatch h
 |str=>
  cases c with
  |v τ' x'=>
   cases τ' with
   |str=> ?_
   |_=>exact nomatch h
   obtain⟨rfl,rfl⟩:=ah h;exact⟨rfl,λB g w R=>⟨g,Lk.refl g,R,λu hc=>⟨[],⟨hc.2,rfl⟩,aG5,λb h=>none_ h⟩⟩⟩
  |_=>exact nomatch h
 |un=>cases c<;>exact nomatch h
 |pr a b=>cases c<;>exact nomatch h
 |cl=>cases c<;>exact nomatch h
 |sl e=>
  cases c with
  |v τ' x'=>cases τ'<;>exact nomatch h
  |nil=>
   obtain⟨hb,h'⟩:=bm h;clear h;obtain⟨rfl,rfl⟩:=ah h';exact⟨rfl,λB g w R=>⟨g,Lk.refl g,R,λu hc=>⟨[],⟨hb, .inl ⟨by have hc:_=_:=hc;subst hc;rfl,rfl,rfl⟩⟩,aG5,λb h=>none_ h⟩⟩⟩
  |own id gen=>
   simp only[Ku,AM.run]at h;split at h
   ·rename_i g0 τ' deep xs heq;obtain⟨hb,h'⟩:=bm h;clear h;simp only[aC6]at hb;obtain rfl:=beq_eq hb.1;simp only[AM.run]at h';obtain⟨ee,hx,rfl⟩:=j6 h';subst ee;subst hx;refine⟨rfl,λB g w R=> ?_⟩;obtain⟨g',nb,l,R',hL,hn,hl⟩:=R.Q9 heq hb.2;exact⟨g',l,R',λu hc=>⟨nb,by rw[hc.2.1];exact hL,hn,hl⟩⟩
   ·exact nomatch h
  |ptr _ _ _=>exact nomatch h
  |np=>exact nomatch h
  |nf=>exact nomatch h
  |fn _ _=>exact nomatch h
  |err _=>exact nomatch h
def Got (g:Gh)(mv:Bool)(τ:Ty)(x:τ.den)(us:List Value)(nb:List Nat):Prop:=
 if mv then Lin g.ep τ x us nb/\nb.Nodup/\∀b∈nb,g.dj b=some 0 else Rc g.aD τ x us/\nb=[]
theorem Got.len {g:Gh}{mv:Bool}{τ:Ty}{x:τ.den}{us:List Value}{nb:List Nat}(h:Got g mv τ x us nb):us.length=τ.size:=by
 unfold Got at h;split at h
 ·exact h.1.rc.length
 ·exact h.1.length
theorem Got.mono {g g':Gh}(l:Lk g g'){mv:Bool}{τ:Ty}{x:τ.den}{us:List Value}{nb:List Nat}(h:Got g mv τ x us nb):Got g' mv τ x us nb:=by
 unfold Got at h⊢;split
 ·rename_i e;rw[aG3 e]at h;exact⟨h.1.mono (λb hb L hL=>by rw[(l.kp b (h.2.2 b hb)).2];exact hL),h.2.1,λb hb=>(l.kp b (h.2.2 b hb)).1⟩
 ·rename_i e;rw[aF4 e]at h;exact⟨h.1.mono l.le.aD,h.2⟩
theorem P4 {mv:Bool}{τ:Ty}(h1:τ.one=true)(cells:List Cell):pack mv τ cells=match cells with
  |c::cs=>(bif mv then Ku τ c else datum τ c).bind λx=> .ret (x,cs)
  |[]=> .fail:=by
 cases τ<;>first|(simp[Ty.one]at h1;done)|(cases cells<;>rfl)
theorem Ek (mv:Bool):∀(τ:Ty)(cells:List Cell)(s:St)(x:τ.den)(rest:List Cell)(s':St),(pack mv τ cells).run s=some ((x,rest),s')->
  s'.env=s.env/\∀B g w,HRel B g s.hp w->∃g',Lk g g'/\HRel B g' s'.hp w/\∀us,aF g cells us->
   ∃NW R7 nb,us=NW++R7/\Got g' mv τ x NW nb/\aF g' rest R7/\∀b∈nb,g.dj b≠some 0:=by
 have single:∀(τ:Ty),τ.one=true->∀(cells:List Cell) (s:St) (x:τ.den) (rest:List Cell) (s':St),(pack mv τ cells).run s=some ((x,rest),s')->
  s'.env=s.env/\∀B g w,HRel B g s.hp w->∃g',Lk g g'/\HRel B g' s'.hp w/\∀us,aF g cells us->
   ∃NW R7 nb,us=NW++R7/\Got g' mv τ x NW nb/\aF g' rest R7/\∀b∈nb,g.dj b≠some 0:=by
  intro τ h1 cells s x rest s' h;rw[P4 h1]at h
  cases cells with
  |nil=>exact nomatch h
  |cons c cs=>
   obtain⟨y,t,h2,h3⟩:=AM.af h;obtain⟨h4,rfl⟩:=ah h3
   injection h4 with h4 h5
   subst h4;subst h5
   cases mv with
   |true=>
    obtain⟨he,hs⟩:=Jk τ c s _ _ h2;refine⟨he,λB g w R=> ?_⟩;obtain⟨g',l,R',hc⟩:=hs B g w R;refine⟨g',l,R',λus hu=> ?_⟩;obtain⟨u,r,rfl,nN,hr⟩:=hu;obtain⟨nb,a1,a2,a3⟩:=hc u nN;exact⟨[u],r,nb,rfl,⟨a1,a2,λb hb=>(a3 b hb).1⟩,hr.mono l.le,λb hb=>(a3 b hb).2⟩
   |false=>
    obtain⟨he,hs⟩:=B8 τ c s _ _ h2;refine⟨he,λB g w R=> ?_⟩;obtain⟨g',l,R',hc⟩:=hs B g w R;refine⟨g',l,R',λus hu=> ?_⟩;obtain⟨u,r,rfl,nN,hr⟩:=hu;exact⟨[u],r,[],rfl,⟨(hc u nN).2,rfl⟩,hr.mono l.le,λb hb=>by simp at hb⟩
 intro τ
 induction τ with
 |int k=>exact single _ rfl
 |bool=>exact single _ rfl
 |str=>exact single _ rfl
 |sl e _=>exact single _ rfl
 |cl=>exact single _ rfl
 |un=>
  intro cells s x rest s' h;obtain⟨h1,rfl⟩:=ah h
  injection h1 with h1 h2
  subst h2;refine⟨rfl,λB g w R=>⟨g,Lk.refl g,R,λus hu=>⟨[],us,[],rfl, ?_,hu,λb hb=>by simp at hb⟩⟩⟩;unfold Got;split
  ·exact⟨⟨rfl,rfl⟩,aG5,λb hb=>by simp at hb⟩
  ·exact⟨rfl,rfl⟩
 |pr a b vW vY=>
  intro cells s x rest s' h;obtain⟨p,t,h1,h2⟩:=AM.af h;obtain⟨q,t2,h3,h4⟩:=AM.af h2;obtain⟨h5,rfl⟩:=ah h4
  injection h5 with h5 h6
  subst h5;subst h6;obtain⟨e1,k1⟩:=vW _ _ _ _ _ h1;obtain⟨e2,k2⟩:=vY _ _ _ _ _ h3;refine⟨e2.trans e1,λB g w R=> ?_⟩;obtain⟨g1,l1,R1,c1⟩:=k1 B g w R;obtain⟨g2,l2,R2,c2⟩:=k2 B g1 w R1;refine⟨g2,l1.trans l2,R2,λus hu=> ?_⟩;obtain⟨ua,ub,na,rfl,ga,ra,fa⟩:=c1 us hu;obtain⟨uc,ud,nc,rfl,gc,rc,fc⟩:=c2 ub ra;refine⟨ua++uc,ud,na++nc,by simp, ?_,rc, ?_⟩
  ·have Ue:=ga.mono l2;unfold Got at ga Ue gc⊢
   cases mv with
   |true=>
    simp only[if_true]at ga Ue gc⊢;refine⟨⟨ua,uc,na,nc,rfl,rfl,Ue.1,gc.1⟩, ?_,λb hb=> ?_⟩
    ·rw[aH0];refine⟨Ue.2.1,gc.2.1,λx hx y hy e=> ?_⟩;subst e;exact fc x hy (ga.2.2 x hx)
    ·rcases aE9.1 hb with hb|hb
     ·exact Ue.2.2 b hb
     ·exact gc.2.2 b hb
   |false=>
    simp only[aG2,aH6]at Ue gc⊢;exact⟨⟨ua,uc,rfl,Ue.1,gc.1⟩,by rw[Ue.2,gc.2];rfl⟩
  ·intro b hb
   rcases aE9.1 hb with hb|hb
   ·exact fa b hb
   ·intro e;exact fc b hb (l1.kp b e).1
theorem mr {g:Gh}:∀{τ:Ty}{x:τ.den}{us:List Value},Rc g.aD τ x us->aF g (unpack τ x) us
 | .int _,_,_,h=>by have h':_=_:=h;subst h';exact⟨_,_,rfl,⟨rfl,h⟩,rfl⟩
 | .bool,_,_,h=>by have h':_=_:=h;subst h';exact⟨_,_,rfl,⟨rfl,h⟩,rfl⟩
 | .str,_,_,h=>by obtain⟨s,e,_⟩:=id h;subst e;exact⟨_,_,rfl,⟨rfl,h⟩,rfl⟩
 | .un,_,_,h=>h
 | .pr _ _,_,_,⟨c1,c2,e,h1,h2⟩=>by subst e;exact(mr h1).append (mr h2)
 | .sl _,_,_,h=>by obtain⟨A,c,e,_⟩:=id h;subst e;exact⟨_,_,rfl,⟨rfl,h⟩,rfl⟩
 | .cl,_,_,h=>by obtain⟨u,e,_⟩:=id h;subst e;exact⟨_,_,rfl,⟨rfl,h⟩,rfl⟩
end Go.Abs
end

section
namespace Go.Abs
open Classical in
noncomputable def Gh.inst (g:Gh)(id gen b:Nat)(u:Value)(nb:List Nat)(out:List Value):Gh:=
  { g with top := fun i => if i = id then gen + 1 else g.top i
           cv:=λi k=>if i=id/\k=gen then u else g.cv i k
           dj:=λx=>if x=b\/x∈nb then some (id+1)else g.dj x
           outer:=λi=>if i=id then out else g.outer i}
structure Free (g:Gh)(hp:List (Nat×Obj))(w:World)(b:Nat):Prop where
 obj:∀i,g.dj b=some (i+1)->∀o,look hp i=some o->∃gen,o= .dead gen
 Q9:g.dj b≠some 0
 aD:g.aD b=none
 ep:g.ep b=none
 new:g.dj b=none->w.heap.size<=b
structure Turned (w w':World)(b:Nat):Prop where
 other:∀x,x≠b->w'.heap[x]?=w.heap[x]?
 size:w.heap.size<=w'.heap.size
 lt:b<w'.heap.size
 os:w'.os=w.os
 tape:w'.tape=w.tape
 output:w'.output=w.output
theorem HRel.Dm {B:Base}{g:Gh}{hp:List (Nat×Obj)}{w:World}(_R:HRel B g hp w){id gen b:Nat}{u:Value}{nb:List Nat}{out:List Value}
  (hg:gen=g.top id):Le g (g.inst id gen b u nb out):=by
 refine⟨λ_ _ h=>h,λi=> ?_,λi k hk=> ?_⟩
 ·show g.top i<=if i=id then gen+1 else g.top i
  split
  ·rename_i e;subst e;omega
  ·exact aE5 _
 ·show(if i=id/\k=gen then u else g.cv i k)=g.cv i k;rw[aF4];rintro⟨rfl,rfl⟩;omega
theorem HRel.install {B:Base}{g:Gh}{hp:List (Nat×Obj)}{w w':World}(R:HRel B g hp w){id gen b:Nat}{u:Value}{nb:List Nat}{out:List Value}{o':Obj}
  (hg:gen=g.top id) (hf:Free g hp w b) (hw:Turned w w' b) (oS:∀x∈nb,g.dj x=some 0) (xG:o'.gen=gen)
  (Fz:mZ (g.inst id gen b u nb out) w' id o'):HRel B (g.inst id gen b u nb out) ((id,o')::hp) w':=by
 have hle:=R.Dm (b:=b) (u:=u) (nb:=nb) (out:=out) hg
 have BQ:∀x∈nb,x≠b:=λx hx e=>hf.Q9 (by subst e;exact oS x hx)
 refine⟨λi=> ?_,λi oi hi=> ?_,λx L hx=> ?_,λx L hx=> ?_,λx hx=> ?_,R.jo,λx hx hl hi=> ?_,Nat.le_trans R.size hw.size,hw.os.trans R.os,hw.tape.trans R.tape,hw.output.trans R.output,λx L hx=> ?_⟩
 ·show(if i=id then gen+1 else g.top i)=_
  by_cases e:id=i
  ·subst e;rw[aE,aG3 rfl];simp[xG]
  ·rw[ay _ _ e,aF4 (λh=>e h.symm)];exact R.top i
 ·by_cases e:id=i
  ·subst e;rw[aE]at hi;injection hi with hi;subst hi;exact Fz
  ·rw[ay _ _ e]at hi
   have gX:oi.gen<g.top i:=by rw[R.top i,hi];exact Nat.lt_succ_self _
   by_cases hb:g.dj b=some (i+1)
   ·obtain⟨gn,rfl⟩:=hf.obj i hb oi hi
    trivial
   ·refine(R.eD i oi hi).tr hle (λx hx=> ?_) (by simp only[Gh.inst];rw[aF4 (λh=>e h.symm)]) gX
    have kn:x≠b:=λe'=>by subst e';exact hb hx
    have kx:x∉nb:=λhm=>by rw[oS x hm]at hx;simp at hx
    exact⟨by simp[Gh.inst,kn,kx,hx],rfl,hw.other x kn⟩
 ·have hy:g.aD x=some L:=hx;obtain⟨a1,a2,arr,ty,fr,a3,a4⟩:=R.aD x L hy
  have kn:x≠b:=λe=>by rw[e,hf.aD]at hy;cases hy
  have kx:x∉nb:=λhm=>by rw[oS x hm]at a1;simp at a1
  exact⟨by simp[Gh.inst,kn,kx,a1],a2,arr,ty,fr,(hw.other x kn).trans a3,a4⟩
 ·have hy:g.ep x=some L:=hx;obtain⟨a1,arr,ty,a3,a4⟩:=R.ep x L hy
  have kn:x≠b:=λe=>by rw[e,hf.ep]at hy;cases hy
  refine⟨?_,arr,ty,(hw.other x kn).trans a3,a4⟩
  by_cases kx:x∈nb
  ·simp[Gh.inst,kx]
  ·simp[Gh.inst,kn,kx,a1]
 ·by_cases kn:x=b
  ·subst kn;exact hw.lt
  ·by_cases kx:x∈nb
   ·exact aF7 (R.dQ x (by rw[oS x kx];simp)) hw.size
   ·have RG:g.dj x≠none:=by simpa[Gh.inst,kn,kx]using hx
    exact aF7 (R.dQ x RG) hw.size
 ·obtain⟨f1,f2,f3⟩:=R.frame x hx hl hi
  have kn:x≠b:=λe=>by
   subst e;have:=hf.new f1;have:=R.size;omega
  have kx:x∉nb:=λhm=>by rw[oS x hm]at f1;simp at f1
  exact⟨by simp[Gh.inst,kn,kx,f1],f2,(hw.other x kn).trans f3⟩
 ·have kn:x≠b:=λe=>by
   have:=R.jo x L hx;rw[e,hf.aD]at this;cases this
  exact(hw.other x kn).trans (R.fix x L hx)
theorem HRel.qa {B:Base}{g:Gh}{hp:List (Nat×Obj)}{w:World}(R:HRel B g hp w):Free g hp w w.heap.size:=by
 have hl:g.dj w.heap.size=none:=by
  cases h:g.dj w.heap.size with
  |none=>rfl
  |some x=>exact absurd (R.dQ _ (by rw[h];simp)) (Nat.lt_irrefl _)
 refine⟨λi h=>absurd (hl.symm.trans h) (by simp),by rw[hl];simp, ?_, ?_,λ_=>aE5 _⟩
 ·cases h:g.aD w.heap.size with
  |none=>rfl
  |some L=>
   obtain⟨_,_,arr,ty,fr,h3,_⟩:=R.aD _ _ h;simp at h3
 ·cases h:g.ep w.heap.size with
  |none=>rfl
  |some L=>
   obtain⟨_,arr,ty,h3,_⟩:=R.ep _ _ h;simp at h3
open Classical in
theorem HRel.UW {B:Base}{g:Gh}{hp:List (Nat×Obj)}{w w':World}(R:HRel B g hp w)(hw:Turned w w' w.heap.size){arr:Array Value}{ty:TypeId}{fr:Nat×Nat}(hb:w'.heap[w.heap.size]?=some (.cells arr ty fr)):
  ∃g',Le g g'/\g'.aD w.heap.size=some arr.toList/\HRel B g' hp w':=by
 have hf:=R.qa
 have hl:g.dj w.heap.size=none:=by
  cases h:g.dj w.heap.size with
  |none=>rfl
  |some x=>exact absurd (R.dQ _ (by rw[h];simp)) (Nat.lt_irrefl _)
 let g':Gh:={g with aD:=λb=>if b=w.heap.size then some arr.toList else g.aD b}
 have hle:Le g g':=⟨λb L h=>by
  have:b≠w.heap.size:=λe=>by rw[e,hf.aD]at h;cases h
  simp[g',this,h],λ_=>aE5 _,λ_ _ _=>rfl⟩
 refine⟨g',hle,by simp[g'],⟨R.top,λi o hi=> ?_,λb L h=> ?_,λb L h=> ?_,λb h=>aF7 (R.dQ b h) hw.size,λb L h=>hle.aD _ _ (R.jo b L h),λb h1 h2 h3=> ?_,Nat.le_trans R.size hw.size,hw.os.trans R.os,hw.tape.trans R.tape,hw.output.trans R.output,λb L h=> ?_⟩⟩
 ·refine(R.eD i o hi).tr hle (λx hx=>⟨hx,rfl,hw.other x λe=> ?_⟩) rfl (by rw[R.top i,hi];exact Nat.lt_succ_self _);rw[e,hl]at hx;cases hx
 ·by_cases e:b=w.heap.size
  ·subst e;have h:(if w.heap.size=w.heap.size then some arr.toList else g.aD w.heap.size)=some L:=h;rw[aG3 rfl]at h
   injection h with h
   exact⟨hl,hf.ep,arr,ty,fr,hb,h⟩
  ·have h:g.aD b=some L:=by simpa[g',e]using h
   obtain⟨a1,a2,lD,zD,at1,a3,a4⟩:=R.aD b L h;exact⟨a1,a2,lD,zD,at1,(hw.other b e).trans a3,a4⟩
 ·have h:g.ep b=some L:=h;obtain⟨a1,lD,zD,a3,a4⟩:=R.ep b L h
  have e:b≠w.heap.size:=λe=>by rw[e,hf.ep]at h;cases h
  exact⟨a1,lD,zD,(hw.other b e).trans a3,a4⟩
 ·obtain⟨f1,f2,f3⟩:=R.frame b h1 h2 h3
  have e:b≠w.heap.size:=λe=>by have:=R.size;omega
  exact⟨f1,by simp[g',e,f2],(hw.other b e).trans f3⟩
 ·have h':=R.jo b L h
  have e:b≠w.heap.size:=λe=>by rw[e,hf.aD]at h';cases h'
  exact(hw.other b e).trans (R.fix b L h)
def World.more (w:World)(o:Go.Obj):World:={w with heap:=w.heap.push o}
theorem u5 (w:World)(o:Go.Obj):Turned w (World.more w o) w.heap.size:=by
 refine⟨λx hx=> ?_,by simp[World.more],by simp[World.more],rfl,rfl,rfl⟩;simp only[World.more,Array.getElem?_push];rw[aF4 hx]
theorem As (w:World)(o:Go.Obj):(World.more w o).heap[w.heap.size]?=some o:=by
 show(w.heap.push _)[w.heap.size]?=_;rw[Array.getElem?_push,aG3 rfl]
theorem j1 {B:Base}{g:Gh}{s s':St}{w:World}{id gen:Nat}(R:HRel B g s.hp w)(h:(hJ id).run s=some (gen,s')):gen=g.top id/\s'=s:=by
 simp only[hJ,AM.run]at h;rw[R.top id]
 cases hl:look s.hp id with
 |none=>rw[hl]at h;obtain⟨rfl,rfl⟩:=ah h;exact⟨rfl,rfl⟩
 |some o=>rw[hl]at h;cases o<;>first|(obtain⟨rfl,rfl⟩:=ah h;exact⟨rfl,rfl⟩)|cases h
theorem nZ {s s':St}{id gen:Nat}(h:(hJ id).run s=some (gen,s')):s'=s/\∀gn cs,look s.hp id≠some (.iH gn cs):=by
 simp only[hJ,AM.run]at h
 cases hl:look s.hp id with
 |none=>rw[hl]at h;obtain⟨rfl,rfl⟩:=ah h;exact⟨rfl,λ_ _ h=>by cases h⟩
 |some o=>rw[hl]at h;cases o<;>first|(obtain⟨rfl,rfl⟩:=ah h;exact⟨rfl,λ_ _ h=>by cases h⟩)|cases h
end Go.Abs
end

section
namespace Go.Abs
theorem yu {u:Value}{c:Cell}(h:Bp u=some c)(g:Gh):bu g c u:=by
 cases u with
 |int k n=>injection h with h;subst h;exact⟨rfl,rfl⟩
 |bool b=>injection h with h;subst h;exact⟨rfl,rfl⟩
 |string s=>injection h with h;subst h;exact⟨rfl,s,rfl,rfl⟩
 |slice a n m=>
  cases a with
  |none=>cases n<;>cases m<;>first|(injection h with h;subst h;rfl)|cases h
  |some a=>cases h
 |pointer a=>cases a<;>first|(injection h with h;subst h;rfl)|cases h
 |nilIface=>injection h with h;subst h;exact .inl ⟨rfl,rfl⟩
 |float k b=>cases h
 |complex k a b=>cases h
 |map r=>cases h
 |chan r=>cases h
 |func f a b=>cases h
 |nilFunc=>injection h with h;subst h;rfl
 |iface t v=>cases h
 |agg cs=>cases h
 |tuple vs=>cases h
theorem ou:∀{us:List Value}{cs:List Cell},r8 us=some cs->∀g,aF g cs us
 |[],_,h,_=>by injection h with h;subst h;rfl
 |u::r,_,h,g=>by
  simp only[r8,aH1,aF1]at h;obtain⟨c,hc,cs,KY,rfl⟩:=h;exact⟨u,r,rfl,yu hc g,ou KY g⟩
theorem z7 {u:Value}{v:Val}(h:xh u=some v)(g:Gh):ed g v u:=by
 cases u with
 |agg cs=>
  simp only[xh,aF1]at h;obtain⟨BP,h1,rfl⟩:=h;exact⟨cs.toList,by simp,ou h1 g⟩
 |_=>
  simp only[xh,aF1]at h;obtain⟨c,h1,rfl⟩:=h;exact yu h1 g
theorem ow {x:Operand}{s s':St}{sl:Slot}(h:(ev x).run s=some (sl,s')):s'=s/\∀{g:Gh}{a:Act},iC g s.env a->di g sl (a.eval x):=by
 cases x with
 |tmp t=>
  simp only[ev,AM.run]at h;split at h
  ·rename_i y hy;simp only[aG1,aH2]at h;obtain⟨rfl,rfl⟩:=h;exact⟨rfl,λV=>V t _ hy⟩
  ·cases h
 |const u=>
  simp only[ev]at h;split at h
  ·rename_i c hc;obtain⟨rfl,rfl⟩:=ah h;exact⟨rfl,λ_=>z7 hc _⟩
  ·cases h
 |global k=>obtain⟨rfl,rfl⟩:=ah h;exact⟨rfl,λ_=>rfl⟩
 |func f=>obtain⟨rfl,rfl⟩:=ah h;exact⟨rfl,λ_=>⟨[],rfl,rfl⟩⟩
theorem s4 {sl:Slot}{v:Val}{s s':St}(h:(Kw sl).run s=some (v,s')):sl= .val v/\s'=s:=by
 cases sl<;>try(cases h;done)
 obtain⟨rfl,rfl⟩:=ah h;exact⟨rfl,rfl⟩
theorem cD {x:Operand}{s s':St}{v:Val}(h:(evV x).run s=some (v,s')):s'=s/\∀{g:Gh}{a:Act},iC g s.env a->ed g v (a.eval x):=by
 obtain⟨sl,t,h1,h2⟩:=AM.af h;obtain⟨rfl,hs⟩:=ow h1;obtain⟨rfl,rfl⟩:=s4 h2;exact⟨rfl,hs⟩
theorem mG:∀{xs:List Operand}{s s':St}{vs:List Val},(zr xs).run s=some (vs,s')->s'=s/\∀{g:Gh}{a:Act},iC g s.env a->fj g vs (xs.map a.eval)
 |[],_,_,_,h=>by obtain⟨rfl,rfl⟩:=ah h;exact⟨rfl,λ_=>rfl⟩
 |x::r,_,_,_,h=>by
  obtain⟨v,t,h1,h2⟩:=AM.af h;obtain⟨vs,t2,h3,h4⟩:=AM.af h2;obtain⟨rfl,rfl⟩:=ah h4;obtain⟨rfl,k1⟩:=cD h1;obtain⟨rfl,k2⟩:=mG h3;exact⟨rfl,λV=>⟨_,_,rfl,k1 V,k2 V⟩⟩
theorem kP {v:Val}{n:Int}{s s':St}(h:(asInt v).run s=some (n,s')):(∃k,v= .one (.v (.int k) n))/\s'=s:=by
 cases v with
 |agg cs=>cases h
 |one c=>
  cases c<;>try(cases h;done)
  rename_i τ x
  cases τ<;>try(cases h;done)
  rename_i k;obtain⟨rfl,rfl⟩:=ah h;exact⟨⟨k,rfl⟩,rfl⟩
theorem zW {v:Val}{b:Bool}{s s':St}(h:(asBool v).run s=some (b,s')):v= .one (.v .bool b)/\s'=s:=by
 cases v with
 |agg cs=>cases h
 |one c=>
  cases c<;>try(cases h;done)
  rename_i τ x
  cases τ<;>try(cases h;done)
  obtain⟨rfl,rfl⟩:=ah h;exact⟨rfl,rfl⟩
theorem uy {v:Val}{c:Cell}{s s':St}(h:(one v).run s=some (c,s')):v= .one c/\s'=s:=by
 cases v with
 |agg cs=>cases h
 |one c'=>obtain⟨rfl,rfl⟩:=ah h;exact⟨rfl,rfl⟩
theorem gZ {g:Gh}{k:IntKind}{n:Int}{u:Value}(h:bu g (.v (.int k) n) u):u= .int k n:=by
 have h':_=_:=h.2;injection h'
theorem mA {g:Gh}{b:Bool}{u:Value}(h:bu g (.v .bool b) u):u= .bool b:=by
 have h':_=_:=h.2;injection h'
theorem ox {g:Gh}{l:List Int}{u:Value}(h:bu g (.v .str l) u):∃s,u= .string s/\l=bytesOf s:=by
 obtain⟨_,s,e,h⟩:=h
 injection e with e
 exact⟨s,e,h⟩
theorem vl (g:Gh)(k:IntKind)(n:Int):di g (wi k n) (.int k n):=⟨rfl,rfl⟩
theorem oz (g:Gh)(b:Bool):di g (wb b) (.bool b):=⟨rfl,rfl⟩
theorem Mj (g:Gh)(s:ByteArray):di g (ws (bytesOf s)) (.string s):=⟨rfl,s,rfl,rfl⟩
theorem eN (s:ByteArray):(bytesOf s).length=s.size:=by simp[bytesOf]
theorem yz:∀{a b:List UInt8},(a.map λb=>(b.toNat:Int))=b.map (λb=>(b.toNat:Int))->a=b
 |[],[],_=>rfl
 |[],_::_,h=>by simp at h
 |_::_,[],h=>by simp at h
 |x::a,y::b,h=>by
  simp only[List.map_cons,List.cons.injEq]at h;have e:x.toNat=y.toNat:=(by omega);rw[UInt8.toNat_inj.1 e,yz h.2]
theorem Jq {a b:ByteArray}(h:bytesOf a=bytesOf b):a=b:=by
 have h2:a.data.toList=b.data.toList:=yz h;cases a;cases b;simp only[ByteArray.mk.injEq];exact Array.toList_inj.1 h2
theorem D7 (a b:ByteArray):bytesOf (a++b)=bytesOf a++bytesOf b:=by
 unfold bytesOf;rw[ByteArray.data_append];simp
theorem tz (a b:ByteArray):(a.toList==b.toList)=decide (bytesOf a=bytesOf b):=by
 rw[ByteArray.toList_eq,ByteArray.toList_eq]
 by_cases h:a=b
 ·subst h;simp
 ·have h1:¬ bytesOf a=bytesOf b:=λe=>h (Jq e)
  have h2:¬ a.data.toList=b.data.toList:=λe=>h1 (by unfold bytesOf;rw[e])
  rw[aB9 h1];simpa using h2
theorem Nk (x y:Int):(x==y)=decide (x=y):=by by_cases h:x=y<;>simp[h]
theorem HO {P:Program}{w:World}{op:BinOp}{t:TypeId}{x y:Operand}{k k':IntKind}{m n:Int}{s s':St}{sl:Slot}(h:(Mi op k k' m n).run s=some (sl,s')):
    s'=s/\∃v,((do eqGuard op t x y (.int k m) (.int k' n);Go.binOp op t (.int k m) (.int k' n)):Sem Value).run P w= .ok v w/\∀g,di g sl v:=by
  rw[eqGuard_at_int];cases op<;>simp only[Mi]at h
  case shr=>
    obtain⟨hb,h⟩:=lV h;obtain⟨rfl,rfl⟩:=ah h;have h0:0<=n:=(by simpa using hb);refine⟨rfl, .int k (m.fdiv (2^min n.toNat k.bits)), ?_,λg=>vl g k _⟩;have:¬ n<0:=(by omega);simp[Go.binOp,Op.shift,this]
  case shl=>
    obtain⟨hb,h⟩:=lV h;obtain⟨rfl,rfl⟩:=ah h;have h0:0<=n:=(by simpa using hb);refine⟨rfl, .int k (k.wrap (m*2^min n.toNat k.bits)), ?_,λg=>vl g k _⟩;have:¬ n<0:=(by omega);simp[Go.binOp,Op.shift,this]
  all_goals
    split at h
    case isFalse=>cases h
    case isTrue e=>
      subst e
      first
        | (obtain⟨rfl,rfl⟩:=ah h
           first
             | (refine⟨rfl,_, ?_,λg=>vl g k _⟩
                first
                  |(simp[Go.binOp,Op.intArith];done)
                  |(simp[Go.binOp,Op.intBits,intBits];done)
                  |(simp[Go.binOp];rfl))
             | (refine⟨rfl,_, ?_,λg=>oz g _⟩
                first
                  |(simp[Go.binOp,Op.intCmp,bne];done)
                  |(simp[Go.binOp,Op.intCmp,Nk,bne];done)))
        | (obtain⟨hb,h⟩:=lV h
           obtain⟨rfl,rfl⟩:=ah h;have h0:¬ n=0:=(by simpa using hb);refine⟨rfl,_, ?_,λg=>vl g k _⟩
           simp[Go.binOp,Op.intDiv,h0])
        |cases h
theorem Hw {P:Program}{w:World}{op:BinOp}{t:TypeId}{x y:Operand}{a b:ByteArray}{s s':St}{sl:Slot}(h:(Ij op (bytesOf a) (bytesOf b)).run s=some (sl,s')):
  s'=s/\∃v,((do eqGuard op t x y (.string a) (.string b);Go.binOp op t (.string a) (.string b)):Sem Value).run P w= .ok v w/\∀g,di g sl v:=by
 rw[eqGuard_at_string]
 cases op<;>simp only[Ij]at h<;>try(cases h;done)
 case add=>
  obtain⟨hb,h⟩:=lV h;obtain⟨rfl,rfl⟩:=ah h;have h0:(bytesOf a).length+(bytesOf b).length<=lim:=aE7 hb;rw[eN,eN]at h0;unfold lim at h0;refine⟨rfl, .string (a++b), ?_,λg=>by rw[<-D7];exact Mj g _⟩;have h1:¬ (((a.size+b.size:Nat):Int)>9223372036854775807):=(by omega);have h2:i64.max=9223372036854775807:=(by decide);simp only[Go.binOp,Op.stringOp,h2];rw[aF4 h1];rfl
 case eql=>
  obtain⟨rfl,rfl⟩:=ah h;refine⟨rfl,_, ?_,λg=>oz g _⟩;rw[<-tz];simp[Go.binOp,Op.stringOp]
 case neq=>
  obtain⟨rfl,rfl⟩:=ah h;refine⟨rfl,_, ?_,λg=>oz g _⟩;rw[<-tz];simp[Go.binOp,Op.stringOp]
theorem qQ {op:BinOp}{b:Bool}{s s':St}{sl:Slot}(h:(BJ op b).run s=some (sl,s')):s'=s/\((op= .eql/\sl=wb b)\/(op= .neq/\sl=wb (!b))):=by
 cases op<;>simp only[BJ]at h<;>try(cases h;done)
 ·obtain⟨rfl,rfl⟩:=ah h;exact⟨rfl, .inl ⟨rfl,rfl⟩⟩
 ·obtain⟨rfl,rfl⟩:=ah h;exact⟨rfl, .inr ⟨rfl,rfl⟩⟩
theorem Ii {g:Gh}{xs:List Int}{u:Value}(h:bu g (.v .cl xs) u):(xs=[]/\u= .pointer none)\/(xs≠[]/\∃b,u= .pointer (some ⟨b,0,none⟩)):=by
 obtain⟨_,u',e,hx⟩:=h
 injection e with e
 subst e
 cases xs with
 |nil=>exact .inl ⟨rfl,hx⟩
 |cons y ys=>obtain⟨b,p,e,_⟩:=hx;exact .inr ⟨by simp,b,e⟩
theorem Kr {P:Program}{w:World}{t:TypeId}{cs:Array Value}{off:Nat}{u:Value}(hi:(∃k,P.underlying t=some (.int k))\/P.underlying t=some .bool\/P.underlying t=some .string)
  (hu:cs[off]?=some u):(part t cs off).run P w= .ok u w:=by
 have:(isAgg t).run P w= .ok false w:=by
  rcases hi with⟨k,h⟩|h|h<;>simp[Go.isAgg,run_underlying h]
 unfold part;simp[this,hu]
theorem D5 {P:Program}{w:World}{d:Nat}{g:Gh}:∀{fs:List Field}{n:Nat}{a b:List Cell}{us vs:List Value}{xs ys:Array Value}{r:Bool},
  mq P fs a n=true->ky a b=some r->aF g a us->aF g b vs->(∀i u,us[i]?=some u->xs[n+i]?=some u)->(∀i u,vs[i]?=some u->ys[n+i]?=some u)->
  (Op.eqFields (d+1) xs ys fs).run P w= .ok r w:=by
 intro fs
 induction fs with
 |nil=>
  intro n a b us vs xs ys r hp he hu hv hx hy
  cases a with
  |cons c cs=>simp[mq]at hp
  |nil=>cases b with
   |nil=>simp only[ky,aG1]at he;subst he;rfl
   |cons c cs=>simp[ky]at he
 |cons f fs ih=>
  intro n a b us vs xs ys r hp he hu hv hx hy
  cases a with
  |nil=>simp[mq]at hp
  |cons c a=>
  cases c with
  |v τ x=> ?_
  |_=>simp[mq]at hp
  simp only[mq,aC6]at hp;obtain⟨⟨⟨h1,h2⟩,h3⟩,h4⟩:=hp;have ho:f.offset=n:=beq_eq h1
  have hn:f.name≠ "_" :=(by simpa using h2)
  obtain⟨u,K4,rfl,nN,yi⟩:=hu
  cases b with
  |nil=>cases τ<;>simp[ky]at he
  |cons c' b=>
  obtain⟨v,ZT,rfl,Xm,ag9⟩:=hv
  have key:∀(q:Bool),((∃k,P.underlying f.type=some (.int k))\/P.underlying f.type=some .bool\/P.underlying f.type=some .string)->
    (Op.equalIn (d+1) f.type u v).run P w= .ok q w->∀r',ky a b=some r'->r=(q&&r')->(Op.eqFields (d+1) xs ys (f::fs)).run P w= .ok r w:=by
   intro q ht hq r' O5 e;have e1:(part f.type xs f.offset).run P w= .ok u w:=Kr ht (by rw[ho];exact hx 0 u rfl);have e2:(part f.type ys f.offset).run P w= .ok v w:=Kr ht (by rw[ho];exact hy 0 v rfl);have ay9:=ih (xs:=xs) (ys:=ys) h4 O5 yi ag9 (λi u hi=>by have:=hx (i+1) u (by simpa using hi);rwa[show n+(i+1)=n+1+i from by omega]at this) (λi u hi=>by have:=hy (i+1) u (by simpa using hi);rwa[show n+(i+1)=n+1+i from by omega]at this);unfold Op.eqFields;rw[aG3 hn];simp only[Sem.run_bind,e1,e2,Result.andThen_ok,hq,Sem.run_ite];subst e
   cases q with
   |false=>simp
   |true=>simpa using ay9
  cases c' with
  |v τ' x'=> ?_
  |_=>cases τ<;>simp[ky]at he
  split at h3
  ·rename_i k0 k1 hk
   cases τ'<;>try(simp[ky]at he;done)
   rename_i k2;simp only[ky]at he;split at he
   case isFalse=>cases he
   rename_i ek;subst ek;simp only[aF1]at he;obtain⟨r',O5,e⟩:=he;have OT:=gZ nN;have Wp:=gZ Xm;subst OT;subst Wp;exact key _ (.inl ⟨_,hk⟩) (run_equalIn_int w d f.type _ _ _ _ hk) r' O5 (by rw[<-e,Nk])
  ·rename_i hk
   cases τ'<;>try(simp[ky]at he;done)
   simp only[ky,aF1]at he;obtain⟨r',O5,e⟩:=he;have OT:=mA nN;have Wp:=mA Xm;subst OT;subst Wp;exact key _ (.inr (.inl hk)) (run_equalIn_bool' w d f.type _ _ hk) r' O5 (by rw[<-e];congr 1)
  ·rename_i hk
   cases τ'<;>try(simp[ky]at he;done)
   simp only[ky,aF1]at he;obtain⟨r',O5,e⟩:=he;obtain⟨su,OT,ru⟩:=ox nN;obtain⟨sv,Wp,rv⟩:=ox Xm;subst OT;subst Wp;exact key _ (.inr (.inr hk)) (run_equalIn_string w d f.type _ _ hk) r' O5 (by rw[<-e,tz,ru,rv])
  ·cases h3
theorem Jj {E:Env}{op:BinOp}{t:TypeId}{x y:Operand}{va vb:Val}{s s':St}{sl:Slot}(h:(binOp E op t va vb).run s=some (sl,s')):
  s'=s/\∀{g:Gh} {u1 u2:Value} {w:World},ed g va u1->ed g vb u2->∃v,((do eqGuard op t x y u1 u2;Go.binOp op t u1 u2):Sem Value).run E.P w= .ok v w/\di g sl v:=by
 unfold binOp at h;split at h
 ·rename_i k m k' n
  have hs:=λw=>HO (P:=E.P) (w:=w) (t:=t) (x:=x) (y:=y) h
  refine⟨(hs default).1,λ{g u1 u2 w} r1 r2=> ?_⟩;have e1:=gZ r1;have e2:=gZ r2;subst e1;subst e2;obtain⟨v,hv,hr⟩:=(hs w).2;exact⟨v,hv,hr g⟩
 ·rename_i l m
  have hs:s'=s:=by
   cases op<;>simp only[Ij]at h<;>try(cases h;done)
   ·exact(ah (lV h).2).2
   ·exact(ah h).2
   ·exact(ah h).2
  refine⟨hs,λ{g u1 u2 w} r1 r2=> ?_⟩;obtain⟨s1,e1,l1⟩:=ox r1;obtain⟨s2,e2,l2⟩:=ox r2;subst e1;subst e2;subst l1;subst l2;obtain⟨_,v,hv,hr⟩:=Hw (P:=E.P) (w:=w) (t:=t) (x:=x) (y:=y) h;exact⟨v,hv,hr g⟩
 ·rename_i b c;split at h
  ·rename_i ht;obtain⟨rfl,he⟩:=qQ h;refine⟨rfl,λ{g u1 u2 w} r1 r2=> ?_⟩;have e1:=mA r1;have e2:=mA r2;subst e1;subst e2;rw[eqGuard_at_bool]
   have e0:(b==c)=decide (b=c):=by cases b<;>cases c<;>rfl
   rcases he with⟨rfl,rfl⟩|⟨rfl,rfl⟩
   ·refine⟨_, ?_,oz g _⟩;have hq:=run_equalIn_bool' (P:=E.P) w 9999 t b c ht;simp only[Go.binOp];simp[Op.equal,Op.maxDepth,hq,e0]
   ·refine⟨_, ?_,oz g _⟩;have hq:=run_equalIn_bool' (P:=E.P) w 9999 t b c ht;simp only[Go.binOp];simp[Op.equal,Op.maxDepth,hq,e0]
  ·cases h
 ·rename_i xs;split at h
  ·rename_i te ht;obtain⟨rfl,he⟩:=qQ h;refine⟨rfl,λ{g u1 u2 w} r1 r2=> ?_⟩;have e2:u2= .pointer none:=r2;subst e2
   have hq:∀d,(Op.equalIn (d+1) t u1 (.pointer none)).run E.P w= .ok (List.isEmpty (α:=Int) xs) w:=λd=>by
    rcases Ii r1 with⟨e,e1⟩|⟨e,b,e1⟩
    ·rw[e];subst e1;simp[Op.equalIn,run_underlying ht]
    ·have e2:List.isEmpty (α:=Int) xs=false:=by
      have:(xs:List Int)≠[]:=e
      generalize(xs:List Int)=ys at this
      cases ys<;>simp_all
     rw[e2];subst e1;simp[Op.equalIn,run_underlying ht]
   have an1:=hq 9999
   have hg:eqGuard op t x y u1 (.pointer none)=pure ():=by
    rcases Ii r1 with⟨_,e1⟩|⟨_,b,e1⟩<;>subst e1<;>exact eqGuard_at_pointer ..
   rw[hg]
   have nN:∃a,u1= .pointer a:=by rcases Ii r1 with⟨_,e1⟩|⟨_,b,e1⟩<;>exact⟨_,e1⟩
   obtain⟨a,rfl⟩:=nN
   rcases he with⟨rfl,rfl⟩|⟨rfl,rfl⟩
   ·exact⟨_,by simp only[Go.binOp];simp[Op.equal,Op.maxDepth,an1],oz g _⟩
   ·exact⟨_,by simp only[Go.binOp];simp[Op.equal,Op.maxDepth,an1],oz g _⟩
  ·cases h
 ·rename_i a b;split at h
  ·rename_i fs r ht hr;obtain⟨hb,h'⟩:=bm h;clear h;simp only[aC6,aH3]at hb;obtain⟨⟨h1,h2⟩,h3⟩:=hb;obtain⟨rfl,he⟩:=qQ h';refine⟨rfl,λ{g u1 u2 w} r1 r2=> ?_⟩;obtain⟨us,e1,hu⟩:=r1;obtain⟨vs,e2,hv⟩:=r2;subst e1;subst e2
   have hf:E.P.fieldsOf t=fs:=by unfold Program.fieldsOf;rw[ht]
   have hq:(Op.equalIn 10000 t (.agg us.toArray) (.agg vs.toArray)).run E.P w= .ok r w:=by
    rw[run_equalIn_agg w 9999 t _ _ (by rw[hf];exact ht) h1,hf];exact D5 h3 hr hu hv (λi u hi=>by simpa using hi) (λi u hi=>by simpa using hi)
   have hg:=run_eqGuard_agg (P:=E.P) w op t x y us.toArray vs.toArray h2
   rcases he with⟨rfl,rfl⟩|⟨rfl,rfl⟩
   ·refine⟨_, ?_,oz g _⟩;simp only[Sem.run_bind,hg,Result.andThen_ok,run_eql_struct,hq]
   ·refine⟨_, ?_,oz g _⟩;simp only[Sem.run_bind,hg,Result.andThen_ok,run_neq_struct,hq]
  ·cases h
 ·cases h
theorem Hp {E:Env}{op:BinOp}{t:TypeId}{x:Operand}{va:Val}{s s':St}{sl:Slot}(h:(L4 E op t va).run s=some (sl,s')):
  s'=s/\∀{g:Gh} {u1:Value} {w:World},ed g va u1->∃v,((do eqGuard op t x (.const .nilIface) u1 .nilIface;Go.binOp op t u1 .nilIface):Sem Value).run E.P w= .ok v w/\di g sl v:=by
 unfold L4 at h;split at h
 ·rename_i b;split at h
  ·rename_i ms ht;obtain⟨rfl,he⟩:=qQ h;refine⟨rfl,λ{g u1 w} r1=> ?_⟩
   rcases r1 with⟨rfl,rfl⟩|⟨rfl,tv,v,rfl⟩
   ·rw[eqGuard_nil_constR]
    have TB:∀d,(Op.equalIn (d+1) t .nilIface .nilIface).run E.P w= .ok true w:=λd=>by simp[Op.equalIn,run_underlying ht]
    have hq:=TB 9999
    rcases he with⟨rfl,rfl⟩|⟨rfl,rfl⟩
    ·exact⟨_,by simp only[Go.binOp];simp[Op.equal,Op.maxDepth,hq],oz g _⟩
    ·exact⟨_,by simp only[Go.binOp];simp[Op.equal,Op.maxDepth,hq],oz g _⟩
   ·rw[eqGuard_at_iface]
    have TB:∀d,(Op.equalIn (d+1) t (.iface tv v) .nilIface).run E.P w= .ok false w:=λd=>by simp[Op.equalIn,run_underlying ht]
    have hq:=TB 9999
    rcases he with⟨rfl,rfl⟩|⟨rfl,rfl⟩
    ·exact⟨_,by simp only[Go.binOp];simp[Op.equal,Op.maxDepth,hq],oz g _⟩
    ·exact⟨_,by simp only[Go.binOp];simp[Op.equal,Op.maxDepth,hq],oz g _⟩
  ·cases h
 ·cases h
end Go.Abs
end

section
namespace Go.Abs
def Yld (E:Env)(op:Op)(s:St)(sl:Slot)(s':St):Prop:=
 s'.env=s.env/\∀(o:Oper),o.op=op->∀B g a w,HRel B g s.hp w->iC g s.env a->
  ∃v w' g',(execOp a.eval o).run E.P w= .ok (.value v) w'/\Le g g'/\HRel B g' s'.hp w'/\di g' sl v
theorem dh {P:Program}{w w':World}{x:Sem Value}{v:Value}(h:x.run P w= .ok v w'):((do pure (.value (<-x))):Sem Next).run P w= .ok (.value v) w':=by
 simp[h]
theorem Yld.still {E:Env}{op:Op}{s:St}{sl:Slot}(h:∀(o:Oper),o.op=op->∀B g a w,HRel B g s.hp w->iC g s.env a->∃v,(execOp a.eval o).run E.P w= .ok (.value v) w/\di g sl v):Yld E op s sl s:=
 ⟨rfl,λo ho B g a w R V=>by obtain⟨v,h1,h2⟩:=h o ho B g a w R V;exact⟨v,w,g,h1,Le.refl g,R,h2⟩⟩
theorem Ex {E:Env}{x:Operand}{s s':St}{sl:Slot}(h:(ev x).run s=some (sl,s')):Yld E (.move x) s sl s'/\Yld E (.assign x) s sl s':=by
 obtain⟨rfl,hr⟩:=ow h;exact⟨.still λo ho B g a w R V=>⟨a.eval x,by unfold execOp;rw[ho];rfl,hr V⟩, .still λo ho B g a w R V=>⟨a.eval x,by unfold execOp;rw[ho];rfl,hr V⟩⟩
theorem LH {E:Env}{c x y:Operand}{s s':St}{sl:Slot}{d:Nat}(h:(eC E d (.pick c x y)).run s=some (sl,s')):Yld E (.pick c x y) s sl s':=by
 obtain⟨v,t,h1,h2⟩:=AM.af h;obtain⟨b,t2,h3,h4⟩:=AM.af h2;obtain⟨rfl,r1⟩:=cD h1;obtain⟨rfl,rfl⟩:=zW h3
 rcases Mk h4 with⟨rfl,h5⟩|⟨rfl,h5⟩
 ·obtain⟨rfl,r2⟩:=ow h5
  refine .still λo ho B g a w R V=>⟨a.eval x, ?_,r2 V⟩
  have e:=mA (r1 V);unfold execOp;rw[ho];simp[e,Go.asBool]
 ·obtain⟨rfl,r2⟩:=ow h5
  refine .still λo ho B g a w R V=>⟨a.eval y, ?_,r2 V⟩
  have e:=mA (r1 V);unfold execOp;rw[ho];simp[e,Go.asBool]
theorem N0 {E:Env}{op:BinOp}{t ty:TypeId}{x y:Operand}{s s':St}{sl:Slot}{d:Nat}(h:(eC E d (.binOp op t x y ty)).run s=some (sl,s')):Yld E (.binOp op t x y ty) s sl s':=by
 obtain⟨va,t1,h1,h2⟩:=AM.af h;obtain⟨rfl,r1⟩:=cD h1;split at h2
 ·obtain⟨rfl,hr⟩:=Hp (x:=x) h2
  refine .still λo ho B g a w R V=> ?_
  obtain⟨v,e,hs⟩:=hr (w:=w) (r1 V);refine⟨v, ?_,hs⟩;unfold execOp;rw[ho];exact dh e
 ·obtain⟨vb,t2,h3,h4⟩:=AM.af h2;obtain⟨rfl,r2⟩:=cD h3;obtain⟨rfl,hr⟩:=Jj (x:=x) (y:=y) h4
  refine .still λo ho B g a w R V=> ?_
  obtain⟨v,e,hs⟩:=hr (w:=w) (r1 V) (r2 V);refine⟨v, ?_,hs⟩;unfold execOp;rw[ho];exact dh e
theorem Oa {E:Env}{t:TypeId}{x:Operand}{s s':St}{sl:Slot}{d:Nat}(h:(eC E d (.unOp .not t x)).run s=some (sl,s')):Yld E (.unOp .not t x) s sl s':=by
 obtain⟨v,t,h1,h2⟩:=AM.af h;obtain⟨b,t2,h3,h4⟩:=AM.af h2;obtain⟨rfl,r1⟩:=cD h1;obtain⟨rfl,rfl⟩:=zW h3;obtain⟨rfl,rfl⟩:=ah h4
 refine .still λo ho B g a w R V=>⟨.bool !b, ?_,oz g _⟩
 have e:=mA (r1 V);unfold execOp;rw[ho];simp[e,Op.unary]
theorem N7 {E:Env}{t:TypeId}{x:Operand}{s s':St}{sl:Slot}{d:Nat}(h:(eC E d (.unOp .neg t x)).run s=some (sl,s')):Yld E (.unOp .neg t x) s sl s':=by
 obtain⟨v,t,h1,h2⟩:=AM.af h;obtain⟨rfl,r1⟩:=cD h1;split at h2
 ·rename_i k n;obtain⟨rfl,rfl⟩:=ah h2
  refine .still λo ho B g a w R V=>⟨.int k (k.wrap (0 - n)), ?_,vl g k _⟩
  have e:=gZ (r1 V);unfold execOp;rw[ho];simp[e,Op.unary,Op.intArith]
 ·cases h2
theorem D6 {E:Env}{x:Operand}{s s':St}{sl:Slot}{d:Nat}(h:(eC E d (.nilCheck x)).run s=some (sl,s')):Yld E (.nilCheck x) s sl s':=by
 obtain⟨s1,t,h1,h2⟩:=AM.af h;obtain⟨rfl,r1⟩:=ow h1;unfold nilCheck at h2;split at h2
 ·obtain⟨rfl,rfl⟩:=ah h2
  refine .still λo ho B g a w R V=>⟨a.eval x, ?_,r1 V⟩
  obtain⟨_,b,o',_,e⟩:=r1 V;unfold execOp;rw[ho];simp[e]
 ·obtain⟨rfl,rfl⟩:=ah h2
  refine .still λo ho B g a w R V=>⟨a.eval x, ?_,r1 V⟩
  obtain⟨vs,e,_⟩:=r1 V;unfold execOp;rw[ho];simp[e]
 ·rename_i xs;obtain⟨hb,h3⟩:=lV h2;obtain⟨rfl,rfl⟩:=ah h3
  refine .still λo ho B g a w R V=>⟨a.eval x, ?_,r1 V⟩
  rcases Ii (r1 V)with⟨e,_⟩|⟨_,b,e⟩
  ·rw[e]at hb;simp at hb
  ·unfold execOp;rw[ho];simp[e]
 ·cases h2
theorem F2 {E:Env}{x:Operand}{i:Nat}{s s':St}{sl:Slot}{d:Nat}(h:(eC E d (.extract x i)).run s=some (sl,s')):Yld E (.extract x i) s sl s':=by
 obtain⟨s1,t,h1,h2⟩:=AM.af h;obtain⟨rfl,r1⟩:=ow h1;split at h2
 ·rename_i vs;obtain⟨v,t2,h3,h4⟩:=AM.af h2;obtain⟨hv,rfl⟩:=ct h3;obtain⟨rfl,rfl⟩:=ah h4
  refine .still λo ho B g a w R V=> ?_
  obtain⟨us,e,hu⟩:=r1 V
  have key:∀{vs:List Val} {us:List Value} {i:Nat} {v:Val},fj g vs us->vs[i]?=some v->∃u,us[i]?=some u/\ed g v u:=by
   intro vs
   induction vs with
   |nil=>intro us i v _ h;simp at h
   |cons c cs ih=>
    intro us i v ⟨u,r,e,hu,hr⟩ h;subst e
    cases i with
    |zero=>simp at h;subst h;exact⟨u,rfl,hu⟩
    |succ i=>simpa using ih hr (by simpa using h)
  obtain⟨u,nN,yi⟩:=key hu hv;refine⟨u, ?_,yi⟩;unfold execOp;rw[ho];simp[e,Instr.extract,nN]
 ·cases h2
theorem Lg {g:Gh}:∀{vs:List Val}{cs:List (Nat×Nat)}{us:List Value},xo vs=some cs->fj g vs us->sx g cs us:=by
 intro vs
 induction vs with
 |nil=>
  intro cs us hc hv;simp only[xo,aG1]at hc;subst hc;exact hv
 |cons c vs ih=>
  intro cs us hc hv;obtain⟨u,r,e,hu,hr⟩:=hv;subst e
  cases c with
  |agg cs=>simp[xo]at hc
  |one c=>
   cases c with
   |ptr id gen off=>
    cases off with
    |succ n=>simp[xo]at hc
    |zero=>
     simp only[xo,aF1]at hc;obtain⟨BP,MD,rfl⟩:=hc;obtain⟨ht,b,o,kM,hu⟩:=hu;exact⟨b,o,r,by rw[hu];rfl,ht,kM,ih MD hr⟩
   |_=>simp[xo]at hc
theorem DT {E:Env}{f:Fn}{first jJ:Array Operand}{s s':St}{sl:Slot}{d:Nat}(h:(eC E d (.makeFunc f first jJ)).run s=some (sl,s')):Yld E (.makeFunc f first jJ) s sl s':=by
 cases f with
 |func f=> ?_
 |_=>cases h
 obtain⟨hb,h⟩:=bm h;obtain⟨vs,t,h1,h2⟩:=AM.af h;obtain⟨cs,t2,h3,h4⟩:=AM.af h2;obtain⟨rfl,r1⟩:=mG h1;obtain⟨hc,rfl⟩:=ct h3;obtain⟨rfl,rfl⟩:=ah h4
 refine .still λo ho B g a w R V=>⟨.func (.func f) #[] (jJ.toList.map a.eval).toArray, ?_,jJ.toList.map a.eval,rfl, ?_⟩
 ·unfold execOp;rw[ho]
  have e:first=#[]:=(by simpa using hb)
  simp only[e,Instr.makeFunc];cases jJ;simp
 ·exact Lg hc (r1 V)
theorem yE {c:Cell}{s s':St}{n:Nat}(h:(Da c).run s=some (n,s')):s'=s/\∀{B:Base}{g:Gh}{w:World}{u:Value},HRel B g s.hp w->bu g c u->
  (c.isStr=true/\∃st,u= .string st/\st.size=n)\/(c.isStr=false/\∃A cap,u= .slice A n cap/\(0<n->∃b o,A=some ⟨b,o,none⟩)):=by
 cases c with
 |v τ x=>
  cases τ with
  |str=>
   obtain⟨rfl,rfl⟩:=ah h;refine⟨rfl,λR hc=> ?_⟩;obtain⟨st,e,l⟩:=ox hc;exact .inl ⟨rfl,st,e,by rw[l,eN]⟩
  |sl e=>
   obtain⟨rfl,rfl⟩:=ah h;refine⟨rfl,λR hc=> ?_⟩;obtain⟨_,A,cap,e,_,hx⟩:=hc
   injection e with e
   refine .inr ⟨rfl,A,cap,e,λhn=> ?_⟩
   rcases hx with hx|⟨b,o,_,hA,_⟩
   ·have:(x:List _)=[]:=hx;rw[this]at hn;simp at hn
   ·exact⟨b,o,hA⟩
  |_=>cases h
 |nil=>
  obtain⟨rfl,rfl⟩:=ah h;exact⟨rfl,λR hc=> .inr ⟨rfl,none,0,hc,λhn=>absurd hn (by simp)⟩⟩
 |own id gen=>
  simp only[Da,AM.run]at h;split at h
  ·rename_i g0 τ dp xs heq;obtain⟨hb,h'⟩:=bm h;obtain rfl:=beq_eq hb;obtain⟨rfl,rfl⟩:=ah h';refine⟨rfl,λR hc=> ?_⟩
   rcases R.eD _ _ heq with⟨e1,e2⟩|⟨b,cap,arr,ty,e1,_⟩
   ·subst e2;exact .inr ⟨rfl,none,0,hc.2.1.trans e1,λhn=>absurd hn (by simp)⟩
   ·exact .inr ⟨rfl,_,cap,hc.2.1.trans e1,λ_=>⟨b,0,rfl⟩⟩
  ·rename_i g0 τ xs heq;obtain⟨hb,h'⟩:=bm h;obtain rfl:=beq_eq hb;obtain⟨rfl,rfl⟩:=ah h';refine⟨rfl,λR hc=> ?_⟩;obtain⟨A,cap,e,_,hx⟩:=R.eD _ _ heq
   injection e with e
   refine .inr ⟨rfl,A,cap,hc.2.1.trans e,λhn=> ?_⟩
   rcases hx with hx|⟨b,o,_,hA,_⟩
   ·rw[hx]at hn;simp at hn
   ·exact⟨b,o,hA⟩
  ·rename_i g0 xs a ag bid bg off heq;obtain⟨hb,h'⟩:=bm h;obtain rfl:=beq_eq hb;obtain⟨rfl,rfl⟩:=ah h';refine⟨rfl,λR hc=> ?_⟩;obtain⟨_,_,_,⟨_,e1,e2⟩|⟨bb,oo,_,_,⟨e1,e2⟩|⟨b,cap,arr,ty,e1,_⟩⟩⟩:=R.eD _ _ heq
   ·subst e2;exact .inr ⟨rfl,none,0,hc.2.1.trans e1,λhn=>absurd hn (by simp)⟩
   ·subst e2;exact .inr ⟨rfl,none,0,hc.2.1.trans e1,λhn=>absurd hn (by simp)⟩
   ·exact .inr ⟨rfl,_,cap,hc.2.1.trans e1,λ_=>⟨b,0,rfl⟩⟩
  ·cases h
 |_=>cases h
theorem Jz {g:Gh}{vs:List Val}{us:List Value}(h:fj g vs us){v:Val}(e:vs=[v]):∃u,us=[u]/\ed g v u:=by
 subst e;obtain⟨u,r,e,hu,hr⟩:=h;have hr:_=_:=hr;subst hr;exact⟨u,e,hu⟩
theorem Kc {g:Gh}{vs:List Val}{us:List Value}(h:fj g vs us){v v':Val}(e:vs=[v,v']):∃u u',us=[u,u']/\ed g v u/\ed g v' u':=by
 subst e;obtain⟨u,r,e,hu,u',r',e',ax1,hr⟩:=h;have hr:_=_:=hr;subst hr;subst e';exact⟨u,u',e,hu,ax1⟩
theorem Ni {E:Env}{t:TypeId}{c:Cell}(h:E.fit t c=true):(E.P.underlying t=some .string/\c.isStr=true)\/(∃e,E.P.underlying t=some (.slice e)/\c.isStr=false):=by
 unfold Env.fit at h;split at h
 ·rename_i e;exact .inl ⟨e,h⟩
 ·rename_i e;exact .inr ⟨_,e,by simpa using h⟩
 ·cases h
theorem NY {E:Env}{c:Call}(hc:c.callee= .builtin .len){s s':St}{sl:Slot}{d:Nat}(h:(eC E d (.call c)).run s=some (sl,s')):Yld E (.call c) s sl s':=by
 simp only[eC,hc]at h;obtain⟨vs,t,h1,h2⟩:=AM.af h;obtain⟨rfl,r1⟩:=mG h1;split at h2
 ·rename_i x;obtain⟨hb,h3⟩:=bm h2;obtain⟨n,t2,h4,h5⟩:=AM.af h3;obtain⟨rfl,hl⟩:=yE h4;obtain⟨rfl,rfl⟩:=ah h5
  refine .still λo ho B g a w R V=>⟨.int .i64 n, ?_,vl g _ _⟩
  obtain⟨u,hu,hr⟩:=Jz (r1 V) rfl
  have NT:c.args.map a.eval=#[u]:=by
   have:c.args=c.args.toList.toArray:=(by simp);rw[this];simp only[List.map_toArray,hu]
  have⟨t0,aA7,pk⟩:∃t0,c.argTypes[0]?=some t0/\E.fit t0 x=true:=by
   cases hh:c.argTypes[0]? with
   |none=>rw[hh]at hb;simp at hb
   |some t0=>rw[hh]at hb;exact⟨t0,rfl,by simpa using hb⟩
  unfold execOp;rw[ho];simp only[resolve,hc,Go.invoke,builtin,Sem.run_bind,Sem.run_pure,Result.andThen_ok,NT,Builtin.len_,aA7]
  rcases Ni pk with⟨e1,e2⟩|⟨e,e1,e2⟩
  ·rcases hl R hr with⟨_,st,e4,l'⟩|⟨e3,_⟩
   ·subst e4;simp[run_underlying e1,goInt,l']
   ·rw[e2]at e3;cases e3
  ·rcases hl R hr with⟨e3,_⟩|⟨_,A,cap,e3,_⟩
   ·rw[e2]at e3;cases e3
   ·subst e3;simp[run_underlying e1,goInt]
 ·cases h2
theorem Ox {E:Env}{c:Call}(hc:c.callee= .builtin .max){s s':St}{sl:Slot}{d:Nat}(h:(eC E d (.call c)).run s=some (sl,s')):Yld E (.call c) s sl s':=by
 simp only[eC,hc]at h;obtain⟨vs,t,h1,h2⟩:=AM.af h;obtain⟨rfl,r1⟩:=mG h1;split at h2
 ·rename_i k x k' y;obtain⟨rfl,rfl⟩:=ah h2
  refine .still λo ho B g a w R V=>⟨.int k (if y>x then y else x), ?_,vl g _ _⟩
  obtain⟨u,u',hu,hr,O5⟩:=Kc (r1 V) rfl
  have NT:c.args.map a.eval=#[u,u']:=by
   have:c.args=c.args.toList.toArray:=(by simp);rw[this];simp only[List.map_toArray,hu]
  have e1:=gZ hr;have e2:=gZ O5;subst e1;subst e2;unfold execOp;rw[ho];simp[resolve,hc,Go.invoke,builtin,NT,Builtin.max_,Builtin.max2]
 ·cases h2
theorem Ji {E:Env}{t:TypeId}{x i:Operand}{s s':St}{sl:Slot}{d:Nat}(h:(eC E d (.index t x i)).run s=some (sl,s')):Yld E (.index t x i) s sl s':=by
 obtain⟨v,t1,h1,h2⟩:=AM.af h;obtain⟨iv,t2,h3,h4⟩:=AM.af h2;obtain⟨n,t3,h5,h6⟩:=AM.af h4;obtain⟨rfl,r1⟩:=cD h1;obtain⟨rfl,r2⟩:=cD h3;obtain⟨⟨k,rfl⟩,rfl⟩:=kP h5;split at h6
 ·rename_i l ht;obtain⟨hb,h7⟩:=lV h6;obtain⟨rfl,rfl⟩:=ah h7
  refine .still λo ho B g a w R V=> ?_
  obtain⟨st,e,hl⟩:=ox (r1 V);have e2:=gZ (r2 V);simp only[aC6,aC4]at hb
  have hlen:n.toNat<st.size:=by
   have:(l:List Int).length=st.size:=(by rw[hl,eN]);omega
  have gX:n.toNat<st.data.toList.length:=(by simpa using hlen)
  have O0:(l:List Int).getD n.toNat 0=(st[n.toNat].toNat:Int):=by
   rw[hl];unfold bytesOf;rw[aE2,List.getElem?_map,aE1 gX];simp;rfl
  refine⟨.int .u8 (st[n.toNat].toNat:Int), ?_,by rw[<-O0];exact vl g _ _⟩;unfold execOp;rw[ho];have h0:0<=n:=hb.1;have hs:st[n.toNat]?=some st[n.toNat]:=(by simp[hlen]);simp[e,e2,Instr.index,asIntOf,run_underlying ht,h0,hs]
 ·cases h6
theorem JK {E:Env}{s:TypeId}{i:Nat}{f:Field}(h:E.field s i=some f):∃fs,E.P.underlying s=some (.struct fs)/\fs[i]?=some f:=by
 unfold Env.field at h;split at h
 ·rename_i fs e;exact⟨fs,e,h⟩
 ·cases h
end Go.Abs
end

section
namespace Go.Abs
theorem HRel.UL {B:Base}{g:Gh}{hp BZ:List (Nat×Obj)}{w:World}(R:HRel B g hp w)(e:∀i,look BZ i=look hp i):HRel B g BZ w:=
 ⟨λi=>by rw[e i];exact R.top i,λi o h=>R.eD i o (by rw[<-e i];exact h),R.aD,R.ep,R.dQ,R.jo,R.frame,R.size,R.os,R.tape,R.output,R.fix⟩
theorem Lb:∀{τ:Ty}{x:τ.den}{off:Nat}{e:Ty}{ys zs:List e.den}{x':τ.den},xv τ x off=some ⟨e,ys⟩->mS τ x off e zs=some x'->xv τ x' off=some ⟨e,zs⟩/\∀ws:List e.den,mS τ x' off e ws=mS τ x off e ws:=by
 intro τ
 induction τ with
 |pr a b vW vY=>
  intro x off e ys zs x' h k;unfold xv at h;unfold mS at k
  cases hb:Nat.blt off a.size with
  |true=>
   rw[hb]at h k;obtain⟨y,h1,rfl⟩:=aF1.1 k;obtain⟨i1,i2⟩:=vW h h1;refine⟨by unfold xv;rw[hb];exact i1,λws=> ?_⟩;unfold mS;rw[hb];simp only[aD6,i2 ws]
  |false=>
   rw[hb]at h k;obtain⟨y,h1,rfl⟩:=aF1.1 k;obtain⟨i1,i2⟩:=vY h h1;refine⟨by unfold xv;rw[hb];exact i1,λws=> ?_⟩;unfold mS;rw[hb];simp only[aD1,i2 ws]
 |sl e' _=>
  intro x off e ys zs x' h k
  cases off with
  |zero=>
   injection h with h;injection h with h1 h2
   subst h1;have k:(if h:e'=e' then some (h ▸ zs)else none)=some x':=k;rw[dif_pos rfl]at k
   injection k with k
   subst k;exact⟨rfl,λ_=>rfl⟩
  |succ n=>cases h
 |_=>intro x off e ys zs x' h;cases off<;>cases h
theorem Lin.len {r:Rd}{τ:Ty}{x:τ.den}{cs:List Value}{nb:List Nat}(h:Lin r τ x cs nb):cs.length=τ.size:=h.rc.length
theorem Lin.focus {r:Rd}:∀{τ:Ty}{x:τ.den}{cs:List Value}{nb:List Nat}{off:Nat}{e:Ty}{ys:List e.den},Lin r τ x cs nb->xv τ x off=some ⟨e,ys⟩->
  ∃m1 mb m2 u,nb=m1++mb++m2/\cs[off]?=some u/\Lin r (.sl e) ys [u] mb/\
   ∀(r':Rd) (zs:List e.den) (v:Value) (I2:List Nat) (x':τ.den),(∀b∈m1++m2,∀L,r b=some L->r' b=some L)->Lin r' (.sl e) zs [v] I2->mS τ x off e zs=some x'->Lin r' τ x' (cs.set off v) (m1++I2++m2):=by
 intro τ
 induction τ with
 |pr a b vW vY=>
  intro x cs nb off e ys ⟨c1,c2,n1,n2,ec,en,h1,h2⟩ h;subst ec;subst en;have hl:=h1.len;unfold xv at h
  cases hb:Nat.blt off a.size with
  |true=>
   rw[hb]at h;have gX:off<a.size:=aE7 hb;obtain⟨m1,mb,m2,u,rfl,hu,hL,hS⟩:=vW h1 h;refine⟨m1,mb,m2++n2,u,by simp,by rw[List.getElem?_append_left (by omega)];exact hu,hL,λr' zs v I2 x' hm hv hs=> ?_⟩;unfold mS at hs;rw[hb]at hs;obtain⟨y,hy,rfl⟩:=aF1.1 hs;rw[List.set_append_left _ _ (by omega)];refine⟨c1.set off v,c2,m1++I2++m2,n2,rfl,by simp,hS r' zs v I2 y (λb hb=>hm b ?_) hv hy,h2.mono λb hb=>hm b ?_⟩
   ·rcases aE9.1 hb with hb|hb<;>simp[hb]
   ·simp[hb]
  |false=>
   rw[hb]at h
   have FQ:a.size<=off:=by
    rcases Nat.lt_or_ge off a.size with h'|h'
    ·have:Nat.blt off a.size=true:=Nat.ble_eq_true_of_le h';rw[this]at hb;cases hb
    ·exact h'
   obtain⟨m1,mb,m2,u,rfl,hu,hL,hS⟩:=vY h2 h;refine⟨n1++m1,mb,m2,u,by simp,by rw[List.getElem?_append_right (by omega),hl];exact hu,hL,λr' zs v I2 x' hm hv hs=> ?_⟩;unfold mS at hs;rw[hb]at hs;obtain⟨y,hy,rfl⟩:=aF1.1 hs;rw[List.set_append_right _ _ (by omega),hl];refine⟨c1,c2.set (off - a.size) v,n1,m1++I2++m2,rfl,by simp,h1.mono (λb hb=>hm b ?_),hS r' zs v I2 y (λb hb=>hm b ?_) hv hy⟩
   ·simp[hb]
   ·rcases aE9.1 hb with hb|hb<;>simp[hb]
 |sl e' _=>
  intro x cs nb off e ys hL h
  cases off with
  |succ n=>cases h
  |zero=>
   injection h with h;injection h with h1 h2
   subst h1;have h2:x=ys:=eq_of_heq h2;subst h2;have hl:cs.length=1:=hL.len
   obtain⟨u,rfl⟩:∃u,cs=[u]:=by
    match cs,hl with
    |[u],_=>exact⟨u,rfl⟩
   refine⟨[],nb,[],u,by simp,rfl,hL,λr' zs v I2 x' hm hv hs=> ?_⟩;have hs:(if h:e'=e' then some (h ▸ zs)else none)=some x':=hs;rw[dif_pos rfl]at hs
   injection hs with hs
   subst hs;simpa using hv
 |_=>intro x cs nb off e ys _ h;cases off<;>cases h
theorem fk.focus {r:Rd}{τ:Ty}:∀{xs:List τ.den}{L:List Value}{nb:List Nat}{i off:Nat}{e:Ty}{ys:List e.den}(hi:i<xs.length),fk r τ xs L nb->xv τ xs[i] off=some ⟨e,ys⟩->
  ∃m1 mb m2 u,nb=m1++mb++m2/\L[i*τ.size+off]?=some u/\Lin r (.sl e) ys [u] mb/\
   ∀(r':Rd) (zs:List e.den) (v:Value) (I2:List Nat) (x':τ.den),(∀b∈m1++m2,∀L,r b=some L->r' b=some L)->Lin r' (.sl e) zs [v] I2->mS τ xs[i] off e zs=some x'->fk r' τ (xs.set i x') (L.set (i*τ.size+off) v) (m1++I2++m2)
 |[],_,_,i,_,_,_,hi,_,_=>absurd hi (by simp)
 |x::xs,L,nb,0,off,e,ys,hi,⟨n1,n2,en,h1,h2⟩,h=>by
  subst en;have h:xv τ x off=some ⟨e,ys⟩:=h;obtain⟨m1,mb,m2,u,rfl,hu,hL,hS⟩:=h1.focus h
  have zA:off<τ.size:=by
   have:=(List.getElem?_eq_some_iff.1 hu).1;have h3:=h1.len;omega
  rw[List.getElem?_take_of_lt zA]at hu;refine⟨m1,mb,m2++n2,u,by simp,by simpa using hu,hL,λr' zs v I2 x' hm hv hs=> ?_⟩;have hs:mS τ x off e zs=some x':=hs;refine⟨m1++I2++m2,n2,by simp, ?_, ?_⟩
  ·rw[Nat.zero_mul,Nat.zero_add,List.take_set];exact hS r' zs v I2 x' (λb hb=>hm b (by rcases aE9.1 hb with hb|hb<;>simp[hb])) hv hs
  ·rw[Nat.zero_mul,Nat.zero_add,List.drop_set,aG3 zA]
   exact h2.mono λb hb=>hm b (by simp[hb])
 |x::xs,L,nb,i+1,off,e,ys,hi,⟨n1,n2,en,h1,h2⟩,h=>by
  subst en;have qX:i<xs.length:=(by simpa using hi);have h:xv τ xs[i] off=some ⟨e,ys⟩:=h;obtain⟨m1,mb,m2,u,rfl,hu,hL,hS⟩:=fk.focus qX h2 h
  have e1:(i+1)*τ.size+off=τ.size+(i*τ.size+off):=by rw[Nat.add_mul];omega
  rw[List.getElem?_drop]at hu;refine⟨n1++m1,mb,m2,u,by simp,by rw[e1];exact hu,hL,λr' zs v I2 x' hm hv hs=> ?_⟩;have hs:mS τ xs[i] off e zs=some x':=hs;refine⟨n1,m1++I2++m2,by simp, ?_, ?_⟩
  ·rw[e1,List.take_set,List.set_eq_of_length_le (by rw[aF5];omega)]
   exact h1.mono λb hb=>hm b (by simp[hb])
  ·rw[e1,List.drop_set,aF4 (by omega),Nat.add_sub_cancel_left];exact hS r' zs v I2 x' (λb hb=>hm b (by rcases aE9.1 hb with hb|hb<;>simp[hb])) hv hs
theorem X6 {τ:Ty}{xs:List τ.den}{i:Int}(h:i.toNat<xs.length):at_ xs i=xs[i.toNat]:=by
 unfold at_;rw[aE2,aE1 h];rfl
theorem M9 (r:Rd){e:Ty}(he:e.flat=true):Lin r (.sl e) ([]:List e.den) [.slice none 0 0] []:=⟨he, .inl ⟨rfl,rfl,rfl⟩⟩
open Classical in
noncomputable def Gh.opened (g:Gh)(d gd:Nat)(u:Value)(mb:List Nat):Gh:=
  { g with top := fun i => if i = d then gd + 1 else g.top i
           cv:=λi k=>if i=d/\k=gd then u else g.cv i k
           dj:=λx=>if x∈mb then some (d+1)else g.dj x
           ep:=λx=>if x∈mb then none else g.ep x}
theorem HRel.Iv {B:Base}{g:Gh}{hp:List (Nat×Obj)}{w:World}(R:HRel B g hp w){id gen d off:Nat}{i:Int}{τ e:Ty}{xs:List τ.den}{ys:List e.den}{x':τ.den}(h:look hp id=some (.own gen τ true xs))(hf:τ.flat=false)(hd:d≠id)
  (h0:0<=i) (hi:i.toNat<xs.length) (hs:xv τ (at_ xs i) off=some ⟨e,ys⟩) (hx:mS τ (at_ xs i) off e []=some x'):
  ∃g' b cap arr ty u,Lk g g'/\g.cv id gen= .slice (some ⟨b,0,none⟩) xs.length cap/\w.heap[b]?=some (.cells arr ty (0,0))/\arr.toList[i.toNat*τ.size+off]?=some u/\bu g' (.own d (g.top d)) u/\
   HRel B g' ((id, .hole gen τ xs i off d (g.top d))::(d, .own (g.top d) e true ys)::hp) w:=by
 rcases R.eD _ _ h with⟨_,h2⟩|⟨b,cap,arr,ty,h1,h2,h3,h4,h5,h6,h7⟩
 ·subst h2;simp at hi
 unfold dJ at h7;rw[hf]at h7;simp only[aE8,aD4,if_true]at h7;obtain⟨nb,k1,k2,k3⟩:=h7;have Um:=hs;have RG:=hx;rw[X6 hi]at Um RG;obtain⟨m1,mb,m2,u,rfl,hu,hL,hS⟩:=k1.focus hi Um
 have BQ:b∉m1++mb++m2:=λhm=>k1.nv b hm h3
 have Zi:∀x∈mb,g.dj x=some (id+1):=λx hx=>k3 x (by simp[hx])
 have RL:b∉mb:=λhm=>BQ (by simp[hm])
 have ht:=gN R h;have nd:=aH0.1 k2;have dK:=aH0.1 nd.1
 let g':=g.opened d (g.top d) u mb
 have hle:Le g g':=by
  refine⟨λ_ _ h=>h,λj=> ?_,λj k hk=> ?_⟩
  ·show g.top j<=if j=d then g.top d+1 else g.top j
   split
   ·rename_i e;subst e;omega
   ·exact aE5 _
  ·show(if j=d/\k=g.top d then _ else g.cv j k)=g.cv j k;rw[aF4];rintro⟨rfl,rfl⟩;omega
 have l6:∀x,x∉mb->g'.dj x=g.dj x:=λx hx=>by simp[g',Gh.opened,hx]
 have vt:∀x,x∉mb->g'.ep x=g.ep x:=λx hx=>by simp[g',Gh.opened,hx]
 have Tf:g'.cv d (g.top d)=u:=(by simp[g',Gh.opened]);have ay0:g'.top d=g.top d+1:=(by simp[g',Gh.opened])
 have OZ:oc u=true:=by
  rcases hL.2 with⟨e,_⟩|⟨_,_,_,e,_⟩<;>(injection e with e;subst e;rfl)
 have yL:∀x∈m1++m2,x∉mb:=by
  intro x hx hm
  rcases aE9.1 hx with hx|hx
  ·exact dK.2.2 x hx x hm rfl
  ·exact nd.2.2 x (by simp[hm]) x hx rfl
 have newObj:mZ g' w d (.own (g.top d) e true ys):=by
  rcases hL.2 with⟨e1,e2,_⟩|⟨b',c,L,e1,e2,e3,e4,e5,e6⟩
  ·injection e1 with e1
   exact .inl ⟨by rw[Tf,e1],e2⟩
  ·injection e1 with e1
   subst e3;obtain⟨_,lD,zD,a1,a2⟩:=R.ep b' L e4;refine .inr ⟨b',c,lD,zD,by rw[Tf,e1],by simp[g',Gh.opened],by simp[g',Gh.opened],a1,e2, ?_, ?_⟩
   ·have:lD.size=lD.toList.length:=(by simp);rw[this,a2,e5]
   ·unfold dJ;rw[hL.1];simp only[aE6,aD0,aG2,aH6];rw[a2];exact e6.flat hL.1
 have MG:mZ g' w id (.hole gen τ xs i off d (g.top d)):=by
  refine⟨by omega,h0,hi,hf,b,cap,arr,ty,e,ys,x',(hle.cv _ _ ht).trans h1,(l6 b RL).trans h2,(vt b RL).trans h3,h4,h5,h6,hs,hx,by rw[Tf];exact hu,m1++[]++m2, ?_, ?_,λx hx=> ?_⟩
  ·exact hS g'.ep [] _ [] x' (λy hy L Xp=>(vt y (yL y hy)).trans Xp) (M9 _ hL.1) RG
  ·simp only[aF0];rw[aH0];exact⟨dK.1,nd.2.1,λx hx y hy=>nd.2.2 x (by simp[hx]) y hy⟩
  ·have hx:x∈m1++m2:=(by simpa using hx);rw[l6 x (yL x hx)];exact k3 x (by rcases aE9.1 hx with h|h<;>simp[h])
 refine⟨g',b,cap,arr,ty,u,⟨hle,λx hx=> ?_,rfl⟩,h1,h4,hu,⟨by omega,Tf.symm,OZ⟩,⟨λj=> ?_,λj oj hj=> ?_,λx L hx=> ?_,λx L hx=> ?_,λx hx=> ?_,R.jo,λx hx hl hi=> ?_,R.size,R.os,R.tape,R.output,R.fix⟩⟩
 ·have:x∉mb:=λhm=>by rw[Zi x hm]at hx;simp at hx
  exact⟨(l6 x this).trans hx,vt x this⟩
 ·show(if j=d then g.top d+1 else g.top j)=_
  by_cases e1:id=j
  ·subst e1;rw[aE,aF4 (Ne.symm hd),R.top id,h];rfl
  ·rw[ay _ _ e1]
   by_cases e2:d=j
   ·subst e2;rw[aE,aG3 rfl];rfl
   ·rw[ay _ _ e2,aF4 (Ne.symm e2)];exact R.top j
 ·by_cases e1:id=j
  ·subst e1
   rw[aE]at hj;injection hj with hj;subst hj;exact MG
  ·rw[ay _ _ e1]at hj
   by_cases e2:d=j
   ·subst e2
    rw[aE]at hj;injection hj with hj;subst hj;exact newObj
   ·rw[ay _ _ e2]at hj;refine(R.eD j oj hj).tr hle (λx hx=> ?_) rfl (gN R hj)
    have:x∉mb:=λhm=>by rw[Zi x hm]at hx;simp at hx;exact e1 hx
    exact⟨(l6 x this).trans hx,vt x this,rfl⟩
 ·obtain⟨a1,a2,a3⟩:=R.aD x L hx
  have:x∉mb:=λhm=>by rw[Zi x hm]at a1;cases a1
  exact⟨(l6 x this).trans a1,(vt x this).trans a2,a3⟩
 ·by_cases hm:x∈mb
  ·have:g'.ep x=none:=(by simp[g',Gh.opened,hm]);rw[this]at hx;cases hx
  ·rw[vt x hm]at hx;rw[l6 x hm];exact R.ep x L hx
 ·by_cases hm:x∈mb
  ·exact R.dQ x (by rw[Zi x hm];simp)
  ·rw[l6 x hm]at hx;exact R.dQ x hx
 ·obtain⟨f1,f2,f3⟩:=R.frame x hx hl hi
  have:x∉mb:=λhm=>by rw[Zi x hm]at f1;cases f1
  exact⟨(l6 x this).trans f1,f2,f3⟩
open Classical in
noncomputable def Gh.closed (g:Gh)(id:Nat)(mb:List Nat)(L:List Value):Gh:=
  { g with dj := fun x => if x ∈ mb then some (id + 1) else g.dj x
           ep:=λx=>if x∈mb then some L else g.ep x}
theorem HRel.pX {B:Base}{g:Gh}{hp:List (Nat×Obj)}{w:World}(R:HRel B g hp w){id gen d gd off:Nat}{i:Int}{τ e:Ty}{dp:Bool}{xs:List τ.den}{ys:List e.den}{x:τ.den}(h:look hp id=some (.hole gen τ xs i off d gd))(ho:look hp d=some (.own gd e dp ys))(hd:d≠id)
  (hx:mS τ (at_ xs i) off e ys=some x):
  ∃g',Lk g g'/\HRel B g' ((id, .own gen τ true (xs.set i.toNat x))::(d, .dead gd)::hp) w:=by
 obtain⟨hg,h0,hi,hf,b,cap,arr,ty,e',Zr,x',h1,h2,h3,h4,h5,h6,h7,h8,h9,nb,k1,k2,k3⟩:=R.eD _ _ h
 have aB7:e'=e:=by
  have key:∀{τ:Ty} {x:τ.den} {off:Nat} {e e':Ty} {ys:List e.den} {Zr:List e'.den} {x1:τ.den},xv τ x off=some ⟨e',Zr⟩->mS τ x off e ys=some x1->e'=e:=by
   intro τ
   induction τ with
   |pr a b vW vY=>
    intro x off e e' ys Zr x1 h k;unfold xv at h;unfold mS at k
    cases hb:Nat.blt off a.size with
    |true=>rw[hb]at h k;obtain⟨y,k,_⟩:=aF1.1 k;exact vW h k
    |false=>rw[hb]at h k;obtain⟨y,k,_⟩:=aF1.1 k;exact vY h k
   |sl e2 _=>
    intro x off e e' ys Zr x1 h k
    cases off with
    |succ n=>cases h
    |zero=>
     injection h with h;injection h with h1 h2
     have k:(if h:e=e2 then some (h ▸ ys)else none)=some x1:=k
     by_cases he:e=e2
     ·exact h1.symm.trans he.symm
     ·rw[dif_neg he]at k;cases k
   |_=>intro x off e e' ys Zr x1 h;cases off<;>cases h
  exact key h7 hx
 subst aB7;obtain⟨q1,q2⟩:=Lb h7 h8;have qX:i.toNat<(xs.set i.toNat x').length:=(by simpa using hi);have Hf:(xs.set i.toNat x')[i.toNat]=x':=(by simp);obtain⟨m1,aq7,m2,u0,rfl,OT,Uj,hS⟩:=k1.focus qX (by rw[Hf];exact q1);have qf:i.toNat*τ.size+off<arr.toList.length:=(List.getElem?_eq_some_iff.1 h9).1;rw[List.getElem?_set_self qf]at OT
 injection OT with OT
 subst OT
 have ae5:aq7=[]:=by
  rcases Uj.2 with⟨_,_,e3⟩|⟨b',c,L,e1,_⟩
  ·exact e3
  ·injection e1 with e1;cases e1
 subst ae5
 have BQ:b∉m1++m2:=λhm=>k1.nv b (by simpa using hm) h3
 have Tw:(arr.toList.set (i.toNat*τ.size+off) (.slice none 0 0)).set (i.toNat*τ.size+off) (g.cv d gd)=arr.toList:=by
  rw[List.set_set]
  apply List.ext_getElem?
  intro j
  by_cases e:i.toNat*τ.size+off=j
  ·subst e;rw[List.getElem?_set_self qf,h9]
  ·rw[List.getElem?_set_ne e]
 have ZJ:mS τ (xs.set i.toNat x')[i.toNat] off e' ys=some x:=by rw[Hf,q2 ys];exact hx
 have hlen:((xs.set i.toNat x').set i.toNat x)=xs.set i.toNat x:=(by rw[List.set_set])
 have ai1:∀x∈m1++m2,g.dj x=some (id+1):=λx hx=>k3 x (by simpa using hx)
 have ay0:=gN R ho
 have done:∀(mb:List Nat) (L0:List Value),(∀y∈mb,g.dj y=some (d+1)/\∃arr ty,w.heap[y]?=some (.cells arr ty (0,0))/\arr.toList=L0)->mb.Nodup->
   Lin (g.closed id mb L0).ep (.sl e') ys [g.cv d gd] mb->∃g',Lk g g'/\HRel B g' ((id, .own gen τ true (xs.set i.toNat x))::(d, .dead gd)::hp) w:=by
  intro mb L0 ng mR ab4
  let g':=g.closed id mb L0
  have hle:Le g g':=⟨λ_ _ h=>h,λ_=>aE5 _,λ_ _ _=>rfl⟩
  have l6:∀y,y∉mb->g'.dj y=g.dj y:=λy hy=>by simp[g',Gh.closed,hy]
  have vt:∀y,y∉mb->g'.ep y=g.ep y:=λy hy=>by simp[g',Gh.closed,hy]
  have Ua:∀y,y∈mb->g'.dj y=some (id+1):=λy hy=>by simp[g',Gh.closed,hy]
  have Yx:∀y,y∈mb->g'.ep y=some L0:=λy hy=>by simp[g',Gh.closed,hy]
  have Hi:∀y,g.dj y≠some (d+1)->y∉mb:=λy hy hm=>hy (ng y hm).1
  have IY:∀y∈m1++m2,y∉mb:=λy hy=>Hi y (by rw[ai1 y hy];simp;exact λe=>hd e.symm)
  have RL:b∉mb:=Hi b (by rw[h2];simp;exact λe=>hd e.symm);have e1:=hS g'.ep ys (g.cv d gd) mb x (λy hy L hL=>by rw[vt y (IY y hy)];exact hL) ab4 ZJ;rw[Tw,hlen]at e1
  have MG:mZ g' w id (.own gen τ true (xs.set i.toNat x)):=by
   refine .inr ⟨b,cap,arr,ty,by show g.cv id gen=_;rw[List.length_set];exact h1,(l6 b RL).trans h2,(vt b RL).trans h3,h4,by simpa using h5,h6, ?_⟩;unfold dJ;rw[hf];simp only[aE8,aD4,if_true];refine⟨m1++mb++m2,e1, ?_,λy hy=> ?_⟩
   ·have nd:=aH0.1 (show(m1++m2).Nodup by simpa using k2);rw[aH0,aH0];refine⟨⟨nd.1,mR,λa ha c hc e=> ?_⟩,nd.2.1,λa ha c hc e=> ?_⟩
    ·subst e;exact IY a (by simp[ha]) hc
    ·subst e
     rcases aE9.1 ha with ha|ha
     ·exact nd.2.2 a ha a hc rfl
     ·exact IY a (by simp[hc]) ha
   ·by_cases hm:y∈mb
    ·exact Ua y hm
    ·rw[l6 y hm];refine ai1 y ?_
     rcases aE9.1 hy with hy|hy
     ·rcases aE9.1 hy with hy|hy
      ·simp[hy]
      ·exact absurd hy hm
     ·simp[hy]
  refine⟨g',⟨hle,λy hy=> ?_,rfl⟩,⟨λj=> ?_,λj oj hj=> ?_,λy L hy=> ?_,λy L hy=> ?_,λy hy=> ?_,R.jo,λy hy hl hi=> ?_,R.size,R.os,R.tape,R.output,R.fix⟩⟩
  ·have:=Hi y (by rw[hy];simp);exact⟨(l6 y this).trans hy,vt y this⟩
  ·show g.top j=_;rw[R.top j]
   by_cases e1:id=j
   ·subst e1;rw[aE,h];rfl
   ·rw[ay _ _ e1]
    by_cases e2:d=j
    ·subst e2;rw[aE,ho];rfl
    ·rw[ay _ _ e2]
  ·by_cases e2:id=j
   ·subst e2
    rw[aE]at hj;injection hj with hj;subst hj;exact MG
   ·rw[ay _ _ e2]at hj
    by_cases e3:d=j
    ·subst e3
     rw[aE]at hj;injection hj with hj;subst hj;trivial
    ·rw[ay _ _ e3]at hj;refine(R.eD j oj hj).tr hle (λy hy=> ?_) rfl (gN R hj);have aq4:=Hi y (by rw[hy];simp;exact λe=>e3 e.symm);exact⟨(l6 y aq4).trans hy,vt y aq4,rfl⟩
  ·obtain⟨a1,a2,a3⟩:=R.aD y L hy;have:=Hi y (by rw[a1];simp);exact⟨(l6 y this).trans a1,(vt y this).trans a2,a3⟩
  ·by_cases hm:y∈mb
   ·rw[Yx y hm]at hy
    injection hy with hy
    obtain⟨_,lD,zD,a1,a2⟩:=ng y hm;exact⟨by rw[Ua y hm];simp,lD,zD,a1,a2.trans hy⟩
   ·rw[vt y hm]at hy;rw[l6 y hm];exact R.ep y L hy
  ·by_cases hm:y∈mb
   ·exact R.dQ y (by rw[(ng y hm).1];simp)
   ·rw[l6 y hm]at hy;exact R.dQ y hy
  ·obtain⟨f1,f2,f3⟩:=R.frame y hy hl hi;have:=Hi y (by rw[f1];simp);exact⟨(l6 y this).trans f1,f2,f3⟩
 rcases R.eD _ _ ho with⟨o1,o2⟩|⟨b',Gx,lD,zD,o1,o2,o3,o4,o5,o6,o7⟩
 ·refine done [] [] (λy hy=>by simp at hy) aG5 ?_;have o2:ys=[]:=o2;rw[o1,o2];exact M9 _ Uj.1
 ·refine done [b'] lD.toList (λy hy=> ?_) (by simp) ⟨Uj.1, .inr ⟨b',Gx,lD.toList,by rw[o1],o5,rfl,by simp[Gh.closed],by simpa using o6, ?_⟩⟩
  ·simp only[List.mem_singleton]at hy;subst hy;exact⟨o2,lD,zD,o4,rfl⟩
  ·unfold dJ at o7;rw[Uj.1]at o7;simp only[aE6,aD0,aG2,aH6]at o7;exact o7.flat Uj.1
theorem wO {id gen:Nat}{s s':St}(h:(pX id gen).run s=some ((),s')):s'.env=s.env/\(∀j gn cs,look s.hp j=some (.iH gn cs)->look s'.hp j=some (.iH gn cs))/\∀{B:Base}{g:Gh}{w:World},HRel B g s.hp w->∃g',Lk g g'/\HRel B g' s'.hp w:=by
 simp only[pX,AM.run]at h;split at h
 ·rename_i g0 τ xs i off d gd heq;obtain⟨hb,h1⟩:=bm h;simp only[AM.run]at h1;split at h1
  ·rename_i g2 e dp ys Rz;obtain⟨AP,h2⟩:=bm h1;simp only[aC6,aH3]at AP;obtain rfl:=beq_eq AP.1
   have hd:d≠id:=λe=>by subst e;have:=AP.2;rw[Nat.beq_refl]at this;cases this
   split at h2
   ·rename_i x hx;simp only[AM.run,aG1,aH2,true_and]at h2;subst h2;refine⟨rfl,λj gn cs hj=> ?_,λ{B g w} R=>R.pX heq Rz hd hx⟩
    have e1:id≠j:=λe=>by subst e;rw[heq]at hj;cases hj
    have e2:d≠j:=λe=>by subst e;rw[Rz]at hj;cases hj
    show look ((id,_)::(d,_)::s.hp) j=_;rw[ay _ _ e1,ay _ _ e2];exact hj
   ·cases h2
  ·cases h1
 ·obtain⟨_,rfl⟩:=ah h;exact⟨rfl,λ_ _ _ h=>h,λ{B g w} R=>⟨g,Lk.refl g,R⟩⟩
theorem CD {c:Cell}{s s':St}(h:(Bu c).run s=some ((),s')):s'.env=s.env/\∀{B:Base}{g:Gh}{w:World},HRel B g s.hp w->∃g',Lk g g'/\HRel B g' s'.hp w:=by
 unfold Bu at h;split at h
 ·obtain⟨h1,_,h2⟩:=wO h;exact⟨h1,h2⟩
 ·obtain⟨_,rfl⟩:=ah h;exact⟨rfl,λ{B g w} R=>⟨g,Lk.refl g,R⟩⟩
theorem Ag {s s':St}{id gen:Nat}(h:(hJ id).run s=some (gen,s')):s'=s/\∀gn cs,look s.hp id≠some (.iH gn cs):=by
 simp only[hJ,AM.run]at h
 cases hl:look s.hp id with
 |none=>rw[hl]at h;obtain⟨rfl,rfl⟩:=ah h;exact⟨rfl,λ_ _ h=>by cases h⟩
 |some o=>rw[hl]at h;cases o<;>first|(obtain⟨rfl,rfl⟩:=ah h;exact⟨rfl,λ_ _ h=>by cases h⟩)|cases h
theorem z6 {B:Base}{g:Gh}{s s':St}{w:World}{id gen:Nat}(R:HRel B g s.hp w)(h:(hJ id).run s=some (gen,s')):gen=g.top id:=by
 simp only[hJ,AM.run]at h;rw[R.top id]
 cases hl:look s.hp id with
 |none=>rw[hl]at h;exact(ah h).1
 |some o=>rw[hl]at h;cases o<;>first|exact(ah h).1|cases h
theorem Oh {E:Env}{ag b:Bool}{sl:Slot}{s s':St}(h:(LX E ag sl).run s=some (b,s')):s'=s/\(b=true->ag=false):=by
 unfold LX at h;split at h
 ·rename_i id gen i off sz
  cases hc:(E.nest&& !ag)with
  |true=>
   rw[hc]at h;simp only[aD6,AM.run]at h
   have ha:ag=false:=by simp only[aC6,aH3]at hc;exact hc.2
   split at h<;>(obtain⟨_,rfl⟩:=ah h;exact⟨rfl,λ_=>ha⟩)
  |false=>
   rw[hc]at h;obtain⟨rfl,rfl⟩:=ah h;exact⟨rfl,λh=>by cases h⟩
 ·obtain⟨rfl,rfl⟩:=ah h;exact⟨rfl,λh=>by cases h⟩
end Go.Abs
end

section
namespace Go.Abs
theorem uz {E:Env}{t:TypeId}{b:Bool}(h:E.isAgg t=some b)(w:World):(Go.isAgg t).run E.P w= .ok b w:=by
 unfold Env.isAgg at h
 cases hu:E.P.underlying t with
 |none=>rw[hu]at h;cases h
 |some d=>
  rw[hu]at h;simp only[Go.isAgg,Sem.run_bind,run_underlying hu,Result.andThen_ok];cases d<;>(injection h with h;subst h;rfl)
theorem run_sizeOf {E:Env}{t:TypeId}{n:Nat}(h:E.sizeOf t=some n)(w:World):(Go.sizeOf t).run E.P w= .ok n w:=by
 unfold Env.sizeOf at h;simp only[aF1]at h;obtain⟨i,hi,rfl⟩:=h;simp[Go.sizeOf,typeInfo,hi]
theorem Am (b o n:Nat):Addr.add ⟨b,o,none⟩ n=⟨b,o+n,none⟩:=by
 unfold Addr.add;split
 ·rename_i e;subst e;rfl
 ·rfl
theorem CM {E:Env}{t:TypeId}{x:Operand}{i:Nat}{s s':St}{sl:Slot}{d:Nat}(h:(eC E d (.fieldAddr t x i)).run s=some (sl,s')):Yld E (.fieldAddr t x i) s sl s':=by
 obtain⟨s1,t1,h1,h2⟩:=AM.af h;obtain⟨f,t2,h3,h4⟩:=AM.af h2;obtain⟨n,t3,h5,h6⟩:=AM.af h4;obtain⟨rfl,r1⟩:=ow h1;obtain⟨hf,rfl⟩:=ct h3;obtain⟨hn,rfl⟩:=ct h5;obtain⟨hb,h7⟩:=bm h6
 have YF:¬ n=0:=by have:=aE7 hb;omega
 obtain⟨fs,hs,ZM⟩:=JK hf
 have key:∀(b o:Nat) (w:World) (ρ:Operand->Value) (op:Oper),op.op= .fieldAddr t x i->ρ x= .pointer (some ⟨b,o,none⟩)->
   (execOp ρ op).run E.P w= .ok (.value (.pointer (some ⟨b,o+f.offset,none⟩))) w:=by
  intro b o w ρ op ho e;unfold execOp;rw[ho]
  apply dh
  simp[Instr.fieldAt,run_underlying hs,ZM,e,Instr.sureAddr,fieldPlace,run_sizeOf hn,YF,Am]
 unfold fieldAddr at h7;split at h7
 ·rename_i id gen o0;obtain⟨rfl,rfl⟩:=ah h7
  refine .still λo ho B g a w R V=> ?_
  obtain⟨ht,b,o',kM,e⟩:=r1 V;exact⟨_,key b _ w a.eval o ho e,ht,b,o',kM,by rw[Nat.add_assoc]⟩
 ·rename_i c i0 o0 sz;obtain⟨rfl,rfl⟩:=ah h7
  refine .still λo ho B g a w R V=> ?_
  obtain⟨b,o',n',cap,hc,h0,h1,e⟩:=r1 V;exact⟨_,key b _ w a.eval o ho e,b,o',n',cap,hc,h0,h1,by rw[Nat.add_assoc]⟩
 ·rename_i xs;obtain⟨hb,h8⟩:=lV h7;obtain⟨rfl,rfl⟩:=ah h8
  refine .still λo ho B g a w R V=> ?_
  obtain⟨_,u',e,hx⟩:=r1 V
  injection e with e
  have hx:oN g.aD (xs:List Int) u':=hx
  revert hb hx
  generalize(xs:List Int)=ys
  intro hb hx
  cases ys with
  |nil=>simp at hb
  |cons y ys=>
   obtain⟨b,p,e',FJ,Tm⟩:=hx;subst e';refine⟨_,key b 0 w a.eval o ho e,y,ys,b,p,rfl,FJ,Tm,by simp⟩
 ·cases h7
theorem vh {g:Gh}{cs:List Cell}{us:List Value}(off n:Nat)(h:aF g cs us):aF g (cut off n cs) ((us.drop off).take n):=(h.drop off).take n
theorem xe {g:Gh}{ag:Bool}{cs:List Cell}{us:List Value}{v:Val}{s s':St}(h:(Cw ag cs).run s=some (v,s'))(hc:aF g cs us):
  s'=s/\((ag=true/\ed g v (.agg us.toArray))\/(ag=false/\∃u,us=[u]/\ed g v u)):=by
 cases ag with
 |true=>
  obtain⟨rfl,rfl⟩:=ah h;exact⟨rfl, .inl ⟨rfl,us,rfl,hc⟩⟩
 |false=>
  simp only[Cw,aD1]at h;split at h
  ·obtain⟨rfl,rfl⟩:=ah h;obtain⟨u,r,e,hu,hr⟩:=hc;have hr:_=_:=hr;subst hr;exact⟨rfl, .inr ⟨rfl,u,e,hu⟩⟩
  ·cases h
theorem EY {ag:Bool}{cs:List Cell}{v:Val}{s s':St}(h:(Cw ag cs).run s=some (v,s')):s'=s:=by
 cases ag with
 |true=>exact(ah h).2
 |false=>simp only[Cw,aD1]at h;split at h<;>first|exact(ah h).2|cases h
theorem Jr {E:Env}{t:TypeId}{x:Operand}{i:Nat}{s s':St}{sl:Slot}{d:Nat}(h:(eC E d (.field t x i)).run s=some (sl,s')):Yld E (.field t x i) s sl s':=by
 obtain⟨v,t1,h1,h2⟩:=AM.af h;obtain⟨rfl,r1⟩:=cD h1;split at h2
 ·rename_i cs;obtain⟨f,t2,h3,h4⟩:=AM.af h2;obtain⟨ag,t3,h5,h6⟩:=AM.af h4;obtain⟨n,t4,h7,h8⟩:=AM.af h6;obtain⟨v2,t5,h9,yg⟩:=AM.af h8;obtain⟨hf,rfl⟩:=ct h3;obtain⟨Mt,rfl⟩:=ct h5;obtain⟨hn,rfl⟩:=ct h7;obtain⟨rfl,rfl⟩:=ah yg;obtain rfl:=EY h9;obtain⟨fs,hs,ZM⟩:=JK hf
  refine .still λo ho B g a w R V=> ?_
  obtain⟨us,e,hu⟩:=r1 V;have IW:=vh f.offset (bif ag then n else 1) hu;obtain⟨_,hv⟩:=xe h9 IW
  rcases hv with⟨rfl,hv⟩|⟨rfl,u,nN,hv⟩
  ·refine⟨_, ?_,hv⟩;unfold execOp;rw[ho]
   apply dh
   simp only[Instr.field,Sem.run_bind,run_underlying hs,Result.andThen_ok,ZM,e,asAgg,Sem.run_pure,part,uz Mt,if_true,run_sizeOf hn,aD6]
   congr 2
   apply Array.ext'
   simp[List.take_drop]
  ·refine⟨u, ?_,hv⟩;unfold execOp;rw[ho]
   apply dh
   have O0:us.toArray[f.offset]?=some u:=by
    have:((us.drop f.offset).take 1)[0]?=some u:=by simp only[aD1]at nN;rw[nN];rfl
    simpa[List.getElem?_take,List.getElem?_drop]using this
   simp only[Instr.field,Sem.run_bind,run_underlying hs,Result.andThen_ok,ZM,e,asAgg,Sem.run_pure,part,uz Mt,aG2,aH6,O0]
 ·cases h2
theorem CH {E:Env}{t:TypeId}{x i:Operand}{s s':St}{sl:Slot}{d:Nat}(h:(eC E d (.indexAddr t x i)).run s=some (sl,s')):Yld E (.indexAddr t x i) s sl s':=by
 obtain⟨sz,t0,h0,h1⟩:=AM.af h;obtain⟨v,t1,h2,h3⟩:=AM.af h1;obtain⟨c,t2,h4,h5⟩:=AM.af h3;obtain⟨iv,t3,h6,h7⟩:=AM.af h5;obtain⟨n,t4,h8,h9⟩:=AM.af h7;obtain⟨lh,rfl⟩:=ct h0;obtain⟨rfl,r1⟩:=cD h2;obtain⟨rfl,rfl⟩:=uy h4;obtain⟨rfl,r2⟩:=cD h6;obtain⟨⟨k,rfl⟩,rfl⟩:=kP h8;obtain⟨hb,yg⟩:=bm h9;simp only[aC6,aH3]at hb;obtain⟨u0,t6,af6,ac0⟩:=AM.af yg;obtain⟨ec,zB⟩:=CD af6;obtain⟨len,t5,BW,sB⟩:=AM.af ac0;obtain⟨rfl,hl⟩:=yE BW;obtain⟨AP,Hh⟩:=lV sB;obtain⟨rfl,rfl⟩:=ah Hh;simp only[aC6,aC4]at AP
 suffices H:∀(o:Oper),o.op= .indexAddr t x i->∀B g a w,HRel B g s'.hp w->iC g t4.env a->∃v,(execOp a.eval o).run E.P w= .ok (.value v) w/\di g (.ea c n 0 sz) v by
  refine⟨ec,λo ho B g a w R V=> ?_⟩;obtain⟨g',l,R'⟩:=zB R;obtain⟨v,k1,k2⟩:=H o ho B g' a w R' (λt s hs=>(V t s hs).mono l.le);exact⟨v,w,g',k1,l.le,R',k2⟩
 intro o ho B g a w R V
 rcases hl R (r1 V)with⟨e,_⟩|⟨_,A,cap,e,hA⟩
 ·rw[hb.2]at e;cases e
 ·obtain⟨b,o',rfl⟩:=hA (by omega);have e2:=gZ (r2 V)
  rcases Ni hb.1 with⟨_,e3⟩|⟨el,e3,_⟩
  ·rw[hb.2]at e3;cases e3
  ·have IU:E.sizeOf el=some sz:=by
    simpa[Env.elem,e3]using lh
   refine⟨.pointer (some ⟨b,o'+n.toNat*sz,none⟩), ?_,b,o',len,cap,by rw[<-e];exact r1 V,AP.1,by omega,by simp⟩;unfold execOp;rw[ho]
   apply dh
   have hc:0<=n/\n<(len:Int):=AP;simp only[Instr.indexAt,e2,asIntOf,Sem.run_bind,Sem.run_pure,Result.andThen_ok,run_underlying e3,e,Sem.run_ite,aG3 hc,run_sizeOf IU,Am]
def Df (w:World)(b o:Nat)(us:List Value):Prop:=∀j u,us[j]?=some u->w.cell? ⟨b,o+j,none⟩=some u
theorem ia {w:World}{b o:Nat}{arr:Array Value}{ty:TypeId}{fr:Nat×Nat}(h:w.heap[b]?=some (.cells arr ty fr))(n:Nat):Df w b o ((arr.toList.drop o).take n):=by
 intro j u hj
 have WZ:arr.toList[o+j]?=some u:=by
  rw[List.getElem?_take]at hj;split at hj
  ·rwa[List.getElem?_drop]at hj
  ·cases hj
 simp[World.cell?,h];simpa using WZ
theorem Em {E:Env}{t:TypeId}{ag:Bool}{n:Nat}{w:World}{b o:Nat}{us:List Value}(Mt:E.isAgg t=some ag)(hn:E.sizeOf t=some n)(hl:us.length=bif ag then n else 1)
  (h:Df w b o us):(Instr.loadAt t (.pointer (some ⟨b,o,none⟩))).run E.P w= .ok (if ag then .agg us.toArray else us.getD 0 undef) w:=by
 simp only[Instr.loadAt,Instr.sureAddr,loadVar,Sem.run_bind,Sem.run_pure,Result.andThen_ok,uz Mt,Sem.run_ite]
 cases ag with
 |true=>
  have hl:us.length=n:=hl;subst hl;have:=run_loadCells_list (P:=E.P) (w:=w) ⟨b,o,none⟩ us (λj v hj=>by rw[Am];exact h j v hj);simp[run_sizeOf hn,this]
 |false=>
  have hl:us.length=1:=hl
  match us,hl with
  |[u],_=>
   have:=h 0 u rfl;simp only[Nat.add_zero]at this;simp[this]
theorem Lin.Z1 {g:Gh}{τ:Ty}{x:τ.den}{us:List Value}(h:Rc g.ep τ x us):aF {g with aD:=g.ep} (unpack τ x) us:=mr (g:={g with aD:=g.ep}) h
theorem Nf {g g':Gh}(ht:g'.top=g.top)(kM:g'.cv=g.cv):∀{ps:List (Nat×Nat)}{vs:List Value},sx g ps vs->sx g' ps vs
 |[],_,h=>h
 |_::_,_,⟨b,o,v,e,h1,h2,h3⟩=>⟨b,o,v,e,by rw[ht];exact h1,by rw[kM];exact h2,Nf ht kM h3⟩
theorem Pp {g g':Gh}(ht:g'.top=g.top)(kM:g'.cv=g.cv):∀{cs:List Cell}{us:List Value},G6 cs=false->aF g cs us->aF g' cs us:=by
 intro cs
 induction cs with
 |nil=>intro us _ h;exact h
 |cons c cs ih=>
  intro us hs ⟨u,r,e,hu,hr⟩;simp only[G6,List.any_cons,Bool.or_eq_false_iff]at hs;refine⟨u,r,e, ?_,ih hs.2 hr⟩
  cases c with
  |v τ x=>
   obtain⟨h1,h2⟩:=hu;refine⟨h1, ?_⟩
   cases τ with
   |sl e=>simp at hs
   |cl=>simp at hs
   |un=>simp[Ty.one]at h1
   |pr a b=>simp[Ty.one]at h1
   |int k=>exact h2
   |bool=>exact h2
   |str=>exact h2
  |nil=>exact hu
  |own id gen=>exact⟨by rw[ht];exact hu.1,by rw[kM];exact hu.2.1,hu.2.2⟩
  |ptr id gen off=>obtain⟨a,b,o,c,d⟩:=hu;exact⟨by rw[ht];exact a,b,o,by rw[kM];exact c,d⟩
  |np=>exact hu
  |nf=>exact hu
  |fn f jJ=>
   obtain⟨vs,e,hv⟩:=hu;exact⟨vs,e,Nf ht kM hv⟩
  |err b=>exact hu
theorem LS {r:Rd}{e:Ty}{xs:List e.den}{L:List Value}{o:Nat}{i:Int}(h:Els r e xs L o)(h0:0<=i)(h1:i.toNat<xs.length):Rc r e (at_ xs i) ((L.drop (o+i.toNat*e.size)).take e.size):=by
 have:=h i.toNat h1;unfold at_;rw[aE2,aE1 h1];exact this
theorem tn {α:Type}(L:List α)(o sz off n:Nat)(h:off+n<=sz):(((L.drop o).take sz).drop off).take n=(L.drop (o+off)).take n:=by
 rw[List.drop_take,List.take_take,List.drop_drop]
 congr 1
 omega
theorem EB {E:Env}{n:Nat}{sl:Slot}{cs:List Cell}{s s':St}(h:(xg E n sl).run s=some (cs,s')):
  s'.env=s.env/\∀{B:Base} {g:Gh} {w:World} {u:Value},(∀k c,E.df k=some [c]->∃u,g.aD k=some [u]/\bu g c u)->HRel B g s.hp w->di g sl u->
   ∃b o us g',u= .pointer (some ⟨b,o,none⟩)/\Df w b o us/\us.length=n/\Le g g'/\HRel B g' s'.hp w/\aF g' cs us:=by
 unfold xg at h;split at h
 ·
  rename_i id gen off;simp only[AM.run]at h;split at h
  ·rename_i g0 aj9 heq;obtain⟨hb,h'⟩:=bm h;simp only[aC6]at hb;obtain rfl:=beq_eq hb.1;have hle:off+n<=aj9.length:=aE7 hb.2;obtain⟨rfl,rfl⟩:=ah h';refine⟨rfl,λ{B g w u} _ R hu=> ?_⟩;obtain⟨ht,b,o,kM,e⟩:=hu;obtain⟨b',o',arr,ty,L,k1,k2,k3,k4,k5,k6,k7⟩:=R.eD _ _ heq;rw[kM]at k1
   injection k1 with k1;injection k1 with k1;injection k1 with k1 ab8
   subst k1;subst ab8;have hL:L.length=aj9.length:=k4.length;have ho:o<=(g.outer id).length:=(by omega)
   have e1:(arr.toList.drop (o+off)).take n=(L.drop off).take n:=by
    rw[k5,aC7,List.drop_append,aF5,Nat.min_eq_left ho];rw[List.drop_eq_nil_of_le (by rw[aF5];omega)];rw[show o+off - o=off from by omega,List.nil_append,List.drop_append_of_le_length (by omega),List.take_append_of_le_length (by rw[aG6];omega)]
   refine⟨b,o+off,(L.drop off).take n,g,e,by rw[<-e1];exact ia k3 n,by rw[aF5,aG6];omega,Le.refl g,R,vh off n k4⟩
  ·cases h
 ·
  rename_i τ xs i off sz;obtain⟨hb,h'⟩:=bm h;simp only[aC6]at hb;have lh:=beq_eq hb.1;have hle:off+n<=τ.size:=aE7 hb.2;obtain⟨rfl,rfl⟩:=ah h';refine⟨rfl,λ{B g w u} _ R hu=> ?_⟩;obtain⟨b,o,n',cap,hc,h0,h1,e⟩:=hu;obtain⟨_,A,c,e1,_,hx⟩:=hc
  injection e1 with e1
  injection e1 with e2 e3 e4
  subst lh
  rcases hx with hx|⟨b',o',L,eA,hL,hi⟩
  ·exfalso
   have:(xs:List τ.den)=[]:=hx;rw[e3,this]at h1;simp at h1
  ·rw[eA]at e2
   injection e2 with e2;injection e2 with e5 e6
   subst e5;subst e6;obtain⟨_,_,arr,ty,fr,ha,Xp⟩:=R.aD _ _ hL;have oJ:Els g.aD τ xs L o:=hi;have NR:=LS oJ h0 (by rw[<-e3];exact h1);refine⟨b,o+i.toNat*τ.size+off,((((L.drop (o+i.toNat*τ.size)).take τ.size).drop off).take n),g,e, ?_, ?_,Le.refl g,R,vh off n (mr NR)⟩
   ·rw[tn _ _ _ _ _ hle,<-Xp];exact ia ha n
   ·rw[aF5,aG6,NR.length];omega
 ·
  rename_i id gen i off sz;simp only[AM.run]at h;split at h
  ·rename_i g0 τ xs heq;obtain⟨hb,h'⟩:=bm h;simp only[aC6]at hb;obtain rfl:=beq_eq hb.1.1;have lh:=beq_eq hb.1.2;have hle:off+n<=τ.size:=aE7 hb.2;obtain⟨rfl,rfl⟩:=ah h';refine⟨rfl,λ{B g w u} _ R hu=> ?_⟩;obtain⟨b,o,n',cap,hc,h0,h1,e⟩:=hu;obtain⟨A,c,e1,_,hx⟩:=R.eD _ _ heq
   injection e1 with e1
   have e1:=hc.2.1.trans e1
   injection e1 with e2 e3 e4
   subst lh
   rcases hx with hx|⟨b',o',L,eA,hL,hi⟩
   ·exfalso
    rw[e3,hx]at h1;simp at h1
   ·rw[eA]at e2
    injection e2 with e2;injection e2 with e5 e6
    subst e5;subst e6;obtain⟨_,_,arr,ty,fr,ha,Xp⟩:=R.aD _ _ hL;have oJ:Els g.aD τ xs L o:=hi;have NR:=LS oJ h0 (by rw[<-e3];exact h1);refine⟨b,o+i.toNat*τ.size+off,((((L.drop (o+i.toNat*τ.size)).take τ.size).drop off).take n),g,e, ?_, ?_,Le.refl g,R,vh off n (mr NR)⟩
    ·rw[tn _ _ _ _ _ hle,<-Xp];exact ia ha n
    ·rw[aF5,aG6,NR.length];omega
  ·rename_i g0 τ deep xs heq;obtain⟨hb,h'⟩:=bm h;simp only[aC6]at hb;obtain rfl:=beq_eq hb.1.1;have lh:=beq_eq hb.1.2;have hle:off+n<=τ.size:=aE7 hb.2;subst lh
   have fin:∀{B:Base} {g g1:Gh} {hp1:List (Nat×Obj)} {w:World} {u:Value} {r:Rd} {b o n' cap:Nat} {arr:Array Value} {ty:TypeId},Le g g1->HRel B g1 hp1 w->
     bu g (.own id g0) (.slice (some ⟨b,o,none⟩) n' cap)->0<=i->i.toNat<n'->u= .pointer (some ⟨b,o+i.toNat*τ.size+off,none⟩)->
     g.cv id g0= .slice (some ⟨b,0,none⟩) xs.length cap->w.heap[b]?=some (.cells arr ty (0,0))->Els r τ xs arr.toList 0->
     (∀us,Rc r τ (at_ xs i) us->aF g1 (cut off n (unpack τ (at_ xs i))) ((us.drop off).take n))->
     ∃b o us g',u= .pointer (some ⟨b,o,none⟩)/\Df w b o us/\us.length=n/\Le g g'/\HRel B g' hp1 w/\aF g' (cut off n (unpack τ (at_ xs i))) us:=by
    intro B g g1 hp1 w u r b o n' cap arr ty l R1 hc h0 h1 e kM ha oJ iG;have e1:=hc.2.1.trans kM
    injection e1 with e2 e3 e4
    injection e2 with e2;injection e2 with e5 e6
    subst e6;have NR:=LS oJ h0 (by rw[<-e3];exact h1);refine⟨b,0+i.toNat*τ.size+off,((((arr.toList.drop (0+i.toNat*τ.size)).take τ.size).drop off).take n),g1,e, ?_, ?_,l,R1,iG _ NR⟩
    ·rw[tn _ _ _ _ _ hle];exact ia ha n
    ·rw[aF5,aG6,NR.length];omega
   have Re:∀{B:Base} {g:Gh} {hp1:List (Nat×Obj)} {w:World} {u:Value} {b o n' cap:Nat} {dp:Bool},mZ g w id (.own g0 τ dp xs)->bu g (.own id g0) (.slice (some ⟨b,o,none⟩) n' cap)->
     g.cv id g0= .slice (some ⟨b,0,none⟩) xs.length cap/\∃arr ty,w.heap[b]?=some (.cells arr ty (0,0))/\dJ g id τ dp xs arr.toList:=by
    intro B g hp1 w u b o n' cap dp hO hc
    rcases hO with⟨k1,_⟩|⟨b',Gx,arr,ty,k1,_,_,k4,_,_,k7⟩
    ·have:=hc.2.1.trans k1;cases this
    ·have e1:=hc.2.1.trans k1
     injection e1 with e2 e3 e4
     injection e2 with e2;injection e2 with e5 e6
     subst e5;subst e4;exact⟨k1,arr,ty,k4,k7⟩
   by_cases hd:(deep&&G6 (cut off n (unpack τ (at_ xs i))))=true
   ·simp only[hd,aD6,AM.run]at h';simp only[aG1,aH2]at h';obtain⟨rfl,rfl⟩:=h';refine⟨rfl,λ{B g w u} _ R hu=> ?_⟩;obtain⟨b,o,n',cap,hc,h0,h1,e⟩:=hu;obtain⟨g1,l,R1⟩:=R.MY heq;have AO:=hc.mono l.le;obtain⟨kM,arr,ty,ha,oJ⟩:=Re (B:=B) (hp1:=s.hp) (u:=u) (R1.eD _ _ (aE _ _ _)) AO
    have FE:g.cv id g0= .slice (some ⟨b,0,none⟩) xs.length cap:=by rw[<-kM];exact(l.le.cv _ _ (gN R heq)).symm
    refine fin l.le R1 hc h0 h1 e FE ha (r:=g1.aD) (by unfold dJ at oJ;simpa using oJ) (λus NR=>vh off n (mr NR))
   ·have aj3:(deep&&G6 (cut off n (unpack τ (at_ xs i))))=false:=(by simpa using hd);simp only[aj3,aD1]at h';obtain⟨rfl,rfl⟩:=ah h';refine⟨rfl,λ{B g w u} _ R hu=> ?_⟩;obtain⟨b,o,n',cap,hc,h0,h1,e⟩:=hu;obtain⟨kM,arr,ty,ha,oJ⟩:=Re (B:=B) (hp1:=s'.hp) (u:=u) (R.eD _ _ heq) hc
    by_cases Uq:(deep&& !τ.flat)=true
    ·unfold dJ at oJ;rw[aG3 Uq]at oJ;obtain⟨nb,hl,_⟩:=oJ
     have Zj:deep=true:=by simp at Uq;exact Uq.1
     have FC:G6 (cut off n (unpack τ (at_ xs i)))=false:=by rw[Zj]at aj3;simpa using aj3
     refine fin (Le.refl g) R hc h0 h1 e kM ha (r:=g.ep) hl.els (λus NR=>Pp (g:={g with aD:=g.ep}) (g':=g) rfl rfl FC (vh off n (Lin.Z1 NR)))
    ·unfold dJ at oJ;rw[aF4 Uq]at oJ;exact fin (Le.refl g) R hc h0 h1 e kM ha (r:=g.aD) oJ (λus NR=>vh off n (mr NR))
  ·cases h
 ·rename_i xs;obtain⟨hb,h'⟩:=bm h;obtain rfl:=beq_eq hb;obtain⟨rfl,rfl⟩:=ah h';refine⟨rfl,λ{B g w u} _ R hu=> ?_⟩;obtain⟨x,R6,b,p,rfl,FJ,Tm,e⟩:=hu;obtain⟨_,_,arr,ty,fr,ha,hL⟩:=R.aD _ _ FJ;refine⟨b,0,[.int .i64 x],g,e, ?_,rfl,Le.refl g,R,_,[],rfl,⟨rfl,rfl⟩,rfl⟩;have:=ia (o:=0) ha 1;rw[hL]at this;exact this
 ·rename_i xs;obtain⟨hb,h'⟩:=bm h;obtain rfl:=beq_eq hb;obtain⟨rfl,rfl⟩:=ah h';refine⟨rfl,λ{B g w u} _ R hu=> ?_⟩;obtain⟨x,R6,b,p,rfl,FJ,Tm,e⟩:=hu;obtain⟨_,_,arr,ty,fr,ha,hL⟩:=R.aD _ _ FJ;refine⟨b,1,[p],g,e, ?_,rfl,Le.refl g,R,p,[],rfl,⟨rfl,p,rfl,Tm⟩,rfl⟩;have:=ia (o:=1) ha 1;rw[hL]at this;exact this
 ·rename_i k;obtain⟨hb,h'⟩:=bm h;obtain rfl:=beq_eq hb;obtain⟨c,t,h1,h2⟩:=AM.af h';obtain⟨hg,rfl⟩:=ct h1;obtain⟨rfl,rfl⟩:=ah h2;refine⟨rfl,λ{B g w u} Y4 R hu=> ?_⟩
  have hg:E.df k=some [c]:=by
   simp only[aH1]at hg;obtain⟨cs,h3,h4⟩:=hg;split at h4
   ·injection h4 with h4;subst h4;exact h3
   ·cases h4
  obtain⟨v,hv,hr⟩:=Y4 k c hg;obtain⟨_,_,arr,ty,fr,ha,hL⟩:=R.aD _ _ hv;have hu:u=_:=hu;refine⟨k,0,[v],g,hu, ?_,rfl,Le.refl g,R,v,[],rfl,hr,rfl⟩;have:=ia (o:=0) ha 1;rw[hL]at this;exact this
 ·cases h
theorem Lw {E:Env}{t:TypeId}{x:Operand}{s s':St}{sl:Slot}{d:Nat}(h:(Md E d t x).run s=some (sl,s')):
  s'.env=s.env/\∀(o:Oper),o.op= .load t x->∀B g a w,(∀k c,E.df k=some [c]->∃u,g.aD k=some [u]/\bu g c u)->HRel B g s.hp w->iC g s.env a->
  ∃v w' g',(execOp a.eval o).run E.P w= .ok (.value v) w'/\Le g g'/\HRel B g' s'.hp w'/\di g' sl v:=by
 obtain⟨s1,t1,h1,h2⟩:=AM.af h;obtain⟨ag,t2,h3,h4⟩:=AM.af h2;obtain⟨rfl,r1⟩:=ow h1;obtain⟨Mt,rfl⟩:=ct h3;obtain⟨ne,t6,av6,Pe⟩:=AM.af h4;obtain⟨rfl,jy⟩:=Oh av6
 cases ne with
 |true=>
  obtain rfl:=jy rfl;have Pe:(EV d s1).run t6=some (sl,s'):=Pe;unfold EV at Pe;split at Pe
  ·rename_i id gen i off sz _;simp only[Iv,AM.run]at Pe;split at Pe
   ·rename_i g0 τ xs heq;obtain⟨hb,h5⟩:=bm Pe;simp only[aC6,aH3]at hb;obtain⟨⟨⟨b1,b2⟩,b3⟩,b4⟩:=hb;obtain rfl:=beq_eq b1;obtain rfl:=beq_eq b2
    have hd:d≠id:=λe=>by subst e;rw[Nat.beq_refl]at b4;cases b4
    split at h5
    ·rename_i e ys hs;split at h5
     ·rename_i x' hx;obtain⟨gd,t7,h6,h7⟩:=AM.af h5;obtain⟨rfl,KR⟩:=Ag h6;simp only[AM.run,aG1,aH2]at h7;obtain⟨rfl,rfl⟩:=h7;refine⟨rfl,λo ho B g a w hG R V=> ?_⟩;obtain⟨b,o',n,cap,hc,h0,K9,e1⟩:=r1 V;have YP:gd=g.top d:=z6 R h6;subst YP
      have hlen:n=xs.length:=by
       rcases R.eD _ _ heq with⟨k1,k2⟩|⟨b',Gx,arr,ty,k1,_⟩
       ·have:=hc.2.1.trans k1;injection this with e1 e2 e3;subst k2;simpa using e2
       ·have:=hc.2.1.trans k1;injection this with e1 e2 e3
      subst hlen;obtain⟨g',b',Gx,arr,ty,u,l,k1,k2,k3,k4,R'⟩:=R.Iv heq b3 hd h0 K9 hs hx;have hh:=hc.2.1.trans k1
      injection hh with YX hh2 hh3
      injection YX with YX;injection YX with YX at7
      subst YX;subst at7;refine⟨u,w,g', ?_,l.le,R',k4⟩;unfold execOp;rw[ho]
      apply dh
      rw[e1]
      have oF:w.cell? ⟨b,0+i.toNat*τ.size+off,none⟩=some u:=by
       rw[Nat.zero_add]
       have:arr[i.toNat*τ.size+off]?=some u:=by rw[<-Array.getElem?_toList];exact k3
       simp[World.cell?,k2,this]
      have Wl:w.cell? ⟨b,i.toNat*τ.size+off,none⟩=some u:=by rw[Nat.zero_add]at oF;exact oF
      simp only[Instr.loadAt,Instr.sureAddr,loadVar,Sem.run_bind,Sem.run_pure,Result.andThen_ok,uz Mt,Sem.run_ite];simp[oF,Wl]
     ·cases h5
    ·cases h5
   ·cases Pe
  ·cases Pe
 |false=>
 have Pe:((iD (E.sizeOf t)).bind λn=>(xg E (bif ag then n else 1) s1).bind λcs=>(Cw ag cs).bind λv=> .ret (.val v)).run t6=some (sl,s'):=Pe;obtain⟨n,t3,h5,h6⟩:=AM.af Pe;obtain⟨cs,t4,h7,h8⟩:=AM.af h6;obtain⟨v,t5,h9,yg⟩:=AM.af h8;obtain⟨hn,rfl⟩:=ct h5;obtain⟨rfl,rfl⟩:=ah yg;obtain rfl:=EY h9;obtain⟨he,hr⟩:=EB h7;refine⟨he,λo ho B g a w hG R V=> ?_⟩;obtain⟨b,o',us,g',e,Hf,hlen,l,R',hc⟩:=hr hG R (r1 V);obtain⟨_,hv⟩:=xe h9 hc;have AL:=Em (E:=E) (w:=w) Mt hn hlen Hf
 rcases hv with⟨rfl,hv⟩|⟨rfl,u,rfl,hv⟩
 ·refine⟨_,w,g', ?_,l,R',hv⟩;unfold execOp;rw[ho]
  apply dh
  rw[e];exact AL
 ·refine⟨u,w,g', ?_,l,R',hv⟩;unfold execOp;rw[ho]
  apply dh
  rw[e];exact AL
end Go.Abs
end

section
namespace Go.Abs
theorem Lin.length {r:Rd}{τ:Ty}{x:τ.den}{us:List Value}{nb:List Nat}(h:Lin r τ x us nb):us.length=τ.size:=h.rc.length
theorem Els.head {r:Rd}{e:Ty}{x:e.den}{xs:List e.den}{L:List Value}:Els r e (x::xs) L 0↔Rc r e x (L.take e.size)/\Els r e xs (L.drop e.size) 0:=by
 constructor
 ·intro h;refine⟨by have:=h 0 (by simp);simp only[Nat.zero_mul,Nat.add_zero,List.drop_zero]at this;exact this,λi hi=> ?_⟩;have:=h (i+1) (by simpa using hi);simp only[List.getElem_cons_succ]at this;rw[List.drop_drop]
  rwa[show e.size+(0+i*e.size)=0+(i+1)*e.size from by rw[Nat.add_mul];omega]
 ·rintro⟨h1,h2⟩ i hi
  cases i with
  |zero=>simpa using h1
  |succ i=>
   have:=h2 i (by simpa using hi);rw[List.drop_drop]at this;simp only[List.getElem_cons_succ]
   rwa[show e.size+(0+i*e.size)=0+(i+1)*e.size from by rw[Nat.add_mul];omega]at this
theorem Els.nil {r:Rd}{e:Ty}{L:List Value}:Els r e [] L 0:=λi hi=>absurd hi (by simp)
theorem Els.len {r:Rd}{e:Ty}:∀{xs:List e.den}{L:List Value},Els r e xs L 0->xs.length*e.size<=L.length
 |[],_,_=>by simp
 |x::xs,L,h=>by
  obtain⟨h1,h2⟩:=Els.head.1 h;have a:=h1.length;have b:=h2.len;rw[aF5]at a;rw[aG6]at b;rw[aC3,Nat.add_mul];omega
theorem Els.pre {r:Rd}{e:Ty}:∀{xs:List e.den}{L M:List Value},(∀k,k=xs.length*e.size->L.take k=M.take k)->Els r e xs L 0->Els r e xs M 0
 |[],_,_,_,_=>Els.nil
 |x::xs,L,M,hp,h=>by
  obtain⟨h1,h2⟩:=Els.head.1 h;have hp:=hp _ rfl;rw[aC3,Nat.add_mul,Nat.one_mul]at hp;refine Els.head.2 ⟨?_, ?_⟩
  ·have:L.take e.size=M.take e.size:=by
    have:=congrArg (List.take e.size) hp
    rwa[List.take_take,List.take_take,Nat.min_eq_left (by omega)]at this
   rwa[<-this]
  ·refine h2.pre (λk hk=> ?_);subst hk;have:=congrArg (List.drop e.size) hp
   rwa[List.drop_take,List.drop_take,Nat.add_sub_cancel]at this
theorem Els.append {r:Rd}{e:Ty}:∀{xs ys:List e.den}{L M:List Value},Els r e xs L 0->Els r e ys M 0->L.length=xs.length*e.size->Els r e (xs++ys) (L++M) 0
 |[],ys,L,M,_,h2,hl=>by
  have:L=[]:=aG4 (by simpa using hl);subst this;simpa using h2
 |x::xs,ys,L,M,h1,h2,hl=>by
  obtain⟨a,b⟩:=Els.head.1 h1;rw[aC3,Nat.add_mul,Nat.one_mul]at hl;refine Els.head.2 ⟨?_, ?_⟩
  ·rwa[List.take_append_of_le_length (by omega)]
  ·show Els r e (xs++ys) _ 0;rw[List.drop_append_of_le_length (by omega)];exact b.append h2 (by rw[aG6];omega)
theorem Els.set {r:Rd}{e:Ty}{x:e.den}{us:List Value}(hx:Rc r e x us):∀{xs:List e.den}{L:List Value}{i:Nat},Els r e xs L 0->i<xs.length->
  Els r e (xs.set i x) (L.take (i*e.size)++us++L.drop (i*e.size+us.length)) 0
 |[],_,_,_,hi=>absurd hi (by simp)
 |y::ys,L,i,h,hi=>by
  obtain⟨h1,h2⟩:=Els.head.1 h;have hl:=hx.length;have oR:=h1.length;rw[aF5]at oR
  cases i with
  |zero=>
   simp only[List.set_cons_zero,Nat.zero_mul,List.take_zero,List.nil_append,Nat.zero_add];refine Els.head.2 ⟨?_, ?_⟩
   ·rw[<-hl,List.take_left];exact hx
   ·rw[<-hl,List.drop_left];rw[hl];exact h2
  |succ i=>
   simp only[List.set_cons_succ];have ih:=h2.set hx (i:=i) (by simpa using hi)
   have e1:(i+1)*e.size=e.size+i*e.size:=by rw[Nat.add_mul];omega
   refine Els.head.2 ⟨?_, ?_⟩
   ·rw[aC7,List.take_append_of_le_length (by rw[aF5];omega),List.take_take,Nat.min_eq_left (by omega)];exact h1
   ·rw[aC7,List.drop_append_of_le_length (by rw[aF5];omega),List.drop_take];rw[e1,Nat.add_sub_cancel_left,<-aC7];rw[List.drop_drop]at ih;rw[Nat.add_assoc];exact ih
theorem fk.pre {r:Rd}{e:Ty}:∀{xs:List e.den}{L M:List Value}{nb:List Nat},(∀k,k=xs.length*e.size->L.take k=M.take k)->fk r e xs L nb->fk r e xs M nb
 |[],_,_,_,_,h=>h
 |x::xs,L,M,_,hp,⟨n1,n2,en,h1,h2⟩=>by
  have hp:=hp _ rfl;rw[aC3,Nat.add_mul,Nat.one_mul]at hp;refine⟨n1,n2,en, ?_, ?_⟩
  ·have:L.take e.size=M.take e.size:=by
    have:=congrArg (List.take e.size) hp
    rwa[List.take_take,List.take_take,Nat.min_eq_left (by omega)]at this
   rwa[<-this]
  ·refine h2.pre (λk hk=> ?_);subst hk;have:=congrArg (List.drop e.size) hp
   rwa[List.drop_take,List.drop_take,Nat.add_sub_cancel]at this
theorem fk.append {r:Rd}{e:Ty}:∀{xs ys:List e.den}{L M:List Value}{n m:List Nat},fk r e xs L n->fk r e ys M m->L.length=xs.length*e.size->fk r e (xs++ys) (L++M) (n++m)
 |[],ys,L,M,n,m,h1,h2,hl=>by
  have:L=[]:=aG4 (by simpa using hl);have h1:n=[]:=h1;subst this;subst h1;simpa using h2
 |x::xs,ys,L,M,_,m,⟨n1,n2,en,a,b⟩,h2,hl=>by
  subst en;rw[aC3,Nat.add_mul,Nat.one_mul]at hl;refine⟨n1,n2++m,by simp, ?_, ?_⟩
  ·rwa[List.take_append_of_le_length (by omega)]
  ·show fk r e (xs++ys) _ _;rw[List.drop_append_of_le_length (by omega)];exact b.append h2 (by rw[aG6];omega)
theorem fk.set {r:Rd}{e:Ty}:∀{xs:List e.den}{L:List Value}{i:Nat}{nb:List Nat},fk r e xs L nb->(hi:i<xs.length)->
  ∃na n0 nc,nb=na++n0++nc/\Lin r e xs[i] ((L.drop (i*e.size)).take e.size) n0/\
   ∀{r':Rd} {x:e.den} {us:List Value} {n1:List Nat},(∀b∈na++nc,∀L,r b=some L->r' b=some L)->Lin r' e x us n1->
    fk r' e (xs.set i x) (L.take (i*e.size)++us++L.drop (i*e.size+us.length)) (na++n1++nc)
 |[],_,_,_,_,hi=>absurd hi (by simp)
 |y::ys,L,i,_,⟨n1,n2,en,h1,h2⟩,hi=>by
  subst en;have oR:=h1.length;rw[aF5]at oR
  cases i with
  |zero=>
   refine⟨[],n1,n2,by simp,by simpa using h1,λ{r' x us Zw} hm hx=> ?_⟩;have hl:=hx.length;simp only[List.set_cons_zero,Nat.zero_mul,List.take_zero,List.nil_append,Nat.zero_add];refine⟨Zw,n2,rfl, ?_, ?_⟩
   ·rw[<-hl,List.take_left];exact hx
   ·rw[<-hl,List.drop_left,hl];exact h2.mono (λb hb L hL=>hm b (by simpa using hb) L hL)
  |succ i=>
   obtain⟨na,n0,nc,e2,h3,h4⟩:=h2.set (i:=i) (by simpa using hi);subst e2
   have e1:(i+1)*e.size=e.size+i*e.size:=by rw[Nat.add_mul];omega
   refine⟨n1++na,n0,nc,by simp, ?_,λ{r' x us Zw} hm hx=> ?_⟩
   ·rw[List.drop_drop]at h3;rw[e1];exact h3
   ·have ih:=h4 (r':=r') (x:=x) (us:=us) (n1:=Zw) (λb hb L hL=>hm b (by rcases aE9.1 hb with h|h<;>simp[h]) L hL) hx;refine⟨n1,na++Zw++nc,by simp, ?_, ?_⟩
    ·rw[aC7,List.take_append_of_le_length (by rw[aF5];omega),List.take_take,Nat.min_eq_left (by omega)];exact h1.mono (λb hb L hL=>hm b (by simp[hb]) L hL)
    ·show fk r' e (ys.set i x) _ _;rw[aC7,List.drop_append_of_le_length (by rw[aF5];omega),List.drop_take];rw[e1,Nat.add_sub_cancel_left,<-aC7];rw[List.drop_drop]at ih;rw[Nat.add_assoc];exact ih
end Go.Abs
end

section
namespace Go.Abs
open Classical in
noncomputable def Gh.take (g:Gh)(id:Nat)(nb:List Nat):Gh:={g with dj:=λx=>if x∈nb then some (id+1)else g.dj x}
theorem Le.take (g:Gh)(id:Nat)(nb:List Nat):Le g (g.take id nb):=⟨λ_ _ h=>h,λ_=>aE5 _,λ_ _ _=>rfl⟩
theorem HRel.write {B:Base}{g:Gh}{hp:List (Nat×Obj)}{w w':World}(R:HRel B g hp w){id b:Nat}{nb:List Nat}{o o':Obj}
  (ho:look hp id=some o) (xG:o'.gen=o.gen) (hl:g.dj b=some (id+1)) (hn:g.ep b=none) (hw:Turned w w' b) (oS:∀x∈nb,g.dj x=some 0)
  (Fz:mZ (g.take id nb) w' id o'):HRel B (g.take id nb) ((id,o')::hp) w':=by
 have hle:=Le.take g id nb;refine⟨λi=> ?_,λi oi hi=> ?_,λx L hx=> ?_,λx L hx=> ?_,λx hx=> ?_,R.jo,λx hx OV hi=> ?_,Nat.le_trans R.size hw.size,hw.os.trans R.os,hw.tape.trans R.tape,hw.output.trans R.output,λx L hx=> ?_⟩
 ·show g.top i=_;rw[R.top i]
  by_cases e:id=i
  ·subst e;rw[aE,ho];simp[xG]
  ·rw[ay _ _ e]
 ·by_cases e:id=i
  ·subst e;rw[aE]at hi;injection hi with hi;subst hi;exact Fz
  ·rw[ay _ _ e]at hi;refine(R.eD i oi hi).tr hle (λx hx=> ?_) rfl (by rw[R.top i,hi];exact Nat.lt_succ_self _)
   have kn:x≠b:=λe'=>by subst e';rw[hl]at hx;simp at hx;exact e hx
   have kx:x∉nb:=λhm=>by rw[oS x hm]at hx;simp at hx
   exact⟨by simp[Gh.take,kx,hx],rfl,hw.other x kn⟩
 ·have hy:g.aD x=some L:=hx;obtain⟨a1,a2,arr,ty,fr,a3,a4⟩:=R.aD x L hy
  have kn:x≠b:=λe=>by rw[e,hl]at a1;cases a1
  have kx:x∉nb:=λhm=>by rw[oS x hm]at a1;simp at a1
  exact⟨by simp[Gh.take,kx,a1],a2,arr,ty,fr,(hw.other x kn).trans a3,a4⟩
 ·have hy:g.ep x=some L:=hx;obtain⟨a1,arr,ty,a3,a4⟩:=R.ep x L hy
  have kn:x≠b:=λe=>by rw[e,hn]at hy;cases hy
  refine⟨?_,arr,ty,(hw.other x kn).trans a3,a4⟩
  by_cases kx:x∈nb
  ·simp[Gh.take,kx]
  ·simp[Gh.take,kx,a1]
 ·by_cases kx:x∈nb
  ·exact aF7 (R.dQ x (by rw[oS x kx];simp)) hw.size
  ·have RG:g.dj x≠none:=by simpa[Gh.take,kx]using hx
   exact aF7 (R.dQ x RG) hw.size
 ·obtain⟨f1,f2,f3⟩:=R.frame x hx OV hi
  have kn:x≠b:=λe=>by rw[e,hl]at f1;cases f1
  have kx:x∉nb:=λhm=>by rw[oS x hm]at f1;simp at f1
  exact⟨by simp[Gh.take,kx,f1],f2,(hw.other x kn).trans f3⟩
 ·have kn:x≠b:=λe=>by
   have:=(R.aD x L (R.jo x L hx)).1;rw[e,hl]at this;cases this
  exact(hw.other x kn).trans (R.fix x L hx)
theorem pB {w:World}{b:Nat}{arr:Array Value}{ty:TypeId}{fr:Nat×Nat}(h:w.heap[b]?=some (.cells arr ty fr))(cs:Array Value):Turned w (w.setRow b cs) b:=by
 refine⟨λx hx=>setRow_other w b x cs hx,by simp, ?_,rfl,rfl,rfl⟩;rw[size_setRow]
 rcases Nat.lt_or_ge b w.heap.size with h1|h1
 ·exact h1
 ·rw[Array.getElem?_eq_none h1]at h;cases h
theorem Ju {u:Value}(h:oc u=true):u.oneCell'=true:=by cases u<;>simp_all[oc,Value.oneCell']
theorem aF.VE {g:Gh}:∀{cs:List Cell}{us:List Value},aF g cs us->∀u∈us,u.oneCell'=true
 |[],_,h,u,hu=>by have h:_=_:=h;subst h;simp at hu
 |_::_,_,⟨v,r,e,hv,hr⟩,u,hu=>by
  subst e
  rcases aF8.1 hu with hu|hu
  ·subst hu;exact Ju hv.Dd
  ·exact hr.VE u hu
theorem aF.set {g:Gh}{new:List Cell}{us:List Value}(hn:aF g new us){cs:List Cell}{L:List Value}(off:Nat)(h:aF g cs L):
  aF g (setCells off new cs) (L.take off++us++L.drop (off+us.length)):=by
 unfold setCells;rw[<-hn.length];exact((h.take off).append hn).append (h.drop _)
theorem lK {r:Rd}{g:Gh}{c:Cell}{u:Value}(hc:bu g c u):∀{τ:Ty}{x y:τ.den}{off:Nat}{us:List Value},fP τ x off c=some y->Rc r τ x us->
  off<us.length/\Rc r τ y (us.set off u)
 | .pr a b,x,y,off,us,h,⟨c1,c2,e,h1,h2⟩=>by
  subst e;simp only[fP]at h;have l1:=h1.length;have l2:=h2.length
  cases hb:Nat.blt off a.size with
  |true=>
   rw[hb]at h;simp only[aD6,aF1]at h;obtain⟨z,hz,rfl⟩:=h;obtain⟨h3,h4⟩:=lK hc hz h1;refine⟨by simp;omega,_,_, ?_,h4,h2⟩;rw[List.set_append_left _ _ h3]
  |false=>
   rw[hb]at h;simp only[aD1,aF1]at h;obtain⟨z,hz,rfl⟩:=h;obtain⟨h3,h4⟩:=lK hc hz h2
   have FQ:a.size<=off:=by
    have:¬ off<a.size:=λgX=>by
     have:Nat.blt off a.size=true:=by simpa[Nat.blt_eq]using gX
     rw[this]at hb;cases hb
    omega
   refine⟨by simp;omega,_,_, ?_,h1,h4⟩;rw[List.set_append_right _ _ (by omega),l1]
 | .int k,x,y,off,us,h,hx=>by
  have hx:_=_:=hx;subst hx
  cases off with
  |succ n=>simp[fP]at h
  |zero=>
   cases c with
   |v τ' z=> ?_
   |_=>simp[fP]at h
   cases τ' with
   |int k'=> ?_
   |_=>simp[fP]at h
   simp only[fP]at h;split at h
   ·rename_i ek;subst ek
    injection h with h;subst h
    exact⟨by simp,by have:=gZ hc;subst this;rfl⟩
   ·cases h
 | .bool,x,y,off,us,h,hx=>by
  have hx:_=_:=hx;subst hx
  cases off with
  |succ n=>simp[fP]at h
  |zero=>
   cases c with
   |v τ' z=> ?_
   |_=>simp[fP]at h
   cases τ' with
   |bool=> ?_
   |_=>simp[fP]at h
   simp only[fP]at h
   injection h with h;subst h
   exact⟨by simp,by have:=mA hc;subst this;rfl⟩
 | .str,x,y,off,us,h,hx=>by
  obtain⟨s,e,_⟩:=hx;subst e
  cases off with
  |succ n=>simp[fP]at h
  |zero=>
   cases c with
   |v τ' z=> ?_
   |_=>simp[fP]at h
   cases τ' with
   |str=> ?_
   |_=>simp[fP]at h
   simp only[fP]at h
   injection h with h;subst h
   obtain⟨s',e,l⟩:=ox hc;exact⟨by simp,s',by simp[e],l⟩
 | .un,_,_,_,_,h,_=>by simp[fP]at h
 | .sl _,_,_,_,_,h,_=>by simp[fP]at h
 | .cl,_,_,_,_,h,_=>by simp[fP]at h
theorem wV {r:Rd}{g:Gh}{c:Cell}{u:Value}(hc:bu g c u):∀{τ:Ty}{x y:τ.den}{off:Nat}{us:List Value}{nb:List Nat},fP τ x off c=some y->Lin r τ x us nb->
  off<us.length/\Lin r τ y (us.set off u) nb
 | .pr a b,x,y,off,us,nb,h,⟨c1,c2,n1,n2,e,en,h1,h2⟩=>by
  subst e;simp only[fP]at h;have l1:=h1.length;have l2:=h2.length
  cases hb:Nat.blt off a.size with
  |true=>
   rw[hb]at h;simp only[aD6,aF1]at h;obtain⟨z,hz,rfl⟩:=h;obtain⟨h3,h4⟩:=wV hc hz h1;refine⟨by simp;omega,_,_,n1,n2, ?_,en,h4,h2⟩;rw[List.set_append_left _ _ h3]
  |false=>
   rw[hb]at h;simp only[aD1,aF1]at h;obtain⟨z,hz,rfl⟩:=h;obtain⟨h3,h4⟩:=wV hc hz h2
   have FQ:a.size<=off:=by
    have:¬ off<a.size:=λgX=>by
     have:Nat.blt off a.size=true:=by simpa[Nat.blt_eq]using gX
     rw[this]at hb;cases hb
    omega
   refine⟨by simp;omega,_,_,n1,n2, ?_,en,h1,h4⟩;rw[List.set_append_right _ _ (by omega),l1]
 | .int k,x,y,off,us,nb,h,hx=>by obtain⟨a,b⟩:=lK (r:=r) hc h hx.1;exact⟨a,b,hx.2⟩
 | .bool,x,y,off,us,nb,h,hx=>by obtain⟨a,b⟩:=lK (r:=r) hc h hx.1;exact⟨a,b,hx.2⟩
 | .str,x,y,off,us,nb,h,hx=>by obtain⟨a,b⟩:=lK (r:=r) (τ:= .str) hc h hx.1;exact⟨a,b,hx.2⟩
 | .un,_,_,_,_,_,h,_=>by simp[fP]at h
 | .sl _,_,_,_,_,_,h,_=>by simp[fP]at h
 | .cl,_,_,_,_,_,h,_=>by simp[fP]at h
theorem Sx {α:Type}(L:List α)(k sz off:Nat)(u:α)(h1:off<sz)(h2:k+sz<=L.length):
  L.take k++(((L.drop k).take sz).set off u)++L.drop (k+sz)=L.take (k+off)++[u]++L.drop (k+off+1):=by
 apply List.ext_getElem?
 intro j;simp only[aC7,List.getElem?_append,aF5,aG6,List.length_set,List.getElem?_take,List.getElem?_drop,List.getElem?_set,aC3,aC5]
 by_cases a1:j<k
 ·have b1:j<min k L.length:=(by omega);have b2:j<min (k+off) L.length:=(by omega);have b3:j<k+off:=(by omega);simp[a1,b1,b2,b3]
 ·have b1:¬ j<min k L.length:=(by omega);simp only[b1,aH6];have e1:min k L.length=k:=(by omega);have e2:min (k+off) L.length=k+off:=(by omega);rw[e1,e2]
  by_cases a2:j<k+sz
  ·have b2:j - k<min sz (L.length - k):=(by omega);simp only[b2,if_true]
   by_cases a3:off=j - k
   ·have ej:j=k+off:=(by omega);subst ej;have c1:k+off - k=off:=(by omega);have c2:off<min sz (L.length - k):=(by omega);simp[c1,c2]
   ·simp only[a3,aH6]
    by_cases a4:j<k+off
    ·simp only[a4,if_true];rw[aG3 (by omega),show k+(j - k)=j from by omega]
    ·have b4:¬ j - (k+off)<0+1:=(by omega);simp only[a4,aH6,b4];rw[aG3 (by omega)]
     congr 1
     omega
  ·have b2:¬ j - k<min sz (L.length - k):=(by omega);have b3:¬ j<k+off:=(by omega);have b4:¬ j - (k+off)<0+1:=(by omega);simp only[b2,aH6,b3,b4]
   congr 1
   omega
def kK (arr:Array Value)(o:Nat)(us:List Value):Array Value:=(arr.toList.take o++us++arr.toList.drop (o+us.length)).toArray
theorem Jd {E:Env}{t:TypeId}{n:Nat}{w:World}{b o:Nat}{arr:Array Value}{ty:TypeId}{v:Value}(hn:E.sizeOf t=some n)(hl:v.cells.toList.length=n)
  (h:w.heap[b]?=some (.cells arr ty (0,0))) (hle:o+v.cells.toList.length<=arr.size) (h1:∀u∈v.cells.toList,u.oneCell'=true):
  (Instr.storeAt t (.pointer (some ⟨b,o,none⟩)) v).run E.P w= .ok () (w.setRow b (kK arr o v.cells.toList)):=by
 have hs:v.cells.size=n:=(by simpa using hl);have:=run_storeCells_at (P:=E.P) b o ty v.cells.toList 0 arr w h (by simpa using hle) h1;simp only[Instr.storeAt,Instr.sureAddr,storeVar,Sem.run_bind,Sem.run_pure,Result.andThen_ok,run_sizeOf hn,Sem.run_ite,hs,ne_eq,not_true,aH6];simpa[kK]using this
theorem Re {g:Gh}{w:World}{id g0:Nat}{τ:Ty}{xs:List τ.den}{b o n' cap:Nat}{dp:Bool}(hO:mZ g w id (.own g0 τ dp xs))(hc:bu g (.own id g0) (.slice (some ⟨b,o,none⟩) n' cap)):
  o=0/\n'=xs.length/\g.cv id g0= .slice (some ⟨b,0,none⟩) xs.length cap/\g.dj b=some (id+1)/\g.ep b=none/\xs.length<=cap/\
   ∃arr ty,w.heap[b]?=some (.cells arr ty (0,0))/\arr.size=cap*τ.size/\dJ g id τ dp xs arr.toList:=by
 rcases hO with⟨k1,_⟩|⟨b',Gx,arr,ty,k1,k2,k3,k4,k5,k6,k7⟩
 ·have:=hc.2.1.trans k1;cases this
 ·have e1:=hc.2.1.trans k1
  injection e1 with e2 e3 e4
  injection e2 with e2;injection e2 with e5 e6
  subst e5;subst e4;subst e6;exact⟨rfl,e3,k1,k2,k3,k5,arr,ty,k4,k6,k7⟩
theorem dJ.len {g:Gh}{id:Nat}{τ:Ty}{dp:Bool}{xs:List τ.den}{L:List Value}(h:dJ g id τ dp xs L):xs.length*τ.size<=L.length:=by
 unfold dJ at h;split at h
 ·obtain⟨nb,h,_⟩:=h;exact h.els.len
 ·exact h.len
theorem N6 {id gen:Nat}{τ:Ty}{deep:Bool}{i:Int}{x:τ.den}{s s':St}(h:(QU id gen τ deep i x).run s=some ((),s')):
  ∃xs,look s.hp id=some (.own gen τ deep xs)/\s'={s with hp:=(id, .own gen τ deep (xs.set i.toNat x))::s.hp}:=by
 simp only[QU,AM.run]at h;split at h
 ·rename_i g τ' dp xs heq;obtain⟨hb,h1⟩:=bm h;simp only[aC6]at hb;obtain rfl:=beq_eq hb.1;have e2:dp=deep:=(by simpa using hb.2);subst e2;split at h1
  ·rename_i e;subst e;simp only[AM.run,aG1,aH2,true_and]at h1;exact⟨xs,heq,h1.symm⟩
  ·cases h1
 ·cases h
theorem Jl {new:List Cell}{sl:Slot}{s s':St}(h:(Bv new sl).run s=some ((),s')):
  s'.env=s.env/\∀{B:Base} {g:Gh} {w:World} {u:Value} {us:List Value},HRel B g s.hp w->di g sl u->aF g new us->
   ∃b o arr ty g',u= .pointer (some ⟨b,o,none⟩)/\w.heap[b]?=some (.cells arr ty (0,0))/\o+us.length<=arr.size/\Le g g'/\HRel B g' s'.hp (w.setRow b (kK arr o us)):=by
 unfold Bv at h;split at h
 ·rename_i id gen off;simp only[AM.run]at h;split at h
  ·rename_i g0 cs heq;obtain⟨hb,h'⟩:=bm h;simp only[aC6]at hb;obtain rfl:=beq_eq hb.1;have hle:off+new.length<=cs.length:=aE7 hb.2;simp only[AM.run,aG1,aH2,true_and]at h';subst h';refine⟨rfl,λ{B g w u us} R hu hn=> ?_⟩;obtain⟨ht,b,o,kM,e⟩:=hu;obtain⟨b',o',arr,ty,L,k1,k2,k3,k4,k5,k6,k7⟩:=R.eD _ _ heq;rw[kM]at k1
   injection k1 with k1;injection k1 with k1;injection k1 with k1 ab8
   subst k1;subst ab8;have hL:L.length=cs.length:=k4.length;have Ys:us.length=new.length:=hn.length
   have AJ:arr.size=(g.outer id).length:=by
    have:=congrArg List.length k5;simp only[Array.length_toList,aC2,aF5,aG6]at this;omega
   refine⟨b,o+off,arr,ty,_,e,k3,by omega,Le.take g id [],R.write heq rfl k2.1 k2.2 (pB k3 _) (λx hx=>by simp at hx) ?_⟩;refine⟨b,o,_,ty,L.take off++us++L.drop (off+us.length),kM,⟨by simp[Gh.take,k2.1],k2.2⟩,setRow_heap w b arr _ ty _ k3,(hn.set off k4).mono (Le.take g id []), ?_, ?_, ?_⟩
   ·have ho:o<=(g.outer id).length:=(by omega)
    have e1:((g.outer id).take o).length=o:=by rw[aF5];omega
    show(kK arr (o+off) us).toList=_;unfold kK;rw[k5];simp only[Gh.take,aC2,aF5,aG6];have e2:o+(min off L.length+us.length+(L.length - (off+us.length)))=o+L.length:=(by omega);rw[e2]
    rw[aC7,aC7,List.take_append,e1,List.take_of_length_le (by omega),Nat.add_sub_cancel_left,
     List.take_append_of_le_length (by omega),aC7,List.drop_append,e1,List.drop_eq_nil_of_le (by omega),List.nil_append,
     show o+off+us.length - o=off+us.length from by omega,List.drop_append_of_le_length (by omega)]
    simp[aC7]
   ·simp only[Gh.take,aC2,aF5,aG6];omega
   ·obtain⟨h0,h1,h2⟩:=k7;refine⟨h0, ?_,h2⟩;show(g.outer id).length=(setCells off new _).length;rw[h1];unfold setCells;simp only[aC2,aF5,aG6];omega
  ·cases h
 ·rename_i id gen i off sz;simp only[AM.run]at h;split at h
  ·rename_i g0 τ deep Zg Ze;obtain⟨hb,h'⟩:=bm h;clear h;simp only[aC6]at hb;obtain rfl:=beq_eq hb.1;have lh:=beq_eq hb.2;subst lh
   cases KX:(Nat.beq off 0&&Nat.beq new.length τ.size)with
   |true=>
    rw[KX]at h';simp only[aD6]at h';simp only[aC6]at KX;have zA:=beq_eq KX.1;have KR:=beq_eq KX.2;subst zA;obtain⟨p,t,h1,h2⟩:=AM.af h';obtain⟨he,hp⟩:=Ek _ _ _ _ _ _ _ h1;obtain⟨xs,heq,Um⟩:=N6 h2;subst Um;refine⟨he,λ{B g w u us} R hu hn=> ?_⟩;obtain⟨g1,l1,R1,AO⟩:=hp B g w R;obtain⟨NW,R7,nb,e1,FL,yL,hfresh⟩:=AO us hn;obtain⟨b,o,n',cap,hc,h0,h3,e⟩:=hu;obtain⟨rfl,rfl,kM,l6,vt,hle,arr,ty,ha,ah8,oJ⟩:=Re (R1.eD _ _ heq) (hc.mono l1.le);have Ys:us.length=τ.size:=(by rw[hn.length,KR]);have nN:NW.length=τ.size:=FL.len
    have yi:R7=[]:=by
     have:=congrArg List.length e1;simp only[aC2]at this;exact aG4 (by omega)
    subst yi;simp only[aF0]at e1;subst e1;have hi:i.toNat<xs.length:=h3
    have Gr:i.toNat*τ.size+τ.size<=arr.size:=by
     have h5:(i.toNat+1)*τ.size<=cap*τ.size:=Nat.mul_le_mul_right _ (by omega);rw[Nat.add_mul]at h5;omega
    have ac9:∀x∈nb,g1.dj x=some 0:=by
     unfold Got at FL;split at FL
     ·exact FL.2.2
     ·rw[FL.2];intro x hx;simp at hx
    have hcvT:(g1.take id nb).cv id g0= .slice (some ⟨b,0,none⟩) xs.length cap:=kM;refine⟨b,0+i.toNat*τ.size+0,arr,ty,_,e,ha,by omega,l1.le.trans (Le.take g1 id nb),R1.write heq rfl l6 vt (pB ha _) ac9 ?_⟩
    have ag4:b∉nb:=λhm=>by rw[ac9 b hm]at l6;simp at l6
    refine .inr ⟨b,cap,_,ty,by rw[List.length_set];exact kM,by simp[Gh.take,ag4,l6],vt,setRow_heap w b arr _ ty _ ha,by rw[List.length_set];exact hle, ?_, ?_⟩
    ·unfold kK;simp only[List.size_toArray,aC2,aF5,aG6,Array.length_toList];omega
    ·have K2:(kK arr (0+i.toNat*τ.size+0) us).toList=arr.toList.take (i.toNat*τ.size)++us++arr.toList.drop (i.toNat*τ.size+us.length):=(by simp[kK]);rw[K2];unfold dJ at oJ⊢;unfold Got at FL
     by_cases hd:(deep&& !τ.flat)=true
     ·rw[aG3 hd]at oJ FL⊢;obtain⟨aw4,hl,mR,OV⟩:=oJ;obtain⟨na,n0,nc,en,_,yj⟩:=hl.set hi;refine⟨na++nb++nc,yj (λb _ L hL=>hL) FL.1, ?_,λx hx=> ?_⟩
      ·have TA:∀x∈na++nc,x∉nb:=λx hx hm=>by
        have h1:=OV x (by rw[en];rcases aE9.1 hx with h|h<;>simp[h]);rw[ac9 x hm]at h1;simp at h1
       subst en
       have Gs:(na++nc).Nodup:=by
        refine mR.sublist ?_;rw[aC7];exact List.Sublist.append (List.Sublist.refl _) (List.sublist_append_right _ _)
       rw[aH0]at Gs⊢;refine⟨?_,Gs.2.1,λx hx y hy e=> ?_⟩
       ·rw[aH0];exact⟨Gs.1,FL.2.1,λx hx y hy e=>TA x (aF6 _ hx) (by rw[e];exact hy)⟩
       ·rcases aE9.1 hx with hx|hx
        ·exact Gs.2.2 x hx y hy e
        ·exact TA y (aF3 _ hy) (by rw[<-e];exact hx)
      ·show(if x∈nb then some (id+1)else g1.dj x)=some (id+1);split
       ·rfl
       ·rename_i kx;refine OV x ?_;rw[en]
        rcases aE9.1 hx with hx|hx
        ·rcases aE9.1 hx with hx|hx
         ·simp[hx]
         ·exact absurd hx kx
        ·simp[hx]
     ·rw[aF4 hd]at oJ FL⊢;exact oJ.set FL.1 hi
   |false=>
    rw[KX]at h';simp only[aD1]at h';split at h'
    ·rename_i c;split at h'
     ·rename_i y hy;simp only[AM.run,aG1,aH2,true_and]at h';subst h';refine⟨rfl,λ{B g w u us} R hu hn=> ?_⟩;obtain⟨u1,r,e1,al5,hr⟩:=hn;have hr:r=[]:=hr;subst hr;subst e1;obtain⟨b,o,n',cap,hc,h0,h3,e⟩:=hu;obtain⟨rfl,rfl,kM,l6,vt,hle,arr,ty,ha,ah8,oJ⟩:=Re (R.eD _ _ Ze) hc;have hi:i.toNat<Zg.length:=h3
      have Hf:at_ Zg i=Zg[i.toNat]:=by unfold at_;rw[aE2,aE1 hi];rfl
      rw[Hf]at hy
      have Gr:i.toNat*τ.size+τ.size<=arr.size:=by
       have h5:(i.toNat+1)*τ.size<=cap*τ.size:=Nat.mul_le_mul_right _ (by omega);rw[Nat.add_mul]at h5;omega
      have Xl:∀{us:List Value},us=(arr.toList.drop (i.toNat*τ.size)).take τ.size->off<us.length->
        (kK arr (0+i.toNat*τ.size+off) [u1]).toList=arr.toList.take (i.toNat*τ.size)++us.set off u1++arr.toList.drop (i.toNat*τ.size+(us.set off u1).length)/\0+i.toNat*τ.size+off+1<=arr.size:=by
       intro us e gX
       have an6:us.length=τ.size:=by rw[e,aF5,aG6,Array.length_toList];omega
       rw[List.length_set,an6];refine⟨?_,by omega⟩;rw[e,Sx _ _ _ _ _ (by omega) (by rw[Array.length_toList];exact Gr)];simp[kK]
      have fin:off<((arr.toList.drop (i.toNat*τ.size)).take τ.size).length->dJ g id τ deep (Zg.set i.toNat y) (kK arr (0+i.toNat*τ.size+off) [u1]).toList->
        ∃b o arr ty g',u= .pointer (some ⟨b,o,none⟩)/\w.heap[b]?=some (.cells arr ty (0,0))/\o+[u1].length<=arr.size/\Le g g'/\
         HRel B g' ((id, .own g0 τ deep (Zg.set i.toNat y))::s.hp) (w.setRow b (kK arr o [u1])):=by
       intro gX Mu;obtain⟨_,ag0⟩:=Xl rfl gX;refine⟨b,0+i.toNat*τ.size+off,arr,ty,_,e,ha,by simpa using ag0,Le.take g id [],R.write Ze rfl l6 vt (pB ha _) (λx hx=>by simp at hx) ?_⟩;refine .inr ⟨b,cap,_,ty,by rw[List.length_set];exact kM,by simp[Gh.take,l6],vt,setRow_heap w b arr _ ty _ ha,by rw[List.length_set];exact hle, ?_, ?_⟩
       ·unfold kK;simp only[List.size_toArray,aC2,aF5,aG6,Array.length_toList,aC3,aC5];omega
       ·unfold dJ at Mu⊢;split
        ·rename_i hd;rw[aG3 hd]at Mu;obtain⟨nb,q1,q2,q3⟩:=Mu;exact⟨nb,q1,q2,λx hx=>by simp[Gh.take,q3 x hx]⟩
        ·rename_i hd;rw[aF4 hd]at Mu;exact Mu
      unfold dJ at oJ
      by_cases hd:(deep&& !τ.flat)=true
      ·rw[aG3 hd]at oJ;obtain⟨aw4,hl,mR,OV⟩:=oJ;obtain⟨na,n0,nc,en,Ut,yj⟩:=hl.set hi;obtain⟨gX,Rp⟩:=wV al5 hy Ut;refine fin gX ?_;unfold dJ;rw[aG3 hd,(Xl rfl gX).1];exact⟨na++n0++nc,yj (λb _ L hL=>hL) Rp,by rw[<-en];exact mR,λx hx=>OV x (by rw[en];exact hx)⟩
      ·rw[aF4 hd]at oJ;have Ut:=oJ i.toNat hi;rw[Nat.zero_add]at Ut;obtain⟨gX,Rp⟩:=lK al5 hy Ut;refine fin gX ?_;unfold dJ;rw[aF4 hd,(Xl rfl gX).1];exact oJ.set Rp hi
     ·cases h'
    ·cases h'
  ·cases h
 ·cases h
end Go.Abs
end

section
namespace Go.Abs
theorem Jg {E:Env}{t:TypeId}{x y:Operand}{s s':St}{sl:Slot}{d:Nat}(h:(eC E d (.store t x y)).run s=some (sl,s')):
  s'.env=s.env/\sl= .un/\∀(o:Oper),o.op= .store t x y->∀B g a w,HRel B g s.hp w->iC g s.env a->
  ∃w' g',(execOp a.eval o).run E.P w= .ok .skip w'/\Le g g'/\HRel B g' s'.hp w':=by
 obtain⟨v,t1,h1,h2⟩:=AM.af h;obtain⟨s1,t2,h3,h4⟩:=AM.af h2;obtain⟨n,t3,h5,h6⟩:=AM.af h4;obtain⟨rfl,r1⟩:=cD h1;obtain⟨rfl,r2⟩:=ow h3;obtain⟨hn,rfl⟩:=ct h5;obtain⟨hb,h7⟩:=bm h6;have hl:=beq_eq hb;obtain⟨_,t4,h8,h9⟩:=AM.af h7;obtain⟨rfl,rfl⟩:=ah h9;obtain⟨he,hw⟩:=Jl h8;refine⟨he,rfl,λo ho B g a w R V=> ?_⟩;have hc:=(r1 V).cells;obtain⟨b,o',arr,ty,g',e,ha,hle,l,R'⟩:=hw R (r2 V) hc;refine⟨_,g', ?_,l,R'⟩;unfold execOp;rw[ho];have:=Jd (E:=E) (v:=a.eval y) hn (by rw[hc.length,hl]) ha hle hc.VE;simp only[Sem.run_bind,e,this,Result.andThen_ok];rfl
theorem HRel.Fc {B:Base}{g:Gh}{hp:List (Nat×Obj)}{w:World}(R:HRel B g hp w){id:Nat}{cs:List Cell}{us:List Value}(ty:TypeId)(hc:aF g cs us):
  ∃g',Le g g'/\HRel B g' ((id, .box (g.top id) (ty,cs))::hp) (World.more w (.cells us.toArray ty))/\di g' (.val (.one (.ptr id (g.top id) 0))) (.pointer (some ⟨w.heap.size,0,none⟩)):=by
 have hle:=R.Dm (id:=id) (b:=w.heap.size) (u:= .pointer (some ⟨w.heap.size,0,none⟩)) (nb:=[]) (out:=us) rfl;refine⟨_,hle,R.install rfl R.qa (u5 w _) (λx hx=>by simp at hx) rfl ?_, ?_⟩
 ·refine⟨w.heap.size,0,us.toArray,ty,us,by simp[Gh.inst],⟨by simp[Gh.inst],R.qa.ep⟩,As w _,hc.mono hle, ?_, ?_,⟨rfl, ?_,rfl⟩⟩
  ·simp[Gh.inst]
  ·simp[Gh.inst]
  ·simp[Gh.inst,hc.length]
 ·exact⟨by simp[Gh.inst],w.heap.size,0,by simp[Gh.inst],rfl⟩
theorem Ae {d:Nat}{ty:TypeId}{cs:List Cell}{s s':St}{sl:Slot}(h:(Go.Abs.Fc d ty cs).run s=some (sl,s')):
  s'.env=s.env/\∀{B:Base} {g:Gh} {w:World} {us:List Value},HRel B g s.hp w->aF g cs us->
   ∃g',Le g g'/\HRel B g' s'.hp (World.more w (.cells us.toArray ty))/\di g' sl (.pointer (some ⟨w.heap.size,0,none⟩)):=by
 obtain⟨gen,t,h1,h2⟩:=AM.af h
 have mB:t=s:=by
  exact(nZ h1).1
 subst mB;simp only[AM.run,aG1,aH2]at h2;obtain⟨rfl,rfl⟩:=h2;refine⟨rfl,λ{B g w us} R hc=> ?_⟩;obtain⟨rfl,_⟩:=j1 R h1;exact R.Fc ty hc
theorem Je {E:Env}{t:TypeId}{s s':St}{sl:Slot}{d:Nat}(h:(eC E d (.alloc t)).run s=some (sl,s')):Yld E (.alloc t) s sl s':=by
 obtain⟨cs,t1,h1,h2⟩:=AM.af h;obtain⟨hz,rfl⟩:=ct h1;obtain⟨he,hb⟩:=Ae h2;refine⟨he,λo ho B g a w R V=> ?_⟩;unfold Env.zeroCells at hz;simp only[aH1]at hz;obtain⟨z,⟨i,hi,Wo⟩,hz⟩:=hz;obtain⟨g',l,R',hs⟩:=hb R (ou hz g);refine⟨_,_,g', ?_,l,R',hs⟩;unfold execOp;rw[ho]
 apply dh
 simp[Instr.alloc,zeroValue,typeInfo,hi,Wo,newVar,newRow,World.more]
theorem OA {E:Env}{t:TypeId}{x:Operand}{s s':St}{sl:Slot}{d:Nat}(h:(eC E d (.box t x)).run s=some (sl,s')):Yld E (.box t x) s sl s':=by
 obtain⟨v,t1,h1,h2⟩:=AM.af h;obtain⟨rfl,r1⟩:=cD h1;obtain⟨he,hb⟩:=Ae h2;refine⟨he,λo ho B g a w R V=> ?_⟩;obtain⟨g',l,R',hs⟩:=hb R (r1 V).cells;refine⟨_,_,g', ?_,l,R',hs⟩;unfold execOp;rw[ho]
 apply dh
 simp[Instr.box,newVar,newRow,World.more]
theorem Eh (n:Nat)(z:List Cell):(rep n z).length=n*z.length:=by
 induction n with
 |zero=>simp[rep]
 |succ n ih=>simp[rep,ih,Nat.add_mul];omega
theorem ML {g:Gh}{z:List Cell}{us:List Value}(h:aF g z us):∀n,aF g (rep n z) (List.replicate n us).flatten
 |0=>by simp[rep,aF]
 |n+1=>by
  rw[List.replicate_succ,List.flatten_cons];exact h.append (ML h n)
theorem Kk (us:List Value)(n:Nat):((Array.range (n*us.length)).map (us.toArray[· % us.toArray.size]!)).toList=(List.replicate n us).flatten:=by
 apply List.ext_getElem
 ·simp
 ·intro i h1 h2
  have hlen:0<us.length:=by
   rcases Nat.eq_zero_or_pos us.length with h|h
   ·simp[h]at h1
   ·exact h
  have hm:i % us.length<us.length:=Nat.mod_lt _ hlen;simp only[Array.toList_map,Array.toList_range,List.getElem_map,List.getElem_range,List.size_toArray];rw[getElem!_pos us.toArray _ (by simpa using hm)]
  have xG:∀(n i:Nat) (h:i<((List.replicate n us).flatten).length),((List.replicate n us).flatten)[i]=us[i % us.length]'(Nat.mod_lt _ hlen):=by
   intro n
   induction n with
   |zero=>intro i h;simp at h
   |succ n ih=>
    intro i h;have e:(List.replicate (n+1) us).flatten=us++(List.replicate n us).flatten:=(by rw[List.replicate_succ,List.flatten_cons]);simp only[e]at h⊢;rw[List.getElem_append];split
    ·rename_i hi;simp[Nat.mod_eq_of_lt hi]
    ·rename_i hi;rw[ih];have em:i % us.length=(i - us.length) % us.length:=Nat.mod_eq_sub_mod (by omega);simp only[em]
  rw[xG n i h2];simp
end Go.Abs
end

section
namespace Go.Abs
def E6 (g:Gh):List (Nat×Val)->List (Nat×Value)->Prop
 |[],qs=>qs=[]
 |p::ps,qs=>∃u r,qs=(p.1,u)::r/\ed g p.2 u/\E6 g ps r
theorem tA:∀{xs:List (Nat×Operand)}{s s':St}{vs:List (Nat×Val)},(Dl xs).run s=some (vs,s')->s'=s/\∀{g:Gh}{a:Act},iC g s.env a->E6 g vs (xs.map λp=>(p.1,a.eval p.2))
 |[],_,_,_,h=>by obtain⟨rfl,rfl⟩:=ah h;exact⟨rfl,λ_=>rfl⟩
 |(i,x)::r,_,_,_,h=>by
  obtain⟨v,t,h1,h2⟩:=AM.af h;obtain⟨vs,t2,h3,h4⟩:=AM.af h2;obtain⟨rfl,rfl⟩:=ah h4;obtain⟨rfl,r1⟩:=cD h1;obtain⟨rfl,r2⟩:=tA h3;exact⟨rfl,λV=>⟨_,_,rfl,r1 V,r2 V⟩⟩
theorem G3 (off:Nat):∀(L:List Value)(k:Nat)(cs:Array Value),off+k+L.length<=cs.size->
  ((L.zipIdx k).foldl (λcs p=>cs.setIfInBounds (off+p.2) p.1) cs).toList=cs.toList.take (off+k)++L++cs.toList.drop (off+k+L.length)
 |[],k,cs,h=>by simp
 |u::L,k,cs,h=>by
  simp only[aC3]at h;simp only[List.zipIdx_cons,List.foldl_cons];rw[G3 off L (k+1) _ (by simp;omega)];simp only[Array.toList_setIfInBounds,aC3];rw[List.drop_set_of_lt (by omega)];rw[show off+(k+1)=(off+k)+1 from rfl,List.take_add_one];simp only[List.getElem?_set,List.take_set_of_le,aE5]
  have gX:off+k<cs.toList.length:=by simp;omega
  simp only[if_true,gX,Option.toList_some];rw[show off+k+1+L.length=off+k+(L.length+1)by omega];simp
theorem zh {g:Gh}{place place':Nat->Option (Nat×Nat)}(hp:∀i,place i=place' i):∀{ps:List (Nat×Val)}{qs:List (Nat×Value)}{cells BP:List Cell}{us:Array Value},
  fill place cells ps=some BP->E6 g ps qs->aF g cells us.toList->∃K4,Instr.fill place' us qs=some K4/\aF g BP K4.toList
 |[],qs,cells,BP,us,h,hq,hc=>by
  have hq:qs=[]:=hq;subst hq
  injection h with h;subst h
  exact⟨us,rfl,hc⟩
 |(i,x)::r,qs,cells,BP,us,h,⟨u,qr,e,hu,hr⟩,hc=>by
  subst e;simp only[fill]at h;simp only[Instr.fill];rw[<-hp i]
  cases ao1:place i with
  |none=>rw[ao1]at h;cases h
  |some os=>
   obtain⟨off,size⟩:=os;rw[ao1]at h;simp only at h⊢;have hx:=hu.cells;have hl:=hx.length;have zB:=hc.length;simp only[Array.length_toList]at hl zB
   cases hb:(Nat.beq x.cells.length size&&Nat.ble (off+size) cells.length)with
   |false=>rw[hb]at h;cases h
   |true=>
    rw[hb]at h;simp only[aC6]at hb;have e1:=beq_eq hb.1;have e2:=aE7 hb.2;rw[aF4 (by simp only[aG0,aC4];omega)];have hf:=G3 off u.cells.toList 0 us (by simp;omega);simp only[Nat.add_zero]at hf
    have Y5:(u.cells.zipIdx.foldl (λcs p=>cs.setIfInBounds (off+p.2) p.1) us).toList=us.toList.take off++u.cells.toList++us.toList.drop (off+u.cells.toList.length):=by
     rw[<-hf,<-Array.foldl_toList,Array.toList_zipIdx]
    refine zh hp h hr ?_;rw[Y5];exact hx.set off hc
theorem Ep {P:Program}:∀{fs:List Field},(fs.all λf=>(P.info? f.type).isSome)=true->∃places,fs.mapM (λf=>(P.info? f.type).map λi=>(f.offset,i.size))=some places/\
  ∀i:Nat,places[i]?=(fs[i]?).bind λf=>((P.info? f.type).map (·.size)).map (f.offset, ·)
 |[],_=>⟨[],rfl,λi=>by simp⟩
 |f::fs,h=>by
  simp only[List.all_cons,aC6]at h;obtain⟨i,hi⟩:=Option.isSome_iff_exists.1 h.1;obtain⟨places,hp,hq⟩:=Ep h.2;refine⟨(f.offset,i.size)::places,by simp[hi,hp],λk=> ?_⟩
  cases k with
  |zero=>simp[hi]
  |succ k=>simp[hq k]
theorem qj {E:Env}{t:TypeId}{cs:List Cell}(h:E.zeroCells t=some cs):∃i z,E.P.info? t=some i/\i.zero=some z/\∀g,aF g cs z.cells.toList:=by
 unfold Env.zeroCells at h;simp only[aH1]at h;obtain⟨z,⟨i,hi,Wo⟩,hz⟩:=h;exact⟨i,z,hi,Wo,ou hz⟩
theorem Jb {E:Env}{t:TypeId}{ps:Array (Nat×Operand)}{s s':St}{sl:Slot}{d:Nat}(h:(eC E d (.build t ps)).run s=some (sl,s')):Yld E (.build t ps) s sl s':=by
 obtain⟨z,t1,h1,h2⟩:=AM.af h;obtain⟨vs,t2,h3,h4⟩:=AM.af h2;obtain⟨cs,t3,h5,h6⟩:=AM.af h4;obtain⟨hb,h7⟩:=bm h6;obtain⟨rfl,rfl⟩:=ah h7;obtain⟨hz,rfl⟩:=ct h1;obtain⟨rfl,r1⟩:=tA h3;obtain⟨hf,rfl⟩:=ct h5;obtain⟨it,zv,hi,Wo,Uk⟩:=qj hz
 refine .still λo ho B g a w R V=> ?_
 unfold Env.sized at hb;split at hb
 ·rename_i fs hu;obtain⟨places,hp,hq⟩:=Ep hb
  obtain⟨K4,Rr,hr⟩:=zh (place':=λi=>places.toArray[i]?) (λi=>by
   simp only[List.getElem?_toArray,hq i,Env.field,hu,Env.sizeOf,Array.getElem?_toList]) hf (r1 V) (Uk g)
  refine⟨.agg K4, ?_,⟨K4.toList,rfl,hr⟩⟩;unfold execOp;rw[ho]
  apply dh
  apply run_build
  unfold Program.built;simp only[hi,hu,Wo,hp];rw[<-Rr];simp
 ·cases hb
theorem H7 {g:Gh}:∀{τ:Ty}{cells:List Cell}{x:τ.den}{rest:List Cell}{us:List Value},AF τ cells=some (x,rest)->aF g cells us->
  ∃u1 u2,us=u1++u2/\(∀r,Rc r τ x u1)/\(τ.nG=true->∀r,Lin r τ x u1 [])/\aF g rest u2
 | .un,cells,x,rest,us,h,hc=>by
  injection h with h;injection h with h1 h2;subst h2
  exact⟨[],us,rfl,λr=>rfl,λ_ r=>⟨rfl,rfl⟩,hc⟩
 | .pr a b,cells,x,rest,us,h,hc=>by
  simp only[AF,aH1]at h;obtain⟨p,hp,q,hq,h⟩:=h
  injection h with h;injection h with h1 h2;subst h1;subst h2
  obtain⟨u1,u2,rfl,k1,k2,k3⟩:=H7 (x:=p.1) (rest:=p.2) hp hc;obtain⟨v1,v2,rfl,m1,m2,m3⟩:=H7 (x:=q.1) (rest:=q.2) hq k3;refine⟨u1++v1,v2,by simp,λr=>⟨u1,v1,rfl,k1 r,m1 r⟩,λhm r=> ?_,m3⟩;simp only[Ty.nG,aC6]at hm;exact⟨u1,v1,[],[],rfl,rfl,k2 hm.1 r,m2 hm.2 r⟩
 | .int k,[],x,rest,us,h,hc=>by cases h
 | .bool,[],x,rest,us,h,hc=>by cases h
 | .str,[],x,rest,us,h,hc=>by cases h
 | .sl e,[],x,rest,us,h,hc=>by cases h
 | .cl,[],x,rest,us,h,hc=>by cases h
 | .int k,c::cs,x,rest,us,h,⟨u,r,e,hu,hr⟩=>by
  cases c<;>try(simp[AF]at h;done)
  rename_i τ' x'
  cases τ'<;>try(simp[AF]at h;done)
  rename_i k';simp only[AF]at h;split at h
  ·rename_i ek;subst ek
   injection h with h;injection h with h1 h2;subst h1;subst h2
   have hv:=gZ hu;subst hv;subst e;exact⟨_,r,rfl,λ_=>rfl,λ_ _=>⟨rfl,rfl⟩,hr⟩
  ·cases h
 | .bool,c::cs,x,rest,us,h,⟨u,r,e,hu,hr⟩=>by
  cases c<;>try(simp[AF]at h;done)
  rename_i τ' x'
  cases τ'<;>try(simp[AF]at h;done)
  injection h with h;injection h with h1 h2;subst h1;subst h2
  have hv:=mA hu;subst hv;subst e;exact⟨_,r,rfl,λ_=>rfl,λ_ _=>⟨rfl,rfl⟩,hr⟩
 | .str,c::cs,x,rest,us,h,⟨u,r,e,hu,hr⟩=>by
  cases c<;>try(simp[AF]at h;done)
  rename_i τ' x'
  cases τ'<;>try(simp[AF]at h;done)
  injection h with h;injection h with h1 h2;subst h1;subst h2
  obtain⟨st,hv,hl⟩:=ox hu;subst hv;subst e;exact⟨_,r,rfl,λ_=>⟨st,rfl,hl⟩,λ_ _=>⟨⟨st,rfl,hl⟩,rfl⟩,hr⟩
 | .sl e,c::cs,x,rest,us,h,⟨u,r,e',hu,hr⟩=>by
  cases c<;>try(simp[AF]at h;done)
  injection h with h;injection h with h1 h2;subst h1;subst h2
  have hv:_=_:=hu;subst hv;subst e';exact⟨_,r,rfl,λ_=>⟨none,0,rfl,aE5 _, .inl rfl⟩,λhm _=>⟨hm, .inl ⟨rfl,rfl,rfl⟩⟩,hr⟩
 | .cl,c::cs,x,rest,us,h,⟨u,r,e,hu,hr⟩=>by
  cases c<;>try(simp[AF]at h;done)
  injection h with h;injection h with h1 h2;subst h1;subst h2
  have hv:_=_:=hu;subst hv;subst e;exact⟨_,r,rfl,λ_=>⟨_,rfl,rfl⟩,λhm _=>by simp[Ty.nG]at hm,hr⟩
end Go.Abs
end

section
namespace Go.Abs
def fQ (g:Gh)(mv:Bool)(τ:Ty)(xs:List τ.den)(L:List Value)(nb:List Nat):Prop:=
 if mv then fk g.ep τ xs L nb/\nb.Nodup/\∀b∈nb,g.dj b=some 0 else Els g.aD τ xs L 0/\nb=[]
theorem fQ.mono {g g':Gh}(l:Lk g g'){mv:Bool}{τ:Ty}{xs:List τ.den}{L:List Value}{nb:List Nat}(h:fQ g mv τ xs L nb):fQ g' mv τ xs L nb:=by
 unfold fQ at h⊢;split
 ·rename_i e;rw[aG3 e]at h;exact⟨h.1.mono (λb hb L hL=>by rw[(l.kp b (h.2.2 b hb)).2];exact hL),h.2.1,λb hb=>(l.kp b (h.2.2 b hb)).1⟩
 ·rename_i e;rw[aF4 e]at h;exact⟨h.1.mono l.le.aD,h.2⟩
theorem HRel.own {B:Base}{g:Gh}{hp:List (Nat×Obj)}{w w':World}(R:HRel B g hp w){id b cap:Nat}{arr:Array Value}{ty:TypeId}{τ:Ty}{deep:Bool}{xs:List τ.den}{nb:List Nat}
  (hf:Free g hp w b) (hw:Turned w w' b) (ha:w'.heap[b]?=some (.cells arr ty (0,0))) (hh:fQ g (deep&& !τ.flat) τ xs arr.toList nb) (hl:xs.length<=cap) (hs:arr.size=cap*τ.size):
  ∃g',Le g g'/\HRel B g' ((id, .own (g.top id) τ deep xs)::hp) w'/\bu g' (.own id (g.top id)) (.slice (some ⟨b,0,none⟩) xs.length cap):=by
 have hle:=R.Dm (id:=id) (b:=b) (u:= .slice (some ⟨b,0,none⟩) xs.length cap) (nb:=nb) (out:=[]) rfl
 have oS:∀x∈nb,g.dj x=some 0:=by
  unfold fQ at hh;split at hh
  ·exact hh.2.2
  ·rw[hh.2];intro x hx;simp at hx
 refine⟨_,hle,R.install rfl hf hw oS rfl (.inr ⟨b,cap,arr,ty,by simp[Gh.inst],by simp[Gh.inst],hf.ep,ha,hl,hs, ?_⟩),⟨by simp[Gh.inst],by simp[Gh.inst],rfl⟩⟩;unfold fQ at hh;unfold dJ;split
 ·rename_i e;rw[aG3 e]at hh;exact⟨nb,hh.1,hh.2.1,λx hx=>by simp[Gh.inst,hx]⟩
 ·rename_i e;rw[aF4 e]at hh;exact hh.1
noncomputable def Gh.name (g:Gh)(id gen:Nat)(u:Value):Gh:=
  open Classical in
  { g with top := fun i => if i = id then gen + 1 else g.top i
           cv:=λi k=>if i=id/\k=gen then u else g.cv i k}
theorem HRel.named {B:Base}{g:Gh}{hp:List (Nat×Obj)}{w:World}(R:HRel B g hp w){id:Nat}{u:Value}{o':Obj}(xG:o'.gen=g.top id)(Fz:mZ (g.name id (g.top id) u) w id o'):
  Lk g (g.name id (g.top id) u)/\HRel B (g.name id (g.top id) u) ((id,o')::hp) w:=by
 have hle:Le g (g.name id (g.top id) u):=by
  refine⟨λ_ _ h=>h,λi=> ?_,λi k hk=> ?_⟩
  ·show g.top i<=if i=id then g.top id+1 else g.top i
   split
   ·rename_i e;subst e;omega
   ·exact aE5 _
  ·show(if i=id/\k=g.top id then u else g.cv i k)=g.cv i k;rw[aF4];rintro⟨rfl,rfl⟩;omega
 refine⟨⟨hle,λb h=>⟨h,rfl⟩,rfl⟩,λi=> ?_,λi oi hi=> ?_,R.aD,R.ep,R.dQ,R.jo,R.frame,R.size,R.os,R.tape,R.output,R.fix⟩
 ·show(if i=id then g.top id+1 else g.top i)=_
  by_cases e:id=i
  ·subst e;rw[aE,aG3 rfl];simp[xG]
  ·rw[ay _ _ e,aF4 (λh=>e h.symm)];exact R.top i
 ·by_cases e:id=i
  ·subst e;rw[aE]at hi;injection hi with hi;subst hi;exact Fz
  ·rw[ay _ _ e]at hi;exact(R.eD i oi hi).tr hle (λb hb=>⟨hb,rfl,rfl⟩) rfl (by rw[R.top i,hi];exact Nat.lt_succ_self _)
theorem HRel.U7 {B:Base}{g:Gh}{hp:List (Nat×Obj)}{w:World}(R:HRel B g hp w)(id:Nat)(τ:Ty)(deep:Bool):
  ∃g',Lk g g'/\HRel B g' ((id, .own (g.top id) τ deep [])::hp) w/\bu g' (.own id (g.top id)) (.slice none 0 0):=by
 obtain⟨l,R'⟩:=R.named (id:=id) (u:= .slice none 0 0) (o':= .own (g.top id) τ deep []) rfl (.inl ⟨by simp[Gh.name],rfl⟩);exact⟨_,l,R',⟨by simp[Gh.name],by simp[Gh.name],rfl⟩⟩
theorem uX {d:Nat}{τ:Ty}{deep:Bool}{xs:List τ.den}{s s':St}{c:Cell}(h:(Fo d τ deep xs).run s=some (c,s')):
  ∃gen,(hJ d).run s=some (gen,s)/\c= .own d gen/\s'={s with hp:=(d, .own gen τ deep xs)::s.hp}:=by
 obtain⟨gen,t,h1,h2⟩:=AM.af h
 have mB:t=s:=by
  exact(nZ h1).1
 subst mB;simp only[AM.run,aG1,aH2]at h2;exact⟨gen,h1,h2.1.symm,h2.2.symm⟩
theorem I9 {mv:Bool}{τ:Ty}:∀{n:Nat}{cells:List Cell}{s s':St}{xs:List τ.den},(Q1 mv τ n cells).run s=some (xs,s')->n*τ.size<=cells.length->
  s'.env=s.env/\xs.length=n/\∀B g w,HRel B g s.hp w->∃g',Lk g g'/\HRel B g' s'.hp w/\∀us,aF g cells us->
   ∃nb,fQ g' mv τ xs us nb/\∀b∈nb,g.dj b≠some 0:=by
 intro n
 induction n with
 |zero=>
  intro cells s s' xs h hlen;obtain⟨rfl,rfl⟩:=ah h;refine⟨rfl,rfl,λB g w R=>⟨g,Lk.refl g,R,λus hu=>⟨[], ?_,λb hb=>by simp at hb⟩⟩⟩;unfold fQ;split
  ·exact⟨rfl,aG5,λb hb=>by simp at hb⟩
  ·exact⟨Els.nil,rfl⟩
 |succ n ih=>
  intro cells s s' xs h hlen;obtain⟨p,t,h1,h2⟩:=AM.af h;obtain⟨ys,t2,h3,h4⟩:=AM.af h2;obtain⟨rfl,rfl⟩:=ah h4;obtain⟨x,rest⟩:=p;rw[Nat.add_mul,Nat.one_mul]at hlen;obtain⟨e1,k1⟩:=Ek mv τ _ _ _ _ _ h1;obtain⟨e2,el,k2⟩:=ih h3 (by simp;omega);refine⟨e2.trans e1,by simp[el],λB g w R=> ?_⟩;obtain⟨g1,l1,R1,c1⟩:=k1 B g w R;obtain⟨g2,l2,R2,c2⟩:=k2 B g1 w R1;refine⟨g2,l1.trans l2,R2,λus hu=> ?_⟩;have an6:=hu.length;obtain⟨u1,u2,n1,e,hg,_,f1⟩:=c1 _ (hu.take τ.size);obtain⟨n2,hh,f2⟩:=c2 _ ((hu.drop τ.size).mono l1.le);have Zo:=hg.len
  have aw7:(us.take τ.size).length=τ.size:=by simp;omega
  have yi:u2=[]:=by
   have:=congrArg List.length e;rw[aw7,aC2,Zo]at this;exact aG4 (by omega)
  subst yi;rw[aF0]at e;have Pf:=hg.mono l2;refine⟨n1++n2, ?_,λb hb=> ?_⟩
  ·unfold Got at hg Pf;unfold fQ at hh⊢
   cases mv with
   |true=>
    simp only[if_true]at hg Pf hh⊢;refine⟨⟨n1,n2,rfl,by rw[e];exact Pf.1,hh.1⟩, ?_,λb hb=> ?_⟩
    ·rw[aH0];refine⟨Pf.2.1,hh.2.1,λx hx y hy e=> ?_⟩;subst e;exact f2 x hy (hg.2.2 x hx)
    ·rcases aE9.1 hb with hb|hb
     ·exact Pf.2.2 b hb
     ·exact hh.2.2 b hb
   |false=>
    simp only[aG2,aH6]at Pf hh⊢;exact⟨Els.head.2 ⟨by rw[e];exact Pf.1,hh.1⟩,by rw[Pf.2,hh.2];rfl⟩
  ·rcases aE9.1 hb with hb|hb
   ·exact f1 b hb
   ·intro e;exact f2 b hb (l1.kp b e).1
theorem xj {E:Env}{t:TypeId}{τ:Ty}{s s':St}(h:(E.ty t).run s=some (τ,s')):s'=s:=by
 unfold Env.ty at h;split at h
 ·exact(ah h).2
 ·cases h
theorem zj {E:Env}{t e:TypeId}(h:E.elem t=some e):E.P.underlying t=some (.slice e):=by
 unfold Env.elem at h;split at h
 ·rename_i hu;injection h with h;subst h;exact hu
 ·cases h
theorem w7 {E:Env}{e:TypeId}{τ:Ty}(h:E.Kx e τ=true):∃i z,E.P.info? e=some i/\i.zero=some z/\i.size=τ.size/\i.bytes<=128/\τ.size<=64/\z.cells.size=τ.size:=by
 unfold Env.Kx at h;split at h
 ·rename_i i hi;simp only[aC6]at h;obtain⟨⟨⟨h1,h2⟩,h3⟩,h4⟩:=h;split at h4
  ·rename_i z hz;exact⟨i,z,hi,hz,beq_eq h1,aE7 h2,aE7 h3,by have:=beq_eq h4;simpa using this⟩
  ·cases h4
 ·cases h
theorem xa {place:Nat->Option (Nat×Nat)}:∀{ps:List (Nat×Val)}{cells cs:List Cell},fill place cells ps=some cs->cs.length=cells.length
 |[],cells,cs,h=>by injection h with h;subst h;rfl
 |(i,x)::r,cells,cs,h=>by
  simp only[fill]at h;split at h
  ·rename_i off size hp
   cases hb:(Nat.beq x.cells.length size&&Nat.ble (off+size) cells.length)with
   |false=>rw[hb]at h;cases h
   |true=>
    rw[hb]at h;simp only[aC6]at hb;have e1:=beq_eq hb.1;have e2:=aE7 hb.2;rw[xa h];simp[setCells];omega
  ·cases h
theorem A3 {E:Env}{t:TypeId}{n:Nat}{ps:Array (Nat×Operand)}{s s':St}{sl:Slot}{d:Nat}(h:(eC E d (.buildSlice t n ps)).run s=some (sl,s')):Yld E (.buildSlice t n ps) s sl s':=by
 obtain⟨e,t1,h1,h2⟩:=AM.af h;obtain⟨τ,t2,h3,h4⟩:=AM.af h2;obtain⟨z,t3,h5,h6⟩:=AM.af h4;obtain⟨vs,t4,h7,h8⟩:=AM.af h6;obtain⟨cs,t5,h9,yg⟩:=AM.af h8;obtain⟨hb,BW⟩:=bm yg;obtain⟨xs,t6,sB,Hh⟩:=AM.af BW;obtain⟨c,t7,Rv,OU⟩:=AM.af Hh;obtain⟨rfl,rfl⟩:=ah OU;obtain⟨he,rfl⟩:=ct h1;obtain rfl:=xj h3;obtain⟨hz,rfl⟩:=ct h5;obtain⟨rfl,r1⟩:=tA h7;obtain⟨hf,rfl⟩:=ct h9;simp only[aC6]at hb;obtain⟨i,zv,hi,Xz,lh,IQ,ap7,ME⟩:=w7 hb.1;have hn:=aE7 hb.2;obtain⟨i',av1,qX,IS,Uk⟩:=qj hz;rw[hi]at qX
 injection qX with qX;subst qX
 rw[Xz]at IS
 injection IS with IS;subst IS
 have aj2:z.length=τ.size:=by
  have:=(Uk {aD:=λ_=>none,top:=λ_=>0,cv:=λ_ _=> .tuple #[],dj:=λ_=>none,ep:=λ_=>none,outer:=λ_=>[]}).length;rw[<-this];simpa using ME
 obtain⟨gen,Zh,rfl,rfl⟩:=uX Rv
 have VO:(Array.range (n*τ.size)).map (λx=>zv.cells[x % zv.cells.size]!)=(List.replicate n zv.cells.toList).flatten.toArray:=by
  have:=Kk zv.cells.toList n
  apply Array.ext'
  simpa[ME]using this
 have zB:n*τ.size<=cs.length:=by
  rw[xa hf,Eh,aj2];exact aE5 _
 obtain⟨af5,am1,hp⟩:=I9 sB zB;refine⟨af5,λo ho B g a w R V=> ?_⟩;obtain⟨K4,Rr,hr⟩:=zh (g:=g) (us:=(List.replicate n zv.cells.toList).flatten.toArray) (λi=>by rw[aj2]) hf (r1 V) (by simpa using ML (Uk g) n);obtain⟨g1,l1,R1,c1⟩:=hp B g w R;obtain⟨nb,hh,_⟩:=c1 _ hr;obtain⟨rfl,_⟩:=j1 R1 Zh;have aw6:=hr.length;have Y0:cs.length=n*τ.size:=(by rw[xa hf,Eh,aj2])
 obtain⟨g2,l2,R2,hc⟩:=R1.own (id:=d) (cap:=n) (arr:=K4) (ty:=e) (w':=World.more w (.cells K4 e)) (deep:=xU cs&&τ.nG&& !τ.flat) R1.qa (u5 w _) (As w _) (nb:=nb) (xs:=xs) (by
  have:((xU cs&&τ.nG&& !τ.flat)&& !τ.flat)=(xU cs&&τ.nG&& !τ.flat):=by cases τ.flat<;>simp
  rw[this];exact hh) (by omega) (by simpa[Y0]using aw6)
 refine⟨.slice (some ⟨w.heap.size,0,none⟩) n n,_,g2, ?_,l1.le.trans l2,R2,by rw[<-am1];exact am1 ▸ hc⟩;unfold execOp;rw[ho]
 apply dh
 have hu:=zj he
 have Wb:¬ (16777216<n*τ.size):=by
  have:n*τ.size<=4096*64:=Nat.mul_le_mul hn ap7;omega
 have FB:Instr.fill (λi=>some (i*τ.size,τ.size)) ((Array.range (n*τ.size)).map (λx=>zv.cells[x % zv.cells.size]!)) (ps.map λp=>(p.1,a.eval p.2)).toList=some K4:=by
  rw[VO];simpa using Rr
 by_cases hz0:n*τ.size=0
 ·rw[hz0,show(Array.range 0)=#[]from by simp]at FB;simp only[Instr.buildSlice,run_underlying hu,Sem.run_bind,Result.andThen_ok,sizeOf,typeInfo,hi,lh,hz0];simp at FB
  have er:∀f:Nat->Value,Array.map f (Array.range 0)=#[]:=λf=>by apply Array.ext';simp
  simp[hi,lh,hz0,FB,newRow,World.more,er]
 ·simp only[Instr.buildSlice,run_underlying hu,Sem.run_bind,Result.andThen_ok,sizeOf,typeInfo,zeroValue,hi,Xz];simp at FB;simp[hi,Xz,lh,hz0,Wb,FB,newRow,World.more,zeroValue]
end Go.Abs
end

section
namespace Go.Abs
theorem JD {r:Rd}{τ:Ty}{x:τ.den}{us:List Value}(h:Rc r τ x us):∀{l c:Nat},l<=c->Els r τ (List.replicate l x) (List.replicate c us).flatten 0
 |0,_,_=>Els.nil
 |l+1,0,Zk=>by omega
 |l+1,c+1,Zk=>by
  have hl:=h.length;rw[List.replicate_succ,List.replicate_succ,List.flatten_cons];refine Els.head.2 ⟨by rw[<-hl,List.take_left];exact h, ?_⟩;rw[<-hl,List.drop_left];exact JD h (by omega)
theorem J6 {r:Rd}{τ:Ty}{x:τ.den}{us:List Value}(h:Lin r τ x us []):∀{l c:Nat},l<=c->fk r τ (List.replicate l x) (List.replicate c us).flatten []
 |0,_,_=>rfl
 |l+1,0,Zk=>by omega
 |l+1,c+1,Zk=>by
  have hl:=h.length;rw[List.replicate_succ,List.replicate_succ,List.flatten_cons];refine⟨[],[],rfl,by rw[<-hl,List.take_left];exact h, ?_⟩;rw[<-hl,List.drop_left];exact J6 h (by omega)
theorem CW {E:Env}{t:TypeId}{lx cx:Operand}{s s':St}{sl:Slot}{d:Nat}(h:(eC E d (.makeSlice t lx cx)).run s=some (sl,s')):Yld E (.makeSlice t lx cx) s sl s':=by
 obtain⟨e,t1,h1,h2⟩:=AM.af h;obtain⟨τ,t2,h3,h4⟩:=AM.af h2;obtain⟨z,t3,h5,h6⟩:=AM.af h4;obtain⟨x,t4,h7,h8⟩:=AM.af h6;obtain⟨lv,t5,h9,yg⟩:=AM.af h8;obtain⟨l,t6,BW,sB⟩:=AM.af yg;obtain⟨cv,t7,Hh,Rv⟩:=AM.af sB;obtain⟨c,t8,OU,FM⟩:=AM.af Rv;obtain⟨hb,YB⟩:=bm FM;obtain⟨hr,Wc⟩:=lV YB;obtain⟨cell,t9,Xw,VQ⟩:=AM.af Wc;obtain⟨rfl,rfl⟩:=ah VQ;obtain⟨he,rfl⟩:=ct h1;obtain rfl:=xj h3;obtain⟨hz,rfl⟩:=ct h5;obtain⟨hx,rfl⟩:=ct h7;obtain⟨rfl,r1⟩:=cD h9;obtain⟨⟨kl,rfl⟩,rfl⟩:=kP BW;obtain⟨rfl,r2⟩:=cD Hh;obtain⟨⟨kc,rfl⟩,rfl⟩:=kP OU;simp only[aC6,aC4]at hb hr;obtain⟨⟨h0,Zk⟩,KP⟩:=hr;obtain⟨i,zv,hi,Xz,lh,IQ,ap7,ME⟩:=w7 hb.1;obtain⟨i',av1,qX,IS,Uk⟩:=qj hz;rw[hi]at qX
 injection qX with qX;subst qX
 rw[Xz]at IS
 injection IS with IS;subst IS
 obtain⟨gen,Zh,rfl,rfl⟩:=uX Xw;refine⟨rfl,λo ho B g a w R V=> ?_⟩;obtain⟨rfl,_⟩:=j1 R Zh;obtain⟨x,rest⟩:=x;obtain⟨u1,u2,eu,k1,k2,k3⟩:=H7 hx (Uk g)
 have yi:u2=[]:=by
  have hr:rest=[]:=(by simpa using hb.2);subst hr;exact k3
 subst yi;rw[aF0]at eu;have hu:=zj he;have YW:c<=1099511627776:=KP
 have V0:(i.bytes:Int)*c<=281474976710656:=by
  have h1:(i.bytes:Int)*c<=128*1099511627776:=Int.mul_le_mul (by omega) YW (by omega) (by omega);omega
 have AL:=run_make (P:=E.P) w t e i zv hu hi Xz kl kc l c h0 Zk V0 (by omega)
 have aB2:(madeCells zv.cells (c.toNat*i.size)).toList=(List.replicate c.toNat u1).flatten:=by
  have:=Kk zv.cells.toList c.toNat;unfold madeCells;rw[lh,<-ME,<-eu];exact this
 obtain⟨g2,l2,R2,hc⟩:=R.own (id:=d) (cap:=c.toNat) (arr:=madeCells zv.cells (c.toNat*i.size)) (ty:=e) (w':=World.more w (.cells (madeCells zv.cells (c.toNat*i.size)) e)) (τ:=τ) (deep:=τ.nG&& !τ.flat)
  (xs:=List.replicate l.toNat x) (nb:=[]) R.qa (u5 w _) (As w _) (by
   rw[aB2];unfold fQ;split
   ·rename_i hm;simp only[aC6]at hm;exact⟨J6 (k2 hm.1.1 _) (by omega),aG5,λb hb=>by simp at hb⟩
   ·exact⟨JD (k1 _) (by omega),rfl⟩) (by simp;omega) (by rw[size_madeCells,lh])
 simp only[List.length_replicate]at hc;refine⟨_,_,g2, ?_,l2,R2,hc⟩;unfold execOp;rw[ho]
 apply dh
 have e1:a.eval lx= .int kl l:=gZ (r1 V);have e2:a.eval cx= .int kc c:=gZ (r2 V);rw[e1,e2,AL];rfl
theorem yG {lo:Option Val}{l:Int}{s s':St}(h:(HW lo).run s=some (l,s')):s'=s/\((lo=none/\l=0)\/∃k,lo=some (.one (.v (.int k) l))):=by
 cases lo with
 |none=>obtain⟨rfl,rfl⟩:=ah h;exact⟨rfl, .inl ⟨rfl,rfl⟩⟩
 |some v=>obtain⟨⟨k,rfl⟩,rfl⟩:=kP h;exact⟨rfl, .inr ⟨k,rfl⟩⟩
theorem tu {n:Nat}{hi:Option Val}{l:Int}{s s':St}(h:(Dj n hi).run s=some (l,s')):s'=s/\((hi=none/\l=(n:Int))\/∃k,hi=some (.one (.v (.int k) l))):=by
 cases hi with
 |none=>obtain⟨rfl,rfl⟩:=ah h;exact⟨rfl, .inl ⟨rfl,rfl⟩⟩
 |some v=>obtain⟨⟨k,rfl⟩,rfl⟩:=kP h;exact⟨rfl, .inr ⟨k,rfl⟩⟩
theorem Ez {x:Option Operand}{v:Option Val}{s s':St}(h:(Vw x).run s=some (v,s')):s'=s/\∀{g:Gh}{a:Act},iC g s.env a->
  (v=none/\x.map a.eval=none)\/∃v' u,v=some v'/\x.map a.eval=some u/\ed g v' u:=by
 cases x with
 |none=>obtain⟨rfl,rfl⟩:=ah h;exact⟨rfl,λ_=> .inl ⟨rfl,rfl⟩⟩
 |some y=>
  obtain⟨w,t,h1,h2⟩:=AM.af h;obtain⟨rfl,rfl⟩:=ah h2;obtain⟨rfl,r⟩:=cD h1;exact⟨rfl,λV=> .inr ⟨w,_,rfl,rfl,r V⟩⟩
theorem zd {P:Program}{w:World}{isSlice:Bool}{len cap:Nat}{lo hi:Option Value}{l h:Int}(hb:bounds len l h=true)(hc:len<=cap)
  (h1:(lo=none/\l=0)\/∃k,lo=some (.int k l)) (h2:(hi=none/\h=(len:Int))\/∃k,hi=some (.int k h)):
  (Instr.sliceBounds isSlice len cap lo hi none).run P w= .ok (l.toNat,h.toNat,cap) w:=by
 simp only[bounds,aC6,aC4]at hb;have eh:(h.toNat:Int)=h:=Int.toNat_of_nonneg (by omega);have Tp:h<=(cap:Int):=(by omega);have h0:0<=h:=(by omega)
 rcases h1 with⟨rfl,rfl⟩|⟨k,rfl⟩<;>rcases h2 with⟨rfl,rfl⟩|⟨k',rfl⟩
 ·simp[Instr.sliceBounds]
 ·simp[Instr.sliceBounds,run_sliceBound,h0,Tp]
 ·have:=hb.1.2;simp[Instr.sliceBounds,run_sliceBound,hb.1.1,hb.1.2]
 ·simp[Instr.sliceBounds,run_sliceBound,hb.1.1,hb.1.2,h0,Tp,eh]
theorem Bk (s:ByteArray)(l h:Int):sub (bytesOf s) l h=bytesOf (s.extract l.toNat h.toNat):=by
 unfold sub bytesOf;rw[ByteArray.data_extract,Array.toList_extract,List.extract_eq_take_drop,<-List.map_take,<-List.map_drop,List.drop_take]
theorem LM {α:Type}{xs:List α}{l h:Int}(hb:bounds xs.length l h=true):(sub xs l h).length=h.toNat - l.toNat:=by
 simp only[bounds,aC6,aC4]at hb;unfold sub;simp;omega
theorem Ve {r:Rd}{τ:Ty}{xs:List τ.den}{A:Option Addr}{n cap:Nat}{l h:Int}(H:Rc r (.sl τ) xs [.slice A n cap])(hb:bounds xs.length l h=true):
  n=xs.length/\n<=cap/\Rc r (.sl τ) (sub xs l h) [sliced A l.toNat h.toNat cap τ.size]:=by
 obtain⟨A',c,e,hc,he⟩:=H
 injection e with e;injection e with e1 e2 e3
 subst e1;subst e2;subst e3;refine⟨rfl,hc, ?_⟩;have CB:=LM hb;have FJ:=hb;simp only[bounds,aC6,aC4]at hb;refine⟨_,cap - l.toNat,by unfold sliced;rw[CB],by rw[CB];omega, ?_⟩
 by_cases hz:sub xs l h=[]
 ·exact .inl hz
 ·right
  rcases he with he|⟨b,o,L,rfl,hL,hi⟩
  ·exact absurd (by rw[he];unfold sub;simp) hz
  ·have gX:l.toNat<h.toNat:=by
    have:0<(sub xs l h).length:=List.length_pos_iff.2 hz;omega
   refine⟨b,o+l.toNat*τ.size,L, ?_,hL,λi qX=> ?_⟩
   ·rw[aF4 (by omega)];simp[Addr.add_lit]
   ·have e:(sub xs l h)[i]=xs[l.toNat+i]'(by omega):=by
     simp[sub]
    rw[e];have:=hi (l.toNat+i) (by omega);rw[Nat.add_assoc,<-Nat.add_mul];exact this
theorem tw {E:Env}{t e:TypeId}{sz:Option Nat}{τ:Ty}{xs:List τ.den}{lo hi:Option Val}{s s':St}{sl:Slot}(h:(AA sz τ xs lo hi).run s=some (sl,s'))(lh:sz=E.sizeOf e)(ht:E.P.underlying t=some (.slice e)):
  s'=s/\∀{g:Gh} {w:World} {u:Value} {FK BY:Option Value},Rc g.aD (.sl τ) xs [u]->((lo=none/\FK=none)\/∃v' u,lo=some v'/\FK=some u/\ed g v' u)->((hi=none/\BY=none)\/∃v' u,hi=some v'/\BY=some u/\ed g v' u)->
   ∃v,(Instr.sliceAt t u FK BY none).run E.P w= .ok v w/\di g sl v:=by
 unfold AA at h;split at h
 ·rename_i n;obtain⟨hb,h1⟩:=bm h;obtain⟨l,t1,h2,h3⟩:=AM.af h1;obtain⟨hh,t2,h4,h5⟩:=AM.af h3;obtain⟨Pg,h6⟩:=lV h5;obtain⟨rfl,rfl⟩:=ah h6;obtain⟨rfl,k1⟩:=yG h2;obtain⟨rfl,k2⟩:=tu h4;refine⟨rfl,λ{g w u FK BY} hu Mw K1=> ?_⟩;obtain⟨A,c,e',hc,_⟩:=id hu
  injection e' with e'
  subst e';obtain⟨_,_,hr⟩:=Ve hu Pg;refine⟨_, ?_,⟨rfl,hr⟩⟩
  have Gr:=zd (P:=E.P) (w:=w) (isSlice:=true) (lo:=FK) (hi:=BY) Pg hc (by
   rcases k1 with⟨rfl,rfl⟩|⟨k,rfl⟩
   ·rcases Mw with⟨_,rfl⟩|⟨v',u,e,_⟩
    ·exact .inl ⟨rfl,rfl⟩
    ·cases e
   ·rcases Mw with⟨e,rfl⟩|⟨v',u,e,rfl,hv⟩
    ·cases e
    ·injection e with e;subst e
     exact .inr ⟨k,by rw[gZ hv]⟩) (by
   rcases k2 with⟨rfl,rfl⟩|⟨k,rfl⟩
   ·rcases K1 with⟨_,rfl⟩|⟨v',u,e,_⟩
    ·exact .inl ⟨rfl,rfl⟩
    ·cases e
   ·rcases K1 with⟨e,rfl⟩|⟨v',u,e,rfl,hv⟩
    ·cases e
    ·injection e with e;subst e
     exact .inr ⟨k,by rw[gZ hv]⟩)
  have hn:=beq_eq hb
  have Tx:(Go.sizeOf e).run E.P w= .ok n w:=by
   have:=lh.symm;unfold Env.sizeOf at this;simp only[aF1]at this;obtain⟨i,hi,ai6⟩:=this;subst ai6;simp[Go.sizeOf,typeInfo,hi]
  simp only[Instr.sliceAt,Instr.slice,Sem.run_bind,run_underlying ht,Result.andThen_ok,Gr,Tx];simp[sliced,hn]
 ·cases h
theorem F8 {E:Env}{t:TypeId}{lo hi:Option Val}{c:Cell}{s s':St}{sl:Slot}(h:(H8 ((E.elem t).bind E.sizeOf) lo hi c).run s=some (sl,s'))(hf:E.fit t c=true):
  s'.env=s.env/\∀{B:Base} {g:Gh} {w:World} {u:Value} {FK BY:Option Value},HRel B g s.hp w->bu g c u->((lo=none/\FK=none)\/∃v' u,lo=some v'/\FK=some u/\ed g v' u)->((hi=none/\BY=none)\/∃v' u,hi=some v'/\BY=some u/\ed g v' u)->
   ∃v g',(Instr.sliceAt t u FK BY none).run E.P w= .ok v w/\Le g g'/\HRel B g' s'.hp w/\di g' sl v:=by
 have Ud:∀{g g':Gh} {x:Option Val} {ux:Option Value},Le g g'->((x=none/\ux=none)\/∃v' u,x=some v'/\ux=some u/\ed g v' u)->((x=none/\ux=none)\/∃v' u,x=some v'/\ux=some u/\ed g' v' u):=
  λl h=>h.imp id λ⟨v',u,a,b,c⟩=>⟨v',u,a,b,c.mono l⟩
 unfold H8 at h;split at h
 ·rename_i st;obtain⟨l,t1,h2,h3⟩:=AM.af h;obtain⟨hh,t2,h4,h5⟩:=AM.af h3;obtain⟨Pg,h6⟩:=lV h5;obtain⟨rfl,rfl⟩:=ah h6;obtain⟨rfl,k1⟩:=yG h2;obtain⟨rfl,k2⟩:=tu h4;refine⟨rfl,λ{B g w u FK BY} R hu Mw K1=> ?_⟩;obtain⟨sb,rfl,mB⟩:=ox hu;subst mB;rw[eN]at Pg k2
  have ht:E.P.underlying t=some .string:=by
   unfold Env.fit at hf;split at hf
   ·assumption
   ·simp[Cell.isStr]at hf
   ·cases hf
  have Gr:=zd (P:=E.P) (w:=w) (isSlice:=false) (lo:=FK) (hi:=BY) Pg (aE5 _) (by
   rcases k1 with⟨rfl,rfl⟩|⟨k,rfl⟩
   ·rcases Mw with⟨_,rfl⟩|⟨v',u,e,_⟩
    ·exact .inl ⟨rfl,rfl⟩
    ·cases e
   ·rcases Mw with⟨e,rfl⟩|⟨v',u,e,rfl,hv⟩
    ·cases e
    ·injection e with e;subst e
     exact .inr ⟨k,by rw[gZ hv]⟩) (by
   rcases k2 with⟨rfl,rfl⟩|⟨k,rfl⟩
   ·rcases K1 with⟨_,rfl⟩|⟨v',u,e,_⟩
    ·exact .inl ⟨rfl,rfl⟩
    ·cases e
   ·rcases K1 with⟨e,rfl⟩|⟨v',u,e,rfl,hv⟩
    ·cases e
    ·injection e with e;subst e
     exact .inr ⟨k,by rw[gZ hv]⟩)
  refine⟨.string (sb.extract l.toNat hh.toNat),g, ?_,Le.refl g,R,by rw[Bk];exact Mj g _⟩;simp only[Instr.sliceAt,Instr.slice,Sem.run_bind,run_underlying ht,Result.andThen_ok,Gr];simp[Gr]
 ·rename_i τ xs
  have ht:∃e,E.P.underlying t=some (.slice e):=by
   unfold Env.fit at hf;split at hf
   ·simp[Cell.isStr]at hf
   ·exact⟨_,by assumption⟩
   ·cases hf
  obtain⟨e,ht⟩:=ht;obtain⟨rfl,hs⟩:=tw (E:=E) (t:=t) (e:=e) h (by simp[Env.elem,ht]) ht;refine⟨rfl,λ{B g w u FK BY} R hu Mw K1=> ?_⟩;obtain⟨v,h1,h2⟩:=hs (w:=w) hu.2 Mw K1;exact⟨v,g,h1,Le.refl g,R,h2⟩
 ·rename_i id gen
  have ht:∃e,E.P.underlying t=some (.slice e):=by
   unfold Env.fit at hf;split at hf
   ·simp[Cell.isStr]at hf
   ·exact⟨_,by assumption⟩
   ·cases hf
  obtain⟨e,ht⟩:=ht;simp only[AM.run]at h;split at h
  ·rename_i g0 τ deep xs heq;obtain⟨hb,h'⟩:=bm h;obtain rfl:=beq_eq hb;simp only[AM.run]at h';obtain⟨rfl,hs⟩:=tw (E:=E) (t:=t) (e:=e) h' (by simp[Env.elem,ht]) ht;refine⟨rfl,λ{B g w u FK BY} R hu Mw K1=> ?_⟩;obtain⟨g',l,R'⟩:=R.EZ heq;have hP:Rc _ _ _ _:=R'.eD _ _ (aE _ _ _);rw[show g'.cv id g0=g.cv id g0 from l.le.cv _ _ (gN R heq),<-hu.2.1]at hP;obtain⟨v,h1,h2⟩:=hs (w:=w) hP (Ud l.le Mw) (Ud l.le K1);exact⟨v,g',h1,l.le,R',h2⟩
  ·rename_i g0 τ xs heq;obtain⟨hb,h'⟩:=bm h;obtain rfl:=beq_eq hb;obtain⟨rfl,hs⟩:=tw (E:=E) (t:=t) (e:=e) h' (by simp[Env.elem,ht]) ht;refine⟨rfl,λ{B g w u FK BY} R hu Mw K1=> ?_⟩;have hP:Rc _ _ _ _:=R.eD _ _ heq;rw[<-hu.2.1]at hP;obtain⟨v,h1,h2⟩:=hs (w:=w) hP Mw K1;exact⟨v,g,h1,Le.refl g,R,h2⟩
  ·cases h
 ·cases h
theorem F6 {E:Env}{t:TypeId}{hi:Option Val}{d id gen:Nat}{s s':St}{sl:Slot}(h:(Ia d id gen ((E.elem t).bind E.sizeOf) hi).run s=some (sl,s'))(hf:E.fit t (.own id gen)=true):
  s'.env=s.env/\∀{B:Base} {g:Gh} {w:World} {u:Value} {FK BY:Option Value},HRel B g s.hp w->bu g (.own id gen) u->FK=none->((hi=none/\BY=none)\/∃v' u,hi=some v'/\BY=some u/\ed g v' u)->
   ∃v g',(Instr.sliceAt t u FK BY none).run E.P w= .ok v w/\Le g g'/\HRel B g' s'.hp w/\di g' sl v:=by
 have ht:∃e,E.P.underlying t=some (.slice e):=by
  unfold Env.fit at hf;split at hf
  ·simp[Cell.isStr]at hf
  ·exact⟨_,by assumption⟩
  ·cases hf
 obtain⟨e,ht⟩:=ht;simp only[Ia,AM.run]at h;split at h
 ·rename_i g0 τ dp xs heq;obtain⟨hb,h1⟩:=bm h;simp only[aC6,aH3]at hb;obtain⟨⟨b1,b2⟩,b3⟩:=hb;obtain rfl:=beq_eq b1
  have hd:d≠id:=λe=>by subst e;rw[Nat.beq_refl]at b3;cases b3
  split at h1
  ·rename_i n lh;obtain⟨hn,h2⟩:=bm h1;obtain rfl:=beq_eq hn;obtain⟨hh,t1,h3,h4⟩:=AM.af h2;obtain⟨rfl,k2⟩:=tu h3;obtain⟨Pg,h5⟩:=lV h4;obtain⟨gd,t2,h6,h7⟩:=AM.af h5;obtain⟨rfl,_⟩:=Ag h6;simp only[AM.run,aG1,aH2]at h7;obtain⟨rfl,rfl⟩:=h7;refine⟨rfl,λ{B g w u FK BY} R hu Mw K1=> ?_⟩;subst Mw;have YP:=z6 R h6;subst YP;have R9:=Pg;simp only[bounds,aC6,aC4]at R9;have kM:=hu.2.1;have Tx:(Go.sizeOf e).run E.P w= .ok τ.size w:=run_sizeOf (by simpa[Env.elem,ht]using lh) w
   have aB1:(hi=none/\BY=none/\hh=(xs.length:Int))\/(∃k,BY=some (.int k hh)):=by
    rcases k2 with⟨rfl,rfl⟩|⟨k,rfl⟩
    ·rcases K1 with⟨_,rfl⟩|⟨v',u,e,_⟩
     ·exact .inl ⟨rfl,rfl,rfl⟩
     ·cases e
    ·rcases K1 with⟨e,rfl⟩|⟨v',u,e,rfl,hv⟩
     ·cases e
     ·injection e with e;subst e
      exact .inr ⟨k,by rw[gZ hv]⟩
   have Gr:=λcap (hc:xs.length<=cap)=>zd (P:=E.P) (w:=w) (isSlice:=true) (cap:=cap) (lo:=none) (hi:=BY) Pg hc (.inl ⟨rfl,rfl⟩) (by
    rcases aB1 with⟨_,a,b⟩|⟨k,a⟩
    ·exact .inl ⟨a,b⟩
    ·exact .inr ⟨k,a⟩)
   rcases R.eD _ _ heq with⟨o1,o2⟩|⟨b,cap,arr,ty,o1,o2,o3,o4,o5,o6,o7⟩
   ·subst o2;rw[o1]at kM
    have h0:hh=0:=by simp at R9;omega
    subst h0;obtain⟨l,R'⟩:=R.named (id:=d) (u:= .slice none 0 0) (o':= .own (g.top d) τ true []) rfl (.inl ⟨by simp[Gh.name],rfl⟩)
    have R2:HRel B (g.name d (g.top d) (.slice none 0 0)) ((id, .dead g0)::(d, .own (g.top d) τ true (List.take (Int.toNat 0) ([]:List τ.den)))::t2.hp) w:=by
     refine HRel.put (o:= .own g0 τ dp []) R' ?_ rfl trivial;rw[ay _ _ hd];exact heq
    refine⟨.slice none 0 0,_, ?_,l.le,R2,⟨by simp[Gh.name],by simp[Gh.name],rfl⟩⟩;have:=Gr 0 (aE5 _);simp only[Instr.sliceAt,Instr.slice,Sem.run_bind,run_underlying ht,Result.andThen_ok,kM,aC5]at this⊢;simp only[this,Tx,Result.andThen_ok];simp[sliced]
   ·rw[o1]at kM;unfold dJ at o7;rw[b2]at o7;simp only[aE6,aD0,aG2,aH6]at o7
    have hlen:(xs.take hh.toNat).length=hh.toNat:=by simp;omega
    let g':Gh:={g with top:=λi=>if i=d then g.top d+1 else g.top i,cv:=λi k=>if i=d/\k=g.top d then .slice (some ⟨b,0,none⟩) hh.toNat cap else g.cv i k,dj:=λx=>if x=b then some (d+1)else g.dj x}
    have hle:Le g g':=by
     refine⟨λ_ _ h=>h,λj=> ?_,λj k hk=> ?_⟩
     ·show g.top j<=if j=d then g.top d+1 else g.top j
      split
      ·rename_i e;subst e;omega
      ·exact aE5 _
     ·show(if j=d/\k=g.top d then _ else g.cv j k)=g.cv j k;rw[aF4];rintro⟨rfl,rfl⟩;omega
    have l6:∀x,x≠b->g'.dj x=g.dj x:=λx hx=>by simp[g',hx]
    have newObj:mZ g' w d (.own (g.top d) τ true (xs.take hh.toNat)):=by
     refine .inr ⟨b,cap,arr,ty,by simp[g',hlen],by simp[g'],o3,o4,by omega,o6, ?_⟩;unfold dJ;rw[b2];simp only[aE6,aD0,aG2,aH6];intro i hi
     have qX:i<xs.length:=by rw[hlen]at hi;omega
     have e1:(xs.take hh.toNat)[i]=xs[i]:=(by simp);rw[e1];exact o7 i qX
    have R2:HRel B g' ((d, .own (g.top d) τ true (xs.take hh.toNat))::(id, .dead g0)::t2.hp) w:=by
     refine⟨λj=> ?_,λj oj hj=> ?_,λx L hx=> ?_,λx L hx=> ?_,λx hx=> ?_,R.jo,λx hx hl hi=> ?_,R.size,R.os,R.tape,R.output,R.fix⟩
     ·show(if j=d then g.top d+1 else g.top j)=_
      by_cases e2:d=j
      ·subst e2;rw[aE,aG3 rfl];rfl
      ·rw[ay _ _ e2,aF4 (Ne.symm e2)]
       by_cases e1:id=j
       ·subst e1;rw[aE,R.top id,heq];rfl
       ·rw[ay _ _ e1];exact R.top j
     ·by_cases e2:d=j
      ·subst e2;rw[aE]at hj;injection hj with hj;subst hj;exact newObj
      ·rw[ay _ _ e2]at hj
       by_cases e1:id=j
       ·subst e1;rw[aE]at hj;injection hj with hj;subst hj;trivial
       ·rw[ay _ _ e1]at hj;refine(R.eD j oj hj).tr hle (λx hx=> ?_) rfl (gN R hj)
        have:x≠b:=λe=>by subst e;rw[o2]at hx;simp at hx;exact e1 hx
        exact⟨(l6 x this).trans hx,rfl,rfl⟩
     ·obtain⟨a1,a2,a3⟩:=R.aD x L hx
      have:x≠b:=λe=>by subst e;rw[o2]at a1;cases a1
      exact⟨(l6 x this).trans a1,a2,a3⟩
     ·obtain⟨a1,a2⟩:=R.ep x L hx;refine⟨?_,a2⟩
      by_cases e:x=b
      ·subst e;simp[g']
      ·rw[l6 x e];exact a1
     ·by_cases e:x=b
      ·subst e;exact R.dQ x (by rw[o2];simp)
      ·rw[l6 x e]at hx;exact R.dQ x hx
     ·obtain⟨f1,f2,f3⟩:=R.frame x hx hl hi
      have:x≠b:=λe=>by subst e;rw[o2]at f1;cases f1
      exact⟨(l6 x this).trans f1,f2,f3⟩
    have R3:HRel B g' ((id, .dead g0)::(d, .own (g.top d) τ true (xs.take hh.toNat))::t2.hp) w:=R2.UL λi=>by
     by_cases e1:id=i
     ·subst e1;rw[aE,ay _ _ hd,aE]
     ·by_cases e2:d=i
      ·subst e2;rw[aE,ay _ _ e1,aE]
      ·rw[ay _ _ e1,ay _ _ e2,ay _ _ e2,ay _ _ e1]
    refine⟨.slice (some ⟨b,0,none⟩) hh.toNat cap,g', ?_,hle,R3,⟨by simp[g'],by simp[g'],rfl⟩⟩;have:=Gr cap o5;simp only[Instr.sliceAt,Instr.slice,Sem.run_bind,run_underlying ht,Result.andThen_ok,kM]at this⊢;simp only[this,Tx,Result.andThen_ok];simp[sliced,Am]
  ·cases h1
 ·cases h
theorem I3 {E:Env}{t:TypeId}{x:Operand}{lo hi:Option Operand}{s s':St}{sl:Slot}{d:Nat}(h:(eC E d (.slice t x lo hi none)).run s=some (sl,s')):Yld E (.slice t x lo hi none) s sl s':=by
 obtain⟨v,t1,h1,h2⟩:=AM.af h;obtain⟨c,t2,h3,h4⟩:=AM.af h2;obtain⟨an2,t3,h5,h6⟩:=AM.af h4;obtain⟨qX,t4,h7,h8⟩:=AM.af h6;obtain⟨hf,h9⟩:=bm h8;obtain⟨rfl,r1⟩:=cD h1;obtain⟨rfl,rfl⟩:=uy h3;obtain⟨rfl,r2⟩:=Ez h5;obtain⟨rfl,r3⟩:=Ez h7
 obtain⟨he,hs⟩:s'.env=_/\∀{B:Base} {g:Gh} {w:World} {u:Value} {FK BY:Option Value},HRel B g _ w->bu g c u->((an2=none/\FK=none)\/∃v' u,an2=some v'/\FK=some u/\ed g v' u)->((qX=none/\BY=none)\/∃v' u,qX=some v'/\BY=some u/\ed g v' u)->
   ∃v g',(Instr.sliceAt t u FK BY none).run E.P w= .ok v w/\Le g g'/\HRel B g' s'.hp w/\di g' sl v:=by
  split at h9
  ·obtain⟨a,b⟩:=F6 h9 hf;refine⟨a,λ{B g w u FK BY} R hu Mw K1=>b R hu ?_ K1⟩
   rcases Mw with⟨_,e⟩|⟨v',u,e,_⟩
   ·exact e
   ·cases e
  ·exact F8 h9 hf
 refine⟨he,λo ho B g a w R V=> ?_⟩;obtain⟨v,g',k1,k2,k3,k4⟩:=hs R (r1 V) (r2 V) (r3 V);refine⟨v,w,g', ?_,k2,k3,k4⟩;unfold execOp;rw[ho]
 apply dh
 exact k1
theorem yo:∀(ns:List Int)(s:ByteArray),bytesOf (ns.foldl (λr n=>r.push (UInt8.ofNat n.toNat)) s)=bytesOf s++ns.map byte
 |[],s=>by simp
 |n::ns,s=>by
  rw[List.foldl_cons,yo ns]
  have:bytesOf (s.push (UInt8.ofNat n.toNat))=bytesOf s++[byte n]:=by
   unfold bytesOf byte;rw[ByteArray.data_push];simp
  rw[this];simp
theorem MW {P:Program}{w:World}{b o:Nat}{xs:List Int}{cap:Nat}(h:∀i (hi:i<xs.length),w.cell? ⟨b,o+i,none⟩=some (.int .u8 xs[i])):
  ∃st,(Conv.bytesToString (.slice (some ⟨b,o,none⟩) xs.length cap)).run P w= .ok (.string st) w/\bytesOf st=xs.map byte:=by
 have hl:=run_loadCells_list (P:=P) w ⟨b,o,none⟩ (xs.map (Value.int .u8)) (λj v hj=>by
  rw[List.getElem?_map]at hj;simp only[aF1]at hj;obtain⟨x,hx,rfl⟩:=hj;obtain⟨hj,rfl⟩:=List.getElem?_eq_some_iff.1 hx;rw[Addr.add_lit]
  exact h j hj)
 rw[List.length_map]at hl;refine⟨_,run_bytesToString w ⟨b,o,none⟩ xs.length cap xs (by simpa using hl), ?_⟩;rw[yo];simp[bytesOf]
theorem Bs {r:Rd}{w:World}{xs:List Int}{b o:Nat}{arr:Array Value}{ty:TypeId}{fr:Nat×Nat}(ha:w.heap[b]?=some (.cells arr ty fr))(h:Els r (.int .u8) xs arr.toList o):
  ∀i (hi:i<xs.length),w.cell? ⟨b,o+i,none⟩=some (.int .u8 xs[i]):=by
 intro i hi;have h1:_=_:=h i hi
 have:=ia ha (o:=o+i) 1 0 (.int .u8 xs[i]) (by
  have h1:List.take 1 (List.drop (o+i*1) arr.toList)=[Value.int .u8 xs[i]]:=h1;rw[Nat.mul_one]at h1
  rw[h1];rfl)
 simpa using this
theorem J4 {P:Program}{g:Gh}{B:Base}{hp:List (Nat×Obj)}{w:World}(R:HRel B g hp w){xs:List Int}{u:Value}(h:Rc g.aD (.sl (.int .u8)) xs [u]):
  ∃st,(Conv.bytesToString u).run P w= .ok (.string st) w/\bytesOf st=xs.map byte:=by
 obtain⟨A,c,e,hc,he⟩:=h
 injection e with e
 subst e
 cases A with
 |none=>
  rcases he with he|⟨b,o,L,e,_⟩
  ·have he:xs=[]:=he;subst he;exact⟨.empty,by simp[Conv.bytesToString],rfl⟩
  ·cases e
 |some a=>
  rcases he with he|⟨b,o,L,e,hL,hi⟩
  ·have he:xs=[]:=he;subst he;have hl:=run_loadCells_list (P:=P) w a [] (λj v hj=>by simp at hj);exact⟨_,run_bytesToString w a 0 c [] hl,rfl⟩
  ·injection e with e
   subst e;obtain⟨_,_,arr,ty,fr,k1,k2⟩:=R.aD _ _ hL;subst k2;exact MW (Bs k1 hi)
theorem FY {E:Env}{src dst:TypeId}{x:Operand}{s s':St}{sl:Slot}{d:Nat}(h:(eC E d (.convert src dst x)).run s=some (sl,s')):Yld E (.convert src dst x) s sl s':=by
 obtain⟨v,t1,h1,h2⟩:=AM.af h;obtain⟨rfl,r1⟩:=cD h1;unfold convert at h2;split at h2
 ·rename_i k0 k hs hd;obtain⟨n,t2,h3,h4⟩:=AM.af h2;obtain⟨⟨k',rfl⟩,rfl⟩:=kP h3;obtain⟨rfl,rfl⟩:=ah h4
  refine .still λo ho B g a w R V=>⟨.int k (k.wrap n), ?_,vl g _ _⟩
  unfold execOp;rw[ho]
  apply dh
  rw[gZ (r1 V)];simp[Go.convert,run_underlying hs,run_underlying hd,Conv.intToInt]
 ·rename_i e hs hd;split at h2
  ·rename_i c he
   have fin:∀{xs:List Int},sl=ws (xs.map byte)->s'=t1->(∀{B:Base} {g:Gh} {w:World} {u:Value},HRel B g t1.hp w->bu g c u->(∃A n c,u= .slice A n c)/\∃st,(Conv.bytesToString u).run E.P w= .ok (.string st) w/\bytesOf st=xs.map byte)->
     Yld E (.convert src dst x) t1 sl s':=by
    rintro xs rfl rfl hf
    refine .still λo ho B g a w R V=> ?_
    obtain⟨⟨A,n,c,e⟩,st,k1,k2⟩:=hf R (r1 V);refine⟨.string st, ?_,by rw[<-k2];exact Mj g st⟩;unfold execOp;rw[ho]
    apply dh
    rw[e]at k1⊢;rw[run_convert_bytes_string w src dst _ A n c hs he hd];exact k1
   split at h2
   ·obtain⟨rfl,rfl⟩:=ah h2
    refine fin rfl rfl λ{B g w u} R hu=>⟨?_,J4 R hu.2⟩
    obtain⟨_,A,c,e,_⟩:=hu
    injection e with e
    exact⟨A,_,c,e⟩
   ·obtain⟨rfl,rfl⟩:=ah h2
    refine fin (xs:=[]) rfl rfl λ{B g w u} R hu=> ?_
    have hu:_=_:=hu;subst hu;exact⟨⟨_,_,_,rfl⟩, .empty,by simp[Conv.bytesToString],rfl⟩
   ·rename_i id gen;simp only[AM.run]at h2;split at h2
    ·rename_i g0 deep xs heq;obtain⟨hb,h'⟩:=bm h2;obtain rfl:=beq_eq hb;obtain⟨rfl,rfl⟩:=ah h'
     refine fin rfl rfl λ{B g w u} R hu=> ?_
     rcases R.eD _ _ heq with⟨k1,k2⟩|⟨b,cap,arr,ty,k1,k2,k3,k4,k5,k6,k7⟩
     ·have k2:xs=[]:=k2;subst k2;rw[hu.2.1,k1];exact⟨⟨_,_,_,rfl⟩, .empty,by simp[Conv.bytesToString],rfl⟩
     ·rw[hu.2.1,k1];refine⟨⟨_,_,_,rfl⟩,MW (Bs (r:=g.aD) k4 ?_)⟩;unfold dJ at k7;rw[aF4 (by simp[Ty.flat])]at k7;exact k7
    ·rename_i g0 xs heq;obtain⟨hb,h'⟩:=bm h2;obtain rfl:=beq_eq hb;obtain⟨rfl,rfl⟩:=ah h'
     refine fin rfl rfl λ{B g w u} R hu=> ?_
     have hP:Rc _ _ _ _:=R.eD _ _ heq;rw[<-hu.2.1]at hP;refine⟨?_,J4 R hP⟩;obtain⟨A,c,e,_⟩:=hP
     injection e with e
     exact⟨A,_,c,e⟩
    ·cases h2
   ·cases h2
  ·cases h2
 ·rename_i e hs hd;split at h2
  ·rename_i l he;obtain⟨rfl,rfl⟩:=ah h2;refine⟨rfl,λo ho B g a w R V=> ?_⟩;obtain⟨st,e1,mB⟩:=ox (r1 V)
   have hl:List.length l=st.size:=by rw[mB];exact eN st
   have hT:Turned w (Lib.bytesWorld w e st) w.heap.size:=by
    refine⟨λx hx=> ?_,by rw[Lib.bytesWorld_size];omega,by rw[Lib.bytesWorld_size];omega,rfl,rfl,rfl⟩
    rcases Nat.lt_or_ge x w.heap.size with h|h
    ·exact Lib.bytesWorld_at_old w e st x h
    ·rw[Array.getElem?_eq_none (by rw[Lib.bytesWorld_size];omega),Array.getElem?_eq_none h]
   obtain⟨g',hle,hi,R'⟩:=R.UW hT (Lib.bytesWorld_at_new w e st);refine⟨.slice (some ⟨w.heap.size,0,none⟩) st.size (grownCap w st.size 0 e),_,g', ?_,hle,R', ?_⟩
   ·unfold execOp;rw[ho]
    apply dh
    rw[e1];exact Lib.run_convert_string_bytes w _ _ e st hs hd he
   ·refine⟨rfl,some ⟨w.heap.size,0,none⟩,_,by rw[<-hl], ?_, .inr ⟨w.heap.size,0,_,rfl,hi,λi qX=> ?_⟩⟩
    ·rw[hl];exact grownCap_ge w st.size 0 e
    ·have ai6:i<st.data.toList.length:=by
      have:i<st.size:=by rw[<-hl];exact qX
      rw[Array.length_toList];exact this
     show List.take 1 (List.drop (0+i*1) (Lib.bytesCells w e st).toList)=[Value.int .u8 l[i]];rw[Nat.zero_add,Nat.mul_one];unfold Lib.bytesCells;rw[Array.toList_append,Array.toList_map,List.drop_append_of_le_length (by simp;omega)];have hlen:i<(st.data.toList.map λb=>Value.int .u8 b.toNat).length:=(by simpa using ai6);rw[List.drop_eq_getElem_cons hlen];simp only[List.cons_append,List.take_succ_cons,List.take_zero,List.getElem_map]
     congr 2
     have:l[i]=(bytesOf st)[i]'(by rw[<-mB];exact qX):=(by simp only[mB]);rw[this];simp[bytesOf]
  ·cases h2
 ·cases h2
theorem xY {E:Env}{t:TypeId}{x:Operand}{s s':St}{sl:Slot}{d:Nat}(h:(eC E d (.makeInterface t x)).run s=some (sl,s')):Yld E (.makeInterface t x) s sl s':=by
 obtain⟨v,t1,h1,h2⟩:=AM.af h;obtain⟨rfl,r1⟩:=cD h1;split at h2
 ·cases h2
 ·rename_i u hu ht;obtain⟨rfl,rfl⟩:=ah h2
  refine .still λo ho B g a w R V=>⟨.iface t (a.eval x), ?_, .inr ⟨rfl,_,_,rfl⟩⟩
  unfold execOp;rw[ho]
  apply dh
  simp only[Instr.makeInterface,run_underlying ht,Sem.run_bind,Result.andThen_ok]
  cases u<;>first|rfl|(exact absurd rfl (hu _))
 ·cases h2
end Go.Abs
end
