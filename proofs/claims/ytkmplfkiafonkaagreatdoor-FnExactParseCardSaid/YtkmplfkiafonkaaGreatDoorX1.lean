/- What is here: a deterministic evaluator of the model's code over plain data (lists, numbers), by the help of which each Go function is told as a Lean function. Definitions alone. -/
import Derived.Calls
import Derived.Orders
import Derived.WalkKit
import Derived.Laws.Tables
import Derived.Laws.MakeOwn
import Derived.Laws.BytesString
import Derived.Laws.Slices
import Derived.Lib.ConvBytes
set_option linter.unusedVariables false
set_option linter.unusedSimpArgs false
set_option maxRecDepth 100000
open Go.IntKind (i64 u64 u8)
section
namespace Go.Abs
theorem an6:∀{p:Prop}[inst:Decidable p],¬p→decide p=false:= @decide_eq_false
theorem an7.{u_1,u_2}:∀{α:Type u_1}{β:Type u_2}(a:α)(f:α→Option β),(some a).bind f=f a:= @Option.bind_some
theorem an8:∀{p:Prop}[inst:Decidable p],p→decide p=true:= @decide_eq_true
theorem an9.{u}:∀{α:Type u}{as bs:List α},(as++bs).length=as.length+bs.length:= @List.length_append
theorem ao0.{u}:∀{α:Type u}{a:α}{as:List α},(a::as).length=as.length+1:= @List.length_cons
theorem ao1:∀{p:Prop}[inst:Decidable p],(decide p=true)=p:= @decide_eq_true_eq
theorem ao2.{u}:∀{α:Type u},([]:List α).length=0:= @List.length_nil
theorem ao3:∀(a b:Bool),((a&&b)=true)=(a=true∧b=true):= @Bool.and_eq_true
theorem ao4.{u}:∀{α:Type u}(as bs cs:List α),as++bs++cs=as++(bs++cs):= @List.append_assoc
theorem ao5:∀{p:Prop}{x:Decidable p},decide p=false↔¬p:= @decide_eq_false_iff_not
theorem ao6:∀(b:Bool),(true&&b)=b:= @Bool.true_and
theorem ao7:∀(b:Bool),(b&&false)=false:= @Bool.and_false
theorem ao8.{u_1}:∀{α:Sort u_1}(a b:α),(bif false then a else b)=b:= @cond_false
theorem ao9:∀(b:Bool),(false&&b)=false:= @Bool.false_and
theorem ap0:∀(b:Bool),(false||b)=b:= @Bool.false_or
theorem ap1:∀(b:Bool),(b&&true)=b:= @Bool.and_true
theorem ap2:∀(b:Bool),(b||false)=b:= @Bool.or_false
theorem ap3.{u_1}:∀{α:Sort u_1}(a b:α),(bif true then a else b)=a:= @cond_true
theorem ap4:∀(b:Bool),(true||b)=true:= @Bool.true_or
theorem ap5:∀(b:Bool),(b||true)=true:= @Bool.or_true
theorem ap6.{u_1}:∀{α:Type u_1}(y:α){a:α}{l:List α},a∈l→a∈y::l:= @List.mem_cons_of_mem
theorem ap7.{u_1}:∀{α:Type u_1}{a:α}{l:List α},a∈a::l:= @List.mem_cons_self
theorem ap8.{u_1}:∀{α:Type u_1}{l:List α}{i:Nat}(h:i<l.length),l[i]?=some l[i]:= @List.getElem?_eq_getElem
theorem ap9.{u_1}:∀{α:Type u_1}{l:List α}{i:Nat}{a:α},l.getD i a=l[i]?.getD a:= @List.getD_eq_getElem?_getD
theorem aq0.{u_1,u_2,u_3}:∀{α:Type u_1}{γ:Sort u_2}{β:Type u_3}(f:α→γ)(g:β→γ)(x:α),Sum.elim f g (Sum.inl x)=f x:= @Sum.elim_inl
theorem aq1:∀(b:Bool),(b&&b)=b:= @Bool.and_self
theorem aq2:∀(n:Nat),n≤n:= @Nat.le_refl
theorem aq3:(!true)=false:= @Bool.not_true
theorem aq4:∀{n m:Nat},n.ble m=true→n≤m:= @Nat.le_of_ble_eq_true
theorem aq5:(!false)=true:= @Bool.not_false
theorem aq6.{u_1}:∀{α:Type u_1}{a:α}{s t:List α},a∈s++t↔a∈s∨a∈t:= @List.mem_append
theorem aq7.{u}:∀{α:Type u}(as:List α),as++[]=as:= @List.append_nil
theorem aq8.{u_1,u_2}:∀{α:Type u_1}{b:α}{α_1:Type u_2}{x:Option α_1}{f:α_1→α},Option.map f x=some b↔∃a,x=some a∧f a=b:= @Option.map_eq_some_iff
theorem aq9.{u_1,u_2,u_3}:∀{α:Type u_1}{γ:Sort u_2}{β:Type u_3}(f:α→γ)(g:β→γ)(x:β),Sum.elim f g (Sum.inr x)=g x:= @Sum.elim_inr
theorem ar0.{u}:∀{α:Type u}{b:α}(as:List α){bs:List α},b∈bs→b∈as++bs:= @List.mem_append_right
theorem ar1.{u}:∀{c:Prop}{h:Decidable c},¬c→∀{α:Sort u}{t e:α},(if c then t else e)=e:= @if_neg
theorem ar2.{u_1}:∀{α:Type u_1}{i:Nat}{l:List α},(List.take i l).length=Min.min i l.length:= @List.length_take
theorem ar3.{u}:∀{α:Type u}{a:α}{as:List α}(bs:List α),a∈as→a∈as++bs:= @List.mem_append_left
theorem ar4:∀{n m k:Nat},n<m→m≤k→n<k:= @Nat.lt_of_lt_of_le
theorem ar5.{u_1}:∀{α:Type u_1}{b:α}{l:List α}{a:α},a∈b::l↔a=b∨a∈l:= @List.mem_cons
theorem ar6:∀(b:Bool),(!!b)=b:= @Bool.not_not
theorem ar7:∀(a b:Bool),((a||b)=true)=(a=true∨b=true):= @Bool.or_eq_true
theorem ar8.{u}:∀{α:Type u}(val val_1:α),(some val=some val_1)=(val=val_1):= @Option.some.injEq
theorem ar9:(false=true)=False:= @Bool.false_eq_true
theorem as0.{u}:∀{c:Prop}{h:Decidable c},c→∀{α:Sort u}{t e:α},(if c then t else e)=t:= @if_pos
theorem as1.{u_1}:∀{α:Type u_1}{l:List α},l.length=0→l=[]:= @List.eq_nil_of_length_eq_zero
theorem as2.{u_1}:∀{α:Type u_1},([]:List α).Nodup:= @List.nodup_nil
theorem as3.{u_1}:∀{α:Type u_1}{i:Nat}{l:List α},(List.drop i l).length=l.length - i:= @List.length_drop
theorem as4.{u_1}:∀{α:Type u_1}{l:List α}{n:Nat}(h:n<l.length),l[n]∈l:= @List.getElem_mem
theorem as5:∀(n:Nat),0≤n:= @Nat.zero_le
theorem as6:∀{x y:Bool},(x&&y)=false↔x=false∨y=false:= @Bool.and_eq_false_iff
theorem as7.{u_1}:∀{α:Type u_1}{l₁ l₂:List α},(l₁++l₂).Nodup↔l₁.Nodup∧l₂.Nodup∧∀(a:α),a∈l₁→∀(b:α),b∈l₂→a≠b:= @List.nodup_append
theorem as8.{u_1,u_2}:∀{α:Type u_1}{b:α}{α_1:Type u_2}{x:Option α_1}{f:α_1→Option α},x.bind f=some b↔∃a,x=some a∧f a=some b:= @Option.bind_eq_some_iff
theorem as9.{u,v}:∀{α:Type u}{β:Type v}(fst:α)(snd:β)(fst_1:α)(snd_1:β),((fst,snd)=(fst_1,snd_1))=(fst=fst_1∧snd=snd_1):= @Prod.mk.injEq
theorem at0:∀(b:Bool),((!b)=true)=(b=false):= @Bool.not_eq_true'
theorem at3.{u_1}:∀{α:Sort u_1}{x:Decidable False}(t e:α),(if False then t else e)=e:= @if_false
abbrev LI:=List Int
end Go.Abs
namespace Go.Abs
inductive Ty where
 |int (k:IntKind)|bool|str|sl (e:Ty)|un|pr (a b:Ty)|cl
 deriving DecidableEq
@[reducible] def Ty.den:Ty→Type
 | .int _=>Int
 | .bool=>Bool
 | .str=>List Int
 | .sl e=>List e.den
 | .un=>Unit
 | .pr a b=>a.den×b.den
 | .cl=>List Int
def Ty.TE:(τ:Ty)→τ.den
 | .int _=>(0:Int)
 | .bool=>false
 | .str=>([]:List Int)
 | .sl _=>[]
 | .un=>()
 | .pr a b=>(a.TE,b.TE)
 | .cl=>([]:List Int)
def Ty.size:Ty→Nat
 | .un=>0
 | .pr a b=>a.size+b.size
 |_=>1
def Ty.flat:Ty→Bool
 | .sl _=>false
 | .cl=>false
 | .pr a b=>a.flat&&b.flat
 |_=>true
def Ty.one:Ty→Bool
 | .un=>false
 | .pr _ _=>false
 |_=>true
inductive Cell where
 |v (τ:Ty) (x:τ.den)
 |nil
 |own (id gen:Nat)
 |ptr (id gen off:Nat)
 |np
 |nf
 |fn (f:FuncId) (jr:List (Nat×Nat))
 |err (isNil:Bool)
inductive Val where
 |one (c:Cell)
 |agg (cs:List Cell)
inductive Slot where
 |val (v:Val)
 |ta (vs:List Val)
 |ea (src:Cell) (i:Int) (off sz:Nat)
 |fa (xs:List Int) (off:Nat)
 |ga (g:Nat)
 |un
 |sk
inductive Obj where
 |box (gen:Nat) (r:Nat×List Cell)
 |own (gen:Nat) (τ:Ty) (deep:Bool) (xs:List τ.den)
 |dC (gen:Nat) (τ:Ty) (xs:List τ.den)
 |Vl (gen:Nat) (xs:List Int)
 |dead (gen:Nat)
 |iu (gen:Nat) (r:Nat×List Cell)
 |hole (gen:Nat) (τ:Ty) (xs:List τ.den) (i:Int) (off d gd:Nat)
 |mp (gen:Nat) (τ:Ty) (xs:List (Int×τ.den))
 |s8 (gen:Nat) (xs:List Int) (a ag:Nat) (id bg off:Nat)
def Obj.gen:Obj→Nat
 | .box g _| .own g _ _ _| .dC g _ _| .Vl g _| .dead g| .iu g _| .s8 g _ _ _ _ _ _| .hole g _ _ _ _ _ _| .mp g _ _=>g
structure St where
 env:List (Nat×Slot)
 hp:List (Nat×Obj)
def look {β:Type}:List (Nat×β)→Nat→Option β
 |[],_=>none
 |(m,b)::r,n=>bif Nat.beq m n then some b else look r n
inductive AM (α:Type):Type where
 |ret (a:α)
 |br (b:Bool) (t e:AM α)
 |fail
 |uR (t:Nat) (k:Slot→AM α)
 |zU (t:Nat) (s:Slot) (k:AM α)
 |jQ (id:Nat) (k:Option Obj→AM α)
 |jY (id:Nat) (o:Obj) (k:AM α)
 |opt (c:Ty) (x:Option c.den) (k:c.den→AM α)
def AM.bind {α β:Type}:AM α→(α→AM β)→AM β
 | .ret a,f=>f a
 | .br b t e,f=> .br b (t.bind f) (e.bind f)
 | .fail,_=> .fail
 | .uR t k,f=> .uR t fun s=>(k s).bind f
 | .zU t s k,f=> .zU t s (k.bind f)
 | .jQ i k,f=> .jQ i fun o=>(k o).bind f
 | .jY i o k,f=> .jY i o (k.bind f)
 | .opt c x k,f=> .opt c x fun d=>(k d).bind f
instance:Monad AM where
 pure:=AM.ret
 bind:=AM.bind
def AM.run {α:Type}:AM α→St→Option (α×St)
 | .ret a,s=>some (a,s)
 | .br b t e,s=>bif b then t.run s else e.run s
 | .fail,_=>none
 | .uR t k,s=>match look s.env t with
  |some x=>(k x).run s
  |none=>none
 | .zU t x k,s=>k.run {s with env:=(t,x)::s.env}
 | .jQ i k,s=>(k (look s.hp i)).run s
 | .jY i o k,s=>k.run {s with hp:=(i,o)::s.hp}
 | .opt _ x k,s=>match x with
  |some d=>(k d).run s
  |none=>none
@[irreducible] def brk {ρ:Type}(b:Bool)(t e:Option ρ):Option ρ:=bif b then t else e
theorem dX {ρ:Type}(b:Bool)(t e:Option ρ):brk b t e=bif b then t else e:=by unfold brk;rfl
def AM.exec {α ρ:Type}:AM α→St→(α→St→Option ρ)→Option ρ
 | .ret a,s,K=>K a s
 | .br b t e,s,K=>brk b (t.exec s K) (e.exec s K)
 | .fail,_,_=>none
 | .uR t k,s,K=>match look s.env t with
  |some x=>(k x).exec s K
  |none=>none
 | .zU t x k,s,K=>k.exec {s with env:=(t,x)::s.env} K
 | .jQ i k,s,K=>(k (look s.hp i)).exec s K
 | .jY i o k,s,K=>k.exec {s with hp:=(i,o)::s.hp} K
 | .opt _ x k,s,K=>x.bind fun d=>(k d).exec s K
theorem AM.N4 {α ρ:Type}(m:AM α):∀(s:St)(K:α→St→Option ρ),m.exec s K=(m.run s).bind fun p=>K p.1 p.2:=by
 induction m with
 |ret a=>intro s K;rfl
 |br b t e Qb PO=>intro s K;cases b<;>simp[exec,run,Qb,PO,dX]
 |fail=>intro s K;rfl
 |uR t k ih=>intro s K;simp only[exec,run];cases look s.env t<;>simp[ih]
 |zU t x k ih=>intro s K;simp[exec,run,ih]
 |jQ i k ih=>intro s K;simp[exec,run,ih]
 |jY i o k ih=>intro s K;simp[exec,run,ih]
 |opt c x k ih=>intro s K;cases x<;>simp[exec,run,ih]
abbrev PT:=Nat×List (Nat×Nat×Nat)
def Pp:List (Nat×Nat×Nat)→Nat→Nat→Nat→Bool
 |[],_,_,_=>false
 |t::r,a,b,c=>(Nat.beq t.1 a&&Nat.beq t.2.1 b&&Nat.beq t.2.2 c)||Pp r a b c
inductive Sp where
 |un
 |pr (a b:Sp)
 |dC (τ:Ty)
 |own (τ:Ty) (deep:Bool)
 |lnd (τ:Ty) (deep:Bool)
 |ptr (whole:Bool) (ty:PT) (s:Sp)
 |yK (ok:List (Nat×Nat×Nat))
 |s8
 |err
 |np
 |slf (f m:Nat)
@[reducible] def Sp.ty:Sp→Ty
 | .un=> .un
 | .pr a b=> .pr a.ty b.ty
 | .dC τ=>τ
 | .own τ _=> .sl τ
 | .lnd τ _=> .sl τ
 | .ptr _ _ s=>s.ty
 | .yK _=> .str
 | .s8=> .str
 | .err=> .bool
 | .np=> .un
 | .slf _ _=> .un
@[reducible] def Sp.size:Sp→Nat
 | .un=>0
 | .pr a b=>a.size+b.size
 | .s8=>2
 |_=>1
@[reducible] def Sp.oA:Sp→Ty
 | .pr a b=> .pr a.oA b.oA
 | .ptr _ _ s=>s.ty
 | .lnd τ _=> .sl τ
 |_=> .un
inductive VSp where
 |one (s:Sp)
 |agg (s:Sp)
def uZ:List VSp→Option (Nat×Nat)
 |[]=>none
 |[.one (.slf f m)]=>some (f,m)
 |_::r=>uZ r
def DV (as:List VSp):Option (Nat×List Nat):=match uZ as with
 |some p=>some (p.1,(List.range as.length).drop p.2)
 |none=>none
@[reducible] def VSp.sp:VSp→Sp
 | .one s=>s
 | .agg s=>s
@[reducible] def b9:List VSp→Ty
 |[]=> .un
 |a::r=> .pr a.sp.ty (b9 r)
@[reducible] def oN:List VSp→Ty
 |[]=> .un
 |a::r=> .pr a.sp.oA (oN r)
inductive RSp where
 |val (v:VSp)
 |ta (vs:List VSp)
 |none
@[reducible] def RSp.ty:RSp→Ty
 | .val v=>v.sp.ty
 | .ta vs=>b9 vs
 | .none=> .un
structure Sig where
 args:List VSp
 res:RSp
@[reducible] def Sig.dom (s:Sig):Ty:=b9 s.args
@[reducible] def Sig.cod (s:Sig):Ty:= .pr s.res.ty (oN s.args)
structure Callee where
 sig:Sig
 F:sig.dom.den→Option sig.cod.den
end Go.Abs
end

section
namespace Go.Abs
structure Env where
 P:Program
 callee:FuncId→Option Callee
 fb:Nat→Option (List Cell)
 cl:TypeId
 nt:Nat
 mS:List Nat
 nest:Bool:=false
 trim:Bool:=false
 ini:Bool:=false
 slf:Option (FuncId×List Nat):=none
def lim:Nat:=1099511627776
def FT:Nat:=100000
def fits (n:Nat):Bool:=Nat.ble n lim
namespace Env
variable(E:Env)
def ID (f:TypeId→Option Ty):List Field→Option Ty
 |[]=>some .un
 |x::r=>(f x.type).bind fun a=>(ID f r).map (.pr a)
def tyN:Nat→TypeId→Option Ty
 |0,_=>none
 |k+1,t=>match E.P.underlying t with
  |some (.int k)=>some (.int k)
  |some .bool=>some .bool
  |some .string=>some .str
  |some (.slice e)=>(tyN k e).map .sl
  |some (.struct fs)=>ID (tyN k) fs.toList
  |some (.pointer _)=>bif Nat.beq t E.cl then some .cl else none
  |_=>none
def ty (t:TypeId):AM Ty:=match E.tyN 6 t with
 |some τ=> .ret τ
 |none=> .fail
def isAgg (t:TypeId):Option Bool:=match E.P.underlying t with
 |some (.struct _)|some (.array _ _)=>some true
 |some _=>some false
 |none=>none
def sizeOf (t:TypeId):Option Nat:=(E.P.info? t).map (·.size)
def field (s:TypeId)(i:Nat):Option Field:=match E.P.underlying s with
 |some (.struct fs)=>fs[i]?
 |_=>none
def elem (t:TypeId):Option TypeId:=match E.P.underlying t with
 |some (.slice e)=>some e
 |_=>none
def I6 (e:TypeId)(τ:Ty):Bool:=match E.P.info? e with
 |some i=>Nat.beq i.size τ.size&&Nat.ble i.bytes 128&&Nat.ble τ.size 64&&match i.zero with
  |some z=>Nat.beq z.cells.toList.length τ.size
  |none=>false
 |none=>false
def sized (t:TypeId):Bool:=match E.P.underlying t with
 |some (.struct fs)=>fs.toList.all fun f=>(E.P.info? f.type).isSome
 |_=>false
end Env
def im {α:Type}:Option α→AM α
 |some a=> .ret a
 |none=> .fail
def bytesOf (s:ByteArray):List Int:=s.data.toList.map fun b=>(b.toNat:Int)
def AP:Value→Option Cell
 | .int k n=>some (.v (.int k) n)
 | .bool b=>some (.v .bool b)
 | .string s=>some (.v .str (bytesOf s))
 | .slice none 0 0=>some .nil
 | .pointer none=>some .np
 | .nilIface=>some (.err true)
 | .nilFunc=>some .nf
 |_=>none
def rJ:List Value→Option (List Cell)
 |[]=>some []
 |x::r=>(AP x).bind fun c=>(rJ r).map (c:: ·)
def wu:Value→Option Val
 | .agg cs=>(rJ cs.toList).map .agg
 |x=>(AP x).map .one
def Env.zeroCells (E:Env)(t:TypeId):Option (List Cell):=((E.P.info? t).bind (·.zero)).bind fun z=>rJ z.cells.toList
def ev:Operand→AM Slot
 | .tmp t=> .uR t .ret
 | .const x=>match wu x with
  |some c=> .ret (.val c)
  |none=> .fail
 | .global g=> .ret (.ga g)
 | .func f=> .ret (.val (.one (.fn f [])))
def I4:Slot→AM Val
 | .val v=> .ret v
 |_=> .fail
def evV (x:Operand):AM Val:=(ev x).bind I4
def Val.cells:Val→List Cell
 | .one c=>[c]
 | .agg cs=>cs
def BA (agg:Bool)(cs:List Cell):AM Val:=
 bif agg then .ret (.agg cs)else match cs with
  |[c]=> .ret (.one c)
  |_=> .fail
def asInt:Val→AM Int
 | .one (.v (.int _) n)=> .ret n
 |_=> .fail
def asBool:Val→AM Bool
 | .one (.v .bool b)=> .ret b
 |_=> .fail
def tR {τ τ':Ty}(x:List τ.den):AM (List τ'.den):=if h:τ=τ' then .ret (h ▸ x)else .fail
def chk (b:Bool):AM Unit:= .br b (.ret ()) .fail
def MV:Nat→Cell→AM (List Int)
 |_, .np=> .ret []
 |_, .v .cl xs=> .ret xs
 |k+1, .ptr id gen 0=> .jQ id fun
  |some (.box g (_,[.v (.int .i64) x,c]))=>bif Nat.beq g gen&&Nat.blt id FT then(MV k c).bind fun xs=> .jQ id fun
    |some (.box _ _)=> .jY id (.Vl g (x::xs)) (.ret (x::xs:List Int))
    |_=> .fail
   else .fail
  |some (.Vl g xs)=>bif Nat.beq g gen then .ret xs else .fail
  |_=> .fail
 |_,_=> .fail
def datum:(τ:Ty)→Cell→AM τ.den
 | .int k, .v (.int k') x=>if k=k' then .ret x else .fail
 | .bool, .v .bool b=> .ret b
 | .str, .v .str l=> .ret l
 | .sl e, .v (.sl e') xs=>tR (τ':=e) xs
 | .sl _, .nil=> .ret []
 | .sl e, .own id gen=> .jQ id fun
  |some (.own g τ _ xs)=>bif Nat.beq g gen then .jY id (.dC g τ xs) (tR (τ':=e) xs)else .fail
  |some (.dC g _ xs)=>bif Nat.beq g gen then tR (τ':=e) xs else .fail
  |_=> .fail
 | .cl,c=>MV 4 c
 |_,_=> .fail
def I7:(τ:Ty)→Cell→AM τ.den
 | .sl e, .own id gen=> .jQ id fun
  |some (.own g τ _ xs)=>bif Nat.beq g gen&&τ.flat then .jY id (.dead g) (tR (τ':=e) xs)else .fail
  |_=> .fail
 | .sl e, .nil=>bif e.flat then .ret []else .fail
 | .int k, .v (.int k') x=>if k=k' then .ret x else .fail
 | .bool, .v .bool b=> .ret b
 | .str, .v .str l=> .ret l
 |_,_=> .fail
def xk:List Cell→Bool
 |[]=>true
 | .v (.sl _) _::_=>false
 | .v .cl _::_=>false
 | .ptr _ _ _::_=>false
 |_::r=>xk r
def pack (mv:Bool):(τ:Ty)→List Cell→AM (τ.den×List Cell)
 | .un,cs=> .ret ((),cs)
 | .pr a b,cs=>(pack mv a cs).bind fun p=>(pack mv b p.2).bind fun q=> .ret ((p.1,q.1),q.2)
 |τ,c::cs=>(bif mv then I7 τ c else datum τ c).bind fun x=> .ret (x,cs)
 |_,_=> .fail
def unpack:(τ:Ty)→τ.den→List Cell
 | .un,_=>[]
 | .pr a b,x=>unpack a x.1++unpack b x.2
 |τ,x=>[.v τ x]
def fG:(τ:Ty)→τ.den→Nat→Cell→Option τ.den
 | .pr a b,x,off,c=>bif Nat.blt off a.size then(fG a x.1 off c).map fun y=>(y,x.2)else(fG b x.2 (off - a.size) c).map fun y=>(x.1,y)
 | .int k,_,0, .v (.int k') y=>if k=k' then some y else none
 | .bool,_,0, .v .bool y=>some y
 | .str,_,0, .v .str y=>some y
 |_,_,_,_=>none
def gR (id:Nat):AM Nat:= .jQ id fun
 |some (.iu _ _)=> .fail
 |some o=> .ret (o.gen+1)
 |none=> .ret 0
def Ed (d:Nat)(ty:Nat)(cs:List Cell):AM Slot:=(gR d).bind fun g=> .jY d (.box g (ty,cs)) (.ret (.val (.one (.ptr d g 0))))
def Ei (d:Nat)(τ:Ty)(deep:Bool)(xs:List τ.den):AM Cell:=(gR d).bind fun g=> .jY d (.own g τ deep xs) (.ret (.own d g))
def FR (cs:List Cell):Bool:=cs.any fun
 | .v (.sl _) _=>true
 | .v .cl _=>true
 |_=>false
def cut (off n:Nat)(cs:List Cell):List Cell:=(cs.drop off).take n
def at_ {τ:Ty}(xs:List τ.den)(i:Int):τ.den:=xs.getD i.toNat τ.TE
def wK:(τ:Ty)→τ.den→Nat→Option ((e:Ty)×List e.den)
 | .pr a b,x,off=>bif Nat.blt off a.size then wK a x.1 off else wK b x.2 (off - a.size)
 | .sl e,xs,0=>some ⟨e,xs⟩
 |_,_,_=>none
def mw:(τ:Ty)→τ.den→Nat→(e:Ty)→List e.den→Option τ.den
 | .pr a b,x,off,e,ys=>bif Nat.blt off a.size then(mw a x.1 off e ys).map fun y=>(y,x.2)else(mw b x.2 (off - a.size) e ys).map fun y=>(x.1,y)
 | .sl e',_,0,e,ys=>if h:e=e' then some (h ▸ ys)else none
 |_,_,_,_,_=>none
def pM (id gen:Nat):AM Unit:= .jQ id fun
 |some (.hole g τ xs i off d gd)=>bif Nat.beq g gen then .jQ d fun
   |some (.own g2 e _ ys)=>bif Nat.beq g2 gd&& !Nat.beq d id then match mw τ (at_ xs i) off e ys with
     |some x=> .jY d (.dead g2) (.jY id (.own g τ true (xs.set i.toNat x)) (.ret ()))
     |none=> .fail
    else .fail
   |_=> .fail
  else .fail
 |_=> .ret ()
def AR:Cell→AM Unit
 | .own id gen=>pM id gen
 |_=> .ret ()
def Hc (d id gen:Nat)(i:Int)(off sz:Nat):AM Slot:= .jQ id fun
 |some (.own g τ true xs)=>bif Nat.beq g gen&&Nat.beq sz τ.size&& !τ.flat&& !Nat.beq d id then match wK τ (at_ xs i) off with
   |some ⟨e,ys⟩=>match mw τ (at_ xs i) off e []with
     |some _=>(gR d).bind fun gd=> .jY d (.own gd e true ys) (.jY id (.hole g τ xs i off d gd) (.ret (.val (.one (.own d gd)))))
     |none=> .fail
   |none=> .fail
  else .fail
 |_=> .fail
def D0 (τ:Ty)(off:Nat):Bool:=match τ with
 | .pr a b=>bif Nat.blt off a.size then D0 a off else D0 b (off - a.size)
 | .sl _=>Nat.beq off 0
 |_=>false
def Kn (E:Env)(ag:Bool):Slot→AM Bool
 | .ea (.own id gen) _ off _=>bif E.nest&& !ag then .jQ id fun
   |some (.own _ τ true _)=> .ret (D0 τ off)
   |_=> .ret false
  else .ret false
 |_=> .ret false
def DX (d:Nat):Slot→AM Slot
 | .ea (.own id gen) i off sz=>Hc d id gen i off sz
 |_=> .fail
def wx (E:Env)(n:Nat):Slot→AM (List Cell)
 | .val (.one (.ptr id gen off))=> .jQ id fun
  |some (.box g (_,cs))=>bif Nat.beq g gen&&Nat.ble (off+n) cs.length then .ret (cut off n cs)else .fail
  |_=> .fail
 | .ea (.v (.sl τ) xs) i off sz=>bif Nat.beq sz τ.size&&Nat.ble (off+n) τ.size then .ret (cut off n (unpack τ (at_ xs i)))else .fail
 | .ea (.own id gen) i off sz=> .jQ id fun
  |some (.dC g τ xs)=>bif Nat.beq g gen&&Nat.beq sz τ.size&&Nat.ble (off+n) τ.size then .ret (cut off n (unpack τ (at_ xs i)))else .fail
  |some (.own g τ deep xs)=>bif Nat.beq g gen&&Nat.beq sz τ.size&&Nat.ble (off+n) τ.size then
    let cs:=cut off n (unpack τ (at_ xs i))
    bif deep&&FR cs then .jY id (.own g τ false xs) (.ret cs)else .ret cs
   else .fail
  |_=> .fail
 | .fa xs 0=>bif Nat.beq n 1 then .ret [.v (.int .i64) (xs.headD 0)]else .fail
 | .fa xs 1=>bif Nat.beq n 1 then .ret [.v .cl xs.tail]else .fail
 | .ga g=>bif Nat.beq n 1 then(im ((E.fb g).bind fun|[c]=>some c|_=>none)).bind fun c=> .ret [c]else .fail
 |_=> .fail
def setCells (off:Nat)(new cs:List Cell):List Cell:=cs.take off++new++cs.drop (off+new.length)
def Pj (id gen:Nat)(τ:Ty)(deep:Bool)(i:Int)(x:τ.den):AM Unit:= .jQ id fun
 |some (.own g τ' dp xs)=>bif Nat.beq g gen&&(dp==deep)then
   if h:τ=τ' then .jY id (.own g τ' dp (xs.set i.toNat (h ▸ x))) (.ret ())else .fail
  else .fail
 |_=> .fail
def AQ (new:List Cell):Slot→AM Unit
 | .val (.one (.ptr id gen off))=> .jQ id fun
  |some (.box g (ty,cs))=>bif Nat.beq g gen&&Nat.ble (off+new.length) cs.length then .jY id (.box g (ty,setCells off new cs)) (.ret ())else .fail
  |_=> .fail
 | .ea (.own id gen) i off sz=> .jQ id fun
  |some (.own g τ deep xs)=>bif Nat.beq g gen&&Nat.beq sz τ.size then
    bif Nat.beq off 0&&Nat.beq new.length τ.size then
     (pack (deep&& !τ.flat) τ new).bind fun p=>Pj id gen τ deep i p.1
    else match new with
     |[c]=>match fG τ (at_ xs i) off c with
      |some x=> .jY id (.own g τ deep (xs.set i.toNat x)) (.ret ())
      |none=> .fail
     |_=> .fail
   else .fail
  |_=> .fail
 |_=> .fail
def wb (b:Bool):Slot:= .val (.one (.v .bool b))
def wi (k:IntKind)(n:Int):Slot:= .val (.one (.v (.int k) n))
def ws (l:List Int):Slot:= .val (.one (.v .str l))
def j3:List Cell→List Cell→Option Bool
 |[],[]=>some true
 | .v (.int k) x::a, .v (.int k') y::b=>if k=k' then(j3 a b).map (decide (x=y)&& ·)else none
 | .v .bool x::a, .v .bool y::b=>(j3 a b).map (decide (x=y)&& ·)
 | .v .str x::a, .v .str y::b=>(j3 a b).map (decide (x=y)&& ·)
 |_,_=>none
def intBits (op:BinOp)(k:IntKind)(x y:Int):Int:=
 match op with
 | .and=>k.wrap (BitVec.ofInt k.bits x&&&BitVec.ofInt k.bits y).toNat
 | .or=>k.wrap (BitVec.ofInt k.bits x|||BitVec.ofInt k.bits y).toNat
 |_=>k.wrap (BitVec.ofInt k.bits x^^^BitVec.ofInt k.bits y).toNat
def Kw (op:BinOp)(k k':IntKind)(x y:Int):AM Slot:=
 match op with
 | .shr=> .br (decide (0≤y)) (.ret (wi k (x.fdiv (2^min y.toNat k.bits)))) .fail
 | .shl=> .br (decide (0≤y)) (.ret (wi k (k.wrap (x*2^min y.toNat k.bits)))) .fail
 |_=>if k=k' then match op with
  | .add=> .ret (wi k (k.wrap (x+y)))
  | .sub=> .ret (wi k (k.wrap (x - y)))
  | .mul=> .ret (wi k (k.wrap (x*y)))
  | .quo=> .br (decide (y≠0)) (.ret (wi k (k.wrap (x.tdiv y)))) .fail
  | .rem=> .br (decide (y≠0)) (.ret (wi k (x.tmod y))) .fail
  | .and=> .ret (wi k (intBits .and k x y))
  | .or=> .ret (wi k (intBits .or k x y))
  | .xor=> .ret (wi k (intBits .xor k x y))
  | .eql=> .ret (wb (decide (x=y)))
  | .neq=> .ret (wb (!decide (x=y)))
  | .lss=> .ret (wb (decide (x<y)))
  | .leq=> .ret (wb (decide (x≤y)))
  | .gtr=> .ret (wb (decide (y<x)))
  | .geq=> .ret (wb (decide (y≤x)))
  |_=> .fail
  else .fail
def G7 (op:BinOp)(x y:List Int):AM Slot:=
 match op with
 | .add=> .br (fits (x.length+y.length)) (.ret (ws (x++y))) .fail
 | .eql=> .ret (wb (decide (x=y)))
 | .neq=> .ret (wb (!decide (x=y)))
 |_=> .fail
def AV (op:BinOp)(b:Bool):AM Slot:=
 match op with
 | .eql=> .ret (wb b)
 | .neq=> .ret (wb !b)
 |_=> .fail
def lX (P:Program):List Field→List Cell→Nat→Bool
 |[],[],_=>true
 |f::r, .v τ _::cs,n=>Nat.beq f.offset n&&f.name != "_" &&(match P.underlying f.type,τ with
  |some (.int _), .int _=>true
  |some .bool, .bool=>true
  |some .string, .str=>true
  |_,_=>false)&&lX P r cs (n+1)
 |_,_,_=>false
def binOp (E:Env)(op:BinOp)(t:TypeId):Val→Val→AM Slot
 | .one (.v (.int k) x), .one (.v (.int k') y)=>Kw op k k' x y
 | .one (.v .str x), .one (.v .str y)=>G7 op x y
 | .one (.v .bool x), .one (.v .bool y)=>match E.P.underlying t with
  |some .bool=>AV op (decide (x=y))
  |_=> .fail
 | .one (.v .cl xs), .one .np=>match E.P.underlying t with
  |some (.pointer _)=>AV op xs.isEmpty
  |_=> .fail
 | .agg a, .agg b=>match E.P.underlying t,j3 a b with
  |some (.struct fs),some r=>bif !E.P.stoodInHeld t&& !E.P.eqGuardType E.P.depth t&&lX E.P fs.toList a 0 then AV op r else .fail
  |_,_=> .fail
 |_,_=> .fail
def KH (E:Env)(op:BinOp)(t:TypeId):Val→AM Slot
 | .one (.err b)=>match E.P.underlying t with
  |some (.interface _)=>AV op b
  |_=> .fail
 |_=> .fail
def Ct:Cell→AM Nat
 | .v .str l=> .ret l.length
 | .v (.sl _) xs=> .ret xs.length
 | .nil=> .ret 0
 | .own id gen=> .jQ id fun
  |some (.own g _ _ xs)=>bif Nat.beq g gen then .ret xs.length else .fail
  |some (.dC g _ xs)=>bif Nat.beq g gen then .ret xs.length else .fail
  |some (.s8 g xs _ _ _ _ _)=>bif Nat.beq g gen then .ret xs.length else .fail
  |_=> .fail
 |_=> .fail
def source (e:Ty):Cell→AM (Bool×List e.den)
 | .nil=> .ret (true,[])
 | .v (.sl τ) xs=>(tR (τ':=e) (τ:=τ) xs).bind fun xs=> .ret (e.flat,xs)
 | .v .str l=>match e,l with
  | .int .u8,l=> .ret (true,l)
  |_,_=> .fail
 | .own id gen=> .jQ id fun
  |some (.own g τ deep xs)=>bif Nat.beq g gen then
    bif τ.flat then(tR (τ':=e) xs).bind fun xs=> .ret (true,xs)
    else .jY id (bif deep then .dead g else .dC g τ xs) ((tR (τ':=e) xs).bind fun xs=> .ret (deep,xs))
   else .fail
  |some (.dC g _ xs)=>bif Nat.beq g gen then(tR (τ':=e) xs).bind fun xs=> .ret (e.flat,xs)else .fail
  |_=> .fail
 |_=> .fail
def target (e:Ty):Cell→AM (Bool×List e.den)
 | .nil=> .ret (true,[])
 | .own id gen=> .jQ id fun
  |some (.own g _ deep xs)=>bif Nat.beq g gen then .jY id (.dead g) ((tR (τ':=e) xs).bind fun xs=> .ret (deep,xs))else .fail
  |_=> .fail
 |_=> .fail
def append (d:Nat)(e:Ty)(s x:Cell):AM Slot:=
 (source e x).bind fun q=>(target e s).bind fun p=>
  .br (fits (p.2.length+q.2.length)) ((Ei d e (p.1&&q.1) (p.2++q.2)).bind fun c=> .ret (.val (.one c))) .fail
def Cell.isStr:Cell→Bool
 | .v .str _=>true
 |_=>false
def Env.fit (E:Env)(t:TypeId)(c:Cell):Bool:=match E.P.underlying t with
 |some .string=>c.isStr
 |some (.slice _)=> !c.isStr
 |_=>false
def GP (lo:Option Val):AM Int:=match lo with
 |some v=>asInt v
 |none=> .ret 0
def Ck (n:Nat)(hi:Option Val):AM Int:=match hi with
 |some v=>asInt v
 |none=> .ret (n:Int)
def sub {α:Type}(xs:List α)(l h:Int):List α:=(xs.take h.toNat).drop l.toNat
def bounds (n:Nat)(l h:Int):Bool:=decide (0≤l)&&decide (l≤h)&&decide (h≤n)
def zJ (sz:Option Nat)(τ:Ty)(xs:List τ.den)(lo hi:Option Val):AM Slot:=
 match sz with
 |some n=>bif Nat.beq n τ.size then
   (GP lo).bind fun l=>(Ck xs.length hi).bind fun h=> .br (bounds xs.length l h) (.ret (.val (.one (.v (.sl τ) (sub xs l h))))) .fail
  else .fail
 |none=> .fail
def Gy (sz:Option Nat)(lo hi:Option Val):Cell→AM Slot
 | .v .str s=>(GP lo).bind fun l=>(Ck s.length hi).bind fun h=> .br (bounds s.length l h) (.ret (ws (sub s l h))) .fail
 | .v (.sl τ) xs=>zJ sz τ xs lo hi
 | .own id gen=> .jQ id fun
  |some (.own g τ _ xs)=>bif Nat.beq g gen then .jY id (.dC g τ xs) (zJ sz τ xs lo hi)else .fail
  |some (.dC g τ xs)=>bif Nat.beq g gen then zJ sz τ xs lo hi else .fail
  |_=> .fail
 |_=> .fail
def GB (d id gen:Nat)(sz:Option Nat)(hi:Option Val):AM Slot:= .jQ id fun
 |some (.own g τ _ xs)=>bif Nat.beq g gen&&τ.flat&& !Nat.beq d id then match sz with
   |some n=>bif Nat.beq n τ.size then
     (Ck xs.length hi).bind fun h=> .br (bounds xs.length 0 h) ((gR d).bind fun gd=> .jY d (.own gd τ true (xs.take h.toNat)) (.jY id (.dead g) (.ret (.val (.one (.own d gd)))))) .fail
    else .fail
   |none=> .fail
  else .fail
 |_=> .fail
def indexAddr (sz:Nat)(x:Cell)(i:Int):AM Slot:=(Ct x).bind fun n=> .br (decide (0≤i)&&decide (i<n)) (.ret (.ea x i 0 sz)) .fail
def nilCheck:Slot→AM Slot
 | .val (.one (.ptr id gen off))=> .ret (.val (.one (.ptr id gen off)))
 | .val (.one (.fn f jr))=> .ret (.val (.one (.fn f jr)))
 | .val (.one (.v .cl xs))=> .br (!xs.isEmpty) (.ret (.val (.one (.v .cl xs)))) .fail
 |_=> .fail
def fieldAddr (off:Nat):Slot→AM Slot
 | .val (.one (.ptr id gen o))=> .ret (.val (.one (.ptr id gen (o+off))))
 | .ea c i o sz=> .ret (.ea c i (o+off) sz)
 | .val (.one (.v .cl xs))=> .br (!xs.isEmpty) (.ret (.fa xs off)) .fail
 |_=> .fail
def fill (place:Nat→Option (Nat×Nat))(cells:List Cell):List (Nat×Val)→Option (List Cell)
 |[]=>some cells
 |(i,x)::r=>match place i with
  |some (off,size)=>bif Nat.beq x.cells.length size&&Nat.ble (off+size) cells.length then fill place (setCells off x.cells cells) r else none
  |none=>none
def Cm:List (Nat×Operand)→AM (List (Nat×Val))
 |[]=> .ret []
 |(i,x)::r=>(evV x).bind fun c=>(Cm r).bind fun cs=> .ret ((i,c)::cs)
def O8 (mv:Bool)(τ:Ty):Nat→List Cell→AM (List τ.den)
 |0,_=> .ret []
 |n+1,cs=>(pack mv τ (cs.take τ.size)).bind fun p=>(O8 mv τ n (cs.drop τ.size)).bind fun r=> .ret (p.1::r)
def zQ:(τ:Ty)→List Cell→Option (τ.den×List Cell)
 | .un,cs=>some ((),cs)
 | .pr a b,cs=>(zQ a cs).bind fun p=>(zQ b p.2).bind fun q=>some ((p.1,q.1),q.2)
 | .int k, .v (.int k') x::cs=>if k=k' then some (x,cs)else none
 | .bool, .v .bool b::cs=>some (b,cs)
 | .str, .v .str l::cs=>some (l,cs)
 | .sl _, .nil::cs=>some ([],cs)
 | .cl, .np::cs=>some (([]:List Int),cs)
 |_,_=>none
def Ty.mY:Ty→Bool
 | .sl e=>e.flat
 | .cl=>false
 | .pr a b=>a.mY&&b.mY
 |_=>true
def byte (n:Int):Int:=((n.toNat % 256:Nat):Int)
def rep (n:Nat)(z:List Cell):List Cell:=match n with
 |0=>[]
 |n+1=>z++rep n z
abbrev Plc:=Option (Nat×Nat×Nat)
def Plc.on (p:Plc)(n:Nat):Plc:=match p with
 |some (id,g,o)=>some (id,g,o+n)
 |none=>none
def Plc.is (p:Plc)(id g o:Nat):Bool:=match p with
 |some (Sm,g',o')=>Nat.beq Sm id&&Nat.beq g' g&&Nat.beq o' o
 |none=>false
def yD:(s:Sp)→Plc→List Cell→AM (s.ty.den×List Cell)
 | .un,_,cs=> .ret ((),cs)
 | .pr a b,pl,cs=>(yD a pl cs).bind fun p=>(yD b (pl.on a.size) p.2).bind fun q=> .ret ((p.1,q.1),q.2)
 | .dC τ,_,c::cs=>(datum τ c).bind fun x=> .ret (x,cs)
 | .own τ _,_, .nil::cs=> .ret (([]:List τ.den),cs)
 | .own τ dp,_, .own id gen::cs=>(pM id gen).bind fun _=> .jQ id fun
  |some (.own g _ deep xs)=>bif Nat.beq g gen&&(deep|| !dp||τ.flat)then .jY id (.dead g) ((tR (τ':=τ) xs).bind fun xs=> .ret (xs,cs))else .fail
  |_=> .fail
 | .lnd τ _,_, .nil::cs=> .ret (([]:List τ.den),cs)
 | .lnd τ dp,_, .own id gen::cs=>(pM id gen).bind fun _=> .jQ id fun
  |some (.own g _ deep xs)=>bif Nat.beq g gen&&(deep|| !dp||τ.flat)then .jY id (.iu g (0,[])) ((tR (τ':=τ) xs).bind fun xs=> .ret (xs,cs))else .fail
  |_=> .fail
 | .ptr wh ty s,_, .ptr id gen off::cs=> .jQ id fun
  |some (.box g (bt,bs))=>bif Nat.beq g gen&&((!wh||(Nat.beq off 0&&Nat.beq s.size bs.length&&Nat.beq bt ty.1))&&(wh||Pp ty.2 bt off bs.length))&&Nat.ble (off+s.size) bs.length then
    .jY id (.iu g (bt,bs)) ((yD s (some (id,gen,off)) (cut off s.size bs)).bind fun p=> .ret (p.1,cs))else .fail
  |_=> .fail
 | .yK ok,_, .ptr id gen off::cs=> .jQ id fun
  |some (.box g (bt,bs))=>bif Nat.beq g gen&&Pp ok bt off bs.length&&Nat.ble (off+2) bs.length then match cut off 2 bs with
    |[.np, .nil]=> .ret (([]:List Int),cs)
    |[.own a ag, .own Zp Ww]=> .jQ Zp fun
     |some (.s8 g2 xs a' W8 bid bg Pv)=>bif Nat.beq g2 Ww&&Nat.beq a a'&&Nat.beq ag W8&&(Nat.beq bid id&&Nat.beq bg gen&&Nat.beq Pv off)then .jY Zp (.dead g2) (.ret ((xs:List Int),cs))else .fail
     |_=> .fail
    |_=> .fail
   else .fail
  |_=> .fail
 | .s8,_, .np:: .nil::cs=> .ret (([]:List Int),cs)
 | .s8,pl, .own a ag:: .own id gen::cs=> .jQ id fun
  |some (.s8 g xs a' W8 bid bg off)=>bif Nat.beq g gen&&Nat.beq a a'&&Nat.beq ag W8&&pl.is bid bg off then .jY id (.dead g) (.ret ((xs:List Int),cs))else .fail
  |_=> .fail
 | .err,_, .err b::cs=> .ret (b,cs)
 | .np,_, .np::cs=> .ret ((),cs)
 | .slf _ _,_, .ptr _ _ off::cs=>bif Nat.beq off 0 then .ret ((),cs)else .fail
 |_,_,_=> .fail
def Tk (n:Nat)(xs:List Int):Plc→AM (List Cell)
 |some (id,bg,off)=>(gR n).bind fun g1=> .jY n (.dead g1) ((gR (n+1)).bind fun g2=> .jY (n+1) (.s8 g2 xs n g1 id bg off) (.ret [.own n g1, .own (n+1) g2]))
 |none=> .fail
def xT:(s:Sp)→s.ty.den→Plc→List Cell→Nat→AM (List Cell×List Cell×Nat)
 | .un,_,_,old,n=> .ret ([],old,n)
 | .pr a b,x,pl,old,n=>(xT a x.1 pl old n).bind fun p=>(xT b x.2 (pl.on a.size) p.2.1 p.2.2).bind fun q=> .ret (p.1++q.1,q.2.1,q.2.2)
 | .dC τ,x,_,old,n=> .ret ([.v τ x],old.tail,n)
 | .own τ dp,xs,_,old,n=>(Ei n τ (dp||τ.flat) xs).bind fun c=> .ret ([c],old.tail,n+1)
 | .lnd _ _,_,_, .nil::old,n=> .ret ([.nil],old,n)
 | .lnd τ dp,xs,_, .own id gen::old,n=> .jQ id fun
  |some (.iu g _)=>bif Nat.beq g gen then .jY id (.own g τ (dp||τ.flat) xs) (.ret ([.own id gen],old,n))else .fail
  |_=> .fail
 | .ptr _ _ s,x,_, .ptr id gen off::old,n=> .jQ id fun
  |some (.iu g (bt,bs))=>bif Nat.beq g gen then(xT s x (some (id,gen,off)) (cut off s.size bs) (200000+64*id)).bind fun p=> .jY id (.box g (bt,setCells off p.1 bs)) (.ret ([.ptr id gen off],old,n))else .fail
  |_=> .fail
 | .s8,x,pl,old,n=>(Tk n x pl).bind fun cs=> .ret (cs,old.drop 2,n+2)
 | .err,b,_,old,n=> .ret ([.err b],old.tail,n)
 | .np,_,_,old,n=> .ret ([.np],old.tail,n)
 |_,_,_,_,_=> .fail
def L8:(s:Sp)→s.oA.den→List Cell→AM (List Cell)
 | .pr a b,x,cs=>(L8 a x.1 cs).bind fun r=>L8 b x.2 r
 | .un,_,cs=> .ret cs
 | .ptr wh ty s,x,c::cs=>(xT (.ptr wh ty s) x none [c] 0).bind fun _=> .ret cs
 | .lnd τ dp,x,c::cs=>(xT (.lnd τ dp) x none [c] 0).bind fun _=> .ret cs
 | .s8,_,_::_::cs=> .ret cs
 | .yK _,_,_::cs=> .ret cs
 | .dC _,_,_::cs=> .ret cs
 | .own _ _,_,_::cs=> .ret cs
 | .err,_,_::cs=> .ret cs
 | .np,_,_::cs=> .ret cs
 | .slf _ _,_,_::cs=> .ret cs
 |_,_,_=> .fail
def Pk:(a:VSp)→Val→AM a.sp.ty.den
 | .one s, .one c=>(yD s none [c]).bind fun p=>match p.2 with
  |[]=> .ret p.1
  |_=> .fail
 | .agg s, .agg cs=>(yD s none cs).bind fun p=>match p.2 with
  |[]=> .ret p.1
  |_=> .fail
 |_,_=> .fail
def A0:(as:List VSp)→List Val→AM (b9 as).den
 |[],[]=> .ret ()
 |a::as,x::xs=>(Pk a x).bind fun p=>(A0 as xs).bind fun q=> .ret (p,q)
 |_,_=> .fail
def Cn:(as:List VSp)→(oN as).den→List Val→AM Unit
 |[],_,[]=> .ret ()
 |a::as,x,v::vs=>(L8 a.sp x.1 v.cells).bind fun _=>Cn as x.2 vs
 |_,_,_=> .fail
def KB:(a:VSp)→a.sp.ty.den→Nat→AM (Val×Nat)
 | .one s,x,n=>(xT s x none [] n).bind fun p=>match p.1 with
  |[c]=> .ret (.one c,p.2.2)
  |_=> .fail
 | .agg s,x,n=>(xT s x none [] n).bind fun p=> .ret (.agg p.1,p.2.2)
def GO:(as:List VSp)→(b9 as).den→Nat→AM (List Val)
 |[],_,_=> .ret []
 |a::as,x,n=>(KB a x.1 n).bind fun p=>(GO as x.2 p.2).bind fun q=> .ret (p.1::q)
def GL:(r:RSp)→r.ty.den→Nat→AM Slot
 | .val a,x,n=>(KB a x n).bind fun p=> .ret (.val p.1)
 | .ta as,x,n=>(GO as x n).bind fun vs=> .ret (.ta vs)
 | .none,_,_=> .ret (.ta [])
def call (c:Callee)(d:Nat)(args:List Val):AM Slot:=
 (A0 c.sig.args args).bind fun x=> .opt c.sig.cod (c.F x) fun y=>
  (Cn c.sig.args y.2 args).bind fun _=>GL c.sig.res y.1 (300000+16*d)
def yy:List Operand→AM (List Val)
 |[]=> .ret []
 |x::r=>(evV x).bind fun c=>(yy r).bind fun cs=> .ret (c::cs)
def R7 (chk:AM Unit)(c:Callee)(d:Nat)(args:List Val):AM Slot:=
 (A0 c.sig.args args).bind fun x=>chk.bind fun _=> .opt c.sig.cod (c.F x) fun y=>
  (Cn c.sig.args y.2 args).bind fun _=>GL c.sig.res y.1 (300000+16*d)
def tM:List (Nat×Nat)→List (Nat×Nat)→Bool
 |[],[]=>true
 |a::r,b::q=>Nat.beq a.1 b.1&&Nat.beq a.2 b.2&&tM r q
 |_,_=>false
def xi:List Nat→AM (List (Nat×Nat))
 |[]=> .ret []
 |t::ts=> .uR t fun
  | .val (.one (.ptr id gen 0))=>(xi ts).bind fun cs=> .ret ((id,gen)::cs)
  |_=> .fail
def Pb (f:FuncId)(jr:List (Nat×Nat)):AM Unit:=match jr.getLast? with
 |some p=> .jQ p.1 fun
  |some (.box g (_,[.fn f2 cs]))=>bif Nat.beq g p.2&&Nat.beq f2 f&&tM cs jr then .ret ()else .fail
  |_=> .fail
 |none=> .fail
def kept (E:Env)(ts:List Nat):Bool:= !ts.isEmpty&&ts.all fun t=>E.mS.any (Nat.beq t)
def Eg (E:Env)(f:FuncId)(jr:List (Nat×Nat)):AM Unit:=match E.slf with
 |some (f',ts)=>bif Nat.beq f f'&&kept E ts then(xi ts).bind fun cs=>bif tM cs jr then .ret ()else .fail else .fail
 |none=>Pb f jr
def O7 (E:Env)(d:Nat)(args:List Val):Cell→AM Slot
 | .fn f jr=>match E.callee f with
  |some c=>match uZ c.sig.args with
   |none=>call c d (args++jr.map fun p=> .one (.ptr p.1 p.2 0))
   |some sf=>bif Nat.beq sf.1 f&&Nat.beq sf.2 args.length then R7 (Eg E f jr) c d (args++jr.map fun p=> .one (.ptr p.1 p.2 0))else .fail
  |none=> .fail
 |_=> .fail
def OQ:Option Bool→Bool
 |some false=>true
 |_=>false
def GQ (E:Env)(t:TypeId)(a:Operand):Option (FuncId×List Nat):=match E.slf,a with
 |some (f,ts), .tmp k=>bif Nat.beq k (ts.getLastD 0)&&kept E ts&&OQ (E.isAgg t)then some (f,ts)else none
 |_,_=>none
def wC:List Val→Option (List (Nat×Nat))
 |[]=>some []
 | .one (.ptr id gen 0)::r=>(wC r).map ((id,gen):: ·)
 |_=>none
def TR (x:Option Operand):AM (Option Val):=match x with
 |some y=>(evV y).bind fun v=> .ret (some v)
 |none=> .ret none
def one (v:Val):AM Cell:=match v with
 | .one c=> .ret c
 |_=> .fail
def convert (E:Env)(src dst:TypeId)(v:Val):AM Slot:=
 match E.P.underlying src,E.P.underlying dst with
 |some (.int _),some (.int k)=>(asInt v).bind fun n=> .ret (wi k (k.wrap n))
 |some (.slice e),some .string=>match E.P.underlying e,v with
  |some (.int .u8), .one c=>match c with
   | .v (.sl (.int .u8)) xs=> .ret (ws (xs.map byte))
   | .nil=> .ret (ws [])
   | .own id gen=> .jQ id fun
    |some (.own g (.int .u8) _ xs)=>bif Nat.beq g gen then .ret (ws (xs.map byte))else .fail
    |some (.dC g (.int .u8) xs)=>bif Nat.beq g gen then .ret (ws (xs.map byte))else .fail
    |_=> .fail
   |_=> .fail
  |_,_=> .fail
 |some .string,some (.slice e)=>match E.P.underlying e,v with
  |some (.int .u8), .one (.v .str l)=> .ret (.val (.one (.v (.sl (.int .u8)) l)))
  |_,_=> .fail
 |_,_=> .fail
def Jg {α:Type}(z:α):List (Int×α)→Int→α
 |[],_=>z
 |p::r,n=>bif decide (n=p.1)then p.2 else Jg z r n
def mapKey (E:Env)(t:TypeId):Option TypeId:=match E.P.underlying t with
 |some (.map k e)=>match E.P.underlying k with
  |some (.int .i64)=>some e
  |_=>none
 |_=>none
def Lq (E:Env)(t:TypeId):Option Val:=((E.P.info? t).bind (·.zero)).bind wu
def O3 (E:Env)(t:TypeId)(n:Int)(τ:Ty)(y:τ.den):Cell→AM Slot
 | .own id gen=>(im (mapKey E t)).bind fun _=> .jQ id fun
  |some (.mp g τ' xs)=>bif Nat.beq g gen&& !(xs.any fun p=>decide (p.1=n))then if h:τ=τ' then .jY id (.mp g τ' (xs++[(n,(h ▸ y:τ'.den))])) (.ret .un)else .fail else .fail
  |_=> .fail
 |_=> .fail
def OB (E:Env)(t:TypeId)(n:Int):Cell→AM Slot
 | .own id gen=>(im (mapKey E t)).bind fun e=>match Lq E e with
  |some (.one (.v τ0 z))=> .jQ id fun
   |some (.mp g τ xs)=>bif Nat.beq g gen then if h:τ0=τ then .ret (.val (.one (.v τ (Jg (h ▸ z:τ.den) xs n))))else .fail else .fail
   |_=> .fail
  |_=> .fail
 |_=> .fail
def KG (E:Env)(d:Nat)(t:TypeId)(a:Operand):AM Slot:=
 (ev a).bind fun s=>(im (E.isAgg t)).bind fun ag=>(Kn E ag s).bind fun ne=>bif ne then DX d s else(im (E.sizeOf t)).bind fun n=>
   (wx E (bif ag then n else 1) s).bind fun cs=>(BA ag cs).bind fun v=> .ret (.val v)
def dW (E:Env)(d:Nat):Op→AM Slot
 | .move x| .assign x=>ev x
 | .pick c a b=>(evV c).bind fun v=>(asBool v).bind fun t=> .br t (ev a) (ev b)
 | .alloc t=>(im (E.zeroCells t)).bind fun cs=>Ed d t cs
 | .box t x=>(evV x).bind fun v=>Ed d t v.cells
 | .build t ps=>(im (E.zeroCells t)).bind fun z=>(Cm ps.toList).bind fun ps=>
   (im (fill (fun i=>(E.field t i).bind fun f=>(E.sizeOf f.type).map (f.offset, ·)) z ps)).bind fun cs=>bif E.sized t then .ret (.val (.agg cs))else .fail
 | .buildSlice t n ps=>(im (E.elem t)).bind fun e=>(E.ty e).bind fun τ=>(im (E.zeroCells e)).bind fun z=>
   (Cm ps.toList).bind fun ps=>(im (fill (fun i=>some (i*z.length,z.length)) (rep n z) ps)).bind fun cs=>
    bif E.I6 e τ&&Nat.ble n 4096 then
     (O8 (xk cs&&τ.mY&& !τ.flat) τ n cs).bind fun xs=>(Ei d τ (xk cs&&τ.mY&& !τ.flat) xs).bind fun c=> .ret (.val (.one c))
    else .fail
 | .load t a=>match GQ E t a with
  |some p=>(xi p.2).bind fun cs=> .ret (.val (.one (.fn p.1 cs)))
  |none=>KG E d t a
 | .store t a x=>(evV x).bind fun v=>(ev a).bind fun s=>(im (E.sizeOf t)).bind fun n=>
   bif Nat.beq v.cells.length n then(AQ v.cells s).bind fun _=> .ret .un else .fail
 | .nilCheck x=>(ev x).bind nilCheck
 | .binOp op t x y _=>(evV x).bind fun a=>match y with
   | .const .nilIface=>KH E op t a
   |_=>(evV y).bind fun b=>binOp E op t a b
 | .unOp .not _ x=>(evV x).bind fun v=>(asBool v).bind fun b=> .ret (wb !b)
 | .unOp .neg _ x=>(evV x).bind fun v=>match v with
   | .one (.v (.int k) n)=> .ret (wi k (k.wrap (0 - n)))
   |_=> .fail
 | .convert s t x=>(evV x).bind fun v=>convert E s t v
 | .makeMap t none=>(im (mapKey E t)).bind fun e=>(E.ty e).bind fun τ=>bif τ.one then(gR d).bind fun g=> .jY d (.mp g τ []) (.ret (.val (.one (.own d g))))else .fail
 | .makeMap t (some x)=>(evV x).bind fun v=>(asInt v).bind fun _=>(im (mapKey E t)).bind fun e=>(E.ty e).bind fun τ=>bif τ.one then(gR d).bind fun g=> .jY d (.mp g τ []) (.ret (.val (.one (.own d g))))else .fail
 | .insert t m k x=>(evV m).bind fun vm=>(one vm).bind fun cm=>(evV k).bind fun vk=>(evV x).bind fun vx=>match vk,vx with
   | .one (.v (.int .i64) n), .one (.v τ y)=>O3 E t n τ y cm
   |_,_=> .fail
 | .lookup t m k false=>(evV m).bind fun vm=>(one vm).bind fun cm=>(evV k).bind fun vk=>match vk with
   | .one (.v (.int .i64) n)=>OB E t n cm
   |_=> .fail
 | .makeInterface t x=>(evV x).bind fun _=>match E.P.underlying t with
   |some (.interface _)=> .fail
   |some _=> .ret (.val (.one (.err false)))
   |none=> .fail
 | .makeFunc (.func f) first jr=>bif first.isEmpty then(yy jr.toList).bind fun vs=>(im (wC vs)).bind fun cs=> .ret (.val (.one (.fn f cs)))else .fail
 | .makeSlice t l c=>(im (E.elem t)).bind fun e=>(E.ty e).bind fun τ=>(im (E.zeroCells e)).bind fun z=>(im (zQ τ z)).bind fun x=>
   (evV l).bind fun l=>(asInt l).bind fun l=>(evV c).bind fun c=>(asInt c).bind fun c=>bif E.I6 e τ&&x.2.isEmpty then
    .br (decide (0≤l)&&decide (l≤c)&&decide (c≤lim)) ((Ei d τ (τ.mY&& !τ.flat) (List.replicate l.toNat x.1)).bind fun c=> .ret (.val (.one c))) .fail else .fail
 | .slice t x lo hi none=>(evV x).bind fun v=>(one v).bind fun c=>(TR lo).bind fun lo=>(TR hi).bind fun hi=>bif E.fit t c then
   (match E.trim,lo,c with
    |true,none, .own id gen=>GB d id gen ((E.elem t).bind E.sizeOf) hi
    |_,_,_=>Gy ((E.elem t).bind E.sizeOf) lo hi c)else .fail
 | .fieldAddr s x i=>(ev x).bind fun a=>(im (E.field s i)).bind fun f=>(im (E.sizeOf f.type)).bind fun n=>bif Nat.blt 0 n then fieldAddr f.offset a else .fail
 | .field s x i=>(evV x).bind fun v=>match v with
   | .agg cs=>(im (E.field s i)).bind fun f=>(im (E.isAgg f.type)).bind fun ag=>(im (E.sizeOf f.type)).bind fun n=>
     (BA ag (cut f.offset (bif ag then n else 1) cs)).bind fun v=> .ret (.val v)
   |_=> .fail
 | .indexAddr t x i=>(im ((E.elem t).bind E.sizeOf)).bind fun sz=>(evV x).bind fun v=>(one v).bind fun c=>(evV i).bind fun i=>(asInt i).bind fun i=>bif E.fit t c&& !c.isStr then(AR c).bind fun _=>indexAddr sz c i else .fail
 | .index t x i=>(evV x).bind fun v=>(evV i).bind fun i=>(asInt i).bind fun i=>match v,E.P.underlying t with
   | .one (.v .str s),some .string=> .br (decide (0≤i)&&decide (i<s.length)) (.ret (wi .u8 (s.getD i.toNat 0))) .fail
   |_,_=> .fail
 | .extract t i=>(ev t).bind fun s=>match s with
   | .ta vs=>(im vs[i]?).bind fun v=> .ret (.val v)
   |_=> .fail
 | .call c=>match c.callee with
  | .builtin .len=>(yy c.args.toList).bind fun vs=>match vs with
   |[.one x]=>bif(c.argTypes[0]?).any fun t=>E.fit t x then(Ct x).bind fun n=> .ret (wi .i64 n)else .fail
   |_=> .fail
  | .builtin .max=>(yy c.args.toList).bind fun vs=>match vs with
   |[.one (.v (.int k) x), .one (.v (.int _) y)]=> .ret (wi k (if y>x then y else x))
   |_=> .fail
  | .builtin .append=>match c.argTypes.toList with
   |[t,tx]=>(im (E.elem t)).bind fun e=>(E.ty e).bind fun τ=>(yy c.args.toList).bind fun vs=>match vs with
    |[.one s, .one x]=>bif E.I6 e τ&&E.fit tx x then append d τ s x else .fail
    |_=> .fail
   |_=> .fail
  | .value f=>(yy c.args.toList).bind fun vs=>(evV f).bind fun v=>(one v).bind fun c=>O7 E d vs c
  |_=> .fail
 |_=> .fail
def step (E:Env)(alt:Nat)(o:Oper):AM Unit:=
 match o.dst with
 |some d=>bif Nat.blt d E.nt&& !E.mS.any (Nat.beq d)then(dW E d o.op).bind fun s=> .zU d s (.ret ())else .fail
 |none=>(dW E alt o.op).bind fun _=> .ret ()
end Go.Abs
end

section
namespace Go.Abs
def AM.om {α ρ:Type}:AM α→St→List Nat→List Nat→(α→St→List Nat→List Nat→Option ρ)→Option ρ
 | .ret a,s,r,w,K=>K a s r w
 | .br b t e,s,r,w,K=>brk b (t.om s r w K) (e.om s r w K)
 | .fail,_,_,_,_=>none
 | .uR t k,s,r,w,K=>match look s.env t with
  |some x=>(k x).om s ((2*t)::r) w K
  |none=>none
 | .zU t x k,s,r,w,K=>k.om {s with env:=(t,x)::s.env} r ((2*t)::w) K
 | .jQ i k,s,r,w,K=>(k (look s.hp i)).om s ((2*i+1)::r) w K
 | .jY i o k,s,r,w,K=>k.om {s with hp:=(i,o)::s.hp} r ((2*i+1)::w) K
 | .opt _ x k,s,r,w,K=>x.bind fun d=>(k d).om s r w K
def IZ:List Oper→Nat→Option Oper
 |[],_=>none
 |o::_,0=>some o
 |_::r,n+1=>IZ r n
def uK (ops:List Oper)(j:Nat):Option Nat:=(IZ ops j).bind (·.dst)
def skip (E:Env)(o:Oper):AM Unit:=match o.dst with
 |some d=>bif Nat.blt d E.nt&& !E.mS.any (Nat.beq d)then .zU d .sk (.ret ())else .fail
 |none=> .ret ()
def alt (n:Nat):Nat:=90000+n
def stepG (E:Env)(ops:List Oper)(n:Nat)(o:Oper):AM Unit:=match o.guard with
 |none=>step E (alt n) o
 |some (j,want)=>(im (uK ops j)).bind fun d=> .uR d fun
  | .val (.one (.v .bool g))=> .br (g==want) (step E (alt n) o) (skip E o)
  | .sk=>skip E o
  |_=> .fail
def o8 {ρ:Type}(E:Env)(ops:List Oper):List Oper→Nat→St→(St→Option ρ)→Option ρ
 |[],_,s,K=>K s
 |o::r,n,s,K=>match o.guard with
  |none=>(step E (alt n) o).exec s fun _ s=>o8 E ops r (n+1) s K
  |some (j,want)=>match uK ops j with
   |some d=>match look s.env d with
    |some (.val (.one (.v .bool g)))=>brk g
      ((bif want then step E (alt n) o else skip E o).exec {s with env:=(d,wb true)::s.env} fun _ s=>o8 E ops r (n+1) s K)
      ((bif want then skip E o else step E (alt n) o).exec {s with env:=(d,wb false)::s.env} fun _ s=>o8 E ops r (n+1) s K)
    |some .sk=>(skip E o).exec s fun _ s=>o8 E ops r (n+1) s K
    |_=>none
   |none=>none
abbrev Log:=List (List Nat×List Nat)
def mO {ρ:Type}(E:Env)(ops:List Oper):List Oper→Nat→St→Log→(St→Log→Option ρ)→Option ρ
 |[],_,s,L,K=>K s L
 |o::r,n,s,L,K=>match o.guard with
  |none=>(step E (alt n) o).om s [] [] fun _ s rd wr=>mO E ops r (n+1) s ((rd,wr)::L) K
  |some (j,want)=>match uK ops j with
   |some d=>match look s.env d with
    |some (.val (.one (.v .bool g)))=>brk g
      ((bif want then step E (alt n) o else skip E o).om {s with env:=(d,wb true)::s.env} [2*d] [] fun _ s rd wr=>mO E ops r (n+1) s ((rd,wr)::L) K)
      ((bif want then skip E o else step E (alt n) o).om {s with env:=(d,wb false)::s.env} [2*d] [] fun _ s rd wr=>mO E ops r (n+1) s ((rd,wr)::L) K)
    |some .sk=>(skip E o).om s [2*d] [] fun _ s rd wr=>mO E ops r (n+1) s ((rd,wr)::L) K
    |_=>none
   |none=>none
def mem (n:Nat):List Nat→Bool
 |[]=>false
 |m::r=>Nat.beq m n||mem n r
def meet (a b:List Nat):Bool:=match a with
 |[]=>false
 |x::r=>mem x b||meet r b
def sF (ops:List Oper):List (List Nat):=ops.map fun o=>o.after.toList.filterMap fun e=>bif Region.binds .any e then some e.on else none
def vj:List (List Nat)→List (List Nat)→List (List Nat)
 |[],acc=>acc
 |es::r,acc=>vj r (acc++[es.flatMap fun i=>i::acc.getD i []])
def uE:List (List Nat)→Nat→Bool
 |[],_=>true
 |es::r,n=>es.all (Nat.blt · n)&&uE r (n+1)
def zz (x:List Nat×List Nat)(bx:List Nat):Log→Nat→Bool
 |[],_=>true
 |y::r,n=>(mem (n - 1) bx|| !(meet x.2 y.2||meet x.2 y.1||meet x.1 y.2))&&zz x bx r (n - 1)
def apart:Log→List (List Nat)→Nat→Bool
 |x::r,bx::b,n=>zz x bx r (n - 1)&&apart r b (n - 1)
 |[],_,_=>true
 |_,_,_=>false
def DE {ρ:Type}(E:Env)(ops:List Oper)(draw:Bool)(s:St)(K:St→Option ρ):Option ρ:=
 bif draw then
  mO E ops ops 0 s [] fun s' L=>bif uE (sF ops) 0&&apart L (vj (sF ops) []).reverse ops.length then K s' else none
 else o8 E ops ops 0 s K
def first:Code→Option Nat
 | .region id _ _=>some id
 | .seq a b=>(first a).orElse fun _=>first b
 | .block _ c=>first c
 | .loop c=>(first c).map (1000+ ·)
 | .scope c=>first c
 | .cond _ a b=>(first a).orElse fun _=>first b
 |_=>none
abbrev Handler:=∀ρ:Type,St→(Exit→St→Option ρ)→Option ρ
structure Cuts where
 loop:Nat→Option Handler
 join:Nat→Option Handler
def zx (s:St):Operand→Option Bool
 | .tmp t=>match look s.env t with
  |some (.val (.one (.v .bool b)))=>some b
  |_=>none
 | .const (.bool b)=>some b
 |_=>none
def exec {ρ:Type}(E:Env)(H:Cuts):Code→St→(Exit→St→Option ρ)→Option ρ
 | .skip,s,K=>K .normal s
 | .region _ ops draw,s,K=>DE E ops.toList draw s (K .normal)
 | .seq a b,s,K=>exec E H a s fun e s'=>match e with
  | .normal=>match(first b).bind H.join with
   |some h=>h ρ s' K
   |none=>exec E H b s' K
  |e=>K e s'
 | .cond c a b,s,K=>match zx s c with
  |some t=>brk t (exec E H a s K) (exec E H b s K)
  |none=>none
 | .block id c,s,K=>exec E H c s fun e s'=>match e with
  | .exit i=>bif Nat.beq i id then K .normal s' else K (.exit i) s'
  |e=>K e s'
 | .loop c,s,K=>match(first c).bind H.loop with
  |some h=>h ρ s K
  |none=>none
 | .exit i,s,K=>K (.exit i) s
 | .ret,s,K=>K .ret s
 | .label _,s,K=>K .normal s
 | .scope c,s,K=>exec E H c s fun e s'=>match e with
  | .goto _=>none
  |e=>K e s'
 |_,_,_=>none
def mk0:(s:Sp)→s.ty.den→Nat×Nat→Nat→(List Cell×List (Nat×Obj)×Nat)
 | .un,_,_,n=>([],[],n)
 | .pr a b,x,pl,n=>let p:=mk0 a x.1 pl n;let q:=mk0 b x.2 (pl.1,pl.2+a.size) p.2.2;(p.1++q.1,q.2.1++p.2.1,q.2.2)
 | .dC τ,x,_,n=>([.v τ x],[],n)
 | .own τ dp,xs,_,n=>([.own n 0],[(n, .own 0 τ (dp||τ.flat) xs)],n+1)
 | .lnd τ dp,xs,_,n=>([.own n 0],[(n, .own 0 τ (dp||τ.flat) xs)],n+1)
 | .ptr _ ty s,x,_,n=>let p:=mk0 s x (n,0) (n+1);([.ptr n 0 0],(n, .box 0 (ty.1,p.1))::p.2.1,p.2.2)
 | .yK _,_,_,n=>([],[],n)
 | .s8,x,pl,n=>([.own n 0, .own (n+1) 0],[(n+1, .s8 0 x n 0 pl.1 0 pl.2),(n, .dead 0)],n+2)
 | .err,b,_,n=>([.err b],[],n)
 | .np,_,_,n=>([.np],[],n)
 | .slf _ _,_,_,n=>([.ptr n 0 0],[(n, .dead 0)],n+1)
def yA:(a:VSp)→a.sp.ty.den→Nat→(Option Val×List (Nat×Obj)×Nat)
 | .one s,x,n=>let p:=mk0 s x (0,0) n;(match p.1 with|[c]=>some (.one c)|_=>none,p.2.1,p.2.2)
 | .agg s,x,n=>let p:=mk0 s x (0,0) n;(some (.agg p.1),p.2.1,p.2.2)
def uC:(as:List VSp)→List Nat→(b9 as).den→Nat→(List (Nat×Slot)×List (Nat×Obj))
 |a::as,t::ts,x,n=>
  let p:=yA a x.1 n
  let q:=uC as ts x.2 p.2.2
  (match p.1 with|some v=>(t, .val v)::q.1|none=>q.1,q.2++p.2.1)
 |_,_,_,_=>([],[])
def dec (ts:List Nat)(as:List VSp)(x:(b9 as).den):St:=let p:=uC as ts x FT;⟨p.1,p.2⟩
def D5:List Nat→AM (List Val)
 |[]=> .ret []
 |t::ts=>(AM.uR t I4).bind fun v=>(D5 ts).bind fun vs=> .ret (v::vs)
def upto:List VSp→Nat→List Nat
 |[],_=>[]
 |_::r,n=>n::upto r (n+1)
def Sp.plain:Sp→Bool
 | .ptr _ _ _=>false
 | .lnd _ _=>false
 | .yK _=>false
 | .slf _ _=>false
 | .pr a b=>a.plain&&b.plain
 |_=>true
def Sp.whole (PQ:Bool):Sp→Bool
 | .ptr wh _ s=>wh&&s.whole true
 | .pr a b=>a.whole PQ&&b.whole PQ
 | .s8=>PQ
 | .yK _=>false
 |_=>true
def mo:List VSp→Bool
 |[]=>true
 |a::r=>a.sp.whole false&&mo r
def enc (ts:List Nat)(as:List VSp):AM (b9 as).den:=bif mo as then(D5 ts).bind fun vs=>A0 as vs else .fail
def Sp.GU:Sp→Bool
 | .ptr _ _ _=>true
 | .lnd _ _=>true
 | .pr a b=>a.GU||b.GU
 |_=>false
def L4:(s:Sp)→AM s.oA.den
 | .pr a b=>(L4 a).bind fun p=>(L4 b).bind fun q=> .ret (p,q)
 | .un=> .ret ()
 | .dC _=> .ret ()
 | .own _ _=> .ret ()
 | .s8=> .ret ()
 | .yK _=> .ret ()
 | .err=> .ret ()
 | .np=> .ret ()
 | .slf _ _=> .ret ()
 | .ptr _ _ _=> .fail
 | .lnd _ _=> .fail
def R5 (hp:List (Nat×Obj))(n:Nat):Bool:=match look hp n with
 |some (.box 0 (_,[.ptr m 0 0]))=>Nat.beq m (n+1)&&(look hp m).isSome
 |_=>false
def stays (vp:List (Nat×Obj)):Cell→AM Unit
 | .ptr n 0 0=>bif R5 vp n then .jQ n fun
   |some (.box 0 (_,[.ptr m 0 0]))=>bif Nat.beq m (n+1)then .ret ()else .fail
   |_=> .fail
  else .fail
 |_=> .fail
def Sp.inner:Sp→Bool
 | .ptr wh _ s=>s.plain&&wh
 |_=>false
def GV (ini:Bool)(vp:List (Nat×Obj)):(s:Sp)→List Cell→AM (s.oA.den×List Cell)
 | .pr a b,cs=>(GV ini vp a cs).bind fun p=>(GV ini vp b p.2).bind fun q=> .ret ((p.1,q.1),q.2)
 | .un,cs=> .ret ((),cs)
 | .ptr wh ty s,c::cs=>bif s.plain&&wh then(yD (.ptr wh ty s) none [c]).bind fun p=> .ret (p.1,cs)else bif ini&&(s.inner&&wh)then(stays vp c).bind fun _=>(yD (.ptr wh ty s) none [c]).bind fun p=> .ret (p.1,cs)else .fail
 | .lnd τ dp,c::cs=>(yD (.own τ dp) none [c]).bind fun p=> .ret (p.1,cs)
 | .dC _,_::cs=> .ret ((),cs)
 | .own _ _,_::cs=> .ret ((),cs)
 | .yK _,_::cs=> .ret ((),cs)
 | .err,_::cs=> .ret ((),cs)
 | .np,_::cs=> .ret ((),cs)
 | .slf _ _,_::cs=> .ret ((),cs)
 |_,_=> .fail
def Gx (ini:Bool)(vp:List (Nat×Obj))(mS:List Nat):(as:List VSp)→Nat→AM (oN as).den
 |[],_=> .ret ()
 |a::as,n=>(bif a.sp.GU then(bif mS.any (Nat.beq n)then(AM.uR n I4).bind fun v=>(GV ini vp a.sp v.cells).bind fun p=> .ret p.1 else .fail)else L4 a.sp).bind fun p=>
   (Gx ini vp mS as (n+1)).bind fun q=> .ret (p,q)
def Ha (E:Env):ResultVar→AM Val
 | .tmp t=> .uR t I4
 | .cell a t=> .uR a fun s=>(im (E.isAgg t)).bind fun ag=>(im (E.sizeOf t)).bind fun n=>(wx E (bif ag then n else 1) s).bind fun cs=>BA ag cs
def zK (E:Env):List ResultVar→AM (List Val)
 |[]=> .ret []
 |r::rs=>(Ha E r).bind fun v=>(zK E rs).bind fun vs=> .ret (v::vs)
def wX:List VSp→Bool
 |[]=>true
 |a::r=>a.sp.plain&&wX r
def OG (E:Env)(rs:List ResultVar):(r:RSp)→AM r.ty.den
 | .val a=>(zK E rs).bind fun vs=>bif a.sp.plain then match vs with
  |[v]=>Pk a v
  |_=> .fail
  else .fail
 | .ta as=>(zK E rs).bind fun vs=>bif wX as then match vs with
  |[_]=> .fail
  |vs=>A0 as vs
  else .fail
 | .none=>(zK E rs).bind fun vs=>match vs with
  |[]=> .ret ()
  |_=> .fail
def finish (E:Env)(vp:List (Nat×Obj))(rs:List ResultVar)(sg:Sig):AM sg.cod.den:=
 (OG E rs sg.res).bind fun r=>(Gx E.ini vp E.mS sg.args 0).bind fun o=> .ret (r,o)
def atEnd (E:Env)(vp:List (Nat×Obj))(rs:List ResultVar)(sg:Sig)(e:Exit)(s:St):Option sg.cod.den:=match e with
 | .normal| .ret=>(finish E vp rs sg).exec s fun r _=>some r
 |_=>none
def En (E:Env)(fn:Func)(sg:Sig)(H:Cuts)(x:sg.dom.den):Option sg.cod.den:=
 match fn.body with
 |some c=>exec E H c (dec (upto sg.args 0) sg.args x) (atEnd E (dec (upto sg.args 0) sg.args x).hp fn.results.toList sg)
 |none=>none
abbrev Der:=List (Nat×Nat×List Nat)
def yz (env:List (Nat×Slot)):List Nat→Option (List (Nat×Nat))
 |[]=>some []
 |t::r=>match look env t with
  |some (.val (.one (.ptr id gen 0)))=>(yz env r).map ((id,gen):: ·)
  |_=>none
def derive (env:List (Nat×Slot)):Der→List (Nat×Slot)
 |[]=>env
 |d::r=>match yz env d.2.2 with
  |some cs=>(d.1, .val (.one (.fn d.2.1 cs)))::derive env r
  |none=>derive env r
def rQ (env:List (Nat×Slot)):Der→Bool
 |[]=>true
 |d::r=>(match look env d.1,yz env d.2.2 with
  |some (.val (.one (.fn f jr))),some cs=>Nat.beq f d.2.1&&tM jr cs
  |_,_=>false)&&rQ env r
def Hh (ts:List Nat)(as:List VSp)(xB:Der)(x:(b9 as).den):St:=⟨derive (dec ts as x).env xB,(dec ts as x).hp⟩
structure Way1 where
 e:Exit
 ts:List Nat
 as:List VSp
 xB:Der
@[reducible] def nK:List Way1→Type
 |[]=>Empty
 |w::r=>(b9 w.as).den⊕nK r
def DT:Exit→Exit→Bool
 | .normal, .normal=>true
 | .exit i, .exit j=>Nat.beq i j
 | .ret, .ret=>true
 |_,_=>false
def A2:(ws:List Way1)→Exit→St→Option (nK ws)
 |[],_,_=>none
 |w::r,e,s=>bif DT w.e e then(bif rQ s.env w.xB then(enc w.ts w.as).exec s fun z _=>some (.inl z)else none)else(A2 r e s).bind fun y=>some (.inr y)
def Ek {ρ:Type}:(ws:List Way1)→nK ws→(Exit→St→Option ρ)→Option ρ
 |[],y,_=>Empty.elim y
 |w::r,y,K=>Sum.elim (fun z=>K w.e (Hh w.ts w.as w.xB z)) (fun y=>Ek r y K) y
structure Cut where
 ts:List Nat
 as:List VSp
 ws:List Way1
 xB:Der
def Cut.xh (c:Cut)(L:(b9 c.as).den→Option (nK c.ws)):Handler:=fun _ s K=>bif rQ s.env c.xB then(enc c.ts c.as).exec s fun x _=>(L x).bind fun y=>Ek c.ws y K else none
def Cut.round (c:Cut)(E:Env)(H:Cuts)(body:Code)(L:(b9 c.as).den→Option (nK c.ws))(x:(b9 c.as).den):Option (nK c.ws):=
 exec E H body (Hh c.ts c.as c.xB x) fun e s=>match e with
  | .normal=>bif rQ s.env c.xB then(enc c.ts c.as).exec s fun x' _=>L x' else none
  |e=>A2 c.ws e s
def Cut.tail (c:Cut)(E:Env)(H:Cuts)(body:Code)(x:(b9 c.as).den):Option (nK c.ws):=
 exec E H body (Hh c.ts c.as c.xB x) fun e s=>A2 c.ws e s
end Go.Abs
end

section
namespace Go.Abs
def oc:Value→Bool
 | .agg _| .tuple _=>false
 |_=>true
structure Gh where
 aK:Nat→Option (List Value)
 top:Nat→Nat
 cv:Nat→Nat→Value
 dn:Nat→Option Nat
 dU:Nat→Option (List Value)
 outer:Nat→List Value
abbrev Rd:=Nat→Option (List Value)
def oB (r:Rd):List Int→Value→Prop
 |[],u=>u= .pointer none
 |x::xs,u=>∃b p,u= .pointer (some ⟨b,0,none⟩)∧r b=some [.int .i64 x,p]∧oB r xs p
def Rc (r:Rd):(τ:Ty)→τ.den→List Value→Prop
 | .int k,x,cs=>cs=[.int k x]
 | .bool,b,cs=>cs=[.bool b]
 | .str,l,cs=>∃s,cs=[.string s]∧l=bytesOf s
 | .un,_,cs=>cs=[]
 | .pr a b,x,cs=>∃c1 c2,cs=c1++c2∧Rc r a x.1 c1∧Rc r b x.2 c2
 | .sl e,xs,cs=>∃A c,cs=[.slice A xs.length c]∧xs.length≤c∧
   (xs=[]∨∃b o L,A=some ⟨b,o,none⟩∧r b=some L∧∀i (h:i<xs.length),Rc r e xs[i] ((L.drop (o+i*e.size)).take e.size))
 | .cl,xs,cs=>∃u,cs=[u]∧oB r xs u
def Els (r:Rd)(e:Ty)(xs:List e.den)(L:List Value)(o:Nat):Prop:=
 ∀i (h:i<xs.length),Rc r e xs[i] ((L.drop (o+i*e.size)).take e.size)
def Lin (r:Rd):(τ:Ty)→τ.den→List Value→List Nat→Prop
 | .int k,x,cs,nb=>cs=[.int k x]∧nb=[]
 | .bool,b,cs,nb=>cs=[.bool b]∧nb=[]
 | .str,l,cs,nb=>(∃s,cs=[.string s]∧l=bytesOf s)∧nb=[]
 | .un,_,cs,nb=>cs=[]∧nb=[]
 | .pr a b,x,cs,nb=>∃c1 c2 n1 n2,cs=c1++c2∧nb=n1++n2∧Lin r a x.1 c1 n1∧Lin r b x.2 c2 n2
 | .sl e,xs,cs,nb=>e.flat=true∧((cs=[.slice none 0 0]∧xs=[]∧nb=[])∨
   ∃b c L,cs=[.slice (some ⟨b,0,none⟩) xs.length c]∧xs.length≤c∧nb=[b]∧r b=some L∧L.length=c*e.size∧Els r e xs L 0)
 | .cl,_,_,_=>False
def fe (r:Rd)(e:Ty):List e.den→List Value→List Nat→Prop
 |[],_,nb=>nb=[]
 |x::xs,L,nb=>∃n1 n2,nb=n1++n2∧Lin r e x (L.take e.size) n1∧fe r e xs (L.drop e.size) n2
def rR (g:Gh):List (Nat×Nat)→List Value→Prop
 |[],us=>us=[]
 |p::r,us=>∃b o v,us= .pointer (some ⟨b,o,none⟩)::v∧p.2<g.top p.1∧g.cv p.1 p.2= .pointer (some ⟨b,o,none⟩)∧rR g r v
def bl (g:Gh):Cell→Value→Prop
 | .v τ x,u=>τ.one=true∧Rc g.aK τ x [u]
 | .nil,u=>u= .slice none 0 0
 | .own id gen,u=>gen<g.top id∧u=g.cv id gen∧oc u=true
 | .ptr id gen off,u=>gen<g.top id∧∃b o,g.cv id gen= .pointer (some ⟨b,o,none⟩)∧u= .pointer (some ⟨b,o+off,none⟩)
 | .np,u=>u= .pointer none
 | .nf,u=>u= .nilFunc
 | .fn f jr,u=>∃vs:List Value,u= .func (.func f) #[] vs.toArray∧rR g jr vs
 | .err b,u=>(b=true∧u= .nilIface)∨(b=false∧∃t v,u= .iface t v)
def aG (g:Gh):List Cell→List Value→Prop
 |[],us=>us=[]
 |c::cs,us=>∃u r,us=u::r∧bl g c u∧aG g cs r
def dT (g:Gh):Val→Value→Prop
 | .one c,u=>bl g c u
 | .agg cs,u=>∃us:List Value,u= .agg us.toArray∧aG g cs us
def eX (g:Gh):List Val→List Value→Prop
 |[],us=>us=[]
 |c::cs,us=>∃u r,us=u::r∧dT g c u∧eX g cs r
def dc (g:Gh):Slot→Value→Prop
 | .val v,u=>dT g v u
 | .ta vs,u=>∃us:List Value,u= .tuple us.toArray∧eX g vs us
 | .ea c i off sz,u=>∃b o n cap,bl g c (.slice (some ⟨b,o,none⟩) n cap)∧0≤i∧i.toNat<n∧u= .pointer (some ⟨b,o+i.toNat*sz+off,none⟩)
 | .fa xs off,u=>∃x Qp b p,xs=x::Qp∧g.aK b=some [.int .i64 x,p]∧oB g.aK Qp p∧u= .pointer (some ⟨b,off,none⟩)
 | .ga k,u=>u= .pointer (some ⟨k,0,none⟩)
 | .un,_=>True
 | .sk,u=>u=undef
def K3 (g:Gh)(id:Nat)(τ:Ty)(xs:List τ.den)(L:List Value):Prop:=
 ∃nb,fe g.dU τ xs L nb∧nb.Nodup∧∀b∈nb,g.dn b=some (id+1)
def dE (g:Gh)(id:Nat)(τ:Ty)(deep:Bool)(xs:List τ.den)(L:List Value):Prop:=
 if deep&& !τ.flat then K3 g id τ xs L else Els g.aK τ xs L 0
def oQ (r:Rd)(τ:Ty):List (Int×τ.den)→List MapEntry→Prop
 |[],es=>es=[]
 |p::xs,es=>∃e r',es=e::r'∧e.key= .int .i64 p.1∧Rc r τ p.2 [e.val]∧oQ r τ xs r'
def AX:Nat:=5
def mF (g:Gh)(w:World)(id:Nat):Obj→Prop
 | .box gen r=>∃b o arr ty L,g.cv id gen= .pointer (some ⟨b,o,none⟩)∧(g.dn b=some (id+1)∧g.dU b=none)∧w.heap[b]?=some (.cells arr ty (0,0))∧aG g r.2 L∧
   arr.toList=(g.outer id).take o++L++(g.outer id).drop (o+L.length)∧o+L.length≤(g.outer id).length∧
   o=0∧(g.outer id).length=r.2.length∧ty=r.1
 | .own gen τ deep xs=>(g.cv id gen= .slice none 0 0∧xs=[])∨
   ∃b cap arr ty,g.cv id gen= .slice (some ⟨b,0,none⟩) xs.length cap∧g.dn b=some (id+1)∧g.dU b=none∧w.heap[b]?=some (.cells arr ty (0,0))∧
    xs.length≤cap∧arr.size=cap*τ.size∧dE g id τ deep xs arr.toList
 | .dC gen τ xs=>Rc g.aK (.sl τ) xs [g.cv id gen]
 | .Vl gen xs=>oB g.aK xs (g.cv id gen)
 | .dead _=>True
 | .iu _ _=>True
 | .mp gen τ xs=>τ.one=true∧∃b es RK,g.cv id gen= .map (some b)∧g.dn b=some (id+1)∧g.dU b=none∧w.heap[b]?=some (.map es RK)∧oQ g.aK τ xs es.toList
 | .hole gen τ xs i off d gd=>gd<g.top d∧0≤i∧i.toNat<xs.length∧τ.flat=false∧∃b cap arr ty e ys x',g.cv id gen= .slice (some ⟨b,0,none⟩) xs.length cap∧g.dn b=some (id+1)∧g.dU b=none∧w.heap[b]?=some (.cells arr ty (0,0))∧
   xs.length≤cap∧arr.size=cap*τ.size∧wK τ (at_ xs i) off=some ⟨e,ys⟩∧mw τ (at_ xs i) off e []=some x'∧arr.toList[i.toNat*τ.size+off]?=some (g.cv d gd)∧
   K3 g id τ (xs.set i.toNat x') (arr.toList.set (i.toNat*τ.size+off) (.slice none 0 0))
 | .s8 gen xs a ag bid bg off=>ag<g.top a∧bg<g.top bid∧oc (g.cv a ag)=true∧((g.cv a ag= .pointer none∧g.cv id gen= .slice none 0 0∧xs=[])∨
   ∃bb oo,g.cv bid bg= .pointer (some ⟨bb,oo,none⟩)∧g.cv a ag= .pointer (some ⟨bb,oo+off,none⟩)∧((g.cv id gen= .slice none 0 0∧xs=[])∨
    ∃b cap arr ty,g.cv id gen= .slice (some ⟨b,0,none⟩) xs.length cap∧g.dn b=some (id+1)∧g.dU b=none∧w.heap[b]?=some (.cells arr ty (0,0))∧xs.length≤cap∧arr.size=cap∧Els g.aK (.int .u8) xs arr.toList 0∧ty=AX))
structure Base where
 aK:Nat→Option (List Value)
 dn:Nat→Option Nat
 w:World
 arg:Nat→Value
 g0:Gh:=⟨fun _=>none,fun _=>0,fun _ _=> .tuple #[],fun _=>none,fun _=>none,fun _=>[]⟩
structure HRel (B:Base)(g:Gh)(hp:List (Nat×Obj))(w:World):Prop where
 top:∀id,g.top id=match look hp id with|some o=>o.gen+1|none=>0
 eG:∀id o,look hp id=some o→mF g w id o
 aK:∀b L,g.aK b=some L→g.dn b=none∧g.dU b=none∧∃arr ty fr,w.heap[b]?=some (.cells arr ty fr)∧arr.toList=L
 dU:∀b L,g.dU b=some L→g.dn b≠none∧∃arr ty,w.heap[b]?=some (.cells arr ty (0,0))∧arr.toList=L
 dR:∀b,g.dn b≠none→b<w.heap.size
 ji:∀b L,B.aK b=some L→g.aK b=some L
 frame:∀b,b<B.w.heap.size→B.dn b=none→B.aK b=none→g.dn b=none∧g.aK b=none∧w.heap[b]?=B.w.heap[b]?
 size:B.w.heap.size≤w.heap.size
 os:w.os=B.w.os
 tape:w.tape=B.w.tape
 output:w.output=B.w.output
 fix:∀b L,B.aK b=some L→w.heap[b]?=B.w.heap[b]?
structure Le (g g':Gh):Prop where
 aK:∀b L,g.aK b=some L→g'.aK b=some L
 top:∀id,g.top id≤g'.top id
 cv:∀id gen,gen<g.top id→g'.cv id gen=g.cv id gen
theorem Le.refl (g:Gh):Le g g:=⟨fun _ _ h=>h,fun _=>aq2 _,fun _ _ _=>rfl⟩
theorem Le.trans {a b c:Gh}(h:Le a b)(k:Le b c):Le a c:=
  ⟨fun x L hx=>k.aK _ _ (h.aK _ _ hx),fun id=>Nat.le_trans (h.top id) (k.top id),
   fun id gen hg=>(k.cv id gen (ar4 hg (h.top id))).trans (h.cv id gen hg)⟩
structure Lk (g g':Gh):Prop where
 le:Le g g'
 kp:∀b,g.dn b=some 0→g'.dn b=some 0∧g'.dU b=g.dU b
 out:g'.outer=g.outer
theorem Lk.refl (g:Gh):Lk g g:=⟨Le.refl g,fun _ h=>⟨h,rfl⟩,rfl⟩
theorem Lk.trans {a b c:Gh}(h:Lk a b)(k:Lk b c):Lk a c:=
 ⟨h.le.trans k.le,fun x hx=>⟨(k.kp x (h.kp x hx).1).1,((k.kp x (h.kp x hx).1).2).trans (h.kp x hx).2⟩,k.out.trans h.out⟩
theorem oB.mono {r r':Rd}(h:∀b L,r b=some L→r' b=some L):∀{xs:List Int}{u:Value},oB r xs u→oB r' xs u
 |[],_,hc=>hc
 |_::_,_,⟨b,p,e,hb,hc⟩=>⟨b,p,e,h _ _ hb,oB.mono h hc⟩
theorem Rc.mono {r r':Rd}(h:∀b L,r b=some L→r' b=some L):∀{τ:Ty}{x:τ.den}{cs:List Value},Rc r τ x cs→Rc r' τ x cs
 | .int _,_,_,hc=>hc
 | .bool,_,_,hc=>hc
 | .str,_,_,hc=>hc
 | .un,_,_,hc=>hc
 | .pr _ _,_,_,⟨c1,c2,e,h1,h2⟩=>⟨c1,c2,e,Rc.mono h h1,Rc.mono h h2⟩
 | .sl _,_,_,⟨A,c,e,hl,hc⟩=>⟨A,c,e,hl,hc.imp id fun⟨b,o,L,ea,hb,hi⟩=>⟨b,o,L,ea,h _ _ hb,fun i qE=>Rc.mono h (hi i qE)⟩⟩
 | .cl,_,_,⟨u,e,hc⟩=>⟨u,e,hc.mono h⟩
theorem Rc.length {r:Rd}:∀{τ:Ty}{x:τ.den}{cs:List Value},Rc r τ x cs→cs.length=τ.size
 | .int _,_,_,h=>by have h:_=_:=h;subst h;rfl
 | .bool,_,_,h=>by have h:_=_:=h;subst h;rfl
 | .str,_,_,⟨_,e,_⟩=>by subst e;rfl
 | .un,_,_,h=>by have h:_=_:=h;subst h;rfl
 | .pr _ _,_,_,⟨c1,c2,e,h1,h2⟩=>by subst e;simp[Ty.size,h1.length,h2.length]
 | .sl _,_,_,⟨A,c,e,_⟩=>by subst e;rfl
 | .cl,_,_,⟨u,e,_⟩=>by subst e;rfl
theorem Rc.flat {r r':Rd}:∀{τ:Ty}{x:τ.den}{cs:List Value},τ.flat=true→Rc r τ x cs→Rc r' τ x cs
 | .int _,_,_,_,hc=>hc
 | .bool,_,_,_,hc=>hc
 | .str,_,_,_,hc=>hc
 | .un,_,_,_,hc=>hc
 | .pr _ _,_,_,hf,⟨c1,c2,e,h1,h2⟩=>by
  simp only[Ty.flat,ao3]at hf;exact⟨c1,c2,e,Rc.flat hf.1 h1,Rc.flat hf.2 h2⟩
 | .sl _,_,_,hf,_=>by simp[Ty.flat]at hf
 | .cl,_,_,hf,_=>by simp[Ty.flat]at hf
theorem oQ.mono {r r':Rd}{τ:Ty}(h:∀b L,r b=some L→r' b=some L):∀{xs:List (Int×τ.den)}{es:List MapEntry},oQ r τ xs es→oQ r' τ xs es
 |[],_,hc=>hc
 |_::_,_,⟨e,r2,h1,h2,h3,h4⟩=>⟨e,r2,h1,h2,h3.mono h,oQ.mono h h4⟩
theorem Els.mono {r r':Rd}(h:∀b L,r b=some L→r' b=some L){e:Ty}{xs:List e.den}{L:List Value}{o:Nat}(H:Els r e xs L o):Els r' e xs L o:=
 fun i hi=>(H i hi).mono h
theorem Els.flat {r r':Rd}{e:Ty}(hf:e.flat=true){xs:List e.den}{L:List Value}{o:Nat}(H:Els r e xs L o):Els r' e xs L o:=
 fun i hi=>(H i hi).flat hf
theorem rR.mono {g g':Gh}(h:Le g g'):∀{cs:List (Nat×Nat)}{us:List Value},rR g cs us→rR g' cs us
 |[],_,hc=>hc
 |_::_,_,⟨b,o,v,e,ht,kX,hc⟩=>⟨b,o,v,e,ar4 ht (h.top _),(h.cv _ _ ht).trans kX,rR.mono h hc⟩
theorem bl.mono {g g':Gh}(h:Le g g'){c:Cell}{u:Value}(hc:bl g c u):bl g' c u:=by
 cases c with
 |v τ x=>exact⟨hc.1,hc.2.mono h.aK⟩
 |nil=>exact hc
 |own id gen=>exact⟨ar4 hc.1 (h.top _),hc.2.1.trans (h.cv _ _ hc.1).symm,hc.2.2⟩
 |ptr id gen off=>obtain⟨ht,b,o,e,e'⟩:=hc;exact⟨ar4 ht (h.top _),b,o,(h.cv _ _ ht).trans e,e'⟩
 |np=>exact hc
 |nf=>exact hc
 |fn f jr=>obtain⟨vs,e,hv⟩:=hc;exact⟨vs,e,hv.mono h⟩
 |err b=>exact hc
theorem aG.mono {g g':Gh}(h:Le g g'):∀{cs:List Cell}{us:List Value},aG g cs us→aG g' cs us
 |[],_,hc=>hc
 |_::_,_,⟨u,r,e,hu,hr⟩=>⟨u,r,e,hu.mono h,aG.mono h hr⟩
theorem dT.mono {g g':Gh}(h:Le g g'){v:Val}{u:Value}(hv:dT g v u):dT g' v u:=by
 cases v with
 |one c=>exact bl.mono h hv
 |agg cs=>obtain⟨us,e,hu⟩:=hv;exact⟨us,e,hu.mono h⟩
theorem eX.mono {g g':Gh}(h:Le g g'):∀{cs:List Val}{us:List Value},eX g cs us→eX g' cs us
 |[],_,hc=>hc
 |_::_,_,⟨u,r,e,hu,hr⟩=>⟨u,r,e,hu.mono h,eX.mono h hr⟩
theorem dc.mono {g g':Gh}(h:Le g g'){s:Slot}{u:Value}(hs:dc g s u):dc g' s u:=by
 cases s with
 |val v=>exact dT.mono h hs
 |ta vs=>obtain⟨us,e,hu⟩:=hs;exact⟨us,e,hu.mono h⟩
 |ea c i off sz=>obtain⟨b,o,n,cap,hc,h0,h1,e⟩:=hs;exact⟨b,o,n,cap,hc.mono h,h0,h1,e⟩
 |fa xs off=>obtain⟨x,Qp,b,p,e,hb,hc,e'⟩:=hs;exact⟨x,Qp,b,p,e,h.aK _ _ hb,hc.mono h.aK,e'⟩
 |ga k=>exact hs
 |un=>exact hs
 |sk=>exact hs
theorem bl.Cl {g:Gh}{c:Cell}{u:Value}(h:bl g c u):oc u=true:=by
 cases c with
 |v τ x=>
  obtain⟨h1,h⟩:=h
  cases τ with
  |int k=>have h:_=_:=h;injection h with h;subst h;rfl
  |bool=>have h:_=_:=h;injection h with h;subst h;rfl
  |str=>obtain⟨s,e,_⟩:=h;injection e with e;subst e;rfl
  |un=>simp[Ty.one]at h1
  |pr a b=>simp[Ty.one]at h1
  |sl e=>obtain⟨A,c,e,_⟩:=h;injection e with e;subst e;rfl
  |cl=>
   obtain⟨u',e,h⟩:=h
   injection e with e;subst e
   have hx:oB g.aK (x:List Int) u:=h
   revert hx
   generalize(x:List Int)=xs
   intro hx
   cases xs with
   |nil=>have hx:_=_:=hx;subst hx;rfl
   |cons y ys=>obtain⟨b,p,e,_⟩:=hx;subst e;rfl
 |nil=>have h:_=_:=h;subst h;rfl
 |own id gen=>exact h.2.2
 |ptr id gen off=>obtain⟨_,b,o,_,e⟩:=h;subst e;rfl
 |np=>have h:_=_:=h;subst h;rfl
 |nf=>have h:_=_:=h;subst h;rfl
 |fn f jr=>obtain⟨vs,e,_⟩:=h;subst e;rfl
 |err b=>rcases h with⟨_,e⟩|⟨_,t,v,e⟩<;>subst e<;>rfl
theorem zr {u:Value}(h:oc u=true):u.cells=#[u]:=by cases u<;>simp_all[oc,Value.cells]
theorem aG.length {g:Gh}:∀{cs:List Cell}{us:List Value},aG g cs us→us.length=cs.length
 |[],_,h=>by have h:_=_:=h;subst h;rfl
 |_::_,_,⟨_,_,e,_,hr⟩=>by subst e;simp[hr.length]
theorem dT.cells {g:Gh}{v:Val}{u:Value}(h:dT g v u):aG g v.cells u.cells.toList:=by
 cases v with
 |one c=>rw[zr (bl.Cl h)];exact⟨u,[],rfl,h,rfl⟩
 |agg cs=>obtain⟨us,e,hu⟩:=h;subst e;exact hu
theorem aG.append {g:Gh}:∀{a b:List Cell}{us vs:List Value},aG g a us→aG g b vs→aG g (a++b) (us++vs)
 |[],_,_,_,h,k=>by have h:_=_:=h;subst h;exact k
 |_::_,_,_,_,⟨u,r,e,hu,hr⟩,k=>by subst e;exact⟨u,_,rfl,hu,hr.append k⟩
theorem aG.take {g:Gh}:∀{a:List Cell}{us:List Value}(n:Nat),aG g a us→aG g (a.take n) (us.take n)
 |_,_,0,_=>by simp[aG]
 |[],_,n+1,h=>by have h:_=_:=h;subst h;simp[aG]
 |_::_,_,n+1,⟨u,r,e,hu,hr⟩=>by subst e;exact⟨u,_,rfl,hu,hr.take n⟩
theorem aG.drop {g:Gh}:∀{a:List Cell}{us:List Value}(n:Nat),aG g a us→aG g (a.drop n) (us.drop n)
 |_,_,0,h=>h
 |[],_,n+1,h=>by have h:_=_:=h;subst h;simp[aG]
 |_::_,_,n+1,⟨u,r,e,hu,hr⟩=>by subst e;exact hr.drop n
theorem aG.split {g:Gh}:∀{a b:List Cell}{us:List Value},aG g (a++b) us→∃u v,us=u++v∧aG g a u∧aG g b v
 |[],_,us,h=>⟨[],us,rfl,rfl,h⟩
 |_::_,_,_,⟨u,r,e,hu,hr⟩=>by
  obtain⟨x,y,e',hx,hy⟩:=aG.split hr;subst e;subst e';exact⟨u::x,y,rfl,⟨u,x,rfl,hu,hx⟩,hy⟩
theorem Lin.rc {r:Rd}:∀{τ:Ty}{x:τ.den}{cs:List Value}{nb:List Nat},Lin r τ x cs nb→Rc r τ x cs
 | .int _,_,_,_,h=>h.1
 | .bool,_,_,_,h=>h.1
 | .str,_,_,_,h=>h.1
 | .un,_,_,_,h=>h.1
 | .pr _ _,_,_,_,⟨c1,c2,_,_,e,_,h1,h2⟩=>⟨c1,c2,e,h1.rc,h2.rc⟩
 | .sl _,_,_,_,⟨_, .inl ⟨e,e',_⟩⟩=>by subst e';exact⟨none,0,e,aq2 _, .inl rfl⟩
 | .sl _,_,_,_,⟨_, .inr ⟨b,c,L,e,hl,_,hb,_,he⟩⟩=>⟨some ⟨b,0,none⟩,c,e,hl, .inr ⟨b,0,L,rfl,hb,he⟩⟩
 | .cl,_,_,_,h=>h.elim
theorem Lin.mono {r r':Rd}:∀{τ:Ty}{x:τ.den}{cs:List Value}{nb:List Nat},(∀b∈nb,∀L,r b=some L→r' b=some L)→Lin r τ x cs nb→Lin r' τ x cs nb
 | .int _,_,_,_,_,h=>h
 | .bool,_,_,_,_,h=>h
 | .str,_,_,_,_,h=>h
 | .un,_,_,_,_,h=>h
 | .pr _ _,_,_,_,hm,⟨c1,c2,n1,n2,e,e',h1,h2⟩=>
  ⟨c1,c2,n1,n2,e,e',h1.mono (fun b hb=>hm b (by subst e';exact ar3 _ hb)),h2.mono (fun b hb=>hm b (by subst e';exact ar0 _ hb))⟩
 | .sl _,_,_,_,_,⟨f, .inl h⟩=>⟨f, .inl h⟩
 | .sl _,_,_,_,hm,⟨f, .inr ⟨b,c,L,e,hl,hn,hb,hL,he⟩⟩=>⟨f, .inr ⟨b,c,L,e,hl,hn,hm b (by subst hn;simp) L hb,hL,he.flat f⟩⟩
 | .cl,_,_,_,_,h=>h.elim
theorem fe.mono {r r':Rd}{e:Ty}:∀{xs:List e.den}{L:List Value}{nb:List Nat},(∀b∈nb,∀L,r b=some L→r' b=some L)→fe r e xs L nb→fe r' e xs L nb
 |[],_,_,_,h=>h
 |_::_,_,_,hm,⟨n1,n2,e',h1,h2⟩=>
  ⟨n1,n2,e',h1.mono (fun b hb=>hm b (by subst e';exact ar3 _ hb)),h2.mono (fun b hb=>hm b (by subst e';exact ar0 _ hb))⟩
theorem fe.els {r:Rd}{e:Ty}:∀{xs:List e.den}{L:List Value}{nb:List Nat},fe r e xs L nb→Els r e xs L 0
 |[],_,_,_=>fun i hi=>absurd hi (by simp)
 |x::xs,L,_,⟨_,_,_,h1,h2⟩=>fun i hi=>by
  cases i with
  |zero=>simpa using h1.rc
  |succ i=>
   have qE:i<xs.length:=(by simpa using hi);have h:=h2.els i qE
   have e1:0+(i+1)*e.size=e.size+(0+i*e.size):=by rw[Nat.add_mul];omega
   simp only[List.getElem_cons_succ];rw[e1,←List.drop_drop];exact h
theorem fe.mQ {r:Rd}{e:Ty}:∀{xs:List e.den}{L:List Value}{nb:List Nat},fe r e xs L nb→∀b∈nb,r b≠none:=by
 have ae7:∀{τ:Ty} {x:τ.den} {cs:List Value} {nb:List Nat},Lin r τ x cs nb→∀b∈nb,r b≠none:=by
  intro τ
  induction τ with
  |int k=>intro x cs nb h b hb;rw[h.2]at hb;simp at hb
  |bool=>intro x cs nb h b hb;rw[h.2]at hb;simp at hb
  |str=>intro x cs nb h b hb;rw[h.2]at hb;simp at hb
  |un=>intro x cs nb h b hb;rw[h.2]at hb;simp at hb
  |pr a b vo vn=>
   intro x cs nb ⟨c1,c2,n1,n2,_,e,h1,h2⟩ b hb;subst e
   rcases aq6.1 hb with hb|hb
   ·exact vo h1 b hb
   ·exact vn h2 b hb
  |sl e _=>
   intro x cs nb ⟨_,h⟩ b hb
   rcases h with⟨_,_,e⟩|⟨b',c,L,_,_,e,hr,_⟩
   ·subst e;simp at hb
   ·subst e;simp only[List.mem_singleton]at hb;subst hb;rw[hr];simp
  |cl=>intro x cs nb h;exact h.elim
 intro xs
 induction xs with
 |nil=>intro L nb h b hb;have h:_=_:=h;subst h;simp at hb
 |cons x xs ih=>
  intro L nb ⟨n1,n2,e,h1,h2⟩ b hb;subst e
  rcases aq6.1 hb with hb|hb
  ·exact ae7 h1 b hb
  ·exact ih h2 b hb
theorem mF.tr {g g':Gh}{w w':World}{id:Nat}{o:Obj}(hle:Le g g')(hl:∀b,g.dn b=some (id+1)→g'.dn b=some (id+1)∧g'.dU b=g.dU b∧w'.heap[b]?=w.heap[b]?)
  (ho:g'.outer id=g.outer id) (hg:o.gen<g.top id) (h:mF g w id o):mF g' w' id o:=by
 cases o with
 |box gen r=>
  obtain⟨b,o,arr,ty,L,h1,h2,h3,h4,h5,h6,h7⟩:=h;obtain⟨a1,a2,a3⟩:=hl b h2.1;refine⟨b,o,arr,ty,L,(hle.cv _ _ hg).trans h1,⟨a1,a2.trans h2.2⟩,a3.trans h3,h4.mono hle, ?_, ?_,by rw[ho];exact h7⟩
  ·rw[ho];exact h5
  ·rw[ho];exact h6
 |own gen τ deep xs=>
  rcases h with⟨h1,h2⟩|⟨b,cap,arr,ty,h1,h2,h3,h4,h5,h6,h7⟩
  ·exact .inl ⟨(hle.cv _ _ hg).trans h1,h2⟩
  ·obtain⟨a1,a2,a3⟩:=hl b h2;refine .inr ⟨b,cap,arr,ty,(hle.cv _ _ hg).trans h1,a1,a2.trans h3,a3.trans h4,h5,h6, ?_⟩;unfold dE at h7⊢;split
   ·rename_i hd;rw[as0 hd]at h7;obtain⟨nb,k1,k2,k3⟩:=h7;exact⟨nb,k1.mono (fun b hb L hL=>by rw[(hl b (k3 b hb)).2.1];exact hL),k2,fun b hb=>(hl b (k3 b hb)).1⟩
   ·rename_i hd;rw[ar1 hd]at h7;exact h7.mono hle.aK
 |dC gen τ xs=>have h:Rc _ _ _ _:=h;show Rc _ _ _ _;rw[show g'.cv id gen=g.cv id gen from hle.cv _ _ hg];exact h.mono hle.aK
 |Vl gen xs=>have h:oB _ _ _:=h;show oB _ _ _;rw[show g'.cv id gen=g.cv id gen from hle.cv _ _ hg];exact h.mono hle.aK
 |dead _=>trivial
 |iu _ _=>trivial
 |mp gen τ xs=>
  obtain⟨h1,b,es,RK,k1,k2,k3,k4,k5⟩:=h;obtain⟨a1,a2,a3⟩:=hl b k2;exact⟨h1,b,es,RK,(hle.cv _ _ hg).trans k1,a1,a2.trans k3,a3.trans k4,k5.mono hle.aK⟩
 |hole gen τ xs i off d gd=>
  obtain⟨h0,an3,aj5,hf,b,cap,arr,ty,e,ys,x',h1,h2,h3,h4,h5,h6,h7,h8,h9,nb,k1,k2,k3⟩:=h;obtain⟨a1,a2,a3⟩:=hl b h2
  exact⟨ar4 h0 (hle.top _),an3,aj5,hf,b,cap,arr,ty,e,ys,x',(hle.cv _ _ hg).trans h1,a1,a2.trans h3,a3.trans h4,h5,h6,h7,h8,by rw[hle.cv _ _ h0];exact h9,
   nb,k1.mono (fun b hb L hL=>by rw[(hl b (k3 b hb)).2.1];exact hL),k2,fun b hb=>(hl b (k3 b hb)).1⟩
 |s8 gen xs a ag bid bg off=>
  obtain⟨h1,h2,h3,h4⟩:=h;refine⟨ar4 h1 (hle.top _),ar4 h2 (hle.top _),by rw[hle.cv _ _ h1];exact h3, ?_⟩;rw[hle.cv _ _ h1,hle.cv _ _ h2,show g'.cv id gen=g.cv id gen from hle.cv _ _ hg]
  rcases h4 with h4|⟨bb,oo,k1,k2,h4⟩
  ·exact .inl h4
  ·refine .inr ⟨bb,oo,k1,k2, ?_⟩
   rcases h4 with h4|⟨b,cap,arr,ty,e1,e2,e3,e4,e5,e6,e7,e8⟩
   ·exact .inl h4
   ·obtain⟨a1,a2,a3⟩:=hl b e2;exact .inr ⟨b,cap,arr,ty,e1,a1,a2.trans e3,a3.trans e4,e5,e6,e7.mono hle.aK,e8⟩
end Go.Abs
end

section
namespace Go.Abs
theorem AM.run_bind {α β:Type}(m:AM α)(f:α→AM β):∀s,(m.bind f).run s=(m.run s).bind fun p=>(f p.1).run p.2:=by
 induction m with
 |ret a=>intro s;rfl
 |br b t e Qb PO=>intro s;cases b<;>simp[AM.bind,AM.run,Qb,PO]
 |fail=>intro s;rfl
 |uR t k ih=>intro s;simp only[AM.bind,AM.run];cases look s.env t<;>simp[ih]
 |zU t x k ih=>intro s;simp[AM.bind,AM.run,ih]
 |jQ i k ih=>intro s;simp[AM.bind,AM.run,ih]
 |jY i o k ih=>intro s;simp[AM.bind,AM.run,ih]
 |opt c x k ih=>intro s;cases x<;>simp[AM.bind,AM.run,ih]
theorem AM.ah {α β:Type}{m:AM α}{f:α→AM β}{s s':St}{b:β}(h:(m.bind f).run s=some (b,s')):
  ∃a t,m.run s=some (a,t)∧(f a).run t=some (b,s'):=by
 rw[AM.run_bind]at h
 cases hm:m.run s with
 |none=>rw[hm]at h;cases h
 |some p=>rw[hm]at h;exact⟨p.1,p.2,rfl,h⟩
theorem aC {β:Type}(l:List (Nat×β))(n:Nat)(b:β):look ((n,b)::l) n=some b:=by simp[look]
theorem ay {β:Type}(l:List (Nat×β)){n m:Nat}(b:β)(h:n≠m):look ((n,b)::l) m=look l m:=by
 have:Nat.beq n m=false:=by rw[Bool.eq_false_iff];intro e;exact h (Nat.eq_of_beq_eq_true e)
 simp[look,this]
theorem beq_eq {a b:Nat}(h:Nat.beq a b=true):a=b:=Nat.eq_of_beq_eq_true h
def Gh.mR (g:Gh)(S:Nat→Option (List Value)):Gh:=
  { g with aK := fun x => match S x with | some L => some L | none => g.aK x
           dn:=fun x=>match S x with|some _=>none|none=>g.dn x
           dU:=fun x=>match S x with|some _=>none|none=>g.dU x}
theorem HRel.Cx {B:Base}{g:Gh}{hp:List (Nat×Obj)}{w:World}(R:HRel B g hp w){S:Nat→Option (List Value)}{id:Nat}
  (hS:∀x L,S x=some L→g.dn x=some (id+1)):Le g (g.mR S):=by
 refine⟨fun b L h=> ?_,fun _=>aq2 _,fun _ _ _=>rfl⟩;show(match S b with|some L=>some L|none=>g.aK b)=some L
 cases hs:S b with
 |none=>exact h
 |some L'=>exact absurd (hS b L' hs) (by rw[(R.aK b L h).1];simp)
theorem HRel.Ci {B:Base}{g:Gh}{hp:List (Nat×Obj)}{w:World}(R:HRel B g hp w){S:Nat→Option (List Value)}{id:Nat}
  (hS:∀x L,S x=some L→g.dn x=some (id+1)):Lk g (g.mR S):=by
 refine⟨R.Cx hS,fun b hb=> ?_,rfl⟩
 have hn:S b=none:=by
  cases hs:S b with
  |none=>rfl
  |some L=>exact absurd ((hS b L hs).symm.trans hb) (by simp)
 simp[Gh.mR,hn,hb]
theorem HRel.Hb {B:Base}{g:Gh}{hp:List (Nat×Obj)}{w:World}(R:HRel B g hp w){S:Nat→Option (List Value)}{id:Nat}{o o':Obj}
  (hS:∀x L,S x=some L→g.dn x=some (id+1)∧∃arr ty fr,w.heap[x]?=some (.cells arr ty fr)∧arr.toList=L)
  (ho:look hp id=some o) (wO:o'.gen=o.gen) (Es:mF (g.mR S) w id o'):HRel B (g.mR S) ((id,o')::hp) w:=by
 have hle:=R.Cx (fun x L h=>(hS x L h).1);refine⟨fun i=> ?_,fun i oi hi=> ?_,fun b L h=> ?_,fun b L h=> ?_,fun b h=> ?_,fun b L h=>hle.aK _ _ (R.ji b L h),fun b hb hl hi=> ?_,R.size,R.os,R.tape,R.output,R.fix⟩
 ·show g.top i=_;rw[R.top i]
  by_cases e:id=i
  ·subst e;rw[aC,ho];simp[wO]
  ·rw[ay _ _ e]
 ·by_cases e:id=i
  ·subst e;rw[aC]at hi;injection hi with hi;subst hi;exact Es
  ·rw[ay _ _ e]at hi;refine(R.eG i oi hi).tr hle (fun b hb=> ?_) rfl (by rw[R.top i,hi];exact Nat.lt_succ_self _)
   have hn:S b=none:=by
    cases hs:S b with
    |none=>rfl
    |some L=>exact absurd ((hS b L hs).1.symm.trans hb) (by simpa using e)
   simp[Gh.mR,hn,hb]
 ·simp only[Gh.mR]at h⊢
  cases hs:S b with
  |some L'=>
   rw[hs]at h
   injection h with h;subst h
   obtain⟨arr,ty,fr,h1,h2⟩:=(hS b L' hs).2;exact⟨rfl,rfl,arr,ty,fr,h1,h2⟩
  |none=>rw[hs]at h;exact R.aK b L h
 ·simp only[Gh.mR]at h⊢
  cases hs:S b with
  |some L'=>rw[hs]at h;cases h
  |none=>rw[hs]at h;exact R.dU b L h
 ·simp only[Gh.mR]at h
  cases hs:S b with
  |some L'=>rw[hs]at h;exact absurd rfl h
  |none=>rw[hs]at h;exact R.dR b h
 ·obtain⟨f1,f2,f3⟩:=R.frame b hb hl hi
  have hn:S b=none:=by
   cases hs:S b with
   |none=>rfl
   |some L=>exact absurd (hS b L hs).1 (by rw[f1];simp)
  simp[Gh.mR,hn,f1,f2,f3]
theorem HRel.put {B:Base}{g:Gh}{hp:List (Nat×Obj)}{w:World}(R:HRel B g hp w){id:Nat}{o o':Obj}
  (ho:look hp id=some o) (wO:o'.gen=o.gen) (Es:mF g w id o'):HRel B g ((id,o')::hp) w:=by
 refine⟨fun i=> ?_,fun i oi hi=> ?_,R.aK,R.dU,R.dR,R.ji,R.frame,R.size,R.os,R.tape,R.output,R.fix⟩
 ·rw[R.top i]
  by_cases e:id=i
  ·subst e;rw[aC,ho];simp[wO]
  ·rw[ay _ _ e]
 ·by_cases e:id=i
  ·subst e;rw[aC]at hi;injection hi with hi;subst hi;exact Es
  ·rw[ay _ _ e]at hi;exact R.eG i oi hi
open Classical in
noncomputable def nbS (g:Gh)(nb:List Nat):Nat→Option (List Value):=fun x=>if x∈nb then g.dU x else none
theorem HRel.K9 {B:Base}{g:Gh}{hp:List (Nat×Obj)}{w:World}(R:HRel B g hp w){id gen:Nat}{τ:Ty}{deep:Bool}{xs:List τ.den}
  (h:look hp id=some (.own gen τ deep xs)):∃g',Lk g g'∧HRel B g' ((id, .own gen τ false xs)::hp) w:=by
 have hO:=R.eG _ _ h
 rcases hO with⟨h1,h2⟩|⟨b,cap,arr,ty,h1,h2,h3,h4,h5,h6,h7⟩
 ·exact⟨g,Lk.refl g,R.put h rfl (.inl ⟨h1,h2⟩)⟩
 ·by_cases hd:(deep&& !τ.flat)=true
  ·unfold dE at h7;rw[as0 hd]at h7;obtain⟨nb,k1,k2,k3⟩:=h7
   have hS:∀x L,nbS g nb x=some L→g.dn x=some (id+1)∧∃arr ty fr,w.heap[x]?=some (.cells arr ty fr)∧arr.toList=L:=by
    intro x L hx;unfold nbS at hx;split at hx
    ·rename_i hm;obtain⟨_,arr,ty,a,b⟩:=R.dU x L hx;exact⟨k3 x hm,arr,ty,(0,0),a,b⟩
    ·cases hx
   have Ew:b∉nb:=fun hm=>k1.mQ b hm h3
   have sG:nbS g nb b=none:=(by simp[nbS,Ew]);refine⟨_,R.Ci (fun x L hx=>(hS x L hx).1),R.Hb hS h rfl (.inr ⟨b,cap,arr,ty,h1,by simp[Gh.mR,sG,h2],by simp[Gh.mR,sG,h3],h4,h5,h6, ?_⟩)⟩;show dE _ _ _ false _ _;unfold dE;simp only[ao9,ar9,at3];refine fe.els (nb:=nb) (k1.mono fun x hx L hL=> ?_);simp[Gh.mR,nbS,hx,hL]
  ·refine⟨g,Lk.refl g,R.put h rfl (.inr ⟨b,cap,arr,ty,h1,h2,h3,h4,h5,h6, ?_⟩)⟩;unfold dE at h7⊢;rw[ar1 hd]at h7;simpa using h7
theorem HRel.Q5 {B:Base}{g:Gh}{hp:List (Nat×Obj)}{w:World}(R:HRel B g hp w){id gen:Nat}{τ:Ty}{xs:List τ.den}
  (h:look hp id=some (.own gen τ false xs)):∃g',Lk g g'∧HRel B g' ((id, .dC gen τ xs)::hp) w:=by
 have hO:=R.eG _ _ h
 rcases hO with⟨h1,h2⟩|⟨b,cap,arr,ty,h1,h2,h3,h4,h5,h6,h7⟩
 ·exact⟨g,Lk.refl g,R.put h rfl (by subst h2;exact⟨none,0,by rw[h1];rfl,aq2 _, .inl rfl⟩)⟩
 ·let S:Nat→Option (List Value):=fun x=>if x=b then some arr.toList else none
  have hS:∀x L,S x=some L→g.dn x=some (id+1)∧∃arr ty fr,w.heap[x]?=some (.cells arr ty fr)∧arr.toList=L:=by
   intro x L hx;simp only[S]at hx;split at hx
   ·rename_i e;subst e;injection hx with hx;exact⟨h2,arr,ty,_,h4,hx⟩
   ·cases hx
  have hle:=R.Cx (fun x L hx=>(hS x L hx).1);refine⟨_,R.Ci (fun x L hx=>(hS x L hx).1),R.Hb hS h rfl ?_⟩;unfold dE at h7;simp only[ao9,ar9,at3]at h7;exact⟨some ⟨b,0,none⟩,cap,by show [g.cv id gen]=_;rw[h1],h5, .inr ⟨b,0,arr.toList,rfl,by simp[Gh.mR,S],fun i hi=>(h7 i hi).mono hle.aK⟩⟩
theorem HRel.DO {B:Base}{g:Gh}{hp:List (Nat×Obj)}{w:World}(R:HRel B g hp w){id gen:Nat}{τ:Ty}{deep:Bool}{xs:List τ.den}
  (h:look hp id=some (.own gen τ deep xs)):∃g',Lk g g'∧HRel B g' ((id, .dC gen τ xs)::hp) w:=by
 obtain⟨g1,l1,R1⟩:=R.K9 h;obtain⟨g2,l2,R2⟩:=R1.Q5 (aC _ _ _);refine⟨g2,l1.trans l2,⟨fun i=> ?_,fun i o hi=> ?_,R2.aK,R2.dU,R2.dR,R2.ji,R2.frame,R2.size,R2.os,R2.tape,R2.output,R2.fix⟩⟩
 ·rw[R2.top i]
  by_cases e:id=i
  ·subst e;simp[aC]
  ·simp[ay _ _ e]
 ·refine R2.eG i o ?_
  by_cases e:id=i
  ·subst e;simpa[aC]using hi
  ·simpa[ay _ _ e]using hi
theorem HRel.Kl {B:Base}{g:Gh}{hp:List (Nat×Obj)}{w:World}(R:HRel B g hp w){id gen:Nat}{x:Int}{c:Cell}{xs:List Int}{bt:Nat}
  (h:look hp id=some (.box gen (bt,[.v (.int .i64) x,c]))) (hid:id<FT)
  {b0 o0:Nat} {ku:Array Value} {EN:TypeId} {ah3:Nat×Nat} {u0:Value} (Mb:g.cv id gen= .pointer (some ⟨b0,o0,none⟩)) (Nc:w.heap[b0]?=some (.cells ku EN ah3))
  (M7:ku.toList[1]?=some u0) (hc:oB g.aK xs u0):∃g',Lk g g'∧HRel B g' ((id, .Vl gen (x::xs))::hp) w:=by
 obtain⟨b,o,arr,ty,L,h1,h2,h3,h4,h5,h6,h7⟩:=R.eG _ _ h;obtain⟨u1,r1,e1,nw,u2,r2,e2,xx,e3⟩:=h4;have e3:r2=[]:=e3;subst e3;subst e2;subst e1;have UX:_=_:=nw.2
 injection UX with UX
 subst UX;obtain⟨rfl,hlen,_⟩:=h7;simp only[ao0,ao2]at hlen;rw[h1]at Mb
 injection Mb with Mb;injection Mb with Mb;injection Mb with Mb ho0
 subst Mb;rw[h3]at Nc
 injection Nc with Nc;injection Nc with Nc
 subst Nc
 have zR:arr.toList=[.int .i64 x,u2]:=by
  rw[h5];have:List.drop (0+2) (g.outer id)=[]:=List.drop_eq_nil_of_le (by omega);simp[this]
 let S:Nat→Option (List Value):=fun y=>if y=b then some arr.toList else none
 have hS:∀x L,S x=some L→g.dn x=some (id+1)∧∃arr ty fr,w.heap[x]?=some (.cells arr ty fr)∧arr.toList=L:=by
  intro x L hx;simp only[S]at hx;split at hx
  ·rename_i e;subst e;injection hx with hx;exact⟨h2.1,arr,ty,_,h3,hx⟩
  ·cases hx
 have hle:=R.Cx (fun x L hx=>(hS x L hx).1);refine⟨_,R.Ci (fun x L hx=>(hS x L hx).1),R.Hb hS h rfl ?_⟩
 have hu:u2=u0:=by rw[zR]at M7;simpa using M7
 subst hu;exact⟨b,u2,h1,by simp[Gh.mR,S,zR],hc.mono hle.aK⟩
theorem HRel.Pq {B:Base}{g:Gh}{hp:List (Nat×Obj)}{w:World}(R:HRel B g hp w){id gen:Nat}{τ:Ty}{deep:Bool}{xs:List τ.den}
  (h:look hp id=some (.own gen τ deep xs)) (hf:τ.flat=true):∃g' nb,Lk g g'∧HRel B g' ((id, .dead gen)::hp) w∧
   Lin g'.dU (.sl τ) xs [g.cv id gen] nb∧nb.Nodup∧∀b∈nb,g'.dn b=some 0∧g.dn b≠some 0:=by
 rcases R.eG _ _ h with⟨h1,h2⟩|⟨b,cap,arr,ty,h1,h2,h3,h4,h5,h6,h7⟩
 ·exact⟨g,[],Lk.refl g,R.put h rfl trivial,⟨hf, .inl ⟨by rw[h1],h2,rfl⟩⟩,as2,fun b hb=>by simp at hb⟩
 ·let g':Gh:={g with dn:=fun x=>if x=b then some 0 else g.dn x,dU:=fun x=>if x=b then some arr.toList else g.dU x}
  have hle:Le g g':=⟨fun _ _ h=>h,fun _=>aq2 _,fun _ _ _=>rfl⟩
  have jj:∀x,g.dn x=some 0→x≠b:=fun x hx e=>by subst e;rw[h2]at hx;simp at hx
  refine⟨g',[b],⟨hle,fun x hx=>by simp[g',jj x hx,hx],rfl⟩, ?_,⟨hf, .inr ⟨b,cap,arr.toList,by rw[h1],h5,rfl,by simp[g'],by simpa using h6, ?_⟩⟩,by simp,fun x hx=>by
   simp only[List.mem_singleton]at hx;subst hx;exact⟨by simp[g'],by rw[h2];simp⟩⟩
  ·refine⟨fun i=> ?_,fun i oi hi=> ?_,fun x L hx=> ?_,fun x L hx=> ?_,fun x hx=> ?_,R.ji,fun x hx hl hi=> ?_,R.size,R.os,R.tape,R.output,R.fix⟩
   ·show g.top i=_;rw[R.top i]
    by_cases e:id=i
    ·subst e;rw[aC,h];rfl
    ·rw[ay _ _ e]
   ·by_cases e:id=i
    ·subst e;rw[aC]at hi;injection hi with hi;subst hi;trivial
    ·rw[ay _ _ e]at hi;refine(R.eG i oi hi).tr hle (fun x hx=> ?_) rfl (by rw[R.top i,hi];exact Nat.lt_succ_self _)
     have jX:x≠b:=fun e'=>by subst e';rw[h2]at hx;simp at hx;exact e hx
     simp[g',jX,hx]
   ·have jX:x≠b:=fun e'=>by subst e';have:=(R.aK x L hx).1;rw[h2]at this;cases this
    obtain⟨a1,a2,a3⟩:=R.aK x L hx;exact⟨by simp[g',jX,a1],by simp[g',jX,a2],a3⟩
   ·by_cases jX:x=b
    ·subst jX;simp only[g',if_true]at hx⊢
     injection hx with hx
     exact⟨by simp,arr,ty,h4,hx⟩
    ·simp only[g',jX,at3]at hx⊢;exact R.dU x L hx
   ·by_cases jX:x=b
    ·subst jX;exact R.dR x (by rw[h2];simp)
    ·simp only[g',jX,at3]at hx;exact R.dR x hx
   ·obtain⟨f1,f2,f3⟩:=R.frame x hx hl hi
    have jX:x≠b:=fun e'=>by subst e';rw[h2]at f1;cases f1
    exact⟨by simp[g',jX,f1],f2,f3⟩
  ·unfold dE at h7;simp only[hf,aq3,ao7,ar9,at3]at h7;exact h7.flat hf
end Go.Abs
end

section
namespace Go.Abs
def il (g:Gh)(env:List (Nat×Slot))(a:Act):Prop:=∀t s,look env t=some s→dc g s (a.tmps.getD t undef)
theorem il.mono {g g':Gh}(h:Le g g'){env:List (Nat×Slot)}{a:Act}(H:il g env a):il g' env a:=fun t s hs=>(H t s hs).mono h
theorem ai {α:Type}{a b:α}{s s':St}(h:(AM.ret a).run s=some (b,s')):b=a∧s'=s:=by
 simp only[AM.run,ar8,as9]at h;exact⟨h.1.symm,h.2.symm⟩
theorem cn {α:Type}{x:Option α}{b:α}{s s':St}(h:(im x).run s=some (b,s')):x=some b∧s'=s:=by
 cases x with
 |none=>cases h
 |some a=>obtain⟨rfl,rfl⟩:=ai h;exact⟨rfl,rfl⟩
theorem jN {τ τ':Ty}{x:List τ.den}{y:List τ'.den}{s s':St}(h:(tR (τ':=τ') x).run s=some (y,s')):∃e:τ=τ',y=e ▸ x∧s'=s:=by
 unfold tR at h;split at h
 ·rename_i e;obtain⟨h1,h2⟩:=ai h;exact⟨e,h1,h2⟩
 ·cases h
theorem Kz {α:Type}{b:Bool}{m n:AM α}{x:α}{s s':St}(h:(AM.br b m n).run s=some (x,s')):(b=true∧m.run s=some (x,s'))∨(b=false∧n.run s=some (x,s')):=by
 cases b
 ·exact .inr ⟨rfl,h⟩
 ·exact .inl ⟨rfl,h⟩
theorem lH {α:Type}{b:Bool}{m:AM α}{x:α}{s s':St}(h:(AM.br b m .fail).run s=some (x,s')):b=true∧m.run s=some (x,s'):=by
 rcases Kz h with h|⟨_,h⟩
 ·exact h
 ·cases h
theorem bh {α:Type}{b:Bool}{m:AM α}{x:α}{s s':St}(h:(bif b then m else AM.fail).run s=some (x,s')):b=true∧m.run s=some (x,s'):=by
 cases b
 ·cases h
 ·exact⟨rfl,h⟩
theorem gB {B:Base}{g:Gh}{hp:List (Nat×Obj)}{w:World}(R:HRel B g hp w){id:Nat}{o:Obj}(h:look hp id=some o):o.gen<g.top id:=by
 rw[R.top id,h];exact Nat.lt_succ_self _
theorem Ki:∀(k:Nat)(c:Cell)(s:St)(xs:List Int)(s':St),(MV k c).run s=some (xs,s')→
  s'.env=s.env∧(∀i g cs,look s'.hp i=some (.box g cs)→look s.hp i=some (.box g cs))∧
   ∀B g w,HRel B g s.hp w→∃g',Lk g g'∧HRel B g' s'.hp w∧∀u,bl g c u→oB g'.aK xs u:=by
 intro k
 have np:∀(s:St) (xs:List Int) (s':St),(AM.ret ([]:List Int)).run s=some (xs,s')→
   s'.env=s.env∧(∀i g cs,look s'.hp i=some (.box g cs)→look s.hp i=some (.box g cs))∧
   ∀B g w,HRel B g s.hp w→∃g',Lk g g'∧HRel B g' s'.hp w∧∀u,bl g .np u→oB g'.aK xs u:=by
  intro s xs s' h;obtain⟨rfl,rfl⟩:=ai h;exact⟨rfl,fun _ _ _ h=>h,fun B g w R=>⟨g,Lk.refl g,R,fun u hc=>hc⟩⟩
 have v:∀(x:List Int) (s:St) (xs:List Int) (s':St),(AM.ret x).run s=some (xs,s')→
   s'.env=s.env∧(∀i g cs,look s'.hp i=some (.box g cs)→look s.hp i=some (.box g cs))∧
   ∀B g w,HRel B g s.hp w→∃g',Lk g g'∧HRel B g' s'.hp w∧∀u,bl g (.v .cl x) u→oB g'.aK xs u:=by
  intro x s xs s' h;obtain⟨rfl,rfl⟩:=ai h;exact⟨rfl,fun _ _ _ h=>h,fun B g w R=>⟨g,Lk.refl g,R,fun u hc=>by obtain⟨_,u',e,hx⟩:=hc;injection e with e;subst e;exact hx⟩⟩
 induction k with
 |zero=>
  intro c s xs s' h
  cases c with
  |v τ x=>cases τ<;>first|exact v _ _ _ _ h|exact nomatch h
  |np=>exact np _ _ _ h
  |nf=>exact nomatch h
  |nil=>exact nomatch h
  |own _ _=>exact nomatch h
  |ptr _ _ off=>cases off<;>exact nomatch h
  |fn _ _=>exact nomatch h
  |err _=>exact nomatch h
 |succ k ih=>
  intro c s xs s' h
  cases c with
  |v τ x=>cases τ<;>first|exact v _ _ _ _ h|exact nomatch h
  |np=>exact np _ _ _ h
  |nf=>exact nomatch h
  |nil=>exact nomatch h
  |own _ _=>exact nomatch h
  |fn _ _=>exact nomatch h
  |err _=>exact nomatch h
  |ptr id gen off=>
   cases off with
   |succ n=>exact nomatch h
   |zero=>
    simp only[MV,AM.run]at h;split at h
    ·rename_i g0 x c heq;obtain⟨hb,h'⟩:=bh h;clear h;simp only[ao3]at hb;obtain rfl:=beq_eq hb.1;have hid:id<FT:=aq4 hb.2;obtain⟨ys,t,h1,h2⟩:=AM.ah h';clear h';obtain⟨he,W2,hs⟩:=ih _ _ _ _ h1;simp only[AM.run]at h2;split at h2
     ·rename_i g1 cs1 Xj;have e1:=(W2 _ _ _ Xj).symm.trans heq
      injection e1 with e1
      injection e1 with ea eb
      subst ea;subst eb;simp only[AM.run,ar8,as9]at h2;obtain⟨rfl,rfl⟩:=h2;refine⟨he,fun i g cs hi=> ?_,fun B g w R=> ?_⟩
      ·by_cases ei:id=i
       ·subst ei;simp[aC]at hi
       ·rw[ay _ _ ei]at hi;exact W2 _ _ _ hi
      ·have ht:=gB R heq;obtain⟨b',o',arr,ty,L,k1,k2,k3,k4,k5,k6,k7⟩:=R.eG _ _ heq;obtain⟨u1,r1,e1,nw,u2,r2,e2,xx,e3⟩:=k4;have e3:r2=[]:=e3;subst e3;subst e2;subst e1;obtain⟨g2,l1,R1,RC⟩:=hs B g w R;obtain⟨rfl,hlen,_⟩:=k7;have Yp:g2.cv id g1= .pointer (some ⟨b',0,none⟩):=(l1.le.cv _ _ ht).trans k1;obtain⟨g3,l2,R2⟩:=R1.Kl Xj hid Yp k3 (by rw[k5];simp) (RC u2 xx);refine⟨g3,l1.trans l2,R2,fun u hc=> ?_⟩;obtain⟨_,b,o,kX,hu⟩:=hc;have hP:oB _ _ _:=R2.eG _ _ (aC _ _ _);have YX:g3.cv id g1=g.cv id g1:=(l1.trans l2).le.cv _ _ ht;rw[YX,kX]at hP;subst hu;exact hP
     ·exact nomatch h2
    ·rename_i g0 ys heq;obtain⟨hb,h'⟩:=bh h;clear h;obtain rfl:=beq_eq hb;obtain⟨rfl,rfl⟩:=ai h';refine⟨rfl,fun _ _ _ h=>h,fun B g w R=>⟨g,Lk.refl g,R,fun u hc=> ?_⟩⟩;obtain⟨ht,b,o,kX,hu⟩:=hc;have RC:oB _ _ _:=R.eG _ _ heq;rw[kX]at RC;subst hu;exact RC
    ·exact nomatch h
theorem Bu (τ:Ty)(c:Cell)(s:St)(x:τ.den)(s':St)(h:(datum τ c).run s=some (x,s')):
  s'.env=s.env∧∀B g w,HRel B g s.hp w→∃g',Lk g g'∧HRel B g' s'.hp w∧∀u,bl g c u→τ.one=true∧Rc g'.aK τ x [u]:=by
 cases τ with
 |int k=>
  cases c with
  |v τ' x'=>
   cases τ' with
   |int k'=> ?_
   |_=>exact nomatch h
   simp only[datum]at h;split at h
   ·rename_i e;subst e;obtain⟨rfl,rfl⟩:=ai h;exact⟨rfl,fun B g w R=>⟨g,Lk.refl g,R,fun u hc=>hc⟩⟩
   ·exact nomatch h
  |_=>exact nomatch h
 |bool=>
  cases c with
  |v τ' x'=>
   cases τ' with
   |bool=> ?_
   |_=>exact nomatch h
   obtain⟨rfl,rfl⟩:=ai h;exact⟨rfl,fun B g w R=>⟨g,Lk.refl g,R,fun u hc=>hc⟩⟩
  |_=>exact nomatch h
 |str=>
  cases c with
  |v τ' x'=>
   cases τ' with
   |str=> ?_
   |_=>exact nomatch h
   obtain⟨rfl,rfl⟩:=ai h;exact⟨rfl,fun B g w R=>⟨g,Lk.refl g,R,fun u hc=>hc⟩⟩
  |_=>exact nomatch h
 |un=>cases c<;>exact nomatch h
 |pr a b=>cases c<;>exact nomatch h
 |cl=>
  obtain⟨he,_,hs⟩:=Ki 4 c s x s' h;refine⟨he,fun B g w R=> ?_⟩;obtain⟨g',l,R',hc⟩:=hs B g w R;exact⟨g',l,R',fun u hu=>⟨rfl,u,rfl,hc u hu⟩⟩
 |sl e=>
  cases c with
  |v τ' x'=>
   cases τ' with
   |sl e'=> ?_
   |_=>exact nomatch h
   simp only[datum]at h;obtain⟨ee,hx,rfl⟩:=jN h;subst ee;subst hx;exact⟨rfl,fun B g w R=>⟨g,Lk.refl g,R,fun u hc=>hc⟩⟩
  |nil=>
   obtain⟨rfl,rfl⟩:=ai h;exact⟨rfl,fun B g w R=>⟨g,Lk.refl g,R,fun u hc=>⟨rfl,none,0,by have hc:_=_:=hc;subst hc;rfl,aq2 _, .inl rfl⟩⟩⟩
  |own id gen=>
   simp only[datum,AM.run]at h;split at h
   ·rename_i g0 τ' deep xs heq;obtain⟨hb,h'⟩:=bh h;clear h;obtain rfl:=beq_eq hb;simp only[AM.run]at h';obtain⟨ee,hx,rfl⟩:=jN h';subst ee;subst hx;refine⟨rfl,fun B g w R=> ?_⟩;obtain⟨g',l,R'⟩:=R.DO heq;refine⟨g',l,R',fun u hc=>⟨rfl, ?_⟩⟩;have hP:Rc _ _ _ _:=R'.eG _ _ (aC _ _ _);rw[show g'.cv id g0=g.cv id g0 from l.le.cv _ _ (gB R heq)]at hP;rw[hc.2.1];exact hP
   ·rename_i g0 τ' xs heq;obtain⟨hb,h'⟩:=bh h;clear h;obtain rfl:=beq_eq hb;obtain⟨ee,hx,rfl⟩:=jN h';subst ee;subst hx;refine⟨rfl,fun B g w R=>⟨g,Lk.refl g,R,fun u hc=>⟨rfl, ?_⟩⟩⟩;have hP:Rc _ _ _ _:=R.eG _ _ heq;rw[hc.2.1];exact hP
   ·exact nomatch h
  |ptr _ _ _=>exact nomatch h
  |np=>exact nomatch h
  |nf=>exact nomatch h
  |fn _ _=>exact nomatch h
  |err _=>exact nomatch h
theorem HS (τ:Ty)(c:Cell)(s:St)(x:τ.den)(s':St)(h:(I7 τ c).run s=some (x,s')):
  s'.env=s.env∧∀B g w,HRel B g s.hp w→∃g',Lk g g'∧HRel B g' s'.hp w∧∀u,bl g c u→∃nb,Lin g'.dU τ x [u] nb∧nb.Nodup∧∀b∈nb,g'.dn b=some 0∧g.dn b≠some 0:=by
 have none_:∀{g:Gh} {b:Nat},b∈([]:List Nat)→g.dn b=some 0∧g.dn b≠some 0:=fun h=>by simp at h
 cases τ with
 |int k=>
  cases c with
  |v τ' x'=>
   cases τ' with
   |int k'=> ?_
   |_=>exact nomatch h
   simp only[I7]at h;split at h
   ·rename_i e;subst e;obtain⟨rfl,rfl⟩:=ai h;exact⟨rfl,fun B g w R=>⟨g,Lk.refl g,R,fun u hc=>⟨[],⟨hc.2,rfl⟩,as2,fun b h=>none_ h⟩⟩⟩
   ·exact nomatch h
  |_=>exact nomatch h
 |bool=>
  cases c with
  |v τ' x'=>
   cases τ' with
   |bool=> ?_
   |_=>exact nomatch h
   obtain⟨rfl,rfl⟩:=ai h;exact⟨rfl,fun B g w R=>⟨g,Lk.refl g,R,fun u hc=>⟨[],⟨hc.2,rfl⟩,as2,fun b h=>none_ h⟩⟩⟩
  |_=>exact nomatch h
 |str=>
  cases c with
  |v τ' x'=>
   cases τ' with
   |str=> ?_
   |_=>exact nomatch h
   obtain⟨rfl,rfl⟩:=ai h;exact⟨rfl,fun B g w R=>⟨g,Lk.refl g,R,fun u hc=>⟨[],⟨hc.2,rfl⟩,as2,fun b h=>none_ h⟩⟩⟩
  |_=>exact nomatch h
 |un=>cases c<;>exact nomatch h
 |pr a b=>cases c<;>exact nomatch h
 |cl=>cases c<;>exact nomatch h
 |sl e=>
  cases c with
  |v τ' x'=>cases τ'<;>exact nomatch h
  |nil=>
   obtain⟨hb,h'⟩:=bh h;clear h;obtain⟨rfl,rfl⟩:=ai h';exact⟨rfl,fun B g w R=>⟨g,Lk.refl g,R,fun u hc=>⟨[],⟨hb, .inl ⟨by have hc:_=_:=hc;subst hc;rfl,rfl,rfl⟩⟩,as2,fun b h=>none_ h⟩⟩⟩
  |own id gen=>
   simp only[I7,AM.run]at h;split at h
   ·rename_i g0 τ' deep xs heq;obtain⟨hb,h'⟩:=bh h;clear h;simp only[ao3]at hb;obtain rfl:=beq_eq hb.1;simp only[AM.run]at h';obtain⟨ee,hx,rfl⟩:=jN h';subst ee;subst hx;refine⟨rfl,fun B g w R=> ?_⟩;obtain⟨g',nb,l,R',hL,hn,hl⟩:=R.Pq heq hb.2;exact⟨g',l,R',fun u hc=>⟨nb,by rw[hc.2.1];exact hL,hn,hl⟩⟩
   ·exact nomatch h
  |ptr _ _ _=>exact nomatch h
  |np=>exact nomatch h
  |nf=>exact nomatch h
  |fn _ _=>exact nomatch h
  |err _=>exact nomatch h
def Got (g:Gh)(mv:Bool)(τ:Ty)(x:τ.den)(us:List Value)(nb:List Nat):Prop:=
 if mv then Lin g.dU τ x us nb∧nb.Nodup∧∀b∈nb,g.dn b=some 0 else Rc g.aK τ x us∧nb=[]
theorem Got.len {g:Gh}{mv:Bool}{τ:Ty}{x:τ.den}{us:List Value}{nb:List Nat}(h:Got g mv τ x us nb):us.length=τ.size:=by
 unfold Got at h;split at h
 ·exact h.1.rc.length
 ·exact h.1.length
theorem Got.mono {g g':Gh}(l:Lk g g'){mv:Bool}{τ:Ty}{x:τ.den}{us:List Value}{nb:List Nat}(h:Got g mv τ x us nb):Got g' mv τ x us nb:=by
 unfold Got at h⊢;split
 ·rename_i e;rw[as0 e]at h;exact⟨h.1.mono (fun b hb L hL=>by rw[(l.kp b (h.2.2 b hb)).2];exact hL),h.2.1,fun b hb=>(l.kp b (h.2.2 b hb)).1⟩
 ·rename_i e;rw[ar1 e]at h;exact⟨h.1.mono l.le.aK,h.2⟩
theorem N0 {mv:Bool}{τ:Ty}(h1:τ.one=true)(cells:List Cell):pack mv τ cells=match cells with
  |c::cs=>(bif mv then I7 τ c else datum τ c).bind fun x=> .ret (x,cs)
  |[]=> .fail:=by
 cases τ<;>first|(simp[Ty.one]at h1;done)|(cases cells<;>rfl)
theorem Dx (mv:Bool):∀(τ:Ty)(cells:List Cell)(s:St)(x:τ.den)(rest:List Cell)(s':St),(pack mv τ cells).run s=some ((x,rest),s')→
  s'.env=s.env∧∀B g w,HRel B g s.hp w→∃g',Lk g g'∧HRel B g' s'.hp w∧∀us,aG g cells us→
   ∃Mf Qv nb,us=Mf++Qv∧Got g' mv τ x Mf nb∧aG g' rest Qv∧∀b∈nb,g.dn b≠some 0:=by
 have single:∀(τ:Ty),τ.one=true→∀(cells:List Cell) (s:St) (x:τ.den) (rest:List Cell) (s':St),(pack mv τ cells).run s=some ((x,rest),s')→
  s'.env=s.env∧∀B g w,HRel B g s.hp w→∃g',Lk g g'∧HRel B g' s'.hp w∧∀us,aG g cells us→
   ∃Mf Qv nb,us=Mf++Qv∧Got g' mv τ x Mf nb∧aG g' rest Qv∧∀b∈nb,g.dn b≠some 0:=by
  intro τ h1 cells s x rest s' h;rw[N0 h1]at h
  cases cells with
  |nil=>exact nomatch h
  |cons c cs=>
   obtain⟨y,t,h2,h3⟩:=AM.ah h;obtain⟨h4,rfl⟩:=ai h3
   injection h4 with h4 h5
   subst h4;subst h5
   cases mv with
   |true=>
    obtain⟨he,hs⟩:=HS τ c s _ _ h2;refine⟨he,fun B g w R=> ?_⟩;obtain⟨g',l,R',hc⟩:=hs B g w R;refine⟨g',l,R',fun us hu=> ?_⟩;obtain⟨u,r,rfl,nw,hr⟩:=hu;obtain⟨nb,a1,a2,a3⟩:=hc u nw;exact⟨[u],r,nb,rfl,⟨a1,a2,fun b hb=>(a3 b hb).1⟩,hr.mono l.le,fun b hb=>(a3 b hb).2⟩
   |false=>
    obtain⟨he,hs⟩:=Bu τ c s _ _ h2;refine⟨he,fun B g w R=> ?_⟩;obtain⟨g',l,R',hc⟩:=hs B g w R;refine⟨g',l,R',fun us hu=> ?_⟩;obtain⟨u,r,rfl,nw,hr⟩:=hu;exact⟨[u],r,[],rfl,⟨(hc u nw).2,rfl⟩,hr.mono l.le,fun b hb=>by simp at hb⟩
 intro τ
 induction τ with
 |int k=>exact single _ rfl
 |bool=>exact single _ rfl
 |str=>exact single _ rfl
 |sl e _=>exact single _ rfl
 |cl=>exact single _ rfl
 |un=>
  intro cells s x rest s' h;obtain⟨h1,rfl⟩:=ai h
  injection h1 with h1 h2
  subst h2;refine⟨rfl,fun B g w R=>⟨g,Lk.refl g,R,fun us hu=>⟨[],us,[],rfl, ?_,hu,fun b hb=>by simp at hb⟩⟩⟩;unfold Got;split
  ·exact⟨⟨rfl,rfl⟩,as2,fun b hb=>by simp at hb⟩
  ·exact⟨rfl,rfl⟩
 |pr a b vo vn=>
  intro cells s x rest s' h;obtain⟨p,t,h1,h2⟩:=AM.ah h;obtain⟨q,t2,h3,h4⟩:=AM.ah h2;obtain⟨h5,rfl⟩:=ai h4
  injection h5 with h5 h6
  subst h5;subst h6;obtain⟨e1,k1⟩:=vo _ _ _ _ _ h1;obtain⟨e2,k2⟩:=vn _ _ _ _ _ h3;refine⟨e2.trans e1,fun B g w R=> ?_⟩;obtain⟨g1,l1,R1,c1⟩:=k1 B g w R;obtain⟨g2,l2,R2,c2⟩:=k2 B g1 w R1;refine⟨g2,l1.trans l2,R2,fun us hu=> ?_⟩;obtain⟨ua,ub,na,rfl,ga,ra,fa⟩:=c1 us hu;obtain⟨uc,ud,nc,rfl,gc,rc,fc⟩:=c2 ub ra;refine⟨ua++uc,ud,na++nc,by simp, ?_,rc, ?_⟩
  ·have SH:=ga.mono l2;unfold Got at ga SH gc⊢
   cases mv with
   |true=>
    simp only[if_true]at ga SH gc⊢;refine⟨⟨ua,uc,na,nc,rfl,rfl,SH.1,gc.1⟩, ?_,fun b hb=> ?_⟩
    ·rw[as7];refine⟨SH.2.1,gc.2.1,fun x hx y hy e=> ?_⟩;subst e;exact fc x hy (ga.2.2 x hx)
    ·rcases aq6.1 hb with hb|hb
     ·exact SH.2.2 b hb
     ·exact gc.2.2 b hb
   |false=>
    simp only[ar9,at3]at SH gc⊢;exact⟨⟨ua,uc,rfl,SH.1,gc.1⟩,by rw[SH.2,gc.2];rfl⟩
  ·intro b hb
   rcases aq6.1 hb with hb|hb
   ·exact fa b hb
   ·intro e;exact fc b hb (l1.kp b e).1
theorem l6 {g:Gh}:∀{τ:Ty}{x:τ.den}{us:List Value},Rc g.aK τ x us→aG g (unpack τ x) us
 | .int _,_,_,h=>by have h':_=_:=h;subst h';exact⟨_,_,rfl,⟨rfl,h⟩,rfl⟩
 | .bool,_,_,h=>by have h':_=_:=h;subst h';exact⟨_,_,rfl,⟨rfl,h⟩,rfl⟩
 | .str,_,_,h=>by obtain⟨s,e,_⟩:=id h;subst e;exact⟨_,_,rfl,⟨rfl,h⟩,rfl⟩
 | .un,_,_,h=>h
 | .pr _ _,_,_,⟨c1,c2,e,h1,h2⟩=>by subst e;exact(l6 h1).append (l6 h2)
 | .sl _,_,_,h=>by obtain⟨A,c,e,_⟩:=id h;subst e;exact⟨_,_,rfl,⟨rfl,h⟩,rfl⟩
 | .cl,_,_,h=>by obtain⟨u,e,_⟩:=id h;subst e;exact⟨_,_,rfl,⟨rfl,h⟩,rfl⟩
end Go.Abs
end

section
namespace Go.Abs
open Classical in
noncomputable def Gh.inst (g:Gh)(id gen b:Nat)(u:Value)(nb:List Nat)(out:List Value):Gh:=
  { g with top := fun i => if i = id then gen + 1 else g.top i
           cv:=fun i k=>if i=id∧k=gen then u else g.cv i k
           dn:=fun x=>if x=b∨x∈nb then some (id+1)else g.dn x
           outer:=fun i=>if i=id then out else g.outer i}
structure Free (g:Gh)(hp:List (Nat×Obj))(w:World)(b:Nat):Prop where
 obj:∀i,g.dn b=some (i+1)→∀o,look hp i=some o→∃gen,o= .dead gen
 Pq:g.dn b≠some 0
 aK:g.aK b=none
 dU:g.dU b=none
 new:g.dn b=none→w.heap.size≤b
structure Turned (w w':World)(b:Nat):Prop where
 other:∀x,x≠b→w'.heap[x]?=w.heap[x]?
 size:w.heap.size≤w'.heap.size
 lt:b<w'.heap.size
 os:w'.os=w.os
 tape:w'.tape=w.tape
 output:w'.output=w.output
theorem HRel.Cu {B:Base}{g:Gh}{hp:List (Nat×Obj)}{w:World}(_R:HRel B g hp w){id gen b:Nat}{u:Value}{nb:List Nat}{out:List Value}
  (hg:gen=g.top id):Le g (g.inst id gen b u nb out):=by
 refine⟨fun _ _ h=>h,fun i=> ?_,fun i k hk=> ?_⟩
 ·show g.top i≤if i=id then gen+1 else g.top i
  split
  ·rename_i e;subst e;omega
  ·exact aq2 _
 ·show(if i=id∧k=gen then u else g.cv i k)=g.cv i k;rw[ar1];rintro⟨rfl,rfl⟩;omega
theorem HRel.install {B:Base}{g:Gh}{hp:List (Nat×Obj)}{w w':World}(R:HRel B g hp w){id gen b:Nat}{u:Value}{nb:List Nat}{out:List Value}{o':Obj}
  (hg:gen=g.top id) (hf:Free g hp w b) (hw:Turned w w' b) (sG:∀x∈nb,g.dn x=some 0) (wO:o'.gen=gen)
  (Es:mF (g.inst id gen b u nb out) w' id o'):HRel B (g.inst id gen b u nb out) ((id,o')::hp) w':=by
 have hle:=R.Cu (b:=b) (u:=u) (nb:=nb) (out:=out) hg
 have Ew:∀x∈nb,x≠b:=fun x hx e=>hf.Pq (by subst e;exact sG x hx)
 refine⟨fun i=> ?_,fun i oi hi=> ?_,fun x L hx=> ?_,fun x L hx=> ?_,fun x hx=> ?_,R.ji,fun x hx hl hi=> ?_,Nat.le_trans R.size hw.size,hw.os.trans R.os,hw.tape.trans R.tape,hw.output.trans R.output,fun x L hx=> ?_⟩
 ·show(if i=id then gen+1 else g.top i)=_
  by_cases e:id=i
  ·subst e;rw[aC,as0 rfl];simp[wO]
  ·rw[ay _ _ e,ar1 (fun h=>e h.symm)];exact R.top i
 ·by_cases e:id=i
  ·subst e;rw[aC]at hi;injection hi with hi;subst hi;exact Es
  ·rw[ay _ _ e]at hi
   have iO:oi.gen<g.top i:=by rw[R.top i,hi];exact Nat.lt_succ_self _
   by_cases hb:g.dn b=some (i+1)
   ·obtain⟨gn,rfl⟩:=hf.obj i hb oi hi
    trivial
   ·refine(R.eG i oi hi).tr hle (fun x hx=> ?_) (by simp only[Gh.inst];rw[ar1 (fun h=>e h.symm)]) iO
    have jX:x≠b:=fun e'=>by subst e';exact hb hx
    have j0:x∉nb:=fun hm=>by rw[sG x hm]at hx;simp at hx
    exact⟨by simp[Gh.inst,jX,j0,hx],rfl,hw.other x jX⟩
 ·have hy:g.aK x=some L:=hx;obtain⟨a1,a2,arr,ty,fr,a3,a4⟩:=R.aK x L hy
  have jX:x≠b:=fun e=>by rw[e,hf.aK]at hy;cases hy
  have j0:x∉nb:=fun hm=>by rw[sG x hm]at a1;simp at a1
  exact⟨by simp[Gh.inst,jX,j0,a1],a2,arr,ty,fr,(hw.other x jX).trans a3,a4⟩
 ·have hy:g.dU x=some L:=hx;obtain⟨a1,arr,ty,a3,a4⟩:=R.dU x L hy
  have jX:x≠b:=fun e=>by rw[e,hf.dU]at hy;cases hy
  refine⟨?_,arr,ty,(hw.other x jX).trans a3,a4⟩
  by_cases j0:x∈nb
  ·simp[Gh.inst,j0]
  ·simp[Gh.inst,jX,j0,a1]
 ·by_cases jX:x=b
  ·subst jX;exact hw.lt
  ·by_cases j0:x∈nb
   ·exact ar4 (R.dR x (by rw[sG x j0];simp)) hw.size
   ·have Vs:g.dn x≠none:=by simpa[Gh.inst,jX,j0]using hx
    exact ar4 (R.dR x Vs) hw.size
 ·obtain⟨f1,f2,f3⟩:=R.frame x hx hl hi
  have jX:x≠b:=fun e=>by
   subst e;have:=hf.new f1;have:=R.size;omega
  have j0:x∉nb:=fun hm=>by rw[sG x hm]at f1;simp at f1
  exact⟨by simp[Gh.inst,jX,j0,f1],f2,(hw.other x jX).trans f3⟩
 ·have jX:x≠b:=fun e=>by
   have:=R.ji x L hx;rw[e,hf.aK]at this;cases this
  exact(hw.other x jX).trans (R.fix x L hx)
theorem HRel.pF {B:Base}{g:Gh}{hp:List (Nat×Obj)}{w:World}(R:HRel B g hp w):Free g hp w w.heap.size:=by
 have hl:g.dn w.heap.size=none:=by
  cases h:g.dn w.heap.size with
  |none=>rfl
  |some x=>exact absurd (R.dR _ (by rw[h];simp)) (Nat.lt_irrefl _)
 refine⟨fun i h=>absurd (hl.symm.trans h) (by simp),by rw[hl];simp, ?_, ?_,fun _=>aq2 _⟩
 ·cases h:g.aK w.heap.size with
  |none=>rfl
  |some L=>
   obtain⟨_,_,arr,ty,fr,h3,_⟩:=R.aK _ _ h;simp at h3
 ·cases h:g.dU w.heap.size with
  |none=>rfl
  |some L=>
   obtain⟨_,arr,ty,h3,_⟩:=R.dU _ _ h;simp at h3
open Classical in
theorem HRel.S8 {B:Base}{g:Gh}{hp:List (Nat×Obj)}{w w':World}(R:HRel B g hp w)(hw:Turned w w' w.heap.size){arr:Array Value}{ty:TypeId}{fr:Nat×Nat}(hb:w'.heap[w.heap.size]?=some (.cells arr ty fr)):
  ∃g',Le g g'∧g'.aK w.heap.size=some arr.toList∧HRel B g' hp w':=by
 have hf:=R.pF
 have hl:g.dn w.heap.size=none:=by
  cases h:g.dn w.heap.size with
  |none=>rfl
  |some x=>exact absurd (R.dR _ (by rw[h];simp)) (Nat.lt_irrefl _)
 let g':Gh:={g with aK:=fun b=>if b=w.heap.size then some arr.toList else g.aK b}
 have hle:Le g g':=⟨fun b L h=>by
  have:b≠w.heap.size:=fun e=>by rw[e,hf.aK]at h;cases h
  simp[g',this,h],fun _=>aq2 _,fun _ _ _=>rfl⟩
 refine⟨g',hle,by simp[g'],⟨R.top,fun i o hi=> ?_,fun b L h=> ?_,fun b L h=> ?_,fun b h=>ar4 (R.dR b h) hw.size,fun b L h=>hle.aK _ _ (R.ji b L h),fun b h1 h2 h3=> ?_,Nat.le_trans R.size hw.size,hw.os.trans R.os,hw.tape.trans R.tape,hw.output.trans R.output,fun b L h=> ?_⟩⟩
 ·refine(R.eG i o hi).tr hle (fun x hx=>⟨hx,rfl,hw.other x fun e=> ?_⟩) rfl (by rw[R.top i,hi];exact Nat.lt_succ_self _);rw[e,hl]at hx;cases hx
 ·by_cases e:b=w.heap.size
  ·subst e;have h:(if w.heap.size=w.heap.size then some arr.toList else g.aK w.heap.size)=some L:=h;rw[as0 rfl]at h
   injection h with h
   exact⟨hl,hf.dU,arr,ty,fr,hb,h⟩
  ·have h:g.aK b=some L:=by simpa[g',e]using h
   obtain⟨a1,a2,uP,FV,am7,a3,a4⟩:=R.aK b L h;exact⟨a1,a2,uP,FV,am7,(hw.other b e).trans a3,a4⟩
 ·have h:g.dU b=some L:=h;obtain⟨a1,uP,FV,a3,a4⟩:=R.dU b L h
  have e:b≠w.heap.size:=fun e=>by rw[e,hf.dU]at h;cases h
  exact⟨a1,uP,FV,(hw.other b e).trans a3,a4⟩
 ·obtain⟨f1,f2,f3⟩:=R.frame b h1 h2 h3
  have e:b≠w.heap.size:=fun e=>by have:=R.size;omega
  exact⟨f1,by simp[g',e,f2],(hw.other b e).trans f3⟩
 ·have h':=R.ji b L h
  have e:b≠w.heap.size:=fun e=>by rw[e,hf.aK]at h';cases h'
  exact(hw.other b e).trans (R.fix b L h)
def World.more (w:World)(o:Go.Obj):World:={w with heap:=w.heap.push o}
theorem uA (w:World)(o:Go.Obj):Turned w (World.more w o) w.heap.size:=by
 refine⟨fun x hx=> ?_,by simp[World.more],by simp[World.more],rfl,rfl,rfl⟩;simp only[World.more,Array.getElem?_push];rw[ar1 hx]
theorem zD (w:World)(o:Go.Obj):(World.more w o).heap[w.heap.size]?=some o:=by
 show(w.heap.push _)[w.heap.size]?=_;rw[Array.getElem?_push,as0 rfl]
theorem jG {B:Base}{g:Gh}{s s':St}{w:World}{id gen:Nat}(R:HRel B g s.hp w)(h:(gR id).run s=some (gen,s')):gen=g.top id∧s'=s:=by
 simp only[gR,AM.run]at h;rw[R.top id]
 cases hl:look s.hp id with
 |none=>rw[hl]at h;obtain⟨rfl,rfl⟩:=ai h;exact⟨rfl,rfl⟩
 |some o=>rw[hl]at h;cases o<;>first|(obtain⟨rfl,rfl⟩:=ai h;exact⟨rfl,rfl⟩)|cases h
theorem nH {s s':St}{id gen:Nat}(h:(gR id).run s=some (gen,s')):s'=s∧∀gn cs,look s.hp id≠some (.iu gn cs):=by
 simp only[gR,AM.run]at h
 cases hl:look s.hp id with
 |none=>rw[hl]at h;obtain⟨rfl,rfl⟩:=ai h;exact⟨rfl,fun _ _ h=>by cases h⟩
 |some o=>rw[hl]at h;cases o<;>first|(obtain⟨rfl,rfl⟩:=ai h;exact⟨rfl,fun _ _ h=>by cases h⟩)|cases h
end Go.Abs
end

section
namespace Go.Abs
theorem xR {u:Value}{c:Cell}(h:AP u=some c)(g:Gh):bl g c u:=by
 cases u with
 |int k n=>injection h with h;subst h;exact⟨rfl,rfl⟩
 |bool b=>injection h with h;subst h;exact⟨rfl,rfl⟩
 |string s=>injection h with h;subst h;exact⟨rfl,s,rfl,rfl⟩
 |slice a n m=>
  cases a with
  |none=>cases n<;>cases m<;>first|(injection h with h;subst h;rfl)|cases h
  |some a=>cases h
 |pointer a=>cases a<;>first|(injection h with h;subst h;rfl)|cases h
 |nilIface=>injection h with h;subst h;exact .inl ⟨rfl,rfl⟩
 |float k b=>cases h
 |complex k a b=>cases h
 |map r=>cases h
 |chan r=>cases h
 |func f a b=>cases h
 |nilFunc=>injection h with h;subst h;rfl
 |iface t v=>cases h
 |agg cs=>cases h
 |tuple vs=>cases h
theorem nY:∀{us:List Value}{cs:List Cell},rJ us=some cs→∀g,aG g cs us
 |[],_,h,_=>by injection h with h;subst h;rfl
 |u::r,_,h,g=>by
  simp only[rJ,as8,aq8]at h;obtain⟨c,hc,cs,Nf,rfl⟩:=h;exact⟨u,r,rfl,xR hc g,nY Nf g⟩
theorem zk {u:Value}{v:Val}(h:wu u=some v)(g:Gh):dT g v u:=by
 cases u with
 |agg cs=>
  simp only[wu,aq8]at h;obtain⟨A9,h1,rfl⟩:=h;exact⟨cs.toList,by simp,nY h1 g⟩
 |_=>
  simp only[wu,aq8]at h;obtain⟨c,h1,rfl⟩:=h;exact xR h1 g
theorem oa {x:Operand}{s s':St}{sl:Slot}(h:(ev x).run s=some (sl,s')):s'=s∧∀{g:Gh}{a:Act},il g s.env a→dc g sl (a.eval x):=by
 cases x with
 |tmp t=>
  simp only[ev,AM.run]at h;split at h
  ·rename_i y hy;simp only[ar8,as9]at h;obtain⟨rfl,rfl⟩:=h;exact⟨rfl,fun V=>V t _ hy⟩
  ·cases h
 |const u=>
  simp only[ev]at h;split at h
  ·rename_i c hc;obtain⟨rfl,rfl⟩:=ai h;exact⟨rfl,fun _=>zk hc _⟩
  ·cases h
 |global k=>obtain⟨rfl,rfl⟩:=ai h;exact⟨rfl,fun _=>rfl⟩
 |func f=>obtain⟨rfl,rfl⟩:=ai h;exact⟨rfl,fun _=>⟨[],rfl,rfl⟩⟩
theorem sx {sl:Slot}{v:Val}{s s':St}(h:(I4 sl).run s=some (v,s')):sl= .val v∧s'=s:=by
 cases sl<;>try(cases h;done)
 obtain⟨rfl,rfl⟩:=ai h;exact⟨rfl,rfl⟩
theorem cB {x:Operand}{s s':St}{v:Val}(h:(evV x).run s=some (v,s')):s'=s∧∀{g:Gh}{a:Act},il g s.env a→dT g v (a.eval x):=by
 obtain⟨sl,t,h1,h2⟩:=AM.ah h;obtain⟨rfl,hs⟩:=oa h1;obtain⟨rfl,rfl⟩:=sx h2;exact⟨rfl,hs⟩
theorem mj:∀{xs:List Operand}{s s':St}{vs:List Val},(yy xs).run s=some (vs,s')→s'=s∧∀{g:Gh}{a:Act},il g s.env a→eX g vs (xs.map a.eval)
 |[],_,_,_,h=>by obtain⟨rfl,rfl⟩:=ai h;exact⟨rfl,fun _=>rfl⟩
 |x::r,_,_,_,h=>by
  obtain⟨v,t,h1,h2⟩:=AM.ah h;obtain⟨vs,t2,h3,h4⟩:=AM.ah h2;obtain⟨rfl,rfl⟩:=ai h4;obtain⟨rfl,k1⟩:=cB h1;obtain⟨rfl,k2⟩:=mj h3;exact⟨rfl,fun V=>⟨_,_,rfl,k1 V,k2 V⟩⟩
theorem kx {v:Val}{n:Int}{s s':St}(h:(asInt v).run s=some (n,s')):(∃k,v= .one (.v (.int k) n))∧s'=s:=by
 cases v with
 |agg cs=>cases h
 |one c=>
  cases c<;>try(cases h;done)
  rename_i τ x
  cases τ<;>try(cases h;done)
  rename_i k;obtain⟨rfl,rfl⟩:=ai h;exact⟨⟨k,rfl⟩,rfl⟩
theorem zb {v:Val}{b:Bool}{s s':St}(h:(asBool v).run s=some (b,s')):v= .one (.v .bool b)∧s'=s:=by
 cases v with
 |agg cs=>cases h
 |one c=>
  cases c<;>try(cases h;done)
  rename_i τ x
  cases τ<;>try(cases h;done)
  obtain⟨rfl,rfl⟩:=ai h;exact⟨rfl,rfl⟩
theorem tH {v:Val}{c:Cell}{s s':St}(h:(one v).run s=some (c,s')):v= .one c∧s'=s:=by
 cases v with
 |agg cs=>cases h
 |one c'=>obtain⟨rfl,rfl⟩:=ai h;exact⟨rfl,rfl⟩
theorem gP {g:Gh}{k:IntKind}{n:Int}{u:Value}(h:bl g (.v (.int k) n) u):u= .int k n:=by
 have h':_=_:=h.2;injection h'
theorem l7 {g:Gh}{b:Bool}{u:Value}(h:bl g (.v .bool b) u):u= .bool b:=by
 have h':_=_:=h.2;injection h'
theorem oe {g:Gh}{l:List Int}{u:Value}(h:bl g (.v .str l) u):∃s,u= .string s∧l=bytesOf s:=by
 obtain⟨_,s,e,h⟩:=h
 injection e with e
 exact⟨s,e,h⟩
theorem uJ (g:Gh)(k:IntKind)(n:Int):dc g (wi k n) (.int k n):=⟨rfl,rfl⟩
theorem oh (g:Gh)(b:Bool):dc g (wb b) (.bool b):=⟨rfl,rfl⟩
theorem KF (g:Gh)(s:ByteArray):dc g (ws (bytesOf s)) (.string s):=⟨rfl,s,rfl,rfl⟩
theorem gw (s:ByteArray):(bytesOf s).length=s.size:=by simp[bytesOf]
theorem xG:∀{a b:List UInt8},(a.map fun b=>(b.toNat:Int))=b.map (fun b=>(b.toNat:Int))→a=b
 |[],[],_=>rfl
 |[],_::_,h=>by simp at h
 |_::_,[],h=>by simp at h
 |x::a,y::b,h=>by
  simp only[List.map_cons,List.cons.injEq]at h;have e:x.toNat=y.toNat:=(by omega);rw[UInt8.toNat_inj.1 e,xG h.2]
theorem HJ {a b:ByteArray}(h:bytesOf a=bytesOf b):a=b:=by
 have h2:a.data.toList=b.data.toList:=xG h;cases a;cases b;simp only[ByteArray.mk.injEq];exact Array.toList_inj.1 h2
theorem CT (a b:ByteArray):bytesOf (a++b)=bytesOf a++bytesOf b:=by
 unfold bytesOf;rw[ByteArray.data_append];simp
theorem sW (a b:ByteArray):(a.toList==b.toList)=decide (bytesOf a=bytesOf b):=by
 rw[ByteArray.toList_eq,ByteArray.toList_eq]
 by_cases h:a=b
 ·subst h;simp
 ·have h1:¬ bytesOf a=bytesOf b:=fun e=>h (HJ e)
  have h2:¬ a.data.toList=b.data.toList:=fun e=>h1 (by unfold bytesOf;rw[e])
  rw[an6 h1];simpa using h2
theorem Ln (x y:Int):(x==y)=decide (x=y):=by by_cases h:x=y<;>simp[h]
theorem Gj {P:Program}{w:World}{op:BinOp}{t:TypeId}{x y:Operand}{k k':IntKind}{m n:Int}{s s':St}{sl:Slot}(h:(Kw op k k' m n).run s=some (sl,s')):
    s'=s∧∃v,((do eqGuard op t x y (.int k m) (.int k' n);Go.binOp op t (.int k m) (.int k' n)):Sem Value).run P w= .ok v w∧∀g,dc g sl v:=by
  rw[eqGuard_at_int];cases op<;>simp only[Kw]at h
  case shr=>
    obtain⟨hb,h⟩:=lH h;obtain⟨rfl,rfl⟩:=ai h;have h0:0≤n:=(by simpa using hb);refine⟨rfl, .int k (m.fdiv (2^min n.toNat k.bits)), ?_,fun g=>uJ g k _⟩;have:¬ n<0:=(by omega);simp[Go.binOp,Op.shift,this]
  case shl=>
    obtain⟨hb,h⟩:=lH h;obtain⟨rfl,rfl⟩:=ai h;have h0:0≤n:=(by simpa using hb);refine⟨rfl, .int k (k.wrap (m*2^min n.toNat k.bits)), ?_,fun g=>uJ g k _⟩;have:¬ n<0:=(by omega);simp[Go.binOp,Op.shift,this]
  all_goals
    split at h
    case isFalse=>cases h
    case isTrue e=>
      subst e
      first
        | (obtain⟨rfl,rfl⟩:=ai h
           first
             | (refine⟨rfl,_, ?_,fun g=>uJ g k _⟩
                first
                  |(simp[Go.binOp,Op.intArith];done)
                  |(simp[Go.binOp,Op.intBits,intBits];done)
                  |(simp[Go.binOp];rfl))
             | (refine⟨rfl,_, ?_,fun g=>oh g _⟩
                first
                  |(simp[Go.binOp,Op.intCmp,bne];done)
                  |(simp[Go.binOp,Op.intCmp,Ln,bne];done)))
        | (obtain⟨hb,h⟩:=lH h
           obtain⟨rfl,rfl⟩:=ai h;have h0:¬ n=0:=(by simpa using hb);refine⟨rfl,_, ?_,fun g=>uJ g k _⟩
           simp[Go.binOp,Op.intDiv,h0])
        |cases h
theorem Gr {P:Program}{w:World}{op:BinOp}{t:TypeId}{x y:Operand}{a b:ByteArray}{s s':St}{sl:Slot}(h:(G7 op (bytesOf a) (bytesOf b)).run s=some (sl,s')):
  s'=s∧∃v,((do eqGuard op t x y (.string a) (.string b);Go.binOp op t (.string a) (.string b)):Sem Value).run P w= .ok v w∧∀g,dc g sl v:=by
 rw[eqGuard_at_string]
 cases op<;>simp only[G7]at h<;>try(cases h;done)
 case add=>
  obtain⟨hb,h⟩:=lH h;obtain⟨rfl,rfl⟩:=ai h;have h0:(bytesOf a).length+(bytesOf b).length≤lim:=aq4 hb;rw[gw,gw]at h0;unfold lim at h0;refine⟨rfl, .string (a++b), ?_,fun g=>by rw[←CT];exact KF g _⟩;have h1:¬ (((a.size+b.size:Nat):Int)>9223372036854775807):=(by omega);have h2:i64.max=9223372036854775807:=(by decide);simp only[Go.binOp,Op.stringOp,h2];rw[ar1 h1];rfl
 case eql=>
  obtain⟨rfl,rfl⟩:=ai h;refine⟨rfl,_, ?_,fun g=>oh g _⟩;rw[←sW];simp[Go.binOp,Op.stringOp]
 case neq=>
  obtain⟨rfl,rfl⟩:=ai h;refine⟨rfl,_, ?_,fun g=>oh g _⟩;rw[←sW];simp[Go.binOp,Op.stringOp]
theorem qx {op:BinOp}{b:Bool}{s s':St}{sl:Slot}(h:(AV op b).run s=some (sl,s')):s'=s∧((op= .eql∧sl=wb b)∨(op= .neq∧sl=wb (!b))):=by
 cases op<;>simp only[AV]at h<;>try(cases h;done)
 ·obtain⟨rfl,rfl⟩:=ai h;exact⟨rfl, .inl ⟨rfl,rfl⟩⟩
 ·obtain⟨rfl,rfl⟩:=ai h;exact⟨rfl, .inr ⟨rfl,rfl⟩⟩
theorem G9 {g:Gh}{xs:List Int}{u:Value}(h:bl g (.v .cl xs) u):(xs=[]∧u= .pointer none)∨(xs≠[]∧∃b,u= .pointer (some ⟨b,0,none⟩)):=by
 obtain⟨_,u',e,hx⟩:=h
 injection e with e
 subst e
 cases xs with
 |nil=>exact .inl ⟨rfl,hx⟩
 |cons y ys=>obtain⟨b,p,e,_⟩:=hx;exact .inr ⟨by simp,b,e⟩
theorem IC {P:Program}{w:World}{t:TypeId}{cs:Array Value}{off:Nat}{u:Value}(hi:(∃k,P.underlying t=some (.int k))∨P.underlying t=some .bool∨P.underlying t=some .string)
  (hu:cs[off]?=some u):(part t cs off).run P w= .ok u w:=by
 have:(isAgg t).run P w= .ok false w:=by
  rcases hi with⟨k,h⟩|h|h<;>simp[Go.isAgg,run_underlying h]
 unfold part;simp[this,hu]
theorem Dd {P:Program}{w:World}{d:Nat}{g:Gh}:∀{fs:List Field}{n:Nat}{a b:List Cell}{us vs:List Value}{xs ys:Array Value}{r:Bool},
  lX P fs a n=true→j3 a b=some r→aG g a us→aG g b vs→(∀i u,us[i]?=some u→xs[n+i]?=some u)→(∀i u,vs[i]?=some u→ys[n+i]?=some u)→
  (Op.eqFields (d+1) xs ys fs).run P w= .ok r w:=by
 intro fs
 induction fs with
 |nil=>
  intro n a b us vs xs ys r hp he hu hv hx hy
  cases a with
  |cons c cs=>simp[lX]at hp
  |nil=>cases b with
   |nil=>simp only[j3,ar8]at he;subst he;rfl
   |cons c cs=>simp[j3]at he
 |cons f fs ih=>
  intro n a b us vs xs ys r hp he hu hv hx hy
  cases a with
  |nil=>simp[lX]at hp
  |cons c a=>
  cases c with
  |v τ x=> ?_
  |_=>simp[lX]at hp
  simp only[lX,ao3]at hp;obtain⟨⟨⟨h1,h2⟩,h3⟩,h4⟩:=hp;have ho:f.offset=n:=beq_eq h1
  have hn:f.name≠ "_" :=(by simpa using h2)
  obtain⟨u,Jy,rfl,nw,xx⟩:=hu
  cases b with
  |nil=>cases τ<;>simp[j3]at he
  |cons c' b=>
  obtain⟨v,XM,rfl,Uw,Yq⟩:=hv
  have key:∀(q:Bool),((∃k,P.underlying f.type=some (.int k))∨P.underlying f.type=some .bool∨P.underlying f.type=some .string)→
    (Op.equalIn (d+1) f.type u v).run P w= .ok q w→∀r',j3 a b=some r'→r=(q&&r')→(Op.eqFields (d+1) xs ys (f::fs)).run P w= .ok r w:=by
   intro q ht hq r' Ni e;have e1:(part f.type xs f.offset).run P w= .ok u w:=IC ht (by rw[ho];exact hx 0 u rfl);have e2:(part f.type ys f.offset).run P w= .ok v w:=IC ht (by rw[ho];exact hy 0 v rfl);have ai9:=ih (xs:=xs) (ys:=ys) h4 Ni xx Yq (fun i u hi=>by have:=hx (i+1) u (by simpa using hi);rwa[show n+(i+1)=n+1+i from by omega]at this) (fun i u hi=>by have:=hy (i+1) u (by simpa using hi);rwa[show n+(i+1)=n+1+i from by omega]at this);unfold Op.eqFields;rw[as0 hn];simp only[Sem.run_bind,e1,e2,Result.andThen_ok,hq,Sem.run_ite];subst e
   cases q with
   |false=>simp
   |true=>simpa using ai9
  cases c' with
  |v τ' x'=> ?_
  |_=>cases τ<;>simp[j3]at he
  split at h3
  ·rename_i k0 k1 hk
   cases τ'<;>try(simp[j3]at he;done)
   rename_i k2;simp only[j3]at he;split at he
   case isFalse=>cases he
   rename_i ek;subst ek;simp only[aq8]at he;obtain⟨r',Ni,e⟩:=he;have M7:=gP nw;have TS:=gP Uw;subst M7;subst TS;exact key _ (.inl ⟨_,hk⟩) (run_equalIn_int w d f.type _ _ _ _ hk) r' Ni (by rw[←e,Ln])
  ·rename_i hk
   cases τ'<;>try(simp[j3]at he;done)
   simp only[j3,aq8]at he;obtain⟨r',Ni,e⟩:=he;have M7:=l7 nw;have TS:=l7 Uw;subst M7;subst TS;exact key _ (.inr (.inl hk)) (run_equalIn_bool' w d f.type _ _ hk) r' Ni (by rw[←e];congr 1)
  ·rename_i hk
   cases τ'<;>try(simp[j3]at he;done)
   simp only[j3,aq8]at he;obtain⟨r',Ni,e⟩:=he;obtain⟨su,M7,ru⟩:=oe nw;obtain⟨sv,TS,rv⟩:=oe Uw;subst M7;subst TS;exact key _ (.inr (.inr hk)) (run_equalIn_string w d f.type _ _ hk) r' Ni (by rw[←e,sW,ru,rv])
  ·cases h3
theorem H0 {E:Env}{op:BinOp}{t:TypeId}{x y:Operand}{va vb:Val}{s s':St}{sl:Slot}(h:(binOp E op t va vb).run s=some (sl,s')):
  s'=s∧∀{g:Gh} {u1 u2:Value} {w:World},dT g va u1→dT g vb u2→∃v,((do eqGuard op t x y u1 u2;Go.binOp op t u1 u2):Sem Value).run E.P w= .ok v w∧dc g sl v:=by
 unfold binOp at h;split at h
 ·rename_i k m k' n
  have hs:=fun w=>Gj (P:=E.P) (w:=w) (t:=t) (x:=x) (y:=y) h
  refine⟨(hs default).1,fun{g u1 u2 w} r1 r2=> ?_⟩;have e1:=gP r1;have e2:=gP r2;subst e1;subst e2;obtain⟨v,hv,hr⟩:=(hs w).2;exact⟨v,hv,hr g⟩
 ·rename_i l m
  have hs:s'=s:=by
   cases op<;>simp only[G7]at h<;>try(cases h;done)
   ·exact(ai (lH h).2).2
   ·exact(ai h).2
   ·exact(ai h).2
  refine⟨hs,fun{g u1 u2 w} r1 r2=> ?_⟩;obtain⟨s1,e1,l1⟩:=oe r1;obtain⟨s2,e2,l2⟩:=oe r2;subst e1;subst e2;subst l1;subst l2;obtain⟨_,v,hv,hr⟩:=Gr (P:=E.P) (w:=w) (t:=t) (x:=x) (y:=y) h;exact⟨v,hv,hr g⟩
 ·rename_i b c;split at h
  ·rename_i ht;obtain⟨rfl,he⟩:=qx h;refine⟨rfl,fun{g u1 u2 w} r1 r2=> ?_⟩;have e1:=l7 r1;have e2:=l7 r2;subst e1;subst e2;rw[eqGuard_at_bool]
   have e0:(b==c)=decide (b=c):=by cases b<;>cases c<;>rfl
   rcases he with⟨rfl,rfl⟩|⟨rfl,rfl⟩
   ·refine⟨_, ?_,oh g _⟩;have hq:=run_equalIn_bool' (P:=E.P) w 9999 t b c ht;simp only[Go.binOp];simp[Op.equal,Op.maxDepth,hq,e0]
   ·refine⟨_, ?_,oh g _⟩;have hq:=run_equalIn_bool' (P:=E.P) w 9999 t b c ht;simp only[Go.binOp];simp[Op.equal,Op.maxDepth,hq,e0]
  ·cases h
 ·rename_i xs;split at h
  ·rename_i te ht;obtain⟨rfl,he⟩:=qx h;refine⟨rfl,fun{g u1 u2 w} r1 r2=> ?_⟩;have e2:u2= .pointer none:=r2;subst e2
   have hq:∀d,(Op.equalIn (d+1) t u1 (.pointer none)).run E.P w= .ok (List.isEmpty (α:=Int) xs) w:=fun d=>by
    rcases G9 r1 with⟨e,e1⟩|⟨e,b,e1⟩
    ·rw[e];subst e1;simp[Op.equalIn,run_underlying ht]
    ·have e2:List.isEmpty (α:=Int) xs=false:=by
      have:(xs:List Int)≠[]:=e
      generalize(xs:List Int)=ys at this
      cases ys<;>simp_all
     rw[e2];subst e1;simp[Op.equalIn,run_underlying ht]
   have aa3:=hq 9999
   have hg:eqGuard op t x y u1 (.pointer none)=pure ():=by
    rcases G9 r1 with⟨_,e1⟩|⟨_,b,e1⟩<;>subst e1<;>exact eqGuard_at_pointer ..
   rw[hg]
   have nw:∃a,u1= .pointer a:=by rcases G9 r1 with⟨_,e1⟩|⟨_,b,e1⟩<;>exact⟨_,e1⟩
   obtain⟨a,rfl⟩:=nw
   rcases he with⟨rfl,rfl⟩|⟨rfl,rfl⟩
   ·exact⟨_,by simp only[Go.binOp];simp[Op.equal,Op.maxDepth,aa3],oh g _⟩
   ·exact⟨_,by simp only[Go.binOp];simp[Op.equal,Op.maxDepth,aa3],oh g _⟩
  ·cases h
 ·rename_i a b;split at h
  ·rename_i fs r ht hr;obtain⟨hb,h'⟩:=bh h;clear h;simp only[ao3,at0]at hb;obtain⟨⟨h1,h2⟩,h3⟩:=hb;obtain⟨rfl,he⟩:=qx h';refine⟨rfl,fun{g u1 u2 w} r1 r2=> ?_⟩;obtain⟨us,e1,hu⟩:=r1;obtain⟨vs,e2,hv⟩:=r2;subst e1;subst e2
   have hf:E.P.fieldsOf t=fs:=by unfold Program.fieldsOf;rw[ht]
   have hq:(Op.equalIn 10000 t (.agg us.toArray) (.agg vs.toArray)).run E.P w= .ok r w:=by
    rw[run_equalIn_agg w 9999 t _ _ (by rw[hf];exact ht) h1,hf];exact Dd h3 hr hu hv (fun i u hi=>by simpa using hi) (fun i u hi=>by simpa using hi)
   have hg:=run_eqGuard_agg (P:=E.P) w op t x y us.toArray vs.toArray h2
   rcases he with⟨rfl,rfl⟩|⟨rfl,rfl⟩
   ·refine⟨_, ?_,oh g _⟩;simp only[Sem.run_bind,hg,Result.andThen_ok,run_eql_struct,hq]
   ·refine⟨_, ?_,oh g _⟩;simp only[Sem.run_bind,hg,Result.andThen_ok,run_neq_struct,hq]
  ·cases h
 ·cases h
theorem Ga {E:Env}{op:BinOp}{t:TypeId}{x:Operand}{va:Val}{s s':St}{sl:Slot}(h:(KH E op t va).run s=some (sl,s')):
  s'=s∧∀{g:Gh} {u1:Value} {w:World},dT g va u1→∃v,((do eqGuard op t x (.const .nilIface) u1 .nilIface;Go.binOp op t u1 .nilIface):Sem Value).run E.P w= .ok v w∧dc g sl v:=by
 unfold KH at h;split at h
 ·rename_i b;split at h
  ·rename_i ms ht;obtain⟨rfl,he⟩:=qx h;refine⟨rfl,fun{g u1 w} r1=> ?_⟩
   rcases r1 with⟨rfl,rfl⟩|⟨rfl,tv,v,rfl⟩
   ·rw[eqGuard_nil_constR]
    have RM:∀d,(Op.equalIn (d+1) t .nilIface .nilIface).run E.P w= .ok true w:=fun d=>by simp[Op.equalIn,run_underlying ht]
    have hq:=RM 9999
    rcases he with⟨rfl,rfl⟩|⟨rfl,rfl⟩
    ·exact⟨_,by simp only[Go.binOp];simp[Op.equal,Op.maxDepth,hq],oh g _⟩
    ·exact⟨_,by simp only[Go.binOp];simp[Op.equal,Op.maxDepth,hq],oh g _⟩
   ·rw[eqGuard_at_iface]
    have RM:∀d,(Op.equalIn (d+1) t (.iface tv v) .nilIface).run E.P w= .ok false w:=fun d=>by simp[Op.equalIn,run_underlying ht]
    have hq:=RM 9999
    rcases he with⟨rfl,rfl⟩|⟨rfl,rfl⟩
    ·exact⟨_,by simp only[Go.binOp];simp[Op.equal,Op.maxDepth,hq],oh g _⟩
    ·exact⟨_,by simp only[Go.binOp];simp[Op.equal,Op.maxDepth,hq],oh g _⟩
  ·cases h
 ·cases h
end Go.Abs
end

section
namespace Go.Abs
def Yld (E:Env)(op:Op)(s:St)(sl:Slot)(s':St):Prop:=
 s'.env=s.env∧∀(o:Oper),o.op=op→∀B g a w,HRel B g s.hp w→il g s.env a→
  ∃v w' g',(execOp a.eval o).run E.P w= .ok (.value v) w'∧Le g g'∧HRel B g' s'.hp w'∧dc g' sl v
theorem db {P:Program}{w w':World}{x:Sem Value}{v:Value}(h:x.run P w= .ok v w'):((do pure (.value (←x))):Sem Next).run P w= .ok (.value v) w':=by
 simp[h]
theorem Yld.still {E:Env}{op:Op}{s:St}{sl:Slot}(h:∀(o:Oper),o.op=op→∀B g a w,HRel B g s.hp w→il g s.env a→∃v,(execOp a.eval o).run E.P w= .ok (.value v) w∧dc g sl v):Yld E op s sl s:=
 ⟨rfl,fun o ho B g a w R V=>by obtain⟨v,h1,h2⟩:=h o ho B g a w R V;exact⟨v,w,g,h1,Le.refl g,R,h2⟩⟩
theorem Di {E:Env}{x:Operand}{s s':St}{sl:Slot}(h:(ev x).run s=some (sl,s')):Yld E (.move x) s sl s'∧Yld E (.assign x) s sl s':=by
 obtain⟨rfl,hr⟩:=oa h;exact⟨.still fun o ho B g a w R V=>⟨a.eval x,by unfold execOp;rw[ho];rfl,hr V⟩, .still fun o ho B g a w R V=>⟨a.eval x,by unfold execOp;rw[ho];rfl,hr V⟩⟩
theorem JU {E:Env}{c x y:Operand}{s s':St}{sl:Slot}{d:Nat}(h:(dW E d (.pick c x y)).run s=some (sl,s')):Yld E (.pick c x y) s sl s':=by
 obtain⟨v,t,h1,h2⟩:=AM.ah h;obtain⟨b,t2,h3,h4⟩:=AM.ah h2;obtain⟨rfl,r1⟩:=cB h1;obtain⟨rfl,rfl⟩:=zb h3
 rcases Kz h4 with⟨rfl,h5⟩|⟨rfl,h5⟩
 ·obtain⟨rfl,r2⟩:=oa h5
  refine .still fun o ho B g a w R V=>⟨a.eval x, ?_,r2 V⟩
  have e:=l7 (r1 V);unfold execOp;rw[ho];simp[e,Go.asBool]
 ·obtain⟨rfl,r2⟩:=oa h5
  refine .still fun o ho B g a w R V=>⟨a.eval y, ?_,r2 V⟩
  have e:=l7 (r1 V);unfold execOp;rw[ho];simp[e,Go.asBool]
theorem Mz {E:Env}{op:BinOp}{t ty:TypeId}{x y:Operand}{s s':St}{sl:Slot}{d:Nat}(h:(dW E d (.binOp op t x y ty)).run s=some (sl,s')):Yld E (.binOp op t x y ty) s sl s':=by
 obtain⟨va,t1,h1,h2⟩:=AM.ah h;obtain⟨rfl,r1⟩:=cB h1;split at h2
 ·obtain⟨rfl,hr⟩:=Ga (x:=x) h2
  refine .still fun o ho B g a w R V=> ?_
  obtain⟨v,e,hs⟩:=hr (w:=w) (r1 V);refine⟨v, ?_,hs⟩;unfold execOp;rw[ho];exact db e
 ·obtain⟨vb,t2,h3,h4⟩:=AM.ah h2;obtain⟨rfl,r2⟩:=cB h3;obtain⟨rfl,hr⟩:=H0 (x:=x) (y:=y) h4
  refine .still fun o ho B g a w R V=> ?_
  obtain⟨v,e,hs⟩:=hr (w:=w) (r1 V) (r2 V);refine⟨v, ?_,hs⟩;unfold execOp;rw[ho];exact db e
theorem MG {E:Env}{t:TypeId}{x:Operand}{s s':St}{sl:Slot}{d:Nat}(h:(dW E d (.unOp .not t x)).run s=some (sl,s')):Yld E (.unOp .not t x) s sl s':=by
 obtain⟨v,t,h1,h2⟩:=AM.ah h;obtain⟨b,t2,h3,h4⟩:=AM.ah h2;obtain⟨rfl,r1⟩:=cB h1;obtain⟨rfl,rfl⟩:=zb h3;obtain⟨rfl,rfl⟩:=ai h4
 refine .still fun o ho B g a w R V=>⟨.bool !b, ?_,oh g _⟩
 have e:=l7 (r1 V);unfold execOp;rw[ho];simp[e,Op.unary]
theorem MM {E:Env}{t:TypeId}{x:Operand}{s s':St}{sl:Slot}{d:Nat}(h:(dW E d (.unOp .neg t x)).run s=some (sl,s')):Yld E (.unOp .neg t x) s sl s':=by
 obtain⟨v,t,h1,h2⟩:=AM.ah h;obtain⟨rfl,r1⟩:=cB h1;split at h2
 ·rename_i k n;obtain⟨rfl,rfl⟩:=ai h2
  refine .still fun o ho B g a w R V=>⟨.int k (k.wrap (0 - n)), ?_,uJ g k _⟩
  have e:=gP (r1 V);unfold execOp;rw[ho];simp[e,Op.unary,Op.intArith]
 ·cases h2
theorem De {E:Env}{x:Operand}{s s':St}{sl:Slot}{d:Nat}(h:(dW E d (.nilCheck x)).run s=some (sl,s')):Yld E (.nilCheck x) s sl s':=by
 obtain⟨s1,t,h1,h2⟩:=AM.ah h;obtain⟨rfl,r1⟩:=oa h1;unfold nilCheck at h2;split at h2
 ·obtain⟨rfl,rfl⟩:=ai h2
  refine .still fun o ho B g a w R V=>⟨a.eval x, ?_,r1 V⟩
  obtain⟨_,b,o',_,e⟩:=r1 V;unfold execOp;rw[ho];simp[e]
 ·obtain⟨rfl,rfl⟩:=ai h2
  refine .still fun o ho B g a w R V=>⟨a.eval x, ?_,r1 V⟩
  obtain⟨vs,e,_⟩:=r1 V;unfold execOp;rw[ho];simp[e]
 ·rename_i xs;obtain⟨hb,h3⟩:=lH h2;obtain⟨rfl,rfl⟩:=ai h3
  refine .still fun o ho B g a w R V=>⟨a.eval x, ?_,r1 V⟩
  rcases G9 (r1 V)with⟨e,_⟩|⟨_,b,e⟩
  ·rw[e]at hb;simp at hb
  ·unfold execOp;rw[ho];simp[e]
 ·cases h2
theorem E5 {E:Env}{x:Operand}{i:Nat}{s s':St}{sl:Slot}{d:Nat}(h:(dW E d (.extract x i)).run s=some (sl,s')):Yld E (.extract x i) s sl s':=by
 obtain⟨s1,t,h1,h2⟩:=AM.ah h;obtain⟨rfl,r1⟩:=oa h1;split at h2
 ·rename_i vs;obtain⟨v,t2,h3,h4⟩:=AM.ah h2;obtain⟨hv,rfl⟩:=cn h3;obtain⟨rfl,rfl⟩:=ai h4
  refine .still fun o ho B g a w R V=> ?_
  obtain⟨us,e,hu⟩:=r1 V
  have key:∀{vs:List Val} {us:List Value} {i:Nat} {v:Val},eX g vs us→vs[i]?=some v→∃u,us[i]?=some u∧dT g v u:=by
   intro vs
   induction vs with
   |nil=>intro us i v _ h;simp at h
   |cons c cs ih=>
    intro us i v ⟨u,r,e,hu,hr⟩ h;subst e
    cases i with
    |zero=>simp at h;subst h;exact⟨u,rfl,hu⟩
    |succ i=>simpa using ih hr (by simpa using h)
  obtain⟨u,nw,xx⟩:=key hu hv;refine⟨u, ?_,xx⟩;unfold execOp;rw[ho];simp[e,Instr.extract,nw]
 ·cases h2
theorem Kc {g:Gh}:∀{vs:List Val}{cs:List (Nat×Nat)}{us:List Value},wC vs=some cs→eX g vs us→rR g cs us:=by
 intro vs
 induction vs with
 |nil=>
  intro cs us hc hv;simp only[wC,ar8]at hc;subst hc;exact hv
 |cons c vs ih=>
  intro cs us hc hv;obtain⟨u,r,e,hu,hr⟩:=hv;subst e
  cases c with
  |agg cs=>simp[wC]at hc
  |one c=>
   cases c with
   |ptr id gen off=>
    cases off with
    |succ n=>simp[wC]at hc
    |zero=>
     simp only[wC,aq8]at hc;obtain⟨A9,KU,rfl⟩:=hc;obtain⟨ht,b,o,kX,hu⟩:=hu;exact⟨b,o,r,by rw[hu];rfl,ht,kX,ih KU hr⟩
   |_=>simp[wC]at hc
theorem C3 {E:Env}{f:Fn}{first jr:Array Operand}{s s':St}{sl:Slot}{d:Nat}(h:(dW E d (.makeFunc f first jr)).run s=some (sl,s')):Yld E (.makeFunc f first jr) s sl s':=by
 cases f with
 |func f=> ?_
 |_=>cases h
 obtain⟨hb,h⟩:=bh h;obtain⟨vs,t,h1,h2⟩:=AM.ah h;obtain⟨cs,t2,h3,h4⟩:=AM.ah h2;obtain⟨rfl,r1⟩:=mj h1;obtain⟨hc,rfl⟩:=cn h3;obtain⟨rfl,rfl⟩:=ai h4
 refine .still fun o ho B g a w R V=>⟨.func (.func f) #[] (jr.toList.map a.eval).toArray, ?_,jr.toList.map a.eval,rfl, ?_⟩
 ·unfold execOp;rw[ho]
  have e:first=#[]:=(by simpa using hb)
  simp only[e,Instr.makeFunc];cases jr;simp
 ·exact Kc hc (r1 V)
theorem xO {c:Cell}{s s':St}{n:Nat}(h:(Ct c).run s=some (n,s')):s'=s∧∀{B:Base}{g:Gh}{w:World}{u:Value},HRel B g s.hp w→bl g c u→
  (c.isStr=true∧∃st,u= .string st∧st.size=n)∨(c.isStr=false∧∃A cap,u= .slice A n cap∧(0<n→∃b o,A=some ⟨b,o,none⟩)):=by
 cases c with
 |v τ x=>
  cases τ with
  |str=>
   obtain⟨rfl,rfl⟩:=ai h;refine⟨rfl,fun R hc=> ?_⟩;obtain⟨st,e,l⟩:=oe hc;exact .inl ⟨rfl,st,e,by rw[l,gw]⟩
  |sl e=>
   obtain⟨rfl,rfl⟩:=ai h;refine⟨rfl,fun R hc=> ?_⟩;obtain⟨_,A,cap,e,_,hx⟩:=hc
   injection e with e
   refine .inr ⟨rfl,A,cap,e,fun hn=> ?_⟩
   rcases hx with hx|⟨b,o,_,hA,_⟩
   ·have:(x:List _)=[]:=hx;rw[this]at hn;simp at hn
   ·exact⟨b,o,hA⟩
  |_=>cases h
 |nil=>
  obtain⟨rfl,rfl⟩:=ai h;exact⟨rfl,fun R hc=> .inr ⟨rfl,none,0,hc,fun hn=>absurd hn (by simp)⟩⟩
 |own id gen=>
  simp only[Ct,AM.run]at h;split at h
  ·rename_i g0 τ dp xs heq;obtain⟨hb,h'⟩:=bh h;obtain rfl:=beq_eq hb;obtain⟨rfl,rfl⟩:=ai h';refine⟨rfl,fun R hc=> ?_⟩
   rcases R.eG _ _ heq with⟨e1,e2⟩|⟨b,cap,arr,ty,e1,_⟩
   ·subst e2;exact .inr ⟨rfl,none,0,hc.2.1.trans e1,fun hn=>absurd hn (by simp)⟩
   ·exact .inr ⟨rfl,_,cap,hc.2.1.trans e1,fun _=>⟨b,0,rfl⟩⟩
  ·rename_i g0 τ xs heq;obtain⟨hb,h'⟩:=bh h;obtain rfl:=beq_eq hb;obtain⟨rfl,rfl⟩:=ai h';refine⟨rfl,fun R hc=> ?_⟩;obtain⟨A,cap,e,_,hx⟩:=R.eG _ _ heq
   injection e with e
   refine .inr ⟨rfl,A,cap,hc.2.1.trans e,fun hn=> ?_⟩
   rcases hx with hx|⟨b,o,_,hA,_⟩
   ·rw[hx]at hn;simp at hn
   ·exact⟨b,o,hA⟩
  ·rename_i g0 xs a ag bid bg off heq;obtain⟨hb,h'⟩:=bh h;obtain rfl:=beq_eq hb;obtain⟨rfl,rfl⟩:=ai h';refine⟨rfl,fun R hc=> ?_⟩;obtain⟨_,_,_,⟨_,e1,e2⟩|⟨bb,oo,_,_,⟨e1,e2⟩|⟨b,cap,arr,ty,e1,_⟩⟩⟩:=R.eG _ _ heq
   ·subst e2;exact .inr ⟨rfl,none,0,hc.2.1.trans e1,fun hn=>absurd hn (by simp)⟩
   ·subst e2;exact .inr ⟨rfl,none,0,hc.2.1.trans e1,fun hn=>absurd hn (by simp)⟩
   ·exact .inr ⟨rfl,_,cap,hc.2.1.trans e1,fun _=>⟨b,0,rfl⟩⟩
  ·cases h
 |_=>cases h
theorem IQ {g:Gh}{vs:List Val}{us:List Value}(h:eX g vs us){v:Val}(e:vs=[v]):∃u,us=[u]∧dT g v u:=by
 subst e;obtain⟨u,r,e,hu,hr⟩:=h;have hr:_=_:=hr;subst hr;exact⟨u,e,hu⟩
theorem Iz {g:Gh}{vs:List Val}{us:List Value}(h:eX g vs us){v v':Val}(e:vs=[v,v']):∃u u',us=[u,u']∧dT g v u∧dT g v' u':=by
 subst e;obtain⟨u,r,e,hu,u',r',e',ak8,hr⟩:=h;have hr:_=_:=hr;subst hr;subst e';exact⟨u,u',e,hu,ak8⟩
theorem K8 {E:Env}{t:TypeId}{c:Cell}(h:E.fit t c=true):(E.P.underlying t=some .string∧c.isStr=true)∨(∃e,E.P.underlying t=some (.slice e)∧c.isStr=false):=by
 unfold Env.fit at h;split at h
 ·rename_i e;exact .inl ⟨e,h⟩
 ·rename_i e;exact .inr ⟨_,e,by simpa using h⟩
 ·cases h
theorem MN {E:Env}{c:Call}(hc:c.callee= .builtin .len){s s':St}{sl:Slot}{d:Nat}(h:(dW E d (.call c)).run s=some (sl,s')):Yld E (.call c) s sl s':=by
 simp only[dW,hc]at h;obtain⟨vs,t,h1,h2⟩:=AM.ah h;obtain⟨rfl,r1⟩:=mj h1;split at h2
 ·rename_i x;obtain⟨hb,h3⟩:=bh h2;obtain⟨n,t2,h4,h5⟩:=AM.ah h3;obtain⟨rfl,hl⟩:=xO h4;obtain⟨rfl,rfl⟩:=ai h5
  refine .still fun o ho B g a w R V=>⟨.int .i64 n, ?_,uJ g _ _⟩
  obtain⟨u,hu,hr⟩:=IQ (r1 V) rfl
  have Ml:c.args.map a.eval=#[u]:=by
   have:c.args=c.args.toList.toArray:=(by simp);rw[this];simp only[List.map_toArray,hu]
  have⟨t0,ae8,Ex⟩:∃t0,c.argTypes[0]?=some t0∧E.fit t0 x=true:=by
   cases hh:c.argTypes[0]? with
   |none=>rw[hh]at hb;simp at hb
   |some t0=>rw[hh]at hb;exact⟨t0,rfl,by simpa using hb⟩
  unfold execOp;rw[ho];simp only[resolve,hc,Go.invoke,builtin,Sem.run_bind,Sem.run_pure,Result.andThen_ok,Ml,Builtin.len_,ae8]
  rcases K8 Ex with⟨e1,e2⟩|⟨e,e1,e2⟩
  ·rcases hl R hr with⟨_,st,e4,l'⟩|⟨e3,_⟩
   ·subst e4;simp[run_underlying e1,goInt,l']
   ·rw[e2]at e3;cases e3
  ·rcases hl R hr with⟨e3,_⟩|⟨_,A,cap,e3,_⟩
   ·rw[e2]at e3;cases e3
   ·subst e3;simp[run_underlying e1,goInt]
 ·cases h2
theorem MK {E:Env}{c:Call}(hc:c.callee= .builtin .max){s s':St}{sl:Slot}{d:Nat}(h:(dW E d (.call c)).run s=some (sl,s')):Yld E (.call c) s sl s':=by
 simp only[dW,hc]at h;obtain⟨vs,t,h1,h2⟩:=AM.ah h;obtain⟨rfl,r1⟩:=mj h1;split at h2
 ·rename_i k x k' y;obtain⟨rfl,rfl⟩:=ai h2
  refine .still fun o ho B g a w R V=>⟨.int k (if y>x then y else x), ?_,uJ g _ _⟩
  obtain⟨u,u',hu,hr,Ni⟩:=Iz (r1 V) rfl
  have Ml:c.args.map a.eval=#[u,u']:=by
   have:c.args=c.args.toList.toArray:=(by simp);rw[this];simp only[List.map_toArray,hu]
  have e1:=gP hr;have e2:=gP Ni;subst e1;subst e2;unfold execOp;rw[ho];simp[resolve,hc,Go.invoke,builtin,Ml,Builtin.max_,Builtin.max2]
 ·cases h2
theorem Hy {E:Env}{t:TypeId}{x i:Operand}{s s':St}{sl:Slot}{d:Nat}(h:(dW E d (.index t x i)).run s=some (sl,s')):Yld E (.index t x i) s sl s':=by
 obtain⟨v,t1,h1,h2⟩:=AM.ah h;obtain⟨iv,t2,h3,h4⟩:=AM.ah h2;obtain⟨n,t3,h5,h6⟩:=AM.ah h4;obtain⟨rfl,r1⟩:=cB h1;obtain⟨rfl,r2⟩:=cB h3;obtain⟨⟨k,rfl⟩,rfl⟩:=kx h5;split at h6
 ·rename_i l ht;obtain⟨hb,h7⟩:=lH h6;obtain⟨rfl,rfl⟩:=ai h7
  refine .still fun o ho B g a w R V=> ?_
  obtain⟨st,e,hl⟩:=oe (r1 V);have e2:=gP (r2 V);simp only[ao3,ao1]at hb
  have hlen:n.toNat<st.size:=by
   have:(l:List Int).length=st.size:=(by rw[hl,gw]);omega
  have iO:n.toNat<st.data.toList.length:=(by simpa using hlen)
  have Nk:(l:List Int).getD n.toNat 0=(st[n.toNat].toNat:Int):=by
   rw[hl];unfold bytesOf;rw[ap9,List.getElem?_map,ap8 iO];simp;rfl
  refine⟨.int .u8 (st[n.toNat].toNat:Int), ?_,by rw[←Nk];exact uJ g _ _⟩;unfold execOp;rw[ho];have h0:0≤n:=hb.1;have hs:st[n.toNat]?=some st[n.toNat]:=(by simp[hlen]);simp[e,e2,Instr.index,asIntOf,run_underlying ht,h0,hs]
 ·cases h6
theorem Iu {E:Env}{s:TypeId}{i:Nat}{f:Field}(h:E.field s i=some f):∃fs,E.P.underlying s=some (.struct fs)∧fs[i]?=some f:=by
 unfold Env.field at h;split at h
 ·rename_i fs e;exact⟨fs,e,h⟩
 ·cases h
end Go.Abs
end

section
namespace Go.Abs
theorem HRel.Tt {B:Base}{g:Gh}{hp Bb:List (Nat×Obj)}{w:World}(R:HRel B g hp w)(e:∀i,look Bb i=look hp i):HRel B g Bb w:=
 ⟨fun i=>by rw[e i];exact R.top i,fun i o h=>R.eG i o (by rw[←e i];exact h),R.aK,R.dU,R.dR,R.ji,R.frame,R.size,R.os,R.tape,R.output,R.fix⟩
theorem Km:∀{τ:Ty}{x:τ.den}{off:Nat}{e:Ty}{ys zs:List e.den}{x':τ.den},wK τ x off=some ⟨e,ys⟩→mw τ x off e zs=some x'→wK τ x' off=some ⟨e,zs⟩∧∀ws:List e.den,mw τ x' off e ws=mw τ x off e ws:=by
 intro τ
 induction τ with
 |pr a b vo vn=>
  intro x off e ys zs x' h k;unfold wK at h;unfold mw at k
  cases hb:Nat.blt off a.size with
  |true=>
   rw[hb]at h k;obtain⟨y,h1,rfl⟩:=aq8.1 k;obtain⟨i1,i2⟩:=vo h h1;refine⟨by unfold wK;rw[hb];exact i1,fun ws=> ?_⟩;unfold mw;rw[hb];simp only[ap3,i2 ws]
  |false=>
   rw[hb]at h k;obtain⟨y,h1,rfl⟩:=aq8.1 k;obtain⟨i1,i2⟩:=vn h h1;refine⟨by unfold wK;rw[hb];exact i1,fun ws=> ?_⟩;unfold mw;rw[hb];simp only[ao8,i2 ws]
 |sl e' _=>
  intro x off e ys zs x' h k
  cases off with
  |zero=>
   injection h with h;injection h with h1 h2
   subst h1;have k:(if h:e'=e' then some (h ▸ zs)else none)=some x':=k;rw[dif_pos rfl]at k
   injection k with k
   subst k;exact⟨rfl,fun _=>rfl⟩
  |succ n=>cases h
 |_=>intro x off e ys zs x' h;cases off<;>cases h
theorem Lin.len {r:Rd}{τ:Ty}{x:τ.den}{cs:List Value}{nb:List Nat}(h:Lin r τ x cs nb):cs.length=τ.size:=h.rc.length
theorem Lin.focus {r:Rd}:∀{τ:Ty}{x:τ.den}{cs:List Value}{nb:List Nat}{off:Nat}{e:Ty}{ys:List e.den},Lin r τ x cs nb→wK τ x off=some ⟨e,ys⟩→
  ∃m1 mb m2 u,nb=m1++mb++m2∧cs[off]?=some u∧Lin r (.sl e) ys [u] mb∧
   ∀(r':Rd) (zs:List e.den) (v:Value) (Hw:List Nat) (x':τ.den),(∀b∈m1++m2,∀L,r b=some L→r' b=some L)→Lin r' (.sl e) zs [v] Hw→mw τ x off e zs=some x'→Lin r' τ x' (cs.set off v) (m1++Hw++m2):=by
 intro τ
 induction τ with
 |pr a b vo vn=>
  intro x cs nb off e ys ⟨c1,c2,n1,n2,ec,en,h1,h2⟩ h;subst ec;subst en;have hl:=h1.len;unfold wK at h
  cases hb:Nat.blt off a.size with
  |true=>
   rw[hb]at h;have iO:off<a.size:=aq4 hb;obtain⟨m1,mb,m2,u,rfl,hu,hL,hS⟩:=vo h1 h;refine⟨m1,mb,m2++n2,u,by simp,by rw[List.getElem?_append_left (by omega)];exact hu,hL,fun r' zs v Hw x' hm hv hs=> ?_⟩;unfold mw at hs;rw[hb]at hs;obtain⟨y,hy,rfl⟩:=aq8.1 hs;rw[List.set_append_left _ _ (by omega)];refine⟨c1.set off v,c2,m1++Hw++m2,n2,rfl,by simp,hS r' zs v Hw y (fun b hb=>hm b ?_) hv hy,h2.mono fun b hb=>hm b ?_⟩
   ·rcases aq6.1 hb with hb|hb<;>simp[hb]
   ·simp[hb]
  |false=>
   rw[hb]at h
   have EM:a.size≤off:=by
    rcases Nat.lt_or_ge off a.size with h'|h'
    ·have:Nat.blt off a.size=true:=Nat.ble_eq_true_of_le h';rw[this]at hb;cases hb
    ·exact h'
   obtain⟨m1,mb,m2,u,rfl,hu,hL,hS⟩:=vn h2 h;refine⟨n1++m1,mb,m2,u,by simp,by rw[List.getElem?_append_right (by omega),hl];exact hu,hL,fun r' zs v Hw x' hm hv hs=> ?_⟩;unfold mw at hs;rw[hb]at hs;obtain⟨y,hy,rfl⟩:=aq8.1 hs;rw[List.set_append_right _ _ (by omega),hl];refine⟨c1,c2.set (off - a.size) v,n1,m1++Hw++m2,rfl,by simp,h1.mono (fun b hb=>hm b ?_),hS r' zs v Hw y (fun b hb=>hm b ?_) hv hy⟩
   ·simp[hb]
   ·rcases aq6.1 hb with hb|hb<;>simp[hb]
 |sl e' _=>
  intro x cs nb off e ys hL h
  cases off with
  |succ n=>cases h
  |zero=>
   injection h with h;injection h with h1 h2
   subst h1;have h2:x=ys:=eq_of_heq h2;subst h2;have hl:cs.length=1:=hL.len
   obtain⟨u,rfl⟩:∃u,cs=[u]:=by
    match cs,hl with
    |[u],_=>exact⟨u,rfl⟩
   refine⟨[],nb,[],u,by simp,rfl,hL,fun r' zs v Hw x' hm hv hs=> ?_⟩;have hs:(if h:e'=e' then some (h ▸ zs)else none)=some x':=hs;rw[dif_pos rfl]at hs
   injection hs with hs
   subst hs;simpa using hv
 |_=>intro x cs nb off e ys _ h;cases off<;>cases h
theorem fe.focus {r:Rd}{τ:Ty}:∀{xs:List τ.den}{L:List Value}{nb:List Nat}{i off:Nat}{e:Ty}{ys:List e.den}(hi:i<xs.length),fe r τ xs L nb→wK τ xs[i] off=some ⟨e,ys⟩→
  ∃m1 mb m2 u,nb=m1++mb++m2∧L[i*τ.size+off]?=some u∧Lin r (.sl e) ys [u] mb∧
   ∀(r':Rd) (zs:List e.den) (v:Value) (Hw:List Nat) (x':τ.den),(∀b∈m1++m2,∀L,r b=some L→r' b=some L)→Lin r' (.sl e) zs [v] Hw→mw τ xs[i] off e zs=some x'→fe r' τ (xs.set i x') (L.set (i*τ.size+off) v) (m1++Hw++m2)
 |[],_,_,i,_,_,_,hi,_,_=>absurd hi (by simp)
 |x::xs,L,nb,0,off,e,ys,hi,⟨n1,n2,en,h1,h2⟩,h=>by
  subst en;have h:wK τ x off=some ⟨e,ys⟩:=h;obtain⟨m1,mb,m2,u,rfl,hu,hL,hS⟩:=h1.focus h
  have yH:off<τ.size:=by
   have:=(List.getElem?_eq_some_iff.1 hu).1;have h3:=h1.len;omega
  rw[List.getElem?_take_of_lt yH]at hu;refine⟨m1,mb,m2++n2,u,by simp,by simpa using hu,hL,fun r' zs v Hw x' hm hv hs=> ?_⟩;have hs:mw τ x off e zs=some x':=hs;refine⟨m1++Hw++m2,n2,by simp, ?_, ?_⟩
  ·rw[Nat.zero_mul,Nat.zero_add,List.take_set];exact hS r' zs v Hw x' (fun b hb=>hm b (by rcases aq6.1 hb with hb|hb<;>simp[hb])) hv hs
  ·rw[Nat.zero_mul,Nat.zero_add,List.drop_set,as0 yH]
   exact h2.mono fun b hb=>hm b (by simp[hb])
 |x::xs,L,nb,i+1,off,e,ys,hi,⟨n1,n2,en,h1,h2⟩,h=>by
  subst en;have qE:i<xs.length:=(by simpa using hi);have h:wK τ xs[i] off=some ⟨e,ys⟩:=h;obtain⟨m1,mb,m2,u,rfl,hu,hL,hS⟩:=fe.focus qE h2 h
  have e1:(i+1)*τ.size+off=τ.size+(i*τ.size+off):=by rw[Nat.add_mul];omega
  rw[List.getElem?_drop]at hu;refine⟨n1++m1,mb,m2,u,by simp,by rw[e1];exact hu,hL,fun r' zs v Hw x' hm hv hs=> ?_⟩;have hs:mw τ xs[i] off e zs=some x':=hs;refine⟨n1,m1++Hw++m2,by simp, ?_, ?_⟩
  ·rw[e1,List.take_set,List.set_eq_of_length_le (by rw[ar2];omega)]
   exact h1.mono fun b hb=>hm b (by simp[hb])
  ·rw[e1,List.drop_set,ar1 (by omega),Nat.add_sub_cancel_left];exact hS r' zs v Hw x' (fun b hb=>hm b (by rcases aq6.1 hb with hb|hb<;>simp[hb])) hv hs
theorem VH {τ:Ty}{xs:List τ.den}{i:Int}(h:i.toNat<xs.length):at_ xs i=xs[i.toNat]:=by
 unfold at_;rw[ap9,ap8 h];rfl
theorem Lo (r:Rd){e:Ty}(he:e.flat=true):Lin r (.sl e) ([]:List e.den) [.slice none 0 0] []:=⟨he, .inl ⟨rfl,rfl,rfl⟩⟩
open Classical in
noncomputable def Gh.opened (g:Gh)(d gd:Nat)(u:Value)(mb:List Nat):Gh:=
  { g with top := fun i => if i = d then gd + 1 else g.top i
           cv:=fun i k=>if i=d∧k=gd then u else g.cv i k
           dn:=fun x=>if x∈mb then some (d+1)else g.dn x
           dU:=fun x=>if x∈mb then none else g.dU x}
theorem HRel.Hc {B:Base}{g:Gh}{hp:List (Nat×Obj)}{w:World}(R:HRel B g hp w){id gen d off:Nat}{i:Int}{τ e:Ty}{xs:List τ.den}{ys:List e.den}{x':τ.den}(h:look hp id=some (.own gen τ true xs))(hf:τ.flat=false)(hd:d≠id)
  (h0:0≤i) (hi:i.toNat<xs.length) (hs:wK τ (at_ xs i) off=some ⟨e,ys⟩) (hx:mw τ (at_ xs i) off e []=some x'):
  ∃g' b cap arr ty u,Lk g g'∧g.cv id gen= .slice (some ⟨b,0,none⟩) xs.length cap∧w.heap[b]?=some (.cells arr ty (0,0))∧arr.toList[i.toNat*τ.size+off]?=some u∧bl g' (.own d (g.top d)) u∧
   HRel B g' ((id, .hole gen τ xs i off d (g.top d))::(d, .own (g.top d) e true ys)::hp) w:=by
 rcases R.eG _ _ h with⟨_,h2⟩|⟨b,cap,arr,ty,h1,h2,h3,h4,h5,h6,h7⟩
 ·subst h2;simp at hi
 unfold dE at h7;rw[hf]at h7;simp only[aq5,ap1,if_true]at h7;obtain⟨nb,k1,k2,k3⟩:=h7;have Sz:=hs;have Vs:=hx;rw[VH hi]at Sz Vs;obtain⟨m1,mb,m2,u,rfl,hu,hL,hS⟩:=k1.focus hi Sz
 have Ew:b∉m1++mb++m2:=fun hm=>k1.mQ b hm h3
 have W3:∀x∈mb,g.dn x=some (id+1):=fun x hx=>k3 x (by simp[hx])
 have PG:b∉mb:=fun hm=>Ew (by simp[hm])
 have ht:=gB R h;have nd:=as7.1 k2;have dF:=as7.1 nd.1
 let g':=g.opened d (g.top d) u mb
 have hle:Le g g':=by
  refine⟨fun _ _ h=>h,fun j=> ?_,fun j k hk=> ?_⟩
  ·show g.top j≤if j=d then g.top d+1 else g.top j
   split
   ·rename_i e;subst e;omega
   ·exact aq2 _
  ·show(if j=d∧k=g.top d then _ else g.cv j k)=g.cv j k;rw[ar1];rintro⟨rfl,rfl⟩;omega
 have lK:∀x,x∉mb→g'.dn x=g.dn x:=fun x hx=>by simp[g',Gh.opened,hx]
 have uQ:∀x,x∉mb→g'.dU x=g.dU x:=fun x hx=>by simp[g',Gh.opened,hx]
 have Rv:g'.cv d (g.top d)=u:=(by simp[g',Gh.opened]);have ai6:g'.top d=g.top d+1:=(by simp[g',Gh.opened])
 have Nn:oc u=true:=by
  rcases hL.2 with⟨e,_⟩|⟨_,_,_,e,_⟩<;>(injection e with e;subst e;rfl)
 have xW:∀x∈m1++m2,x∉mb:=by
  intro x hx hm
  rcases aq6.1 hx with hx|hx
  ·exact dF.2.2 x hx x hm rfl
  ·exact nd.2.2 x (by simp[hm]) x hx rfl
 have newObj:mF g' w d (.own (g.top d) e true ys):=by
  rcases hL.2 with⟨e1,e2,_⟩|⟨b',c,L,e1,e2,e3,e4,e5,e6⟩
  ·injection e1 with e1
   exact .inl ⟨by rw[Rv,e1],e2⟩
  ·injection e1 with e1
   subst e3;obtain⟨_,uP,FV,a1,a2⟩:=R.dU b' L e4;refine .inr ⟨b',c,uP,FV,by rw[Rv,e1],by simp[g',Gh.opened],by simp[g',Gh.opened],a1,e2, ?_, ?_⟩
   ·have:uP.size=uP.toList.length:=(by simp);rw[this,a2,e5]
   ·unfold dE;rw[hL.1];simp only[aq3,ao7,ar9,at3];rw[a2];exact e6.flat hL.1
 have K1:mF g' w id (.hole gen τ xs i off d (g.top d)):=by
  refine⟨by omega,h0,hi,hf,b,cap,arr,ty,e,ys,x',(hle.cv _ _ ht).trans h1,(lK b PG).trans h2,(uQ b PG).trans h3,h4,h5,h6,hs,hx,by rw[Rv];exact hu,m1++[]++m2, ?_, ?_,fun x hx=> ?_⟩
  ·exact hS g'.dU [] _ [] x' (fun y hy L Vt=>(uQ y (xW y hy)).trans Vt) (Lo _ hL.1) Vs
  ·simp only[aq7];rw[as7];exact⟨dF.1,nd.2.1,fun x hx y hy=>nd.2.2 x (by simp[hx]) y hy⟩
  ·have hx:x∈m1++m2:=(by simpa using hx);rw[lK x (xW x hx)];exact k3 x (by rcases aq6.1 hx with h|h<;>simp[h])
 refine⟨g',b,cap,arr,ty,u,⟨hle,fun x hx=> ?_,rfl⟩,h1,h4,hu,⟨by omega,Rv.symm,Nn⟩,⟨fun j=> ?_,fun j oj hj=> ?_,fun x L hx=> ?_,fun x L hx=> ?_,fun x hx=> ?_,R.ji,fun x hx hl hi=> ?_,R.size,R.os,R.tape,R.output,R.fix⟩⟩
 ·have:x∉mb:=fun hm=>by rw[W3 x hm]at hx;simp at hx
  exact⟨(lK x this).trans hx,uQ x this⟩
 ·show(if j=d then g.top d+1 else g.top j)=_
  by_cases e1:id=j
  ·subst e1;rw[aC,ar1 (Ne.symm hd),R.top id,h];rfl
  ·rw[ay _ _ e1]
   by_cases e2:d=j
   ·subst e2;rw[aC,as0 rfl];rfl
   ·rw[ay _ _ e2,ar1 (Ne.symm e2)];exact R.top j
 ·by_cases e1:id=j
  ·subst e1
   rw[aC]at hj;injection hj with hj;subst hj;exact K1
  ·rw[ay _ _ e1]at hj
   by_cases e2:d=j
   ·subst e2
    rw[aC]at hj;injection hj with hj;subst hj;exact newObj
   ·rw[ay _ _ e2]at hj;refine(R.eG j oj hj).tr hle (fun x hx=> ?_) rfl (gB R hj)
    have:x∉mb:=fun hm=>by rw[W3 x hm]at hx;simp at hx;exact e1 hx
    exact⟨(lK x this).trans hx,uQ x this,rfl⟩
 ·obtain⟨a1,a2,a3⟩:=R.aK x L hx
  have:x∉mb:=fun hm=>by rw[W3 x hm]at a1;cases a1
  exact⟨(lK x this).trans a1,(uQ x this).trans a2,a3⟩
 ·by_cases hm:x∈mb
  ·have:g'.dU x=none:=(by simp[g',Gh.opened,hm]);rw[this]at hx;cases hx
  ·rw[uQ x hm]at hx;rw[lK x hm];exact R.dU x L hx
 ·by_cases hm:x∈mb
  ·exact R.dR x (by rw[W3 x hm];simp)
  ·rw[lK x hm]at hx;exact R.dR x hx
 ·obtain⟨f1,f2,f3⟩:=R.frame x hx hl hi
  have:x∉mb:=fun hm=>by rw[W3 x hm]at f1;cases f1
  exact⟨(lK x this).trans f1,f2,f3⟩
open Classical in
noncomputable def Gh.closed (g:Gh)(id:Nat)(mb:List Nat)(L:List Value):Gh:=
  { g with dn := fun x => if x ∈ mb then some (id + 1) else g.dn x
           dU:=fun x=>if x∈mb then some L else g.dU x}
theorem HRel.pM {B:Base}{g:Gh}{hp:List (Nat×Obj)}{w:World}(R:HRel B g hp w){id gen d gd off:Nat}{i:Int}{τ e:Ty}{dp:Bool}{xs:List τ.den}{ys:List e.den}{x:τ.den}(h:look hp id=some (.hole gen τ xs i off d gd))(ho:look hp d=some (.own gd e dp ys))(hd:d≠id)
  (hx:mw τ (at_ xs i) off e ys=some x):
  ∃g',Lk g g'∧HRel B g' ((id, .own gen τ true (xs.set i.toNat x))::(d, .dead gd)::hp) w:=by
 obtain⟨hg,h0,hi,hf,b,cap,arr,ty,e',W5,x',h1,h2,h3,h4,h5,h6,h7,h8,h9,nb,k1,k2,k3⟩:=R.eG _ _ h
 have ac7:e'=e:=by
  have key:∀{τ:Ty} {x:τ.den} {off:Nat} {e e':Ty} {ys:List e.den} {W5:List e'.den} {x1:τ.den},wK τ x off=some ⟨e',W5⟩→mw τ x off e ys=some x1→e'=e:=by
   intro τ
   induction τ with
   |pr a b vo vn=>
    intro x off e e' ys W5 x1 h k;unfold wK at h;unfold mw at k
    cases hb:Nat.blt off a.size with
    |true=>rw[hb]at h k;obtain⟨y,k,_⟩:=aq8.1 k;exact vo h k
    |false=>rw[hb]at h k;obtain⟨y,k,_⟩:=aq8.1 k;exact vn h k
   |sl e2 _=>
    intro x off e e' ys W5 x1 h k
    cases off with
    |succ n=>cases h
    |zero=>
     injection h with h;injection h with h1 h2
     have k:(if h:e=e2 then some (h ▸ ys)else none)=some x1:=k
     by_cases he:e=e2
     ·exact h1.symm.trans he.symm
     ·rw[dif_neg he]at k;cases k
   |_=>intro x off e e' ys W5 x1 h;cases off<;>cases h
  exact key h7 hx
 subst ac7;obtain⟨q1,q2⟩:=Km h7 h8;have qE:i.toNat<(xs.set i.toNat x').length:=(by simpa using hi);have F0:(xs.set i.toNat x')[i.toNat]=x':=(by simp);obtain⟨m1,ad1,m2,u0,rfl,M7,Ss,hS⟩:=k1.focus qE (by rw[F0];exact q1);have rU:i.toNat*τ.size+off<arr.toList.length:=(List.getElem?_eq_some_iff.1 h9).1;rw[List.getElem?_set_self rU]at M7
 injection M7 with M7
 subst M7
 have Za:ad1=[]:=by
  rcases Ss.2 with⟨_,_,e3⟩|⟨b',c,L,e1,_⟩
  ·exact e3
  ·injection e1 with e1;cases e1
 subst Za
 have Ew:b∉m1++m2:=fun hm=>k1.mQ b (by simpa using hm) h3
 have Ru:(arr.toList.set (i.toNat*τ.size+off) (.slice none 0 0)).set (i.toNat*τ.size+off) (g.cv d gd)=arr.toList:=by
  rw[List.set_set]
  apply List.ext_getElem?
  intro j
  by_cases e:i.toNat*τ.size+off=j
  ·subst e;rw[List.getElem?_set_self rU,h9]
  ·rw[List.getElem?_set_ne e]
 have XL:mw τ (xs.set i.toNat x')[i.toNat] off e' ys=some x:=by rw[F0,q2 ys];exact hx
 have hlen:((xs.set i.toNat x').set i.toNat x)=xs.set i.toNat x:=(by rw[List.set_set])
 have Zm:∀x∈m1++m2,g.dn x=some (id+1):=fun x hx=>k3 x (by simpa using hx)
 have ai6:=gB R ho
 have done:∀(mb:List Nat) (L0:List Value),(∀y∈mb,g.dn y=some (d+1)∧∃arr ty,w.heap[y]?=some (.cells arr ty (0,0))∧arr.toList=L0)→mb.Nodup→
   Lin (g.closed id mb L0).dU (.sl e') ys [g.cv d gd] mb→∃g',Lk g g'∧HRel B g' ((id, .own gen τ true (xs.set i.toNat x))::(d, .dead gd)::hp) w:=by
  intro mb L0 kY mG ZB
  let g':=g.closed id mb L0
  have hle:Le g g':=⟨fun _ _ h=>h,fun _=>aq2 _,fun _ _ _=>rfl⟩
  have lK:∀y,y∉mb→g'.dn y=g.dn y:=fun y hy=>by simp[g',Gh.closed,hy]
  have uQ:∀y,y∉mb→g'.dU y=g.dU y:=fun y hy=>by simp[g',Gh.closed,hy]
  have Sr:∀y,y∈mb→g'.dn y=some (id+1):=fun y hy=>by simp[g',Gh.closed,hy]
  have Wl:∀y,y∈mb→g'.dU y=some L0:=fun y hy=>by simp[g',Gh.closed,hy]
  have FX:∀y,g.dn y≠some (d+1)→y∉mb:=fun y hy hm=>hy (kY y hm).1
  have Hq:∀y∈m1++m2,y∉mb:=fun y hy=>FX y (by rw[Zm y hy];simp;exact fun e=>hd e.symm)
  have PG:b∉mb:=FX b (by rw[h2];simp;exact fun e=>hd e.symm);have e1:=hS g'.dU ys (g.cv d gd) mb x (fun y hy L hL=>by rw[uQ y (Hq y hy)];exact hL) ZB XL;rw[Ru,hlen]at e1
  have K1:mF g' w id (.own gen τ true (xs.set i.toNat x)):=by
   refine .inr ⟨b,cap,arr,ty,by show g.cv id gen=_;rw[List.length_set];exact h1,(lK b PG).trans h2,(uQ b PG).trans h3,h4,by simpa using h5,h6, ?_⟩;unfold dE;rw[hf];simp only[aq5,ap1,if_true];refine⟨m1++mb++m2,e1, ?_,fun y hy=> ?_⟩
   ·have nd:=as7.1 (show(m1++m2).Nodup by simpa using k2);rw[as7,as7];refine⟨⟨nd.1,mG,fun a ha c hc e=> ?_⟩,nd.2.1,fun a ha c hc e=> ?_⟩
    ·subst e;exact Hq a (by simp[ha]) hc
    ·subst e
     rcases aq6.1 ha with ha|ha
     ·exact nd.2.2 a ha a hc rfl
     ·exact Hq a (by simp[hc]) ha
   ·by_cases hm:y∈mb
    ·exact Sr y hm
    ·rw[lK y hm];refine Zm y ?_
     rcases aq6.1 hy with hy|hy
     ·rcases aq6.1 hy with hy|hy
      ·simp[hy]
      ·exact absurd hy hm
     ·simp[hy]
  refine⟨g',⟨hle,fun y hy=> ?_,rfl⟩,⟨fun j=> ?_,fun j oj hj=> ?_,fun y L hy=> ?_,fun y L hy=> ?_,fun y hy=> ?_,R.ji,fun y hy hl hi=> ?_,R.size,R.os,R.tape,R.output,R.fix⟩⟩
  ·have:=FX y (by rw[hy];simp);exact⟨(lK y this).trans hy,uQ y this⟩
  ·show g.top j=_;rw[R.top j]
   by_cases e1:id=j
   ·subst e1;rw[aC,h];rfl
   ·rw[ay _ _ e1]
    by_cases e2:d=j
    ·subst e2;rw[aC,ho];rfl
    ·rw[ay _ _ e2]
  ·by_cases e2:id=j
   ·subst e2
    rw[aC]at hj;injection hj with hj;subst hj;exact K1
   ·rw[ay _ _ e2]at hj
    by_cases e3:d=j
    ·subst e3
     rw[aC]at hj;injection hj with hj;subst hj;trivial
    ·rw[ay _ _ e3]at hj;refine(R.eG j oj hj).tr hle (fun y hy=> ?_) rfl (gB R hj);have ZR:=FX y (by rw[hy];simp;exact fun e=>e3 e.symm);exact⟨(lK y ZR).trans hy,uQ y ZR,rfl⟩
  ·obtain⟨a1,a2,a3⟩:=R.aK y L hy;have:=FX y (by rw[a1];simp);exact⟨(lK y this).trans a1,(uQ y this).trans a2,a3⟩
  ·by_cases hm:y∈mb
   ·rw[Wl y hm]at hy
    injection hy with hy
    obtain⟨_,uP,FV,a1,a2⟩:=kY y hm;exact⟨by rw[Sr y hm];simp,uP,FV,a1,a2.trans hy⟩
   ·rw[uQ y hm]at hy;rw[lK y hm];exact R.dU y L hy
  ·by_cases hm:y∈mb
   ·exact R.dR y (by rw[(kY y hm).1];simp)
   ·rw[lK y hm]at hy;exact R.dR y hy
  ·obtain⟨f1,f2,f3⟩:=R.frame y hy hl hi;have:=FX y (by rw[f1];simp);exact⟨(lK y this).trans f1,f2,f3⟩
 rcases R.eG _ _ ho with⟨o1,o2⟩|⟨b',P9,uP,FV,o1,o2,o3,o4,o5,o6,o7⟩
 ·refine done [] [] (fun y hy=>by simp at hy) as2 ?_;have o2:ys=[]:=o2;rw[o1,o2];exact Lo _ Ss.1
 ·refine done [b'] uP.toList (fun y hy=> ?_) (by simp) ⟨Ss.1, .inr ⟨b',P9,uP.toList,by rw[o1],o5,rfl,by simp[Gh.closed],by simpa using o6, ?_⟩⟩
  ·simp only[List.mem_singleton]at hy;subst hy;exact⟨o2,uP,FV,o4,rfl⟩
  ·unfold dE at o7;rw[Ss.1]at o7;simp only[aq3,ao7,ar9,at3]at o7;exact o7.flat Ss.1
theorem vL {id gen:Nat}{s s':St}(h:(pM id gen).run s=some ((),s')):s'.env=s.env∧(∀j gn cs,look s.hp j=some (.iu gn cs)→look s'.hp j=some (.iu gn cs))∧∀{B:Base}{g:Gh}{w:World},HRel B g s.hp w→∃g',Lk g g'∧HRel B g' s'.hp w:=by
 simp only[pM,AM.run]at h;split at h
 ·rename_i g0 τ xs i off d gd heq;obtain⟨hb,h1⟩:=bh h;simp only[AM.run]at h1;split at h1
  ·rename_i g2 e dp ys Qa;obtain⟨zW,h2⟩:=bh h1;simp only[ao3,at0]at zW;obtain rfl:=beq_eq zW.1
   have hd:d≠id:=fun e=>by subst e;have:=zW.2;rw[Nat.beq_refl]at this;cases this
   split at h2
   ·rename_i x hx;simp only[AM.run,ar8,as9,true_and]at h2;subst h2;refine⟨rfl,fun j gn cs hj=> ?_,fun{B g w} R=>R.pM heq Qa hd hx⟩
    have e1:id≠j:=fun e=>by subst e;rw[heq]at hj;cases hj
    have e2:d≠j:=fun e=>by subst e;rw[Qa]at hj;cases hj
    show look ((id,_)::(d,_)::s.hp) j=_;rw[ay _ _ e1,ay _ _ e2];exact hj
   ·cases h2
  ·cases h1
 ·obtain⟨_,rfl⟩:=ai h;exact⟨rfl,fun _ _ _ h=>h,fun{B g w} R=>⟨g,Lk.refl g,R⟩⟩
theorem BM {c:Cell}{s s':St}(h:(AR c).run s=some ((),s')):s'.env=s.env∧∀{B:Base}{g:Gh}{w:World},HRel B g s.hp w→∃g',Lk g g'∧HRel B g' s'.hp w:=by
 unfold AR at h;split at h
 ·obtain⟨h1,_,h2⟩:=vL h;exact⟨h1,h2⟩
 ·obtain⟨_,rfl⟩:=ai h;exact⟨rfl,fun{B g w} R=>⟨g,Lk.refl g,R⟩⟩
theorem zl {s s':St}{id gen:Nat}(h:(gR id).run s=some (gen,s')):s'=s∧∀gn cs,look s.hp id≠some (.iu gn cs):=by
 simp only[gR,AM.run]at h
 cases hl:look s.hp id with
 |none=>rw[hl]at h;obtain⟨rfl,rfl⟩:=ai h;exact⟨rfl,fun _ _ h=>by cases h⟩
 |some o=>rw[hl]at h;cases o<;>first|(obtain⟨rfl,rfl⟩:=ai h;exact⟨rfl,fun _ _ h=>by cases h⟩)|cases h
theorem zo {B:Base}{g:Gh}{s s':St}{w:World}{id gen:Nat}(R:HRel B g s.hp w)(h:(gR id).run s=some (gen,s')):gen=g.top id:=by
 simp only[gR,AM.run]at h;rw[R.top id]
 cases hl:look s.hp id with
 |none=>rw[hl]at h;exact(ai h).1
 |some o=>rw[hl]at h;cases o<;>first|exact(ai h).1|cases h
theorem Mu {E:Env}{ag b:Bool}{sl:Slot}{s s':St}(h:(Kn E ag sl).run s=some (b,s')):s'=s∧(b=true→ag=false):=by
 unfold Kn at h;split at h
 ·rename_i id gen i off sz
  cases hc:(E.nest&& !ag)with
  |true=>
   rw[hc]at h;simp only[ap3,AM.run]at h
   have ha:ag=false:=by simp only[ao3,at0]at hc;exact hc.2
   split at h<;>(obtain⟨_,rfl⟩:=ai h;exact⟨rfl,fun _=>ha⟩)
  |false=>
   rw[hc]at h;obtain⟨rfl,rfl⟩:=ai h;exact⟨rfl,fun h=>by cases h⟩
 ·obtain⟨rfl,rfl⟩:=ai h;exact⟨rfl,fun h=>by cases h⟩
end Go.Abs
end

section
namespace Go.Abs
theorem tF {E:Env}{t:TypeId}{b:Bool}(h:E.isAgg t=some b)(w:World):(Go.isAgg t).run E.P w= .ok b w:=by
 unfold Env.isAgg at h
 cases hu:E.P.underlying t with
 |none=>rw[hu]at h;cases h
 |some d=>
  rw[hu]at h;simp only[Go.isAgg,Sem.run_bind,run_underlying hu,Result.andThen_ok];cases d<;>(injection h with h;subst h;rfl)
theorem run_sizeOf {E:Env}{t:TypeId}{n:Nat}(h:E.sizeOf t=some n)(w:World):(Go.sizeOf t).run E.P w= .ok n w:=by
 unfold Env.sizeOf at h;simp only[aq8]at h;obtain⟨i,hi,rfl⟩:=h;simp[Go.sizeOf,typeInfo,hi]
theorem zF (b o n:Nat):Addr.add ⟨b,o,none⟩ n=⟨b,o+n,none⟩:=by
 unfold Addr.add;split
 ·rename_i e;subst e;rfl
 ·rfl
theorem BQ {E:Env}{t:TypeId}{x:Operand}{i:Nat}{s s':St}{sl:Slot}{d:Nat}(h:(dW E d (.fieldAddr t x i)).run s=some (sl,s')):Yld E (.fieldAddr t x i) s sl s':=by
 obtain⟨s1,t1,h1,h2⟩:=AM.ah h;obtain⟨f,t2,h3,h4⟩:=AM.ah h2;obtain⟨n,t3,h5,h6⟩:=AM.ah h4;obtain⟨rfl,r1⟩:=oa h1;obtain⟨hf,rfl⟩:=cn h3;obtain⟨hn,rfl⟩:=cn h5;obtain⟨hb,h7⟩:=bh h6
 have Wq:¬ n=0:=by have:=aq4 hb;omega
 obtain⟨fs,hs,XE⟩:=Iu hf
 have key:∀(b o:Nat) (w:World) (ρ:Operand→Value) (op:Oper),op.op= .fieldAddr t x i→ρ x= .pointer (some ⟨b,o,none⟩)→
   (execOp ρ op).run E.P w= .ok (.value (.pointer (some ⟨b,o+f.offset,none⟩))) w:=by
  intro b o w ρ op ho e;unfold execOp;rw[ho]
  apply db
  simp[Instr.fieldAt,run_underlying hs,XE,e,Instr.sureAddr,fieldPlace,run_sizeOf hn,Wq,zF]
 unfold fieldAddr at h7;split at h7
 ·rename_i id gen o0;obtain⟨rfl,rfl⟩:=ai h7
  refine .still fun o ho B g a w R V=> ?_
  obtain⟨ht,b,o',kX,e⟩:=r1 V;exact⟨_,key b _ w a.eval o ho e,ht,b,o',kX,by rw[Nat.add_assoc]⟩
 ·rename_i c i0 o0 sz;obtain⟨rfl,rfl⟩:=ai h7
  refine .still fun o ho B g a w R V=> ?_
  obtain⟨b,o',n',cap,hc,h0,h1,e⟩:=r1 V;exact⟨_,key b _ w a.eval o ho e,b,o',n',cap,hc,h0,h1,by rw[Nat.add_assoc]⟩
 ·rename_i xs;obtain⟨hb,h8⟩:=lH h7;obtain⟨rfl,rfl⟩:=ai h8
  refine .still fun o ho B g a w R V=> ?_
  obtain⟨_,u',e,hx⟩:=r1 V
  injection e with e
  have hx:oB g.aK (xs:List Int) u':=hx
  revert hb hx
  generalize(xs:List Int)=ys
  intro hb hx
  cases ys with
  |nil=>simp at hb
  |cons y ys=>
   obtain⟨b,p,e',EC,RC⟩:=hx;subst e';refine⟨_,key b 0 w a.eval o ho e,y,ys,b,p,rfl,EC,RC,by simp⟩
 ·cases h7
theorem uH {g:Gh}{cs:List Cell}{us:List Value}(off n:Nat)(h:aG g cs us):aG g (cut off n cs) ((us.drop off).take n):=(h.drop off).take n
theorem vW {g:Gh}{ag:Bool}{cs:List Cell}{us:List Value}{v:Val}{s s':St}(h:(BA ag cs).run s=some (v,s'))(hc:aG g cs us):
  s'=s∧((ag=true∧dT g v (.agg us.toArray))∨(ag=false∧∃u,us=[u]∧dT g v u)):=by
 cases ag with
 |true=>
  obtain⟨rfl,rfl⟩:=ai h;exact⟨rfl, .inl ⟨rfl,us,rfl,hc⟩⟩
 |false=>
  simp only[BA,ao8]at h;split at h
  ·obtain⟨rfl,rfl⟩:=ai h;obtain⟨u,r,e,hu,hr⟩:=hc;have hr:_=_:=hr;subst hr;exact⟨rfl, .inr ⟨rfl,u,e,hu⟩⟩
  ·cases h
theorem DQ {ag:Bool}{cs:List Cell}{v:Val}{s s':St}(h:(BA ag cs).run s=some (v,s')):s'=s:=by
 cases ag with
 |true=>exact(ai h).2
 |false=>simp only[BA,ao8]at h;split at h<;>first|exact(ai h).2|cases h
theorem HL {E:Env}{t:TypeId}{x:Operand}{i:Nat}{s s':St}{sl:Slot}{d:Nat}(h:(dW E d (.field t x i)).run s=some (sl,s')):Yld E (.field t x i) s sl s':=by
 obtain⟨v,t1,h1,h2⟩:=AM.ah h;obtain⟨rfl,r1⟩:=cB h1;split at h2
 ·rename_i cs;obtain⟨f,t2,h3,h4⟩:=AM.ah h2;obtain⟨ag,t3,h5,h6⟩:=AM.ah h4;obtain⟨n,t4,h7,h8⟩:=AM.ah h6;obtain⟨v2,t5,h9,xD⟩:=AM.ah h8;obtain⟨hf,rfl⟩:=cn h3;obtain⟨KW,rfl⟩:=cn h5;obtain⟨hn,rfl⟩:=cn h7;obtain⟨rfl,rfl⟩:=ai xD;obtain rfl:=DQ h9;obtain⟨fs,hs,XE⟩:=Iu hf
  refine .still fun o ho B g a w R V=> ?_
  obtain⟨us,e,hu⟩:=r1 V;have Hn:=uH f.offset (bif ag then n else 1) hu;obtain⟨_,hv⟩:=vW h9 Hn
  rcases hv with⟨rfl,hv⟩|⟨rfl,u,nw,hv⟩
  ·refine⟨_, ?_,hv⟩;unfold execOp;rw[ho]
   apply db
   simp only[Instr.field,Sem.run_bind,run_underlying hs,Result.andThen_ok,XE,e,asAgg,Sem.run_pure,part,tF KW,if_true,run_sizeOf hn,ap3]
   congr 2
   apply Array.ext'
   simp[List.take_drop]
  ·refine⟨u, ?_,hv⟩;unfold execOp;rw[ho]
   apply db
   have Nk:us.toArray[f.offset]?=some u:=by
    have:((us.drop f.offset).take 1)[0]?=some u:=by simp only[ao8]at nw;rw[nw];rfl
    simpa[List.getElem?_take,List.getElem?_drop]using this
   simp only[Instr.field,Sem.run_bind,run_underlying hs,Result.andThen_ok,XE,e,asAgg,Sem.run_pure,part,tF KW,ar9,at3,Nk]
 ·cases h2
theorem BU {E:Env}{t:TypeId}{x i:Operand}{s s':St}{sl:Slot}{d:Nat}(h:(dW E d (.indexAddr t x i)).run s=some (sl,s')):Yld E (.indexAddr t x i) s sl s':=by
 obtain⟨sz,t0,h0,h1⟩:=AM.ah h;obtain⟨v,t1,h2,h3⟩:=AM.ah h1;obtain⟨c,t2,h4,h5⟩:=AM.ah h3;obtain⟨iv,t3,h6,h7⟩:=AM.ah h5;obtain⟨n,t4,h8,h9⟩:=AM.ah h7;obtain⟨mu,rfl⟩:=cn h0;obtain⟨rfl,r1⟩:=cB h2;obtain⟨rfl,rfl⟩:=tH h4;obtain⟨rfl,r2⟩:=cB h6;obtain⟨⟨k,rfl⟩,rfl⟩:=kx h8;obtain⟨hb,xD⟩:=bh h9;simp only[ao3,at0]at hb;obtain⟨u0,t6,Yn,YC⟩:=AM.ah xD;obtain⟨ec,yJ⟩:=BM Yn;obtain⟨len,t5,Bg,tZ⟩:=AM.ah YC;obtain⟨rfl,hl⟩:=xO Bg;obtain⟨zW,F2⟩:=lH tZ;obtain⟨rfl,rfl⟩:=ai F2;simp only[ao3,ao1]at zW
 suffices H:∀(o:Oper),o.op= .indexAddr t x i→∀B g a w,HRel B g s'.hp w→il g t4.env a→∃v,(execOp a.eval o).run E.P w= .ok (.value v) w∧dc g (.ea c n 0 sz) v by
  refine⟨ec,fun o ho B g a w R V=> ?_⟩;obtain⟨g',l,R'⟩:=yJ R;obtain⟨v,k1,k2⟩:=H o ho B g' a w R' (fun t s hs=>(V t s hs).mono l.le);exact⟨v,w,g',k1,l.le,R',k2⟩
 intro o ho B g a w R V
 rcases hl R (r1 V)with⟨e,_⟩|⟨_,A,cap,e,hA⟩
 ·rw[hb.2]at e;cases e
 ·obtain⟨b,o',rfl⟩:=hA (by omega);have e2:=gP (r2 V)
  rcases K8 hb.1 with⟨_,e3⟩|⟨el,e3,_⟩
  ·rw[hb.2]at e3;cases e3
  ·have Nb:E.sizeOf el=some sz:=by
    simpa[Env.elem,e3]using mu
   refine⟨.pointer (some ⟨b,o'+n.toNat*sz,none⟩), ?_,b,o',len,cap,by rw[←e];exact r1 V,zW.1,by omega,by simp⟩;unfold execOp;rw[ho]
   apply db
   have hc:0≤n∧n<(len:Int):=zW;simp only[Instr.indexAt,e2,asIntOf,Sem.run_bind,Sem.run_pure,Result.andThen_ok,run_underlying e3,e,Sem.run_ite,as0 hc,run_sizeOf Nb,zF]
def Co (w:World)(b o:Nat)(us:List Value):Prop:=∀j u,us[j]?=some u→w.cell? ⟨b,o+j,none⟩=some u
theorem iK {w:World}{b o:Nat}{arr:Array Value}{ty:TypeId}{fr:Nat×Nat}(h:w.heap[b]?=some (.cells arr ty fr))(n:Nat):Co w b o ((arr.toList.drop o).take n):=by
 intro j u hj
 have WM:arr.toList[o+j]?=some u:=by
  rw[List.getElem?_take]at hj;split at hj
  ·rwa[List.getElem?_drop]at hj
  ·cases hj
 simp[World.cell?,h];simpa using WM
theorem Ds {E:Env}{t:TypeId}{ag:Bool}{n:Nat}{w:World}{b o:Nat}{us:List Value}(KW:E.isAgg t=some ag)(hn:E.sizeOf t=some n)(hl:us.length=bif ag then n else 1)
  (h:Co w b o us):(Instr.loadAt t (.pointer (some ⟨b,o,none⟩))).run E.P w= .ok (if ag then .agg us.toArray else us.getD 0 undef) w:=by
 simp only[Instr.loadAt,Instr.sureAddr,loadVar,Sem.run_bind,Sem.run_pure,Result.andThen_ok,tF KW,Sem.run_ite]
 cases ag with
 |true=>
  have hl:us.length=n:=hl;subst hl;have:=run_loadCells_list (P:=E.P) (w:=w) ⟨b,o,none⟩ us (fun j v hj=>by rw[zF];exact h j v hj);simp[run_sizeOf hn,this]
 |false=>
  have hl:us.length=1:=hl
  match us,hl with
  |[u],_=>
   have:=h 0 u rfl;simp only[Nat.add_zero]at this;simp[this]
theorem Lin.XV {g:Gh}{τ:Ty}{x:τ.den}{us:List Value}(h:Rc g.dU τ x us):aG {g with aK:=g.dU} (unpack τ x) us:=l6 (g:={g with aK:=g.dU}) h
theorem Lu {g g':Gh}(ht:g'.top=g.top)(kX:g'.cv=g.cv):∀{ps:List (Nat×Nat)}{vs:List Value},rR g ps vs→rR g' ps vs
 |[],_,h=>h
 |_::_,_,⟨b,o,v,e,h1,h2,h3⟩=>⟨b,o,v,e,by rw[ht];exact h1,by rw[kX];exact h2,Lu ht kX h3⟩
theorem Oo {g g':Gh}(ht:g'.top=g.top)(kX:g'.cv=g.cv):∀{cs:List Cell}{us:List Value},FR cs=false→aG g cs us→aG g' cs us:=by
 intro cs
 induction cs with
 |nil=>intro us _ h;exact h
 |cons c cs ih=>
  intro us hs ⟨u,r,e,hu,hr⟩;simp only[FR,List.any_cons,Bool.or_eq_false_iff]at hs;refine⟨u,r,e, ?_,ih hs.2 hr⟩
  cases c with
  |v τ x=>
   obtain⟨h1,h2⟩:=hu;refine⟨h1, ?_⟩
   cases τ with
   |sl e=>simp at hs
   |cl=>simp at hs
   |un=>simp[Ty.one]at h1
   |pr a b=>simp[Ty.one]at h1
   |int k=>exact h2
   |bool=>exact h2
   |str=>exact h2
  |nil=>exact hu
  |own id gen=>exact⟨by rw[ht];exact hu.1,by rw[kX];exact hu.2.1,hu.2.2⟩
  |ptr id gen off=>obtain⟨a,b,o,c,d⟩:=hu;exact⟨by rw[ht];exact a,b,o,by rw[kX];exact c,d⟩
  |np=>exact hu
  |nf=>exact hu
  |fn f jr=>
   obtain⟨vs,e,hv⟩:=hu;exact⟨vs,e,Lu ht kX hv⟩
  |err b=>exact hu
theorem Kq {r:Rd}{e:Ty}{xs:List e.den}{L:List Value}{o:Nat}{i:Int}(h:Els r e xs L o)(h0:0≤i)(h1:i.toNat<xs.length):Rc r e (at_ xs i) ((L.drop (o+i.toNat*e.size)).take e.size):=by
 have:=h i.toNat h1;unfold at_;rw[ap9,ap8 h1];exact this
theorem sO {α:Type}(L:List α)(o sz off n:Nat)(h:off+n≤sz):(((L.drop o).take sz).drop off).take n=(L.drop (o+off)).take n:=by
 rw[List.drop_take,List.take_take,List.drop_drop]
 congr 1
 omega
theorem Dw {E:Env}{n:Nat}{sl:Slot}{cs:List Cell}{s s':St}(h:(wx E n sl).run s=some (cs,s')):
  s'.env=s.env∧∀{B:Base} {g:Gh} {w:World} {u:Value},(∀k c,E.fb k=some [c]→∃u,g.aK k=some [u]∧bl g c u)→HRel B g s.hp w→dc g sl u→
   ∃b o us g',u= .pointer (some ⟨b,o,none⟩)∧Co w b o us∧us.length=n∧Le g g'∧HRel B g' s'.hp w∧aG g' cs us:=by
 unfold wx at h;split at h
 ·
  rename_i id gen off;simp only[AM.run]at h;split at h
  ·rename_i g0 YI heq;obtain⟨hb,h'⟩:=bh h;simp only[ao3]at hb;obtain rfl:=beq_eq hb.1;have hle:off+n≤YI.length:=aq4 hb.2;obtain⟨rfl,rfl⟩:=ai h';refine⟨rfl,fun{B g w u} _ R hu=> ?_⟩;obtain⟨ht,b,o,kX,e⟩:=hu;obtain⟨b',o',arr,ty,L,k1,k2,k3,k4,k5,k6,k7⟩:=R.eG _ _ heq;rw[kX]at k1
   injection k1 with k1;injection k1 with k1;injection k1 with k1 Y4
   subst k1;subst Y4;have hL:L.length=YI.length:=k4.length;have ho:o≤(g.outer id).length:=(by omega)
   have e1:(arr.toList.drop (o+off)).take n=(L.drop off).take n:=by
    rw[k5,ao4,List.drop_append,ar2,Nat.min_eq_left ho];rw[List.drop_eq_nil_of_le (by rw[ar2];omega)];rw[show o+off - o=off from by omega,List.nil_append,List.drop_append_of_le_length (by omega),List.take_append_of_le_length (by rw[as3];omega)]
   refine⟨b,o+off,(L.drop off).take n,g,e,by rw[←e1];exact iK k3 n,by rw[ar2,as3];omega,Le.refl g,R,uH off n k4⟩
  ·cases h
 ·
  rename_i τ xs i off sz;obtain⟨hb,h'⟩:=bh h;simp only[ao3]at hb;have mu:=beq_eq hb.1;have hle:off+n≤τ.size:=aq4 hb.2;obtain⟨rfl,rfl⟩:=ai h';refine⟨rfl,fun{B g w u} _ R hu=> ?_⟩;obtain⟨b,o,n',cap,hc,h0,h1,e⟩:=hu;obtain⟨_,A,c,e1,_,hx⟩:=hc
  injection e1 with e1
  injection e1 with e2 e3 e4
  subst mu
  rcases hx with hx|⟨b',o',L,eA,hL,hi⟩
  ·exfalso
   have:(xs:List τ.den)=[]:=hx;rw[e3,this]at h1;simp at h1
  ·rw[eA]at e2
   injection e2 with e2;injection e2 with e5 e6
   subst e5;subst e6;obtain⟨_,_,arr,ty,fr,ha,Vt⟩:=R.aK _ _ hL;have oy:Els g.aK τ xs L o:=hi;have Mi:=Kq oy h0 (by rw[←e3];exact h1);refine⟨b,o+i.toNat*τ.size+off,((((L.drop (o+i.toNat*τ.size)).take τ.size).drop off).take n),g,e, ?_, ?_,Le.refl g,R,uH off n (l6 Mi)⟩
   ·rw[sO _ _ _ _ _ hle,←Vt];exact iK ha n
   ·rw[ar2,as3,Mi.length];omega
 ·
  rename_i id gen i off sz;simp only[AM.run]at h;split at h
  ·rename_i g0 τ xs heq;obtain⟨hb,h'⟩:=bh h;simp only[ao3]at hb;obtain rfl:=beq_eq hb.1.1;have mu:=beq_eq hb.1.2;have hle:off+n≤τ.size:=aq4 hb.2;obtain⟨rfl,rfl⟩:=ai h';refine⟨rfl,fun{B g w u} _ R hu=> ?_⟩;obtain⟨b,o,n',cap,hc,h0,h1,e⟩:=hu;obtain⟨A,c,e1,_,hx⟩:=R.eG _ _ heq
   injection e1 with e1
   have e1:=hc.2.1.trans e1
   injection e1 with e2 e3 e4
   subst mu
   rcases hx with hx|⟨b',o',L,eA,hL,hi⟩
   ·exfalso
    rw[e3,hx]at h1;simp at h1
   ·rw[eA]at e2
    injection e2 with e2;injection e2 with e5 e6
    subst e5;subst e6;obtain⟨_,_,arr,ty,fr,ha,Vt⟩:=R.aK _ _ hL;have oy:Els g.aK τ xs L o:=hi;have Mi:=Kq oy h0 (by rw[←e3];exact h1);refine⟨b,o+i.toNat*τ.size+off,((((L.drop (o+i.toNat*τ.size)).take τ.size).drop off).take n),g,e, ?_, ?_,Le.refl g,R,uH off n (l6 Mi)⟩
    ·rw[sO _ _ _ _ _ hle,←Vt];exact iK ha n
    ·rw[ar2,as3,Mi.length];omega
  ·rename_i g0 τ deep xs heq;obtain⟨hb,h'⟩:=bh h;simp only[ao3]at hb;obtain rfl:=beq_eq hb.1.1;have mu:=beq_eq hb.1.2;have hle:off+n≤τ.size:=aq4 hb.2;subst mu
   have fin:∀{B:Base} {g g1:Gh} {hp1:List (Nat×Obj)} {w:World} {u:Value} {r:Rd} {b o n' cap:Nat} {arr:Array Value} {ty:TypeId},Le g g1→HRel B g1 hp1 w→
     bl g (.own id g0) (.slice (some ⟨b,o,none⟩) n' cap)→0≤i→i.toNat<n'→u= .pointer (some ⟨b,o+i.toNat*τ.size+off,none⟩)→
     g.cv id g0= .slice (some ⟨b,0,none⟩) xs.length cap→w.heap[b]?=some (.cells arr ty (0,0))→Els r τ xs arr.toList 0→
     (∀us,Rc r τ (at_ xs i) us→aG g1 (cut off n (unpack τ (at_ xs i))) ((us.drop off).take n))→
     ∃b o us g',u= .pointer (some ⟨b,o,none⟩)∧Co w b o us∧us.length=n∧Le g g'∧HRel B g' hp1 w∧aG g' (cut off n (unpack τ (at_ xs i))) us:=by
    intro B g g1 hp1 w u r b o n' cap arr ty l R1 hc h0 h1 e kX ha oy nu;have e1:=hc.2.1.trans kX
    injection e1 with e2 e3 e4
    injection e2 with e2;injection e2 with e5 e6
    subst e6;have Mi:=Kq oy h0 (by rw[←e3];exact h1);refine⟨b,0+i.toNat*τ.size+off,((((arr.toList.drop (0+i.toNat*τ.size)).take τ.size).drop off).take n),g1,e, ?_, ?_,l,R1,nu _ Mi⟩
    ·rw[sO _ _ _ _ _ hle];exact iK ha n
    ·rw[ar2,as3,Mi.length];omega
   have Ps:∀{B:Base} {g:Gh} {hp1:List (Nat×Obj)} {w:World} {u:Value} {b o n' cap:Nat} {dp:Bool},mF g w id (.own g0 τ dp xs)→bl g (.own id g0) (.slice (some ⟨b,o,none⟩) n' cap)→
     g.cv id g0= .slice (some ⟨b,0,none⟩) xs.length cap∧∃arr ty,w.heap[b]?=some (.cells arr ty (0,0))∧dE g id τ dp xs arr.toList:=by
    intro B g hp1 w u b o n' cap dp hO hc
    rcases hO with⟨k1,_⟩|⟨b',P9,arr,ty,k1,_,_,k4,_,_,k7⟩
    ·have:=hc.2.1.trans k1;cases this
    ·have e1:=hc.2.1.trans k1
     injection e1 with e2 e3 e4
     injection e2 with e2;injection e2 with e5 e6
     subst e5;subst e4;exact⟨k1,arr,ty,k4,k7⟩
   by_cases hd:(deep&&FR (cut off n (unpack τ (at_ xs i))))=true
   ·simp only[hd,ap3,AM.run]at h';simp only[ar8,as9]at h';obtain⟨rfl,rfl⟩:=h';refine⟨rfl,fun{B g w u} _ R hu=> ?_⟩;obtain⟨b,o,n',cap,hc,h0,h1,e⟩:=hu;obtain⟨g1,l,R1⟩:=R.K9 heq;have EO:=hc.mono l.le;obtain⟨kX,arr,ty,ha,oy⟩:=Ps (B:=B) (hp1:=s.hp) (u:=u) (R1.eG _ _ (aC _ _ _)) EO
    have EF:g.cv id g0= .slice (some ⟨b,0,none⟩) xs.length cap:=by rw[←kX];exact(l.le.cv _ _ (gB R heq)).symm
    refine fin l.le R1 hc h0 h1 e EF ha (r:=g1.aK) (by unfold dE at oy;simpa using oy) (fun us Mi=>uH off n (l6 Mi))
   ·have Ze:(deep&&FR (cut off n (unpack τ (at_ xs i))))=false:=(by simpa using hd);simp only[Ze,ao8]at h';obtain⟨rfl,rfl⟩:=ai h';refine⟨rfl,fun{B g w u} _ R hu=> ?_⟩;obtain⟨b,o,n',cap,hc,h0,h1,e⟩:=hu;obtain⟨kX,arr,ty,ha,oy⟩:=Ps (B:=B) (hp1:=s'.hp) (u:=u) (R.eG _ _ heq) hc
    by_cases SP:(deep&& !τ.flat)=true
    ·unfold dE at oy;rw[as0 SP]at oy;obtain⟨nb,hl,_⟩:=oy
     have Xr:deep=true:=by simp at SP;exact SP.1
     have Eu:FR (cut off n (unpack τ (at_ xs i)))=false:=by rw[Xr]at Ze;simpa using Ze
     refine fin (Le.refl g) R hc h0 h1 e kX ha (r:=g.dU) hl.els (fun us Mi=>Oo (g:={g with aK:=g.dU}) (g':=g) rfl rfl Eu (uH off n (Lin.XV Mi)))
    ·unfold dE at oy;rw[ar1 SP]at oy;exact fin (Le.refl g) R hc h0 h1 e kX ha (r:=g.aK) oy (fun us Mi=>uH off n (l6 Mi))
  ·cases h
 ·rename_i xs;obtain⟨hb,h'⟩:=bh h;obtain rfl:=beq_eq hb;obtain⟨rfl,rfl⟩:=ai h';refine⟨rfl,fun{B g w u} _ R hu=> ?_⟩;obtain⟨x,Qp,b,p,rfl,EC,RC,e⟩:=hu;obtain⟨_,_,arr,ty,fr,ha,hL⟩:=R.aK _ _ EC;refine⟨b,0,[.int .i64 x],g,e, ?_,rfl,Le.refl g,R,_,[],rfl,⟨rfl,rfl⟩,rfl⟩;have:=iK (o:=0) ha 1;rw[hL]at this;exact this
 ·rename_i xs;obtain⟨hb,h'⟩:=bh h;obtain rfl:=beq_eq hb;obtain⟨rfl,rfl⟩:=ai h';refine⟨rfl,fun{B g w u} _ R hu=> ?_⟩;obtain⟨x,Qp,b,p,rfl,EC,RC,e⟩:=hu;obtain⟨_,_,arr,ty,fr,ha,hL⟩:=R.aK _ _ EC;refine⟨b,1,[p],g,e, ?_,rfl,Le.refl g,R,p,[],rfl,⟨rfl,p,rfl,RC⟩,rfl⟩;have:=iK (o:=1) ha 1;rw[hL]at this;exact this
 ·rename_i k;obtain⟨hb,h'⟩:=bh h;obtain rfl:=beq_eq hb;obtain⟨c,t,h1,h2⟩:=AM.ah h';obtain⟨hg,rfl⟩:=cn h1;obtain⟨rfl,rfl⟩:=ai h2;refine⟨rfl,fun{B g w u} W4 R hu=> ?_⟩
  have hg:E.fb k=some [c]:=by
   simp only[as8]at hg;obtain⟨cs,h3,h4⟩:=hg;split at h4
   ·injection h4 with h4;subst h4;exact h3
   ·cases h4
  obtain⟨v,hv,hr⟩:=W4 k c hg;obtain⟨_,_,arr,ty,fr,ha,hL⟩:=R.aK _ _ hv;have hu:u=_:=hu;refine⟨k,0,[v],g,hu, ?_,rfl,Le.refl g,R,v,[],rfl,hr,rfl⟩;have:=iK (o:=0) ha 1;rw[hL]at this;exact this
 ·cases h
theorem Kk {E:Env}{t:TypeId}{x:Operand}{s s':St}{sl:Slot}{d:Nat}(h:(KG E d t x).run s=some (sl,s')):
  s'.env=s.env∧∀(o:Oper),o.op= .load t x→∀B g a w,(∀k c,E.fb k=some [c]→∃u,g.aK k=some [u]∧bl g c u)→HRel B g s.hp w→il g s.env a→
  ∃v w' g',(execOp a.eval o).run E.P w= .ok (.value v) w'∧Le g g'∧HRel B g' s'.hp w'∧dc g' sl v:=by
 obtain⟨s1,t1,h1,h2⟩:=AM.ah h;obtain⟨ag,t2,h3,h4⟩:=AM.ah h2;obtain⟨rfl,r1⟩:=oa h1;obtain⟨KW,rfl⟩:=cn h3;obtain⟨ne,t6,ai3,Nv⟩:=AM.ah h4;obtain⟨rfl,jj⟩:=Mu ai3
 cases ne with
 |true=>
  obtain rfl:=jj rfl;have Nv:(DX d s1).run t6=some (sl,s'):=Nv;unfold DX at Nv;split at Nv
  ·rename_i id gen i off sz _;simp only[Hc,AM.run]at Nv;split at Nv
   ·rename_i g0 τ xs heq;obtain⟨hb,h5⟩:=bh Nv;simp only[ao3,at0]at hb;obtain⟨⟨⟨b1,b2⟩,b3⟩,b4⟩:=hb;obtain rfl:=beq_eq b1;obtain rfl:=beq_eq b2
    have hd:d≠id:=fun e=>by subst e;rw[Nat.beq_refl]at b4;cases b4
    split at h5
    ·rename_i e ys hs;split at h5
     ·rename_i x' hx;obtain⟨gd,t7,h6,h7⟩:=AM.ah h5;obtain⟨rfl,JD⟩:=zl h6;simp only[AM.run,ar8,as9]at h7;obtain⟨rfl,rfl⟩:=h7;refine⟨rfl,fun o ho B g a w hG R V=> ?_⟩;obtain⟨b,o',n,cap,hc,h0,Jz,e1⟩:=r1 V;have YV:gd=g.top d:=zo R h6;subst YV
      have hlen:n=xs.length:=by
       rcases R.eG _ _ heq with⟨k1,k2⟩|⟨b',P9,arr,ty,k1,_⟩
       ·have:=hc.2.1.trans k1;injection this with e1 e2 e3;subst k2;simpa using e2
       ·have:=hc.2.1.trans k1;injection this with e1 e2 e3
      subst hlen;obtain⟨g',b',P9,arr,ty,u,l,k1,k2,k3,k4,R'⟩:=R.Hc heq b3 hd h0 Jz hs hx;have hh:=hc.2.1.trans k1
      injection hh with Xf hh2 hh3
      injection Xf with Xf;injection Xf with Xf af2
      subst Xf;subst af2;refine⟨u,w,g', ?_,l.le,R',k4⟩;unfold execOp;rw[ho]
      apply db
      rw[e1]
      have tX:w.cell? ⟨b,0+i.toNat*τ.size+off,none⟩=some u:=by
       rw[Nat.zero_add]
       have:arr[i.toNat*τ.size+off]?=some u:=by rw[←Array.getElem?_toList];exact k3
       simp[World.cell?,k2,this]
      have UY:w.cell? ⟨b,i.toNat*τ.size+off,none⟩=some u:=by rw[Nat.zero_add]at tX;exact tX
      simp only[Instr.loadAt,Instr.sureAddr,loadVar,Sem.run_bind,Sem.run_pure,Result.andThen_ok,tF KW,Sem.run_ite];simp[tX,UY]
     ·cases h5
    ·cases h5
   ·cases Nv
  ·cases Nv
 |false=>
 have Nv:((im (E.sizeOf t)).bind fun n=>(wx E (bif ag then n else 1) s1).bind fun cs=>(BA ag cs).bind fun v=> .ret (.val v)).run t6=some (sl,s'):=Nv;obtain⟨n,t3,h5,h6⟩:=AM.ah Nv;obtain⟨cs,t4,h7,h8⟩:=AM.ah h6;obtain⟨v,t5,h9,xD⟩:=AM.ah h8;obtain⟨hn,rfl⟩:=cn h5;obtain⟨rfl,rfl⟩:=ai xD;obtain rfl:=DQ h9;obtain⟨he,hr⟩:=Dw h7;refine⟨he,fun o ho B g a w hG R V=> ?_⟩;obtain⟨b,o',us,g',e,F0,hlen,l,R',hc⟩:=hr hG R (r1 V);obtain⟨_,hv⟩:=vW h9 hc;have zT:=Ds (E:=E) (w:=w) KW hn hlen F0
 rcases hv with⟨rfl,hv⟩|⟨rfl,u,rfl,hv⟩
 ·refine⟨_,w,g', ?_,l,R',hv⟩;unfold execOp;rw[ho]
  apply db
  rw[e];exact zT
 ·refine⟨u,w,g', ?_,l,R',hv⟩;unfold execOp;rw[ho]
  apply db
  rw[e];exact zT
end Go.Abs
end

section
namespace Go.Abs
theorem Lin.length {r:Rd}{τ:Ty}{x:τ.den}{us:List Value}{nb:List Nat}(h:Lin r τ x us nb):us.length=τ.size:=h.rc.length
theorem Els.head {r:Rd}{e:Ty}{x:e.den}{xs:List e.den}{L:List Value}:Els r e (x::xs) L 0↔Rc r e x (L.take e.size)∧Els r e xs (L.drop e.size) 0:=by
 constructor
 ·intro h;refine⟨by have:=h 0 (by simp);simp only[Nat.zero_mul,Nat.add_zero,List.drop_zero]at this;exact this,fun i hi=> ?_⟩;have:=h (i+1) (by simpa using hi);simp only[List.getElem_cons_succ]at this;rw[List.drop_drop]
  rwa[show e.size+(0+i*e.size)=0+(i+1)*e.size from by rw[Nat.add_mul];omega]
 ·rintro⟨h1,h2⟩ i hi
  cases i with
  |zero=>simpa using h1
  |succ i=>
   have:=h2 i (by simpa using hi);rw[List.drop_drop]at this;simp only[List.getElem_cons_succ]
   rwa[show e.size+(0+i*e.size)=0+(i+1)*e.size from by rw[Nat.add_mul];omega]at this
theorem Els.nil {r:Rd}{e:Ty}{L:List Value}:Els r e [] L 0:=fun i hi=>absurd hi (by simp)
theorem Els.len {r:Rd}{e:Ty}:∀{xs:List e.den}{L:List Value},Els r e xs L 0→xs.length*e.size≤L.length
 |[],_,_=>by simp
 |x::xs,L,h=>by
  obtain⟨h1,h2⟩:=Els.head.1 h;have a:=h1.length;have b:=h2.len;rw[ar2]at a;rw[as3]at b;rw[ao0,Nat.add_mul];omega
theorem Els.pre {r:Rd}{e:Ty}:∀{xs:List e.den}{L M:List Value},(∀k,k=xs.length*e.size→L.take k=M.take k)→Els r e xs L 0→Els r e xs M 0
 |[],_,_,_,_=>Els.nil
 |x::xs,L,M,hp,h=>by
  obtain⟨h1,h2⟩:=Els.head.1 h;have hp:=hp _ rfl;rw[ao0,Nat.add_mul,Nat.one_mul]at hp;refine Els.head.2 ⟨?_, ?_⟩
  ·have:L.take e.size=M.take e.size:=by
    have:=congrArg (List.take e.size) hp
    rwa[List.take_take,List.take_take,Nat.min_eq_left (by omega)]at this
   rwa[←this]
  ·refine h2.pre (fun k hk=> ?_);subst hk;have:=congrArg (List.drop e.size) hp
   rwa[List.drop_take,List.drop_take,Nat.add_sub_cancel]at this
theorem Els.append {r:Rd}{e:Ty}:∀{xs ys:List e.den}{L M:List Value},Els r e xs L 0→Els r e ys M 0→L.length=xs.length*e.size→Els r e (xs++ys) (L++M) 0
 |[],ys,L,M,_,h2,hl=>by
  have:L=[]:=as1 (by simpa using hl);subst this;simpa using h2
 |x::xs,ys,L,M,h1,h2,hl=>by
  obtain⟨a,b⟩:=Els.head.1 h1;rw[ao0,Nat.add_mul,Nat.one_mul]at hl;refine Els.head.2 ⟨?_, ?_⟩
  ·rwa[List.take_append_of_le_length (by omega)]
  ·show Els r e (xs++ys) _ 0;rw[List.drop_append_of_le_length (by omega)];exact b.append h2 (by rw[as3];omega)
theorem Els.set {r:Rd}{e:Ty}{x:e.den}{us:List Value}(hx:Rc r e x us):∀{xs:List e.den}{L:List Value}{i:Nat},Els r e xs L 0→i<xs.length→
  Els r e (xs.set i x) (L.take (i*e.size)++us++L.drop (i*e.size+us.length)) 0
 |[],_,_,_,hi=>absurd hi (by simp)
 |y::ys,L,i,h,hi=>by
  obtain⟨h1,h2⟩:=Els.head.1 h;have hl:=hx.length;have oD:=h1.length;rw[ar2]at oD
  cases i with
  |zero=>
   simp only[List.set_cons_zero,Nat.zero_mul,List.take_zero,List.nil_append,Nat.zero_add];refine Els.head.2 ⟨?_, ?_⟩
   ·rw[←hl,List.take_left];exact hx
   ·rw[←hl,List.drop_left];rw[hl];exact h2
  |succ i=>
   simp only[List.set_cons_succ];have ih:=h2.set hx (i:=i) (by simpa using hi)
   have e1:(i+1)*e.size=e.size+i*e.size:=by rw[Nat.add_mul];omega
   refine Els.head.2 ⟨?_, ?_⟩
   ·rw[ao4,List.take_append_of_le_length (by rw[ar2];omega),List.take_take,Nat.min_eq_left (by omega)];exact h1
   ·rw[ao4,List.drop_append_of_le_length (by rw[ar2];omega),List.drop_take];rw[e1,Nat.add_sub_cancel_left,←ao4];rw[List.drop_drop]at ih;rw[Nat.add_assoc];exact ih
theorem fe.pre {r:Rd}{e:Ty}:∀{xs:List e.den}{L M:List Value}{nb:List Nat},(∀k,k=xs.length*e.size→L.take k=M.take k)→fe r e xs L nb→fe r e xs M nb
 |[],_,_,_,_,h=>h
 |x::xs,L,M,_,hp,⟨n1,n2,en,h1,h2⟩=>by
  have hp:=hp _ rfl;rw[ao0,Nat.add_mul,Nat.one_mul]at hp;refine⟨n1,n2,en, ?_, ?_⟩
  ·have:L.take e.size=M.take e.size:=by
    have:=congrArg (List.take e.size) hp
    rwa[List.take_take,List.take_take,Nat.min_eq_left (by omega)]at this
   rwa[←this]
  ·refine h2.pre (fun k hk=> ?_);subst hk;have:=congrArg (List.drop e.size) hp
   rwa[List.drop_take,List.drop_take,Nat.add_sub_cancel]at this
theorem fe.append {r:Rd}{e:Ty}:∀{xs ys:List e.den}{L M:List Value}{n m:List Nat},fe r e xs L n→fe r e ys M m→L.length=xs.length*e.size→fe r e (xs++ys) (L++M) (n++m)
 |[],ys,L,M,n,m,h1,h2,hl=>by
  have:L=[]:=as1 (by simpa using hl);have h1:n=[]:=h1;subst this;subst h1;simpa using h2
 |x::xs,ys,L,M,_,m,⟨n1,n2,en,a,b⟩,h2,hl=>by
  subst en;rw[ao0,Nat.add_mul,Nat.one_mul]at hl;refine⟨n1,n2++m,by simp, ?_, ?_⟩
  ·rwa[List.take_append_of_le_length (by omega)]
  ·show fe r e (xs++ys) _ _;rw[List.drop_append_of_le_length (by omega)];exact b.append h2 (by rw[as3];omega)
theorem fe.set {r:Rd}{e:Ty}:∀{xs:List e.den}{L:List Value}{i:Nat}{nb:List Nat},fe r e xs L nb→(hi:i<xs.length)→
  ∃na n0 nc,nb=na++n0++nc∧Lin r e xs[i] ((L.drop (i*e.size)).take e.size) n0∧
   ∀{r':Rd} {x:e.den} {us:List Value} {n1:List Nat},(∀b∈na++nc,∀L,r b=some L→r' b=some L)→Lin r' e x us n1→
    fe r' e (xs.set i x) (L.take (i*e.size)++us++L.drop (i*e.size+us.length)) (na++n1++nc)
 |[],_,_,_,_,hi=>absurd hi (by simp)
 |y::ys,L,i,_,⟨n1,n2,en,h1,h2⟩,hi=>by
  subst en;have oD:=h1.length;rw[ar2]at oD
  cases i with
  |zero=>
   refine⟨[],n1,n2,by simp,by simpa using h1,fun{r' x us XC} hm hx=> ?_⟩;have hl:=hx.length;simp only[List.set_cons_zero,Nat.zero_mul,List.take_zero,List.nil_append,Nat.zero_add];refine⟨XC,n2,rfl, ?_, ?_⟩
   ·rw[←hl,List.take_left];exact hx
   ·rw[←hl,List.drop_left,hl];exact h2.mono (fun b hb L hL=>hm b (by simpa using hb) L hL)
  |succ i=>
   obtain⟨na,n0,nc,e2,h3,h4⟩:=h2.set (i:=i) (by simpa using hi);subst e2
   have e1:(i+1)*e.size=e.size+i*e.size:=by rw[Nat.add_mul];omega
   refine⟨n1++na,n0,nc,by simp, ?_,fun{r' x us XC} hm hx=> ?_⟩
   ·rw[List.drop_drop]at h3;rw[e1];exact h3
   ·have ih:=h4 (r':=r') (x:=x) (us:=us) (n1:=XC) (fun b hb L hL=>hm b (by rcases aq6.1 hb with h|h<;>simp[h]) L hL) hx;refine⟨n1,na++XC++nc,by simp, ?_, ?_⟩
    ·rw[ao4,List.take_append_of_le_length (by rw[ar2];omega),List.take_take,Nat.min_eq_left (by omega)];exact h1.mono (fun b hb L hL=>hm b (by simp[hb]) L hL)
    ·show fe r' e (ys.set i x) _ _;rw[ao4,List.drop_append_of_le_length (by rw[ar2];omega),List.drop_take];rw[e1,Nat.add_sub_cancel_left,←ao4];rw[List.drop_drop]at ih;rw[Nat.add_assoc];exact ih
end Go.Abs
end

section
namespace Go.Abs
open Classical in
noncomputable def Gh.take (g:Gh)(id:Nat)(nb:List Nat):Gh:={g with dn:=fun x=>if x∈nb then some (id+1)else g.dn x}
theorem Le.take (g:Gh)(id:Nat)(nb:List Nat):Le g (g.take id nb):=⟨fun _ _ h=>h,fun _=>aq2 _,fun _ _ _=>rfl⟩
theorem HRel.write {B:Base}{g:Gh}{hp:List (Nat×Obj)}{w w':World}(R:HRel B g hp w){id b:Nat}{nb:List Nat}{o o':Obj}
  (ho:look hp id=some o) (wO:o'.gen=o.gen) (hl:g.dn b=some (id+1)) (hn:g.dU b=none) (hw:Turned w w' b) (sG:∀x∈nb,g.dn x=some 0)
  (Es:mF (g.take id nb) w' id o'):HRel B (g.take id nb) ((id,o')::hp) w':=by
 have hle:=Le.take g id nb;refine⟨fun i=> ?_,fun i oi hi=> ?_,fun x L hx=> ?_,fun x L hx=> ?_,fun x hx=> ?_,R.ji,fun x hx PY hi=> ?_,Nat.le_trans R.size hw.size,hw.os.trans R.os,hw.tape.trans R.tape,hw.output.trans R.output,fun x L hx=> ?_⟩
 ·show g.top i=_;rw[R.top i]
  by_cases e:id=i
  ·subst e;rw[aC,ho];simp[wO]
  ·rw[ay _ _ e]
 ·by_cases e:id=i
  ·subst e;rw[aC]at hi;injection hi with hi;subst hi;exact Es
  ·rw[ay _ _ e]at hi;refine(R.eG i oi hi).tr hle (fun x hx=> ?_) rfl (by rw[R.top i,hi];exact Nat.lt_succ_self _)
   have jX:x≠b:=fun e'=>by subst e';rw[hl]at hx;simp at hx;exact e hx
   have j0:x∉nb:=fun hm=>by rw[sG x hm]at hx;simp at hx
   exact⟨by simp[Gh.take,j0,hx],rfl,hw.other x jX⟩
 ·have hy:g.aK x=some L:=hx;obtain⟨a1,a2,arr,ty,fr,a3,a4⟩:=R.aK x L hy
  have jX:x≠b:=fun e=>by rw[e,hl]at a1;cases a1
  have j0:x∉nb:=fun hm=>by rw[sG x hm]at a1;simp at a1
  exact⟨by simp[Gh.take,j0,a1],a2,arr,ty,fr,(hw.other x jX).trans a3,a4⟩
 ·have hy:g.dU x=some L:=hx;obtain⟨a1,arr,ty,a3,a4⟩:=R.dU x L hy
  have jX:x≠b:=fun e=>by rw[e,hn]at hy;cases hy
  refine⟨?_,arr,ty,(hw.other x jX).trans a3,a4⟩
  by_cases j0:x∈nb
  ·simp[Gh.take,j0]
  ·simp[Gh.take,j0,a1]
 ·by_cases j0:x∈nb
  ·exact ar4 (R.dR x (by rw[sG x j0];simp)) hw.size
  ·have Vs:g.dn x≠none:=by simpa[Gh.take,j0]using hx
   exact ar4 (R.dR x Vs) hw.size
 ·obtain⟨f1,f2,f3⟩:=R.frame x hx PY hi
  have jX:x≠b:=fun e=>by rw[e,hl]at f1;cases f1
  have j0:x∉nb:=fun hm=>by rw[sG x hm]at f1;simp at f1
  exact⟨by simp[Gh.take,j0,f1],f2,(hw.other x jX).trans f3⟩
 ·have jX:x≠b:=fun e=>by
   have:=(R.aK x L (R.ji x L hx)).1;rw[e,hl]at this;cases this
  exact(hw.other x jX).trans (R.fix x L hx)
theorem oZ {w:World}{b:Nat}{arr:Array Value}{ty:TypeId}{fr:Nat×Nat}(h:w.heap[b]?=some (.cells arr ty fr))(cs:Array Value):Turned w (w.setRow b cs) b:=by
 refine⟨fun x hx=>setRow_other w b x cs hx,by simp, ?_,rfl,rfl,rfl⟩;rw[size_setRow]
 rcases Nat.lt_or_ge b w.heap.size with h1|h1
 ·exact h1
 ·rw[Array.getElem?_eq_none h1]at h;cases h
theorem HC {u:Value}(h:oc u=true):u.oneCell'=true:=by cases u<;>simp_all[oc,Value.oneCell']
theorem aG.TP {g:Gh}:∀{cs:List Cell}{us:List Value},aG g cs us→∀u∈us,u.oneCell'=true
 |[],_,h,u,hu=>by have h:_=_:=h;subst h;simp at hu
 |_::_,_,⟨v,r,e,hv,hr⟩,u,hu=>by
  subst e
  rcases ar5.1 hu with hu|hu
  ·subst hu;exact HC hv.Cl
  ·exact hr.TP u hu
theorem aG.set {g:Gh}{new:List Cell}{us:List Value}(hn:aG g new us){cs:List Cell}{L:List Value}(off:Nat)(h:aG g cs L):
  aG g (setCells off new cs) (L.take off++us++L.drop (off+us.length)):=by
 unfold setCells;rw[←hn.length];exact((h.take off).append hn).append (h.drop _)
theorem lh {r:Rd}{g:Gh}{c:Cell}{u:Value}(hc:bl g c u):∀{τ:Ty}{x y:τ.den}{off:Nat}{us:List Value},fG τ x off c=some y→Rc r τ x us→
  off<us.length∧Rc r τ y (us.set off u)
 | .pr a b,x,y,off,us,h,⟨c1,c2,e,h1,h2⟩=>by
  subst e;simp only[fG]at h;have l1:=h1.length;have l2:=h2.length
  cases hb:Nat.blt off a.size with
  |true=>
   rw[hb]at h;simp only[ap3,aq8]at h;obtain⟨z,hz,rfl⟩:=h;obtain⟨h3,h4⟩:=lh hc hz h1;refine⟨by simp;omega,_,_, ?_,h4,h2⟩;rw[List.set_append_left _ _ h3]
  |false=>
   rw[hb]at h;simp only[ao8,aq8]at h;obtain⟨z,hz,rfl⟩:=h;obtain⟨h3,h4⟩:=lh hc hz h2
   have EM:a.size≤off:=by
    have:¬ off<a.size:=fun iO=>by
     have:Nat.blt off a.size=true:=by simpa[Nat.blt_eq]using iO
     rw[this]at hb;cases hb
    omega
   refine⟨by simp;omega,_,_, ?_,h1,h4⟩;rw[List.set_append_right _ _ (by omega),l1]
 | .int k,x,y,off,us,h,hx=>by
  have hx:_=_:=hx;subst hx
  cases off with
  |succ n=>simp[fG]at h
  |zero=>
   cases c with
   |v τ' z=> ?_
   |_=>simp[fG]at h
   cases τ' with
   |int k'=> ?_
   |_=>simp[fG]at h
   simp only[fG]at h;split at h
   ·rename_i ek;subst ek
    injection h with h;subst h
    exact⟨by simp,by have:=gP hc;subst this;rfl⟩
   ·cases h
 | .bool,x,y,off,us,h,hx=>by
  have hx:_=_:=hx;subst hx
  cases off with
  |succ n=>simp[fG]at h
  |zero=>
   cases c with
   |v τ' z=> ?_
   |_=>simp[fG]at h
   cases τ' with
   |bool=> ?_
   |_=>simp[fG]at h
   simp only[fG]at h
   injection h with h;subst h
   exact⟨by simp,by have:=l7 hc;subst this;rfl⟩
 | .str,x,y,off,us,h,hx=>by
  obtain⟨s,e,_⟩:=hx;subst e
  cases off with
  |succ n=>simp[fG]at h
  |zero=>
   cases c with
   |v τ' z=> ?_
   |_=>simp[fG]at h
   cases τ' with
   |str=> ?_
   |_=>simp[fG]at h
   simp only[fG]at h
   injection h with h;subst h
   obtain⟨s',e,l⟩:=oe hc;exact⟨by simp,s',by simp[e],l⟩
 | .un,_,_,_,_,h,_=>by simp[fG]at h
 | .sl _,_,_,_,_,h,_=>by simp[fG]at h
 | .cl,_,_,_,_,h,_=>by simp[fG]at h
theorem wg {r:Rd}{g:Gh}{c:Cell}{u:Value}(hc:bl g c u):∀{τ:Ty}{x y:τ.den}{off:Nat}{us:List Value}{nb:List Nat},fG τ x off c=some y→Lin r τ x us nb→
  off<us.length∧Lin r τ y (us.set off u) nb
 | .pr a b,x,y,off,us,nb,h,⟨c1,c2,n1,n2,e,en,h1,h2⟩=>by
  subst e;simp only[fG]at h;have l1:=h1.length;have l2:=h2.length
  cases hb:Nat.blt off a.size with
  |true=>
   rw[hb]at h;simp only[ap3,aq8]at h;obtain⟨z,hz,rfl⟩:=h;obtain⟨h3,h4⟩:=wg hc hz h1;refine⟨by simp;omega,_,_,n1,n2, ?_,en,h4,h2⟩;rw[List.set_append_left _ _ h3]
  |false=>
   rw[hb]at h;simp only[ao8,aq8]at h;obtain⟨z,hz,rfl⟩:=h;obtain⟨h3,h4⟩:=wg hc hz h2
   have EM:a.size≤off:=by
    have:¬ off<a.size:=fun iO=>by
     have:Nat.blt off a.size=true:=by simpa[Nat.blt_eq]using iO
     rw[this]at hb;cases hb
    omega
   refine⟨by simp;omega,_,_,n1,n2, ?_,en,h1,h4⟩;rw[List.set_append_right _ _ (by omega),l1]
 | .int k,x,y,off,us,nb,h,hx=>by obtain⟨a,b⟩:=lh (r:=r) hc h hx.1;exact⟨a,b,hx.2⟩
 | .bool,x,y,off,us,nb,h,hx=>by obtain⟨a,b⟩:=lh (r:=r) hc h hx.1;exact⟨a,b,hx.2⟩
 | .str,x,y,off,us,nb,h,hx=>by obtain⟨a,b⟩:=lh (r:=r) (τ:= .str) hc h hx.1;exact⟨a,b,hx.2⟩
 | .un,_,_,_,_,_,h,_=>by simp[fG]at h
 | .sl _,_,_,_,_,_,h,_=>by simp[fG]at h
 | .cl,_,_,_,_,_,h,_=>by simp[fG]at h
theorem QE {α:Type}(L:List α)(k sz off:Nat)(u:α)(h1:off<sz)(h2:k+sz≤L.length):
  L.take k++(((L.drop k).take sz).set off u)++L.drop (k+sz)=L.take (k+off)++[u]++L.drop (k+off+1):=by
 apply List.ext_getElem?
 intro j;simp only[ao4,List.getElem?_append,ar2,as3,List.length_set,List.getElem?_take,List.getElem?_drop,List.getElem?_set,ao0,ao2]
 by_cases a1:j<k
 ·have b1:j<min k L.length:=(by omega);have b2:j<min (k+off) L.length:=(by omega);have b3:j<k+off:=(by omega);simp[a1,b1,b2,b3]
 ·have b1:¬ j<min k L.length:=(by omega);simp only[b1,at3];have e1:min k L.length=k:=(by omega);have e2:min (k+off) L.length=k+off:=(by omega);rw[e1,e2]
  by_cases a2:j<k+sz
  ·have b2:j - k<min sz (L.length - k):=(by omega);simp only[b2,if_true]
   by_cases a3:off=j - k
   ·have ej:j=k+off:=(by omega);subst ej;have c1:k+off - k=off:=(by omega);have c2:off<min sz (L.length - k):=(by omega);simp[c1,c2]
   ·simp only[a3,at3]
    by_cases a4:j<k+off
    ·simp only[a4,if_true];rw[as0 (by omega),show k+(j - k)=j from by omega]
    ·have b4:¬ j - (k+off)<0+1:=(by omega);simp only[a4,at3,b4];rw[as0 (by omega)]
     congr 1
     omega
  ·have b2:¬ j - k<min sz (L.length - k):=(by omega);have b3:¬ j<k+off:=(by omega);have b4:¬ j - (k+off)<0+1:=(by omega);simp only[b2,at3,b3,b4]
   congr 1
   omega
def kr (arr:Array Value)(o:Nat)(us:List Value):Array Value:=(arr.toList.take o++us++arr.toList.drop (o+us.length)).toArray
theorem HP {E:Env}{t:TypeId}{n:Nat}{w:World}{b o:Nat}{arr:Array Value}{ty:TypeId}{v:Value}(hn:E.sizeOf t=some n)(hl:v.cells.toList.length=n)
  (h:w.heap[b]?=some (.cells arr ty (0,0))) (hle:o+v.cells.toList.length≤arr.size) (h1:∀u∈v.cells.toList,u.oneCell'=true):
  (Instr.storeAt t (.pointer (some ⟨b,o,none⟩)) v).run E.P w= .ok () (w.setRow b (kr arr o v.cells.toList)):=by
 have hs:v.cells.size=n:=(by simpa using hl);have:=run_storeCells_at (P:=E.P) b o ty v.cells.toList 0 arr w h (by simpa using hle) h1;simp only[Instr.storeAt,Instr.sureAddr,storeVar,Sem.run_bind,Sem.run_pure,Result.andThen_ok,run_sizeOf hn,Sem.run_ite,hs,ne_eq,not_true,at3];simpa[kr]using this
theorem Ps {g:Gh}{w:World}{id g0:Nat}{τ:Ty}{xs:List τ.den}{b o n' cap:Nat}{dp:Bool}(hO:mF g w id (.own g0 τ dp xs))(hc:bl g (.own id g0) (.slice (some ⟨b,o,none⟩) n' cap)):
  o=0∧n'=xs.length∧g.cv id g0= .slice (some ⟨b,0,none⟩) xs.length cap∧g.dn b=some (id+1)∧g.dU b=none∧xs.length≤cap∧
   ∃arr ty,w.heap[b]?=some (.cells arr ty (0,0))∧arr.size=cap*τ.size∧dE g id τ dp xs arr.toList:=by
 rcases hO with⟨k1,_⟩|⟨b',P9,arr,ty,k1,k2,k3,k4,k5,k6,k7⟩
 ·have:=hc.2.1.trans k1;cases this
 ·have e1:=hc.2.1.trans k1
  injection e1 with e2 e3 e4
  injection e2 with e2;injection e2 with e5 e6
  subst e5;subst e4;subst e6;exact⟨rfl,e3,k1,k2,k3,k5,arr,ty,k4,k6,k7⟩
theorem dE.len {g:Gh}{id:Nat}{τ:Ty}{dp:Bool}{xs:List τ.den}{L:List Value}(h:dE g id τ dp xs L):xs.length*τ.size≤L.length:=by
 unfold dE at h;split at h
 ·obtain⟨nb,h,_⟩:=h;exact h.els.len
 ·exact h.len
theorem MJ {id gen:Nat}{τ:Ty}{deep:Bool}{i:Int}{x:τ.den}{s s':St}(h:(Pj id gen τ deep i x).run s=some ((),s')):
  ∃xs,look s.hp id=some (.own gen τ deep xs)∧s'={s with hp:=(id, .own gen τ deep (xs.set i.toNat x))::s.hp}:=by
 simp only[Pj,AM.run]at h;split at h
 ·rename_i g τ' dp xs heq;obtain⟨hb,h1⟩:=bh h;simp only[ao3]at hb;obtain rfl:=beq_eq hb.1;have e2:dp=deep:=(by simpa using hb.2);subst e2;split at h1
  ·rename_i e;subst e;simp only[AM.run,ar8,as9,true_and]at h1;exact⟨xs,heq,h1.symm⟩
  ·cases h1
 ·cases h
theorem HK {new:List Cell}{sl:Slot}{s s':St}(h:(AQ new sl).run s=some ((),s')):
  s'.env=s.env∧∀{B:Base} {g:Gh} {w:World} {u:Value} {us:List Value},HRel B g s.hp w→dc g sl u→aG g new us→
   ∃b o arr ty g',u= .pointer (some ⟨b,o,none⟩)∧w.heap[b]?=some (.cells arr ty (0,0))∧o+us.length≤arr.size∧Le g g'∧HRel B g' s'.hp (w.setRow b (kr arr o us)):=by
 unfold AQ at h;split at h
 ·rename_i id gen off;simp only[AM.run]at h;split at h
  ·rename_i g0 cs heq;obtain⟨hb,h'⟩:=bh h;simp only[ao3]at hb;obtain rfl:=beq_eq hb.1;have hle:off+new.length≤cs.length:=aq4 hb.2;simp only[AM.run,ar8,as9,true_and]at h';subst h';refine⟨rfl,fun{B g w u us} R hu hn=> ?_⟩;obtain⟨ht,b,o,kX,e⟩:=hu;obtain⟨b',o',arr,ty,L,k1,k2,k3,k4,k5,k6,k7⟩:=R.eG _ _ heq;rw[kX]at k1
   injection k1 with k1;injection k1 with k1;injection k1 with k1 Y4
   subst k1;subst Y4;have hL:L.length=cs.length:=k4.length;have ae1:us.length=new.length:=hn.length
   have zR:arr.size=(g.outer id).length:=by
    have:=congrArg List.length k5;simp only[Array.length_toList,an9,ar2,as3]at this;omega
   refine⟨b,o+off,arr,ty,_,e,k3,by omega,Le.take g id [],R.write heq rfl k2.1 k2.2 (oZ k3 _) (fun x hx=>by simp at hx) ?_⟩;refine⟨b,o,_,ty,L.take off++us++L.drop (off+us.length),kX,⟨by simp[Gh.take,k2.1],k2.2⟩,setRow_heap w b arr _ ty _ k3,(hn.set off k4).mono (Le.take g id []), ?_, ?_, ?_⟩
   ·have ho:o≤(g.outer id).length:=(by omega)
    have e1:((g.outer id).take o).length=o:=by rw[ar2];omega
    show(kr arr (o+off) us).toList=_;unfold kr;rw[k5];simp only[Gh.take,an9,ar2,as3];have e2:o+(min off L.length+us.length+(L.length - (off+us.length)))=o+L.length:=(by omega);rw[e2]
    rw[ao4,ao4,List.take_append,e1,List.take_of_length_le (by omega),Nat.add_sub_cancel_left,
     List.take_append_of_le_length (by omega),ao4,List.drop_append,e1,List.drop_eq_nil_of_le (by omega),List.nil_append,
     show o+off+us.length - o=off+us.length from by omega,List.drop_append_of_le_length (by omega)]
    simp[ao4]
   ·simp only[Gh.take,an9,ar2,as3];omega
   ·obtain⟨h0,h1,h2⟩:=k7;refine⟨h0, ?_,h2⟩;show(g.outer id).length=(setCells off new _).length;rw[h1];unfold setCells;simp only[an9,ar2,as3];omega
  ·cases h
 ·rename_i id gen i off sz;simp only[AM.run]at h;split at h
  ·rename_i g0 τ deep Xl Xs;obtain⟨hb,h'⟩:=bh h;clear h;simp only[ao3]at hb;obtain rfl:=beq_eq hb.1;have mu:=beq_eq hb.2;subst mu
   cases Jn:(Nat.beq off 0&&Nat.beq new.length τ.size)with
   |true=>
    rw[Jn]at h';simp only[ap3]at h';simp only[ao3]at Jn;have yH:=beq_eq Jn.1;have JD:=beq_eq Jn.2;subst yH;obtain⟨p,t,h1,h2⟩:=AM.ah h';obtain⟨he,hp⟩:=Dx _ _ _ _ _ _ _ h1;obtain⟨xs,heq,Sz⟩:=MJ h2;subst Sz;refine⟨he,fun{B g w u us} R hu hn=> ?_⟩;obtain⟨g1,l1,R1,EO⟩:=hp B g w R;obtain⟨Mf,Qv,nb,e1,EG,xW,hfresh⟩:=EO us hn;obtain⟨b,o,n',cap,hc,h0,h3,e⟩:=hu;obtain⟨rfl,rfl,kX,lK,uQ,hle,arr,ty,ha,Y3,oy⟩:=Ps (R1.eG _ _ heq) (hc.mono l1.le);have ae1:us.length=τ.size:=(by rw[hn.length,JD]);have nw:Mf.length=τ.size:=EG.len
    have xx:Qv=[]:=by
     have:=congrArg List.length e1;simp only[an9]at this;exact as1 (by omega)
    subst xx;simp only[aq7]at e1;subst e1;have hi:i.toNat<xs.length:=h3
    have Fl:i.toNat*τ.size+τ.size≤arr.size:=by
     have h5:(i.toNat+1)*τ.size≤cap*τ.size:=Nat.mul_le_mul_right _ (by omega);rw[Nat.add_mul]at h5;omega
    have Zr:∀x∈nb,g1.dn x=some 0:=by
     unfold Got at EG;split at EG
     ·exact EG.2.2
     ·rw[EG.2];intro x hx;simp at hx
    have hcvT:(g1.take id nb).cv id g0= .slice (some ⟨b,0,none⟩) xs.length cap:=kX;refine⟨b,0+i.toNat*τ.size+0,arr,ty,_,e,ha,by omega,l1.le.trans (Le.take g1 id nb),R1.write heq rfl lK uQ (oZ ha _) Zr ?_⟩
    have Yi:b∉nb:=fun hm=>by rw[Zr b hm]at lK;simp at lK
    refine .inr ⟨b,cap,_,ty,by rw[List.length_set];exact kX,by simp[Gh.take,Yi,lK],uQ,setRow_heap w b arr _ ty _ ha,by rw[List.length_set];exact hle, ?_, ?_⟩
    ·unfold kr;simp only[List.size_toArray,an9,ar2,as3,Array.length_toList];omega
    ·have Jw:(kr arr (0+i.toNat*τ.size+0) us).toList=arr.toList.take (i.toNat*τ.size)++us++arr.toList.drop (i.toNat*τ.size+us.length):=(by simp[kr]);rw[Jw];unfold dE at oy⊢;unfold Got at EG
     by_cases hd:(deep&& !τ.flat)=true
     ·rw[as0 hd]at oy EG⊢;obtain⟨ai1,hl,mG,PY⟩:=oy;obtain⟨na,n0,nc,en,_,xz⟩:=hl.set hi;refine⟨na++nb++nc,xz (fun b _ L hL=>hL) EG.1, ?_,fun x hx=> ?_⟩
      ·have Rx:∀x∈na++nc,x∉nb:=fun x hx hm=>by
        have h1:=PY x (by rw[en];rcases aq6.1 hx with h|h<;>simp[h]);rw[Zr x hm]at h1;simp at h1
       subst en
       have Jt:(na++nc).Nodup:=by
        refine mG.sublist ?_;rw[ao4];exact List.Sublist.append (List.Sublist.refl _) (List.sublist_append_right _ _)
       rw[as7]at Jt⊢;refine⟨?_,Jt.2.1,fun x hx y hy e=> ?_⟩
       ·rw[as7];exact⟨Jt.1,EG.2.1,fun x hx y hy e=>Rx x (ar3 _ hx) (by rw[e];exact hy)⟩
       ·rcases aq6.1 hx with hx|hx
        ·exact Jt.2.2 x hx y hy e
        ·exact Rx y (ar0 _ hy) (by rw[←e];exact hx)
      ·show(if x∈nb then some (id+1)else g1.dn x)=some (id+1);split
       ·rfl
       ·rename_i j0;refine PY x ?_;rw[en]
        rcases aq6.1 hx with hx|hx
        ·rcases aq6.1 hx with hx|hx
         ·simp[hx]
         ·exact absurd hx j0
        ·simp[hx]
     ·rw[ar1 hd]at oy EG⊢;exact oy.set EG.1 hi
   |false=>
    rw[Jn]at h';simp only[ao8]at h';split at h'
    ·rename_i c;split at h'
     ·rename_i y hy;simp only[AM.run,ar8,as9,true_and]at h';subst h';refine⟨rfl,fun{B g w u us} R hu hn=> ?_⟩;obtain⟨u1,r,e1,Z9,hr⟩:=hn;have hr:r=[]:=hr;subst hr;subst e1;obtain⟨b,o,n',cap,hc,h0,h3,e⟩:=hu;obtain⟨rfl,rfl,kX,lK,uQ,hle,arr,ty,ha,Y3,oy⟩:=Ps (R.eG _ _ Xs) hc;have hi:i.toNat<Xl.length:=h3
      have F0:at_ Xl i=Xl[i.toNat]:=by unfold at_;rw[ap9,ap8 hi];rfl
      rw[F0]at hy
      have Fl:i.toNat*τ.size+τ.size≤arr.size:=by
       have h5:(i.toNat+1)*τ.size≤cap*τ.size:=Nat.mul_le_mul_right _ (by omega);rw[Nat.add_mul]at h5;omega
      have TZ:∀{us:List Value},us=(arr.toList.drop (i.toNat*τ.size)).take τ.size→off<us.length→
        (kr arr (0+i.toNat*τ.size+off) [u1]).toList=arr.toList.take (i.toNat*τ.size)++us.set off u1++arr.toList.drop (i.toNat*τ.size+(us.set off u1).length)∧0+i.toNat*τ.size+off+1≤arr.size:=by
       intro us e iO
       have aa6:us.length=τ.size:=by rw[e,ar2,as3,Array.length_toList];omega
       rw[List.length_set,aa6];refine⟨?_,by omega⟩;rw[e,QE _ _ _ _ _ (by omega) (by rw[Array.length_toList];exact Fl)];simp[kr]
      have fin:off<((arr.toList.drop (i.toNat*τ.size)).take τ.size).length→dE g id τ deep (Xl.set i.toNat y) (kr arr (0+i.toNat*τ.size+off) [u1]).toList→
        ∃b o arr ty g',u= .pointer (some ⟨b,o,none⟩)∧w.heap[b]?=some (.cells arr ty (0,0))∧o+[u1].length≤arr.size∧Le g g'∧
         HRel B g' ((id, .own g0 τ deep (Xl.set i.toNat y))::s.hp) (w.setRow b (kr arr o [u1])):=by
       intro iO Qi;obtain⟨_,YQ⟩:=TZ rfl iO;refine⟨b,0+i.toNat*τ.size+off,arr,ty,_,e,ha,by simpa using YQ,Le.take g id [],R.write Xs rfl lK uQ (oZ ha _) (fun x hx=>by simp at hx) ?_⟩;refine .inr ⟨b,cap,_,ty,by rw[List.length_set];exact kX,by simp[Gh.take,lK],uQ,setRow_heap w b arr _ ty _ ha,by rw[List.length_set];exact hle, ?_, ?_⟩
       ·unfold kr;simp only[List.size_toArray,an9,ar2,as3,Array.length_toList,ao0,ao2];omega
       ·unfold dE at Qi⊢;split
        ·rename_i hd;rw[as0 hd]at Qi;obtain⟨nb,q1,q2,q3⟩:=Qi;exact⟨nb,q1,q2,fun x hx=>by simp[Gh.take,q3 x hx]⟩
        ·rename_i hd;rw[ar1 hd]at Qi;exact Qi
      unfold dE at oy
      by_cases hd:(deep&& !τ.flat)=true
      ·rw[as0 hd]at oy;obtain⟨ai1,hl,mG,PY⟩:=oy;obtain⟨na,n0,nc,en,SD,xz⟩:=hl.set hi;obtain⟨iO,Qh⟩:=wg Z9 hy SD;refine fin iO ?_;unfold dE;rw[as0 hd,(TZ rfl iO).1];exact⟨na++n0++nc,xz (fun b _ L hL=>hL) Qh,by rw[←en];exact mG,fun x hx=>PY x (by rw[en];exact hx)⟩
      ·rw[ar1 hd]at oy;have SD:=oy i.toNat hi;rw[Nat.zero_add]at SD;obtain⟨iO,Qh⟩:=lh Z9 hy SD;refine fin iO ?_;unfold dE;rw[ar1 hd,(TZ rfl iO).1];exact oy.set Qh hi
     ·cases h'
    ·cases h'
  ·cases h
 ·cases h
end Go.Abs
end

section
namespace Go.Abs
theorem HX {E:Env}{t:TypeId}{x y:Operand}{s s':St}{sl:Slot}{d:Nat}(h:(dW E d (.store t x y)).run s=some (sl,s')):
  s'.env=s.env∧sl= .un∧∀(o:Oper),o.op= .store t x y→∀B g a w,HRel B g s.hp w→il g s.env a→
  ∃w' g',(execOp a.eval o).run E.P w= .ok .skip w'∧Le g g'∧HRel B g' s'.hp w':=by
 obtain⟨v,t1,h1,h2⟩:=AM.ah h;obtain⟨s1,t2,h3,h4⟩:=AM.ah h2;obtain⟨n,t3,h5,h6⟩:=AM.ah h4;obtain⟨rfl,r1⟩:=cB h1;obtain⟨rfl,r2⟩:=oa h3;obtain⟨hn,rfl⟩:=cn h5;obtain⟨hb,h7⟩:=bh h6;have hl:=beq_eq hb;obtain⟨_,t4,h8,h9⟩:=AM.ah h7;obtain⟨rfl,rfl⟩:=ai h9;obtain⟨he,hw⟩:=HK h8;refine⟨he,rfl,fun o ho B g a w R V=> ?_⟩;have hc:=(r1 V).cells;obtain⟨b,o',arr,ty,g',e,ha,hle,l,R'⟩:=hw R (r2 V) hc;refine⟨_,g', ?_,l,R'⟩;unfold execOp;rw[ho];have:=HP (E:=E) (v:=a.eval y) hn (by rw[hc.length,hl]) ha hle hc.TP;simp only[Sem.run_bind,e,this,Result.andThen_ok];rfl
theorem HRel.Ed {B:Base}{g:Gh}{hp:List (Nat×Obj)}{w:World}(R:HRel B g hp w){id:Nat}{cs:List Cell}{us:List Value}(ty:TypeId)(hc:aG g cs us):
  ∃g',Le g g'∧HRel B g' ((id, .box (g.top id) (ty,cs))::hp) (World.more w (.cells us.toArray ty))∧dc g' (.val (.one (.ptr id (g.top id) 0))) (.pointer (some ⟨w.heap.size,0,none⟩)):=by
 have hle:=R.Cu (id:=id) (b:=w.heap.size) (u:= .pointer (some ⟨w.heap.size,0,none⟩)) (nb:=[]) (out:=us) rfl;refine⟨_,hle,R.install rfl R.pF (uA w _) (fun x hx=>by simp at hx) rfl ?_, ?_⟩
 ·refine⟨w.heap.size,0,us.toArray,ty,us,by simp[Gh.inst],⟨by simp[Gh.inst],R.pF.dU⟩,zD w _,hc.mono hle, ?_, ?_,⟨rfl, ?_,rfl⟩⟩
  ·simp[Gh.inst]
  ·simp[Gh.inst]
  ·simp[Gh.inst,hc.length]
 ·exact⟨by simp[Gh.inst],w.heap.size,0,by simp[Gh.inst],rfl⟩
theorem zh {d:Nat}{ty:TypeId}{cs:List Cell}{s s':St}{sl:Slot}(h:(Go.Abs.Ed d ty cs).run s=some (sl,s')):
  s'.env=s.env∧∀{B:Base} {g:Gh} {w:World} {us:List Value},HRel B g s.hp w→aG g cs us→
   ∃g',Le g g'∧HRel B g' s'.hp (World.more w (.cells us.toArray ty))∧dc g' sl (.pointer (some ⟨w.heap.size,0,none⟩)):=by
 obtain⟨gen,t,h1,h2⟩:=AM.ah h
 have mZ:t=s:=by
  exact(nH h1).1
 subst mZ;simp only[AM.run,ar8,as9]at h2;obtain⟨rfl,rfl⟩:=h2;refine⟨rfl,fun{B g w us} R hc=> ?_⟩;obtain⟨rfl,_⟩:=jG R h1;exact R.Ed ty hc
theorem H3 {E:Env}{t:TypeId}{s s':St}{sl:Slot}{d:Nat}(h:(dW E d (.alloc t)).run s=some (sl,s')):Yld E (.alloc t) s sl s':=by
 obtain⟨cs,t1,h1,h2⟩:=AM.ah h;obtain⟨hz,rfl⟩:=cn h1;obtain⟨he,hb⟩:=zh h2;refine⟨he,fun o ho B g a w R V=> ?_⟩;unfold Env.zeroCells at hz;simp only[as8]at hz;obtain⟨z,⟨i,hi,Uv⟩,hz⟩:=hz;obtain⟨g',l,R',hs⟩:=hb R (nY hz g);refine⟨_,_,g', ?_,l,R',hs⟩;unfold execOp;rw[ho]
 apply db
 simp[Instr.alloc,zeroValue,typeInfo,hi,Uv,newVar,newRow,World.more]
theorem MO {E:Env}{t:TypeId}{x:Operand}{s s':St}{sl:Slot}{d:Nat}(h:(dW E d (.box t x)).run s=some (sl,s')):Yld E (.box t x) s sl s':=by
 obtain⟨v,t1,h1,h2⟩:=AM.ah h;obtain⟨rfl,r1⟩:=cB h1;obtain⟨he,hb⟩:=zh h2;refine⟨he,fun o ho B g a w R V=> ?_⟩;obtain⟨g',l,R',hs⟩:=hb R (r1 V).cells;refine⟨_,_,g', ?_,l,R',hs⟩;unfold execOp;rw[ho]
 apply db
 simp[Instr.box,newVar,newRow,World.more]
theorem DA (n:Nat)(z:List Cell):(rep n z).length=n*z.length:=by
 induction n with
 |zero=>simp[rep]
 |succ n ih=>simp[rep,ih,Nat.add_mul];omega
theorem Lm {g:Gh}{z:List Cell}{us:List Value}(h:aG g z us):∀n,aG g (rep n z) (List.replicate n us).flatten
 |0=>by simp[rep,aG]
 |n+1=>by
  rw[List.replicate_succ,List.flatten_cons];exact h.append (Lm h n)
theorem IB (us:List Value)(n:Nat):((Array.range (n*us.length)).map (us.toArray[· % us.toArray.size]!)).toList=(List.replicate n us).flatten:=by
 apply List.ext_getElem
 ·simp
 ·intro i h1 h2
  have hlen:0<us.length:=by
   rcases Nat.eq_zero_or_pos us.length with h|h
   ·simp[h]at h1
   ·exact h
  have hm:i % us.length<us.length:=Nat.mod_lt _ hlen;simp only[Array.toList_map,Array.toList_range,List.getElem_map,List.getElem_range,List.size_toArray];rw[getElem!_pos us.toArray _ (by simpa using hm)]
  have wO:∀(n i:Nat) (h:i<((List.replicate n us).flatten).length),((List.replicate n us).flatten)[i]=us[i % us.length]'(Nat.mod_lt _ hlen):=by
   intro n
   induction n with
   |zero=>intro i h;simp at h
   |succ n ih=>
    intro i h;have e:(List.replicate (n+1) us).flatten=us++(List.replicate n us).flatten:=(by rw[List.replicate_succ,List.flatten_cons]);simp only[e]at h⊢;rw[List.getElem_append];split
    ·rename_i hi;simp[Nat.mod_eq_of_lt hi]
    ·rename_i hi;rw[ih];have em:i % us.length=(i - us.length) % us.length:=Nat.mod_eq_sub_mod (by omega);simp only[em]
  rw[wO n i h2];simp
end Go.Abs
end

section
namespace Go.Abs
def DY (g:Gh):List (Nat×Val)→List (Nat×Value)→Prop
 |[],qs=>qs=[]
 |p::ps,qs=>∃u r,qs=(p.1,u)::r∧dT g p.2 u∧DY g ps r
theorem sM:∀{xs:List (Nat×Operand)}{s s':St}{vs:List (Nat×Val)},(Cm xs).run s=some (vs,s')→s'=s∧∀{g:Gh}{a:Act},il g s.env a→DY g vs (xs.map fun p=>(p.1,a.eval p.2))
 |[],_,_,_,h=>by obtain⟨rfl,rfl⟩:=ai h;exact⟨rfl,fun _=>rfl⟩
 |(i,x)::r,_,_,_,h=>by
  obtain⟨v,t,h1,h2⟩:=AM.ah h;obtain⟨vs,t2,h3,h4⟩:=AM.ah h2;obtain⟨rfl,rfl⟩:=ai h4;obtain⟨rfl,r1⟩:=cB h1;obtain⟨rfl,r2⟩:=sM h3;exact⟨rfl,fun V=>⟨_,_,rfl,r1 V,r2 V⟩⟩
theorem FH (off:Nat):∀(L:List Value)(k:Nat)(cs:Array Value),off+k+L.length≤cs.size→
  ((L.zipIdx k).foldl (fun cs p=>cs.setIfInBounds (off+p.2) p.1) cs).toList=cs.toList.take (off+k)++L++cs.toList.drop (off+k+L.length)
 |[],k,cs,h=>by simp
 |u::L,k,cs,h=>by
  simp only[ao0]at h;simp only[List.zipIdx_cons,List.foldl_cons];rw[FH off L (k+1) _ (by simp;omega)];simp only[Array.toList_setIfInBounds,ao0];rw[List.drop_set_of_lt (by omega)];rw[show off+(k+1)=(off+k)+1 from rfl,List.take_add_one];simp only[List.getElem?_set,List.take_set_of_le,aq2]
  have iO:off+k<cs.toList.length:=by simp;omega
  simp only[if_true,iO,Option.toList_some];rw[show off+k+1+L.length=off+k+(L.length+1)by omega];simp
theorem yu {g:Gh}{place place':Nat→Option (Nat×Nat)}(hp:∀i,place i=place' i):∀{ps:List (Nat×Val)}{qs:List (Nat×Value)}{cells A9:List Cell}{us:Array Value},
  fill place cells ps=some A9→DY g ps qs→aG g cells us.toList→∃Jy,Instr.fill place' us qs=some Jy∧aG g A9 Jy.toList
 |[],qs,cells,A9,us,h,hq,hc=>by
  have hq:qs=[]:=hq;subst hq
  injection h with h;subst h
  exact⟨us,rfl,hc⟩
 |(i,x)::r,qs,cells,A9,us,h,⟨u,qr,e,hu,hr⟩,hc=>by
  subst e;simp only[fill]at h;simp only[Instr.fill];rw[←hp i]
  cases ac2:place i with
  |none=>rw[ac2]at h;cases h
  |some os=>
   obtain⟨off,size⟩:=os;rw[ac2]at h;simp only at h⊢;have hx:=hu.cells;have hl:=hx.length;have yJ:=hc.length;simp only[Array.length_toList]at hl yJ
   cases hb:(Nat.beq x.cells.length size&&Nat.ble (off+size) cells.length)with
   |false=>rw[hb]at h;cases h
   |true=>
    rw[hb]at h;simp only[ao3]at hb;have e1:=beq_eq hb.1;have e2:=aq4 hb.2;rw[ar1 (by simp only[ar7,ao1];omega)];have hf:=FH off u.cells.toList 0 us (by simp;omega);simp only[Nat.add_zero]at hf
    have WQ:(u.cells.zipIdx.foldl (fun cs p=>cs.setIfInBounds (off+p.2) p.1) us).toList=us.toList.take off++u.cells.toList++us.toList.drop (off+u.cells.toList.length):=by
     rw[←hf,←Array.foldl_toList,Array.toList_zipIdx]
    refine yu hp h hr ?_;rw[WQ];exact hx.set off hc
theorem Dz {P:Program}:∀{fs:List Field},(fs.all fun f=>(P.info? f.type).isSome)=true→∃places,fs.mapM (fun f=>(P.info? f.type).map fun i=>(f.offset,i.size))=some places∧
  ∀i:Nat,places[i]?=(fs[i]?).bind fun f=>((P.info? f.type).map (·.size)).map (f.offset, ·)
 |[],_=>⟨[],rfl,fun i=>by simp⟩
 |f::fs,h=>by
  simp only[List.all_cons,ao3]at h;obtain⟨i,hi⟩:=Option.isSome_iff_exists.1 h.1;obtain⟨places,hp,hq⟩:=Dz h.2;refine⟨(f.offset,i.size)::places,by simp[hi,hp],fun k=> ?_⟩
  cases k with
  |zero=>simp[hi]
  |succ k=>simp[hq k]
theorem pT {E:Env}{t:TypeId}{cs:List Cell}(h:E.zeroCells t=some cs):∃i z,E.P.info? t=some i∧i.zero=some z∧∀g,aG g cs z.cells.toList:=by
 unfold Env.zeroCells at h;simp only[as8]at h;obtain⟨z,⟨i,hi,Uv⟩,hz⟩:=h;exact⟨i,z,hi,Uv,nY hz⟩
theorem HE {E:Env}{t:TypeId}{ps:Array (Nat×Operand)}{s s':St}{sl:Slot}{d:Nat}(h:(dW E d (.build t ps)).run s=some (sl,s')):Yld E (.build t ps) s sl s':=by
 obtain⟨z,t1,h1,h2⟩:=AM.ah h;obtain⟨vs,t2,h3,h4⟩:=AM.ah h2;obtain⟨cs,t3,h5,h6⟩:=AM.ah h4;obtain⟨hb,h7⟩:=bh h6;obtain⟨rfl,rfl⟩:=ai h7;obtain⟨hz,rfl⟩:=cn h1;obtain⟨rfl,r1⟩:=sM h3;obtain⟨hf,rfl⟩:=cn h5;obtain⟨it,zv,hi,Uv,SL⟩:=pT hz
 refine .still fun o ho B g a w R V=> ?_
 unfold Env.sized at hb;split at hb
 ·rename_i fs hu;obtain⟨places,hp,hq⟩:=Dz hb
  obtain⟨Jy,PM,hr⟩:=yu (place':=fun i=>places.toArray[i]?) (fun i=>by
   simp only[List.getElem?_toArray,hq i,Env.field,hu,Env.sizeOf,Array.getElem?_toList]) hf (r1 V) (SL g)
  refine⟨.agg Jy, ?_,⟨Jy.toList,rfl,hr⟩⟩;unfold execOp;rw[ho]
  apply db
  apply run_build
  unfold Program.built;simp only[hi,hu,Uv,hp];rw[←PM];simp
 ·cases hb
theorem GJ {g:Gh}:∀{τ:Ty}{cells:List Cell}{x:τ.den}{rest:List Cell}{us:List Value},zQ τ cells=some (x,rest)→aG g cells us→
  ∃u1 u2,us=u1++u2∧(∀r,Rc r τ x u1)∧(τ.mY=true→∀r,Lin r τ x u1 [])∧aG g rest u2
 | .un,cells,x,rest,us,h,hc=>by
  injection h with h;injection h with h1 h2;subst h2
  exact⟨[],us,rfl,fun r=>rfl,fun _ r=>⟨rfl,rfl⟩,hc⟩
 | .pr a b,cells,x,rest,us,h,hc=>by
  simp only[zQ,as8]at h;obtain⟨p,hp,q,hq,h⟩:=h
  injection h with h;injection h with h1 h2;subst h1;subst h2
  obtain⟨u1,u2,rfl,k1,k2,k3⟩:=GJ (x:=p.1) (rest:=p.2) hp hc;obtain⟨v1,v2,rfl,m1,m2,m3⟩:=GJ (x:=q.1) (rest:=q.2) hq k3;refine⟨u1++v1,v2,by simp,fun r=>⟨u1,v1,rfl,k1 r,m1 r⟩,fun hm r=> ?_,m3⟩;simp only[Ty.mY,ao3]at hm;exact⟨u1,v1,[],[],rfl,rfl,k2 hm.1 r,m2 hm.2 r⟩
 | .int k,[],x,rest,us,h,hc=>by cases h
 | .bool,[],x,rest,us,h,hc=>by cases h
 | .str,[],x,rest,us,h,hc=>by cases h
 | .sl e,[],x,rest,us,h,hc=>by cases h
 | .cl,[],x,rest,us,h,hc=>by cases h
 | .int k,c::cs,x,rest,us,h,⟨u,r,e,hu,hr⟩=>by
  cases c<;>try(simp[zQ]at h;done)
  rename_i τ' x'
  cases τ'<;>try(simp[zQ]at h;done)
  rename_i k';simp only[zQ]at h;split at h
  ·rename_i ek;subst ek
   injection h with h;injection h with h1 h2;subst h1;subst h2
   have hv:=gP hu;subst hv;subst e;exact⟨_,r,rfl,fun _=>rfl,fun _ _=>⟨rfl,rfl⟩,hr⟩
  ·cases h
 | .bool,c::cs,x,rest,us,h,⟨u,r,e,hu,hr⟩=>by
  cases c<;>try(simp[zQ]at h;done)
  rename_i τ' x'
  cases τ'<;>try(simp[zQ]at h;done)
  injection h with h;injection h with h1 h2;subst h1;subst h2
  have hv:=l7 hu;subst hv;subst e;exact⟨_,r,rfl,fun _=>rfl,fun _ _=>⟨rfl,rfl⟩,hr⟩
 | .str,c::cs,x,rest,us,h,⟨u,r,e,hu,hr⟩=>by
  cases c<;>try(simp[zQ]at h;done)
  rename_i τ' x'
  cases τ'<;>try(simp[zQ]at h;done)
  injection h with h;injection h with h1 h2;subst h1;subst h2
  obtain⟨st,hv,hl⟩:=oe hu;subst hv;subst e;exact⟨_,r,rfl,fun _=>⟨st,rfl,hl⟩,fun _ _=>⟨⟨st,rfl,hl⟩,rfl⟩,hr⟩
 | .sl e,c::cs,x,rest,us,h,⟨u,r,e',hu,hr⟩=>by
  cases c<;>try(simp[zQ]at h;done)
  injection h with h;injection h with h1 h2;subst h1;subst h2
  have hv:_=_:=hu;subst hv;subst e';exact⟨_,r,rfl,fun _=>⟨none,0,rfl,aq2 _, .inl rfl⟩,fun hm _=>⟨hm, .inl ⟨rfl,rfl,rfl⟩⟩,hr⟩
 | .cl,c::cs,x,rest,us,h,⟨u,r,e,hu,hr⟩=>by
  cases c<;>try(simp[zQ]at h;done)
  injection h with h;injection h with h1 h2;subst h1;subst h2
  have hv:_=_:=hu;subst hv;subst e;exact⟨_,r,rfl,fun _=>⟨_,rfl,rfl⟩,fun hm _=>by simp[Ty.mY]at hm,hr⟩
end Go.Abs
end

section
namespace Go.Abs
def fN (g:Gh)(mv:Bool)(τ:Ty)(xs:List τ.den)(L:List Value)(nb:List Nat):Prop:=
 if mv then fe g.dU τ xs L nb∧nb.Nodup∧∀b∈nb,g.dn b=some 0 else Els g.aK τ xs L 0∧nb=[]
theorem fN.mono {g g':Gh}(l:Lk g g'){mv:Bool}{τ:Ty}{xs:List τ.den}{L:List Value}{nb:List Nat}(h:fN g mv τ xs L nb):fN g' mv τ xs L nb:=by
 unfold fN at h⊢;split
 ·rename_i e;rw[as0 e]at h;exact⟨h.1.mono (fun b hb L hL=>by rw[(l.kp b (h.2.2 b hb)).2];exact hL),h.2.1,fun b hb=>(l.kp b (h.2.2 b hb)).1⟩
 ·rename_i e;rw[ar1 e]at h;exact⟨h.1.mono l.le.aK,h.2⟩
theorem HRel.own {B:Base}{g:Gh}{hp:List (Nat×Obj)}{w w':World}(R:HRel B g hp w){id b cap:Nat}{arr:Array Value}{ty:TypeId}{τ:Ty}{deep:Bool}{xs:List τ.den}{nb:List Nat}
  (hf:Free g hp w b) (hw:Turned w w' b) (ha:w'.heap[b]?=some (.cells arr ty (0,0))) (hh:fN g (deep&& !τ.flat) τ xs arr.toList nb) (hl:xs.length≤cap) (hs:arr.size=cap*τ.size):
  ∃g',Le g g'∧HRel B g' ((id, .own (g.top id) τ deep xs)::hp) w'∧bl g' (.own id (g.top id)) (.slice (some ⟨b,0,none⟩) xs.length cap):=by
 have hle:=R.Cu (id:=id) (b:=b) (u:= .slice (some ⟨b,0,none⟩) xs.length cap) (nb:=nb) (out:=[]) rfl
 have sG:∀x∈nb,g.dn x=some 0:=by
  unfold fN at hh;split at hh
  ·exact hh.2.2
  ·rw[hh.2];intro x hx;simp at hx
 refine⟨_,hle,R.install rfl hf hw sG rfl (.inr ⟨b,cap,arr,ty,by simp[Gh.inst],by simp[Gh.inst],hf.dU,ha,hl,hs, ?_⟩),⟨by simp[Gh.inst],by simp[Gh.inst],rfl⟩⟩;unfold fN at hh;unfold dE;split
 ·rename_i e;rw[as0 e]at hh;exact⟨nb,hh.1,hh.2.1,fun x hx=>by simp[Gh.inst,hx]⟩
 ·rename_i e;rw[ar1 e]at hh;exact hh.1
noncomputable def Gh.name (g:Gh)(id gen:Nat)(u:Value):Gh:=
  open Classical in
  { g with top := fun i => if i = id then gen + 1 else g.top i
           cv:=fun i k=>if i=id∧k=gen then u else g.cv i k}
theorem HRel.named {B:Base}{g:Gh}{hp:List (Nat×Obj)}{w:World}(R:HRel B g hp w){id:Nat}{u:Value}{o':Obj}(wO:o'.gen=g.top id)(Es:mF (g.name id (g.top id) u) w id o'):
  Lk g (g.name id (g.top id) u)∧HRel B (g.name id (g.top id) u) ((id,o')::hp) w:=by
 have hle:Le g (g.name id (g.top id) u):=by
  refine⟨fun _ _ h=>h,fun i=> ?_,fun i k hk=> ?_⟩
  ·show g.top i≤if i=id then g.top id+1 else g.top i
   split
   ·rename_i e;subst e;omega
   ·exact aq2 _
  ·show(if i=id∧k=g.top id then u else g.cv i k)=g.cv i k;rw[ar1];rintro⟨rfl,rfl⟩;omega
 refine⟨⟨hle,fun b h=>⟨h,rfl⟩,rfl⟩,fun i=> ?_,fun i oi hi=> ?_,R.aK,R.dU,R.dR,R.ji,R.frame,R.size,R.os,R.tape,R.output,R.fix⟩
 ·show(if i=id then g.top id+1 else g.top i)=_
  by_cases e:id=i
  ·subst e;rw[aC,as0 rfl];simp[wO]
  ·rw[ay _ _ e,ar1 (fun h=>e h.symm)];exact R.top i
 ·by_cases e:id=i
  ·subst e;rw[aC]at hi;injection hi with hi;subst hi;exact Es
  ·rw[ay _ _ e]at hi;exact(R.eG i oi hi).tr hle (fun b hb=>⟨hb,rfl,rfl⟩) rfl (by rw[R.top i,hi];exact Nat.lt_succ_self _)
theorem HRel.Tx {B:Base}{g:Gh}{hp:List (Nat×Obj)}{w:World}(R:HRel B g hp w)(id:Nat)(τ:Ty)(deep:Bool):
  ∃g',Lk g g'∧HRel B g' ((id, .own (g.top id) τ deep [])::hp) w∧bl g' (.own id (g.top id)) (.slice none 0 0):=by
 obtain⟨l,R'⟩:=R.named (id:=id) (u:= .slice none 0 0) (o':= .own (g.top id) τ deep []) rfl (.inl ⟨by simp[Gh.name],rfl⟩);exact⟨_,l,R',⟨by simp[Gh.name],by simp[Gh.name],rfl⟩⟩
theorem um {d:Nat}{τ:Ty}{deep:Bool}{xs:List τ.den}{s s':St}{c:Cell}(h:(Ei d τ deep xs).run s=some (c,s')):
  ∃gen,(gR d).run s=some (gen,s)∧c= .own d gen∧s'={s with hp:=(d, .own gen τ deep xs)::s.hp}:=by
 obtain⟨gen,t,h1,h2⟩:=AM.ah h
 have mZ:t=s:=by
  exact(nH h1).1
 subst mZ;simp only[AM.run,ar8,as9]at h2;exact⟨gen,h1,h2.1.symm,h2.2.symm⟩
theorem HA {mv:Bool}{τ:Ty}:∀{n:Nat}{cells:List Cell}{s s':St}{xs:List τ.den},(O8 mv τ n cells).run s=some (xs,s')→n*τ.size≤cells.length→
  s'.env=s.env∧xs.length=n∧∀B g w,HRel B g s.hp w→∃g',Lk g g'∧HRel B g' s'.hp w∧∀us,aG g cells us→
   ∃nb,fN g' mv τ xs us nb∧∀b∈nb,g.dn b≠some 0:=by
 intro n
 induction n with
 |zero=>
  intro cells s s' xs h hlen;obtain⟨rfl,rfl⟩:=ai h;refine⟨rfl,rfl,fun B g w R=>⟨g,Lk.refl g,R,fun us hu=>⟨[], ?_,fun b hb=>by simp at hb⟩⟩⟩;unfold fN;split
  ·exact⟨rfl,as2,fun b hb=>by simp at hb⟩
  ·exact⟨Els.nil,rfl⟩
 |succ n ih=>
  intro cells s s' xs h hlen;obtain⟨p,t,h1,h2⟩:=AM.ah h;obtain⟨ys,t2,h3,h4⟩:=AM.ah h2;obtain⟨rfl,rfl⟩:=ai h4;obtain⟨x,rest⟩:=p;rw[Nat.add_mul,Nat.one_mul]at hlen;obtain⟨e1,k1⟩:=Dx mv τ _ _ _ _ _ h1;obtain⟨e2,el,k2⟩:=ih h3 (by simp;omega);refine⟨e2.trans e1,by simp[el],fun B g w R=> ?_⟩;obtain⟨g1,l1,R1,c1⟩:=k1 B g w R;obtain⟨g2,l2,R2,c2⟩:=k2 B g1 w R1;refine⟨g2,l1.trans l2,R2,fun us hu=> ?_⟩;have aa6:=hu.length;obtain⟨u1,u2,n1,e,hg,_,f1⟩:=c1 _ (hu.take τ.size);obtain⟨n2,hh,f2⟩:=c2 _ ((hu.drop τ.size).mono l1.le);have Xi:=hg.len
  have ah4:(us.take τ.size).length=τ.size:=by simp;omega
  have xx:u2=[]:=by
   have:=congrArg List.length e;rw[ah4,an9,Xi]at this;exact as1 (by omega)
  subst xx;rw[aq7]at e;have Sn:=hg.mono l2;refine⟨n1++n2, ?_,fun b hb=> ?_⟩
  ·unfold Got at hg Sn;unfold fN at hh⊢
   cases mv with
   |true=>
    simp only[if_true]at hg Sn hh⊢;refine⟨⟨n1,n2,rfl,by rw[e];exact Sn.1,hh.1⟩, ?_,fun b hb=> ?_⟩
    ·rw[as7];refine⟨Sn.2.1,hh.2.1,fun x hx y hy e=> ?_⟩;subst e;exact f2 x hy (hg.2.2 x hx)
    ·rcases aq6.1 hb with hb|hb
     ·exact Sn.2.2 b hb
     ·exact hh.2.2 b hb
   |false=>
    simp only[ar9,at3]at Sn hh⊢;exact⟨Els.head.2 ⟨by rw[e];exact Sn.1,hh.1⟩,by rw[Sn.2,hh.2];rfl⟩
  ·rcases aq6.1 hb with hb|hb
   ·exact f1 b hb
   ·intro e;exact f2 b hb (l1.kp b e).1
theorem wy {E:Env}{t:TypeId}{τ:Ty}{s s':St}(h:(E.ty t).run s=some (τ,s')):s'=s:=by
 unfold Env.ty at h;split at h
 ·exact(ai h).2
 ·cases h
theorem yw {E:Env}{t e:TypeId}(h:E.elem t=some e):E.P.underlying t=some (.slice e):=by
 unfold Env.elem at h;split at h
 ·rename_i hu;injection h with h;subst h;exact hu
 ·cases h
theorem wj {E:Env}{e:TypeId}{τ:Ty}(h:E.I6 e τ=true):∃i z,E.P.info? e=some i∧i.zero=some z∧i.size=τ.size∧i.bytes≤128∧τ.size≤64∧z.cells.size=τ.size:=by
 unfold Env.I6 at h;split at h
 ·rename_i i hi;simp only[ao3]at h;obtain⟨⟨⟨h1,h2⟩,h3⟩,h4⟩:=h;split at h4
  ·rename_i z hz;exact⟨i,z,hi,hz,beq_eq h1,aq4 h2,aq4 h3,by have:=beq_eq h4;simpa using this⟩
  ·cases h4
 ·cases h
theorem wc {place:Nat→Option (Nat×Nat)}:∀{ps:List (Nat×Val)}{cells cs:List Cell},fill place cells ps=some cs→cs.length=cells.length
 |[],cells,cs,h=>by injection h with h;subst h;rfl
 |(i,x)::r,cells,cs,h=>by
  simp only[fill]at h;split at h
  ·rename_i off size hp
   cases hb:(Nat.beq x.cells.length size&&Nat.ble (off+size) cells.length)with
   |false=>rw[hb]at h;cases h
   |true=>
    rw[hb]at h;simp only[ao3]at hb;have e1:=beq_eq hb.1;have e2:=aq4 hb.2;rw[wc h];simp[setCells];omega
  ·cases h
theorem z6 {E:Env}{t:TypeId}{n:Nat}{ps:Array (Nat×Operand)}{s s':St}{sl:Slot}{d:Nat}(h:(dW E d (.buildSlice t n ps)).run s=some (sl,s')):Yld E (.buildSlice t n ps) s sl s':=by
 obtain⟨e,t1,h1,h2⟩:=AM.ah h;obtain⟨τ,t2,h3,h4⟩:=AM.ah h2;obtain⟨z,t3,h5,h6⟩:=AM.ah h4;obtain⟨vs,t4,h7,h8⟩:=AM.ah h6;obtain⟨cs,t5,h9,xD⟩:=AM.ah h8;obtain⟨hb,Bg⟩:=bh xD;obtain⟨xs,t6,tZ,F2⟩:=AM.ah Bg;obtain⟨c,t7,PR,TY⟩:=AM.ah F2;obtain⟨rfl,rfl⟩:=ai TY;obtain⟨he,rfl⟩:=cn h1;obtain rfl:=wy h3;obtain⟨hz,rfl⟩:=cn h5;obtain⟨rfl,r1⟩:=sM h7;obtain⟨hf,rfl⟩:=cn h9;simp only[ao3]at hb;obtain⟨i,zv,hi,Vu,mu,Nq,ZT,M4⟩:=wj hb.1;have hn:=aq4 hb.2;obtain⟨i',ah7,qE,Hr,SL⟩:=pT hz;rw[hi]at qE
 injection qE with qE;subst qE
 rw[Vu]at Hr
 injection Hr with Hr;subst Hr
 have YO:z.length=τ.size:=by
  have:=(SL {aK:=fun _=>none,top:=fun _=>0,cv:=fun _ _=> .tuple #[],dn:=fun _=>none,dU:=fun _=>none,outer:=fun _=>[]}).length;rw[←this];simpa using M4
 obtain⟨gen,WC,rfl,rfl⟩:=um PR
 have TX:(Array.range (n*τ.size)).map (fun x=>zv.cells[x % zv.cells.size]!)=(List.replicate n zv.cells.toList).flatten.toArray:=by
  have:=IB zv.cells.toList n
  apply Array.ext'
  simpa[M4]using this
 have yJ:n*τ.size≤cs.length:=by
  rw[wc hf,DA,YO];exact aq2 _
 obtain⟨Zs,aa9,hp⟩:=HA tZ yJ;refine⟨Zs,fun o ho B g a w R V=> ?_⟩;obtain⟨Jy,PM,hr⟩:=yu (g:=g) (us:=(List.replicate n zv.cells.toList).flatten.toArray) (fun i=>by rw[YO]) hf (r1 V) (by simpa using Lm (SL g) n);obtain⟨g1,l1,R1,c1⟩:=hp B g w R;obtain⟨nb,hh,_⟩:=c1 _ hr;obtain⟨rfl,_⟩:=jG R1 WC;have ai4:=hr.length;have Xh:cs.length=n*τ.size:=(by rw[wc hf,DA,YO])
 obtain⟨g2,l2,R2,hc⟩:=R1.own (id:=d) (cap:=n) (arr:=Jy) (ty:=e) (w':=World.more w (.cells Jy e)) (deep:=xk cs&&τ.mY&& !τ.flat) R1.pF (uA w _) (zD w _) (nb:=nb) (xs:=xs) (by
  have:((xk cs&&τ.mY&& !τ.flat)&& !τ.flat)=(xk cs&&τ.mY&& !τ.flat):=by cases τ.flat<;>simp
  rw[this];exact hh) (by omega) (by simpa[Xh]using ai4)
 refine⟨.slice (some ⟨w.heap.size,0,none⟩) n n,_,g2, ?_,l1.le.trans l2,R2,by rw[←aa9];exact aa9 ▸ hc⟩;unfold execOp;rw[ho]
 apply db
 have hu:=yw he
 have Vi:¬ (16777216<n*τ.size):=by
  have:n*τ.size≤4096*64:=Nat.mul_le_mul hn ZT;omega
 have EA:Instr.fill (fun i=>some (i*τ.size,τ.size)) ((Array.range (n*τ.size)).map (fun x=>zv.cells[x % zv.cells.size]!)) (ps.map fun p=>(p.1,a.eval p.2)).toList=some Jy:=by
  rw[TX];simpa using PM
 by_cases hz0:n*τ.size=0
 ·rw[hz0,show(Array.range 0)=#[]from by simp]at EA;simp only[Instr.buildSlice,run_underlying hu,Sem.run_bind,Result.andThen_ok,sizeOf,typeInfo,hi,mu,hz0];simp at EA
  have er:∀f:Nat→Value,Array.map f (Array.range 0)=#[]:=fun f=>by apply Array.ext';simp
  simp[hi,mu,hz0,EA,newRow,World.more,er]
 ·simp only[Instr.buildSlice,run_underlying hu,Sem.run_bind,Result.andThen_ok,sizeOf,typeInfo,zeroValue,hi,Vu];simp at EA;simp[hi,Vu,mu,hz0,Vi,EA,newRow,World.more,zeroValue]
end Go.Abs
end

section
namespace Go.Abs
theorem IM {r:Rd}{τ:Ty}{x:τ.den}{us:List Value}(h:Rc r τ x us):∀{l c:Nat},l≤c→Els r τ (List.replicate l x) (List.replicate c us).flatten 0
 |0,_,_=>Els.nil
 |l+1,0,Wt=>by omega
 |l+1,c+1,Wt=>by
  have hl:=h.length;rw[List.replicate_succ,List.replicate_succ,List.flatten_cons];refine Els.head.2 ⟨by rw[←hl,List.take_left];exact h, ?_⟩;rw[←hl,List.drop_left];exact IM h (by omega)
theorem Iq {r:Rd}{τ:Ty}{x:τ.den}{us:List Value}(h:Lin r τ x us []):∀{l c:Nat},l≤c→fe r τ (List.replicate l x) (List.replicate c us).flatten []
 |0,_,_=>rfl
 |l+1,0,Wt=>by omega
 |l+1,c+1,Wt=>by
  have hl:=h.length;rw[List.replicate_succ,List.replicate_succ,List.flatten_cons];refine⟨[],[],rfl,by rw[←hl,List.take_left];exact h, ?_⟩;rw[←hl,List.drop_left];exact Iq h (by omega)
theorem BJ {E:Env}{t:TypeId}{lx cx:Operand}{s s':St}{sl:Slot}{d:Nat}(h:(dW E d (.makeSlice t lx cx)).run s=some (sl,s')):Yld E (.makeSlice t lx cx) s sl s':=by
 obtain⟨e,t1,h1,h2⟩:=AM.ah h;obtain⟨τ,t2,h3,h4⟩:=AM.ah h2;obtain⟨z,t3,h5,h6⟩:=AM.ah h4;obtain⟨x,t4,h7,h8⟩:=AM.ah h6;obtain⟨lv,t5,h9,xD⟩:=AM.ah h8;obtain⟨l,t6,Bg,tZ⟩:=AM.ah xD;obtain⟨cv,t7,F2,PR⟩:=AM.ah tZ;obtain⟨c,t8,TY,EJ⟩:=AM.ah PR;obtain⟨hb,ac9⟩:=bh EJ;obtain⟨hr,U5⟩:=lH ac9;obtain⟨cell,t9,Vv,TW⟩:=AM.ah U5;obtain⟨rfl,rfl⟩:=ai TW;obtain⟨he,rfl⟩:=cn h1;obtain rfl:=wy h3;obtain⟨hz,rfl⟩:=cn h5;obtain⟨hx,rfl⟩:=cn h7;obtain⟨rfl,r1⟩:=cB h9;obtain⟨⟨kl,rfl⟩,rfl⟩:=kx Bg;obtain⟨rfl,r2⟩:=cB F2;obtain⟨⟨kc,rfl⟩,rfl⟩:=kx TY;simp only[ao3,ao1]at hb hr;obtain⟨⟨h0,Wt⟩,Js⟩:=hr;obtain⟨i,zv,hi,Vu,mu,Nq,ZT,M4⟩:=wj hb.1;obtain⟨i',ah7,qE,Hr,SL⟩:=pT hz;rw[hi]at qE
 injection qE with qE;subst qE
 rw[Vu]at Hr
 injection Hr with Hr;subst Hr
 obtain⟨gen,WC,rfl,rfl⟩:=um Vv;refine⟨rfl,fun o ho B g a w R V=> ?_⟩;obtain⟨rfl,_⟩:=jG R WC;obtain⟨x,rest⟩:=x;obtain⟨u1,u2,eu,k1,k2,k3⟩:=GJ hx (SL g)
 have xx:u2=[]:=by
  have hr:rest=[]:=(by simpa using hb.2);subst hr;exact k3
 subst xx;rw[aq7]at eu;have hu:=yw he;have WO:c≤1099511627776:=Js
 have T2:(i.bytes:Int)*c≤281474976710656:=by
  have h1:(i.bytes:Int)*c≤128*1099511627776:=Int.mul_le_mul (by omega) WO (by omega) (by omega);omega
 have zT:=run_make (P:=E.P) w t e i zv hu hi Vu kl kc l c h0 Wt T2 (by omega)
 have ah9:(madeCells zv.cells (c.toNat*i.size)).toList=(List.replicate c.toNat u1).flatten:=by
  have:=IB zv.cells.toList c.toNat;unfold madeCells;rw[mu,←M4,←eu];exact this
 obtain⟨g2,l2,R2,hc⟩:=R.own (id:=d) (cap:=c.toNat) (arr:=madeCells zv.cells (c.toNat*i.size)) (ty:=e) (w':=World.more w (.cells (madeCells zv.cells (c.toNat*i.size)) e)) (τ:=τ) (deep:=τ.mY&& !τ.flat)
  (xs:=List.replicate l.toNat x) (nb:=[]) R.pF (uA w _) (zD w _) (by
   rw[ah9];unfold fN;split
   ·rename_i hm;simp only[ao3]at hm;exact⟨Iq (k2 hm.1.1 _) (by omega),as2,fun b hb=>by simp at hb⟩
   ·exact⟨IM (k1 _) (by omega),rfl⟩) (by simp;omega) (by rw[size_madeCells,mu])
 simp only[List.length_replicate]at hc;refine⟨_,_,g2, ?_,l2,R2,hc⟩;unfold execOp;rw[ho]
 apply db
 have e1:a.eval lx= .int kl l:=gP (r1 V);have e2:a.eval cx= .int kc c:=gP (r2 V);rw[e1,e2,zT];rfl
theorem xK {lo:Option Val}{l:Int}{s s':St}(h:(GP lo).run s=some (l,s')):s'=s∧((lo=none∧l=0)∨∃k,lo=some (.one (.v (.int k) l))):=by
 cases lo with
 |none=>obtain⟨rfl,rfl⟩:=ai h;exact⟨rfl, .inl ⟨rfl,rfl⟩⟩
 |some v=>obtain⟨⟨k,rfl⟩,rfl⟩:=kx h;exact⟨rfl, .inr ⟨k,rfl⟩⟩
theorem sN {n:Nat}{hi:Option Val}{l:Int}{s s':St}(h:(Ck n hi).run s=some (l,s')):s'=s∧((hi=none∧l=(n:Int))∨∃k,hi=some (.one (.v (.int k) l))):=by
 cases hi with
 |none=>obtain⟨rfl,rfl⟩:=ai h;exact⟨rfl, .inl ⟨rfl,rfl⟩⟩
 |some v=>obtain⟨⟨k,rfl⟩,rfl⟩:=kx h;exact⟨rfl, .inr ⟨k,rfl⟩⟩
theorem Dq {x:Option Operand}{v:Option Val}{s s':St}(h:(TR x).run s=some (v,s')):s'=s∧∀{g:Gh}{a:Act},il g s.env a→
  (v=none∧x.map a.eval=none)∨∃v' u,v=some v'∧x.map a.eval=some u∧dT g v' u:=by
 cases x with
 |none=>obtain⟨rfl,rfl⟩:=ai h;exact⟨rfl,fun _=> .inl ⟨rfl,rfl⟩⟩
 |some y=>
  obtain⟨w,t,h1,h2⟩:=AM.ah h;obtain⟨rfl,rfl⟩:=ai h2;obtain⟨rfl,r⟩:=cB h1;exact⟨rfl,fun V=> .inr ⟨w,_,rfl,rfl,r V⟩⟩
theorem yp {P:Program}{w:World}{isSlice:Bool}{len cap:Nat}{lo hi:Option Value}{l h:Int}(hb:bounds len l h=true)(hc:len≤cap)
  (h1:(lo=none∧l=0)∨∃k,lo=some (.int k l)) (h2:(hi=none∧h=(len:Int))∨∃k,hi=some (.int k h)):
  (Instr.sliceBounds isSlice len cap lo hi none).run P w= .ok (l.toNat,h.toNat,cap) w:=by
 simp only[bounds,ao3,ao1]at hb;have eh:(h.toNat:Int)=h:=Int.toNat_of_nonneg (by omega);have Rs:h≤(cap:Int):=(by omega);have h0:0≤h:=(by omega)
 rcases h1 with⟨rfl,rfl⟩|⟨k,rfl⟩<;>rcases h2 with⟨rfl,rfl⟩|⟨k',rfl⟩
 ·simp[Instr.sliceBounds]
 ·simp[Instr.sliceBounds,run_sliceBound,h0,Rs]
 ·have:=hb.1.2;simp[Instr.sliceBounds,run_sliceBound,hb.1.1,hb.1.2]
 ·simp[Instr.sliceBounds,run_sliceBound,hb.1.1,hb.1.2,h0,Rs,eh]
theorem AS (s:ByteArray)(l h:Int):sub (bytesOf s) l h=bytesOf (s.extract l.toNat h.toNat):=by
 unfold sub bytesOf;rw[ByteArray.data_extract,Array.toList_extract,List.extract_eq_take_drop,←List.map_take,←List.map_drop,List.drop_take]
theorem JO {α:Type}{xs:List α}{l h:Int}(hb:bounds xs.length l h=true):(sub xs l h).length=h.toNat - l.toNat:=by
 simp only[bounds,ao3,ao1]at hb;unfold sub;simp;omega
theorem SX {r:Rd}{τ:Ty}{xs:List τ.den}{A:Option Addr}{n cap:Nat}{l h:Int}(H:Rc r (.sl τ) xs [.slice A n cap])(hb:bounds xs.length l h=true):
  n=xs.length∧n≤cap∧Rc r (.sl τ) (sub xs l h) [sliced A l.toNat h.toNat cap τ.size]:=by
 obtain⟨A',c,e,hc,he⟩:=H
 injection e with e;injection e with e1 e2 e3
 subst e1;subst e2;subst e3;refine⟨rfl,hc, ?_⟩;have BC:=JO hb;have EC:=hb;simp only[bounds,ao3,ao1]at hb;refine⟨_,cap - l.toNat,by unfold sliced;rw[BC],by rw[BC];omega, ?_⟩
 by_cases hz:sub xs l h=[]
 ·exact .inl hz
 ·right
  rcases he with he|⟨b,o,L,rfl,hL,hi⟩
  ·exact absurd (by rw[he];unfold sub;simp) hz
  ·have iO:l.toNat<h.toNat:=by
    have:0<(sub xs l h).length:=List.length_pos_iff.2 hz;omega
   refine⟨b,o+l.toNat*τ.size,L, ?_,hL,fun i qE=> ?_⟩
   ·rw[ar1 (by omega)];simp[Addr.add_lit]
   ·have e:(sub xs l h)[i]=xs[l.toNat+i]'(by omega):=by
     simp[sub]
    rw[e];have:=hi (l.toNat+i) (by omega);rw[Nat.add_assoc,←Nat.add_mul];exact this
theorem sX {E:Env}{t e:TypeId}{sz:Option Nat}{τ:Ty}{xs:List τ.den}{lo hi:Option Val}{s s':St}{sl:Slot}(h:(zJ sz τ xs lo hi).run s=some (sl,s'))(mu:sz=E.sizeOf e)(ht:E.P.underlying t=some (.slice e)):
  s'=s∧∀{g:Gh} {w:World} {u:Value} {Ey Be:Option Value},Rc g.aK (.sl τ) xs [u]→((lo=none∧Ey=none)∨∃v' u,lo=some v'∧Ey=some u∧dT g v' u)→((hi=none∧Be=none)∨∃v' u,hi=some v'∧Be=some u∧dT g v' u)→
   ∃v,(Instr.sliceAt t u Ey Be none).run E.P w= .ok v w∧dc g sl v:=by
 unfold zJ at h;split at h
 ·rename_i n;obtain⟨hb,h1⟩:=bh h;obtain⟨l,t1,h2,h3⟩:=AM.ah h1;obtain⟨hh,t2,h4,h5⟩:=AM.ah h3;obtain⟨Np,h6⟩:=lH h5;obtain⟨rfl,rfl⟩:=ai h6;obtain⟨rfl,k1⟩:=xK h2;obtain⟨rfl,k2⟩:=sN h4;refine⟨rfl,fun{g w u Ey Be} hu KV Ju=> ?_⟩;obtain⟨A,c,e',hc,_⟩:=id hu
  injection e' with e'
  subst e';obtain⟨_,_,hr⟩:=SX hu Np;refine⟨_, ?_,⟨rfl,hr⟩⟩
  have Fl:=yp (P:=E.P) (w:=w) (isSlice:=true) (lo:=Ey) (hi:=Be) Np hc (by
   rcases k1 with⟨rfl,rfl⟩|⟨k,rfl⟩
   ·rcases KV with⟨_,rfl⟩|⟨v',u,e,_⟩
    ·exact .inl ⟨rfl,rfl⟩
    ·cases e
   ·rcases KV with⟨e,rfl⟩|⟨v',u,e,rfl,hv⟩
    ·cases e
    ·injection e with e;subst e
     exact .inr ⟨k,by rw[gP hv]⟩) (by
   rcases k2 with⟨rfl,rfl⟩|⟨k,rfl⟩
   ·rcases Ju with⟨_,rfl⟩|⟨v',u,e,_⟩
    ·exact .inl ⟨rfl,rfl⟩
    ·cases e
   ·rcases Ju with⟨e,rfl⟩|⟨v',u,e,rfl,hv⟩
    ·cases e
    ·injection e with e;subst e
     exact .inr ⟨k,by rw[gP hv]⟩)
  have hn:=beq_eq hb
  have RA:(Go.sizeOf e).run E.P w= .ok n w:=by
   have:=mu.symm;unfold Env.sizeOf at this;simp only[aq8]at this;obtain⟨i,hi,Y9⟩:=this;subst Y9;simp[Go.sizeOf,typeInfo,hi]
  simp only[Instr.sliceAt,Instr.slice,Sem.run_bind,run_underlying ht,Result.andThen_ok,Fl,RA];simp[sliced,hn]
 ·cases h
theorem E6 {E:Env}{t:TypeId}{lo hi:Option Val}{c:Cell}{s s':St}{sl:Slot}(h:(Gy ((E.elem t).bind E.sizeOf) lo hi c).run s=some (sl,s'))(hf:E.fit t c=true):
  s'.env=s.env∧∀{B:Base} {g:Gh} {w:World} {u:Value} {Ey Be:Option Value},HRel B g s.hp w→bl g c u→((lo=none∧Ey=none)∨∃v' u,lo=some v'∧Ey=some u∧dT g v' u)→((hi=none∧Be=none)∨∃v' u,hi=some v'∧Be=some u∧dT g v' u)→
   ∃v g',(Instr.sliceAt t u Ey Be none).run E.P w= .ok v w∧Le g g'∧HRel B g' s'.hp w∧dc g' sl v:=by
 have Sq:∀{g g':Gh} {x:Option Val} {ux:Option Value},Le g g'→((x=none∧ux=none)∨∃v' u,x=some v'∧ux=some u∧dT g v' u)→((x=none∧ux=none)∨∃v' u,x=some v'∧ux=some u∧dT g' v' u):=
  fun l h=>h.imp id fun⟨v',u,a,b,c⟩=>⟨v',u,a,b,c.mono l⟩
 unfold Gy at h;split at h
 ·rename_i st;obtain⟨l,t1,h2,h3⟩:=AM.ah h;obtain⟨hh,t2,h4,h5⟩:=AM.ah h3;obtain⟨Np,h6⟩:=lH h5;obtain⟨rfl,rfl⟩:=ai h6;obtain⟨rfl,k1⟩:=xK h2;obtain⟨rfl,k2⟩:=sN h4;refine⟨rfl,fun{B g w u Ey Be} R hu KV Ju=> ?_⟩;obtain⟨sb,rfl,mZ⟩:=oe hu;subst mZ;rw[gw]at Np k2
  have ht:E.P.underlying t=some .string:=by
   unfold Env.fit at hf;split at hf
   ·assumption
   ·simp[Cell.isStr]at hf
   ·cases hf
  have Fl:=yp (P:=E.P) (w:=w) (isSlice:=false) (lo:=Ey) (hi:=Be) Np (aq2 _) (by
   rcases k1 with⟨rfl,rfl⟩|⟨k,rfl⟩
   ·rcases KV with⟨_,rfl⟩|⟨v',u,e,_⟩
    ·exact .inl ⟨rfl,rfl⟩
    ·cases e
   ·rcases KV with⟨e,rfl⟩|⟨v',u,e,rfl,hv⟩
    ·cases e
    ·injection e with e;subst e
     exact .inr ⟨k,by rw[gP hv]⟩) (by
   rcases k2 with⟨rfl,rfl⟩|⟨k,rfl⟩
   ·rcases Ju with⟨_,rfl⟩|⟨v',u,e,_⟩
    ·exact .inl ⟨rfl,rfl⟩
    ·cases e
   ·rcases Ju with⟨e,rfl⟩|⟨v',u,e,rfl,hv⟩
    ·cases e
    ·injection e with e;subst e
     exact .inr ⟨k,by rw[gP hv]⟩)
  refine⟨.string (sb.extract l.toNat hh.toNat),g, ?_,Le.refl g,R,by rw[AS];exact KF g _⟩;simp only[Instr.sliceAt,Instr.slice,Sem.run_bind,run_underlying ht,Result.andThen_ok,Fl];simp[Fl]
 ·rename_i τ xs
  have ht:∃e,E.P.underlying t=some (.slice e):=by
   unfold Env.fit at hf;split at hf
   ·simp[Cell.isStr]at hf
   ·exact⟨_,by assumption⟩
   ·cases hf
  obtain⟨e,ht⟩:=ht;obtain⟨rfl,hs⟩:=sX (E:=E) (t:=t) (e:=e) h (by simp[Env.elem,ht]) ht;refine⟨rfl,fun{B g w u Ey Be} R hu KV Ju=> ?_⟩;obtain⟨v,h1,h2⟩:=hs (w:=w) hu.2 KV Ju;exact⟨v,g,h1,Le.refl g,R,h2⟩
 ·rename_i id gen
  have ht:∃e,E.P.underlying t=some (.slice e):=by
   unfold Env.fit at hf;split at hf
   ·simp[Cell.isStr]at hf
   ·exact⟨_,by assumption⟩
   ·cases hf
  obtain⟨e,ht⟩:=ht;simp only[AM.run]at h;split at h
  ·rename_i g0 τ deep xs heq;obtain⟨hb,h'⟩:=bh h;obtain rfl:=beq_eq hb;simp only[AM.run]at h';obtain⟨rfl,hs⟩:=sX (E:=E) (t:=t) (e:=e) h' (by simp[Env.elem,ht]) ht;refine⟨rfl,fun{B g w u Ey Be} R hu KV Ju=> ?_⟩;obtain⟨g',l,R'⟩:=R.DO heq;have hP:Rc _ _ _ _:=R'.eG _ _ (aC _ _ _);rw[show g'.cv id g0=g.cv id g0 from l.le.cv _ _ (gB R heq),←hu.2.1]at hP;obtain⟨v,h1,h2⟩:=hs (w:=w) hP (Sq l.le KV) (Sq l.le Ju);exact⟨v,g',h1,l.le,R',h2⟩
  ·rename_i g0 τ xs heq;obtain⟨hb,h'⟩:=bh h;obtain rfl:=beq_eq hb;obtain⟨rfl,hs⟩:=sX (E:=E) (t:=t) (e:=e) h' (by simp[Env.elem,ht]) ht;refine⟨rfl,fun{B g w u Ey Be} R hu KV Ju=> ?_⟩;have hP:Rc _ _ _ _:=R.eG _ _ heq;rw[←hu.2.1]at hP;obtain⟨v,h1,h2⟩:=hs (w:=w) hP KV Ju;exact⟨v,g,h1,Le.refl g,R,h2⟩
  ·cases h
 ·cases h
theorem ER {E:Env}{t:TypeId}{hi:Option Val}{d id gen:Nat}{s s':St}{sl:Slot}(h:(GB d id gen ((E.elem t).bind E.sizeOf) hi).run s=some (sl,s'))(hf:E.fit t (.own id gen)=true):
  s'.env=s.env∧∀{B:Base} {g:Gh} {w:World} {u:Value} {Ey Be:Option Value},HRel B g s.hp w→bl g (.own id gen) u→Ey=none→((hi=none∧Be=none)∨∃v' u,hi=some v'∧Be=some u∧dT g v' u)→
   ∃v g',(Instr.sliceAt t u Ey Be none).run E.P w= .ok v w∧Le g g'∧HRel B g' s'.hp w∧dc g' sl v:=by
 have ht:∃e,E.P.underlying t=some (.slice e):=by
  unfold Env.fit at hf;split at hf
  ·simp[Cell.isStr]at hf
  ·exact⟨_,by assumption⟩
  ·cases hf
 obtain⟨e,ht⟩:=ht;simp only[GB,AM.run]at h;split at h
 ·rename_i g0 τ dp xs heq;obtain⟨hb,h1⟩:=bh h;simp only[ao3,at0]at hb;obtain⟨⟨b1,b2⟩,b3⟩:=hb;obtain rfl:=beq_eq b1
  have hd:d≠id:=fun e=>by subst e;rw[Nat.beq_refl]at b3;cases b3
  split at h1
  ·rename_i n mu;obtain⟨hn,h2⟩:=bh h1;obtain rfl:=beq_eq hn;obtain⟨hh,t1,h3,h4⟩:=AM.ah h2;obtain⟨rfl,k2⟩:=sN h3;obtain⟨Np,h5⟩:=lH h4;obtain⟨gd,t2,h6,h7⟩:=AM.ah h5;obtain⟨rfl,_⟩:=zl h6;simp only[AM.run,ar8,as9]at h7;obtain⟨rfl,rfl⟩:=h7;refine⟨rfl,fun{B g w u Ey Be} R hu KV Ju=> ?_⟩;subst KV;have YV:=zo R h6;subst YV;have Qs:=Np;simp only[bounds,ao3,ao1]at Qs;have kX:=hu.2.1;have RA:(Go.sizeOf e).run E.P w= .ok τ.size w:=run_sizeOf (by simpa[Env.elem,ht]using mu) w
   have aj6:(hi=none∧Be=none∧hh=(xs.length:Int))∨(∃k,Be=some (.int k hh)):=by
    rcases k2 with⟨rfl,rfl⟩|⟨k,rfl⟩
    ·rcases Ju with⟨_,rfl⟩|⟨v',u,e,_⟩
     ·exact .inl ⟨rfl,rfl,rfl⟩
     ·cases e
    ·rcases Ju with⟨e,rfl⟩|⟨v',u,e,rfl,hv⟩
     ·cases e
     ·injection e with e;subst e
      exact .inr ⟨k,by rw[gP hv]⟩
   have Fl:=fun cap (hc:xs.length≤cap)=>yp (P:=E.P) (w:=w) (isSlice:=true) (cap:=cap) (lo:=none) (hi:=Be) Np hc (.inl ⟨rfl,rfl⟩) (by
    rcases aj6 with⟨_,a,b⟩|⟨k,a⟩
    ·exact .inl ⟨a,b⟩
    ·exact .inr ⟨k,a⟩)
   rcases R.eG _ _ heq with⟨o1,o2⟩|⟨b,cap,arr,ty,o1,o2,o3,o4,o5,o6,o7⟩
   ·subst o2;rw[o1]at kX
    have h0:hh=0:=by simp at Qs;omega
    subst h0;obtain⟨l,R'⟩:=R.named (id:=d) (u:= .slice none 0 0) (o':= .own (g.top d) τ true []) rfl (.inl ⟨by simp[Gh.name],rfl⟩)
    have R2:HRel B (g.name d (g.top d) (.slice none 0 0)) ((id, .dead g0)::(d, .own (g.top d) τ true (List.take (Int.toNat 0) ([]:List τ.den)))::t2.hp) w:=by
     refine HRel.put (o:= .own g0 τ dp []) R' ?_ rfl trivial;rw[ay _ _ hd];exact heq
    refine⟨.slice none 0 0,_, ?_,l.le,R2,⟨by simp[Gh.name],by simp[Gh.name],rfl⟩⟩;have:=Fl 0 (aq2 _);simp only[Instr.sliceAt,Instr.slice,Sem.run_bind,run_underlying ht,Result.andThen_ok,kX,ao2]at this⊢;simp only[this,RA,Result.andThen_ok];simp[sliced]
   ·rw[o1]at kX;unfold dE at o7;rw[b2]at o7;simp only[aq3,ao7,ar9,at3]at o7
    have hlen:(xs.take hh.toNat).length=hh.toNat:=by simp;omega
    let g':Gh:={g with top:=fun i=>if i=d then g.top d+1 else g.top i,cv:=fun i k=>if i=d∧k=g.top d then .slice (some ⟨b,0,none⟩) hh.toNat cap else g.cv i k,dn:=fun x=>if x=b then some (d+1)else g.dn x}
    have hle:Le g g':=by
     refine⟨fun _ _ h=>h,fun j=> ?_,fun j k hk=> ?_⟩
     ·show g.top j≤if j=d then g.top d+1 else g.top j
      split
      ·rename_i e;subst e;omega
      ·exact aq2 _
     ·show(if j=d∧k=g.top d then _ else g.cv j k)=g.cv j k;rw[ar1];rintro⟨rfl,rfl⟩;omega
    have lK:∀x,x≠b→g'.dn x=g.dn x:=fun x hx=>by simp[g',hx]
    have newObj:mF g' w d (.own (g.top d) τ true (xs.take hh.toNat)):=by
     refine .inr ⟨b,cap,arr,ty,by simp[g',hlen],by simp[g'],o3,o4,by omega,o6, ?_⟩;unfold dE;rw[b2];simp only[aq3,ao7,ar9,at3];intro i hi
     have qE:i<xs.length:=by rw[hlen]at hi;omega
     have e1:(xs.take hh.toNat)[i]=xs[i]:=(by simp);rw[e1];exact o7 i qE
    have R2:HRel B g' ((d, .own (g.top d) τ true (xs.take hh.toNat))::(id, .dead g0)::t2.hp) w:=by
     refine⟨fun j=> ?_,fun j oj hj=> ?_,fun x L hx=> ?_,fun x L hx=> ?_,fun x hx=> ?_,R.ji,fun x hx hl hi=> ?_,R.size,R.os,R.tape,R.output,R.fix⟩
     ·show(if j=d then g.top d+1 else g.top j)=_
      by_cases e2:d=j
      ·subst e2;rw[aC,as0 rfl];rfl
      ·rw[ay _ _ e2,ar1 (Ne.symm e2)]
       by_cases e1:id=j
       ·subst e1;rw[aC,R.top id,heq];rfl
       ·rw[ay _ _ e1];exact R.top j
     ·by_cases e2:d=j
      ·subst e2;rw[aC]at hj;injection hj with hj;subst hj;exact newObj
      ·rw[ay _ _ e2]at hj
       by_cases e1:id=j
       ·subst e1;rw[aC]at hj;injection hj with hj;subst hj;trivial
       ·rw[ay _ _ e1]at hj;refine(R.eG j oj hj).tr hle (fun x hx=> ?_) rfl (gB R hj)
        have:x≠b:=fun e=>by subst e;rw[o2]at hx;simp at hx;exact e1 hx
        exact⟨(lK x this).trans hx,rfl,rfl⟩
     ·obtain⟨a1,a2,a3⟩:=R.aK x L hx
      have:x≠b:=fun e=>by subst e;rw[o2]at a1;cases a1
      exact⟨(lK x this).trans a1,a2,a3⟩
     ·obtain⟨a1,a2⟩:=R.dU x L hx;refine⟨?_,a2⟩
      by_cases e:x=b
      ·subst e;simp[g']
      ·rw[lK x e];exact a1
     ·by_cases e:x=b
      ·subst e;exact R.dR x (by rw[o2];simp)
      ·rw[lK x e]at hx;exact R.dR x hx
     ·obtain⟨f1,f2,f3⟩:=R.frame x hx hl hi
      have:x≠b:=fun e=>by subst e;rw[o2]at f1;cases f1
      exact⟨(lK x this).trans f1,f2,f3⟩
    have R3:HRel B g' ((id, .dead g0)::(d, .own (g.top d) τ true (xs.take hh.toNat))::t2.hp) w:=R2.Tt fun i=>by
     by_cases e1:id=i
     ·subst e1;rw[aC,ay _ _ hd,aC]
     ·by_cases e2:d=i
      ·subst e2;rw[aC,ay _ _ e1,aC]
      ·rw[ay _ _ e1,ay _ _ e2,ay _ _ e2,ay _ _ e1]
    refine⟨.slice (some ⟨b,0,none⟩) hh.toNat cap,g', ?_,hle,R3,⟨by simp[g'],by simp[g'],rfl⟩⟩;have:=Fl cap o5;simp only[Instr.sliceAt,Instr.slice,Sem.run_bind,run_underlying ht,Result.andThen_ok,kX]at this⊢;simp only[this,RA,Result.andThen_ok];simp[sliced,zF]
  ·cases h1
 ·cases h
theorem HI {E:Env}{t:TypeId}{x:Operand}{lo hi:Option Operand}{s s':St}{sl:Slot}{d:Nat}(h:(dW E d (.slice t x lo hi none)).run s=some (sl,s')):Yld E (.slice t x lo hi none) s sl s':=by
 obtain⟨v,t1,h1,h2⟩:=AM.ah h;obtain⟨c,t2,h3,h4⟩:=AM.ah h2;obtain⟨ZG,t3,h5,h6⟩:=AM.ah h4;obtain⟨qE,t4,h7,h8⟩:=AM.ah h6;obtain⟨hf,h9⟩:=bh h8;obtain⟨rfl,r1⟩:=cB h1;obtain⟨rfl,rfl⟩:=tH h3;obtain⟨rfl,r2⟩:=Dq h5;obtain⟨rfl,r3⟩:=Dq h7
 obtain⟨he,hs⟩:s'.env=_∧∀{B:Base} {g:Gh} {w:World} {u:Value} {Ey Be:Option Value},HRel B g _ w→bl g c u→((ZG=none∧Ey=none)∨∃v' u,ZG=some v'∧Ey=some u∧dT g v' u)→((qE=none∧Be=none)∨∃v' u,qE=some v'∧Be=some u∧dT g v' u)→
   ∃v g',(Instr.sliceAt t u Ey Be none).run E.P w= .ok v w∧Le g g'∧HRel B g' s'.hp w∧dc g' sl v:=by
  split at h9
  ·obtain⟨a,b⟩:=ER h9 hf;refine⟨a,fun{B g w u Ey Be} R hu KV Ju=>b R hu ?_ Ju⟩
   rcases KV with⟨_,e⟩|⟨v',u,e,_⟩
   ·exact e
   ·cases e
  ·exact E6 h9 hf
 refine⟨he,fun o ho B g a w R V=> ?_⟩;obtain⟨v,g',k1,k2,k3,k4⟩:=hs R (r1 V) (r2 V) (r3 V);refine⟨v,w,g', ?_,k2,k3,k4⟩;unfold execOp;rw[ho]
 apply db
 exact k1
theorem xP:∀(ns:List Int)(s:ByteArray),bytesOf (ns.foldl (fun r n=>r.push (UInt8.ofNat n.toNat)) s)=bytesOf s++ns.map byte
 |[],s=>by simp
 |n::ns,s=>by
  rw[List.foldl_cons,xP ns]
  have:bytesOf (s.push (UInt8.ofNat n.toNat))=bytesOf s++[byte n]:=by
   unfold bytesOf byte;rw[ByteArray.data_push];simp
  rw[this];simp
theorem K2 {P:Program}{w:World}{b o:Nat}{xs:List Int}{cap:Nat}(h:∀i (hi:i<xs.length),w.cell? ⟨b,o+i,none⟩=some (.int .u8 xs[i])):
  ∃st,(Conv.bytesToString (.slice (some ⟨b,o,none⟩) xs.length cap)).run P w= .ok (.string st) w∧bytesOf st=xs.map byte:=by
 have hl:=run_loadCells_list (P:=P) w ⟨b,o,none⟩ (xs.map (Value.int .u8)) (fun j v hj=>by
  rw[List.getElem?_map]at hj;simp only[aq8]at hj;obtain⟨x,hx,rfl⟩:=hj;obtain⟨hj,rfl⟩:=List.getElem?_eq_some_iff.1 hx;rw[Addr.add_lit]
  exact h j hj)
 rw[List.length_map]at hl;refine⟨_,run_bytesToString w ⟨b,o,none⟩ xs.length cap xs (by simpa using hl), ?_⟩;rw[xP];simp[bytesOf]
theorem FI {r:Rd}{w:World}{xs:List Int}{b o:Nat}{arr:Array Value}{ty:TypeId}{fr:Nat×Nat}(ha:w.heap[b]?=some (.cells arr ty fr))(h:Els r (.int .u8) xs arr.toList o):
  ∀i (hi:i<xs.length),w.cell? ⟨b,o+i,none⟩=some (.int .u8 xs[i]):=by
 intro i hi;have h1:_=_:=h i hi
 have:=iK ha (o:=o+i) 1 0 (.int .u8 xs[i]) (by
  have h1:List.take 1 (List.drop (o+i*1) arr.toList)=[Value.int .u8 xs[i]]:=h1;rw[Nat.mul_one]at h1
  rw[h1];rfl)
 simpa using this
theorem Ig {P:Program}{g:Gh}{B:Base}{hp:List (Nat×Obj)}{w:World}(R:HRel B g hp w){xs:List Int}{u:Value}(h:Rc g.aK (.sl (.int .u8)) xs [u]):
  ∃st,(Conv.bytesToString u).run P w= .ok (.string st) w∧bytesOf st=xs.map byte:=by
 obtain⟨A,c,e,hc,he⟩:=h
 injection e with e
 subst e
 cases A with
 |none=>
  rcases he with he|⟨b,o,L,e,_⟩
  ·have he:xs=[]:=he;subst he;exact⟨.empty,by simp[Conv.bytesToString],rfl⟩
  ·cases e
 |some a=>
  rcases he with he|⟨b,o,L,e,hL,hi⟩
  ·have he:xs=[]:=he;subst he;have hl:=run_loadCells_list (P:=P) w a [] (fun j v hj=>by simp at hj);exact⟨_,run_bytesToString w a 0 c [] hl,rfl⟩
  ·injection e with e
   subst e;obtain⟨_,_,arr,ty,fr,k1,k2⟩:=R.aK _ _ hL;subst k2;exact K2 (FI k1 hi)
theorem ES {E:Env}{src dst:TypeId}{x:Operand}{s s':St}{sl:Slot}{d:Nat}(h:(dW E d (.convert src dst x)).run s=some (sl,s')):Yld E (.convert src dst x) s sl s':=by
 obtain⟨v,t1,h1,h2⟩:=AM.ah h;obtain⟨rfl,r1⟩:=cB h1;unfold convert at h2;split at h2
 ·rename_i k0 k hs hd;obtain⟨n,t2,h3,h4⟩:=AM.ah h2;obtain⟨⟨k',rfl⟩,rfl⟩:=kx h3;obtain⟨rfl,rfl⟩:=ai h4
  refine .still fun o ho B g a w R V=>⟨.int k (k.wrap n), ?_,uJ g _ _⟩
  unfold execOp;rw[ho]
  apply db
  rw[gP (r1 V)];simp[Go.convert,run_underlying hs,run_underlying hd,Conv.intToInt]
 ·rename_i e hs hd;split at h2
  ·rename_i c he
   have fin:∀{xs:List Int},sl=ws (xs.map byte)→s'=t1→(∀{B:Base} {g:Gh} {w:World} {u:Value},HRel B g t1.hp w→bl g c u→(∃A n c,u= .slice A n c)∧∃st,(Conv.bytesToString u).run E.P w= .ok (.string st) w∧bytesOf st=xs.map byte)→
     Yld E (.convert src dst x) t1 sl s':=by
    rintro xs rfl rfl hf
    refine .still fun o ho B g a w R V=> ?_
    obtain⟨⟨A,n,c,e⟩,st,k1,k2⟩:=hf R (r1 V);refine⟨.string st, ?_,by rw[←k2];exact KF g st⟩;unfold execOp;rw[ho]
    apply db
    rw[e]at k1⊢;rw[run_convert_bytes_string w src dst _ A n c hs he hd];exact k1
   split at h2
   ·obtain⟨rfl,rfl⟩:=ai h2
    refine fin rfl rfl fun{B g w u} R hu=>⟨?_,Ig R hu.2⟩
    obtain⟨_,A,c,e,_⟩:=hu
    injection e with e
    exact⟨A,_,c,e⟩
   ·obtain⟨rfl,rfl⟩:=ai h2
    refine fin (xs:=[]) rfl rfl fun{B g w u} R hu=> ?_
    have hu:_=_:=hu;subst hu;exact⟨⟨_,_,_,rfl⟩, .empty,by simp[Conv.bytesToString],rfl⟩
   ·rename_i id gen;simp only[AM.run]at h2;split at h2
    ·rename_i g0 deep xs heq;obtain⟨hb,h'⟩:=bh h2;obtain rfl:=beq_eq hb;obtain⟨rfl,rfl⟩:=ai h'
     refine fin rfl rfl fun{B g w u} R hu=> ?_
     rcases R.eG _ _ heq with⟨k1,k2⟩|⟨b,cap,arr,ty,k1,k2,k3,k4,k5,k6,k7⟩
     ·have k2:xs=[]:=k2;subst k2;rw[hu.2.1,k1];exact⟨⟨_,_,_,rfl⟩, .empty,by simp[Conv.bytesToString],rfl⟩
     ·rw[hu.2.1,k1];refine⟨⟨_,_,_,rfl⟩,K2 (FI (r:=g.aK) k4 ?_)⟩;unfold dE at k7;rw[ar1 (by simp[Ty.flat])]at k7;exact k7
    ·rename_i g0 xs heq;obtain⟨hb,h'⟩:=bh h2;obtain rfl:=beq_eq hb;obtain⟨rfl,rfl⟩:=ai h'
     refine fin rfl rfl fun{B g w u} R hu=> ?_
     have hP:Rc _ _ _ _:=R.eG _ _ heq;rw[←hu.2.1]at hP;refine⟨?_,Ig R hP⟩;obtain⟨A,c,e,_⟩:=hP
     injection e with e
     exact⟨A,_,c,e⟩
    ·cases h2
   ·cases h2
  ·cases h2
 ·rename_i e hs hd;split at h2
  ·rename_i l he;obtain⟨rfl,rfl⟩:=ai h2;refine⟨rfl,fun o ho B g a w R V=> ?_⟩;obtain⟨st,e1,mZ⟩:=oe (r1 V)
   have hl:List.length l=st.size:=by rw[mZ];exact gw st
   have hT:Turned w (Lib.bytesWorld w e st) w.heap.size:=by
    refine⟨fun x hx=> ?_,by rw[Lib.bytesWorld_size];omega,by rw[Lib.bytesWorld_size];omega,rfl,rfl,rfl⟩
    rcases Nat.lt_or_ge x w.heap.size with h|h
    ·exact Lib.bytesWorld_at_old w e st x h
    ·rw[Array.getElem?_eq_none (by rw[Lib.bytesWorld_size];omega),Array.getElem?_eq_none h]
   obtain⟨g',hle,hi,R'⟩:=R.S8 hT (Lib.bytesWorld_at_new w e st);refine⟨.slice (some ⟨w.heap.size,0,none⟩) st.size (grownCap w st.size 0 e),_,g', ?_,hle,R', ?_⟩
   ·unfold execOp;rw[ho]
    apply db
    rw[e1];exact Lib.run_convert_string_bytes w _ _ e st hs hd he
   ·refine⟨rfl,some ⟨w.heap.size,0,none⟩,_,by rw[←hl], ?_, .inr ⟨w.heap.size,0,_,rfl,hi,fun i qE=> ?_⟩⟩
    ·rw[hl];exact grownCap_ge w st.size 0 e
    ·have Y9:i<st.data.toList.length:=by
      have:i<st.size:=by rw[←hl];exact qE
      rw[Array.length_toList];exact this
     show List.take 1 (List.drop (0+i*1) (Lib.bytesCells w e st).toList)=[Value.int .u8 l[i]];rw[Nat.zero_add,Nat.mul_one];unfold Lib.bytesCells;rw[Array.toList_append,Array.toList_map,List.drop_append_of_le_length (by simp;omega)];have hlen:i<(st.data.toList.map fun b=>Value.int .u8 b.toNat).length:=(by simpa using Y9);rw[List.drop_eq_getElem_cons hlen];simp only[List.cons_append,List.take_succ_cons,List.take_zero,List.getElem_map]
     congr 2
     have:l[i]=(bytesOf st)[i]'(by rw[←mZ];exact qE):=(by simp only[mZ]);rw[this];simp[bytesOf]
  ·cases h2
 ·cases h2
theorem xq {E:Env}{t:TypeId}{x:Operand}{s s':St}{sl:Slot}{d:Nat}(h:(dW E d (.makeInterface t x)).run s=some (sl,s')):Yld E (.makeInterface t x) s sl s':=by
 obtain⟨v,t1,h1,h2⟩:=AM.ah h;obtain⟨rfl,r1⟩:=cB h1;split at h2
 ·cases h2
 ·rename_i u hu ht;obtain⟨rfl,rfl⟩:=ai h2
  refine .still fun o ho B g a w R V=>⟨.iface t (a.eval x), ?_, .inr ⟨rfl,_,_,rfl⟩⟩
  unfold execOp;rw[ho]
  apply db
  simp only[Instr.makeInterface,run_underlying ht,Sem.run_bind,Result.andThen_ok]
  cases u<;>first|rfl|(exact absurd rfl (hu _))
 ·cases h2
end Go.Abs
end
