/- What is here: a deterministic evaluator of the model's code over plain data (lists, numbers), by the help of which each Go function is told as a Lean function. Definitions alone. -/
import Derived.Calls
import Derived.Orders
import Derived.WalkKit
import Derived.Laws.Tables
import Derived.Laws.MakeOwn
import Derived.Laws.BytesString
import Derived.Laws.Slices
import Derived.Lib.ConvBytes
import Derived.Deep.Upon
set_option linter.unusedVariables false
set_option linter.unusedSimpArgs false
set_option maxRecDepth 100000
open Go.IntKind (i64 u64 u8)
section
namespace Go.Abs
theorem VW:∀{p:Prop}[inst:Decidable p],¬p→decide p=false:= @decide_eq_false
theorem VX.{u_1,u_2}:∀{α:Type u_1}{β:Type u_2}(a:α)(f:α→Option β),(some a).bind f=f a:= @Option.bind_some
theorem VY:∀{p:Prop}[inst:Decidable p],p→decide p=true:= @decide_eq_true
theorem VZ.{u}:∀{α:Type u}{as bs:List α},(as++bs).length=as.length+bs.length:= @List.length_append
theorem V0.{u}:∀{α:Type u}{a:α}{as:List α},(a::as).length=as.length+1:= @List.length_cons
theorem V4:∀{p:Prop}[inst:Decidable p],(decide p=true)=p:= @decide_eq_true_eq
theorem V5.{u}:∀{α:Type u},([]:List α).length=0:= @List.length_nil
theorem V6:∀(a b:Bool),((a&&b)=true)=(a=true∧b=true):= @Bool.and_eq_true
theorem V7.{u}:∀{α:Type u}(as bs cs:List α),as++bs++cs=as++(bs++cs):= @List.append_assoc
theorem V8:∀{p:Prop}{x:Decidable p},decide p=false↔¬p:= @decide_eq_false_iff_not
theorem V9:∀(b:Bool),(true&&b)=b:= @Bool.true_and
theorem Wa:∀(b:Bool),(b&&false)=false:= @Bool.and_false
theorem Wb.{u_1}:∀{α:Sort u_1}(a b:α),(bif false then a else b)=b:= @cond_false
theorem Wc:∀(b:Bool),(false&&b)=false:= @Bool.false_and
theorem Wd:∀(b:Bool),(false||b)=b:= @Bool.false_or
theorem We:∀(b:Bool),(b&&true)=b:= @Bool.and_true
theorem Wf:∀(b:Bool),(b||false)=b:= @Bool.or_false
theorem Wg.{u_1}:∀{α:Sort u_1}(a b:α),(bif true then a else b)=a:= @cond_true
theorem Wh:∀(b:Bool),(true||b)=true:= @Bool.true_or
theorem Wi:∀(b:Bool),(b||true)=true:= @Bool.or_true
theorem Wj.{u_1}:∀{α:Type u_1}(y:α){a:α}{l:List α},a∈l→a∈y::l:= @List.mem_cons_of_mem
theorem Wk.{u_1}:∀{α:Type u_1}{a:α}{l:List α},a∈a::l:= @List.mem_cons_self
theorem Wl.{u_1}:∀{α:Type u_1}{l:List α}{i:Nat}(h:i<l.length),l[i]?=some l[i]:= @List.getElem?_eq_getElem
theorem Wm.{u_1}:∀{α:Type u_1}{l:List α}{i:Nat}{a:α},l.getD i a=l[i]?.getD a:= @List.getD_eq_getElem?_getD
theorem Wn.{u_1,u_2,u_3}:∀{α:Type u_1}{γ:Sort u_2}{β:Type u_3}(f:α→γ)(g:β→γ)(x:α),Sum.elim f g (Sum.inl x)=f x:= @Sum.elim_inl
theorem Wo:∀(b:Bool),(b&&b)=b:= @Bool.and_self
theorem Wp:∀(n:Nat),n≤n:= @Nat.le_refl
theorem Wq:(!true)=false:= @Bool.not_true
theorem Wr:∀{n m:Nat},n.ble m=true→n≤m:= @Nat.le_of_ble_eq_true
theorem Wt:(!false)=true:= @Bool.not_false
theorem Wu.{u_1}:∀{α:Type u_1}{a:α}{s t:List α},a∈s++t↔a∈s∨a∈t:= @List.mem_append
theorem Wv.{u}:∀{α:Type u}(as:List α),as++[]=as:= @List.append_nil
theorem Ww.{u_1,u_2}:∀{α:Type u_1}{b:α}{α_1:Type u_2}{x:Option α_1}{f:α_1→α},Option.map f x=some b↔∃a,x=some a∧f a=b:= @Option.map_eq_some_iff
theorem Wx.{u_1,u_2,u_3}:∀{α:Type u_1}{γ:Sort u_2}{β:Type u_3}(f:α→γ)(g:β→γ)(x:β),Sum.elim f g (Sum.inr x)=g x:= @Sum.elim_inr
theorem Wy.{u}:∀{α:Type u}{b:α}(as:List α){bs:List α},b∈bs→b∈as++bs:= @List.mem_append_right
theorem Wz.{u}:∀{c:Prop}{h:Decidable c},¬c→∀{α:Sort u}{t e:α},(if c then t else e)=e:= @if_neg
theorem WA.{u_1}:∀{α:Type u_1}{i:Nat}{l:List α},(List.take i l).length=Min.min i l.length:= @List.length_take
theorem WC.{u}:∀{α:Type u}{a:α}{as:List α}(bs:List α),a∈as→a∈as++bs:= @List.mem_append_left
theorem WD:∀{n m k:Nat},n<m→m≤k→n<k:= @Nat.lt_of_lt_of_le
theorem WE.{u_1}:∀{α:Type u_1}{b:α}{l:List α}{a:α},a∈b::l↔a=b∨a∈l:= @List.mem_cons
theorem WG:∀(b:Bool),(!!b)=b:= @Bool.not_not
theorem WH:∀(a b:Bool),((a||b)=true)=(a=true∨b=true):= @Bool.or_eq_true
theorem WI.{u}:∀{α:Type u}(val val_1:α),(some val=some val_1)=(val=val_1):= @Option.some.injEq
theorem WJ:(false=true)=False:= @Bool.false_eq_true
theorem WK.{u}:∀{c:Prop}{h:Decidable c},c→∀{α:Sort u}{t e:α},(if c then t else e)=t:= @if_pos
theorem WL.{u_1}:∀{α:Type u_1}{l:List α},l.length=0→l=[]:= @List.eq_nil_of_length_eq_zero
theorem WM.{u_1}:∀{α:Type u_1},([]:List α).Nodup:= @List.nodup_nil
theorem WN.{u_1}:∀{α:Type u_1}{i:Nat}{l:List α},(List.drop i l).length=l.length - i:= @List.length_drop
theorem WO.{u_1}:∀{α:Type u_1}{l:List α}{n:Nat}(h:n<l.length),l[n]∈l:= @List.getElem_mem
theorem WQ:∀(n:Nat),0≤n:= @Nat.zero_le
theorem WR:∀{x y:Bool},(x&&y)=false↔x=false∨y=false:= @Bool.and_eq_false_iff
theorem WT.{u_1,u_2}:∀{α:Type u_1}{b:α}{α_1:Type u_2}{x:Option α_1}{f:α_1→Option α},x.bind f=some b↔∃a,x=some a∧f a=some b:= @Option.bind_eq_some_iff
theorem WU.{u,v}:∀{α:Type u}{β:Type v}(fst:α)(snd:β)(fst_1:α)(snd_1:β),((fst,snd)=(fst_1,snd_1))=(fst=fst_1∧snd=snd_1):= @Prod.mk.injEq
theorem WV:∀(b:Bool),((!b)=true)=(b=false):= @Bool.not_eq_true'
theorem WW.{u}:∀{α:Type u}{a:α},[a].length=1:= @List.length_singleton
theorem WX.{u,v}:∀{α:Type u}{β:Type v}{x:α}{xs:List α}{f:α→List β},List.flatMap f (x::xs)=f x++List.flatMap f xs:= @List.flatMap_cons
theorem WY.{u_1}:∀{α:Sort u_1}{x:Decidable False}(t e:α),(if False then t else e)=e:= @if_false
abbrev LI:=List Int
end Go.Abs
namespace Go.Abs
inductive Ty where
 |int (k:IntKind)|bool|str|sl (e:Ty)|un|pr (a b:Ty)|cl
 deriving DecidableEq
@[reducible] def Ty.den:Ty→Type
 | .int _=>Int
 | .bool=>Bool
 | .str=>List Int
 | .sl e=>List e.den
 | .un=>Unit
 | .pr a b=>a.den×b.den
 | .cl=>List Int
def Ty.N5:(τ:Ty)→τ.den
 | .int _=>(0:Int)
 | .bool=>false
 | .str=>([]:List Int)
 | .sl _=>[]
 | .un=>()
 | .pr a b=>(a.N5,b.N5)
 | .cl=>([]:List Int)
def Ty.size:Ty→Nat
 | .un=>0
 | .pr a b=>a.size+b.size
 |_=>1
def Ty.flat:Ty→Bool
 | .sl _=>false
 | .cl=>false
 | .pr a b=>a.flat&&b.flat
 |_=>true
def Ty.one:Ty→Bool
 | .un=>false
 | .pr _ _=>false
 |_=>true
inductive Cell where
 |v (τ:Ty) (x:τ.den)
 |nil
 |own (id gen:Nat)
 |ptr (id gen off:Nat)
 |np
 |nf
 |fn (f:FuncId) (gp:List (Nat×Nat))
 |err (isNil:Bool)
inductive Val where
 |one (c:Cell)
 |agg (cs:List Cell)
inductive Slot where
 |val (v:Val)
 |vi (vs:List Val)
 |ea (src:Cell) (i:Int) (off sz:Nat)
 |fa (xs:List Int) (off:Nat)
 |ga (g:Nat)
 |un
 |sk
inductive Obj where
 |box (gen:Nat) (r:Nat×List Cell)
 |own (gen:Nat) (τ:Ty) (deep:Bool) (xs:List τ.den)
 |cf (gen:Nat) (τ:Ty) (xs:List τ.den)
 |Pb (gen:Nat) (xs:List Int)
 |dead (gen:Nat)
 |gj (gen:Nat) (r:Nat×List Cell)
 |hole (gen:Nat) (τ:Ty) (xs:List τ.den) (i:Int) (off d gd:Nat)
 |mp (gen:Nat) (τ:Ty) (xs:List (Int×τ.den))
 |nR (gen:Nat) (xs:List Int) (a ag:Nat) (id bg off:Nat)
def Obj.gen:Obj→Nat
 | .box g _| .own g _ _ _| .cf g _ _| .Pb g _| .dead g| .gj g _| .nR g _ _ _ _ _ _| .hole g _ _ _ _ _ _| .mp g _ _=>g
structure St where
 env:List (Nat×Slot)
 hp:List (Nat×Obj)
def look {β:Type}:List (Nat×β)→Nat→Option β
 |[],_=>none
 |(m,b)::r,n=>bif Nat.beq m n then some b else look r n
inductive AM (α:Type):Type where
 |ret (a:α)
 |br (b:Bool) (t e:AM α)
 |fail
 |rJ (t:Nat) (k:Slot→AM α)
 |wM (t:Nat) (s:Slot) (k:AM α)
 |jg (id:Nat) (k:Option Obj→AM α)
 |jG (id:Nat) (o:Obj) (k:AM α)
 |opt (c:Ty) (x:Option c.den) (k:c.den→AM α)
def AM.bind {α β:Type}:AM α→(α→AM β)→AM β
 | .ret a,f=>f a
 | .br b t e,f=> .br b (t.bind f) (e.bind f)
 | .fail,_=> .fail
 | .rJ t k,f=> .rJ t fun s=>(k s).bind f
 | .wM t s k,f=> .wM t s (k.bind f)
 | .jg i k,f=> .jg i fun o=>(k o).bind f
 | .jG i o k,f=> .jG i o (k.bind f)
 | .opt c x k,f=> .opt c x fun d=>(k d).bind f
instance:Monad AM where
 pure:=AM.ret
 bind:=AM.bind
def AM.run {α:Type}:AM α→St→Option (α×St)
 | .ret a,s=>some (a,s)
 | .br b t e,s=>bif b then t.run s else e.run s
 | .fail,_=>none
 | .rJ t k,s=>match look s.env t with
  |some x=>(k x).run s
  |none=>none
 | .wM t x k,s=>k.run {s with env:=(t,x)::s.env}
 | .jg i k,s=>(k (look s.hp i)).run s
 | .jG i o k,s=>k.run {s with hp:=(i,o)::s.hp}
 | .opt _ x k,s=>match x with
  |some d=>(k d).run s
  |none=>none
@[irreducible] def brk {ρ:Type}(b:Bool)(t e:Option ρ):Option ρ:=bif b then t else e
theorem dF {ρ:Type}(b:Bool)(t e:Option ρ):brk b t e=bif b then t else e:=by unfold brk;rfl
def AM.exec {α ρ:Type}:AM α→St→(α→St→Option ρ)→Option ρ
 | .ret a,s,K=>K a s
 | .br b t e,s,K=>brk b (t.exec s K) (e.exec s K)
 | .fail,_,_=>none
 | .rJ t k,s,K=>match look s.env t with
  |some x=>(k x).exec s K
  |none=>none
 | .wM t x k,s,K=>k.exec {s with env:=(t,x)::s.env} K
 | .jg i k,s,K=>(k (look s.hp i)).exec s K
 | .jG i o k,s,K=>k.exec {s with hp:=(i,o)::s.hp} K
 | .opt _ x k,s,K=>x.bind fun d=>(k d).exec s K
theorem AM.Ju {α ρ:Type}(m:AM α):∀(s:St)(K:α→St→Option ρ),m.exec s K=(m.run s).bind fun p=>K p.1 p.2:=by
 induction m with
 |ret a=>intro s K;rfl
 |br b t e KF KR=>intro s K;cases b<;>simp[exec,run,KF,KR,dF]
 |fail=>intro s K;rfl
 |rJ t k ih=>intro s K;simp only[exec,run];cases look s.env t<;>simp[ih]
 |wM t x k ih=>intro s K;simp[exec,run,ih]
 |jg i k ih=>intro s K;simp[exec,run,ih]
 |jG i o k ih=>intro s K;simp[exec,run,ih]
 |opt c x k ih=>intro s K;cases x<;>simp[exec,run,ih]
abbrev PT:=Nat×List (Nat×Nat×Nat)
def A2:List (Nat×Nat×Nat)→Nat→Nat→Nat→Bool
 |[],_,_,_=>false
 |t::r,a,b,c=>(Nat.beq t.1 a&&Nat.beq t.2.1 b&&Nat.beq t.2.2 c)||A2 r a b c
inductive Sp where
 |un
 |pr (a b:Sp)
 |cf (τ:Ty)
 |own (τ:Ty) (deep:Bool)
 |vg (τ:Ty) (deep:Bool)
 |ptr (whole:Bool) (ty:PT) (s:Sp)
 |vj (ok:List (Nat×Nat×Nat))
 |nR
 |err
 |np
 |slf (f m:Nat)
@[reducible] def Sp.ty:Sp→Ty
 | .un=> .un
 | .pr a b=> .pr a.ty b.ty
 | .cf τ=>τ
 | .own τ _=> .sl τ
 | .vg τ _=> .sl τ
 | .ptr _ _ s=>s.ty
 | .vj _=> .str
 | .nR=> .str
 | .err=> .bool
 | .np=> .un
 | .slf _ _=> .un
@[reducible] def Sp.size:Sp→Nat
 | .un=>0
 | .pr a b=>a.size+b.size
 | .nR=>2
 |_=>1
@[reducible] def Sp.o5:Sp→Ty
 | .pr a b=> .pr a.o5 b.o5
 | .ptr _ _ s=>s.ty
 | .vg τ _=> .sl τ
 |_=> .un
inductive VSp where
 |one (s:Sp)
 |agg (s:Sp)
def wC:List VSp→Option (Nat×Nat)
 |[]=>none
 |[.one (.slf f m)]=>some (f,m)
 |_::r=>wC r
def At (as:List VSp):Option (Nat×List Nat):=match wC as with
 |some p=>some (p.1,(List.range as.length).drop p.2)
 |none=>none
@[reducible] def VSp.sp:VSp→Sp
 | .one s=>s
 | .agg s=>s
@[reducible] def bO:List VSp→Ty
 |[]=> .un
 |a::r=> .pr a.sp.ty (bO r)
@[reducible] def oW:List VSp→Ty
 |[]=> .un
 |a::r=> .pr a.sp.o5 (oW r)
inductive RSp where
 |val (v:VSp)
 |vi (vs:List VSp)
 |none
@[reducible] def RSp.ty:RSp→Ty
 | .val v=>v.sp.ty
 | .vi vs=>bO vs
 | .none=> .un
structure Sig where
 args:List VSp
 res:RSp
@[reducible] def Sig.dom (s:Sig):Ty:=bO s.args
@[reducible] def Sig.cod (s:Sig):Ty:= .pr s.res.ty (oW s.args)
structure Callee where
 sig:Sig
 F:sig.dom.den→Option sig.cod.den
end Go.Abs
end

section
namespace Go.Abs
structure Env where
 P:Program
 callee:FuncId→Option Callee
 cd:Nat→Option (List Cell)
 cl:TypeId
 nt:Nat
 jF:List Nat
 nest:Bool:=false
 trim:Bool:=false
 slf:Option (FuncId×List Nat):=none
def lim:Nat:=1099511627776
def E2:Nat:=100000
def fits (n:Nat):Bool:=Nat.ble n lim
namespace Env
variable(E:Env)
def EJ (f:TypeId→Option Ty):List Field→Option Ty
 |[]=>some .un
 |x::r=>(f x.type).bind fun a=>(EJ f r).map (.pr a)
def tyN:Nat→TypeId→Option Ty
 |0,_=>none
 |k+1,t=>match E.P.underlying t with
  |some (.int k)=>some (.int k)
  |some .bool=>some .bool
  |some .string=>some .str
  |some (.slice e)=>(tyN k e).map .sl
  |some (.struct fs)=>EJ (tyN k) fs.toList
  |some (.pointer _)=>bif Nat.beq t E.cl then some .cl else none
  |_=>none
def ty (t:TypeId):AM Ty:=match E.tyN 6 t with
 |some τ=> .ret τ
 |none=> .fail
def isAgg (t:TypeId):Option Bool:=match E.P.underlying t with
 |some (.struct _)|some (.array _ _)=>some true
 |some _=>some false
 |none=>none
def sizeOf (t:TypeId):Option Nat:=(E.P.info? t).map (·.size)
def field (s:TypeId)(i:Nat):Option Field:=match E.P.underlying s with
 |some (.struct fs)=>fs[i]?
 |_=>none
def elem (t:TypeId):Option TypeId:=match E.P.underlying t with
 |some (.slice e)=>some e
 |_=>none
def E8 (e:TypeId)(τ:Ty):Bool:=match E.P.info? e with
 |some i=>Nat.beq i.size τ.size&&Nat.ble i.bytes 128&&Nat.ble τ.size 64&&match i.zero with
  |some z=>Nat.beq z.cells.toList.length τ.size
  |none=>false
 |none=>false
def sized (t:TypeId):Bool:=match E.P.underlying t with
 |some (.struct fs)=>fs.toList.all fun f=>(E.P.info? f.type).isSome
 |_=>false
end Env
def fk {α:Type}:Option α→AM α
 |some a=> .ret a
 |none=> .fail
def bytesOf (s:ByteArray):List Int:=s.data.toList.map fun b=>(b.toNat:Int)
def xh:Value→Option Cell
 | .int k n=>some (.v (.int k) n)
 | .bool b=>some (.v .bool b)
 | .string s=>some (.v .str (bytesOf s))
 | .slice none 0 0=>some .nil
 | .pointer none=>some .np
 | .nilIface=>some (.err true)
 | .nilFunc=>some .nf
 |_=>none
def oQ:List Value→Option (List Cell)
 |[]=>some []
 |x::r=>(xh x).bind fun c=>(oQ r).map (c:: ·)
def sY:Value→Option Val
 | .agg cs=>(oQ cs.toList).map .agg
 |x=>(xh x).map .one
def Env.zeroCells (E:Env)(t:TypeId):Option (List Cell):=((E.P.info? t).bind (·.zero)).bind fun z=>oQ z.cells.toList
def ev:Operand→AM Slot
 | .tmp t=> .rJ t .ret
 | .const x=>match sY x with
  |some c=> .ret (.val c)
  |none=> .fail
 | .global g=> .ret (.ga g)
 | .func f=> .ret (.val (.one (.fn f [])))
def E7:Slot→AM Val
 | .val v=> .ret v
 |_=> .fail
def evV (x:Operand):AM Val:=(ev x).bind E7
def Val.cells:Val→List Cell
 | .one c=>[c]
 | .agg cs=>cs
def xZ (agg:Bool)(cs:List Cell):AM Val:=
 bif agg then .ret (.agg cs)else match cs with
  |[c]=> .ret (.one c)
  |_=> .fail
def asInt:Val→AM Int
 | .one (.v (.int _) n)=> .ret n
 |_=> .fail
def asBool:Val→AM Bool
 | .one (.v .bool b)=> .ret b
 |_=> .fail
def rQ {τ τ':Ty}(x:List τ.den):AM (List τ'.den):=if h:τ=τ' then .ret (h ▸ x)else .fail
def chk (b:Bool):AM Unit:= .br b (.ret ()) .fail
def Ii:Nat→Cell→AM (List Int)
 |_, .np=> .ret []
 |_, .v .cl xs=> .ret xs
 |k+1, .ptr id gen 0=> .jg id fun
  |some (.box g (_,[.v (.int .i64) x,c]))=>bif Nat.beq g gen&&Nat.blt id E2 then(Ii k c).bind fun xs=> .jg id fun
    |some (.box _ _)=> .jG id (.Pb g (x::xs)) (.ret (x::xs:List Int))
    |_=> .fail
   else .fail
  |some (.Pb g xs)=>bif Nat.beq g gen then .ret xs else .fail
  |_=> .fail
 |_,_=> .fail
def datum:(τ:Ty)→Cell→AM τ.den
 | .int k, .v (.int k') x=>if k=k' then .ret x else .fail
 | .bool, .v .bool b=> .ret b
 | .str, .v .str l=> .ret l
 | .sl e, .v (.sl e') xs=>rQ (τ':=e) xs
 | .sl _, .nil=> .ret []
 | .sl e, .own id gen=> .jg id fun
  |some (.own g τ _ xs)=>bif Nat.beq g gen then .jG id (.cf g τ xs) (rQ (τ':=e) xs)else .fail
  |some (.cf g _ xs)=>bif Nat.beq g gen then rQ (τ':=e) xs else .fail
  |_=> .fail
 | .cl,c=>Ii 4 c
 |_,_=> .fail
def E5:(τ:Ty)→Cell→AM τ.den
 | .sl e, .own id gen=> .jg id fun
  |some (.own g τ _ xs)=>bif Nat.beq g gen&&τ.flat then .jG id (.dead g) (rQ (τ':=e) xs)else .fail
  |_=> .fail
 | .sl e, .nil=>bif e.flat then .ret []else .fail
 | .int k, .v (.int k') x=>if k=k' then .ret x else .fail
 | .bool, .v .bool b=> .ret b
 | .str, .v .str l=> .ret l
 |_,_=> .fail
def tB:List Cell→Bool
 |[]=>true
 | .v (.sl _) _::_=>false
 | .v .cl _::_=>false
 | .ptr _ _ _::_=>false
 |_::r=>tB r
def pack (mv:Bool):(τ:Ty)→List Cell→AM (τ.den×List Cell)
 | .un,cs=> .ret ((),cs)
 | .pr a b,cs=>(pack mv a cs).bind fun p=>(pack mv b p.2).bind fun q=> .ret ((p.1,q.1),q.2)
 |τ,c::cs=>(bif mv then E5 τ c else datum τ c).bind fun x=> .ret (x,cs)
 |_,_=> .fail
def unpack:(τ:Ty)→τ.den→List Cell
 | .un,_=>[]
 | .pr a b,x=>unpack a x.1++unpack b x.2
 |τ,x=>[.v τ x]
def dQ:(τ:Ty)→τ.den→Nat→Cell→Option τ.den
 | .pr a b,x,off,c=>bif Nat.blt off a.size then(dQ a x.1 off c).map fun y=>(y,x.2)else(dQ b x.2 (off - a.size) c).map fun y=>(x.1,y)
 | .int k,_,0, .v (.int k') y=>if k=k' then some y else none
 | .bool,_,0, .v .bool y=>some y
 | .str,_,0, .v .str y=>some y
 |_,_,_,_=>none
def iL (id:Nat):AM Nat:= .jg id fun
 |some (.gj _ _)=> .fail
 |some o=> .ret (o.gen+1)
 |none=> .ret 0
def AT (d:Nat)(ty:Nat)(cs:List Cell):AM Slot:=(iL d).bind fun g=> .jG d (.box g (ty,cs)) (.ret (.val (.one (.ptr d g 0))))
def AQ (d:Nat)(τ:Ty)(deep:Bool)(xs:List τ.den):AM Cell:=(iL d).bind fun g=> .jG d (.own g τ deep xs) (.ret (.own d g))
def Cu (cs:List Cell):Bool:=cs.any fun
 | .v (.sl _) _=>true
 | .v .cl _=>true
 |_=>false
def cut (off n:Nat)(cs:List Cell):List Cell:=(cs.drop off).take n
def at_ {τ:Ty}(xs:List τ.den)(i:Int):τ.den:=xs.getD i.toNat τ.N5
def NS:(τ:Ty)→τ.den→Nat→Option ((e:Ty)×List e.den)
 | .pr a b,x,off=>bif Nat.blt off a.size then NS a x.1 off else NS b x.2 (off - a.size)
 | .sl e,xs,0=>some ⟨e,xs⟩
 |_,_,_=>none
def Kh:(τ:Ty)→τ.den→Nat→(e:Ty)→List e.den→Option τ.den
 | .pr a b,x,off,e,ys=>bif Nat.blt off a.size then(Kh a x.1 off e ys).map fun y=>(y,x.2)else(Kh b x.2 (off - a.size) e ys).map fun y=>(x.1,y)
 | .sl e',_,0,e,ys=>if h:e=e' then some (h ▸ ys)else none
 |_,_,_,_,_=>none
def wu (id gen:Nat):AM Unit:= .ret ()
def xf:Cell→AM Unit
 | .own id gen=>wu id gen
 |_=> .ret ()
def JJ (E:Env)(ag:Bool)(_:Slot):AM Bool:= .ret false
def Ez (d:Nat)(_:Slot):AM Slot:= .fail
def s5 (E:Env)(n:Nat):Slot→AM (List Cell)
 | .val (.one (.ptr id gen off))=> .jg id fun
  |some (.box g (_,cs))=>bif Nat.beq g gen&&Nat.ble (off+n) cs.length then .ret (cut off n cs)else .fail
  |_=> .fail
 | .ea (.v (.sl τ) xs) i off sz=>bif Nat.beq sz τ.size&&Nat.ble (off+n) τ.size then .ret (cut off n (unpack τ (at_ xs i)))else .fail
 | .ea (.own id gen) i off sz=> .jg id fun
  |some (.cf g τ xs)=>bif Nat.beq g gen&&Nat.beq sz τ.size&&Nat.ble (off+n) τ.size then .ret (cut off n (unpack τ (at_ xs i)))else .fail
  |some (.own g τ deep xs)=>bif Nat.beq g gen&&Nat.beq sz τ.size&&Nat.ble (off+n) τ.size then
    let cs:=cut off n (unpack τ (at_ xs i))
    bif deep&&Cu cs then .jG id (.own g τ false xs) (.ret cs)else .ret cs
   else .fail
  |_=> .fail
 | .fa xs 0=>bif Nat.beq n 1 then .ret [.v (.int .i64) (xs.headD 0)]else .fail
 | .fa xs 1=>bif Nat.beq n 1 then .ret [.v .cl xs.tail]else .fail
 | .ga g=>bif Nat.beq n 1 then(fk ((E.cd g).bind fun|[c]=>some c|_=>none)).bind fun c=> .ret [c]else .fail
 |_=> .fail
def setCells (off:Nat)(new cs:List Cell):List Cell:=cs.take off++new++cs.drop (off+new.length)
def Kj (id gen:Nat)(τ:Ty)(deep:Bool)(i:Int)(x:τ.den):AM Unit:= .jg id fun
 |some (.own g τ' dp xs)=>bif Nat.beq g gen&&(dp==deep)then
   if h:τ=τ' then .jG id (.own g τ' dp (xs.set i.toNat (h ▸ x))) (.ret ())else .fail
  else .fail
 |_=> .fail
def xg (new:List Cell):Slot→AM Unit
 | .val (.one (.ptr id gen off))=> .jg id fun
  |some (.box g (ty,cs))=>bif Nat.beq g gen&&Nat.ble (off+new.length) cs.length then .jG id (.box g (ty,setCells off new cs)) (.ret ())else .fail
  |_=> .fail
 | .ea (.own id gen) i off sz=> .jg id fun
  |some (.own g τ deep xs)=>bif Nat.beq g gen&&Nat.beq sz τ.size then
    bif Nat.beq off 0&&Nat.beq new.length τ.size then
     (pack (deep&& !τ.flat) τ new).bind fun p=>Kj id gen τ deep i p.1
    else match new with
     |[c]=>match dQ τ (at_ xs i) off c with
      |some x=> .jG id (.own g τ deep (xs.set i.toNat x)) (.ret ())
      |none=> .fail
     |_=> .fail
   else .fail
  |_=> .fail
 |_=> .fail
def wb (b:Bool):Slot:= .val (.one (.v .bool b))
def wi (k:IntKind)(n:Int):Slot:= .val (.one (.v (.int k) n))
def ws (l:List Int):Slot:= .val (.one (.v .str l))
def gZ:List Cell→List Cell→Option Bool
 |[],[]=>some true
 | .v (.int k) x::a, .v (.int k') y::b=>if k=k' then(gZ a b).map (decide (x=y)&& ·)else none
 | .v .bool x::a, .v .bool y::b=>(gZ a b).map (decide (x=y)&& ·)
 | .v .str x::a, .v .str y::b=>(gZ a b).map (decide (x=y)&& ·)
 |_,_=>none
def intBits (op:BinOp)(k:IntKind)(x y:Int):Int:=
 match op with
 | .and=>k.wrap (BitVec.ofInt k.bits x&&&BitVec.ofInt k.bits y).toNat
 | .or=>k.wrap (BitVec.ofInt k.bits x|||BitVec.ofInt k.bits y).toNat
 |_=>k.wrap (BitVec.ofInt k.bits x^^^BitVec.ofInt k.bits y).toNat
def F7 (op:BinOp)(k k':IntKind)(x y:Int):AM Slot:=
 match op with
 | .shr=> .br (decide (0≤y)) (.ret (wi k (x.fdiv (2^min y.toNat k.bits)))) .fail
 | .shl=> .br (decide (0≤y)) (.ret (wi k (k.wrap (x*2^min y.toNat k.bits)))) .fail
 |_=>if k=k' then match op with
  | .add=> .ret (wi k (k.wrap (x+y)))
  | .sub=> .ret (wi k (k.wrap (x - y)))
  | .mul=> .ret (wi k (k.wrap (x*y)))
  | .quo=> .br (decide (y≠0)) (.ret (wi k (k.wrap (x.tdiv y)))) .fail
  | .rem=> .br (decide (y≠0)) (.ret (wi k (x.tmod y))) .fail
  | .and=> .ret (wi k (intBits .and k x y))
  | .or=> .ret (wi k (intBits .or k x y))
  | .xor=> .ret (wi k (intBits .xor k x y))
  | .eql=> .ret (wb (decide (x=y)))
  | .neq=> .ret (wb (!decide (x=y)))
  | .lss=> .ret (wb (decide (x<y)))
  | .leq=> .ret (wb (decide (x≤y)))
  | .gtr=> .ret (wb (decide (y<x)))
  | .geq=> .ret (wb (decide (y≤x)))
  |_=> .fail
  else .fail
def Du (op:BinOp)(x y:List Int):AM Slot:=
 match op with
 | .add=> .br (fits (x.length+y.length)) (.ret (ws (x++y))) .fail
 | .eql=> .ret (wb (decide (x=y)))
 | .neq=> .ret (wb (!decide (x=y)))
 |_=> .fail
def xt (op:BinOp)(b:Bool):AM Slot:=
 match op with
 | .eql=> .ret (wb b)
 | .neq=> .ret (wb !b)
 |_=> .fail
def jy (P:Program):List Field→List Cell→Nat→Bool
 |[],[],_=>true
 |f::r, .v τ _::cs,n=>Nat.beq f.offset n&&f.name != "_" &&(match P.underlying f.type,τ with
  |some (.int _), .int _=>true
  |some .bool, .bool=>true
  |some .string, .str=>true
  |_,_=>false)&&jy P r cs (n+1)
 |_,_,_=>false
def binOp (E:Env)(op:BinOp)(t:TypeId):Val→Val→AM Slot
 | .one (.v (.int k) x), .one (.v (.int k') y)=>F7 op k k' x y
 | .one (.v .str x), .one (.v .str y)=>Du op x y
 | .one (.v .bool x), .one (.v .bool y)=>match E.P.underlying t with
  |some .bool=>xt op (decide (x=y))
  |_=> .fail
 | .one (.v .cl xs), .one .np=>match E.P.underlying t with
  |some (.pointer _)=>xt op xs.isEmpty
  |_=> .fail
 | .agg a, .agg b=>match E.P.underlying t,gZ a b with
  |some (.struct fs),some r=>bif !E.P.stoodInHeld t&& !E.P.eqGuardType E.P.depth t&&jy E.P fs.toList a 0 then xt op r else .fail
  |_,_=> .fail
 |_,_=> .fail
def FZ (E:Env)(op:BinOp)(t:TypeId):Val→AM Slot
 | .one (.err b)=>match E.P.underlying t with
  |some (.interface _)=>xt op b
  |_=> .fail
 |_=> .fail
def yR:Cell→AM Nat
 | .v .str l=> .ret l.length
 | .v (.sl _) xs=> .ret xs.length
 | .nil=> .ret 0
 | .own id gen=> .jg id fun
  |some (.own g _ _ xs)=>bif Nat.beq g gen then .ret xs.length else .fail
  |some (.cf g _ xs)=>bif Nat.beq g gen then .ret xs.length else .fail
  |some (.nR g xs _ _ _ _ _)=>bif Nat.beq g gen then .ret xs.length else .fail
  |_=> .fail
 |_=> .fail
def source (e:Ty):Cell→AM (Bool×List e.den)
 | .nil=> .ret (true,[])
 | .v (.sl τ) xs=>(rQ (τ':=e) (τ:=τ) xs).bind fun xs=> .ret (e.flat,xs)
 | .v .str l=>match e,l with
  | .int .u8,l=> .ret (true,l)
  |_,_=> .fail
 | .own id gen=> .jg id fun
  |some (.own g τ deep xs)=>bif Nat.beq g gen then
    bif τ.flat then(rQ (τ':=e) xs).bind fun xs=> .ret (true,xs)
    else .jG id (bif deep then .dead g else .cf g τ xs) ((rQ (τ':=e) xs).bind fun xs=> .ret (deep,xs))
   else .fail
  |some (.cf g _ xs)=>bif Nat.beq g gen then(rQ (τ':=e) xs).bind fun xs=> .ret (e.flat,xs)else .fail
  |_=> .fail
 |_=> .fail
def target (e:Ty):Cell→AM (Bool×List e.den)
 | .nil=> .ret (true,[])
 | .own id gen=> .jg id fun
  |some (.own g _ deep xs)=>bif Nat.beq g gen then .jG id (.dead g) ((rQ (τ':=e) xs).bind fun xs=> .ret (deep,xs))else .fail
  |_=> .fail
 |_=> .fail
def append (d:Nat)(e:Ty)(s x:Cell):AM Slot:=
 (source e x).bind fun q=>(target e s).bind fun p=>
  .br (fits (p.2.length+q.2.length)) ((AQ d e (p.1&&q.1) (p.2++q.2)).bind fun c=> .ret (.val (.one c))) .fail
def Cell.isStr:Cell→Bool
 | .v .str _=>true
 |_=>false
def Env.fit (E:Env)(t:TypeId)(c:Cell):Bool:=match E.P.underlying t with
 |some .string=>c.isStr
 |some (.slice _)=> !c.isStr
 |_=>false
def Dq (lo:Option Val):AM Int:=match lo with
 |some v=>asInt v
 |none=> .ret 0
def Dr (n:Nat)(hi:Option Val):AM Int:=match hi with
 |some v=>asInt v
 |none=> .ret (n:Int)
def sub {α:Type}(xs:List α)(l h:Int):List α:=(xs.take h.toNat).drop l.toNat
def bounds (n:Nat)(l h:Int):Bool:=decide (0≤l)&&decide (l≤h)&&decide (h≤n)
def wx (sz:Option Nat)(τ:Ty)(xs:List τ.den)(lo hi:Option Val):AM Slot:=
 match sz with
 |some n=>bif Nat.beq n τ.size then
   (Dq lo).bind fun l=>(Dr xs.length hi).bind fun h=> .br (bounds xs.length l h) (.ret (.val (.one (.v (.sl τ) (sub xs l h))))) .fail
  else .fail
 |none=> .fail
def De (sz:Option Nat)(lo hi:Option Val):Cell→AM Slot
 | .v .str s=>(Dq lo).bind fun l=>(Dr s.length hi).bind fun h=> .br (bounds s.length l h) (.ret (ws (sub s l h))) .fail
 | .v (.sl τ) xs=>wx sz τ xs lo hi
 | .own id gen=> .jg id fun
  |some (.own g τ _ xs)=>bif Nat.beq g gen then .jG id (.cf g τ xs) (wx sz τ xs lo hi)else .fail
  |some (.cf g τ xs)=>bif Nat.beq g gen then wx sz τ xs lo hi else .fail
  |_=> .fail
 |_=> .fail
def G5 (d id gen:Nat)(sz:Option Nat)(hi:Option Val):AM Slot:= .fail
def indexAddr (sz:Nat)(x:Cell)(i:Int):AM Slot:=(yR x).bind fun n=> .br (decide (0≤i)&&decide (i<n)) (.ret (.ea x i 0 sz)) .fail
def nilCheck:Slot→AM Slot
 | .val (.one (.ptr id gen off))=> .ret (.val (.one (.ptr id gen off)))
 | .val (.one (.fn f gp))=> .ret (.val (.one (.fn f gp)))
 | .val (.one (.v .cl xs))=> .br (!xs.isEmpty) (.ret (.val (.one (.v .cl xs)))) .fail
 |_=> .fail
def fieldAddr (off:Nat):Slot→AM Slot
 | .val (.one (.ptr id gen o))=> .ret (.val (.one (.ptr id gen (o+off))))
 | .ea c i o sz=> .ret (.ea c i (o+off) sz)
 | .val (.one (.v .cl xs))=> .br (!xs.isEmpty) (.ret (.fa xs off)) .fail
 |_=> .fail
def fill (place:Nat→Option (Nat×Nat))(cells:List Cell):List (Nat×Val)→Option (List Cell)
 |[]=>some cells
 |(i,x)::r=>match place i with
  |some (off,size)=>bif Nat.beq x.cells.length size&&Nat.ble (off+size) cells.length then fill place (setCells off x.cells cells) r else none
  |none=>none
def yS:List (Nat×Operand)→AM (List (Nat×Val))
 |[]=> .ret []
 |(i,x)::r=>(evV x).bind fun c=>(yS r).bind fun cs=> .ret ((i,c)::cs)
def Kb (mv:Bool)(τ:Ty):Nat→List Cell→AM (List τ.den)
 |0,_=> .ret []
 |n+1,cs=>(pack mv τ (cs.take τ.size)).bind fun p=>(Kb mv τ n (cs.drop τ.size)).bind fun r=> .ret (p.1::r)
def wH:(τ:Ty)→List Cell→Option (τ.den×List Cell)
 | .un,cs=>some ((),cs)
 | .pr a b,cs=>(wH a cs).bind fun p=>(wH b p.2).bind fun q=>some ((p.1,q.1),q.2)
 | .int k, .v (.int k') x::cs=>if k=k' then some (x,cs)else none
 | .bool, .v .bool b::cs=>some (b,cs)
 | .str, .v .str l::cs=>some (l,cs)
 | .sl _, .nil::cs=>some ([],cs)
 | .cl, .np::cs=>some (([]:List Int),cs)
 |_,_=>none
def Ty.kv:Ty→Bool
 | .sl e=>e.flat
 | .cl=>false
 | .pr a b=>a.kv&&b.kv
 |_=>true
def byte (n:Int):Int:=((n.toNat % 256:Nat):Int)
def rep (n:Nat)(z:List Cell):List Cell:=match n with
 |0=>[]
 |n+1=>z++rep n z
abbrev Plc:=Option (Nat×Nat×Nat)
def Plc.on (p:Plc)(n:Nat):Plc:=match p with
 |some (id,g,o)=>some (id,g,o+n)
 |none=>none
def Plc.is (p:Plc)(id g o:Nat):Bool:=match p with
 |some (Ph,g',o')=>Nat.beq Ph id&&Nat.beq g' g&&Nat.beq o' o
 |none=>false
def BM:(s:Sp)→Plc→List Cell→AM (s.ty.den×List Cell)
 | .un,_,cs=> .ret ((),cs)
 | .pr a b,pl,cs=>(BM a pl cs).bind fun p=>(BM b (pl.on a.size) p.2).bind fun q=> .ret ((p.1,q.1),q.2)
 | .cf τ,_,c::cs=>(datum τ c).bind fun x=> .ret (x,cs)
 | .own τ _,_, .nil::cs=> .ret (([]:List τ.den),cs)
 | .own τ dp,_, .own id gen::cs=>(wu id gen).bind fun _=> .jg id fun
  |some (.own g _ deep xs)=>bif Nat.beq g gen&&(deep|| !dp||τ.flat)then .jG id (.dead g) ((rQ (τ':=τ) xs).bind fun xs=> .ret (xs,cs))else .fail
  |_=> .fail
 | .ptr wh ty s,_, .ptr id gen off::cs=> .jg id fun
  |some (.box g (bt,bs))=>bif Nat.beq g gen&&((!wh||(Nat.beq off 0&&Nat.beq s.size bs.length&&Nat.beq bt ty.1))&&(wh||A2 ty.2 bt off bs.length))&&Nat.ble (off+s.size) bs.length then
    .jG id (.gj g (bt,bs)) ((BM s (some (id,gen,off)) (cut off s.size bs)).bind fun p=> .ret (p.1,cs))else .fail
  |_=> .fail
 | .vj ok,_, .ptr id gen off::cs=> .jg id fun
  |some (.box g (bt,bs))=>bif Nat.beq g gen&&A2 ok bt off bs.length&&Nat.ble (off+2) bs.length then match cut off 2 bs with
    |[.np, .nil]=> .ret (([]:List Int),cs)
    |[.own a ag, .own Sy P5]=> .jg Sy fun
     |some (.nR g2 xs a' Qe bid bg KK)=>bif Nat.beq g2 P5&&Nat.beq a a'&&Nat.beq ag Qe&&(Nat.beq bid id&&Nat.beq bg gen&&Nat.beq KK off)then .jG Sy (.dead g2) (.ret ((xs:List Int),cs))else .fail
     |_=> .fail
    |_=> .fail
   else .fail
  |_=> .fail
 | .nR,_, .np:: .nil::cs=> .ret (([]:List Int),cs)
 | .nR,pl, .own a ag:: .own id gen::cs=> .jg id fun
  |some (.nR g xs a' Qe bid bg off)=>bif Nat.beq g gen&&Nat.beq a a'&&Nat.beq ag Qe&&pl.is bid bg off then .jG id (.dead g) (.ret ((xs:List Int),cs))else .fail
  |_=> .fail
 | .err,_, .err b::cs=> .ret (b,cs)
 | .np,_, .np::cs=> .ret ((),cs)
 | .slf _ _,_, .ptr _ _ off::cs=>bif Nat.beq off 0 then .ret ((),cs)else .fail
 |_,_,_=> .fail
def Nv (n:Nat)(xs:List Int):Plc→AM (List Cell)
 |some (id,bg,off)=>(iL n).bind fun g1=> .jG n (.dead g1) ((iL (n+1)).bind fun g2=> .jG (n+1) (.nR g2 xs n g1 id bg off) (.ret [.own n g1, .own (n+1) g2]))
 |none=> .fail
def xY:(s:Sp)→s.ty.den→Plc→List Cell→Nat→AM (List Cell×List Cell×Nat)
 | .un,_,_,old,n=> .ret ([],old,n)
 | .pr a b,x,pl,old,n=>(xY a x.1 pl old n).bind fun p=>(xY b x.2 (pl.on a.size) p.2.1 p.2.2).bind fun q=> .ret (p.1++q.1,q.2.1,q.2.2)
 | .cf τ,x,_,old,n=> .ret ([.v τ x],old.tail,n)
 | .own τ dp,xs,_,old,n=>(AQ n τ (dp||τ.flat) xs).bind fun c=> .ret ([c],old.tail,n+1)
 | .ptr _ _ s,x,_, .ptr id gen off::old,n=> .jg id fun
  |some (.gj g (bt,bs))=>bif Nat.beq g gen then(xY s x (some (id,gen,off)) (cut off s.size bs) (200000+64*id)).bind fun p=> .jG id (.box g (bt,setCells off p.1 bs)) (.ret ([.ptr id gen off],old,n))else .fail
  |_=> .fail
 | .nR,x,pl,old,n=>(Nv n x pl).bind fun cs=> .ret (cs,old.drop 2,n+2)
 | .err,b,_,old,n=> .ret ([.err b],old.tail,n)
 | .np,_,_,old,n=> .ret ([.np],old.tail,n)
 |_,_,_,_,_=> .fail
def Hm:(s:Sp)→s.o5.den→List Cell→AM (List Cell)
 | .pr a b,x,cs=>(Hm a x.1 cs).bind fun r=>Hm b x.2 r
 | .un,_,cs=> .ret cs
 | .ptr wh ty s,x,c::cs=>(xY (.ptr wh ty s) x none [c] 0).bind fun _=> .ret cs
 | .nR,_,_::_::cs=> .ret cs
 | .vj _,_,_::cs=> .ret cs
 | .cf _,_,_::cs=> .ret cs
 | .own _ _,_,_::cs=> .ret cs
 | .err,_,_::cs=> .ret cs
 | .np,_,_::cs=> .ret cs
 | .slf _ _,_,_::cs=> .ret cs
 |_,_,_=> .fail
def Kk:(a:VSp)→Val→AM a.sp.ty.den
 | .one s, .one c=>(BM s none [c]).bind fun p=>match p.2 with
  |[]=> .ret p.1
  |_=> .fail
 | .agg s, .agg cs=>(BM s none cs).bind fun p=>match p.2 with
  |[]=> .ret p.1
  |_=> .fail
 |_,_=> .fail
def xo:(as:List VSp)→List Val→AM (bO as).den
 |[],[]=> .ret ()
 |a::as,x::xs=>(Kk a x).bind fun p=>(xo as xs).bind fun q=> .ret (p,q)
 |_,_=> .fail
def yP:(as:List VSp)→(oW as).den→List Val→AM Unit
 |[],_,[]=> .ret ()
 |a::as,x,v::vs=>(Hm a.sp x.1 v.cells).bind fun _=>yP as x.2 vs
 |_,_,_=> .fail
def Gc:(a:VSp)→a.sp.ty.den→Nat→AM (Val×Nat)
 | .one s,x,n=>(xY s x none [] n).bind fun p=>match p.1 with
  |[c]=> .ret (.one c,p.2.2)
  |_=> .fail
 | .agg s,x,n=>(xY s x none [] n).bind fun p=> .ret (.agg p.1,p.2.2)
def C5:(as:List VSp)→(bO as).den→Nat→AM (List Val)
 |[],_,_=> .ret []
 |a::as,x,n=>(Gc a x.1 n).bind fun p=>(C5 as x.2 p.2).bind fun q=> .ret (p.1::q)
def Dj:(r:RSp)→r.ty.den→Nat→AM Slot
 | .val a,x,n=>(Gc a x n).bind fun p=> .ret (.val p.1)
 | .vi as,x,n=>(C5 as x n).bind fun vs=> .ret (.vi vs)
 | .none,_,_=> .ret (.vi [])
def call (c:Callee)(d:Nat)(args:List Val):AM Slot:=
 (xo c.sig.args args).bind fun x=> .opt c.sig.cod (c.F x) fun y=>
  (yP c.sig.args y.2 args).bind fun _=>Dj c.sig.res y.1 (300000+16*d)
def uX:List Operand→AM (List Val)
 |[]=> .ret []
 |x::r=>(evV x).bind fun c=>(uX r).bind fun cs=> .ret (c::cs)
def MD (chk:AM Unit)(c:Callee)(d:Nat)(args:List Val):AM Slot:=
 (xo c.sig.args args).bind fun x=>chk.bind fun _=> .opt c.sig.cod (c.F x) fun y=>
  (yP c.sig.args y.2 args).bind fun _=>Dj c.sig.res y.1 (300000+16*d)
def qM:List (Nat×Nat)→List (Nat×Nat)→Bool
 |[],[]=>true
 |a::r,b::q=>Nat.beq a.1 b.1&&Nat.beq a.2 b.2&&qM r q
 |_,_=>false
def tC:List Nat→AM (List (Nat×Nat))
 |[]=> .ret []
 |t::ts=> .rJ t fun
  | .val (.one (.ptr id gen 0))=>(tC ts).bind fun cs=> .ret ((id,gen)::cs)
  |_=> .fail
def Ke (f:FuncId)(gp:List (Nat×Nat)):AM Unit:=match gp.getLast? with
 |some p=> .jg p.1 fun
  |some (.box g (_,[.fn f2 cs]))=>bif Nat.beq g p.2&&Nat.beq f2 f&&qM cs gp then .ret ()else .fail
  |_=> .fail
 |none=> .fail
def kept (E:Env)(ts:List Nat):Bool:= !ts.isEmpty&&ts.all fun t=>E.jF.any (Nat.beq t)
def AN (E:Env)(f:FuncId)(gp:List (Nat×Nat)):AM Unit:=match E.slf with
 |some (f',ts)=>bif Nat.beq f f'&&kept E ts then(tC ts).bind fun cs=>bif qM cs gp then .ret ()else .fail else .fail
 |none=>Ke f gp
def JW (E:Env)(d:Nat)(args:List Val):Cell→AM Slot
 | .fn f gp=>match E.callee f with
  |some c=>match wC c.sig.args with
   |none=>call c d (args++gp.map fun p=> .one (.ptr p.1 p.2 0))
   |some sf=>bif Nat.beq sf.1 f&&Nat.beq sf.2 args.length then MD (AN E f gp) c d (args++gp.map fun p=> .one (.ptr p.1 p.2 0))else .fail
  |none=> .fail
 |_=> .fail
def Jz:Option Bool→Bool
 |some false=>true
 |_=>false
def Dg (E:Env)(t:TypeId)(a:Operand):Option (FuncId×List Nat):=match E.slf,a with
 |some (f,ts), .tmp k=>bif Nat.beq k (ts.getLastD 0)&&kept E ts&&Jz (E.isAgg t)then some (f,ts)else none
 |_,_=>none
def s6:List Val→Option (List (Nat×Nat))
 |[]=>some []
 | .one (.ptr id gen 0)::r=>(s6 r).map ((id,gen):: ·)
 |_=>none
def NP (x:Option Operand):AM (Option Val):=match x with
 |some y=>(evV y).bind fun v=> .ret (some v)
 |none=> .ret none
def one (v:Val):AM Cell:=match v with
 | .one c=> .ret c
 |_=> .fail
def convert (E:Env)(src dst:TypeId)(v:Val):AM Slot:=
 match E.P.underlying src,E.P.underlying dst with
 |some (.int _),some (.int k)=>(asInt v).bind fun n=> .ret (wi k (k.wrap n))
 |some (.slice e),some .string=>match E.P.underlying e,v with
  |some (.int .u8), .one c=>match c with
   | .v (.sl (.int .u8)) xs=> .ret (ws (xs.map byte))
   | .nil=> .ret (ws [])
   | .own id gen=> .jg id fun
    |some (.own g (.int .u8) _ xs)=>bif Nat.beq g gen then .ret (ws (xs.map byte))else .fail
    |some (.cf g (.int .u8) xs)=>bif Nat.beq g gen then .ret (ws (xs.map byte))else .fail
    |_=> .fail
   |_=> .fail
  |_,_=> .fail
 |some .string,some (.slice e)=>match E.P.underlying e,v with
  |some (.int .u8), .one (.v .str l)=> .ret (.val (.one (.v (.sl (.int .u8)) l)))
  |_,_=> .fail
 |_,_=> .fail
def Ff {α:Type}(z:α):List (Int×α)→Int→α
 |[],_=>z
 |p::r,n=>bif decide (n=p.1)then p.2 else Ff z r n
def mapKey (E:Env)(t:TypeId):Option TypeId:=match E.P.underlying t with
 |some (.map k e)=>match E.P.underlying k with
  |some (.int .i64)=>some e
  |_=>none
 |_=>none
def G6 (E:Env)(t:TypeId):Option Val:=((E.P.info? t).bind (·.zero)).bind sY
def JL (E:Env)(t:TypeId)(n:Int)(τ:Ty)(y:τ.den):Cell→AM Slot
 | .own id gen=>(fk (mapKey E t)).bind fun _=> .jg id fun
  |some (.mp g τ' xs)=>bif Nat.beq g gen&& !(xs.any fun p=>decide (p.1=n))then if h:τ=τ' then .jG id (.mp g τ' (xs++[(n,(h ▸ y:τ'.den))])) (.ret .un)else .fail else .fail
  |_=> .fail
 |_=> .fail
def JU (E:Env)(t:TypeId)(n:Int):Cell→AM Slot
 | .own id gen=>(fk (mapKey E t)).bind fun e=>match G6 E e with
  |some (.one (.v τ0 z))=> .jg id fun
   |some (.mp g τ xs)=>bif Nat.beq g gen then if h:τ0=τ then .ret (.val (.one (.v τ (Ff (h ▸ z:τ.den) xs n))))else .fail else .fail
   |_=> .fail
  |_=> .fail
 |_=> .fail
def F9 (E:Env)(d:Nat)(t:TypeId)(a:Operand):AM Slot:=
 (ev a).bind fun s=>(fk (E.isAgg t)).bind fun ag=>(JJ E ag s).bind fun ne=>bif ne then Ez d s else(fk (E.sizeOf t)).bind fun n=>
   (s5 E (bif ag then n else 1) s).bind fun cs=>(xZ ag cs).bind fun v=> .ret (.val v)
def cN (E:Env)(d:Nat):Op→AM Slot
 | .move x| .assign x=>ev x
 | .pick c a b=>(evV c).bind fun v=>(asBool v).bind fun t=> .br t (ev a) (ev b)
 | .alloc t=>(fk (E.zeroCells t)).bind fun cs=>AT d t cs
 | .box t x=>(evV x).bind fun v=>AT d t v.cells
 | .build t ps=>(fk (E.zeroCells t)).bind fun z=>(yS ps.toList).bind fun ps=>
   (fk (fill (fun i=>(E.field t i).bind fun f=>(E.sizeOf f.type).map (f.offset, ·)) z ps)).bind fun cs=>bif E.sized t then .ret (.val (.agg cs))else .fail
 | .buildSlice t n ps=>(fk (E.elem t)).bind fun e=>(E.ty e).bind fun τ=>(fk (E.zeroCells e)).bind fun z=>
   (yS ps.toList).bind fun ps=>(fk (fill (fun i=>some (i*z.length,z.length)) (rep n z) ps)).bind fun cs=>
    bif E.E8 e τ&&Nat.ble n 4096 then
     (Kb (tB cs&&τ.kv&& !τ.flat) τ n cs).bind fun xs=>(AQ d τ (tB cs&&τ.kv&& !τ.flat) xs).bind fun c=> .ret (.val (.one c))
    else .fail
 | .load t a=>match Dg E t a with
  |some p=>(tC p.2).bind fun cs=> .ret (.val (.one (.fn p.1 cs)))
  |none=>F9 E d t a
 | .store t a x=>(evV x).bind fun v=>(ev a).bind fun s=>(fk (E.sizeOf t)).bind fun n=>
   bif Nat.beq v.cells.length n then(xg v.cells s).bind fun _=> .ret .un else .fail
 | .nilCheck x=>(ev x).bind nilCheck
 | .binOp op t x y _=>(evV x).bind fun a=>match y with
   | .const .nilIface=>FZ E op t a
   |_=>(evV y).bind fun b=>binOp E op t a b
 | .unOp .not _ x=>(evV x).bind fun v=>(asBool v).bind fun b=> .ret (wb !b)
 | .unOp .neg _ x=>(evV x).bind fun v=>match v with
   | .one (.v (.int k) n)=> .ret (wi k (k.wrap (0 - n)))
   |_=> .fail
 | .convert s t x=>(evV x).bind fun v=>convert E s t v
 | .makeMap t none=>(fk (mapKey E t)).bind fun e=>(E.ty e).bind fun τ=>bif τ.one then(iL d).bind fun g=> .jG d (.mp g τ []) (.ret (.val (.one (.own d g))))else .fail
 | .makeMap t (some x)=>(evV x).bind fun v=>(asInt v).bind fun _=>(fk (mapKey E t)).bind fun e=>(E.ty e).bind fun τ=>bif τ.one then(iL d).bind fun g=> .jG d (.mp g τ []) (.ret (.val (.one (.own d g))))else .fail
 | .insert t m k x=>(evV m).bind fun vm=>(one vm).bind fun cm=>(evV k).bind fun vk=>(evV x).bind fun vx=>match vk,vx with
   | .one (.v (.int .i64) n), .one (.v τ y)=>JL E t n τ y cm
   |_,_=> .fail
 | .lookup t m k false=>(evV m).bind fun vm=>(one vm).bind fun cm=>(evV k).bind fun vk=>match vk with
   | .one (.v (.int .i64) n)=>JU E t n cm
   |_=> .fail
 | .makeInterface t x=>(evV x).bind fun _=>match E.P.underlying t with
   |some (.interface _)=> .fail
   |some _=> .ret (.val (.one (.err false)))
   |none=> .fail
 | .makeFunc (.func f) first gp=>bif first.isEmpty then(uX gp.toList).bind fun vs=>(fk (s6 vs)).bind fun cs=> .ret (.val (.one (.fn f cs)))else .fail
 | .makeSlice t l c=>(fk (E.elem t)).bind fun e=>(E.ty e).bind fun τ=>(fk (E.zeroCells e)).bind fun z=>(fk (wH τ z)).bind fun x=>
   (evV l).bind fun l=>(asInt l).bind fun l=>(evV c).bind fun c=>(asInt c).bind fun c=>bif E.E8 e τ&&x.2.isEmpty then
    .br (decide (0≤l)&&decide (l≤c)&&decide (c≤lim)) ((AQ d τ (τ.kv&& !τ.flat) (List.replicate l.toNat x.1)).bind fun c=> .ret (.val (.one c))) .fail else .fail
 | .slice t x lo hi none=>(evV x).bind fun v=>(one v).bind fun c=>(NP lo).bind fun lo=>(NP hi).bind fun hi=>bif E.fit t c then
   (match E.trim,lo,c with
    |true,none, .own id gen=>G5 d id gen ((E.elem t).bind E.sizeOf) hi
    |_,_,_=>De ((E.elem t).bind E.sizeOf) lo hi c)else .fail
 | .fieldAddr s x i=>(ev x).bind fun a=>(fk (E.field s i)).bind fun f=>(fk (E.sizeOf f.type)).bind fun n=>bif Nat.blt 0 n then fieldAddr f.offset a else .fail
 | .field s x i=>(evV x).bind fun v=>match v with
   | .agg cs=>(fk (E.field s i)).bind fun f=>(fk (E.isAgg f.type)).bind fun ag=>(fk (E.sizeOf f.type)).bind fun n=>
     (xZ ag (cut f.offset (bif ag then n else 1) cs)).bind fun v=> .ret (.val v)
   |_=> .fail
 | .indexAddr t x i=>(fk ((E.elem t).bind E.sizeOf)).bind fun sz=>(evV x).bind fun v=>(one v).bind fun c=>(evV i).bind fun i=>(asInt i).bind fun i=>bif E.fit t c&& !c.isStr then(xf c).bind fun _=>indexAddr sz c i else .fail
 | .index t x i=>(evV x).bind fun v=>(evV i).bind fun i=>(asInt i).bind fun i=>match v,E.P.underlying t with
   | .one (.v .str s),some .string=> .br (decide (0≤i)&&decide (i<s.length)) (.ret (wi .u8 (s.getD i.toNat 0))) .fail
   |_,_=> .fail
 | .extract t i=>(ev t).bind fun s=>match s with
   | .vi vs=>(fk vs[i]?).bind fun v=> .ret (.val v)
   |_=> .fail
 | .call c=>match c.callee with
  | .builtin .len=>(uX c.args.toList).bind fun vs=>match vs with
   |[.one x]=>bif(c.argTypes[0]?).any fun t=>E.fit t x then(yR x).bind fun n=> .ret (wi .i64 n)else .fail
   |_=> .fail
  | .builtin .max=>(uX c.args.toList).bind fun vs=>match vs with
   |[.one (.v (.int k) x), .one (.v (.int _) y)]=> .ret (wi k (if y>x then y else x))
   |_=> .fail
  | .builtin .append=>match c.argTypes.toList with
   |[t,tx]=>(fk (E.elem t)).bind fun e=>(E.ty e).bind fun τ=>(uX c.args.toList).bind fun vs=>match vs with
    |[.one s, .one x]=>bif E.E8 e τ&&E.fit tx x then append d τ s x else .fail
    |_=> .fail
   |_=> .fail
  | .value f=>(uX c.args.toList).bind fun vs=>(evV f).bind fun v=>(one v).bind fun c=>JW E d vs c
  |_=> .fail
 |_=> .fail
def step (E:Env)(alt:Nat)(o:Oper):AM Unit:=
 match o.dst with
 |some d=>bif Nat.blt d E.nt&& !E.jF.any (Nat.beq d)then(cN E d o.op).bind fun s=> .wM d s (.ret ())else .fail
 |none=>(cN E alt o.op).bind fun _=> .ret ()
end Go.Abs
end

section
namespace Go.Abs
def AM.lJ {α ρ:Type}:AM α→St→List Nat→List Nat→(α→St→List Nat→List Nat→Option ρ)→Option ρ
 | .ret a,s,r,w,K=>K a s r w
 | .br b t e,s,r,w,K=>brk b (t.lJ s r w K) (e.lJ s r w K)
 | .fail,_,_,_,_=>none
 | .rJ t k,s,r,w,K=>match look s.env t with
  |some x=>(k x).lJ s ((2*t)::r) w K
  |none=>none
 | .wM t x k,s,r,w,K=>k.lJ {s with env:=(t,x)::s.env} r ((2*t)::w) K
 | .jg i k,s,r,w,K=>(k (look s.hp i)).lJ s ((2*i+1)::r) w K
 | .jG i o k,s,r,w,K=>k.lJ {s with hp:=(i,o)::s.hp} r ((2*i+1)::w) K
 | .opt _ x k,s,r,w,K=>x.bind fun d=>(k d).lJ s r w K
def E4:List Oper→Nat→Option Oper
 |[],_=>none
 |o::_,0=>some o
 |_::r,n+1=>E4 r n
def rE (ops:List Oper)(j:Nat):Option Nat:=(E4 ops j).bind (·.dst)
def skip (E:Env)(o:Oper):AM Unit:=match o.dst with
 |some d=>bif Nat.blt d E.nt&& !E.jF.any (Nat.beq d)then .wM d .sk (.ret ())else .fail
 |none=> .ret ()
def alt (n:Nat):Nat:=90000+n
def stepG (E:Env)(ops:List Oper)(n:Nat)(o:Oper):AM Unit:=match o.guard with
 |none=>step E (alt n) o
 |some (j,want)=>(fk (rE ops j)).bind fun d=> .rJ d fun
  | .val (.one (.v .bool g))=> .br (g==want) (step E (alt n) o) (skip E o)
  | .sk=>skip E o
  |_=> .fail
def mn {ρ:Type}(E:Env)(ops:List Oper):List Oper→Nat→St→(St→Option ρ)→Option ρ
 |[],_,s,K=>K s
 |o::r,n,s,K=>match o.guard with
  |none=>(step E (alt n) o).exec s fun _ s=>mn E ops r (n+1) s K
  |some (j,want)=>match rE ops j with
   |some d=>match look s.env d with
    |some (.val (.one (.v .bool g)))=>brk g
      ((bif want then step E (alt n) o else skip E o).exec {s with env:=(d,wb true)::s.env} fun _ s=>mn E ops r (n+1) s K)
      ((bif want then skip E o else step E (alt n) o).exec {s with env:=(d,wb false)::s.env} fun _ s=>mn E ops r (n+1) s K)
    |some .sk=>(skip E o).exec s fun _ s=>mn E ops r (n+1) s K
    |_=>none
   |none=>none
abbrev Log:=List (List Nat×List Nat)
def kg {ρ:Type}(E:Env)(ops:List Oper):List Oper→Nat→St→Log→(St→Log→Option ρ)→Option ρ
 |[],_,s,L,K=>K s L
 |o::r,n,s,L,K=>match o.guard with
  |none=>(step E (alt n) o).lJ s [] [] fun _ s rd wr=>kg E ops r (n+1) s ((rd,wr)::L) K
  |some (j,want)=>match rE ops j with
   |some d=>match look s.env d with
    |some (.val (.one (.v .bool g)))=>brk g
      ((bif want then step E (alt n) o else skip E o).lJ {s with env:=(d,wb true)::s.env} [2*d] [] fun _ s rd wr=>kg E ops r (n+1) s ((rd,wr)::L) K)
      ((bif want then skip E o else step E (alt n) o).lJ {s with env:=(d,wb false)::s.env} [2*d] [] fun _ s rd wr=>kg E ops r (n+1) s ((rd,wr)::L) K)
    |some .sk=>(skip E o).lJ s [2*d] [] fun _ s rd wr=>kg E ops r (n+1) s ((rd,wr)::L) K
    |_=>none
   |none=>none
def mem (n:Nat):List Nat→Bool
 |[]=>false
 |m::r=>Nat.beq m n||mem n r
def meet (a b:List Nat):Bool:=match a with
 |[]=>false
 |x::r=>mem x b||meet r b
def pQ (ops:List Oper):List (List Nat):=ops.map fun o=>o.after.toList.filterMap fun e=>bif Region.binds .any e then some e.on else none
def r6:List (List Nat)→List (List Nat)→List (List Nat)
 |[],acc=>acc
 |es::r,acc=>r6 r (acc++[es.flatMap fun i=>i::acc.getD i []])
def rr:List (List Nat)→Nat→Bool
 |[],_=>true
 |es::r,n=>es.all (Nat.blt · n)&&rr r (n+1)
def we (x:List Nat×List Nat)(bx:List Nat):Log→Nat→Bool
 |[],_=>true
 |y::r,n=>(mem (n - 1) bx|| !(meet x.2 y.2||meet x.2 y.1||meet x.1 y.2))&&we x bx r (n - 1)
def apart:Log→List (List Nat)→Nat→Bool
 |x::r,bx::b,n=>we x bx r (n - 1)&&apart r b (n - 1)
 |[],_,_=>true
 |_,_,_=>false
def zJ {ρ:Type}(E:Env)(ops:List Oper)(draw:Bool)(s:St)(K:St→Option ρ):Option ρ:=
 bif draw then
  kg E ops ops 0 s [] fun s' L=>bif rr (pQ ops) 0&&apart L (r6 (pQ ops) []).reverse ops.length then K s' else none
 else mn E ops ops 0 s K
def first:Code→Option Nat
 | .region id _ _=>some id
 | .seq a b=>(first a).orElse fun _=>first b
 | .block _ c=>first c
 | .loop c=>first c
 | .scope c=>first c
 | .cond _ a b=>(first a).orElse fun _=>first b
 |_=>none
abbrev Handler:=∀ρ:Type,St→(Exit→St→Option ρ)→Option ρ
structure Cuts where
 loop:Nat→Option Handler
 join:Nat→Option Handler
def wv (s:St):Operand→Option Bool
 | .tmp t=>match look s.env t with
  |some (.val (.one (.v .bool b)))=>some b
  |_=>none
 | .const (.bool b)=>some b
 |_=>none
def exec {ρ:Type}(E:Env)(H:Cuts):Code→St→(Exit→St→Option ρ)→Option ρ
 | .skip,s,K=>K .normal s
 | .region _ ops draw,s,K=>zJ E ops.toList draw s (K .normal)
 | .seq a b,s,K=>exec E H a s fun e s'=>match e with
  | .normal=>match(first b).bind H.join with
   |some h=>h ρ s' K
   |none=>exec E H b s' K
  |e=>K e s'
 | .cond c a b,s,K=>match wv s c with
  |some t=>brk t (exec E H a s K) (exec E H b s K)
  |none=>none
 | .block id c,s,K=>exec E H c s fun e s'=>match e with
  | .exit i=>bif Nat.beq i id then K .normal s' else K (.exit i) s'
  |e=>K e s'
 | .loop c,s,K=>match(first c).bind H.loop with
  |some h=>h ρ s K
  |none=>none
 | .exit i,s,K=>K (.exit i) s
 | .ret,s,K=>K .ret s
 | .label _,s,K=>K .normal s
 | .scope c,s,K=>exec E H c s fun e s'=>match e with
  | .goto _=>none
  |e=>K e s'
 |_,_,_=>none
def mk0:(s:Sp)→s.ty.den→Nat×Nat→Nat→(List Cell×List (Nat×Obj)×Nat)
 | .un,_,_,n=>([],[],n)
 | .pr a b,x,pl,n=>let p:=mk0 a x.1 pl n;let q:=mk0 b x.2 (pl.1,pl.2+a.size) p.2.2;(p.1++q.1,q.2.1++p.2.1,q.2.2)
 | .cf τ,x,_,n=>([.v τ x],[],n)
 | .own τ dp,xs,_,n=>([.own n 0],[(n, .own 0 τ (dp||τ.flat) xs)],n+1)
 | .vg τ dp,xs,_,n=>([.own n 0],[(n, .own 0 τ (dp||τ.flat) xs)],n+1)
 | .ptr _ ty s,x,_,n=>let p:=mk0 s x (n,0) (n+1);([.ptr n 0 0],(n, .box 0 (ty.1,p.1))::p.2.1,p.2.2)
 | .vj _,_,_,n=>([],[],n)
 | .nR,x,pl,n=>([.own n 0, .own (n+1) 0],[(n+1, .nR 0 x n 0 pl.1 0 pl.2),(n, .dead 0)],n+2)
 | .err,b,_,n=>([.err b],[],n)
 | .np,_,_,n=>([.np],[],n)
 | .slf _ _,_,_,n=>([.ptr n 0 0],[(n, .dead 0)],n+1)
def uW:(a:VSp)→a.sp.ty.den→Nat→(Option Val×List (Nat×Obj)×Nat)
 | .one s,x,n=>let p:=mk0 s x (0,0) n;(match p.1 with|[c]=>some (.one c)|_=>none,p.2.1,p.2.2)
 | .agg s,x,n=>let p:=mk0 s x (0,0) n;(some (.agg p.1),p.2.1,p.2.2)
def rB:(as:List VSp)→List Nat→(bO as).den→Nat→(List (Nat×Slot)×List (Nat×Obj))
 |a::as,t::ts,x,n=>
  let p:=uW a x.1 n
  let q:=rB as ts x.2 p.2.2
  (match p.1 with|some v=>(t, .val v)::q.1|none=>q.1,q.2++p.2.1)
 |_,_,_,_=>([],[])
def dec (ts:List Nat)(as:List VSp)(x:(bO as).den):St:=let p:=rB as ts x E2;⟨p.1,p.2⟩
def AD:List Nat→AM (List Val)
 |[]=> .ret []
 |t::ts=>(AM.rJ t E7).bind fun v=>(AD ts).bind fun vs=> .ret (v::vs)
def upto:List VSp→Nat→List Nat
 |[],_=>[]
 |_::r,n=>n::upto r (n+1)
def Sp.plain:Sp→Bool
 | .ptr _ _ _=>false
 | .vg _ _=>false
 | .vj _=>false
 | .slf _ _=>false
 | .pr a b=>a.plain&&b.plain
 |_=>true
def Sp.whole (Kv:Bool):Sp→Bool
 | .ptr wh _ s=>wh&&s.whole true
 | .pr a b=>a.whole Kv&&b.whole Kv
 | .nR=>Kv
 | .vj _=>false
 |_=>true
def kS:List VSp→Bool
 |[]=>true
 |a::r=>a.sp.whole false&&kS r
def enc (ts:List Nat)(as:List VSp):AM (bO as).den:=bif kS as then(AD ts).bind fun vs=>xo as vs else .fail
def Sp.DJ:Sp→Bool
 | .ptr _ _ _=>true
 | .vg _ _=>true
 | .pr a b=>a.DJ||b.DJ
 |_=>false
def Hi:(s:Sp)→AM s.o5.den
 | .pr a b=>(Hi a).bind fun p=>(Hi b).bind fun q=> .ret (p,q)
 | .un=> .ret ()
 | .cf _=> .ret ()
 | .own _ _=> .ret ()
 | .nR=> .ret ()
 | .vj _=> .ret ()
 | .err=> .ret ()
 | .np=> .ret ()
 | .slf _ _=> .ret ()
 | .ptr _ _ _=> .fail
 | .vg _ _=> .fail
def DB:(s:Sp)→List Cell→AM (s.o5.den×List Cell)
 | .pr a b,cs=>(DB a cs).bind fun p=>(DB b p.2).bind fun q=> .ret ((p.1,q.1),q.2)
 | .un,cs=> .ret ((),cs)
 | .ptr wh ty s,c::cs=>bif s.plain&&wh then(BM (.ptr wh ty s) none [c]).bind fun p=> .ret (p.1,cs)else .fail
 | .cf _,_::cs=> .ret ((),cs)
 | .own _ _,_::cs=> .ret ((),cs)
 | .vj _,_::cs=> .ret ((),cs)
 | .err,_::cs=> .ret ((),cs)
 | .np,_::cs=> .ret ((),cs)
 | .slf _ _,_::cs=> .ret ((),cs)
 |_,_=> .fail
def Dl (jF:List Nat):(as:List VSp)→Nat→AM (oW as).den
 |[],_=> .ret ()
 |a::as,n=>(bif a.sp.DJ then(bif jF.any (Nat.beq n)then(AM.rJ n E7).bind fun v=>(DB a.sp v.cells).bind fun p=> .ret p.1 else .fail)else Hi a.sp).bind fun p=>
   (Dl jF as (n+1)).bind fun q=> .ret (p,q)
def DA (E:Env):ResultVar→AM Val
 | .tmp t=> .rJ t E7
 | .cell a t=> .rJ a fun s=>(fk (E.isAgg t)).bind fun ag=>(fk (E.sizeOf t)).bind fun n=>(s5 E (bif ag then n else 1) s).bind fun cs=>xZ ag cs
def wy (E:Env):List ResultVar→AM (List Val)
 |[]=> .ret []
 |r::rs=>(DA E r).bind fun v=>(wy E rs).bind fun vs=> .ret (v::vs)
def tz:List VSp→Bool
 |[]=>true
 |a::r=>a.sp.plain&&tz r
def JF (E:Env)(rs:List ResultVar):(r:RSp)→AM r.ty.den
 | .val a=>(wy E rs).bind fun vs=>bif a.sp.plain then match vs with
  |[v]=>Kk a v
  |_=> .fail
  else .fail
 | .vi as=>(wy E rs).bind fun vs=>bif tz as then match vs with
  |[_]=> .fail
  |vs=>xo as vs
  else .fail
 | .none=>(wy E rs).bind fun vs=>match vs with
  |[]=> .ret ()
  |_=> .fail
def finish (E:Env)(rs:List ResultVar)(sg:Sig):AM sg.cod.den:=
 (JF E rs sg.res).bind fun r=>(Dl E.jF sg.args 0).bind fun o=> .ret (r,o)
def atEnd (E:Env)(rs:List ResultVar)(sg:Sig)(e:Exit)(s:St):Option sg.cod.den:=match e with
 | .normal| .ret=>(finish E rs sg).exec s fun r _=>some r
 |_=>none
def AZ (E:Env)(fn:Func)(sg:Sig)(H:Cuts)(x:sg.dom.den):Option sg.cod.den:=
 match fn.body with
 |some c=>exec E H c (dec (upto sg.args 0) sg.args x) (atEnd E fn.results.toList sg)
 |none=>none
abbrev Der:=List (Nat×Nat×List Nat)
def u7 (env:List (Nat×Slot)):List Nat→Option (List (Nat×Nat))
 |[]=>some []
 |t::r=>match look env t with
  |some (.val (.one (.ptr id gen 0)))=>(u7 env r).map ((id,gen):: ·)
  |_=>none
def derive (env:List (Nat×Slot)):Der→List (Nat×Slot)
 |[]=>env
 |d::r=>match u7 env d.2.2 with
  |some cs=>(d.1, .val (.one (.fn d.2.1 cs)))::derive env r
  |none=>derive env r
def oZ (env:List (Nat×Slot)):Der→Bool
 |[]=>true
 |d::r=>(match look env d.1,u7 env d.2.2 with
  |some (.val (.one (.fn f gp))),some cs=>Nat.beq f d.2.1&&qM gp cs
  |_,_=>false)&&oZ env r
def DM (ts:List Nat)(as:List VSp)(tM:Der)(x:(bO as).den):St:=⟨derive (dec ts as x).env tM,(dec ts as x).hp⟩
structure Way1 where
 e:Exit
 ts:List Nat
 as:List VSp
 tM:Der
@[reducible] def kU:List Way1→Type
 |[]=>Empty
 |w::r=>(bO w.as).den⊕kU r
def AB:Exit→Exit→Bool
 | .normal, .normal=>true
 | .exit i, .exit j=>Nat.beq i j
 | .ret, .ret=>true
 |_,_=>false
def xp:(ws:List Way1)→Exit→St→Option (kU ws)
 |[],_,_=>none
 |w::r,e,s=>bif AB w.e e then(bif oZ s.env w.tM then(enc w.ts w.as).exec s fun z _=>some (.inl z)else none)else(xp r e s).bind fun y=>some (.inr y)
def AX {ρ:Type}:(ws:List Way1)→kU ws→(Exit→St→Option ρ)→Option ρ
 |[],y,_=>Empty.elim y
 |w::r,y,K=>Sum.elim (fun z=>K w.e (DM w.ts w.as w.tM z)) (fun y=>AX r y K) y
structure Cut where
 ts:List Nat
 as:List VSp
 ws:List Way1
 tM:Der
def Cut.tE (c:Cut)(L:(bO c.as).den→Option (kU c.ws)):Handler:=fun _ s K=>bif oZ s.env c.tM then(enc c.ts c.as).exec s fun x _=>(L x).bind fun y=>AX c.ws y K else none
def Cut.round (c:Cut)(E:Env)(H:Cuts)(body:Code)(L:(bO c.as).den→Option (kU c.ws))(x:(bO c.as).den):Option (kU c.ws):=
 exec E H body (DM c.ts c.as c.tM x) fun e s=>match e with
  | .normal=>bif oZ s.env c.tM then(enc c.ts c.as).exec s fun x' _=>L x' else none
  |e=>xp c.ws e s
def Cut.tail (c:Cut)(E:Env)(H:Cuts)(body:Code)(x:(bO c.as).den):Option (kU c.ws):=
 exec E H body (DM c.ts c.as c.tM x) fun e s=>xp c.ws e s
end Go.Abs
end

section
namespace Go.Abs
def oc:Value→Bool
 | .agg _| .tuple _=>false
 |_=>true
structure Gh where
 ax:Nat→Option (List Value)
 top:Nat→Nat
 cv:Nat→Nat→Value
 cM:Nat→Option Nat
 ed:Nat→Option (List Value)
 outer:Nat→List Value
abbrev Rd:=Nat→Option (List Value)
def lT (r:Rd):List Int→Value→Prop
 |[],u=>u= .pointer none
 |x::xs,u=>∃b p,u= .pointer (some ⟨b,0,none⟩)∧r b=some [.int .i64 x,p]∧lT r xs p
def Rc (r:Rd):(τ:Ty)→τ.den→List Value→Prop
 | .int k,x,cs=>cs=[.int k x]
 | .bool,b,cs=>cs=[.bool b]
 | .str,l,cs=>∃s,cs=[.string s]∧l=bytesOf s
 | .un,_,cs=>cs=[]
 | .pr a b,x,cs=>∃c1 c2,cs=c1++c2∧Rc r a x.1 c1∧Rc r b x.2 c2
 | .sl e,xs,cs=>∃A c,cs=[.slice A xs.length c]∧xs.length≤c∧
   (xs=[]∨∃b o L,A=some ⟨b,o,none⟩∧r b=some L∧∀i (h:i<xs.length),Rc r e xs[i] ((L.drop (o+i*e.size)).take e.size))
 | .cl,xs,cs=>∃u,cs=[u]∧lT r xs u
def Els (r:Rd)(e:Ty)(xs:List e.den)(L:List Value)(o:Nat):Prop:=
 ∀i (h:i<xs.length),Rc r e xs[i] ((L.drop (o+i*e.size)).take e.size)
def Lin (r:Rd):(τ:Ty)→τ.den→List Value→List Nat→Prop
 | .int k,x,cs,nb=>cs=[.int k x]∧nb=[]
 | .bool,b,cs,nb=>cs=[.bool b]∧nb=[]
 | .str,l,cs,nb=>(∃s,cs=[.string s]∧l=bytesOf s)∧nb=[]
 | .un,_,cs,nb=>cs=[]∧nb=[]
 | .pr a b,x,cs,nb=>∃c1 c2 n1 n2,cs=c1++c2∧nb=n1++n2∧Lin r a x.1 c1 n1∧Lin r b x.2 c2 n2
 | .sl e,xs,cs,nb=>e.flat=true∧((cs=[.slice none 0 0]∧xs=[]∧nb=[])∨
   ∃b c L,cs=[.slice (some ⟨b,0,none⟩) xs.length c]∧xs.length≤c∧nb=[b]∧r b=some L∧L.length=c*e.size∧Els r e xs L 0)
 | .cl,_,_,_=>False
def eW (r:Rd)(e:Ty):List e.den→List Value→List Nat→Prop
 |[],_,nb=>nb=[]
 |x::xs,L,nb=>∃n1 n2,nb=n1++n2∧Lin r e x (L.take e.size) n1∧eW r e xs (L.drop e.size) n2
def o7 (g:Gh):List (Nat×Nat)→List Value→Prop
 |[],us=>us=[]
 |p::r,us=>∃b o v,us= .pointer (some ⟨b,o,none⟩)::v∧p.2<g.top p.1∧g.cv p.1 p.2= .pointer (some ⟨b,o,none⟩)∧o7 g r v
def aV (g:Gh):Cell→Value→Prop
 | .v τ x,u=>τ.one=true∧Rc g.ax τ x [u]
 | .nil,u=>u= .slice none 0 0
 | .own id gen,u=>gen<g.top id∧u=g.cv id gen∧oc u=true
 | .ptr id gen off,u=>gen<g.top id∧∃b o,g.cv id gen= .pointer (some ⟨b,o,none⟩)∧u= .pointer (some ⟨b,o+off,none⟩)
 | .np,u=>u= .pointer none
 | .nf,u=>u= .nilFunc
 | .fn f gp,u=>∃vs:List Value,u= .func (.func f) #[] vs.toArray∧o7 g gp vs
 | .err b,u=>(b=true∧u= .nilIface)∨(b=false∧∃t v,u= .iface t v)
def aA (g:Gh):List Cell→List Value→Prop
 |[],us=>us=[]
 |c::cs,us=>∃u r,us=u::r∧aV g c u∧aA g cs r
def cG (g:Gh):Val→Value→Prop
 | .one c,u=>aV g c u
 | .agg cs,u=>∃us:List Value,u= .agg us.toArray∧aA g cs us
def db (g:Gh):List Val→List Value→Prop
 |[],us=>us=[]
 |c::cs,us=>∃u r,us=u::r∧cG g c u∧db g cs r
def bV (g:Gh):Slot→Value→Prop
 | .val v,u=>cG g v u
 | .vi vs,u=>∃us:List Value,u= .tuple us.toArray∧db g vs us
 | .ea c i off sz,u=>∃b o n cap,aV g c (.slice (some ⟨b,o,none⟩) n cap)∧0≤i∧i.toNat<n∧u= .pointer (some ⟨b,o+i.toNat*sz+off,none⟩)
 | .fa xs off,u=>∃x O9 b p,xs=x::O9∧g.ax b=some [.int .i64 x,p]∧lT g.ax O9 p∧u= .pointer (some ⟨b,off,none⟩)
 | .ga k,u=>u= .pointer (some ⟨k,0,none⟩)
 | .un,_=>True
 | .sk,u=>u=undef
def Hd (g:Gh)(id:Nat)(τ:Ty)(xs:List τ.den)(L:List Value):Prop:=
 ∃nb,eW g.ed τ xs L nb∧nb.Nodup∧∀b∈nb,g.cM b=some (id+1)
def dG (g:Gh)(id:Nat)(τ:Ty)(deep:Bool)(xs:List τ.den)(L:List Value):Prop:=
 if deep&& !τ.flat then Hd g id τ xs L else Els g.ax τ xs L 0
def l6 (r:Rd)(τ:Ty):List (Int×τ.den)→List MapEntry→Prop
 |[],es=>es=[]
 |p::xs,es=>∃e r',es=e::r'∧e.key= .int .i64 p.1∧Rc r τ p.2 [e.val]∧l6 r τ xs r'
def jb:Nat:=5
def mW (g:Gh)(w:World)(id:Nat):Obj→Prop
 | .box gen r=>∃b o arr ty L,g.cv id gen= .pointer (some ⟨b,o,none⟩)∧(g.cM b=some (id+1)∧g.ed b=none)∧w.heap[b]?=some (.cells arr ty (0,0))∧aA g r.2 L∧
   arr.toList=(g.outer id).take o++L++(g.outer id).drop (o+L.length)∧o+L.length≤(g.outer id).length∧
   o=0∧(g.outer id).length=r.2.length∧ty=r.1
 | .own gen τ deep xs=>(g.cv id gen= .slice none 0 0∧xs=[])∨
   ∃b cap arr ty,g.cv id gen= .slice (some ⟨b,0,none⟩) xs.length cap∧g.cM b=some (id+1)∧g.ed b=none∧w.heap[b]?=some (.cells arr ty (0,0))∧
    xs.length≤cap∧arr.size=cap*τ.size∧dG g id τ deep xs arr.toList
 | .cf gen τ xs=>Rc g.ax (.sl τ) xs [g.cv id gen]
 | .Pb gen xs=>lT g.ax xs (g.cv id gen)
 | .dead _=>True
 | .gj _ _=>True
 | .mp gen τ xs=>τ.one=true∧∃b es Ma,g.cv id gen= .map (some b)∧g.cM b=some (id+1)∧g.ed b=none∧w.heap[b]?=some (.map es Ma)∧l6 g.ax τ xs es.toList
 | .hole gen τ xs i off d gd=>gd<g.top d∧0≤i∧i.toNat<xs.length∧τ.flat=false∧∃b cap arr ty e ys x',g.cv id gen= .slice (some ⟨b,0,none⟩) xs.length cap∧g.cM b=some (id+1)∧g.ed b=none∧w.heap[b]?=some (.cells arr ty (0,0))∧
   xs.length≤cap∧arr.size=cap*τ.size∧NS τ (at_ xs i) off=some ⟨e,ys⟩∧Kh τ (at_ xs i) off e []=some x'∧arr.toList[i.toNat*τ.size+off]?=some (g.cv d gd)∧
   Hd g id τ (xs.set i.toNat x') (arr.toList.set (i.toNat*τ.size+off) (.slice none 0 0))
 | .nR gen xs a ag bid bg off=>ag<g.top a∧bg<g.top bid∧oc (g.cv a ag)=true∧((g.cv a ag= .pointer none∧g.cv id gen= .slice none 0 0∧xs=[])∨
   ∃bb oo,g.cv bid bg= .pointer (some ⟨bb,oo,none⟩)∧g.cv a ag= .pointer (some ⟨bb,oo+off,none⟩)∧((g.cv id gen= .slice none 0 0∧xs=[])∨
    ∃b cap arr ty,g.cv id gen= .slice (some ⟨b,0,none⟩) xs.length cap∧g.cM b=some (id+1)∧g.ed b=none∧w.heap[b]?=some (.cells arr ty (0,0))∧xs.length≤cap∧arr.size=cap∧Els g.ax (.int .u8) xs arr.toList 0∧ty=jb))
structure Base where
 ax:Nat→Option (List Value)
 cM:Nat→Option Nat
 w:World
 arg:Nat→Value
structure HRel (B:Base)(g:Gh)(hp:List (Nat×Obj))(w:World):Prop where
 top:∀id,g.top id=match look hp id with|some o=>o.gen+1|none=>0
 eC:∀id o,look hp id=some o→mW g w id o
 ax:∀b L,g.ax b=some L→g.cM b=none∧g.ed b=none∧∃arr ty fr,w.heap[b]?=some (.cells arr ty fr)∧arr.toList=L
 ed:∀b L,g.ed b=some L→g.cM b≠none∧∃arr ty,w.heap[b]?=some (.cells arr ty (0,0))∧arr.toList=L
 ey:∀b,g.cM b≠none→b<w.heap.size
 jh:∀b L,B.ax b=some L→g.ax b=some L
 frame:∀b,b<B.w.heap.size→B.cM b=none→B.ax b=none→g.cM b=none∧g.ax b=none∧w.heap[b]?=B.w.heap[b]?
 size:B.w.heap.size≤w.heap.size
 os:w.os=B.w.os
 tape:w.tape=B.w.tape
 output:w.output=B.w.output
 fix:∀b L,B.ax b=some L→w.heap[b]?=B.w.heap[b]?
structure Le (g g':Gh):Prop where
 ax:∀b L,g.ax b=some L→g'.ax b=some L
 top:∀id,g.top id≤g'.top id
 cv:∀id gen,gen<g.top id→g'.cv id gen=g.cv id gen
theorem Le.refl (g:Gh):Le g g:=⟨fun _ _ h=>h,fun _=>Wp _,fun _ _ _=>rfl⟩
theorem Le.trans {a b c:Gh}(h:Le a b)(k:Le b c):Le a c:=
  ⟨fun x L hx=>k.ax _ _ (h.ax _ _ hx),fun id=>Nat.le_trans (h.top id) (k.top id),
   fun id gen hg=>(k.cv id gen (WD hg (h.top id))).trans (h.cv id gen hg)⟩
structure Lk (g g':Gh):Prop where
 le:Le g g'
 kp:∀b,g.cM b=some 0→g'.cM b=some 0∧g'.ed b=g.ed b
 out:g'.outer=g.outer
theorem Lk.refl (g:Gh):Lk g g:=⟨Le.refl g,fun _ h=>⟨h,rfl⟩,rfl⟩
theorem Lk.trans {a b c:Gh}(h:Lk a b)(k:Lk b c):Lk a c:=
 ⟨h.le.trans k.le,fun x hx=>⟨(k.kp x (h.kp x hx).1).1,((k.kp x (h.kp x hx).1).2).trans (h.kp x hx).2⟩,k.out.trans h.out⟩
theorem lT.mono {r r':Rd}(h:∀b L,r b=some L→r' b=some L):∀{xs:List Int}{u:Value},lT r xs u→lT r' xs u
 |[],_,hc=>hc
 |_::_,_,⟨b,p,e,hb,hc⟩=>⟨b,p,e,h _ _ hb,lT.mono h hc⟩
theorem Rc.mono {r r':Rd}(h:∀b L,r b=some L→r' b=some L):∀{τ:Ty}{x:τ.den}{cs:List Value},Rc r τ x cs→Rc r' τ x cs
 | .int _,_,_,hc=>hc
 | .bool,_,_,hc=>hc
 | .str,_,_,hc=>hc
 | .un,_,_,hc=>hc
 | .pr _ _,_,_,⟨c1,c2,e,h1,h2⟩=>⟨c1,c2,e,Rc.mono h h1,Rc.mono h h2⟩
 | .sl _,_,_,⟨A,c,e,hl,hc⟩=>⟨A,c,e,hl,hc.imp id fun⟨b,o,L,ea,hb,hi⟩=>⟨b,o,L,ea,h _ _ hb,fun i qm=>Rc.mono h (hi i qm)⟩⟩
 | .cl,_,_,⟨u,e,hc⟩=>⟨u,e,hc.mono h⟩
theorem Rc.length {r:Rd}:∀{τ:Ty}{x:τ.den}{cs:List Value},Rc r τ x cs→cs.length=τ.size
 | .int _,_,_,h=>by have h:_=_:=h;subst h;rfl
 | .bool,_,_,h=>by have h:_=_:=h;subst h;rfl
 | .str,_,_,⟨_,e,_⟩=>by subst e;rfl
 | .un,_,_,h=>by have h:_=_:=h;subst h;rfl
 | .pr _ _,_,_,⟨c1,c2,e,h1,h2⟩=>by subst e;simp[Ty.size,h1.length,h2.length]
 | .sl _,_,_,⟨A,c,e,_⟩=>by subst e;rfl
 | .cl,_,_,⟨u,e,_⟩=>by subst e;rfl
theorem Rc.flat {r r':Rd}:∀{τ:Ty}{x:τ.den}{cs:List Value},τ.flat=true→Rc r τ x cs→Rc r' τ x cs
 | .int _,_,_,_,hc=>hc
 | .bool,_,_,_,hc=>hc
 | .str,_,_,_,hc=>hc
 | .un,_,_,_,hc=>hc
 | .pr _ _,_,_,hf,⟨c1,c2,e,h1,h2⟩=>by
  simp only[Ty.flat,V6]at hf;exact⟨c1,c2,e,Rc.flat hf.1 h1,Rc.flat hf.2 h2⟩
 | .sl _,_,_,hf,_=>by simp[Ty.flat]at hf
 | .cl,_,_,hf,_=>by simp[Ty.flat]at hf
theorem l6.mono {r r':Rd}{τ:Ty}(h:∀b L,r b=some L→r' b=some L):∀{xs:List (Int×τ.den)}{es:List MapEntry},l6 r τ xs es→l6 r' τ xs es
 |[],_,hc=>hc
 |_::_,_,⟨e,r2,h1,h2,h3,h4⟩=>⟨e,r2,h1,h2,h3.mono h,l6.mono h h4⟩
theorem Els.mono {r r':Rd}(h:∀b L,r b=some L→r' b=some L){e:Ty}{xs:List e.den}{L:List Value}{o:Nat}(H:Els r e xs L o):Els r' e xs L o:=
 fun i hi=>(H i hi).mono h
theorem Els.flat {r r':Rd}{e:Ty}(hf:e.flat=true){xs:List e.den}{L:List Value}{o:Nat}(H:Els r e xs L o):Els r' e xs L o:=
 fun i hi=>(H i hi).flat hf
theorem o7.mono {g g':Gh}(h:Le g g'):∀{cs:List (Nat×Nat)}{us:List Value},o7 g cs us→o7 g' cs us
 |[],_,hc=>hc
 |_::_,_,⟨b,o,v,e,ht,jV,hc⟩=>⟨b,o,v,e,WD ht (h.top _),(h.cv _ _ ht).trans jV,o7.mono h hc⟩
theorem aV.mono {g g':Gh}(h:Le g g'){c:Cell}{u:Value}(hc:aV g c u):aV g' c u:=by
 cases c with
 |v τ x=>exact⟨hc.1,hc.2.mono h.ax⟩
 |nil=>exact hc
 |own id gen=>exact⟨WD hc.1 (h.top _),hc.2.1.trans (h.cv _ _ hc.1).symm,hc.2.2⟩
 |ptr id gen off=>obtain⟨ht,b,o,e,e'⟩:=hc;exact⟨WD ht (h.top _),b,o,(h.cv _ _ ht).trans e,e'⟩
 |np=>exact hc
 |nf=>exact hc
 |fn f gp=>obtain⟨vs,e,hv⟩:=hc;exact⟨vs,e,hv.mono h⟩
 |err b=>exact hc
theorem aA.mono {g g':Gh}(h:Le g g'):∀{cs:List Cell}{us:List Value},aA g cs us→aA g' cs us
 |[],_,hc=>hc
 |_::_,_,⟨u,r,e,hu,hr⟩=>⟨u,r,e,hu.mono h,aA.mono h hr⟩
theorem cG.mono {g g':Gh}(h:Le g g'){v:Val}{u:Value}(hv:cG g v u):cG g' v u:=by
 cases v with
 |one c=>exact aV.mono h hv
 |agg cs=>obtain⟨us,e,hu⟩:=hv;exact⟨us,e,hu.mono h⟩
theorem db.mono {g g':Gh}(h:Le g g'):∀{cs:List Val}{us:List Value},db g cs us→db g' cs us
 |[],_,hc=>hc
 |_::_,_,⟨u,r,e,hu,hr⟩=>⟨u,r,e,hu.mono h,db.mono h hr⟩
theorem bV.mono {g g':Gh}(h:Le g g'){s:Slot}{u:Value}(hs:bV g s u):bV g' s u:=by
 cases s with
 |val v=>exact cG.mono h hs
 |vi vs=>obtain⟨us,e,hu⟩:=hs;exact⟨us,e,hu.mono h⟩
 |ea c i off sz=>obtain⟨b,o,n,cap,hc,h0,h1,e⟩:=hs;exact⟨b,o,n,cap,hc.mono h,h0,h1,e⟩
 |fa xs off=>obtain⟨x,O9,b,p,e,hb,hc,e'⟩:=hs;exact⟨x,O9,b,p,e,h.ax _ _ hb,hc.mono h.ax,e'⟩
 |ga k=>exact hs
 |un=>exact hs
 |sk=>exact hs
theorem aV.C7 {g:Gh}{c:Cell}{u:Value}(h:aV g c u):oc u=true:=by
 cases c with
 |v τ x=>
  obtain⟨h1,h⟩:=h
  cases τ with
  |int k=>have h:_=_:=h;injection h with h;subst h;rfl
  |bool=>have h:_=_:=h;injection h with h;subst h;rfl
  |str=>obtain⟨s,e,_⟩:=h;injection e with e;subst e;rfl
  |un=>simp[Ty.one]at h1
  |pr a b=>simp[Ty.one]at h1
  |sl e=>obtain⟨A,c,e,_⟩:=h;injection e with e;subst e;rfl
  |cl=>
   obtain⟨u',e,h⟩:=h
   injection e with e;subst e
   have hx:lT g.ax (x:List Int) u:=h
   revert hx
   generalize(x:List Int)=xs
   intro hx
   cases xs with
   |nil=>have hx:_=_:=hx;subst hx;rfl
   |cons y ys=>obtain⟨b,p,e,_⟩:=hx;subst e;rfl
 |nil=>have h:_=_:=h;subst h;rfl
 |own id gen=>exact h.2.2
 |ptr id gen off=>obtain⟨_,b,o,_,e⟩:=h;subst e;rfl
 |np=>have h:_=_:=h;subst h;rfl
 |nf=>have h:_=_:=h;subst h;rfl
 |fn f gp=>obtain⟨vs,e,_⟩:=h;subst e;rfl
 |err b=>rcases h with⟨_,e⟩|⟨_,t,v,e⟩<;>subst e<;>rfl
theorem vL {u:Value}(h:oc u=true):u.cells=#[u]:=by cases u<;>simp_all[oc,Value.cells]
theorem aA.length {g:Gh}:∀{cs:List Cell}{us:List Value},aA g cs us→us.length=cs.length
 |[],_,h=>by have h:_=_:=h;subst h;rfl
 |_::_,_,⟨_,_,e,_,hr⟩=>by subst e;simp[hr.length]
theorem cG.cells {g:Gh}{v:Val}{u:Value}(h:cG g v u):aA g v.cells u.cells.toList:=by
 cases v with
 |one c=>rw[vL (aV.C7 h)];exact⟨u,[],rfl,h,rfl⟩
 |agg cs=>obtain⟨us,e,hu⟩:=h;subst e;exact hu
theorem aA.append {g:Gh}:∀{a b:List Cell}{us vs:List Value},aA g a us→aA g b vs→aA g (a++b) (us++vs)
 |[],_,_,_,h,k=>by have h:_=_:=h;subst h;exact k
 |_::_,_,_,_,⟨u,r,e,hu,hr⟩,k=>by subst e;exact⟨u,_,rfl,hu,hr.append k⟩
theorem aA.take {g:Gh}:∀{a:List Cell}{us:List Value}(n:Nat),aA g a us→aA g (a.take n) (us.take n)
 |_,_,0,_=>by simp[aA]
 |[],_,n+1,h=>by have h:_=_:=h;subst h;simp[aA]
 |_::_,_,n+1,⟨u,r,e,hu,hr⟩=>by subst e;exact⟨u,_,rfl,hu,hr.take n⟩
theorem aA.drop {g:Gh}:∀{a:List Cell}{us:List Value}(n:Nat),aA g a us→aA g (a.drop n) (us.drop n)
 |_,_,0,h=>h
 |[],_,n+1,h=>by have h:_=_:=h;subst h;simp[aA]
 |_::_,_,n+1,⟨u,r,e,hu,hr⟩=>by subst e;exact hr.drop n
theorem aA.split {g:Gh}:∀{a b:List Cell}{us:List Value},aA g (a++b) us→∃u v,us=u++v∧aA g a u∧aA g b v
 |[],_,us,h=>⟨[],us,rfl,rfl,h⟩
 |_::_,_,_,⟨u,r,e,hu,hr⟩=>by
  obtain⟨x,y,e',hx,hy⟩:=aA.split hr;subst e;subst e';exact⟨u::x,y,rfl,⟨u,x,rfl,hu,hx⟩,hy⟩
theorem Lin.rc {r:Rd}:∀{τ:Ty}{x:τ.den}{cs:List Value}{nb:List Nat},Lin r τ x cs nb→Rc r τ x cs
 | .int _,_,_,_,h=>h.1
 | .bool,_,_,_,h=>h.1
 | .str,_,_,_,h=>h.1
 | .un,_,_,_,h=>h.1
 | .pr _ _,_,_,_,⟨c1,c2,_,_,e,_,h1,h2⟩=>⟨c1,c2,e,h1.rc,h2.rc⟩
 | .sl _,_,_,_,⟨_, .inl ⟨e,e',_⟩⟩=>by subst e';exact⟨none,0,e,Wp _, .inl rfl⟩
 | .sl _,_,_,_,⟨_, .inr ⟨b,c,L,e,hl,_,hb,_,he⟩⟩=>⟨some ⟨b,0,none⟩,c,e,hl, .inr ⟨b,0,L,rfl,hb,he⟩⟩
 | .cl,_,_,_,h=>h.elim
theorem Lin.mono {r r':Rd}:∀{τ:Ty}{x:τ.den}{cs:List Value}{nb:List Nat},(∀b∈nb,∀L,r b=some L→r' b=some L)→Lin r τ x cs nb→Lin r' τ x cs nb
 | .int _,_,_,_,_,h=>h
 | .bool,_,_,_,_,h=>h
 | .str,_,_,_,_,h=>h
 | .un,_,_,_,_,h=>h
 | .pr _ _,_,_,_,hm,⟨c1,c2,n1,n2,e,e',h1,h2⟩=>
  ⟨c1,c2,n1,n2,e,e',h1.mono (fun b hb=>hm b (by subst e';exact WC _ hb)),h2.mono (fun b hb=>hm b (by subst e';exact Wy _ hb))⟩
 | .sl _,_,_,_,_,⟨f, .inl h⟩=>⟨f, .inl h⟩
 | .sl _,_,_,_,hm,⟨f, .inr ⟨b,c,L,e,hl,hn,hb,hL,he⟩⟩=>⟨f, .inr ⟨b,c,L,e,hl,hn,hm b (by subst hn;simp) L hb,hL,he.flat f⟩⟩
 | .cl,_,_,_,_,h=>h.elim
theorem eW.mono {r r':Rd}{e:Ty}:∀{xs:List e.den}{L:List Value}{nb:List Nat},(∀b∈nb,∀L,r b=some L→r' b=some L)→eW r e xs L nb→eW r' e xs L nb
 |[],_,_,_,h=>h
 |_::_,_,_,hm,⟨n1,n2,e',h1,h2⟩=>
  ⟨n1,n2,e',h1.mono (fun b hb=>hm b (by subst e';exact WC _ hb)),h2.mono (fun b hb=>hm b (by subst e';exact Wy _ hb))⟩
theorem eW.els {r:Rd}{e:Ty}:∀{xs:List e.den}{L:List Value}{nb:List Nat},eW r e xs L nb→Els r e xs L 0
 |[],_,_,_=>fun i hi=>absurd hi (by simp)
 |x::xs,L,_,⟨_,_,_,h1,h2⟩=>fun i hi=>by
  cases i with
  |zero=>simpa using h1.rc
  |succ i=>
   have qm:i<xs.length:=(by simpa using hi);have h:=h2.els i qm
   have e1:0+(i+1)*e.size=e.size+(0+i*e.size):=by rw[Nat.add_mul];omega
   simp only[List.getElem_cons_succ];rw[e1,←List.drop_drop];exact h
theorem eW.qO {r:Rd}{e:Ty}:∀{xs:List e.den}{L:List Value}{nb:List Nat},eW r e xs L nb→∀b∈nb,r b≠none:=by
 have VE:∀{τ:Ty} {x:τ.den} {cs:List Value} {nb:List Nat},Lin r τ x cs nb→∀b∈nb,r b≠none:=by
  intro τ
  induction τ with
  |int k=>intro x cs nb h b hb;rw[h.2]at hb;simp at hb
  |bool=>intro x cs nb h b hb;rw[h.2]at hb;simp at hb
  |str=>intro x cs nb h b hb;rw[h.2]at hb;simp at hb
  |un=>intro x cs nb h b hb;rw[h.2]at hb;simp at hb
  |pr a b BQ BT=>
   intro x cs nb ⟨c1,c2,n1,n2,_,e,h1,h2⟩ b hb;subst e
   rcases Wu.1 hb with hb|hb
   ·exact BQ h1 b hb
   ·exact BT h2 b hb
  |sl e _=>
   intro x cs nb ⟨_,h⟩ b hb
   rcases h with⟨_,_,e⟩|⟨b',c,L,_,_,e,hr,_⟩
   ·subst e;simp at hb
   ·subst e;simp only[List.mem_singleton]at hb;subst hb;rw[hr];simp
  |cl=>intro x cs nb h;exact h.elim
 intro xs
 induction xs with
 |nil=>intro L nb h b hb;have h:_=_:=h;subst h;simp at hb
 |cons x xs ih=>
  intro L nb ⟨n1,n2,e,h1,h2⟩ b hb;subst e
  rcases Wu.1 hb with hb|hb
  ·exact VE h1 b hb
  ·exact ih h2 b hb
theorem mW.tr {g g':Gh}{w w':World}{id:Nat}{o:Obj}(hle:Le g g')(hl:∀b,g.cM b=some (id+1)→g'.cM b=some (id+1)∧g'.ed b=g.ed b∧w'.heap[b]?=w.heap[b]?)
  (ho:g'.outer id=g.outer id) (hg:o.gen<g.top id) (h:mW g w id o):mW g' w' id o:=by
 cases o with
 |box gen r=>
  obtain⟨b,o,arr,ty,L,h1,h2,h3,h4,h5,h6,h7⟩:=h;obtain⟨a1,a2,a3⟩:=hl b h2.1;refine⟨b,o,arr,ty,L,(hle.cv _ _ hg).trans h1,⟨a1,a2.trans h2.2⟩,a3.trans h3,h4.mono hle, ?_, ?_,by rw[ho];exact h7⟩
  ·rw[ho];exact h5
  ·rw[ho];exact h6
 |own gen τ deep xs=>
  rcases h with⟨h1,h2⟩|⟨b,cap,arr,ty,h1,h2,h3,h4,h5,h6,h7⟩
  ·exact .inl ⟨(hle.cv _ _ hg).trans h1,h2⟩
  ·obtain⟨a1,a2,a3⟩:=hl b h2;refine .inr ⟨b,cap,arr,ty,(hle.cv _ _ hg).trans h1,a1,a2.trans h3,a3.trans h4,h5,h6, ?_⟩;unfold dG at h7⊢;split
   ·rename_i hd;rw[WK hd]at h7;obtain⟨nb,k1,k2,k3⟩:=h7;exact⟨nb,k1.mono (fun b hb L hL=>by rw[(hl b (k3 b hb)).2.1];exact hL),k2,fun b hb=>(hl b (k3 b hb)).1⟩
   ·rename_i hd;rw[Wz hd]at h7;exact h7.mono hle.ax
 |cf gen τ xs=>have h:Rc _ _ _ _:=h;show Rc _ _ _ _;rw[show g'.cv id gen=g.cv id gen from hle.cv _ _ hg];exact h.mono hle.ax
 |Pb gen xs=>have h:lT _ _ _:=h;show lT _ _ _;rw[show g'.cv id gen=g.cv id gen from hle.cv _ _ hg];exact h.mono hle.ax
 |dead _=>trivial
 |gj _ _=>trivial
 |mp gen τ xs=>
  obtain⟨h1,b,es,Ma,k1,k2,k3,k4,k5⟩:=h;obtain⟨a1,a2,a3⟩:=hl b k2;exact⟨h1,b,es,Ma,(hle.cv _ _ hg).trans k1,a1,a2.trans k3,a3.trans k4,k5.mono hle.ax⟩
 |hole gen τ xs i off d gd=>
  obtain⟨h0,Vz,M5,hf,b,cap,arr,ty,e,ys,x',h1,h2,h3,h4,h5,h6,h7,h8,h9,nb,k1,k2,k3⟩:=h;obtain⟨a1,a2,a3⟩:=hl b h2
  exact⟨WD h0 (hle.top _),Vz,M5,hf,b,cap,arr,ty,e,ys,x',(hle.cv _ _ hg).trans h1,a1,a2.trans h3,a3.trans h4,h5,h6,h7,h8,by rw[hle.cv _ _ h0];exact h9,
   nb,k1.mono (fun b hb L hL=>by rw[(hl b (k3 b hb)).2.1];exact hL),k2,fun b hb=>(hl b (k3 b hb)).1⟩
 |nR gen xs a ag bid bg off=>
  obtain⟨h1,h2,h3,h4⟩:=h;refine⟨WD h1 (hle.top _),WD h2 (hle.top _),by rw[hle.cv _ _ h1];exact h3, ?_⟩;rw[hle.cv _ _ h1,hle.cv _ _ h2,show g'.cv id gen=g.cv id gen from hle.cv _ _ hg]
  rcases h4 with h4|⟨bb,oo,k1,k2,h4⟩
  ·exact .inl h4
  ·refine .inr ⟨bb,oo,k1,k2, ?_⟩
   rcases h4 with h4|⟨b,cap,arr,ty,e1,e2,e3,e4,e5,e6,e7,e8⟩
   ·exact .inl h4
   ·obtain⟨a1,a2,a3⟩:=hl b e2;exact .inr ⟨b,cap,arr,ty,e1,a1,a2.trans e3,a3.trans e4,e5,e6,e7.mono hle.ax,e8⟩
end Go.Abs
end

section
namespace Go.Abs
theorem AM.run_bind {α β:Type}(m:AM α)(f:α→AM β):∀s,(m.bind f).run s=(m.run s).bind fun p=>(f p.1).run p.2:=by
 induction m with
 |ret a=>intro s;rfl
 |br b t e KF KR=>intro s;cases b<;>simp[AM.bind,AM.run,KF,KR]
 |fail=>intro s;rfl
 |rJ t k ih=>intro s;simp only[AM.bind,AM.run];cases look s.env t<;>simp[ih]
 |wM t x k ih=>intro s;simp[AM.bind,AM.run,ih]
 |jg i k ih=>intro s;simp[AM.bind,AM.run,ih]
 |jG i o k ih=>intro s;simp[AM.bind,AM.run,ih]
 |opt c x k ih=>intro s;cases x<;>simp[AM.bind,AM.run,ih]
theorem AM.ai {α β:Type}{m:AM α}{f:α→AM β}{s s':St}{b:β}(h:(m.bind f).run s=some (b,s')):
  ∃a t,m.run s=some (a,t)∧(f a).run t=some (b,s'):=by
 rw[AM.run_bind]at h
 cases hm:m.run s with
 |none=>rw[hm]at h;cases h
 |some p=>rw[hm]at h;exact⟨p.1,p.2,rfl,h⟩
theorem aF {β:Type}(l:List (Nat×β))(n:Nat)(b:β):look ((n,b)::l) n=some b:=by simp[look]
theorem aC {β:Type}(l:List (Nat×β)){n m:Nat}(b:β)(h:n≠m):look ((n,b)::l) m=look l m:=by
 have:Nat.beq n m=false:=by rw[Bool.eq_false_iff];intro e;exact h (Nat.eq_of_beq_eq_true e)
 simp[look,this]
theorem beq_eq {a b:Nat}(h:Nat.beq a b=true):a=b:=Nat.eq_of_beq_eq_true h
def Gh.ki (g:Gh)(S:Nat→Option (List Value)):Gh:=
  { g with ax := fun x => match S x with | some L => some L | none => g.ax x
           cM:=fun x=>match S x with|some _=>none|none=>g.cM x
           ed:=fun x=>match S x with|some _=>none|none=>g.ed x}
theorem HRel.yE {B:Base}{g:Gh}{hp:List (Nat×Obj)}{w:World}(R:HRel B g hp w){S:Nat→Option (List Value)}{id:Nat}
  (hS:∀x L,S x=some L→g.cM x=some (id+1)):Le g (g.ki S):=by
 refine⟨fun b L h=> ?_,fun _=>Wp _,fun _ _ _=>rfl⟩;show(match S b with|some L=>some L|none=>g.ax b)=some L
 cases hs:S b with
 |none=>exact h
 |some L'=>exact absurd (hS b L' hs) (by rw[(R.ax b L h).1];simp)
theorem HRel.yH {B:Base}{g:Gh}{hp:List (Nat×Obj)}{w:World}(R:HRel B g hp w){S:Nat→Option (List Value)}{id:Nat}
  (hS:∀x L,S x=some L→g.cM x=some (id+1)):Lk g (g.ki S):=by
 refine⟨R.yE hS,fun b hb=> ?_,rfl⟩
 have hn:S b=none:=by
  cases hs:S b with
  |none=>rfl
  |some L=>exact absurd ((hS b L hs).symm.trans hb) (by simp)
 simp[Gh.ki,hn,hb]
theorem HRel.Dx {B:Base}{g:Gh}{hp:List (Nat×Obj)}{w:World}(R:HRel B g hp w){S:Nat→Option (List Value)}{id:Nat}{o o':Obj}
  (hS:∀x L,S x=some L→g.cM x=some (id+1)∧∃arr ty fr,w.heap[x]?=some (.cells arr ty fr)∧arr.toList=L)
  (ho:look hp id=some o) (tf:o'.gen=o.gen) (A7:mW (g.ki S) w id o'):HRel B (g.ki S) ((id,o')::hp) w:=by
 have hle:=R.yE (fun x L h=>(hS x L h).1);refine⟨fun i=> ?_,fun i oi hi=> ?_,fun b L h=> ?_,fun b L h=> ?_,fun b h=> ?_,fun b L h=>hle.ax _ _ (R.jh b L h),fun b hb hl hi=> ?_,R.size,R.os,R.tape,R.output,R.fix⟩
 ·show g.top i=_;rw[R.top i]
  by_cases e:id=i
  ·subst e;rw[aF,ho];simp[tf]
  ·rw[aC _ _ e]
 ·by_cases e:id=i
  ·subst e;rw[aF]at hi;injection hi with hi;subst hi;exact A7
  ·rw[aC _ _ e]at hi;refine(R.eC i oi hi).tr hle (fun b hb=> ?_) rfl (by rw[R.top i,hi];exact Nat.lt_succ_self _)
   have hn:S b=none:=by
    cases hs:S b with
    |none=>rfl
    |some L=>exact absurd ((hS b L hs).1.symm.trans hb) (by simpa using e)
   simp[Gh.ki,hn,hb]
 ·simp only[Gh.ki]at h⊢
  cases hs:S b with
  |some L'=>
   rw[hs]at h
   injection h with h;subst h
   obtain⟨arr,ty,fr,h1,h2⟩:=(hS b L' hs).2;exact⟨rfl,rfl,arr,ty,fr,h1,h2⟩
  |none=>rw[hs]at h;exact R.ax b L h
 ·simp only[Gh.ki]at h⊢
  cases hs:S b with
  |some L'=>rw[hs]at h;cases h
  |none=>rw[hs]at h;exact R.ed b L h
 ·simp only[Gh.ki]at h
  cases hs:S b with
  |some L'=>rw[hs]at h;exact absurd rfl h
  |none=>rw[hs]at h;exact R.ey b h
 ·obtain⟨f1,f2,f3⟩:=R.frame b hb hl hi
  have hn:S b=none:=by
   cases hs:S b with
   |none=>rfl
   |some L=>exact absurd (hS b L hs).1 (by rw[f1];simp)
  simp[Gh.ki,hn,f1,f2,f3]
theorem HRel.put {B:Base}{g:Gh}{hp:List (Nat×Obj)}{w:World}(R:HRel B g hp w){id:Nat}{o o':Obj}
  (ho:look hp id=some o) (tf:o'.gen=o.gen) (A7:mW g w id o'):HRel B g ((id,o')::hp) w:=by
 refine⟨fun i=> ?_,fun i oi hi=> ?_,R.ax,R.ed,R.ey,R.jh,R.frame,R.size,R.os,R.tape,R.output,R.fix⟩
 ·rw[R.top i]
  by_cases e:id=i
  ·subst e;rw[aF,ho];simp[tf]
  ·rw[aC _ _ e]
 ·by_cases e:id=i
  ·subst e;rw[aF]at hi;injection hi with hi;subst hi;exact A7
  ·rw[aC _ _ e]at hi;exact R.eC i oi hi
open Classical in
noncomputable def nbS (g:Gh)(nb:List Nat):Nat→Option (List Value):=fun x=>if x∈nb then g.ed x else none
theorem HRel.GI {B:Base}{g:Gh}{hp:List (Nat×Obj)}{w:World}(R:HRel B g hp w){id gen:Nat}{τ:Ty}{deep:Bool}{xs:List τ.den}
  (h:look hp id=some (.own gen τ deep xs)):∃g',Lk g g'∧HRel B g' ((id, .own gen τ false xs)::hp) w:=by
 have hO:=R.eC _ _ h
 rcases hO with⟨h1,h2⟩|⟨b,cap,arr,ty,h1,h2,h3,h4,h5,h6,h7⟩
 ·exact⟨g,Lk.refl g,R.put h rfl (.inl ⟨h1,h2⟩)⟩
 ·by_cases hd:(deep&& !τ.flat)=true
  ·unfold dG at h7;rw[WK hd]at h7;obtain⟨nb,k1,k2,k3⟩:=h7
   have hS:∀x L,nbS g nb x=some L→g.cM x=some (id+1)∧∃arr ty fr,w.heap[x]?=some (.cells arr ty fr)∧arr.toList=L:=by
    intro x L hx;unfold nbS at hx;split at hx
    ·rename_i hm;obtain⟨_,arr,ty,a,b⟩:=R.ed x L hx;exact⟨k3 x hm,arr,ty,(0,0),a,b⟩
    ·cases hx
   have Bj:b∉nb:=fun hm=>k1.qO b hm h3
   have o9:nbS g nb b=none:=(by simp[nbS,Bj]);refine⟨_,R.yH (fun x L hx=>(hS x L hx).1),R.Dx hS h rfl (.inr ⟨b,cap,arr,ty,h1,by simp[Gh.ki,o9,h2],by simp[Gh.ki,o9,h3],h4,h5,h6, ?_⟩)⟩;show dG _ _ _ false _ _;unfold dG;simp only[Wc,WJ,WY];refine eW.els (nb:=nb) (k1.mono fun x hx L hL=> ?_);simp[Gh.ki,nbS,hx,hL]
  ·refine⟨g,Lk.refl g,R.put h rfl (.inr ⟨b,cap,arr,ty,h1,h2,h3,h4,h5,h6, ?_⟩)⟩;unfold dG at h7⊢;rw[Wz hd]at h7;simpa using h7
theorem HRel.LM {B:Base}{g:Gh}{hp:List (Nat×Obj)}{w:World}(R:HRel B g hp w){id gen:Nat}{τ:Ty}{xs:List τ.den}
  (h:look hp id=some (.own gen τ false xs)):∃g',Lk g g'∧HRel B g' ((id, .cf gen τ xs)::hp) w:=by
 have hO:=R.eC _ _ h
 rcases hO with⟨h1,h2⟩|⟨b,cap,arr,ty,h1,h2,h3,h4,h5,h6,h7⟩
 ·exact⟨g,Lk.refl g,R.put h rfl (by subst h2;exact⟨none,0,by rw[h1];rfl,Wp _, .inl rfl⟩)⟩
 ·let S:Nat→Option (List Value):=fun x=>if x=b then some arr.toList else none
  have hS:∀x L,S x=some L→g.cM x=some (id+1)∧∃arr ty fr,w.heap[x]?=some (.cells arr ty fr)∧arr.toList=L:=by
   intro x L hx;simp only[S]at hx;split at hx
   ·rename_i e;subst e;injection hx with hx;exact⟨h2,arr,ty,_,h4,hx⟩
   ·cases hx
  have hle:=R.yE (fun x L hx=>(hS x L hx).1);refine⟨_,R.yH (fun x L hx=>(hS x L hx).1),R.Dx hS h rfl ?_⟩;unfold dG at h7;simp only[Wc,WJ,WY]at h7;exact⟨some ⟨b,0,none⟩,cap,by show [g.cv id gen]=_;rw[h1],h5, .inr ⟨b,0,arr.toList,rfl,by simp[Gh.ki,S],fun i hi=>(h7 i hi).mono hle.ax⟩⟩
theorem HRel.AJ {B:Base}{g:Gh}{hp:List (Nat×Obj)}{w:World}(R:HRel B g hp w){id gen:Nat}{τ:Ty}{deep:Bool}{xs:List τ.den}
  (h:look hp id=some (.own gen τ deep xs)):∃g',Lk g g'∧HRel B g' ((id, .cf gen τ xs)::hp) w:=by
 obtain⟨g1,l1,R1⟩:=R.GI h;obtain⟨g2,l2,R2⟩:=R1.LM (aF _ _ _);refine⟨g2,l1.trans l2,⟨fun i=> ?_,fun i o hi=> ?_,R2.ax,R2.ed,R2.ey,R2.jh,R2.frame,R2.size,R2.os,R2.tape,R2.output,R2.fix⟩⟩
 ·rw[R2.top i]
  by_cases e:id=i
  ·subst e;simp[aF]
  ·simp[aC _ _ e]
 ·refine R2.eC i o ?_
  by_cases e:id=i
  ·subst e;simpa[aF]using hi
  ·simpa[aC _ _ e]using hi
theorem HRel.FU {B:Base}{g:Gh}{hp:List (Nat×Obj)}{w:World}(R:HRel B g hp w){id gen:Nat}{x:Int}{c:Cell}{xs:List Int}{bt:Nat}
  (h:look hp id=some (.box gen (bt,[.v (.int .i64) x,c]))) (hid:id<E2)
  {b0 o0:Nat} {ql:Array Value} {Kq:TypeId} {VR:Nat×Nat} {u0:Value} (Cx:g.cv id gen= .pointer (some ⟨b0,o0,none⟩)) (K2:w.heap[b0]?=some (.cells ql Kq VR))
  (KZ:ql.toList[1]?=some u0) (hc:lT g.ax xs u0):∃g',Lk g g'∧HRel B g' ((id, .Pb gen (x::xs))::hp) w:=by
 obtain⟨b,o,arr,ty,L,h1,h2,h3,h4,h5,h6,h7⟩:=R.eC _ _ h;obtain⟨u1,r1,e1,mO,u2,r2,e2,vh,e3⟩:=h4;have e3:r2=[]:=e3;subst e3;subst e2;subst e1;have Oe:_=_:=mO.2
 injection Oe with Oe
 subst Oe;obtain⟨rfl,hlen,_⟩:=h7;simp only[V0,V5]at hlen;rw[h1]at Cx
 injection Cx with Cx;injection Cx with Cx;injection Cx with Cx ho0
 subst Cx;rw[h3]at K2
 injection K2 with K2;injection K2 with K2
 subst K2
 have wK:arr.toList=[.int .i64 x,u2]:=by
  rw[h5];have:List.drop (0+2) (g.outer id)=[]:=List.drop_eq_nil_of_le (by omega);simp[this]
 let S:Nat→Option (List Value):=fun y=>if y=b then some arr.toList else none
 have hS:∀x L,S x=some L→g.cM x=some (id+1)∧∃arr ty fr,w.heap[x]?=some (.cells arr ty fr)∧arr.toList=L:=by
  intro x L hx;simp only[S]at hx;split at hx
  ·rename_i e;subst e;injection hx with hx;exact⟨h2.1,arr,ty,_,h3,hx⟩
  ·cases hx
 have hle:=R.yE (fun x L hx=>(hS x L hx).1);refine⟨_,R.yH (fun x L hx=>(hS x L hx).1),R.Dx hS h rfl ?_⟩
 have hu:u2=u0:=by rw[wK]at KZ;simpa using KZ
 subst hu;exact⟨b,u2,h1,by simp[Gh.ki,S,wK],hc.mono hle.ax⟩
theorem HRel.Km {B:Base}{g:Gh}{hp:List (Nat×Obj)}{w:World}(R:HRel B g hp w){id gen:Nat}{τ:Ty}{deep:Bool}{xs:List τ.den}
  (h:look hp id=some (.own gen τ deep xs)) (hf:τ.flat=true):∃g' nb,Lk g g'∧HRel B g' ((id, .dead gen)::hp) w∧
   Lin g'.ed (.sl τ) xs [g.cv id gen] nb∧nb.Nodup∧∀b∈nb,g'.cM b=some 0∧g.cM b≠some 0:=by
 rcases R.eC _ _ h with⟨h1,h2⟩|⟨b,cap,arr,ty,h1,h2,h3,h4,h5,h6,h7⟩
 ·exact⟨g,[],Lk.refl g,R.put h rfl trivial,⟨hf, .inl ⟨by rw[h1],h2,rfl⟩⟩,WM,fun b hb=>by simp at hb⟩
 ·let g':Gh:={g with cM:=fun x=>if x=b then some 0 else g.cM x,ed:=fun x=>if x=b then some arr.toList else g.ed x}
  have hle:Le g g':=⟨fun _ _ h=>h,fun _=>Wp _,fun _ _ _=>rfl⟩
  have nL:∀x,g.cM x=some 0→x≠b:=fun x hx e=>by subst e;rw[h2]at hx;simp at hx
  refine⟨g',[b],⟨hle,fun x hx=>by simp[g',nL x hx,hx],rfl⟩, ?_,⟨hf, .inr ⟨b,cap,arr.toList,by rw[h1],h5,rfl,by simp[g'],by simpa using h6, ?_⟩⟩,by simp,fun x hx=>by
   simp only[List.mem_singleton]at hx;subst hx;exact⟨by simp[g'],by rw[h2];simp⟩⟩
  ·refine⟨fun i=> ?_,fun i oi hi=> ?_,fun x L hx=> ?_,fun x L hx=> ?_,fun x hx=> ?_,R.jh,fun x hx hl hi=> ?_,R.size,R.os,R.tape,R.output,R.fix⟩
   ·show g.top i=_;rw[R.top i]
    by_cases e:id=i
    ·subst e;rw[aF,h];rfl
    ·rw[aC _ _ e]
   ·by_cases e:id=i
    ·subst e;rw[aF]at hi;injection hi with hi;subst hi;trivial
    ·rw[aC _ _ e]at hi;refine(R.eC i oi hi).tr hle (fun x hx=> ?_) rfl (by rw[R.top i,hi];exact Nat.lt_succ_self _)
     have iZ:x≠b:=fun e'=>by subst e';rw[h2]at hx;simp at hx;exact e hx
     simp[g',iZ,hx]
   ·have iZ:x≠b:=fun e'=>by subst e';have:=(R.ax x L hx).1;rw[h2]at this;cases this
    obtain⟨a1,a2,a3⟩:=R.ax x L hx;exact⟨by simp[g',iZ,a1],by simp[g',iZ,a2],a3⟩
   ·by_cases iZ:x=b
    ·subst iZ;simp only[g',if_true]at hx⊢
     injection hx with hx
     exact⟨by simp,arr,ty,h4,hx⟩
    ·simp only[g',iZ,WY]at hx⊢;exact R.ed x L hx
   ·by_cases iZ:x=b
    ·subst iZ;exact R.ey x (by rw[h2];simp)
    ·simp only[g',iZ,WY]at hx;exact R.ey x hx
   ·obtain⟨f1,f2,f3⟩:=R.frame x hx hl hi
    have iZ:x≠b:=fun e'=>by subst e';rw[h2]at f1;cases f1
    exact⟨by simp[g',iZ,f1],f2,f3⟩
  ·unfold dG at h7;simp only[hf,Wq,Wa,WJ,WY]at h7;exact h7.flat hf
end Go.Abs
end

section
namespace Go.Abs
def fi (g:Gh)(env:List (Nat×Slot))(a:Act):Prop:=∀t s,look env t=some s→bV g s (a.tmps.getD t undef)
theorem fi.mono {g g':Gh}(h:Le g g'){env:List (Nat×Slot)}{a:Act}(H:fi g env a):fi g' env a:=fun t s hs=>(H t s hs).mono h
theorem aq {α:Type}{a b:α}{s s':St}(h:(AM.ret a).run s=some (b,s')):b=a∧s'=s:=by
 simp only[AM.run,WI,WU]at h;exact⟨h.1.symm,h.2.symm⟩
theorem bw {α:Type}{x:Option α}{b:α}{s s':St}(h:(fk x).run s=some (b,s')):x=some b∧s'=s:=by
 cases x with
 |none=>cases h
 |some a=>obtain⟨rfl,rfl⟩:=aq h;exact⟨rfl,rfl⟩
theorem ij {τ τ':Ty}{x:List τ.den}{y:List τ'.den}{s s':St}(h:(rQ (τ':=τ') x).run s=some (y,s')):∃e:τ=τ',y=e ▸ x∧s'=s:=by
 unfold rQ at h;split at h
 ·rename_i e;obtain⟨h1,h2⟩:=aq h;exact⟨e,h1,h2⟩
 ·cases h
theorem F8 {α:Type}{b:Bool}{m n:AM α}{x:α}{s s':St}(h:(AM.br b m n).run s=some (x,s')):(b=true∧m.run s=some (x,s'))∨(b=false∧n.run s=some (x,s')):=by
 cases b
 ·exact .inr ⟨rfl,h⟩
 ·exact .inl ⟨rfl,h⟩
theorem jT {α:Type}{b:Bool}{m:AM α}{x:α}{s s':St}(h:(AM.br b m .fail).run s=some (x,s')):b=true∧m.run s=some (x,s'):=by
 rcases F8 h with h|⟨_,h⟩
 ·exact h
 ·cases h
theorem aX {α:Type}{b:Bool}{m:AM α}{x:α}{s s':St}(h:(bif b then m else AM.fail).run s=some (x,s')):b=true∧m.run s=some (x,s'):=by
 cases b
 ·cases h
 ·exact⟨rfl,h⟩
theorem gP {B:Base}{g:Gh}{hp:List (Nat×Obj)}{w:World}(R:HRel B g hp w){id:Nat}{o:Obj}(h:look hp id=some o):o.gen<g.top id:=by
 rw[R.top id,h];exact Nat.lt_succ_self _
theorem FX:∀(k:Nat)(c:Cell)(s:St)(xs:List Int)(s':St),(Ii k c).run s=some (xs,s')→
  s'.env=s.env∧(∀i g cs,look s'.hp i=some (.box g cs)→look s.hp i=some (.box g cs))∧
   ∀B g w,HRel B g s.hp w→∃g',Lk g g'∧HRel B g' s'.hp w∧∀u,aV g c u→lT g'.ax xs u:=by
 intro k
 have np:∀(s:St) (xs:List Int) (s':St),(AM.ret ([]:List Int)).run s=some (xs,s')→
   s'.env=s.env∧(∀i g cs,look s'.hp i=some (.box g cs)→look s.hp i=some (.box g cs))∧
   ∀B g w,HRel B g s.hp w→∃g',Lk g g'∧HRel B g' s'.hp w∧∀u,aV g .np u→lT g'.ax xs u:=by
  intro s xs s' h;obtain⟨rfl,rfl⟩:=aq h;exact⟨rfl,fun _ _ _ h=>h,fun B g w R=>⟨g,Lk.refl g,R,fun u hc=>hc⟩⟩
 have v:∀(x:List Int) (s:St) (xs:List Int) (s':St),(AM.ret x).run s=some (xs,s')→
   s'.env=s.env∧(∀i g cs,look s'.hp i=some (.box g cs)→look s.hp i=some (.box g cs))∧
   ∀B g w,HRel B g s.hp w→∃g',Lk g g'∧HRel B g' s'.hp w∧∀u,aV g (.v .cl x) u→lT g'.ax xs u:=by
  intro x s xs s' h;obtain⟨rfl,rfl⟩:=aq h;exact⟨rfl,fun _ _ _ h=>h,fun B g w R=>⟨g,Lk.refl g,R,fun u hc=>by obtain⟨_,u',e,hx⟩:=hc;injection e with e;subst e;exact hx⟩⟩
 induction k with
 |zero=>
  intro c s xs s' h
  cases c with
  |v τ x=>cases τ<;>first|exact v _ _ _ _ h|exact nomatch h
  |np=>exact np _ _ _ h
  |nf=>exact nomatch h
  |nil=>exact nomatch h
  |own _ _=>exact nomatch h
  |ptr _ _ off=>cases off<;>exact nomatch h
  |fn _ _=>exact nomatch h
  |err _=>exact nomatch h
 |succ k ih=>
  intro c s xs s' h
  cases c with
  |v τ x=>cases τ<;>first|exact v _ _ _ _ h|exact nomatch h
  |np=>exact np _ _ _ h
  |nf=>exact nomatch h
  |nil=>exact nomatch h
  |own _ _=>exact nomatch h
  |fn _ _=>exact nomatch h
  |err _=>exact nomatch h
  |ptr id gen off=>
   cases off with
   |succ n=>exact nomatch h
   |zero=>
    simp only[Ii,AM.run]at h;split at h
    ·rename_i g0 x c heq;obtain⟨hb,h'⟩:=aX h;clear h;simp only[V6]at hb;obtain rfl:=beq_eq hb.1;have hid:id<E2:=Wr hb.2;obtain⟨ys,t,h1,h2⟩:=AM.ai h';clear h';obtain⟨he,QD,hs⟩:=ih _ _ _ _ h1;simp only[AM.run]at h2;split at h2
     ·rename_i g1 cs1 Qa;have e1:=(QD _ _ _ Qa).symm.trans heq
      injection e1 with e1
      injection e1 with ea eb
      subst ea;subst eb;simp only[AM.run,WI,WU]at h2;obtain⟨rfl,rfl⟩:=h2;refine⟨he,fun i g cs hi=> ?_,fun B g w R=> ?_⟩
      ·by_cases ei:id=i
       ·subst ei;simp[aF]at hi
       ·rw[aC _ _ ei]at hi;exact QD _ _ _ hi
      ·have ht:=gP R heq;obtain⟨b',o',arr,ty,L,k1,k2,k3,k4,k5,k6,k7⟩:=R.eC _ _ heq;obtain⟨u1,r1,e1,mO,u2,r2,e2,vh,e3⟩:=k4;have e3:r2=[]:=e3;subst e3;subst e2;subst e1;obtain⟨g2,l1,R1,Mo⟩:=hs B g w R;obtain⟨rfl,hlen,_⟩:=k7;have TG:g2.cv id g1= .pointer (some ⟨b',0,none⟩):=(l1.le.cv _ _ ht).trans k1;obtain⟨g3,l2,R2⟩:=R1.FU Qa hid TG k3 (by rw[k5];simp) (Mo u2 vh);refine⟨g3,l1.trans l2,R2,fun u hc=> ?_⟩;obtain⟨_,b,o,jV,hu⟩:=hc;have hP:lT _ _ _:=R2.eC _ _ (aF _ _ _);have SG:g3.cv id g1=g.cv id g1:=(l1.trans l2).le.cv _ _ ht;rw[SG,jV]at hP;subst hu;exact hP
     ·exact nomatch h2
    ·rename_i g0 ys heq;obtain⟨hb,h'⟩:=aX h;clear h;obtain rfl:=beq_eq hb;obtain⟨rfl,rfl⟩:=aq h';refine⟨rfl,fun _ _ _ h=>h,fun B g w R=>⟨g,Lk.refl g,R,fun u hc=> ?_⟩⟩;obtain⟨ht,b,o,jV,hu⟩:=hc;have Mo:lT _ _ _:=R.eC _ _ heq;rw[jV]at Mo;subst hu;exact Mo
    ·exact nomatch h
theorem xP (τ:Ty)(c:Cell)(s:St)(x:τ.den)(s':St)(h:(datum τ c).run s=some (x,s')):
  s'.env=s.env∧∀B g w,HRel B g s.hp w→∃g',Lk g g'∧HRel B g' s'.hp w∧∀u,aV g c u→τ.one=true∧Rc g'.ax τ x [u]:=by
 cases τ with
 |int k=>
  cases c with
  |v τ' x'=>
   cases τ' with
   |int k'=> ?_
   |_=>exact nomatch h
   simp only[datum]at h;split at h
   ·rename_i e;subst e;obtain⟨rfl,rfl⟩:=aq h;exact⟨rfl,fun B g w R=>⟨g,Lk.refl g,R,fun u hc=>hc⟩⟩
   ·exact nomatch h
  |_=>exact nomatch h
 |bool=>
  cases c with
  |v τ' x'=>
   cases τ' with
   |bool=> ?_
   |_=>exact nomatch h
   obtain⟨rfl,rfl⟩:=aq h;exact⟨rfl,fun B g w R=>⟨g,Lk.refl g,R,fun u hc=>hc⟩⟩
  |_=>exact nomatch h
 |str=>
  cases c with
  |v τ' x'=>
   cases τ' with
   |str=> ?_
   |_=>exact nomatch h
   obtain⟨rfl,rfl⟩:=aq h;exact⟨rfl,fun B g w R=>⟨g,Lk.refl g,R,fun u hc=>hc⟩⟩
  |_=>exact nomatch h
 |un=>cases c<;>exact nomatch h
 |pr a b=>cases c<;>exact nomatch h
 |cl=>
  obtain⟨he,_,hs⟩:=FX 4 c s x s' h;refine⟨he,fun B g w R=> ?_⟩;obtain⟨g',l,R',hc⟩:=hs B g w R;exact⟨g',l,R',fun u hu=>⟨rfl,u,rfl,hc u hu⟩⟩
 |sl e=>
  cases c with
  |v τ' x'=>
   cases τ' with
   |sl e'=> ?_
   |_=>exact nomatch h
   simp only[datum]at h;obtain⟨ee,hx,rfl⟩:=ij h;subst ee;subst hx;exact⟨rfl,fun B g w R=>⟨g,Lk.refl g,R,fun u hc=>hc⟩⟩
  |nil=>
   obtain⟨rfl,rfl⟩:=aq h;exact⟨rfl,fun B g w R=>⟨g,Lk.refl g,R,fun u hc=>⟨rfl,none,0,by have hc:_=_:=hc;subst hc;rfl,Wp _, .inl rfl⟩⟩⟩
  |own id gen=>
   simp only[datum,AM.run]at h;split at h
   ·rename_i g0 τ' deep xs heq;obtain⟨hb,h'⟩:=aX h;clear h;obtain rfl:=beq_eq hb;simp only[AM.run]at h';obtain⟨ee,hx,rfl⟩:=ij h';subst ee;subst hx;refine⟨rfl,fun B g w R=> ?_⟩;obtain⟨g',l,R'⟩:=R.AJ heq;refine⟨g',l,R',fun u hc=>⟨rfl, ?_⟩⟩;have hP:Rc _ _ _ _:=R'.eC _ _ (aF _ _ _);rw[show g'.cv id g0=g.cv id g0 from l.le.cv _ _ (gP R heq)]at hP;rw[hc.2.1];exact hP
   ·rename_i g0 τ' xs heq;obtain⟨hb,h'⟩:=aX h;clear h;obtain rfl:=beq_eq hb;obtain⟨ee,hx,rfl⟩:=ij h';subst ee;subst hx;refine⟨rfl,fun B g w R=>⟨g,Lk.refl g,R,fun u hc=>⟨rfl, ?_⟩⟩⟩;have hP:Rc _ _ _ _:=R.eC _ _ heq;rw[hc.2.1];exact hP
   ·exact nomatch h
  |ptr _ _ _=>exact nomatch h
  |np=>exact nomatch h
  |nf=>exact nomatch h
  |fn _ _=>exact nomatch h
  |err _=>exact nomatch h
theorem Eh (τ:Ty)(c:Cell)(s:St)(x:τ.den)(s':St)(h:(E5 τ c).run s=some (x,s')):
  s'.env=s.env∧∀B g w,HRel B g s.hp w→∃g',Lk g g'∧HRel B g' s'.hp w∧∀u,aV g c u→∃nb,Lin g'.ed τ x [u] nb∧nb.Nodup∧∀b∈nb,g'.cM b=some 0∧g.cM b≠some 0:=by
 have none_:∀{g:Gh} {b:Nat},b∈([]:List Nat)→g.cM b=some 0∧g.cM b≠some 0:=fun h=>by simp at h
 cases τ with
 |int k=>
  cases c with
  |v τ' x'=>
   cases τ' with
   |int k'=> ?_
   |_=>exact nomatch h
   simp only[E5]at h;split at h
   ·rename_i e;subst e;obtain⟨rfl,rfl⟩:=aq h;exact⟨rfl,fun B g w R=>⟨g,Lk.refl g,R,fun u hc=>⟨[],⟨hc.2,rfl⟩,WM,fun b h=>none_ h⟩⟩⟩
   ·exact nomatch h
  |_=>exact nomatch h
 |bool=>
  cases c with
  |v τ' x'=>
   cases τ' with
   |bool=> ?_
   |_=>exact nomatch h
   obtain⟨rfl,rfl⟩:=aq h;exact⟨rfl,fun B g w R=>⟨g,Lk.refl g,R,fun u hc=>⟨[],⟨hc.2,rfl⟩,WM,fun b h=>none_ h⟩⟩⟩
  |_=>exact nomatch h
 |str=>
  cases c with
  |v τ' x'=>
   cases τ' with
   |str=> ?_
   |_=>exact nomatch h
   obtain⟨rfl,rfl⟩:=aq h;exact⟨rfl,fun B g w R=>⟨g,Lk.refl g,R,fun u hc=>⟨[],⟨hc.2,rfl⟩,WM,fun b h=>none_ h⟩⟩⟩
  |_=>exact nomatch h
 |un=>cases c<;>exact nomatch h
 |pr a b=>cases c<;>exact nomatch h
 |cl=>cases c<;>exact nomatch h
 |sl e=>
  cases c with
  |v τ' x'=>cases τ'<;>exact nomatch h
  |nil=>
   obtain⟨hb,h'⟩:=aX h;clear h;obtain⟨rfl,rfl⟩:=aq h';exact⟨rfl,fun B g w R=>⟨g,Lk.refl g,R,fun u hc=>⟨[],⟨hb, .inl ⟨by have hc:_=_:=hc;subst hc;rfl,rfl,rfl⟩⟩,WM,fun b h=>none_ h⟩⟩⟩
  |own id gen=>
   simp only[E5,AM.run]at h;split at h
   ·rename_i g0 τ' deep xs heq;obtain⟨hb,h'⟩:=aX h;clear h;simp only[V6]at hb;obtain rfl:=beq_eq hb.1;simp only[AM.run]at h';obtain⟨ee,hx,rfl⟩:=ij h';subst ee;subst hx;refine⟨rfl,fun B g w R=> ?_⟩;obtain⟨g',nb,l,R',hL,hn,hl⟩:=R.Km heq hb.2;exact⟨g',l,R',fun u hc=>⟨nb,by rw[hc.2.1];exact hL,hn,hl⟩⟩
   ·exact nomatch h
  |ptr _ _ _=>exact nomatch h
  |np=>exact nomatch h
  |nf=>exact nomatch h
  |fn _ _=>exact nomatch h
  |err _=>exact nomatch h
def Got (g:Gh)(mv:Bool)(τ:Ty)(x:τ.den)(us:List Value)(nb:List Nat):Prop:=
 if mv then Lin g.ed τ x us nb∧nb.Nodup∧∀b∈nb,g.cM b=some 0 else Rc g.ax τ x us∧nb=[]
theorem Got.len {g:Gh}{mv:Bool}{τ:Ty}{x:τ.den}{us:List Value}{nb:List Nat}(h:Got g mv τ x us nb):us.length=τ.size:=by
 unfold Got at h;split at h
 ·exact h.1.rc.length
 ·exact h.1.length
theorem Got.mono {g g':Gh}(l:Lk g g'){mv:Bool}{τ:Ty}{x:τ.den}{us:List Value}{nb:List Nat}(h:Got g mv τ x us nb):Got g' mv τ x us nb:=by
 unfold Got at h⊢;split
 ·rename_i e;rw[WK e]at h;exact⟨h.1.mono (fun b hb L hL=>by rw[(l.kp b (h.2.2 b hb)).2];exact hL),h.2.1,fun b hb=>(l.kp b (h.2.2 b hb)).1⟩
 ·rename_i e;rw[Wz e]at h;exact⟨h.1.mono l.le.ax,h.2⟩
theorem IY {mv:Bool}{τ:Ty}(h1:τ.one=true)(cells:List Cell):pack mv τ cells=match cells with
  |c::cs=>(bif mv then E5 τ c else datum τ c).bind fun x=> .ret (x,cs)
  |[]=> .fail:=by
 cases τ<;>first|(simp[Ty.one]at h1;done)|(cases cells<;>rfl)
theorem Aa (mv:Bool):∀(τ:Ty)(cells:List Cell)(s:St)(x:τ.den)(rest:List Cell)(s':St),(pack mv τ cells).run s=some ((x,rest),s')→
  s'.env=s.env∧∀B g w,HRel B g s.hp w→∃g',Lk g g'∧HRel B g' s'.hp w∧∀us,aA g cells us→
   ∃Ho K3 nb,us=Ho++K3∧Got g' mv τ x Ho nb∧aA g' rest K3∧∀b∈nb,g.cM b≠some 0:=by
 have single:∀(τ:Ty),τ.one=true→∀(cells:List Cell) (s:St) (x:τ.den) (rest:List Cell) (s':St),(pack mv τ cells).run s=some ((x,rest),s')→
  s'.env=s.env∧∀B g w,HRel B g s.hp w→∃g',Lk g g'∧HRel B g' s'.hp w∧∀us,aA g cells us→
   ∃Ho K3 nb,us=Ho++K3∧Got g' mv τ x Ho nb∧aA g' rest K3∧∀b∈nb,g.cM b≠some 0:=by
  intro τ h1 cells s x rest s' h;rw[IY h1]at h
  cases cells with
  |nil=>exact nomatch h
  |cons c cs=>
   obtain⟨y,t,h2,h3⟩:=AM.ai h;obtain⟨h4,rfl⟩:=aq h3
   injection h4 with h4 h5
   subst h4;subst h5
   cases mv with
   |true=>
    obtain⟨he,hs⟩:=Eh τ c s _ _ h2;refine⟨he,fun B g w R=> ?_⟩;obtain⟨g',l,R',hc⟩:=hs B g w R;refine⟨g',l,R',fun us hu=> ?_⟩;obtain⟨u,r,rfl,mO,hr⟩:=hu;obtain⟨nb,a1,a2,a3⟩:=hc u mO;exact⟨[u],r,nb,rfl,⟨a1,a2,fun b hb=>(a3 b hb).1⟩,hr.mono l.le,fun b hb=>(a3 b hb).2⟩
   |false=>
    obtain⟨he,hs⟩:=xP τ c s _ _ h2;refine⟨he,fun B g w R=> ?_⟩;obtain⟨g',l,R',hc⟩:=hs B g w R;refine⟨g',l,R',fun us hu=> ?_⟩;obtain⟨u,r,rfl,mO,hr⟩:=hu;exact⟨[u],r,[],rfl,⟨(hc u mO).2,rfl⟩,hr.mono l.le,fun b hb=>by simp at hb⟩
 intro τ
 induction τ with
 |int k=>exact single _ rfl
 |bool=>exact single _ rfl
 |str=>exact single _ rfl
 |sl e _=>exact single _ rfl
 |cl=>exact single _ rfl
 |un=>
  intro cells s x rest s' h;obtain⟨h1,rfl⟩:=aq h
  injection h1 with h1 h2
  subst h2;refine⟨rfl,fun B g w R=>⟨g,Lk.refl g,R,fun us hu=>⟨[],us,[],rfl, ?_,hu,fun b hb=>by simp at hb⟩⟩⟩;unfold Got;split
  ·exact⟨⟨rfl,rfl⟩,WM,fun b hb=>by simp at hb⟩
  ·exact⟨rfl,rfl⟩
 |pr a b BQ BT=>
  intro cells s x rest s' h;obtain⟨p,t,h1,h2⟩:=AM.ai h;obtain⟨q,t2,h3,h4⟩:=AM.ai h2;obtain⟨h5,rfl⟩:=aq h4
  injection h5 with h5 h6
  subst h5;subst h6;obtain⟨e1,k1⟩:=BQ _ _ _ _ _ h1;obtain⟨e2,k2⟩:=BT _ _ _ _ _ h3;refine⟨e2.trans e1,fun B g w R=> ?_⟩;obtain⟨g1,l1,R1,c1⟩:=k1 B g w R;obtain⟨g2,l2,R2,c2⟩:=k2 B g1 w R1;refine⟨g2,l1.trans l2,R2,fun us hu=> ?_⟩;obtain⟨ua,ub,na,rfl,ga,ra,fa⟩:=c1 us hu;obtain⟨uc,ud,nc,rfl,gc,rc,fc⟩:=c2 ub ra;refine⟨ua++uc,ud,na++nc,by simp, ?_,rc, ?_⟩
  ·have MS:=ga.mono l2;unfold Got at ga MS gc⊢
   cases mv with
   |true=>
    simp only[if_true]at ga MS gc⊢;refine⟨⟨ua,uc,na,nc,rfl,rfl,MS.1,gc.1⟩, ?_,fun b hb=> ?_⟩
    ·rw[List.nodup_append];refine⟨MS.2.1,gc.2.1,fun x hx y hy e=> ?_⟩;subst e;exact fc x hy (ga.2.2 x hx)
    ·rcases Wu.1 hb with hb|hb
     ·exact MS.2.2 b hb
     ·exact gc.2.2 b hb
   |false=>
    simp only[WJ,WY]at MS gc⊢;exact⟨⟨ua,uc,rfl,MS.1,gc.1⟩,by rw[MS.2,gc.2];rfl⟩
  ·intro b hb
   rcases Wu.1 hb with hb|hb
   ·exact fa b hb
   ·intro e;exact fc b hb (l1.kp b e).1
theorem jz {g:Gh}:∀{τ:Ty}{x:τ.den}{us:List Value},Rc g.ax τ x us→aA g (unpack τ x) us
 | .int _,_,_,h=>by have h':_=_:=h;subst h';exact⟨_,_,rfl,⟨rfl,h⟩,rfl⟩
 | .bool,_,_,h=>by have h':_=_:=h;subst h';exact⟨_,_,rfl,⟨rfl,h⟩,rfl⟩
 | .str,_,_,h=>by obtain⟨s,e,_⟩:=id h;subst e;exact⟨_,_,rfl,⟨rfl,h⟩,rfl⟩
 | .un,_,_,h=>h
 | .pr _ _,_,_,⟨c1,c2,e,h1,h2⟩=>by subst e;exact(jz h1).append (jz h2)
 | .sl _,_,_,h=>by obtain⟨A,c,e,_⟩:=id h;subst e;exact⟨_,_,rfl,⟨rfl,h⟩,rfl⟩
 | .cl,_,_,h=>by obtain⟨u,e,_⟩:=id h;subst e;exact⟨_,_,rfl,⟨rfl,h⟩,rfl⟩
end Go.Abs
end

section
namespace Go.Abs
open Classical in
noncomputable def Gh.inst (g:Gh)(id gen b:Nat)(u:Value)(nb:List Nat)(out:List Value):Gh:=
  { g with top := fun i => if i = id then gen + 1 else g.top i
           cv:=fun i k=>if i=id∧k=gen then u else g.cv i k
           cM:=fun x=>if x=b∨x∈nb then some (id+1)else g.cM x
           outer:=fun i=>if i=id then out else g.outer i}
structure Free (g:Gh)(hp:List (Nat×Obj))(w:World)(b:Nat):Prop where
 obj:∀i,g.cM b=some (i+1)→∀o,look hp i=some o→∃gen,o= .dead gen
 Km:g.cM b≠some 0
 ax:g.ax b=none
 ed:g.ed b=none
 new:g.cM b=none→w.heap.size≤b
structure Turned (w w':World)(b:Nat):Prop where
 other:∀x,x≠b→w'.heap[x]?=w.heap[x]?
 size:w.heap.size≤w'.heap.size
 lt:b<w'.heap.size
 os:w'.os=w.os
 tape:w'.tape=w.tape
 output:w'.output=w.output
theorem HRel.yK {B:Base}{g:Gh}{hp:List (Nat×Obj)}{w:World}(_R:HRel B g hp w){id gen b:Nat}{u:Value}{nb:List Nat}{out:List Value}
  (hg:gen=g.top id):Le g (g.inst id gen b u nb out):=by
 refine⟨fun _ _ h=>h,fun i=> ?_,fun i k hk=> ?_⟩
 ·show g.top i≤if i=id then gen+1 else g.top i
  split
  ·rename_i e;subst e;omega
  ·exact Wp _
 ·show(if i=id∧k=gen then u else g.cv i k)=g.cv i k;rw[Wz];rintro⟨rfl,rfl⟩;omega
theorem HRel.install {B:Base}{g:Gh}{hp:List (Nat×Obj)}{w w':World}(R:HRel B g hp w){id gen b:Nat}{u:Value}{nb:List Nat}{out:List Value}{o':Obj}
  (hg:gen=g.top id) (hf:Free g hp w b) (hw:Turned w w' b) (o9:∀x∈nb,g.cM x=some 0) (tf:o'.gen=gen)
  (A7:mW (g.inst id gen b u nb out) w' id o'):HRel B (g.inst id gen b u nb out) ((id,o')::hp) w':=by
 have hle:=R.yK (b:=b) (u:=u) (nb:=nb) (out:=out) hg
 have Bj:∀x∈nb,x≠b:=fun x hx e=>hf.Km (by subst e;exact o9 x hx)
 refine⟨fun i=> ?_,fun i oi hi=> ?_,fun x L hx=> ?_,fun x L hx=> ?_,fun x hx=> ?_,R.jh,fun x hx hl hi=> ?_,Nat.le_trans R.size hw.size,hw.os.trans R.os,hw.tape.trans R.tape,hw.output.trans R.output,fun x L hx=> ?_⟩
 ·show(if i=id then gen+1 else g.top i)=_
  by_cases e:id=i
  ·subst e;rw[aF,WK rfl];simp[tf]
  ·rw[aC _ _ e,Wz (fun h=>e h.symm)];exact R.top i
 ·by_cases e:id=i
  ·subst e;rw[aF]at hi;injection hi with hi;subst hi;exact A7
  ·rw[aC _ _ e]at hi
   have fP:oi.gen<g.top i:=by rw[R.top i,hi];exact Nat.lt_succ_self _
   by_cases hb:g.cM b=some (i+1)
   ·obtain⟨gn,rfl⟩:=hf.obj i hb oi hi
    trivial
   ·refine(R.eC i oi hi).tr hle (fun x hx=> ?_) (by simp only[Gh.inst];rw[Wz (fun h=>e h.symm)]) fP
    have iZ:x≠b:=fun e'=>by subst e';exact hb hx
    have jW:x∉nb:=fun hm=>by rw[o9 x hm]at hx;simp at hx
    exact⟨by simp[Gh.inst,iZ,jW,hx],rfl,hw.other x iZ⟩
 ·have hy:g.ax x=some L:=hx;obtain⟨a1,a2,arr,ty,fr,a3,a4⟩:=R.ax x L hy
  have iZ:x≠b:=fun e=>by rw[e,hf.ax]at hy;cases hy
  have jW:x∉nb:=fun hm=>by rw[o9 x hm]at a1;simp at a1
  exact⟨by simp[Gh.inst,iZ,jW,a1],a2,arr,ty,fr,(hw.other x iZ).trans a3,a4⟩
 ·have hy:g.ed x=some L:=hx;obtain⟨a1,arr,ty,a3,a4⟩:=R.ed x L hy
  have iZ:x≠b:=fun e=>by rw[e,hf.ed]at hy;cases hy
  refine⟨?_,arr,ty,(hw.other x iZ).trans a3,a4⟩
  by_cases jW:x∈nb
  ·simp[Gh.inst,jW]
  ·simp[Gh.inst,iZ,jW,a1]
 ·by_cases iZ:x=b
  ·subst iZ;exact hw.lt
  ·by_cases jW:x∈nb
   ·exact WD (R.ey x (by rw[o9 x jW];simp)) hw.size
   ·have MF:g.cM x≠none:=by simpa[Gh.inst,iZ,jW]using hx
    exact WD (R.ey x MF) hw.size
 ·obtain⟨f1,f2,f3⟩:=R.frame x hx hl hi
  have iZ:x≠b:=fun e=>by
   subst e;have:=hf.new f1;have:=R.size;omega
  have jW:x∉nb:=fun hm=>by rw[o9 x hm]at f1;simp at f1
  exact⟨by simp[Gh.inst,iZ,jW,f1],f2,(hw.other x iZ).trans f3⟩
 ·have iZ:x≠b:=fun e=>by
   have:=R.jh x L hx;rw[e,hf.ax]at this;cases this
  exact(hw.other x iZ).trans (R.fix x L hx)
theorem HRel.mI {B:Base}{g:Gh}{hp:List (Nat×Obj)}{w:World}(R:HRel B g hp w):Free g hp w w.heap.size:=by
 have hl:g.cM w.heap.size=none:=by
  cases h:g.cM w.heap.size with
  |none=>rfl
  |some x=>exact absurd (R.ey _ (by rw[h];simp)) (Nat.lt_irrefl _)
 refine⟨fun i h=>absurd (hl.symm.trans h) (by simp),by rw[hl];simp, ?_, ?_,fun _=>Wp _⟩
 ·cases h:g.ax w.heap.size with
  |none=>rfl
  |some L=>
   obtain⟨_,_,arr,ty,fr,h3,_⟩:=R.ax _ _ h;simp at h3
 ·cases h:g.ed w.heap.size with
  |none=>rfl
  |some L=>
   obtain⟨_,arr,ty,h3,_⟩:=R.ed _ _ h;simp at h3
open Classical in
theorem HRel.Nh {B:Base}{g:Gh}{hp:List (Nat×Obj)}{w w':World}(R:HRel B g hp w)(hw:Turned w w' w.heap.size){arr:Array Value}{ty:TypeId}{fr:Nat×Nat}(hb:w'.heap[w.heap.size]?=some (.cells arr ty fr)):
  ∃g',Le g g'∧g'.ax w.heap.size=some arr.toList∧HRel B g' hp w':=by
 have hf:=R.mI
 have hl:g.cM w.heap.size=none:=by
  cases h:g.cM w.heap.size with
  |none=>rfl
  |some x=>exact absurd (R.ey _ (by rw[h];simp)) (Nat.lt_irrefl _)
 let g':Gh:={g with ax:=fun b=>if b=w.heap.size then some arr.toList else g.ax b}
 have hle:Le g g':=⟨fun b L h=>by
  have:b≠w.heap.size:=fun e=>by rw[e,hf.ax]at h;cases h
  simp[g',this,h],fun _=>Wp _,fun _ _ _=>rfl⟩
 refine⟨g',hle,by simp[g'],⟨R.top,fun i o hi=> ?_,fun b L h=> ?_,fun b L h=> ?_,fun b h=>WD (R.ey b h) hw.size,fun b L h=>hle.ax _ _ (R.jh b L h),fun b h1 h2 h3=> ?_,Nat.le_trans R.size hw.size,hw.os.trans R.os,hw.tape.trans R.tape,hw.output.trans R.output,fun b L h=> ?_⟩⟩
 ·refine(R.eC i o hi).tr hle (fun x hx=>⟨hx,rfl,hw.other x fun e=> ?_⟩) rfl (by rw[R.top i,hi];exact Nat.lt_succ_self _);rw[e,hl]at hx;cases hx
 ·by_cases e:b=w.heap.size
  ·subst e;have h:(if w.heap.size=w.heap.size then some arr.toList else g.ax w.heap.size)=some L:=h;rw[WK rfl]at h
   injection h with h
   exact⟨hl,hf.ed,arr,ty,fr,hb,h⟩
  ·have h:g.ax b=some L:=by simpa[g',e]using h
   obtain⟨a1,a2,l8,A5,Va,a3,a4⟩:=R.ax b L h;exact⟨a1,a2,l8,A5,Va,(hw.other b e).trans a3,a4⟩
 ·have h:g.ed b=some L:=h;obtain⟨a1,l8,A5,a3,a4⟩:=R.ed b L h
  have e:b≠w.heap.size:=fun e=>by rw[e,hf.ed]at h;cases h
  exact⟨a1,l8,A5,(hw.other b e).trans a3,a4⟩
 ·obtain⟨f1,f2,f3⟩:=R.frame b h1 h2 h3
  have e:b≠w.heap.size:=fun e=>by have:=R.size;omega
  exact⟨f1,by simp[g',e,f2],(hw.other b e).trans f3⟩
 ·have h':=R.jh b L h
  have e:b≠w.heap.size:=fun e=>by rw[e,hf.ax]at h';cases h'
  exact(hw.other b e).trans (R.fix b L h)
def World.more (w:World)(o:Go.Obj):World:={w with heap:=w.heap.push o}
theorem ri (w:World)(o:Go.Obj):Turned w (World.more w o) w.heap.size:=by
 refine⟨fun x hx=> ?_,by simp[World.more],by simp[World.more],rfl,rfl,rfl⟩;simp only[World.more,Array.getElem?_push];rw[Wz hx]
theorem wc (w:World)(o:Go.Obj):(World.more w o).heap[w.heap.size]?=some o:=by
 show(w.heap.push _)[w.heap.size]?=_;rw[Array.getElem?_push,WK rfl]
theorem gK {B:Base}{g:Gh}{s s':St}{w:World}{id gen:Nat}(R:HRel B g s.hp w)(h:(iL id).run s=some (gen,s')):gen=g.top id∧s'=s:=by
 simp only[iL,AM.run]at h;rw[R.top id]
 cases hl:look s.hp id with
 |none=>rw[hl]at h;obtain⟨rfl,rfl⟩:=aq h;exact⟨rfl,rfl⟩
 |some o=>rw[hl]at h;cases o<;>first|(obtain⟨rfl,rfl⟩:=aq h;exact⟨rfl,rfl⟩)|cases h
theorem kQ {s s':St}{id gen:Nat}(h:(iL id).run s=some (gen,s')):s'=s∧∀gn cs,look s.hp id≠some (.gj gn cs):=by
 simp only[iL,AM.run]at h
 cases hl:look s.hp id with
 |none=>rw[hl]at h;obtain⟨rfl,rfl⟩:=aq h;exact⟨rfl,fun _ _ h=>by cases h⟩
 |some o=>rw[hl]at h;cases o<;>first|(obtain⟨rfl,rfl⟩:=aq h;exact⟨rfl,fun _ _ h=>by cases h⟩)|cases h
end Go.Abs
end

section
namespace Go.Abs
theorem tO {u:Value}{c:Cell}(h:xh u=some c)(g:Gh):aV g c u:=by
 cases u with
 |int k n=>injection h with h;subst h;exact⟨rfl,rfl⟩
 |bool b=>injection h with h;subst h;exact⟨rfl,rfl⟩
 |string s=>injection h with h;subst h;exact⟨rfl,s,rfl,rfl⟩
 |slice a n m=>
  cases a with
  |none=>cases n<;>cases m<;>first|(injection h with h;subst h;rfl)|cases h
  |some a=>cases h
 |pointer a=>cases a<;>first|(injection h with h;subst h;rfl)|cases h
 |nilIface=>injection h with h;subst h;exact .inl ⟨rfl,rfl⟩
 |float k b=>cases h
 |complex k a b=>cases h
 |map r=>cases h
 |chan r=>cases h
 |func f a b=>cases h
 |nilFunc=>injection h with h;subst h;rfl
 |iface t v=>cases h
 |agg cs=>cases h
 |tuple vs=>cases h
theorem ln:∀{us:List Value}{cs:List Cell},oQ us=some cs→∀g,aA g cs us
 |[],_,h,_=>by injection h with h;subst h;rfl
 |u::r,_,h,g=>by
  simp only[oQ,WT,Ww]at h;obtain⟨c,hc,cs,Kr,rfl⟩:=h;exact⟨u,r,rfl,tO hc g,ln Kr g⟩
theorem vP {u:Value}{v:Val}(h:sY u=some v)(g:Gh):cG g v u:=by
 cases u with
 |agg cs=>
  simp only[sY,Ww]at h;obtain⟨Gw,h1,rfl⟩:=h;exact⟨cs.toList,by simp,ln h1 g⟩
 |_=>
  simp only[sY,Ww]at h;obtain⟨c,h1,rfl⟩:=h;exact tO h1 g
theorem lD {x:Operand}{s s':St}{sl:Slot}(h:(ev x).run s=some (sl,s')):s'=s∧∀{g:Gh}{a:Act},fi g s.env a→bV g sl (a.eval x):=by
 cases x with
 |tmp t=>
  simp only[ev,AM.run]at h;split at h
  ·rename_i y hy;simp only[WI,WU]at h;obtain⟨rfl,rfl⟩:=h;exact⟨rfl,fun V=>V t _ hy⟩
  ·cases h
 |const u=>
  simp only[ev]at h;split at h
  ·rename_i c hc;obtain⟨rfl,rfl⟩:=aq h;exact⟨rfl,fun _=>vP hc _⟩
  ·cases h
 |global k=>obtain⟨rfl,rfl⟩:=aq h;exact⟨rfl,fun _=>rfl⟩
 |func f=>obtain⟨rfl,rfl⟩:=aq h;exact⟨rfl,fun _=>⟨[],rfl,rfl⟩⟩
theorem pI {sl:Slot}{v:Val}{s s':St}(h:(E7 sl).run s=some (v,s')):sl= .val v∧s'=s:=by
 cases sl<;>try(cases h;done)
 obtain⟨rfl,rfl⟩:=aq h;exact⟨rfl,rfl⟩
theorem bE {x:Operand}{s s':St}{v:Val}(h:(evV x).run s=some (v,s')):s'=s∧∀{g:Gh}{a:Act},fi g s.env a→cG g v (a.eval x):=by
 obtain⟨sl,t,h1,h2⟩:=AM.ai h;obtain⟨rfl,hs⟩:=lD h1;obtain⟨rfl,rfl⟩:=pI h2;exact⟨rfl,hs⟩
theorem jO:∀{xs:List Operand}{s s':St}{vs:List Val},(uX xs).run s=some (vs,s')→s'=s∧∀{g:Gh}{a:Act},fi g s.env a→db g vs (xs.map a.eval)
 |[],_,_,_,h=>by obtain⟨rfl,rfl⟩:=aq h;exact⟨rfl,fun _=>rfl⟩
 |x::r,_,_,_,h=>by
  obtain⟨v,t,h1,h2⟩:=AM.ai h;obtain⟨vs,t2,h3,h4⟩:=AM.ai h2;obtain⟨rfl,rfl⟩:=aq h4;obtain⟨rfl,k1⟩:=bE h1;obtain⟨rfl,k2⟩:=jO h3;exact⟨rfl,fun V=>⟨_,_,rfl,k1 V,k2 V⟩⟩
theorem im {v:Val}{n:Int}{s s':St}(h:(asInt v).run s=some (n,s')):(∃k,v= .one (.v (.int k) n))∧s'=s:=by
 cases v with
 |agg cs=>cases h
 |one c=>
  cases c<;>try(cases h;done)
  rename_i τ x
  cases τ<;>try(cases h;done)
  rename_i k;obtain⟨rfl,rfl⟩:=aq h;exact⟨⟨k,rfl⟩,rfl⟩
theorem vQ {v:Val}{b:Bool}{s s':St}(h:(asBool v).run s=some (b,s')):v= .one (.v .bool b)∧s'=s:=by
 cases v with
 |agg cs=>cases h
 |one c=>
  cases c<;>try(cases h;done)
  rename_i τ x
  cases τ<;>try(cases h;done)
  obtain⟨rfl,rfl⟩:=aq h;exact⟨rfl,rfl⟩
theorem qF {v:Val}{c:Cell}{s s':St}(h:(one v).run s=some (c,s')):v= .one c∧s'=s:=by
 cases v with
 |agg cs=>cases h
 |one c'=>obtain⟨rfl,rfl⟩:=aq h;exact⟨rfl,rfl⟩
theorem e9 {g:Gh}{k:IntKind}{n:Int}{u:Value}(h:aV g (.v (.int k) n) u):u= .int k n:=by
 have h':_=_:=h.2;injection h'
theorem jB {g:Gh}{b:Bool}{u:Value}(h:aV g (.v .bool b) u):u= .bool b:=by
 have h':_=_:=h.2;injection h'
theorem lF {g:Gh}{l:List Int}{u:Value}(h:aV g (.v .str l) u):∃s,u= .string s∧l=bytesOf s:=by
 obtain⟨_,s,e,h⟩:=h
 injection e with e
 exact⟨s,e,h⟩
theorem rF (g:Gh)(k:IntKind)(n:Int):bV g (wi k n) (.int k n):=⟨rfl,rfl⟩
theorem lG (g:Gh)(b:Bool):bV g (wb b) (.bool b):=⟨rfl,rfl⟩
theorem F6 (g:Gh)(s:ByteArray):bV g (ws (bytesOf s)) (.string s):=⟨rfl,s,rfl,rfl⟩
theorem cR (s:ByteArray):(bytesOf s).length=s.size:=by simp[bytesOf]
theorem tZ:∀{a b:List UInt8},(a.map fun b=>(b.toNat:Int))=b.map (fun b=>(b.toNat:Int))→a=b
 |[],[],_=>rfl
 |[],_::_,h=>by simp at h
 |_::_,[],h=>by simp at h
 |x::a,y::b,h=>by
  simp only[List.map_cons,List.cons.injEq]at h;have e:x.toNat=y.toNat:=(by omega);rw[UInt8.toNat_inj.1 e,tZ h.2]
theorem Ei {a b:ByteArray}(h:bytesOf a=bytesOf b):a=b:=by
 have h2:a.data.toList=b.data.toList:=tZ h;cases a;cases b;simp only[ByteArray.mk.injEq];exact Array.toList_inj.1 h2
theorem zn (a b:ByteArray):bytesOf (a++b)=bytesOf a++bytesOf b:=by
 unfold bytesOf;rw[ByteArray.data_append];simp
theorem p4 (a b:ByteArray):(a.toList==b.toList)=decide (bytesOf a=bytesOf b):=by
 rw[ByteArray.toList_eq,ByteArray.toList_eq]
 by_cases h:a=b
 ·subst h;simp
 ·have h1:¬ bytesOf a=bytesOf b:=fun e=>h (Ei e)
  have h2:¬ a.data.toList=b.data.toList:=fun e=>h1 (by unfold bytesOf;rw[e])
  rw[VW h1];simpa using h2
theorem GP (x y:Int):(x==y)=decide (x=y):=by by_cases h:x=y<;>simp[h]
theorem CN {P:Program}{w:World}{op:BinOp}{t:TypeId}{x y:Operand}{k k':IntKind}{m n:Int}{s s':St}{sl:Slot}(h:(F7 op k k' m n).run s=some (sl,s')):
    s'=s∧∃v,((do eqGuard op t x y (.int k m) (.int k' n);Go.binOp op t (.int k m) (.int k' n)):Sem Value).run P w= .ok v w∧∀g,bV g sl v:=by
  rw[eqGuard_at_int];cases op<;>simp only[F7]at h
  case shr=>
    obtain⟨hb,h⟩:=jT h;obtain⟨rfl,rfl⟩:=aq h;have h0:0≤n:=(by simpa using hb);refine⟨rfl, .int k (m.fdiv (2^min n.toNat k.bits)), ?_,fun g=>rF g k _⟩;have:¬ n<0:=(by omega);simp[Go.binOp,Op.shift,this]
  case shl=>
    obtain⟨hb,h⟩:=jT h;obtain⟨rfl,rfl⟩:=aq h;have h0:0≤n:=(by simpa using hb);refine⟨rfl, .int k (k.wrap (m*2^min n.toNat k.bits)), ?_,fun g=>rF g k _⟩;have:¬ n<0:=(by omega);simp[Go.binOp,Op.shift,this]
  all_goals
    split at h
    case isFalse=>cases h
    case isTrue e=>
      subst e
      first
        | (obtain⟨rfl,rfl⟩:=aq h
           first
             | (refine⟨rfl,_, ?_,fun g=>rF g k _⟩
                first
                  |(simp[Go.binOp,Op.intArith];done)
                  |(simp[Go.binOp,Op.intBits,intBits];done)
                  |(simp[Go.binOp];rfl))
             | (refine⟨rfl,_, ?_,fun g=>lG g _⟩
                first
                  |(simp[Go.binOp,Op.intCmp,bne];done)
                  |(simp[Go.binOp,Op.intCmp,GP,bne];done)))
        | (obtain⟨hb,h⟩:=jT h
           obtain⟨rfl,rfl⟩:=aq h;have h0:¬ n=0:=(by simpa using hb);refine⟨rfl,_, ?_,fun g=>rF g k _⟩
           simp[Go.binOp,Op.intDiv,h0])
        |cases h
theorem CE {P:Program}{w:World}{op:BinOp}{t:TypeId}{x y:Operand}{a b:ByteArray}{s s':St}{sl:Slot}(h:(Du op (bytesOf a) (bytesOf b)).run s=some (sl,s')):
  s'=s∧∃v,((do eqGuard op t x y (.string a) (.string b);Go.binOp op t (.string a) (.string b)):Sem Value).run P w= .ok v w∧∀g,bV g sl v:=by
 rw[eqGuard_at_string]
 cases op<;>simp only[Du]at h<;>try(cases h;done)
 case add=>
  obtain⟨hb,h⟩:=jT h;obtain⟨rfl,rfl⟩:=aq h;have h0:(bytesOf a).length+(bytesOf b).length≤lim:=Wr hb;rw[cR,cR]at h0;unfold lim at h0;refine⟨rfl, .string (a++b), ?_,fun g=>by rw[←zn];exact F6 g _⟩;have h1:¬ (((a.size+b.size:Nat):Int)>9223372036854775807):=(by omega);have h2:i64.max=9223372036854775807:=(by decide);simp only[Go.binOp,Op.stringOp,h2];rw[Wz h1];rfl
 case eql=>
  obtain⟨rfl,rfl⟩:=aq h;refine⟨rfl,_, ?_,fun g=>lG g _⟩;rw[←p4];simp[Go.binOp,Op.stringOp]
 case neq=>
  obtain⟨rfl,rfl⟩:=aq h;refine⟨rfl,_, ?_,fun g=>lG g _⟩;rw[←p4];simp[Go.binOp,Op.stringOp]
theorem nA {op:BinOp}{b:Bool}{s s':St}{sl:Slot}(h:(xt op b).run s=some (sl,s')):s'=s∧((op= .eql∧sl=wb b)∨(op= .neq∧sl=wb (!b))):=by
 cases op<;>simp only[xt]at h<;>try(cases h;done)
 ·obtain⟨rfl,rfl⟩:=aq h;exact⟨rfl, .inl ⟨rfl,rfl⟩⟩
 ·obtain⟨rfl,rfl⟩:=aq h;exact⟨rfl, .inr ⟨rfl,rfl⟩⟩
theorem DC {g:Gh}{xs:List Int}{u:Value}(h:aV g (.v .cl xs) u):(xs=[]∧u= .pointer none)∨(xs≠[]∧∃b,u= .pointer (some ⟨b,0,none⟩)):=by
 obtain⟨_,u',e,hx⟩:=h
 injection e with e
 subst e
 cases xs with
 |nil=>exact .inl ⟨rfl,hx⟩
 |cons y ys=>obtain⟨b,p,e,_⟩:=hx;exact .inr ⟨by simp,b,e⟩
theorem Es {P:Program}{w:World}{t:TypeId}{cs:Array Value}{off:Nat}{u:Value}(hi:(∃k,P.underlying t=some (.int k))∨P.underlying t=some .bool∨P.underlying t=some .string)
  (hu:cs[off]?=some u):(part t cs off).run P w= .ok u w:=by
 have:(isAgg t).run P w= .ok false w:=by
  rcases hi with⟨k,h⟩|h|h<;>simp[Go.isAgg,run_underlying h]
 unfold part;simp[this,hu]
theorem zo {P:Program}{w:World}{d:Nat}{g:Gh}:∀{fs:List Field}{n:Nat}{a b:List Cell}{us vs:List Value}{xs ys:Array Value}{r:Bool},
  jy P fs a n=true→gZ a b=some r→aA g a us→aA g b vs→(∀i u,us[i]?=some u→xs[n+i]?=some u)→(∀i u,vs[i]?=some u→ys[n+i]?=some u)→
  (Op.eqFields (d+1) xs ys fs).run P w= .ok r w:=by
 intro fs
 induction fs with
 |nil=>
  intro n a b us vs xs ys r hp he hu hv hx hy
  cases a with
  |cons c cs=>simp[jy]at hp
  |nil=>cases b with
   |nil=>simp only[gZ,WI]at he;subst he;rfl
   |cons c cs=>simp[gZ]at he
 |cons f fs ih=>
  intro n a b us vs xs ys r hp he hu hv hx hy
  cases a with
  |nil=>simp[jy]at hp
  |cons c a=>
  cases c with
  |v τ x=> ?_
  |_=>simp[jy]at hp
  simp only[jy,V6]at hp;obtain⟨⟨⟨h1,h2⟩,h3⟩,h4⟩:=hp;have ho:f.offset=n:=beq_eq h1
  have hn:f.name≠ "_" :=(by simpa using h2)
  obtain⟨u,Fv,rfl,mO,vh⟩:=hu
  cases b with
  |nil=>cases τ<;>simp[gZ]at he
  |cons c' b=>
  obtain⟨v,Ri,rfl,OA,Tg⟩:=hv
  have key:∀(q:Bool),((∃k,P.underlying f.type=some (.int k))∨P.underlying f.type=some .bool∨P.underlying f.type=some .string)→
    (Op.equalIn (d+1) f.type u v).run P w= .ok q w→∀r',gZ a b=some r'→r=(q&&r')→(Op.eqFields (d+1) xs ys (f::fs)).run P w= .ok r w:=by
   intro q ht hq r' Il e;have e1:(part f.type xs f.offset).run P w= .ok u w:=Es ht (by rw[ho];exact hx 0 u rfl);have e2:(part f.type ys f.offset).run P w= .ok v w:=Es ht (by rw[ho];exact hy 0 v rfl);have UY:=ih (xs:=xs) (ys:=ys) h4 Il vh Tg (fun i u hi=>by have:=hx (i+1) u (by simpa using hi);rwa[show n+(i+1)=n+1+i from by omega]at this) (fun i u hi=>by have:=hy (i+1) u (by simpa using hi);rwa[show n+(i+1)=n+1+i from by omega]at this);unfold Op.eqFields;rw[WK hn];simp only[Sem.run_bind,e1,e2,Result.andThen_ok,hq,Sem.run_ite];subst e
   cases q with
   |false=>simp
   |true=>simpa using UY
  cases c' with
  |v τ' x'=> ?_
  |_=>cases τ<;>simp[gZ]at he
  split at h3
  ·rename_i k0 k1 hk
   cases τ'<;>try(simp[gZ]at he;done)
   rename_i k2;simp only[gZ]at he;split at he
   case isFalse=>cases he
   rename_i ek;subst ek;simp only[Ww]at he;obtain⟨r',Il,e⟩:=he;have KZ:=e9 mO;have ON:=e9 OA;subst KZ;subst ON;exact key _ (.inl ⟨_,hk⟩) (run_equalIn_int w d f.type _ _ _ _ hk) r' Il (by rw[←e,GP])
  ·rename_i hk
   cases τ'<;>try(simp[gZ]at he;done)
   simp only[gZ,Ww]at he;obtain⟨r',Il,e⟩:=he;have KZ:=jB mO;have ON:=jB OA;subst KZ;subst ON;exact key _ (.inr (.inl hk)) (run_equalIn_bool' w d f.type _ _ hk) r' Il (by rw[←e];congr 1)
  ·rename_i hk
   cases τ'<;>try(simp[gZ]at he;done)
   simp only[gZ,Ww]at he;obtain⟨r',Il,e⟩:=he;obtain⟨su,KZ,ru⟩:=lF mO;obtain⟨sv,ON,rv⟩:=lF OA;subst KZ;subst ON;exact key _ (.inr (.inr hk)) (run_equalIn_string w d f.type _ _ hk) r' Il (by rw[←e,p4,ru,rv])
  ·cases h3
theorem D2 {E:Env}{op:BinOp}{t:TypeId}{x y:Operand}{va vb:Val}{s s':St}{sl:Slot}(h:(binOp E op t va vb).run s=some (sl,s')):
  s'=s∧∀{g:Gh} {u1 u2:Value} {w:World},cG g va u1→cG g vb u2→∃v,((do eqGuard op t x y u1 u2;Go.binOp op t u1 u2):Sem Value).run E.P w= .ok v w∧bV g sl v:=by
 unfold binOp at h;split at h
 ·rename_i k m k' n
  have hs:=fun w=>CN (P:=E.P) (w:=w) (t:=t) (x:=x) (y:=y) h
  refine⟨(hs default).1,fun{g u1 u2 w} r1 r2=> ?_⟩;have e1:=e9 r1;have e2:=e9 r2;subst e1;subst e2;obtain⟨v,hv,hr⟩:=(hs w).2;exact⟨v,hv,hr g⟩
 ·rename_i l m
  have hs:s'=s:=by
   cases op<;>simp only[Du]at h<;>try(cases h;done)
   ·exact(aq (jT h).2).2
   ·exact(aq h).2
   ·exact(aq h).2
  refine⟨hs,fun{g u1 u2 w} r1 r2=> ?_⟩;obtain⟨s1,e1,l1⟩:=lF r1;obtain⟨s2,e2,l2⟩:=lF r2;subst e1;subst e2;subst l1;subst l2;obtain⟨_,v,hv,hr⟩:=CE (P:=E.P) (w:=w) (t:=t) (x:=x) (y:=y) h;exact⟨v,hv,hr g⟩
 ·rename_i b c;split at h
  ·rename_i ht;obtain⟨rfl,he⟩:=nA h;refine⟨rfl,fun{g u1 u2 w} r1 r2=> ?_⟩;have e1:=jB r1;have e2:=jB r2;subst e1;subst e2;rw[eqGuard_at_bool]
   have e0:(b==c)=decide (b=c):=by cases b<;>cases c<;>rfl
   rcases he with⟨rfl,rfl⟩|⟨rfl,rfl⟩
   ·refine⟨_, ?_,lG g _⟩;have hq:=run_equalIn_bool' (P:=E.P) w 9999 t b c ht;simp only[Go.binOp];simp[Op.equal,Op.maxDepth,hq,e0]
   ·refine⟨_, ?_,lG g _⟩;have hq:=run_equalIn_bool' (P:=E.P) w 9999 t b c ht;simp only[Go.binOp];simp[Op.equal,Op.maxDepth,hq,e0]
  ·cases h
 ·rename_i xs;split at h
  ·rename_i te ht;obtain⟨rfl,he⟩:=nA h;refine⟨rfl,fun{g u1 u2 w} r1 r2=> ?_⟩;have e2:u2= .pointer none:=r2;subst e2
   have hq:∀d,(Op.equalIn (d+1) t u1 (.pointer none)).run E.P w= .ok (List.isEmpty (α:=Int) xs) w:=fun d=>by
    rcases DC r1 with⟨e,e1⟩|⟨e,b,e1⟩
    ·rw[e];subst e1;simp[Op.equalIn,run_underlying ht]
    ·have e2:List.isEmpty (α:=Int) xs=false:=by
      have:(xs:List Int)≠[]:=e
      generalize(xs:List Int)=ys at this
      cases ys<;>simp_all
     rw[e2];subst e1;simp[Op.equalIn,run_underlying ht]
   have Uh:=hq 9999
   have hg:eqGuard op t x y u1 (.pointer none)=pure ():=by
    rcases DC r1 with⟨_,e1⟩|⟨_,b,e1⟩<;>subst e1<;>exact eqGuard_at_pointer ..
   rw[hg]
   have mO:∃a,u1= .pointer a:=by rcases DC r1 with⟨_,e1⟩|⟨_,b,e1⟩<;>exact⟨_,e1⟩
   obtain⟨a,rfl⟩:=mO
   rcases he with⟨rfl,rfl⟩|⟨rfl,rfl⟩
   ·exact⟨_,by simp only[Go.binOp];simp[Op.equal,Op.maxDepth,Uh],lG g _⟩
   ·exact⟨_,by simp only[Go.binOp];simp[Op.equal,Op.maxDepth,Uh],lG g _⟩
  ·cases h
 ·rename_i a b;split at h
  ·rename_i fs r ht hr;obtain⟨hb,h'⟩:=aX h;clear h;simp only[V6,WV]at hb;obtain⟨⟨h1,h2⟩,h3⟩:=hb;obtain⟨rfl,he⟩:=nA h';refine⟨rfl,fun{g u1 u2 w} r1 r2=> ?_⟩;obtain⟨us,e1,hu⟩:=r1;obtain⟨vs,e2,hv⟩:=r2;subst e1;subst e2
   have hf:E.P.fieldsOf t=fs:=by unfold Program.fieldsOf;rw[ht]
   have hq:(Op.equalIn 10000 t (.agg us.toArray) (.agg vs.toArray)).run E.P w= .ok r w:=by
    rw[run_equalIn_agg w 9999 t _ _ (by rw[hf];exact ht) h1,hf];exact zo h3 hr hu hv (fun i u hi=>by simpa using hi) (fun i u hi=>by simpa using hi)
   have hg:=run_eqGuard_agg (P:=E.P) w op t x y us.toArray vs.toArray h2
   rcases he with⟨rfl,rfl⟩|⟨rfl,rfl⟩
   ·refine⟨_, ?_,lG g _⟩;simp only[Sem.run_bind,hg,Result.andThen_ok,run_eql_struct,hq]
   ·refine⟨_, ?_,lG g _⟩;simp only[Sem.run_bind,hg,Result.andThen_ok,run_neq_struct,hq]
  ·cases h
 ·cases h
theorem CU {E:Env}{op:BinOp}{t:TypeId}{x:Operand}{va:Val}{s s':St}{sl:Slot}(h:(FZ E op t va).run s=some (sl,s')):
  s'=s∧∀{g:Gh} {u1:Value} {w:World},cG g va u1→∃v,((do eqGuard op t x (.const .nilIface) u1 .nilIface;Go.binOp op t u1 .nilIface):Sem Value).run E.P w= .ok v w∧bV g sl v:=by
 unfold FZ at h;split at h
 ·rename_i b;split at h
  ·rename_i ms ht;obtain⟨rfl,he⟩:=nA h;refine⟨rfl,fun{g u1 w} r1=> ?_⟩
   rcases r1 with⟨rfl,rfl⟩|⟨rfl,tv,v,rfl⟩
   ·rw[eqGuard_nil_constR]
    have Mf:∀d,(Op.equalIn (d+1) t .nilIface .nilIface).run E.P w= .ok true w:=fun d=>by simp[Op.equalIn,run_underlying ht]
    have hq:=Mf 9999
    rcases he with⟨rfl,rfl⟩|⟨rfl,rfl⟩
    ·exact⟨_,by simp only[Go.binOp];simp[Op.equal,Op.maxDepth,hq],lG g _⟩
    ·exact⟨_,by simp only[Go.binOp];simp[Op.equal,Op.maxDepth,hq],lG g _⟩
   ·rw[eqGuard_at_iface]
    have Mf:∀d,(Op.equalIn (d+1) t (.iface tv v) .nilIface).run E.P w= .ok false w:=fun d=>by simp[Op.equalIn,run_underlying ht]
    have hq:=Mf 9999
    rcases he with⟨rfl,rfl⟩|⟨rfl,rfl⟩
    ·exact⟨_,by simp only[Go.binOp];simp[Op.equal,Op.maxDepth,hq],lG g _⟩
    ·exact⟨_,by simp only[Go.binOp];simp[Op.equal,Op.maxDepth,hq],lG g _⟩
  ·cases h
 ·cases h
end Go.Abs
end

section
namespace Go.Abs
def Yld (E:Env)(op:Op)(s:St)(sl:Slot)(s':St):Prop:=
 s'.env=s.env∧∀(o:Oper),o.op=op→∀B g a w,HRel B g s.hp w→fi g s.env a→
  ∃v w' g',(execOp a.eval o).run E.P w= .ok (.value v) w'∧Le g g'∧HRel B g' s'.hp w'∧bV g' sl v
theorem cc {P:Program}{w w':World}{x:Sem Value}{v:Value}(h:x.run P w= .ok v w'):((do pure (.value (←x))):Sem Next).run P w= .ok (.value v) w':=by
 simp[h]
theorem Yld.still {E:Env}{op:Op}{s:St}{sl:Slot}(h:∀(o:Oper),o.op=op→∀B g a w,HRel B g s.hp w→fi g s.env a→∃v,(execOp a.eval o).run E.P w= .ok (.value v) w∧bV g sl v):Yld E op s sl s:=
 ⟨rfl,fun o ho B g a w R V=>by obtain⟨v,h1,h2⟩:=h o ho B g a w R V;exact⟨v,w,g,h1,Le.refl g,R,h2⟩⟩
theorem Ac {E:Env}{x:Operand}{s s':St}{sl:Slot}(h:(ev x).run s=some (sl,s')):Yld E (.move x) s sl s'∧Yld E (.assign x) s sl s':=by
 obtain⟨rfl,hr⟩:=lD h;exact⟨.still fun o ho B g a w R V=>⟨a.eval x,by unfold execOp;rw[ho];rfl,hr V⟩, .still fun o ho B g a w R V=>⟨a.eval x,by unfold execOp;rw[ho];rfl,hr V⟩⟩
theorem Fx {E:Env}{c x y:Operand}{s s':St}{sl:Slot}{d:Nat}(h:(cN E d (.pick c x y)).run s=some (sl,s')):Yld E (.pick c x y) s sl s':=by
 obtain⟨v,t,h1,h2⟩:=AM.ai h;obtain⟨b,t2,h3,h4⟩:=AM.ai h2;obtain⟨rfl,r1⟩:=bE h1;obtain⟨rfl,rfl⟩:=vQ h3
 rcases F8 h4 with⟨rfl,h5⟩|⟨rfl,h5⟩
 ·obtain⟨rfl,r2⟩:=lD h5
  refine .still fun o ho B g a w R V=>⟨a.eval x, ?_,r2 V⟩
  have e:=jB (r1 V);unfold execOp;rw[ho];simp[e,Go.asBool]
 ·obtain⟨rfl,r2⟩:=lD h5
  refine .still fun o ho B g a w R V=>⟨a.eval y, ?_,r2 V⟩
  have e:=jB (r1 V);unfold execOp;rw[ho];simp[e,Go.asBool]
theorem H5 {E:Env}{op:BinOp}{t ty:TypeId}{x y:Operand}{s s':St}{sl:Slot}{d:Nat}(h:(cN E d (.binOp op t x y ty)).run s=some (sl,s')):Yld E (.binOp op t x y ty) s sl s':=by
 obtain⟨va,t1,h1,h2⟩:=AM.ai h;obtain⟨rfl,r1⟩:=bE h1;split at h2
 ·obtain⟨rfl,hr⟩:=CU (x:=x) h2
  refine .still fun o ho B g a w R V=> ?_
  obtain⟨v,e,hs⟩:=hr (w:=w) (r1 V);refine⟨v, ?_,hs⟩;unfold execOp;rw[ho];exact cc e
 ·obtain⟨vb,t2,h3,h4⟩:=AM.ai h2;obtain⟨rfl,r2⟩:=bE h3;obtain⟨rfl,hr⟩:=D2 (x:=x) (y:=y) h4
  refine .still fun o ho B g a w R V=> ?_
  obtain⟨v,e,hs⟩:=hr (w:=w) (r1 V) (r2 V);refine⟨v, ?_,hs⟩;unfold execOp;rw[ho];exact cc e
theorem HO {E:Env}{t:TypeId}{x:Operand}{s s':St}{sl:Slot}{d:Nat}(h:(cN E d (.unOp .not t x)).run s=some (sl,s')):Yld E (.unOp .not t x) s sl s':=by
 obtain⟨v,t,h1,h2⟩:=AM.ai h;obtain⟨b,t2,h3,h4⟩:=AM.ai h2;obtain⟨rfl,r1⟩:=bE h1;obtain⟨rfl,rfl⟩:=vQ h3;obtain⟨rfl,rfl⟩:=aq h4
 refine .still fun o ho B g a w R V=>⟨.bool !b, ?_,lG g _⟩
 have e:=jB (r1 V);unfold execOp;rw[ho];simp[e,Op.unary]
theorem HT {E:Env}{t:TypeId}{x:Operand}{s s':St}{sl:Slot}{d:Nat}(h:(cN E d (.unOp .neg t x)).run s=some (sl,s')):Yld E (.unOp .neg t x) s sl s':=by
 obtain⟨v,t,h1,h2⟩:=AM.ai h;obtain⟨rfl,r1⟩:=bE h1;split at h2
 ·rename_i k n;obtain⟨rfl,rfl⟩:=aq h2
  refine .still fun o ho B g a w R V=>⟨.int k (k.wrap (0 - n)), ?_,rF g k _⟩
  have e:=e9 (r1 V);unfold execOp;rw[ho];simp[e,Op.unary,Op.intArith]
 ·cases h2
theorem zh {E:Env}{x:Operand}{s s':St}{sl:Slot}{d:Nat}(h:(cN E d (.nilCheck x)).run s=some (sl,s')):Yld E (.nilCheck x) s sl s':=by
 obtain⟨s1,t,h1,h2⟩:=AM.ai h;obtain⟨rfl,r1⟩:=lD h1;unfold nilCheck at h2;split at h2
 ·obtain⟨rfl,rfl⟩:=aq h2
  refine .still fun o ho B g a w R V=>⟨a.eval x, ?_,r1 V⟩
  obtain⟨_,b,o',_,e⟩:=r1 V;unfold execOp;rw[ho];simp[e]
 ·obtain⟨rfl,rfl⟩:=aq h2
  refine .still fun o ho B g a w R V=>⟨a.eval x, ?_,r1 V⟩
  obtain⟨vs,e,_⟩:=r1 V;unfold execOp;rw[ho];simp[e]
 ·rename_i xs;obtain⟨hb,h3⟩:=jT h2;obtain⟨rfl,rfl⟩:=aq h3
  refine .still fun o ho B g a w R V=>⟨a.eval x, ?_,r1 V⟩
  rcases DC (r1 V)with⟨e,_⟩|⟨_,b,e⟩
  ·rw[e]at hb;simp at hb
  ·unfold execOp;rw[ho];simp[e]
 ·cases h2
theorem BB {E:Env}{x:Operand}{i:Nat}{s s':St}{sl:Slot}{d:Nat}(h:(cN E d (.extract x i)).run s=some (sl,s')):Yld E (.extract x i) s sl s':=by
 obtain⟨s1,t,h1,h2⟩:=AM.ai h;obtain⟨rfl,r1⟩:=lD h1;split at h2
 ·rename_i vs;obtain⟨v,t2,h3,h4⟩:=AM.ai h2;obtain⟨hv,rfl⟩:=bw h3;obtain⟨rfl,rfl⟩:=aq h4
  refine .still fun o ho B g a w R V=> ?_
  obtain⟨us,e,hu⟩:=r1 V
  have key:∀{vs:List Val} {us:List Value} {i:Nat} {v:Val},db g vs us→vs[i]?=some v→∃u,us[i]?=some u∧cG g v u:=by
   intro vs
   induction vs with
   |nil=>intro us i v _ h;simp at h
   |cons c cs ih=>
    intro us i v ⟨u,r,e,hu,hr⟩ h;subst e
    cases i with
    |zero=>simp at h;subst h;exact⟨u,rfl,hu⟩
    |succ i=>simpa using ih hr (by simpa using h)
  obtain⟨u,mO,vh⟩:=key hu hv;refine⟨u, ?_,vh⟩;unfold execOp;rw[ho];simp[e,Instr.extract,mO]
 ·cases h2
theorem FI {g:Gh}:∀{vs:List Val}{cs:List (Nat×Nat)}{us:List Value},s6 vs=some cs→db g vs us→o7 g cs us:=by
 intro vs
 induction vs with
 |nil=>
  intro cs us hc hv;simp only[s6,WI]at hc;subst hc;exact hv
 |cons c vs ih=>
  intro cs us hc hv;obtain⟨u,r,e,hu,hr⟩:=hv;subst e
  cases c with
  |agg cs=>simp[s6]at hc
  |one c=>
   cases c with
   |ptr id gen off=>
    cases off with
    |succ n=>simp[s6]at hc
    |zero=>
     simp only[s6,Ww]at hc;obtain⟨Gw,IG,rfl⟩:=hc;obtain⟨ht,b,o,jV,hu⟩:=hu;exact⟨b,o,r,by rw[hu];rfl,ht,jV,ih IG hr⟩
   |_=>simp[s6]at hc
theorem zb {E:Env}{f:Fn}{first gp:Array Operand}{s s':St}{sl:Slot}{d:Nat}(h:(cN E d (.makeFunc f first gp)).run s=some (sl,s')):Yld E (.makeFunc f first gp) s sl s':=by
 cases f with
 |func f=> ?_
 |_=>cases h
 obtain⟨hb,h⟩:=aX h;obtain⟨vs,t,h1,h2⟩:=AM.ai h;obtain⟨cs,t2,h3,h4⟩:=AM.ai h2;obtain⟨rfl,r1⟩:=jO h1;obtain⟨hc,rfl⟩:=bw h3;obtain⟨rfl,rfl⟩:=aq h4
 refine .still fun o ho B g a w R V=>⟨.func (.func f) #[] (gp.toList.map a.eval).toArray, ?_,gp.toList.map a.eval,rfl, ?_⟩
 ·unfold execOp;rw[ho]
  have e:first=#[]:=(by simpa using hb)
  simp only[e,Instr.makeFunc];cases gp;simp
 ·exact FI hc (r1 V)
theorem tT {c:Cell}{s s':St}{n:Nat}(h:(yR c).run s=some (n,s')):s'=s∧∀{B:Base}{g:Gh}{w:World}{u:Value},HRel B g s.hp w→aV g c u→
  (c.isStr=true∧∃st,u= .string st∧st.size=n)∨(c.isStr=false∧∃A cap,u= .slice A n cap∧(0<n→∃b o,A=some ⟨b,o,none⟩)):=by
 cases c with
 |v τ x=>
  cases τ with
  |str=>
   obtain⟨rfl,rfl⟩:=aq h;refine⟨rfl,fun R hc=> ?_⟩;obtain⟨st,e,l⟩:=lF hc;exact .inl ⟨rfl,st,e,by rw[l,cR]⟩
  |sl e=>
   obtain⟨rfl,rfl⟩:=aq h;refine⟨rfl,fun R hc=> ?_⟩;obtain⟨_,A,cap,e,_,hx⟩:=hc
   injection e with e
   refine .inr ⟨rfl,A,cap,e,fun hn=> ?_⟩
   rcases hx with hx|⟨b,o,_,hA,_⟩
   ·have:(x:List _)=[]:=hx;rw[this]at hn;simp at hn
   ·exact⟨b,o,hA⟩
  |_=>cases h
 |nil=>
  obtain⟨rfl,rfl⟩:=aq h;exact⟨rfl,fun R hc=> .inr ⟨rfl,none,0,hc,fun hn=>absurd hn (by simp)⟩⟩
 |own id gen=>
  simp only[yR,AM.run]at h;split at h
  ·rename_i g0 τ dp xs heq;obtain⟨hb,h'⟩:=aX h;obtain rfl:=beq_eq hb;obtain⟨rfl,rfl⟩:=aq h';refine⟨rfl,fun R hc=> ?_⟩
   rcases R.eC _ _ heq with⟨e1,e2⟩|⟨b,cap,arr,ty,e1,_⟩
   ·subst e2;exact .inr ⟨rfl,none,0,hc.2.1.trans e1,fun hn=>absurd hn (by simp)⟩
   ·exact .inr ⟨rfl,_,cap,hc.2.1.trans e1,fun _=>⟨b,0,rfl⟩⟩
  ·rename_i g0 τ xs heq;obtain⟨hb,h'⟩:=aX h;obtain rfl:=beq_eq hb;obtain⟨rfl,rfl⟩:=aq h';refine⟨rfl,fun R hc=> ?_⟩;obtain⟨A,cap,e,_,hx⟩:=R.eC _ _ heq
   injection e with e
   refine .inr ⟨rfl,A,cap,hc.2.1.trans e,fun hn=> ?_⟩
   rcases hx with hx|⟨b,o,_,hA,_⟩
   ·rw[hx]at hn;simp at hn
   ·exact⟨b,o,hA⟩
  ·rename_i g0 xs a ag bid bg off heq;obtain⟨hb,h'⟩:=aX h;obtain rfl:=beq_eq hb;obtain⟨rfl,rfl⟩:=aq h';refine⟨rfl,fun R hc=> ?_⟩;obtain⟨_,_,_,⟨_,e1,e2⟩|⟨bb,oo,_,_,⟨e1,e2⟩|⟨b,cap,arr,ty,e1,_⟩⟩⟩:=R.eC _ _ heq
   ·subst e2;exact .inr ⟨rfl,none,0,hc.2.1.trans e1,fun hn=>absurd hn (by simp)⟩
   ·subst e2;exact .inr ⟨rfl,none,0,hc.2.1.trans e1,fun hn=>absurd hn (by simp)⟩
   ·exact .inr ⟨rfl,_,cap,hc.2.1.trans e1,fun _=>⟨b,0,rfl⟩⟩
  ·cases h
 |_=>cases h
theorem EM {g:Gh}{vs:List Val}{us:List Value}(h:db g vs us){v:Val}(e:vs=[v]):∃u,us=[u]∧cG g v u:=by
 subst e;obtain⟨u,r,e,hu,hr⟩:=h;have hr:_=_:=hr;subst hr;exact⟨u,e,hu⟩
theorem ER {g:Gh}{vs:List Val}{us:List Value}(h:db g vs us){v v':Val}(e:vs=[v,v']):∃u u',us=[u,u']∧cG g v u∧cG g v' u':=by
 subst e;obtain⟨u,r,e,hu,u',r',e',VJ,hr⟩:=h;have hr:_=_:=hr;subst hr;subst e';exact⟨u,u',e,hu,VJ⟩
theorem GU {E:Env}{t:TypeId}{c:Cell}(h:E.fit t c=true):(E.P.underlying t=some .string∧c.isStr=true)∨(∃e,E.P.underlying t=some (.slice e)∧c.isStr=false):=by
 unfold Env.fit at h;split at h
 ·rename_i e;exact .inl ⟨e,h⟩
 ·rename_i e;exact .inr ⟨_,e,by simpa using h⟩
 ·cases h
theorem HV {E:Env}{c:Call}(hc:c.callee= .builtin .len){s s':St}{sl:Slot}{d:Nat}(h:(cN E d (.call c)).run s=some (sl,s')):Yld E (.call c) s sl s':=by
 simp only[cN,hc]at h;obtain⟨vs,t,h1,h2⟩:=AM.ai h;obtain⟨rfl,r1⟩:=jO h1;split at h2
 ·rename_i x;obtain⟨hb,h3⟩:=aX h2;obtain⟨n,t2,h4,h5⟩:=AM.ai h3;obtain⟨rfl,hl⟩:=tT h4;obtain⟨rfl,rfl⟩:=aq h5
  refine .still fun o ho B g a w R V=>⟨.int .i64 n, ?_,rF g _ _⟩
  obtain⟨u,hu,hr⟩:=EM (r1 V) rfl
  have Hu:c.args.map a.eval=#[u]:=by
   have:c.args=c.args.toList.toArray:=(by simp);rw[this];simp only[List.map_toArray,hu]
  have⟨t0,Vn,mN⟩:∃t0,c.argTypes[0]?=some t0∧E.fit t0 x=true:=by
   cases hh:c.argTypes[0]? with
   |none=>rw[hh]at hb;simp at hb
   |some t0=>rw[hh]at hb;exact⟨t0,rfl,by simpa using hb⟩
  unfold execOp;rw[ho];simp only[resolve,hc,Go.invoke,builtin,Sem.run_bind,Sem.run_pure,Result.andThen_ok,Hu,Builtin.len_,Vn]
  rcases GU mN with⟨e1,e2⟩|⟨e,e1,e2⟩
  ·rcases hl R hr with⟨_,st,e4,l'⟩|⟨e3,_⟩
   ·subst e4;simp[run_underlying e1,goInt,l']
   ·rw[e2]at e3;cases e3
  ·rcases hl R hr with⟨e3,_⟩|⟨_,A,cap,e3,_⟩
   ·rw[e2]at e3;cases e3
   ·subst e3;simp[run_underlying e1,goInt]
 ·cases h2
theorem H2 {E:Env}{c:Call}(hc:c.callee= .builtin .max){s s':St}{sl:Slot}{d:Nat}(h:(cN E d (.call c)).run s=some (sl,s')):Yld E (.call c) s sl s':=by
 simp only[cN,hc]at h;obtain⟨vs,t,h1,h2⟩:=AM.ai h;obtain⟨rfl,r1⟩:=jO h1;split at h2
 ·rename_i k x k' y;obtain⟨rfl,rfl⟩:=aq h2
  refine .still fun o ho B g a w R V=>⟨.int k (if y>x then y else x), ?_,rF g _ _⟩
  obtain⟨u,u',hu,hr,Il⟩:=ER (r1 V) rfl
  have Hu:c.args.map a.eval=#[u,u']:=by
   have:c.args=c.args.toList.toArray:=(by simp);rw[this];simp only[List.map_toArray,hu]
  have e1:=e9 hr;have e2:=e9 Il;subst e1;subst e2;unfold execOp;rw[ho];simp[resolve,hc,Go.invoke,builtin,Hu,Builtin.max_,Builtin.max2]
 ·cases h2
theorem Em {E:Env}{t:TypeId}{x i:Operand}{s s':St}{sl:Slot}{d:Nat}(h:(cN E d (.index t x i)).run s=some (sl,s')):Yld E (.index t x i) s sl s':=by
 obtain⟨v,t1,h1,h2⟩:=AM.ai h;obtain⟨iv,t2,h3,h4⟩:=AM.ai h2;obtain⟨n,t3,h5,h6⟩:=AM.ai h4;obtain⟨rfl,r1⟩:=bE h1;obtain⟨rfl,r2⟩:=bE h3;obtain⟨⟨k,rfl⟩,rfl⟩:=im h5;split at h6
 ·rename_i l ht;obtain⟨hb,h7⟩:=jT h6;obtain⟨rfl,rfl⟩:=aq h7
  refine .still fun o ho B g a w R V=> ?_
  obtain⟨st,e,hl⟩:=lF (r1 V);have e2:=e9 (r2 V);simp only[V6,V4]at hb
  have hlen:n.toNat<st.size:=by
   have:(l:List Int).length=st.size:=(by rw[hl,cR]);omega
  have fP:n.toNat<st.data.toList.length:=(by simpa using hlen)
  have Im:(l:List Int).getD n.toNat 0=(st[n.toNat].toNat:Int):=by
   rw[hl];unfold bytesOf;rw[Wm,List.getElem?_map,Wl fP];simp;rfl
  refine⟨.int .u8 (st[n.toNat].toNat:Int), ?_,by rw[←Im];exact rF g _ _⟩;unfold execOp;rw[ho];have h0:0≤n:=hb.1;have hs:st[n.toNat]?=some st[n.toNat]:=(by simp[hlen]);simp[e,e2,Instr.index,asIntOf,run_underlying ht,h0,hs]
 ·cases h6
theorem EY {E:Env}{s:TypeId}{i:Nat}{f:Field}(h:E.field s i=some f):∃fs,E.P.underlying s=some (.struct fs)∧fs[i]?=some f:=by
 unfold Env.field at h;split at h
 ·rename_i fs e;exact⟨fs,e,h⟩
 ·cases h
end Go.Abs
end

section
namespace Go.Abs
theorem Lin.len {r:Rd}{τ:Ty}{x:τ.den}{cs:List Value}{nb:List Nat}(h:Lin r τ x cs nb):cs.length=τ.size:=h.rc.length
theorem ss {id gen:Nat}{s s':St}(h:(wu id gen).run s=some ((),s')):s'.env=s.env∧(∀j gn cs,look s.hp j=some (.gj gn cs)→look s'.hp j=some (.gj gn cs))∧∀{B:Base}{g:Gh}{w:World},HRel B g s.hp w→∃g',Lk g g'∧HRel B g' s'.hp w:=by
 obtain⟨_,rfl⟩:=aq h;exact⟨rfl,fun _ _ _ h=>h,fun{B g w} R=>⟨g,Lk.refl g,R⟩⟩
theorem yo {c:Cell}{s s':St}(h:(xf c).run s=some ((),s')):s'.env=s.env∧∀{B:Base}{g:Gh}{w:World},HRel B g s.hp w→∃g',Lk g g'∧HRel B g' s'.hp w:=by
 unfold xf at h;split at h
 ·obtain⟨h1,_,h2⟩:=ss h;exact⟨h1,h2⟩
 ·obtain⟨_,rfl⟩:=aq h;exact⟨rfl,fun{B g w} R=>⟨g,Lk.refl g,R⟩⟩
theorem HW {E:Env}{ag b:Bool}{sl:Slot}{s s':St}(h:(JJ E ag sl).run s=some (b,s')):s'=s∧(b=true→ag=false):=by
 obtain⟨rfl,rfl⟩:=aq h;exact⟨rfl,fun h=>by cases h⟩
end Go.Abs
end

section
namespace Go.Abs
theorem tu {E:Env}{t:TypeId}{b:Bool}(h:E.isAgg t=some b)(w:World):(Go.isAgg t).run E.P w= .ok b w:=by
 unfold Env.isAgg at h
 cases hu:E.P.underlying t with
 |none=>rw[hu]at h;cases h
 |some d=>
  rw[hu]at h;simp only[Go.isAgg,Sem.run_bind,run_underlying hu,Result.andThen_ok];cases d<;>(injection h with h;subst h;rfl)
theorem run_sizeOf {E:Env}{t:TypeId}{n:Nat}(h:E.sizeOf t=some n)(w:World):(Go.sizeOf t).run E.P w= .ok n w:=by
 unfold Env.sizeOf at h;simp only[Ww]at h;obtain⟨i,hi,rfl⟩:=h;simp[Go.sizeOf,typeInfo,hi]
theorem Ao (b o n:Nat):Addr.add ⟨b,o,none⟩ n=⟨b,o+n,none⟩:=by
 unfold Addr.add;split
 ·rename_i e;subst e;rfl
 ·rfl
theorem yr {E:Env}{t:TypeId}{x:Operand}{i:Nat}{s s':St}{sl:Slot}{d:Nat}(h:(cN E d (.fieldAddr t x i)).run s=some (sl,s')):Yld E (.fieldAddr t x i) s sl s':=by
 obtain⟨s1,t1,h1,h2⟩:=AM.ai h;obtain⟨f,t2,h3,h4⟩:=AM.ai h2;obtain⟨n,t3,h5,h6⟩:=AM.ai h4;obtain⟨rfl,r1⟩:=lD h1;obtain⟨hf,rfl⟩:=bw h3;obtain⟨hn,rfl⟩:=bw h5;obtain⟨hb,h7⟩:=aX h6
 have Ku:¬ n=0:=by have:=Wr hb;omega
 obtain⟨fs,hs,Rh⟩:=EY hf
 have key:∀(b o:Nat) (w:World) (ρ:Operand→Value) (op:Oper),op.op= .fieldAddr t x i→ρ x= .pointer (some ⟨b,o,none⟩)→
   (execOp ρ op).run E.P w= .ok (.value (.pointer (some ⟨b,o+f.offset,none⟩))) w:=by
  intro b o w ρ op ho e;unfold execOp;rw[ho]
  apply cc
  simp[Instr.fieldAt,run_underlying hs,Rh,e,Instr.sureAddr,fieldPlace,run_sizeOf hn,Ku,Ao]
 unfold fieldAddr at h7;split at h7
 ·rename_i id gen o0;obtain⟨rfl,rfl⟩:=aq h7
  refine .still fun o ho B g a w R V=> ?_
  obtain⟨ht,b,o',jV,e⟩:=r1 V;exact⟨_,key b _ w a.eval o ho e,ht,b,o',jV,by rw[Nat.add_assoc]⟩
 ·rename_i c i0 o0 sz;obtain⟨rfl,rfl⟩:=aq h7
  refine .still fun o ho B g a w R V=> ?_
  obtain⟨b,o',n',cap,hc,h0,h1,e⟩:=r1 V;exact⟨_,key b _ w a.eval o ho e,b,o',n',cap,hc,h0,h1,by rw[Nat.add_assoc]⟩
 ·rename_i xs;obtain⟨hb,h8⟩:=jT h7;obtain⟨rfl,rfl⟩:=aq h8
  refine .still fun o ho B g a w R V=> ?_
  obtain⟨_,u',e,hx⟩:=r1 V
  injection e with e
  have hx:lT g.ax (xs:List Int) u':=hx
  revert hb hx
  generalize(xs:List Int)=ys
  intro hb hx
  cases ys with
  |nil=>simp at hb
  |cons y ys=>
   obtain⟨b,p,e',yz,Mo⟩:=hx;subst e';refine⟨_,key b 0 w a.eval o ho e,y,ys,b,p,rfl,yz,Mo,by simp⟩
 ·cases h7
theorem rz {g:Gh}{cs:List Cell}{us:List Value}(off n:Nat)(h:aA g cs us):aA g (cut off n cs) ((us.drop off).take n):=(h.drop off).take n
theorem sJ {g:Gh}{ag:Bool}{cs:List Cell}{us:List Value}{v:Val}{s s':St}(h:(xZ ag cs).run s=some (v,s'))(hc:aA g cs us):
  s'=s∧((ag=true∧cG g v (.agg us.toArray))∨(ag=false∧∃u,us=[u]∧cG g v u)):=by
 cases ag with
 |true=>
  obtain⟨rfl,rfl⟩:=aq h;exact⟨rfl, .inl ⟨rfl,us,rfl,hc⟩⟩
 |false=>
  simp only[xZ,Wb]at h;split at h
  ·obtain⟨rfl,rfl⟩:=aq h;obtain⟨u,r,e,hu,hr⟩:=hc;have hr:_=_:=hr;subst hr;exact⟨rfl, .inr ⟨rfl,u,e,hu⟩⟩
  ·cases h
theorem Ay {ag:Bool}{cs:List Cell}{v:Val}{s s':St}(h:(xZ ag cs).run s=some (v,s')):s'=s:=by
 cases ag with
 |true=>exact(aq h).2
 |false=>simp only[xZ,Wb]at h;split at h<;>first|exact(aq h).2|cases h
theorem Eg {E:Env}{t:TypeId}{x:Operand}{i:Nat}{s s':St}{sl:Slot}{d:Nat}(h:(cN E d (.field t x i)).run s=some (sl,s')):Yld E (.field t x i) s sl s':=by
 obtain⟨v,t1,h1,h2⟩:=AM.ai h;obtain⟨rfl,r1⟩:=bE h1;split at h2
 ·rename_i cs;obtain⟨f,t2,h3,h4⟩:=AM.ai h2;obtain⟨ag,t3,h5,h6⟩:=AM.ai h4;obtain⟨n,t4,h7,h8⟩:=AM.ai h6;obtain⟨v2,t5,h9,tF⟩:=AM.ai h8;obtain⟨hf,rfl⟩:=bw h3;obtain⟨Hy,rfl⟩:=bw h5;obtain⟨hn,rfl⟩:=bw h7;obtain⟨rfl,rfl⟩:=aq tF;obtain rfl:=Ay h9;obtain⟨fs,hs,Rh⟩:=EY hf
  refine .still fun o ho B g a w R V=> ?_
  obtain⟨us,e,hu⟩:=r1 V;have Gy:=rz f.offset (bif ag then n else 1) hu;obtain⟨_,hv⟩:=sJ h9 Gy
  rcases hv with⟨rfl,hv⟩|⟨rfl,u,mO,hv⟩
  ·refine⟨_, ?_,hv⟩;unfold execOp;rw[ho]
   apply cc
   simp only[Instr.field,Sem.run_bind,run_underlying hs,Result.andThen_ok,Rh,e,asAgg,Sem.run_pure,part,tu Hy,if_true,run_sizeOf hn,Wg]
   congr 2
   apply Array.ext'
   simp[List.take_drop]
  ·refine⟨u, ?_,hv⟩;unfold execOp;rw[ho]
   apply cc
   have Im:us.toArray[f.offset]?=some u:=by
    have:((us.drop f.offset).take 1)[0]?=some u:=by simp only[Wb]at mO;rw[mO];rfl
    simpa[List.getElem?_take,List.getElem?_drop]using this
   simp only[Instr.field,Sem.run_bind,run_underlying hs,Result.andThen_ok,Rh,e,asAgg,Sem.run_pure,part,tu Hy,WJ,WY,Im]
 ·cases h2
theorem yb {E:Env}{t:TypeId}{x i:Operand}{s s':St}{sl:Slot}{d:Nat}(h:(cN E d (.indexAddr t x i)).run s=some (sl,s')):Yld E (.indexAddr t x i) s sl s':=by
 obtain⟨sz,t0,h0,h1⟩:=AM.ai h;obtain⟨v,t1,h2,h3⟩:=AM.ai h1;obtain⟨c,t2,h4,h5⟩:=AM.ai h3;obtain⟨iv,t3,h6,h7⟩:=AM.ai h5;obtain⟨n,t4,h8,h9⟩:=AM.ai h7;obtain⟨iE,rfl⟩:=bw h0;obtain⟨rfl,r1⟩:=bE h2;obtain⟨rfl,rfl⟩:=qF h4;obtain⟨rfl,r2⟩:=bE h6;obtain⟨⟨k,rfl⟩,rfl⟩:=im h8;obtain⟨hb,tF⟩:=aX h9;simp only[V6,WV]at hb;obtain⟨u0,t6,Sl,Sq⟩:=AM.ai tF;obtain⟨ec,Fu⟩:=yo Sl;obtain⟨len,t5,nQ,qU⟩:=AM.ai Sq;obtain⟨rfl,hl⟩:=tT nQ;obtain⟨Bi,rH⟩:=jT qU;obtain⟨rfl,rfl⟩:=aq rH;simp only[V6,V4]at Bi
 suffices H:∀(o:Oper),o.op= .indexAddr t x i→∀B g a w,HRel B g s'.hp w→fi g t4.env a→∃v,(execOp a.eval o).run E.P w= .ok (.value v) w∧bV g (.ea c n 0 sz) v by
  refine⟨ec,fun o ho B g a w R V=> ?_⟩;obtain⟨g',l,R'⟩:=Fu R;obtain⟨v,k1,k2⟩:=H o ho B g' a w R' (fun t s hs=>(V t s hs).mono l.le);exact⟨v,w,g',k1,l.le,R',k2⟩
 intro o ho B g a w R V
 rcases hl R (r1 V)with⟨e,_⟩|⟨_,A,cap,e,hA⟩
 ·rw[hb.2]at e;cases e
 ·obtain⟨b,o',rfl⟩:=hA (by omega);have e2:=e9 (r2 V)
  rcases GU hb.1 with⟨_,e3⟩|⟨el,e3,_⟩
  ·rw[hb.2]at e3;cases e3
  ·have K4:E.sizeOf el=some sz:=by
    simpa[Env.elem,e3]using iE
   refine⟨.pointer (some ⟨b,o'+n.toNat*sz,none⟩), ?_,b,o',len,cap,by rw[←e];exact r1 V,Bi.1,by omega,by simp⟩;unfold execOp;rw[ho]
   apply cc
   have hc:0≤n∧n<(len:Int):=Bi;simp only[Instr.indexAt,e2,asIntOf,Sem.run_bind,Sem.run_pure,Result.andThen_ok,run_underlying e3,e,Sem.run_ite,WK hc,run_sizeOf K4,Ao]
def yG (w:World)(b o:Nat)(us:List Value):Prop:=∀j u,us[j]?=some u→w.cell? ⟨b,o+j,none⟩=some u
theorem eV {w:World}{b o:Nat}{arr:Array Value}{ty:TypeId}{fr:Nat×Nat}(h:w.heap[b]?=some (.cells arr ty fr))(n:Nat):yG w b o ((arr.toList.drop o).take n):=by
 intro j u hj
 have Hr:arr.toList[o+j]?=some u:=by
  rw[List.getElem?_take]at hj;split at hj
  ·rwa[List.getElem?_drop]at hj
  ·cases hj
 simp[World.cell?,h];simpa using Hr
theorem zU {E:Env}{t:TypeId}{ag:Bool}{n:Nat}{w:World}{b o:Nat}{us:List Value}(Hy:E.isAgg t=some ag)(hn:E.sizeOf t=some n)(hl:us.length=bif ag then n else 1)
  (h:yG w b o us):(Instr.loadAt t (.pointer (some ⟨b,o,none⟩))).run E.P w= .ok (if ag then .agg us.toArray else us.getD 0 undef) w:=by
 simp only[Instr.loadAt,Instr.sureAddr,loadVar,Sem.run_bind,Sem.run_pure,Result.andThen_ok,tu Hy,Sem.run_ite]
 cases ag with
 |true=>
  have hl:us.length=n:=hl;subst hl;have:=run_loadCells_list (P:=E.P) (w:=w) ⟨b,o,none⟩ us (fun j v hj=>by rw[Ao];exact h j v hj);simp[run_sizeOf hn,this]
 |false=>
  have hl:us.length=1:=hl
  match us,hl with
  |[u],_=>
   have:=h 0 u rfl;simp only[Nat.add_zero]at this;simp[this]
theorem Lin.R8 {g:Gh}{τ:Ty}{x:τ.den}{us:List Value}(h:Rc g.ed τ x us):aA {g with ax:=g.ed} (unpack τ x) us:=jz (g:={g with ax:=g.ed}) h
theorem GY {g g':Gh}(ht:g'.top=g.top)(jV:g'.cv=g.cv):∀{ps:List (Nat×Nat)}{vs:List Value},o7 g ps vs→o7 g' ps vs
 |[],_,h=>h
 |_::_,_,⟨b,o,v,e,h1,h2,h3⟩=>⟨b,o,v,e,by rw[ht];exact h1,by rw[jV];exact h2,GY ht jV h3⟩
theorem I4 {g g':Gh}(ht:g'.top=g.top)(jV:g'.cv=g.cv):∀{cs:List Cell}{us:List Value},Cu cs=false→aA g cs us→aA g' cs us:=by
 intro cs
 induction cs with
 |nil=>intro us _ h;exact h
 |cons c cs ih=>
  intro us hs ⟨u,r,e,hu,hr⟩;simp only[Cu,List.any_cons,Bool.or_eq_false_iff]at hs;refine⟨u,r,e, ?_,ih hs.2 hr⟩
  cases c with
  |v τ x=>
   obtain⟨h1,h2⟩:=hu;refine⟨h1, ?_⟩
   cases τ with
   |sl e=>simp at hs
   |cl=>simp at hs
   |un=>simp[Ty.one]at h1
   |pr a b=>simp[Ty.one]at h1
   |int k=>exact h2
   |bool=>exact h2
   |str=>exact h2
  |nil=>exact hu
  |own id gen=>exact⟨by rw[ht];exact hu.1,by rw[jV];exact hu.2.1,hu.2.2⟩
  |ptr id gen off=>obtain⟨a,b,o,c,d⟩:=hu;exact⟨by rw[ht];exact a,b,o,by rw[jV];exact c,d⟩
  |np=>exact hu
  |nf=>exact hu
  |fn f gp=>
   obtain⟨vs,e,hv⟩:=hu;exact⟨vs,e,GY ht jV hv⟩
  |err b=>exact hu
theorem F3 {r:Rd}{e:Ty}{xs:List e.den}{L:List Value}{o:Nat}{i:Int}(h:Els r e xs L o)(h0:0≤i)(h1:i.toNat<xs.length):Rc r e (at_ xs i) ((L.drop (o+i.toNat*e.size)).take e.size):=by
 have:=h i.toNat h1;unfold at_;rw[Wm,Wl h1];exact this
theorem qa {α:Type}(L:List α)(o sz off n:Nat)(h:off+n≤sz):(((L.drop o).take sz).drop off).take n=(L.drop (o+off)).take n:=by
 rw[List.drop_take,List.take_take,List.drop_drop]
 congr 1
 omega
theorem zQ {E:Env}{n:Nat}{sl:Slot}{cs:List Cell}{s s':St}(h:(s5 E n sl).run s=some (cs,s')):
  s'.env=s.env∧∀{B:Base} {g:Gh} {w:World} {u:Value},(∀k c,E.cd k=some [c]→∃u,g.ax k=some [u]∧aV g c u)→HRel B g s.hp w→bV g sl u→
   ∃b o us g',u= .pointer (some ⟨b,o,none⟩)∧yG w b o us∧us.length=n∧Le g g'∧HRel B g' s'.hp w∧aA g' cs us:=by
 unfold s5 at h;split at h
 ·
  rename_i id gen off;simp only[AM.run]at h;split at h
  ·rename_i g0 O6 heq;obtain⟨hb,h'⟩:=aX h;simp only[V6]at hb;obtain rfl:=beq_eq hb.1;have hle:off+n≤O6.length:=Wr hb.2;obtain⟨rfl,rfl⟩:=aq h';refine⟨rfl,fun{B g w u} _ R hu=> ?_⟩;obtain⟨ht,b,o,jV,e⟩:=hu;obtain⟨b',o',arr,ty,L,k1,k2,k3,k4,k5,k6,k7⟩:=R.eC _ _ heq;rw[jV]at k1
   injection k1 with k1;injection k1 with k1;injection k1 with k1 Tj
   subst k1;subst Tj;have hL:L.length=O6.length:=k4.length;have ho:o≤(g.outer id).length:=(by omega)
   have e1:(arr.toList.drop (o+off)).take n=(L.drop off).take n:=by
    rw[k5,V7,List.drop_append,WA,Nat.min_eq_left ho];rw[List.drop_eq_nil_of_le (by rw[WA];omega)];rw[show o+off - o=off from by omega,List.nil_append,List.drop_append_of_le_length (by omega),List.take_append_of_le_length (by rw[WN];omega)]
   refine⟨b,o+off,(L.drop off).take n,g,e,by rw[←e1];exact eV k3 n,by rw[WA,WN];omega,Le.refl g,R,rz off n k4⟩
  ·cases h
 ·
  rename_i τ xs i off sz;obtain⟨hb,h'⟩:=aX h;simp only[V6]at hb;have iE:=beq_eq hb.1;have hle:off+n≤τ.size:=Wr hb.2;obtain⟨rfl,rfl⟩:=aq h';refine⟨rfl,fun{B g w u} _ R hu=> ?_⟩;obtain⟨b,o,n',cap,hc,h0,h1,e⟩:=hu;obtain⟨_,A,c,e1,_,hx⟩:=hc
  injection e1 with e1
  injection e1 with e2 e3 e4
  subst iE
  rcases hx with hx|⟨b',o',L,eA,hL,hi⟩
  ·exfalso
   have:(xs:List τ.den)=[]:=hx;rw[e3,this]at h1;simp at h1
  ·rw[eA]at e2
   injection e2 with e2;injection e2 with e5 e6
   subst e5;subst e6;obtain⟨_,_,arr,ty,fr,ha,Rk⟩:=R.ax _ _ hL;have lQ:Els g.ax τ xs L o:=hi;have Hv:=F3 lQ h0 (by rw[←e3];exact h1);refine⟨b,o+i.toNat*τ.size+off,((((L.drop (o+i.toNat*τ.size)).take τ.size).drop off).take n),g,e, ?_, ?_,Le.refl g,R,rz off n (jz Hv)⟩
   ·rw[qa _ _ _ _ _ hle,←Rk];exact eV ha n
   ·rw[WA,WN,Hv.length];omega
 ·
  rename_i id gen i off sz;simp only[AM.run]at h;split at h
  ·rename_i g0 τ xs heq;obtain⟨hb,h'⟩:=aX h;simp only[V6]at hb;obtain rfl:=beq_eq hb.1.1;have iE:=beq_eq hb.1.2;have hle:off+n≤τ.size:=Wr hb.2;obtain⟨rfl,rfl⟩:=aq h';refine⟨rfl,fun{B g w u} _ R hu=> ?_⟩;obtain⟨b,o,n',cap,hc,h0,h1,e⟩:=hu;obtain⟨A,c,e1,_,hx⟩:=R.eC _ _ heq
   injection e1 with e1
   have e1:=hc.2.1.trans e1
   injection e1 with e2 e3 e4
   subst iE
   rcases hx with hx|⟨b',o',L,eA,hL,hi⟩
   ·exfalso
    rw[e3,hx]at h1;simp at h1
   ·rw[eA]at e2
    injection e2 with e2;injection e2 with e5 e6
    subst e5;subst e6;obtain⟨_,_,arr,ty,fr,ha,Rk⟩:=R.ax _ _ hL;have lQ:Els g.ax τ xs L o:=hi;have Hv:=F3 lQ h0 (by rw[←e3];exact h1);refine⟨b,o+i.toNat*τ.size+off,((((L.drop (o+i.toNat*τ.size)).take τ.size).drop off).take n),g,e, ?_, ?_,Le.refl g,R,rz off n (jz Hv)⟩
    ·rw[qa _ _ _ _ _ hle,←Rk];exact eV ha n
    ·rw[WA,WN,Hv.length];omega
  ·rename_i g0 τ deep xs heq;obtain⟨hb,h'⟩:=aX h;simp only[V6]at hb;obtain rfl:=beq_eq hb.1.1;have iE:=beq_eq hb.1.2;have hle:off+n≤τ.size:=Wr hb.2;subst iE
   have fin:∀{B:Base} {g g1:Gh} {hp1:List (Nat×Obj)} {w:World} {u:Value} {r:Rd} {b o n' cap:Nat} {arr:Array Value} {ty:TypeId},Le g g1→HRel B g1 hp1 w→
     aV g (.own id g0) (.slice (some ⟨b,o,none⟩) n' cap)→0≤i→i.toNat<n'→u= .pointer (some ⟨b,o+i.toNat*τ.size+off,none⟩)→
     g.cv id g0= .slice (some ⟨b,0,none⟩) xs.length cap→w.heap[b]?=some (.cells arr ty (0,0))→Els r τ xs arr.toList 0→
     (∀us,Rc r τ (at_ xs i) us→aA g1 (cut off n (unpack τ (at_ xs i))) ((us.drop off).take n))→
     ∃b o us g',u= .pointer (some ⟨b,o,none⟩)∧yG w b o us∧us.length=n∧Le g g'∧HRel B g' hp1 w∧aA g' (cut off n (unpack τ (at_ xs i))) us:=by
    intro B g g1 hp1 w u r b o n' cap arr ty l R1 hc h0 h1 e jV ha lQ fQ;have e1:=hc.2.1.trans jV
    injection e1 with e2 e3 e4
    injection e2 with e2;injection e2 with e5 e6
    subst e6;have Hv:=F3 lQ h0 (by rw[←e3];exact h1);refine⟨b,0+i.toNat*τ.size+off,((((arr.toList.drop (0+i.toNat*τ.size)).take τ.size).drop off).take n),g1,e, ?_, ?_,l,R1,fQ _ Hv⟩
    ·rw[qa _ _ _ _ _ hle];exact eV ha n
    ·rw[WA,WN,Hv.length];omega
   have Kl:∀{B:Base} {g:Gh} {hp1:List (Nat×Obj)} {w:World} {u:Value} {b o n' cap:Nat} {dp:Bool},mW g w id (.own g0 τ dp xs)→aV g (.own id g0) (.slice (some ⟨b,o,none⟩) n' cap)→
     g.cv id g0= .slice (some ⟨b,0,none⟩) xs.length cap∧∃arr ty,w.heap[b]?=some (.cells arr ty (0,0))∧dG g id τ dp xs arr.toList:=by
    intro B g hp1 w u b o n' cap dp hO hc
    rcases hO with⟨k1,_⟩|⟨b',IC,arr,ty,k1,_,_,k4,_,_,k7⟩
    ·have:=hc.2.1.trans k1;cases this
    ·have e1:=hc.2.1.trans k1
     injection e1 with e2 e3 e4
     injection e2 with e2;injection e2 with e5 e6
     subst e5;subst e4;exact⟨k1,arr,ty,k4,k7⟩
   by_cases hd:(deep&&Cu (cut off n (unpack τ (at_ xs i))))=true
   ·simp only[hd,Wg,AM.run]at h';simp only[WI,WU]at h';obtain⟨rfl,rfl⟩:=h';refine⟨rfl,fun{B g w u} _ R hu=> ?_⟩;obtain⟨b,o,n',cap,hc,h0,h1,e⟩:=hu;obtain⟨g1,l,R1⟩:=R.GI heq;have wS:=hc.mono l.le;obtain⟨jV,arr,ty,ha,lQ⟩:=Kl (B:=B) (hp1:=s.hp) (u:=u) (R1.eC _ _ (aF _ _ _)) wS
    have Bc:g.cv id g0= .slice (some ⟨b,0,none⟩) xs.length cap:=by rw[←jV];exact(l.le.cv _ _ (gP R heq)).symm
    refine fin l.le R1 hc h0 h1 e Bc ha (r:=g1.ax) (by unfold dG at lQ;simpa using lQ) (fun us Hv=>rz off n (jz Hv))
   ·have TH:(deep&&Cu (cut off n (unpack τ (at_ xs i))))=false:=(by simpa using hd);simp only[TH,Wb]at h';obtain⟨rfl,rfl⟩:=aq h';refine⟨rfl,fun{B g w u} _ R hu=> ?_⟩;obtain⟨b,o,n',cap,hc,h0,h1,e⟩:=hu;obtain⟨jV,arr,ty,ha,lQ⟩:=Kl (B:=B) (hp1:=s'.hp) (u:=u) (R.eC _ _ heq) hc
    by_cases OZ:(deep&& !τ.flat)=true
    ·unfold dG at lQ;rw[WK OZ]at lQ;obtain⟨nb,hl,_⟩:=lQ
     have Q4:deep=true:=by simp at OZ;exact OZ.1
     have UE:Cu (cut off n (unpack τ (at_ xs i)))=false:=by rw[Q4]at TH;simpa using TH
     refine fin (Le.refl g) R hc h0 h1 e jV ha (r:=g.ed) hl.els (fun us Hv=>I4 (g:={g with ax:=g.ed}) (g':=g) rfl rfl UE (rz off n (Lin.R8 Hv)))
    ·unfold dG at lQ;rw[Wz OZ]at lQ;exact fin (Le.refl g) R hc h0 h1 e jV ha (r:=g.ax) lQ (fun us Hv=>rz off n (jz Hv))
  ·cases h
 ·rename_i xs;obtain⟨hb,h'⟩:=aX h;obtain rfl:=beq_eq hb;obtain⟨rfl,rfl⟩:=aq h';refine⟨rfl,fun{B g w u} _ R hu=> ?_⟩;obtain⟨x,O9,b,p,rfl,yz,Mo,e⟩:=hu;obtain⟨_,_,arr,ty,fr,ha,hL⟩:=R.ax _ _ yz;refine⟨b,0,[.int .i64 x],g,e, ?_,rfl,Le.refl g,R,_,[],rfl,⟨rfl,rfl⟩,rfl⟩;have:=eV (o:=0) ha 1;rw[hL]at this;exact this
 ·rename_i xs;obtain⟨hb,h'⟩:=aX h;obtain rfl:=beq_eq hb;obtain⟨rfl,rfl⟩:=aq h';refine⟨rfl,fun{B g w u} _ R hu=> ?_⟩;obtain⟨x,O9,b,p,rfl,yz,Mo,e⟩:=hu;obtain⟨_,_,arr,ty,fr,ha,hL⟩:=R.ax _ _ yz;refine⟨b,1,[p],g,e, ?_,rfl,Le.refl g,R,p,[],rfl,⟨rfl,p,rfl,Mo⟩,rfl⟩;have:=eV (o:=1) ha 1;rw[hL]at this;exact this
 ·rename_i k;obtain⟨hb,h'⟩:=aX h;obtain rfl:=beq_eq hb;obtain⟨c,t,h1,h2⟩:=AM.ai h';obtain⟨hg,rfl⟩:=bw h1;obtain⟨rfl,rfl⟩:=aq h2;refine⟨rfl,fun{B g w u} QO R hu=> ?_⟩
  have hg:E.cd k=some [c]:=by
   simp only[WT]at hg;obtain⟨cs,h3,h4⟩:=hg;split at h4
   ·injection h4 with h4;subst h4;exact h3
   ·cases h4
  obtain⟨v,hv,hr⟩:=QO k c hg;obtain⟨_,_,arr,ty,fr,ha,hL⟩:=R.ax _ _ hv;have hu:u=_:=hu;refine⟨k,0,[v],g,hu, ?_,rfl,Le.refl g,R,v,[],rfl,hr,rfl⟩;have:=eV (o:=0) ha 1;rw[hL]at this;exact this
 ·cases h
theorem FC {E:Env}{t:TypeId}{x:Operand}{s s':St}{sl:Slot}{d:Nat}(h:(F9 E d t x).run s=some (sl,s')):
  s'.env=s.env∧∀(o:Oper),o.op= .load t x→∀B g a w,(∀k c,E.cd k=some [c]→∃u,g.ax k=some [u]∧aV g c u)→HRel B g s.hp w→fi g s.env a→
  ∃v w' g',(execOp a.eval o).run E.P w= .ok (.value v) w'∧Le g g'∧HRel B g' s'.hp w'∧bV g' sl v:=by
 obtain⟨s1,t1,h1,h2⟩:=AM.ai h;obtain⟨ag,t2,h3,h4⟩:=AM.ai h2;obtain⟨rfl,r1⟩:=lD h1;obtain⟨Hy,rfl⟩:=bw h3;obtain⟨ne,t6,VB,Pd⟩:=AM.ai h4;obtain⟨rfl,nL⟩:=HW VB
 cases ne with
 |true=>
  obtain rfl:=nL rfl;have Pd:(Ez d s1).run t6=some (sl,s'):=Pd;cases Pd
 |false=>
 have Pd:((fk (E.sizeOf t)).bind fun n=>(s5 E (bif ag then n else 1) s1).bind fun cs=>(xZ ag cs).bind fun v=> .ret (.val v)).run t6=some (sl,s'):=Pd;obtain⟨n,t3,h5,h6⟩:=AM.ai Pd;obtain⟨cs,t4,h7,h8⟩:=AM.ai h6;obtain⟨v,t5,h9,tF⟩:=AM.ai h8;obtain⟨hn,rfl⟩:=bw h5;obtain⟨rfl,rfl⟩:=aq tF;obtain rfl:=Ay h9;obtain⟨he,hr⟩:=zQ h7;refine⟨he,fun o ho B g a w hG R V=> ?_⟩;obtain⟨b,o',us,g',e,Fp,hlen,l,R',hc⟩:=hr hG R (r1 V);obtain⟨_,hv⟩:=sJ h9 hc;have wP:=zU (E:=E) (w:=w) Hy hn hlen Fp
 rcases hv with⟨rfl,hv⟩|⟨rfl,u,rfl,hv⟩
 ·refine⟨_,w,g', ?_,l,R',hv⟩;unfold execOp;rw[ho]
  apply cc
  rw[e];exact wP
 ·refine⟨u,w,g', ?_,l,R',hv⟩;unfold execOp;rw[ho]
  apply cc
  rw[e];exact wP
end Go.Abs
end

section
namespace Go.Abs
theorem Lin.length {r:Rd}{τ:Ty}{x:τ.den}{us:List Value}{nb:List Nat}(h:Lin r τ x us nb):us.length=τ.size:=h.rc.length
theorem Els.head {r:Rd}{e:Ty}{x:e.den}{xs:List e.den}{L:List Value}:Els r e (x::xs) L 0↔Rc r e x (L.take e.size)∧Els r e xs (L.drop e.size) 0:=by
 constructor
 ·intro h;refine⟨by have:=h 0 (by simp);simp only[Nat.zero_mul,Nat.add_zero,List.drop_zero]at this;exact this,fun i hi=> ?_⟩;have:=h (i+1) (by simpa using hi);simp only[List.getElem_cons_succ]at this;rw[List.drop_drop]
  rwa[show e.size+(0+i*e.size)=0+(i+1)*e.size from by rw[Nat.add_mul];omega]
 ·rintro⟨h1,h2⟩ i hi
  cases i with
  |zero=>simpa using h1
  |succ i=>
   have:=h2 i (by simpa using hi);rw[List.drop_drop]at this;simp only[List.getElem_cons_succ]
   rwa[show e.size+(0+i*e.size)=0+(i+1)*e.size from by rw[Nat.add_mul];omega]at this
theorem Els.nil {r:Rd}{e:Ty}{L:List Value}:Els r e [] L 0:=fun i hi=>absurd hi (by simp)
theorem Els.len {r:Rd}{e:Ty}:∀{xs:List e.den}{L:List Value},Els r e xs L 0→xs.length*e.size≤L.length
 |[],_,_=>by simp
 |x::xs,L,h=>by
  obtain⟨h1,h2⟩:=Els.head.1 h;have a:=h1.length;have b:=h2.len;rw[WA]at a;rw[WN]at b;rw[V0,Nat.add_mul];omega
theorem Els.pre {r:Rd}{e:Ty}:∀{xs:List e.den}{L M:List Value},(∀k,k=xs.length*e.size→L.take k=M.take k)→Els r e xs L 0→Els r e xs M 0
 |[],_,_,_,_=>Els.nil
 |x::xs,L,M,hp,h=>by
  obtain⟨h1,h2⟩:=Els.head.1 h;have hp:=hp _ rfl;rw[V0,Nat.add_mul,Nat.one_mul]at hp;refine Els.head.2 ⟨?_, ?_⟩
  ·have:L.take e.size=M.take e.size:=by
    have:=congrArg (List.take e.size) hp
    rwa[List.take_take,List.take_take,Nat.min_eq_left (by omega)]at this
   rwa[←this]
  ·refine h2.pre (fun k hk=> ?_);subst hk;have:=congrArg (List.drop e.size) hp
   rwa[List.drop_take,List.drop_take,Nat.add_sub_cancel]at this
theorem Els.append {r:Rd}{e:Ty}:∀{xs ys:List e.den}{L M:List Value},Els r e xs L 0→Els r e ys M 0→L.length=xs.length*e.size→Els r e (xs++ys) (L++M) 0
 |[],ys,L,M,_,h2,hl=>by
  have:L=[]:=WL (by simpa using hl);subst this;simpa using h2
 |x::xs,ys,L,M,h1,h2,hl=>by
  obtain⟨a,b⟩:=Els.head.1 h1;rw[V0,Nat.add_mul,Nat.one_mul]at hl;refine Els.head.2 ⟨?_, ?_⟩
  ·rwa[List.take_append_of_le_length (by omega)]
  ·show Els r e (xs++ys) _ 0;rw[List.drop_append_of_le_length (by omega)];exact b.append h2 (by rw[WN];omega)
theorem Els.set {r:Rd}{e:Ty}{x:e.den}{us:List Value}(hx:Rc r e x us):∀{xs:List e.den}{L:List Value}{i:Nat},Els r e xs L 0→i<xs.length→
  Els r e (xs.set i x) (L.take (i*e.size)++us++L.drop (i*e.size+us.length)) 0
 |[],_,_,_,hi=>absurd hi (by simp)
 |y::ys,L,i,h,hi=>by
  obtain⟨h1,h2⟩:=Els.head.1 h;have hl:=hx.length;have lO:=h1.length;rw[WA]at lO
  cases i with
  |zero=>
   simp only[List.set_cons_zero,Nat.zero_mul,List.take_zero,List.nil_append,Nat.zero_add];refine Els.head.2 ⟨?_, ?_⟩
   ·rw[←hl,List.take_left];exact hx
   ·rw[←hl,List.drop_left];rw[hl];exact h2
  |succ i=>
   simp only[List.set_cons_succ];have ih:=h2.set hx (i:=i) (by simpa using hi)
   have e1:(i+1)*e.size=e.size+i*e.size:=by rw[Nat.add_mul];omega
   refine Els.head.2 ⟨?_, ?_⟩
   ·rw[V7,List.take_append_of_le_length (by rw[WA];omega),List.take_take,Nat.min_eq_left (by omega)];exact h1
   ·rw[V7,List.drop_append_of_le_length (by rw[WA];omega),List.drop_take];rw[e1,Nat.add_sub_cancel_left,←V7];rw[List.drop_drop]at ih;rw[Nat.add_assoc];exact ih
theorem eW.pre {r:Rd}{e:Ty}:∀{xs:List e.den}{L M:List Value}{nb:List Nat},(∀k,k=xs.length*e.size→L.take k=M.take k)→eW r e xs L nb→eW r e xs M nb
 |[],_,_,_,_,h=>h
 |x::xs,L,M,_,hp,⟨n1,n2,en,h1,h2⟩=>by
  have hp:=hp _ rfl;rw[V0,Nat.add_mul,Nat.one_mul]at hp;refine⟨n1,n2,en, ?_, ?_⟩
  ·have:L.take e.size=M.take e.size:=by
    have:=congrArg (List.take e.size) hp
    rwa[List.take_take,List.take_take,Nat.min_eq_left (by omega)]at this
   rwa[←this]
  ·refine h2.pre (fun k hk=> ?_);subst hk;have:=congrArg (List.drop e.size) hp
   rwa[List.drop_take,List.drop_take,Nat.add_sub_cancel]at this
theorem eW.append {r:Rd}{e:Ty}:∀{xs ys:List e.den}{L M:List Value}{n m:List Nat},eW r e xs L n→eW r e ys M m→L.length=xs.length*e.size→eW r e (xs++ys) (L++M) (n++m)
 |[],ys,L,M,n,m,h1,h2,hl=>by
  have:L=[]:=WL (by simpa using hl);have h1:n=[]:=h1;subst this;subst h1;simpa using h2
 |x::xs,ys,L,M,_,m,⟨n1,n2,en,a,b⟩,h2,hl=>by
  subst en;rw[V0,Nat.add_mul,Nat.one_mul]at hl;refine⟨n1,n2++m,by simp, ?_, ?_⟩
  ·rwa[List.take_append_of_le_length (by omega)]
  ·show eW r e (xs++ys) _ _;rw[List.drop_append_of_le_length (by omega)];exact b.append h2 (by rw[WN];omega)
theorem eW.set {r:Rd}{e:Ty}:∀{xs:List e.den}{L:List Value}{i:Nat}{nb:List Nat},eW r e xs L nb→(hi:i<xs.length)→
  ∃na n0 nc,nb=na++n0++nc∧Lin r e xs[i] ((L.drop (i*e.size)).take e.size) n0∧
   ∀{r':Rd} {x:e.den} {us:List Value} {n1:List Nat},(∀b∈na++nc,∀L,r b=some L→r' b=some L)→Lin r' e x us n1→
    eW r' e (xs.set i x) (L.take (i*e.size)++us++L.drop (i*e.size+us.length)) (na++n1++nc)
 |[],_,_,_,_,hi=>absurd hi (by simp)
 |y::ys,L,i,_,⟨n1,n2,en,h1,h2⟩,hi=>by
  subst en;have lO:=h1.length;rw[WA]at lO
  cases i with
  |zero=>
   refine⟨[],n1,n2,by simp,by simpa using h1,fun{r' x us Qx} hm hx=> ?_⟩;have hl:=hx.length;simp only[List.set_cons_zero,Nat.zero_mul,List.take_zero,List.nil_append,Nat.zero_add];refine⟨Qx,n2,rfl, ?_, ?_⟩
   ·rw[←hl,List.take_left];exact hx
   ·rw[←hl,List.drop_left,hl];exact h2.mono (fun b hb L hL=>hm b (by simpa using hb) L hL)
  |succ i=>
   obtain⟨na,n0,nc,e2,h3,h4⟩:=h2.set (i:=i) (by simpa using hi);subst e2
   have e1:(i+1)*e.size=e.size+i*e.size:=by rw[Nat.add_mul];omega
   refine⟨n1++na,n0,nc,by simp, ?_,fun{r' x us Qx} hm hx=> ?_⟩
   ·rw[List.drop_drop]at h3;rw[e1];exact h3
   ·have ih:=h4 (r':=r') (x:=x) (us:=us) (n1:=Qx) (fun b hb L hL=>hm b (by rcases Wu.1 hb with h|h<;>simp[h]) L hL) hx;refine⟨n1,na++Qx++nc,by simp, ?_, ?_⟩
    ·rw[V7,List.take_append_of_le_length (by rw[WA];omega),List.take_take,Nat.min_eq_left (by omega)];exact h1.mono (fun b hb L hL=>hm b (by simp[hb]) L hL)
    ·show eW r' e (ys.set i x) _ _;rw[V7,List.drop_append_of_le_length (by rw[WA];omega),List.drop_take];rw[e1,Nat.add_sub_cancel_left,←V7];rw[List.drop_drop]at ih;rw[Nat.add_assoc];exact ih
end Go.Abs
end

section
namespace Go.Abs
open Classical in
noncomputable def Gh.take (g:Gh)(id:Nat)(nb:List Nat):Gh:={g with cM:=fun x=>if x∈nb then some (id+1)else g.cM x}
theorem Le.take (g:Gh)(id:Nat)(nb:List Nat):Le g (g.take id nb):=⟨fun _ _ h=>h,fun _=>Wp _,fun _ _ _=>rfl⟩
theorem HRel.write {B:Base}{g:Gh}{hp:List (Nat×Obj)}{w w':World}(R:HRel B g hp w){id b:Nat}{nb:List Nat}{o o':Obj}
  (ho:look hp id=some o) (tf:o'.gen=o.gen) (hl:g.cM b=some (id+1)) (hn:g.ed b=none) (hw:Turned w w' b) (o9:∀x∈nb,g.cM x=some 0)
  (A7:mW (g.take id nb) w' id o'):HRel B (g.take id nb) ((id,o')::hp) w':=by
 have hle:=Le.take g id nb;refine⟨fun i=> ?_,fun i oi hi=> ?_,fun x L hx=> ?_,fun x L hx=> ?_,fun x hx=> ?_,R.jh,fun x hx Iu hi=> ?_,Nat.le_trans R.size hw.size,hw.os.trans R.os,hw.tape.trans R.tape,hw.output.trans R.output,fun x L hx=> ?_⟩
 ·show g.top i=_;rw[R.top i]
  by_cases e:id=i
  ·subst e;rw[aF,ho];simp[tf]
  ·rw[aC _ _ e]
 ·by_cases e:id=i
  ·subst e;rw[aF]at hi;injection hi with hi;subst hi;exact A7
  ·rw[aC _ _ e]at hi;refine(R.eC i oi hi).tr hle (fun x hx=> ?_) rfl (by rw[R.top i,hi];exact Nat.lt_succ_self _)
   have iZ:x≠b:=fun e'=>by subst e';rw[hl]at hx;simp at hx;exact e hx
   have jW:x∉nb:=fun hm=>by rw[o9 x hm]at hx;simp at hx
   exact⟨by simp[Gh.take,jW,hx],rfl,hw.other x iZ⟩
 ·have hy:g.ax x=some L:=hx;obtain⟨a1,a2,arr,ty,fr,a3,a4⟩:=R.ax x L hy
  have iZ:x≠b:=fun e=>by rw[e,hl]at a1;cases a1
  have jW:x∉nb:=fun hm=>by rw[o9 x hm]at a1;simp at a1
  exact⟨by simp[Gh.take,jW,a1],a2,arr,ty,fr,(hw.other x iZ).trans a3,a4⟩
 ·have hy:g.ed x=some L:=hx;obtain⟨a1,arr,ty,a3,a4⟩:=R.ed x L hy
  have iZ:x≠b:=fun e=>by rw[e,hn]at hy;cases hy
  refine⟨?_,arr,ty,(hw.other x iZ).trans a3,a4⟩
  by_cases jW:x∈nb
  ·simp[Gh.take,jW]
  ·simp[Gh.take,jW,a1]
 ·by_cases jW:x∈nb
  ·exact WD (R.ey x (by rw[o9 x jW];simp)) hw.size
  ·have MF:g.cM x≠none:=by simpa[Gh.take,jW]using hx
   exact WD (R.ey x MF) hw.size
 ·obtain⟨f1,f2,f3⟩:=R.frame x hx Iu hi
  have iZ:x≠b:=fun e=>by rw[e,hl]at f1;cases f1
  have jW:x∉nb:=fun hm=>by rw[o9 x hm]at f1;simp at f1
  exact⟨by simp[Gh.take,jW,f1],f2,(hw.other x iZ).trans f3⟩
 ·have iZ:x≠b:=fun e=>by
   have:=(R.ax x L (R.jh x L hx)).1;rw[e,hl]at this;cases this
  exact(hw.other x iZ).trans (R.fix x L hx)
theorem mg {w:World}{b:Nat}{arr:Array Value}{ty:TypeId}{fr:Nat×Nat}(h:w.heap[b]?=some (.cells arr ty fr))(cs:Array Value):Turned w (w.setRow b cs) b:=by
 refine⟨fun x hx=>setRow_other w b x cs hx,by simp, ?_,rfl,rfl,rfl⟩;rw[size_setRow]
 rcases Nat.lt_or_ge b w.heap.size with h1|h1
 ·exact h1
 ·rw[Array.getElem?_eq_none h1]at h;cases h
theorem DY {u:Value}(h:oc u=true):u.oneCell'=true:=by cases u<;>simp_all[oc,Value.oneCell']
theorem aA.NZ {g:Gh}:∀{cs:List Cell}{us:List Value},aA g cs us→∀u∈us,u.oneCell'=true
 |[],_,h,u,hu=>by have h:_=_:=h;subst h;simp at hu
 |_::_,_,⟨v,r,e,hv,hr⟩,u,hu=>by
  subst e
  rcases WE.1 hu with hu|hu
  ·subst hu;exact DY hv.C7
  ·exact hr.NZ u hu
theorem aA.set {g:Gh}{new:List Cell}{us:List Value}(hn:aA g new us){cs:List Cell}{L:List Value}(off:Nat)(h:aA g cs L):
  aA g (setCells off new cs) (L.take off++us++L.drop (off+us.length)):=by
 unfold setCells;rw[←hn.length];exact((h.take off).append hn).append (h.drop _)
theorem iR {r:Rd}{g:Gh}{c:Cell}{u:Value}(hc:aV g c u):∀{τ:Ty}{x y:τ.den}{off:Nat}{us:List Value},dQ τ x off c=some y→Rc r τ x us→
  off<us.length∧Rc r τ y (us.set off u)
 | .pr a b,x,y,off,us,h,⟨c1,c2,e,h1,h2⟩=>by
  subst e;simp only[dQ]at h;have l1:=h1.length;have l2:=h2.length
  cases hb:Nat.blt off a.size with
  |true=>
   rw[hb]at h;simp only[Wg,Ww]at h;obtain⟨z,hz,rfl⟩:=h;obtain⟨h3,h4⟩:=iR hc hz h1;refine⟨by simp;omega,_,_, ?_,h4,h2⟩;rw[List.set_append_left _ _ h3]
  |false=>
   rw[hb]at h;simp only[Wb,Ww]at h;obtain⟨z,hz,rfl⟩:=h;obtain⟨h3,h4⟩:=iR hc hz h2
   have DS:a.size≤off:=by
    have:¬ off<a.size:=fun fP=>by
     have:Nat.blt off a.size=true:=by simpa[Nat.blt_eq]using fP
     rw[this]at hb;cases hb
    omega
   refine⟨by simp;omega,_,_, ?_,h1,h4⟩;rw[List.set_append_right _ _ (by omega),l1]
 | .int k,x,y,off,us,h,hx=>by
  have hx:_=_:=hx;subst hx
  cases off with
  |succ n=>simp[dQ]at h
  |zero=>
   cases c with
   |v τ' z=> ?_
   |_=>simp[dQ]at h
   cases τ' with
   |int k'=> ?_
   |_=>simp[dQ]at h
   simp only[dQ]at h;split at h
   ·rename_i ek;subst ek
    injection h with h;subst h
    exact⟨by simp,by have:=e9 hc;subst this;rfl⟩
   ·cases h
 | .bool,x,y,off,us,h,hx=>by
  have hx:_=_:=hx;subst hx
  cases off with
  |succ n=>simp[dQ]at h
  |zero=>
   cases c with
   |v τ' z=> ?_
   |_=>simp[dQ]at h
   cases τ' with
   |bool=> ?_
   |_=>simp[dQ]at h
   simp only[dQ]at h
   injection h with h;subst h
   exact⟨by simp,by have:=jB hc;subst this;rfl⟩
 | .str,x,y,off,us,h,hx=>by
  obtain⟨s,e,_⟩:=hx;subst e
  cases off with
  |succ n=>simp[dQ]at h
  |zero=>
   cases c with
   |v τ' z=> ?_
   |_=>simp[dQ]at h
   cases τ' with
   |str=> ?_
   |_=>simp[dQ]at h
   simp only[dQ]at h
   injection h with h;subst h
   obtain⟨s',e,l⟩:=lF hc;exact⟨by simp,s',by simp[e],l⟩
 | .un,_,_,_,_,h,_=>by simp[dQ]at h
 | .sl _,_,_,_,_,h,_=>by simp[dQ]at h
 | .cl,_,_,_,_,h,_=>by simp[dQ]at h
theorem sK {r:Rd}{g:Gh}{c:Cell}{u:Value}(hc:aV g c u):∀{τ:Ty}{x y:τ.den}{off:Nat}{us:List Value}{nb:List Nat},dQ τ x off c=some y→Lin r τ x us nb→
  off<us.length∧Lin r τ y (us.set off u) nb
 | .pr a b,x,y,off,us,nb,h,⟨c1,c2,n1,n2,e,en,h1,h2⟩=>by
  subst e;simp only[dQ]at h;have l1:=h1.length;have l2:=h2.length
  cases hb:Nat.blt off a.size with
  |true=>
   rw[hb]at h;simp only[Wg,Ww]at h;obtain⟨z,hz,rfl⟩:=h;obtain⟨h3,h4⟩:=sK hc hz h1;refine⟨by simp;omega,_,_,n1,n2, ?_,en,h4,h2⟩;rw[List.set_append_left _ _ h3]
  |false=>
   rw[hb]at h;simp only[Wb,Ww]at h;obtain⟨z,hz,rfl⟩:=h;obtain⟨h3,h4⟩:=sK hc hz h2
   have DS:a.size≤off:=by
    have:¬ off<a.size:=fun fP=>by
     have:Nat.blt off a.size=true:=by simpa[Nat.blt_eq]using fP
     rw[this]at hb;cases hb
    omega
   refine⟨by simp;omega,_,_,n1,n2, ?_,en,h1,h4⟩;rw[List.set_append_right _ _ (by omega),l1]
 | .int k,x,y,off,us,nb,h,hx=>by obtain⟨a,b⟩:=iR (r:=r) hc h hx.1;exact⟨a,b,hx.2⟩
 | .bool,x,y,off,us,nb,h,hx=>by obtain⟨a,b⟩:=iR (r:=r) hc h hx.1;exact⟨a,b,hx.2⟩
 | .str,x,y,off,us,nb,h,hx=>by obtain⟨a,b⟩:=iR (r:=r) (τ:= .str) hc h hx.1;exact⟨a,b,hx.2⟩
 | .un,_,_,_,_,_,h,_=>by simp[dQ]at h
 | .sl _,_,_,_,_,_,h,_=>by simp[dQ]at h
 | .cl,_,_,_,_,_,h,_=>by simp[dQ]at h
theorem Lj {α:Type}(L:List α)(k sz off:Nat)(u:α)(h1:off<sz)(h2:k+sz≤L.length):
  L.take k++(((L.drop k).take sz).set off u)++L.drop (k+sz)=L.take (k+off)++[u]++L.drop (k+off+1):=by
 apply List.ext_getElem?
 intro j;simp only[V7,List.getElem?_append,WA,WN,List.length_set,List.getElem?_take,List.getElem?_drop,List.getElem?_set,V0,V5]
 by_cases a1:j<k
 ·have b1:j<min k L.length:=(by omega);have b2:j<min (k+off) L.length:=(by omega);have b3:j<k+off:=(by omega);simp[a1,b1,b2,b3]
 ·have b1:¬ j<min k L.length:=(by omega);simp only[b1,WY];have e1:min k L.length=k:=(by omega);have e2:min (k+off) L.length=k+off:=(by omega);rw[e1,e2]
  by_cases a2:j<k+sz
  ·have b2:j - k<min sz (L.length - k):=(by omega);simp only[b2,if_true]
   by_cases a3:off=j - k
   ·have ej:j=k+off:=(by omega);subst ej;have c1:k+off - k=off:=(by omega);have c2:off<min sz (L.length - k):=(by omega);simp[c1,c2]
   ·simp only[a3,WY]
    by_cases a4:j<k+off
    ·simp only[a4,if_true];rw[WK (by omega),show k+(j - k)=j from by omega]
    ·have b4:¬ j - (k+off)<0+1:=(by omega);simp only[a4,WY,b4];rw[WK (by omega)]
     congr 1
     omega
  ·have b2:¬ j - k<min sz (L.length - k):=(by omega);have b3:¬ j<k+off:=(by omega);have b4:¬ j - (k+off)<0+1:=(by omega);simp only[b2,WY,b3,b4]
   congr 1
   omega
def il (arr:Array Value)(o:Nat)(us:List Value):Array Value:=(arr.toList.take o++us++arr.toList.drop (o+us.length)).toArray
theorem D7 {E:Env}{t:TypeId}{n:Nat}{w:World}{b o:Nat}{arr:Array Value}{ty:TypeId}{v:Value}(hn:E.sizeOf t=some n)(hl:v.cells.toList.length=n)
  (h:w.heap[b]?=some (.cells arr ty (0,0))) (hle:o+v.cells.toList.length≤arr.size) (h1:∀u∈v.cells.toList,u.oneCell'=true):
  (Instr.storeAt t (.pointer (some ⟨b,o,none⟩)) v).run E.P w= .ok () (w.setRow b (il arr o v.cells.toList)):=by
 have hs:v.cells.size=n:=(by simpa using hl);have:=run_storeCells_at (P:=E.P) b o ty v.cells.toList 0 arr w h (by simpa using hle) h1;simp only[Instr.storeAt,Instr.sureAddr,storeVar,Sem.run_bind,Sem.run_pure,Result.andThen_ok,run_sizeOf hn,Sem.run_ite,hs,ne_eq,not_true,WY];simpa[il]using this
theorem Kl {g:Gh}{w:World}{id g0:Nat}{τ:Ty}{xs:List τ.den}{b o n' cap:Nat}{dp:Bool}(hO:mW g w id (.own g0 τ dp xs))(hc:aV g (.own id g0) (.slice (some ⟨b,o,none⟩) n' cap)):
  o=0∧n'=xs.length∧g.cv id g0= .slice (some ⟨b,0,none⟩) xs.length cap∧g.cM b=some (id+1)∧g.ed b=none∧xs.length≤cap∧
   ∃arr ty,w.heap[b]?=some (.cells arr ty (0,0))∧arr.size=cap*τ.size∧dG g id τ dp xs arr.toList:=by
 rcases hO with⟨k1,_⟩|⟨b',IC,arr,ty,k1,k2,k3,k4,k5,k6,k7⟩
 ·have:=hc.2.1.trans k1;cases this
 ·have e1:=hc.2.1.trans k1
  injection e1 with e2 e3 e4
  injection e2 with e2;injection e2 with e5 e6
  subst e5;subst e4;subst e6;exact⟨rfl,e3,k1,k2,k3,k5,arr,ty,k4,k6,k7⟩
theorem dG.len {g:Gh}{id:Nat}{τ:Ty}{dp:Bool}{xs:List τ.den}{L:List Value}(h:dG g id τ dp xs L):xs.length*τ.size≤L.length:=by
 unfold dG at h;split at h
 ·obtain⟨nb,h,_⟩:=h;exact h.els.len
 ·exact h.len
theorem HY {id gen:Nat}{τ:Ty}{deep:Bool}{i:Int}{x:τ.den}{s s':St}(h:(Kj id gen τ deep i x).run s=some ((),s')):
  ∃xs,look s.hp id=some (.own gen τ deep xs)∧s'={s with hp:=(id, .own gen τ deep (xs.set i.toNat x))::s.hp}:=by
 simp only[Kj,AM.run]at h;split at h
 ·rename_i g τ' dp xs heq;obtain⟨hb,h1⟩:=aX h;simp only[V6]at hb;obtain rfl:=beq_eq hb.1;have e2:dp=deep:=(by simpa using hb.2);subst e2;split at h1
  ·rename_i e;subst e;simp only[AM.run,WI,WU,true_and]at h1;exact⟨xs,heq,h1.symm⟩
  ·cases h1
 ·cases h
theorem D3 {new:List Cell}{sl:Slot}{s s':St}(h:(xg new sl).run s=some ((),s')):
  s'.env=s.env∧∀{B:Base} {g:Gh} {w:World} {u:Value} {us:List Value},HRel B g s.hp w→bV g sl u→aA g new us→
   ∃b o arr ty g',u= .pointer (some ⟨b,o,none⟩)∧w.heap[b]?=some (.cells arr ty (0,0))∧o+us.length≤arr.size∧Le g g'∧HRel B g' s'.hp (w.setRow b (il arr o us)):=by
 unfold xg at h;split at h
 ·rename_i id gen off;simp only[AM.run]at h;split at h
  ·rename_i g0 cs heq;obtain⟨hb,h'⟩:=aX h;simp only[V6]at hb;obtain rfl:=beq_eq hb.1;have hle:off+new.length≤cs.length:=Wr hb.2;simp only[AM.run,WI,WU,true_and]at h';subst h';refine⟨rfl,fun{B g w u us} R hu hn=> ?_⟩;obtain⟨ht,b,o,jV,e⟩:=hu;obtain⟨b',o',arr,ty,L,k1,k2,k3,k4,k5,k6,k7⟩:=R.eC _ _ heq;rw[jV]at k1
   injection k1 with k1;injection k1 with k1;injection k1 with k1 Tj
   subst k1;subst Tj;have hL:L.length=cs.length:=k4.length;have QJ:us.length=new.length:=hn.length
   have wK:arr.size=(g.outer id).length:=by
    have:=congrArg List.length k5;simp only[Array.length_toList,VZ,WA,WN]at this;omega
   refine⟨b,o+off,arr,ty,_,e,k3,by omega,Le.take g id [],R.write heq rfl k2.1 k2.2 (mg k3 _) (fun x hx=>by simp at hx) ?_⟩;refine⟨b,o,_,ty,L.take off++us++L.drop (off+us.length),jV,⟨by simp[Gh.take,k2.1],k2.2⟩,setRow_heap w b arr _ ty _ k3,(hn.set off k4).mono (Le.take g id []), ?_, ?_, ?_⟩
   ·have ho:o≤(g.outer id).length:=(by omega)
    have e1:((g.outer id).take o).length=o:=by rw[WA];omega
    show(il arr (o+off) us).toList=_;unfold il;rw[k5];simp only[Gh.take,VZ,WA,WN];have e2:o+(min off L.length+us.length+(L.length - (off+us.length)))=o+L.length:=(by omega);rw[e2]
    rw[V7,V7,List.take_append,e1,List.take_of_length_le (by omega),Nat.add_sub_cancel_left,
     List.take_append_of_le_length (by omega),V7,List.drop_append,e1,List.drop_eq_nil_of_le (by omega),List.nil_append,
     show o+off+us.length - o=off+us.length from by omega,List.drop_append_of_le_length (by omega)]
    simp[V7]
   ·simp only[Gh.take,VZ,WA,WN];omega
   ·obtain⟨h0,h1,h2⟩:=k7;refine⟨h0, ?_,h2⟩;show(g.outer id).length=(setCells off new _).length;rw[h1];unfold setCells;simp only[VZ,WA,WN];omega
  ·cases h
 ·rename_i id gen i off sz;simp only[AM.run]at h;split at h
  ·rename_i g0 τ deep Qb Q9;obtain⟨hb,h'⟩:=aX h;clear h;simp only[V6]at hb;obtain rfl:=beq_eq hb.1;have iE:=beq_eq hb.2;subst iE
   cases Fs:(Nat.beq off 0&&Nat.beq new.length τ.size)with
   |true=>
    rw[Fs]at h';simp only[Wg]at h';simp only[V6]at Fs;have yB:=beq_eq Fs.1;have DU:=beq_eq Fs.2;subst yB;obtain⟨p,t,h1,h2⟩:=AM.ai h';obtain⟨he,hp⟩:=Aa _ _ _ _ _ _ _ h1;obtain⟨xs,heq,TL⟩:=HY h2;subst TL;refine⟨he,fun{B g w u us} R hu hn=> ?_⟩;obtain⟨g1,l1,R1,wS⟩:=hp B g w R;obtain⟨Ho,K3,nb,e1,Bb,hrest,hfresh⟩:=wS us hn;obtain⟨b,o,n',cap,hc,h0,h3,e⟩:=hu;obtain⟨rfl,rfl,jV,yA,KP,hle,arr,ty,ha,S5,lQ⟩:=Kl (R1.eC _ _ heq) (hc.mono l1.le);have QJ:us.length=τ.size:=(by rw[hn.length,DU]);have mO:Ho.length=τ.size:=Bb.len
    have vh:K3=[]:=by
     have:=congrArg List.length e1;simp only[VZ]at this;exact WL (by omega)
    subst vh;simp only[Wv]at e1;subst e1;have hi:i.toNat<xs.length:=h3
    have Gq:i.toNat*τ.size+τ.size≤arr.size:=by
     have h5:(i.toNat+1)*τ.size≤cap*τ.size:=Nat.mul_le_mul_right _ (by omega);rw[Nat.add_mul]at h5;omega
    have Sv:∀x∈nb,g1.cM x=some 0:=by
     unfold Got at Bb;split at Bb
     ·exact Bb.2.2
     ·rw[Bb.2];intro x hx;simp at hx
    have hcvT:(g1.take id nb).cv id g0= .slice (some ⟨b,0,none⟩) xs.length cap:=jV;refine⟨b,0+i.toNat*τ.size+0,arr,ty,_,e,ha,by omega,l1.le.trans (Le.take g1 id nb),R1.write heq rfl yA KP (mg ha _) Sv ?_⟩
    have Tp:b∉nb:=fun hm=>by rw[Sv b hm]at yA;simp at yA
    refine .inr ⟨b,cap,_,ty,by rw[List.length_set];exact jV,by simp[Gh.take,Tp,yA],KP,setRow_heap w b arr _ ty _ ha,by rw[List.length_set];exact hle, ?_, ?_⟩
    ·unfold il;simp only[List.size_toArray,VZ,WA,WN,Array.length_toList];omega
    ·have KC:(il arr (0+i.toNat*τ.size+0) us).toList=arr.toList.take (i.toNat*τ.size)++us++arr.toList.drop (i.toNat*τ.size+us.length):=(by simp[il]);rw[KC];unfold dG at lQ⊢;unfold Got at Bb
     by_cases hd:(deep&& !τ.flat)=true
     ·rw[WK hd]at lQ Bb⊢;obtain⟨Vb,hl,kY,Iu⟩:=lQ;obtain⟨na,n0,nc,en,_,tN⟩:=hl.set hi;refine⟨na++nb++nc,tN (fun b _ L hL=>hL) Bb.1, ?_,fun x hx=> ?_⟩
      ·have L0:∀x∈na++nc,x∉nb:=fun x hx hm=>by
        have h1:=Iu x (by rw[en];rcases Wu.1 hx with h|h<;>simp[h]);rw[Sv x hm]at h1;simp at h1
       subst en
       have BN:(na++nc).Nodup:=by
        refine kY.sublist ?_;rw[V7];exact List.Sublist.append (List.Sublist.refl _) (List.sublist_append_right _ _)
       rw[List.nodup_append]at BN⊢;refine⟨?_,BN.2.1,fun x hx y hy e=> ?_⟩
       ·rw[List.nodup_append];exact⟨BN.1,Bb.2.1,fun x hx y hy e=>L0 x (WC _ hx) (by rw[e];exact hy)⟩
       ·rcases Wu.1 hx with hx|hx
        ·exact BN.2.2 x hx y hy e
        ·exact L0 y (Wy _ hy) (by rw[←e];exact hx)
      ·show(if x∈nb then some (id+1)else g1.cM x)=some (id+1);split
       ·rfl
       ·rename_i jW;refine Iu x ?_;rw[en]
        rcases Wu.1 hx with hx|hx
        ·rcases Wu.1 hx with hx|hx
         ·simp[hx]
         ·exact absurd hx jW
        ·simp[hx]
     ·rw[Wz hd]at lQ Bb⊢;exact lQ.set Bb.1 hi
   |false=>
    rw[Fs]at h';simp only[Wb]at h';split at h'
    ·rename_i c;split at h'
     ·rename_i y hy;simp only[AM.run,WI,WU,true_and]at h';subst h';refine⟨rfl,fun{B g w u us} R hu hn=> ?_⟩;obtain⟨u1,r,e1,Ug,hr⟩:=hn;have hr:r=[]:=hr;subst hr;subst e1;obtain⟨b,o,n',cap,hc,h0,h3,e⟩:=hu;obtain⟨rfl,rfl,jV,yA,KP,hle,arr,ty,ha,S5,lQ⟩:=Kl (R.eC _ _ Q9) hc;have hi:i.toNat<Qb.length:=h3
      have Fp:at_ Qb i=Qb[i.toNat]:=by unfold at_;rw[Wm,Wl hi];rfl
      rw[Fp]at hy
      have Gq:i.toNat*τ.size+τ.size≤arr.size:=by
       have h5:(i.toNat+1)*τ.size≤cap*τ.size:=Nat.mul_le_mul_right _ (by omega);rw[Nat.add_mul]at h5;omega
      have Oy:∀{us:List Value},us=(arr.toList.drop (i.toNat*τ.size)).take τ.size→off<us.length→
        (il arr (0+i.toNat*τ.size+off) [u1]).toList=arr.toList.take (i.toNat*τ.size)++us.set off u1++arr.toList.drop (i.toNat*τ.size+(us.set off u1).length)∧0+i.toNat*τ.size+off+1≤arr.size:=by
       intro us e fP
       have T2:us.length=τ.size:=by rw[e,WA,WN,Array.length_toList];omega
       rw[List.length_set,T2];refine⟨?_,by omega⟩;rw[e,Lj _ _ _ _ _ (by omega) (by rw[Array.length_toList];exact Gq)];simp[il]
      have fin:off<((arr.toList.drop (i.toNat*τ.size)).take τ.size).length→dG g id τ deep (Qb.set i.toNat y) (il arr (0+i.toNat*τ.size+off) [u1]).toList→
        ∃b o arr ty g',u= .pointer (some ⟨b,o,none⟩)∧w.heap[b]?=some (.cells arr ty (0,0))∧o+[u1].length≤arr.size∧Le g g'∧
         HRel B g' ((id, .own g0 τ deep (Qb.set i.toNat y))::s.hp) (w.setRow b (il arr o [u1])):=by
       intro fP Gx;obtain⟨_,SW⟩:=Oy rfl fP;refine⟨b,0+i.toNat*τ.size+off,arr,ty,_,e,ha,by simpa using SW,Le.take g id [],R.write Q9 rfl yA KP (mg ha _) (fun x hx=>by simp at hx) ?_⟩;refine .inr ⟨b,cap,_,ty,by rw[List.length_set];exact jV,by simp[Gh.take,yA],KP,setRow_heap w b arr _ ty _ ha,by rw[List.length_set];exact hle, ?_, ?_⟩
       ·unfold il;simp only[List.size_toArray,VZ,WA,WN,Array.length_toList,V0,V5];omega
       ·unfold dG at Gx⊢;split
        ·rename_i hd;rw[WK hd]at Gx;obtain⟨nb,q1,q2,q3⟩:=Gx;exact⟨nb,q1,q2,fun x hx=>by simp[Gh.take,q3 x hx]⟩
        ·rename_i hd;rw[Wz hd]at Gx;exact Gx
      unfold dG at lQ
      by_cases hd:(deep&& !τ.flat)=true
      ·rw[WK hd]at lQ;obtain⟨Vb,hl,kY,Iu⟩:=lQ;obtain⟨na,n0,nc,en,MW,tN⟩:=hl.set hi;obtain⟨fP,KN⟩:=sK Ug hy MW;refine fin fP ?_;unfold dG;rw[WK hd,(Oy rfl fP).1];exact⟨na++n0++nc,tN (fun b _ L hL=>hL) KN,by rw[←en];exact kY,fun x hx=>Iu x (by rw[en];exact hx)⟩
      ·rw[Wz hd]at lQ;have MW:=lQ i.toNat hi;rw[Nat.zero_add]at MW;obtain⟨fP,KN⟩:=iR Ug hy MW;refine fin fP ?_;unfold dG;rw[Wz hd,(Oy rfl fP).1];exact lQ.set KN hi
     ·cases h'
    ·cases h'
  ·cases h
 ·cases h
end Go.Abs
end

section
namespace Go.Abs
theorem DW {E:Env}{t:TypeId}{x y:Operand}{s s':St}{sl:Slot}{d:Nat}(h:(cN E d (.store t x y)).run s=some (sl,s')):
  s'.env=s.env∧sl= .un∧∀(o:Oper),o.op= .store t x y→∀B g a w,HRel B g s.hp w→fi g s.env a→
  ∃w' g',(execOp a.eval o).run E.P w= .ok .skip w'∧Le g g'∧HRel B g' s'.hp w':=by
 obtain⟨v,t1,h1,h2⟩:=AM.ai h;obtain⟨s1,t2,h3,h4⟩:=AM.ai h2;obtain⟨n,t3,h5,h6⟩:=AM.ai h4;obtain⟨rfl,r1⟩:=bE h1;obtain⟨rfl,r2⟩:=lD h3;obtain⟨hn,rfl⟩:=bw h5;obtain⟨hb,h7⟩:=aX h6;have hl:=beq_eq hb;obtain⟨_,t4,h8,h9⟩:=AM.ai h7;obtain⟨rfl,rfl⟩:=aq h9;obtain⟨he,hw⟩:=D3 h8;refine⟨he,rfl,fun o ho B g a w R V=> ?_⟩;have hc:=(r1 V).cells;obtain⟨b,o',arr,ty,g',e,ha,hle,l,R'⟩:=hw R (r2 V) hc;refine⟨_,g', ?_,l,R'⟩;unfold execOp;rw[ho];have:=D7 (E:=E) (v:=a.eval y) hn (by rw[hc.length,hl]) ha hle hc.NZ;simp only[Sem.run_bind,e,this,Result.andThen_ok];rfl
theorem HRel.AT {B:Base}{g:Gh}{hp:List (Nat×Obj)}{w:World}(R:HRel B g hp w){id:Nat}{cs:List Cell}{us:List Value}(ty:TypeId)(hc:aA g cs us):
  ∃g',Le g g'∧HRel B g' ((id, .box (g.top id) (ty,cs))::hp) (World.more w (.cells us.toArray ty))∧bV g' (.val (.one (.ptr id (g.top id) 0))) (.pointer (some ⟨w.heap.size,0,none⟩)):=by
 have hle:=R.yK (id:=id) (b:=w.heap.size) (u:= .pointer (some ⟨w.heap.size,0,none⟩)) (nb:=[]) (out:=us) rfl;refine⟨_,hle,R.install rfl R.mI (ri w _) (fun x hx=>by simp at hx) rfl ?_, ?_⟩
 ·refine⟨w.heap.size,0,us.toArray,ty,us,by simp[Gh.inst],⟨by simp[Gh.inst],R.mI.ed⟩,wc w _,hc.mono hle, ?_, ?_,⟨rfl, ?_,rfl⟩⟩
  ·simp[Gh.inst]
  ·simp[Gh.inst]
  ·simp[Gh.inst,hc.length]
 ·exact⟨by simp[Gh.inst],w.heap.size,0,by simp[Gh.inst],rfl⟩
theorem vO {d:Nat}{ty:TypeId}{cs:List Cell}{s s':St}{sl:Slot}(h:(Go.Abs.AT d ty cs).run s=some (sl,s')):
  s'.env=s.env∧∀{B:Base} {g:Gh} {w:World} {us:List Value},HRel B g s.hp w→aA g cs us→
   ∃g',Le g g'∧HRel B g' s'.hp (World.more w (.cells us.toArray ty))∧bV g' sl (.pointer (some ⟨w.heap.size,0,none⟩)):=by
 obtain⟨gen,t,h1,h2⟩:=AM.ai h
 have nw:t=s:=by
  exact(kQ h1).1
 subst nw;simp only[AM.run,WI,WU]at h2;obtain⟨rfl,rfl⟩:=h2;refine⟨rfl,fun{B g w us} R hc=> ?_⟩;obtain⟨rfl,_⟩:=gK R h1;exact R.AT ty hc
theorem Ej {E:Env}{t:TypeId}{s s':St}{sl:Slot}{d:Nat}(h:(cN E d (.alloc t)).run s=some (sl,s')):Yld E (.alloc t) s sl s':=by
 obtain⟨cs,t1,h1,h2⟩:=AM.ai h;obtain⟨hz,rfl⟩:=bw h1;obtain⟨he,hb⟩:=vO h2;refine⟨he,fun o ho B g a w R V=> ?_⟩;unfold Env.zeroCells at hz;simp only[WT]at hz;obtain⟨z,⟨i,hi,Oo⟩,hz⟩:=hz;obtain⟨g',l,R',hs⟩:=hb R (ln hz g);refine⟨_,_,g', ?_,l,R',hs⟩;unfold execOp;rw[ho]
 apply cc
 simp[Instr.alloc,zeroValue,typeInfo,hi,Oo,newVar,newRow,World.more]
theorem HS {E:Env}{t:TypeId}{x:Operand}{s s':St}{sl:Slot}{d:Nat}(h:(cN E d (.box t x)).run s=some (sl,s')):Yld E (.box t x) s sl s':=by
 obtain⟨v,t1,h1,h2⟩:=AM.ai h;obtain⟨rfl,r1⟩:=bE h1;obtain⟨he,hb⟩:=vO h2;refine⟨he,fun o ho B g a w R V=> ?_⟩;obtain⟨g',l,R',hs⟩:=hb R (r1 V).cells;refine⟨_,_,g', ?_,l,R',hs⟩;unfold execOp;rw[ho]
 apply cc
 simp[Instr.box,newVar,newRow,World.more]
theorem Ad (n:Nat)(z:List Cell):(rep n z).length=n*z.length:=by
 induction n with
 |zero=>simp[rep]
 |succ n ih=>simp[rep,ih,Nat.add_mul];omega
theorem GQ {g:Gh}{z:List Cell}{us:List Value}(h:aA g z us):∀n,aA g (rep n z) (List.replicate n us).flatten
 |0=>by simp[rep,aA]
 |n+1=>by
  rw[List.replicate_succ,List.flatten_cons];exact h.append (GQ h n)
theorem EZ (us:List Value)(n:Nat):((Array.range (n*us.length)).map (us.toArray[· % us.toArray.size]!)).toList=(List.replicate n us).flatten:=by
 apply List.ext_getElem
 ·simp
 ·intro i h1 h2
  have hlen:0<us.length:=by
   rcases Nat.eq_zero_or_pos us.length with h|h
   ·simp[h]at h1
   ·exact h
  have hm:i % us.length<us.length:=Nat.mod_lt _ hlen;simp only[Array.toList_map,Array.toList_range,List.getElem_map,List.getElem_range,List.size_toArray];rw[getElem!_pos us.toArray _ (by simpa using hm)]
  have tf:∀(n i:Nat) (h:i<((List.replicate n us).flatten).length),((List.replicate n us).flatten)[i]=us[i % us.length]'(Nat.mod_lt _ hlen):=by
   intro n
   induction n with
   |zero=>intro i h;simp at h
   |succ n ih=>
    intro i h;have e:(List.replicate (n+1) us).flatten=us++(List.replicate n us).flatten:=(by rw[List.replicate_succ,List.flatten_cons]);simp only[e]at h⊢;rw[List.getElem_append];split
    ·rename_i hi;simp[Nat.mod_eq_of_lt hi]
    ·rename_i hi;rw[ih];have em:i % us.length=(i - us.length) % us.length:=Nat.mod_eq_sub_mod (by omega);simp only[em]
  rw[tf n i h2];simp
end Go.Abs
end

section
namespace Go.Abs
def AG (g:Gh):List (Nat×Val)→List (Nat×Value)→Prop
 |[],qs=>qs=[]
 |p::ps,qs=>∃u r,qs=(p.1,u)::r∧cG g p.2 u∧AG g ps r
theorem qf:∀{xs:List (Nat×Operand)}{s s':St}{vs:List (Nat×Val)},(yS xs).run s=some (vs,s')→s'=s∧∀{g:Gh}{a:Act},fi g s.env a→AG g vs (xs.map fun p=>(p.1,a.eval p.2))
 |[],_,_,_,h=>by obtain⟨rfl,rfl⟩:=aq h;exact⟨rfl,fun _=>rfl⟩
 |(i,x)::r,_,_,_,h=>by
  obtain⟨v,t,h1,h2⟩:=AM.ai h;obtain⟨vs,t2,h3,h4⟩:=AM.ai h2;obtain⟨rfl,rfl⟩:=aq h4;obtain⟨rfl,r1⟩:=bE h1;obtain⟨rfl,r2⟩:=qf h3;exact⟨rfl,fun V=>⟨_,_,rfl,r1 V,r2 V⟩⟩
theorem Co (off:Nat):∀(L:List Value)(k:Nat)(cs:Array Value),off+k+L.length≤cs.size→
  ((L.zipIdx k).foldl (fun cs p=>cs.setIfInBounds (off+p.2) p.1) cs).toList=cs.toList.take (off+k)++L++cs.toList.drop (off+k+L.length)
 |[],k,cs,h=>by simp
 |u::L,k,cs,h=>by
  simp only[V0]at h;simp only[List.zipIdx_cons,List.foldl_cons];rw[Co off L (k+1) _ (by simp;omega)];simp only[Array.toList_setIfInBounds,V0];rw[List.drop_set_of_lt (by omega)];rw[show off+(k+1)=(off+k)+1 from rfl,List.take_add_one];simp only[List.getElem?_set,List.take_set_of_le,Wp]
  have fP:off+k<cs.toList.length:=by simp;omega
  simp only[if_true,fP,Option.toList_some];rw[show off+k+1+L.length=off+k+(L.length+1)by omega];simp
theorem uQ {g:Gh}{place place':Nat→Option (Nat×Nat)}(hp:∀i,place i=place' i):∀{ps:List (Nat×Val)}{qs:List (Nat×Value)}{cells Gw:List Cell}{us:Array Value},
  fill place cells ps=some Gw→AG g ps qs→aA g cells us.toList→∃Fv,Instr.fill place' us qs=some Fv∧aA g Gw Fv.toList
 |[],qs,cells,Gw,us,h,hq,hc=>by
  have hq:qs=[]:=hq;subst hq
  injection h with h;subst h
  exact⟨us,rfl,hc⟩
 |(i,x)::r,qs,cells,Gw,us,h,⟨u,qr,e,hu,hr⟩,hc=>by
  subst e;simp only[fill]at h;simp only[Instr.fill];rw[←hp i]
  cases T0:place i with
  |none=>rw[T0]at h;cases h
  |some os=>
   obtain⟨off,size⟩:=os;rw[T0]at h;simp only at h⊢;have hx:=hu.cells;have hl:=hx.length;have Fu:=hc.length;simp only[Array.length_toList]at hl Fu
   cases hb:(Nat.beq x.cells.length size&&Nat.ble (off+size) cells.length)with
   |false=>rw[hb]at h;cases h
   |true=>
    rw[hb]at h;simp only[V6]at hb;have e1:=beq_eq hb.1;have e2:=Wr hb.2;rw[Wz (by simp only[WH,V4];omega)];have hf:=Co off u.cells.toList 0 us (by simp;omega);simp only[Nat.add_zero]at hf
    have Qz:(u.cells.zipIdx.foldl (fun cs p=>cs.setIfInBounds (off+p.2) p.1) us).toList=us.toList.take off++u.cells.toList++us.toList.drop (off+u.cells.toList.length):=by
     rw[←hf,←Array.foldl_toList,Array.toList_zipIdx]
    refine uQ hp h hr ?_;rw[Qz];exact hx.set off hc
theorem Ak {P:Program}:∀{fs:List Field},(fs.all fun f=>(P.info? f.type).isSome)=true→∃places,fs.mapM (fun f=>(P.info? f.type).map fun i=>(f.offset,i.size))=some places∧
  ∀i:Nat,places[i]?=(fs[i]?).bind fun f=>((P.info? f.type).map (·.size)).map (f.offset, ·)
 |[],_=>⟨[],rfl,fun i=>by simp⟩
 |f::fs,h=>by
  simp only[List.all_cons,V6]at h;obtain⟨i,hi⟩:=Option.isSome_iff_exists.1 h.1;obtain⟨places,hp,hq⟩:=Ak h.2;refine⟨(f.offset,i.size)::places,by simp[hi,hp],fun k=> ?_⟩
  cases k with
  |zero=>simp[hi]
  |succ k=>simp[hq k]
theorem mQ {E:Env}{t:TypeId}{cs:List Cell}(h:E.zeroCells t=some cs):∃i z,E.P.info? t=some i∧i.zero=some z∧∀g,aA g cs z.cells.toList:=by
 unfold Env.zeroCells at h;simp only[WT]at h;obtain⟨z,⟨i,hi,Oo⟩,hz⟩:=h;exact⟨i,z,hi,Oo,ln hz⟩
theorem D4 {E:Env}{t:TypeId}{ps:Array (Nat×Operand)}{s s':St}{sl:Slot}{d:Nat}(h:(cN E d (.build t ps)).run s=some (sl,s')):Yld E (.build t ps) s sl s':=by
 obtain⟨z,t1,h1,h2⟩:=AM.ai h;obtain⟨vs,t2,h3,h4⟩:=AM.ai h2;obtain⟨cs,t3,h5,h6⟩:=AM.ai h4;obtain⟨hb,h7⟩:=aX h6;obtain⟨rfl,rfl⟩:=aq h7;obtain⟨hz,rfl⟩:=bw h1;obtain⟨rfl,r1⟩:=qf h3;obtain⟨hf,rfl⟩:=bw h5;obtain⟨it,zv,hi,Oo,MN⟩:=mQ hz
 refine .still fun o ho B g a w R V=> ?_
 unfold Env.sized at hb;split at hb
 ·rename_i fs hu;obtain⟨places,hp,hq⟩:=Ak hb
  obtain⟨Fv,Ky,hr⟩:=uQ (place':=fun i=>places.toArray[i]?) (fun i=>by
   simp only[List.getElem?_toArray,hq i,Env.field,hu,Env.sizeOf,Array.getElem?_toList]) hf (r1 V) (MN g)
  refine⟨.agg Fv, ?_,⟨Fv.toList,rfl,hr⟩⟩;unfold execOp;rw[ho]
  apply cc
  apply run_build
  unfold Program.built;simp only[hi,hu,Oo,hp];rw[←Ky];simp
 ·cases hb
theorem C9 {g:Gh}:∀{τ:Ty}{cells:List Cell}{x:τ.den}{rest:List Cell}{us:List Value},wH τ cells=some (x,rest)→aA g cells us→
  ∃u1 u2,us=u1++u2∧(∀r,Rc r τ x u1)∧(τ.kv=true→∀r,Lin r τ x u1 [])∧aA g rest u2
 | .un,cells,x,rest,us,h,hc=>by
  injection h with h;injection h with h1 h2;subst h2
  exact⟨[],us,rfl,fun r=>rfl,fun _ r=>⟨rfl,rfl⟩,hc⟩
 | .pr a b,cells,x,rest,us,h,hc=>by
  simp only[wH,WT]at h;obtain⟨p,hp,q,hq,h⟩:=h
  injection h with h;injection h with h1 h2;subst h1;subst h2
  obtain⟨u1,u2,rfl,k1,k2,k3⟩:=C9 (x:=p.1) (rest:=p.2) hp hc;obtain⟨v1,v2,rfl,m1,m2,m3⟩:=C9 (x:=q.1) (rest:=q.2) hq k3;refine⟨u1++v1,v2,by simp,fun r=>⟨u1,v1,rfl,k1 r,m1 r⟩,fun hm r=> ?_,m3⟩;simp only[Ty.kv,V6]at hm;exact⟨u1,v1,[],[],rfl,rfl,k2 hm.1 r,m2 hm.2 r⟩
 | .int k,[],x,rest,us,h,hc=>by cases h
 | .bool,[],x,rest,us,h,hc=>by cases h
 | .str,[],x,rest,us,h,hc=>by cases h
 | .sl e,[],x,rest,us,h,hc=>by cases h
 | .cl,[],x,rest,us,h,hc=>by cases h
 | .int k,c::cs,x,rest,us,h,⟨u,r,e,hu,hr⟩=>by
  cases c<;>try(simp[wH]at h;done)
  rename_i τ' x'
  cases τ'<;>try(simp[wH]at h;done)
  rename_i k';simp only[wH]at h;split at h
  ·rename_i ek;subst ek
   injection h with h;injection h with h1 h2;subst h1;subst h2
   have hv:=e9 hu;subst hv;subst e;exact⟨_,r,rfl,fun _=>rfl,fun _ _=>⟨rfl,rfl⟩,hr⟩
  ·cases h
 | .bool,c::cs,x,rest,us,h,⟨u,r,e,hu,hr⟩=>by
  cases c<;>try(simp[wH]at h;done)
  rename_i τ' x'
  cases τ'<;>try(simp[wH]at h;done)
  injection h with h;injection h with h1 h2;subst h1;subst h2
  have hv:=jB hu;subst hv;subst e;exact⟨_,r,rfl,fun _=>rfl,fun _ _=>⟨rfl,rfl⟩,hr⟩
 | .str,c::cs,x,rest,us,h,⟨u,r,e,hu,hr⟩=>by
  cases c<;>try(simp[wH]at h;done)
  rename_i τ' x'
  cases τ'<;>try(simp[wH]at h;done)
  injection h with h;injection h with h1 h2;subst h1;subst h2
  obtain⟨st,hv,hl⟩:=lF hu;subst hv;subst e;exact⟨_,r,rfl,fun _=>⟨st,rfl,hl⟩,fun _ _=>⟨⟨st,rfl,hl⟩,rfl⟩,hr⟩
 | .sl e,c::cs,x,rest,us,h,⟨u,r,e',hu,hr⟩=>by
  cases c<;>try(simp[wH]at h;done)
  injection h with h;injection h with h1 h2;subst h1;subst h2
  have hv:_=_:=hu;subst hv;subst e';exact⟨_,r,rfl,fun _=>⟨none,0,rfl,Wp _, .inl rfl⟩,fun hm _=>⟨hm, .inl ⟨rfl,rfl,rfl⟩⟩,hr⟩
 | .cl,c::cs,x,rest,us,h,⟨u,r,e,hu,hr⟩=>by
  cases c<;>try(simp[wH]at h;done)
  injection h with h;injection h with h1 h2;subst h1;subst h2
  have hv:_=_:=hu;subst hv;subst e;exact⟨_,r,rfl,fun _=>⟨_,rfl,rfl⟩,fun hm _=>by simp[Ty.kv]at hm,hr⟩
end Go.Abs
end

section
namespace Go.Abs
def dS (g:Gh)(mv:Bool)(τ:Ty)(xs:List τ.den)(L:List Value)(nb:List Nat):Prop:=
 if mv then eW g.ed τ xs L nb∧nb.Nodup∧∀b∈nb,g.cM b=some 0 else Els g.ax τ xs L 0∧nb=[]
theorem dS.mono {g g':Gh}(l:Lk g g'){mv:Bool}{τ:Ty}{xs:List τ.den}{L:List Value}{nb:List Nat}(h:dS g mv τ xs L nb):dS g' mv τ xs L nb:=by
 unfold dS at h⊢;split
 ·rename_i e;rw[WK e]at h;exact⟨h.1.mono (fun b hb L hL=>by rw[(l.kp b (h.2.2 b hb)).2];exact hL),h.2.1,fun b hb=>(l.kp b (h.2.2 b hb)).1⟩
 ·rename_i e;rw[Wz e]at h;exact⟨h.1.mono l.le.ax,h.2⟩
theorem HRel.own {B:Base}{g:Gh}{hp:List (Nat×Obj)}{w w':World}(R:HRel B g hp w){id b cap:Nat}{arr:Array Value}{ty:TypeId}{τ:Ty}{deep:Bool}{xs:List τ.den}{nb:List Nat}
  (hf:Free g hp w b) (hw:Turned w w' b) (ha:w'.heap[b]?=some (.cells arr ty (0,0))) (hh:dS g (deep&& !τ.flat) τ xs arr.toList nb) (hl:xs.length≤cap) (hs:arr.size=cap*τ.size):
  ∃g',Le g g'∧HRel B g' ((id, .own (g.top id) τ deep xs)::hp) w'∧aV g' (.own id (g.top id)) (.slice (some ⟨b,0,none⟩) xs.length cap):=by
 have hle:=R.yK (id:=id) (b:=b) (u:= .slice (some ⟨b,0,none⟩) xs.length cap) (nb:=nb) (out:=[]) rfl
 have o9:∀x∈nb,g.cM x=some 0:=by
  unfold dS at hh;split at hh
  ·exact hh.2.2
  ·rw[hh.2];intro x hx;simp at hx
 refine⟨_,hle,R.install rfl hf hw o9 rfl (.inr ⟨b,cap,arr,ty,by simp[Gh.inst],by simp[Gh.inst],hf.ed,ha,hl,hs, ?_⟩),⟨by simp[Gh.inst],by simp[Gh.inst],rfl⟩⟩;unfold dS at hh;unfold dG;split
 ·rename_i e;rw[WK e]at hh;exact⟨nb,hh.1,hh.2.1,fun x hx=>by simp[Gh.inst,hx]⟩
 ·rename_i e;rw[Wz e]at hh;exact hh.1
noncomputable def Gh.name (g:Gh)(id gen:Nat)(u:Value):Gh:=
  open Classical in
  { g with top := fun i => if i = id then gen + 1 else g.top i
           cv:=fun i k=>if i=id∧k=gen then u else g.cv i k}
theorem HRel.named {B:Base}{g:Gh}{hp:List (Nat×Obj)}{w:World}(R:HRel B g hp w){id:Nat}{u:Value}{o':Obj}(tf:o'.gen=g.top id)(A7:mW (g.name id (g.top id) u) w id o'):
  Lk g (g.name id (g.top id) u)∧HRel B (g.name id (g.top id) u) ((id,o')::hp) w:=by
 have hle:Le g (g.name id (g.top id) u):=by
  refine⟨fun _ _ h=>h,fun i=> ?_,fun i k hk=> ?_⟩
  ·show g.top i≤if i=id then g.top id+1 else g.top i
   split
   ·rename_i e;subst e;omega
   ·exact Wp _
  ·show(if i=id∧k=g.top id then u else g.cv i k)=g.cv i k;rw[Wz];rintro⟨rfl,rfl⟩;omega
 refine⟨⟨hle,fun b h=>⟨h,rfl⟩,rfl⟩,fun i=> ?_,fun i oi hi=> ?_,R.ax,R.ed,R.ey,R.jh,R.frame,R.size,R.os,R.tape,R.output,R.fix⟩
 ·show(if i=id then g.top id+1 else g.top i)=_
  by_cases e:id=i
  ·subst e;rw[aF,WK rfl];simp[tf]
  ·rw[aC _ _ e,Wz (fun h=>e h.symm)];exact R.top i
 ·by_cases e:id=i
  ·subst e;rw[aF]at hi;injection hi with hi;subst hi;exact A7
  ·rw[aC _ _ e]at hi;exact(R.eC i oi hi).tr hle (fun b hb=>⟨hb,rfl,rfl⟩) rfl (by rw[R.top i,hi];exact Nat.lt_succ_self _)
theorem HRel.Nk {B:Base}{g:Gh}{hp:List (Nat×Obj)}{w:World}(R:HRel B g hp w)(id:Nat)(τ:Ty)(deep:Bool):
  ∃g',Lk g g'∧HRel B g' ((id, .own (g.top id) τ deep [])::hp) w∧aV g' (.own id (g.top id)) (.slice none 0 0):=by
 obtain⟨l,R'⟩:=R.named (id:=id) (u:= .slice none 0 0) (o':= .own (g.top id) τ deep []) rfl (.inl ⟨by simp[Gh.name],rfl⟩);exact⟨_,l,R',⟨by simp[Gh.name],by simp[Gh.name],rfl⟩⟩
theorem rl {d:Nat}{τ:Ty}{deep:Bool}{xs:List τ.den}{s s':St}{c:Cell}(h:(AQ d τ deep xs).run s=some (c,s')):
  ∃gen,(iL d).run s=some (gen,s)∧c= .own d gen∧s'={s with hp:=(d, .own gen τ deep xs)::s.hp}:=by
 obtain⟨gen,t,h1,h2⟩:=AM.ai h
 have nw:t=s:=by
  exact(kQ h1).1
 subst nw;simp only[AM.run,WI,WU]at h2;exact⟨gen,h1,h2.1.symm,h2.2.symm⟩
theorem El {mv:Bool}{τ:Ty}:∀{n:Nat}{cells:List Cell}{s s':St}{xs:List τ.den},(Kb mv τ n cells).run s=some (xs,s')→n*τ.size≤cells.length→
  s'.env=s.env∧xs.length=n∧∀B g w,HRel B g s.hp w→∃g',Lk g g'∧HRel B g' s'.hp w∧∀us,aA g cells us→
   ∃nb,dS g' mv τ xs us nb∧∀b∈nb,g.cM b≠some 0:=by
 intro n
 induction n with
 |zero=>
  intro cells s s' xs h hlen;obtain⟨rfl,rfl⟩:=aq h;refine⟨rfl,rfl,fun B g w R=>⟨g,Lk.refl g,R,fun us hu=>⟨[], ?_,fun b hb=>by simp at hb⟩⟩⟩;unfold dS;split
  ·exact⟨rfl,WM,fun b hb=>by simp at hb⟩
  ·exact⟨Els.nil,rfl⟩
 |succ n ih=>
  intro cells s s' xs h hlen;obtain⟨p,t,h1,h2⟩:=AM.ai h;obtain⟨ys,t2,h3,h4⟩:=AM.ai h2;obtain⟨rfl,rfl⟩:=aq h4;obtain⟨x,rest⟩:=p;rw[Nat.add_mul,Nat.one_mul]at hlen;obtain⟨e1,k1⟩:=Aa mv τ _ _ _ _ _ h1;obtain⟨e2,el,k2⟩:=ih h3 (by simp;omega);refine⟨e2.trans e1,by simp[el],fun B g w R=> ?_⟩;obtain⟨g1,l1,R1,c1⟩:=k1 B g w R;obtain⟨g2,l2,R2,c2⟩:=k2 B g1 w R1;refine⟨g2,l1.trans l2,R2,fun us hu=> ?_⟩;have T2:=hu.length;obtain⟨u1,u2,n1,e,hg,_,f1⟩:=c1 _ (hu.take τ.size);obtain⟨n2,hh,f2⟩:=c2 _ ((hu.drop τ.size).mono l1.le);have QZ:=hg.len
  have VH:(us.take τ.size).length=τ.size:=by simp;omega
  have vh:u2=[]:=by
   have:=congrArg List.length e;rw[VH,VZ,QZ]at this;exact WL (by omega)
  subst vh;rw[Wv]at e;have IL:=hg.mono l2;refine⟨n1++n2, ?_,fun b hb=> ?_⟩
  ·unfold Got at hg IL;unfold dS at hh⊢
   cases mv with
   |true=>
    simp only[if_true]at hg IL hh⊢;refine⟨⟨n1,n2,rfl,by rw[e];exact IL.1,hh.1⟩, ?_,fun b hb=> ?_⟩
    ·rw[List.nodup_append];refine⟨IL.2.1,hh.2.1,fun x hx y hy e=> ?_⟩;subst e;exact f2 x hy (hg.2.2 x hx)
    ·rcases Wu.1 hb with hb|hb
     ·exact IL.2.2 b hb
     ·exact hh.2.2 b hb
   |false=>
    simp only[WJ,WY]at IL hh⊢;exact⟨Els.head.2 ⟨by rw[e];exact IL.1,hh.1⟩,by rw[IL.2,hh.2];rfl⟩
  ·rcases Wu.1 hb with hb|hb
   ·exact f1 b hb
   ·intro e;exact f2 b hb (l1.kp b e).1
theorem sX {E:Env}{t:TypeId}{τ:Ty}{s s':St}(h:(E.ty t).run s=some (τ,s')):s'=s:=by
 unfold Env.ty at h;split at h
 ·exact(aq h).2
 ·cases h
theorem uU {E:Env}{t e:TypeId}(h:E.elem t=some e):E.P.underlying t=some (.slice e):=by
 unfold Env.elem at h;split at h
 ·rename_i hu;injection h with h;subst h;exact hu
 ·cases h
theorem sF {E:Env}{e:TypeId}{τ:Ty}(h:E.E8 e τ=true):∃i z,E.P.info? e=some i∧i.zero=some z∧i.size=τ.size∧i.bytes≤128∧τ.size≤64∧z.cells.size=τ.size:=by
 unfold Env.E8 at h;split at h
 ·rename_i i hi;simp only[V6]at h;obtain⟨⟨⟨h1,h2⟩,h3⟩,h4⟩:=h;split at h4
  ·rename_i z hz;exact⟨i,z,hi,hz,beq_eq h1,Wr h2,Wr h3,by have:=beq_eq h4;simpa using this⟩
  ·cases h4
 ·cases h
theorem sM {place:Nat→Option (Nat×Nat)}:∀{ps:List (Nat×Val)}{cells cs:List Cell},fill place cells ps=some cs→cs.length=cells.length
 |[],cells,cs,h=>by injection h with h;subst h;rfl
 |(i,x)::r,cells,cs,h=>by
  simp only[fill]at h;split at h
  ·rename_i off size hp
   cases hb:(Nat.beq x.cells.length size&&Nat.ble (off+size) cells.length)with
   |false=>rw[hb]at h;cases h
   |true=>
    rw[hb]at h;simp only[V6]at hb;have e1:=beq_eq hb.1;have e2:=Wr hb.2;rw[sM h];simp[setCells];omega
  ·cases h
theorem wX {E:Env}{t:TypeId}{n:Nat}{ps:Array (Nat×Operand)}{s s':St}{sl:Slot}{d:Nat}(h:(cN E d (.buildSlice t n ps)).run s=some (sl,s')):Yld E (.buildSlice t n ps) s sl s':=by
 obtain⟨e,t1,h1,h2⟩:=AM.ai h;obtain⟨τ,t2,h3,h4⟩:=AM.ai h2;obtain⟨z,t3,h5,h6⟩:=AM.ai h4;obtain⟨vs,t4,h7,h8⟩:=AM.ai h6;obtain⟨cs,t5,h9,tF⟩:=AM.ai h8;obtain⟨hb,nQ⟩:=aX tF;obtain⟨xs,t6,qU,rH⟩:=AM.ai nQ;obtain⟨c,t7,wQ,Cz⟩:=AM.ai rH;obtain⟨rfl,rfl⟩:=aq Cz;obtain⟨he,rfl⟩:=bw h1;obtain rfl:=sX h3;obtain⟨hz,rfl⟩:=bw h5;obtain⟨rfl,r1⟩:=qf h7;obtain⟨hf,rfl⟩:=bw h9;simp only[V6]at hb;obtain⟨i,zv,hi,Pc,iE,DO,T9,Gs⟩:=sF hb.1;have hn:=Wr hb.2;obtain⟨i',Vc,qm,DQ,MN⟩:=mQ hz;rw[hi]at qm
 injection qm with qm;subst qm
 rw[Pc]at DQ
 injection DQ with DQ;subst DQ
 have SK:z.length=τ.size:=by
  have:=(MN {ax:=fun _=>none,top:=fun _=>0,cv:=fun _ _=> .tuple #[],cM:=fun _=>none,ed:=fun _=>none,outer:=fun _=>[]}).length;rw[←this];simpa using Gs
 obtain⟨gen,Q1,rfl,rfl⟩:=rl wQ
 have Ov:(Array.range (n*τ.size)).map (fun x=>zv.cells[x % zv.cells.size]!)=(List.replicate n zv.cells.toList).flatten.toArray:=by
  have:=EZ zv.cells.toList n
  apply Array.ext'
  simpa[Gs]using this
 have Fu:n*τ.size≤cs.length:=by
  rw[sM hf,Ad,SK];exact Wp _
 obtain⟨TF,T5,hp⟩:=El qU Fu;refine⟨TF,fun o ho B g a w R V=> ?_⟩;obtain⟨Fv,Ky,hr⟩:=uQ (g:=g) (us:=(List.replicate n zv.cells.toList).flatten.toArray) (fun i=>by rw[SK]) hf (r1 V) (by simpa using GQ (MN g) n);obtain⟨g1,l1,R1,c1⟩:=hp B g w R;obtain⟨nb,hh,_⟩:=c1 _ hr;obtain⟨rfl,_⟩:=gK R1 Q1;have Vg:=hr.length;have Qg:cs.length=n*τ.size:=(by rw[sM hf,Ad,SK])
 obtain⟨g2,l2,R2,hc⟩:=R1.own (id:=d) (cap:=n) (arr:=Fv) (ty:=e) (w':=World.more w (.cells Fv e)) (deep:=tB cs&&τ.kv&& !τ.flat) R1.mI (ri w _) (wc w _) (nb:=nb) (xs:=xs) (by
  have:((tB cs&&τ.kv&& !τ.flat)&& !τ.flat)=(tB cs&&τ.kv&& !τ.flat):=by cases τ.flat<;>simp
  rw[this];exact hh) (by omega) (by simpa[Qg]using Vg)
 refine⟨.slice (some ⟨w.heap.size,0,none⟩) n n,_,g2, ?_,l1.le.trans l2,R2,by rw[←T5];exact T5 ▸ hc⟩;unfold execOp;rw[ho]
 apply cc
 have hu:=uU he
 have OQ:¬ (16777216<n*τ.size):=by
  have:n*τ.size≤4096*64:=Nat.mul_le_mul hn T9;omega
 have A6:Instr.fill (fun i=>some (i*τ.size,τ.size)) ((Array.range (n*τ.size)).map (fun x=>zv.cells[x % zv.cells.size]!)) (ps.map fun p=>(p.1,a.eval p.2)).toList=some Fv:=by
  rw[Ov];simpa using Ky
 by_cases hz0:n*τ.size=0
 ·rw[hz0,show(Array.range 0)=#[]from by simp]at A6;simp only[Instr.buildSlice,run_underlying hu,Sem.run_bind,Result.andThen_ok,sizeOf,typeInfo,hi,iE,hz0];simp at A6
  have er:∀f:Nat→Value,Array.map f (Array.range 0)=#[]:=fun f=>by apply Array.ext';simp
  simp[hi,iE,hz0,A6,newRow,World.more,er]
 ·simp only[Instr.buildSlice,run_underlying hu,Sem.run_bind,Result.andThen_ok,sizeOf,typeInfo,zeroValue,hi,Pc];simp at A6;simp[hi,Pc,iE,hz0,OQ,A6,newRow,World.more,zeroValue]
end Go.Abs
end

section
namespace Go.Abs
theorem Et {r:Rd}{τ:Ty}{x:τ.den}{us:List Value}(h:Rc r τ x us):∀{l c:Nat},l≤c→Els r τ (List.replicate l x) (List.replicate c us).flatten 0
 |0,_,_=>Els.nil
 |l+1,0,QN=>by omega
 |l+1,c+1,QN=>by
  have hl:=h.length;rw[List.replicate_succ,List.replicate_succ,List.flatten_cons];refine Els.head.2 ⟨by rw[←hl,List.take_left];exact h, ?_⟩;rw[←hl,List.drop_left];exact Et h (by omega)
theorem Ew {r:Rd}{τ:Ty}{x:τ.den}{us:List Value}(h:Lin r τ x us []):∀{l c:Nat},l≤c→eW r τ (List.replicate l x) (List.replicate c us).flatten []
 |0,_,_=>rfl
 |l+1,0,QN=>by omega
 |l+1,c+1,QN=>by
  have hl:=h.length;rw[List.replicate_succ,List.replicate_succ,List.flatten_cons];refine⟨[],[],rfl,by rw[←hl,List.take_left];exact h, ?_⟩;rw[←hl,List.drop_left];exact Ew h (by omega)
theorem ya {E:Env}{t:TypeId}{lx cx:Operand}{s s':St}{sl:Slot}{d:Nat}(h:(cN E d (.makeSlice t lx cx)).run s=some (sl,s')):Yld E (.makeSlice t lx cx) s sl s':=by
 obtain⟨e,t1,h1,h2⟩:=AM.ai h;obtain⟨τ,t2,h3,h4⟩:=AM.ai h2;obtain⟨z,t3,h5,h6⟩:=AM.ai h4;obtain⟨x,t4,h7,h8⟩:=AM.ai h6;obtain⟨lv,t5,h9,tF⟩:=AM.ai h8;obtain⟨l,t6,nQ,qU⟩:=AM.ai tF;obtain⟨cv,t7,rH,wQ⟩:=AM.ai qU;obtain⟨c,t8,Cz,wR⟩:=AM.ai wQ;obtain⟨hb,P9⟩:=aX wR;obtain⟨hr,Om⟩:=jT P9;obtain⟨cell,t9,OX,vl⟩:=AM.ai Om;obtain⟨rfl,rfl⟩:=aq vl;obtain⟨he,rfl⟩:=bw h1;obtain rfl:=sX h3;obtain⟨hz,rfl⟩:=bw h5;obtain⟨hx,rfl⟩:=bw h7;obtain⟨rfl,r1⟩:=bE h9;obtain⟨⟨kl,rfl⟩,rfl⟩:=im nQ;obtain⟨rfl,r2⟩:=bE rH;obtain⟨⟨kc,rfl⟩,rfl⟩:=im Cz;simp only[V6,V4]at hb hr;obtain⟨⟨h0,QN⟩,Fj⟩:=hr;obtain⟨i,zv,hi,Pc,iE,DO,T9,Gs⟩:=sF hb.1;obtain⟨i',Vc,qm,DQ,MN⟩:=mQ hz;rw[hi]at qm
 injection qm with qm;subst qm
 rw[Pc]at DQ
 injection DQ with DQ;subst DQ
 obtain⟨gen,Q1,rfl,rfl⟩:=rl OX;refine⟨rfl,fun o ho B g a w R V=> ?_⟩;obtain⟨rfl,_⟩:=gK R Q1;obtain⟨x,rest⟩:=x;obtain⟨u1,u2,eu,k1,k2,k3⟩:=C9 hx (MN g)
 have vh:u2=[]:=by
  have hr:rest=[]:=(by simpa using hb.2);subst hr;exact k3
 subst vh;rw[Wv]at eu;have hu:=uU he;have QV:c≤1099511627776:=Fj
 have Oc:(i.bytes:Int)*c≤281474976710656:=by
  have h1:(i.bytes:Int)*c≤128*1099511627776:=Int.mul_le_mul (by omega) QV (by omega) (by omega);omega
 have wP:=run_make (P:=E.P) w t e i zv hu hi Pc kl kc l c h0 QN Oc (by omega)
 have U2:(madeCells zv.cells (c.toNat*i.size)).toList=(List.replicate c.toNat u1).flatten:=by
  have:=EZ zv.cells.toList c.toNat;unfold madeCells;rw[iE,←Gs,←eu];exact this
 obtain⟨g2,l2,R2,hc⟩:=R.own (id:=d) (cap:=c.toNat) (arr:=madeCells zv.cells (c.toNat*i.size)) (ty:=e) (w':=World.more w (.cells (madeCells zv.cells (c.toNat*i.size)) e)) (τ:=τ) (deep:=τ.kv&& !τ.flat)
  (xs:=List.replicate l.toNat x) (nb:=[]) R.mI (ri w _) (wc w _) (by
   rw[U2];unfold dS;split
   ·rename_i hm;simp only[V6]at hm;exact⟨Ew (k2 hm.1.1 _) (by omega),WM,fun b hb=>by simp at hb⟩
   ·exact⟨Et (k1 _) (by omega),rfl⟩) (by simp;omega) (by rw[size_madeCells,iE])
 simp only[List.length_replicate]at hc;refine⟨_,_,g2, ?_,l2,R2,hc⟩;unfold execOp;rw[ho]
 apply cc
 have e1:a.eval lx= .int kl l:=e9 (r1 V);have e2:a.eval cx= .int kc c:=e9 (r2 V);rw[e1,e2,wP];rfl
theorem ur {lo:Option Val}{l:Int}{s s':St}(h:(Dq lo).run s=some (l,s')):s'=s∧((lo=none∧l=0)∨∃k,lo=some (.one (.v (.int k) l))):=by
 cases lo with
 |none=>obtain⟨rfl,rfl⟩:=aq h;exact⟨rfl, .inl ⟨rfl,rfl⟩⟩
 |some v=>obtain⟨⟨k,rfl⟩,rfl⟩:=im h;exact⟨rfl, .inr ⟨k,rfl⟩⟩
theorem tX {n:Nat}{hi:Option Val}{l:Int}{s s':St}(h:(Dr n hi).run s=some (l,s')):s'=s∧((hi=none∧l=(n:Int))∨∃k,hi=some (.one (.v (.int k) l))):=by
 cases hi with
 |none=>obtain⟨rfl,rfl⟩:=aq h;exact⟨rfl, .inl ⟨rfl,rfl⟩⟩
 |some v=>obtain⟨⟨k,rfl⟩,rfl⟩:=im h;exact⟨rfl, .inr ⟨k,rfl⟩⟩
theorem zP {x:Option Operand}{v:Option Val}{s s':St}(h:(NP x).run s=some (v,s')):s'=s∧∀{g:Gh}{a:Act},fi g s.env a→
  (v=none∧x.map a.eval=none)∨∃v' u,v=some v'∧x.map a.eval=some u∧cG g v' u:=by
 cases x with
 |none=>obtain⟨rfl,rfl⟩:=aq h;exact⟨rfl,fun _=> .inl ⟨rfl,rfl⟩⟩
 |some y=>
  obtain⟨w,t,h1,h2⟩:=AM.ai h;obtain⟨rfl,rfl⟩:=aq h2;obtain⟨rfl,r⟩:=bE h1;exact⟨rfl,fun V=> .inr ⟨w,_,rfl,rfl,r V⟩⟩
theorem zS {P:Program}{w:World}{isSlice:Bool}{len cap:Nat}{lo hi:Option Value}{l h:Int}(hb:bounds len l h=true)(hc:len≤cap)
  (h1:(lo=none∧l=0)∨∃k,lo=some (.int k l)) (h2:(hi=none∧h=(len:Int))∨∃k,hi=some (.int k h)):
  (Instr.sliceBounds isSlice len cap lo hi none).run P w= .ok (l.toNat,h.toNat,cap) w:=by
 simp only[bounds,V6,V4]at hb;have eh:(h.toNat:Int)=h:=Int.toNat_of_nonneg (by omega);have L5:h≤(cap:Int):=(by omega);have h0:0≤h:=(by omega)
 rcases h1 with⟨rfl,rfl⟩|⟨k,rfl⟩<;>rcases h2 with⟨rfl,rfl⟩|⟨k',rfl⟩
 ·simp[Instr.sliceBounds]
 ·simp[Instr.sliceBounds,run_sliceBound,h0,L5]
 ·have:=hb.1.2;simp[Instr.sliceBounds,run_sliceBound,hb.1.1,hb.1.2]
 ·simp[Instr.sliceBounds,run_sliceBound,hb.1.1,hb.1.2,h0,L5,eh]
theorem H0 (s:ByteArray)(l h:Int):sub (bytesOf s) l h=bytesOf (s.extract l.toNat h.toNat):=by
 unfold sub bytesOf;rw[ByteArray.data_extract,Array.toList_extract,List.extract_eq_take_drop,←List.map_take,←List.map_drop,List.drop_take]
theorem FE {α:Type}{xs:List α}{l h:Int}(hb:bounds xs.length l h=true):(sub xs l h).length=h.toNat - l.toNat:=by
 simp only[bounds,V6,V4]at hb;unfold sub;simp;omega
theorem Nb {r:Rd}{τ:Ty}{xs:List τ.den}{A:Option Addr}{n cap:Nat}{l h:Int}(H:Rc r (.sl τ) xs [.slice A n cap])(hb:bounds xs.length l h=true):
  n=xs.length∧n≤cap∧Rc r (.sl τ) (sub xs l h) [sliced A l.toNat h.toNat cap τ.size]:=by
 obtain⟨A',c,e,hc,he⟩:=H
 injection e with e;injection e with e1 e2 e3
 subst e1;subst e2;subst e3;refine⟨rfl,hc, ?_⟩;have xy:=FE hb;have yz:=hb;simp only[bounds,V6,V4]at hb;refine⟨_,cap - l.toNat,by unfold sliced;rw[xy],by rw[xy];omega, ?_⟩
 by_cases hz:sub xs l h=[]
 ·exact .inl hz
 ·right
  rcases he with he|⟨b,o,L,rfl,hL,hi⟩
  ·exact absurd (by rw[he];unfold sub;simp) hz
  ·have fP:l.toNat<h.toNat:=by
    have:0<(sub xs l h).length:=List.length_pos_iff.2 hz;omega
   refine⟨b,o+l.toNat*τ.size,L, ?_,hL,fun i qm=> ?_⟩
   ·rw[Wz (by omega)];simp[Addr.add_lit]
   ·have e:(sub xs l h)[i]=xs[l.toNat+i]'(by omega):=by
     simp[sub]
    rw[e];have:=hi (l.toNat+i) (by omega);rw[Nat.add_assoc,←Nat.add_mul];exact this
theorem qd {E:Env}{t e:TypeId}{sz:Option Nat}{τ:Ty}{xs:List τ.den}{lo hi:Option Val}{s s':St}{sl:Slot}(h:(wx sz τ xs lo hi).run s=some (sl,s'))(iE:sz=E.sizeOf e)(ht:E.P.underlying t=some (.slice e)):
  s'=s∧∀{g:Gh} {w:World} {u:Value} {Bh Bf:Option Value},Rc g.ax (.sl τ) xs [u]→((lo=none∧Bh=none)∨∃v' u,lo=some v'∧Bh=some u∧cG g v' u)→((hi=none∧Bf=none)∨∃v' u,hi=some v'∧Bf=some u∧cG g v' u)→
   ∃v,(Instr.sliceAt t u Bh Bf none).run E.P w= .ok v w∧bV g sl v:=by
 unfold wx at h;split at h
 ·rename_i n;obtain⟨hb,h1⟩:=aX h;obtain⟨l,t1,h2,h3⟩:=AM.ai h1;obtain⟨hh,t2,h4,h5⟩:=AM.ai h3;obtain⟨BR,h6⟩:=jT h5;obtain⟨rfl,rfl⟩:=aq h6;obtain⟨rfl,k1⟩:=ur h2;obtain⟨rfl,k2⟩:=tX h4;refine⟨rfl,fun{g w u Bh Bf} hu Ir Iz=> ?_⟩;obtain⟨A,c,e',hc,_⟩:=id hu
  injection e' with e'
  subst e';obtain⟨_,_,hr⟩:=Nb hu BR;refine⟨_, ?_,⟨rfl,hr⟩⟩
  have Gq:=zS (P:=E.P) (w:=w) (isSlice:=true) (lo:=Bh) (hi:=Bf) BR hc (by
   rcases k1 with⟨rfl,rfl⟩|⟨k,rfl⟩
   ·rcases Ir with⟨_,rfl⟩|⟨v',u,e,_⟩
    ·exact .inl ⟨rfl,rfl⟩
    ·cases e
   ·rcases Ir with⟨e,rfl⟩|⟨v',u,e,rfl,hv⟩
    ·cases e
    ·injection e with e;subst e
     exact .inr ⟨k,by rw[e9 hv]⟩) (by
   rcases k2 with⟨rfl,rfl⟩|⟨k,rfl⟩
   ·rcases Iz with⟨_,rfl⟩|⟨v',u,e,_⟩
    ·exact .inl ⟨rfl,rfl⟩
    ·cases e
   ·rcases Iz with⟨e,rfl⟩|⟨v',u,e,rfl,hv⟩
    ·cases e
    ·injection e with e;subst e
     exact .inr ⟨k,by rw[e9 hv]⟩)
  have hn:=beq_eq hb
  have Tb:(Go.sizeOf e).run E.P w= .ok n w:=by
   have:=iE.symm;unfold Env.sizeOf at this;simp only[Ww]at this;obtain⟨i,hi,Qy⟩:=this;subst Qy;simp[Go.sizeOf,typeInfo,hi]
  simp only[Instr.sliceAt,Instr.slice,Sem.run_bind,run_underlying ht,Result.andThen_ok,Gq,Tb];simp[sliced,hn]
 ·cases h
theorem Bm {E:Env}{t:TypeId}{lo hi:Option Val}{c:Cell}{s s':St}{sl:Slot}(h:(De ((E.elem t).bind E.sizeOf) lo hi c).run s=some (sl,s'))(hf:E.fit t c=true):
  s'.env=s.env∧∀{B:Base} {g:Gh} {w:World} {u:Value} {Bh Bf:Option Value},HRel B g s.hp w→aV g c u→((lo=none∧Bh=none)∨∃v' u,lo=some v'∧Bh=some u∧cG g v' u)→((hi=none∧Bf=none)∨∃v' u,hi=some v'∧Bf=some u∧cG g v' u)→
   ∃v g',(Instr.sliceAt t u Bh Bf none).run E.P w= .ok v w∧Le g g'∧HRel B g' s'.hp w∧bV g' sl v:=by
 have M4:∀{g g':Gh} {x:Option Val} {ux:Option Value},Le g g'→((x=none∧ux=none)∨∃v' u,x=some v'∧ux=some u∧cG g v' u)→((x=none∧ux=none)∨∃v' u,x=some v'∧ux=some u∧cG g' v' u):=
  fun l h=>h.imp id fun⟨v',u,a,b,c⟩=>⟨v',u,a,b,c.mono l⟩
 unfold De at h;split at h
 ·rename_i st;obtain⟨l,t1,h2,h3⟩:=AM.ai h;obtain⟨hh,t2,h4,h5⟩:=AM.ai h3;obtain⟨BR,h6⟩:=jT h5;obtain⟨rfl,rfl⟩:=aq h6;obtain⟨rfl,k1⟩:=ur h2;obtain⟨rfl,k2⟩:=tX h4;refine⟨rfl,fun{B g w u Bh Bf} R hu Ir Iz=> ?_⟩;obtain⟨sb,rfl,nw⟩:=lF hu;subst nw;rw[cR]at BR k2
  have ht:E.P.underlying t=some .string:=by
   unfold Env.fit at hf;split at hf
   ·assumption
   ·simp[Cell.isStr]at hf
   ·cases hf
  have Gq:=zS (P:=E.P) (w:=w) (isSlice:=false) (lo:=Bh) (hi:=Bf) BR (Wp _) (by
   rcases k1 with⟨rfl,rfl⟩|⟨k,rfl⟩
   ·rcases Ir with⟨_,rfl⟩|⟨v',u,e,_⟩
    ·exact .inl ⟨rfl,rfl⟩
    ·cases e
   ·rcases Ir with⟨e,rfl⟩|⟨v',u,e,rfl,hv⟩
    ·cases e
    ·injection e with e;subst e
     exact .inr ⟨k,by rw[e9 hv]⟩) (by
   rcases k2 with⟨rfl,rfl⟩|⟨k,rfl⟩
   ·rcases Iz with⟨_,rfl⟩|⟨v',u,e,_⟩
    ·exact .inl ⟨rfl,rfl⟩
    ·cases e
   ·rcases Iz with⟨e,rfl⟩|⟨v',u,e,rfl,hv⟩
    ·cases e
    ·injection e with e;subst e
     exact .inr ⟨k,by rw[e9 hv]⟩)
  refine⟨.string (sb.extract l.toNat hh.toNat),g, ?_,Le.refl g,R,by rw[H0];exact F6 g _⟩;simp only[Instr.sliceAt,Instr.slice,Sem.run_bind,run_underlying ht,Result.andThen_ok,Gq];simp[Gq]
 ·rename_i τ xs
  have ht:∃e,E.P.underlying t=some (.slice e):=by
   unfold Env.fit at hf;split at hf
   ·simp[Cell.isStr]at hf
   ·exact⟨_,by assumption⟩
   ·cases hf
  obtain⟨e,ht⟩:=ht;obtain⟨rfl,hs⟩:=qd (E:=E) (t:=t) (e:=e) h (by simp[Env.elem,ht]) ht;refine⟨rfl,fun{B g w u Bh Bf} R hu Ir Iz=> ?_⟩;obtain⟨v,h1,h2⟩:=hs (w:=w) hu.2 Ir Iz;exact⟨v,g,h1,Le.refl g,R,h2⟩
 ·rename_i id gen
  have ht:∃e,E.P.underlying t=some (.slice e):=by
   unfold Env.fit at hf;split at hf
   ·simp[Cell.isStr]at hf
   ·exact⟨_,by assumption⟩
   ·cases hf
  obtain⟨e,ht⟩:=ht;simp only[AM.run]at h;split at h
  ·rename_i g0 τ deep xs heq;obtain⟨hb,h'⟩:=aX h;obtain rfl:=beq_eq hb;simp only[AM.run]at h';obtain⟨rfl,hs⟩:=qd (E:=E) (t:=t) (e:=e) h' (by simp[Env.elem,ht]) ht;refine⟨rfl,fun{B g w u Bh Bf} R hu Ir Iz=> ?_⟩;obtain⟨g',l,R'⟩:=R.AJ heq;have hP:Rc _ _ _ _:=R'.eC _ _ (aF _ _ _);rw[show g'.cv id g0=g.cv id g0 from l.le.cv _ _ (gP R heq),←hu.2.1]at hP;obtain⟨v,h1,h2⟩:=hs (w:=w) hP (M4 l.le Ir) (M4 l.le Iz);exact⟨v,g',h1,l.le,R',h2⟩
  ·rename_i g0 τ xs heq;obtain⟨hb,h'⟩:=aX h;obtain rfl:=beq_eq hb;obtain⟨rfl,hs⟩:=qd (E:=E) (t:=t) (e:=e) h' (by simp[Env.elem,ht]) ht;refine⟨rfl,fun{B g w u Bh Bf} R hu Ir Iz=> ?_⟩;have hP:Rc _ _ _ _:=R.eC _ _ heq;rw[←hu.2.1]at hP;obtain⟨v,h1,h2⟩:=hs (w:=w) hP Ir Iz;exact⟨v,g,h1,Le.refl g,R,h2⟩
  ·cases h
 ·cases h
theorem Bt {E:Env}{t:TypeId}{hi:Option Val}{d id gen:Nat}{s s':St}{sl:Slot}(h:(G5 d id gen ((E.elem t).bind E.sizeOf) hi).run s=some (sl,s'))(hf:E.fit t (.own id gen)=true):
  s'.env=s.env∧∀{B:Base} {g:Gh} {w:World} {u:Value} {Bh Bf:Option Value},HRel B g s.hp w→aV g (.own id gen) u→Bh=none→((hi=none∧Bf=none)∨∃v' u,hi=some v'∧Bf=some u∧cG g v' u)→
   ∃v g',(Instr.sliceAt t u Bh Bf none).run E.P w= .ok v w∧Le g g'∧HRel B g' s'.hp w∧bV g' sl v:=by
 cases h
theorem Ef {E:Env}{t:TypeId}{x:Operand}{lo hi:Option Operand}{s s':St}{sl:Slot}{d:Nat}(h:(cN E d (.slice t x lo hi none)).run s=some (sl,s')):Yld E (.slice t x lo hi none) s sl s':=by
 obtain⟨v,t1,h1,h2⟩:=AM.ai h;obtain⟨c,t2,h3,h4⟩:=AM.ai h2;obtain⟨TT,t3,h5,h6⟩:=AM.ai h4;obtain⟨qm,t4,h7,h8⟩:=AM.ai h6;obtain⟨hf,h9⟩:=aX h8;obtain⟨rfl,r1⟩:=bE h1;obtain⟨rfl,rfl⟩:=qF h3;obtain⟨rfl,r2⟩:=zP h5;obtain⟨rfl,r3⟩:=zP h7
 obtain⟨he,hs⟩:s'.env=_∧∀{B:Base} {g:Gh} {w:World} {u:Value} {Bh Bf:Option Value},HRel B g _ w→aV g c u→((TT=none∧Bh=none)∨∃v' u,TT=some v'∧Bh=some u∧cG g v' u)→((qm=none∧Bf=none)∨∃v' u,qm=some v'∧Bf=some u∧cG g v' u)→
   ∃v g',(Instr.sliceAt t u Bh Bf none).run E.P w= .ok v w∧Le g g'∧HRel B g' s'.hp w∧bV g' sl v:=by
  split at h9
  ·obtain⟨a,b⟩:=Bt h9 hf;refine⟨a,fun{B g w u Bh Bf} R hu Ir Iz=>b R hu ?_ Iz⟩
   rcases Ir with⟨_,e⟩|⟨v',u,e,_⟩
   ·exact e
   ·cases e
  ·exact Bm h9 hf
 refine⟨he,fun o ho B g a w R V=> ?_⟩;obtain⟨v,g',k1,k2,k3,k4⟩:=hs R (r1 V) (r2 V) (r3 V);refine⟨v,w,g', ?_,k2,k3,k4⟩;unfold execOp;rw[ho]
 apply cc
 exact k1
theorem uf:∀(ns:List Int)(s:ByteArray),bytesOf (ns.foldl (fun r n=>r.push (UInt8.ofNat n.toNat)) s)=bytesOf s++ns.map byte
 |[],s=>by simp
 |n::ns,s=>by
  rw[List.foldl_cons,uf ns]
  have:bytesOf (s.push (UInt8.ofNat n.toNat))=bytesOf s++[byte n]:=by
   unfold bytesOf byte;rw[ByteArray.data_push];simp
  rw[this];simp
theorem Gz {P:Program}{w:World}{b o:Nat}{xs:List Int}{cap:Nat}(h:∀i (hi:i<xs.length),w.cell? ⟨b,o+i,none⟩=some (.int .u8 xs[i])):
  ∃st,(Conv.bytesToString (.slice (some ⟨b,o,none⟩) xs.length cap)).run P w= .ok (.string st) w∧bytesOf st=xs.map byte:=by
 have hl:=run_loadCells_list (P:=P) w ⟨b,o,none⟩ (xs.map (Value.int .u8)) (fun j v hj=>by
  rw[List.getElem?_map]at hj;simp only[Ww]at hj;obtain⟨x,hx,rfl⟩:=hj;obtain⟨hj,rfl⟩:=List.getElem?_eq_some_iff.1 hx;rw[Addr.add_lit]
  exact h j hj)
 rw[List.length_map]at hl;refine⟨_,run_bytesToString w ⟨b,o,none⟩ xs.length cap xs (by simpa using hl), ?_⟩;rw[uf];simp[bytesOf]
theorem xj {r:Rd}{w:World}{xs:List Int}{b o:Nat}{arr:Array Value}{ty:TypeId}{fr:Nat×Nat}(ha:w.heap[b]?=some (.cells arr ty fr))(h:Els r (.int .u8) xs arr.toList o):
  ∀i (hi:i<xs.length),w.cell? ⟨b,o+i,none⟩=some (.int .u8 xs[i]):=by
 intro i hi;have h1:_=_:=h i hi
 have:=eV ha (o:=o+i) 1 0 (.int .u8 xs[i]) (by
  have h1:List.take 1 (List.drop (o+i*1) arr.toList)=[Value.int .u8 xs[i]]:=h1;rw[Nat.mul_one]at h1
  rw[h1];rfl)
 simpa using this
theorem EF {P:Program}{g:Gh}{B:Base}{hp:List (Nat×Obj)}{w:World}(R:HRel B g hp w){xs:List Int}{u:Value}(h:Rc g.ax (.sl (.int .u8)) xs [u]):
  ∃st,(Conv.bytesToString u).run P w= .ok (.string st) w∧bytesOf st=xs.map byte:=by
 obtain⟨A,c,e,hc,he⟩:=h
 injection e with e
 subst e
 cases A with
 |none=>
  rcases he with he|⟨b,o,L,e,_⟩
  ·have he:xs=[]:=he;subst he;exact⟨.empty,by simp[Conv.bytesToString],rfl⟩
  ·cases e
 |some a=>
  rcases he with he|⟨b,o,L,e,hL,hi⟩
  ·have he:xs=[]:=he;subst he;have hl:=run_loadCells_list (P:=P) w a [] (fun j v hj=>by simp at hj);exact⟨_,run_bytesToString w a 0 c [] hl,rfl⟩
  ·injection e with e
   subst e;obtain⟨_,_,arr,ty,fr,k1,k2⟩:=R.ax _ _ hL;subst k2;exact Gz (xj k1 hi)
theorem Br {E:Env}{src dst:TypeId}{x:Operand}{s s':St}{sl:Slot}{d:Nat}(h:(cN E d (.convert src dst x)).run s=some (sl,s')):Yld E (.convert src dst x) s sl s':=by
 obtain⟨v,t1,h1,h2⟩:=AM.ai h;obtain⟨rfl,r1⟩:=bE h1;unfold convert at h2;split at h2
 ·rename_i k0 k hs hd;obtain⟨n,t2,h3,h4⟩:=AM.ai h2;obtain⟨⟨k',rfl⟩,rfl⟩:=im h3;obtain⟨rfl,rfl⟩:=aq h4
  refine .still fun o ho B g a w R V=>⟨.int k (k.wrap n), ?_,rF g _ _⟩
  unfold execOp;rw[ho]
  apply cc
  rw[e9 (r1 V)];simp[Go.convert,run_underlying hs,run_underlying hd,Conv.intToInt]
 ·rename_i e hs hd;split at h2
  ·rename_i c he
   have fin:∀{xs:List Int},sl=ws (xs.map byte)→s'=t1→(∀{B:Base} {g:Gh} {w:World} {u:Value},HRel B g t1.hp w→aV g c u→(∃A n c,u= .slice A n c)∧∃st,(Conv.bytesToString u).run E.P w= .ok (.string st) w∧bytesOf st=xs.map byte)→
     Yld E (.convert src dst x) t1 sl s':=by
    rintro xs rfl rfl hf
    refine .still fun o ho B g a w R V=> ?_
    obtain⟨⟨A,n,c,e⟩,st,k1,k2⟩:=hf R (r1 V);refine⟨.string st, ?_,by rw[←k2];exact F6 g st⟩;unfold execOp;rw[ho]
    apply cc
    rw[e]at k1⊢;rw[run_convert_bytes_string w src dst _ A n c hs he hd];exact k1
   split at h2
   ·obtain⟨rfl,rfl⟩:=aq h2
    refine fin rfl rfl fun{B g w u} R hu=>⟨?_,EF R hu.2⟩
    obtain⟨_,A,c,e,_⟩:=hu
    injection e with e
    exact⟨A,_,c,e⟩
   ·obtain⟨rfl,rfl⟩:=aq h2
    refine fin (xs:=[]) rfl rfl fun{B g w u} R hu=> ?_
    have hu:_=_:=hu;subst hu;exact⟨⟨_,_,_,rfl⟩, .empty,by simp[Conv.bytesToString],rfl⟩
   ·rename_i id gen;simp only[AM.run]at h2;split at h2
    ·rename_i g0 deep xs heq;obtain⟨hb,h'⟩:=aX h2;obtain rfl:=beq_eq hb;obtain⟨rfl,rfl⟩:=aq h'
     refine fin rfl rfl fun{B g w u} R hu=> ?_
     rcases R.eC _ _ heq with⟨k1,k2⟩|⟨b,cap,arr,ty,k1,k2,k3,k4,k5,k6,k7⟩
     ·have k2:xs=[]:=k2;subst k2;rw[hu.2.1,k1];exact⟨⟨_,_,_,rfl⟩, .empty,by simp[Conv.bytesToString],rfl⟩
     ·rw[hu.2.1,k1];refine⟨⟨_,_,_,rfl⟩,Gz (xj (r:=g.ax) k4 ?_)⟩;unfold dG at k7;rw[Wz (by simp[Ty.flat])]at k7;exact k7
    ·rename_i g0 xs heq;obtain⟨hb,h'⟩:=aX h2;obtain rfl:=beq_eq hb;obtain⟨rfl,rfl⟩:=aq h'
     refine fin rfl rfl fun{B g w u} R hu=> ?_
     have hP:Rc _ _ _ _:=R.eC _ _ heq;rw[←hu.2.1]at hP;refine⟨?_,EF R hP⟩;obtain⟨A,c,e,_⟩:=hP
     injection e with e
     exact⟨A,_,c,e⟩
    ·cases h2
   ·cases h2
  ·cases h2
 ·rename_i e hs hd;split at h2
  ·rename_i l he;obtain⟨rfl,rfl⟩:=aq h2;refine⟨rfl,fun o ho B g a w R V=> ?_⟩;obtain⟨st,e1,nw⟩:=lF (r1 V)
   have hl:List.length l=st.size:=by rw[nw];exact cR st
   have hT:Turned w (Lib.bytesWorld w e st) w.heap.size:=by
    refine⟨fun x hx=> ?_,by rw[Lib.bytesWorld_size];omega,by rw[Lib.bytesWorld_size];omega,rfl,rfl,rfl⟩
    rcases Nat.lt_or_ge x w.heap.size with h|h
    ·exact Lib.bytesWorld_at_old w e st x h
    ·rw[Array.getElem?_eq_none (by rw[Lib.bytesWorld_size];omega),Array.getElem?_eq_none h]
   obtain⟨g',hle,hi,R'⟩:=R.Nh hT (Lib.bytesWorld_at_new w e st);refine⟨.slice (some ⟨w.heap.size,0,none⟩) st.size (grownCap w st.size 0 e),_,g', ?_,hle,R', ?_⟩
   ·unfold execOp;rw[ho]
    apply cc
    rw[e1];exact Lib.run_convert_string_bytes w _ _ e st hs hd he
   ·refine⟨rfl,some ⟨w.heap.size,0,none⟩,_,by rw[←hl], ?_, .inr ⟨w.heap.size,0,_,rfl,hi,fun i qm=> ?_⟩⟩
    ·rw[hl];exact grownCap_ge w st.size 0 e
    ·have Qy:i<st.data.toList.length:=by
      have:i<st.size:=by rw[←hl];exact qm
      rw[Array.length_toList];exact this
     show List.take 1 (List.drop (0+i*1) (Lib.bytesCells w e st).toList)=[Value.int .u8 l[i]];rw[Nat.zero_add,Nat.mul_one];unfold Lib.bytesCells;rw[Array.toList_append,Array.toList_map,List.drop_append_of_le_length (by simp;omega)];have hlen:i<(st.data.toList.map fun b=>Value.int .u8 b.toNat).length:=(by simpa using Qy);rw[List.drop_eq_getElem_cons hlen];simp only[List.cons_append,List.take_succ_cons,List.take_zero,List.getElem_map]
     congr 2
     have:l[i]=(bytesOf st)[i]'(by rw[←nw];exact qm):=(by simp only[nw]);rw[this];simp[bytesOf]
  ·cases h2
 ·cases h2
theorem tH {E:Env}{t:TypeId}{x:Operand}{s s':St}{sl:Slot}{d:Nat}(h:(cN E d (.makeInterface t x)).run s=some (sl,s')):Yld E (.makeInterface t x) s sl s':=by
 obtain⟨v,t1,h1,h2⟩:=AM.ai h;obtain⟨rfl,r1⟩:=bE h1;split at h2
 ·cases h2
 ·rename_i u hu ht;obtain⟨rfl,rfl⟩:=aq h2
  refine .still fun o ho B g a w R V=>⟨.iface t (a.eval x), ?_, .inr ⟨rfl,_,_,rfl⟩⟩
  unfold execOp;rw[ho]
  apply cc
  simp only[Instr.makeInterface,run_underlying ht,Sem.run_bind,Result.andThen_ok]
  cases u<;>first|rfl|(exact absurd rfl (hu _))
 ·cases h2
end Go.Abs
end

section
namespace Go.Abs
theorem HRel.JZ {B:Base}{g:Gh}{hp:List (Nat×Obj)}{w:World}(R:HRel B g hp w){id gen:Nat}{τ:Ty}{deep:Bool}{xs:List τ.den}
  (h:look hp id=some (.own gen τ deep xs)):∃g' nb,Lk g g'∧HRel B g' ((id, .dead gen)::hp) w∧(∀b∈nb,g.cM b≠some 0)∧
   ((g'.cv id gen= .slice none 0 0∧xs=[]∧nb=[])∨∃b cap arr ty,g'.cv id gen= .slice (some ⟨b,0,none⟩) xs.length cap∧Free g' ((id, .dead gen)::hp) w b∧b∉nb∧b<w.heap.size∧w.heap[b]?=some (.cells arr ty (0,0))∧
    xs.length≤cap∧arr.size=cap*τ.size∧dS g' (deep&& !τ.flat) τ xs arr.toList nb):=by
 have MY:∀i,i=id→∀o,look ((id,Obj.dead gen)::hp) i=some o→∃gn,o= .dead gn:=by
  rintro i rfl o ho;rw[aF]at ho
  injection ho with ho
  exact⟨gen,ho.symm⟩
 rcases R.eC _ _ h with⟨h1,h2⟩|⟨b,cap,arr,ty,h1,h2,h3,h4,h5,h6,h7⟩
 ·exact⟨g,[],Lk.refl g,R.put h rfl trivial,fun b hb=>by simp at hb, .inl ⟨h1,h2,rfl⟩⟩
 ·have LZ:b<w.heap.size:=R.ey b (by rw[h2];simp)
  have MG:g.ax b=none:=by
   cases hi:g.ax b with
   |none=>rfl
   |some L=>have:=(R.ax b L hi).1;rw[h2]at this;cases this
  unfold dG at h7;split at h7
  ·rename_i hd;obtain⟨nb,k1,k2,k3⟩:=h7
   have Bj:b∉nb:=fun hm=>k1.qO b hm h3
   let g':Gh:={g with cM:=open Classical in fun x=>if x∈nb then some 0 else g.cM x}
   have hle:Le g g':=⟨fun _ _ h=>h,fun _=>Wp _,fun _ _ _=>rfl⟩
   have hR:HRel B g' ((id, .dead gen)::hp) w:=by
    refine⟨fun i=> ?_,fun i oi hi=> ?_,fun x L hx=> ?_,fun x L hx=> ?_,fun x hx=> ?_,R.jh,fun x hx hl hi=> ?_,R.size,R.os,R.tape,R.output,R.fix⟩
    ·show g.top i=_;rw[R.top i]
     by_cases e:id=i
     ·subst e;rw[aF,h];rfl
     ·rw[aC _ _ e]
    ·by_cases e:id=i
     ·subst e;rw[aF]at hi;injection hi with hi;subst hi;trivial
     ·rw[aC _ _ e]at hi;refine(R.eC i oi hi).tr hle (fun x hx=> ?_) rfl (by rw[R.top i,hi];exact Nat.lt_succ_self _)
      have jW:x∉nb:=fun hm=>by rw[k3 x hm]at hx;simp at hx;exact e hx
      simp[g',jW,hx]
    ·obtain⟨a1,a2,a3⟩:=R.ax x L hx
     have jW:x∉nb:=fun hm=>by rw[k3 x hm]at a1;cases a1
     exact⟨by simp[g',jW,a1],a2,a3⟩
    ·obtain⟨a1,a2⟩:=R.ed x L hx;refine⟨?_,a2⟩
     by_cases jW:x∈nb
     ·simp[g',jW]
     ·simpa[g',jW]using a1
    ·by_cases jW:x∈nb
     ·exact R.ey x (by rw[k3 x jW];simp)
     ·exact R.ey x (by simpa[g',jW]using hx)
    ·obtain⟨f1,f2,f3⟩:=R.frame x hx hl hi
     have jW:x∉nb:=fun hm=>by rw[k3 x hm]at f1;cases f1
     exact⟨by simp[g',jW,f1],f2,f3⟩
   refine⟨g',nb,⟨hle,fun x hx=> ?_,rfl⟩,hR,fun x hx=>by rw[k3 x hx];simp, .inr ⟨b,cap,arr,ty,h1,⟨fun i hi o ho=> ?_, ?_,MG,h3,fun hn=> ?_⟩,Bj,LZ,h4,h5,h6, ?_⟩⟩
   ·have jW:x∉nb:=fun hm=>by rw[k3 x hm]at hx;simp at hx
    simp[g',jW,hx]
   ·have qm:g.cM b=some (i+1):=by simpa[g',Bj]using hi
    rw[h2]at qm;simp at qm;exact MY i qm.symm o ho
   ·simp[g',Bj,h2]
   ·simp[g',Bj,h2]at hn
   ·unfold dS;rw[WK hd];exact⟨k1,k2,fun x hx=>by simp[g',hx]⟩
  ·rename_i hd;refine⟨g,[],Lk.refl g,R.put h rfl trivial,fun x hx=>by simp at hx, .inr ⟨b,cap,arr,ty,h1,⟨fun i hi o ho=> ?_,by rw[h2];simp,MG,h3,fun hn=>by rw[h2]at hn;cases hn⟩,by simp,LZ,h4,h5,h6, ?_⟩⟩
   ·rw[h2]at hi;simp at hi;exact MY i hi.symm o ho
   ·unfold dS;rw[Wz hd];exact⟨h7,rfl⟩
theorem HRel.settle {B:Base}{g:Gh}{hp:List (Nat×Obj)}{w:World}(R:HRel B g hp w){nb:List Nat}(h0:∀x∈nb,g.cM x=some 0):Le g (g.ki (nbS g nb))∧HRel B (g.ki (nbS g nb)) hp w:=by
 have hS:∀x L,nbS g nb x=some L→g.cM x=some 0∧∃arr ty fr,w.heap[x]?=some (.cells arr ty fr)∧arr.toList=L:=by
  intro x L hx;unfold nbS at hx;split at hx
  ·rename_i hm;obtain⟨_,arr,ty,a,b⟩:=R.ed x L hx;exact⟨h0 x hm,arr,ty,(0,0),a,b⟩
  ·cases hx
 have hle:Le g (g.ki (nbS g nb)):=by
  refine⟨fun b L h=> ?_,fun _=>Wp _,fun _ _ _=>rfl⟩;show(match nbS g nb b with|some L=>some L|none=>g.ax b)=some L
  cases hs:nbS g nb b with
  |none=>exact h
  |some L'=>exact absurd (hS b L' hs).1 (by rw[(R.ax b L h).1];simp)
 refine⟨hle,fun i=>R.top i,fun i oi hi=> ?_,fun b L h=> ?_,fun b L h=> ?_,fun b h=> ?_,fun b L h=>hle.ax _ _ (R.jh b L h),fun b hb hl hi=> ?_,R.size,R.os,R.tape,R.output,R.fix⟩
 ·refine(R.eC i oi hi).tr hle (fun b hb=> ?_) rfl (by rw[R.top i,hi];exact Nat.lt_succ_self _)
  have hn:nbS g nb b=none:=by
   cases hs:nbS g nb b with
   |none=>rfl
   |some L=>exact absurd ((hS b L hs).1.symm.trans hb) (by simp)
  simp[Gh.ki,hn,hb]
 ·simp only[Gh.ki]at h⊢
  cases hs:nbS g nb b with
  |some L'=>
   rw[hs]at h
   injection h with h;subst h
   obtain⟨arr,ty,fr,h1,h2⟩:=(hS b L' hs).2;exact⟨rfl,rfl,arr,ty,fr,h1,h2⟩
  |none=>rw[hs]at h;exact R.ax b L h
 ·simp only[Gh.ki]at h⊢
  cases hs:nbS g nb b with
  |some L'=>rw[hs]at h;cases h
  |none=>rw[hs]at h;exact R.ed b L h
 ·simp only[Gh.ki]at h
  cases hs:nbS g nb b with
  |some L'=>rw[hs]at h;exact absurd rfl h
  |none=>rw[hs]at h;exact R.ey b h
 ·obtain⟨f1,f2,f3⟩:=R.frame b hb hl hi
  have hn:nbS g nb b=none:=by
   cases hs:nbS g nb b with
   |none=>rfl
   |some L=>exact absurd (hS b L hs).1 (by rw[f1];simp)
  simp[Gh.ki,hn,f1,f2,f3]
theorem dS.loose {B:Base}{g:Gh}{hp:List (Nat×Obj)}{w:World}(R:HRel B g hp w){mv:Bool}{τ:Ty}{xs:List τ.den}{L:List Value}{nb:List Nat}(h:dS g mv τ xs L nb):
  ∃g',Le g g'∧HRel B g' hp w∧dS g' false τ xs L []∧(∀b,b∉nb→Free g hp w b→Free g' hp w b):=by
 cases mv with
 |false=>
  unfold dS at h;simp only[WJ,WY]at h;refine⟨g,Le.refl g,R, ?_,fun _ _ h=>h⟩;unfold dS;simp only[WJ,WY];exact⟨h.1,trivial⟩
 |true=>
  unfold dS at h;simp only[if_true]at h;obtain⟨hle,R'⟩:=R.settle h.2.2;refine⟨_,hle,R', ?_,fun b hb hf=> ?_⟩
  ·unfold dS;simp only[WJ,WY];exact⟨eW.els (nb:=nb) (h.1.mono fun x hx L hL=>by simp[Gh.ki,nbS,hx,hL]),trivial⟩
  ·have hn:nbS g nb b=none:=(by simp[nbS,hb]);exact⟨fun i hi=>hf.obj i (by simpa[Gh.ki,hn]using hi),by simpa[Gh.ki,hn]using hf.Km,by simpa[Gh.ki,hn]using hf.ax,by simpa[Gh.ki,hn]using hf.ed,fun h=>hf.new (by simpa[Gh.ki,hn]using h)⟩
theorem dS.Ag {g g':Gh}(l:Le g g'){τ:Ty}{xs:List τ.den}{L:List Value}{nb:List Nat}(h:dS g false τ xs L nb):dS g' false τ xs L nb:=by
 unfold dS at h⊢;simp only[WJ,WY]at h⊢;exact⟨h.1.mono l.ax,h.2⟩
theorem LF {r:Rd}{τ:Ty}{x:τ.den}{us:List Value}(h:Rc r τ x us):∀u∈us,u.oneCell'=true:=
 (jz (g:={ax:=r,top:=fun _=>0,cv:=fun _ _=> .tuple #[],cM:=fun _=>none,ed:=fun _=>none,outer:=fun _=>[]}) h).NZ
theorem vZ {r:Rd}{τ:Ty}:∀{xs:List τ.den}{L:List Value},Els r τ xs L 0→L.length=xs.length*τ.size→∀u∈L,u.oneCell'=true
 |[],L,_,hl,u,hu=>by
  have:L=[]:=WL (by simpa using hl);subst this;simp at hu
 |x::xs,L,h,hl,u,hu=>by
  obtain⟨h1,h2⟩:=Els.head.1 h;rw[←List.take_append_drop τ.size L]at hu
  rcases Wu.1 hu with hu|hu
  ·exact LF h1 u hu
  ·exact vZ h2 (by simp only[WN,hl,V0,Nat.add_mul];omega) u hu
theorem dS.els {g:Gh}{mv:Bool}{τ:Ty}{xs:List τ.den}{L:List Value}{nb:List Nat}(h:dS g mv τ xs L nb):∃r,Els r τ xs L 0:=by
 unfold dS at h;split at h
 ·exact⟨_,h.1.els⟩
 ·exact⟨_,h.1⟩
theorem dS.pre {g:Gh}{mv:Bool}{τ:Ty}{xs:List τ.den}{L M:List Value}{nb:List Nat}(hp:L.take (xs.length*τ.size)=M.take (xs.length*τ.size))(h:dS g mv τ xs L nb):dS g mv τ xs M nb:=by
 unfold dS at h⊢;split
 ·rename_i e;rw[WK e]at h;exact⟨h.1.pre (fun k hk=>by subst hk;exact hp),h.2⟩
 ·rename_i e;rw[Wz e]at h;exact⟨h.1.pre (fun k hk=>by subst hk;exact hp),h.2⟩
theorem dS.append {g:Gh}{mv:Bool}{τ:Ty}{xs ys:List τ.den}{L M:List Value}{n m:List Nat}(h:dS g mv τ xs L n)(k:dS g mv τ ys M m)(hl:L.length=xs.length*τ.size)(hd:∀x∈n,x∉m):
  dS g mv τ (xs++ys) (L++M) (n++m):=by
 unfold dS at h k⊢;split
 ·rename_i e;rw[WK e]at h k;refine⟨h.1.append k.1 hl, ?_,fun b hb=> ?_⟩
  ·rw[List.nodup_append];exact⟨h.2.1,k.2.1,fun x hx y hy e=>hd x hx (e ▸ hy)⟩
  ·rcases Wu.1 hb with hb|hb
   ·exact h.2.2 b hb
   ·exact k.2.2 b hb
 ·rename_i e;rw[Wz e]at h k;exact⟨h.1.append k.1 hl,by rw[h.2,k.2];rfl⟩
end Go.Abs
end

section
namespace Go.Abs
theorem Lo {r:Rd}{e:Ty}{xs:List e.den}{L:List Value}{o:Nat}(h:Els r e xs L o):Els r e xs (L.drop o) 0:=by
 intro i hi;have:=h i hi;rw[Nat.zero_add,List.drop_drop];exact this
theorem Db {r:Rd}{e:Ty}{xs:List e.den}{L:List Value}{o:Nat}(h:Els r e xs L o):Els r e xs ((L.drop o).take (xs.length*e.size)) 0∧((L.drop o).take (xs.length*e.size)).length=xs.length*e.size:=by
 have h':=Lo h;refine⟨h'.pre (fun k hk=>by subst hk;rw[List.take_take,Nat.min_self]), ?_⟩;have:=h'.len;rw[WA];omega
theorem dS.cut {g:Gh}{mv:Bool}{τ:Ty}{xs:List τ.den}{L:List Value}{nb:List Nat}(h:dS g mv τ xs L nb):dS g mv τ xs (L.take (xs.length*τ.size)) nb∧(L.take (xs.length*τ.size)).length=xs.length*τ.size:=by
 obtain⟨r,he⟩:=h.els;refine⟨h.pre (by rw[List.take_take,Nat.min_self]), ?_⟩;have:=he.len;rw[WA];omega
theorem dS.nil {g:Gh}{mv:Bool}{τ:Ty}{L:List Value}:dS g mv τ [] L []:=by
 unfold dS;split
 ·exact⟨rfl,WM,fun b hb=>by simp at hb⟩
 ·exact⟨Els.nil,rfl⟩
theorem Ng {P:Program}{B:Base}{g:Gh}{hp:List (Nat×Obj)}{w:World}(R:HRel B g hp w){e:Ty}{xs:List e.den}{u:Value}{tx e':TypeId}(hk:P.underlying tx=some (.slice e'))(h:Rc g.ax (.sl e) xs [u]):
  ∃news,Src P e.size tx u xs.length news w∧dS g false e xs news []:=by
 obtain⟨A,c,eu,hc,he⟩:=h
 injection eu with eu
 subst eu
 by_cases hx:xs=[]
 ·subst hx;refine⟨[], ?_,dS.nil⟩
  cases A with
  |none=>exact Src.ofNil w hk c
  |some a=>exact Src.ofSlice w hk a 0 c [] (by simp) (fun j u hj=>by simp at hj) (fun u hu=>by simp at hu)
 ·rcases he with he|⟨b,o,L,rfl,hL,hi⟩
  ·exact absurd he hx
  ·obtain⟨_,_,arr,ty,fr,k1,k2⟩:=R.ax _ _ hL;subst k2;have hE:Els g.ax e xs arr.toList o:=hi;obtain⟨wS,Gr⟩:=Db hE;refine⟨_,Src.ofSlice w hk _ _ c _ Gr (fun j u hj=> ?_) (vZ wS Gr), ?_⟩
   ·rw[Addr.add_lit];exact eV k1 _ j u hj
   ·unfold dS;simp only[WJ,WY];exact⟨wS,trivial⟩
theorem tA {E:Env}{t:TypeId}{c:Cell}(h:E.fit t c=true)(hs:c.isStr=false):∃e,E.P.underlying t=some (.slice e):=by
 unfold Env.fit at h;split at h
 ·rw[hs]at h;cases h
 ·exact⟨_,by assumption⟩
 ·cases h
theorem CH {E:Env}{e:Ty}{c:Cell}{tx:TypeId}{s s':St}{dq:Bool}{ys:List e.den}(h:(source e c).run s=some ((dq,ys),s'))(hf:E.fit tx c=true):
  s'.env=s.env∧∀B g w,HRel B g s.hp w→∃g1,Lk g g1∧HRel B g1 s'.hp w∧∀u,aV g c u→
   ∃news nb,Src E.P e.size tx u ys.length news w∧dS g1 (dq&& !e.flat) e ys news nb∧∀b∈nb,g.cM b≠some 0:=by
 have shared:∀{B:Base} {g:Gh} {hp:List (Nat×Obj)} {w:World} {u:Value} {dq:Bool},HRel B g hp w→c.isStr=false→(dq&& !e.flat)=false→Rc g.ax (.sl e) ys [u]→
   ∃news nb,Src E.P e.size tx u ys.length news w∧dS g (dq&& !e.flat) e ys news nb∧∀b∈nb,g.cM b≠some 0:=by
  intro B g hp w u dq R hs hd hr;obtain⟨e',hk⟩:=tA hf hs;obtain⟨news,k1,k2⟩:=Ng R hk hr;exact⟨news,[],k1,by rw[hd];exact k2,fun b hb=>by simp at hb⟩
 unfold source at h;split at h
 ·obtain⟨h1,rfl⟩:=aq h
  injection h1 with h1 h2
  subst h1;subst h2;refine⟨rfl,fun B g w R=>⟨g,Lk.refl g,R,fun u hu=> ?_⟩⟩;have hu:_=_:=hu;subst hu;obtain⟨e',hk⟩:=tA hf rfl;exact⟨[],[],Src.ofNil w hk 0,dS.nil,fun b hb=>by simp at hb⟩
 ·rename_i τ xs;obtain⟨zs,t,h1,h2⟩:=AM.ai h;obtain⟨h3,rfl⟩:=aq h2
  injection h3 with h3 h4
  subst h3;subst h4;obtain⟨ee,hx,rfl⟩:=ij h1;subst ee;subst hx;refine⟨rfl,fun B g w R=>⟨g,Lk.refl g,R,fun u hu=> ?_⟩⟩;exact shared R rfl (by simp) hu.2
 ·rename_i l;split at h
  ·obtain⟨h1,rfl⟩:=aq h
   injection h1 with h1 h2
   subst h1;subst h2;refine⟨rfl,fun B g w R=>⟨g,Lk.refl g,R,fun u hu=> ?_⟩⟩;obtain⟨st,rfl,nw⟩:=lF hu
   have hk:E.P.underlying tx=some .string:=by
    unfold Env.fit at hf;split at hf
    ·assumption
    ·simp[Cell.isStr]at hf
    ·cases hf
   have hl:List.length ys=st.size:=by rw[nw];exact cR st
   have hb:byteCells st=ys.map (Value.int .u8):=by
    rw[nw];unfold byteCells bytesOf;rw[List.map_map];rfl
   refine⟨byteCells st,[],by rw[hl];exact Src.ofString w hk st, ?_,fun b hb=>by simp at hb⟩;unfold dS;simp only[Ty.flat,Wq,Wa,WJ,WY];refine⟨fun i hi=> ?_,trivial⟩;show List.take 1 (List.drop (0+i*1) (byteCells st))=[Value.int .u8 ys[i]];rw[hb,Nat.zero_add,Nat.mul_one];have:i<(ys.map (Value.int .u8)).length:=(by simpa using hi);rw[List.drop_eq_getElem_cons this];simp
  ·cases h
 ·rename_i id gen;simp only[AM.run]at h;split at h
  ·rename_i g0 τ deep xs heq;obtain⟨hb,h'⟩:=aX h;obtain rfl:=beq_eq hb
   cases Qs:τ.flat with
   |true=>
    rw[Qs]at h';obtain⟨zs,t,h1,h2⟩:=AM.ai h';obtain⟨h3,rfl⟩:=aq h2
    injection h3 with h3 h4
    subst h3;subst h4;obtain⟨ee,hx,rfl⟩:=ij h1;subst ee;subst hx;refine⟨rfl,fun B g w R=>⟨g,Lk.refl g,R,fun u hu=> ?_⟩⟩;obtain⟨e',hk⟩:=tA hf rfl
    rcases R.eC _ _ heq with⟨k1,k2⟩|⟨b,cap,arr,ty,k1,k2,k3,k4,k5,k6,k7⟩
    ·have k2:ys=[]:=k2;subst k2;rw[hu.2.1,k1];exact⟨[],[],Src.ofNil w hk 0,dS.nil,fun b hb=>by simp at hb⟩
    ·rw[hu.2.1,k1];unfold dG at k7;rw[Wz (by simp[Qs])]at k7;obtain⟨wS,Gr⟩:=Db k7;refine⟨_,[],Src.ofSlice w hk _ _ cap _ Gr (fun j u hj=> ?_) (vZ wS Gr), ?_,fun b hb=>by simp at hb⟩
     ·rw[Addr.add_lit];exact eV k4 _ j u hj
     ·unfold dS;simp only[Qs,Wq,Wa,WJ,WY];exact⟨wS,trivial⟩
   |false=>
    rw[Qs]at h';simp only[Wb,AM.run]at h';obtain⟨zs,t,h1,h2⟩:=AM.ai h';obtain⟨h3,rfl⟩:=aq h2
    injection h3 with h3 h4
    subst h3;subst h4;obtain⟨ee,hx,rfl⟩:=ij h1;subst ee;subst hx;refine⟨rfl,fun B g w R=> ?_⟩
    cases dq with
    |true=>
     obtain⟨g1,nb,l,R1,hn,hO⟩:=R.JZ heq;refine⟨g1,l,R1,fun u hu=> ?_⟩;obtain⟨e',hk⟩:=tA hf rfl;have jV:g1.cv id g0=g.cv id g0:=l.le.cv _ _ (gP R heq);rw[jV,←hu.2.1]at hO
     rcases hO with⟨k1,k2,k3⟩|⟨b,cap,arr,ty,k1,k2,k3,k3',k4,k5,k6,k7⟩
     ·have k2:ys=[]:=k2;subst k2;subst k3;rw[k1];exact⟨[],[],Src.ofNil w hk 0,dS.nil,fun b hb=>by simp at hb⟩
     ·rw[k1];obtain⟨wS,Gr⟩:=k7.cut;obtain⟨r,he⟩:=wS.els;refine⟨_,nb,Src.ofSlice w hk _ _ cap _ Gr (fun j u hj=> ?_) (vZ he Gr),wS,hn⟩;rw[Addr.add_lit];exact eV k4 (o:=0) _ j u (by simpa using hj)
    |false=>
     obtain⟨g1,l,R1⟩:=R.AJ heq;refine⟨g1,l,R1,fun u hu=> ?_⟩;have hP:Rc _ _ _ _:=R1.eC _ _ (aF _ _ _);rw[show g1.cv id g0=g.cv id g0 from l.le.cv _ _ (gP R heq),←hu.2.1]at hP;obtain⟨news,nb,a1,a2,a3⟩:=shared (dq:=false) R1 rfl (by simp) hP;refine⟨news,[],a1, ?_,fun b hb=>by simp at hb⟩;unfold dS at a2⊢;simp only[Wc,WJ,WY]at a2⊢;exact⟨a2.1,trivial⟩
  ·rename_i g0 τ xs heq;obtain⟨hb,h'⟩:=aX h;obtain rfl:=beq_eq hb;obtain⟨zs,t,h1,h2⟩:=AM.ai h';obtain⟨h3,rfl⟩:=aq h2
   injection h3 with h3 h4
   subst h3;subst h4;obtain⟨ee,hx,rfl⟩:=ij h1;subst ee;subst hx;refine⟨rfl,fun B g w R=>⟨g,Lk.refl g,R,fun u hu=> ?_⟩⟩;have hP:Rc _ _ _ _:=R.eC _ _ heq;rw[←hu.2.1]at hP;exact shared R rfl (by simp) hP
  ·cases h
 ·cases h
def Tgt (g:Gh)(hp:List (Nat×Obj))(w:World)(mv:Bool)(e:Ty)(xs:List e.den)(u:Value)(nb:List Nat):Prop:=
 (u= .slice none 0 0∧xs=[]∧nb=[])∨∃b cap arr ty,u= .slice (some ⟨b,0,none⟩) xs.length cap∧Free g hp w b∧b∉nb∧b<w.heap.size∧w.heap[b]?=some (.cells arr ty (0,0))∧
  xs.length≤cap∧arr.size=cap*e.size∧dS g mv e xs arr.toList nb
theorem CL {e:Ty}{c:Cell}{s s':St}{dp:Bool}{xs:List e.den}(h:(target e c).run s=some ((dp,xs),s')):
  s'.env=s.env∧∀B g w,HRel B g s.hp w→∃g1,Lk g g1∧HRel B g1 s'.hp w∧∀u,aV g c u→∃nb,Tgt g1 s'.hp w (dp&& !e.flat) e xs u nb∧∀b∈nb,g.cM b≠some 0:=by
 unfold target at h;split at h
 ·obtain⟨h1,rfl⟩:=aq h
  injection h1 with h1 h2
  subst h1;subst h2;refine⟨rfl,fun B g w R=>⟨g,Lk.refl g,R,fun u hu=>⟨[], .inl ⟨hu,rfl,rfl⟩,fun b hb=>by simp at hb⟩⟩⟩
 ·rename_i id gen;simp only[AM.run]at h;split at h
  ·rename_i g0 τ deep zs heq;obtain⟨hb,h'⟩:=aX h;obtain rfl:=beq_eq hb;simp only[AM.run]at h';obtain⟨ys,t,h1,h2⟩:=AM.ai h';obtain⟨h3,rfl⟩:=aq h2
   injection h3 with h3 h4
   subst h3;subst h4;obtain⟨ee,hx,rfl⟩:=ij h1;subst ee;subst hx;refine⟨rfl,fun B g w R=> ?_⟩;obtain⟨g1,nb,l,R1,hn,hO⟩:=R.JZ heq;refine⟨g1,l,R1,fun u hu=>⟨nb, ?_,hn⟩⟩;rw[show g1.cv id g0=g.cv id g0 from l.le.cv _ _ (gP R heq),←hu.2.1]at hO;exact hO
  ·cases h
 ·cases h
end Go.Abs
end

section
namespace Go.Abs
theorem ED {α:Type}(A R:List α){k:Nat}(h:A.length=k):A.take k=(A++R).take k:=by subst h;simp
theorem Ab {P:Program}{B:Base}{g:Gh}{hp:List (Nat×Obj)}{w:World}{t tx ty e:TypeId}{i:TypeInfo}{z:Value}{τ:Ty}(ht:P.underlying t=some (.slice e))(hi:P.info? e=some i)(hz:i.zero=some z)
  (iE:i.size=τ.size) (DO:i.bytes≤128) (Gs:z.cells.size=τ.size) (R:HRel B g hp w) {deep:Bool} {xs ys:List τ.den} {base:Option Addr} {sCap:Nat} {olds news:List Value} {u:Value} {KU IJ:List Nat}
  (hold:(Builtin.firstCells i.size xs.length (.slice base xs.length sCap)).run P w.drew= .ok olds.toArray w.drew) (Sx:olds.length=xs.length*τ.size) (hP:dS g (deep&& !τ.flat) τ xs olds KU)
  (hS:Src P τ.size tx u ys.length news w) (hQ:dS g (deep&& !τ.flat) τ ys news IJ) (hd:∀x∈KU,x∉IJ) (hg:sCap<xs.length+ys.length) (mN:xs.length+ys.length≤1099511627776) (id:Nat):
  ∃v w' g',(Builtin.append_ #[t,tx] ty #[.slice base xs.length sCap,u]).run P w= .ok v w'∧Le g g'∧HRel B g' ((id, .own (g.top id) τ deep (xs++ys))::hp) w'∧aV g' (.own id (g.top id)) v:=by
 rw[←iE]at hS
 have hb:(xs.length+ys.length)*i.bytes≤140737488355328:=by
  have:(xs.length+ys.length)*i.bytes≤1099511627776*128:=Nat.mul_le_mul mN DO;omega
 have hr:=run_append_grow_src (P:=P) w t tx ty e i z ht hi hz base xs.length sCap olds hold u ys.length news hS hg (by omega) (growslice_fits hg hb);have DU:=hS.newsLen;have DS:=grownCap_ge w (xs.length+ys.length) sCap e
 generalize hc:grownCap w (xs.length+ys.length) sCap e=c at hr DS
 have P3:Turned w (w.drew.alloc (.cells ((olds++news).toArray++Builtin.zeroCells z.cells (c - (xs.length+ys.length))) e)) w.heap.size:=by
  refine⟨fun x hx=> ?_, ?_, ?_,rfl,rfl,rfl⟩
  ·show(w.heap.push _)[x]?=_;rw[Array.getElem?_push,Wz hx]
  ·show _≤(w.heap.push _).size;simp
  ·show _ <(w.heap.push _).size;simp
 obtain⟨g',l,R',ir⟩:=R.own (id:=id) (cap:=c) (ty:=e) (τ:=τ) (deep:=deep) (xs:=xs++ys) (nb:=KU++IJ) R.mI P3 (by show(w.heap.push _)[w.heap.size]?=_;rw[Array.getElem?_push,WK rfl]) (by
   have hA:=hP.append hQ Sx hd;refine hA.pre ?_;rw[Array.toList_append]
   exact ED _ _ (by simp[Sx,DU,iE,Nat.add_mul])) (by simpa using DS) (by
   simp only[Array.size_append,List.size_toArray,size_zeroCells,VZ,Sx,DU,Gs,iE,←Nat.add_mul]
   congr 1
   omega)
 refine⟨_,_,g',hr,l,R', ?_⟩;rw[VZ]at ir;exact ir
theorem xE {P:Program}{w:World}{b o:Nat}{arr:Array Value}{ty:TypeId}{us:List Value}(h:w.heap[b]?=some (.cells arr ty (0,0)))(hle:o+us.length≤arr.size)(h1:∀u∈us,u.oneCell'=true):
  (∀j,j<us.length→(w.cell? ⟨b,o+j,none⟩).isSome=true)∧(∀j,j<us.length→w.frozen? ⟨b,o+j,none⟩=false)∧w.setCells b o us=w.setRow b (il arr o us):=by
 have a1:∀j,j<us.length→(w.cell? ⟨b,o+j,none⟩).isSome=true:=by
  intro j hj;have:o+j<arr.size:=(by omega);simp[World.cell?,h,this]
 have a2:∀j,j<us.length→w.frozen? ⟨b,o+j,none⟩=false:=by
  intro j hj;simp[World.frozen?,h]
 have r1:=run_storeCells_cells (P:=P) b o us 0 w (by simpa using a1) (by simpa using a2) h1;have r2:=run_storeCells_at (P:=P) b o ty us 0 arr w h (by simpa using hle) h1;rw[r1]at r2
 injection r2 with _ r2
 exact⟨a1,a2,by simpa[il]using r2⟩
theorem zV {P:Program}{B:Base}{g:Gh}{hp:List (Nat×Obj)}{w:World}{t tx ty e:TypeId}{i:TypeInfo}{z:Value}{τ:Ty}(ht:P.underlying t=some (.slice e))(hi:P.info? e=some i)(hz:i.zero=some z)
  (iE:i.size=τ.size) (DO:i.bytes≤128) (Gs:z.cells.size=τ.size) (R:HRel B g hp w) {deep:Bool} {xs ys:List τ.den} {us u:Value} {news:List Value} {KU IJ:List Nat}
  (hT:Tgt g hp w (deep&& !τ.flat) τ xs us KU) (hS:Src P τ.size tx u ys.length news w) (hQ:dS g (deep&& !τ.flat) τ ys news IJ) (hd:∀x∈KU,x∉IJ) (mN:xs.length+ys.length≤1099511627776) (hbq:∀b,Free g hp w b→b∉IJ) (id:Nat):
  ∃v w' g',(Builtin.append_ #[t,tx] ty #[us,u]).run P w= .ok v w'∧Le g g'∧HRel B g' ((id, .own (g.top id) τ deep (xs++ys))::hp) w'∧aV g' (.own id (g.top id)) v:=by
 rcases hT with⟨rfl,rfl,rfl⟩|⟨b,cap,arr,A5,rfl,hf,Bj,LZ,ha,L5,ML,hP⟩
 ·by_cases h0:ys=[]
  ·subst h0;have hn:news=[]:=WL (by simpa using hS.newsLen);subst hn;rw[←iE]at hS;obtain⟨g',l,R',hc⟩:=R.Nk id τ deep;exact⟨_,w,g',run_append_nothing w t tx ty e i ht hi none 0 0 (Wp _) u hS,l.le,R',hc⟩
  ·have lR:0<ys.length:=List.length_pos_iff.2 h0;exact Ab ht hi hz iE DO Gs R (xs:=[]) (sCap:=0) (olds:=[]) (by simp[run_firstCells_none]) (by simp) dS.nil hS hQ hd (by simpa using lR) (by simpa using mN) id
 ·by_cases hroom:xs.length+ys.length≤cap
  ·have DU:=hS.newsLen
   have hle:xs.length*τ.size+news.length≤arr.size:=by
    rw[DU,←Nat.add_mul,ML];exact Nat.mul_le_mul_right _ hroom
   obtain⟨a1,a2,a3⟩:=xE (P:=P) ha hle hS.one;have Ow:=hS;rw[←iE]at Ow;have hr:=run_append_room_src (P:=P) w t tx ty e i ht hi b 0 xs.length cap u ys.length news Ow hroom (by simpa[iE]using a1) (by simpa[iE]using a2);rw[iE,Nat.zero_add,a3]at hr;have Sr:=setRow_heap w b arr (il arr (xs.length*τ.size) news) A5 (0,0) ha
   obtain⟨g',l,R',ir⟩:=R.own (id:=id) (cap:=cap) (ty:=A5) (τ:=τ) (deep:=deep) (xs:=xs++ys) (nb:=KU++IJ) hf (mg ha _) Sr (by
     obtain⟨wS,Gr⟩:=hP.cut;have hA:=wS.append (M:=news++arr.toList.drop (xs.length*τ.size+news.length)) (hQ.pre (ED _ _ (by rw[DU]))) Gr hd
     have e:(il arr (xs.length*τ.size) news).toList=List.take (xs.length*τ.size) arr.toList++(news++List.drop (xs.length*τ.size+news.length) arr.toList):=by
      simp[il]
     rw[e]
     exact hA) (by simpa using hroom) (by
     have K5:(il arr (xs.length*τ.size) news).size=arr.size:=by
      simp[il];omega
     rw[K5,ML])
   refine⟨_,_,g',hr,l,R', ?_⟩;rw[VZ]at ir;exact ir
  ·obtain⟨wS,Gr⟩:=hP.cut;refine Ab ht hi hz iE DO Gs R (sCap:=cap) ?_ Gr wS hS hQ hd (by omega) mN id;rw[iE];refine run_firstCells_some (P:=P) w.drew τ.size xs.length _ xs.length cap _ Gr (fun j v hj=> ?_);rw[Addr.add_lit,World.cell?_drew];exact eV ha (o:=0) _ j v (by simpa using hj)
theorem CD {E:Env}{c:Call}(hc:c.callee= .builtin .append){s s':St}{sl:Slot}{d:Nat}(h:(cN E d (.call c)).run s=some (sl,s')):Yld E (.call c) s sl s':=by
 unfold cN at h;simp only[hc]at h;split at h
 ·rename_i t tx TN;obtain⟨e,t1,h1,h2⟩:=AM.ai h;obtain⟨τ,t2,h3,h4⟩:=AM.ai h2;obtain⟨vs,t3,h5,h6⟩:=AM.ai h4;obtain⟨he,rfl⟩:=bw h1;obtain rfl:=sX h3;obtain⟨rfl,r1⟩:=jO h5;split at h6
  ·rename_i sc xc;obtain⟨hb,h7⟩:=aX h6;simp only[V6]at hb;obtain⟨i,z,hi,hz,iE,DO,_,Gs⟩:=sF hb.1;unfold append at h7;obtain⟨⟨dq,ys⟩,t4,h8,h9⟩:=AM.ai h7;obtain⟨⟨dp,xs⟩,t5,tF,nQ⟩:=AM.ai h9;obtain⟨mN,qU⟩:=jT nQ;obtain⟨cell,t6,rH,wQ⟩:=AM.ai qU;obtain⟨rfl,rfl⟩:=aq wQ;obtain⟨e1,k1⟩:=CH h8 hb.2;obtain⟨e2,k2⟩:=CL tF;obtain⟨gen,Q1,rfl,rfl⟩:=rl rH;refine⟨e2.trans e1,fun o ho B g a w R V=> ?_⟩;obtain⟨u1,u2,ea,mO,vh⟩:=ER (r1 V) rfl;obtain⟨g1,l1,R1,c1⟩:=k1 B g w R;obtain⟨news,IJ,hS,hQ,fq⟩:=c1 u2 vh;obtain⟨g2,l2,R2,c2⟩:=k2 B g1 w R1;obtain⟨KU,hT,fp⟩:=c2 u1 (aV.mono l1.le mO);have OV:=hQ.mono l2;have hn:xs.length+ys.length≤1099511627776:=Wr mN
   have L0:∀x∈KU,x∉IJ:=by
    intro x hx hy;unfold dS at hQ;split at hQ
    ·exact fp x hx (hQ.2.2 x hy)
    ·rw[hQ.2]at hy;simp at hy
   have Uc:∀{g:Gh} {mv:Bool} {zs:List τ.den} {L:List Value} {nb:List Nat} {b:Nat} {hp:List (Nat×Obj)},dS g mv τ zs L nb→Free g hp w b→b∉nb:=by
    intro g mv zs L nb b hp hh hf hm;unfold dS at hh;split at hh
    ·exact hf.Km (hh.2.2 b hm)
    ·rw[hh.2]at hm;simp at hm
   have main:∃g3 OR Oq,Le g2 g3∧HRel B g3 t5.hp w∧Tgt g3 t5.hp w ((dp&&dq)&& !τ.flat) τ xs u1 OR∧dS g3 ((dp&&dq)&& !τ.flat) τ ys news Oq∧∀x∈OR,x∉Oq:=by
    by_cases hm:((dp&&dq)&& !τ.flat)=true
    ·simp only[V6]at hm;obtain⟨⟨rfl,rfl⟩,Qs⟩:=hm;exact⟨g2,KU,IJ,Le.refl g2,R2,hT,OV,L0⟩
    ·have Un:((dp&&dq)&& !τ.flat)=false:=(by simpa using hm);rw[Un]
     by_cases hq:(dq&& !τ.flat)=true
     ·have Ip:(dp&& !τ.flat)=false:=by
       revert Un hq
       cases dp<;>cases dq<;>cases τ.flat<;>simp
      rw[Ip]at hT;obtain⟨g3,l3,R3,q3,f3⟩:=OV.loose R2;refine⟨g3,KU,[],l3,R3, ?_,q3,fun x _ hx=>by simp at hx⟩
      rcases hT with⟨a1,a2,a3⟩|⟨b,cap,arr,A5,a1,a2,a3,a4,a5,a6,a7,a8⟩
      ·exact .inl ⟨a1,a2,a3⟩
      ·exact .inr ⟨b,cap,arr,A5,a1,f3 b (Uc OV a2) a2,a3,a4,a5,a6,a7,a8.Ag l3⟩
     ·have Mf:(dq&& !τ.flat)=false:=(by simpa using hq);rw[Mf]at OV;have UB:IJ=[]:=OV.2;subst UB
      rcases hT with⟨a1,a2,a3⟩|⟨b,cap,arr,A5,a1,a2,a3,a4,a5,a6,a7,a8⟩
      ·exact⟨g2,[],[],Le.refl g2,R2, .inl ⟨a1,a2,rfl⟩,OV,fun x hx=>by simp at hx⟩
      ·obtain⟨g3,l3,R3,q3,f3⟩:=a8.loose R2;exact⟨g3,[],[],l3,R3, .inr ⟨b,cap,arr,A5,a1,f3 b a3 a2,by simp,a4,a5,a6,a7,q3⟩,OV.Ag l3,fun x hx=>by simp at hx⟩
   obtain⟨g3,OR,Oq,l3,R3,T3,Q3,d3⟩:=main;obtain⟨rfl,_⟩:=gK R3 Q1;obtain⟨v,w',g4,k5,l4,R4,k6⟩:=zV (ty:=o.type) (uU he) hi hz iE DO Gs R3 (deep:=dp&&dq) T3 hS Q3 d3 hn (fun b hf=>Uc Q3 hf) d;refine⟨v,w',g4, ?_,((l1.le.trans l2.le).trans l3).trans l4,R4,k6⟩;unfold execOp;rw[ho]
   have e3:c.args.map a.eval=#[u1,u2]:=by
    apply Array.ext'
    simpa using ea
   have e4:c.argTypes=#[t,tx]:=by
    apply Array.ext'
    simpa using TN
   simp[resolve,hc,invoke,builtin,e3,e4,k5]
  ·cases h6
 ·cases h
end Go.Abs
end
