/- What is here: a deterministic evaluator of the model's code over plain data (lists, numbers), by the help of which each Go function is told as a Lean function. Definitions alone. -/
import Derived.Calls
import Derived.Orders
import Derived.WalkKit
import Derived.Laws.Tables
import Derived.Laws.MakeOwn
import Derived.Laws.BytesString
import Derived.Laws.Slices
import Derived.Lib.ConvBytes
import Derived.Deep.Upon
set_option autoImplicit true
set_option relaxedAutoImplicit true
set_option linter.all false
set_option maxRecDepth 100000
open Go.IntKind (i64 u64 u8)
open Array renaming getElem?_eq_none → bo3, getElem?_push → bp5, length_toList → cC
open BitVec renaming ofInt → bn7
open Bool renaming and_eq_true → aA, and_false → aT, false → aq, false_and → cF, false_eq_true → cf, false_or → bH, not_eq_true' → bU, not_true → bM, true → av
open Decidable renaming decide → I
open Go renaming binOp → bn3
open Go.Addr renaming add_lit → bo8
open Go.Builtin renaming append_ → bo9
open Go.Instr renaming loadAt → bu1, sliceAt → bo2, sureAddr → bq7
open Go.Op renaming equalIn → bq3
open Go.Region renaming binds → bq9
open Go.Result renaming andThen_ok → bh
open Go.Sem renaming run_bind → bL, run_pure → bn9
open Go.Value renaming int → bQ
open Go.World renaming cell? → bs7
open List renaming all_cons → cE, append_assoc → aC, append_nil → aQ, drop → bu8, drop_append_of_le_length → bN, drop_drop → bX, drop_eq_getElem_cons → bG, drop_eq_nil_of_le → cn, drop_left → bn0, drop_take → cz, drop_zero → bY, eq_nil_of_length_eq_zero → bu, ext_getElem? → bn5, getD_eq_getElem?_getD → aG, getElem?_drop → cJ, getElem?_eq_getElem → aL, getElem?_eq_some_iff → cr, getElem?_map → bn4, getElem?_take → cT, length → bo0, length_append → au, length_cons → aw, length_drop → bK, length_map → cH, length_nil → ay, length_pos_iff → b9, length_set → cA, length_take → bl, mem_append → aP, mem_append_left → aX, mem_append_right → aZ, mem_cons → bA, nil_append → cG, nodup_append → bw, nodup_cons → cu, nodup_nil → bf, range → cN, replicate → aN, replicate_succ → cD, take → bu9, take_append_drop → bo6, take_append_of_le_length → ct, take_left → bq8, take_of_length_le → bo4, take_take → cj
open Nat renaming add_mul → bW, beq → ax, ble → bo5, blt → cd, eq_of_beq_eq_true → b8, le_of_ble_eq_true → aR, le_refl → aF, le_trans → bn8, lt_of_lt_of_le → aV, lt_or_ge → bB, min_eq_left → bn6, mod_lt → bs3, mul_one → bs8, zero_add → bJ
open Option renaming bind_eq_some_iff → bn, map_eq_some_iff → bj, none → az, some → U
open Option.some renaming injEq → cc
open Prod.mk renaming injEq → cB
section
namespace Go.Abs
theorem aa:∀{p:Prop}[inst:Decidable p],¬p->decide p=false:= @decide_eq_false
theorem ab:∀{p:Prop}[inst:Decidable p],p->decide p=true:= @decide_eq_true
def ad:∀{p:Prop}[inst:Decidable p],(decide p=true)=p:= @decide_eq_true_eq
theorem ae:∀{p:Prop}{x:Decidable p},decide p=false↔¬p:= @decide_eq_false_iff_not
def af.{u_1}:∀{α:Sort u_1}(a b:α),(bif false then a else b)=b:= @cond_false
def ah.{u_1}:∀{α:Sort u_1}(a b:α),(bif true then a else b)=a:= @cond_true
def ai.{u}:∀{c:Prop}{h:Decidable c},¬c->∀{α:Sort u}{t e:α},(if c then t else e)=e:= @if_neg
def aj.{u}:∀{c:Prop}{h:Decidable c},c->∀{α:Sort u}{t e:α},(if c then t else e)=t:= @if_pos
abbrev LI:=List Int
end Go.Abs
namespace Go.Abs
inductive Ty where
 |int (k:IntKind)|bool|str|sl (e:Ty)|un|pr (a b:Ty)|cl
 deriving DecidableEq
@[reducible] def Ty.den:Ty->Type
 | .int _=>Int
 | .bool=>Bool
 | .str=>List Int
 | .sl e=>List e.den
 | .un=>Unit
 | .pr a b=>a.den×b.den
 | .cl=>List Int
def Ty.ak9:(τ:Ty)->τ.den
 | .int _=>(0:Int)
 | .bool=>aq
 | .str=>[]
 | .sl _=>[]
 | .un=>()
 | .pr a b=>(a.ak9,b.ak9)
 | .cl=>[] 
def Ty.size:Ty->Nat
 | .un=>0
 | .pr a b=>a.size+b.size
 |_=>1
def Ty.flat:Ty->Bool
 | .sl _=>aq
 | .cl=>aq
 | .pr a b=>a.flat&&b.flat
 |_=>av
def Ty.one:Ty->Bool
 | .un=>aq
 | .pr _ _=>aq
 |_=>av
inductive Cell where
 |v (τ:Ty) (x:τ.den)
 |nil
 |own (id gen:Nat)
 |ptr (id gen off:Nat)
 |np
 |nf
 |fn (f:FuncId) (nv:List (Nat×Nat))
 |err (isNil:Bool)
inductive Val where
 |one (c:Cell)
 |agg (cs:List Cell)
inductive Slot where
 |val (v:Val)
 |xl (vs:List Val)
 |ea (src:Cell) (i:Int) (off sz:Nat)
 |fa (xs:List Int) (off:Nat)
 |ga (g:Nat)
 |un
 |sk
inductive Obj where
 |box (gen:Nat) (r:Nat×List Cell)
 |own (gen:Nat) (τ:Ty) (deep:Bool) (xs:List τ.den)
 |fT (gen:Nat) (τ:Ty) (xs:List τ.den)
 |ax4 (gen:Nat) (xs:List Int)
 |dead (gen:Nat)
 |lZ (gen:Nat) (r:Nat×List Cell)
 |hole (gen:Nat) (τ:Ty) (xs:List τ.den) (i:Int) (off d gd:Nat)
 |mp (gen:Nat) (τ:Ty) (xs:List (Int×τ.den))
 |vp (gen:Nat) (xs:List Int) (a ag:Nat) (id bg off:Nat)
def Obj.gen:Obj->Nat
 | .box g _| .own g _ _ _| .fT g _ _| .ax4 g _| .dead g| .lZ g _| .vp g _ _ _ _ _ _| .hole g _ _ _ _ _ _| .mp g _ _=>g
structure St where
 env:List (Nat×Slot)
 hp:List (Nat×Obj)
def look {β:Type}:List (Nat×β)->Nat->Option β
 |[],_=>az
 |(m,b)::r,n=>bif ax m n then U b else look r n
inductive AM (α:Type):Type where
 |ret (a:α)
 |br (b:Bool) (t e:AM α)
 |fail
 |zR (t:Nat) (k:Slot->AM α)
 |ET (t:Nat) (s:Slot) (k:AM α)
 |nr (id:Nat) (k:Option Obj->AM α)
 |ot (id:Nat) (o:Obj) (k:AM α)
 |opt (c:Ty) (x:Option c.den) (k:c.den->AM α)
def AM.bind:AM α->(α->AM β)->AM β
 | .ret a,f=>f a
 | .br b t e,f=> .br b (t.bind f) (e.bind f)
 | .fail,_=> .fail
 | .zR t k,f=> .zR t λs=>(k s).bind f
 | .ET t s k,f=> .ET t s (k.bind f)
 | .nr i k,f=> .nr i λo=>(k o).bind f
 | .ot i o k,f=> .ot i o (k.bind f)
 | .opt c x k,f=> .opt c x λd=>(k d).bind f
instance:Monad AM where
 pure:=AM.ret
 bind:=AM.bind
def AM.run:AM α->St->Option (α×St)
 | .ret a,s=>U (a,s)
 | .br b t e,s=>bif b then t.run s else e.run s
 | .fail,_=>az
 | .zR t k,s=>match look s.env t with
  |some x=>(k x).run s
  |none=>az
 | .ET t x k,s=>k.run {s with env:=(t,x)::s.env}
 | .nr i k,s=>(k (look s.hp i)).run s
 | .ot i o k,s=>k.run {s with hp:=(i,o)::s.hp}
 | .opt _ x k,s=>match x with
  |some d=>(k d).run s
  |none=>az
@[irreducible] def brk {ρ:Type}(b:Bool)(t e:Option ρ):Option ρ:=bif b then t else e
theorem iJ (b) (t e:Option ρ):brk b t e=bif b then t else e:=by grind [brk]
def AM.exec:AM α->St->(α->St->Option ρ)->Option ρ
 | .ret a,s,K=>K a s
 | .br b t e,s,K=>brk b (t.exec s K) (e.exec s K)
 | .fail,_,_=>az
 | .zR t k,s,K=>match look s.env t with
  |some x=>(k x).exec s K
  |none=>az
 | .ET t x k,s,K=>k.exec {s with env:=(t,x)::s.env} K
 | .nr i k,s,K=>(k (look s.hp i)).exec s K
 | .ot i o k,s,K=>k.exec {s with hp:=(i,o)::s.hp} K
 | .opt _ x k,s,K=>x.bind λd=>(k d).exec s K
theorem AM.VI (m:AM α):∀s (K:α->St->Option ρ),m.exec s K=(m.run s).bind λp=>K p.1 p.2:=by
 induction m with
 |ret a=>intro s K;rfl
 |br b t e ab5 ac8=>intro s K;cases b<;>simp[exec,run,ab5,ac8,iJ]
 |fail=>intro s K;rfl
 |zR t k ih=>intro s K;simp[exec,run];grind
 |ET t x k ih=>intro s K;simp[exec,run,ih]
 |nr i k ih=>intro s K;simp[exec,run,ih]
 |ot i o k ih=>intro s K;simp[exec,run,ih]
 |opt c x k ih=>intro s K;cases x<;>simp[exec,run,ih]
abbrev PT:=Nat×List (Nat×Nat×Nat)
def J7:List (Nat×Nat×Nat)->Nat->Nat->Nat->Bool
 |[],_,_,_=>aq
 |t::r,a,b,c=>(ax t.1 a&&ax t.2.1 b&&ax t.2.2 c)||J7 r a b c
inductive Sp where
 |un
 |pr (a b:Sp)
 |fT (τ:Ty)
 |own (τ:Ty) (deep:Bool)
 |lnd (τ:Ty) (deep:Bool)
 |ptr (whole:Bool) (ty:PT) (s:Sp)
 |CV (ok:List (Nat×Nat×Nat))
 |vp
 |err
 |np
 |slf (f m:Nat)
@[reducible] def Sp.ty:Sp->Ty
 | .un=> .un
 | .pr a b=> .pr a.ty b.ty
 | .fT τ=>τ
 | .own τ _=> .sl τ
 | .lnd τ _=> .sl τ
 | .ptr _ _ s=>s.ty
 | .CV _=> .str
 | .vp=> .str
 | .err=> .bool
 | .np=> .un
 | .slf _ _=> .un
@[reducible] def Sp.size:Sp->Nat
 | .un=>0
 | .pr a b=>a.size+b.size
 | .vp=>2
 |_=>1
@[reducible] def Sp.tg:Sp->Ty
 | .pr a b=> .pr a.tg b.tg
 | .ptr _ _ s=>s.ty
 | .lnd τ _=> .sl τ
 |_=> .un
inductive VSp where
 |one (s:Sp)
 |agg (s:Sp)
def z8:List VSp->Option (Nat×Nat)
 |[]=>az
 |[.one (.slf f m)]=>U (f,m)
 |_::r=>z8 r
def JG (as:List VSp):Option (Nat×List Nat):=match z8 as with
 |some p=>U (p.1,(cN as.length).drop p.2)
 |none=>az
@[reducible] def VSp.sp:VSp->Sp
 | .one s=>s
 | .agg s=>s
@[reducible] def fF:List VSp->Ty
 |[]=> .un
 |a::r=> .pr a.sp.ty (fF r)
@[reducible] def tH:List VSp->Ty
 |[]=> .un
 |a::r=> .pr a.sp.tg (tH r)
inductive RSp where
 |val (v:VSp)
 |xl (vs:List VSp)
 |none
@[reducible] def RSp.ty:RSp->Ty
 | .val v=>v.sp.ty
 | .xl vs=>fF vs
 | .none=> .un
structure Sig where
 args:List VSp
 res:RSp
@[reducible] def Sig.dom (s:Sig):Ty:=fF s.args
@[reducible] def Sig.cod (s:Sig):Ty:= .pr s.res.ty (tH s.args)
structure Callee where
 sig:Sig
 F:sig.dom.den->Option sig.cod.den
end Go.Abs
end

section
namespace Go.Abs
structure Env where
 P:Program
 callee:FuncId->Option Callee
 gU:Nat->Option (List Cell)
 cl:TypeId
 nt:Nat
 qJ:List Nat
 nest:Bool:=aq
 trim:Bool:=aq
 ini:Bool:=aq
 fst:Bool:=aq
 slf:Option (FuncId×List Nat):=az
def lim:Nat:=1099511627776
def pv:Nat:=100000
def fits (n:Nat):Bool:=bo5 n lim
namespace Env
variable(E:Env)
def OZ (f:TypeId->Option Ty):List Field->Option Ty
 |[]=>U .un
 |x::r=>(f x.type).bind λa=>(OZ f r).map (.pr a)
def tyN:Nat->TypeId->Option Ty
 |0,_=>az
 |k+1,t=>match E.P.underlying t with
  |some (.int k)=>U (.int k)
  |some .bool=>U .bool
  |some .string=>U .str
  |some (.slice e)=>(tyN k e).map .sl
  |some (.struct fs)=>OZ (tyN k) fs.toList
  |some (.pointer _)=>bif ax t E.cl then U .cl else az
  |_=>az
def ty (t:TypeId):AM Ty:=match E.tyN 6 t with
 |some τ=> .ret τ
 |none=> .fail
def isAgg (t:TypeId):Option Bool:=match E.P.underlying t with
 |some (.struct _)|some (.array _ _)=>U av
 |some _=>U aq
 |none=>az
def sizeOf (t:TypeId):Option Nat:=(E.P.info? t).map (·.size)
def field (s:TypeId)(i:Nat):Option Field:=match E.P.underlying s with
 |some (.struct fs)=>fs[i]?
 |_=>az
def elem (t:TypeId):Option TypeId:=match E.P.underlying t with
 |some (.slice e)=>U e
 |_=>az
def Py (e:TypeId)(τ:Ty):Bool:=match E.P.info? e with
 |some i=>ax i.size τ.size&&bo5 i.bytes 128&&bo5 τ.size 64&&match i.zero with
  |some z=>ax z.cells.toList.length τ.size
  |none=>aq
 |none=>aq
def sized (t:TypeId):Bool:=match E.P.underlying t with
 |some (.struct fs)=>fs.toList.all λf=>(E.P.info? f.type).isSome
 |_=>aq
end Env
def mj:Option α->AM α
 |some a=> .ret a
 |none=> .fail
def bytesOf (s:ByteArray):List Int:=s.data.toList.map λb=>b.toNat 
def FI:Value->Option Cell
 | .int k n=>U (.v (.int k) n)
 | .bool b=>U (.v .bool b)
 | .string s=>U (.v .str (bytesOf s))
 | .slice az 0 0=>U .nil
 | .pointer az=>U .np
 | .nilIface=>U (.err av)
 | .nilFunc=>U .nf
 |_=>az
def w9:List Value->Option (List Cell)
 |[]=>U []
 |x::r=>(FI x).bind λc=>(w9 r).map (c:: ·)
def Bn:Value->Option Val
 | .agg cs=>(w9 cs.toList).map .agg
 |x=>(FI x).map .one
def Env.zeroCells (E:Env)(t:TypeId):Option (List Cell):=((E.P.info? t).bind (·.zero)).bind λz=>w9 z.cells.toList
def ev:Operand->AM Slot
 | .tmp t=> .zR t .ret
 | .const x=>match Bn x with
  |some c=> .ret (.val c)
  |none=> .fail
 | .global g=> .ret (.ga g)
 | .func f=> .ret (.val (.one (.fn f [])))
def PG:Slot->AM Val
 | .val v=> .ret v
 |_=> .fail
def evV (x:Operand):AM Val:=(ev x).bind PG
def Val.cells:Val->List Cell
 | .one c=>[c]
 | .agg cs=>cs
def J2 (agg:Bool)(cs:List Cell):AM Val:=
 bif agg then .ret (.agg cs)else match cs with
  |[c]=> .ret (.one c)
  |_=> .fail
def asInt:Val->AM Int
 | .one (.v (.int _) n)=> .ret n
 |_=> .fail
def asBool:Val->AM Bool
 | .one (.v .bool b)=> .ret b
 |_=> .fail
def zb {τ τ':Ty}(x:List τ.den):AM (List τ'.den):=if h:τ=τ' then .ret (h ▸ x)else .fail
def chk (b:Bool):AM Unit:= .br b (.ret ()) .fail
def Ur:Nat->Cell->AM (List Int)
 |_, .np=> .ret []
 |_, .v .cl xs=> .ret xs
 |k+1, .ptr id gen 0=> .nr id fun
  |some (.box g (_,[.v (.int .i64) x,c]))=>bif ax g gen&&cd id pv then(Ur k c).bind λxs=> .nr id fun
    |some (.box _ _)=> .ot id (.ax4 g (x::xs)) (.ret (x::xs))
    |_=> .fail
   else .fail
  |some (.ax4 g xs)=>bif ax g gen then .ret xs else .fail
  |_=> .fail
 |_,_=> .fail
def datum:(τ:Ty)->Cell->AM τ.den
 | .int k, .v (.int k') x=>if k=k' then .ret x else .fail
 | .bool, .v .bool b=> .ret b
 | .str, .v .str l=> .ret l
 | .sl e, .v (.sl e') xs=>zb (τ':=e) xs
 | .sl _, .nil=> .ret []
 | .sl e, .own id gen=> .nr id fun
  |some (.own g τ _ xs)=>bif ax g gen then .ot id (.fT g τ xs) (zb (τ':=e) xs)else .fail
  |some (.fT g _ xs)=>bif ax g gen then zb (τ':=e) xs else .fail
  |_=> .fail
 | .cl,c=>Ur 4 c
 |_,_=> .fail
def PD:(τ:Ty)->Cell->AM τ.den
 | .sl e, .own id gen=> .nr id fun
  |some (.own g τ _ xs)=>bif ax g gen&&τ.flat then .ot id (.dead g) (zb (τ':=e) xs)else .fail
  |_=> .fail
 | .sl e, .nil=>bif e.flat then .ret []else .fail
 | .int k, .v (.int k') x=>if k=k' then .ret x else .fail
 | .bool, .v .bool b=> .ret b
 | .str, .v .str l=> .ret l
 |_,_=> .fail
def Ca:List Cell->Bool
 |[]=>av
 | .v (.sl _) _::_=>aq
 | .v .cl _::_=>aq
 | .ptr _ _ _::_=>aq
 |_::r=>Ca r
def pack (mv:Bool):(τ:Ty)->List Cell->AM (τ.den×List Cell)
 | .un,cs=> .ret ((),cs)
 | .pr a b,cs=>(pack mv a cs).bind λp=>(pack mv b p.2).bind λq=> .ret ((p.1,q.1),q.2)
 |τ,c::cs=>(bif mv then PD τ c else datum τ c).bind λx=> .ret (x,cs)
 |_,_=> .fail
def unpack:(τ:Ty)->τ.den->List Cell
 | .un,_=>[]
 | .pr a b,x=>unpack a x.1++unpack b x.2
 |τ,x=>[.v τ x]
def kA:(τ:Ty)->τ.den->Nat->Cell->Option τ.den
 | .pr a b,x,off,c=>bif cd off a.size then(kA a x.1 off c).map λy=>(y,x.2)else(kA b x.2 (off - a.size) c).map λy=>(x.1,y)
 | .int k,_,0, .v (.int k') y=>if k=k' then U y else az
 | .bool,_,0, .v .bool y=>U y
 | .str,_,0, .v .str y=>U y
 |_,_,_,_=>az
def lr (id:Nat):AM Nat:= .nr id fun
 |some (.lZ _ _)=> .fail
 |some o=> .ret (o.gen+1)
 |none=> .ret 0
def JZ (d:Nat)(ty:Nat)(cs:List Cell):AM Slot:=(lr d).bind λg=> .ot d (.box g (ty,cs)) (.ret (.val (.one (.ptr d g 0))))
def JP (d:Nat)(τ:Ty)(deep:Bool)(xs:List τ.den):AM Cell:=(lr d).bind λg=> .ot d (.own g τ deep xs) (.ret (.own d g))
def L4 (cs:List Cell):Bool:=cs.any fun
 | .v (.sl _) _=>av
 | .v .cl _=>av
 |_=>aq
def cut (off n:Nat)(cs:List Cell):List Cell:=(cs.drop off).take n
def at_ {τ:Ty}(xs:List τ.den)(i:Int):τ.den:=xs.getD i.toNat τ.ak9
def Dy:(τ:Ty)->τ.den->Nat->Option ((e:Ty)×List e.den)
 | .pr a b,x,off=>bif cd off a.size then Dy a x.1 off else Dy b x.2 (off - a.size)
 | .sl e,xs,0=>U ⟨e,xs⟩
 |_,_,_=>az
def sA:(τ:Ty)->τ.den->Nat->(e:Ty)->List e.den->Option τ.den
 | .pr a b,x,off,e,ys=>bif cd off a.size then(sA a x.1 off e ys).map λy=>(y,x.2)else(sA b x.2 (off - a.size) e ys).map λy=>(x.1,y)
 | .sl e',_,0,e,ys=>if h:e=e' then U (h ▸ ys)else az
 |_,_,_,_,_=>az
def uB (id gen:Nat):AM Unit:= .nr id fun
 |some (.hole g τ xs i off d gd)=>bif ax g gen then .nr d fun
   |some (.own g2 e _ ys)=>bif ax g2 gd&& !ax d id then match sA τ (at_ xs i) off e ys with
     |some x=> .ot d (.dead g2) (.ot id (.own g τ av (xs.set i.toNat x)) (.ret ()))
     |none=> .fail
    else .fail
   |_=> .fail
  else .fail
 |_=> .ret ()
def FA:Cell->AM Unit
 | .own id gen=>uB id gen
 |_=> .ret ()
def Ni (d id gen:Nat)(i:Int)(off sz:Nat):AM Slot:= .nr id fun
 |some (.own g τ av xs)=>bif ax g gen&&ax sz τ.size&& !τ.flat&& !ax d id then match Dy τ (at_ xs i) off with
   |some ⟨e,ys⟩=>match sA τ (at_ xs i) off e []with
     |some _=>(lr d).bind λgd=> .ot d (.own gd e av ys) (.ot id (.hole g τ xs i off d gd) (.ret (.val (.one (.own d gd)))))
     |none=> .fail
   |none=> .fail
  else .fail
 |_=> .fail
def Jz (τ:Ty)(off:Nat):Bool:=match τ with
 | .pr a b=>bif cd off a.size then Jz a off else Jz b (off - a.size)
 | .sl _=>ax off 0
 |_=>aq
def Rj (E:Env)(ag:Bool):Slot->AM Bool
 | .ea (.own id gen) _ off _=>bif E.nest&& !ag then .nr id fun
   |some (.own _ τ av _)=> .ret (Jz τ off)
   |_=> .ret aq
  else .ret aq
 |_=> .ret aq
def Js (d:Nat):Slot->AM Slot
 | .ea (.own id gen) i off sz=>Ni d id gen i off sz
 |_=> .fail
def En (E:Env)(n:Nat):Slot->AM (List Cell)
 | .val (.one (.ptr id gen off))=> .nr id fun
  |some (.box g (_,cs))=>bif ax g gen&&bo5 (off+n) cs.length then .ret (cut off n cs)else .fail
  |_=> .fail
 | .ea (.v (.sl τ) xs) i off sz=>bif ax sz τ.size&&bo5 (off+n) τ.size then .ret (cut off n (unpack τ (at_ xs i)))else .fail
 | .ea (.own id gen) i off sz=> .nr id fun
  |some (.fT g τ xs)=>bif ax g gen&&ax sz τ.size&&bo5 (off+n) τ.size then .ret (cut off n (unpack τ (at_ xs i)))else .fail
  |some (.own g τ deep xs)=>bif ax g gen&&ax sz τ.size&&bo5 (off+n) τ.size then
    let cs:=cut off n (unpack τ (at_ xs i))
    bif deep&&L4 cs then .ot id (.own g τ aq xs) (.ret cs)else .ret cs
   else .fail
  |_=> .fail
 | .fa xs 0=>bif ax n 1 then .ret [.v (.int .i64) (xs.headD 0)]else .fail
 | .fa xs 1=>bif ax n 1 then .ret [.v .cl xs.tail]else .fail
 | .ga g=>bif ax n 1 then(mj ((E.gU g).bind λ|[c]=>U c|_=>az)).bind λc=> .ret [c]else .fail
 |_=> .fail
def setCells (off:Nat)(new cs:List Cell):List Cell:=cs.take off++new++cs.drop (off+new.length)
def WV (id gen:Nat)(τ:Ty)(deep:Bool)(i:Int)(x:τ.den):AM Unit:= .nr id fun
 |some (.own g τ' dp xs)=>bif ax g gen&&(dp==deep)then
   if h:τ=τ' then .ot id (.own g τ' dp (xs.set i.toNat (h ▸ x))) (.ret ())else .fail
  else .fail
 |_=> .fail
def FD (new:List Cell):Slot->AM Unit
 | .val (.one (.ptr id gen off))=> .nr id fun
  |some (.box g (ty,cs))=>bif ax g gen&&bo5 (off+new.length) cs.length then .ot id (.box g (ty,setCells off new cs)) (.ret ())else .fail
  |_=> .fail
 | .ea (.own id gen) i off sz=> .nr id fun
  |some (.own g τ deep xs)=>bif ax g gen&&ax sz τ.size then
    bif ax off 0&&ax new.length τ.size then
     (pack (deep&& !τ.flat) τ new).bind λp=>WV id gen τ deep i p.1
    else match new with
     |[c]=>match kA τ (at_ xs i) off c with
      |some x=> .ot id (.own g τ deep (xs.set i.toNat x)) (.ret ())
      |none=> .fail
     |_=> .fail
   else .fail
  |_=> .fail
 |_=> .fail
def wb (b:Bool):Slot:= .val (.one (.v .bool b))
def wi (k:IntKind)(n:Int):Slot:= .val (.one (.v (.int k) n))
def ws (l:List Int):Slot:= .val (.one (.v .str l))
def ox:List Cell->List Cell->Option Bool
 |[],[]=>U av
 | .v (.int k) x::a, .v (.int k') y::b=>if k=k' then(ox a b).map (x=y&& ·)else az
 | .v .bool x::a, .v .bool y::b=>(ox a b).map (x=y&& ·)
 | .v .str x::a, .v .str y::b=>(ox a b).map (x=y&& ·)
 |_,_=>az
def intBits (op:BinOp)(k:IntKind)(x y:Int):Int:=
 match op with
 | .and=>k.wrap (bn7 k.bits x&&&bn7 k.bits y).toNat
 | .or=>k.wrap (bn7 k.bits x|||bn7 k.bits y).toNat
 |_=>k.wrap (bn7 k.bits x^^^bn7 k.bits y).toNat
def Ru (op:BinOp)(k k':IntKind)(x y:Int):AM Slot:=
 match op with
 | .shr=> .br (0<=y) (.ret (wi k (x.fdiv (2^min y.toNat k.bits)))) .fail
 | .shl=> .br (0<=y) (.ret (wi k (k.wrap (x*2^min y.toNat k.bits)))) .fail
 |_=>if k=k' then match op with
  | .add=> .ret (wi k (k.wrap (x+y)))
  | .sub=> .ret (wi k (k.wrap (x - y)))
  | .mul=> .ret (wi k (k.wrap (x*y)))
  | .quo=> .br (y≠0) (.ret (wi k (k.wrap (x.tdiv y)))) .fail
  | .rem=> .br (y≠0) (.ret (wi k (x.tmod y))) .fail
  | .and=> .ret (wi k (intBits .and k x y))
  | .or=> .ret (wi k (intBits .or k x y))
  | .xor=> .ret (wi k (intBits .xor k x y))
  | .eql=> .ret (wb (x=y))
  | .neq=> .ret (wb (!(x=y)))
  | .lss=> .ret (wb (x<y))
  | .leq=> .ret (wb (x<=y))
  | .gtr=> .ret (wb (y<x))
  | .geq=> .ret (wb (y<=x))
  |_=> .fail
  else .fail
def Ng (op:BinOp)(x y:List Int):AM Slot:=
 match op with
 | .add=> .br (fits (x.length+y.length)) (.ret (ws (x++y))) .fail
 | .eql=> .ret (wb (x=y))
 | .neq=> .ret (wb (!(x=y)))
 |_=> .fail
def FJ (op:BinOp)(b:Bool):AM Slot:=
 match op with
 | .eql=> .ret (wb b)
 | .neq=> .ret (wb !b)
 |_=> .fail
def qy (P:Program):List Field->List Cell->Nat->Bool
 |[],[],_=>av
 |f::r, .v τ _::cs,n=>ax f.offset n&&f.name != "_" &&(match P.underlying f.type,τ with
  |some (.int _), .int _=>av
  |some .bool, .bool=>av
  |some .string, .str=>av
  |_,_=>aq)&&qy P r cs (n+1)
 |_,_,_=>aq
def binOp (E:Env)(op:BinOp)(t:TypeId):Val->Val->AM Slot
 | .one (.v (.int k) x), .one (.v (.int k') y)=>Ru op k k' x y
 | .one (.v .str x), .one (.v .str y)=>Ng op x y
 | .one (.v .bool x), .one (.v .bool y)=>match E.P.underlying t with
  |some .bool=>FJ op (x=y)
  |_=> .fail
 | .one (.v .cl xs), .one .np=>match E.P.underlying t with
  |some (.pointer _)=>FJ op xs.isEmpty
  |_=> .fail
 | .agg a, .agg b=>match E.P.underlying t,ox a b with
  |some (.struct fs),U r=>bif !E.P.stoodInHeld t&& !E.P.eqGuardType E.P.depth t&&qy E.P fs.toList a 0 then FJ op r else .fail
  |_,_=> .fail
 |_,_=> .fail
def Q9 (E:Env)(op:BinOp)(t:TypeId):Val->AM Slot
 | .one (.err b)=>match E.P.underlying t with
  |some (.interface _)=>FJ op b
  |_=> .fail
 |_=> .fail
def Hu:Cell->AM Nat
 | .v .str l=> .ret l.length
 | .v (.sl _) xs=> .ret xs.length
 | .nil=> .ret 0
 | .own id gen=> .nr id fun
  |some (.own g _ _ xs)=>bif ax g gen then .ret xs.length else .fail
  |some (.fT g _ xs)=>bif ax g gen then .ret xs.length else .fail
  |some (.vp g xs _ _ _ _ _)=>bif ax g gen then .ret xs.length else .fail
  |_=> .fail
 |_=> .fail
def source (e:Ty):Cell->AM (Bool×List e.den)
 | .nil=> .ret (av,[])
 | .v (.sl τ) xs=>(zb (τ':=e) (τ:=τ) xs).bind λxs=> .ret (e.flat,xs)
 | .v .str l=>match e,l with
  | .int .u8,l=> .ret (av,l)
  |_,_=> .fail
 | .own id gen=> .nr id fun
  |some (.own g τ deep xs)=>bif ax g gen then
    bif τ.flat then(zb (τ':=e) xs).bind λxs=> .ret (av,xs)
    else .ot id (bif deep then .dead g else .fT g τ xs) ((zb (τ':=e) xs).bind λxs=> .ret (deep,xs))
   else .fail
  |some (.fT g _ xs)=>bif ax g gen then(zb (τ':=e) xs).bind λxs=> .ret (e.flat,xs)else .fail
  |_=> .fail
 |_=> .fail
def target (e:Ty):Cell->AM (Bool×List e.den)
 | .nil=> .ret (av,[])
 | .own id gen=> .nr id fun
  |some (.own g _ deep xs)=>bif ax g gen then .ot id (.dead g) ((zb (τ':=e) xs).bind λxs=> .ret (deep,xs))else .fail
  |_=> .fail
 |_=> .fail
def append (d:Nat)(e:Ty)(s x:Cell):AM Slot:=
 (source e x).bind λq=>(target e s).bind λp=>
  .br (fits (p.2.length+q.2.length)) ((JP d e (p.1&&q.1) (p.2++q.2)).bind λc=> .ret (.val (.one c))) .fail
def Cell.isStr:Cell->Bool
 | .v .str _=>av
 |_=>aq
def Env.fit (E:Env)(t:TypeId)(c:Cell):Bool:=match E.P.underlying t with
 |some .string=>c.isStr
 |some (.slice _)=> !c.isStr
 |_=>aq
def M1 (lo:Option Val):AM Int:=match lo with
 |some v=>asInt v
 |none=> .ret 0
def HF (n:Nat)(hi:Option Val):AM Int:=match hi with
 |some v=>asInt v
 |none=> .ret n 
def sub {α:Type}(xs:List α)(l h:Int):List α:=(xs.take h.toNat).drop l.toNat
def bounds (n:Nat)(l h:Int):Bool:=(0<=l)&&l<=h&&(h<=n)
def EB (sz:Option Nat)(τ:Ty)(xs:List τ.den)(lo hi:Option Val):AM Slot:=
 match sz with
 |some n=>bif ax n τ.size then
   (M1 lo).bind λl=>(HF xs.length hi).bind λh=> .br (bounds xs.length l h) (.ret (.val (.one (.v (.sl τ) (sub xs l h))))) .fail
  else .fail
 |none=> .fail
def M5 (sz:Option Nat)(lo hi:Option Val):Cell->AM Slot
 | .v .str s=>(M1 lo).bind λl=>(HF s.length hi).bind λh=> .br (bounds s.length l h) (.ret (ws (sub s l h))) .fail
 | .v (.sl τ) xs=>EB sz τ xs lo hi
 | .own id gen=> .nr id fun
  |some (.own g τ _ xs)=>bif ax g gen then .ot id (.fT g τ xs) (EB sz τ xs lo hi)else .fail
  |some (.fT g τ xs)=>bif ax g gen then EB sz τ xs lo hi else .fail
  |_=> .fail
 |_=> .fail
def MI (d id gen:Nat)(sz:Option Nat)(hi:Option Val):AM Slot:= .nr id fun
 |some (.own g τ _ xs)=>bif ax g gen&&τ.flat&& !ax d id then match sz with
   |some n=>bif ax n τ.size then
     (HF xs.length hi).bind λh=> .br (bounds xs.length 0 h) ((lr d).bind λgd=> .ot d (.own gd τ av (xs.take h.toNat)) (.ot id (.dead g) (.ret (.val (.one (.own d gd)))))) .fail
    else .fail
   |none=> .fail
  else .fail
 |_=> .fail
def indexAddr (sz:Nat)(x:Cell)(i:Int):AM Slot:=(Hu x).bind λn=> .br (0<=i&&i<n) (.ret (.ea x i 0 sz)) .fail
def nilCheck:Slot->AM Slot
 | .val (.one (.ptr id gen off))=> .ret (.val (.one (.ptr id gen off)))
 | .val (.one (.fn f nv))=> .ret (.val (.one (.fn f nv)))
 | .val (.one (.v .cl xs))=> .br (!xs.isEmpty) (.ret (.val (.one (.v .cl xs)))) .fail
 |_=> .fail
def fieldAddr (off:Nat):Slot->AM Slot
 | .val (.one (.ptr id gen o))=> .ret (.val (.one (.ptr id gen (o+off))))
 | .ea c i o sz=> .ret (.ea c i (o+off) sz)
 | .val (.one (.v .cl xs))=> .br (!xs.isEmpty) (.ret (.fa xs off)) .fail
 |_=> .fail
def fill (place:Nat->Option (Nat×Nat))(cells:List Cell):List (Nat×Val)->Option (List Cell)
 |[]=>U cells
 |(i,x)::r=>match place i with
  |some (off,size)=>bif ax x.cells.length size&&bo5 (off+size) cells.length then fill place (setCells off x.cells cells) r else az
  |none=>az
def Ht:List (Nat×Operand)->AM (List (Nat×Val))
 |[]=> .ret []
 |(i,x)::r=>(evV x).bind λc=>(Ht r).bind λcs=> .ret ((i,c)::cs)
def W3 (mv:Bool)(τ:Ty):Nat->List Cell->AM (List τ.den)
 |0,_=> .ret []
 |n+1,cs=>(pack mv τ (cs.take τ.size)).bind λp=>(W3 mv τ n (cs.drop τ.size)).bind λr=> .ret (p.1::r)
def EF:(τ:Ty)->List Cell->Option (τ.den×List Cell)
 | .un,cs=>U ((),cs)
 | .pr a b,cs=>(EF a cs).bind λp=>(EF b p.2).bind λq=>U ((p.1,q.1),q.2)
 | .int k, .v (.int k') x::cs=>if k=k' then U (x,cs)else az
 | .bool, .v .bool b::cs=>U (b,cs)
 | .str, .v .str l::cs=>U (l,cs)
 | .sl _, .nil::cs=>U ([],cs)
 | .cl, .np::cs=>U ([],cs)
 |_,_=>az
def Ty.rO:Ty->Bool
 | .sl e=>e.flat
 | .cl=>aq
 | .pr a b=>a.rO&&b.rO
 |_=>av
def byte (n:Int):Int:=((n.toNat % 256:Nat))
def rep (n:Nat)(z:List Cell):List Cell:=match n with
 |0=>[]
 |n+1=>z++rep n z
abbrev Plc:=Option (Nat×Nat×Nat)
def Plc.on (p:Plc)(n:Nat):Plc:=match p with
 |some (id,g,o)=>U (id,g,o+n)
 |none=>az
def Plc.is (p:Plc)(id g o:Nat):Bool:=match p with
 |some (ad4,g',o')=>ax ad4 id&&ax g' g&&ax o' o
 |none=>aq
def Dz:(s:Sp)->Plc->List Cell->AM (s.ty.den×List Cell)
 | .un,_,cs=> .ret ((),cs)
 | .pr a b,pl,cs=>(Dz a pl cs).bind λp=>(Dz b (pl.on a.size) p.2).bind λq=> .ret ((p.1,q.1),q.2)
 | .fT τ,_,c::cs=>(datum τ c).bind λx=> .ret (x,cs)
 | .own τ _,_, .nil::cs=> .ret ([],cs)
 | .own τ dp,_, .own id gen::cs=>(uB id gen).bind λ_=> .nr id fun
  |some (.own g _ deep xs)=>bif ax g gen&&(deep|| !dp||τ.flat)then .ot id (.dead g) ((zb (τ':=τ) xs).bind λxs=> .ret (xs,cs))else .fail
  |_=> .fail
 | .lnd τ _,_, .nil::cs=> .ret ([],cs)
 | .lnd τ dp,_, .own id gen::cs=>(uB id gen).bind λ_=> .nr id fun
  |some (.own g _ deep xs)=>bif ax g gen&&(deep|| !dp||τ.flat)then .ot id (.lZ g (0,[])) ((zb (τ':=τ) xs).bind λxs=> .ret (xs,cs))else .fail
  |_=> .fail
 | .ptr wh ty s,_, .ptr id gen off::cs=> .nr id fun
  |some (.box g (bt,bs))=>bif ax g gen&&((!wh||(ax off 0&&ax s.size bs.length&&ax bt ty.1))&&(wh||J7 ty.2 bt off bs.length))&&bo5 (off+s.size) bs.length then
    .ot id (.lZ g (bt,bs)) ((Dz s (U (id,gen,off)) (cut off s.size bs)).bind λp=> .ret (p.1,cs))else .fail
  |_=> .fail
 | .CV ok,_, .ptr id gen off::cs=> .nr id fun
  |some (.box g (bt,bs))=>bif ax g gen&&J7 ok bt off bs.length&&bo5 (off+2) bs.length then match cut off 2 bs with
    |[.np, .nil]=> .ret ([],cs)
    |[.own a ag, .own aX9 aJ3]=> .nr aX9 fun
     |some (.vp g2 xs a' aL8 bid bg XK)=>bif ax g2 aJ3&&ax a a'&&ax ag aL8&&(ax bid id&&ax bg gen&&ax XK off)then .ot aX9 (.dead g2) (.ret (xs,cs))else .fail
     |_=> .fail
    |_=> .fail
   else .fail
  |_=> .fail
 | .vp,_, .np:: .nil::cs=> .ret ([],cs)
 | .vp,pl, .own a ag:: .own id gen::cs=> .nr id fun
  |some (.vp g xs a' aL8 bid bg off)=>bif ax g gen&&ax a a'&&ax ag aL8&&pl.is bid bg off then .ot id (.dead g) (.ret (xs,cs))else .fail
  |_=> .fail
 | .err,_, .err b::cs=> .ret (b,cs)
 | .np,_, .np::cs=> .ret ((),cs)
 | .slf _ _,_, .ptr _ _ off::cs=>bif ax off 0 then .ret ((),cs)else .fail
 |_,_,_=> .fail
def af6 (n:Nat)(xs:List Int):Plc->AM (List Cell)
 |some (id,bg,off)=>(lr n).bind λg1=> .ot n (.dead g1) ((lr (n+1)).bind λg2=> .ot (n+1) (.vp g2 xs n g1 id bg off) (.ret [.own n g1, .own (n+1) g2]))
 |none=> .fail
def CU:(s:Sp)->s.ty.den->Plc->List Cell->Nat->AM (List Cell×List Cell×Nat)
 | .un,_,_,old,n=> .ret ([],old,n)
 | .pr a b,x,pl,old,n=>(CU a x.1 pl old n).bind λp=>(CU b x.2 (pl.on a.size) p.2.1 p.2.2).bind λq=> .ret (p.1++q.1,q.2.1,q.2.2)
 | .fT τ,x,_,old,n=> .ret ([.v τ x],old.tail,n)
 | .own τ dp,xs,_,old,n=>(JP n τ (dp||τ.flat) xs).bind λc=> .ret ([c],old.tail,n+1)
 | .lnd _ _,_,_, .nil::old,n=> .ret ([.nil],old,n)
 | .lnd τ dp,xs,_, .own id gen::old,n=> .nr id fun
  |some (.lZ g _)=>bif ax g gen then .ot id (.own g τ (dp||τ.flat) xs) (.ret ([.own id gen],old,n))else .fail
  |_=> .fail
 | .ptr _ _ s,x,_, .ptr id gen off::old,n=> .nr id fun
  |some (.lZ g (bt,bs))=>bif ax g gen then(CU s x (U (id,gen,off)) (cut off s.size bs) (200000+64*id)).bind λp=> .ot id (.box g (bt,setCells off p.1 bs)) (.ret ([.ptr id gen off],old,n))else .fail
  |_=> .fail
 | .vp,x,pl,old,n=>(af6 n x pl).bind λcs=> .ret (cs,old.drop 2,n+2)
 | .err,b,_,old,n=> .ret ([.err b],old.tail,n)
 | .np,_,_,old,n=> .ret ([.np],old.tail,n)
 |_,_,_,_,_=> .fail
def Tc:(s:Sp)->s.tg.den->List Cell->AM (List Cell)
 | .pr a b,x,cs=>(Tc a x.1 cs).bind λr=>Tc b x.2 r
 | .un,_,cs=> .ret cs
 | .ptr wh ty s,x,c::cs=>(CU (.ptr wh ty s) x az [c] 0).bind λ_=> .ret cs
 | .lnd τ dp,x,c::cs=>(CU (.lnd τ dp) x az [c] 0).bind λ_=> .ret cs
 | .vp,_,_::_::cs=> .ret cs
 | .CV _,_,_::cs=> .ret cs
 | .fT _,_,_::cs=> .ret cs
 | .own _ _,_,_::cs=> .ret cs
 | .err,_,_::cs=> .ret cs
 | .np,_,_::cs=> .ret cs
 | .slf _ _,_,_::cs=> .ret cs
 |_,_,_=> .fail
def W7:(a:VSp)->Val->AM a.sp.ty.den
 | .one s, .one c=>(Dz s az [c]).bind λp=>match p.2 with
  |[]=> .ret p.1
  |_=> .fail
 | .agg s, .agg cs=>(Dz s az cs).bind λp=>match p.2 with
  |[]=> .ret p.1
  |_=> .fail
 |_,_=> .fail
def FL:(as:List VSp)->List Val->AM (fF as).den
 |[],[]=> .ret ()
 |a::as,x::xs=>(W7 a x).bind λp=>(FL as xs).bind λq=> .ret (p,q)
 |_,_=> .fail
def Hs:(as:List VSp)->(tH as).den->List Val->AM Unit
 |[],_,[]=> .ret ()
 |a::as,x,v::vs=>(Tc a.sp x.1 v.cells).bind λ_=>Hs as x.2 vs
 |_,_,_=> .fail
def Ro:(a:VSp)->a.sp.ty.den->Nat->AM (Val×Nat)
 | .one s,x,n=>(CU s x az [] n).bind λp=>match p.1 with
  |[c]=> .ret (.one c,p.2.2)
  |_=> .fail
 | .agg s,x,n=>(CU s x az [] n).bind λp=> .ret (.agg p.1,p.2.2)
def MS:(as:List VSp)->(fF as).den->Nat->AM (List Val)
 |[],_,_=> .ret []
 |a::as,x,n=>(Ro a x.1 n).bind λp=>(MS as x.2 p.2).bind λq=> .ret (p.1::q)
def Nb:(r:RSp)->r.ty.den->Nat->AM Slot
 | .val a,x,n=>(Ro a x n).bind λp=> .ret (.val p.1)
 | .xl as,x,n=>(MS as x n).bind λvs=> .ret (.xl vs)
 | .none,_,_=> .ret (.xl [])
def call (c:Callee)(d:Nat)(args:List Val):AM Slot:=
 (FL c.sig.args args).bind λx=> .opt c.sig.cod (c.F x) λy=>
  (Hs c.sig.args y.2 args).bind λ_=>Nb c.sig.res y.1 (300000+16*d)
def Dw:List Operand->AM (List Val)
 |[]=> .ret []
 |x::r=>(evV x).bind λc=>(Dw r).bind λcs=> .ret (c::cs)
def aa8 (chk:AM Unit)(c:Callee)(d:Nat)(args:List Val):AM Slot:=
 (FL c.sig.args args).bind λx=>chk.bind λ_=> .opt c.sig.cod (c.F x) λy=>
  (Hs c.sig.args y.2 args).bind λ_=>Nb c.sig.res y.1 (300000+16*d)
def yV:List (Nat×Nat)->List (Nat×Nat)->Bool
 |[],[]=>av
 |a::r,b::q=>ax a.1 b.1&&ax a.2 b.2&&yV r q
 |_,_=>aq
def Ce:List Nat->AM (List (Nat×Nat))
 |[]=> .ret []
 |t::ts=> .zR t fun
  | .val (.one (.ptr id gen 0))=>(Ce ts).bind λcs=> .ret ((id,gen)::cs)
  |_=> .fail
def W9 (f:FuncId)(nv:List (Nat×Nat)):AM Unit:=match nv.getLast? with
 |some p=> .nr p.1 fun
  |some (.box g (_,[.fn f2 cs]))=>bif ax g p.2&&ax f2 f&&yV cs nv then .ret ()else .fail
  |_=> .fail
 |none=> .fail
def kept (E:Env)(ts:List Nat):Bool:= !ts.isEmpty&&ts.all λt=>E.qJ.any (ax t)
def JY (E:Env)(f:FuncId)(nv:List (Nat×Nat)):AM Unit:=match E.slf with
 |some (f',ts)=>bif ax f f'&&kept E ts then(Ce ts).bind λcs=>bif yV cs nv then .ret ()else .fail else .fail
 |none=>W9 f nv
def WH (E:Env)(d:Nat)(args:List Val):Cell->AM Slot
 | .fn f nv=>match E.callee f with
  |some c=>match z8 c.sig.args with
   |none=>call c d (args++nv.map λp=> .one (.ptr p.1 p.2 0))
   |some sf=>bif ax sf.1 f&&ax sf.2 args.length then aa8 (JY E f nv) c d (args++nv.map λp=> .one (.ptr p.1 p.2 0))else .fail
  |none=> .fail
 |_=> .fail
def Wt:Option Bool->Bool
 |some aq=>av
 |_=>aq
def MQ (E:Env)(t:TypeId)(a:Operand):Option (FuncId×List Nat):=match E.slf,a with
 |some (f,ts), .tmp k=>bif ax k (ts.getLastD 0)&&kept E ts&&Wt (E.isAgg t)then U (f,ts)else az
 |_,_=>az
def Bq:List Val->Option (List (Nat×Nat))
 |[]=>U []
 | .one (.ptr id gen 0)::r=>(Bq r).map ((id,gen):: ·)
 |_=>az
def al3 (x:Option Operand):AM (Option Val):=match x with
 |some y=>(evV y).bind λv=> .ret (U v)
 |none=> .ret az
def one (v:Val):AM Cell:=match v with
 | .one c=> .ret c
 |_=> .fail
def convert (E:Env)(src dst:TypeId)(v:Val):AM Slot:=
 match E.P.underlying src,E.P.underlying dst with
 |some (.int _),U (.int k)=>(asInt v).bind λn=> .ret (wi k (k.wrap n))
 |some (.slice e),U .string=>match E.P.underlying e,v with
  |some (.int .u8), .one c=>match c with
   | .v (.sl (.int .u8)) xs=> .ret (ws (xs.map byte))
   | .nil=> .ret (ws [])
   | .own id gen=> .nr id fun
    |some (.own g (.int .u8) _ xs)=>bif ax g gen then .ret (ws (xs.map byte))else .fail
    |some (.fT g (.int .u8) xs)=>bif ax g gen then .ret (ws (xs.map byte))else .fail
    |_=> .fail
   |_=> .fail
  |_,_=> .fail
 |some .string,U (.slice e)=>match E.P.underlying e,v with
  |some (.int .u8), .one (.v .str l)=> .ret (.val (.one (.v (.sl (.int .u8)) l)))
  |_,_=> .fail
 |_,_=> .fail
def J9 {α:Type}(z:α):List (Int×α)->Int->α
 |[],_=>z
 |p::r,n=>bif(n=p.1)then p.2 else J9 z r n
def mapKey (E:Env)(t:TypeId):Option TypeId:=match E.P.underlying t with
 |some (.map k e)=>match E.P.underlying k with
  |some (.int .i64)=>U e
  |_=>az
 |_=>az
def S6 (E:Env)(t:TypeId):Option Val:=((E.P.info? t).bind (·.zero)).bind Bn
def WU (E:Env)(t:TypeId)(n:Int)(τ:Ty)(y:τ.den):Cell->AM Slot
 | .own id gen=>(mj (mapKey E t)).bind λ_=> .nr id fun
  |some (.mp g τ' xs)=>bif ax g gen&& !(xs.any λp=>I (p.1=n))then if h:τ=τ' then .ot id (.mp g τ' (xs++[(n,(h ▸ y))])) (.ret .un)else .fail else .fail
  |_=> .fail
 |_=> .fail
def WJ (E:Env)(t:TypeId)(n:Int):Cell->AM Slot
 | .own id gen=>(mj (mapKey E t)).bind λe=>match S6 E e with
  |some (.one (.v τ0 z))=> .nr id fun
   |some (.mp g τ xs)=>bif ax g gen then if h:τ0=τ then .ret (.val (.one (.v τ (J9 (h ▸ z) xs n))))else .fail else .fail
   |_=> .fail
  |_=> .fail
 |_=> .fail
def Rx (E:Env)(d:Nat)(t:TypeId)(a:Operand):AM Slot:=
 (ev a).bind λs=>(mj (E.isAgg t)).bind λag=>(Rj E ag s).bind λne=>bif ne then Js d s else(mj (E.sizeOf t)).bind λn=>
   (En E (bif ag then n else 1) s).bind λcs=>(J2 ag cs).bind λv=> .ret (.val v)
def iT (E:Env)(d:Nat):Op->AM Slot
 | .move x| .assign x=>ev x
 | .pick c a b=>(evV c).bind λv=>(asBool v).bind λt=> .br t (ev a) (ev b)
 | .alloc t=>(mj (E.zeroCells t)).bind λcs=>JZ d t cs
 | .box t x=>(evV x).bind λv=>JZ d t v.cells
 | .build t ps=>(mj (E.zeroCells t)).bind λz=>(Ht ps.toList).bind λps=>
   (mj (fill (λi=>(E.field t i).bind λf=>(E.sizeOf f.type).map (f.offset, ·)) z ps)).bind λcs=>bif E.sized t then .ret (.val (.agg cs))else .fail
 | .buildSlice t n ps=>(mj (E.elem t)).bind λe=>(E.ty e).bind λτ=>(mj (E.zeroCells e)).bind λz=>
   (Ht ps.toList).bind λps=>(mj (fill (λi=>U (i*z.length,z.length)) (rep n z) ps)).bind λcs=>
    bif E.Py e τ&&bo5 n 4096 then
     (W3 (Ca cs&&τ.rO&& !τ.flat) τ n cs).bind λxs=>(JP d τ (Ca cs&&τ.rO&& !τ.flat) xs).bind λc=> .ret (.val (.one c))
    else .fail
 | .load t a=>match MQ E t a with
  |some p=>(Ce p.2).bind λcs=> .ret (.val (.one (.fn p.1 cs)))
  |none=>Rx E d t a
 | .store t a x=>(evV x).bind λv=>(ev a).bind λs=>(mj (E.sizeOf t)).bind λn=>
   bif ax v.cells.length n then(FD v.cells s).bind λ_=> .ret .un else .fail
 | .nilCheck x=>(ev x).bind nilCheck
 | .binOp op t x y _=>(evV x).bind λa=>match y with
   | .const .nilIface=>Q9 E op t a
   |_=>(evV y).bind λb=>binOp E op t a b
 | .unOp .not _ x=>(evV x).bind λv=>(asBool v).bind λb=> .ret (wb !b)
 | .unOp .neg _ x=>(evV x).bind λv=>match v with
   | .one (.v (.int k) n)=> .ret (wi k (k.wrap (0 - n)))
   |_=> .fail
 | .convert s t x=>(evV x).bind λv=>convert E s t v
 | .makeMap t az=>(mj (mapKey E t)).bind λe=>(E.ty e).bind λτ=>bif τ.one then(lr d).bind λg=> .ot d (.mp g τ []) (.ret (.val (.one (.own d g))))else .fail
 | .makeMap t (U x)=>(evV x).bind λv=>(asInt v).bind λ_=>(mj (mapKey E t)).bind λe=>(E.ty e).bind λτ=>bif τ.one then(lr d).bind λg=> .ot d (.mp g τ []) (.ret (.val (.one (.own d g))))else .fail
 | .insert t m k x=>(evV m).bind λvm=>(one vm).bind λcm=>(evV k).bind λvk=>(evV x).bind λvx=>match vk,vx with
   | .one (.v (.int .i64) n), .one (.v τ y)=>WU E t n τ y cm
   |_,_=> .fail
 | .lookup t m k aq=>(evV m).bind λvm=>(one vm).bind λcm=>(evV k).bind λvk=>match vk with
   | .one (.v (.int .i64) n)=>WJ E t n cm
   |_=> .fail
 | .makeInterface t x=>(evV x).bind λ_=>match E.P.underlying t with
   |some (.interface _)=> .fail
   |some _=> .ret (.val (.one (.err aq)))
   |none=> .fail
 | .makeFunc (.func f) first nv=>bif first.isEmpty then(Dw nv.toList).bind λvs=>(mj (Bq vs)).bind λcs=> .ret (.val (.one (.fn f cs)))else .fail
 | .makeSlice t l c=>(mj (E.elem t)).bind λe=>(E.ty e).bind λτ=>(mj (E.zeroCells e)).bind λz=>(mj (EF τ z)).bind λx=>
   (evV l).bind λl=>(asInt l).bind λl=>(evV c).bind λc=>(asInt c).bind λc=>bif E.Py e τ&&x.2.isEmpty then
    .br (0<=l&&l<=c&&c<=lim) ((JP d τ (τ.rO&& !τ.flat) (aN l.toNat x.1)).bind λc=> .ret (.val (.one c))) .fail else .fail
 | .slice t x lo hi az=>(evV x).bind λv=>(one v).bind λc=>(al3 lo).bind λlo=>(al3 hi).bind λhi=>bif E.fit t c then
   (match E.trim,lo,c with
    |true,az, .own id gen=>MI d id gen ((E.elem t).bind E.sizeOf) hi
    |_,_,_=>M5 ((E.elem t).bind E.sizeOf) lo hi c)else .fail
 | .fieldAddr s x i=>(ev x).bind λa=>(mj (E.field s i)).bind λf=>(mj (E.sizeOf f.type)).bind λn=>bif cd 0 n then fieldAddr f.offset a else .fail
 | .field s x i=>(evV x).bind λv=>match v with
   | .agg cs=>(mj (E.field s i)).bind λf=>(mj (E.isAgg f.type)).bind λag=>(mj (E.sizeOf f.type)).bind λn=>
     (J2 ag (cut f.offset (bif ag then n else 1) cs)).bind λv=> .ret (.val v)
   |_=> .fail
 | .indexAddr t x i=>(mj ((E.elem t).bind E.sizeOf)).bind λsz=>(evV x).bind λv=>(one v).bind λc=>(evV i).bind λi=>(asInt i).bind λi=>bif E.fit t c&& !c.isStr then(FA c).bind λ_=>indexAddr sz c i else .fail
 | .index t x i=>(evV x).bind λv=>(evV i).bind λi=>(asInt i).bind λi=>match v,E.P.underlying t with
   | .one (.v .str s),U .string=> .br (0<=i&&i<s.length) (.ret (wi .u8 (s.getD i.toNat 0))) .fail
   |_,_=> .fail
 | .extract t i=>(ev t).bind λs=>match s with
   | .xl vs=>(mj vs[i]?).bind λv=> .ret (.val v)
   |_=> .fail
 | .call c=>match c.callee with
  | .builtin .len=>(Dw c.args.toList).bind λvs=>match vs with
   |[.one x]=>bif(c.argTypes[0]?).any λt=>E.fit t x then(Hu x).bind λn=> .ret (wi .i64 n)else .fail
   |_=> .fail
  | .builtin .max=>(Dw c.args.toList).bind λvs=>match vs with
   |[.one (.v (.int k) x), .one (.v (.int _) y)]=> .ret (wi k (if y>x then y else x))
   |_=> .fail
  | .builtin .append=>match c.argTypes.toList with
   |[t,tx]=>(mj (E.elem t)).bind λe=>(E.ty e).bind λτ=>(Dw c.args.toList).bind λvs=>match vs with
    |[.one s, .one x]=>bif E.Py e τ&&E.fit tx x then append d τ s x else .fail
    |_=> .fail
   |_=> .fail
  | .value f=>(Dw c.args.toList).bind λvs=>(evV f).bind λv=>(one v).bind λc=>WH E d vs c
  |_=> .fail
 |_=> .fail
def step (E:Env)(alt:Nat)(o:Oper):AM Unit:=
 match o.dst with
 |some d=>bif cd d E.nt&& !E.qJ.any (ax d)then(iT E d o.op).bind λs=> .ET d s (.ret ())else .fail
 |none=>(iT E alt o.op).bind λ_=> .ret ()
end Go.Abs
end

section
namespace Go.Abs
def AM.sY:AM α->St->List Nat->List Nat->(α->St->List Nat->List Nat->Option ρ)->Option ρ
 | .ret a,s,r,w,K=>K a s r w
 | .br b t e,s,r,w,K=>brk b (t.sY s r w K) (e.sY s r w K)
 | .fail,_,_,_,_=>az
 | .zR t k,s,r,w,K=>match look s.env t with
  |some x=>(k x).sY s ((2*t)::r) w K
  |none=>az
 | .ET t x k,s,r,w,K=>k.sY {s with env:=(t,x)::s.env} r ((2*t)::w) K
 | .nr i k,s,r,w,K=>(k (look s.hp i)).sY s ((2*i+1)::r) w K
 | .ot i o k,s,r,w,K=>k.sY {s with hp:=(i,o)::s.hp} r ((2*i+1)::w) K
 | .opt _ x k,s,r,w,K=>x.bind λd=>(k d).sY s r w K
def Tl:List Oper->Nat->Option Oper
 |[],_=>az
 |o::_,0=>U o
 |_::r,n+1=>Tl r n
def zM (ops:List Oper)(j:Nat):Option Nat:=(Tl ops j).bind (·.dst)
def skip (E:Env)(o:Oper):AM Unit:=match o.dst with
 |some d=>bif cd d E.nt&& !E.qJ.any (ax d)then .ET d .sk (.ret ())else .fail
 |none=> .ret ()
def alt (n:Nat):Nat:=90000+n
def stepG (E:Env)(ops:List Oper)(n:Nat)(o:Oper):AM Unit:=match o.guard with
 |none=>step E (alt n) o
 |some (j,want)=>(mj (zM ops j)).bind λd=> .zR d fun
  | .val (.one (.v .bool g))=> .br (g==want) (step E (alt n) o) (skip E o)
  | .sk=>skip E o
  |_=> .fail
def vF (E:Env)(ops:List Oper):List Oper->Nat->St->(St->Option ρ)->Option ρ
 |[],_,s,K=>K s
 |o::r,n,s,K=>match o.guard with
  |none=>(step E (alt n) o).exec s λ_ s=>vF E ops r (n+1) s K
  |some (j,want)=>match zM ops j with
   |some d=>match look s.env d with
    |some (.val (.one (.v .bool g)))=>brk g
      ((bif want then step E (alt n) o else skip E o).exec {s with env:=(d,wb av)::s.env} λ_ s=>vF E ops r (n+1) s K)
      ((bif want then skip E o else step E (alt n) o).exec {s with env:=(d,wb aq)::s.env} λ_ s=>vF E ops r (n+1) s K)
    |some .sk=>(skip E o).exec s λ_ s=>vF E ops r (n+1) s K
    |_=>az
   |none=>az
abbrev Log:=List (List Nat×List Nat)
def sR (E:Env)(ops:List Oper):List Oper->Nat->St->Log->(St->Log->Option ρ)->Option ρ
 |[],_,s,L,K=>K s L
 |o::r,n,s,L,K=>match o.guard with
  |none=>(step E (alt n) o).sY s [] [] λ_ s rd wr=>sR E ops r (n+1) s ((rd,wr)::L) K
  |some (j,want)=>match zM ops j with
   |some d=>match look s.env d with
    |some (.val (.one (.v .bool g)))=>brk g
      ((bif want then step E (alt n) o else skip E o).sY {s with env:=(d,wb av)::s.env} [2*d] [] λ_ s rd wr=>sR E ops r (n+1) s ((rd,wr)::L) K)
      ((bif want then skip E o else step E (alt n) o).sY {s with env:=(d,wb aq)::s.env} [2*d] [] λ_ s rd wr=>sR E ops r (n+1) s ((rd,wr)::L) K)
    |some .sk=>(skip E o).sY s [2*d] [] λ_ s rd wr=>sR E ops r (n+1) s ((rd,wr)::L) K
    |_=>az
   |none=>az
def mem (n:Nat):List Nat->Bool
 |[]=>aq
 |m::r=>ax m n||mem n r
def meet (a b:List Nat):Bool:=match a with
 |[]=>aq
 |x::r=>mem x b||meet r b
def Aa (ops:List Oper):List (List Nat):=ops.map λo=>o.after.toList.filterMap λe=>bif bq9 .any e then U e.on else az
def Cr:List (List Nat)->List (List Nat)->List (List Nat)
 |[],acc=>acc
 |es::r,acc=>Cr r (acc++[es.flatMap λi=>i::acc.getD i []])
def Cd:List (List Nat)->Nat->Bool
 |[],_=>av
 |es::r,n=>es.all (cd · n)&&Cd r (n+1)
def Ej (x:List Nat×List Nat)(bx:List Nat):Log->Nat->Bool
 |[],_=>av
 |y::r,n=>(mem (n - 1) bx|| !(meet x.2 y.2||meet x.2 y.1||meet x.1 y.2))&&Ej x bx r (n - 1)
def apart:Log->List (List Nat)->Nat->Bool
 |x::r,bx::b,n=>Ej x bx r (n - 1)&&apart r b (n - 1)
 |[],_,_=>av
 |_,_,_=>aq
def IS (E:Env)(ops:List Oper)(draw:Bool)(s:St)(K:St->Option ρ):Option ρ:=
 bif draw then
  sR E ops ops 0 s [] λs' L=>bif Cd (Aa ops) 0&&apart L (Cr (Aa ops) []).reverse ops.length then K s' else az
 else vF E ops ops 0 s K
def first:Code->Option Nat
 | .region id _ _=>U id
 | .seq a b=>(first a).orElse λ_=>first b
 | .block _ c=>first c
 | .loop c=>(first c).map (1000+ ·)
 | .scope c=>first c
 | .cond _ a b=>(first a).orElse λ_=>first b
 |_=>az
abbrev Handler:=∀ρ:Type,St->(Exit->St->Option ρ)->Option ρ
structure Cuts where
 loop:Nat->Option Handler
 join:Nat->Option Handler
def Ev (s:St):Operand->Option Bool
 | .tmp t=>match look s.env t with
  |some (.val (.one (.v .bool b)))=>U b
  |_=>az
 | .const (.bool b)=>U b
 |_=>az
def exec (E:Env)(H:Cuts):Code->St->(Exit->St->Option ρ)->Option ρ
 | .skip,s,K=>K .normal s
 | .region _ ops draw,s,K=>IS E ops.toList draw s (K .normal)
 | .seq a b,s,K=>exec E H a s λe s'=>match e with
  | .normal=>match(first b).bind H.join with
   |some h=>h ρ s' K
   |none=>exec E H b s' K
  |e=>K e s'
 | .cond c a b,s,K=>match Ev s c with
  |some t=>brk t (exec E H a s K) (exec E H b s K)
  |none=>az
 | .block id c,s,K=>exec E H c s λe s'=>match e with
  | .exit i=>bif ax i id then K .normal s' else K (.exit i) s'
  |e=>K e s'
 | .loop c,s,K=>match(first c).bind H.loop with
  |some h=>h ρ s K
  |none=>az
 | .exit i,s,K=>K (.exit i) s
 | .ret,s,K=>K .ret s
 | .label _,s,K=>K .normal s
 | .scope c,s,K=>exec E H c s λe s'=>match e with
  | .goto _=>az
  |e=>K e s'
 |_,_,_=>az
def mk0:(s:Sp)->s.ty.den->Nat×Nat->Nat->(List Cell×List (Nat×Obj)×Nat)
 | .un,_,_,n=>([],[],n)
 | .pr a b,x,pl,n=>let p:=mk0 a x.1 pl n;let q:=mk0 b x.2 (pl.1,pl.2+a.size) p.2.2;(p.1++q.1,q.2.1++p.2.1,q.2.2)
 | .fT τ,x,_,n=>([.v τ x],[],n)
 | .own τ dp,xs,_,n=>([.own n 0],[(n, .own 0 τ (dp||τ.flat) xs)],n+1)
 | .lnd τ dp,xs,_,n=>([.own n 0],[(n, .own 0 τ (dp||τ.flat) xs)],n+1)
 | .ptr _ ty s,x,_,n=>let p:=mk0 s x (n,0) (n+1);([.ptr n 0 0],(n, .box 0 (ty.1,p.1))::p.2.1,p.2.2)
 | .CV _,_,_,n=>([],[],n)
 | .vp,x,pl,n=>([.own n 0, .own (n+1) 0],[(n+1, .vp 0 x n 0 pl.1 0 pl.2),(n, .dead 0)],n+2)
 | .err,b,_,n=>([.err b],[],n)
 | .np,_,_,n=>([.np],[],n)
 | .slf _ _,_,_,n=>([.ptr n 0 0],[(n, .dead 0)],n+1)
def Ds:(a:VSp)->a.sp.ty.den->Nat->(Option Val×List (Nat×Obj)×Nat)
 | .one s,x,n=>let p:=mk0 s x (0,0) n;(match p.1 with|[c]=>U (.one c)|_=>az,p.2.1,p.2.2)
 | .agg s,x,n=>let p:=mk0 s x (0,0) n;(U (.agg p.1),p.2.1,p.2.2)
def zF:(as:List VSp)->List Nat->(fF as).den->Nat->(List (Nat×Slot)×List (Nat×Obj))
 |a::as,t::ts,x,n=>
  let p:=Ds a x.1 n
  let q:=zF as ts x.2 p.2.2
  (match p.1 with|some v=>(t, .val v)::q.1|none=>q.1,q.2++p.2.1)
 |_,_,_,_=>([],[])
def dec (ts:List Nat) (as) (x:(fF as).den):St:=let p:=zF as ts x pv;⟨p.1,p.2⟩
def Jw:List Nat->AM (List Val)
 |[]=> .ret []
 |t::ts=>(AM.zR t PG).bind λv=>(Jw ts).bind λvs=> .ret (v::vs)
def upto:List VSp->Nat->List Nat
 |[],_=>[]
 |_::r,n=>n::upto r (n+1)
def Sp.plain:Sp->Bool
 | .ptr _ _ _=>aq
 | .lnd _ _=>aq
 | .CV _=>aq
 | .slf _ _=>aq
 | .pr a b=>a.plain&&b.plain
 |_=>av
def Sp.whole (XG:Bool):Sp->Bool
 | .ptr wh _ s=>wh&&s.whole av
 | .pr a b=>a.whole XG&&b.whole XG
 | .vp=>XG
 | .CV _=>aq
 |_=>av
def qU:List VSp->Bool
 |[]=>av
 |a::r=>a.sp.whole aq&&qU r
def enc (ts:List Nat) (as):AM (fF as).den:=bif qU as then(Jw ts).bind λvs=>FL as vs else .fail
def Sp.Nt:Sp->Bool
 | .ptr _ _ _=>av
 | .lnd _ _=>av
 | .pr a b=>a.Nt||b.Nt
 |_=>aq
def Tk:(s:Sp)->AM s.tg.den
 | .pr a b=>(Tk a).bind λp=>(Tk b).bind λq=> .ret (p,q)
 | .un=> .ret ()
 | .fT _=> .ret ()
 | .own _ _=> .ret ()
 | .vp=> .ret ()
 | .CV _=> .ret ()
 | .err=> .ret ()
 | .np=> .ret ()
 | .slf _ _=> .ret ()
 | .ptr _ _ _=> .fail
 | .lnd _ _=> .fail
def aa4 (hp:List (Nat×Obj))(n:Nat):Bool:=match look hp n with
 |some (.box 0 (_, .ptr m 0 0::_))=>ax m (n+1)&&(look hp m).isSome
 |_=>aq
def stays (Ax:List (Nat×Obj)):Cell->AM Unit
 | .ptr n 0 0=>bif aa4 Ax n then .nr n fun
   |some (.box 0 (_, .ptr m 0 0::_))=>bif ax m (n+1)then .ret ()else .fail
   |_=> .fail
  else .fail
 |_=> .fail
def Pw (s:St):Bool:=match look s.env 0,look s.hp pv with
 |some (.val (.one (.ptr n 0 0))),U (.box 0 (_, .ptr m 0 0::_))=>ax n pv&&ax m (pv+1)
 |_,_=>aq
def rI (f:Bool)(s:St):Bool:=bif f then Pw s else av
def Nj:Cell->AM Unit
 | .ptr n 0 0=>bif ax n pv then .nr pv fun
   |some (.box 0 (_, .ptr m 0 0::_))=>bif ax m (pv+1)then .ret ()else .fail
   |_=> .fail
  else .fail
 |_=> .fail
def Sp.inner:Sp->Bool
 | .ptr wh _ s=>s.plain&&wh
 | .pr (.ptr wh _ s) r=>s.plain&&wh&&r.plain
 |_=>aq
def Nw (ini fst:Bool)(Ax:List (Nat×Obj)):(s:Sp)->List Cell->AM (s.tg.den×List Cell)
 | .pr a b,cs=>(Nw ini fst Ax a cs).bind λp=>(Nw ini fst Ax b p.2).bind λq=> .ret ((p.1,q.1),q.2)
 | .un,cs=> .ret ((),cs)
 | .ptr wh ty s,c::cs=>bif s.plain&&wh then(Dz (.ptr wh ty s) az [c]).bind λp=> .ret (p.1,cs)else bif s.inner&&wh then(bif ini then stays Ax c else bif fst then Nj c else .fail).bind λ_=>(Dz (.ptr wh ty s) az [c]).bind λp=> .ret (p.1,cs)else .fail
 | .lnd τ dp,c::cs=>(Dz (.own τ dp) az [c]).bind λp=> .ret (p.1,cs)
 | .fT _,_::cs=> .ret ((),cs)
 | .own _ _,_::cs=> .ret ((),cs)
 | .CV _,_::cs=> .ret ((),cs)
 | .err,_::cs=> .ret ((),cs)
 | .np,_::cs=> .ret ((),cs)
 | .slf _ _,_::cs=> .ret ((),cs)
 |_,_=> .fail
def M8 (ini fst:Bool)(Ax:List (Nat×Obj))(qJ:List Nat):(as:List VSp)->Nat->AM (tH as).den
 |[],_=> .ret ()
 |a::as,n=>(bif a.sp.Nt then(bif qJ.any (ax n)then(AM.zR n PG).bind λv=>(Nw ini fst Ax a.sp v.cells).bind λp=> .ret p.1 else .fail)else Tk a.sp).bind λp=>
   (M8 ini fst Ax qJ as (n+1)).bind λq=> .ret (p,q)
def Nv (E:Env):ResultVar->AM Val
 | .tmp t=> .zR t PG
 | .cell a t=> .zR a λs=>(mj (E.isAgg t)).bind λag=>(mj (E.sizeOf t)).bind λn=>(En E (bif ag then n else 1) s).bind λcs=>J2 ag cs
def ED (E:Env):List ResultVar->AM (List Val)
 |[]=> .ret []
 |r::rs=>(Nv E r).bind λv=>(ED E rs).bind λvs=> .ret (v::vs)
def BX:List VSp->Bool
 |[]=>av
 |a::r=>a.sp.plain&&BX r
def Wr (E:Env)(rs:List ResultVar):(r:RSp)->AM r.ty.den
 | .val a=>(ED E rs).bind λvs=>bif a.sp.plain then match vs with
  |[v]=>W7 a v
  |_=> .fail
  else .fail
 | .xl as=>(ED E rs).bind λvs=>bif BX as then match vs with
  |[_]=> .fail
  |vs=>FL as vs
  else .fail
 | .none=>(ED E rs).bind λvs=>match vs with
  |[]=> .ret ()
  |_=> .fail
def finish (E:Env)(Ax:List (Nat×Obj))(rs:List ResultVar)(sg:Sig):AM sg.cod.den:=
 (Wr E rs sg.res).bind λr=>(M8 E.ini E.fst Ax E.qJ sg.args 0).bind λo=> .ret (r,o)
def atEnd (E:Env)(Ax:List (Nat×Obj))(rs:List ResultVar)(sg:Sig)(e:Exit)(s:St):Option sg.cod.den:=match e with
 | .normal| .ret=>(finish E Ax rs sg).exec s λr _=>U r
 |_=>az
def J1 (E:Env)(fn:Func)(sg:Sig)(H:Cuts)(x:sg.dom.den):Option sg.cod.den:=
 match fn.body with
 |some c=>bif rI E.fst (dec (upto sg.args 0) sg.args x)then exec E H c (dec (upto sg.args 0) sg.args x) (atEnd E (dec (upto sg.args 0) sg.args x).hp fn.results.toList sg)else az
 |none=>az
abbrev Der:=List (Nat×Nat×List Nat)
def FO (env:List (Nat×Slot)):List Nat->Option (List (Nat×Nat))
 |[]=>U []
 |t::r=>match look env t with
  |some (.val (.one (.ptr id gen 0)))=>(FO env r).map ((id,gen):: ·)
  |_=>az
def W8 (s:St):List Nat->Option (Nat×Nat)
 |[t]=>match look s.env t with
  |some (.val (.one (.ptr id gen 0)))=>match look s.hp id with
   |some (.box NV (_, .ptr m k 0::_))=>bif ax gen NV then U (m,k)else az
   |_=>az
  |_=>az
 |_=>az
def Te (d:Nat×Nat×List Nat):Bool:=ax d.2.1 1000000
def EA (s:St)(d:Nat×Nat×List Nat):Option Cell:=bif Te d then(W8 s d.2.2).map λm=> .ptr m.1 m.2 0 else(FO s.env d.2.2).map λcs=> .fn d.2.1 cs
def derive (s:St):Der->List (Nat×Slot)
 |[]=>s.env
 |d::r=>match EA s d with
  |some c=>(d.1, .val (.one c))::derive s r
  |none=>derive s r
def SB:Option Slot->Option Cell->Bool
 |some (.val (.one (.fn f nv))),U (.fn f' cs)=>ax f f'&&yV nv cs
 |some (.val (.one (.ptr m k 0))),U (.ptr m' k' 0)=>ax m m'&&ax k k'
 |_,_=>aq
def vo (s:St):Der->Bool
 |[]=>av
 |d::r=>SB (look s.env d.1) (EA s d)&&vo s r
def NH (ts:List Nat) (as) (Cf:Der)(x:(fF as).den):St:=⟨derive (dec ts as x) Cf,(dec ts as x).hp⟩
structure Way1 where
 e:Exit
 ts:List Nat
 as:List VSp
 Cf:Der
@[reducible] def sB:List Way1->Type
 |[]=>Empty
 |w::r=>(fF w.as).den⊕sB r
def Jg:Exit->Exit->Bool
 | .normal, .normal=>av
 | .exit i, .exit j=>ax i j
 | .ret, .ret=>av
 |_,_=>aq
def FM (f:Bool):(ws:List Way1)->Exit->St->Option (sB ws)
 |[],_,_=>az
 |w::r,e,s=>bif Jg w.e e then(bif vo s w.Cf&&rI f s then(enc w.ts w.as).exec s λz _=>bif rI f (dec w.ts w.as z)then U (.inl z)else az else az)else(FM f r e s).bind λy=>U (.inr y)
def J4 {ρ:Type}:(ws:List Way1)->sB ws->(Exit->St->Option ρ)->Option ρ
 |[],y,_=>Empty.elim y
 |w::r,y,K=>Sum.elim (λz=>K w.e (NH w.ts w.as w.Cf z)) (λy=>J4 r y K) y
structure Cut where
 ts:List Nat
 as:List VSp
 ws:List Way1
 Cf:Der
def Cut.Cb (c:Cut)(f:Bool)(L:(fF c.as).den->Option (sB c.ws)):Handler:=λ_ s K=>bif vo s c.Cf&&rI f s then(enc c.ts c.as).exec s λx _=>bif rI f (dec c.ts c.as x)then(L x).bind λy=>J4 c.ws y K else az else az
def Cut.round (c:Cut)(E:Env)(H:Cuts)(body:Code)(L:(fF c.as).den->Option (sB c.ws))(x:(fF c.as).den):Option (sB c.ws):=
 exec E H body (NH c.ts c.as c.Cf x) λe s=>match e with
  | .normal=>bif vo s c.Cf&&rI E.fst s then(enc c.ts c.as).exec s λx' _=>bif rI E.fst (dec c.ts c.as x')then L x' else az else az
  |e=>FM E.fst c.ws e s
def Cut.tail (c:Cut)(E:Env)(H:Cuts)(body:Code)(x:(fF c.as).den):Option (sB c.ws):=
 exec E H body (NH c.ts c.as c.Cf x) λe s=>FM E.fst c.ws e s
end Go.Abs
end

section
namespace Go.Abs
def oc:Value->Bool
 | .agg _| .tuple _=>aq
 |_=>av
structure Gh where
 dC:Nat->Option (List Value)
 top:Nat->Nat
 cv:Nat->Nat->Value
 gV:Nat->Option Nat
 iR:Nat->Option (List Value)
 outer:Nat->List Value
abbrev Rd:=Nat->Option (List Value)
def vi (r:Rd):List Int->Value->Prop
 |[],u=>u= .pointer az
 |x::xs,u=>∃b p,u= .pointer (U ⟨b,0,az⟩)/\r b=U [.int .i64 x,p]/\vi r xs p
def Rc (r:Rd):(τ:Ty)->τ.den->List Value->Prop
 | .int k,x,cs=>cs=[.int k x]
 | .bool,b,cs=>cs=[.bool b]
 | .str,l,cs=>∃s,cs=[.string s]/\l=bytesOf s
 | .un,_,cs=>cs=[]
 | .pr a b,x,cs=>∃c1 c2,cs=c1++c2/\Rc r a x.1 c1/\Rc r b x.2 c2
 | .sl e,xs,cs=>∃A c,cs=[.slice A xs.length c]/\xs.length<=c/\
   (xs=[]\/∃b o L,A=U ⟨b,o,az⟩/\r b=U L/\∀i h,Rc r e xs[i] ((L.drop (o+i*e.size)).take e.size))
 | .cl,xs,cs=>∃u,cs=[u]/\vi r xs u
def Els (r:Rd)(e:Ty)(xs:List e.den)(L:List Value)(o:Nat):Prop:=
 ∀i h,Rc r e xs[i] ((L.drop (o+i*e.size)).take e.size)
def Lin (r:Rd):(τ:Ty)->τ.den->List Value->List Nat->Prop
 | .int k,x,cs,nb=>cs=[.int k x]/\nb=[]
 | .bool,b,cs,nb=>cs=[.bool b]/\nb=[]
 | .str,l,cs,nb=>(∃s,cs=[.string s]/\l=bytesOf s)/\nb=[]
 | .un,_,cs,nb=>cs=[]/\nb=[]
 | .pr a b,x,cs,nb=>∃c1 c2 n1 n2,cs=c1++c2/\nb=n1++n2/\Lin r a x.1 c1 n1/\Lin r b x.2 c2 n2
 | .sl e,xs,cs,nb=>e.flat=av/\((cs=[.slice az 0 0]/\xs=[]/\nb=[])\/
   ∃b c L,cs=[.slice (U ⟨b,0,az⟩) xs.length c]/\xs.length<=c/\nb=[b]/\r b=U L/\L.length=c*e.size/\Els r e xs L 0)
 | .cl,_,_,_=>False
def jx (r:Rd)(e:Ty):List e.den->List Value->List Nat->Prop
 |[],_,nb=>nb=[]
 |x::xs,L,nb=>∃n1 n2,nb=n1++n2/\Lin r e x (L.take e.size) n1/\jx r e xs (L.drop e.size) n2
def xg (g:Gh):List (Nat×Nat)->List Value->Prop
 |[],us=>us=[]
 |p::r,us=>∃b o v,us= .pointer (U ⟨b,o,az⟩)::v/\p.2<g.top p.1/\g.cv p.1 p.2= .pointer (U ⟨b,o,az⟩)/\xg g r v
def eC (g:Gh):Cell->Value->Prop
 | .v τ x,u=>τ.one=av/\Rc g.dC τ x [u]
 | .nil,u=>u= .slice az 0 0
 | .own id gen,u=>gen<g.top id/\u=g.cv id gen/\oc u=av
 | .ptr id gen off,u=>gen<g.top id/\∃b o,g.cv id gen= .pointer (U ⟨b,o,az⟩)/\u= .pointer (U ⟨b,o+off,az⟩)
 | .np,u=>u= .pointer az
 | .nf,u=>u= .nilFunc
 | .fn f nv,u=>∃vs:List Value,u= .func (.func f) #[] vs.toArray/\xg g nv vs
 | .err b,u=>(b=av/\u= .nilIface)\/(b=aq/\∃t v,u= .iface t v)
def dG (g:Gh):List Cell->List Value->Prop
 |[],us=>us=[]
 |c::cs,us=>∃u r,us=u::r/\eC g c u/\dG g cs r
def iL (g:Gh):Val->Value->Prop
 | .one c,u=>eC g c u
 | .agg cs,u=>∃us:List Value,u= .agg us.toArray/\dG g cs us
def ju (g:Gh):List Val->List Value->Prop
 |[],us=>us=[]
 |c::cs,us=>∃u r,us=u::r/\iL g c u/\ju g cs r
def gT (g:Gh):Slot->Value->Prop
 | .val v,u=>iL g v u
 | .xl vs,u=>∃us:List Value,u= .tuple us.toArray/\ju g vs us
 | .ea c i off sz,u=>∃b o n cap,eC g c (.slice (U ⟨b,o,az⟩) n cap)/\0<=i/\i.toNat<n/\u= .pointer (U ⟨b,o+i.toNat*sz+off,az⟩)
 | .fa xs off,u=>∃x XY b p,xs=x::XY/\g.dC b=U [.int .i64 x,p]/\vi g.dC XY p/\u= .pointer (U ⟨b,off,az⟩)
 | .ga k,u=>u= .pointer (U ⟨k,0,az⟩)
 | .un,_=>True
 | .sk,u=>u=undef
def Ta (g:Gh)(id:Nat)(τ:Ty)(xs:List τ.den)(L:List Value):Prop:=
 ∃nb,jx g.iR τ xs L nb/\nb.Nodup/\∀b∈nb,g.gV b=U (id+1)
def iK (g:Gh)(id:Nat)(τ:Ty)(deep:Bool)(xs:List τ.den)(L:List Value):Prop:=
 if deep&& !τ.flat then Ta g id τ xs L else Els g.dC τ xs L 0
def tE (r:Rd)(τ:Ty):List (Int×τ.den)->List MapEntry->Prop
 |[],es=>es=[]
 |p::xs,es=>∃e r',es=e::r'/\e.key= .int .i64 p.1/\Rc r τ p.2 [e.val]/\tE r τ xs r'
def pR:Nat:=5
def rk (g:Gh)(w:World)(id:Nat):Obj->Prop
 | .box gen r=>∃b o arr ty L,g.cv id gen= .pointer (U ⟨b,o,az⟩)/\(g.gV b=U (id+1)/\g.iR b=az)/\w.heap[b]?=U (.cells arr ty (0,0))/\dG g r.2 L/\
   arr.toList=(g.outer id).take o++L++(g.outer id).drop (o+L.length)/\o+L.length<=(g.outer id).length/\
   o=0/\(g.outer id).length=r.2.length/\ty=r.1
 | .own gen τ deep xs=>(g.cv id gen= .slice az 0 0/\xs=[])\/
   ∃b cap arr ty,g.cv id gen= .slice (U ⟨b,0,az⟩) xs.length cap/\g.gV b=U (id+1)/\g.iR b=az/\w.heap[b]?=U (.cells arr ty (0,0))/\
    xs.length<=cap/\arr.size=cap*τ.size/\iK g id τ deep xs arr.toList
 | .fT gen τ xs=>Rc g.dC (.sl τ) xs [g.cv id gen]
 | .ax4 gen xs=>vi g.dC xs (g.cv id gen)
 | .dead _=>True
 | .lZ _ _=>True
 | .mp gen τ xs=>τ.one=av/\∃b es Zv,g.cv id gen= .map (U b)/\g.gV b=U (id+1)/\g.iR b=az/\w.heap[b]?=U (.map es Zv)/\tE g.dC τ xs es.toList
 | .hole gen τ xs i off d gd=>gd<g.top d/\0<=i/\i.toNat<xs.length/\τ.flat=aq/\∃b cap arr ty e ys x',g.cv id gen= .slice (U ⟨b,0,az⟩) xs.length cap/\g.gV b=U (id+1)/\g.iR b=az/\w.heap[b]?=U (.cells arr ty (0,0))/\
   xs.length<=cap/\arr.size=cap*τ.size/\Dy τ (at_ xs i) off=U ⟨e,ys⟩/\sA τ (at_ xs i) off e []=U x'/\arr.toList[i.toNat*τ.size+off]?=U (g.cv d gd)/\
   Ta g id τ (xs.set i.toNat x') (arr.toList.set (i.toNat*τ.size+off) (.slice az 0 0))
 | .vp gen xs a ag bid bg off=>ag<g.top a/\bg<g.top bid/\oc (g.cv a ag)=av/\((g.cv a ag= .pointer az/\g.cv id gen= .slice az 0 0/\xs=[])\/
   ∃bb oo,g.cv bid bg= .pointer (U ⟨bb,oo,az⟩)/\g.cv a ag= .pointer (U ⟨bb,oo+off,az⟩)/\((g.cv id gen= .slice az 0 0/\xs=[])\/
    ∃b cap arr ty,g.cv id gen= .slice (U ⟨b,0,az⟩) xs.length cap/\g.gV b=U (id+1)/\g.iR b=az/\w.heap[b]?=U (.cells arr ty (0,0))/\xs.length<=cap/\arr.size=cap/\Els g.dC (.int .u8) xs arr.toList 0/\ty=pR))
structure Base where
 dC:Nat->Option (List Value)
 gV:Nat->Option Nat
 w:World
 arg:Nat->Value
 g0:Gh:=⟨λ_=>az,λ_=>0,λ_ _=> .tuple #[],λ_=>az,λ_=>az,λ_=>[]⟩
 f0:Nat×Value:=(0, .tuple #[])
structure HRel (B:Base)(g:Gh)(hp:List (Nat×Obj))(w:World):Prop where
 top:∀id,g.top id=match look hp id with|some o=>o.gen+1|none=>0
 iW:∀id o,look hp id=U o->rk g w id o
 dC:∀b L,g.dC b=U L->g.gV b=az/\g.iR b=az/\∃arr ty fr,w.heap[b]?=U (.cells arr ty fr)/\arr.toList=L
 iR:∀b L,g.iR b=U L->g.gV b≠az/\∃arr ty,w.heap[b]?=U (.cells arr ty (0,0))/\arr.toList=L
 iV:∀b,g.gV b≠az->b<w.heap.size
 mN:∀b L,B.dC b=U L->g.dC b=U L
 frame:∀b,b<B.w.heap.size->B.gV b=az->B.dC b=az->g.gV b=az/\g.dC b=az/\w.heap[b]?=B.w.heap[b]?
 size:B.w.heap.size<=w.heap.size
 os:w.os=B.w.os
 tape:w.tape=B.w.tape
 output:w.output=B.w.output
 fix:∀b L,B.dC b=U L->w.heap[b]?=B.w.heap[b]?
structure Le (g g':Gh):Prop where
 dC:∀b L,g.dC b=U L->g'.dC b=U L
 top:∀id,g.top id<=g'.top id
 cv:∀id gen,gen<g.top id->g'.cv id gen=g.cv id gen
theorem Le.refl (g):Le g g:=⟨λ_ _ h=>h,λ_=>aF _,λ_ _ _=>rfl⟩
theorem Le.trans (h:Le a b)(k:Le b c):Le a c:=
  ⟨λx L hx=>k.dC _ _ (h.dC _ _ hx),λid=>bn8 (h.top id) (k.top id),
   λid gen hg=>(k.cv id gen (aV hg (h.top id))).trans (h.cv id gen hg)⟩
structure Lk (g g':Gh):Prop where
 le:Le g g'
 kp:∀b,g.gV b=U 0->g'.gV b=U 0/\g'.iR b=g.iR b
 out:g'.outer=g.outer
theorem Lk.refl (g):Lk g g:=⟨Le.refl g,λ_ h=>⟨h,rfl⟩,rfl⟩
def Lk.trans (h:Lk a b)(k:Lk b c):Lk a c:=
 ⟨h.le.trans k.le,λx hx=>⟨(k.kp x (h.kp x hx).1).1,((k.kp x (h.kp x hx).1).2).trans (h.kp x hx).2⟩,k.out.trans h.out⟩
theorem vi.mono (h:∀b L,r b=U L->r' b=U L):∀{xs:List Int}{u:Value},vi r xs u->vi r' xs u
 |[],_,hc=>hc
 |_::_,_,⟨b,p,e,hb,hc⟩=>⟨b,p,e,h _ _ hb,vi.mono h hc⟩
theorem Rc.mono (h:∀b L,r b=U L->r' b=U L):∀{τ:Ty}{x:τ.den}{cs:List Value},Rc r τ x cs->Rc r' τ x cs
 | .int _,_,_,hc=>hc
 | .bool,_,_,hc=>hc
 | .str,_,_,hc=>hc
 | .un,_,_,hc=>hc
 | .pr _ _,_,_,⟨c1,c2,e,h1,h2⟩=>⟨c1,c2,e,Rc.mono h h1,Rc.mono h h2⟩
 | .sl _,_,_,⟨A,c,e,hl,hc⟩=>⟨A,c,e,hl,hc.imp id λ⟨b,o,L,ea,hb,hi⟩=>⟨b,o,L,ea,h _ _ hb,λi xn=>Rc.mono h (hi i xn)⟩⟩
 | .cl,_,_,⟨u,e,hc⟩=>⟨u,e,hc.mono h⟩
def Rc.length:∀{τ:Ty}{x:τ.den}{cs:List Value},Rc r τ x cs->cs.length=τ.size
 | .int _,_,_,h=>by subst h;rfl
 | .bool,_,_,h=>by subst h;rfl
 | .str,_,_,⟨_,e,_⟩=>by subst e;rfl
 | .un,_,_,h=>by subst h;rfl
 | .pr _ _,_,_,⟨c1,c2,e,h1,h2⟩=>by subst e;simp[Ty.size,h1.length,h2.length]
 | .sl _,_,_,⟨A,c,e,_⟩=>by subst e;rfl
 | .cl,_,_,⟨u,e,_⟩=>by subst e;rfl
theorem Rc.flat:∀{τ:Ty}{x:τ.den}{cs:List Value},τ.flat=av->Rc r τ x cs->Rc r' τ x cs
 | .int _,_,_,_,hc=>hc
 | .bool,_,_,_,hc=>hc
 | .str,_,_,_,hc=>hc
 | .un,_,_,_,hc=>hc
 | .pr _ _,_,_,hf,⟨c1,c2,e,h1,h2⟩=>by
  simp only[Ty.flat,aA]at hf;exact⟨c1,c2,e,Rc.flat hf.1 h1,Rc.flat hf.2 h2⟩
 | .sl _,_,_,hf,_=>by grind [Ty.flat]
 | .cl,_,_,hf,_=>by grind [Ty.flat]
theorem tE.mono (h:∀b L,r b=U L->r' b=U L):∀{xs:List (Int×τ.den)}{es:List MapEntry},tE r τ xs es->tE r' τ xs es
 |[],_,hc=>hc
 |_::_,_,⟨e,r2,h1,h2,h3,h4⟩=>⟨e,r2,h1,h2,h3.mono h,tE.mono h h4⟩
theorem Els.mono (h:∀b L,r b=U L->r' b=U L){e:Ty}{xs:List e.den}{L:List Value}{o:Nat}(H:Els r e xs L o):Els r' e xs L o:=
 λi hi=>(H i hi).mono h
theorem Els.flat (hf:e.flat=av){xs:List e.den}{L:List Value}{o:Nat}(H:Els r e xs L o):Els r' e xs L o:=
 λi hi=>(H i hi).flat hf
theorem xg.mono (h:Le g g'):∀{cs:List (Nat×Nat)}{us:List Value},xg g cs us->xg g' cs us
 |[],_,hc=>hc
 |_::_,_,⟨b,o,v,e,ht,pz,hc⟩=>⟨b,o,v,e,aV ht (h.top _),(h.cv _ _ ht).trans pz,xg.mono h hc⟩
theorem eC.mono (h:Le g g'){c:Cell}{u:Value}(hc:eC g c u):eC g' c u:=by
 cases c with
 |v τ x=>exact⟨hc.1,hc.2.mono h.dC⟩
 |nil=>exact hc
 |own id gen=>exact⟨aV hc.1 (h.top _),hc.2.1.trans (h.cv _ _ hc.1).symm,hc.2.2⟩
 |ptr id gen off=>obtain⟨ht,b,o,e,e'⟩:=hc;exact⟨aV ht (h.top _),b,o,(h.cv _ _ ht).trans e,e'⟩
 |np=>exact hc
 |nf=>exact hc
 |fn f nv=>obtain⟨vs,e,hv⟩:=hc;exact⟨vs,e,hv.mono h⟩
 |err b=>exact hc
theorem dG.mono (h:Le g g'):∀{cs:List Cell}{us:List Value},dG g cs us->dG g' cs us
 |[],_,hc=>hc
 |_::_,_,⟨u,r,e,hu,hr⟩=>⟨u,r,e,hu.mono h,dG.mono h hr⟩
theorem iL.mono (h:Le g g'){v:Val}{u:Value}(hv:iL g v u):iL g' v u:=by
 cases v with
 |one c=>exact eC.mono h hv
 |agg cs=>obtain⟨us,e,hu⟩:=hv;exact⟨us,e,hu.mono h⟩
theorem ju.mono (h:Le g g'):∀{cs:List Val}{us:List Value},ju g cs us->ju g' cs us
 |[],_,hc=>hc
 |_::_,_,⟨u,r,e,hu,hr⟩=>⟨u,r,e,hu.mono h,ju.mono h hr⟩
theorem gT.mono (h:Le g g'){s:Slot}{u:Value}(hs:gT g s u):gT g' s u:=by
 cases s with
 |val v=>exact iL.mono h hs
 |xl vs=>obtain⟨us,e,hu⟩:=hs;exact⟨us,e,hu.mono h⟩
 |ea c i off sz=>obtain⟨b,o,n,cap,hc,h0,h1,e⟩:=hs;exact⟨b,o,n,cap,hc.mono h,h0,h1,e⟩
 |fa xs off=>obtain⟨x,XY,b,p,e,hb,hc,e'⟩:=hs;exact⟨x,XY,b,p,e,h.dC _ _ hb,hc.mono h.dC,e'⟩
 |ga k=>exact hs
 |un=>exact hs
 |sk=>exact hs
def eC.Hx (h:eC g c u):oc u=true:=by
 cases c with
 |v τ x=>
  obtain⟨h1,h⟩:=h
  cases τ with
  |int k=>injection h with h;subst h;rfl
  |bool=>injection h with h;subst h;rfl
  |str=>obtain⟨s,e,_⟩:=h;injection e with e;subst e;rfl
  |un=>grind [Ty.one]
  |pr a b=>grind [Ty.one]
  |sl e=>obtain⟨A,c,e,_⟩:=h;injection e with e;subst e;rfl
  |cl=>
   obtain⟨u',e,h⟩:=h
   injection e with e;subst e
   have hx:vi g.dC x u:=h
   revert hx
   generalize x=xs
   intro hx
   cases xs with
   |nil=>subst hx;rfl
   |cons y ys=>obtain⟨b,p,e,_⟩:=hx;subst e;rfl
 |nil=>subst h;rfl
 |own id gen=>exact h.2.2
 |ptr id gen off=>obtain⟨_,b,o,_,e⟩:=h;subst e;rfl
 |np=>subst h;rfl
 |nf=>subst h;rfl
 |fn f nv=>obtain⟨vs,e,_⟩:=h;subst e;rfl
 |err b=>rcases h with⟨_,e⟩|⟨_,t,v,e⟩<;>subst e<;>rfl
def Ed (h:oc u=av):u.cells=#[u]:=by cases u<;>simp_all[oc,Value.cells]
def dG.length:∀{cs:List Cell}{us:List Value},dG g cs us->us.length=cs.length
 |[],_,h=>by have h:_=_:=h;simp_all
 |_::_,_,⟨_,_,e,_,hr⟩=>by subst e;simp[hr.length]
def iL.cells (h:iL g v u):dG g v.cells u.cells.toList:=by
 cases v with
 |one c=>rw[Ed (eC.Hx h)];exact⟨u,[],rfl,h,rfl⟩
 |agg cs=>obtain⟨us,e,hu⟩:=h;subst e;exact hu
def dG.append:∀{a b:List Cell}{us vs:List Value},dG g a us->dG g b vs->dG g (a++b) (us++vs)
 |[],_,_,_,h,k=>by have h:_=_:=h;simp_all
 |_::_,_,_,_,⟨u,r,e,hu,hr⟩,k=>by subst e;exact⟨u,_,rfl,hu,hr.append k⟩
theorem dG.take:∀{a:List Cell}{us:List Value} n,dG g a us->dG g (a.take n) (us.take n)
 |_,_,0,_=>by rfl
 |[],_,n+1,h=>by simp_all[dG]
 |_::_,_,n+1,⟨u,r,e,hu,hr⟩=>by subst e;exact⟨u,_,rfl,hu,hr.take n⟩
def dG.drop:∀{a:List Cell}{us:List Value} n,dG g a us->dG g (a.drop n) (us.drop n)
 |_,_,0,h=>h
 |[],_,n+1,h=>by simp_all[dG]
 |_::_,_,n+1,⟨u,r,e,hu,hr⟩=>by subst e;exact hr.drop n
def dG.split:∀{a b:List Cell}{us:List Value},dG g (a++b) us->∃u v,us=u++v/\dG g a u/\dG g b v
 |[],_,us,h=>⟨[],us,rfl,rfl,h⟩
 |_::_,_,_,⟨u,r,e,hu,hr⟩=>by
  obtain⟨x,y,e',hx,hy⟩:=dG.split hr;subst e;subst e';exact⟨u::x,y,rfl,⟨u,x,rfl,hu,hx⟩,hy⟩
def Lin.rc:∀{τ:Ty}{x:τ.den}{cs:List Value}{nb:List Nat},Lin r τ x cs nb->Rc r τ x cs
 | .int _,_,_,_,h=>h.1
 | .bool,_,_,_,h=>h.1
 | .str,_,_,_,h=>h.1
 | .un,_,_,_,h=>h.1
 | .pr _ _,_,_,_,⟨c1,c2,_,_,e,_,h1,h2⟩=>⟨c1,c2,e,h1.rc,h2.rc⟩
 | .sl _,_,_,_,⟨_, .inl ⟨e,e',_⟩⟩=>by subst e';exact⟨az,0,e,aF _, .inl rfl⟩
 | .sl _,_,_,_,⟨_, .inr ⟨b,c,L,e,hl,_,hb,_,he⟩⟩=>⟨U ⟨b,0,az⟩,c,e,hl, .inr ⟨b,0,L,rfl,hb,he⟩⟩
 | .cl,_,_,_,h=>h.elim
theorem Lin.mono:∀{τ:Ty}{x:τ.den}{cs:List Value}{nb:List Nat},(∀b∈nb,∀L,r b=U L->r' b=U L)->Lin r τ x cs nb->Lin r' τ x cs nb
 | .int _,_,_,_,_,h=>h
 | .bool,_,_,_,_,h=>h
 | .str,_,_,_,_,h=>h
 | .un,_,_,_,_,h=>h
 | .pr _ _,_,_,_,hm,⟨c1,c2,n1,n2,e,e',h1,h2⟩=>
  ⟨c1,c2,n1,n2,e,e',h1.mono λb hb=>hm b (by simp_all),h2.mono λb hb=>hm b (by simp_all)⟩
 | .sl _,_,_,_,_,⟨f, .inl h⟩=>⟨f, .inl h⟩
 | .sl _,_,_,_,hm,⟨f, .inr ⟨b,c,L,e,hl,hn,hb,hL,he⟩⟩=>⟨f, .inr ⟨b,c,L,e,hl,hn,hm b (by simp_all) L hb,hL,he.flat f⟩⟩
 | .cl,_,_,_,_,h=>h.elim
theorem jx.mono:∀{xs:List e.den}{L:List Value}{nb:List Nat},(∀b∈nb,∀L,r b=U L->r' b=U L)->jx r e xs L nb->jx r' e xs L nb
 |[],_,_,_,h=>h
 |_::_,_,_,hm,⟨n1,n2,e',h1,h2⟩=>
  ⟨n1,n2,e',h1.mono λb hb=>hm b (by simp_all),h2.mono λb hb=>hm b (by simp_all)⟩
theorem jx.els:∀{xs:List e.den}{L:List Value}{nb:List Nat},jx r e xs L nb->Els r e xs L 0
 |[],_,_,_=>λi hi=>absurd hi (by simp)
 |x::xs,L,_,⟨_,_,_,h1,h2⟩=>λi hi=>by
  cases i with
  |zero=>simpa using h1.rc
  |succ i=>
   have xn:i<xs.length:=by simp_all
   have h:=h2.els i xn
   grind [bW,bX]
theorem jx.xb:∀{xs:List e.den}{L:List Value}{nb:List Nat},jx r e xs L nb->∀b∈nb,r b≠none:=by
 have lin:∀{τ:Ty} {x:τ.den} {cs:List Value} {nb:List Nat},Lin r τ x cs nb->∀b∈nb,r b≠none:=by
  intro τ
  induction τ with
  |int k=>intro x cs nb h b hb;rw[h.2]at hb;simp_all
  |bool=>intro x cs nb h b hb;rw[h.2]at hb;simp_all
  |str=>intro x cs nb h b hb;rw[h.2]at hb;simp_all
  |un=>intro x cs nb h b hb;rw[h.2]at hb;simp_all
  |pr a b EY EW=>
   intro x cs nb ⟨c1,c2,n1,n2,_,e,h1,h2⟩ b hb
   grind
  |sl e _=>
   intro x cs nb ⟨_,h⟩ b hb
   grind
  |cl=>intro x cs nb h;exact h.elim
 intro xs
 induction xs with
 |nil=>intro L nb h b hb;have h:_=_:=h;simp_all
 |cons x xs ih=>
  intro L nb ⟨n1,n2,e,h1,h2⟩ b hb
  grind
def rk.tr {id:Nat}(hle:Le g g')(hl:∀b,g.gV b=U (id+1)->g'.gV b=U (id+1)/\g'.iR b=g.iR b/\w'.heap[b]?=w.heap[b]?)
  (ho:g'.outer id=g.outer id) (hg:o.gen<g.top id) (h:rk g w id o):rk g' w' id o:=by
 cases o with
 |box gen r=>
  obtain⟨b,o,arr,ty,L,h1,h2,h3,h4,h5,h6,h7⟩:=h;obtain⟨a1,a2,a3⟩:=hl b h2.1;refine⟨b,o,arr,ty,L,(hle.cv _ _ hg).trans h1,⟨a1,a2.trans h2.2⟩,a3.trans h3,h4.mono hle, ?_, ?_,by simp_all⟩
  all_goals simp_all
 |own gen τ deep xs=>
  rcases h with⟨h1,h2⟩|⟨b,cap,arr,ty,h1,h2,h3,h4,h5,h6,h7⟩
  ·exact .inl ⟨(hle.cv _ _ hg).trans h1,h2⟩
  ·obtain⟨a1,a2,a3⟩:=hl b h2;refine .inr ⟨b,cap,arr,ty,(hle.cv _ _ hg).trans h1,a1,a2.trans h3,a3.trans h4,h5,h6, ?_⟩;unfold iK at h7⊢;split
   ·rename_i hd;rw[aj hd]at h7;obtain⟨nb,k1,k2,k3⟩:=h7;exact⟨nb,k1.mono λb hb L hL=>by simp_all,k2,λb hb=>(hl b (k3 b hb)).1⟩
   ·rename_i hd;rw[ai hd]at h7;exact h7.mono hle.dC
 |fT gen τ xs=>show Rc _ _ _ _;rw[show g'.cv id gen=g.cv id gen from hle.cv _ _ hg];exact h.mono hle.dC
 |ax4 gen xs=>show vi _ _ _;rw[show g'.cv id gen=g.cv id gen from hle.cv _ _ hg];exact h.mono hle.dC
 |dead _=>trivial
 |lZ _ _=>trivial
 |mp gen τ xs=>
  obtain⟨h1,b,es,Zv,k1,k2,k3,k4,k5⟩:=h;obtain⟨a1,a2,a3⟩:=hl b k2;exact⟨h1,b,es,Zv,(hle.cv _ _ hg).trans k1,a1,a2.trans k3,a3.trans k4,k5.mono hle.dC⟩
 |hole gen τ xs i off d gd=>
  obtain⟨h0,bh4,ad1,hf,b,cap,arr,ty,e,ys,x',h1,h2,h3,h4,h5,h6,h7,h8,h9,nb,k1,k2,k3⟩:=h;obtain⟨a1,a2,a3⟩:=hl b h2
  exact⟨aV h0 (hle.top _),bh4,ad1,hf,b,cap,arr,ty,e,ys,x',(hle.cv _ _ hg).trans h1,a1,a2.trans h3,a3.trans h4,h5,h6,h7,h8,by rw[hle.cv _ _ h0];omega,
   nb,k1.mono λb hb L hL=>by simp_all,k2,λb hb=>(hl b (k3 b hb)).1⟩
 |vp gen xs a ag bid bg off=>
  obtain⟨h1,h2,h3,h4⟩:=h;refine⟨aV h1 (hle.top _),aV h2 (hle.top _),by rw[hle.cv _ _ h1];omega, ?_⟩;rw[hle.cv _ _ h1,hle.cv _ _ h2,show g'.cv id gen=g.cv id gen from hle.cv _ _ hg]
  rcases h4 with h4|⟨bb,oo,k1,k2,h4⟩
  ·simp_all
  ·refine .inr ⟨bb,oo,k1,k2, ?_⟩
   rcases h4 with h4|⟨b,cap,arr,ty,e1,e2,e3,e4,e5,e6,e7,e8⟩
   ·simp_all
   ·obtain⟨a1,a2,a3⟩:=hl b e2;exact .inr ⟨b,cap,arr,ty,e1,a1,a2.trans e3,a3.trans e4,e5,e6,e7.mono hle.dC,e8⟩
end Go.Abs
end

section
namespace Go.Abs
theorem AM.run_bind (m:AM α)(f:α->AM β):∀s,(m.bind f).run s=(m.run s).bind λp=>(f p.1).run p.2:=by
 induction m with
 |ret a=>intro s;rfl
 |br b t e ab5 ac8=>grind [AM.bind,AM.run]
 |fail=>intro s;rfl
 |zR t k ih=>grind [AM.bind,AM.run,look]
 |ET t x k ih=>simp_all[AM.bind,AM.run]
 |nr i k ih=>simp_all[AM.bind,AM.run]
 |ot i o k ih=>simp_all[AM.bind,AM.run]
 |opt c x k ih=>intro s;cases x<;>simp[AM.bind,AM.run,ih]
theorem AM.dc {m:AM α}(h:(m.bind f).run s=U (b,s')):
  ∃a t,m.run s=U (a,t)/\(f a).run t=U (b,s'):=by
 rw[AM.run_bind]at h
 cases hm:m.run s with
 |none=>simp_all
 |some p=>grind
theorem dI (l) (n) (b:β):look ((n,b)::l) n=U b:=by simp[look]
theorem dA (l) {n m:Nat}(b:β)(h:n≠m):look ((n,b)::l) m=look l m:=by
 have:ax n m=false:=by simp_all[Bool.eq_false_iff,b8]
 grind [look]
theorem beq_eq {a b:Nat}(h:ax a b=av):a=b:=b8 h
def Gh.rJ (g:Gh)(S:Nat->Option (List Value)):Gh:=
  { g with dC := fun x => match S x with | some L => U L | none => g.dC x
           gV:=λx=>match S x with|some _=>az|none=>g.gV x
           iR:=λx=>match S x with|some _=>az|none=>g.iR x}
def HRel.Hp (R:HRel B g hp w){S:Nat->Option (List Value)}{id:Nat}
  (hS:∀x L,S x=U L->g.gV x=U (id+1)):Le g (g.rJ S):=by
 refine⟨λb L h=> ?_,λ_=>aF _,λ_ _ _=>rfl⟩;show(match S b with|some L=>U L|none=>g.dC b)=U L
 cases hs:S b with
 |none=>exact h
 |some L'=>exact absurd (hS b L' hs) (by rw[(R.dC b L h).1];simp)
def HRel.Hv (R:HRel B g hp w){S:Nat->Option (List Value)}{id:Nat}
  (hS:∀x L,S x=U L->g.gV x=U (id+1)):Lk g (g.rJ S):=by
 refine⟨R.Hp hS,λb hb=> ?_,rfl⟩
 grind [absurd,Gh.rJ]
def HRel.Nk (R:HRel B g hp w){S:Nat->Option (List Value)}{id:Nat}{o o':Obj}
  (hS:∀x L,S x=U L->g.gV x=U (id+1)/\∃arr ty fr,w.heap[x]?=U (.cells arr ty fr)/\arr.toList=L)
  (ho:look hp id=U o) (Ho:o'.gen=o.gen) (XB:rk (g.rJ S) w id o'):HRel B (g.rJ S) ((id,o')::hp) w:=by
 have hle:=R.Hp (λx L h=>(hS x L h).1);refine⟨λi=> ?_,λi oi hi=> ?_,λb L h=> ?_,λb L h=> ?_,λb h=> ?_,λb L h=>hle.dC _ _ (R.mN b L h),λb hb hl hi=> ?_,R.size,R.os,R.tape,R.output,R.fix⟩
 ·show g.top i=_;rw[R.top i]
  grind [id,dI,dA]
 ·by_cases e:id=i
  ·simp_all[dI]
  ·rw[dA _ _ e]at hi;refine(R.iW i oi hi).tr hle (λb hb=> ?_) rfl (by rw[R.top i,hi];simp)
   grind [absurd,Gh.rJ]
 ·simp only[Gh.rJ]at h⊢
  cases hs:S b with
  |some L'=>
   simp_all
  |none=>rw[hs]at h;exact R.dC b L h
 ·simp only[Gh.rJ]at h⊢
  cases hs:S b with
  |some L'=>simp_all
  |none=>rw[hs]at h;exact R.iR b L h
 ·simp only[Gh.rJ]at h
  cases hs:S b with
  |some L'=>simp_all
  |none=>rw[hs]at h;exact R.iV b h
 ·obtain⟨f1,f2,f3⟩:=R.frame b hb hl hi
  grind [absurd,Gh.rJ]
def HRel.put (R:HRel B g hp w){id:Nat}{o o':Obj}
  (ho:look hp id=U o) (Ho:o'.gen=o.gen) (XB:rk g w id o'):HRel B g ((id,o')::hp) w:=by
 refine⟨λi=> ?_,λi oi hi=> ?_,R.dC,R.iR,R.iV,R.mN,R.frame,R.size,R.os,R.tape,R.output,R.fix⟩
 ·rw[R.top i]
  grind [id,dI,dA]
 ·by_cases e:id=i
  ·simp_all[dI]
  ·rw[dA _ _ e]at hi;exact R.iW i oi hi
open Classical in
noncomputable def nbS (g:Gh)(nb:List Nat):Nat->Option (List Value):=λx=>if x∈nb then g.iR x else az
def HRel.SO (R:HRel B g hp w){id gen:Nat}{τ:Ty}{deep:Bool}{xs:List τ.den}
  (h:look hp id=U (.own gen τ deep xs)):∃g',Lk g g'/\HRel B g' ((id, .own gen τ aq xs)::hp) w:=by
 have hO:=R.iW _ _ h
 rcases hO with⟨h1,h2⟩|⟨b,cap,arr,ty,h1,h2,h3,h4,h5,h6,h7⟩
 ·exact⟨g,Lk.refl g,R.put h rfl (.inl ⟨h1,h2⟩)⟩
 ·by_cases hd:(deep&& !τ.flat)=av
  ·unfold iK at h7;rw[aj hd]at h7;obtain⟨nb,k1,k2,k3⟩:=h7
   have hS:∀x L,nbS g nb x=U L->g.gV x=U (id+1)/\∃arr ty fr,w.heap[x]?=U (.cells arr ty fr)/\arr.toList=L:=by
    intro x L hx;unfold nbS at hx;split at hx
    ·rename_i hm;obtain⟨_,arr,ty,a,b⟩:=R.iR x L hx;simp_all
    simp_all
   have Cv:nbS g nb b=none:=by grind [nbS]
   refine⟨_,R.Hv λx L hx=>(hS x L hx).1,R.Nk hS h rfl (.inr ⟨b,cap,arr,ty,h1,by simp_all[Gh.rJ],by simp_all[Gh.rJ],h4,h5,h6, ?_⟩)⟩;show iK _ _ _ aq _ _;refine jx.els (nb:=nb) (k1.mono λx hx L hL=> ?_);simp_all[Gh.rJ,nbS]
  ·refine⟨g,Lk.refl g,R.put h rfl (.inr ⟨b,cap,arr,ty,h1,h2,h3,h4,h5,h6, ?_⟩)⟩;simp_all[iK,ai]
def HRel.Yw (R:HRel B g hp w){id gen:Nat}{τ:Ty}{xs:List τ.den}
  (h:look hp id=U (.own gen τ aq xs)):∃g',Lk g g'/\HRel B g' ((id, .fT gen τ xs)::hp) w:=by
 have hO:=R.iW _ _ h
 rcases hO with⟨h1,h2⟩|⟨b,cap,arr,ty,h1,h2,h3,h4,h5,h6,h7⟩
 ·exact⟨g,Lk.refl g,R.put h rfl (by subst h2;exact⟨az,0,by simp_all,aF _, .inl rfl⟩)⟩
 ·let S:Nat->Option (List Value):=λx=>if x=b then U arr.toList else az
  have hS:∀x L,S x=U L->g.gV x=U (id+1)/\∃arr ty fr,w.heap[x]?=U (.cells arr ty fr)/\arr.toList=L:=by
   grind
  have hle:=R.Hp (λx L hx=>(hS x L hx).1);refine⟨_,R.Hv λx L hx=>(hS x L hx).1,R.Nk hS h rfl ?_⟩;exact⟨U ⟨b,0,az⟩,cap,by show [g.cv id gen]=_;rw[h1],h5, .inr ⟨b,0,arr.toList,rfl,by simp[Gh.rJ,S],λi hi=>(h7 i hi).mono hle.dC⟩⟩
def HRel.Jy (R:HRel B g hp w){id gen:Nat}{τ:Ty}{deep:Bool}{xs:List τ.den}
  (h:look hp id=U (.own gen τ deep xs)):∃g',Lk g g'/\HRel B g' ((id, .fT gen τ xs)::hp) w:=by
 obtain⟨g1,l1,R1⟩:=R.SO h;obtain⟨g2,l2,R2⟩:=R1.Yw (dI _ _ _);refine⟨g2,l1.trans l2,⟨λi=> ?_,λi o hi=> ?_,R2.dC,R2.iR,R2.iV,R2.mN,R2.frame,R2.size,R2.os,R2.tape,R2.output,R2.fix⟩⟩
 ·rw[R2.top i]
  grind [id,dI,dA]
 ·refine R2.iW i o ?_
  grind [id,dI,dA]
def HRel.QM (R:HRel B g hp w){id gen:Nat}{x:Int}{c:Cell}{xs:List Int}{bt:Nat}
  (h:look hp id=U (.box gen (bt,[.v (.int .i64) x,c]))) (hid:id<pv)
  {b0 o0:Nat} {nh:Array Value} {GD:TypeId} {bg7:Nat×Nat} {u0:Value} (L9:g.cv id gen= .pointer (U ⟨b0,o0,az⟩)) (UW:w.heap[b0]?=U (.cells nh GD bg7))
  (Sc:nh.toList[1]?=U u0) (hc:vi g.dC xs u0):∃g',Lk g g'/\HRel B g' ((id, .ax4 gen (x::xs))::hp) w:=by
 obtain⟨b,o,arr,ty,L,h1,h2,h3,h4,h5,h6,h7⟩:=R.iW _ _ h;obtain⟨u1,r1,e1,sC,u2,r2,e2,Cx,e3⟩:=h4;subst e3;subst e2;subst e1;have av0:_=_:=sC.2
 injection av0 with av0
 subst av0;obtain⟨rfl,hlen,_⟩:=h7;simp at hlen;rw[h1]at L9
 injection L9 with L9;injection L9 with L9;injection L9 with L9 ho0
 subst L9;rw[h3]at UW
 injection UW with UW;injection UW with UW
 subst UW
 have EO:arr.toList=[.int .i64 x,u2]:=by
  rw[h5];have:bu8 (0+2) (g.outer id)=[]:=cn (by omega);simp[this]
 let S:Nat->Option (List Value):=λy=>if y=b then U arr.toList else az
 have hS:∀x L,S x=U L->g.gV x=U (id+1)/\∃arr ty fr,w.heap[x]?=U (.cells arr ty fr)/\arr.toList=L:=by
  intro x L hx;simp only[S]at hx;split at hx
  ·rename_i e;subst e;injection hx with hx;exact⟨h2.1,arr,ty,_,h3,hx⟩
  ·cases hx
 have hle:=R.Hp (λx L hx=>(hS x L hx).1);refine⟨_,R.Hv λx L hx=>(hS x L hx).1,R.Nk hS h rfl ?_⟩
 have hu:u2=u0:=by rw[EO]at Sc;simpa using Sc
 subst hu;exact⟨b,u2,h1,by simp[Gh.rJ,S,EO],hc.mono hle.dC⟩
def HRel.Zg (R:HRel B g hp w){id gen:Nat}{τ:Ty}{deep:Bool}{xs:List τ.den}
  (h:look hp id=U (.own gen τ deep xs)) (hf:τ.flat=av):∃g' nb,Lk g g'/\HRel B g' ((id, .dead gen)::hp) w/\
   Lin g'.iR (.sl τ) xs [g.cv id gen] nb/\nb.Nodup/\∀b∈nb,g'.gV b=U 0/\g.gV b≠U 0:=by
 rcases R.iW _ _ h with⟨h1,h2⟩|⟨b,cap,arr,ty,h1,h2,h3,h4,h5,h6,h7⟩
 ·exact⟨g,[],Lk.refl g,R.put h rfl trivial,⟨hf, .inl ⟨by rw[h1],h2,rfl⟩⟩,bf,λb hb=>by simp_all⟩
 ·let g':Gh:={g with gV:=λx=>if x=b then U 0 else g.gV x,iR:=λx=>if x=b then U arr.toList else g.iR x}
  have hle:Le g g':=⟨λ_ _ h=>h,λ_=>aF _,λ_ _ _=>rfl⟩
  refine⟨g',[b],⟨hle,λx hx=>by grind,rfl⟩, ?_,⟨hf, .inr ⟨b,cap,arr.toList,by rw[h1],h5,rfl,by grind,by omega, ?_⟩⟩,by simp,λx hx=>by
   grind⟩
  ·refine⟨λi=> ?_,λi oi hi=> ?_,λx L hx=> ?_,λx L hx=> ?_,λx hx=> ?_,R.mN,λx hx hl hi=> ?_,R.size,R.os,R.tape,R.output,R.fix⟩
   ·show g.top i=_;rw[R.top i]
    by_cases e:id=i
    ·subst e;rw[dI,h];rfl
    simp_all[dA]
   ·by_cases e:id=i
    ·subst e;rw[dI]at hi;injection hi with hi;subst hi;trivial
    ·rw[dA _ _ e]at hi;refine(R.iW i oi hi).tr hle (λx hx=> ?_) rfl (by rw[R.top i,hi];simp)
     grind
   ·obtain⟨a1,a2,a3⟩:=R.dC x L hx
    grind
   ·by_cases BM:x=b
    ·grind
    ·simp only[g',BM,if_false]at hx⊢;exact R.iR x L hx
   ·by_cases BM:x=b
    ·grind
    ·simp[g',BM]at hx;exact R.iV x hx
   ·obtain⟨f1,f2,f3⟩:=R.frame x hx hl hi
    grind
  ·unfold iK at h7;simp[hf]at h7;exact h7.flat hf
end Go.Abs
end

section
namespace Go.Abs
def j6 (g:Gh)(env:List (Nat×Slot))(a:Act):Prop:=∀t s,look env t=U s->gT g s (a.tmps.getD t undef)
theorem j6.mono (h:Le g g'){env:List (Nat×Slot)}{a:Act}(H:j6 g env a):j6 g' env a:=λt s hs=>(H t s hs).mono h
theorem de (h:(AM.ret a).run s=U (b,s')):b=a/\s'=s:=by
 simp_all[AM.run,cc,cB]
def fL (h:(mj x).run s=U (b,s')):x=U b/\s'=s:=by
 cases x with
 |none=>cases h
 |some a=>obtain⟨rfl,rfl⟩:=de h;simp
def nX {x:List τ.den}(h:(zb (τ':=τ') x).run s=U (y,s')):∃e:τ=τ',y=e ▸ x/\s'=s:=by
 unfold zb at h;split at h
 ·grind [de]
 ·cases h
def Q4 (h:(AM.br b m n).run s=U (x,s')):(b=av/\m.run s=U (x,s'))\/(b=aq/\n.run s=U (x,s')):=by
 cases b
 ·exact .inr ⟨rfl,h⟩
 ·exact .inl ⟨rfl,h⟩
def pZ (h:(AM.br b m .fail).run s=U (x,s')):b=av/\m.run s=U (x,s'):=by
 rcases Q4 h with h|⟨_,h⟩
 ·exact h
 ·cases h
def eB (h:(bif b then m else AM.fail).run s=U (x,s')):b=av/\m.run s=U (x,s'):=by
 cases b
 ·cases h
 simp_all
def kU (R:HRel B g hp w){id:Nat}{o:Obj}(h:look hp id=U o):o.gen<g.top id:=by
 rw[R.top id,h];simp
def QI:∀k c s xs s',(Ur k c).run s=U (xs,s')->
  s'.env=s.env/\(∀i g cs,look s'.hp i=U (.box g cs)->look s.hp i=U (.box g cs))/\
   ∀B g w,HRel B g s.hp w->∃g',Lk g g'/\HRel B g' s'.hp w/\∀u,eC g c u->vi g'.dC xs u:=by
 intro k
 have np:∀s xs s',(AM.ret []).run s=U (xs,s')->
   s'.env=s.env/\(∀i g cs,look s'.hp i=U (.box g cs)->look s.hp i=U (.box g cs))/\
   ∀B g w,HRel B g s.hp w->∃g',Lk g g'/\HRel B g' s'.hp w/\∀u,eC g .np u->vi g'.dC xs u:=by
  intro s xs s' h;obtain⟨rfl,rfl⟩:=de h;exact⟨rfl,λ_ _ _ h=>h,λB g w R=>⟨g,Lk.refl g,R,λu hc=>hc⟩⟩
 have v:∀x s xs s',(AM.ret x).run s=U (xs,s')->
   s'.env=s.env/\(∀i g cs,look s'.hp i=U (.box g cs)->look s.hp i=U (.box g cs))/\
   ∀B g w,HRel B g s.hp w->∃g',Lk g g'/\HRel B g' s'.hp w/\∀u,eC g (.v .cl x) u->vi g'.dC xs u:=by
  intro x s xs s' h;obtain⟨rfl,rfl⟩:=de h;exact⟨rfl,λ_ _ _ h=>h,λB g w R=>⟨g,Lk.refl g,R,λu hc=>by obtain⟨_,u',e,hx⟩:=hc;simp_all⟩⟩
 induction k with
 |zero=>
  intro c s xs s' h
  cases c with
  |v τ x=>cases τ<;>first|exact v _ _ _ _ h|exact nomatch h
  |np=>exact np _ _ _ h
  |nf=>exact nomatch h
  |nil=>exact nomatch h
  |own _ _=>exact nomatch h
  |ptr _ _ off=>cases off<;>exact nomatch h
  |fn _ _=>exact nomatch h
  |err _=>exact nomatch h
 |succ k ih=>
  intro c s xs s' h
  cases c with
  |v τ x=>cases τ<;>first|exact v _ _ _ _ h|exact nomatch h
  |np=>exact np _ _ _ h
  |nf=>exact nomatch h
  |nil=>exact nomatch h
  |own _ _=>exact nomatch h
  |fn _ _=>exact nomatch h
  |err _=>exact nomatch h
  |ptr id gen off=>
   cases off with
   |succ n=>exact nomatch h
   |zero=>
    simp only[Ur,AM.run]at h;split at h
    ·rename_i g0 x c heq;obtain⟨hb,h'⟩:=eB h;clear h;simp only[aA]at hb;obtain rfl:=beq_eq hb.1;have hid:id<pv:=aR hb.2;obtain⟨ys,t,h1,h2⟩:=AM.dc h';clear h';obtain⟨he,aG7,hs⟩:=ih _ _ _ _ h1;simp only[AM.run]at h2;split at h2
     ·rename_i g1 cs1 aJ6;have e1:=(aG7 _ _ _ aJ6).symm.trans heq
      injection e1 with e1
      injection e1 with ea eb
      subst ea;subst eb;obtain⟨rfl,rfl⟩:=h2;refine⟨he,λi g cs hi=> ?_,λB g w R=> ?_⟩
      ·by_cases ei:id=i
       ·subst ei;simp[dI]at hi
       ·rw[dA _ _ ei]at hi;exact aG7 _ _ _ hi
      ·have ht:=kU R heq;obtain⟨b',o',arr,ty,L,k1,k2,k3,k4,k5,k6,k7⟩:=R.iW _ _ heq;obtain⟨u1,r1,e1,sC,u2,r2,e2,Cx,e3⟩:=k4;subst e3;subst e2;subst e1;obtain⟨g2,l1,R1,ZJ⟩:=hs B g w R;obtain⟨rfl,hlen,_⟩:=k7;have a02:g2.cv id g1= .pointer (U ⟨b',0,az⟩):=(l1.le.cv _ _ ht).trans k1;obtain⟨g3,l2,R2⟩:=R1.QM aJ6 hid a02 k3 (by rw[k5];simp) (ZJ u2 Cx);refine⟨g3,l1.trans l2,R2,λu hc=> ?_⟩;obtain⟨_,b,o,pz,hu⟩:=hc;have hP:vi _ _ _:=R2.iW _ _ (dI _ _ _);have aX0:g3.cv id g1=g.cv id g1:=(l1.trans l2).le.cv _ _ ht;rw[aX0,pz]at hP;subst hu;exact hP
     ·exact nomatch h2
    ·rename_i g0 ys heq;obtain⟨hb,h'⟩:=eB h;clear h;obtain rfl:=beq_eq hb;obtain⟨rfl,rfl⟩:=de h';refine⟨rfl,λ_ _ _ h=>h,λB g w R=>⟨g,Lk.refl g,R,λu hc=> ?_⟩⟩;obtain⟨ht,b,o,pz,hu⟩:=hc;have ZJ:vi _ _ _:=R.iW _ _ heq;rw[pz]at ZJ;subst hu;exact ZJ
    ·exact nomatch h
def Gf (τ) (c) (s) (x) (s') (h:(datum τ c).run s=U (x,s')):
  s'.env=s.env/\∀B g w,HRel B g s.hp w->∃g',Lk g g'/\HRel B g' s'.hp w/\∀u,eC g c u->τ.one=av/\Rc g'.dC τ x [u]:=by
 cases τ with
 |int k=>
  cases c with
  |v τ' x'=>
   cases τ' with
   |int k'=> ?_
   |_=>exact nomatch h
   simp[datum]at h;split at h
   ·rename_i e;subst e;obtain⟨rfl,rfl⟩:=de h;exact⟨rfl,λB g w R=>⟨g,Lk.refl g,R,λu hc=>hc⟩⟩
   ·exact nomatch h
  |_=>exact nomatch h
 |bool=>
  cases c with
  |v τ' x'=>
   cases τ' with
   |bool=> ?_
   |_=>exact nomatch h
   obtain⟨rfl,rfl⟩:=de h;exact⟨rfl,λB g w R=>⟨g,Lk.refl g,R,λu hc=>hc⟩⟩
  |_=>exact nomatch h
 |str=>
  cases c with
  |v τ' x'=>
   cases τ' with
   |str=> ?_
   |_=>exact nomatch h
   obtain⟨rfl,rfl⟩:=de h;exact⟨rfl,λB g w R=>⟨g,Lk.refl g,R,λu hc=>hc⟩⟩
  |_=>exact nomatch h
 |un=>cases c<;>exact nomatch h
 |pr a b=>cases c<;>exact nomatch h
 |cl=>
  obtain⟨he,_,hs⟩:=QI 4 c s x s' h;refine⟨he,λB g w R=> ?_⟩;obtain⟨g',l,R',hc⟩:=hs B g w R;exact⟨g',l,R',λu hu=>⟨rfl,u,rfl,hc u hu⟩⟩
 |sl e=>
  cases c with
  |v τ' x'=>
   cases τ' with
   |sl e'=> ?_
   |_=>exact nomatch h
   obtain⟨ee,hx,rfl⟩:=nX h;subst ee;subst hx;exact⟨rfl,λB g w R=>⟨g,Lk.refl g,R,λu hc=>hc⟩⟩
  |nil=>
   obtain⟨rfl,rfl⟩:=de h;exact⟨rfl,λB g w R=>⟨g,Lk.refl g,R,λu hc=>⟨rfl,az,0,by have hc:_=_:=hc;simp_all,aF _, .inl rfl⟩⟩⟩
  |own id gen=>
   simp only[datum,AM.run]at h;split at h
   ·rename_i g0 τ' deep xs heq;obtain⟨hb,h'⟩:=eB h;obtain rfl:=beq_eq hb;obtain⟨ee,hx,rfl⟩:=nX h';subst ee;subst hx;refine⟨rfl,λB g w R=> ?_⟩;obtain⟨g',l,R'⟩:=R.Jy heq;refine⟨g',l,R',λu hc=>⟨rfl, ?_⟩⟩;have hP:Rc _ _ _ _:=R'.iW _ _ (dI _ _ _);rw[show g'.cv id g0=g.cv id g0 from l.le.cv _ _ (kU R heq)]at hP;rw[hc.2.1];omega
   ·rename_i g0 τ' xs heq;obtain⟨hb,h'⟩:=eB h;clear h;obtain rfl:=beq_eq hb;obtain⟨ee,hx,rfl⟩:=nX h';subst ee;subst hx;refine⟨rfl,λB g w R=>⟨g,Lk.refl g,R,λu hc=>⟨rfl, ?_⟩⟩⟩;have hP:Rc _ _ _ _:=R.iW _ _ heq;rw[hc.2.1];exact hP
   ·exact nomatch h
  |ptr _ _ _=>exact nomatch h
  |np=>exact nomatch h
  |nf=>exact nomatch h
  |fn _ _=>exact nomatch h
  |err _=>exact nomatch h
def Om (τ) (c) (s) (x) (s') (h:(PD τ c).run s=U (x,s')):
  s'.env=s.env/\∀B g w,HRel B g s.hp w->∃g',Lk g g'/\HRel B g' s'.hp w/\∀u,eC g c u->∃nb,Lin g'.iR τ x [u] nb/\nb.Nodup/\∀b∈nb,g'.gV b=U 0/\g.gV b≠U 0:=by
 have none_:∀{g:Gh} {b:Nat},b∈[]->g.gV b=U 0/\g.gV b≠U 0:=λh=>by grind
 cases τ with
 |int k=>
  cases c with
  |v τ' x'=>
   cases τ' with
   |int k'=> ?_
   |_=>exact nomatch h
   simp[PD]at h;split at h
   ·rename_i e;subst e;obtain⟨rfl,rfl⟩:=de h;exact⟨rfl,λB g w R=>⟨g,Lk.refl g,R,λu hc=>⟨[],⟨hc.2,rfl⟩,bf,λb h=>none_ h⟩⟩⟩
   ·exact nomatch h
  |_=>exact nomatch h
 |bool=>
  cases c with
  |v τ' x'=>
   cases τ' with
   |bool=> ?_
   |_=>exact nomatch h
   obtain⟨rfl,rfl⟩:=de h;exact⟨rfl,λB g w R=>⟨g,Lk.refl g,R,λu hc=>⟨[],⟨hc.2,rfl⟩,bf,λb h=>none_ h⟩⟩⟩
  |_=>exact nomatch h
 |str=>
  cases c with
  |v τ' x'=>
   cases τ' with
   |str=> ?_
   |_=>exact nomatch h
   obtain⟨rfl,rfl⟩:=de h;exact⟨rfl,λB g w R=>⟨g,Lk.refl g,R,λu hc=>⟨[],⟨hc.2,rfl⟩,bf,λb h=>none_ h⟩⟩⟩
  |_=>exact nomatch h
 |un=>cases c<;>exact nomatch h
 |pr a b=>cases c<;>exact nomatch h
 |cl=>cases c<;>exact nomatch h
 |sl e=>
  cases c with
  |v τ' x'=>cases τ'<;>exact nomatch h
  |nil=>
   obtain⟨hb,h'⟩:=eB h;obtain⟨rfl,rfl⟩:=de h';exact⟨rfl,λB g w R=>⟨g,Lk.refl g,R,λu hc=>⟨[],⟨hb, .inl ⟨by subst hc;rfl,rfl,rfl⟩⟩,bf,λb h=>none_ h⟩⟩⟩
  |own id gen=>
   simp only[PD,AM.run]at h;split at h
   ·rename_i g0 τ' deep xs heq;obtain⟨hb,h'⟩:=eB h;simp only[aA]at hb;obtain rfl:=beq_eq hb.1;obtain⟨ee,hx,rfl⟩:=nX h';subst ee;subst hx;refine⟨rfl,λB g w R=> ?_⟩;obtain⟨g',nb,l,R',hL,hn,hl⟩:=R.Zg heq hb.2;exact⟨g',l,R',λu hc=>⟨nb,by rw[hc.2.1];exact hL,hn,hl⟩⟩
   ·exact nomatch h
  |ptr _ _ _=>exact nomatch h
  |np=>exact nomatch h
  |nf=>exact nomatch h
  |fn _ _=>exact nomatch h
  |err _=>exact nomatch h
def Got (g:Gh)(mv:Bool)(τ:Ty)(x:τ.den)(us:List Value)(nb:List Nat):Prop:=
 if mv then Lin g.iR τ x us nb/\nb.Nodup/\∀b∈nb,g.gV b=U 0 else Rc g.dC τ x us/\nb=[]
def Got.len (h:Got g mv τ x us nb):us.length=τ.size:=by
 unfold Got at h;split at h
 ·exact h.1.rc.length
 ·exact h.1.length
theorem Got.mono (l:Lk g g'){mv:Bool}{τ:Ty}{x:τ.den}{us:List Value}{nb:List Nat}(h:Got g mv τ x us nb):Got g' mv τ x us nb:=by
 unfold Got at h⊢;split
 ·rename_i e;rw[aj e]at h;exact⟨h.1.mono λb hb L hL=>by rw[(l.kp b (h.2.2 b hb)).2];omega,h.2.1,λb hb=>(l.kp b (h.2.2 b hb)).1⟩
 ·rename_i e;rw[ai e]at h;exact⟨h.1.mono l.le.dC,h.2⟩
def UZ (h1:τ.one=av) (cells):pack mv τ cells=match cells with
  |c::cs=>(bif mv then PD τ c else datum τ c).bind λx=> .ret (x,cs)
  |[]=> .fail:=by
 cases τ<;>first|(simp[Ty.one]at h1;done)|(cases cells<;>rfl)
def IE (mv):∀τ cells s x rest s',(pack mv τ cells).run s=U ((x,rest),s')->
  s'.env=s.env/\∀B g w,HRel B g s.hp w->∃g',Lk g g'/\HRel B g' s'.hp w/\∀us,dG g cells us->
   ∃Ts X8 nb,us=Ts++X8/\Got g' mv τ x Ts nb/\dG g' rest X8/\∀b∈nb,g.gV b≠U 0:=by
 have single:∀τ,τ.one=av->∀cells s x rest s',(pack mv τ cells).run s=U ((x,rest),s')->
  s'.env=s.env/\∀B g w,HRel B g s.hp w->∃g',Lk g g'/\HRel B g' s'.hp w/\∀us,dG g cells us->
   ∃Ts X8 nb,us=Ts++X8/\Got g' mv τ x Ts nb/\dG g' rest X8/\∀b∈nb,g.gV b≠U 0:=by
  intro τ h1 cells s x rest s' h;rw[UZ h1]at h
  cases cells with
  |nil=>exact nomatch h
  |cons c cs=>
   obtain⟨y,t,h2,h3⟩:=AM.dc h;obtain⟨h4,rfl⟩:=de h3
   injection h4 with h4 h5
   subst h4;subst h5
   cases mv with
   |true=>
    obtain⟨he,hs⟩:=Om τ c s _ _ h2;refine⟨he,λB g w R=> ?_⟩;obtain⟨g',l,R',hc⟩:=hs B g w R;refine⟨g',l,R',λus hu=> ?_⟩;obtain⟨u,r,rfl,sC,hr⟩:=hu;obtain⟨nb,a1,a2,a3⟩:=hc u sC;exact⟨[u],r,nb,rfl,⟨a1,a2,λb hb=>(a3 b hb).1⟩,hr.mono l.le,λb hb=>(a3 b hb).2⟩
   |false=>
    obtain⟨he,hs⟩:=Gf τ c s _ _ h2;refine⟨he,λB g w R=> ?_⟩;obtain⟨g',l,R',hc⟩:=hs B g w R;refine⟨g',l,R',λus hu=> ?_⟩;obtain⟨u,r,rfl,sC,hr⟩:=hu;exact⟨[u],r,[],rfl,⟨(hc u sC).2,rfl⟩,hr.mono l.le,λb hb=>by simp_all⟩
 intro τ
 induction τ with
 |int k=>exact single _ rfl
 |bool=>exact single _ rfl
 |str=>exact single _ rfl
 |sl e _=>exact single _ rfl
 |cl=>exact single _ rfl
 |un=>
  intro cells s x rest s' h;obtain⟨h1,rfl⟩:=de h
  injection h1 with h1 h2
  subst h2;refine⟨rfl,λB g w R=>⟨g,Lk.refl g,R,λus hu=>⟨[],us,[],rfl, ?_,hu,λb hb=>by simp at hb⟩⟩⟩;unfold Got;split
  ·exact⟨⟨rfl,rfl⟩,bf,λb hb=>by simp at hb⟩
  ·exact⟨rfl,rfl⟩
 |pr a b EY EW=>
  intro cells s x rest s' h;obtain⟨p,t,h1,h2⟩:=AM.dc h;obtain⟨q,t2,h3,h4⟩:=AM.dc h2;obtain⟨h5,rfl⟩:=de h4
  injection h5 with h5 h6
  subst h5;subst h6;obtain⟨e1,k1⟩:=EY _ _ _ _ _ h1;obtain⟨e2,k2⟩:=EW _ _ _ _ _ h3;refine⟨e2.trans e1,λB g w R=> ?_⟩;obtain⟨g1,l1,R1,c1⟩:=k1 B g w R;obtain⟨g2,l2,R2,c2⟩:=k2 B g1 w R1;refine⟨g2,l1.trans l2,R2,λus hu=> ?_⟩;obtain⟨ua,ub,na,rfl,ga,ra,fa⟩:=c1 us hu;obtain⟨uc,ud,nc,rfl,gc,rc,fc⟩:=c2 ub ra;refine⟨ua++uc,ud,na++nc,by simp, ?_,rc, ?_⟩
  ·have aH6:=ga.mono l2
   cases mv with
   |true=>
    refine⟨⟨ua,uc,na,nc,rfl,rfl,aH6.1,gc.1⟩, ?_,λb hb=> ?_⟩
    ·rw[bw];refine⟨aH6.2.1,gc.2.1,λx hx y hy e=> ?_⟩;subst e;exact fc x hy (ga.2.2 x hx)
    ·rcases aP.1 hb with hb|hb
     ·exact aH6.2.2 b hb
     ·exact gc.2.2 b hb
   |false=>
    exact⟨⟨ua,uc,rfl,aH6.1,gc.1⟩,by rw[aH6.2,gc.2];rfl⟩
  ·intro b hb
   rcases aP.1 hb with hb|hb
   ·exact fa b hb
   ·intro e;exact fc b hb (l1.kp b e).1
def qD:∀{τ:Ty}{x:τ.den}{us:List Value},Rc g.dC τ x us->dG g (unpack τ x) us
 | .int _,_,_,h=>by have h':_=_:=h;subst h';exact⟨_,_,rfl,⟨rfl,h⟩,rfl⟩
 | .bool,_,_,h=>by have h':_=_:=h;subst h';exact⟨_,_,rfl,⟨rfl,h⟩,rfl⟩
 | .str,_,_,h=>by obtain⟨s,e,_⟩:=id h;subst e;exact⟨_,_,rfl,⟨rfl,h⟩,rfl⟩
 | .un,_,_,h=>h
 | .pr _ _,_,_,⟨c1,c2,e,h1,h2⟩=>by subst e;exact(qD h1).append (qD h2)
 | .sl _,_,_,h=>by obtain⟨A,c,e,_⟩:=id h;subst e;exact⟨_,_,rfl,⟨rfl,h⟩,rfl⟩
 | .cl,_,_,h=>by obtain⟨u,e,_⟩:=id h;subst e;exact⟨_,_,rfl,⟨rfl,h⟩,rfl⟩
end Go.Abs
end

section
namespace Go.Abs
open Classical in
noncomputable def Gh.inst (g:Gh)(id gen b:Nat)(u:Value)(nb:List Nat)(out:List Value):Gh:=
  { g with top := fun i => if i = id then gen + 1 else g.top i
           cv:=λi k=>if i=id/\k=gen then u else g.cv i k
           gV:=λx=>if x=b\/x∈nb then U (id+1)else g.gV x
           outer:=λi=>if i=id then out else g.outer i}
structure Free (g:Gh)(hp:List (Nat×Obj))(w:World)(b:Nat):Prop where
 obj:∀i,g.gV b=U (i+1)->∀o,look hp i=U o->∃gen,o= .dead gen
 Zg:g.gV b≠U 0
 dC:g.dC b=az
 iR:g.iR b=az
 new:g.gV b=az->w.heap.size<=b
structure Turned (w w':World)(b:Nat):Prop where
 other:∀x,x≠b->w'.heap[x]?=w.heap[x]?
 size:w.heap.size<=w'.heap.size
 lt:b<w'.heap.size
 os:w'.os=w.os
 tape:w'.tape=w.tape
 output:w'.output=w.output
def HRel.HK (_R:HRel B g hp w){id gen b:Nat}{u:Value}{nb:List Nat}{out:List Value}
  (hg:gen=g.top id):Le g (g.inst id gen b u nb out):=by
 refine⟨λ_ _ h=>h,λi=> ?_,λi k hk=> ?_⟩
 ·show g.top i<=if i=id then gen+1 else g.top i
  grind
 ·show(if i=id/\k=gen then u else g.cv i k)=g.cv i k
  grind
def HRel.install (R:HRel B g hp w){id gen b:Nat}{u:Value}{nb:List Nat}{out:List Value}{o':Obj}
  (hg:gen=g.top id) (hf:Free g hp w b) (hw:Turned w w' b) (Cv:∀x∈nb,g.gV x=U 0) (Ho:o'.gen=gen)
  (XB:rk (g.inst id gen b u nb out) w' id o'):HRel B (g.inst id gen b u nb out) ((id,o')::hp) w':=by
 have hle:=R.HK (b:=b) (u:=u) (nb:=nb) (out:=out) hg;refine⟨λi=> ?_,λi oi hi=> ?_,λx L hx=> ?_,λx L hx=> ?_,λx hx=> ?_,R.mN,λx hx hl hi=> ?_,bn8 R.size hw.size,hw.os.trans R.os,hw.tape.trans R.tape,hw.output.trans R.output,λx L hx=> ?_⟩
 ·show(if i=id then gen+1 else g.top i)=_
  by_cases e:id=i
  ·subst e;rw[dI,aj rfl];simp_all
  ·rw[dA _ _ e,ai λh=>e h.symm];exact R.top i
 ·by_cases e:id=i
  ·simp_all[dI]
  ·rw[dA _ _ e]at hi
   have mL:oi.gen<g.top i:=by rw[R.top i,hi];simp
   by_cases hb:g.gV b=U (i+1)
   ·obtain⟨gn,rfl⟩:=hf.obj i hb oi hi
    trivial
   ·refine(R.iW i oi hi).tr hle (λx hx=> ?_) (by simp only[Gh.inst];grind) mL
    have BM:x≠b:=λe'=>by simp_all
    have Cg:x∉nb:=λhm=>by simp_all
    exact⟨by simp_all[Gh.inst],rfl,hw.other x BM⟩
 ·have hy:g.dC x=U L:=hx;obtain⟨a1,a2,arr,ty,fr,a3,a4⟩:=R.dC x L hy
  have BM:x≠b:=λe=>by rw[e,hf.dC]at hy;grind
  have Cg:x∉nb:=λhm=>by simp_all
  exact⟨by simp_all[Gh.inst],a2,arr,ty,fr,(hw.other x BM).trans a3,a4⟩
 ·have hy:g.iR x=U L:=hx;obtain⟨a1,arr,ty,a3,a4⟩:=R.iR x L hy
  have BM:x≠b:=λe=>by rw[e,hf.iR]at hy;grind
  refine⟨?_,arr,ty,(hw.other x BM).trans a3,a4⟩
  grind [Gh.inst]
 ·by_cases BM:x=b
  ·subst BM;exact hw.lt
  ·by_cases Cg:x∈nb
   ·exact aV (R.iV x (by simp_all)) hw.size
   ·have XC:g.gV x≠none:=by simp_all[Gh.inst]
    exact aV (R.iV x XC) hw.size
 ·obtain⟨f1,f2,f3⟩:=R.frame x hx hl hi
  have BM:x≠b:=λe=>by
   subst e;have:=hf.new f1;simp_all
  have Cg:x∉nb:=λhm=>by simp_all
  exact⟨by simp_all[Gh.inst],f2,(hw.other x BM).trans f3⟩
 ·have BM:x≠b:=λe=>by
   have:=R.mN x L hx;rw[e,hf.dC]at this;grind
  exact(hw.other x BM).trans (R.fix x L hx)
def HRel.uC (R:HRel B g hp w):Free g hp w w.heap.size:=by
 have hl:g.gV w.heap.size=none:=by
  cases h:g.gV w.heap.size with
  |none=>rfl
  |some x=>exact absurd (R.iV _ (by simp_all)) (Nat.lt_irrefl _)
 refine⟨λi h=>absurd (hl.symm.trans h) (by simp),by simp_all, ?_, ?_,λ_=>aF _⟩
 ·cases h:g.dC w.heap.size with
  |none=>rfl
  |some L=>
   obtain⟨_,_,arr,ty,fr,h3,_⟩:=R.dC _ _ h;simp_all
 ·cases h:g.iR w.heap.size with
  |none=>rfl
  |some L=>
   obtain⟨_,arr,ty,h3,_⟩:=R.iR _ _ h;simp_all
open Classical in
theorem HRel.ak3 {B:Base}{g:Gh}{hp:List (Nat×Obj)}{w w':World}(R:HRel B g hp w)(hw:Turned w w' w.heap.size){arr:Array Value}{ty:TypeId}{fr:Nat×Nat}(hb:w'.heap[w.heap.size]?=U (.cells arr ty fr)):
  ∃g',Le g g'/\g'.dC w.heap.size=U arr.toList/\HRel B g' hp w':=by
 have hf:=R.uC
 have hl:g.gV w.heap.size=none:=by
  cases h:g.gV w.heap.size with
  |none=>rfl
  |some x=>exact absurd (R.iV _ (by simp_all)) (Nat.lt_irrefl _)
 let g':Gh:={g with dC:=λb=>if b=w.heap.size then U arr.toList else g.dC b}
 have hle:Le g g':=⟨λb L h=>by
  have:b≠w.heap.size:=λe=>by rw[e,hf.dC]at h;cases h
  grind,λ_=>aF _,λ_ _ _=>rfl⟩
 refine⟨g',hle,by grind,⟨R.top,λi o hi=> ?_,λb L h=> ?_,λb L h=> ?_,λb h=>aV (R.iV b h) hw.size,λb L h=>hle.dC _ _ (R.mN b L h),λb h1 h2 h3=> ?_,bn8 R.size hw.size,hw.os.trans R.os,hw.tape.trans R.tape,hw.output.trans R.output,λb L h=> ?_⟩⟩
 ·refine(R.iW i o hi).tr hle (λx hx=>⟨hx,rfl,hw.other x λe=> ?_⟩) rfl (by rw[R.top i,hi];simp);simp_all
 ·by_cases e:b=w.heap.size
  ·subst e;have h:(if w.heap.size=w.heap.size then U arr.toList else g.dC w.heap.size)=U L:=h;rw[aj rfl]at h
   injection h with h
   exact⟨hl,hf.iR,arr,ty,fr,hb,h⟩
  ·have h:g.dC b=U L:=by grind
   obtain⟨a1,a2,pT,ER,bi4,a3,a4⟩:=R.dC b L h;exact⟨a1,a2,pT,ER,bi4,(hw.other b e).trans a3,a4⟩
 ·obtain⟨a1,pT,ER,a3,a4⟩:=R.iR b L h
  have e:b≠w.heap.size:=λe=>by simp_all
  exact⟨a1,pT,ER,(hw.other b e).trans a3,a4⟩
 ·obtain⟨f1,f2,f3⟩:=R.frame b h1 h2 h3
  have e:b≠w.heap.size:=λe=>by simp_all
  exact⟨f1,by grind,(hw.other b e).trans f3⟩
 ·have h':=R.mN b L h
  have e:b≠w.heap.size:=λe=>by rw[e,hf.dC]at h';grind
  exact(hw.other b e).trans (R.fix b L h)
def World.more (w:World)(o:Go.Obj):World:={w with heap:=w.heap.push o}
def zy (w) (o):Turned w (World.more w o) w.heap.size:=by
 refine⟨λx hx=> ?_,by simp[World.more],by simp[World.more],rfl,rfl,rfl⟩;simp only[World.more,bp5];rw[ai hx]
def Ex (w) (o):(World.more w o).heap[w.heap.size]?=U o:=by
 show(w.heap.push _)[w.heap.size]?=_;simp
def nP {id gen:Nat}(R:HRel B g s.hp w)(h:(lr id).run s=U (gen,s')):gen=g.top id/\s'=s:=by
 simp only[lr,AM.run]at h;rw[R.top id]
 cases hl:look s.hp id with
 |none=>rw[hl]at h;obtain⟨rfl,rfl⟩:=de h;simp
 |some o=>rw[hl]at h;cases o<;>first|(obtain⟨rfl,rfl⟩:=de h;simp)|cases h
theorem sx {id gen:Nat}(h:(lr id).run s=U (gen,s')):s'=s/\∀gn cs,look s.hp id≠U (.lZ gn cs):=by
 simp only[lr,AM.run]at h
 cases hl:look s.hp id with
 |none=>rw[hl]at h;obtain⟨rfl,rfl⟩:=de h;simp
 |some o=>rw[hl]at h;cases o<;>first|(obtain⟨rfl,rfl⟩:=de h;simp)|cases h
end Go.Abs
end

section
namespace Go.Abs
def CH (h:FI u=U c) (g):eC g c u:=by
 cases u with
 |int k n=>injection h with h;subst h;exact⟨rfl,rfl⟩
 |bool b=>injection h with h;subst h;exact⟨rfl,rfl⟩
 |string s=>injection h with h;subst h;exact⟨rfl,s,rfl,rfl⟩
 |slice a n m=>
  cases a with
  |none=>cases n<;>cases m<;>first|(injection h with h;subst h;rfl)|cases h
  |some a=>cases h
 |pointer a=>cases a<;>first|(injection h with h;subst h;rfl)|cases h
 |nilIface=>injection h with h;subst h;exact .inl ⟨rfl,rfl⟩
 |float k b=>cases h
 |complex k a b=>cases h
 |map r=>cases h
 |chan r=>cases h
 |func f a b=>cases h
 |nilFunc=>injection h with h;subst h;rfl
 |iface t v=>cases h
 |agg cs=>cases h
 |tuple vs=>cases h
theorem sM:∀{us:List Value}{cs:List Cell},w9 us=U cs->∀g,dG g cs us
 |[],_,h,_=>by injection h with h;subst h;rfl
 |u::r,_,h,g=>by
  simp only[w9,bn,bj]at h;obtain⟨c,hc,cs,P5,rfl⟩:=h;exact⟨u,r,rfl,CH hc g,sM P5 g⟩
def DZ (h:Bn u=U v) (g):iL g v u:=by
 cases u with
 |agg cs=>
  simp[Bn]at h;obtain⟨F5,h1,rfl⟩:=h;exact⟨cs.toList,by simp,sM h1 g⟩
 |_=>
  simp[Bn]at h;obtain⟨c,h1,rfl⟩:=h;exact CH h1 g
def sQ (h:(ev x).run s=U (sl,s')):s'=s/\∀{g:Gh}{a:Act},j6 g s.env a->gT g sl (a.eval x):=by
 cases x with
 |tmp t=>
  simp only[ev,AM.run]at h;split at h
  ·rename_i y hy;obtain⟨rfl,rfl⟩:=h;exact⟨rfl,λV=>V t _ hy⟩
  simp_all
 |const u=>
  simp[ev]at h;split at h
  ·rename_i c hc;obtain⟨rfl,rfl⟩:=de h;exact⟨rfl,λ_=>DZ hc _⟩
  ·cases h
 |global k=>obtain⟨rfl,rfl⟩:=de h;exact⟨rfl,λ_=>rfl⟩
 |func f=>obtain⟨rfl,rfl⟩:=de h;exact⟨rfl,λ_=>⟨[],rfl,rfl⟩⟩
def xK (h:(PG sl).run s=U (v,s')):sl= .val v/\s'=s:=by
 cases sl<;>try(cases h;done)
 obtain⟨rfl,rfl⟩:=de h;simp
def gi (h:(evV x).run s=U (v,s')):s'=s/\∀{g:Gh}{a:Act},j6 g s.env a->iL g v (a.eval x):=by
 obtain⟨sl,t,h1,h2⟩:=AM.dc h;obtain⟨rfl,hs⟩:=sQ h1;obtain⟨rfl,rfl⟩:=xK h2;exact⟨rfl,hs⟩
def qO:∀{xs:List Operand}{s s':St}{vs:List Val},(Dw xs).run s=U (vs,s')->s'=s/\∀{g:Gh}{a:Act},j6 g s.env a->ju g vs (xs.map a.eval)
 |[],_,_,_,h=>by obtain⟨rfl,rfl⟩:=de h;exact⟨rfl,λ_=>rfl⟩
 |x::r,_,_,_,h=>by
  obtain⟨v,t,h1,h2⟩:=AM.dc h;obtain⟨vs,t2,h3,h4⟩:=AM.dc h2;obtain⟨rfl,rfl⟩:=de h4;obtain⟨rfl,k1⟩:=gi h1;obtain⟨rfl,k2⟩:=qO h3;exact⟨rfl,λV=>⟨_,_,rfl,k1 V,k2 V⟩⟩
def oN (h:(asInt v).run s=U (n,s')):(∃k,v= .one (.v (.int k) n))/\s'=s:=by
 cases v with
 |agg cs=>cases h
 |one c=>
  cases c<;>try(cases h;done)
  rename_i τ x
  cases τ<;>try(cases h;done)
  rename_i k;obtain⟨rfl,rfl⟩:=de h;simp
def D7 (h:(asBool v).run s=U (b,s')):v= .one (.v .bool b)/\s'=s:=by
 cases v with
 |agg cs=>cases h
 |one c=>
  cases c<;>try(cases h;done)
  rename_i τ x
  cases τ<;>try(cases h;done)
  obtain⟨rfl,rfl⟩:=de h;simp
def yQ (h:(one v).run s=U (c,s')):v= .one c/\s'=s:=by
 cases v with
 |agg cs=>cases h
 |one c'=>obtain⟨rfl,rfl⟩:=de h;simp
def lk (h:eC g (.v (.int k) n) u):u= .int k n:=by
 have h':_=_:=h.2;simp_all
def qF (h:eC g (.v .bool b) u):u= .bool b:=by
 have h':_=_:=h.2;simp_all
def sT {l:List Int}(h:eC g (.v .str l) u):∃s,u= .string s/\l=bytesOf s:=by
 obtain⟨_,s,e,h⟩:=h;simp_all
def zL (g) (k) (n):gT g (wi k n) (.int k n):=⟨rfl,rfl⟩
def yi (g) (b):gT g (wb b) (.bool b):=⟨rfl,rfl⟩
theorem Rw (g) (s):gT g (ws (bytesOf s)) (.string s):=⟨rfl,s,rfl,rfl⟩
def iw (s):(bytesOf s).length=s.size:=by simp[bytesOf]
def CN:∀{a b:List UInt8},(a.map λb=>(b.toNat:Int))=b.map (λb=>(b.toNat:Int))->a=b
 |[],[],_=>rfl
 |[],_::_,h=>by grind
 |_::_,[],h=>by grind
 |x::a,y::b,h=>by
  simp at h;have e:x.toNat=y.toNat:=(by omega);rw[UInt8.toNat_inj.1 e,CN h.2]
theorem Ov (h:bytesOf a=bytesOf b):a=b:=by
 have h2:a.data.toList=b.data.toList:=CN h;cases a;simp_all
theorem H0 (a b):bytesOf (a++b)=bytesOf a++bytesOf b:=by
 simp_all[bytesOf,ByteArray.data_append]
def ye (a b):(a.toList==b.toList)=I (bytesOf a=bytesOf b):=by
 grind [ByteArray.toList_eq,bytesOf,Ov,aa]
def SD (x y:Int):(x==y)=I (x=y):=by rfl
def Mi (h:(Ru op k k' m n).run s=U (sl,s')):
    s'=s/\∃v,((do eqGuard op t x y (.int k m) (.int k' n);bn3 op t (.int k m) (.int k' n)):Sem Value).run P w= .ok v w/\∀g,gT g sl v:=by
  rw[eqGuard_at_int];cases op<;>simp only[Ru]at h
  case shr=>
    obtain⟨hb,h⟩:=pZ h;obtain⟨rfl,rfl⟩:=de h
    have h0:0<=n:=by simp_all
    refine⟨rfl, .int k (m.fdiv (2^min n.toNat k.bits)), ?_,λg=>zL g k _⟩;have:¬ n<0:=(by omega);simp[bn3,Op.shift,this]
  case shl=>
    obtain⟨hb,h⟩:=pZ h;obtain⟨rfl,rfl⟩:=de h
    have h0:0<=n:=by simp_all
    refine⟨rfl, .int k (k.wrap (m*2^min n.toNat k.bits)), ?_,λg=>zL g k _⟩;have:¬ n<0:=(by omega);simp[bn3,Op.shift,this]
  all_goals
    split at h
    case isFalse=>cases h
    case isTrue e=>
      subst e
      first
        | (obtain⟨rfl,rfl⟩:=de h
           first
             | (refine⟨rfl,_, ?_,λg=>zL g k _⟩
                simp_all[bn3,Op.intArith,Op.intBits,intBits])
             | (refine⟨rfl,_, ?_,λg=>yi g _⟩
                simp_all[bn3,Op.intCmp,bne,SD]))
        | (obtain⟨hb,h⟩:=pZ h
           obtain⟨rfl,rfl⟩:=de h
           have h0:¬ n=0:=by simp_all
           refine⟨rfl,_, ?_,λg=>zL g k _⟩
           simp[bn3,Op.intDiv,h0])
        |cases h
def Mo (h:(Ng op (bytesOf a) (bytesOf b)).run s=U (sl,s')):
  s'=s/\∃v,((do eqGuard op t x y (.string a) (.string b);bn3 op t (.string a) (.string b)):Sem Value).run P w= .ok v w/\∀g,gT g sl v:=by
 rw[eqGuard_at_string]
 cases op<;>simp[Ng]at h<;>try(cases h;done)
 case add=>
  obtain⟨hb,h⟩:=pZ h;obtain⟨rfl,rfl⟩:=de h;have h0:(bytesOf a).length+(bytesOf b).length<=lim:=aR hb;rw[iw,iw]at h0;unfold lim at h0;refine⟨rfl, .string (a++b), ?_,λg=>by grind [H0,Rw]⟩;have h1:¬ (((a.size+b.size):Int)>9223372036854775807):=(by omega);simp_all[bn3,Op.stringOp,ai]
 case eql=>
  obtain⟨rfl,rfl⟩:=de h;refine⟨rfl,_, ?_,λg=>yi g _⟩;simp_all[ye,bn3,Op.stringOp]
 case neq=>
  obtain⟨rfl,rfl⟩:=de h;refine⟨rfl,_, ?_,λg=>yi g _⟩;simp_all[ye,bn3,Op.stringOp]
def vz (h:(FJ op b).run s=U (sl,s')):s'=s/\((op= .eql/\sl=wb b)\/(op= .neq/\sl=wb (!b))):=by
 cases op<;>simp[FJ]at h<;>try(cases h;done)
 ·obtain⟨rfl,rfl⟩:=de h;simp
 ·obtain⟨rfl,rfl⟩:=de h;simp
def Nu {xs:List Int}(h:eC g (.v .cl xs) u):(xs=[]/\u= .pointer az)\/(xs≠[]/\∃b,u= .pointer (U ⟨b,0,az⟩)):=by
 obtain⟨_,u',e,hx⟩:=h
 injection e with e
 subst e
 cases xs with
 |nil=>exact .inl ⟨rfl,hx⟩
 |cons y ys=>obtain⟨b,p,e,_⟩:=hx;simp_all
def OQ (hi:(∃k,P.underlying t=U (.int k))\/P.underlying t=U .bool\/P.underlying t=U .string)
  (hu:cs[off]?=U u):(part t cs off).run P w= .ok u w:=by
 have:(isAgg t).run P w= .ok aq w:=by
  rcases hi with⟨k,h⟩|h|h<;>simp[Go.isAgg,run_underlying h]
 simp_all[part]
def Ik:∀{fs:List Field}{n:Nat}{a b:List Cell}{us vs:List Value}{xs ys:Array Value}{r:Bool},
  qy P fs a n=av->ox a b=U r->dG g a us->dG g b vs->(∀i u,us[i]?=U u->xs[n+i]?=U u)->(∀i u,vs[i]?=U u->ys[n+i]?=U u)->
  (Op.eqFields (d+1) xs ys fs).run P w= .ok r w:=by
 intro fs
 induction fs with
 |nil=>
  intro n a b us vs xs ys r hp he hu hv hx hy
  cases a with
  |cons c cs=>simp[qy]at hp
  |nil=>cases b with
   |nil=>simp[ox]at he;subst he;rfl
   |cons c cs=>grind [ox]
 |cons f fs ih=>
  intro n a b us vs xs ys r hp he hu hv hx hy
  cases a with
  |nil=>simp[qy]at hp
  |cons c a=>
  cases c with
  |v τ x=> ?_
  |_=>simp[qy]at hp
  simp only[qy,aA]at hp;obtain⟨⟨⟨h1,h2⟩,h3⟩,h4⟩:=hp;have ho:f.offset=n:=beq_eq h1
  have hn:f.name≠ "_" :=by simp_all
  obtain⟨u,Qj,rfl,sC,Cx⟩:=hu
  cases b with
  |nil=>simp_all[ox]
  |cons c' b=>
  obtain⟨v,aO2,rfl,ay4,aW3⟩:=hv
  have key:∀q,((∃k,P.underlying f.type=U (.int k))\/P.underlying f.type=U .bool\/P.underlying f.type=U .string)->
    (bq3 (d+1) f.type u v).run P w= .ok q w->∀r',ox a b=U r'->r=(q&&r')->(Op.eqFields (d+1) xs ys (f::fs)).run P w= .ok r w:=by
   intro q ht hq r' UO e;have e1:(part f.type xs f.offset).run P w= .ok u w:=OQ ht (by rw[ho];exact hx 0 u rfl);have e2:(part f.type ys f.offset).run P w= .ok v w:=OQ ht (by rw[ho];exact hy 0 v rfl);have bf5:=ih (xs:=xs) (ys:=ys) h4 UO Cx aW3 (λi u hi=>by have:=hx (i+1) u (by simpa using hi);rwa[show n+(i+1)=n+1+i from by omega]at this) (λi u hi=>by have:=hy (i+1) u (by simpa using hi);rwa[show n+(i+1)=n+1+i from by omega]at this);unfold Op.eqFields;rw[aj hn];simp[e1,e2,hq];subst e
   cases q with
   |false=>simp
   |true=>simpa using bf5
  cases c' with
  |v τ' x'=> ?_
  |_=>cases τ<;>simp[ox]at he
  split at h3
  ·rename_i k0 k1 hk
   cases τ'<;>try(simp[ox]at he;done)
   rename_i k2;simp only[ox]at he;split at he
   case isFalse=>cases he
   rename_i ek;subst ek;simp only[bj]at he;obtain⟨r',UO,e⟩:=he;have Sc:=lk sC;have ay5:=lk ay4;subst Sc;subst ay5;exact key _ (.inl ⟨_,hk⟩) (run_equalIn_int w d f.type _ _ _ _ hk) r' UO (by rw[<-e,SD])
  ·rename_i hk
   cases τ'<;>try(simp[ox]at he;done)
   simp only[ox,bj]at he;obtain⟨r',UO,e⟩:=he;have Sc:=qF sC;have ay5:=qF ay4;subst Sc;subst ay5;exact key _ (.inr (.inl hk)) (run_equalIn_bool' w d f.type _ _ hk) r' UO (by rw[<-e];congr 1)
  ·rename_i hk
   cases τ'<;>try(simp[ox]at he;done)
   simp only[ox,bj]at he;obtain⟨r',UO,e⟩:=he;obtain⟨su,Sc,ru⟩:=sT sC;obtain⟨sv,ay5,rv⟩:=sT ay4;subst Sc;subst ay5;exact key _ (.inr (.inr hk)) (run_equalIn_string w d f.type _ _ hk) r' UO (by rw[<-e,ye,ru,rv])
  simp_all
def Ou (h:(binOp E op t va vb).run s=U (sl,s')):
  s'=s/\∀{g:Gh} {u1 u2:Value} {w:World},iL g va u1->iL g vb u2->∃v,((do eqGuard op t x y u1 u2;bn3 op t u1 u2):Sem Value).run E.P w= .ok v w/\gT g sl v:=by
 unfold binOp at h;split at h
 ·rename_i k m k' n
  have hs:=λw=>Mi (P:=E.P) (w:=w) (t:=t) (x:=x) (y:=y) h
  refine⟨(hs default).1,λ{g u1 u2 w} r1 r2=> ?_⟩;have e1:=lk r1;have e2:=lk r2;subst e1;subst e2;obtain⟨v,hv,hr⟩:=(hs w).2;simp_all
 ·rename_i l m
  have hs:s'=s:=by
   cases op<;>simp[Ng]at h<;>try(cases h;done)
   ·exact(de (pZ h).2).2
   all_goals grind [de]
  refine⟨hs,λ{g u1 u2 w} r1 r2=> ?_⟩;obtain⟨s1,e1,l1⟩:=sT r1;obtain⟨s2,e2,l2⟩:=sT r2;subst e1;subst e2;subst l1;subst l2;obtain⟨_,v,hv,hr⟩:=Mo (P:=E.P) (w:=w) (t:=t) (x:=x) (y:=y) h;simp_all
 ·rename_i b c;split at h
  ·rename_i ht;obtain⟨rfl,he⟩:=vz h;refine⟨rfl,λ{g u1 u2 w} r1 r2=> ?_⟩;have e1:=qF r1;have e2:=qF r2;subst e1;subst e2;rw[eqGuard_at_bool];have e0:(b==c)=I (b=c):=(by rfl)
   rcases he with⟨rfl,rfl⟩|⟨rfl,rfl⟩
   all_goals simp_all[yi,run_equalIn_bool',bn3,Op.equal,Op.maxDepth]
  ·cases h
 ·rename_i xs;split at h
  ·rename_i te ht;obtain⟨rfl,he⟩:=vz h;refine⟨rfl,λ{g u1 u2 w} r1 r2=> ?_⟩;have e2:u2= .pointer none:=r2;subst e2
   have hq:∀d,(bq3 (d+1) t u1 (.pointer az)).run E.P w= .ok (List.isEmpty (α:=Int) xs) w:=λd=>by
    rcases Nu r1 with⟨e,e1⟩|⟨e,b,e1⟩
    ·rw[e];subst e1;simp[bq3,run_underlying ht]
    ·have e2:List.isEmpty (α:=Int) xs=false:=by
      have:xs≠[]:=e
      generalize xs=ys at this
      cases ys<;>simp_all
     rw[e2];subst e1;simp[bq3,run_underlying ht]
   have hq2:=hq 9999
   have hg:eqGuard op t x y u1 (.pointer az)=pure ():=by
    rcases Nu r1 with⟨_,e1⟩|⟨_,b,e1⟩<;>subst e1<;>exact eqGuard_at_pointer ..
   rw[hg]
   have sC:∃a,u1= .pointer a:=by rcases Nu r1 with⟨_,e1⟩|⟨_,b,e1⟩<;>exact⟨_,e1⟩
   obtain⟨a,rfl⟩:=sC
   rcases he with⟨rfl,rfl⟩|⟨rfl,rfl⟩
   all_goals simp_all[bn3,Op.equal,Op.maxDepth,yi]
  ·cases h
 ·rename_i a b;split at h
  ·rename_i fs r ht hr;obtain⟨hb,h'⟩:=eB h;clear h;simp at hb;obtain⟨⟨h1,h2⟩,h3⟩:=hb;obtain⟨rfl,he⟩:=vz h';refine⟨rfl,λ{g u1 u2 w} r1 r2=> ?_⟩;obtain⟨us,e1,hu⟩:=r1;obtain⟨vs,e2,hv⟩:=r2;subst e1;subst e2
   have hf:E.P.fieldsOf t=fs:=by unfold Program.fieldsOf;rw[ht]
   have hq:(bq3 10000 t (.agg us.toArray) (.agg vs.toArray)).run E.P w= .ok r w:=by
    rw[run_equalIn_agg w 9999 t _ _ (by rw[hf];exact ht) h1,hf];exact Ik h3 hr hu hv (λi u hi=>by simpa using hi) (λi u hi=>by simpa using hi)
   have hg:=run_eqGuard_agg (P:=E.P) w op t x y us.toArray vs.toArray h2
   rcases he with⟨rfl,rfl⟩|⟨rfl,rfl⟩
   ·refine⟨_, ?_,yi g _⟩;simp[hg,run_eql_struct,hq]
   ·refine⟨_, ?_,yi g _⟩;simp[hg,run_neq_struct,hq]
  ·cases h
 ·cases h
def Mc (h:(Q9 E op t va).run s=U (sl,s')):
  s'=s/\∀{g:Gh} {u1:Value} {w:World},iL g va u1->∃v,((do eqGuard op t x (.const .nilIface) u1 .nilIface;bn3 op t u1 .nilIface):Sem Value).run E.P w= .ok v w/\gT g sl v:=by
 unfold Q9 at h;split at h
 ·rename_i b;split at h
  ·rename_i ms ht;obtain⟨rfl,he⟩:=vz h;refine⟨rfl,λ{g u1 w} r1=> ?_⟩
   rcases r1 with⟨rfl,rfl⟩|⟨rfl,tv,v,rfl⟩
   ·rw[eqGuard_nil_constR]
    have at2:∀d,(bq3 (d+1) t .nilIface .nilIface).run E.P w= .ok av w:=λd=>by simp[bq3,run_underlying ht]
    rcases he with⟨rfl,rfl⟩|⟨rfl,rfl⟩
    all_goals simp_all[bn3,Op.equal,Op.maxDepth,yi]
   ·rw[eqGuard_at_iface]
    have at2:∀d,(bq3 (d+1) t (.iface tv v) .nilIface).run E.P w= .ok aq w:=λd=>by simp[bq3,run_underlying ht]
    rcases he with⟨rfl,rfl⟩|⟨rfl,rfl⟩
    all_goals simp_all[bn3,Op.equal,Op.maxDepth,yi]
  ·cases h
 ·cases h
end Go.Abs
end

section
namespace Go.Abs
def Yld (E:Env)(op:Op)(s:St)(sl:Slot)(s':St):Prop:=
 s'.env=s.env/\∀o,o.op=op->∀B g a w,HRel B g s.hp w->j6 g s.env a->
  ∃v w' g',(execOp a.eval o).run E.P w= .ok (.value v) w'/\Le g g'/\HRel B g' s'.hp w'/\gT g' sl v
theorem ic (h:x.run P w= .ok v w'):((do pure (.value (<-x))):Sem Next).run P w= .ok (.value v) w':=by
 simp[h]
def Yld.still (h:∀o,o.op=op->∀B g a w,HRel B g s.hp w->j6 g s.env a->∃v,(execOp a.eval o).run E.P w= .ok (.value v) w/\gT g sl v):Yld E op s sl s:=
 ⟨rfl,λo ho B g a w R V=>by grind [Le.refl]⟩
def IP (h:(ev x).run s=U (sl,s')):Yld E (.move x) s sl s'/\Yld E (.assign x) s sl s':=by
 obtain⟨rfl,hr⟩:=sQ h;exact⟨.still λo ho B g a w R V=>⟨a.eval x,by simp_all[execOp],hr V⟩, .still λo ho B g a w R V=>⟨a.eval x,by simp_all[execOp],hr V⟩⟩
def Q1 (h:(iT E d (.pick c x y)).run s=U (sl,s')):Yld E (.pick c x y) s sl s':=by
 obtain⟨v,t,h1,h2⟩:=AM.dc h;obtain⟨b,t2,h3,h4⟩:=AM.dc h2;obtain⟨rfl,r1⟩:=gi h1;obtain⟨rfl,rfl⟩:=D7 h3
 rcases Q4 h4 with⟨rfl,h5⟩|⟨rfl,h5⟩
 ·obtain⟨rfl,r2⟩:=sQ h5
  refine .still λo ho B g a w R V=>⟨a.eval x, ?_,r2 V⟩
  have e:=qF (r1 V);simp_all[execOp,Go.asBool]
 ·obtain⟨rfl,r2⟩:=sQ h5
  refine .still λo ho B g a w R V=>⟨a.eval y, ?_,r2 V⟩
  have e:=qF (r1 V);simp_all[execOp,Go.asBool]
def T4 (h:(iT E d (.binOp op t x y ty)).run s=U (sl,s')):Yld E (.binOp op t x y ty) s sl s':=by
 obtain⟨va,t1,h1,h2⟩:=AM.dc h;obtain⟨rfl,r1⟩:=gi h1;split at h2
 ·obtain⟨rfl,hr⟩:=Mc (x:=x) h2
  refine .still λo ho B g a w R V=> ?_
  obtain⟨v,e,hs⟩:=hr (w:=w) (r1 V);refine⟨v, ?_,hs⟩;unfold execOp;rw[ho];exact ic e
 ·obtain⟨vb,t2,h3,h4⟩:=AM.dc h2;obtain⟨rfl,r2⟩:=gi h3;obtain⟨rfl,hr⟩:=Ou (x:=x) (y:=y) h4
  refine .still λo ho B g a w R V=> ?_
  obtain⟨v,e,hs⟩:=hr (w:=w) (r1 V) (r2 V)
  grind [execOp,ic]
def TF (h:(iT E d (.unOp .not t x)).run s=U (sl,s')):Yld E (.unOp .not t x) s sl s':=by
 obtain⟨v,t,h1,h2⟩:=AM.dc h;obtain⟨b,t2,h3,h4⟩:=AM.dc h2;obtain⟨rfl,r1⟩:=gi h1;obtain⟨rfl,rfl⟩:=D7 h3;obtain⟨rfl,rfl⟩:=de h4
 refine .still λo ho B g a w R V=>⟨.bool !b, ?_,yi g _⟩
 have e:=qF (r1 V);simp_all[execOp,Op.unary]
def TX (h:(iT E d (.unOp .neg t x)).run s=U (sl,s')):Yld E (.unOp .neg t x) s sl s':=by
 obtain⟨v,t,h1,h2⟩:=AM.dc h;obtain⟨rfl,r1⟩:=gi h1;split at h2
 ·rename_i k n;obtain⟨rfl,rfl⟩:=de h2
  refine .still λo ho B g a w R V=>⟨.int k (k.wrap (0 - n)), ?_,zL g k _⟩
  have e:=lk (r1 V);simp_all[execOp,Op.unary,Op.intArith]
 ·cases h2
def HV (h:(iT E d (.nilCheck x)).run s=U (sl,s')):Yld E (.nilCheck x) s sl s':=by
 obtain⟨s1,t,h1,h2⟩:=AM.dc h;obtain⟨rfl,r1⟩:=sQ h1;unfold nilCheck at h2;split at h2
 ·obtain⟨rfl,rfl⟩:=de h2
  refine .still λo ho B g a w R V=>⟨a.eval x, ?_,r1 V⟩
  obtain⟨_,b,o',_,e⟩:=r1 V;simp_all[execOp]
 ·obtain⟨rfl,rfl⟩:=de h2
  refine .still λo ho B g a w R V=>⟨a.eval x, ?_,r1 V⟩
  obtain⟨vs,e,_⟩:=r1 V;simp_all[execOp]
 ·rename_i xs;obtain⟨hb,h3⟩:=pZ h2;obtain⟨rfl,rfl⟩:=de h3
  refine .still λo ho B g a w R V=>⟨a.eval x, ?_,r1 V⟩
  rcases Nu (r1 V)with⟨e,_⟩|⟨_,b,e⟩
  all_goals simp_all[execOp]
 ·cases h2
def KD (h:(iT E d (.extract x i)).run s=U (sl,s')):Yld E (.extract x i) s sl s':=by
 obtain⟨s1,t,h1,h2⟩:=AM.dc h;obtain⟨rfl,r1⟩:=sQ h1;split at h2
 ·rename_i vs;obtain⟨v,t2,h3,h4⟩:=AM.dc h2;obtain⟨hv,rfl⟩:=fL h3;obtain⟨rfl,rfl⟩:=de h4
  refine .still λo ho B g a w R V=> ?_
  obtain⟨us,e,hu⟩:=r1 V
  have key:∀{vs:List Val} {us:List Value} {i:Nat} {v:Val},ju g vs us->vs[i]?=U v->∃u,us[i]?=U u/\iL g v u:=by
   intro vs
   induction vs with
   |nil=>simp
   |cons c cs ih=>
    intro us i v ⟨u,r,e,hu,hr⟩ h
    grind
  obtain⟨u,sC,Cx⟩:=key hu hv;refine⟨u, ?_,Cx⟩;simp_all[execOp,Instr.extract]
 ·cases h2
theorem QV:∀{vs:List Val}{cs:List (Nat×Nat)}{us:List Value},Bq vs=U cs->ju g vs us->xg g cs us:=by
 intro vs
 induction vs with
 |nil=>
  intro cs us hc hv;simp[Bq]at hc;subst hc;exact hv
 |cons c vs ih=>
  intro cs us hc hv;obtain⟨u,r,e,hu,hr⟩:=hv
  cases c with
  |agg cs=>grind [Bq]
  |one c=>
   cases c with
   |ptr id gen off=>
    cases off with
    |succ n=>simp[Bq]at hc
    |zero=>
     simp[Bq]at hc;obtain⟨F5,ZF,rfl⟩:=hc;obtain⟨ht,b,o,pz,hu⟩:=hu;exact⟨b,o,r,by simp_all,ht,pz,ih ZF hr⟩
   |_=>grind [Bq]
def Ia {first nv:Array Operand}(h:(iT E d (.makeFunc f first nv)).run s=U (sl,s')):Yld E (.makeFunc f first nv) s sl s':=by
 cases f with
 |func f=> ?_
 |_=>cases h
 obtain⟨hb,h⟩:=eB h;obtain⟨vs,t,h1,h2⟩:=AM.dc h;obtain⟨cs,t2,h3,h4⟩:=AM.dc h2;obtain⟨rfl,r1⟩:=qO h1;obtain⟨hc,rfl⟩:=fL h3;obtain⟨rfl,rfl⟩:=de h4
 refine .still λo ho B g a w R V=>⟨.func (.func f) #[] (nv.toList.map a.eval).toArray, ?_,nv.toList.map a.eval,rfl, ?_⟩
 ·unfold execOp;rw[ho]
  have e:first=#[]:=by simp_all
  simp only[e,Instr.makeFunc];cases nv;simp
 grind [QV]
def CJ (h:(Hu c).run s=U (n,s')):s'=s/\∀{B:Base}{g:Gh}{w:World}{u:Value},HRel B g s.hp w->eC g c u->
  (c.isStr=av/\∃st,u= .string st/\st.size=n)\/(c.isStr=aq/\∃A cap,u= .slice A n cap/\(0<n->∃b o,A=U ⟨b,o,az⟩)):=by
 cases c with
 |v τ x=>
  cases τ with
  |str=>
   obtain⟨rfl,rfl⟩:=de h;refine⟨rfl,λR hc=> ?_⟩;obtain⟨st,e,l⟩:=sT hc;exact .inl ⟨rfl,st,e,by rw[l,iw]⟩
  |sl e=>
   obtain⟨rfl,rfl⟩:=de h;refine⟨rfl,λR hc=> ?_⟩;obtain⟨_,A,cap,e,_,hx⟩:=hc
   injection e with e
   refine .inr ⟨rfl,A,cap,e,λhn=> ?_⟩
   grind
  |_=>cases h
 |nil=>
  obtain⟨rfl,rfl⟩:=de h;exact⟨rfl,λR hc=> .inr ⟨rfl,az,0,hc,λhn=>absurd hn (by simp)⟩⟩
 |own id gen=>
  simp only[Hu,AM.run]at h;split at h
  ·rename_i g0 τ dp xs heq;obtain⟨hb,h'⟩:=eB h;obtain rfl:=beq_eq hb;obtain⟨rfl,rfl⟩:=de h';refine⟨rfl,λR hc=> ?_⟩
   rcases R.iW _ _ heq with⟨e1,e2⟩|⟨b,cap,arr,ty,e1,_⟩
   ·subst e2;exact .inr ⟨rfl,az,0,hc.2.1.trans e1,λhn=>absurd hn (by simp)⟩
   ·exact .inr ⟨rfl,_,cap,hc.2.1.trans e1,λ_=>⟨b,0,rfl⟩⟩
  ·rename_i g0 τ xs heq;obtain⟨hb,h'⟩:=eB h;obtain rfl:=beq_eq hb;obtain⟨rfl,rfl⟩:=de h';refine⟨rfl,λR hc=> ?_⟩;obtain⟨A,cap,e,_,hx⟩:=R.iW _ _ heq
   injection e with e
   refine .inr ⟨rfl,A,cap,hc.2.1.trans e,λhn=> ?_⟩
   grind
  ·rename_i g0 xs a ag bid bg off heq;obtain⟨hb,h'⟩:=eB h;obtain rfl:=beq_eq hb;obtain⟨rfl,rfl⟩:=de h';refine⟨rfl,λR hc=> ?_⟩;obtain⟨_,_,_,⟨_,e1,e2⟩|⟨bb,oo,_,_,⟨e1,e2⟩|⟨b,cap,arr,ty,e1,_⟩⟩⟩:=R.iW _ _ heq
   ·subst e2;exact .inr ⟨rfl,az,0,hc.2.1.trans e1,λhn=>absurd hn (by simp)⟩
   ·subst e2;exact .inr ⟨rfl,az,0,hc.2.1.trans e1,λhn=>absurd hn (by simp)⟩
   ·exact .inr ⟨rfl,_,cap,hc.2.1.trans e1,λ_=>⟨b,0,rfl⟩⟩
  ·cases h
 |_=>cases h
def Pn (h:ju g vs us){v:Val}(e:vs=[v]):∃u,us=[u]/\iL g v u:=by
 subst e;obtain⟨u,r,e,hu,hr⟩:=h;have hr:_=_:=hr;simp_all
def Pk (h:ju g vs us){v v':Val}(e:vs=[v,v']):∃u u',us=[u,u']/\iL g v u/\iL g v' u':=by
 subst e;obtain⟨u,r,e,hu,u',r',e',hu',hr⟩:=h;have hr:_=_:=hr
 grind
def Sj {E:Env}(h:E.fit t c=av):(E.P.underlying t=U .string/\c.isStr=av)\/(∃e,E.P.underlying t=U (.slice e)/\c.isStr=aq):=by
 grind [Env.fit]
def TO (hc:c.callee= .builtin .len){s s':St}{sl:Slot}{d:Nat}(h:(iT E d (.call c)).run s=U (sl,s')):Yld E (.call c) s sl s':=by
 simp[iT,hc]at h;obtain⟨vs,t,h1,h2⟩:=AM.dc h;obtain⟨rfl,r1⟩:=qO h1;split at h2
 ·rename_i x;obtain⟨hb,h3⟩:=eB h2;obtain⟨n,t2,h4,h5⟩:=AM.dc h3;obtain⟨rfl,hl⟩:=CJ h4;obtain⟨rfl,rfl⟩:=de h5
  refine .still λo ho B g a w R V=>⟨.int .i64 n, ?_,zL g _ _⟩
  obtain⟨u,hu,hr⟩:=Pn (r1 V) rfl
  have ab9:c.args.map a.eval=#[u]:=by
   grind
  have⟨t0,bd1,tb⟩:∃t0,c.argTypes[0]?=U t0/\E.fit t0 x=true:=by
   grind
  unfold execOp;rw[ho];simp only[resolve,hc,Go.invoke,builtin,bL,bn9,bh,ab9,Builtin.len_,bd1]
  rcases Sj tb with⟨e1,e2⟩|⟨e,e1,e2⟩
  ·rcases hl R hr with⟨_,st,e4,l'⟩|⟨e3,_⟩
   all_goals simp_all[run_underlying,goInt]
  ·rcases hl R hr with⟨e3,_⟩|⟨_,A,cap,e3,_⟩
   all_goals simp_all[run_underlying,goInt]
 ·cases h2
def TB (hc:c.callee= .builtin .max){s s':St}{sl:Slot}{d:Nat}(h:(iT E d (.call c)).run s=U (sl,s')):Yld E (.call c) s sl s':=by
 simp[iT,hc]at h;obtain⟨vs,t,h1,h2⟩:=AM.dc h;obtain⟨rfl,r1⟩:=qO h1;split at h2
 ·rename_i k x k' y;obtain⟨rfl,rfl⟩:=de h2
  refine .still λo ho B g a w R V=>⟨.int k (if y>x then y else x), ?_,zL g _ _⟩
  obtain⟨u,u',hu,hr,UO⟩:=Pk (r1 V) rfl;have e1:=lk hr;have e2:=lk UO;unfold execOp;simp_all[resolve,Go.invoke,builtin,Builtin.max_,Builtin.max2]
 ·cases h2
def Ol (h:(iT E d (.index t x i)).run s=U (sl,s')):Yld E (.index t x i) s sl s':=by
 obtain⟨v,t1,h1,h2⟩:=AM.dc h;obtain⟨iv,t2,h3,h4⟩:=AM.dc h2;obtain⟨n,t3,h5,h6⟩:=AM.dc h4;obtain⟨rfl,r1⟩:=gi h1;obtain⟨rfl,r2⟩:=gi h3;obtain⟨⟨k,rfl⟩,rfl⟩:=oN h5;split at h6
 ·rename_i l ht;obtain⟨hb,h7⟩:=pZ h6;obtain⟨rfl,rfl⟩:=de h7
  refine .still λo ho B g a w R V=> ?_
  obtain⟨st,e,hl⟩:=sT (r1 V);have e2:=lk (r2 V)
  have hlen:n.toNat<st.size:=by
   simp_all[iw]
  have mL:n.toNat<st.data.toList.length:=by simp_all
  have ao9:l.getD n.toNat 0=(st[n.toNat].toNat):=by
   rw[hl];unfold bytesOf;rw[aG,bn4,aL mL];rfl
  simp_all[zL,execOp,Instr.index,asIntOf,run_underlying]
 ·cases h6
def OR {E:Env}(h:E.field s i=U f):∃fs,E.P.underlying s=U (.struct fs)/\fs[i]?=U f:=by
 grind [Env.field]
end Go.Abs
end

section
namespace Go.Abs
def HRel.ag4 (R:HRel B g hp w)(e:∀i,look F0 i=look hp i):HRel B g F0 w:=
 ⟨λi=>by rw[e i];exact R.top i,λi o h=>R.iW i o (by simp_all),R.dC,R.iR,R.iV,R.mN,R.frame,R.size,R.os,R.tape,R.output,R.fix⟩
def QU:∀{τ:Ty}{x:τ.den}{off:Nat}{e:Ty}{ys zs:List e.den}{x':τ.den},Dy τ x off=U ⟨e,ys⟩->sA τ x off e zs=U x'->Dy τ x' off=U ⟨e,zs⟩/\∀ws:List e.den,sA τ x' off e ws=sA τ x off e ws:=by
 intro τ
 induction τ with
 |pr a b EY EW=>
  intro x off e ys zs x' h k;unfold Dy at h;unfold sA at k
  cases hb:cd off a.size with
  |true=>
   rw[hb]at h k;obtain⟨y,h1,rfl⟩:=bj.1 k
   grind [Dy,ws,sA]
  |false=>
   rw[hb]at h k;obtain⟨y,h1,rfl⟩:=bj.1 k
   grind [Dy,ws,sA]
 |sl e' _=>
  intro x off e ys zs x' h k
  cases off with
  |zero=>
   injection h with h;injection h with h1 h2
   subst h1;have k:(if h:e'=e' then U (h ▸ zs)else az)=U x':=k;rw[dif_pos rfl]at k
   injection k with k
   subst k;exact⟨rfl,λ_=>rfl⟩
  |succ n=>cases h
 |_=>intro x off e ys zs x' h;cases off<;>cases h
def Lin.len (h:Lin r τ x cs nb):cs.length=τ.size:=h.rc.length
def Lin.focus:∀{τ:Ty}{x:τ.den}{cs:List Value}{nb:List Nat}{off:Nat}{e:Ty}{ys:List e.den},Lin r τ x cs nb->Dy τ x off=U ⟨e,ys⟩->
  ∃m1 mb m2 u,nb=m1++mb++m2/\cs[off]?=U u/\Lin r (.sl e) ys [u] mb/\
   ∀r' (zs:List e.den) v Qh x',(∀b∈m1++m2,∀L,r b=U L->r' b=U L)->Lin r' (.sl e) zs [v] Qh->sA τ x off e zs=U x'->Lin r' τ x' (cs.set off v) (m1++Qh++m2):=by
 intro τ
 induction τ with
 |pr a b EY EW=>
  intro x cs nb off e ys ⟨c1,c2,n1,n2,ec,en,h1,h2⟩ h;subst ec;subst en;have hl:=h1.len;unfold Dy at h
  cases hb:cd off a.size with
  |true=>
   rw[hb]at h;have mL:off<a.size:=aR hb;obtain⟨m1,mb,m2,u,rfl,hu,hL,hS⟩:=EY h1 h;refine⟨m1,mb,m2++n2,u,by simp,by rw[List.getElem?_append_left (by omega)];exact hu,hL,λr' zs v Qh x' hm hv hs=> ?_⟩;unfold sA at hs;rw[hb]at hs;obtain⟨y,hy,rfl⟩:=bj.1 hs;rw[List.set_append_left _ _ (by omega)];refine⟨c1.set off v,c2,m1++Qh++m2,n2,rfl,by simp,hS r' zs v Qh y (λb hb=>hm b ?_) hv hy,h2.mono λb hb=>hm b ?_⟩
   ·rcases aP.1 hb with hb|hb<;>simp[hb]
   ·simp[hb]
  |false=>
   rw[hb]at h
   have La:a.size<=off:=by
    rcases bB off a.size with h'|h'
    ·have:cd off a.size=true:=Nat.ble_eq_true_of_le h';rw[this]at hb;cases hb
    ·exact h'
   obtain⟨m1,mb,m2,u,rfl,hu,hL,hS⟩:=EW h2 h;refine⟨n1++m1,mb,m2,u,by simp,by rw[List.getElem?_append_right (by omega),hl];exact hu,hL,λr' zs v Qh x' hm hv hs=> ?_⟩;unfold sA at hs;rw[hb]at hs;obtain⟨y,hy,rfl⟩:=bj.1 hs;rw[List.set_append_right _ _ (by omega),hl];refine⟨c1,c2.set (off - a.size) v,n1,m1++Qh++m2,rfl,by simp,h1.mono λb hb=>hm b ?_,hS r' zs v Qh y (λb hb=>hm b ?_) hv hy⟩
   ·simp[hb]
   ·rcases aP.1 hb with hb|hb<;>simp[hb]
 |sl e' _=>
  intro x cs nb off e ys hL h
  cases off with
  |succ n=>cases h
  |zero=>
   injection h with h;injection h with h1 h2
   subst h1;subst h2;have hl:cs.length=1:=hL.len
   obtain⟨u,rfl⟩:∃u,cs=[u]:=by
    match cs,hl with
    |[u],_=>exact⟨u,rfl⟩
   refine⟨[],nb,[],u,by simp,rfl,hL,λr' zs v Qh x' hm hv hs=> ?_⟩;have hs:(if h:e'=e' then U (h ▸ zs)else az)=U x':=hs;rw[dif_pos rfl]at hs
   injection hs with hs
   subst hs;simpa using hv
 |_=>intro x cs nb off e ys _ h;cases off<;>cases h
theorem jx.focus:∀{xs:List τ.den}{L:List Value}{nb:List Nat}{i off:Nat}{e:Ty}{ys:List e.den} hi,jx r τ xs L nb->Dy τ xs[i] off=U ⟨e,ys⟩->
  ∃m1 mb m2 u,nb=m1++mb++m2/\L[i*τ.size+off]?=U u/\Lin r (.sl e) ys [u] mb/\
   ∀r' (zs:List e.den) v Qh x',(∀b∈m1++m2,∀L,r b=U L->r' b=U L)->Lin r' (.sl e) zs [v] Qh->sA τ xs[i] off e zs=U x'->jx r' τ (xs.set i x') (L.set (i*τ.size+off) v) (m1++Qh++m2)
 |[],_,_,i,_,_,_,hi,_,_=>absurd hi (by simp)
 |x::xs,L,nb,0,off,e,ys,hi,⟨n1,n2,en,h1,h2⟩,h=>by
  subst en;obtain⟨m1,mb,m2,u,rfl,hu,hL,hS⟩:=h1.focus h
  have EU:off<τ.size:=by
   grind
  refine⟨m1,mb,m2++n2,u,by simp,by simp_all,hL,λr' zs v Qh x' hm hv hs=> ?_⟩;refine⟨m1++Qh++m2,n2,by simp, ?_, ?_⟩
  ·rw[Nat.zero_mul,bJ,List.take_set]
   grind
  ·rw[Nat.zero_mul,bJ,List.drop_set,aj EU]
   exact h2.mono λb hb=>hm b (by grind)
 |x::xs,L,nb,i+1,off,e,ys,hi,⟨n1,n2,en,h1,h2⟩,h=>by
  subst en
  have xn:i<xs.length:=by grind
  obtain⟨m1,mb,m2,u,rfl,hu,hL,hS⟩:=jx.focus xn h2 h
  have e1:(i+1)*τ.size+off=τ.size+(i*τ.size+off):=by grind
  refine⟨n1++m1,mb,m2,u,by simp,by simp_all,hL,λr' zs v Qh x' hm hv hs=> ?_⟩;refine⟨n1,m1++Qh++m2,by simp, ?_, ?_⟩
  ·rw[e1,List.take_set,List.set_eq_of_length_le (by grind)]
   exact h1.mono λb hb=>hm b (by grind)
  ·rw[e1,List.drop_set,ai (by omega),Nat.add_sub_cancel_left]
   grind
def aB6 {τ:Ty}{xs:List τ.den}(h:i.toNat<xs.length):at_ xs i=xs[i.toNat]:=by
 simp_all[at_,aG,aL]
def SW (r) {e:Ty}(he:e.flat=av):Lin r (.sl e) [] [.slice az 0 0] []:=⟨he, .inl ⟨rfl,rfl,rfl⟩⟩
open Classical in
noncomputable def Gh.opened (g:Gh)(d gd:Nat)(u:Value)(mb:List Nat):Gh:=
  { g with top := fun i => if i = d then gd + 1 else g.top i
           cv:=λi k=>if i=d/\k=gd then u else g.cv i k
           gV:=λx=>if x∈mb then U (d+1)else g.gV x
           iR:=λx=>if x∈mb then az else g.iR x}
def HRel.Ni (R:HRel B g hp w){id gen d off:Nat}{i:Int}{τ e:Ty}{xs:List τ.den}{ys:List e.den}{x':τ.den}(h:look hp id=U (.own gen τ av xs))(hf:τ.flat=aq)(hd:d≠id)
  (h0:0<=i) (hi:i.toNat<xs.length) (hs:Dy τ (at_ xs i) off=U ⟨e,ys⟩) (hx:sA τ (at_ xs i) off e []=U x'):
  ∃g' b cap arr ty u,Lk g g'/\g.cv id gen= .slice (U ⟨b,0,az⟩) xs.length cap/\w.heap[b]?=U (.cells arr ty (0,0))/\arr.toList[i.toNat*τ.size+off]?=U u/\eC g' (.own d (g.top d)) u/\
   HRel B g' ((id, .hole gen τ xs i off d (g.top d))::(d, .own (g.top d) e av ys)::hp) w:=by
 rcases R.iW _ _ h with⟨_,h2⟩|⟨b,cap,arr,ty,h1,h2,h3,h4,h5,h6,h7⟩
 ·subst h2;simp at hi
 unfold iK at h7;rw[hf]at h7;obtain⟨nb,k1,k2,k3⟩:=h7;have ad6:=hs;have XC:=hx;rw[aB6 hi]at ad6 XC;obtain⟨m1,mb,m2,u,rfl,hu,hL,hS⟩:=k1.focus hi ad6
 have NW:b∉m1++mb++m2:=λhm=>k1.xb b hm h3
 have aL4:∀x∈mb,g.gV x=U (id+1):=λx hx=>k3 x (by simp[hx])
 have XN:b∉mb:=λhm=>NW (by simp[hm])
 have ht:=kU R h;have nd:=bw.1 k2;have iQ:=bw.1 nd.1
 let g':=g.opened d (g.top d) u mb
 have hle:Le g g':=by
  refine⟨λ_ _ h=>h,λj=> ?_,λj k hk=> ?_⟩
  ·show g.top j<=if j=d then g.top d+1 else g.top j
   split
   ·rename_i e;subst e;omega
   ·exact aF _
  ·show(if j=d/\k=g.top d then _ else g.cv j k)=g.cv j k;rw[ai];rintro⟨rfl,rfl⟩;omega
 have qb:∀x,x∉mb->g'.gV x=g.gV x:=λx hx=>by simp[g',Gh.opened,hx]
 have zU:∀x,x∉mb->g'.iR x=g.iR x:=λx hx=>by simp[g',Gh.opened,hx]
 have ZN:g'.cv d (g.top d)=u:=(by simp[g',Gh.opened]);have bg0:g'.top d=g.top d+1:=(by simp[g',Gh.opened])
 have XR:oc u=true:=by
  rcases hL.2 with⟨e,_⟩|⟨_,_,_,e,_⟩<;>(injection e with e;subst e;rfl)
 have CY:∀x∈m1++m2,x∉mb:=by
  intro x hx hm
  rcases aP.1 hx with hx|hx
  ·exact iQ.2.2 x hx x hm rfl
  ·exact nd.2.2 x (by simp[hm]) x hx rfl
 have newObj:rk g' w d (.own (g.top d) e av ys):=by
  rcases hL.2 with⟨e1,e2,_⟩|⟨b',c,L,e1,e2,e3,e4,e5,e6⟩
  ·injection e1 with e1
   exact .inl ⟨by rw[ZN,e1],e2⟩
  ·injection e1 with e1
   subst e3;obtain⟨_,pT,ER,a1,a2⟩:=R.iR b' L e4;refine .inr ⟨b',c,pT,ER,by rw[ZN,e1],by simp[g',Gh.opened],by simp[g',Gh.opened],a1,e2, ?_, ?_⟩
   ·have:pT.size=pT.toList.length:=(by simp);rw[this,a2,e5]
   ·unfold iK;rw[hL.1];simp;rw[a2];exact e6.flat hL.1
 have R6:rk g' w id (.hole gen τ xs i off d (g.top d)):=by
  refine⟨by omega,h0,hi,hf,b,cap,arr,ty,e,ys,x',(hle.cv _ _ ht).trans h1,(qb b XN).trans h2,(zU b XN).trans h3,h4,h5,h6,hs,hx,by rw[ZN];exact hu,m1++[]++m2, ?_, ?_,λx hx=> ?_⟩
  ·exact hS g'.iR [] _ [] x' (λy hy L ay0=>(zU y (CY y hy)).trans ay0) (SW _ hL.1) XC
  ·simp;rw[bw];exact⟨iQ.1,nd.2.1,λx hx y hy=>nd.2.2 x (by simp[hx]) y hy⟩
  ·have hx:x∈m1++m2:=(by simpa using hx);rw[qb x (CY x hx)];exact k3 x (by rcases aP.1 hx with h|h<;>simp[h])
 refine⟨g',b,cap,arr,ty,u,⟨hle,λx hx=> ?_,rfl⟩,h1,h4,hu,⟨by omega,ZN.symm,XR⟩,⟨λj=> ?_,λj oj hj=> ?_,λx L hx=> ?_,λx L hx=> ?_,λx hx=> ?_,R.mN,λx hx hl hi=> ?_,R.size,R.os,R.tape,R.output,R.fix⟩⟩
 ·have:x∉mb:=λhm=>by rw[aL4 x hm]at hx;simp at hx
  exact⟨(qb x this).trans hx,zU x this⟩
 ·show(if j=d then g.top d+1 else g.top j)=_
  by_cases e1:id=j
  ·subst e1;rw[dI,ai (Ne.symm hd),R.top id,h];rfl
  ·rw[dA _ _ e1]
   by_cases e2:d=j
   ·subst e2;rw[dI,aj rfl];rfl
   ·rw[dA _ _ e2,ai (Ne.symm e2)];exact R.top j
 ·by_cases e1:id=j
  ·subst e1
   rw[dI]at hj;injection hj with hj;subst hj;exact R6
  ·rw[dA _ _ e1]at hj
   by_cases e2:d=j
   ·subst e2
    rw[dI]at hj;injection hj with hj;subst hj;exact newObj
   ·rw[dA _ _ e2]at hj;refine(R.iW j oj hj).tr hle (λx hx=> ?_) rfl (kU R hj)
    have:x∉mb:=λhm=>by rw[aL4 x hm]at hx;simp at hx;exact e1 hx
    exact⟨(qb x this).trans hx,zU x this,rfl⟩
 ·obtain⟨a1,a2,a3⟩:=R.dC x L hx
  have:x∉mb:=λhm=>by rw[aL4 x hm]at a1;cases a1
  exact⟨(qb x this).trans a1,(zU x this).trans a2,a3⟩
 ·by_cases hm:x∈mb
  ·have:g'.iR x=none:=(by simp[g',Gh.opened,hm]);rw[this]at hx;cases hx
  ·rw[zU x hm]at hx;rw[qb x hm];exact R.iR x L hx
 ·by_cases hm:x∈mb
  ·exact R.iV x (by rw[aL4 x hm];simp)
  ·rw[qb x hm]at hx;exact R.iV x hx
 ·obtain⟨f1,f2,f3⟩:=R.frame x hx hl hi
  have:x∉mb:=λhm=>by rw[aL4 x hm]at f1;cases f1
  exact⟨(qb x this).trans f1,f2,f3⟩
open Classical in
noncomputable def Gh.closed (g:Gh)(id:Nat)(mb:List Nat)(L:List Value):Gh:=
  { g with gV := fun x => if x ∈ mb then U (id + 1) else g.gV x
           iR:=λx=>if x∈mb then U L else g.iR x}
def HRel.uB (R:HRel B g hp w){id gen d gd off:Nat}{i:Int}{τ e:Ty}{dp:Bool}{xs:List τ.den}{ys:List e.den}{x:τ.den}(h:look hp id=U (.hole gen τ xs i off d gd))(ho:look hp d=U (.own gd e dp ys))(hd:d≠id)
  (hx:sA τ (at_ xs i) off e ys=U x):
  ∃g',Lk g g'/\HRel B g' ((id, .own gen τ av (xs.set i.toNat x))::(d, .dead gd)::hp) w:=by
 obtain⟨hg,h0,hi,hf,b,cap,arr,ty,e',aO4,x',h1,h2,h3,h4,h5,h6,h7,h8,h9,nb,k1,k2,k3⟩:=R.iW _ _ h
 have bi7:e'=e:=by
  have key:∀{τ:Ty} {x:τ.den} {off:Nat} {e e':Ty} {ys:List e.den} {aO4:List e'.den} {x1:τ.den},Dy τ x off=U ⟨e',aO4⟩->sA τ x off e ys=U x1->e'=e:=by
   intro τ
   induction τ with
   |pr a b EY EW=>
    grind [Dy,sA,cd,bj]
   |sl e2 _=>
    intro x off e e' ys aO4 x1 h k
    cases off with
    |succ n=>cases h
    |zero=>
     injection h with h;injection h with h1 h2
     have k:(if h:e=e2 then U (h ▸ ys)else az)=U x1:=k
     grind
   |_=>intro x off e e' ys aO4 x1 h;cases off<;>cases h
  grind
 subst bi7;obtain⟨q1,q2⟩:=QU h7 h8;have xn:i.toNat<(xs.set i.toNat x').length:=(by simpa using hi);have L7:(xs.set i.toNat x')[i.toNat]=x':=(by simp);obtain⟨m1,bd6,m2,u0,rfl,Sc,ac9,hS⟩:=k1.focus xn (by rw[L7];exact q1);have sF:i.toNat*τ.size+off<arr.toList.length:=(cr.1 h9).1;rw[List.getElem?_set_self sF]at Sc
 injection Sc with Sc
 subst Sc
 have aZ5:bd6=[]:=by
  rcases ac9.2 with⟨_,_,e3⟩|⟨b',c,L,e1,_⟩
  ·exact e3
  ·injection e1 with e1;cases e1
 subst aZ5
 have Zl:(arr.toList.set (i.toNat*τ.size+off) (.slice az 0 0)).set (i.toNat*τ.size+off) (g.cv d gd)=arr.toList:=by
  rw[List.set_set]
  apply bn5
  intro j
  by_cases e:i.toNat*τ.size+off=j
  ·subst e;rw[List.getElem?_set_self sF,h9]
  ·rw[List.getElem?_set_ne e]
 have aN1:sA τ (xs.set i.toNat x')[i.toNat] off e' ys=U x:=by rw[L7,q2 ys];exact hx
 have hlen:((xs.set i.toNat x').set i.toNat x)=xs.set i.toNat x:=(by rw[List.set_set])
 have aZ1:∀x∈m1++m2,g.gV x=U (id+1):=λx hx=>k3 x (by simpa using hx)
 have bg0:=kU R ho
 have done:∀mb L0,(∀y∈mb,g.gV y=U (d+1)/\∃arr ty,w.heap[y]?=U (.cells arr ty (0,0))/\arr.toList=L0)->mb.Nodup->
   Lin (g.closed id mb L0).iR (.sl e') ys [g.cv d gd] mb->∃g',Lk g g'/\HRel B g' ((id, .own gen τ av (xs.set i.toNat x))::(d, .dead gd)::hp) w:=by
  intro mb L0 qY qK aW0
  let g':=g.closed id mb L0
  have hle:Le g g':=⟨λ_ _ h=>h,λ_=>aF _,λ_ _ _=>rfl⟩
  have qb:∀y,y∉mb->g'.gV y=g.gV y:=λy hy=>by simp[g',Gh.closed,hy]
  have zU:∀y,y∉mb->g'.iR y=g.iR y:=λy hy=>by simp[g',Gh.closed,hy]
  have ae9:∀y,y∈mb->g'.gV y=U (id+1):=λy hy=>by simp[g',Gh.closed,hy]
  have aG5:∀y,y∈mb->g'.iR y=U L0:=λy hy=>by simp[g',Gh.closed,hy]
  have L8:∀y,g.gV y≠U (d+1)->y∉mb:=λy hy hm=>hy (qY y hm).1
  have NN:∀y∈m1++m2,y∉mb:=λy hy=>L8 y (by rw[aZ1 y hy];simp;exact λe=>hd e.symm)
  have XN:b∉mb:=L8 b (by rw[h2];simp;exact λe=>hd e.symm);have e1:=hS g'.iR ys (g.cv d gd) mb x (λy hy L hL=>by rw[zU y (NN y hy)];exact hL) aW0 aN1;rw[Zl,hlen]at e1
  have R6:rk g' w id (.own gen τ av (xs.set i.toNat x)):=by
   refine .inr ⟨b,cap,arr,ty,by show g.cv id gen=_;rw[cA];exact h1,(qb b XN).trans h2,(zU b XN).trans h3,h4,by simpa using h5,h6, ?_⟩;unfold iK;rw[hf];simp;refine⟨m1++mb++m2,e1, ?_,λy hy=> ?_⟩
   ·have nd:=bw.1 (show(m1++m2).Nodup by simpa using k2);rw[bw,bw];refine⟨⟨nd.1,qK,λa ha c hc e=> ?_⟩,nd.2.1,λa ha c hc e=> ?_⟩
    ·subst e;exact NN a (by simp[ha]) hc
    ·subst e
     rcases aP.1 ha with ha|ha
     ·exact nd.2.2 a ha a hc rfl
     ·exact NN a (by simp[hc]) ha
   ·by_cases hm:y∈mb
    ·exact ae9 y hm
    ·rw[qb y hm];refine aZ1 y ?_
     rcases aP.1 hy with hy|hy
     ·rcases aP.1 hy with hy|hy
      ·simp[hy]
      ·exact absurd hy hm
     ·simp[hy]
  refine⟨g',⟨hle,λy hy=> ?_,rfl⟩,⟨λj=> ?_,λj oj hj=> ?_,λy L hy=> ?_,λy L hy=> ?_,λy hy=> ?_,R.mN,λy hy hl hi=> ?_,R.size,R.os,R.tape,R.output,R.fix⟩⟩
  ·have:=L8 y (by rw[hy];simp);exact⟨(qb y this).trans hy,zU y this⟩
  ·show g.top j=_;rw[R.top j]
   by_cases e1:id=j
   ·subst e1;rw[dI,h];rfl
   ·rw[dA _ _ e1]
    by_cases e2:d=j
    ·subst e2;rw[dI,ho];rfl
    ·rw[dA _ _ e2]
  ·by_cases e2:id=j
   ·subst e2
    rw[dI]at hj;injection hj with hj;subst hj;exact R6
   ·rw[dA _ _ e2]at hj
    by_cases e3:d=j
    ·subst e3
     rw[dI]at hj;injection hj with hj;subst hj;trivial
    ·rw[dA _ _ e3]at hj;refine(R.iW j oj hj).tr hle (λy hy=> ?_) rfl (kU R hj);have bb5:=L8 y (by rw[hy];simp;exact λe=>e3 e.symm);exact⟨(qb y bb5).trans hy,zU y bb5,rfl⟩
  ·obtain⟨a1,a2,a3⟩:=R.dC y L hy;have:=L8 y (by rw[a1];simp);exact⟨(qb y this).trans a1,(zU y this).trans a2,a3⟩
  ·by_cases hm:y∈mb
   ·rw[aG5 y hm]at hy
    injection hy with hy
    obtain⟨_,pT,ER,a1,a2⟩:=qY y hm;exact⟨by rw[ae9 y hm];simp,pT,ER,a1,a2.trans hy⟩
   ·rw[zU y hm]at hy;rw[qb y hm];exact R.iR y L hy
  ·by_cases hm:y∈mb
   ·exact R.iV y (by rw[(qY y hm).1];simp)
   ·rw[qb y hm]at hy;exact R.iV y hy
  ·obtain⟨f1,f2,f3⟩:=R.frame y hy hl hi;have:=L8 y (by rw[f1];simp);exact⟨(qb y this).trans f1,f2,f3⟩
 rcases R.iW _ _ ho with⟨o1,o2⟩|⟨b',K8,pT,ER,o1,o2,o3,o4,o5,o6,o7⟩
 ·refine done [] [] (λy hy=>by simp at hy) bf ?_;have o2:ys=[]:=o2;rw[o1,o2];exact SW _ ac9.1
 ·refine done [b'] pT.toList (λy hy=> ?_) (by simp) ⟨ac9.1, .inr ⟨b',K8,pT.toList,by rw[o1],o5,rfl,by simp[Gh.closed],by simpa using o6, ?_⟩⟩
  ·simp at hy;subst hy;exact⟨o2,pT,ER,o4,rfl⟩
  ·unfold iK at o7;rw[ac9.1]at o7;simp at o7;exact o7.flat ac9.1
theorem A2 {id gen:Nat}(h:(uB id gen).run s=U ((),s')):s'.env=s.env/\(∀j gn cs,look s.hp j=U (.lZ gn cs)->look s'.hp j=U (.lZ gn cs))/\∀{B:Base}{g:Gh}{w:World},HRel B g s.hp w->∃g',Lk g g'/\HRel B g' s'.hp w:=by
 simp only[uB,AM.run]at h;split at h
 ·rename_i g0 τ xs i off d gd heq;obtain⟨hb,h1⟩:=eB h;simp only[AM.run]at h1;split at h1
  ·rename_i g2 e dp ys Zm;obtain⟨CW,h2⟩:=eB h1;simp only[aA,bU]at CW;obtain rfl:=beq_eq CW.1
   have hd:d≠id:=λe=>by simp_all
   split at h2
   ·rename_i x hx;simp only[AM.run,cc,cB,true_and]at h2;subst h2;refine⟨rfl,λj gn cs hj=> ?_,λ{B g w} R=>R.uB heq Zm hd hx⟩
    grind [id,look,dA]
   ·cases h2
  ·cases h1
 ·obtain⟨_,rfl⟩:=de h;exact⟨rfl,λ_ _ _ h=>h,λ{B g w} R=>⟨g,Lk.refl g,R⟩⟩
def GX (h:(FA c).run s=U ((),s')):s'.env=s.env/\∀{B:Base}{g:Gh}{w:World},HRel B g s.hp w->∃g',Lk g g'/\HRel B g' s'.hp w:=by
 unfold FA at h;split at h
 ·grind [A2]
 ·obtain⟨_,rfl⟩:=de h;exact⟨rfl,λ{B g w} R=>⟨g,Lk.refl g,R⟩⟩
def D6 {id gen:Nat}(h:(lr id).run s=U (gen,s')):s'=s/\∀gn cs,look s.hp id≠U (.lZ gn cs):=by
 simp only[lr,AM.run]at h
 cases hl:look s.hp id with
 |none=>rw[hl]at h;obtain⟨rfl,rfl⟩:=de h;simp
 |some o=>rw[hl]at h;cases o<;>first|(obtain⟨rfl,rfl⟩:=de h;simp)|cases h
def D0 {id gen:Nat}(R:HRel B g s.hp w)(h:(lr id).run s=U (gen,s')):gen=g.top id:=by
 simp only[lr,AM.run]at h;rw[R.top id]
 cases hl:look s.hp id with
 |none=>grind [de]
 |some o=>rw[hl]at h;cases o<;>first|grind [de]|cases h
def Uh (h:(Rj E ag sl).run s=U (b,s')):s'=s/\(b=av->ag=aq):=by
 unfold Rj at h;split at h
 ·rename_i id gen i off sz
  cases hc:(E.nest&& !ag)with
  |true=>
   rw[hc]at h;simp only[ah,AM.run]at h;split at h<;>(obtain⟨_,rfl⟩:=de h;simp_all)
  |false=>
   rw[hc]at h;obtain⟨rfl,rfl⟩:=de h;simp
 ·obtain⟨rfl,rfl⟩:=de h;simp
end Go.Abs
end

section
namespace Go.Abs
def yP {E:Env}(h:E.isAgg t=U b) (w):(Go.isAgg t).run E.P w= .ok b w:=by
 unfold Env.isAgg at h
 cases hu:E.P.underlying t with
 |none=>simp_all
 |some d=>
  simp only[Go.isAgg,bL,run_underlying hu,bh];cases d<;>(simp_all)
def run_sizeOf {E:Env}(h:E.sizeOf t=U n) (w):(Go.sizeOf t).run E.P w= .ok n w:=by
 unfold Env.sizeOf at h;simp at h;obtain⟨i,hi,rfl⟩:=h;simp[Go.sizeOf,typeInfo,hi]
def Ek (b o n):Addr.add ⟨b,o,az⟩ n=⟨b,o+n,az⟩:=by
 simp_all[Addr.add]
def GM (h:(iT E d (.fieldAddr t x i)).run s=U (sl,s')):Yld E (.fieldAddr t x i) s sl s':=by
 obtain⟨s1,t1,h1,h2⟩:=AM.dc h;obtain⟨f,t2,h3,h4⟩:=AM.dc h2;obtain⟨n,t3,h5,h6⟩:=AM.dc h4;obtain⟨rfl,r1⟩:=sQ h1;obtain⟨hf,rfl⟩:=fL h3;obtain⟨hn,rfl⟩:=fL h5;obtain⟨hb,h7⟩:=eB h6
 have XF:¬ n=0:=by have:=aR hb;omega
 obtain⟨fs,hs,aN0⟩:=OR hf
 have key:∀b o w ρ op,op.op= .fieldAddr t x i->ρ x= .pointer (U ⟨b,o,az⟩)->
   (execOp ρ op).run E.P w= .ok (.value (.pointer (U ⟨b,o+f.offset,az⟩))) w:=by
  intro b o w ρ op ho e;unfold execOp;rw[ho]
  apply ic
  simp[Instr.fieldAt,run_underlying hs,aN0,e,bq7,fieldPlace,run_sizeOf hn,XF,Ek]
 unfold fieldAddr at h7;split at h7
 ·rename_i id gen o0;obtain⟨rfl,rfl⟩:=de h7
  refine .still λo ho B g a w R V=> ?_
  obtain⟨ht,b,o',pz,e⟩:=r1 V;exact⟨_,key b _ w a.eval o ho e,ht,b,o',pz,by simp⟩
 ·rename_i c i0 o0 sz;obtain⟨rfl,rfl⟩:=de h7
  refine .still λo ho B g a w R V=> ?_
  obtain⟨b,o',n',cap,hc,h0,h1,e⟩:=r1 V;exact⟨_,key b _ w a.eval o ho e,b,o',n',cap,hc,h0,h1,by simp⟩
 ·rename_i xs;obtain⟨hb,h8⟩:=pZ h7;obtain⟨rfl,rfl⟩:=de h8
  refine .still λo ho B g a w R V=> ?_
  obtain⟨_,u',e,hx⟩:=r1 V
  injection e with e
  revert hb hx
  generalize xs=ys
  intro hb hx
  cases ys with
  |nil=>simp_all
  |cons y ys=>
   obtain⟨b,p,e',P9,ZJ⟩:=hx;subst e';refine⟨_,key b 0 w a.eval o ho e,y,ys,b,p,rfl,P9,ZJ,by simp⟩
 ·cases h7
def zJ (off n) (h:dG g cs us):dG g (cut off n cs) ((us.drop off).take n):=(h.drop off).take n
def Be (h:(J2 ag cs).run s=U (v,s'))(hc:dG g cs us):
  s'=s/\((ag=av/\iL g v (.agg us.toArray))\/(ag=aq/\∃u,us=[u]/\iL g v u)):=by
 cases ag with
 |true=>
  obtain⟨rfl,rfl⟩:=de h;exact⟨rfl, .inl ⟨rfl,us,rfl,hc⟩⟩
 |false=>
  simp[J2]at h;split at h
  ·obtain⟨rfl,rfl⟩:=de h;obtain⟨u,r,e,hu,hr⟩:=hc;subst hr;exact⟨rfl, .inr ⟨rfl,u,e,hu⟩⟩
  ·cases h
def Jv (h:(J2 ag cs).run s=U (v,s')):s'=s:=by
 cases ag with
 |true=>exact(de h).2
 |false=>simp[J2]at h;split at h<;>first|grind [de]|cases h
def Oq (h:(iT E d (.field t x i)).run s=U (sl,s')):Yld E (.field t x i) s sl s':=by
 obtain⟨v,t1,h1,h2⟩:=AM.dc h;obtain⟨rfl,r1⟩:=gi h1;split at h2
 ·rename_i cs;obtain⟨f,t2,h3,h4⟩:=AM.dc h2;obtain⟨ag,t3,h5,h6⟩:=AM.dc h4;obtain⟨n,t4,h7,h8⟩:=AM.dc h6;obtain⟨v2,t5,h9,xo⟩:=AM.dc h8;obtain⟨hf,rfl⟩:=fL h3;obtain⟨R9,rfl⟩:=fL h5;obtain⟨hn,rfl⟩:=fL h7;obtain⟨rfl,rfl⟩:=de xo;obtain rfl:=Jv h9;obtain⟨fs,hs,aN0⟩:=OR hf
  refine .still λo ho B g a w R V=> ?_
  obtain⟨us,e,hu⟩:=r1 V;have Qd:=zJ f.offset (bif ag then n else 1) hu;obtain⟨_,hv⟩:=Be h9 Qd
  rcases hv with⟨rfl,hv⟩|⟨rfl,u,sC,hv⟩
  ·refine⟨_, ?_,hv⟩;unfold execOp;rw[ho]
   apply ic
   simp only[Instr.field,bL,run_underlying hs,bh,aN0,e,asAgg,bn9,part,yP R9,if_true,run_sizeOf hn,ah];simp
  ·refine⟨u, ?_,hv⟩;unfold execOp;rw[ho]
   apply ic
   have ao9:us.toArray[f.offset]?=U u:=by
    have:((us.drop f.offset).take 1)[0]?=U u:=by simp_all
    grind
   simp only[Instr.field,bL,run_underlying hs,bh,aN0,e,asAgg,bn9,part,yP R9,cf,if_false,ao9]
 ·cases h2
def GL (h:(iT E d (.indexAddr t x i)).run s=U (sl,s')):Yld E (.indexAddr t x i) s sl s':=by
 obtain⟨sz,t0,h0,h1⟩:=AM.dc h;obtain⟨v,t1,h2,h3⟩:=AM.dc h1;obtain⟨c,t2,h4,h5⟩:=AM.dc h3;obtain⟨iv,t3,h6,h7⟩:=AM.dc h5;obtain⟨n,t4,h8,h9⟩:=AM.dc h7;obtain⟨rr,rfl⟩:=fL h0;obtain⟨rfl,r1⟩:=gi h2;obtain⟨rfl,rfl⟩:=yQ h4;obtain⟨rfl,r2⟩:=gi h6;obtain⟨⟨k,rfl⟩,rfl⟩:=oN h8;obtain⟨hb,xo⟩:=eB h9;simp at hb;obtain⟨u0,t6,aY0,aY6⟩:=AM.dc xo;obtain⟨ec,ES⟩:=GX aY0;obtain⟨len,t5,vR,rP⟩:=AM.dc aY6;obtain⟨rfl,hl⟩:=CJ vR;obtain⟨CW,Ae⟩:=pZ rP;obtain⟨rfl,rfl⟩:=de Ae;simp at CW
 suffices H:∀o,o.op= .indexAddr t x i->∀B g a w,HRel B g s'.hp w->j6 g t4.env a->∃v,(execOp a.eval o).run E.P w= .ok (.value v) w/\gT g (.ea c n 0 sz) v by
  refine⟨ec,λo ho B g a w R V=> ?_⟩;obtain⟨g',l,R'⟩:=ES R;obtain⟨v,k1,k2⟩:=H o ho B g' a w R' (λt s hs=>(V t s hs).mono l.le);exact⟨v,w,g',k1,l.le,R',k2⟩
 intro o ho B g a w R V
 rcases hl R (r1 V)with⟨e,_⟩|⟨_,A,cap,e,hA⟩
 ·simp_all
 ·obtain⟨b,o',rfl⟩:=hA (by omega);have e2:=lk (r2 V)
  rcases Sj hb.1 with⟨_,e3⟩|⟨el,e3,_⟩
  ·simp_all
  ·have NP:E.sizeOf el=U sz:=by
    simp_all[Env.elem]
   refine⟨.pointer (U ⟨b,o'+n.toNat*sz,az⟩), ?_,b,o',len,cap,by rw[<-e];exact r1 V,CW.1,by omega,by simp⟩;unfold execOp;rw[ho]
   apply ic
   have hc:0<=n/\n<len:=CW;simp only[Instr.indexAt,e2,asIntOf,bL,bn9,bh,run_underlying e3,e,Sem.run_ite,aj hc,run_sizeOf NP,Ek]
def HB (w:World)(b o:Nat)(us:List Value):Prop:=∀j u,us[j]?=U u->w.cell? ⟨b,o+j,az⟩=U u
def lE (h:w.heap[b]?=U (.cells arr ty fr)) (n):HB w b o ((arr.toList.drop o).take n):=by
 intro j u hj;simp_all[cT,cJ,bs7]
def IB {E:Env}(R9:E.isAgg t=U ag)(hn:E.sizeOf t=U n)(hl:us.length=bif ag then n else 1)
  (h:HB w b o us):(bu1 t (.pointer (U ⟨b,o,az⟩))).run E.P w= .ok (if ag then .agg us.toArray else us.getD 0 undef) w:=by
 simp only[bu1,bq7,loadVar,bL,bn9,bh,yP R9,Sem.run_ite]
 cases ag with
 |true=>
  subst hl;have:=run_loadCells_list (P:=E.P) (w:=w) ⟨b,o,az⟩ us (λj v hj=>by rw[Ek];exact h j v hj);simp[run_sizeOf hn,this]
 |false=>
  match us,hl with
  |[u],_=>
   have:=h 0 u rfl;simp_all
def Lin.aS8 {g:Gh}(h:Rc g.iR τ x us):dG {g with dC:=g.iR} (unpack τ x) us:=qD (g:={g with dC:=g.iR}) h
def Sz (ht:g'.top=g.top)(pz:g'.cv=g.cv):∀{ps:List (Nat×Nat)}{vs:List Value},xg g ps vs->xg g' ps vs
 |[],_,h=>h
 |_::_,_,⟨b,o,v,e,h1,h2,h3⟩=>⟨b,o,v,e,by simp_all,by simp_all,Sz ht pz h3⟩
def U8 (ht:g'.top=g.top)(pz:g'.cv=g.cv):∀{cs:List Cell}{us:List Value},L4 cs=aq->dG g cs us->dG g' cs us:=by
 intro cs
 induction cs with
 |nil=>intro us _ h;exact h
 |cons c cs ih=>
  intro us hs ⟨u,r,e,hu,hr⟩;simp only[L4,List.any_cons,Bool.or_eq_false_iff]at hs;refine⟨u,r,e, ?_,ih hs.2 hr⟩
  cases c with
  |v τ x=>
   obtain⟨h1,h2⟩:=hu;refine⟨h1, ?_⟩
   cases τ with
   |sl e=>simp_all
   |cl=>simp_all
   |un=>grind [Ty.one]
   |pr a b=>grind [Ty.one]
   |int k=>exact h2
   |bool=>exact h2
   |str=>exact h2
  |nil=>exact hu
  |own id gen=>exact⟨by rw[ht];exact hu.1,by rw[pz];exact hu.2.1,hu.2.2⟩
  |ptr id gen off=>obtain⟨a,b,o,c,d⟩:=hu;exact⟨by simp_all,b,o,by simp_all,d⟩
  |np=>exact hu
  |nf=>exact hu
  |fn f nv=>
   obtain⟨vs,e,hv⟩:=hu;exact⟨vs,e,Sz ht pz hv⟩
  |err b=>exact hu
def Rk (h:Els r e xs L o)(h0:0<=i)(h1:i.toNat<xs.length):Rc r e (at_ xs i) ((L.drop (o+i.toNat*e.size)).take e.size):=by
 have:=h i.toNat h1;simp_all[at_,aG,aL]
def xZ (L:List α) (o sz off n) (h:off+n<=sz):(((L.drop o).take sz).drop off).take n=(L.drop (o+off)).take n:=by
 grind [cz,bX]
def IY (h:(En E n sl).run s=U (cs,s')):
  s'.env=s.env/\∀{B:Base} {g:Gh} {w:World} {u:Value},(∀k c,E.gU k=U [c]->∃u,g.dC k=U [u]/\eC g c u)->HRel B g s.hp w->gT g sl u->
   ∃b o us g',u= .pointer (U ⟨b,o,az⟩)/\HB w b o us/\us.length=n/\Le g g'/\HRel B g' s'.hp w/\dG g' cs us:=by
 unfold En at h;split at h
 ·
  rename_i id gen off;simp only[AM.run]at h;split at h
  ·rename_i g0 aV2 heq;obtain⟨hb,h'⟩:=eB h;simp only[aA]at hb;obtain rfl:=beq_eq hb.1;have hle:off+n<=aV2.length:=aR hb.2;obtain⟨rfl,rfl⟩:=de h';refine⟨rfl,λ{B g w u} _ R hu=> ?_⟩;obtain⟨ht,b,o,pz,e⟩:=hu;obtain⟨b',o',arr,ty,L,k1,k2,k3,k4,k5,k6,k7⟩:=R.iW _ _ heq;rw[pz]at k1
   injection k1 with k1;injection k1 with k1;injection k1 with k1 aV0
   subst k1;subst aV0;have hL:L.length=aV2.length:=k4.length;have ho:o<=(g.outer id).length:=(by omega)
   have e1:(arr.toList.drop (o+off)).take n=(L.drop off).take n:=by
    rw[k5,aC,List.drop_append,bl,bn6 ho];rw[cn (by rw[bl];omega)];rw[show o+off - o=off from by omega,cG,bN (by omega),ct (by rw[bK];omega)]
   refine⟨b,o+off,(L.drop off).take n,g,e,by rw[<-e1];exact lE k3 n,by rw[bl,bK];omega,Le.refl g,R,zJ off n k4⟩
  ·cases h
 ·
  rename_i τ xs i off sz;obtain⟨hb,h'⟩:=eB h;simp only[aA]at hb;have rr:=beq_eq hb.1;have hle:off+n<=τ.size:=aR hb.2;obtain⟨rfl,rfl⟩:=de h';refine⟨rfl,λ{B g w u} _ R hu=> ?_⟩;obtain⟨b,o,n',cap,hc,h0,h1,e⟩:=hu;obtain⟨_,A,c,e1,_,hx⟩:=hc
  injection e1 with e1
  injection e1 with e2 e3 e4
  subst rr
  rcases hx with hx|⟨b',o',L,eA,hL,hi⟩
  ·exfalso
   have:xs=[]:=hx;rw[e3,this]at h1;simp at h1
  ·rw[eA]at e2
   injection e2 with e2;injection e2 with e5 e6
   subst e5;subst e6;obtain⟨_,_,arr,ty,fr,ha,ay0⟩:=R.dC _ _ hL;have ta:Els g.dC τ xs L o:=hi;have Tp:=Rk ta h0 (by rw[<-e3];exact h1);refine⟨b,o+i.toNat*τ.size+off,(((L.drop (o+i.toNat*τ.size)).take τ.size).drop off).take n,g,e, ?_, ?_,Le.refl g,R,zJ off n (qD Tp)⟩
   ·rw[xZ _ _ _ _ _ hle,<-ay0];exact lE ha n
   ·rw[bl,bK,Tp.length];omega
 ·
  rename_i id gen i off sz;simp only[AM.run]at h;split at h
  ·rename_i g0 τ xs heq;obtain⟨hb,h'⟩:=eB h;simp only[aA]at hb;obtain rfl:=beq_eq hb.1.1;have rr:=beq_eq hb.1.2;have hle:off+n<=τ.size:=aR hb.2;obtain⟨rfl,rfl⟩:=de h';refine⟨rfl,λ{B g w u} _ R hu=> ?_⟩;obtain⟨b,o,n',cap,hc,h0,h1,e⟩:=hu;obtain⟨A,c,e1,_,hx⟩:=R.iW _ _ heq
   injection e1 with e1
   have e1:=hc.2.1.trans e1
   injection e1 with e2 e3 e4
   subst rr
   rcases hx with hx|⟨b',o',L,eA,hL,hi⟩
   ·exfalso
    rw[e3,hx]at h1;simp at h1
   ·rw[eA]at e2
    injection e2 with e2;injection e2 with e5 e6
    subst e5;subst e6;obtain⟨_,_,arr,ty,fr,ha,ay0⟩:=R.dC _ _ hL;have ta:Els g.dC τ xs L o:=hi;have Tp:=Rk ta h0 (by rw[<-e3];exact h1);refine⟨b,o+i.toNat*τ.size+off,(((L.drop (o+i.toNat*τ.size)).take τ.size).drop off).take n,g,e, ?_, ?_,Le.refl g,R,zJ off n (qD Tp)⟩
    ·rw[xZ _ _ _ _ _ hle,<-ay0];exact lE ha n
    ·rw[bl,bK,Tp.length];omega
  ·rename_i g0 τ deep xs heq;obtain⟨hb,h'⟩:=eB h;simp only[aA]at hb;obtain rfl:=beq_eq hb.1.1;have rr:=beq_eq hb.1.2;have hle:off+n<=τ.size:=aR hb.2;subst rr
   have fin:∀{B:Base} {g g1:Gh} {hp1:List (Nat×Obj)} {w:World} {u:Value} {r:Rd} {b o n' cap:Nat} {arr:Array Value} {ty:TypeId},Le g g1->HRel B g1 hp1 w->
     eC g (.own id g0) (.slice (U ⟨b,o,az⟩) n' cap)->0<=i->i.toNat<n'->u= .pointer (U ⟨b,o+i.toNat*τ.size+off,az⟩)->
     g.cv id g0= .slice (U ⟨b,0,az⟩) xs.length cap->w.heap[b]?=U (.cells arr ty (0,0))->Els r τ xs arr.toList 0->
     (∀us,Rc r τ (at_ xs i) us->dG g1 (cut off n (unpack τ (at_ xs i))) ((us.drop off).take n))->
     ∃b o us g',u= .pointer (U ⟨b,o,az⟩)/\HB w b o us/\us.length=n/\Le g g'/\HRel B g' hp1 w/\dG g' (cut off n (unpack τ (at_ xs i))) us:=by
    intro B g g1 hp1 w u r b o n' cap arr ty l R1 hc h0 h1 e pz ha ta mM;have e1:=hc.2.1.trans pz
    injection e1 with e2 e3 e4
    injection e2 with e2;injection e2 with e5 e6
    subst e6;have Tp:=Rk ta h0 (by rw[<-e3];exact h1);refine⟨b,0+i.toNat*τ.size+off,(((arr.toList.drop (0+i.toNat*τ.size)).take τ.size).drop off).take n,g1,e, ?_, ?_,l,R1,mM _ Tp⟩
    ·rw[xZ _ _ _ _ _ hle];exact lE ha n
    ·rw[bl,bK,Tp.length];omega
   have Xj:∀{B:Base} {g:Gh} {hp1:List (Nat×Obj)} {w:World} {u:Value} {b o n' cap:Nat} {dp:Bool},rk g w id (.own g0 τ dp xs)->eC g (.own id g0) (.slice (U ⟨b,o,az⟩) n' cap)->
     g.cv id g0= .slice (U ⟨b,0,az⟩) xs.length cap/\∃arr ty,w.heap[b]?=U (.cells arr ty (0,0))/\iK g id τ dp xs arr.toList:=by
    intro B g hp1 w u b o n' cap dp hO hc
    rcases hO with⟨k1,_⟩|⟨b',K8,arr,ty,k1,_,_,k4,_,_,k7⟩
    ·have:=hc.2.1.trans k1;cases this
    ·have e1:=hc.2.1.trans k1
     injection e1 with e2 e3 e4
     injection e2 with e2;injection e2 with e5 e6
     subst e5;subst e4;exact⟨k1,arr,ty,k4,k7⟩
   by_cases hd:(deep&&L4 (cut off n (unpack τ (at_ xs i))))=av
   ·simp only[hd,ah,AM.run]at h';simp at h';obtain⟨rfl,rfl⟩:=h';refine⟨rfl,λ{B g w u} _ R hu=> ?_⟩;obtain⟨b,o,n',cap,hc,h0,h1,e⟩:=hu;obtain⟨g1,l,R1⟩:=R.SO heq;have FZ:=hc.mono l.le;obtain⟨pz,arr,ty,ha,ta⟩:=Xj (B:=B) (hp1:=s.hp) (u:=u) (R1.iW _ _ (dI _ _ _)) FZ
    have Kl:g.cv id g0= .slice (U ⟨b,0,az⟩) xs.length cap:=by rw[<-pz];exact(l.le.cv _ _ (kU R heq)).symm
    refine fin l.le R1 hc h0 h1 e Kl ha (r:=g1.dC) (by unfold iK at ta;simpa using ta) (λus Tp=>zJ off n (qD Tp))
   ·have a17:(deep&&L4 (cut off n (unpack τ (at_ xs i))))=false:=(by simpa using hd);simp[a17]at h';obtain⟨rfl,rfl⟩:=de h';refine⟨rfl,λ{B g w u} _ R hu=> ?_⟩;obtain⟨b,o,n',cap,hc,h0,h1,e⟩:=hu;obtain⟨pz,arr,ty,ha,ta⟩:=Xj (B:=B) (hp1:=s'.hp) (u:=u) (R.iW _ _ heq) hc
    by_cases ac1:(deep&& !τ.flat)=av
    ·unfold iK at ta;rw[aj ac1]at ta;obtain⟨nb,hl,_⟩:=ta
     have aE8:deep=true:=by simp at ac1;exact ac1.1
     have Kh:L4 (cut off n (unpack τ (at_ xs i)))=false:=by rw[aE8]at a17;simpa using a17
     refine fin (Le.refl g) R hc h0 h1 e pz ha (r:=g.iR) hl.els (λus Tp=>U8 (g:={g with dC:=g.iR}) (g':=g) rfl rfl Kh (zJ off n (Lin.aS8 Tp)))
    ·unfold iK at ta;rw[ai ac1]at ta;exact fin (Le.refl g) R hc h0 h1 e pz ha (r:=g.dC) ta (λus Tp=>zJ off n (qD Tp))
  ·cases h
 ·rename_i xs;obtain⟨hb,h'⟩:=eB h;obtain rfl:=beq_eq hb;obtain⟨rfl,rfl⟩:=de h';refine⟨rfl,λ{B g w u} _ R hu=> ?_⟩;obtain⟨x,XY,b,p,rfl,P9,ZJ,e⟩:=hu;obtain⟨_,_,arr,ty,fr,ha,hL⟩:=R.dC _ _ P9;refine⟨b,0,[.int .i64 x],g,e, ?_,rfl,Le.refl g,R,_,[],rfl,⟨rfl,rfl⟩,rfl⟩;have:=lE (o:=0) ha 1;rw[hL]at this;exact this
 ·rename_i xs;obtain⟨hb,h'⟩:=eB h;obtain rfl:=beq_eq hb;obtain⟨rfl,rfl⟩:=de h';refine⟨rfl,λ{B g w u} _ R hu=> ?_⟩;obtain⟨x,XY,b,p,rfl,P9,ZJ,e⟩:=hu;obtain⟨_,_,arr,ty,fr,ha,hL⟩:=R.dC _ _ P9;refine⟨b,1,[p],g,e, ?_,rfl,Le.refl g,R,p,[],rfl,⟨rfl,p,rfl,ZJ⟩,rfl⟩;have:=lE (o:=1) ha 1;rw[hL]at this;exact this
 ·rename_i k;obtain⟨hb,h'⟩:=eB h;obtain rfl:=beq_eq hb;obtain⟨c,t,h1,h2⟩:=AM.dc h';obtain⟨hg,rfl⟩:=fL h1;obtain⟨rfl,rfl⟩:=de h2;refine⟨rfl,λ{B g w u} aF3 R hu=> ?_⟩
  have hg:E.gU k=U [c]:=by
   simp only[bn]at hg;obtain⟨cs,h3,h4⟩:=hg;split at h4
   ·injection h4 with h4;subst h4;exact h3
   ·cases h4
  obtain⟨v,hv,hr⟩:=aF3 k c hg;obtain⟨_,_,arr,ty,fr,ha,hL⟩:=R.dC _ _ hv;have hu:u=_:=hu;refine⟨k,0,[v],g,hu, ?_,rfl,Le.refl g,R,v,[],rfl,hr,rfl⟩;have:=lE (o:=0) ha 1;rw[hL]at this;exact this
 ·cases h
def QA (h:(Rx E d t x).run s=U (sl,s')):
  s'.env=s.env/\∀o,o.op= .load t x->∀B g a w,(∀k c,E.gU k=U [c]->∃u,g.dC k=U [u]/\eC g c u)->HRel B g s.hp w->j6 g s.env a->
  ∃v w' g',(execOp a.eval o).run E.P w= .ok (.value v) w'/\Le g g'/\HRel B g' s'.hp w'/\gT g' sl v:=by
 obtain⟨s1,t1,h1,h2⟩:=AM.dc h;obtain⟨ag,t2,h3,h4⟩:=AM.dc h2;obtain⟨rfl,r1⟩:=sQ h1;obtain⟨R9,rfl⟩:=fL h3;obtain⟨ne,t6,bc1,X7⟩:=AM.dc h4;obtain⟨rfl,mU⟩:=Uh bc1
 cases ne with
 |true=>
  obtain rfl:=mU rfl;have X7:(Js d s1).run t6=U (sl,s'):=X7;unfold Js at X7;split at X7
  ·rename_i id gen i off sz _;simp only[Ni,AM.run]at X7;split at X7
   ·rename_i g0 τ xs heq;obtain⟨hb,h5⟩:=eB X7;simp only[aA,bU]at hb;obtain⟨⟨⟨b1,b2⟩,b3⟩,b4⟩:=hb;obtain rfl:=beq_eq b1;obtain rfl:=beq_eq b2
    have hd:d≠id:=λe=>by simp_all
    split at h5
    ·rename_i e ys hs;split at h5
     ·rename_i x' hx;obtain⟨gd,t7,h6,h7⟩:=AM.dc h5;obtain⟨rfl,N0⟩:=D6 h6;obtain⟨rfl,rfl⟩:=h7;refine⟨rfl,λo ho B g a w hG R V=> ?_⟩;obtain⟨b,o',n,cap,hc,h0,UQ,e1⟩:=r1 V;have aH8:gd=g.top d:=D0 R h6;subst aH8
      have hlen:n=xs.length:=by
       rcases R.iW _ _ heq with⟨k1,k2⟩|⟨b',K8,arr,ty,k1,_⟩
       ·have:=hc.2.1.trans k1;injection this with e1 e2 e3;subst k2;simpa using e2
       ·have:=hc.2.1.trans k1;injection this with e1 e2 e3
      subst hlen;obtain⟨g',b',K8,arr,ty,u,l,k1,k2,k3,k4,R'⟩:=R.Ni heq b3 hd h0 UQ hs hx;have hh:=hc.2.1.trans k1
      injection hh with aJ2 hh2 hh3
      injection aJ2 with aJ2;injection aJ2 with aJ2 bj0
      subst aJ2;subst bj0;refine⟨u,w,g', ?_,l.le,R',k4⟩;unfold execOp;rw[ho]
      apply ic
      rw[e1]
      have p9:w.cell? ⟨b,0+i.toNat*τ.size+off,az⟩=U u:=by
       have:arr[i.toNat*τ.size+off]?=U u:=by rw[<-Array.getElem?_toList];exact k3
       simp[bs7,k2,this]
      have Km:w.cell? ⟨b,i.toNat*τ.size+off,az⟩=U u:=by rw[bJ]at p9;exact p9
      simp only[bu1,bq7,loadVar,bL,bn9,bh,yP R9,Sem.run_ite];simp[Km]
     ·cases h5
    ·cases h5
   ·cases X7
  ·cases X7
 |false=>
 obtain⟨n,t3,h5,h6⟩:=AM.dc X7;obtain⟨cs,t4,h7,h8⟩:=AM.dc h6;obtain⟨v,t5,h9,xo⟩:=AM.dc h8;obtain⟨hn,rfl⟩:=fL h5;obtain⟨rfl,rfl⟩:=de xo;obtain rfl:=Jv h9;obtain⟨he,hr⟩:=IY h7;refine⟨he,λo ho B g a w hG R V=> ?_⟩;obtain⟨b,o',us,g',e,L7,hlen,l,R',hc⟩:=hr hG R (r1 V);obtain⟨_,hv⟩:=Be h9 hc;have F6:=IB (E:=E) (w:=w) R9 hn hlen L7
 rcases hv with⟨rfl,hv⟩|⟨rfl,u,rfl,hv⟩
 ·refine⟨_,w,g', ?_,l,R',hv⟩;unfold execOp;rw[ho]
  apply ic
  rw[e];exact F6
 ·refine⟨u,w,g', ?_,l,R',hv⟩;unfold execOp;rw[ho]
  apply ic
  rw[e];exact F6
end Go.Abs
end

section
namespace Go.Abs
def Lin.length (h:Lin r τ x us nb):us.length=τ.size:=h.rc.length
def Els.head:Els r e (x::xs) L 0↔Rc r e x (L.take e.size)/\Els r e xs (L.drop e.size) 0:=by
 constructor
 ·intro h;refine⟨by have:=h 0 (by simp);simp only[Nat.zero_mul,Nat.add_zero,bY]at this;exact this,λi hi=> ?_⟩;have:=h (i+1) (by simpa using hi);simp only[List.getElem_cons_succ]at this;rw[bX]
  rwa[show e.size+(0+i*e.size)=0+(i+1)*e.size from by rw[bW];omega]
 ·rintro⟨h1,h2⟩ i hi
  cases i with
  |zero=>simpa using h1
  |succ i=>
   have:=h2 i (by simpa using hi);rw[bX]at this;simp only[List.getElem_cons_succ]
   rwa[show e.size+(0+i*e.size)=0+(i+1)*e.size from by rw[bW];omega]at this
def Els.nil:Els r e [] L 0:=λi hi=>absurd hi (by simp)
def Els.len:∀{xs:List e.den}{L:List Value},Els r e xs L 0->xs.length*e.size<=L.length
 |[],_,_=>by simp
 |x::xs,L,h=>by
  obtain⟨h1,h2⟩:=Els.head.1 h;have a:=h1.length;have b:=h2.len;rw[bl]at a;rw[bK]at b;rw[aw,bW];omega
def Els.pre:∀{xs:List e.den}{L M:List Value},(∀k,k=xs.length*e.size->L.take k=M.take k)->Els r e xs L 0->Els r e xs M 0
 |[],_,_,_,_=>Els.nil
 |x::xs,L,M,hp,h=>by
  obtain⟨h1,h2⟩:=Els.head.1 h;have hp:=hp _ rfl;rw[aw,bW,Nat.one_mul]at hp;refine Els.head.2 ⟨?_, ?_⟩
  ·have:L.take e.size=M.take e.size:=by
    have:=congrArg (bu9 e.size) hp
    rwa[cj,cj,bn6 (by omega)]at this
   rwa[<-this]
  ·refine h2.pre (λk hk=> ?_);subst hk;have:=congrArg (bu8 e.size) hp
   rwa[cz,cz,Nat.add_sub_cancel]at this
def Els.append:∀{xs ys:List e.den}{L M:List Value},Els r e xs L 0->Els r e ys M 0->L.length=xs.length*e.size->Els r e (xs++ys) (L++M) 0
 |[],ys,L,M,_,h2,hl=>by
  have:L=[]:=bu (by simpa using hl);subst this;simpa using h2
 |x::xs,ys,L,M,h1,h2,hl=>by
  obtain⟨a,b⟩:=Els.head.1 h1;rw[aw,bW,Nat.one_mul]at hl;refine Els.head.2 ⟨?_, ?_⟩
  ·rwa[ct (by omega)]
  ·show Els r e (xs++ys) _ 0;rw[bN (by omega)];exact b.append h2 (by rw[bK];omega)
def Els.set (hx:Rc r e x us):∀{xs:List e.den}{L:List Value}{i:Nat},Els r e xs L 0->i<xs.length->
  Els r e (xs.set i x) (L.take (i*e.size)++us++L.drop (i*e.size+us.length)) 0
 |[],_,_,_,hi=>absurd hi (by simp)
 |y::ys,L,i,h,hi=>by
  obtain⟨h1,h2⟩:=Els.head.1 h;have hl:=hx.length;have om:=h1.length;rw[bl]at om
  cases i with
  |zero=>
   simp only[List.set_cons_zero,Nat.zero_mul,List.take_zero,cG,bJ];refine Els.head.2 ⟨?_, ?_⟩
   ·rw[<-hl,bq8];exact hx
   ·rw[<-hl,bn0];rw[hl];exact h2
  |succ i=>
   simp only[List.set_cons_succ];have ih:=h2.set hx (i:=i) (by simpa using hi)
   have e1:(i+1)*e.size=e.size+i*e.size:=by rw[bW];omega
   refine Els.head.2 ⟨?_, ?_⟩
   ·rw[aC,ct (by rw[bl];omega),cj,bn6 (by omega)];exact h1
   ·rw[aC,bN (by rw[bl];omega),cz];rw[e1,Nat.add_sub_cancel_left,<-aC];rw[bX]at ih;rw[Nat.add_assoc];exact ih
theorem jx.pre:∀{xs:List e.den}{L M:List Value}{nb:List Nat},(∀k,k=xs.length*e.size->L.take k=M.take k)->jx r e xs L nb->jx r e xs M nb
 |[],_,_,_,_,h=>h
 |x::xs,L,M,_,hp,⟨n1,n2,en,h1,h2⟩=>by
  have hp:=hp _ rfl;rw[aw,bW,Nat.one_mul]at hp;refine⟨n1,n2,en, ?_, ?_⟩
  ·have:L.take e.size=M.take e.size:=by
    have:=congrArg (bu9 e.size) hp
    rwa[cj,cj,bn6 (by omega)]at this
   rwa[<-this]
  ·refine h2.pre (λk hk=> ?_);subst hk;have:=congrArg (bu8 e.size) hp
   rwa[cz,cz,Nat.add_sub_cancel]at this
theorem jx.append:∀{xs ys:List e.den}{L M:List Value}{n m:List Nat},jx r e xs L n->jx r e ys M m->L.length=xs.length*e.size->jx r e (xs++ys) (L++M) (n++m)
 |[],ys,L,M,n,m,h1,h2,hl=>by
  have:L=[]:=bu (by simpa using hl);have h1:n=[]:=h1;subst this;subst h1;simpa using h2
 |x::xs,ys,L,M,_,m,⟨n1,n2,en,a,b⟩,h2,hl=>by
  subst en;rw[aw,bW,Nat.one_mul]at hl;refine⟨n1,n2++m,by simp, ?_, ?_⟩
  ·rwa[ct (by omega)]
  ·show jx r e (xs++ys) _ _;rw[bN (by omega)];exact b.append h2 (by rw[bK];omega)
theorem jx.set:∀{xs:List e.den}{L:List Value}{i:Nat}{nb:List Nat},jx r e xs L nb->(hi:i<xs.length)->
  ∃na n0 nc,nb=na++n0++nc/\Lin r e xs[i] ((L.drop (i*e.size)).take e.size) n0/\
   ∀{r':Rd} {x:e.den} {us:List Value} {n1:List Nat},(∀b∈na++nc,∀L,r b=U L->r' b=U L)->Lin r' e x us n1->
    jx r' e (xs.set i x) (L.take (i*e.size)++us++L.drop (i*e.size+us.length)) (na++n1++nc)
 |[],_,_,_,_,hi=>absurd hi (by simp)
 |y::ys,L,i,_,⟨n1,n2,en,h1,h2⟩,hi=>by
  subst en;have om:=h1.length;rw[bl]at om
  cases i with
  |zero=>
   refine⟨[],n1,n2,by simp,by simpa using h1,λ{r' x us aH7} hm hx=> ?_⟩;have hl:=hx.length;simp only[List.set_cons_zero,Nat.zero_mul,List.take_zero,cG,bJ];refine⟨aH7,n2,rfl, ?_, ?_⟩
   ·rw[<-hl,bq8];exact hx
   ·rw[<-hl,bn0,hl];exact h2.mono (λb hb L hL=>hm b (by simpa using hb) L hL)
  |succ i=>
   obtain⟨na,n0,nc,e2,h3,h4⟩:=h2.set (i:=i) (by simpa using hi);subst e2
   have e1:(i+1)*e.size=e.size+i*e.size:=by rw[bW];omega
   refine⟨n1++na,n0,nc,by simp, ?_,λ{r' x us aH7} hm hx=> ?_⟩
   ·rw[bX]at h3;rw[e1];exact h3
   ·have ih:=h4 (r':=r') (x:=x) (us:=us) (n1:=aH7) (λb hb L hL=>hm b (by rcases aP.1 hb with h|h<;>simp[h]) L hL) hx;refine⟨n1,na++aH7++nc,by simp, ?_, ?_⟩
    ·rw[aC,ct (by rw[bl];omega),cj,bn6 (by omega)];exact h1.mono (λb hb L hL=>hm b (by simp[hb]) L hL)
    ·show jx r' e (ys.set i x) _ _;rw[aC,bN (by rw[bl];omega),cz];rw[e1,Nat.add_sub_cancel_left,<-aC];rw[bX]at ih;rw[Nat.add_assoc];exact ih
end Go.Abs
end

section
namespace Go.Abs
open Classical in
noncomputable def Gh.take (g:Gh)(id:Nat)(nb:List Nat):Gh:={g with gV:=λx=>if x∈nb then U (id+1)else g.gV x}
theorem Le.take (g) (id) (nb):Le g (g.take id nb):=⟨λ_ _ h=>h,λ_=>aF _,λ_ _ _=>rfl⟩
def HRel.write (R:HRel B g hp w){id b:Nat}{nb:List Nat}{o o':Obj}
  (ho:look hp id=U o) (Ho:o'.gen=o.gen) (hl:g.gV b=U (id+1)) (hn:g.iR b=az) (hw:Turned w w' b) (Cv:∀x∈nb,g.gV x=U 0)
  (XB:rk (g.take id nb) w' id o'):HRel B (g.take id nb) ((id,o')::hp) w':=by
 have hle:=Le.take g id nb;refine⟨λi=> ?_,λi oi hi=> ?_,λx L hx=> ?_,λx L hx=> ?_,λx hx=> ?_,R.mN,λx hx UG hi=> ?_,bn8 R.size hw.size,hw.os.trans R.os,hw.tape.trans R.tape,hw.output.trans R.output,λx L hx=> ?_⟩
 ·show g.top i=_;rw[R.top i]
  grind [id,dI,dA]
 ·by_cases e:id=i
  ·simp_all[dI]
  ·rw[dA _ _ e]at hi;refine(R.iW i oi hi).tr hle (λx hx=> ?_) rfl (by rw[R.top i,hi];simp)
   have BM:x≠b:=λe'=>by simp_all
   have Cg:x∉nb:=λhm=>by simp_all
   exact⟨by simp_all[Gh.take],rfl,hw.other x BM⟩
 ·have hy:g.dC x=U L:=hx;obtain⟨a1,a2,arr,ty,fr,a3,a4⟩:=R.dC x L hy
  have BM:x≠b:=λe=>by simp_all
  have Cg:x∉nb:=λhm=>by simp_all
  exact⟨by simp_all[Gh.take],a2,arr,ty,fr,(hw.other x BM).trans a3,a4⟩
 ·have hy:g.iR x=U L:=hx;obtain⟨a1,arr,ty,a3,a4⟩:=R.iR x L hy
  have BM:x≠b:=λe=>by simp_all
  refine⟨?_,arr,ty,(hw.other x BM).trans a3,a4⟩
  grind [Gh.take]
 ·by_cases Cg:x∈nb
  ·exact aV (R.iV x (by simp_all)) hw.size
  ·have XC:g.gV x≠none:=by simp_all[Gh.take]
   exact aV (R.iV x XC) hw.size
 ·obtain⟨f1,f2,f3⟩:=R.frame x hx UG hi
  have BM:x≠b:=λe=>by simp_all
  have Cg:x∉nb:=λhm=>by simp_all
  exact⟨by simp_all[Gh.take],f2,(hw.other x BM).trans f3⟩
 ·have BM:x≠b:=λe=>by
   have:=(R.dC x L (R.mN x L hx)).1;simp_all
  exact(hw.other x BM).trans (R.fix x L hx)
def tU (h:w.heap[b]?=U (.cells arr ty fr)) (cs):Turned w (w.setRow b cs) b:=by
 refine⟨λx hx=>setRow_other w b x cs hx,by simp, ?_,rfl,rfl,rfl⟩
 grind [size_setRow,bB,bo3]
def Oh (h:oc u=av):u.oneCell'=true:=by cases u<;>simp_all[oc,Value.oneCell']
def dG.an0:∀{cs:List Cell}{us:List Value},dG g cs us->∀u∈us,u.oneCell'=av
 |[],_,h,u,hu=>by have h:_=_:=h;simp_all
 |_::_,_,⟨v,r,e,hv,hr⟩,u,hu=>by
  subst e
  rcases bA.1 hu with hu|hu
  ·subst hu;exact Oh hv.Hx
  ·exact hr.an0 u hu
def dG.set (hn:dG g new us){cs:List Cell}{L:List Value} (off) (h:dG g cs L):
  dG g (setCells off new cs) (L.take off++us++L.drop (off+us.length)):=by
 unfold setCells;rw[<-hn.length];exact((h.take off).append hn).append (h.drop _)
def pK (hc:eC g c u):∀{τ:Ty}{x y:τ.den}{off:Nat}{us:List Value},kA τ x off c=U y->Rc r τ x us->
  off<us.length/\Rc r τ y (us.set off u)
 | .pr a b,x,y,off,us,h,⟨c1,c2,e,h1,h2⟩=>by
  subst e;simp[kA]at h;have l1:=h1.length;have l2:=h2.length
  cases hb:cd off a.size with
  |true=>
   rw[hb]at h;simp at h;obtain⟨z,hz,rfl⟩:=h;obtain⟨h3,h4⟩:=pK hc hz h1;refine⟨by grind,_,_, ?_,h4,h2⟩;simp_all
  |false=>
   rw[hb]at h;simp at h;obtain⟨z,hz,rfl⟩:=h;obtain⟨h3,h4⟩:=pK hc hz h2
   have La:a.size<=off:=by
    grind [cd,Nat.blt_eq]
   refine⟨by grind,_,_, ?_,h1,h4⟩;simp_all
 | .int k,x,y,off,us,h,hx=>by
  subst hx
  cases off with
  |succ n=>simp[kA]at h
  |zero=>
   cases c with
   |v τ' z=> ?_
   |_=>grind [kA]
   cases τ' with
   |int k'=> ?_
   |_=>grind [kA]
   simp only[kA]at h;split at h
   ·rename_i ek;subst ek
    injection h with h;subst h
    exact⟨by simp,by have:=lk hc;subst this;rfl⟩
   simp_all
 | .bool,x,y,off,us,h,hx=>by
  subst hx
  cases off with
  |succ n=>simp[kA]at h
  |zero=>
   cases c with
   |v τ' z=> ?_
   |_=>grind [kA]
   cases τ' with
   |bool=> ?_
   |_=>grind [kA]
   injection h with h;subst h
   exact⟨by simp,by have:=qF hc;subst this;rfl⟩
 | .str,x,y,off,us,h,hx=>by
  obtain⟨s,e,_⟩:=hx;subst e
  cases off with
  |succ n=>simp[kA]at h
  |zero=>
   cases c with
   |v τ' z=> ?_
   |_=>grind [kA]
   cases τ' with
   |str=> ?_
   |_=>grind [kA]
   simp only[kA]at h
   injection h with h;subst h
   obtain⟨s',e,l⟩:=sT hc;exact⟨by simp,s',by grind,l⟩
 | .un,_,_,_,_,h,_=>by grind [kA]
 | .sl _,_,_,_,_,h,_=>by grind [kA]
 | .cl,_,_,_,_,h,_=>by grind [kA]
def A8 (hc:eC g c u):∀{τ:Ty}{x y:τ.den}{off:Nat}{us:List Value}{nb:List Nat},kA τ x off c=U y->Lin r τ x us nb->
  off<us.length/\Lin r τ y (us.set off u) nb
 | .pr a b,x,y,off,us,nb,h,⟨c1,c2,n1,n2,e,en,h1,h2⟩=>by
  simp[kA]at h;have l1:=h1.length
  cases hb:cd off a.size with
  |true=>
   rw[hb]at h;simp at h;obtain⟨z,hz,rfl⟩:=h;obtain⟨h3,h4⟩:=A8 hc hz h1;refine⟨by grind,_,_,n1,n2, ?_,en,h4,h2⟩;simp_all
  |false=>
   rw[hb]at h;simp at h;obtain⟨z,hz,rfl⟩:=h;obtain⟨h3,h4⟩:=A8 hc hz h2
   have La:a.size<=off:=by
    grind [cd,Nat.blt_eq]
   refine⟨by grind,_,_,n1,n2, ?_,en,h1,h4⟩;simp_all
 | .int k,x,y,off,us,nb,h,hx=>by obtain⟨a,b⟩:=pK (r:=r) hc h hx.1;exact⟨a,b,hx.2⟩
 | .bool,x,y,off,us,nb,h,hx=>by obtain⟨a,b⟩:=pK (r:=r) hc h hx.1;exact⟨a,b,hx.2⟩
 | .str,x,y,off,us,nb,h,hx=>by obtain⟨a,b⟩:=pK (r:=r) (τ:= .str) hc h hx.1;exact⟨a,b,hx.2⟩
 | .un,_,_,_,_,_,h,_=>by grind [kA]
 | .sl _,_,_,_,_,_,h,_=>by grind [kA]
 | .cl,_,_,_,_,_,h,_=>by grind [kA]
def YD (L:List α) (k sz off) (u) (h1:off<sz)(h2:k+sz<=L.length):
  L.take k++((L.drop k).take sz).set off u++L.drop (k+sz)=L.take (k+off)++[u]++L.drop (k+off+1):=by
 apply bn5
 intro j;simp only[aC,List.getElem?_append,bl,bK,cA,cT,cJ,List.getElem?_set,aw,ay]
 grind
def pQ (arr:Array Value)(o:Nat)(us:List Value):Array Value:=(arr.toList.take o++us++arr.toList.drop (o+us.length)).toArray
def Ot {E:Env}(hn:E.sizeOf t=U n)(hl:v.cells.toList.length=n)
  (h:w.heap[b]?=U (.cells arr ty (0,0))) (hle:o+v.cells.toList.length<=arr.size) (h1:∀u∈v.cells.toList,u.oneCell'=av):
  (Instr.storeAt t (.pointer (U ⟨b,o,az⟩)) v).run E.P w= .ok () (w.setRow b (pQ arr o v.cells.toList)):=by
 have hs:v.cells.size=n:=(by omega);have:=run_storeCells_at (P:=E.P) b o ty v.cells.toList 0 arr w h (by omega) h1;simp only[Instr.storeAt,bq7,storeVar,bL,bn9,bh,run_sizeOf hn,Sem.run_ite,hs,ne_eq,not_true,if_false];simp_all[pQ]
def Xj {id g0:Nat}(hO:rk g w id (.own g0 τ dp xs))(hc:eC g (.own id g0) (.slice (U ⟨b,o,az⟩) n' cap)):
  o=0/\n'=xs.length/\g.cv id g0= .slice (U ⟨b,0,az⟩) xs.length cap/\g.gV b=U (id+1)/\g.iR b=az/\xs.length<=cap/\
   ∃arr ty,w.heap[b]?=U (.cells arr ty (0,0))/\arr.size=cap*τ.size/\iK g id τ dp xs arr.toList:=by
 rcases hO with⟨k1,_⟩|⟨b',K8,arr,ty,k1,k2,k3,k4,k5,k6,k7⟩
 ·have:=hc.2.1.trans k1;grind
 ·have e1:=hc.2.1.trans k1;simp_all
def iK.len {id:Nat}(h:iK g id τ dp xs L):xs.length*τ.size<=L.length:=by
 unfold iK at h;split at h
 ·obtain⟨nb,h,_⟩:=h;exact h.els.len
 ·exact h.len
def T9 {id gen:Nat}(h:(WV id gen τ deep i x).run s=U ((),s')):
  ∃xs,look s.hp id=U (.own gen τ deep xs)/\s'={s with hp:=(id, .own gen τ deep (xs.set i.toNat x))::s.hp}:=by
 simp only[WV,AM.run]at h;split at h
 ·rename_i g τ' dp xs heq;obtain⟨hb,h1⟩:=eB h;split at h1
  ·rename_i e;subst e;simp_all[AM.run,cc,cB,true_and]
  ·cases h1
 ·cases h
def On (h:(FD new sl).run s=U ((),s')):
  s'.env=s.env/\∀{B:Base} {g:Gh} {w:World} {u:Value} {us:List Value},HRel B g s.hp w->gT g sl u->dG g new us->
   ∃b o arr ty g',u= .pointer (U ⟨b,o,az⟩)/\w.heap[b]?=U (.cells arr ty (0,0))/\o+us.length<=arr.size/\Le g g'/\HRel B g' s'.hp (w.setRow b (pQ arr o us)):=by
 unfold FD at h;split at h
 ·rename_i id gen off;simp only[AM.run]at h;split at h
  ·rename_i g0 cs heq;obtain⟨hb,h'⟩:=eB h;simp only[aA]at hb;obtain rfl:=beq_eq hb.1;have hle:off+new.length<=cs.length:=aR hb.2;simp only[AM.run,cc,cB,true_and]at h';subst h';refine⟨rfl,λ{B g w u us} R hu hn=> ?_⟩;obtain⟨ht,b,o,pz,e⟩:=hu;obtain⟨b',o',arr,ty,L,k1,k2,k3,k4,k5,k6,k7⟩:=R.iW _ _ heq;rw[pz]at k1
   injection k1 with k1;injection k1 with k1;injection k1 with k1 aV0
   subst k1;subst aV0;have hL:L.length=cs.length:=k4.length;have aG3:us.length=new.length:=hn.length
   have EO:arr.size=(g.outer id).length:=by
    have:=congrArg bo0 k5;simp at this;omega
   refine⟨b,o+off,arr,ty,_,e,k3,by omega,Le.take g id [],R.write heq rfl k2.1 k2.2 (tU k3 _) (λx hx=>by simp at hx) ?_⟩;refine⟨b,o,_,ty,L.take off++us++L.drop (off+us.length),pz,⟨by simp[Gh.take,k2.1],k2.2⟩,setRow_heap w b arr _ ty _ k3,(hn.set off k4).mono (Le.take g id []), ?_, ?_, ?_⟩
   ·have ho:o<=(g.outer id).length:=(by omega)
    have e1:((g.outer id).take o).length=o:=by rw[bl];omega
    show(pQ arr (o+off) us).toList=_;unfold pQ;rw[k5];simp only[Gh.take,au,bl,bK];have e2:o+(min off L.length+us.length+(L.length - (off+us.length)))=o+L.length:=(by omega);rw[e2]
    rw[aC,aC,List.take_append,e1,bo4 (by omega),Nat.add_sub_cancel_left,
     ct (by omega),aC,List.drop_append,e1,cn (by omega),cG,
     show o+off+us.length - o=off+us.length from by omega,bN (by omega)]
    simp[aC]
   ·simp only[Gh.take,au,bl,bK];omega
   ·obtain⟨h0,h1,h2⟩:=k7;refine⟨h0, ?_,h2⟩;show(g.outer id).length=(setCells off new _).length;rw[h1];unfold setCells;simp;omega
  ·cases h
 ·rename_i id gen i off sz;simp only[AM.run]at h;split at h
  ·rename_i g0 τ deep aM5 aH9;obtain⟨hb,h'⟩:=eB h;clear h;simp only[aA]at hb;obtain rfl:=beq_eq hb.1;have rr:=beq_eq hb.2;subst rr
   cases Qc:(ax off 0&&ax new.length τ.size)with
   |true=>
    rw[Qc]at h';simp at h';simp only[aA]at Qc;have EU:=beq_eq Qc.1;have N0:=beq_eq Qc.2;subst EU;obtain⟨p,t,h1,h2⟩:=AM.dc h';obtain⟨he,hp⟩:=IE _ _ _ _ _ _ _ h1;obtain⟨xs,heq,ad6⟩:=T9 h2;subst ad6;refine⟨he,λ{B g w u us} R hu hn=> ?_⟩;obtain⟨g1,l1,R1,FZ⟩:=hp B g w R;obtain⟨Ts,X8,nb,e1,Ko,CY,hfresh⟩:=FZ us hn;obtain⟨b,o,n',cap,hc,h0,h3,e⟩:=hu;obtain⟨rfl,rfl,pz,qb,zU,hle,arr,ty,ha,aW2,ta⟩:=Xj (R1.iW _ _ heq) (hc.mono l1.le);have aG3:us.length=τ.size:=(by rw[hn.length,N0]);have sC:Ts.length=τ.size:=Ko.len
    have Cx:X8=[]:=by
     have:=congrArg bo0 e1;simp at this;exact bu (by omega)
    subst Cx;simp at e1;subst e1;have hi:i.toNat<xs.length:=h3
    have P8:i.toNat*τ.size+τ.size<=arr.size:=by
     have h5:(i.toNat+1)*τ.size<=cap*τ.size:=Nat.mul_le_mul_right _ (by omega);rw[bW]at h5;omega
    have aW5:∀x∈nb,g1.gV x=U 0:=by
     unfold Got at Ko;split at Ko
     ·exact Ko.2.2
     ·rw[Ko.2];intro x hx;simp at hx
    refine⟨b,0+i.toNat*τ.size+0,arr,ty,_,e,ha,by omega,l1.le.trans (Le.take g1 id nb),R1.write heq rfl qb zU (tU ha _) aW5 ?_⟩
    have aY5:b∉nb:=λhm=>by rw[aW5 b hm]at qb;simp at qb
    refine .inr ⟨b,cap,_,ty,by rw[cA];exact pz,by simp[Gh.take,aY5,qb],zU,setRow_heap w b arr _ ty _ ha,by rw[cA];exact hle, ?_, ?_⟩
    ·unfold pQ;simp;omega
    ·have RW:(pQ arr (0+i.toNat*τ.size+0) us).toList=arr.toList.take (i.toNat*τ.size)++us++arr.toList.drop (i.toNat*τ.size+us.length):=(by simp[pQ]);rw[RW];unfold iK at ta⊢;unfold Got at Ko
     by_cases hd:(deep&& !τ.flat)=av
     ·rw[aj hd]at ta Ko⊢;obtain⟨bf2,hl,qK,UG⟩:=ta;obtain⟨na,n0,nc,en,_,DA⟩:=hl.set hi;refine⟨na++nb++nc,DA (λb _ L hL=>hL) Ko.1, ?_,λx hx=> ?_⟩
      ·have ZR:∀x∈na++nc,x∉nb:=λx hx hm=>by
        have h1:=UG x (by rw[en];rcases aP.1 hx with h|h<;>simp[h]);rw[aW5 x hm]at h1;simp at h1
       subst en
       have Hm:(na++nc).Nodup:=by
        refine qK.sublist ?_;rw[aC];exact List.Sublist.append (List.Sublist.refl _) (List.sublist_append_right _ _)
       rw[bw]at Hm⊢;refine⟨?_,Hm.2.1,λx hx y hy e=> ?_⟩
       ·rw[bw];exact⟨Hm.1,Ko.2.1,λx hx y hy e=>ZR x (aX _ hx) (by rw[e];exact hy)⟩
       ·rcases aP.1 hx with hx|hx
        ·exact Hm.2.2 x hx y hy e
        ·exact ZR y (aZ _ hy) (by rw[<-e];exact hx)
      ·show(if x∈nb then U (id+1)else g1.gV x)=U (id+1);split
       ·rfl
       ·rename_i Cg;refine UG x ?_;rw[en]
        rcases aP.1 hx with hx|hx
        ·rcases aP.1 hx with hx|hx
         ·simp[hx]
         ·exact absurd hx Cg
        ·simp[hx]
     ·rw[ai hd]at ta Ko⊢;exact ta.set Ko.1 hi
   |false=>
    rw[Qc]at h';simp at h';split at h'
    ·rename_i c;split at h'
     ·rename_i y hy;simp only[AM.run,cc,cB,true_and]at h';subst h';refine⟨rfl,λ{B g w u us} R hu hn=> ?_⟩;obtain⟨u1,r,e1,ba3,hr⟩:=hn;have hr:r=[]:=hr;subst hr;subst e1;obtain⟨b,o,n',cap,hc,h0,h3,e⟩:=hu;obtain⟨rfl,rfl,pz,qb,zU,hle,arr,ty,ha,aW2,ta⟩:=Xj (R.iW _ _ aH9) hc;have hi:i.toNat<aM5.length:=h3
      have L7:at_ aM5 i=aM5[i.toNat]:=by unfold at_;rw[aG,aL hi];rfl
      rw[L7]at hy
      have P8:i.toNat*τ.size+τ.size<=arr.size:=by
       have h5:(i.toNat+1)*τ.size<=cap*τ.size:=Nat.mul_le_mul_right _ (by omega);rw[bW]at h5;omega
      have ao1:∀{us:List Value},us=(arr.toList.drop (i.toNat*τ.size)).take τ.size->off<us.length->
        (pQ arr (0+i.toNat*τ.size+off) [u1]).toList=arr.toList.take (i.toNat*τ.size)++us.set off u1++arr.toList.drop (i.toNat*τ.size+(us.set off u1).length)/\0+i.toNat*τ.size+off+1<=arr.size:=by
       intro us e mL
       have a65:us.length=τ.size:=by rw[e,bl,bK,cC];omega
       rw[cA,a65];refine⟨?_,by omega⟩;rw[e,YD _ _ _ _ _ (by omega) (by rw[cC];exact P8)];simp[pQ]
      have fin:off<((arr.toList.drop (i.toNat*τ.size)).take τ.size).length->iK g id τ deep (aM5.set i.toNat y) (pQ arr (0+i.toNat*τ.size+off) [u1]).toList->
        ∃b o arr ty g',u= .pointer (U ⟨b,o,az⟩)/\w.heap[b]?=U (.cells arr ty (0,0))/\o+[u1].length<=arr.size/\Le g g'/\
         HRel B g' ((id, .own g0 τ deep (aM5.set i.toNat y))::s.hp) (w.setRow b (pQ arr o [u1])):=by
       intro mL RX;obtain⟨_,aX5⟩:=ao1 rfl mL;refine⟨b,0+i.toNat*τ.size+off,arr,ty,_,e,ha,by simpa using aX5,Le.take g id [],R.write aH9 rfl qb zU (tU ha _) (λx hx=>by simp at hx) ?_⟩;refine .inr ⟨b,cap,_,ty,by rw[cA];exact pz,by simp[Gh.take,qb],zU,setRow_heap w b arr _ ty _ ha,by rw[cA];exact hle, ?_, ?_⟩
       ·unfold pQ;simp;omega
       ·unfold iK at RX⊢;split
        ·rename_i hd;rw[aj hd]at RX;obtain⟨nb,q1,q2,q3⟩:=RX;exact⟨nb,q1,q2,λx hx=>by simp[Gh.take,q3 x hx]⟩
        ·rename_i hd;rw[ai hd]at RX;exact RX
      unfold iK at ta
      by_cases hd:(deep&& !τ.flat)=av
      ·rw[aj hd]at ta;obtain⟨bf2,hl,qK,UG⟩:=ta;obtain⟨na,n0,nc,en,ad5,DA⟩:=hl.set hi;obtain⟨mL,XA⟩:=A8 ba3 hy ad5;refine fin mL ?_;unfold iK;rw[aj hd,(ao1 rfl mL).1];exact⟨na++n0++nc,DA (λb _ L hL=>hL) XA,by rw[<-en];exact qK,λx hx=>UG x (by rw[en];exact hx)⟩
      ·rw[ai hd]at ta;have ad5:=ta i.toNat hi;rw[bJ]at ad5;obtain⟨mL,XA⟩:=pK ba3 hy ad5;refine fin mL ?_;unfold iK;rw[ai hd,(ao1 rfl mL).1];exact ta.set XA hi
     ·cases h'
    ·cases h'
  ·cases h
 ·cases h
end Go.Abs
end

section
namespace Go.Abs
def Oc (h:(iT E d (.store t x y)).run s=U (sl,s')):
  s'.env=s.env/\sl= .un/\∀o,o.op= .store t x y->∀B g a w,HRel B g s.hp w->j6 g s.env a->
  ∃w' g',(execOp a.eval o).run E.P w= .ok .skip w'/\Le g g'/\HRel B g' s'.hp w':=by
 obtain⟨v,t1,h1,h2⟩:=AM.dc h;obtain⟨s1,t2,h3,h4⟩:=AM.dc h2;obtain⟨n,t3,h5,h6⟩:=AM.dc h4;obtain⟨rfl,r1⟩:=gi h1;obtain⟨rfl,r2⟩:=sQ h3;obtain⟨hn,rfl⟩:=fL h5;obtain⟨hb,h7⟩:=eB h6;have hl:=beq_eq hb;obtain⟨_,t4,h8,h9⟩:=AM.dc h7;obtain⟨rfl,rfl⟩:=de h9;obtain⟨he,hw⟩:=On h8;refine⟨he,rfl,λo ho B g a w R V=> ?_⟩;have hc:=(r1 V).cells;obtain⟨b,o',arr,ty,g',e,ha,hle,l,R'⟩:=hw R (r2 V) hc;refine⟨_,g', ?_,l,R'⟩;unfold execOp;rw[ho];have:=Ot (E:=E) (v:=a.eval y) hn (by rw[hc.length,hl]) ha hle hc.an0;simp only[bL,e,this,bh];rfl
def HRel.JZ (R:HRel B g hp w){id:Nat}{cs:List Cell}{us:List Value}(ty:TypeId)(hc:dG g cs us):
  ∃g',Le g g'/\HRel B g' ((id, .box (g.top id) (ty,cs))::hp) (World.more w (.cells us.toArray ty))/\gT g' (.val (.one (.ptr id (g.top id) 0))) (.pointer (U ⟨w.heap.size,0,az⟩)):=by
 have hle:=R.HK (id:=id) (b:=w.heap.size) (u:= .pointer (U ⟨w.heap.size,0,az⟩)) (nb:=[]) (out:=us) rfl;refine⟨_,hle,R.install rfl R.uC (zy w _) (λx hx=>by simp at hx) rfl ?_, ?_⟩
 ·refine⟨w.heap.size,0,us.toArray,ty,us,by simp[Gh.inst],⟨by simp[Gh.inst],R.uC.iR⟩,Ex w _,hc.mono hle, ?_, ?_,⟨rfl, ?_,rfl⟩⟩
  ·simp[Gh.inst]
  ·simp[Gh.inst]
  ·simp[Gh.inst,hc.length]
 ·exact⟨by simp[Gh.inst],w.heap.size,0,by simp[Gh.inst],rfl⟩
def Ec (h:(Go.Abs.JZ d ty cs).run s=U (sl,s')):
  s'.env=s.env/\∀{B:Base} {g:Gh} {w:World} {us:List Value},HRel B g s.hp w->dG g cs us->
   ∃g',Le g g'/\HRel B g' s'.hp (World.more w (.cells us.toArray ty))/\gT g' sl (.pointer (U ⟨w.heap.size,0,az⟩)):=by
 obtain⟨gen,t,h1,h2⟩:=AM.dc h
 have qc:t=s:=by
  exact(sx h1).1
 subst qc;simp only[AM.run,cc,cB]at h2;obtain⟨rfl,rfl⟩:=h2;refine⟨rfl,λ{B g w us} R hc=> ?_⟩;obtain⟨rfl,_⟩:=nP R h1;exact R.JZ ty hc
def Od (h:(iT E d (.alloc t)).run s=U (sl,s')):Yld E (.alloc t) s sl s':=by
 obtain⟨cs,t1,h1,h2⟩:=AM.dc h;obtain⟨hz,rfl⟩:=fL h1;obtain⟨he,hb⟩:=Ec h2;refine⟨he,λo ho B g a w R V=> ?_⟩;unfold Env.zeroCells at hz;simp only[bn]at hz;obtain⟨z,⟨i,hi,a42⟩,hz⟩:=hz;obtain⟨g',l,R',hs⟩:=hb R (sM hz g);refine⟨_,_,g', ?_,l,R',hs⟩;unfold execOp;rw[ho]
 apply ic
 simp[Instr.alloc,zeroValue,typeInfo,hi,a42,newVar,newRow,World.more]
def T8 (h:(iT E d (.box t x)).run s=U (sl,s')):Yld E (.box t x) s sl s':=by
 obtain⟨v,t1,h1,h2⟩:=AM.dc h;obtain⟨rfl,r1⟩:=gi h1;obtain⟨he,hb⟩:=Ec h2;refine⟨he,λo ho B g a w R V=> ?_⟩;obtain⟨g',l,R',hs⟩:=hb R (r1 V).cells;refine⟨_,_,g', ?_,l,R',hs⟩;unfold execOp;rw[ho]
 apply ic
 simp[Instr.box,newVar,newRow,World.more]
def IQ (n) (z):(rep n z).length=n*z.length:=by
 induction n with
 |zero=>simp[rep]
 |succ n ih=>simp[rep,ih,bW];omega
def SK (h:dG g z us):∀n,dG g (rep n z) (aN n us).flatten
 |0=>by simp[rep,dG]
 |n+1=>by
  rw[cD,List.flatten_cons];exact h.append (SK h n)
def OI (us:List Value) (n):((Array.range (n*us.length)).map (us.toArray[· % us.toArray.size]!)).toList=(aN n us).flatten:=by
 apply List.ext_getElem
 ·simp
 ·intro i h1 h2
  have hlen:0<us.length:=by
   rcases Nat.eq_zero_or_pos us.length with h|h
   ·simp[h]at h1
   ·exact h
  have hm:i % us.length<us.length:=bs3 _ hlen;simp only[Array.toList_map,Array.toList_range,List.getElem_map,List.getElem_range,List.size_toArray];rw[getElem!_pos us.toArray _ (by simpa using hm)]
  have Ho:∀n i h,((aN n us).flatten)[i]=us[i % us.length]'(bs3 _ hlen):=by
   intro n
   induction n with
   |zero=>intro i h;simp at h
   |succ n ih=>
    intro i h;have e:(aN (n+1) us).flatten=us++(aN n us).flatten:=(by rw[cD,List.flatten_cons]);simp only[e]at h⊢;rw[List.getElem_append];split
    ·rename_i hi;simp[Nat.mod_eq_of_lt hi]
    ·rename_i hi;rw[ih];have em:i % us.length=(i - us.length) % us.length:=Nat.mod_eq_sub_mod (by omega);simp only[em]
  rw[Ho n i h2];simp
end Go.Abs
end

section
namespace Go.Abs
def Jr (g:Gh):List (Nat×Val)->List (Nat×Value)->Prop
 |[],qs=>qs=[]
 |p::ps,qs=>∃u r,qs=(p.1,u)::r/\iL g p.2 u/\Jr g ps r
def x8:∀{xs:List (Nat×Operand)}{s s':St}{vs:List (Nat×Val)},(Ht xs).run s=U (vs,s')->s'=s/\∀{g:Gh}{a:Act},j6 g s.env a->Jr g vs (xs.map λp=>(p.1,a.eval p.2))
 |[],_,_,_,h=>by obtain⟨rfl,rfl⟩:=de h;exact⟨rfl,λ_=>rfl⟩
 |(i,x)::r,_,_,_,h=>by
  obtain⟨v,t,h1,h2⟩:=AM.dc h;obtain⟨vs,t2,h3,h4⟩:=AM.dc h2;obtain⟨rfl,rfl⟩:=de h4;obtain⟨rfl,r1⟩:=gi h1;obtain⟨rfl,r2⟩:=x8 h3;exact⟨rfl,λV=>⟨_,_,rfl,r1 V,r2 V⟩⟩
def LG (off):∀L k (cs:Array Value),off+k+L.length<=cs.size->
  ((L.zipIdx k).foldl (λcs p=>cs.setIfInBounds (off+p.2) p.1) cs).toList=cs.toList.take (off+k)++L++cs.toList.drop (off+k+L.length)
 |[],k,cs,h=>by simp
 |u::L,k,cs,h=>by
  simp;rw[LG off L (k+1) _ (by grind)];simp;rw[List.drop_set_of_lt (by omega)];rw[show off+(k+1)=(off+k)+1 from rfl,List.take_add_one];simp only[List.getElem?_set,List.take_set_of_le,aF]
  grind
def Dg (hp:∀i,place i=place' i):∀{ps:List (Nat×Val)}{qs:List (Nat×Value)}{cells F5:List Cell}{us:Array Value},
  fill place cells ps=U F5->Jr g ps qs->dG g cells us.toList->∃Qj,Instr.fill place' us qs=U Qj/\dG g F5 Qj.toList
 |[],qs,cells,F5,us,h,hq,hc=>by
  subst hq
  injection h with h;subst h
  exact⟨us,rfl,hc⟩
 |(i,x)::r,qs,cells,F5,us,h,⟨u,qr,e,hu,hr⟩,hc=>by
  subst e;simp[fill]at h;simp only[Instr.fill];rw[<-hp i]
  cases bl7:place i with
  |none=>simp_all
  |some os=>
   obtain⟨off,size⟩:=os;rw[bl7]at h;simp only at h⊢;have hx:=hu.cells;have hl:=hx.length;have ES:=hc.length
   cases hb:(ax x.cells.length size&&bo5 (off+size) cells.length)with
   |false=>simp_all
   |true=>
    rw[hb]at h;rw[ai (by simp_all)];have hf:=LG off u.cells.toList 0 us (by simp_all)
    have aG6:(u.cells.zipIdx.foldl (λcs p=>cs.setIfInBounds (off+p.2) p.1) us).toList=us.toList.take off++u.cells.toList++us.toList.drop (off+u.cells.toList.length):=by
     grind [Array.toList_zipIdx]
    refine Dg hp h hr ?_;rw[aG6];exact hx.set off hc
def I8 {P:Program}:∀{fs:List Field},(fs.all λf=>(P.info? f.type).isSome)=av->∃places,fs.mapM (λf=>(P.info? f.type).map λi=>(f.offset,i.size))=U places/\
  ∀i:Nat,places[i]?=(fs[i]?).bind λf=>((P.info? f.type).map (·.size)).map (f.offset, ·)
 |[],_=>⟨[],rfl,λi=>by simp⟩
 |f::fs,h=>by
  simp only[cE,aA]at h;obtain⟨i,hi⟩:=Option.isSome_iff_exists.1 h.1;obtain⟨places,hp,hq⟩:=I8 h.2;refine⟨(f.offset,i.size)::places,by simp_all,λk=> ?_⟩
  grind
def uM {E:Env}(h:E.zeroCells t=U cs):∃i z,E.P.info? t=U i/\i.zero=U z/\∀g,dG g cs z.cells.toList:=by
 grind [Env.zeroCells,bn,sM]
def Oy (h:(iT E d (.build t ps)).run s=U (sl,s')):Yld E (.build t ps) s sl s':=by
 obtain⟨z,t1,h1,h2⟩:=AM.dc h;obtain⟨vs,t2,h3,h4⟩:=AM.dc h2;obtain⟨cs,t3,h5,h6⟩:=AM.dc h4;obtain⟨hb,h7⟩:=eB h6;obtain⟨rfl,rfl⟩:=de h7;obtain⟨hz,rfl⟩:=fL h1;obtain⟨rfl,r1⟩:=x8 h3;obtain⟨hf,rfl⟩:=fL h5;obtain⟨it,zv,hi,a42,aq3⟩:=uM hz
 refine .still λo ho B g a w R V=> ?_
 unfold Env.sized at hb;split at hb
 ·rename_i fs hu;obtain⟨places,hp,hq⟩:=I8 hb
  obtain⟨Qj,ac7,hr⟩:=Dg (place':=λi=>places.toArray[i]?) (λi=>by
   simp_all[List.getElem?_toArray,Env.field,Env.sizeOf,Array.getElem?_toList]) hf (r1 V) (aq3 g)
  refine⟨.agg Qj, ?_,⟨Qj.toList,rfl,hr⟩⟩;simp_all[execOp,ic,run_build,Program.built]
 simp_all
def ML:∀{τ:Ty}{cells:List Cell}{x:τ.den}{rest:List Cell}{us:List Value},EF τ cells=U (x,rest)->dG g cells us->
  ∃u1 u2,us=u1++u2/\(∀r,Rc r τ x u1)/\(τ.rO=av->∀r,Lin r τ x u1 [])/\dG g rest u2
 | .un,cells,x,rest,us,h,hc=>by
  injection h with h;injection h with h1 h2;subst h2
  exact⟨[],us,rfl,λr=>rfl,λ_ r=>⟨rfl,rfl⟩,hc⟩
 | .pr a b,cells,x,rest,us,h,hc=>by
  simp only[EF,bn]at h;obtain⟨p,hp,q,hq,h⟩:=h
  injection h with h;injection h with h1 h2;subst h1;subst h2
  obtain⟨u1,u2,rfl,k1,k2,k3⟩:=ML (x:=p.1) (rest:=p.2) hp hc;obtain⟨v1,v2,rfl,m1,m2,m3⟩:=ML (x:=q.1) (rest:=q.2) hq k3;refine⟨u1++v1,v2,by simp,λr=>⟨u1,v1,rfl,k1 r,m1 r⟩,λhm r=> ?_,m3⟩;simp only[Ty.rO,aA]at hm;exact⟨u1,v1,[],[],rfl,rfl,k2 hm.1 r,m2 hm.2 r⟩
 | .int k,[],x,rest,us,h,hc=>by cases h
 | .bool,[],x,rest,us,h,hc=>by cases h
 | .str,[],x,rest,us,h,hc=>by cases h
 | .sl e,[],x,rest,us,h,hc=>by cases h
 | .cl,[],x,rest,us,h,hc=>by cases h
 | .int k,c::cs,x,rest,us,h,⟨u,r,e,hu,hr⟩=>by
  cases c<;>try(simp[EF]at h;done)
  rename_i τ' x'
  cases τ'<;>try(simp[EF]at h;done)
  rename_i k';simp only[EF]at h;split at h
  ·rename_i ek;subst ek
   injection h with h;injection h with h1 h2;subst h1;subst h2
   have hv:=lk hu;subst hv;subst e;exact⟨_,r,rfl,λ_=>rfl,λ_ _=>⟨rfl,rfl⟩,hr⟩
  simp_all
 | .bool,c::cs,x,rest,us,h,⟨u,r,e,hu,hr⟩=>by
  cases c<;>try(simp[EF]at h;done)
  rename_i τ' x'
  cases τ'<;>try(simp[EF]at h;done)
  injection h with h;injection h with h1 h2;subst h1;subst h2
  have hv:=qF hu;subst hv;subst e;exact⟨_,r,rfl,λ_=>rfl,λ_ _=>⟨rfl,rfl⟩,hr⟩
 | .str,c::cs,x,rest,us,h,⟨u,r,e,hu,hr⟩=>by
  cases c<;>try(simp[EF]at h;done)
  rename_i τ' x'
  cases τ'<;>try(simp[EF]at h;done)
  injection h with h;injection h with h1 h2;subst h1;subst h2
  obtain⟨st,hv,hl⟩:=sT hu;subst hv;subst e;exact⟨_,r,rfl,λ_=>⟨st,rfl,hl⟩,λ_ _=>⟨⟨st,rfl,hl⟩,rfl⟩,hr⟩
 | .sl e,c::cs,x,rest,us,h,⟨u,r,e',hu,hr⟩=>by
  cases c<;>try(simp[EF]at h;done)
  injection h with h;injection h with h1 h2;subst h1;subst h2
  have hv:_=_:=hu;subst hv;subst e';exact⟨_,r,rfl,λ_=>⟨az,0,rfl,aF _, .inl rfl⟩,λhm _=>⟨hm, .inl ⟨rfl,rfl,rfl⟩⟩,hr⟩
 | .cl,c::cs,x,rest,us,h,⟨u,r,e,hu,hr⟩=>by
  cases c<;>try(simp[EF]at h;done)
  injection h with h;injection h with h1 h2;subst h1;subst h2
  have hv:_=_:=hu;subst hv;subst e;exact⟨_,r,rfl,λ_=>⟨_,rfl,rfl⟩,λhm _=>by grind [Ty.rO],hr⟩
end Go.Abs
end

section
namespace Go.Abs
def kF (g:Gh)(mv:Bool)(τ:Ty)(xs:List τ.den)(L:List Value)(nb:List Nat):Prop:=
 if mv then jx g.iR τ xs L nb/\nb.Nodup/\∀b∈nb,g.gV b=U 0 else Els g.dC τ xs L 0/\nb=[]
theorem kF.mono (l:Lk g g'){mv:Bool}{τ:Ty}{xs:List τ.den}{L:List Value}{nb:List Nat}(h:kF g mv τ xs L nb):kF g' mv τ xs L nb:=by
 unfold kF at h⊢;split
 ·rename_i e;rw[aj e]at h;exact⟨h.1.mono λb hb L hL=>by rw[(l.kp b (h.2.2 b hb)).2];omega,h.2.1,λb hb=>(l.kp b (h.2.2 b hb)).1⟩
 ·rename_i e;rw[ai e]at h;exact⟨h.1.mono l.le.dC,h.2⟩
def HRel.own (R:HRel B g hp w){id b cap:Nat}{arr:Array Value}{ty:TypeId}{τ:Ty}{deep:Bool}{xs:List τ.den}{nb:List Nat}
  (hf:Free g hp w b) (hw:Turned w w' b) (ha:w'.heap[b]?=U (.cells arr ty (0,0))) (hh:kF g (deep&& !τ.flat) τ xs arr.toList nb) (hl:xs.length<=cap) (hs:arr.size=cap*τ.size):
  ∃g',Le g g'/\HRel B g' ((id, .own (g.top id) τ deep xs)::hp) w'/\eC g' (.own id (g.top id)) (.slice (U ⟨b,0,az⟩) xs.length cap):=by
 have hle:=R.HK (id:=id) (b:=b) (u:= .slice (U ⟨b,0,az⟩) xs.length cap) (nb:=nb) (out:=[]) rfl
 have Cv:∀x∈nb,g.gV x=U 0:=by
  grind [kF]
 refine⟨_,hle,R.install rfl hf hw Cv rfl (.inr ⟨b,cap,arr,ty,by simp[Gh.inst],by simp[Gh.inst],hf.iR,ha,hl,hs, ?_⟩),⟨by simp[Gh.inst],by simp[Gh.inst],rfl⟩⟩;unfold kF at hh;unfold iK;split
 ·rename_i e;rw[aj e]at hh;exact⟨nb,hh.1,hh.2.1,λx hx=>by grind [Gh.inst]⟩
 ·rename_i e;rw[ai e]at hh;exact hh.1
noncomputable def Gh.name (g:Gh)(id gen:Nat)(u:Value):Gh:=
  open Classical in
  { g with top := fun i => if i = id then gen + 1 else g.top i
           cv:=λi k=>if i=id/\k=gen then u else g.cv i k}
def HRel.named (R:HRel B g hp w){id:Nat}{u:Value}{o':Obj}(Ho:o'.gen=g.top id)(XB:rk (g.name id (g.top id) u) w id o'):
  Lk g (g.name id (g.top id) u)/\HRel B (g.name id (g.top id) u) ((id,o')::hp) w:=by
 have hle:Le g (g.name id (g.top id) u):=by
  refine⟨λ_ _ h=>h,λi=> ?_,λi k hk=> ?_⟩
  ·show g.top i<=if i=id then g.top id+1 else g.top i
   grind
  ·show(if i=id/\k=g.top id then u else g.cv i k)=g.cv i k
   grind
 refine⟨⟨hle,λb h=>⟨h,rfl⟩,rfl⟩,λi=> ?_,λi oi hi=> ?_,R.dC,R.iR,R.iV,R.mN,R.frame,R.size,R.os,R.tape,R.output,R.fix⟩
 ·show(if i=id then g.top id+1 else g.top i)=_
  by_cases e:id=i
  ·subst e;rw[dI,aj rfl];simp_all
  ·rw[dA _ _ e,ai λh=>e h.symm];exact R.top i
 ·by_cases e:id=i
  ·simp_all[dI]
  ·rw[dA _ _ e]at hi;exact(R.iW i oi hi).tr hle (λb hb=>⟨hb,rfl,rfl⟩) rfl (by rw[R.top i,hi];simp)
def HRel.ak0 (R:HRel B g hp w) (id) (τ) (deep):
  ∃g',Lk g g'/\HRel B g' ((id, .own (g.top id) τ deep [])::hp) w/\eC g' (.own id (g.top id)) (.slice az 0 0):=by
 obtain⟨l,R'⟩:=R.named (id:=id) (u:= .slice az 0 0) (o':= .own (g.top id) τ deep []) rfl (.inl ⟨by simp[Gh.name],rfl⟩);exact⟨_,l,R',⟨by simp[Gh.name],by simp[Gh.name],rfl⟩⟩
def zz (h:(JP d τ deep xs).run s=U (c,s')):
  ∃gen,(lr d).run s=U (gen,s)/\c= .own d gen/\s'={s with hp:=(d, .own gen τ deep xs)::s.hp}:=by
 obtain⟨gen,t,h1,h2⟩:=AM.dc h
 grind [sx,AM.run,cc,cB]
def Oj:∀{n:Nat}{cells:List Cell}{s s':St}{xs:List τ.den},(W3 mv τ n cells).run s=U (xs,s')->n*τ.size<=cells.length->
  s'.env=s.env/\xs.length=n/\∀B g w,HRel B g s.hp w->∃g',Lk g g'/\HRel B g' s'.hp w/\∀us,dG g cells us->
   ∃nb,kF g' mv τ xs us nb/\∀b∈nb,g.gV b≠U 0:=by
 intro n
 induction n with
 |zero=>
  intro cells s s' xs h hlen;obtain⟨rfl,rfl⟩:=de h;refine⟨rfl,rfl,λB g w R=>⟨g,Lk.refl g,R,λus hu=>⟨[], ?_,λb hb=>by simp_all⟩⟩⟩;unfold kF;split
  ·exact⟨rfl,bf,λb hb=>by simp_all⟩
  ·exact⟨Els.nil,rfl⟩
 |succ n ih=>
  intro cells s s' xs h hlen;obtain⟨p,t,h1,h2⟩:=AM.dc h;obtain⟨ys,t2,h3,h4⟩:=AM.dc h2;obtain⟨rfl,rfl⟩:=de h4;rw[bW,Nat.one_mul]at hlen;obtain⟨e1,k1⟩:=IE mv τ _ _ _ _ _ h1;obtain⟨e2,el,k2⟩:=ih h3 (by simp;omega);refine⟨e2.trans e1,by simp[el],λB g w R=> ?_⟩;obtain⟨g1,l1,R1,c1⟩:=k1 B g w R;obtain⟨g2,l2,R2,c2⟩:=k2 B g1 w R1;refine⟨g2,l1.trans l2,R2,λus hu=> ?_⟩;have a65:=hu.length;obtain⟨u1,u2,n1,e,hg,_,f1⟩:=c1 _ (hu.take τ.size);obtain⟨n2,hh,f2⟩:=c2 _ ((hu.drop τ.size).mono l1.le);have aF0:=hg.len
  have bl8:(us.take τ.size).length=τ.size:=by simp;omega
  have Cx:u2=[]:=by
   have:=congrArg bo0 e;rw[bl8,au,aF0]at this;exact bu (by omega)
  subst Cx;rw[aQ]at e;have Zs:=hg.mono l2;refine⟨n1++n2, ?_,λb hb=> ?_⟩
  ·cases mv with
   |true=>
    refine⟨⟨n1,n2,rfl,by rw[e];exact Zs.1,hh.1⟩, ?_,λb hb=> ?_⟩
    ·rw[bw];refine⟨Zs.2.1,hh.2.1,λx hx y hy e=> ?_⟩;subst e;exact f2 x hy (hg.2.2 x hx)
    ·rcases aP.1 hb with hb|hb
     ·exact Zs.2.2 b hb
     ·exact hh.2.2 b hb
   |false=>
    exact⟨Els.head.2 ⟨by rw[e];exact Zs.1,hh.1⟩,by rw[Zs.2,hh.2];rfl⟩
  ·rcases aP.1 hb with hb|hb
   ·exact f1 b hb
   ·intro e;exact f2 b hb (l1.kp b e).1
def Bl {E:Env}(h:(E.ty t).run s=U (τ,s')):s'=s:=by
 unfold Env.ty at h;split at h
 ·grind [de]
 ·cases h
def Dj {E:Env}(h:E.elem t=U e):E.P.underlying t=U (.slice e):=by
 grind [Env.elem]
def Bi {E:Env}(h:E.Py e τ=av):∃i z,E.P.info? e=U i/\i.zero=U z/\i.size=τ.size/\i.bytes<=128/\τ.size<=64/\z.cells.size=τ.size:=by
 unfold Env.Py at h;split at h
 ·rename_i i hi;simp only[aA]at h;obtain⟨⟨⟨h1,h2⟩,h3⟩,h4⟩:=h;split at h4
  all_goals simp_all
 simp_all
def Bc:∀{ps:List (Nat×Val)}{cells cs:List Cell},fill place cells ps=U cs->cs.length=cells.length
 |[],cells,cs,h=>by injection h with h;simp_all
 |(i,x)::r,cells,cs,h=>by
  simp[fill]at h;split at h
  ·rename_i off size hp
   cases hb:(ax x.cells.length size&&bo5 (off+size) cells.length)with
   |false=>simp_all
   |true=>
    rw[hb]at h;simp only[aA]at hb;have e1:=beq_eq hb.1;have e2:=aR hb.2;rw[Bc h]
    grind [setCells]
  simp_all
def Fl (h:(iT E d (.buildSlice t n ps)).run s=U (sl,s')):Yld E (.buildSlice t n ps) s sl s':=by
 obtain⟨e,t1,h1,h2⟩:=AM.dc h;obtain⟨τ,t2,h3,h4⟩:=AM.dc h2;obtain⟨z,t3,h5,h6⟩:=AM.dc h4;obtain⟨vs,t4,h7,h8⟩:=AM.dc h6;obtain⟨cs,t5,h9,xo⟩:=AM.dc h8;obtain⟨hb,vR⟩:=eB xo;obtain⟨xs,t6,rP,Ae⟩:=AM.dc vR;obtain⟨c,t7,F7,Lf⟩:=AM.dc Ae;obtain⟨rfl,rfl⟩:=de Lf;obtain⟨he,rfl⟩:=fL h1;obtain rfl:=Bl h3;obtain⟨hz,rfl⟩:=fL h5;obtain⟨rfl,r1⟩:=x8 h7;obtain⟨hf,rfl⟩:=fL h9;simp only[aA]at hb;obtain⟨i,zv,hi,aM0,rr,NU,ba0,RQ⟩:=Bi hb.1;have hn:=aR hb.2;obtain⟨i',bg5,xn,NQ,aq3⟩:=uM hz;rw[hi]at xn
 injection xn with xn;subst xn
 rw[aM0]at NQ
 injection NQ with NQ;subst NQ
 have aW4:z.length=τ.size:=by
  have:=(aq3 {dC:=λ_=>az,top:=λ_=>0,cv:=λ_ _=> .tuple #[],gV:=λ_=>az,iR:=λ_=>az,outer:=λ_=>[]}).length;rw[<-this];simpa using RQ
 obtain⟨gen,aI2,rfl,rfl⟩:=zz F7
 have ax1:(Array.range (n*τ.size)).map (λx=>zv.cells[x % zv.cells.size]!)=(aN n zv.cells.toList).flatten.toArray:=by
  have:=OI zv.cells.toList n
  apply Array.ext'
  simpa[RQ]using this
 have ES:n*τ.size<=cs.length:=by
  rw[Bc hf,IQ,aW4];exact aF _
 obtain⟨aZ2,bb6,hp⟩:=Oj rP ES;refine⟨aZ2,λo ho B g a w R V=> ?_⟩;obtain⟨Qj,ac7,hr⟩:=Dg (g:=g) (us:=(aN n zv.cells.toList).flatten.toArray) (λi=>by rw[aW4]) hf (r1 V) (by simpa using SK (aq3 g) n);obtain⟨g1,l1,R1,c1⟩:=hp B g w R;obtain⟨nb,hh,_⟩:=c1 _ hr;obtain⟨rfl,_⟩:=nP R1 aI2;have bk8:=hr.length;have aK5:cs.length=n*τ.size:=(by rw[Bc hf,IQ,aW4])
 obtain⟨g2,l2,R2,hc⟩:=R1.own (id:=d) (cap:=n) (arr:=Qj) (ty:=e) (w':=World.more w (.cells Qj e)) (deep:=Ca cs&&τ.rO&& !τ.flat) R1.uC (zy w _) (Ex w _) (nb:=nb) (xs:=xs) (by
  have:((Ca cs&&τ.rO&& !τ.flat)&& !τ.flat)=(Ca cs&&τ.rO&& !τ.flat):=by cases τ.flat<;>simp
  rw[this];exact hh) (by omega) (by simpa[aK5]using bk8)
 refine⟨.slice (U ⟨w.heap.size,0,az⟩) n n,_,g2, ?_,l1.le.trans l2,R2,by exact bb6 ▸ hc⟩;unfold execOp;rw[ho]
 apply ic
 have hu:=Dj he
 have ap5:¬ (16777216<n*τ.size):=by
  have:n*τ.size<=4096*64:=Nat.mul_le_mul hn ba0;omega
 have Kk:Instr.fill (λi=>U (i*τ.size,τ.size)) ((Array.range (n*τ.size)).map λx=>zv.cells[x % zv.cells.size]!) (ps.map λp=>(p.1,a.eval p.2)).toList=U Qj:=by
  rw[ax1];simpa using ac7
 by_cases hz0:n*τ.size=0
 ·rw[hz0,show(Array.range 0)=#[]from by simp]at Kk;simp only[Instr.buildSlice,run_underlying hu,bL,bh,sizeOf,typeInfo];simp at Kk
  have er:∀f:Nat->Value,Array.map f (Array.range 0)=#[]:=λf=>by apply Array.ext';simp
  simp[hi,rr,hz0,Kk,newRow,World.more,er]
 ·simp only[Instr.buildSlice,run_underlying hu,bL,bh,sizeOf,typeInfo,zeroValue];simp at Kk;simp[hi,aM0,rr,hz0,ap5,Kk,newRow,World.more]
end Go.Abs
end

section
namespace Go.Abs
def OB (h:Rc r τ x us):∀{l c:Nat},l<=c->Els r τ (aN l x) (aN c us).flatten 0
 |0,_,_=>Els.nil
 |l+1,0,aH0=>by omega
 |l+1,c+1,aH0=>by
  have hl:=h.length;rw[cD,cD,List.flatten_cons];simp_all[Els.head,bq8,bn0,OB]
def Po (h:Lin r τ x us []):∀{l c:Nat},l<=c->jx r τ (aN l x) (aN c us).flatten []
 |0,_,_=>rfl
 |l+1,0,aH0=>by omega
 |l+1,c+1,aH0=>by
  have hl:=h.length;rw[cD,cD,List.flatten_cons];refine⟨[],[],rfl,by simp_all, ?_⟩;simp_all[bn0,Po]
def GQ (h:(iT E d (.makeSlice t lx cx)).run s=U (sl,s')):Yld E (.makeSlice t lx cx) s sl s':=by
 obtain⟨e,t1,h1,h2⟩:=AM.dc h;obtain⟨τ,t2,h3,h4⟩:=AM.dc h2;obtain⟨z,t3,h5,h6⟩:=AM.dc h4;obtain⟨x,t4,h7,h8⟩:=AM.dc h6;obtain⟨lv,t5,h9,xo⟩:=AM.dc h8;obtain⟨l,t6,vR,rP⟩:=AM.dc xo;obtain⟨cv,t7,Ae,F7⟩:=AM.dc rP;obtain⟨c,t8,Lf,zT⟩:=AM.dc F7;obtain⟨hb,aJ8⟩:=eB zT;obtain⟨hr,aq1⟩:=pZ aJ8;obtain⟨cell,t9,aL7,DC⟩:=AM.dc aq1;obtain⟨rfl,rfl⟩:=de DC;obtain⟨he,rfl⟩:=fL h1;obtain rfl:=Bl h3;obtain⟨hz,rfl⟩:=fL h5;obtain⟨hx,rfl⟩:=fL h7;obtain⟨rfl,r1⟩:=gi h9;obtain⟨⟨kl,rfl⟩,rfl⟩:=oN vR;obtain⟨rfl,r2⟩:=gi Ae;obtain⟨⟨kc,rfl⟩,rfl⟩:=oN Lf;simp at hb hr;obtain⟨⟨h0,aH0⟩,PZ⟩:=hr;obtain⟨i,zv,hi,aM0,rr,NU,ba0,RQ⟩:=Bi hb.1;obtain⟨i',bg5,xn,NQ,aq3⟩:=uM hz;rw[hi]at xn
 injection xn with xn;subst xn
 rw[aM0]at NQ
 injection NQ with NQ;subst NQ
 obtain⟨gen,aI2,rfl,rfl⟩:=zz aL7;refine⟨rfl,λo ho B g a w R V=> ?_⟩;obtain⟨rfl,_⟩:=nP R aI2;obtain⟨x,rest⟩:=x;obtain⟨u1,u2,eu,k1,k2,k3⟩:=ML hx (aq3 g)
 have Cx:u2=[]:=by
  have hr:rest=[]:=(by simpa using hb.2);subst hr;exact k3
 subst Cx;rw[aQ]at eu;have hu:=Dj he;have aI4:c<=1099511627776:=PZ
 have au9:i.bytes*c<=281474976710656:=by
  have h1:i.bytes*c<=128*1099511627776:=Int.mul_le_mul (by omega) aI4 (by omega) (by omega);omega
 have F6:=run_make (P:=E.P) w t e i zv hu hi aM0 kl kc l c h0 aH0 au9 (by omega)
 have bm3:(madeCells zv.cells (c.toNat*i.size)).toList=(aN c.toNat u1).flatten:=by
  have:=OI zv.cells.toList c.toNat;rw[rr,<-RQ,<-eu];exact this
 obtain⟨g2,l2,R2,hc⟩:=R.own (id:=d) (cap:=c.toNat) (arr:=madeCells zv.cells (c.toNat*i.size)) (ty:=e) (w':=World.more w (.cells (madeCells zv.cells (c.toNat*i.size)) e)) (τ:=τ) (deep:=τ.rO&& !τ.flat)
  (xs:=aN l.toNat x) (nb:=[]) R.uC (zy w _) (Ex w _) (by
   rw[bm3];unfold kF;split
   ·rename_i hm;simp only[aA]at hm;exact⟨Po (k2 hm.1.1 _) (by omega),bf,λb hb=>by simp at hb⟩
   ·exact⟨OB (k1 _) (by omega),rfl⟩) (by simp;omega) (by rw[size_madeCells,rr])
 simp at hc;refine⟨_,_,g2, ?_,l2,R2,hc⟩;unfold execOp;rw[ho]
 apply ic
 have e1:a.eval lx= .int kl l:=lk (r1 V);have e2:a.eval cx= .int kc c:=lk (r2 V);rw[e1,e2,F6];rfl
def CK (h:(M1 lo).run s=U (l,s')):s'=s/\((lo=az/\l=0)\/∃k,lo=U (.one (.v (.int k) l))):=by
 cases lo with
 |none=>obtain⟨rfl,rfl⟩:=de h;simp
 |some v=>obtain⟨⟨k,rfl⟩,rfl⟩:=oN h;simp
def yf (h:(HF n hi).run s=U (l,s')):s'=s/\((hi=az/\l=n)\/∃k,hi=U (.one (.v (.int k) l))):=by
 cases hi with
 |none=>obtain⟨rfl,rfl⟩:=de h;simp
 |some v=>obtain⟨⟨k,rfl⟩,rfl⟩:=oN h;simp
def IU (h:(al3 x).run s=U (v,s')):s'=s/\∀{g:Gh}{a:Act},j6 g s.env a->
  (v=az/\x.map a.eval=az)\/∃v' u,v=U v'/\x.map a.eval=U u/\iL g v' u:=by
 cases x with
 |none=>obtain⟨rfl,rfl⟩:=de h;simp
 |some y=>
  obtain⟨w,t,h1,h2⟩:=AM.dc h;obtain⟨rfl,rfl⟩:=de h2;obtain⟨rfl,r⟩:=gi h1;simp_all
def Dn (hb:bounds len l h=av)(hc:len<=cap)
  (h1:(lo=az/\l=0)\/∃k,lo=U (.int k l)) (h2:(hi=az/\h=len)\/∃k,hi=U (.int k h)):
  (Instr.sliceBounds isSlice len cap lo hi az).run P w= .ok (l.toNat,h.toNat,cap) w:=by
 simp[bounds]at hb;have eh:h.toNat=h:=Int.toNat_of_nonneg (by omega);have aG0:h<=cap:=(by omega);have h0:0<=h:=(by omega)
 rcases h1 with⟨rfl,rfl⟩|⟨k,rfl⟩<;>rcases h2 with⟨rfl,rfl⟩|⟨k',rfl⟩
 all_goals simp_all[Instr.sliceBounds,run_sliceBound]
theorem FG (s) (l h):sub (bytesOf s) l h=bytesOf (s.extract l.toNat h.toNat):=by
 unfold sub bytesOf;rw[ByteArray.data_extract,Array.toList_extract,List.extract_eq_take_drop,<-List.map_take,<-List.map_drop,cz]
def QN (hb:bounds xs.length l h=av):(sub xs l h).length=h.toNat - l.toNat:=by
 simp_all[bounds,sub]
def ai3 (H:Rc r (.sl τ) xs [.slice A n cap])(hb:bounds xs.length l h=av):
  n=xs.length/\n<=cap/\Rc r (.sl τ) (sub xs l h) [sliced A l.toNat h.toNat cap τ.size]:=by
 obtain⟨A',c,e,hc,he⟩:=H
 injection e with e;injection e with e1 e2 e3
 subst e1;subst e2;subst e3;refine⟨rfl,hc, ?_⟩;have HO:=QN hb;simp[bounds]at hb;refine⟨_,cap - l.toNat,by unfold sliced;rw[HO],by omega, ?_⟩
 by_cases hz:sub xs l h=[]
 ·simp_all
 ·right
  rcases he with he|⟨b,o,L,rfl,hL,hi⟩
  ·simp_all[absurd,sub]
  ·have mL:l.toNat<h.toNat:=by
    grind [sub,b9]
   refine⟨b,o+l.toNat*τ.size,L, ?_,hL,λi xn=> ?_⟩
   ·rw[ai (by omega)];simp[bo8]
   grind [sub,Nat.add_assoc,bW]
def ya {E:Env}(h:(EB sz τ xs lo hi).run s=U (sl,s'))(rr:sz=E.sizeOf e)(ht:E.P.underlying t=U (.slice e)):
  s'=s/\∀{g:Gh} {w:World} {u:Value} {Kr F8:Option Value},Rc g.dC (.sl τ) xs [u]->((lo=az/\Kr=az)\/∃v' u,lo=U v'/\Kr=U u/\iL g v' u)->((hi=az/\F8=az)\/∃v' u,hi=U v'/\F8=U u/\iL g v' u)->
   ∃v,(bo2 t u Kr F8 az).run E.P w= .ok v w/\gT g sl v:=by
 unfold EB at h;split at h
 ·rename_i n;obtain⟨hb,h1⟩:=eB h;obtain⟨l,t1,h2,h3⟩:=AM.dc h1;obtain⟨hh,t2,h4,h5⟩:=AM.dc h3;obtain⟨NT,h6⟩:=pZ h5;obtain⟨rfl,rfl⟩:=de h6;obtain⟨rfl,k1⟩:=CK h2;obtain⟨rfl,k2⟩:=yf h4;refine⟨rfl,λ{g w u Kr F8} hu UT UN=> ?_⟩;obtain⟨A,c,e',hc,_⟩:=id hu
  injection e' with e'
  subst e';obtain⟨_,_,hr⟩:=ai3 hu NT;refine⟨_, ?_,⟨rfl,hr⟩⟩
  have P8:=Dn (P:=E.P) (w:=w) (isSlice:=av) (lo:=Kr) (hi:=F8) NT hc (by
   rcases k1 with⟨rfl,rfl⟩|⟨k,rfl⟩
   ·simp_all
   ·rcases UT with⟨e,rfl⟩|⟨v',u,e,rfl,hv⟩
    ·cases e
    ·injection e with e;subst e
     exact .inr ⟨k,by rw[lk hv]⟩) (by
   rcases k2 with⟨rfl,rfl⟩|⟨k,rfl⟩
   ·simp_all
   ·rcases UN with⟨e,rfl⟩|⟨v',u,e,rfl,hv⟩
    ·cases e
    ·injection e with e;subst e
     exact .inr ⟨k,by rw[lk hv]⟩)
  have hn:=beq_eq hb
  have Zu:(Go.sizeOf e).run E.P w= .ok n w:=by
   have:=rr.symm;unfold Env.sizeOf at this;simp at this;obtain⟨i,hi,a03⟩:=this;simp_all[Go.sizeOf,typeInfo]
  simp only[bo2,Instr.slice,bL,run_underlying ht,bh,P8,Zu];simp[sliced,hn]
 ·cases h
theorem KP {E:Env}(h:(M5 ((E.elem t).bind E.sizeOf) lo hi c).run s=U (sl,s'))(hf:E.fit t c=av):
  s'.env=s.env/\∀{B:Base} {g:Gh} {w:World} {u:Value} {Kr F8:Option Value},HRel B g s.hp w->eC g c u->((lo=az/\Kr=az)\/∃v' u,lo=U v'/\Kr=U u/\iL g v' u)->((hi=az/\F8=az)\/∃v' u,hi=U v'/\F8=U u/\iL g v' u)->
   ∃v g',(bo2 t u Kr F8 az).run E.P w= .ok v w/\Le g g'/\HRel B g' s'.hp w/\gT g' sl v:=by
 have ad7:∀{g g':Gh} {x:Option Val} {ux:Option Value},Le g g'->((x=az/\ux=az)\/∃v' u,x=U v'/\ux=U u/\iL g v' u)->((x=az/\ux=az)\/∃v' u,x=U v'/\ux=U u/\iL g' v' u):=
  λl h=>h.imp id λ⟨v',u,a,b,c⟩=>⟨v',u,a,b,c.mono l⟩
 unfold M5 at h;split at h
 ·rename_i st;obtain⟨l,t1,h2,h3⟩:=AM.dc h;obtain⟨hh,t2,h4,h5⟩:=AM.dc h3;obtain⟨NT,h6⟩:=pZ h5;obtain⟨rfl,rfl⟩:=de h6;obtain⟨rfl,k1⟩:=CK h2;obtain⟨rfl,k2⟩:=yf h4;refine⟨rfl,λ{B g w u Kr F8} R hu UT UN=> ?_⟩;obtain⟨sb,rfl,qc⟩:=sT hu;subst qc;rw[iw]at NT k2
  have ht:E.P.underlying t=U .string:=by
   grind [Env.fit,Cell.isStr]
  have P8:=Dn (P:=E.P) (w:=w) (isSlice:=aq) (lo:=Kr) (hi:=F8) NT (aF _) (by
   rcases k1 with⟨rfl,rfl⟩|⟨k,rfl⟩
   ·simp_all
   ·rcases UT with⟨e,rfl⟩|⟨v',u,e,rfl,hv⟩
    ·cases e
    ·injection e with e;subst e
     exact .inr ⟨k,by rw[lk hv]⟩) (by
   rcases k2 with⟨rfl,rfl⟩|⟨k,rfl⟩
   ·simp_all
   ·rcases UN with⟨e,rfl⟩|⟨v',u,e,rfl,hv⟩
    ·cases e
    ·injection e with e;subst e
     exact .inr ⟨k,by rw[lk hv]⟩)
  refine⟨.string (sb.extract l.toNat hh.toNat),g, ?_,Le.refl g,R,by rw[FG];exact Rw g _⟩;simp_all[bo2,Instr.slice,bL,run_underlying,bh]
 ·rename_i τ xs
  have ht:∃e,E.P.underlying t=U (.slice e):=by
   unfold Env.fit at hf;split at hf
   ·simp[Cell.isStr]at hf
   ·exact⟨_,by assumption⟩
   ·cases hf
  obtain⟨e,ht⟩:=ht;obtain⟨rfl,hs⟩:=ya (E:=E) (t:=t) (e:=e) h (by simp[Env.elem,ht]) ht;refine⟨rfl,λ{B g w u Kr F8} R hu UT UN=> ?_⟩;obtain⟨v,h1,h2⟩:=hs (w:=w) hu.2 UT UN;exact⟨v,g,h1,Le.refl g,R,h2⟩
 ·rename_i id gen
  have ht:∃e,E.P.underlying t=U (.slice e):=by
   unfold Env.fit at hf;split at hf
   ·simp[Cell.isStr]at hf
   ·exact⟨_,by assumption⟩
   ·cases hf
  obtain⟨e,ht⟩:=ht;simp only[AM.run]at h;split at h
  ·rename_i g0 τ deep xs heq;obtain⟨hb,h'⟩:=eB h;obtain rfl:=beq_eq hb;obtain⟨rfl,hs⟩:=ya (E:=E) (t:=t) (e:=e) h' (by simp[Env.elem,ht]) ht;refine⟨rfl,λ{B g w u Kr F8} R hu UT UN=> ?_⟩;obtain⟨g',l,R'⟩:=R.Jy heq;have hP:Rc _ _ _ _:=R'.iW _ _ (dI _ _ _);rw[show g'.cv id g0=g.cv id g0 from l.le.cv _ _ (kU R heq),<-hu.2.1]at hP;obtain⟨v,h1,h2⟩:=hs (w:=w) hP (ad7 l.le UT) (ad7 l.le UN);exact⟨v,g',h1,l.le,R',h2⟩
  ·rename_i g0 τ xs heq;obtain⟨hb,h'⟩:=eB h;obtain rfl:=beq_eq hb;obtain⟨rfl,hs⟩:=ya (E:=E) (t:=t) (e:=e) h' (by simp[Env.elem,ht]) ht;refine⟨rfl,λ{B g w u Kr F8} R hu UT UN=> ?_⟩;have hP:Rc _ _ _ _:=R.iW _ _ heq;rw[<-hu.2.1]at hP;obtain⟨v,h1,h2⟩:=hs (w:=w) hP UT UN;exact⟨v,g,h1,Le.refl g,R,h2⟩
  ·cases h
 ·cases h
def KC {E:Env}{d id gen:Nat}(h:(MI d id gen ((E.elem t).bind E.sizeOf) hi).run s=U (sl,s'))(hf:E.fit t (.own id gen)=av):
  s'.env=s.env/\∀{B:Base} {g:Gh} {w:World} {u:Value} {Kr F8:Option Value},HRel B g s.hp w->eC g (.own id gen) u->Kr=az->((hi=az/\F8=az)\/∃v' u,hi=U v'/\F8=U u/\iL g v' u)->
   ∃v g',(bo2 t u Kr F8 az).run E.P w= .ok v w/\Le g g'/\HRel B g' s'.hp w/\gT g' sl v:=by
 have ht:∃e,E.P.underlying t=U (.slice e):=by
  grind [Env.fit,Cell.isStr]
 obtain⟨e,ht⟩:=ht;simp only[MI,AM.run]at h;split at h
 ·rename_i g0 τ dp xs heq;obtain⟨hb,h1⟩:=eB h;simp only[aA,bU]at hb;obtain⟨⟨b1,b2⟩,b3⟩:=hb;obtain rfl:=beq_eq b1
  have hd:d≠id:=λe=>by simp_all
  split at h1
  ·rename_i n rr;obtain⟨hn,h2⟩:=eB h1;obtain rfl:=beq_eq hn;obtain⟨hh,t1,h3,h4⟩:=AM.dc h2;obtain⟨rfl,k2⟩:=yf h3;obtain⟨NT,h5⟩:=pZ h4;obtain⟨gd,t2,h6,h7⟩:=AM.dc h5;obtain⟨rfl,_⟩:=D6 h6;obtain⟨rfl,rfl⟩:=h7;refine⟨rfl,λ{B g w u Kr F8} R hu UT UN=> ?_⟩;subst UT;have aH8:=D0 R h6;subst aH8;have X4:=NT;simp[bounds]at X4;have pz:=hu.2.1;have Zu:(Go.sizeOf e).run E.P w= .ok τ.size w:=run_sizeOf (by simp_all[Env.elem]) w
   have aP5:(hi=az/\F8=az/\hh=xs.length)\/(∃k,F8=U (.int k hh)):=by
    rcases k2 with⟨rfl,rfl⟩|⟨k,rfl⟩
    ·simp_all
    ·rcases UN with⟨e,rfl⟩|⟨v',u,e,rfl,hv⟩
     ·cases e
     ·injection e with e;subst e
      exact .inr ⟨k,by rw[lk hv]⟩
   have P8:=λcap hc=>Dn (P:=E.P) (w:=w) (isSlice:=av) (cap:=cap) (lo:=az) (hi:=F8) NT hc (.inl ⟨rfl,rfl⟩) (by
    rcases aP5 with⟨_,a,b⟩|⟨k,a⟩
    ·exact .inl ⟨a,b⟩
    ·exact .inr ⟨k,a⟩)
   rcases R.iW _ _ heq with⟨o1,o2⟩|⟨b,cap,arr,ty,o1,o2,o3,o4,o5,o6,o7⟩
   ·subst o2;rw[o1]at pz
    have h0:hh=0:=by simp at X4;omega
    subst h0;obtain⟨l,R'⟩:=R.named (id:=d) (u:= .slice az 0 0) (o':= .own (g.top d) τ av []) rfl (.inl ⟨by simp[Gh.name],rfl⟩)
    have R2:HRel B (g.name d (g.top d) (.slice az 0 0)) ((id, .dead g0)::(d, .own (g.top d) τ av (bu9 (Int.toNat 0) []))::t2.hp) w:=by
     refine HRel.put (o:= .own g0 τ dp []) R' ?_ rfl trivial;rw[dA _ _ hd];exact heq
    refine⟨.slice az 0 0,_, ?_,l.le,R2,⟨by simp[Gh.name],by simp[Gh.name],rfl⟩⟩;have:=P8 0 (aF _);simp only[bo2,Instr.slice,bL,run_underlying ht,bh,pz,ay]at this⊢;simp only[this,Zu,bh];simp[]
   ·rw[o1]at pz;unfold iK at o7;rw[b2]at o7;simp at o7
    have hlen:(xs.take hh.toNat).length=hh.toNat:=by simp;omega
    let g':Gh:={g with top:=λi=>if i=d then g.top d+1 else g.top i,cv:=λi k=>if i=d/\k=g.top d then .slice (U ⟨b,0,az⟩) hh.toNat cap else g.cv i k,gV:=λx=>if x=b then U (d+1)else g.gV x}
    have hle:Le g g':=by
     refine⟨λ_ _ h=>h,λj=> ?_,λj k hk=> ?_⟩
     ·show g.top j<=if j=d then g.top d+1 else g.top j
      split
      ·rename_i e;subst e;omega
      ·exact aF _
     ·show(if j=d/\k=g.top d then _ else g.cv j k)=g.cv j k;rw[ai];rintro⟨rfl,rfl⟩;omega
    have qb:∀x,x≠b->g'.gV x=g.gV x:=λx hx=>by simp[g',hx]
    have newObj:rk g' w d (.own (g.top d) τ av (xs.take hh.toNat)):=by
     refine .inr ⟨b,cap,arr,ty,by simp[g',hlen],by simp[g'],o3,o4,by omega,o6, ?_⟩;unfold iK;rw[b2];simp;intro i hi
     have xn:i<xs.length:=by rw[hlen]at hi;omega
     have e1:(xs.take hh.toNat)[i]=xs[i]:=(by simp);rw[e1];exact o7 i xn
    have R2:HRel B g' ((d, .own (g.top d) τ av (xs.take hh.toNat))::(id, .dead g0)::t2.hp) w:=by
     refine⟨λj=> ?_,λj oj hj=> ?_,λx L hx=> ?_,λx L hx=> ?_,λx hx=> ?_,R.mN,λx hx hl hi=> ?_,R.size,R.os,R.tape,R.output,R.fix⟩
     ·show(if j=d then g.top d+1 else g.top j)=_
      by_cases e2:d=j
      ·subst e2;rw[dI,aj rfl];rfl
      ·rw[dA _ _ e2,ai (Ne.symm e2)]
       by_cases e1:id=j
       ·subst e1;rw[dI,R.top id,heq];rfl
       ·rw[dA _ _ e1];exact R.top j
     ·by_cases e2:d=j
      ·subst e2;rw[dI]at hj;injection hj with hj;subst hj;exact newObj
      ·rw[dA _ _ e2]at hj
       by_cases e1:id=j
       ·subst e1;rw[dI]at hj;injection hj with hj;subst hj;trivial
       ·rw[dA _ _ e1]at hj;refine(R.iW j oj hj).tr hle (λx hx=> ?_) rfl (kU R hj)
        have:x≠b:=λe=>by subst e;rw[o2]at hx;simp at hx;exact e1 hx
        exact⟨(qb x this).trans hx,rfl,rfl⟩
     ·obtain⟨a1,a2,a3⟩:=R.dC x L hx
      have:x≠b:=λe=>by subst e;rw[o2]at a1;cases a1
      exact⟨(qb x this).trans a1,a2,a3⟩
     ·obtain⟨a1,a2⟩:=R.iR x L hx;refine⟨?_,a2⟩
      by_cases e:x=b
      ·subst e;simp[g']
      ·rw[qb x e];exact a1
     ·by_cases e:x=b
      ·subst e;exact R.iV x (by rw[o2];simp)
      ·rw[qb x e]at hx;exact R.iV x hx
     ·obtain⟨f1,f2,f3⟩:=R.frame x hx hl hi
      have:x≠b:=λe=>by subst e;rw[o2]at f1;cases f1
      exact⟨(qb x this).trans f1,f2,f3⟩
    have R3:HRel B g' ((id, .dead g0)::(d, .own (g.top d) τ av (xs.take hh.toNat))::t2.hp) w:=R2.ag4 λi=>by
     by_cases e1:id=i
     ·subst e1;rw[dI,dA _ _ hd,dI]
     ·by_cases e2:d=i
      ·subst e2;rw[dI,dA _ _ e1,dI]
      ·rw[dA _ _ e1,dA _ _ e2,dA _ _ e2,dA _ _ e1]
    refine⟨.slice (U ⟨b,0,az⟩) hh.toNat cap,g', ?_,hle,R3,⟨by simp[g'],by simp[g'],rfl⟩⟩;have:=P8 cap o5;simp only[bo2,Instr.slice,bL,run_underlying ht,bh,pz]at this⊢;simp[this,Zu];simp[Ek]
  ·cases h1
 ·cases h
def Of (h:(iT E d (.slice t x lo hi az)).run s=U (sl,s')):Yld E (.slice t x lo hi az) s sl s':=by
 obtain⟨v,t1,h1,h2⟩:=AM.dc h;obtain⟨c,t2,h3,h4⟩:=AM.dc h2;obtain⟨ba5,t3,h5,h6⟩:=AM.dc h4;obtain⟨xn,t4,h7,h8⟩:=AM.dc h6;obtain⟨hf,h9⟩:=eB h8;obtain⟨rfl,r1⟩:=gi h1;obtain⟨rfl,rfl⟩:=yQ h3;obtain⟨rfl,r2⟩:=IU h5;obtain⟨rfl,r3⟩:=IU h7
 obtain⟨he,hs⟩:s'.env=_/\∀{B:Base} {g:Gh} {w:World} {u:Value} {Kr F8:Option Value},HRel B g _ w->eC g c u->((ba5=az/\Kr=az)\/∃v' u,ba5=U v'/\Kr=U u/\iL g v' u)->((xn=az/\F8=az)\/∃v' u,xn=U v'/\F8=U u/\iL g v' u)->
   ∃v g',(bo2 t u Kr F8 az).run E.P w= .ok v w/\Le g g'/\HRel B g' s'.hp w/\gT g' sl v:=by
  split at h9
  ·obtain⟨a,b⟩:=KC h9 hf;refine⟨a,λ{B g w u Kr F8} R hu UT UN=>b R hu ?_ UN⟩;simp_all
  grind [KP]
 refine⟨he,λo ho B g a w R V=> ?_⟩;obtain⟨v,g',k1,k2,k3,k4⟩:=hs R (r1 V) (r2 V) (r3 V)
 grind [execOp,ic]
def CS:∀(ns:List Int) s,bytesOf (ns.foldl (λr n=>r.push (UInt8.ofNat n.toNat)) s)=bytesOf s++ns.map byte
 |[],s=>by simp
 |n::ns,s=>by
  rw[List.foldl_cons,CS ns]
  have:bytesOf (s.push (UInt8.ofNat n.toNat))=bytesOf s++[byte n]:=by
   simp_all[bytesOf,byte,ByteArray.data_push]
  simp_all
def Sr {xs:List Int}(h:∀i hi,w.cell? ⟨b,o+i,az⟩=U (.int .u8 xs[i])):
  ∃st,(Conv.bytesToString (.slice (U ⟨b,o,az⟩) xs.length cap)).run P w= .ok (.string st) w/\bytesOf st=xs.map byte:=by
 have hl:=run_loadCells_list (P:=P) w ⟨b,o,az⟩ (xs.map (bQ .u8)) (λj v hj=>by
  simp at hj;obtain⟨x,hx,rfl⟩:=hj;obtain⟨hj,rfl⟩:=cr.1 hx
  simp_all[bo8])
 rw[cH]at hl;refine⟨_,run_bytesToString w ⟨b,o,az⟩ xs.length cap xs (by omega), ?_⟩;rw[CS];rfl
def FH {w:World}{xs:List Int}(ha:w.heap[b]?=U (.cells arr ty fr))(h:Els r (.int .u8) xs arr.toList o):
  ∀i hi,w.cell? ⟨b,o+i,az⟩=U (.int .u8 xs[i]):=by
 intro i hi;have h1:_=_:=h i hi
 have:=lE ha (o:=o+i) 1 0 (.int .u8 xs[i]) (by
  have h1:bu9 1 (bu8 (o+i*1) arr.toList)=[bQ .u8 xs[i]]:=h1
  simp_all)
 omega
def Pr (R:HRel B g hp w){xs:List Int}{u:Value}(h:Rc g.dC (.sl (.int .u8)) xs [u]):
  ∃st,(Conv.bytesToString u).run P w= .ok (.string st) w/\bytesOf st=xs.map byte:=by
 obtain⟨A,c,e,hc,he⟩:=h
 injection e with e
 subst e
 cases A with
 |none=>
  rcases he with he|⟨b,o,L,e,_⟩
  ·subst he;exact⟨.empty,by rfl,rfl⟩
  simp_all
 |some a=>
  rcases he with he|⟨b,o,L,e,hL,hi⟩
  ·subst he;have hl:=run_loadCells_list (P:=P) w a [] (λj v hj=>by simp_all);exact⟨_,run_bytesToString w a 0 c [] hl,rfl⟩
  ·injection e with e
   subst e;obtain⟨_,_,arr,ty,fr,k1,k2⟩:=R.dC _ _ hL;subst k2;exact Sr (FH k1 hi)
def KF (h:(iT E d (.convert src dst x)).run s=U (sl,s')):Yld E (.convert src dst x) s sl s':=by
 obtain⟨v,t1,h1,h2⟩:=AM.dc h;obtain⟨rfl,r1⟩:=gi h1;unfold convert at h2;split at h2
 ·rename_i k0 k hs hd;obtain⟨n,t2,h3,h4⟩:=AM.dc h2;obtain⟨⟨k',rfl⟩,rfl⟩:=oN h3;obtain⟨rfl,rfl⟩:=de h4
  refine .still λo ho B g a w R V=>⟨.int k (k.wrap n), ?_,zL g _ _⟩
  unfold execOp;rw[ho]
  apply ic
  rw[lk (r1 V)];simp_all[Go.convert,run_underlying,Conv.intToInt]
 ·rename_i e hs hd;split at h2
  ·rename_i c he
   have fin:∀{xs:List Int},sl=ws (xs.map byte)->s'=t1->(∀{B:Base} {g:Gh} {w:World} {u:Value},HRel B g t1.hp w->eC g c u->(∃A n c,u= .slice A n c)/\∃st,(Conv.bytesToString u).run E.P w= .ok (.string st) w/\bytesOf st=xs.map byte)->
     Yld E (.convert src dst x) t1 sl s':=by
    rintro xs rfl rfl hf
    refine .still λo ho B g a w R V=> ?_
    obtain⟨⟨A,n,c,e⟩,st,k1,k2⟩:=hf R (r1 V);refine⟨.string st, ?_,by grind [Rw]⟩;simp_all[execOp,ic,run_convert_bytes_string]
   split at h2
   ·obtain⟨rfl,rfl⟩:=de h2
    refine fin rfl rfl λ{B g w u} R hu=>⟨?_,Pr R hu.2⟩
    obtain⟨_,A,c,e,_⟩:=hu;simp_all
   ·obtain⟨rfl,rfl⟩:=de h2
    refine fin (xs:=[]) rfl rfl λ{B g w u} R hu=> ?_
    have hu:_=_:=hu;subst hu;exact⟨⟨_,_,_,rfl⟩, .empty,by rfl,rfl⟩
   ·rename_i id gen;simp only[AM.run]at h2;split at h2
    ·rename_i g0 deep xs heq;obtain⟨hb,h'⟩:=eB h2;obtain rfl:=beq_eq hb;obtain⟨rfl,rfl⟩:=de h'
     refine fin rfl rfl λ{B g w u} R hu=> ?_
     rcases R.iW _ _ heq with⟨k1,k2⟩|⟨b,cap,arr,ty,k1,k2,k3,k4,k5,k6,k7⟩
     ·subst k2;rw[hu.2.1,k1];exact⟨⟨_,_,_,rfl⟩, .empty,by simp[Conv.bytesToString],rfl⟩
     ·rw[hu.2.1,k1];refine⟨⟨_,_,_,rfl⟩,Sr (FH (r:=g.dC) k4 ?_)⟩;unfold iK at k7;rw[ai (by simp[Ty.flat])]at k7;exact k7
    ·rename_i g0 xs heq;obtain⟨hb,h'⟩:=eB h2;obtain rfl:=beq_eq hb;obtain⟨rfl,rfl⟩:=de h'
     refine fin rfl rfl λ{B g w u} R hu=> ?_
     have hP:Rc _ _ _ _:=R.iW _ _ heq;rw[<-hu.2.1]at hP;refine⟨?_,Pr R hP⟩;obtain⟨A,c,e,_⟩:=hP
     injection e with e
     exact⟨A,_,c,e⟩
    ·cases h2
   ·cases h2
  ·cases h2
 ·rename_i e hs hd;split at h2
  ·rename_i l he;obtain⟨rfl,rfl⟩:=de h2;refine⟨rfl,λo ho B g a w R V=> ?_⟩;obtain⟨st,e1,qc⟩:=sT (r1 V)
   have hl:bo0 l=st.size:=by rw[qc];exact iw st
   have hT:Turned w (Lib.bytesWorld w e st) w.heap.size:=by
    refine⟨λx hx=> ?_,by rw[Lib.bytesWorld_size];omega,by rw[Lib.bytesWorld_size];omega,rfl,rfl,rfl⟩
    rcases bB x w.heap.size with h|h
    ·exact Lib.bytesWorld_at_old w e st x h
    ·rw[bo3 (by rw[Lib.bytesWorld_size];omega),bo3 h]
   obtain⟨g',hle,hi,R'⟩:=R.ak3 hT (Lib.bytesWorld_at_new w e st);refine⟨.slice (U ⟨w.heap.size,0,az⟩) st.size (grownCap w st.size 0 e),_,g', ?_,hle,R', ?_⟩
   ·unfold execOp;rw[ho]
    apply ic
    rw[e1];exact Lib.run_convert_string_bytes w _ _ e st hs hd he
   ·refine⟨rfl,U ⟨w.heap.size,0,az⟩,_,by rw[<-hl], ?_, .inr ⟨w.heap.size,0,_,rfl,hi,λi xn=> ?_⟩⟩
    ·rw[hl];exact grownCap_ge w st.size 0 e
    ·have a03:i<st.data.toList.length:=by
      have:i<st.size:=by rw[<-hl];exact xn
      rw[cC];exact this
     show bu9 1 (bu8 (0+i*1) (Lib.bytesCells w e st).toList)=[bQ .u8 l[i]];rw[bJ,bs8];unfold Lib.bytesCells;rw[Array.toList_append,Array.toList_map,bN (by simp;omega)];have hlen:i<(st.data.toList.map λb=>bQ .u8 b.toNat).length:=(by simpa using a03);rw[bG hlen];simp
     congr 2
     have:l[i]=(bytesOf st)[i]'(by rw[<-qc];exact xn):=(by simp[qc]);rw[this];simp[bytesOf]
  ·cases h2
 ·cases h2
def Cl (h:(iT E d (.makeInterface t x)).run s=U (sl,s')):Yld E (.makeInterface t x) s sl s':=by
 obtain⟨v,t1,h1,h2⟩:=AM.dc h;obtain⟨rfl,r1⟩:=gi h1;split at h2
 ·cases h2
 ·rename_i u hu ht;obtain⟨rfl,rfl⟩:=de h2
  refine .still λo ho B g a w R V=>⟨.iface t (a.eval x), ?_, .inr ⟨rfl,_,_,rfl⟩⟩
  unfold execOp;rw[ho]
  apply ic
  simp only[Instr.makeInterface,run_underlying ht,bL,bh];rfl
 ·cases h2
end Go.Abs
end

section
namespace Go.Abs
def HRel.Wl (R:HRel B g hp w){id gen:Nat}{τ:Ty}{deep:Bool}{xs:List τ.den}
  (h:look hp id=U (.own gen τ deep xs)):∃g' nb,Lk g g'/\HRel B g' ((id, .dead gen)::hp) w/\(∀b∈nb,g.gV b≠U 0)/\
   ((g'.cv id gen= .slice az 0 0/\xs=[]/\nb=[])\/∃b cap arr ty,g'.cv id gen= .slice (U ⟨b,0,az⟩) xs.length cap/\Free g' ((id, .dead gen)::hp) w b/\b∉nb/\b<w.heap.size/\w.heap[b]?=U (.cells arr ty (0,0))/\
    xs.length<=cap/\arr.size=cap*τ.size/\kF g' (deep&& !τ.flat) τ xs arr.toList nb):=by
 have ae2:∀i,i=id->∀o,look ((id,Obj.dead gen)::hp) i=U o->∃gn,o= .dead gn:=by
  rintro i rfl o ho
  grind [dI]
 rcases R.iW _ _ h with⟨h1,h2⟩|⟨b,cap,arr,ty,h1,h2,h3,h4,h5,h6,h7⟩
 ·exact⟨g,[],Lk.refl g,R.put h rfl trivial,λb hb=>by simp_all, .inl ⟨h1,h2,rfl⟩⟩
 ·have Qk:b<w.heap.size:=R.iV b (by simp_all)
  have ad9:g.dC b=none:=by
   cases hi:g.dC b with
   |none=>rfl
   |some L=>have:=(R.dC b L hi).1;simp_all
  unfold iK at h7;split at h7
  ·rename_i hd;obtain⟨nb,k1,k2,k3⟩:=h7
   have NW:b∉nb:=λhm=>k1.xb b hm h3
   let g':Gh:={g with gV:=open Classical in λx=>if x∈nb then U 0 else g.gV x}
   have hle:Le g g':=⟨λ_ _ h=>h,λ_=>aF _,λ_ _ _=>rfl⟩
   have hR:HRel B g' ((id, .dead gen)::hp) w:=by
    refine⟨λi=> ?_,λi oi hi=> ?_,λx L hx=> ?_,λx L hx=> ?_,λx hx=> ?_,R.mN,λx hx hl hi=> ?_,R.size,R.os,R.tape,R.output,R.fix⟩
    ·show g.top i=_;rw[R.top i]
     by_cases e:id=i
     ·subst e;rw[dI,h];rfl
     simp_all[dA]
    ·by_cases e:id=i
     ·subst e;rw[dI]at hi;injection hi with hi;subst hi;trivial
     ·rw[dA _ _ e]at hi;refine(R.iW i oi hi).tr hle (λx hx=> ?_) rfl (by rw[R.top i,hi];simp)
      grind
    ·obtain⟨a1,a2,a3⟩:=R.dC x L hx
     grind
    ·obtain⟨a1,a2⟩:=R.iR x L hx
     grind
    ·by_cases Cg:x∈nb
     ·exact R.iV x (by simp_all)
     ·exact R.iV x (by grind)
    ·obtain⟨f1,f2,f3⟩:=R.frame x hx hl hi
     have Cg:x∉nb:=λhm=>by rw[k3 x hm]at f1;cases f1
     exact⟨by simp[g',Cg,f1],f2,f3⟩
   refine⟨g',nb,⟨hle,λx hx=> ?_,rfl⟩,hR,λx hx=>by rw[k3 x hx];simp, .inr ⟨b,cap,arr,ty,h1,⟨λi hi o ho=> ?_, ?_,ad9,h3,λhn=> ?_⟩,NW,Qk,h4,h5,h6, ?_⟩⟩
   ·have Cg:x∉nb:=λhm=>by rw[k3 x hm]at hx;simp at hx
    simp[g',Cg,hx]
   ·have xn:g.gV b=U (i+1):=by simpa[g',NW]using hi
    rw[h2]at xn;simp at xn;exact ae2 i xn.symm o ho
   ·simp[g',NW,h2]
   ·simp[g',NW,h2]at hn
   ·unfold kF;rw[aj hd];exact⟨k1,k2,λx hx=>by simp[g',hx]⟩
  ·rename_i hd;refine⟨g,[],Lk.refl g,R.put h rfl trivial,λx hx=>by simp at hx, .inr ⟨b,cap,arr,ty,h1,⟨λi hi o ho=> ?_,by rw[h2];simp,ad9,h3,λhn=>by rw[h2]at hn;cases hn⟩,by simp,Qk,h4,h5,h6, ?_⟩⟩
   ·rw[h2]at hi;simp at hi;exact ae2 i hi.symm o ho
   ·unfold kF;rw[ai hd];exact⟨h7,rfl⟩
def HRel.settle (R:HRel B g hp w){nb:List Nat}(h0:∀x∈nb,g.gV x=U 0):Le g (g.rJ (nbS g nb))/\HRel B (g.rJ (nbS g nb)) hp w:=by
 have hS:∀x L,nbS g nb x=U L->g.gV x=U 0/\∃arr ty fr,w.heap[x]?=U (.cells arr ty fr)/\arr.toList=L:=by
  intro x L hx;unfold nbS at hx;split at hx
  ·rename_i hm;obtain⟨_,arr,ty,a,b⟩:=R.iR x L hx;simp_all
  simp_all
 have hle:Le g (g.rJ (nbS g nb)):=by
  refine⟨λb L h=> ?_,λ_=>aF _,λ_ _ _=>rfl⟩;show(match nbS g nb b with|some L=>U L|none=>g.dC b)=U L
  cases hs:nbS g nb b with
  |none=>exact h
  |some L'=>exact absurd (hS b L' hs).1 (by rw[(R.dC b L h).1];simp)
 refine⟨hle,λi=>R.top i,λi oi hi=> ?_,λb L h=> ?_,λb L h=> ?_,λb h=> ?_,λb L h=>hle.dC _ _ (R.mN b L h),λb hb hl hi=> ?_,R.size,R.os,R.tape,R.output,R.fix⟩
 ·refine(R.iW i oi hi).tr hle (λb hb=> ?_) rfl (by rw[R.top i,hi];simp)
  grind [nbS,absurd,Gh.rJ]
 ·simp only[Gh.rJ]at h⊢
  cases hs:nbS g nb b with
  |some L'=>
   simp_all
  |none=>rw[hs]at h;exact R.dC b L h
 ·simp only[Gh.rJ]at h⊢
  cases hs:nbS g nb b with
  |some L'=>simp_all
  |none=>rw[hs]at h;exact R.iR b L h
 ·simp only[Gh.rJ]at h
  cases hs:nbS g nb b with
  |some L'=>simp_all
  |none=>rw[hs]at h;exact R.iV b h
 ·obtain⟨f1,f2,f3⟩:=R.frame b hb hl hi
  grind [nbS,absurd,Gh.rJ]
theorem kF.loose (R:HRel B g hp w){mv:Bool}{τ:Ty}{xs:List τ.den}{L:List Value}{nb:List Nat}(h:kF g mv τ xs L nb):
  ∃g',Le g g'/\HRel B g' hp w/\kF g' aq τ xs L []/\(∀b,b∉nb->Free g hp w b->Free g' hp w b):=by
 cases mv with
 |false=>
  refine⟨g,Le.refl g,R, ?_,λ_ _ h=>h⟩;simp_all[kF,cf,if_false,trivial]
 |true=>
  obtain⟨hle,R'⟩:=R.settle h.2.2;refine⟨_,hle,R', ?_,λb hb hf=> ?_⟩
  ·unfold kF;simp only[cf,if_false];exact⟨jx.els (nb:=nb) (h.1.mono λx hx L hL=>by simp_all[Gh.rJ,nbS]),trivial⟩
  ·have hn:nbS g nb b=none:=by grind [nbS]
   exact⟨λi hi=>hf.obj i (by simp_all[Gh.rJ]),by simpa[Gh.rJ,hn]using hf.Zg,by simpa[Gh.rJ,hn]using hf.dC,by simpa[Gh.rJ,hn]using hf.iR,λh=>hf.new (by simp_all[Gh.rJ])⟩
theorem kF.I3 (l:Le g g'){τ:Ty}{xs:List τ.den}{L:List Value}{nb:List Nat}(h:kF g aq τ xs L nb):kF g' aq τ xs L nb:=by
 exact⟨h.1.mono l.dC,h.2⟩
def YO (h:Rc r τ x us):∀u∈us,u.oneCell'=true:=
 (qD (g:={dC:=r,top:=λ_=>0,cv:=λ_ _=> .tuple #[],gV:=λ_=>az,iR:=λ_=>az,outer:=λ_=>[]}) h).an0
def Et:∀{xs:List τ.den}{L:List Value},Els r τ xs L 0->L.length=xs.length*τ.size->∀u∈L,u.oneCell'=av
 |[],L,_,hl,u,hu=>by
  simp_all
 |x::xs,L,h,hl,u,hu=>by
  obtain⟨h1,h2⟩:=Els.head.1 h;rw[<-bo6 τ.size L]at hu
  rcases aP.1 hu with hu|hu
  ·exact YO h1 u hu
  ·exact Et h2 (by simp only[bK,hl,aw,bW];omega) u hu
theorem kF.els (h:kF g mv τ xs L nb):∃r,Els r τ xs L 0:=by
 unfold kF at h;split at h
 ·exact⟨_,h.1.els⟩
 grind
theorem kF.pre (hp:L.take (xs.length*τ.size)=M.take (xs.length*τ.size))(h:kF g mv τ xs L nb):kF g mv τ xs M nb:=by
 unfold kF at h⊢;split
 ·rename_i e;rw[aj e]at h;exact⟨h.1.pre λk hk=>by simp_all,h.2⟩
 ·rename_i e;rw[ai e]at h;exact⟨h.1.pre λk hk=>by simp_all,h.2⟩
theorem kF.append (h:kF g mv τ xs L n)(k:kF g mv τ ys M m)(hl:L.length=xs.length*τ.size)(hd:∀x∈n,x∉m):
  kF g mv τ (xs++ys) (L++M) (n++m):=by
 unfold kF at h k⊢;split
 ·rename_i e;rw[aj e]at h k;refine⟨h.1.append k.1 hl, ?_,λb hb=> ?_⟩
  all_goals grind
 ·rename_i e;rw[ai e]at h k;exact⟨h.1.append k.1 hl,by simp_all⟩
end Go.Abs
end

section
namespace Go.Abs
def YP (h:Els r e xs L o):Els r e xs (L.drop o) 0:=by
 intro i hi;have:=h i hi;simp_all
def MR (h:Els r e xs L o):Els r e xs ((L.drop o).take (xs.length*e.size)) 0/\((L.drop o).take (xs.length*e.size)).length=xs.length*e.size:=by
 have h':=YP h;refine⟨h'.pre λk hk=>by grind, ?_⟩;have:=h'.len;simp_all
theorem kF.cut (h:kF g mv τ xs L nb):kF g mv τ xs (L.take (xs.length*τ.size)) nb/\(L.take (xs.length*τ.size)).length=xs.length*τ.size:=by
 obtain⟨r,he⟩:=h.els;refine⟨h.pre (by grind), ?_⟩;have:=he.len;simp_all
theorem kF.nil:kF g mv τ [] L []:=by
 unfold kF;split
 ·exact⟨rfl,bf,λb hb=>by simp_all⟩
 ·exact⟨Els.nil,rfl⟩
theorem aj5 (R:HRel B g hp w){e:Ty}{xs:List e.den}{u:Value}{tx e':TypeId}(hk:P.underlying tx=U (.slice e'))(h:Rc g.dC (.sl e) xs [u]):
  ∃news,Src P e.size tx u xs.length news w/\kF g aq e xs news []:=by
 obtain⟨A,c,eu,hc,he⟩:=h
 injection eu with eu
 subst eu
 by_cases hx:xs=[]
 ·subst hx;refine⟨[], ?_,kF.nil⟩
  cases A with
  |none=>grind [Src.ofNil]
  |some a=>simp_all[Src.ofSlice]
 ·rcases he with he|⟨b,o,L,rfl,hL,hi⟩
  ·simp_all
  ·obtain⟨_,_,arr,ty,fr,k1,k2⟩:=R.dC _ _ hL;subst k2;have hE:Els g.dC e xs arr.toList o:=hi;obtain⟨FZ,RV⟩:=MR hE;refine⟨_,Src.ofSlice w hk _ _ c _ RV (λj u hj=> ?_) (Et FZ RV), ?_⟩
   ·rw[bo8];exact lE k1 _ j u hj
   simp_all[kF,cf,if_false,trivial]
theorem BO {E:Env}(h:E.fit t c=av)(hs:c.isStr=aq):∃e,E.P.underlying t=U (.slice e):=by
 grind [Env.fit]
def Mm {E:Env}(h:(source e c).run s=U ((dq,ys),s'))(hf:E.fit tx c=av):
  s'.env=s.env/\∀B g w,HRel B g s.hp w->∃g1,Lk g g1/\HRel B g1 s'.hp w/\∀u,eC g c u->
   ∃news nb,Src E.P e.size tx u ys.length news w/\kF g1 (dq&& !e.flat) e ys news nb/\∀b∈nb,g.gV b≠U 0:=by
 have shared:∀{B:Base} {g:Gh} {hp:List (Nat×Obj)} {w:World} {u:Value} {dq:Bool},HRel B g hp w->c.isStr=aq->(dq&& !e.flat)=aq->Rc g.dC (.sl e) ys [u]->
   ∃news nb,Src E.P e.size tx u ys.length news w/\kF g (dq&& !e.flat) e ys news nb/\∀b∈nb,g.gV b≠U 0:=by
  grind [BO,aj5]
 unfold source at h;split at h
 ·obtain⟨h1,rfl⟩:=de h
  injection h1 with h1 h2
  subst h1;subst h2;refine⟨rfl,λB g w R=>⟨g,Lk.refl g,R,λu hu=> ?_⟩⟩;have hu:_=_:=hu;subst hu;obtain⟨e',hk⟩:=BO hf rfl;exact⟨[],[],Src.ofNil w hk 0,kF.nil,λb hb=>by simp_all⟩
 ·rename_i τ xs;obtain⟨zs,t,h1,h2⟩:=AM.dc h;obtain⟨h3,rfl⟩:=de h2
  injection h3 with h3 h4
  subst h3;subst h4;obtain⟨ee,hx,rfl⟩:=nX h1;subst ee;subst hx;refine⟨rfl,λB g w R=>⟨g,Lk.refl g,R,λu hu=> ?_⟩⟩;exact shared R rfl (by simp) hu.2
 ·rename_i l;split at h
  ·obtain⟨h1,rfl⟩:=de h
   injection h1 with h1 h2
   subst h1;subst h2;refine⟨rfl,λB g w R=>⟨g,Lk.refl g,R,λu hu=> ?_⟩⟩;obtain⟨st,rfl,qc⟩:=sT hu
   have hk:E.P.underlying tx=U .string:=by
    unfold Env.fit at hf;split at hf
    ·assumption
    ·simp[Cell.isStr]at hf
    ·cases hf
   have hl:bo0 ys=st.size:=by rw[qc];exact iw st
   have hb:byteCells st=ys.map (bQ .u8):=by
    rw[qc];unfold byteCells bytesOf;rw[List.map_map];rfl
   refine⟨byteCells st,[],by rw[hl];exact Src.ofString w hk st, ?_,λb hb=>by simp at hb⟩;unfold kF;simp only[Ty.flat,bM,aT,cf,if_false];refine⟨λi hi=> ?_,trivial⟩;show bu9 1 (bu8 (0+i*1) (byteCells st))=[bQ .u8 ys[i]];rw[hb,bJ,bs8];have:i<(ys.map (bQ .u8)).length:=(by simpa using hi);rw[bG this];simp
  ·cases h
 ·rename_i id gen;simp only[AM.run]at h;split at h
  ·rename_i g0 τ deep xs heq;obtain⟨hb,h'⟩:=eB h;obtain rfl:=beq_eq hb
   cases aH2:τ.flat with
   |true=>
    rw[aH2]at h';obtain⟨zs,t,h1,h2⟩:=AM.dc h';obtain⟨h3,rfl⟩:=de h2
    injection h3 with h3 h4
    subst h3;subst h4;obtain⟨ee,hx,rfl⟩:=nX h1;subst ee;subst hx;refine⟨rfl,λB g w R=>⟨g,Lk.refl g,R,λu hu=> ?_⟩⟩;obtain⟨e',hk⟩:=BO hf rfl
    rcases R.iW _ _ heq with⟨k1,k2⟩|⟨b,cap,arr,ty,k1,k2,k3,k4,k5,k6,k7⟩
    ·have k2:ys=[]:=k2;subst k2;rw[hu.2.1,k1];exact⟨[],[],Src.ofNil w hk 0,kF.nil,λb hb=>by simp at hb⟩
    ·rw[hu.2.1,k1];unfold iK at k7;rw[ai (by simp[aH2])]at k7;obtain⟨FZ,RV⟩:=MR k7;refine⟨_,[],Src.ofSlice w hk _ _ cap _ RV (λj u hj=> ?_) (Et FZ RV), ?_,λb hb=>by simp at hb⟩
     ·rw[bo8];exact lE k4 _ j u hj
     ·unfold kF;simp only[aH2,bM,aT,cf,if_false];exact⟨FZ,trivial⟩
   |false=>
    rw[aH2]at h';simp at h';obtain⟨zs,t,h1,h2⟩:=AM.dc h';obtain⟨h3,rfl⟩:=de h2
    injection h3 with h3 h4
    subst h3;subst h4;obtain⟨ee,hx,rfl⟩:=nX h1;subst ee;subst hx;refine⟨rfl,λB g w R=> ?_⟩
    cases dq with
    |true=>
     obtain⟨g1,nb,l,R1,hn,hO⟩:=R.Wl heq;refine⟨g1,l,R1,λu hu=> ?_⟩;obtain⟨e',hk⟩:=BO hf rfl;have pz:g1.cv id g0=g.cv id g0:=l.le.cv _ _ (kU R heq);rw[pz,<-hu.2.1]at hO
     rcases hO with⟨k1,k2,k3⟩|⟨b,cap,arr,ty,k1,k2,k3,aZ1,k4,k5,k6,k7⟩
     ·have k2:ys=[]:=k2;subst k2;subst k3;rw[k1];exact⟨[],[],Src.ofNil w hk 0,kF.nil,λb hb=>by simp at hb⟩
     ·rw[k1];obtain⟨FZ,RV⟩:=k7.cut;obtain⟨r,he⟩:=FZ.els;refine⟨_,nb,Src.ofSlice w hk _ _ cap _ RV (λj u hj=> ?_) (Et he RV),FZ,hn⟩;rw[bo8];exact lE k4 (o:=0) _ j u (by simpa using hj)
    |false=>
     obtain⟨g1,l,R1⟩:=R.Jy heq;refine⟨g1,l,R1,λu hu=> ?_⟩;have hP:Rc _ _ _ _:=R1.iW _ _ (dI _ _ _);rw[show g1.cv id g0=g.cv id g0 from l.le.cv _ _ (kU R heq),<-hu.2.1]at hP;obtain⟨news,nb,a1,a2,a3⟩:=shared (dq:=aq) R1 rfl (by simp) hP;refine⟨news,[],a1, ?_,λb hb=>by simp at hb⟩;unfold kF at a2⊢;simp only[cF,cf,if_false]at a2⊢;exact⟨a2.1,trivial⟩
  ·rename_i g0 τ xs heq;obtain⟨hb,h'⟩:=eB h;obtain rfl:=beq_eq hb;obtain⟨zs,t,h1,h2⟩:=AM.dc h';obtain⟨h3,rfl⟩:=de h2
   injection h3 with h3 h4
   subst h3;subst h4;obtain⟨ee,hx,rfl⟩:=nX h1;subst ee;subst hx;refine⟨rfl,λB g w R=>⟨g,Lk.refl g,R,λu hu=> ?_⟩⟩;have hP:Rc _ _ _ _:=R.iW _ _ heq;rw[<-hu.2.1]at hP;exact shared R rfl (by simp) hP
  ·cases h
 ·cases h
def Tgt (g:Gh)(hp:List (Nat×Obj))(w:World)(mv:Bool)(e:Ty)(xs:List e.den)(u:Value)(nb:List Nat):Prop:=
 (u= .slice az 0 0/\xs=[]/\nb=[])\/∃b cap arr ty,u= .slice (U ⟨b,0,az⟩) xs.length cap/\Free g hp w b/\b∉nb/\b<w.heap.size/\w.heap[b]?=U (.cells arr ty (0,0))/\
  xs.length<=cap/\arr.size=cap*e.size/\kF g mv e xs arr.toList nb
def Ml (h:(target e c).run s=U ((dp,xs),s')):
  s'.env=s.env/\∀B g w,HRel B g s.hp w->∃g1,Lk g g1/\HRel B g1 s'.hp w/\∀u,eC g c u->∃nb,Tgt g1 s'.hp w (dp&& !e.flat) e xs u nb/\∀b∈nb,g.gV b≠U 0:=by
 unfold target at h;split at h
 ·obtain⟨h1,rfl⟩:=de h
  injection h1 with h1 h2
  subst h2;refine⟨rfl,λB g w R=>⟨g,Lk.refl g,R,λu hu=>⟨[], .inl ⟨hu,rfl,rfl⟩,λb hb=>by simp_all⟩⟩⟩
 ·rename_i id gen;simp only[AM.run]at h;split at h
  ·rename_i g0 τ deep zs heq;obtain⟨hb,h'⟩:=eB h;obtain rfl:=beq_eq hb;obtain⟨ys,t,h1,h2⟩:=AM.dc h';obtain⟨h3,rfl⟩:=de h2
   injection h3 with h3 h4
   subst h3;subst h4;obtain⟨ee,hx,rfl⟩:=nX h1;subst ee;subst hx;refine⟨rfl,λB g w R=> ?_⟩;obtain⟨g1,nb,l,R1,hn,hO⟩:=R.Wl heq;refine⟨g1,l,R1,λu hu=>⟨nb, ?_,hn⟩⟩;rw[show g1.cv id g0=g.cv id g0 from l.le.cv _ _ (kU R heq),<-hu.2.1]at hO;exact hO
  ·cases h
 ·cases h
end Go.Abs
end

section
namespace Go.Abs
theorem OD (A R:List α){k:Nat}(h:A.length=k):A.take k=(A++R).take k:=by grind
def Ja (ht:P.underlying t=U (.slice e))(hi:P.info? e=U i)(hz:i.zero=U z)
  (rr:i.size=τ.size) (NU:i.bytes<=128) (RQ:z.cells.size=τ.size) (R:HRel B g hp w) {deep:Bool} {xs ys:List τ.den} {base:Option Addr} {sCap:Nat} {olds news:List Value} {u:Value} {XL UU:List Nat}
  (hold:(Builtin.firstCells i.size xs.length (.slice base xs.length sCap)).run P w.drew= .ok olds.toArray w.drew) (ae4:olds.length=xs.length*τ.size) (hP:kF g (deep&& !τ.flat) τ xs olds XL)
  (hS:Src P τ.size tx u ys.length news w) (hQ:kF g (deep&& !τ.flat) τ ys news UU) (hd:∀x∈XL,x∉UU) (hg:sCap<xs.length+ys.length) (tb:xs.length+ys.length<=1099511627776) (id):
  ∃v w' g',(bo9 #[t,tx] ty #[.slice base xs.length sCap,u]).run P w= .ok v w'/\Le g g'/\HRel B g' ((id, .own (g.top id) τ deep (xs++ys))::hp) w'/\eC g' (.own id (g.top id)) v:=by
 rw[<-rr]at hS
 have hb:(xs.length+ys.length)*i.bytes<=140737488355328:=by
  have:(xs.length+ys.length)*i.bytes<=1099511627776*128:=Nat.mul_le_mul tb NU;omega
 have hr:=run_append_grow_src (P:=P) w t tx ty e i z ht hi hz base xs.length sCap olds hold u ys.length news hS hg (by omega) (growslice_fits hg hb);have N0:=hS.newsLen;have La:=grownCap_ge w (xs.length+ys.length) sCap e
 generalize hc:grownCap w (xs.length+ys.length) sCap e=c at hr La
 have aM3:Turned w (w.drew.alloc (.cells ((olds++news).toArray++Builtin.zeroCells z.cells (c - (xs.length+ys.length))) e)) w.heap.size:=by
  refine⟨λx hx=> ?_, ?_, ?_,rfl,rfl,rfl⟩
  ·show(w.heap.push _)[x]?=_
   grind
  all_goals simp
 obtain⟨g',l,R',p9⟩:=R.own (id:=id) (cap:=c) (ty:=e) (τ:=τ) (deep:=deep) (xs:=xs++ys) (nb:=XL++UU) R.uC aM3 (by show(w.heap.push _)[w.heap.size]?=_;rw[bp5,aj rfl]) (by
   have hA:=hP.append hQ ae4 hd;refine hA.pre ?_
   grind [Array.toList_append,OD,bW]) (by simp_all) (by
   simp[size_zeroCells,ae4,N0,RQ,rr,<-bW]
   simp_all)
 grind
def Gx {P:Program}{w:World}{b o:Nat}{arr:Array Value}{ty:TypeId}{us:List Value}(h:w.heap[b]?=U (.cells arr ty (0,0)))(hle:o+us.length<=arr.size)(h1:∀u∈us,u.oneCell'=av):
  (∀j,j<us.length->(w.cell? ⟨b,o+j,az⟩).isSome=av)/\(∀j,j<us.length->w.frozen? ⟨b,o+j,az⟩=aq)/\w.setCells b o us=w.setRow b (pQ arr o us):=by
 have a1:∀j,j<us.length->(w.cell? ⟨b,o+j,az⟩).isSome=true:=by
  grind [bs7]
 have a2:∀j,j<us.length->w.frozen? ⟨b,o+j,az⟩=false:=by
  simp_all[World.frozen?]
 have r1:=run_storeCells_cells (P:=P) b o us 0 w (by omega) (by omega) h1
 grind [run_storeCells_at,pQ]
def IC (ht:P.underlying t=U (.slice e))(hi:P.info? e=U i)(hz:i.zero=U z)
  (rr:i.size=τ.size) (NU:i.bytes<=128) (RQ:z.cells.size=τ.size) (R:HRel B g hp w) {deep:Bool} {xs ys:List τ.den} {us u:Value} {news:List Value} {XL UU:List Nat}
  (hT:Tgt g hp w (deep&& !τ.flat) τ xs us XL) (hS:Src P τ.size tx u ys.length news w) (hQ:kF g (deep&& !τ.flat) τ ys news UU) (hd:∀x∈XL,x∉UU) (tb:xs.length+ys.length<=1099511627776) (hbq:∀b,Free g hp w b->b∉UU) (id):
  ∃v w' g',(bo9 #[t,tx] ty #[us,u]).run P w= .ok v w'/\Le g g'/\HRel B g' ((id, .own (g.top id) τ deep (xs++ys))::hp) w'/\eC g' (.own id (g.top id)) v:=by
 rcases hT with⟨rfl,rfl,rfl⟩|⟨b,cap,arr,ER,rfl,hf,NW,Qk,ha,aG0,aL1,hP⟩
 ·by_cases h0:ys=[]
  ·subst h0;have hn:news=[]:=bu (by simpa using hS.newsLen);subst hn;rw[<-rr]at hS;obtain⟨g',l,R',hc⟩:=R.ak0 id τ deep;exact⟨_,w,g',run_append_nothing w t tx ty e i ht hi az 0 0 (aF _) u hS,l.le,R',hc⟩
  ·have sF:0<ys.length:=b9.2 h0;exact Ja ht hi hz rr NU RQ R (xs:=[]) (sCap:=0) (olds:=[]) (by rfl) (by simp) kF.nil hS hQ hd (by omega) (by omega) id
 ·by_cases hroom:xs.length+ys.length<=cap
  ·have N0:=hS.newsLen
   have hle:xs.length*τ.size+news.length<=arr.size:=by
    rw[N0,<-bW,aL1];exact Nat.mul_le_mul_right _ hroom
   obtain⟨a1,a2,a3⟩:=Gx (P:=P) ha hle hS.one;have ax7:=hS;rw[<-rr]at ax7;have hr:=run_append_room_src (P:=P) w t tx ty e i ht hi b 0 xs.length cap u ys.length news ax7 hroom (by simp_all) (by simp_all);have NN:=setRow_heap w b arr (pQ arr (xs.length*τ.size) news) ER (0,0) ha
   obtain⟨g',l,R',p9⟩:=R.own (id:=id) (cap:=cap) (ty:=ER) (τ:=τ) (deep:=deep) (xs:=xs++ys) (nb:=XL++UU) hf (tU ha _) NN (by
     obtain⟨FZ,RV⟩:=hP.cut;have hA:=FZ.append (M:=news++arr.toList.drop (xs.length*τ.size+news.length)) (hQ.pre (OD _ _ (by omega))) RV hd
     simp_all[pQ,bu9,bu8]) (by simp_all) (by
     grind [pQ])
   grind
  ·obtain⟨FZ,RV⟩:=hP.cut;refine Ja ht hi hz rr NU RQ R (sCap:=cap) ?_ RV FZ hS hQ hd (by omega) tb id;rw[rr];refine run_firstCells_some (P:=P) w.drew τ.size xs.length _ xs.length cap _ RV (λj v hj=> ?_);rw[bo8,World.cell?_drew];exact lE ha (o:=0) _ j v (by simpa using hj)
def Mk (hc:c.callee= .builtin .append){s s':St}{sl:Slot}{d:Nat}(h:(iT E d (.call c)).run s=U (sl,s')):Yld E (.call c) s sl s':=by
 unfold iT at h;simp[hc]at h;split at h
 ·rename_i t tx aY4;obtain⟨e,t1,h1,h2⟩:=AM.dc h;obtain⟨τ,t2,h3,h4⟩:=AM.dc h2;obtain⟨vs,t3,h5,h6⟩:=AM.dc h4;obtain⟨he,rfl⟩:=fL h1;obtain rfl:=Bl h3;obtain⟨rfl,r1⟩:=qO h5;split at h6
  ·rename_i sc xc;obtain⟨hb,h7⟩:=eB h6;simp at hb;obtain⟨i,z,hi,hz,rr,NU,_,RQ⟩:=Bi hb.1;obtain⟨⟨dq,ys⟩,t4,h8,h9⟩:=AM.dc h7;obtain⟨⟨dp,xs⟩,t5,xo,vR⟩:=AM.dc h9;obtain⟨tb,rP⟩:=pZ vR;obtain⟨cell,t6,Ae,F7⟩:=AM.dc rP;obtain⟨rfl,rfl⟩:=de F7;obtain⟨e1,k1⟩:=Mm h8 hb.2;obtain⟨e2,k2⟩:=Ml xo;obtain⟨gen,aI2,rfl,rfl⟩:=zz Ae;refine⟨e2.trans e1,λo ho B g a w R V=> ?_⟩;obtain⟨u1,u2,ea,sC,Cx⟩:=Pk (r1 V) rfl;obtain⟨g1,l1,R1,c1⟩:=k1 B g w R;obtain⟨news,UU,hS,hQ,fq⟩:=c1 u2 Cx;obtain⟨g2,l2,R2,c2⟩:=k2 B g1 w R1;obtain⟨XL,hT,fp⟩:=c2 u1 (eC.mono l1.le sC);have as4:=hQ.mono l2;have hn:xs.length+ys.length<=1099511627776:=aR tb
   have ZR:∀x∈XL,x∉UU:=by
    intro x hx hy;unfold kF at hQ;split at hQ
    ·exact fp x hx (hQ.2.2 x hy)
    ·rw[hQ.2]at hy;simp at hy
   have ba8:∀{g:Gh} {mv:Bool} {zs:List τ.den} {L:List Value} {nb:List Nat} {b:Nat} {hp:List (Nat×Obj)},kF g mv τ zs L nb->Free g hp w b->b∉nb:=by
    intro g mv zs L nb b hp hh hf hm;unfold kF at hh;split at hh
    ·exact hf.Zg (hh.2.2 b hm)
    ·rw[hh.2]at hm;simp at hm
   have main:∃g3 au0 ar0,Le g2 g3/\HRel B g3 t5.hp w/\Tgt g3 t5.hp w ((dp&&dq)&& !τ.flat) τ xs u1 au0/\kF g3 ((dp&&dq)&& !τ.flat) τ ys news ar0/\∀x∈au0,x∉ar0:=by
    by_cases hm:((dp&&dq)&& !τ.flat)=av
    ·simp at hm;obtain⟨⟨rfl,rfl⟩,aH2⟩:=hm;exact⟨g2,XL,UU,Le.refl g2,R2,hT,as4,ZR⟩
    ·have a67:((dp&&dq)&& !τ.flat)=false:=(by simpa using hm);rw[a67]
     by_cases hq:(dq&& !τ.flat)=av
     ·have Ax:(dp&& !τ.flat)=false:=by
       revert a67 hq
       cases dp<;>cases dq<;>cases τ.flat<;>simp
      rw[Ax]at hT;obtain⟨g3,l3,R3,q3,f3⟩:=as4.loose R2;refine⟨g3,XL,[],l3,R3, ?_,q3,λx _ hx=>by simp at hx⟩
      rcases hT with⟨a1,a2,a3⟩|⟨b,cap,arr,ER,a1,a2,a3,a4,a5,a6,a7,a8⟩
      ·exact .inl ⟨a1,a2,a3⟩
      ·exact .inr ⟨b,cap,arr,ER,a1,f3 b (ba8 as4 a2) a2,a3,a4,a5,a6,a7,a8.I3 l3⟩
     ·have at2:(dq&& !τ.flat)=false:=(by simpa using hq);rw[at2]at as4;have bc0:UU=[]:=as4.2;subst bc0
      rcases hT with⟨a1,a2,a3⟩|⟨b,cap,arr,ER,a1,a2,a3,a4,a5,a6,a7,a8⟩
      ·exact⟨g2,[],[],Le.refl g2,R2, .inl ⟨a1,a2,rfl⟩,as4,λx hx=>by simp at hx⟩
      ·obtain⟨g3,l3,R3,q3,f3⟩:=a8.loose R2;exact⟨g3,[],[],l3,R3, .inr ⟨b,cap,arr,ER,a1,f3 b a3 a2,by simp,a4,a5,a6,a7,q3⟩,as4.I3 l3,λx hx=>by simp at hx⟩
   obtain⟨g3,au0,ar0,l3,R3,T3,Q3,d3⟩:=main;obtain⟨rfl,_⟩:=nP R3 aI2;obtain⟨v,w',g4,k5,l4,R4,k6⟩:=IC (ty:=o.type) (Dj he) hi hz rr NU RQ R3 (deep:=dp&&dq) T3 hS Q3 d3 hn (λb hf=>ba8 Q3 hf) d;refine⟨v,w',g4, ?_,((l1.le.trans l2.le).trans l3).trans l4,R4,k6⟩;unfold execOp;rw[ho]
   have e3:c.args.map a.eval=#[u1,u2]:=by
    apply Array.ext'
    simpa using ea
   have e4:c.argTypes=#[t,tx]:=by
    apply Array.ext'
    simpa using aY4
   simp[resolve,hc,invoke,builtin,e3,e4,k5]
  ·cases h6
 ·cases h
end Go.Abs
end

section
namespace Go.Abs
def rdW (w:World):Rd:=λb=>match w.heap[b]? with
 |some (.cells arr _ (0,0))=>U arr.toList
 |_=>az
def oI (dC:Rd)(w:World)(mv:Bool)(τ:Ty)(xs:List τ.den)(L:List Value)(nb:List Nat):Prop:=
 if mv then jx (rdW w) τ xs L nb else Els dC τ xs L 0/\nb=[]
def OwnAt (dC:Rd)(w:World)(mv:Bool)(τ:Ty)(xs:List τ.den)(us:List Value)(nb:List Nat):Prop:=
 (us=[.slice az 0 0]/\xs=[]/\nb=[])\/∃b cap arr ty lW,us=[.slice (U ⟨b,0,az⟩) xs.length cap]/\nb=b::lW/\w.heap[b]?=U (.cells arr ty (0,0))/\
   xs.length<=cap/\arr.size=cap*τ.size/\oI dC w mv τ xs arr.toList lW
def th (dC:Rd)(w:World)(pl:Nat×Nat)(xs:List Int)(us:List Value)(nb:List Nat):Prop:=
 (us=[.pointer az, .slice az 0 0]/\xs=[]/\nb=[])\/∃u2,us=[.pointer (U ⟨pl.1,pl.2,az⟩),u2]/\OwnAt dC w aq (.int .u8) xs [u2] nb/\∀b∈nb,∃arr,w.heap[b]?=U (.cells arr pR (0,0))
def Pass (dC:Rd)(w:World):(s:Sp)->s.ty.den->Nat×Nat->List Value->List Nat->Prop
 | .un,_,_,us,nb=>us=[]/\nb=[]
 | .pr a b,x,pl,us,nb=>∃u1 u2 n1 n2,us=u1++u2/\nb=n1++n2/\Pass dC w a x.1 pl u1 n1/\Pass dC w b x.2 (pl.1,pl.2+a.size) u2 n2
 | .fT τ,x,_,us,nb=>nb=[]/\τ.one=av/\∃u,us=[u]/\Rc dC τ x [u]
 | .own τ dp,xs,_,us,nb=>OwnAt dC w (dp&& !τ.flat) τ xs us nb
 | .lnd τ dp,xs,_,us,nb=>OwnAt dC w (dp&& !τ.flat) τ xs us nb
 | .ptr wh st s,x,_,us,nb=>∃b o arr ty lW,us=[.pointer (U ⟨b,o,az⟩)]/\nb=b::lW/\w.heap[b]?=U (.cells arr ty (0,0))/\((wh=av->o=0/\arr.size=s.size/\ty=st.1)/\(wh=aq->J7 st.2 ty o arr.size=av))/\o+s.size<=arr.size/\
   Pass dC w s x (b,o) ((arr.toList.drop o).take s.size) lW
 | .CV ok,x,_,us,nb=>∃b o arr ty,us=[.pointer (U ⟨b,o,az⟩)]/\w.heap[b]?=U (.cells arr ty (0,0))/\J7 ok ty o arr.size=av/\o+2<=arr.size/\th dC w (b,o) x ((arr.toList.drop o).take 2) nb
 | .vp,x,pl,us,nb=>th dC w pl x us nb
 | .err,b,_,us,nb=>nb=[]/\∃u,us=[u]/\((b=av/\u= .nilIface)\/(b=aq/\∃t v,u= .iface t v))
 | .np,_,_,us,nb=>nb=[]/\us=[.pointer az]
 | .slf _ _,_,_,us,nb=>nb=[]/\∃b o,us=[.pointer (U ⟨b,o,az⟩)]
theorem oI.mono (h:∀b L,dC b=U L->gC b=U L){w:World}{mv:Bool}{τ:Ty}{xs:List τ.den}{L:List Value}{nb:List Nat}(k:oI dC w mv τ xs L nb):oI gC w mv τ xs L nb:=by
 unfold oI at k⊢;split
 ·simp_all
 ·rename_i e;rw[ai e]at k;exact⟨k.1.mono h,k.2⟩
theorem OwnAt.mono (h:∀b L,dC b=U L->gC b=U L){w:World}{mv:Bool}{τ:Ty}{xs:List τ.den}{us:List Value}{nb:List Nat}(k:OwnAt dC w mv τ xs us nb):OwnAt gC w mv τ xs us nb:=by
 rcases k with k|⟨b,cap,arr,ty,lW,e,e',ha,hl,hs,k⟩
 ·exact .inl k
 ·exact .inr ⟨b,cap,arr,ty,lW,e,e',ha,hl,hs,k.mono h⟩
def OwnAt.length (k:OwnAt dC w mv τ xs us nb):us.length=1:=by
 rcases k with k|⟨b,cap,arr,ty,lW,e,_⟩
 all_goals simp_all
theorem th.mono (h:∀b L,dC b=U L->gC b=U L){w:World}{pl:Nat×Nat}{xs:List Int}{us:List Value}{nb:List Nat}(k:th dC w pl xs us nb):th gC w pl xs us nb:=by
 rcases k with k|⟨u2,e,k⟩
 ·exact .inl k
 ·exact .inr ⟨u2,e,k.1.mono h,k.2⟩
def th.length (k:th dC w pl xs us nb):us.length=2:=by
 rcases k with k|⟨u2,e,_⟩
 all_goals simp_all
theorem Pass.mono (h:∀b L,dC b=U L->gC b=U L){w:World}:∀{s:Sp}{x:s.ty.den}{pl:Nat×Nat}{us:List Value}{nb:List Nat},Pass dC w s x pl us nb->Pass gC w s x pl us nb
 | .un,_,_,_,_,k=>k
 | .pr _ _,_,_,_,_,⟨u1,u2,n1,n2,e,e',k1,k2⟩=>⟨u1,u2,n1,n2,e,e',Pass.mono h k1,Pass.mono h k2⟩
 | .fT _,_,_,_,_,⟨e,h1,u,e',k⟩=>⟨e,h1,u,e',k.mono h⟩
 | .own _ _,_,_,_,_,k=>OwnAt.mono h k
 | .lnd _ _,_,_,_,_,k=>OwnAt.mono h k
 | .ptr _ _ _,_,_,_,_,⟨b,o,arr,ty,lW,e,e',ha,hw,hl,k⟩=>⟨b,o,arr,ty,lW,e,e',ha,hw,hl,Pass.mono h k⟩
 | .CV _,_,_,_,_,⟨b,o,arr,ty,e,ha,hk,hl,k⟩=>⟨b,o,arr,ty,e,ha,hk,hl,th.mono h k⟩
 | .vp,_,_,_,_,k=>th.mono h k
 | .err,_,_,_,_,k=>k
 | .np,_,_,_,_,k=>k
 | .slf _ _,_,_,_,_,k=>k
def Pass.length:∀{s:Sp}{x:s.ty.den}{pl:Nat×Nat}{us:List Value}{nb:List Nat},Pass dC w s x pl us nb->us.length=s.size
 | .un,_,_,_,_,k=>by rw[k.1];rfl
 | .pr _ _,_,_,_,_,⟨u1,u2,n1,n2,e,e',k1,k2⟩=>by subst e;simp[Sp.size,k1.length,k2.length]
 | .fT _,_,_,_,_,⟨e,h1,u,e',k⟩=>by simp_all
 | .own _ _,_,_,_,_,k=>OwnAt.length k
 | .lnd _ _,_,_,_,_,k=>OwnAt.length k
 | .ptr _ _ _,_,_,_,_,⟨b,o,arr,ty,lW,e,_⟩=>by simp_all
 | .CV _,_,_,_,_,⟨b,o,arr,ty,e,_⟩=>by simp_all
 | .vp,_,_,_,_,k=>th.length k
 | .err,_,_,_,_,⟨_,u,e,_⟩=>by simp_all
 | .np,_,_,_,_,k=>by rw[k.2];rfl
 | .slf _ _,_,_,_,_,⟨_,b,o,e⟩=>by simp_all
def HRel.congr (e:∀i,look F0 i=look hp i)(R:HRel B g hp w):HRel B g F0 w:=
 ⟨λi=>by rw[e i];exact R.top i,λi o h=>R.iW i o (by simp_all),R.dC,R.iR,R.iV,R.mN,R.frame,R.size,R.os,R.tape,R.output,R.fix⟩
def Ix (l) (n) (a b:β) (i):look ((n,a)::l) i=look ((n,a)::(n,b)::l) i:=by
 grind [dI,dA]
def HRel.WZ (R:HRel B g hp w){id b:Nat}(hl:g.gV b=U (id+1))(hn:g.iR b=az)
  (ho:∀o,look hp id=U o->(∃gn,o= .dead gn)\/∃gn cs,o= .lZ gn cs):
  ∃g',Lk g g'/\g'.outer=g.outer/\g'.dC=g.dC/\g'.iR=g.iR/\(∀x,x≠b->g'.gV x=g.gV x)/\g'.gV b=U 0/\HRel B g' hp w:=by
 let g':Gh:={g with gV:=λx=>if x=b then U 0 else g.gV x}
 have hle:Le g g':=⟨λ_ _ h=>h,λ_=>aF _,λ_ _ _=>rfl⟩;refine⟨g',⟨hle,λx hx=> ?_,rfl⟩,rfl,rfl,rfl,λx hx=>by grind,by grind, ?_⟩
 ·grind
 ·refine⟨R.top,λi oi hi=> ?_,λx L hx=> ?_,λx L hx=> ?_,λx hx=> ?_,R.mN,λx hx ym hi=> ?_,R.size,R.os,R.tape,R.output,R.fix⟩
  ·by_cases e:i=id
   ·subst e
    rcases ho oi hi with⟨gn,rfl⟩|⟨gn,cs,rfl⟩<;>trivial
   ·refine(R.iW i oi hi).tr hle (λx hx=> ?_) rfl (kU R hi)
    grind
  ·obtain⟨a1,a2,a3⟩:=R.dC x L hx
   grind
  ·obtain⟨a1,a2⟩:=R.iR x L hx
   grind
  ·by_cases BM:x=b
   ·exact R.iV x (by simp_all)
   ·exact R.iV x (by grind)
  ·obtain⟨f1,f2,f3⟩:=R.frame x hx ym hi
   grind
def HRel.Yt (R:HRel B g hp w){b:Nat}{L:List Value}(h:g.iR b=U L):rdW w b=U L:=by
 obtain⟨_,arr,ty,a,e⟩:=R.iR b L h;simp_all[rdW]
def HRel.aD8 (R:HRel B g hp w){id gen:Nat}{τ:Ty}{deep dp:Bool}{xs:List τ.den}
  (h:look hp id=U (.own gen τ deep xs)) (hd:(deep|| !dp||τ.flat)=av):∃g' nb,Lk g g'/\g'.outer=g.outer/\HRel B g' ((id, .dead gen)::hp) w/\nb.Nodup/\(∀b∈nb,g'.gV b=U 0/\g.gV b≠U 0)/\
   OwnAt g'.dC w (dp&& !τ.flat) τ xs [g.cv id gen] nb:=by
 have step1:∃g1,Lk g g1/\g1.outer=g.outer/\HRel B g1 ((id, .own gen τ (deep&&dp) xs)::hp) w:=by
  by_cases e:(deep&&dp)=deep
  ·rw[e];exact⟨g,Lk.refl g,rfl,R.put h rfl (R.iW _ _ h)⟩
  ·have e':(deep&&dp)=false:=by simp_all
   rw[e']
   have:∃g',Lk g g'/\g'.outer=g.outer/\HRel B g' ((id, .own gen τ aq xs)::hp) w:=by
    have hO:=R.iW _ _ h
    rcases hO with⟨h1,h2⟩|⟨b,cap,arr,ty,h1,h2,h3,h4,h5,h6,h7⟩
    ·exact⟨g,Lk.refl g,rfl,R.put h rfl (.inl ⟨h1,h2⟩)⟩
    ·by_cases hd:(deep&& !τ.flat)=av
     ·unfold iK at h7;rw[aj hd]at h7;obtain⟨nb,k1,k2,k3⟩:=h7
      have hS:∀x L,nbS g nb x=U L->g.gV x=U (id+1)/\∃arr ty fr,w.heap[x]?=U (.cells arr ty fr)/\arr.toList=L:=by
       intro x L hx;unfold nbS at hx;split at hx
       ·rename_i hm;obtain⟨_,arr,ty,a,b⟩:=R.iR x L hx;simp_all
       simp_all
      have Cv:nbS g nb b=none:=by grind [nbS]
      refine⟨_,R.Hv λx L hx=>(hS x L hx).1,rfl,R.Nk hS h rfl (.inr ⟨b,cap,arr,ty,h1,by simp_all[Gh.rJ],by simp_all[Gh.rJ],h4,h5,h6, ?_⟩)⟩;show iK _ _ _ aq _ _;unfold iK;simp;refine jx.els (nb:=nb) (k1.mono λx hx L hL=> ?_);simp_all[Gh.rJ,nbS]
     ·refine⟨g,Lk.refl g,rfl,R.put h rfl (.inr ⟨b,cap,arr,ty,h1,h2,h3,h4,h5,h6, ?_⟩)⟩;simp_all[iK,ai]
   omega
 obtain⟨g1,l1,o1,R1⟩:=step1;have ht:=kU R h;have hO:=R1.iW _ _ (dI _ _ _);have Cy:g1.cv id gen=g.cv id gen:=l1.le.cv _ _ ht
 have Rd:HRel B g1 ((id, .dead gen)::hp) w:=(R1.put (dI _ _ _) (o':= .dead gen) rfl trivial).congr λi=>Ix _ _ _ _ i
 rcases hO with⟨h1,h2⟩|⟨b,cap,arr,ty,h1,h2,h3,h4,h5,h6,h7⟩
 ·refine⟨g1,[],l1,o1,Rd,bf,λb hb=>by simp_all, .inl ⟨?_,h2,rfl⟩⟩;simp_all
 ·rw[Cy]at h1
  have nest:∃g2 lW,Lk g1 g2/\g2.outer=g1.outer/\g2.dC=g1.dC/\HRel B g2 ((id, .dead gen)::hp) w/\lW.Nodup/\(∀x∈lW,g2.gV x=U 0/\g1.gV x≠U 0)/\b∉lW/\g2.gV b=U (id+1)/\g2.iR b=az/\
    oI g2.dC w (dp&& !τ.flat) τ xs arr.toList lW:=by
   unfold iK at h7
   by_cases hc:((deep&&dp)&& !τ.flat)=av
   ·rw[aj hc]at h7;obtain⟨nb,k1,k2,k3⟩:=h7
    have NW:b∉nb:=λhm=>k1.xb b hm h3
    let g':Gh:={g1 with gV:=open Classical in λx=>if x∈nb then U 0 else g1.gV x}
    have hle:Le g1 g':=⟨λ_ _ h=>h,λ_=>aF _,λ_ _ _=>rfl⟩
    have hR:HRel B g' ((id, .dead gen)::hp) w:=by
     refine⟨Rd.top,λi oi hi=> ?_,λx L hx=> ?_,λx L hx=> ?_,λx hx=> ?_,Rd.mN,λx hx hl hi=> ?_,Rd.size,Rd.os,Rd.tape,Rd.output,Rd.fix⟩
     ·by_cases e:id=i
      ·subst e;rw[dI]at hi;injection hi with hi;subst hi;trivial
      ·refine(Rd.iW i oi hi).tr hle (λx hx=> ?_) rfl (kU Rd hi)
       grind
     ·obtain⟨a1,a2,a3⟩:=Rd.dC x L hx
      have Cg:x∉nb:=λhm=>by rw[k3 x hm]at a1;cases a1
      exact⟨by simp[g',Cg,a1],a2,a3⟩
     ·obtain⟨a1,a2⟩:=Rd.iR x L hx;refine⟨?_,a2⟩
      by_cases Cg:x∈nb
      ·simp[g',Cg]
      ·simpa[g',Cg]using a1
     ·by_cases Cg:x∈nb
      ·exact Rd.iV x (by rw[k3 x Cg];simp)
      ·exact Rd.iV x (by simpa[g',Cg]using hx)
     ·obtain⟨f1,f2,f3⟩:=Rd.frame x hx hl hi
      have Cg:x∉nb:=λhm=>by rw[k3 x hm]at f1;cases f1
      exact⟨by simp[g',Cg,f1],f2,f3⟩
    refine⟨g',nb,⟨hle,λx hx=> ?_,rfl⟩,rfl,rfl,hR,k2,λx hx=>⟨by simp[g',hx],by rw[k3 x hx];simp⟩,NW,by simp[g',NW,h2],h3, ?_⟩
    ·have Cg:x∉nb:=λhm=>by rw[k3 x hm]at hx;simp at hx
     simp[g',Cg,hx]
    ·have ZF:(dp&& !τ.flat)=true:=by
      simp at hc⊢;exact⟨hc.1.2,hc.2⟩
     unfold oI;rw[aj ZF]
     exact k1.mono λx hx L hL=>Rd.Yt hL
   ·rw[ai hc]at h7
    have ZF:(dp&& !τ.flat)=false:=by
     revert hc hd
     cases deep<;>cases dp<;>cases τ.flat<;>simp
    refine⟨g1,[],Lk.refl g1,rfl,rfl,Rd,bf,λx hx=>by simp at hx,by simp,h2,h3, ?_⟩;unfold oI;rw[ZF];simp only[cf,if_false];exact⟨h7,trivial⟩
  obtain⟨g2,lW,l2,o2,i2,R2,n1,n2,n3,n4,n5,n6⟩:=nest;obtain⟨g3,l3,o3,i3,s3,f3,z3,R3⟩:=R2.WZ n4 n5 (λo ho=>by rw[dI]at ho;injection ho with ho;exact .inl ⟨gen,ho.symm⟩);refine⟨g3,b::lW,(l1.trans l2).trans l3,(o3.trans o2).trans o1,R3,cu.2 ⟨n3,n1⟩,λx hx=> ?_, .inr ⟨b,cap,arr,ty,lW,by rw[h1],rfl,h4,h5,h6,by rw[i3];exact n6⟩⟩
  rcases bA.1 hx with rfl|hy
  ·refine⟨z3,λe=> ?_⟩;have:=(l1.kp x e).1;rw[h2]at this;simp at this
  ·have BM:x≠b:=λe=>n3 (e ▸ hy)
   refine⟨by rw[f3 x BM];exact(n2 x hy).1,λe=>(n2 x hy).2 (l1.kp x e).1⟩
def qW (hp:List (Nat×Obj))(g:Gh)(w:World):(s:Sp)->List Cell->List Value->Prop
 | .pr a b,cs,us=>qW hp g w a (cs.take a.size) (us.take a.size)/\qW hp g w b (cs.drop a.size) (us.drop a.size)
 | .lnd _ _,cs,us=>(cs=[.nil]/\us=[.slice az 0 0])\/∃id gen,cs=[.own id gen]/\us=[g.cv id gen]/\gen<g.top id/\oc (g.cv id gen)=av
 | .ptr _ _ s,cs,us=>∃id gen off bs b o arr ty L,cs=[.ptr id gen off]/\us=[.pointer (U ⟨b,o+off,az⟩)]/\look hp id=U (.lZ gen (ty,bs))/\g.cv id gen= .pointer (U ⟨b,o,az⟩)/\
   w.heap[b]?=U (.cells arr ty (0,0))/\arr.toList=(g.outer id).take o++L++(g.outer id).drop (o+L.length)/\o+L.length<=(g.outer id).length/\(o=0/\(g.outer id).length=bs.length)/\
   off+s.size<=bs.length/\dG g bs L/\qW hp g w s (cut off s.size bs) ((L.drop off).take s.size)
 |_,_,_=>True
theorem qW.mono (l:Le g g')(ho:∀id gn cs,look hp id=U (.lZ gn cs)->look F0 id=U (.lZ gn cs)/\g'.outer id=g.outer id)(ht:∀id gn cs,look hp id=U (.lZ gn cs)->gn<g.top id):
  ∀{s:Sp} {cs:List Cell} {us:List Value},qW hp g w s cs us->qW F0 g' w s cs us
 | .un,_,_,_=>trivial
 | .fT _,_,_,_=>trivial
 | .own _ _,_,_,_=>trivial
 | .vp,_,_,_=>trivial
 | .CV _,_,_,_=>trivial
 | .err,_,_,_=>trivial
 | .np,_,_,_=>trivial
 | .slf _ _,_,_,_=>trivial
 | .lnd _ _,_,_, .inl h=> .inl h
 | .lnd _ _,_,_, .inr ⟨id,gen,e,e',h,XR⟩=> .inr ⟨id,gen,e,by rw[l.cv _ _ h];omega,aV h (l.top _),by rw[l.cv _ _ h];omega⟩
 | .pr _ _,_,_,⟨h1,h2⟩=>⟨qW.mono l ho ht h1,qW.mono l ho ht h2⟩
 | .ptr _ _ _,_,_,⟨id,gen,off,bs,b,o,arr,ty,L,e1,e2,hl,pz,ha,hL,hle,hid,EU,hc,hr⟩=>by
  obtain⟨k1,k2⟩:=ho _ _ _ hl;exact⟨id,gen,off,bs,b,o,arr,ty,L,e1,e2,k1,(l.cv _ _ (ht _ _ _ hl)).trans pz,ha,by simp_all,by simp_all,by simp_all,EU,hc.mono l,qW.mono l ho ht hr⟩
def iz (g:Gh)(nb:List Nat):Prop:=nb.Nodup/\∀b∈nb,g.gV b=U 0
theorem iz.mono (l:Lk g g'){nb:List Nat}(h:iz g nb):iz g' nb:=⟨h.1,λb hb=>(l.kp b (h.2 b hb)).1⟩
def iz.append (l:Lk g g')(h1:iz g n1)(h2:iz g' n2)(hf:∀b∈n2,g.gV b≠U 0):iz g' (n1++n2):=by
 refine⟨?_,λb hb=> ?_⟩
 ·rw[bw];exact⟨h1.1,h2.1,λx hx y hy e=>by subst e;exact hf x hy (h1.2 x hx)⟩
 ·rcases aP.1 hb with hb|hb
  ·exact(h1.mono l).2 b hb
  ·exact h2.2 b hb
def mE (s s':St):Prop:=s'.env=s.env/\∀id gn cs,look s.hp id=U (.lZ gn cs)->look s'.hp id=U (.lZ gn cs)
theorem mE.refl (s):mE s s:=⟨rfl,λ_ _ _ h=>h⟩
def mE.trans (h:mE a b)(k:mE b c):mE a c:=⟨k.1.trans h.1,λi g cs hl=>k.2 i g cs (h.2 i g cs hl)⟩
def tz {id:Nat}(h:∀gn cs,look s.hp id≠U (.lZ gn cs)):mE s {s with hp:=(id,o)::s.hp}:=
 ⟨rfl,λi gn cs hl=>by
  grind [id,absurd,look,dA]⟩
end Go.Abs
end

section
namespace Go.Abs
def QZ:∀k c s xs s',(Ur k c).run s=U (xs,s')->mE s s':=by
 intro k
 induction k with
 |zero=>
  intro c s xs s' h
  cases c with
  |v τ x=>cases τ<;>first|(obtain⟨rfl,rfl⟩:=de h;exact mE.refl _)|exact nomatch h
  |np=>obtain⟨rfl,rfl⟩:=de h;exact mE.refl _
  |nf=>exact nomatch h
  |nil=>exact nomatch h
  |own _ _=>exact nomatch h
  |ptr _ _ off=>cases off<;>exact nomatch h
  |fn _ _=>exact nomatch h
  |err _=>exact nomatch h
 |succ k ih=>
  intro c s xs s' h
  cases c with
  |v τ x=>cases τ<;>first|(obtain⟨rfl,rfl⟩:=de h;exact mE.refl _)|exact nomatch h
  |np=>obtain⟨rfl,rfl⟩:=de h;exact mE.refl _
  |nf=>exact nomatch h
  |nil=>exact nomatch h
  |own _ _=>exact nomatch h
  |fn _ _=>exact nomatch h
  |err _=>exact nomatch h
  |ptr id gen off=>
   cases off with
   |succ n=>exact nomatch h
   |zero=>
    simp only[Ur,AM.run]at h;split at h
    ·obtain⟨hb,h'⟩:=eB h;obtain⟨ys,t,h1,h2⟩:=AM.dc h';have k1:=ih _ _ _ _ h1;simp only[AM.run]at h2;split at h2
     ·rename_i heq;obtain⟨rfl,rfl⟩:=h2;exact k1.trans (tz λgn cs hl=>by simp_all)
     ·exact nomatch h2
    ·obtain⟨hb,h'⟩:=eB h;obtain⟨rfl,rfl⟩:=de h';exact mE.refl _
    ·exact nomatch h
def Ob (h:(datum τ c).run s=U (x,s')):mE s s':=by
 cases τ with
 |int k=>
  cases c with
  |v τ' x'=>
   cases τ' with
   |int k'=>
    simp[datum]at h;split at h
    ·obtain⟨rfl,rfl⟩:=de h;exact mE.refl _
    ·exact nomatch h
   |_=>exact nomatch h
  |_=>exact nomatch h
 |bool=>
  cases c with
  |v τ' x'=>cases τ'<;>first|(obtain⟨rfl,rfl⟩:=de h;exact mE.refl _)|exact nomatch h
  |_=>exact nomatch h
 |str=>
  cases c with
  |v τ' x'=>cases τ'<;>first|(obtain⟨rfl,rfl⟩:=de h;exact mE.refl _)|exact nomatch h
  |_=>exact nomatch h
 |un=>cases c<;>exact nomatch h
 |pr a b=>cases c<;>exact nomatch h
 |cl=>exact QZ 4 c s x s' h
 |sl e=>
  cases c with
  |v τ' x'=>
   cases τ' with
   |sl e'=>
    obtain⟨_,_,rfl⟩:=nX h;exact mE.refl _
   |_=>exact nomatch h
  |nil=>obtain⟨rfl,rfl⟩:=de h;exact mE.refl _
  |own id gen=>
   simp only[datum,AM.run]at h;split at h
   ·rename_i heq;obtain⟨hb,h'⟩:=eB h;obtain⟨_,_,rfl⟩:=nX h';simp_all[tz]
   ·obtain⟨hb,h'⟩:=eB h;obtain⟨_,_,rfl⟩:=nX h';exact mE.refl _
   ·exact nomatch h
  |ptr _ _ _=>exact nomatch h
  |np=>exact nomatch h
  |nf=>exact nomatch h
  |fn _ _=>exact nomatch h
  |err _=>exact nomatch h
def mi (g:Gh)(pl:Plc)(rp:Nat×Nat):Prop:=∀id gen off,pl=U (id,gen,off)->gen<g.top id/\∃b o,g.cv id gen= .pointer (U ⟨b,o,az⟩)/\rp=(b,o+off)
theorem mi.mono (l:Le g g'){pl:Plc}{rp:Nat×Nat}(h:mi g pl rp):mi g' pl rp:=λid gen off e=>by
 obtain⟨h1,b,o,h2,h3⟩:=h id gen off e;exact⟨aV h1 (l.top _),b,o,(l.cv _ _ h1).trans h2,h3⟩
def mi.on (h:mi g pl rp) (n):mi g (pl.on n) (rp.1,rp.2+n):=λid gen off e=>by
 unfold Plc.on at e;split at e
 ·rename_i ad4 g' o';obtain⟨h1,b,o,h2,h3⟩:=h _ _ _ rfl
  grind
 simp_all
def mi.none (g) (rp):mi g az rp:=λid gen off e=>by cases e
def FU (sp:Sp)(pl:Plc)(cells:List Cell)(s:St)(x:sp.ty.den)(rest:List Cell)(s':St):Prop:=
 mE s s'/\(∃used,cells=used++rest/\used.length=sp.size)/\∀B g w,HRel B g s.hp w->∃g',Lk g g'/\HRel B g' s'.hp w/\∀us rp,dG g cells us->mi g pl rp->
  ∃Ts X8 nb,us=Ts++X8/\Pass g'.dC w sp x rp Ts nb/\iz g' nb/\dG g' rest X8/\(∀b∈nb,g.gV b≠U 0)/\qW s'.hp g' w sp (cells.take sp.size) Ts
def HRel.SU (R:HRel B g hp w){id gen:Nat}{xs:List Int}{a ag bid bg off:Nat}(h:look hp id=U (.vp gen xs a ag bid bg off)):
  ∃g' nb,Lk g g'/\HRel B g' ((id, .dead gen)::hp) w/\nb.Nodup/\(∀b∈nb,g'.gV b=U 0/\g.gV b≠U 0)/\
   ((g.cv a ag= .pointer az/\g.cv id gen= .slice az 0 0/\xs=[]/\nb=[])\/∃bb oo,g.cv bid bg= .pointer (U ⟨bb,oo,az⟩)/\g.cv a ag= .pointer (U ⟨bb,oo+off,az⟩)/\OwnAt g'.dC w aq (.int .u8) xs [g.cv id gen] nb/\∀b∈nb,∃arr,w.heap[b]?=U (.cells arr pR (0,0))):=by
 obtain⟨h1,h2,h3,h4⟩:=R.iW _ _ h;have R1:HRel B g ((id, .dead gen)::hp) w:=R.put h rfl trivial
 rcases h4 with⟨k1,k2,k3⟩|⟨bb,oo,k1,k2,⟨k3,k4⟩|⟨b,cap,arr,ty,e1,e2,e3,e4,e5,e6,e7,rfl⟩⟩
 ·exact⟨g,[],Lk.refl g,R1,bf,λb hb=>by simp_all, .inl ⟨k1,k2,k3,rfl⟩⟩
 ·exact⟨g,[],Lk.refl g,R1,bf,λb hb=>by simp_all, .inr ⟨bb,oo,k1,k2, .inl ⟨by rw[k3],k4,rfl⟩,λb hb=>by simp_all⟩⟩
 ·obtain⟨g2,l2,o2,i2,s2,f2,z2,R2⟩:=R1.WZ e2 e3 (λo ho=>by grind [dI]);refine⟨g2,[b],l2,R2,by simp,λx hx=> ?_, .inr ⟨bb,oo,k1,k2, .inr ⟨b,cap,arr,pR,[],by rw[e1],rfl,e4,e5,by simp_all[Ty.size], ?_⟩,λx hx=> ?_⟩⟩
  ·simp_all
  ·unfold oI;simp_all
  simp_all
def HRel.yj (R:HRel B g hp w):∀id gn cs,look hp id=U (.lZ gn cs)->gn<g.top id:=λ_ _ _ h=>kU R h
def Rt {arr O L:List α}(h:arr=O.take o++L++O.drop (o+L.length))(ho:o+L.length<=O.length)(hn:off+n<=L.length):(L.drop off).take n=(arr.drop (o+off)).take n:=by
 apply bn5
 intro j;simp only[cT,cJ]
 grind
def FU.close {id gen:Nat}(h:(uB id gen).run s=U ((),t))(k:FU sp pl cells t x rest s'):FU sp pl cells s x rest s':=by
 obtain⟨e1,e2,e3⟩:=A2 h;obtain⟨k1,k2,k3⟩:=k;refine⟨⟨k1.1.trans e1,λi gn cs hl=>k1.2 i gn cs (e2 i gn cs hl)⟩,k2,λB g w R=> ?_⟩;obtain⟨g1,l1,R1⟩:=e3 R;obtain⟨g2,l2,R2,c⟩:=k3 B g1 w R1;refine⟨g2,l1.trans l2,R2,λus rp hu BH=> ?_⟩;obtain⟨u1,u2,nb,a1,a2,a3,a4,a5,a6⟩:=c us rp (hu.mono l1.le) (BH.mono l1.le);exact⟨u1,u2,nb,a1,a2,a3,a4,λb hb e=>a5 b hb (l1.kp b e).1,a6⟩
def zB:∀sp pl cells s x rest s',(Dz sp pl cells).run s=U ((x,rest),s')->FU sp pl cells s x rest s':=by
 intro sp
 induction sp with
 |un=>
  intro pl cells s x rest s' h;obtain⟨h1,rfl⟩:=de h
  injection h1 with h1 h2
  subst h2;exact⟨mE.refl _,⟨[],rfl,rfl⟩,λB g w R=>⟨g,Lk.refl g,R,λus rp hu _=>⟨[],us,[],rfl,⟨rfl,rfl⟩,⟨bf,λb hb=>by simp_all⟩,hu,λb hb=>by simp_all,trivial⟩⟩⟩
 |pr a b EY EW=>
  intro pl cells s x rest s' h;obtain⟨⟨p1,p2⟩,t,h1,h2⟩:=AM.dc h;obtain⟨⟨q1,q2⟩,t2,h3,h4⟩:=AM.dc h2;obtain⟨h5,rfl⟩:=de h4
  injection h5 with h5 h6
  subst h5;subst h6;obtain⟨ka,⟨ca,ea,la⟩,sa⟩:=EY _ _ _ _ _ _ h1;obtain⟨kb,⟨cb,eb,lb⟩,sb⟩:=EW _ _ _ _ _ _ h3;have eb:p2=cb++rest:=eb;refine⟨ka.trans kb,⟨ca++cb,by rw[ea,eb,aC],by simp[la,lb,Sp.size]⟩,λB g w R=> ?_⟩;obtain⟨g1,l1,R1,c1⟩:=sa B g w R;obtain⟨g2,l2,R2,c2⟩:=sb B g1 w R1;refine⟨g2,l1.trans l2,R2,λus rp hu BH=> ?_⟩;obtain⟨u1,u2,n1,rfl,P1,O1,r1,f1,L1⟩:=c1 us rp hu BH;obtain⟨u3,u4,n2,rfl,P2,O2,r2,f2,L2⟩:=c2 u2 (rp.1,rp.2+a.size) r1 ((BH.mono l1.le).on a.size);have om:=P1.length;have uL:=P2.length;refine⟨u1++u3,u4,n1++n2,by simp,⟨u1,u3,n1,n2,rfl,rfl,P1.mono l2.le.dC,P2⟩,iz.append l2 O1 O2 f2,r2,λb hb=> ?_, ?_⟩
  ·rcases aP.1 hb with hb|hb
   ·exact f1 b hb
   ·exact λe=>f2 b hb (l1.kp b e).1
  ·have e1:((cells.take (a.size+b.size)).take a.size)=cells.take a.size:=by rw[cj];congr 1;omega
   have e2:((cells.take (a.size+b.size)).drop a.size)=p2.take b.size:=by
    rw[ea,<-la,cz,bn0]
    congr 1
    omega
   have e3:(u1++u3).take a.size=u1:=by rw[<-om];simp
   have e4:(u1++u3).drop a.size=u3:=by rw[<-om];simp
   show qW _ _ _ a ((cells.take (a.size+b.size)).take a.size) ((u1++u3).take a.size)/\qW _ _ _ b ((cells.take (a.size+b.size)).drop a.size) ((u1++u3).drop a.size);rw[e1,e2,e3,e4];exact⟨L1.mono l2.le (λid gn cs hl=>⟨kb.2 id gn cs hl,by rw[l2.out]⟩) R1.yj,L2⟩
 |fT τ=>
  intro pl cells s x rest s' h
  cases cells with
  |nil=>exact nomatch h
  |cons c cs=>
   obtain⟨y,t,h1,h2⟩:=AM.dc h;obtain⟨h3,rfl⟩:=de h2
   injection h3 with h3 h4
   subst h3;subst h4;refine⟨Ob h1,⟨[c],rfl,rfl⟩,λB g w R=> ?_⟩;obtain⟨g',l,R',hd⟩:=(Gf τ c _ _ _ h1).2 B g w R;refine⟨g',l,R',λus rp hu _=> ?_⟩;obtain⟨u,r,rfl,sC,hr⟩:=hu;obtain⟨o1,o2⟩:=hd u sC;exact⟨[u],r,[],rfl,⟨rfl,o1,u,rfl,o2⟩,⟨bf,λb hb=>by simp at hb⟩,hr.mono l.le,λb hb=>by simp at hb,trivial⟩
 |own τ dp=>
  intro pl cells s x rest s' h
  cases cells with
  |nil=>exact nomatch h
  |cons c cs=>
   cases c with
   |nil=>
    obtain⟨h3,rfl⟩:=de h
    injection h3 with h3 h4
    subst h3;subst h4;refine⟨mE.refl _,⟨[.nil],rfl,rfl⟩,λB g w R=>⟨g,Lk.refl g,R,λus rp hu _=> ?_⟩⟩;obtain⟨u,r,rfl,sC,hr⟩:=hu;have sC:_=_:=sC;subst sC;exact⟨_,r,[],rfl, .inl ⟨rfl,rfl,rfl⟩,⟨bf,λb hb=>by simp at hb⟩,hr,λb hb=>by simp at hb,trivial⟩
   |own id gen=>
    obtain⟨u0,s0,ES,h⟩:=AM.dc h;refine FU.close ES ?_;simp only[AM.run]at h;split at h
    ·rename_i g0 τ' deep xs heq;obtain⟨hb,h'⟩:=eB h;simp only[aA]at hb;obtain rfl:=beq_eq hb.1;simp only[AM.run]at h';obtain⟨ys,t,h1,h2⟩:=AM.dc h';obtain⟨h3,rfl⟩:=de h2
     injection h3 with h3 h4
     subst h3;subst h4;obtain⟨ee,hx,rfl⟩:=nX h1;subst ee;subst hx;refine⟨tz (λgn cs hl=>by rw[heq]at hl;cases hl),⟨[.own id g0],rfl,rfl⟩,λB g w R=> ?_⟩;obtain⟨g',nb,l,_,R',hn,hp,hP⟩:=R.aD8 heq hb.2;refine⟨g',l,R',λus rp hu _=> ?_⟩;obtain⟨u,r,rfl,sC,hr⟩:=hu;exact⟨[u],r,nb,rfl,by rw[sC.2.1];exact hP,⟨hn,λb hb=>(hp b hb).1⟩,hr.mono l.le,λb hb=>(hp b hb).2,trivial⟩
    ·cases h
   |_=>exact nomatch h
 |lnd τ dp=>
  intro pl cells s x rest s' h
  cases cells with
  |nil=>exact nomatch h
  |cons c cs=>
   cases c with
   |nil=>
    obtain⟨h3,rfl⟩:=de h
    injection h3 with h3 h4
    subst h3;subst h4;refine⟨mE.refl _,⟨[.nil],rfl,rfl⟩,λB g w R=>⟨g,Lk.refl g,R,λus rp hu _=> ?_⟩⟩;obtain⟨u,r,rfl,sC,hr⟩:=hu;have sC:_=_:=sC;subst sC;exact⟨_,r,[],rfl, .inl ⟨rfl,rfl,rfl⟩,⟨bf,λb hb=>by simp at hb⟩,hr,λb hb=>by simp at hb, .inl ⟨rfl,rfl⟩⟩
   |own id gen=>
    obtain⟨u0,s0,ES,h⟩:=AM.dc h;refine FU.close ES ?_;simp only[AM.run]at h;split at h
    ·rename_i g0 τ' deep xs heq;obtain⟨hb,h'⟩:=eB h;simp only[aA]at hb;obtain rfl:=beq_eq hb.1;simp only[AM.run]at h';obtain⟨ys,t,h1,h2⟩:=AM.dc h';obtain⟨h3,rfl⟩:=de h2
     injection h3 with h3 h4
     subst h3;subst h4;obtain⟨ee,hx,rfl⟩:=nX h1;subst ee;subst hx;refine⟨tz (λgn cs hl=>by rw[heq]at hl;cases hl),⟨[.own id g0],rfl,rfl⟩,λB g w R=> ?_⟩;obtain⟨g',nb,l,_,R',hn,hp,hP⟩:=R.aD8 heq hb.2
     have R2:HRel B g' ((id, .lZ g0 (0,[]))::s0.hp) w:=(R'.put (dI _ _ _) (o':= .lZ g0 (0,[])) rfl trivial).congr λi=>Ix _ _ _ _ i
     refine⟨g',l,R2,λus rp hu _=> ?_⟩;obtain⟨u,r,rfl,sC,hr⟩:=hu;refine⟨[u],r,nb,rfl,by rw[sC.2.1];exact hP,⟨hn,λb hb=>(hp b hb).1⟩,hr.mono l.le,λb hb=>(hp b hb).2, .inr ⟨id,g0,rfl, ?_,aV sC.1 (l.le.top _), ?_⟩⟩
     ·rw[sC.2.1,show g'.cv id g0=g.cv id g0 from l.le.cv _ _ sC.1]
     ·rw[show g'.cv id g0=g.cv id g0 from l.le.cv _ _ sC.1,<-sC.2.1];exact sC.2.2
    ·cases h
   |_=>exact nomatch h
 |ptr wh st sp ih=>
  intro pl cells s x rest s' h
  cases cells with
  |nil=>exact nomatch h
  |cons c cs=>
   cases c with
   |ptr id gen off=>
    simp only[Dz,AM.run]at h;split at h
    ·rename_i g0 bt bs heq;obtain⟨hb,h'⟩:=eB h;simp only[aA]at hb;obtain rfl:=beq_eq hb.1.1;have EU:=aR hb.2;simp only[AM.run]at h';obtain⟨⟨y,rst⟩,t,h1,h2⟩:=AM.dc h';obtain⟨h3,rfl⟩:=de h2
     injection h3 with h3 h4
     subst h3;subst h4;obtain⟨k1,⟨used,eu,lu⟩,hs⟩:=ih _ _ _ _ _ _ h1
     have X9:mE s {s with hp:=(id, .lZ g0 (bt,bs))::s.hp}:=tz λgn cs hl=>by rw[heq]at hl;cases hl
     refine⟨X9.trans k1,⟨[.ptr id g0 off],rfl,rfl⟩,λB g w R=> ?_⟩;have hO:=R.iW _ _ heq;obtain⟨b,o,arr,ty,L,UQ,as6,ay6,X0,aq9,a22,UA,aQ0,ZK⟩:=hO;have ZK:ty=bt:=ZK;subst ZK;have ht:=kU R heq;have R1:HRel B g ((id, .lZ g0 (ty,bs))::s.hp) w:=R.put heq rfl trivial;obtain⟨g2,l2,o2,i2,s2,f2,z2,R2⟩:=R1.WZ as6.1 as6.2 (λo ho=>by rw[dI]at ho;injection ho with ho;exact .inr ⟨g0,(ty,bs),ho.symm⟩);obtain⟨g3,l3,R3,c3⟩:=hs B g2 w R2;have ar4:=l2.trans l3;refine⟨g3,ar4,R3,λus rp hu _=> ?_⟩;obtain⟨u,r,rfl,sC,hr⟩:=hu;obtain⟨_,b1,o1,e1,rfl⟩:=sC;rw[UQ]at e1
     injection e1 with e1;injection e1 with e1;injection e1 with e1 e2
     subst e1;subst e2;have a82:L.length=bs.length:=X0.length;have Qd:dG g2 (cut off sp.size bs) ((L.drop off).take sp.size):=((X0.mono l2.le).drop off).take sp.size
     have at7:mi g2 (U (id,g0,off)) (b,o+off):=λad4 NV XK e=>by
      injection e with e;injection e with e1 e;injection e with e2 e3
      subst e1;subst e2;subst e3;exact⟨aV ht (l2.le.top _),b,o,(l2.le.cv _ _ ht).trans UQ,rfl⟩
     obtain⟨u1,u2,n1,aK1,P1,O1,r1,f1,bm6⟩:=c3 _ (b,o+off) Qd at7;have be4:=P1.length
     have Cx:u2=[]:=by
      have:=congrArg bo0 aK1;simp at this;exact bu (by omega)
     subst Cx;rw[aQ]at aK1;have Xs:(L.drop off).take sp.size=(arr.toList.drop (o+off)).take sp.size:=Rt aq9 a22 (by omega);have Qk:g3.gV b=U 0:=(l3.kp b z2).1
     have aG2:arr.size=(g.outer id).length:=by
      have:arr.toList.length=(g.outer id).length:=by
       rw[aq9];simp;omega
      simpa using this
     have bi1:=UA;have bi2:(g.outer id).length=bs.length:=aQ0;refine⟨[_],r,b::n1,rfl,⟨b,o+off,arr,ty,n1,rfl,rfl,ay6,⟨λhw=> ?_,λhw=> ?_⟩, ?_, ?_⟩,⟨cu.2 ⟨λhm=>f1 b hm z2,O1.1⟩,λx hx=> ?_⟩,hr.mono ar4.le,λx hx=> ?_, ?_⟩
     ·subst hw;have:=hb.1.2.1;simp only[bM,bH,aA]at this;have a1:=beq_eq this.1.1;have a2:=beq_eq this.1.2;have a3:=beq_eq this.2;exact⟨by omega,by omega,a3⟩
     ·subst hw;have:=hb.1.2.2;rw[bH]at this;rw[show o+off=off by omega,show arr.size=bs.length by omega];exact this
     ·omega
     ·rw[<-Xs,aK1];exact P1
     ·rcases bA.1 hx with rfl|hy
      ·exact Qk
      ·exact O1.2 x hy
     ·rcases bA.1 hx with rfl|hy
      ·rw[as6.1];simp
      ·exact λe=>f1 x hy (l2.kp x e).1
     ·refine⟨id,g0,off,bs,b,o,arr,ty,L,rfl,rfl,k1.2 id g0 (ty,bs) (dI _ _ _),(ar4.le.cv _ _ ht).trans UQ,ay6,by rw[ar4.out];exact aq9,by rw[ar4.out];exact a22,by rw[ar4.out];exact⟨bi1,bi2⟩,EU,X0.mono ar4.le, ?_⟩
      have ES:cut off sp.size bs=(cut off sp.size bs).take sp.size:=by unfold cut;rw[cj,Nat.min_self]
      rw[ES,aK1];exact bm6
    ·cases h
   |_=>exact nomatch h
 |CV ok=>
  intro pl cells s x rest s' h
  cases cells with
  |nil=>exact nomatch h
  |cons c cs=>
   cases c with
   |ptr id gen off=>
    simp only[Dz,AM.run]at h;split at h
    ·rename_i g0 bt bs heq;obtain⟨hb,h'⟩:=eB h;simp only[aA]at hb;obtain rfl:=beq_eq hb.1.1;have EU:=aR hb.2;have iE:=hb.1.2
     have place:∀{B g w},HRel B g s.hp w->∀{u},eC g (.ptr id g0 off) u->∃b arr,u= .pointer (U ⟨b,off,az⟩)/\g.cv id g0= .pointer (U ⟨b,0,az⟩)/\w.heap[b]?=U (.cells arr bt (0,0))/\arr.size=bs.length/\
       dG g (cut off 2 bs) ((arr.toList.drop off).take 2):=by
      intro B g w R u hu;obtain⟨b,o,arr,ty,L,UQ,as6,ay6,X0,aq9,a22,UA,aQ0,ZK⟩:=R.iW _ _ heq;have ZK:ty=bt:=ZK;subst ZK;have aQ0:(g.outer id).length=bs.length:=aQ0;subst UA;have a82:L.length=bs.length:=X0.length
      have e5:arr.toList=L:=by
       rw[aq9,List.take_zero,cG,cn (by omega),aQ]
      obtain⟨_,b1,o1,e1,rfl⟩:=hu;rw[UQ]at e1
      injection e1 with e1;injection e1 with e1;injection e1 with e1 e2
      subst e1;subst e2;refine⟨b,arr,by rw[bJ],UQ,ay6,by rw[<-cC,e5,a82], ?_⟩;rw[e5];exact(X0.drop off).take 2
     split at h'
     ·rename_i hc;obtain⟨h3,rfl⟩:=de h'
      injection h3 with h3 h4
      subst h3;subst h4;refine⟨mE.refl _,⟨[_],rfl,rfl⟩,λB g w R=>⟨g,Lk.refl g,R,λus rp hu _=> ?_⟩⟩;obtain⟨u,r,rfl,sC,hr⟩:=hu;obtain⟨b,arr,rfl,pz,ha,hs,P5⟩:=place R sC;rw[hc]at P5;obtain⟨u1,r1,e1,k1,u2,r2,e2,k2,e3⟩:=P5;have k1:_=_:=k1;have k2:_=_:=k2;have e3:_=_:=e3;subst k1;subst k2;subst e3;subst e2;refine⟨[_],r,[],rfl,⟨b,off,arr,bt,rfl,ha,by rw[hs];exact iE,by omega, ?_⟩,⟨bf,λb hb=>by simp at hb⟩,hr,λb hb=>by simp at hb,trivial⟩;rw[e1];exact .inl ⟨rfl,rfl,rfl⟩
     ·rename_i a ag aX9 aJ3 hc;simp only[AM.run]at h';split at h'
      ·rename_i g2 xs a' aL8 bid bg off2 Zm;obtain⟨CW,a81⟩:=eB h';simp only[aA]at CW;obtain rfl:=beq_eq CW.1.1.1;obtain rfl:=beq_eq CW.1.1.2;obtain rfl:=beq_eq CW.1.2;obtain rfl:=beq_eq CW.2.1.1;obtain rfl:=beq_eq CW.2.1.2;obtain rfl:=beq_eq CW.2.2;simp only[AM.run,cc,cB]at a81;obtain⟨⟨rfl,rfl⟩,rfl⟩:=a81;refine⟨tz (λgn cs hl=>by rw[Zm]at hl;cases hl),⟨[_],rfl,rfl⟩,λB g w R=> ?_⟩;obtain⟨g',nb,l,R',hn,hp,hP⟩:=R.SU Zm;refine⟨g',l,R',λus rp hu BH=> ?_⟩;obtain⟨u,r,rfl,sC,hr⟩:=hu;obtain⟨b,arr,rfl,pz,ha,hs,P5⟩:=place R sC;rw[hc]at P5;obtain⟨u1,r1,e1,k1,u2,r2,e2,k2,e3⟩:=P5;have e3:_=_:=e3;subst e3;subst e2;refine⟨[_],r,nb,rfl,⟨b,_,arr,bt,rfl,ha,by rw[hs];exact iE,by omega, ?_⟩,⟨hn,λb hb=>(hp b hb).1⟩,hr.mono l.le,λb hb=>(hp b hb).2,trivial⟩;rw[e1]
       rcases hP with⟨q1,q2,q3,q4⟩|⟨bb,oo,q1,q2,q3⟩
       ·exact .inl ⟨by rw[k1.2.1,k2.2.1,q1,q2],q3,q4⟩
       ·rw[pz]at q1
        injection q1 with q1;injection q1 with q1;injection q1 with q1 q4
        subst q1;subst q4;exact .inr ⟨u2,by rw[k1.2.1,q2,bJ],by rw[k2.2.1];exact q3⟩
      ·cases h'
     ·cases h'
    ·cases h
   |_=>exact nomatch h
 |vp=>
  intro pl cells s x rest s' h
  cases cells with
  |nil=>exact nomatch h
  |cons c cs=>
   cases cs with
   |nil=>cases c<;>exact nomatch h
   |cons c2 cs=>
    cases c with
    |np=>
     cases c2 with
     |nil=>
      obtain⟨h3,rfl⟩:=de h
      injection h3 with h3 h4
      subst h3;subst h4;refine⟨mE.refl _,⟨[.np, .nil],rfl,rfl⟩,λB g w R=>⟨g,Lk.refl g,R,λus rp hu _=> ?_⟩⟩;obtain⟨u,r,rfl,sC,u',r',rfl,Cx,hr⟩:=hu;have sC:_=_:=sC;have Cx:_=_:=Cx;subst sC;subst Cx;exact⟨[_,_],r',[],rfl, .inl ⟨rfl,rfl,rfl⟩,⟨bf,λb hb=>by simp at hb⟩,hr,λb hb=>by simp at hb,trivial⟩
     |_=>exact nomatch h
    |own a ag=>
     cases c2 with
     |own id gen=>
      simp only[Dz,AM.run]at h;split at h
      ·rename_i g0 xs a' aL8 bid bg off heq;obtain⟨hb,h'⟩:=eB h;simp only[aA]at hb;obtain rfl:=beq_eq hb.1.1.1;obtain rfl:=beq_eq hb.1.1.2;obtain rfl:=beq_eq hb.1.2;simp only[AM.run,cc,cB]at h';obtain⟨⟨rfl,rfl⟩,rfl⟩:=h';refine⟨tz (λgn cs hl=>by rw[heq]at hl;cases hl),⟨[_,_],rfl,rfl⟩,λB g w R=> ?_⟩;obtain⟨g',nb,l,R',hn,hp,hP⟩:=R.SU heq;refine⟨g',l,R',λus rp hu BH=> ?_⟩;obtain⟨u,r,rfl,sC,u',r',rfl,Cx,hr⟩:=hu;refine⟨[u,u'],r',nb,rfl, ?_,⟨hn,λb hb=>(hp b hb).1⟩,hr.mono l.le,λb hb=>(hp b hb).2,trivial⟩
       rcases hP with⟨k1,k2,k3,k4⟩|⟨bb,oo,k1,k2,k3⟩
       ·exact .inl ⟨by rw[sC.2.1,Cx.2.1,k1,k2],k3,k4⟩
       ·have bg9:pl=U (bid,bg,off):=by
         have:=hb.2;unfold Plc.is at this;split at this
         ·simp only[aA]at this;rw[beq_eq this.1.1,beq_eq this.1.2,beq_eq this.2]
         ·cases this
        obtain⟨_,b',o',q1,q2⟩:=BH _ _ _ bg9;rw[k1]at q1
        injection q1 with q1;injection q1 with q1;injection q1 with q1 q3
        subst q1;subst q3;refine .inr ⟨u', ?_,by rw[Cx.2.1];exact k3⟩;rw[sC.2.1,k2,q2]
      ·cases h
     |_=>exact nomatch h
    |_=>exact nomatch h
 |err=>
  intro pl cells s x rest s' h
  cases cells with
  |nil=>exact nomatch h
  |cons c cs=>
   cases c with
   |err b=>
    obtain⟨h3,rfl⟩:=de h
    injection h3 with h3 h4
    subst h3;subst h4;refine⟨mE.refl _,⟨[_],rfl,rfl⟩,λB g w R=>⟨g,Lk.refl g,R,λus rp hu _=> ?_⟩⟩;obtain⟨u,r,rfl,sC,hr⟩:=hu;exact⟨[u],r,[],rfl,⟨rfl,u,rfl,sC⟩,⟨bf,λb hb=>by simp at hb⟩,hr,λb hb=>by simp at hb,trivial⟩
   |_=>exact nomatch h
 |np=>
  intro pl cells s x rest s' h
  cases cells with
  |nil=>exact nomatch h
  |cons c cs=>
   cases c with
   |np=>
    obtain⟨h3,rfl⟩:=de h
    injection h3 with h3 h4
    subst h4;refine⟨mE.refl _,⟨[_],rfl,rfl⟩,λB g w R=>⟨g,Lk.refl g,R,λus rp hu _=> ?_⟩⟩;obtain⟨u,r,rfl,sC,hr⟩:=hu;have sC:_=_:=sC;subst sC;exact⟨_,r,[],rfl,⟨rfl,rfl⟩,⟨bf,λb hb=>by simp at hb⟩,hr,λb hb=>by simp at hb,trivial⟩
   |_=>exact nomatch h
 |slf f m=>
  intro pl cells s x rest s' h
  cases cells with
  |nil=>exact nomatch h
  |cons c cs=>
   cases c with
   |ptr id gen off=>
    obtain⟨_,h⟩:=eB h;obtain⟨h3,rfl⟩:=de h
    injection h3 with h3 h4
    subst h4;refine⟨mE.refl _,⟨[_],rfl,rfl⟩,λB g w R=>⟨g,Lk.refl g,R,λus rp hu _=> ?_⟩⟩;obtain⟨u,r,rfl,sC,hr⟩:=hu;obtain⟨_,b,o,_,rfl⟩:=sC;exact⟨_,r,[],rfl,⟨rfl,_,_,rfl⟩,⟨bf,λb hb=>by simp at hb⟩,hr,λb hb=>by simp at hb,trivial⟩
   |_=>exact nomatch h
end Go.Abs
end

