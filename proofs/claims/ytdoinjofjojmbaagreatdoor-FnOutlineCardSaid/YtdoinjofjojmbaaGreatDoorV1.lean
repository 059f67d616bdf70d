/- What is here: a deterministic evaluator of the model's code over plain data (lists, numbers), by the help of which each Go function is told as a Lean function. Definitions alone. -/
import Derived.Calls
import Derived.Orders
import Derived.WalkKit
import Derived.Laws.Tables
import Derived.Laws.MakeOwn
import Derived.Laws.BytesString
import Derived.Laws.Slices
import Derived.Lib.ConvBytes
import Derived.Deep.Upon
set_option linter.all false
set_option maxRecDepth 100000
open Go.IntKind (i64 u64 u8)
open Array renaming ext' → a84, getElem?_push → a29, length_toList → a30
open BitVec renaming ofInt → cw
open Bool renaming and_eq_true → aA, and_false → aQ, false → ar, false_and → a47, false_eq_true → bZ, not_eq_true' → cq, true → av
open Decidable renaming decide → I
open Go renaming binOp → a04
open Go.Addr renaming add_lit → a16
open Go.Builtin renaming append_ → a18
open Go.Instr renaming loadAt → a66, sliceAt → a22, sureAddr → a44
open Go.Op renaming equalIn → a42
open Go.Region renaming binds → a48
open Go.Result renaming andThen_ok → bh
open Go.Sem renaming run_bind → bH, run_pure → a08
open Go.Value renaming int → bN
open List renaming all_cons → cz, append_assoc → aI, append_nil → aU, drop → a77, drop_append_of_le_length → bI, drop_drop → b8, drop_eq_getElem_cons → bJ, drop_eq_nil_of_le → cd, drop_left → cN, drop_take → cr, drop_zero → cc, eq_nil_of_length_eq_zero → bn, ext_getElem? → a06, getD_eq_getElem?_getD → aG, getElem?_drop → cL, getElem?_eq_getElem → aJ, getElem?_eq_some_iff → bw, getElem?_map → a05, getElem?_take → cK, length → a14, length_append → ax, length_cons → az, length_drop → bL, length_map → bT, length_nil → aB, length_pos_iff → cp, length_set → cA, length_take → bl, mem_append → aL, mem_append_left → aV, mem_append_right → aY, mem_cons → bA, nil_append → bS, nodup_append → bC, nodup_nil → bf, range → a09, replicate → aM, replicate_succ → cF, take → a78, take_append_of_le_length → cf, take_left → a45, take_of_length_le → a11, take_take → b9
open Nat renaming add_mul → bQ, beq → aw, ble → a10, blt → cE, eq_of_beq_eq_true → bV, le_of_ble_eq_true → aP, le_refl → aC, le_trans → bX, lt_of_lt_of_le → aR, lt_or_ge → bG, min_eq_left → a07, mul_le_mul → a13, mul_one → a57, zero_add → cj
open Option renaming bind_eq_some_iff → bB, map_eq_some_iff → bj, none → ay, some → J
open Option.some renaming injEq → bY
open Prod.mk renaming injEq → cy
section
namespace Go.Abs
theorem aa:∀{p:Prop} [inst:Decidable p],¬p->decide p=false:= @decide_eq_false
theorem ab:∀{p:Prop} [inst:Decidable p],p->decide p=true:= @decide_eq_true
theorem ae:∀{p:Prop} [inst:Decidable p],(decide p=true)=p:= @decide_eq_true_eq
theorem af:∀{p:Prop} {x:Decidable p},decide p=false↔¬p:= @decide_eq_false_iff_not
theorem ah.{u_1}:∀{α:Sort u_1} (a b:α),(bif false then a else b)=b:= @cond_false
theorem ai.{u_1}:∀{α:Sort u_1} (a b:α),(bif true then a else b)=a:= @cond_true
theorem aj.{u}:∀{c:Prop} {h:Decidable c},¬c->∀{α:Sort u} {t e:α},(if c then t else e)=e:= @if_neg
theorem ak.{u}:∀{c:Prop} {h:Decidable c},c->∀{α:Sort u} {t e:α},(if c then t else e)=t:= @if_pos
abbrev LI:=List Int
end Go.Abs
namespace Go.Abs
inductive Ty where
 |int (k:IntKind)|bool|str|sl (e:Ty)|un|pr (a b:Ty)|cl
 deriving DecidableEq
@[reducible] def Ty.den:Ty->Type
 | .int _=>Int
 | .bool=>Bool
 | .str=>List Int
 | .sl e=>List e.den
 | .un=>Unit
 | .pr a b=>a.den×b.den
 | .cl=>List Int
def Ty.Xk:(τ:Ty)->τ.den
 | .int _=>(0:Int)
 | .bool=>ar
 | .str=>([]:List Int)
 | .sl _=>[]
 | .un=>()
 | .pr a b=>(a.Xk,b.Xk)
 | .cl=>([]:List Int)
def Ty.size:Ty->Nat
 | .un=>0
 | .pr a b=>a.size+b.size
 |_=>1
def Ty.flat:Ty->Bool
 | .sl _=>ar
 | .cl=>ar
 | .pr a b=>a.flat&&b.flat
 |_=>av
def Ty.one:Ty->Bool
 | .un=>ar
 | .pr _ _=>ar
 |_=>av
inductive Cell where
 |v (τ:Ty) (x:τ.den)
 |nil
 |own (id gen:Nat)
 |ptr (id gen off:Nat)
 |np
 |nf
 |fn (f:FuncId) (lh:List (Nat×Nat))
 |err (isNil:Bool)
inductive Val where
 |one (c:Cell)
 |agg (cs:List Cell)
inductive Slot where
 |val (v:Val)
 |yc (vs:List Val)
 |ea (src:Cell) (i:Int) (off sz:Nat)
 |fa (xs:List Int) (off:Nat)
 |ga (g:Nat)
 |un
 |sk
inductive Obj where
 |box (gen:Nat) (r:Nat×List Cell)
 |own (gen:Nat) (τ:Ty) (deep:Bool) (xs:List τ.den)
 |fh (gen:Nat) (τ:Ty) (xs:List τ.den)
 |ac3 (gen:Nat) (xs:List Int)
 |dead (gen:Nat)
 |j1 (gen:Nat) (r:Nat×List Cell)
 |hole (gen:Nat) (τ:Ty) (xs:List τ.den) (i:Int) (off d gd:Nat)
 |mp (gen:Nat) (τ:Ty) (xs:List (Int×τ.den))
 |uY (gen:Nat) (xs:List Int) (a ag:Nat) (id bg off:Nat)
def Obj.gen:Obj->Nat
 | .box g _| .own g _ _ _| .fh g _ _| .ac3 g _| .dead g| .j1 g _| .uY g _ _ _ _ _ _| .hole g _ _ _ _ _ _| .mp g _ _=>g
structure St where
 env:List (Nat×Slot)
 hp:List (Nat×Obj)
def look {β:Type}:List (Nat×β)->Nat->Option β
 |[],_=>ay
 |(m,b)::r,n=>bif aw m n then J b else look r n
inductive AM (α:Type):Type where
 |ret (a:α)
 |br (b:Bool) (t e:AM α)
 |fail
 |xK (t:Nat) (k:Slot->AM α)
 |Dk (t:Nat) (s:Slot) (k:AM α)
 |kY (id:Nat) (k:Option Obj->AM α)
 |mm (id:Nat) (o:Obj) (k:AM α)
 |opt (c:Ty) (x:Option c.den) (k:c.den->AM α)
def AM.bind {α β:Type}:AM α->(α->AM β)->AM β
 | .ret a,f=>f a
 | .br b t e,f=> .br b (t.bind f) (e.bind f)
 | .fail,_=> .fail
 | .xK t k,f=> .xK t λs=>(k s).bind f
 | .Dk t s k,f=> .Dk t s (k.bind f)
 | .kY i k,f=> .kY i λo=>(k o).bind f
 | .mm i o k,f=> .mm i o (k.bind f)
 | .opt c x k,f=> .opt c x λd=>(k d).bind f
instance:Monad AM where
 pure:=AM.ret
 bind:=AM.bind
def AM.run {α:Type}:AM α->St->Option (α×St)
 | .ret a,s=>J (a,s)
 | .br b t e,s=>bif b then t.run s else e.run s
 | .fail,_=>ay
 | .xK t k,s=>match look s.env t with
  |some x=>(k x).run s
  |none=>ay
 | .Dk t x k,s=>k.run {s with env:=(t,x)::s.env}
 | .kY i k,s=>(k (look s.hp i)).run s
 | .mm i o k,s=>k.run {s with hp:=(i,o)::s.hp}
 | .opt _ x k,s=>match x with
  |some d=>(k d).run s
  |none=>ay
@[irreducible] def brk {ρ:Type}(b:Bool)(t e:Option ρ):Option ρ:=bif b then t else e
theorem gC {ρ:Type}(b:Bool)(t e:Option ρ):brk b t e=bif b then t else e:=by grind [brk]
def AM.exec {α ρ:Type}:AM α->St->(α->St->Option ρ)->Option ρ
 | .ret a,s,K=>K a s
 | .br b t e,s,K=>brk b (t.exec s K) (e.exec s K)
 | .fail,_,_=>ay
 | .xK t k,s,K=>match look s.env t with
  |some x=>(k x).exec s K
  |none=>ay
 | .Dk t x k,s,K=>k.exec {s with env:=(t,x)::s.env} K
 | .kY i k,s,K=>(k (look s.hp i)).exec s K
 | .mm i o k,s,K=>k.exec {s with hp:=(i,o)::s.hp} K
 | .opt _ x k,s,K=>x.bind λd=>(k d).exec s K
theorem AM.S3 {α ρ:Type}(m:AM α):∀(s:St) (K:α->St->Option ρ),m.exec s K=(m.run s).bind λp=>K p.1 p.2:=by
 induction m with
 |ret a=>intro s K;rfl
 |br b t e Yv Yb=>intro s K;cases b<;>simp[exec,run,Yv,Yb,gC]
 |fail=>intro s K;rfl
 |xK t k ih=>intro s K;simp[exec,run];grind
 |Dk t x k ih=>intro s K;simp[exec,run,ih]
 |kY i k ih=>intro s K;simp[exec,run,ih]
 |mm i o k ih=>intro s K;simp[exec,run,ih]
 |opt c x k ih=>intro s K;cases x<;>simp[exec,run,ih]
abbrev PT:=Nat×List (Nat×Nat×Nat)
def Im:List (Nat×Nat×Nat)->Nat->Nat->Nat->Bool
 |[],_,_,_=>ar
 |t::r,a,b,c=>(aw t.1 a&&aw t.2.1 b&&aw t.2.2 c)||Im r a b c
inductive Sp where
 |un
 |pr (a b:Sp)
 |fh (τ:Ty)
 |own (τ:Ty) (deep:Bool)
 |lnd (τ:Ty) (deep:Bool)
 |ptr (whole:Bool) (ty:PT) (s:Sp)
 |Bc (ok:List (Nat×Nat×Nat))
 |uY
 |err
 |np
 |slf (f m:Nat)
@[reducible] def Sp.ty:Sp->Ty
 | .un=> .un
 | .pr a b=> .pr a.ty b.ty
 | .fh τ=>τ
 | .own τ _=> .sl τ
 | .lnd τ _=> .sl τ
 | .ptr _ _ s=>s.ty
 | .Bc _=> .str
 | .uY=> .str
 | .err=> .bool
 | .np=> .un
 | .slf _ _=> .un
@[reducible] def Sp.size:Sp->Nat
 | .un=>0
 | .pr a b=>a.size+b.size
 | .uY=>2
 |_=>1
@[reducible] def Sp.qQ:Sp->Ty
 | .pr a b=> .pr a.qQ b.qQ
 | .ptr _ _ s=>s.ty
 | .lnd τ _=> .sl τ
 |_=> .un
inductive VSp where
 |one (s:Sp)
 |agg (s:Sp)
def x8:List VSp->Option (Nat×Nat)
 |[]=>ay
 |[.one (.slf f m)]=>J (f,m)
 |_::r=>x8 r
def HA (as:List VSp):Option (Nat×List Nat):=match x8 as with
 |some p=>J (p.1,(a09 as.length).drop p.2)
 |none=>ay
@[reducible] def VSp.sp:VSp->Sp
 | .one s=>s
 | .agg s=>s
@[reducible] def eI:List VSp->Ty
 |[]=> .un
 |a::r=> .pr a.sp.ty (eI r)
@[reducible] def rk:List VSp->Ty
 |[]=> .un
 |a::r=> .pr a.sp.qQ (rk r)
inductive RSp where
 |val (v:VSp)
 |yc (vs:List VSp)
 |none
@[reducible] def RSp.ty:RSp->Ty
 | .val v=>v.sp.ty
 | .yc vs=>eI vs
 | .none=> .un
structure Sig where
 args:List VSp
 res:RSp
@[reducible] def Sig.dom (s:Sig):Ty:=eI s.args
@[reducible] def Sig.cod (s:Sig):Ty:= .pr s.res.ty (rk s.args)
structure Callee where
 sig:Sig
 F:sig.dom.den->Option sig.cod.den
end Go.Abs
end

section
namespace Go.Abs
structure Env where
 P:Program
 callee:FuncId->Option Callee
 fH:Nat->Option (List Cell)
 cl:TypeId
 nt:Nat
 oH:List Nat
 nest:Bool:=ar
 trim:Bool:=ar
 ini:Bool:=ar
 fst:Bool:=ar
 slf:Option (FuncId×List Nat):=ay
def lim:Nat:=1099511627776
def nv:Nat:=100000
def fits (n:Nat):Bool:=a10 n lim
namespace Env
variable(E:Env)
def M9 (f:TypeId->Option Ty):List Field->Option Ty
 |[]=>J .un
 |x::r=>(f x.type).bind λa=>(M9 f r).map (.pr a)
def tyN:Nat->TypeId->Option Ty
 |0,_=>ay
 |k+1,t=>match E.P.underlying t with
  |some (.int k)=>J (.int k)
  |some .bool=>J .bool
  |some .string=>J .str
  |some (.slice e)=>(tyN k e).map .sl
  |some (.struct fs)=>M9 (tyN k) fs.toList
  |some (.pointer _)=>bif aw t E.cl then J .cl else ay
  |_=>ay
def ty (t:TypeId):AM Ty:=match E.tyN 6 t with
 |some τ=> .ret τ
 |none=> .fail
def isAgg (t:TypeId):Option Bool:=match E.P.underlying t with
 |some (.struct _)|some (.array _ _)=>J av
 |some _=>J ar
 |none=>ay
def sizeOf (t:TypeId):Option Nat:=(E.P.info? t).map (·.size)
def field (s:TypeId)(i:Nat):Option Field:=match E.P.underlying s with
 |some (.struct fs)=>fs[i]?
 |_=>ay
def elem (t:TypeId):Option TypeId:=match E.P.underlying t with
 |some (.slice e)=>J e
 |_=>ay
def NR (e:TypeId)(τ:Ty):Bool:=match E.P.info? e with
 |some i=>aw i.size τ.size&&a10 i.bytes 128&&a10 τ.size 64&&match i.zero with
  |some z=>aw z.cells.toList.length τ.size
  |none=>ar
 |none=>ar
def sized (t:TypeId):Bool:=match E.P.underlying t with
 |some (.struct fs)=>fs.toList.all λf=>(E.P.info? f.type).isSome
 |_=>ar
end Env
def kf {α:Type}:Option α->AM α
 |some a=> .ret a
 |none=> .fail
def bytesOf (s:ByteArray):List Int:=s.data.toList.map λb=>(b.toNat:Int)
def D8:Value->Option Cell
 | .int k n=>J (.v (.int k) n)
 | .bool b=>J (.v .bool b)
 | .string s=>J (.v .str (bytesOf s))
 | .slice ay 0 0=>J .nil
 | .pointer ay=>J .np
 | .nilIface=>J (.err av)
 | .nilFunc=>J .nf
 |_=>ay
def uF:List Value->Option (List Cell)
 |[]=>J []
 |x::r=>(D8 x).bind λc=>(uF r).map (c:: ·)
def zm:Value->Option Val
 | .agg cs=>(uF cs.toList).map .agg
 |x=>(D8 x).map .one
def Env.zeroCells (E:Env)(t:TypeId):Option (List Cell):=((E.P.info? t).bind (·.zero)).bind λz=>uF z.cells.toList
def ev:Operand->AM Slot
 | .tmp t=> .xK t .ret
 | .const x=>match zm x with
  |some c=> .ret (.val c)
  |none=> .fail
 | .global g=> .ret (.ga g)
 | .func f=> .ret (.val (.one (.fn f [])))
def NT:Slot->AM Val
 | .val v=> .ret v
 |_=> .fail
def evV (x:Operand):AM Val:=(ev x).bind NT
def Val.cells:Val->List Cell
 | .one c=>[c]
 | .agg cs=>cs
def Ik (agg:Bool)(cs:List Cell):AM Val:=
 bif agg then .ret (.agg cs)else match cs with
  |[c]=> .ret (.one c)
  |_=> .fail
def asInt:Val->AM Int
 | .one (.v (.int _) n)=> .ret n
 |_=> .fail
def asBool:Val->AM Bool
 | .one (.v .bool b)=> .ret b
 |_=> .fail
def wZ {τ τ':Ty}(x:List τ.den):AM (List τ'.den):=if h:τ=τ' then .ret (h ▸ x)else .fail
def chk (b:Bool):AM Unit:= .br b (.ret ()) .fail
def SE:Nat->Cell->AM (List Int)
 |_, .np=> .ret []
 |_, .v .cl xs=> .ret xs
 |k+1, .ptr id gen 0=> .kY id fun
  |some (.box g (_,[.v (.int .i64) x,c]))=>bif aw g gen&&cE id nv then(SE k c).bind λxs=> .kY id fun
    |some (.box _ _)=> .mm id (.ac3 g (x::xs)) (.ret (x::xs:List Int))
    |_=> .fail
   else .fail
  |some (.ac3 g xs)=>bif aw g gen then .ret xs else .fail
  |_=> .fail
 |_,_=> .fail
def datum:(τ:Ty)->Cell->AM τ.den
 | .int k, .v (.int k') x=>if k=k' then .ret x else .fail
 | .bool, .v .bool b=> .ret b
 | .str, .v .str l=> .ret l
 | .sl e, .v (.sl e') xs=>wZ (τ':=e) xs
 | .sl _, .nil=> .ret []
 | .sl e, .own id gen=> .kY id fun
  |some (.own g τ _ xs)=>bif aw g gen then .mm id (.fh g τ xs) (wZ (τ':=e) xs)else .fail
  |some (.fh g _ xs)=>bif aw g gen then wZ (τ':=e) xs else .fail
  |_=> .fail
 | .cl,c=>SE 4 c
 |_,_=> .fail
def NP:(τ:Ty)->Cell->AM τ.den
 | .sl e, .own id gen=> .kY id fun
  |some (.own g τ _ xs)=>bif aw g gen&&τ.flat then .mm id (.dead g) (wZ (τ':=e) xs)else .fail
  |_=> .fail
 | .sl e, .nil=>bif e.flat then .ret []else .fail
 | .int k, .v (.int k') x=>if k=k' then .ret x else .fail
 | .bool, .v .bool b=> .ret b
 | .str, .v .str l=> .ret l
 |_,_=> .fail
def Af:List Cell->Bool
 |[]=>av
 | .v (.sl _) _::_=>ar
 | .v .cl _::_=>ar
 | .ptr _ _ _::_=>ar
 |_::r=>Af r
def pack (mv:Bool):(τ:Ty)->List Cell->AM (τ.den×List Cell)
 | .un,cs=> .ret ((),cs)
 | .pr a b,cs=>(pack mv a cs).bind λp=>(pack mv b p.2).bind λq=> .ret ((p.1,q.1),q.2)
 |τ,c::cs=>(bif mv then NP τ c else datum τ c).bind λx=> .ret (x,cs)
 |_,_=> .fail
def unpack:(τ:Ty)->τ.den->List Cell
 | .un,_=>[]
 | .pr a b,x=>unpack a x.1++unpack b x.2
 |τ,x=>[.v τ x]
def iV:(τ:Ty)->τ.den->Nat->Cell->Option τ.den
 | .pr a b,x,off,c=>bif cE off a.size then(iV a x.1 off c).map λy=>(y,x.2)else(iV b x.2 (off - a.size) c).map λy=>(x.1,y)
 | .int k,_,0, .v (.int k') y=>if k=k' then J y else ay
 | .bool,_,0, .v .bool y=>J y
 | .str,_,0, .v .str y=>J y
 |_,_,_,_=>ay
def jv (id:Nat):AM Nat:= .kY id fun
 |some (.j1 _ _)=> .fail
 |some o=> .ret (o.gen+1)
 |none=> .ret 0
def H5 (d:Nat)(ty:Nat)(cs:List Cell):AM Slot:=(jv d).bind λg=> .mm d (.box g (ty,cs)) (.ret (.val (.one (.ptr d g 0))))
def H6 (d:Nat)(τ:Ty)(deep:Bool)(xs:List τ.den):AM Cell:=(jv d).bind λg=> .mm d (.own g τ deep xs) (.ret (.own d g))
def JY (cs:List Cell):Bool:=cs.any fun
 | .v (.sl _) _=>av
 | .v .cl _=>av
 |_=>ar
def cut (off n:Nat)(cs:List Cell):List Cell:=(cs.drop off).take n
def at_ {τ:Ty}(xs:List τ.den)(i:Int):τ.den:=xs.getD i.toNat τ.Xk
def B8:(τ:Ty)->τ.den->Nat->Option ((e:Ty)×List e.den)
 | .pr a b,x,off=>bif cE off a.size then B8 a x.1 off else B8 b x.2 (off - a.size)
 | .sl e,xs,0=>J ⟨e,xs⟩
 |_,_,_=>ay
def qe:(τ:Ty)->τ.den->Nat->(e:Ty)->List e.den->Option τ.den
 | .pr a b,x,off,e,ys=>bif cE off a.size then(qe a x.1 off e ys).map λy=>(y,x.2)else(qe b x.2 (off - a.size) e ys).map λy=>(x.1,y)
 | .sl e',_,0,e,ys=>if h:e=e' then J (h ▸ ys)else ay
 |_,_,_,_,_=>ay
def sy (id gen:Nat):AM Unit:= .kY id fun
 |some (.hole g τ xs i off d gd)=>bif aw g gen then .kY d fun
   |some (.own g2 e _ ys)=>bif aw g2 gd&& !aw d id then match qe τ (at_ xs i) off e ys with
     |some x=> .mm d (.dead g2) (.mm id (.own g τ av (xs.set i.toNat x)) (.ret ()))
     |none=> .fail
    else .fail
   |_=> .fail
  else .fail
 |_=> .ret ()
def D2:Cell->AM Unit
 | .own id gen=>sy id gen
 |_=> .ret ()
def Li (d id gen:Nat)(i:Int)(off sz:Nat):AM Slot:= .kY id fun
 |some (.own g τ av xs)=>bif aw g gen&&aw sz τ.size&& !τ.flat&& !aw d id then match B8 τ (at_ xs i) off with
   |some ⟨e,ys⟩=>match qe τ (at_ xs i) off e []with
     |some _=>(jv d).bind λgd=> .mm d (.own gd e av ys) (.mm id (.hole g τ xs i off d gd) (.ret (.val (.one (.own d gd)))))
     |none=> .fail
   |none=> .fail
  else .fail
 |_=> .fail
def HC (τ:Ty)(off:Nat):Bool:=match τ with
 | .pr a b=>bif cE off a.size then HC a off else HC b (off - a.size)
 | .sl _=>aw off 0
 |_=>ar
def PC (E:Env)(ag:Bool):Slot->AM Bool
 | .ea (.own id gen) _ off _=>bif E.nest&& !ag then .kY id fun
   |some (.own _ τ av _)=> .ret (HC τ off)
   |_=> .ret ar
  else .ret ar
 |_=> .ret ar
def HQ (d:Nat):Slot->AM Slot
 | .ea (.own id gen) i off sz=>Li d id gen i off sz
 |_=> .fail
def C6 (E:Env)(n:Nat):Slot->AM (List Cell)
 | .val (.one (.ptr id gen off))=> .kY id fun
  |some (.box g (_,cs))=>bif aw g gen&&a10 (off+n) cs.length then .ret (cut off n cs)else .fail
  |_=> .fail
 | .ea (.v (.sl τ) xs) i off sz=>bif aw sz τ.size&&a10 (off+n) τ.size then .ret (cut off n (unpack τ (at_ xs i)))else .fail
 | .ea (.own id gen) i off sz=> .kY id fun
  |some (.fh g τ xs)=>bif aw g gen&&aw sz τ.size&&a10 (off+n) τ.size then .ret (cut off n (unpack τ (at_ xs i)))else .fail
  |some (.own g τ deep xs)=>bif aw g gen&&aw sz τ.size&&a10 (off+n) τ.size then
    let cs:=cut off n (unpack τ (at_ xs i))
    bif deep&&JY cs then .mm id (.own g τ ar xs) (.ret cs)else .ret cs
   else .fail
  |_=> .fail
 | .fa xs 0=>bif aw n 1 then .ret [.v (.int .i64) (xs.headD 0)]else .fail
 | .fa xs 1=>bif aw n 1 then .ret [.v .cl xs.tail]else .fail
 | .ga g=>bif aw n 1 then(kf ((E.fH g).bind λ|[c]=>J c|_=>ay)).bind λc=> .ret [c]else .fail
 |_=> .fail
def setCells (off:Nat)(new cs:List Cell):List Cell:=cs.take off++new++cs.drop (off+new.length)
def UX (id gen:Nat)(τ:Ty)(deep:Bool)(i:Int)(x:τ.den):AM Unit:= .kY id fun
 |some (.own g τ' dp xs)=>bif aw g gen&&(dp==deep)then
   if h:τ=τ' then .mm id (.own g τ' dp (xs.set i.toNat (h ▸ x))) (.ret ())else .fail
  else .fail
 |_=> .fail
def Ec (new:List Cell):Slot->AM Unit
 | .val (.one (.ptr id gen off))=> .kY id fun
  |some (.box g (ty,cs))=>bif aw g gen&&a10 (off+new.length) cs.length then .mm id (.box g (ty,setCells off new cs)) (.ret ())else .fail
  |_=> .fail
 | .ea (.own id gen) i off sz=> .kY id fun
  |some (.own g τ deep xs)=>bif aw g gen&&aw sz τ.size then
    bif aw off 0&&aw new.length τ.size then
     (pack (deep&& !τ.flat) τ new).bind λp=>UX id gen τ deep i p.1
    else match new with
     |[c]=>match iV τ (at_ xs i) off c with
      |some x=> .mm id (.own g τ deep (xs.set i.toNat x)) (.ret ())
      |none=> .fail
     |_=> .fail
   else .fail
  |_=> .fail
 |_=> .fail
def wb (b:Bool):Slot:= .val (.one (.v .bool b))
def wi (k:IntKind)(n:Int):Slot:= .val (.one (.v (.int k) n))
def ws (l:List Int):Slot:= .val (.one (.v .str l))
def mw:List Cell->List Cell->Option Bool
 |[],[]=>J av
 | .v (.int k) x::a, .v (.int k') y::b=>if k=k' then(mw a b).map (I (x=y)&& ·)else ay
 | .v .bool x::a, .v .bool y::b=>(mw a b).map (I (x=y)&& ·)
 | .v .str x::a, .v .str y::b=>(mw a b).map (I (x=y)&& ·)
 |_,_=>ay
def intBits (op:BinOp)(k:IntKind)(x y:Int):Int:=
 match op with
 | .and=>k.wrap (cw k.bits x&&&cw k.bits y).toNat
 | .or=>k.wrap (cw k.bits x|||cw k.bits y).toNat
 |_=>k.wrap (cw k.bits x^^^cw k.bits y).toNat
def Pn (op:BinOp)(k k':IntKind)(x y:Int):AM Slot:=
 match op with
 | .shr=> .br (I (0<=y)) (.ret (wi k (x.fdiv (2^min y.toNat k.bits)))) .fail
 | .shl=> .br (I (0<=y)) (.ret (wi k (k.wrap (x*2^min y.toNat k.bits)))) .fail
 |_=>if k=k' then match op with
  | .add=> .ret (wi k (k.wrap (x+y)))
  | .sub=> .ret (wi k (k.wrap (x - y)))
  | .mul=> .ret (wi k (k.wrap (x*y)))
  | .quo=> .br (I (y≠0)) (.ret (wi k (k.wrap (x.tdiv y)))) .fail
  | .rem=> .br (I (y≠0)) (.ret (wi k (x.tmod y))) .fail
  | .and=> .ret (wi k (intBits .and k x y))
  | .or=> .ret (wi k (intBits .or k x y))
  | .xor=> .ret (wi k (intBits .xor k x y))
  | .eql=> .ret (wb (I (x=y)))
  | .neq=> .ret (wb (!I (x=y)))
  | .lss=> .ret (wb (I (x<y)))
  | .leq=> .ret (wb (I (x<=y)))
  | .gtr=> .ret (wb (I (y<x)))
  | .geq=> .ret (wb (I (y<=x)))
  |_=> .fail
  else .fail
def Lg (op:BinOp)(x y:List Int):AM Slot:=
 match op with
 | .add=> .br (fits (x.length+y.length)) (.ret (ws (x++y))) .fail
 | .eql=> .ret (wb (I (x=y)))
 | .neq=> .ret (wb (!I (x=y)))
 |_=> .fail
def Em (op:BinOp)(b:Bool):AM Slot:=
 match op with
 | .eql=> .ret (wb b)
 | .neq=> .ret (wb !b)
 |_=> .fail
def oB (P:Program):List Field->List Cell->Nat->Bool
 |[],[],_=>av
 |f::r, .v τ _::cs,n=>aw f.offset n&&f.name != "_" &&(match P.underlying f.type,τ with
  |some (.int _), .int _=>av
  |some .bool, .bool=>av
  |some .string, .str=>av
  |_,_=>ar)&&oB P r cs (n+1)
 |_,_,_=>ar
def binOp (E:Env)(op:BinOp)(t:TypeId):Val->Val->AM Slot
 | .one (.v (.int k) x), .one (.v (.int k') y)=>Pn op k k' x y
 | .one (.v .str x), .one (.v .str y)=>Lg op x y
 | .one (.v .bool x), .one (.v .bool y)=>match E.P.underlying t with
  |some .bool=>Em op (I (x=y))
  |_=> .fail
 | .one (.v .cl xs), .one .np=>match E.P.underlying t with
  |some (.pointer _)=>Em op xs.isEmpty
  |_=> .fail
 | .agg a, .agg b=>match E.P.underlying t,mw a b with
  |some (.struct fs),J r=>bif !E.P.stoodInHeld t&& !E.P.eqGuardType E.P.depth t&&oB E.P fs.toList a 0 then Em op r else .fail
  |_,_=> .fail
 |_,_=> .fail
def Px (E:Env)(op:BinOp)(t:TypeId):Val->AM Slot
 | .one (.err b)=>match E.P.underlying t with
  |some (.interface _)=>Em op b
  |_=> .fail
 |_=> .fail
def F8:Cell->AM Nat
 | .v .str l=> .ret l.length
 | .v (.sl _) xs=> .ret xs.length
 | .nil=> .ret 0
 | .own id gen=> .kY id fun
  |some (.own g _ _ xs)=>bif aw g gen then .ret xs.length else .fail
  |some (.fh g _ xs)=>bif aw g gen then .ret xs.length else .fail
  |some (.uY g xs _ _ _ _ _)=>bif aw g gen then .ret xs.length else .fail
  |_=> .fail
 |_=> .fail
def source (e:Ty):Cell->AM (Bool×List e.den)
 | .nil=> .ret (av,[])
 | .v (.sl τ) xs=>(wZ (τ':=e) (τ:=τ) xs).bind λxs=> .ret (e.flat,xs)
 | .v .str l=>match e,l with
  | .int .u8,l=> .ret (av,l)
  |_,_=> .fail
 | .own id gen=> .kY id fun
  |some (.own g τ deep xs)=>bif aw g gen then
    bif τ.flat then(wZ (τ':=e) xs).bind λxs=> .ret (av,xs)
    else .mm id (bif deep then .dead g else .fh g τ xs) ((wZ (τ':=e) xs).bind λxs=> .ret (deep,xs))
   else .fail
  |some (.fh g _ xs)=>bif aw g gen then(wZ (τ':=e) xs).bind λxs=> .ret (e.flat,xs)else .fail
  |_=> .fail
 |_=> .fail
def target (e:Ty):Cell->AM (Bool×List e.den)
 | .nil=> .ret (av,[])
 | .own id gen=> .kY id fun
  |some (.own g _ deep xs)=>bif aw g gen then .mm id (.dead g) ((wZ (τ':=e) xs).bind λxs=> .ret (deep,xs))else .fail
  |_=> .fail
 |_=> .fail
def append (d:Nat)(e:Ty)(s x:Cell):AM Slot:=
 (source e x).bind λq=>(target e s).bind λp=>
  .br (fits (p.2.length+q.2.length)) ((H6 d e (p.1&&q.1) (p.2++q.2)).bind λc=> .ret (.val (.one c))) .fail
def Cell.isStr:Cell->Bool
 | .v .str _=>av
 |_=>ar
def Env.fit (E:Env)(t:TypeId)(c:Cell):Bool:=match E.P.underlying t with
 |some .string=>c.isStr
 |some (.slice _)=> !c.isStr
 |_=>ar
def KM (lo:Option Val):AM Int:=match lo with
 |some v=>asInt v
 |none=> .ret 0
def FW (n:Nat)(hi:Option Val):AM Int:=match hi with
 |some v=>asInt v
 |none=> .ret (n:Int)
def sub {α:Type}(xs:List α)(l h:Int):List α:=(xs.take h.toNat).drop l.toNat
def bounds (n:Nat)(l h:Int):Bool:=I (0<=l)&&I (l<=h)&&I (h<=n)
def Dc (sz:Option Nat)(τ:Ty)(xs:List τ.den)(lo hi:Option Val):AM Slot:=
 match sz with
 |some n=>bif aw n τ.size then
   (KM lo).bind λl=>(FW xs.length hi).bind λh=> .br (bounds xs.length l h) (.ret (.val (.one (.v (.sl τ) (sub xs l h))))) .fail
  else .fail
 |none=> .fail
def K3 (sz:Option Nat)(lo hi:Option Val):Cell->AM Slot
 | .v .str s=>(KM lo).bind λl=>(FW s.length hi).bind λh=> .br (bounds s.length l h) (.ret (ws (sub s l h))) .fail
 | .v (.sl τ) xs=>Dc sz τ xs lo hi
 | .own id gen=> .kY id fun
  |some (.own g τ _ xs)=>bif aw g gen then .mm id (.fh g τ xs) (Dc sz τ xs lo hi)else .fail
  |some (.fh g τ xs)=>bif aw g gen then Dc sz τ xs lo hi else .fail
  |_=> .fail
 |_=> .fail
def K8 (d id gen:Nat)(sz:Option Nat)(hi:Option Val):AM Slot:= .kY id fun
 |some (.own g τ _ xs)=>bif aw g gen&&τ.flat&& !aw d id then match sz with
   |some n=>bif aw n τ.size then
     (FW xs.length hi).bind λh=> .br (bounds xs.length 0 h) ((jv d).bind λgd=> .mm d (.own gd τ av (xs.take h.toNat)) (.mm id (.dead g) (.ret (.val (.one (.own d gd)))))) .fail
    else .fail
   |none=> .fail
  else .fail
 |_=> .fail
def indexAddr (sz:Nat)(x:Cell)(i:Int):AM Slot:=(F8 x).bind λn=> .br (I (0<=i)&&I (i<n)) (.ret (.ea x i 0 sz)) .fail
def nilCheck:Slot->AM Slot
 | .val (.one (.ptr id gen off))=> .ret (.val (.one (.ptr id gen off)))
 | .val (.one (.fn f lh))=> .ret (.val (.one (.fn f lh)))
 | .val (.one (.v .cl xs))=> .br (!xs.isEmpty) (.ret (.val (.one (.v .cl xs)))) .fail
 |_=> .fail
def fieldAddr (off:Nat):Slot->AM Slot
 | .val (.one (.ptr id gen o))=> .ret (.val (.one (.ptr id gen (o+off))))
 | .ea c i o sz=> .ret (.ea c i (o+off) sz)
 | .val (.one (.v .cl xs))=> .br (!xs.isEmpty) (.ret (.fa xs off)) .fail
 |_=> .fail
def fill (place:Nat->Option (Nat×Nat))(cells:List Cell):List (Nat×Val)->Option (List Cell)
 |[]=>J cells
 |(i,x)::r=>match place i with
  |some (off,size)=>bif aw x.cells.length size&&a10 (off+size) cells.length then fill place (setCells off x.cells cells) r else ay
  |none=>ay
def FQ:List (Nat×Operand)->AM (List (Nat×Val))
 |[]=> .ret []
 |(i,x)::r=>(evV x).bind λc=>(FQ r).bind λcs=> .ret ((i,c)::cs)
def UY (mv:Bool)(τ:Ty):Nat->List Cell->AM (List τ.den)
 |0,_=> .ret []
 |n+1,cs=>(pack mv τ (cs.take τ.size)).bind λp=>(UY mv τ n (cs.drop τ.size)).bind λr=> .ret (p.1::r)
def Di:(τ:Ty)->List Cell->Option (τ.den×List Cell)
 | .un,cs=>J ((),cs)
 | .pr a b,cs=>(Di a cs).bind λp=>(Di b p.2).bind λq=>J ((p.1,q.1),q.2)
 | .int k, .v (.int k') x::cs=>if k=k' then J (x,cs)else ay
 | .bool, .v .bool b::cs=>J (b,cs)
 | .str, .v .str l::cs=>J (l,cs)
 | .sl _, .nil::cs=>J ([],cs)
 | .cl, .np::cs=>J (([]:List Int),cs)
 |_,_=>ay
def Ty.pN:Ty->Bool
 | .sl e=>e.flat
 | .cl=>ar
 | .pr a b=>a.pN&&b.pN
 |_=>av
def byte (n:Int):Int:=((n.toNat % 256:Nat):Int)
def rep (n:Nat)(z:List Cell):List Cell:=match n with
 |0=>[]
 |n+1=>z++rep n z
abbrev Plc:=Option (Nat×Nat×Nat)
def Plc.on (p:Plc)(n:Nat):Plc:=match p with
 |some (id,g,o)=>J (id,g,o+n)
 |none=>ay
def Plc.is (p:Plc)(id g o:Nat):Bool:=match p with
 |some (YD,g',o')=>aw YD id&&aw g' g&&aw o' o
 |none=>ar
def BY:(s:Sp)->Plc->List Cell->AM (s.ty.den×List Cell)
 | .un,_,cs=> .ret ((),cs)
 | .pr a b,pl,cs=>(BY a pl cs).bind λp=>(BY b (pl.on a.size) p.2).bind λq=> .ret ((p.1,q.1),q.2)
 | .fh τ,_,c::cs=>(datum τ c).bind λx=> .ret (x,cs)
 | .own τ _,_, .nil::cs=> .ret (([]:List τ.den),cs)
 | .own τ dp,_, .own id gen::cs=>(sy id gen).bind λ_=> .kY id fun
  |some (.own g _ deep xs)=>bif aw g gen&&(deep|| !dp||τ.flat)then .mm id (.dead g) ((wZ (τ':=τ) xs).bind λxs=> .ret (xs,cs))else .fail
  |_=> .fail
 | .lnd τ _,_, .nil::cs=> .ret (([]:List τ.den),cs)
 | .lnd τ dp,_, .own id gen::cs=>(sy id gen).bind λ_=> .kY id fun
  |some (.own g _ deep xs)=>bif aw g gen&&(deep|| !dp||τ.flat)then .mm id (.j1 g (0,[])) ((wZ (τ':=τ) xs).bind λxs=> .ret (xs,cs))else .fail
  |_=> .fail
 | .ptr wh ty s,_, .ptr id gen off::cs=> .kY id fun
  |some (.box g (bt,bs))=>bif aw g gen&&((!wh||(aw off 0&&aw s.size bs.length&&aw bt ty.1))&&(wh||Im ty.2 bt off bs.length))&&a10 (off+s.size) bs.length then
    .mm id (.j1 g (bt,bs)) ((BY s (J (id,gen,off)) (cut off s.size bs)).bind λp=> .ret (p.1,cs))else .fail
  |_=> .fail
 | .Bc ok,_, .ptr id gen off::cs=> .kY id fun
  |some (.box g (bt,bs))=>bif aw g gen&&Im ok bt off bs.length&&a10 (off+2) bs.length then match cut off 2 bs with
    |[.np, .nil]=> .ret (([]:List Int),cs)
    |[.own a ag, .own aE9 ap0]=> .kY aE9 fun
     |some (.uY g2 xs a' aq9 bid bg Vp)=>bif aw g2 ap0&&aw a a'&&aw ag aq9&&(aw bid id&&aw bg gen&&aw Vp off)then .mm aE9 (.dead g2) (.ret ((xs:List Int),cs))else .fail
     |_=> .fail
    |_=> .fail
   else .fail
  |_=> .fail
 | .uY,_, .np:: .nil::cs=> .ret (([]:List Int),cs)
 | .uY,pl, .own a ag:: .own id gen::cs=> .kY id fun
  |some (.uY g xs a' aq9 bid bg off)=>bif aw g gen&&aw a a'&&aw ag aq9&&pl.is bid bg off then .mm id (.dead g) (.ret ((xs:List Int),cs))else .fail
  |_=> .fail
 | .err,_, .err b::cs=> .ret (b,cs)
 | .np,_, .np::cs=> .ret ((),cs)
 | .slf _ _,_, .ptr _ _ off::cs=>bif aw off 0 then .ret ((),cs)else .fail
 |_,_,_=> .fail
def YW (n:Nat)(xs:List Int):Plc->AM (List Cell)
 |some (id,bg,off)=>(jv n).bind λg1=> .mm n (.dead g1) ((jv (n+1)).bind λg2=> .mm (n+1) (.uY g2 xs n g1 id bg off) (.ret [.own n g1, .own (n+1) g2]))
 |none=> .fail
def A6:(s:Sp)->s.ty.den->Plc->List Cell->Nat->AM (List Cell×List Cell×Nat)
 | .un,_,_,old,n=> .ret ([],old,n)
 | .pr a b,x,pl,old,n=>(A6 a x.1 pl old n).bind λp=>(A6 b x.2 (pl.on a.size) p.2.1 p.2.2).bind λq=> .ret (p.1++q.1,q.2.1,q.2.2)
 | .fh τ,x,_,old,n=> .ret ([.v τ x],old.tail,n)
 | .own τ dp,xs,_,old,n=>(H6 n τ (dp||τ.flat) xs).bind λc=> .ret ([c],old.tail,n+1)
 | .lnd _ _,_,_, .nil::old,n=> .ret ([.nil],old,n)
 | .lnd τ dp,xs,_, .own id gen::old,n=> .kY id fun
  |some (.j1 g _)=>bif aw g gen then .mm id (.own g τ (dp||τ.flat) xs) (.ret ([.own id gen],old,n))else .fail
  |_=> .fail
 | .ptr _ _ s,x,_, .ptr id gen off::old,n=> .kY id fun
  |some (.j1 g (bt,bs))=>bif aw g gen then(A6 s x (J (id,gen,off)) (cut off s.size bs) (200000+64*id)).bind λp=> .mm id (.box g (bt,setCells off p.1 bs)) (.ret ([.ptr id gen off],old,n))else .fail
  |_=> .fail
 | .uY,x,pl,old,n=>(YW n x pl).bind λcs=> .ret (cs,old.drop 2,n+2)
 | .err,b,_,old,n=> .ret ([.err b],old.tail,n)
 | .np,_,_,old,n=> .ret ([.np],old.tail,n)
 |_,_,_,_,_=> .fail
def Rj:(s:Sp)->s.qQ.den->List Cell->AM (List Cell)
 | .pr a b,x,cs=>(Rj a x.1 cs).bind λr=>Rj b x.2 r
 | .un,_,cs=> .ret cs
 | .ptr wh ty s,x,c::cs=>(A6 (.ptr wh ty s) x ay [c] 0).bind λ_=> .ret cs
 | .lnd τ dp,x,c::cs=>(A6 (.lnd τ dp) x ay [c] 0).bind λ_=> .ret cs
 | .uY,_,_::_::cs=> .ret cs
 | .Bc _,_,_::cs=> .ret cs
 | .fh _,_,_::cs=> .ret cs
 | .own _ _,_,_::cs=> .ret cs
 | .err,_,_::cs=> .ret cs
 | .np,_,_::cs=> .ret cs
 | .slf _ _,_,_::cs=> .ret cs
 |_,_,_=> .fail
def UM:(a:VSp)->Val->AM a.sp.ty.den
 | .one s, .one c=>(BY s ay [c]).bind λp=>match p.2 with
  |[]=> .ret p.1
  |_=> .fail
 | .agg s, .agg cs=>(BY s ay cs).bind λp=>match p.2 with
  |[]=> .ret p.1
  |_=> .fail
 |_,_=> .fail
def Eo:(as:List VSp)->List Val->AM (eI as).den
 |[],[]=> .ret ()
 |a::as,x::xs=>(UM a x).bind λp=>(Eo as xs).bind λq=> .ret (p,q)
 |_,_=> .fail
def FZ:(as:List VSp)->(rk as).den->List Val->AM Unit
 |[],_,[]=> .ret ()
 |a::as,x,v::vs=>(Rj a.sp x.1 v.cells).bind λ_=>FZ as x.2 vs
 |_,_,_=> .fail
def PA:(a:VSp)->a.sp.ty.den->Nat->AM (Val×Nat)
 | .one s,x,n=>(A6 s x ay [] n).bind λp=>match p.1 with
  |[c]=> .ret (.one c,p.2.2)
  |_=> .fail
 | .agg s,x,n=>(A6 s x ay [] n).bind λp=> .ret (.agg p.1,p.2.2)
def KN:(as:List VSp)->(eI as).den->Nat->AM (List Val)
 |[],_,_=> .ret []
 |a::as,x,n=>(PA a x.1 n).bind λp=>(KN as x.2 p.2).bind λq=> .ret (p.1::q)
def KO:(r:RSp)->r.ty.den->Nat->AM Slot
 | .val a,x,n=>(PA a x n).bind λp=> .ret (.val p.1)
 | .yc as,x,n=>(KN as x n).bind λvs=> .ret (.yc vs)
 | .none,_,_=> .ret (.yc [])
def call (c:Callee)(d:Nat)(args:List Val):AM Slot:=
 (Eo c.sig.args args).bind λx=> .opt c.sig.cod (c.F x) λy=>
  (FZ c.sig.args y.2 args).bind λ_=>KO c.sig.res y.1 (300000+16*d)
def BV:List Operand->AM (List Val)
 |[]=> .ret []
 |x::r=>(evV x).bind λc=>(BV r).bind λcs=> .ret (c::cs)
def X5 (chk:AM Unit)(c:Callee)(d:Nat)(args:List Val):AM Slot:=
 (Eo c.sig.args args).bind λx=>chk.bind λ_=> .opt c.sig.cod (c.F x) λy=>
  (FZ c.sig.args y.2 args).bind λ_=>KO c.sig.res y.1 (300000+16*d)
def wV:List (Nat×Nat)->List (Nat×Nat)->Bool
 |[],[]=>av
 |a::r,b::q=>aw a.1 b.1&&aw a.2 b.2&&wV r q
 |_,_=>ar
def z8:List Nat->AM (List (Nat×Nat))
 |[]=> .ret []
 |t::ts=> .xK t fun
  | .val (.one (.ptr id gen 0))=>(z8 ts).bind λcs=> .ret ((id,gen)::cs)
  |_=> .fail
def UW (f:FuncId)(lh:List (Nat×Nat)):AM Unit:=match lh.getLast? with
 |some p=> .kY p.1 fun
  |some (.box g (_,[.fn f2 cs]))=>bif aw g p.2&&aw f2 f&&wV cs lh then .ret ()else .fail
  |_=> .fail
 |none=> .fail
def kept (E:Env)(ts:List Nat):Bool:= !ts.isEmpty&&ts.all λt=>E.oH.any (aw t)
def H7 (E:Env)(f:FuncId)(lh:List (Nat×Nat)):AM Unit:=match E.slf with
 |some (f',ts)=>bif aw f f'&&kept E ts then(z8 ts).bind λcs=>bif wV cs lh then .ret ()else .fail else .fail
 |none=>UW f lh
def UH (E:Env)(d:Nat)(args:List Val):Cell->AM Slot
 | .fn f lh=>match E.callee f with
  |some c=>match x8 c.sig.args with
   |none=>call c d (args++lh.map λp=> .one (.ptr p.1 p.2 0))
   |some sf=>bif aw sf.1 f&&aw sf.2 args.length then X5 (H7 E f lh) c d (args++lh.map λp=> .one (.ptr p.1 p.2 0))else .fail
  |none=> .fail
 |_=> .fail
def Ui:Option Bool->Bool
 |some ar=>av
 |_=>ar
def KL (E:Env)(t:TypeId)(a:Operand):Option (FuncId×List Nat):=match E.slf,a with
 |some (f,ts), .tmp k=>bif aw k (ts.getLastD 0)&&kept E ts&&Ui (E.isAgg t)then J (f,ts)else ay
 |_,_=>ay
def zu:List Val->Option (List (Nat×Nat))
 |[]=>J []
 | .one (.ptr id gen 0)::r=>(zu r).map ((id,gen):: ·)
 |_=>ay
def Zu (x:Option Operand):AM (Option Val):=match x with
 |some y=>(evV y).bind λv=> .ret (J v)
 |none=> .ret ay
def one (v:Val):AM Cell:=match v with
 | .one c=> .ret c
 |_=> .fail
def convert (E:Env)(src dst:TypeId)(v:Val):AM Slot:=
 match E.P.underlying src,E.P.underlying dst with
 |some (.int _),J (.int k)=>(asInt v).bind λn=> .ret (wi k (k.wrap n))
 |some (.slice e),J .string=>match E.P.underlying e,v with
  |some (.int .u8), .one c=>match c with
   | .v (.sl (.int .u8)) xs=> .ret (ws (xs.map byte))
   | .nil=> .ret (ws [])
   | .own id gen=> .kY id fun
    |some (.own g (.int .u8) _ xs)=>bif aw g gen then .ret (ws (xs.map byte))else .fail
    |some (.fh g (.int .u8) xs)=>bif aw g gen then .ret (ws (xs.map byte))else .fail
    |_=> .fail
   |_=> .fail
  |_,_=> .fail
 |some .string,J (.slice e)=>match E.P.underlying e,v with
  |some (.int .u8), .one (.v .str l)=> .ret (.val (.one (.v (.sl (.int .u8)) l)))
  |_,_=> .fail
 |_,_=> .fail
def U1 {α:Type}(z:α):List (Int×α)->Int->α
 |[],_=>z
 |p::r,n=>bif I (n=p.1)then p.2 else U1 z r n
def mapKey (E:Env)(t:TypeId):Option TypeId:=match E.P.underlying t with
 |some (.map k e)=>match E.P.underlying k with
  |some (.int .i64)=>J e
  |_=>ay
 |_=>ay
def QW (E:Env)(t:TypeId):Option Val:=((E.P.info? t).bind (·.zero)).bind zm
def Up (E:Env)(t:TypeId)(n:Int)(τ:Ty)(y:τ.den):Cell->AM Slot
 | .own id gen=>(kf (mapKey E t)).bind λ_=> .kY id fun
  |some (.mp g τ' xs)=>bif aw g gen&& !(xs.any λp=>I (p.1=n))then if h:τ=τ' then .mm id (.mp g τ' (xs++[(n,(h ▸ y:τ'.den))])) (.ret .un)else .fail else .fail
  |_=> .fail
 |_=> .fail
def UF (E:Env)(t:TypeId)(n:Int):Cell->AM Slot
 | .own id gen=>(kf (mapKey E t)).bind λe=>match QW E e with
  |some (.one (.v τ0 z))=> .kY id fun
   |some (.mp g τ xs)=>bif aw g gen then if h:τ0=τ then .ret (.val (.one (.v τ (U1 (h ▸ z:τ.den) xs n))))else .fail else .fail
   |_=> .fail
  |_=> .fail
 |_=> .fail
def Pt (E:Env)(d:Nat)(t:TypeId)(a:Operand):AM Slot:=
 (ev a).bind λs=>(kf (E.isAgg t)).bind λag=>(PC E ag s).bind λne=>bif ne then HQ d s else(kf (E.sizeOf t)).bind λn=>
   (C6 E (bif ag then n else 1) s).bind λcs=>(Ik ag cs).bind λv=> .ret (.val v)
def gB (E:Env)(d:Nat):Op->AM Slot
 | .move x| .assign x=>ev x
 | .pick c a b=>(evV c).bind λv=>(asBool v).bind λt=> .br t (ev a) (ev b)
 | .alloc t=>(kf (E.zeroCells t)).bind λcs=>H5 d t cs
 | .box t x=>(evV x).bind λv=>H5 d t v.cells
 | .build t ps=>(kf (E.zeroCells t)).bind λz=>(FQ ps.toList).bind λps=>
   (kf (fill (λi=>(E.field t i).bind λf=>(E.sizeOf f.type).map (f.offset, ·)) z ps)).bind λcs=>bif E.sized t then .ret (.val (.agg cs))else .fail
 | .buildSlice t n ps=>(kf (E.elem t)).bind λe=>(E.ty e).bind λτ=>(kf (E.zeroCells e)).bind λz=>
   (FQ ps.toList).bind λps=>(kf (fill (λi=>J (i*z.length,z.length)) (rep n z) ps)).bind λcs=>
    bif E.NR e τ&&a10 n 4096 then
     (UY (Af cs&&τ.pN&& !τ.flat) τ n cs).bind λxs=>(H6 d τ (Af cs&&τ.pN&& !τ.flat) xs).bind λc=> .ret (.val (.one c))
    else .fail
 | .load t a=>match KL E t a with
  |some p=>(z8 p.2).bind λcs=> .ret (.val (.one (.fn p.1 cs)))
  |none=>Pt E d t a
 | .store t a x=>(evV x).bind λv=>(ev a).bind λs=>(kf (E.sizeOf t)).bind λn=>
   bif aw v.cells.length n then(Ec v.cells s).bind λ_=> .ret .un else .fail
 | .nilCheck x=>(ev x).bind nilCheck
 | .binOp op t x y _=>(evV x).bind λa=>match y with
   | .const .nilIface=>Px E op t a
   |_=>(evV y).bind λb=>binOp E op t a b
 | .unOp .not _ x=>(evV x).bind λv=>(asBool v).bind λb=> .ret (wb !b)
 | .unOp .neg _ x=>(evV x).bind λv=>match v with
   | .one (.v (.int k) n)=> .ret (wi k (k.wrap (0 - n)))
   |_=> .fail
 | .convert s t x=>(evV x).bind λv=>convert E s t v
 | .makeMap t ay=>(kf (mapKey E t)).bind λe=>(E.ty e).bind λτ=>bif τ.one then(jv d).bind λg=> .mm d (.mp g τ []) (.ret (.val (.one (.own d g))))else .fail
 | .makeMap t (J x)=>(evV x).bind λv=>(asInt v).bind λ_=>(kf (mapKey E t)).bind λe=>(E.ty e).bind λτ=>bif τ.one then(jv d).bind λg=> .mm d (.mp g τ []) (.ret (.val (.one (.own d g))))else .fail
 | .insert t m k x=>(evV m).bind λvm=>(one vm).bind λcm=>(evV k).bind λvk=>(evV x).bind λvx=>match vk,vx with
   | .one (.v (.int .i64) n), .one (.v τ y)=>Up E t n τ y cm
   |_,_=> .fail
 | .lookup t m k ar=>(evV m).bind λvm=>(one vm).bind λcm=>(evV k).bind λvk=>match vk with
   | .one (.v (.int .i64) n)=>UF E t n cm
   |_=> .fail
 | .makeInterface t x=>(evV x).bind λ_=>match E.P.underlying t with
   |some (.interface _)=> .fail
   |some _=> .ret (.val (.one (.err ar)))
   |none=> .fail
 | .makeFunc (.func f) first lh=>bif first.isEmpty then(BV lh.toList).bind λvs=>(kf (zu vs)).bind λcs=> .ret (.val (.one (.fn f cs)))else .fail
 | .makeSlice t l c=>(kf (E.elem t)).bind λe=>(E.ty e).bind λτ=>(kf (E.zeroCells e)).bind λz=>(kf (Di τ z)).bind λx=>
   (evV l).bind λl=>(asInt l).bind λl=>(evV c).bind λc=>(asInt c).bind λc=>bif E.NR e τ&&x.2.isEmpty then
    .br (I (0<=l)&&I (l<=c)&&I (c<=lim)) ((H6 d τ (τ.pN&& !τ.flat) (aM l.toNat x.1)).bind λc=> .ret (.val (.one c))) .fail else .fail
 | .slice t x lo hi ay=>(evV x).bind λv=>(one v).bind λc=>(Zu lo).bind λlo=>(Zu hi).bind λhi=>bif E.fit t c then
   (match E.trim,lo,c with
    |true,ay, .own id gen=>K8 d id gen ((E.elem t).bind E.sizeOf) hi
    |_,_,_=>K3 ((E.elem t).bind E.sizeOf) lo hi c)else .fail
 | .fieldAddr s x i=>(ev x).bind λa=>(kf (E.field s i)).bind λf=>(kf (E.sizeOf f.type)).bind λn=>bif cE 0 n then fieldAddr f.offset a else .fail
 | .field s x i=>(evV x).bind λv=>match v with
   | .agg cs=>(kf (E.field s i)).bind λf=>(kf (E.isAgg f.type)).bind λag=>(kf (E.sizeOf f.type)).bind λn=>
     (Ik ag (cut f.offset (bif ag then n else 1) cs)).bind λv=> .ret (.val v)
   |_=> .fail
 | .indexAddr t x i=>(kf ((E.elem t).bind E.sizeOf)).bind λsz=>(evV x).bind λv=>(one v).bind λc=>(evV i).bind λi=>(asInt i).bind λi=>bif E.fit t c&& !c.isStr then(D2 c).bind λ_=>indexAddr sz c i else .fail
 | .index t x i=>(evV x).bind λv=>(evV i).bind λi=>(asInt i).bind λi=>match v,E.P.underlying t with
   | .one (.v .str s),J .string=> .br (I (0<=i)&&I (i<s.length)) (.ret (wi .u8 (s.getD i.toNat 0))) .fail
   |_,_=> .fail
 | .extract t i=>(ev t).bind λs=>match s with
   | .yc vs=>(kf vs[i]?).bind λv=> .ret (.val v)
   |_=> .fail
 | .call c=>match c.callee with
  | .builtin .len=>(BV c.args.toList).bind λvs=>match vs with
   |[.one x]=>bif(c.argTypes[0]?).any λt=>E.fit t x then(F8 x).bind λn=> .ret (wi .i64 n)else .fail
   |_=> .fail
  | .builtin .max=>(BV c.args.toList).bind λvs=>match vs with
   |[.one (.v (.int k) x), .one (.v (.int _) y)]=> .ret (wi k (if y>x then y else x))
   |_=> .fail
  | .builtin .append=>match c.argTypes.toList with
   |[t,tx]=>(kf (E.elem t)).bind λe=>(E.ty e).bind λτ=>(BV c.args.toList).bind λvs=>match vs with
    |[.one s, .one x]=>bif E.NR e τ&&E.fit tx x then append d τ s x else .fail
    |_=> .fail
   |_=> .fail
  | .value f=>(BV c.args.toList).bind λvs=>(evV f).bind λv=>(one v).bind λc=>UH E d vs c
  |_=> .fail
 |_=> .fail
def step (E:Env)(alt:Nat)(o:Oper):AM Unit:=
 match o.dst with
 |some d=>bif cE d E.nt&& !E.oH.any (aw d)then(gB E d o.op).bind λs=> .Dk d s (.ret ())else .fail
 |none=>(gB E alt o.op).bind λ_=> .ret ()
end Go.Abs
end

section
namespace Go.Abs
def AM.qD {α ρ:Type}:AM α->St->List Nat->List Nat->(α->St->List Nat->List Nat->Option ρ)->Option ρ
 | .ret a,s,r,w,K=>K a s r w
 | .br b t e,s,r,w,K=>brk b (t.qD s r w K) (e.qD s r w K)
 | .fail,_,_,_,_=>ay
 | .xK t k,s,r,w,K=>match look s.env t with
  |some x=>(k x).qD s ((2*t)::r) w K
  |none=>ay
 | .Dk t x k,s,r,w,K=>k.qD {s with env:=(t,x)::s.env} r ((2*t)::w) K
 | .kY i k,s,r,w,K=>(k (look s.hp i)).qD s ((2*i+1)::r) w K
 | .mm i o k,s,r,w,K=>k.qD {s with hp:=(i,o)::s.hp} r ((2*i+1)::w) K
 | .opt _ x k,s,r,w,K=>x.bind λd=>(k d).qD s r w K
def Ri:List Oper->Nat->Option Oper
 |[],_=>ay
 |o::_,0=>J o
 |_::r,n+1=>Ri r n
def xD (ops:List Oper)(j:Nat):Option Nat:=(Ri ops j).bind (·.dst)
def skip (E:Env)(o:Oper):AM Unit:=match o.dst with
 |some d=>bif cE d E.nt&& !E.oH.any (aw d)then .Dk d .sk (.ret ())else .fail
 |none=> .ret ()
def alt (n:Nat):Nat:=90000+n
def stepG (E:Env)(ops:List Oper)(n:Nat)(o:Oper):AM Unit:=match o.guard with
 |none=>step E (alt n) o
 |some (j,want)=>(kf (xD ops j)).bind λd=> .xK d fun
  | .val (.one (.v .bool g))=> .br (g==want) (step E (alt n) o) (skip E o)
  | .sk=>skip E o
  |_=> .fail
def ti {ρ:Type}(E:Env)(ops:List Oper):List Oper->Nat->St->(St->Option ρ)->Option ρ
 |[],_,s,K=>K s
 |o::r,n,s,K=>match o.guard with
  |none=>(step E (alt n) o).exec s λ_ s=>ti E ops r (n+1) s K
  |some (j,want)=>match xD ops j with
   |some d=>match look s.env d with
    |some (.val (.one (.v .bool g)))=>brk g
      ((bif want then step E (alt n) o else skip E o).exec {s with env:=(d,wb av)::s.env} λ_ s=>ti E ops r (n+1) s K)
      ((bif want then skip E o else step E (alt n) o).exec {s with env:=(d,wb ar)::s.env} λ_ s=>ti E ops r (n+1) s K)
    |some .sk=>(skip E o).exec s λ_ s=>ti E ops r (n+1) s K
    |_=>ay
   |none=>ay
abbrev Log:=List (List Nat×List Nat)
def qB {ρ:Type}(E:Env)(ops:List Oper):List Oper->Nat->St->Log->(St->Log->Option ρ)->Option ρ
 |[],_,s,L,K=>K s L
 |o::r,n,s,L,K=>match o.guard with
  |none=>(step E (alt n) o).qD s [] [] λ_ s rd wr=>qB E ops r (n+1) s ((rd,wr)::L) K
  |some (j,want)=>match xD ops j with
   |some d=>match look s.env d with
    |some (.val (.one (.v .bool g)))=>brk g
      ((bif want then step E (alt n) o else skip E o).qD {s with env:=(d,wb av)::s.env} [2*d] [] λ_ s rd wr=>qB E ops r (n+1) s ((rd,wr)::L) K)
      ((bif want then skip E o else step E (alt n) o).qD {s with env:=(d,wb ar)::s.env} [2*d] [] λ_ s rd wr=>qB E ops r (n+1) s ((rd,wr)::L) K)
    |some .sk=>(skip E o).qD s [2*d] [] λ_ s rd wr=>qB E ops r (n+1) s ((rd,wr)::L) K
    |_=>ay
   |none=>ay
def mem (n:Nat):List Nat->Bool
 |[]=>ar
 |m::r=>aw m n||mem n r
def meet (a b:List Nat):Bool:=match a with
 |[]=>ar
 |x::r=>mem x b||meet r b
def x9 (ops:List Oper):List (List Nat):=ops.map λo=>o.after.toList.filterMap λe=>bif a48 .any e then J e.on else ay
def AB:List (List Nat)->List (List Nat)->List (List Nat)
 |[],acc=>acc
 |es::r,acc=>AB r (acc++[es.flatMap λi=>i::acc.getD i []])
def Ab:List (List Nat)->Nat->Bool
 |[],_=>av
 |es::r,n=>es.all (cE · n)&&Ab r (n+1)
def C1 (x:List Nat×List Nat)(bx:List Nat):Log->Nat->Bool
 |[],_=>av
 |y::r,n=>(mem (n - 1) bx|| !(meet x.2 y.2||meet x.2 y.1||meet x.1 y.2))&&C1 x bx r (n - 1)
def apart:Log->List (List Nat)->Nat->Bool
 |x::r,bx::b,n=>C1 x bx r (n - 1)&&apart r b (n - 1)
 |[],_,_=>av
 |_,_,_=>ar
def GS {ρ:Type}(E:Env)(ops:List Oper)(draw:Bool)(s:St)(K:St->Option ρ):Option ρ:=
 bif draw then
  qB E ops ops 0 s [] λs' L=>bif Ab (x9 ops) 0&&apart L (AB (x9 ops) []).reverse ops.length then K s' else ay
 else ti E ops ops 0 s K
def first:Code->Option Nat
 | .region id _ _=>J id
 | .seq a b=>(first a).orElse λ_=>first b
 | .block _ c=>first c
 | .loop c=>(first c).map (1000+ ·)
 | .scope c=>first c
 | .cond _ a b=>(first a).orElse λ_=>first b
 |_=>ay
abbrev Handler:=∀ρ:Type,St->(Exit->St->Option ρ)->Option ρ
structure Cuts where
 loop:Nat->Option Handler
 join:Nat->Option Handler
def C7 (s:St):Operand->Option Bool
 | .tmp t=>match look s.env t with
  |some (.val (.one (.v .bool b)))=>J b
  |_=>ay
 | .const (.bool b)=>J b
 |_=>ay
def exec {ρ:Type}(E:Env)(H:Cuts):Code->St->(Exit->St->Option ρ)->Option ρ
 | .skip,s,K=>K .normal s
 | .region _ ops draw,s,K=>GS E ops.toList draw s (K .normal)
 | .seq a b,s,K=>exec E H a s λe s'=>match e with
  | .normal=>match(first b).bind H.join with
   |some h=>h ρ s' K
   |none=>exec E H b s' K
  |e=>K e s'
 | .cond c a b,s,K=>match C7 s c with
  |some t=>brk t (exec E H a s K) (exec E H b s K)
  |none=>ay
 | .block id c,s,K=>exec E H c s λe s'=>match e with
  | .exit i=>bif aw i id then K .normal s' else K (.exit i) s'
  |e=>K e s'
 | .loop c,s,K=>match(first c).bind H.loop with
  |some h=>h ρ s K
  |none=>ay
 | .exit i,s,K=>K (.exit i) s
 | .ret,s,K=>K .ret s
 | .label _,s,K=>K .normal s
 | .scope c,s,K=>exec E H c s λe s'=>match e with
  | .goto _=>ay
  |e=>K e s'
 |_,_,_=>ay
def mk0:(s:Sp)->s.ty.den->Nat×Nat->Nat->(List Cell×List (Nat×Obj)×Nat)
 | .un,_,_,n=>([],[],n)
 | .pr a b,x,pl,n=>let p:=mk0 a x.1 pl n;let q:=mk0 b x.2 (pl.1,pl.2+a.size) p.2.2;(p.1++q.1,q.2.1++p.2.1,q.2.2)
 | .fh τ,x,_,n=>([.v τ x],[],n)
 | .own τ dp,xs,_,n=>([.own n 0],[(n, .own 0 τ (dp||τ.flat) xs)],n+1)
 | .lnd τ dp,xs,_,n=>([.own n 0],[(n, .own 0 τ (dp||τ.flat) xs)],n+1)
 | .ptr _ ty s,x,_,n=>let p:=mk0 s x (n,0) (n+1);([.ptr n 0 0],(n, .box 0 (ty.1,p.1))::p.2.1,p.2.2)
 | .Bc _,_,_,n=>([],[],n)
 | .uY,x,pl,n=>([.own n 0, .own (n+1) 0],[(n+1, .uY 0 x n 0 pl.1 0 pl.2),(n, .dead 0)],n+2)
 | .err,b,_,n=>([.err b],[],n)
 | .np,_,_,n=>([.np],[],n)
 | .slf _ _,_,_,n=>([.ptr n 0 0],[(n, .dead 0)],n+1)
def BP:(a:VSp)->a.sp.ty.den->Nat->(Option Val×List (Nat×Obj)×Nat)
 | .one s,x,n=>let p:=mk0 s x (0,0) n;(match p.1 with|[c]=>J (.one c)|_=>ay,p.2.1,p.2.2)
 | .agg s,x,n=>let p:=mk0 s x (0,0) n;(J (.agg p.1),p.2.1,p.2.2)
def xC:(as:List VSp)->List Nat->(eI as).den->Nat->(List (Nat×Slot)×List (Nat×Obj))
 |a::as,t::ts,x,n=>
  let p:=BP a x.1 n
  let q:=xC as ts x.2 p.2.2
  (match p.1 with|some v=>(t, .val v)::q.1|none=>q.1,q.2++p.2.1)
 |_,_,_,_=>([],[])
def dec (ts:List Nat)(as:List VSp)(x:(eI as).den):St:=let p:=xC as ts x nv;⟨p.1,p.2⟩
def H2:List Nat->AM (List Val)
 |[]=> .ret []
 |t::ts=>(AM.xK t NT).bind λv=>(H2 ts).bind λvs=> .ret (v::vs)
def upto:List VSp->Nat->List Nat
 |[],_=>[]
 |_::r,n=>n::upto r (n+1)
def Sp.plain:Sp->Bool
 | .ptr _ _ _=>ar
 | .lnd _ _=>ar
 | .Bc _=>ar
 | .slf _ _=>ar
 | .pr a b=>a.plain&&b.plain
 |_=>av
def Sp.whole (Vy:Bool):Sp->Bool
 | .ptr wh _ s=>wh&&s.whole av
 | .pr a b=>a.whole Vy&&b.whole Vy
 | .uY=>Vy
 | .Bc _=>ar
 |_=>av
def oV:List VSp->Bool
 |[]=>av
 |a::r=>a.sp.whole ar&&oV r
def enc (ts:List Nat)(as:List VSp):AM (eI as).den:=bif oV as then(H2 ts).bind λvs=>Eo as vs else .fail
def Sp.Ls:Sp->Bool
 | .ptr _ _ _=>av
 | .lnd _ _=>av
 | .pr a b=>a.Ls||b.Ls
 |_=>ar
def Ra:(s:Sp)->AM s.qQ.den
 | .pr a b=>(Ra a).bind λp=>(Ra b).bind λq=> .ret (p,q)
 | .un=> .ret ()
 | .fh _=> .ret ()
 | .own _ _=> .ret ()
 | .uY=> .ret ()
 | .Bc _=> .ret ()
 | .err=> .ret ()
 | .np=> .ret ()
 | .slf _ _=> .ret ()
 | .ptr _ _ _=> .fail
 | .lnd _ _=> .fail
def XX (hp:List (Nat×Obj))(n:Nat):Bool:=match look hp n with
 |some (.box 0 (_, .ptr m 0 0::_))=>aw m (n+1)&&(look hp m).isSome
 |_=>ar
def stays (yq:List (Nat×Obj)):Cell->AM Unit
 | .ptr n 0 0=>bif XX yq n then .kY n fun
   |some (.box 0 (_, .ptr m 0 0::_))=>bif aw m (n+1)then .ret ()else .fail
   |_=> .fail
  else .fail
 |_=> .fail
def NX (s:St):Bool:=match look s.env 0,look s.hp nv with
 |some (.val (.one (.ptr n 0 0))),J (.box 0 (_, .ptr m 0 0::_))=>aw n nv&&aw m (nv+1)
 |_,_=>ar
def pE (f:Bool)(s:St):Bool:=bif f then NX s else av
def LA:Cell->AM Unit
 | .ptr n 0 0=>bif aw n nv then .kY nv fun
   |some (.box 0 (_, .ptr m 0 0::_))=>bif aw m (nv+1)then .ret ()else .fail
   |_=> .fail
  else .fail
 |_=> .fail
def Sp.inner:Sp->Bool
 | .ptr wh _ s=>s.plain&&wh
 | .pr (.ptr wh _ s) r=>s.plain&&wh&&r.plain
 |_=>ar
def Lc (ini fst:Bool)(yq:List (Nat×Obj)):(s:Sp)->List Cell->AM (s.qQ.den×List Cell)
 | .pr a b,cs=>(Lc ini fst yq a cs).bind λp=>(Lc ini fst yq b p.2).bind λq=> .ret ((p.1,q.1),q.2)
 | .un,cs=> .ret ((),cs)
 | .ptr wh ty s,c::cs=>bif s.plain&&wh then(BY (.ptr wh ty s) ay [c]).bind λp=> .ret (p.1,cs)else bif s.inner&&wh then(bif ini then stays yq c else bif fst then LA c else .fail).bind λ_=>(BY (.ptr wh ty s) ay [c]).bind λp=> .ret (p.1,cs)else .fail
 | .lnd τ dp,c::cs=>(BY (.own τ dp) ay [c]).bind λp=> .ret (p.1,cs)
 | .fh _,_::cs=> .ret ((),cs)
 | .own _ _,_::cs=> .ret ((),cs)
 | .Bc _,_::cs=> .ret ((),cs)
 | .err,_::cs=> .ret ((),cs)
 | .np,_::cs=> .ret ((),cs)
 | .slf _ _,_::cs=> .ret ((),cs)
 |_,_=> .fail
def K2 (ini fst:Bool)(yq:List (Nat×Obj))(oH:List Nat):(as:List VSp)->Nat->AM (rk as).den
 |[],_=> .ret ()
 |a::as,n=>(bif a.sp.Ls then(bif oH.any (aw n)then(AM.xK n NT).bind λv=>(Lc ini fst yq a.sp v.cells).bind λp=> .ret p.1 else .fail)else Ra a.sp).bind λp=>
   (K2 ini fst yq oH as (n+1)).bind λq=> .ret (p,q)
def Lo (E:Env):ResultVar->AM Val
 | .tmp t=> .xK t NT
 | .cell a t=> .xK a λs=>(kf (E.isAgg t)).bind λag=>(kf (E.sizeOf t)).bind λn=>(C6 E (bif ag then n else 1) s).bind λcs=>Ik ag cs
def C8 (E:Env):List ResultVar->AM (List Val)
 |[]=> .ret []
 |r::rs=>(Lo E r).bind λv=>(C8 E rs).bind λvs=> .ret (v::vs)
def zR:List VSp->Bool
 |[]=>av
 |a::r=>a.sp.plain&&zR r
def T9 (E:Env)(rs:List ResultVar):(r:RSp)->AM r.ty.den
 | .val a=>(C8 E rs).bind λvs=>bif a.sp.plain then match vs with
  |[v]=>UM a v
  |_=> .fail
  else .fail
 | .yc as=>(C8 E rs).bind λvs=>bif zR as then match vs with
  |[_]=> .fail
  |vs=>Eo as vs
  else .fail
 | .none=>(C8 E rs).bind λvs=>match vs with
  |[]=> .ret ()
  |_=> .fail
def finish (E:Env)(yq:List (Nat×Obj))(rs:List ResultVar)(sg:Sig):AM sg.cod.den:=
 (T9 E rs sg.res).bind λr=>(K2 E.ini E.fst yq E.oH sg.args 0).bind λo=> .ret (r,o)
def atEnd (E:Env)(yq:List (Nat×Obj))(rs:List ResultVar)(sg:Sig)(e:Exit)(s:St):Option sg.cod.den:=match e with
 | .normal| .ret=>(finish E yq rs sg).exec s λr _=>J r
 |_=>ay
def Ii (E:Env)(fn:Func)(sg:Sig)(H:Cuts)(x:sg.dom.den):Option sg.cod.den:=
 match fn.body with
 |some c=>bif pE E.fst (dec (upto sg.args 0) sg.args x)then exec E H c (dec (upto sg.args 0) sg.args x) (atEnd E (dec (upto sg.args 0) sg.args x).hp fn.results.toList sg)else ay
 |none=>ay
abbrev Der:=List (Nat×Nat×List Nat)
def Er (env:List (Nat×Slot)):List Nat->Option (List (Nat×Nat))
 |[]=>J []
 |t::r=>match look env t with
  |some (.val (.one (.ptr id gen 0)))=>(Er env r).map ((id,gen):: ·)
  |_=>ay
def UU (s:St):List Nat->Option (Nat×Nat)
 |[t]=>match look s.env t with
  |some (.val (.one (.ptr id gen 0)))=>match look s.hp id with
   |some (.box LV (_, .ptr m k 0::_))=>bif aw gen LV then J (m,k)else ay
   |_=>ay
  |_=>ay
 |_=>ay
def Rk (d:Nat×Nat×List Nat):Bool:=aw d.2.1 1000000
def C9 (s:St)(d:Nat×Nat×List Nat):Option Cell:=bif Rk d then(UU s d.2.2).map λm=> .ptr m.1 m.2 0 else(Er s.env d.2.2).map λcs=> .fn d.2.1 cs
def derive (s:St):Der->List (Nat×Slot)
 |[]=>s.env
 |d::r=>match C9 s d with
  |some c=>(d.1, .val (.one c))::derive s r
  |none=>derive s r
def QG:Option Slot->Option Cell->Bool
 |some (.val (.one (.fn f lh))),J (.fn f' cs)=>aw f f'&&wV lh cs
 |some (.val (.one (.ptr m k 0))),J (.ptr m' k' 0)=>aw m m'&&aw k k'
 |_,_=>ar
def s4 (s:St):Der->Bool
 |[]=>av
 |d::r=>QG (look s.env d.1) (C9 s d)&&s4 s r
def LJ (ts:List Nat)(as:List VSp)(Ag:Der)(x:(eI as).den):St:=⟨derive (dec ts as x) Ag,(dec ts as x).hp⟩
structure Way1 where
 e:Exit
 ts:List Nat
 as:List VSp
 Ag:Der
@[reducible] def qd:List Way1->Type
 |[]=>Empty
 |w::r=>(eI w.as).den⊕qd r
def HH:Exit->Exit->Bool
 | .normal, .normal=>av
 | .exit i, .exit j=>aw i j
 | .ret, .ret=>av
 |_,_=>ar
def Ej (f:Bool):(ws:List Way1)->Exit->St->Option (qd ws)
 |[],_,_=>ay
 |w::r,e,s=>bif HH w.e e then(bif s4 s w.Ag&&pE f s then(enc w.ts w.as).exec s λz _=>bif pE f (dec w.ts w.as z)then J (.inl z)else ay else ay)else(Ej f r e s).bind λy=>J (.inr y)
def Ij {ρ:Type}:(ws:List Way1)->qd ws->(Exit->St->Option ρ)->Option ρ
 |[],y,_=>Empty.elim y
 |w::r,y,K=>Sum.elim (λz=>K w.e (LJ w.ts w.as w.Ag z)) (λy=>Ij r y K) y
structure Cut where
 ts:List Nat
 as:List VSp
 ws:List Way1
 Ag:Der
def Cut.zZ (c:Cut)(f:Bool)(L:(eI c.as).den->Option (qd c.ws)):Handler:=λ_ s K=>bif s4 s c.Ag&&pE f s then(enc c.ts c.as).exec s λx _=>bif pE f (dec c.ts c.as x)then(L x).bind λy=>Ij c.ws y K else ay else ay
def Cut.round (c:Cut)(E:Env)(H:Cuts)(body:Code)(L:(eI c.as).den->Option (qd c.ws))(x:(eI c.as).den):Option (qd c.ws):=
 exec E H body (LJ c.ts c.as c.Ag x) λe s=>match e with
  | .normal=>bif s4 s c.Ag&&pE E.fst s then(enc c.ts c.as).exec s λx' _=>bif pE E.fst (dec c.ts c.as x')then L x' else ay else ay
  |e=>Ej E.fst c.ws e s
def Cut.tail (c:Cut)(E:Env)(H:Cuts)(body:Code)(x:(eI c.as).den):Option (qd c.ws):=
 exec E H body (LJ c.ts c.as c.Ag x) λe s=>Ej E.fst c.ws e s
end Go.Abs
end

section
namespace Go.Abs
def oc:Value->Bool
 | .agg _| .tuple _=>ar
 |_=>av
structure Gh where
 dj:Nat->Option (List Value)
 top:Nat->Nat
 cv:Nat->Nat->Value
 fL:Nat->Option Nat
 gA:Nat->Option (List Value)
 outer:Nat->List Value
abbrev Rd:=Nat->Option (List Value)
def sW (r:Rd):List Int->Value->Prop
 |[],u=>u= .pointer ay
 |x::xs,u=>∃b p,u= .pointer (J ⟨b,0,ay⟩)/\r b=J [.int .i64 x,p]/\sW r xs p
def Rc (r:Rd):(τ:Ty)->τ.den->List Value->Prop
 | .int k,x,cs=>cs=[.int k x]
 | .bool,b,cs=>cs=[.bool b]
 | .str,l,cs=>∃s,cs=[.string s]/\l=bytesOf s
 | .un,_,cs=>cs=[]
 | .pr a b,x,cs=>∃c1 c2,cs=c1++c2/\Rc r a x.1 c1/\Rc r b x.2 c2
 | .sl e,xs,cs=>∃A c,cs=[.slice A xs.length c]/\xs.length<=c/\
   (xs=[]\/∃b o L,A=J ⟨b,o,ay⟩/\r b=J L/\∀i (h:i<xs.length),Rc r e xs[i] ((L.drop (o+i*e.size)).take e.size))
 | .cl,xs,cs=>∃u,cs=[u]/\sW r xs u
def Els (r:Rd)(e:Ty)(xs:List e.den)(L:List Value)(o:Nat):Prop:=
 ∀i (h:i<xs.length),Rc r e xs[i] ((L.drop (o+i*e.size)).take e.size)
def Lin (r:Rd):(τ:Ty)->τ.den->List Value->List Nat->Prop
 | .int k,x,cs,nb=>cs=[.int k x]/\nb=[]
 | .bool,b,cs,nb=>cs=[.bool b]/\nb=[]
 | .str,l,cs,nb=>(∃s,cs=[.string s]/\l=bytesOf s)/\nb=[]
 | .un,_,cs,nb=>cs=[]/\nb=[]
 | .pr a b,x,cs,nb=>∃c1 c2 n1 n2,cs=c1++c2/\nb=n1++n2/\Lin r a x.1 c1 n1/\Lin r b x.2 c2 n2
 | .sl e,xs,cs,nb=>e.flat=av/\((cs=[.slice ay 0 0]/\xs=[]/\nb=[])\/
   ∃b c L,cs=[.slice (J ⟨b,0,ay⟩) xs.length c]/\xs.length<=c/\nb=[b]/\r b=J L/\L.length=c*e.size/\Els r e xs L 0)
 | .cl,_,_,_=>False
def gZ (r:Rd)(e:Ty):List e.den->List Value->List Nat->Prop
 |[],_,nb=>nb=[]
 |x::xs,L,nb=>∃n1 n2,nb=n1++n2/\Lin r e x (L.take e.size) n1/\gZ r e xs (L.drop e.size) n2
def uW (g:Gh):List (Nat×Nat)->List Value->Prop
 |[],us=>us=[]
 |p::r,us=>∃b o v,us= .pointer (J ⟨b,o,ay⟩)::v/\p.2<g.top p.1/\g.cv p.1 p.2= .pointer (J ⟨b,o,ay⟩)/\uW g r v
def dR (g:Gh):Cell->Value->Prop
 | .v τ x,u=>τ.one=av/\Rc g.dj τ x [u]
 | .nil,u=>u= .slice ay 0 0
 | .own id gen,u=>gen<g.top id/\u=g.cv id gen/\oc u=av
 | .ptr id gen off,u=>gen<g.top id/\∃b o,g.cv id gen= .pointer (J ⟨b,o,ay⟩)/\u= .pointer (J ⟨b,o+off,ay⟩)
 | .np,u=>u= .pointer ay
 | .nf,u=>u= .nilFunc
 | .fn f lh,u=>∃vs:List Value,u= .func (.func f) #[] vs.toArray/\uW g lh vs
 | .err b,u=>(b=av/\u= .nilIface)\/(b=ar/\∃t v,u= .iface t v)
def dr (g:Gh):List Cell->List Value->Prop
 |[],us=>us=[]
 |c::cs,us=>∃u r,us=u::r/\dR g c u/\dr g cs r
def gx (g:Gh):Val->Value->Prop
 | .one c,u=>dR g c u
 | .agg cs,u=>∃us:List Value,u= .agg us.toArray/\dr g cs us
def gW (g:Gh):List Val->List Value->Prop
 |[],us=>us=[]
 |c::cs,us=>∃u r,us=u::r/\gx g c u/\gW g cs r
def fG (g:Gh):Slot->Value->Prop
 | .val v,u=>gx g v u
 | .yc vs,u=>∃us:List Value,u= .tuple us.toArray/\gW g vs us
 | .ea c i off sz,u=>∃b o n cap,dR g c (.slice (J ⟨b,o,ay⟩) n cap)/\0<=i/\i.toNat<n/\u= .pointer (J ⟨b,o+i.toNat*sz+off,ay⟩)
 | .fa xs off,u=>∃x VL b p,xs=x::VL/\g.dj b=J [.int .i64 x,p]/\sW g.dj VL p/\u= .pointer (J ⟨b,off,ay⟩)
 | .ga k,u=>u= .pointer (J ⟨k,0,ay⟩)
 | .un,_=>True
 | .sk,u=>u=undef
def Qs (g:Gh)(id:Nat)(τ:Ty)(xs:List τ.den)(L:List Value):Prop:=
 ∃nb,gZ g.gA τ xs L nb/\nb.Nodup/\∀b∈nb,g.fL b=J (id+1)
def gy (g:Gh)(id:Nat)(τ:Ty)(deep:Bool)(xs:List τ.den)(L:List Value):Prop:=
 if deep&& !τ.flat then Qs g id τ xs L else Els g.dj τ xs L 0
def rm (r:Rd)(τ:Ty):List (Int×τ.den)->List MapEntry->Prop
 |[],es=>es=[]
 |p::xs,es=>∃e r',es=e::r'/\e.key= .int .i64 p.1/\Rc r τ p.2 [e.val]/\rm r τ xs r'
def nF:Nat:=5
def pg (g:Gh)(w:World)(id:Nat):Obj->Prop
 | .box gen r=>∃b o arr ty L,g.cv id gen= .pointer (J ⟨b,o,ay⟩)/\(g.fL b=J (id+1)/\g.gA b=ay)/\w.heap[b]?=J (.cells arr ty (0,0))/\dr g r.2 L/\
   arr.toList=(g.outer id).take o++L++(g.outer id).drop (o+L.length)/\o+L.length<=(g.outer id).length/\
   o=0/\(g.outer id).length=r.2.length/\ty=r.1
 | .own gen τ deep xs=>(g.cv id gen= .slice ay 0 0/\xs=[])\/
   ∃b cap arr ty,g.cv id gen= .slice (J ⟨b,0,ay⟩) xs.length cap/\g.fL b=J (id+1)/\g.gA b=ay/\w.heap[b]?=J (.cells arr ty (0,0))/\
    xs.length<=cap/\arr.size=cap*τ.size/\gy g id τ deep xs arr.toList
 | .fh gen τ xs=>Rc g.dj (.sl τ) xs [g.cv id gen]
 | .ac3 gen xs=>sW g.dj xs (g.cv id gen)
 | .dead _=>True
 | .j1 _ _=>True
 | .mp gen τ xs=>τ.one=av/\∃b es Xr,g.cv id gen= .map (J b)/\g.fL b=J (id+1)/\g.gA b=ay/\w.heap[b]?=J (.map es Xr)/\rm g.dj τ xs es.toList
 | .hole gen τ xs i off d gd=>gd<g.top d/\0<=i/\i.toNat<xs.length/\τ.flat=ar/\∃b cap arr ty e ys x',g.cv id gen= .slice (J ⟨b,0,ay⟩) xs.length cap/\g.fL b=J (id+1)/\g.gA b=ay/\w.heap[b]?=J (.cells arr ty (0,0))/\
   xs.length<=cap/\arr.size=cap*τ.size/\B8 τ (at_ xs i) off=J ⟨e,ys⟩/\qe τ (at_ xs i) off e []=J x'/\arr.toList[i.toNat*τ.size+off]?=J (g.cv d gd)/\
   Qs g id τ (xs.set i.toNat x') (arr.toList.set (i.toNat*τ.size+off) (.slice ay 0 0))
 | .uY gen xs a ag bid bg off=>ag<g.top a/\bg<g.top bid/\oc (g.cv a ag)=av/\((g.cv a ag= .pointer ay/\g.cv id gen= .slice ay 0 0/\xs=[])\/
   ∃bb oo,g.cv bid bg= .pointer (J ⟨bb,oo,ay⟩)/\g.cv a ag= .pointer (J ⟨bb,oo+off,ay⟩)/\((g.cv id gen= .slice ay 0 0/\xs=[])\/
    ∃b cap arr ty,g.cv id gen= .slice (J ⟨b,0,ay⟩) xs.length cap/\g.fL b=J (id+1)/\g.gA b=ay/\w.heap[b]?=J (.cells arr ty (0,0))/\xs.length<=cap/\arr.size=cap/\Els g.dj (.int .u8) xs arr.toList 0/\ty=nF))
structure Base where
 dj:Nat->Option (List Value)
 fL:Nat->Option Nat
 w:World
 arg:Nat->Value
 g0:Gh:=⟨λ_=>ay,λ_=>0,λ_ _=> .tuple #[],λ_=>ay,λ_=>ay,λ_=>[]⟩
 f0:Nat×Value:=(0, .tuple #[])
structure HRel (B:Base)(g:Gh)(hp:List (Nat×Obj))(w:World):Prop where
 top:∀id,g.top id=match look hp id with|some o=>o.gen+1|none=>0
 gE:∀id o,look hp id=J o->pg g w id o
 dj:∀b L,g.dj b=J L->g.fL b=ay/\g.gA b=ay/\∃arr ty fr,w.heap[b]?=J (.cells arr ty fr)/\arr.toList=L
 gA:∀b L,g.gA b=J L->g.fL b≠ay/\∃arr ty,w.heap[b]?=J (.cells arr ty (0,0))/\arr.toList=L
 gD:∀b,g.fL b≠ay->b<w.heap.size
 kH:∀b L,B.dj b=J L->g.dj b=J L
 frame:∀b,b<B.w.heap.size->B.fL b=ay->B.dj b=ay->g.fL b=ay/\g.dj b=ay/\w.heap[b]?=B.w.heap[b]?
 size:B.w.heap.size<=w.heap.size
 os:w.os=B.w.os
 tape:w.tape=B.w.tape
 output:w.output=B.w.output
 fix:∀b L,B.dj b=J L->w.heap[b]?=B.w.heap[b]?
structure Le (g g':Gh):Prop where
 dj:∀b L,g.dj b=J L->g'.dj b=J L
 top:∀id,g.top id<=g'.top id
 cv:∀id gen,gen<g.top id->g'.cv id gen=g.cv id gen
theorem Le.refl (g:Gh):Le g g:=⟨λ_ _ h=>h,λ_=>aC _,λ_ _ _=>rfl⟩
theorem Le.trans {a b c:Gh}(h:Le a b)(k:Le b c):Le a c:=
  ⟨λx L hx=>k.dj _ _ (h.dj _ _ hx),λid=>bX (h.top id) (k.top id),
   λid gen hg=>(k.cv id gen (aR hg (h.top id))).trans (h.cv id gen hg)⟩
structure Lk (g g':Gh):Prop where
 le:Le g g'
 kp:∀b,g.fL b=J 0->g'.fL b=J 0/\g'.gA b=g.gA b
 out:g'.outer=g.outer
theorem Lk.refl (g:Gh):Lk g g:=⟨Le.refl g,λ_ h=>⟨h,rfl⟩,rfl⟩
theorem Lk.trans {a b c:Gh}(h:Lk a b)(k:Lk b c):Lk a c:=
 ⟨h.le.trans k.le,λx hx=>⟨(k.kp x (h.kp x hx).1).1,((k.kp x (h.kp x hx).1).2).trans (h.kp x hx).2⟩,k.out.trans h.out⟩
theorem sW.mono {r r':Rd}(h:∀b L,r b=J L->r' b=J L):∀{xs:List Int} {u:Value},sW r xs u->sW r' xs u
 |[],_,hc=>hc
 |_::_,_,⟨b,p,e,hb,hc⟩=>⟨b,p,e,h _ _ hb,sW.mono h hc⟩
theorem Rc.mono {r r':Rd}(h:∀b L,r b=J L->r' b=J L):∀{τ:Ty} {x:τ.den} {cs:List Value},Rc r τ x cs->Rc r' τ x cs
 | .int _,_,_,hc=>hc
 | .bool,_,_,hc=>hc
 | .str,_,_,hc=>hc
 | .un,_,_,hc=>hc
 | .pr _ _,_,_,⟨c1,c2,e,h1,h2⟩=>⟨c1,c2,e,Rc.mono h h1,Rc.mono h h2⟩
 | .sl _,_,_,⟨A,c,e,hl,hc⟩=>⟨A,c,e,hl,hc.imp id λ⟨b,o,L,ea,hb,hi⟩=>⟨b,o,L,ea,h _ _ hb,λi s5=>Rc.mono h (hi i s5)⟩⟩
 | .cl,_,_,⟨u,e,hc⟩=>⟨u,e,hc.mono h⟩
theorem Rc.length {r:Rd}:∀{τ:Ty} {x:τ.den} {cs:List Value},Rc r τ x cs->cs.length=τ.size
 | .int _,_,_,h=>by subst h;rfl
 | .bool,_,_,h=>by subst h;rfl
 | .str,_,_,⟨_,e,_⟩=>by subst e;rfl
 | .un,_,_,h=>by subst h;rfl
 | .pr _ _,_,_,⟨c1,c2,e,h1,h2⟩=>by subst e;simp[Ty.size,h1.length,h2.length]
 | .sl _,_,_,⟨A,c,e,_⟩=>by subst e;rfl
 | .cl,_,_,⟨u,e,_⟩=>by subst e;rfl
theorem Rc.flat {r r':Rd}:∀{τ:Ty} {x:τ.den} {cs:List Value},τ.flat=av->Rc r τ x cs->Rc r' τ x cs
 | .int _,_,_,_,hc=>hc
 | .bool,_,_,_,hc=>hc
 | .str,_,_,_,hc=>hc
 | .un,_,_,_,hc=>hc
 | .pr _ _,_,_,hf,⟨c1,c2,e,h1,h2⟩=>by
  simp only[Ty.flat,aA]at hf;exact⟨c1,c2,e,Rc.flat hf.1 h1,Rc.flat hf.2 h2⟩
 | .sl _,_,_,hf,_=>by grind [Ty.flat]
 | .cl,_,_,hf,_=>by grind [Ty.flat]
theorem rm.mono {r r':Rd}{τ:Ty}(h:∀b L,r b=J L->r' b=J L):∀{xs:List (Int×τ.den)} {es:List MapEntry},rm r τ xs es->rm r' τ xs es
 |[],_,hc=>hc
 |_::_,_,⟨e,r2,h1,h2,h3,h4⟩=>⟨e,r2,h1,h2,h3.mono h,rm.mono h h4⟩
theorem Els.mono {r r':Rd}(h:∀b L,r b=J L->r' b=J L){e:Ty}{xs:List e.den}{L:List Value}{o:Nat}(H:Els r e xs L o):Els r' e xs L o:=
 λi hi=>(H i hi).mono h
theorem Els.flat {r r':Rd}{e:Ty}(hf:e.flat=av){xs:List e.den}{L:List Value}{o:Nat}(H:Els r e xs L o):Els r' e xs L o:=
 λi hi=>(H i hi).flat hf
theorem uW.mono {g g':Gh}(h:Le g g'):∀{cs:List (Nat×Nat)} {us:List Value},uW g cs us->uW g' cs us
 |[],_,hc=>hc
 |_::_,_,⟨b,o,v,e,ht,nE,hc⟩=>⟨b,o,v,e,aR ht (h.top _),(h.cv _ _ ht).trans nE,uW.mono h hc⟩
theorem dR.mono {g g':Gh}(h:Le g g'){c:Cell}{u:Value}(hc:dR g c u):dR g' c u:=by
 cases c with
 |v τ x=>exact⟨hc.1,hc.2.mono h.dj⟩
 |nil=>exact hc
 |own id gen=>exact⟨aR hc.1 (h.top _),hc.2.1.trans (h.cv _ _ hc.1).symm,hc.2.2⟩
 |ptr id gen off=>obtain⟨ht,b,o,e,e'⟩:=hc;exact⟨aR ht (h.top _),b,o,(h.cv _ _ ht).trans e,e'⟩
 |np=>exact hc
 |nf=>exact hc
 |fn f lh=>obtain⟨vs,e,hv⟩:=hc;exact⟨vs,e,hv.mono h⟩
 |err b=>exact hc
theorem dr.mono {g g':Gh}(h:Le g g'):∀{cs:List Cell} {us:List Value},dr g cs us->dr g' cs us
 |[],_,hc=>hc
 |_::_,_,⟨u,r,e,hu,hr⟩=>⟨u,r,e,hu.mono h,dr.mono h hr⟩
theorem gx.mono {g g':Gh}(h:Le g g'){v:Val}{u:Value}(hv:gx g v u):gx g' v u:=by
 cases v with
 |one c=>exact dR.mono h hv
 |agg cs=>obtain⟨us,e,hu⟩:=hv;exact⟨us,e,hu.mono h⟩
theorem gW.mono {g g':Gh}(h:Le g g'):∀{cs:List Val} {us:List Value},gW g cs us->gW g' cs us
 |[],_,hc=>hc
 |_::_,_,⟨u,r,e,hu,hr⟩=>⟨u,r,e,hu.mono h,gW.mono h hr⟩
theorem fG.mono {g g':Gh}(h:Le g g'){s:Slot}{u:Value}(hs:fG g s u):fG g' s u:=by
 cases s with
 |val v=>exact gx.mono h hs
 |yc vs=>obtain⟨us,e,hu⟩:=hs;exact⟨us,e,hu.mono h⟩
 |ea c i off sz=>obtain⟨b,o,n,cap,hc,h0,h1,e⟩:=hs;exact⟨b,o,n,cap,hc.mono h,h0,h1,e⟩
 |fa xs off=>obtain⟨x,VL,b,p,e,hb,hc,e'⟩:=hs;exact⟨x,VL,b,p,e,h.dj _ _ hb,hc.mono h.dj,e'⟩
 |ga k=>exact hs
 |un=>exact hs
 |sk=>exact hs
theorem dR.F2 {g:Gh}{c:Cell}{u:Value}(h:dR g c u):oc u=true:=by
 cases c with
 |v τ x=>
  obtain⟨h1,h⟩:=h
  cases τ with
  |int k=>injection h with h;subst h;rfl
  |bool=>injection h with h;subst h;rfl
  |str=>obtain⟨s,e,_⟩:=h;injection e with e;subst e;rfl
  |un=>grind [Ty.one]
  |pr a b=>grind [Ty.one]
  |sl e=>obtain⟨A,c,e,_⟩:=h;injection e with e;subst e;rfl
  |cl=>
   obtain⟨u',e,h⟩:=h
   injection e with e;subst e
   have hx:sW g.dj (x:List Int) u:=h
   revert hx
   generalize(x:List Int)=xs
   intro hx
   cases xs with
   |nil=>subst hx;rfl
   |cons y ys=>obtain⟨b,p,e,_⟩:=hx;subst e;rfl
 |nil=>subst h;rfl
 |own id gen=>exact h.2.2
 |ptr id gen off=>obtain⟨_,b,o,_,e⟩:=h;subst e;rfl
 |np=>subst h;rfl
 |nf=>subst h;rfl
 |fn f lh=>obtain⟨vs,e,_⟩:=h;subst e;rfl
 |err b=>rcases h with⟨_,e⟩|⟨_,t,v,e⟩<;>subst e<;>rfl
theorem CR {u:Value}(h:oc u=av):u.cells=#[u]:=by cases u<;>simp_all[oc,Value.cells]
theorem dr.length {g:Gh}:∀{cs:List Cell} {us:List Value},dr g cs us->us.length=cs.length
 |[],_,h=>by have h:_=_:=h;simp_all
 |_::_,_,⟨_,_,e,_,hr⟩=>by subst e;simp[hr.length]
theorem gx.cells {g:Gh}{v:Val}{u:Value}(h:gx g v u):dr g v.cells u.cells.toList:=by
 cases v with
 |one c=>rw[CR (dR.F2 h)];exact⟨u,[],rfl,h,rfl⟩
 |agg cs=>obtain⟨us,e,hu⟩:=h;subst e;exact hu
theorem dr.append {g:Gh}:∀{a b:List Cell} {us vs:List Value},dr g a us->dr g b vs->dr g (a++b) (us++vs)
 |[],_,_,_,h,k=>by have h:_=_:=h;simp_all
 |_::_,_,_,_,⟨u,r,e,hu,hr⟩,k=>by subst e;exact⟨u,_,rfl,hu,hr.append k⟩
theorem dr.take {g:Gh}:∀{a:List Cell} {us:List Value} (n:Nat),dr g a us->dr g (a.take n) (us.take n)
 |_,_,0,_=>by rfl
 |[],_,n+1,h=>by simp_all[dr]
 |_::_,_,n+1,⟨u,r,e,hu,hr⟩=>by subst e;exact⟨u,_,rfl,hu,hr.take n⟩
theorem dr.drop {g:Gh}:∀{a:List Cell} {us:List Value} (n:Nat),dr g a us->dr g (a.drop n) (us.drop n)
 |_,_,0,h=>h
 |[],_,n+1,h=>by simp_all[dr]
 |_::_,_,n+1,⟨u,r,e,hu,hr⟩=>by subst e;exact hr.drop n
theorem dr.split {g:Gh}:∀{a b:List Cell} {us:List Value},dr g (a++b) us->∃u v,us=u++v/\dr g a u/\dr g b v
 |[],_,us,h=>⟨[],us,rfl,rfl,h⟩
 |_::_,_,_,⟨u,r,e,hu,hr⟩=>by
  obtain⟨x,y,e',hx,hy⟩:=dr.split hr;subst e;subst e';exact⟨u::x,y,rfl,⟨u,x,rfl,hu,hx⟩,hy⟩
theorem Lin.rc {r:Rd}:∀{τ:Ty} {x:τ.den} {cs:List Value} {nb:List Nat},Lin r τ x cs nb->Rc r τ x cs
 | .int _,_,_,_,h=>h.1
 | .bool,_,_,_,h=>h.1
 | .str,_,_,_,h=>h.1
 | .un,_,_,_,h=>h.1
 | .pr _ _,_,_,_,⟨c1,c2,_,_,e,_,h1,h2⟩=>⟨c1,c2,e,h1.rc,h2.rc⟩
 | .sl _,_,_,_,⟨_, .inl ⟨e,e',_⟩⟩=>by subst e';exact⟨ay,0,e,aC _, .inl rfl⟩
 | .sl _,_,_,_,⟨_, .inr ⟨b,c,L,e,hl,_,hb,_,he⟩⟩=>⟨J ⟨b,0,ay⟩,c,e,hl, .inr ⟨b,0,L,rfl,hb,he⟩⟩
 | .cl,_,_,_,h=>h.elim
theorem Lin.mono {r r':Rd}:∀{τ:Ty} {x:τ.den} {cs:List Value} {nb:List Nat},(∀b∈nb,∀L,r b=J L->r' b=J L)->Lin r τ x cs nb->Lin r' τ x cs nb
 | .int _,_,_,_,_,h=>h
 | .bool,_,_,_,_,h=>h
 | .str,_,_,_,_,h=>h
 | .un,_,_,_,_,h=>h
 | .pr _ _,_,_,_,hm,⟨c1,c2,n1,n2,e,e',h1,h2⟩=>
  ⟨c1,c2,n1,n2,e,e',h1.mono (λb hb=>hm b (by simp_all)),h2.mono (λb hb=>hm b (by simp_all))⟩
 | .sl _,_,_,_,_,⟨f, .inl h⟩=>⟨f, .inl h⟩
 | .sl _,_,_,_,hm,⟨f, .inr ⟨b,c,L,e,hl,hn,hb,hL,he⟩⟩=>⟨f, .inr ⟨b,c,L,e,hl,hn,hm b (by simp_all) L hb,hL,he.flat f⟩⟩
 | .cl,_,_,_,_,h=>h.elim
theorem gZ.mono {r r':Rd}{e:Ty}:∀{xs:List e.den} {L:List Value} {nb:List Nat},(∀b∈nb,∀L,r b=J L->r' b=J L)->gZ r e xs L nb->gZ r' e xs L nb
 |[],_,_,_,h=>h
 |_::_,_,_,hm,⟨n1,n2,e',h1,h2⟩=>
  ⟨n1,n2,e',h1.mono (λb hb=>hm b (by simp_all)),h2.mono (λb hb=>hm b (by simp_all))⟩
theorem gZ.els {r:Rd}{e:Ty}:∀{xs:List e.den} {L:List Value} {nb:List Nat},gZ r e xs L nb->Els r e xs L 0
 |[],_,_,_=>λi hi=>absurd hi (by simp)
 |x::xs,L,_,⟨_,_,_,h1,h2⟩=>λi hi=>by
  cases i with
  |zero=>simpa using h1.rc
  |succ i=>
   have s5:i<xs.length:=by simp_all
   have h:=h2.els i s5
   grind [bQ,b8]
theorem gZ.uM {r:Rd}{e:Ty}:∀{xs:List e.den} {L:List Value} {nb:List Nat},gZ r e xs L nb->∀b∈nb,r b≠none:=by
 have lin:∀{τ:Ty} {x:τ.den} {cs:List Value} {nb:List Nat},Lin r τ x cs nb->∀b∈nb,r b≠none:=by
  intro τ
  induction τ with
  |int k=>intro x cs nb h b hb;rw[h.2]at hb;simp_all
  |bool=>intro x cs nb h b hb;rw[h.2]at hb;simp_all
  |str=>intro x cs nb h b hb;rw[h.2]at hb;simp_all
  |un=>intro x cs nb h b hb;rw[h.2]at hb;simp_all
  |pr a b Dt Dr=>
   intro x cs nb ⟨c1,c2,n1,n2,_,e,h1,h2⟩ b hb
   grind
  |sl e _=>
   intro x cs nb ⟨_,h⟩ b hb
   grind
  |cl=>intro x cs nb h;exact h.elim
 intro xs
 induction xs with
 |nil=>intro L nb h b hb;have h:_=_:=h;simp_all
 |cons x xs ih=>
  intro L nb ⟨n1,n2,e,h1,h2⟩ b hb
  grind
theorem pg.tr {g g':Gh}{w w':World}{id:Nat}{o:Obj}(hle:Le g g')(hl:∀b,g.fL b=J (id+1)->g'.fL b=J (id+1)/\g'.gA b=g.gA b/\w'.heap[b]?=w.heap[b]?)
  (ho:g'.outer id=g.outer id) (hg:o.gen<g.top id) (h:pg g w id o):pg g' w' id o:=by
 cases o with
 |box gen r=>
  obtain⟨b,o,arr,ty,L,h1,h2,h3,h4,h5,h6,h7⟩:=h;obtain⟨a1,a2,a3⟩:=hl b h2.1;refine⟨b,o,arr,ty,L,(hle.cv _ _ hg).trans h1,⟨a1,a2.trans h2.2⟩,a3.trans h3,h4.mono hle, ?_, ?_,by simp_all⟩
  all_goals simp_all
 |own gen τ deep xs=>
  rcases h with⟨h1,h2⟩|⟨b,cap,arr,ty,h1,h2,h3,h4,h5,h6,h7⟩
  ·exact .inl ⟨(hle.cv _ _ hg).trans h1,h2⟩
  ·obtain⟨a1,a2,a3⟩:=hl b h2;refine .inr ⟨b,cap,arr,ty,(hle.cv _ _ hg).trans h1,a1,a2.trans h3,a3.trans h4,h5,h6, ?_⟩;unfold gy at h7⊢;split
   ·rename_i hd;rw[ak hd]at h7;obtain⟨nb,k1,k2,k3⟩:=h7;exact⟨nb,k1.mono (λb hb L hL=>by simp_all),k2,λb hb=>(hl b (k3 b hb)).1⟩
   ·rename_i hd;rw[aj hd]at h7;exact h7.mono hle.dj
 |fh gen τ xs=>show Rc _ _ _ _;rw[show g'.cv id gen=g.cv id gen from hle.cv _ _ hg];exact h.mono hle.dj
 |ac3 gen xs=>show sW _ _ _;rw[show g'.cv id gen=g.cv id gen from hle.cv _ _ hg];exact h.mono hle.dj
 |dead _=>trivial
 |j1 _ _=>trivial
 |mp gen τ xs=>
  obtain⟨h1,b,es,Xr,k1,k2,k3,k4,k5⟩:=h;obtain⟨a1,a2,a3⟩:=hl b k2;exact⟨h1,b,es,Xr,(hle.cv _ _ hg).trans k1,a1,a2.trans k3,a3.trans k4,k5.mono hle.dj⟩
 |hole gen τ xs i off d gd=>
  obtain⟨h0,aR7,Yn,hf,b,cap,arr,ty,e,ys,x',h1,h2,h3,h4,h5,h6,h7,h8,h9,nb,k1,k2,k3⟩:=h;obtain⟨a1,a2,a3⟩:=hl b h2
  exact⟨aR h0 (hle.top _),aR7,Yn,hf,b,cap,arr,ty,e,ys,x',(hle.cv _ _ hg).trans h1,a1,a2.trans h3,a3.trans h4,h5,h6,h7,h8,by rw[hle.cv _ _ h0];omega,
   nb,k1.mono (λb hb L hL=>by simp_all),k2,λb hb=>(hl b (k3 b hb)).1⟩
 |uY gen xs a ag bid bg off=>
  obtain⟨h1,h2,h3,h4⟩:=h;refine⟨aR h1 (hle.top _),aR h2 (hle.top _),by rw[hle.cv _ _ h1];omega, ?_⟩;rw[hle.cv _ _ h1,hle.cv _ _ h2,show g'.cv id gen=g.cv id gen from hle.cv _ _ hg]
  rcases h4 with h4|⟨bb,oo,k1,k2,h4⟩
  ·simp_all
  ·refine .inr ⟨bb,oo,k1,k2, ?_⟩
   rcases h4 with h4|⟨b,cap,arr,ty,e1,e2,e3,e4,e5,e6,e7,e8⟩
   ·simp_all
   ·obtain⟨a1,a2,a3⟩:=hl b e2;exact .inr ⟨b,cap,arr,ty,e1,a1,a2.trans e3,a3.trans e4,e5,e6,e7.mono hle.dj,e8⟩
end Go.Abs
end

section
namespace Go.Abs
theorem AM.run_bind {α β:Type}(m:AM α)(f:α->AM β):∀s,(m.bind f).run s=(m.run s).bind λp=>(f p.1).run p.2:=by
 induction m with
 |ret a=>intro s;rfl
 |br b t e Yv Yb=>grind [AM.bind,AM.run]
 |fail=>intro s;rfl
 |xK t k ih=>grind [AM.bind,AM.run,look]
 |Dk t x k ih=>simp_all[AM.bind,AM.run]
 |kY i k ih=>simp_all[AM.bind,AM.run]
 |mm i o k ih=>simp_all[AM.bind,AM.run]
 |opt c x k ih=>intro s;cases x<;>simp[AM.bind,AM.run,ih]
theorem AM.cV {α β:Type}{m:AM α}{f:α->AM β}{s s':St}{b:β}(h:(m.bind f).run s=J (b,s')):
  ∃a t,m.run s=J (a,t)/\(f a).run t=J (b,s'):=by
 rw[AM.run_bind]at h
 cases hm:m.run s with
 |none=>simp_all
 |some p=>grind
theorem du {β:Type}(l:List (Nat×β))(n:Nat)(b:β):look ((n,b)::l) n=J b:=by simp[look]
theorem de {β:Type}(l:List (Nat×β)){n m:Nat}(b:β)(h:n≠m):look ((n,b)::l) m=look l m:=by
 have:aw n m=false:=by simp_all[Bool.eq_false_iff,bV]
 grind [look]
theorem beq_eq {a b:Nat}(h:aw a b=av):a=b:=bV h
def Gh.pF (g:Gh)(S:Nat->Option (List Value)):Gh:=
  { g with dj := fun x => match S x with | some L => J L | none => g.dj x
           fL:=λx=>match S x with|some _=>ay|none=>g.fL x
           gA:=λx=>match S x with|some _=>ay|none=>g.gA x}
theorem HRel.F5 {B:Base}{g:Gh}{hp:List (Nat×Obj)}{w:World}(R:HRel B g hp w){S:Nat->Option (List Value)}{id:Nat}
  (hS:∀x L,S x=J L->g.fL x=J (id+1)):Le g (g.pF S):=by
 refine⟨λb L h=> ?_,λ_=>aC _,λ_ _ _=>rfl⟩;show(match S b with|some L=>J L|none=>g.dj b)=J L
 cases hs:S b with
 |none=>exact h
 |some L'=>exact absurd (hS b L' hs) (by rw[(R.dj b L h).1];simp)
theorem HRel.F6 {B:Base}{g:Gh}{hp:List (Nat×Obj)}{w:World}(R:HRel B g hp w){S:Nat->Option (List Value)}{id:Nat}
  (hS:∀x L,S x=J L->g.fL x=J (id+1)):Lk g (g.pF S):=by
 refine⟨R.F5 hS,λb hb=> ?_,rfl⟩
 grind [absurd,Gh.pF]
theorem HRel.Lv {B:Base}{g:Gh}{hp:List (Nat×Obj)}{w:World}(R:HRel B g hp w){S:Nat->Option (List Value)}{id:Nat}{o o':Obj}
  (hS:∀x L,S x=J L->g.fL x=J (id+1)/\∃arr ty fr,w.heap[x]?=J (.cells arr ty fr)/\arr.toList=L)
  (ho:look hp id=J o) (FN:o'.gen=o.gen) (Vc:pg (g.pF S) w id o'):HRel B (g.pF S) ((id,o')::hp) w:=by
 have hle:=R.F5 (λx L h=>(hS x L h).1);refine⟨λi=> ?_,λi oi hi=> ?_,λb L h=> ?_,λb L h=> ?_,λb h=> ?_,λb L h=>hle.dj _ _ (R.kH b L h),λb hb hl hi=> ?_,R.size,R.os,R.tape,R.output,R.fix⟩
 ·show g.top i=_;rw[R.top i]
  grind [id,du,de]
 ·by_cases e:id=i
  ·simp_all[du]
  ·rw[de _ _ e]at hi;refine(R.gE i oi hi).tr hle (λb hb=> ?_) rfl (by rw[R.top i,hi];simp)
   grind [absurd,Gh.pF]
 ·simp only[Gh.pF]at h⊢
  cases hs:S b with
  |some L'=>
   simp_all
  |none=>rw[hs]at h;exact R.dj b L h
 ·simp only[Gh.pF]at h⊢
  cases hs:S b with
  |some L'=>simp_all
  |none=>rw[hs]at h;exact R.gA b L h
 ·simp only[Gh.pF]at h
  cases hs:S b with
  |some L'=>simp_all
  |none=>rw[hs]at h;exact R.gD b h
 ·obtain⟨f1,f2,f3⟩:=R.frame b hb hl hi
  grind [absurd,Gh.pF]
theorem HRel.put {B:Base}{g:Gh}{hp:List (Nat×Obj)}{w:World}(R:HRel B g hp w){id:Nat}{o o':Obj}
  (ho:look hp id=J o) (FN:o'.gen=o.gen) (Vc:pg g w id o'):HRel B g ((id,o')::hp) w:=by
 refine⟨λi=> ?_,λi oi hi=> ?_,R.dj,R.gA,R.gD,R.kH,R.frame,R.size,R.os,R.tape,R.output,R.fix⟩
 ·rw[R.top i]
  grind [id,du,de]
 ·by_cases e:id=i
  ·simp_all[du]
  ·rw[de _ _ e]at hi;exact R.gE i oi hi
open Classical in
noncomputable def nbS (g:Gh)(nb:List Nat):Nat->Option (List Value):=λx=>if x∈nb then g.gA x else ay
theorem HRel.QX {B:Base}{g:Gh}{hp:List (Nat×Obj)}{w:World}(R:HRel B g hp w){id gen:Nat}{τ:Ty}{deep:Bool}{xs:List τ.den}
  (h:look hp id=J (.own gen τ deep xs)):∃g',Lk g g'/\HRel B g' ((id, .own gen τ ar xs)::hp) w:=by
 have hO:=R.gE _ _ h
 rcases hO with⟨h1,h2⟩|⟨b,cap,arr,ty,h1,h2,h3,h4,h5,h6,h7⟩
 ·exact⟨g,Lk.refl g,R.put h rfl (.inl ⟨h1,h2⟩)⟩
 ·by_cases hd:(deep&& !τ.flat)=av
  ·unfold gy at h7;rw[ak hd]at h7;obtain⟨nb,k1,k2,k3⟩:=h7
   have hS:∀x L,nbS g nb x=J L->g.fL x=J (id+1)/\∃arr ty fr,w.heap[x]?=J (.cells arr ty fr)/\arr.toList=L:=by
    intro x L hx;unfold nbS at hx;split at hx
    ·rename_i hm;obtain⟨_,arr,ty,a,b⟩:=R.gA x L hx;simp_all
    simp_all
   have Be:nbS g nb b=none:=by grind [nbS]
   refine⟨_,R.F6 (λx L hx=>(hS x L hx).1),R.Lv hS h rfl (.inr ⟨b,cap,arr,ty,h1,by simp_all[Gh.pF],by simp_all[Gh.pF],h4,h5,h6, ?_⟩)⟩;show gy _ _ _ ar _ _;refine gZ.els (nb:=nb) (k1.mono λx hx L hL=> ?_);simp_all[Gh.pF,nbS]
  ·refine⟨g,Lk.refl g,R.put h rfl (.inr ⟨b,cap,arr,ty,h1,h2,h3,h4,h5,h6, ?_⟩)⟩;simp_all[gy,aj]
theorem HRel.Wy {B:Base}{g:Gh}{hp:List (Nat×Obj)}{w:World}(R:HRel B g hp w){id gen:Nat}{τ:Ty}{xs:List τ.den}
  (h:look hp id=J (.own gen τ ar xs)):∃g',Lk g g'/\HRel B g' ((id, .fh gen τ xs)::hp) w:=by
 have hO:=R.gE _ _ h
 rcases hO with⟨h1,h2⟩|⟨b,cap,arr,ty,h1,h2,h3,h4,h5,h6,h7⟩
 ·exact⟨g,Lk.refl g,R.put h rfl (by subst h2;exact⟨ay,0,by simp_all,aC _, .inl rfl⟩)⟩
 ·let S:Nat->Option (List Value):=λx=>if x=b then J arr.toList else ay
  have hS:∀x L,S x=J L->g.fL x=J (id+1)/\∃arr ty fr,w.heap[x]?=J (.cells arr ty fr)/\arr.toList=L:=by
   grind
  have hle:=R.F5 (λx L hx=>(hS x L hx).1);refine⟨_,R.F6 (λx L hx=>(hS x L hx).1),R.Lv hS h rfl ?_⟩;exact⟨J ⟨b,0,ay⟩,cap,by show [g.cv id gen]=_;rw[h1],h5, .inr ⟨b,0,arr.toList,rfl,by simp[Gh.pF,S],λi hi=>(h7 i hi).mono hle.dj⟩⟩
theorem HRel.HS {B:Base}{g:Gh}{hp:List (Nat×Obj)}{w:World}(R:HRel B g hp w){id gen:Nat}{τ:Ty}{deep:Bool}{xs:List τ.den}
  (h:look hp id=J (.own gen τ deep xs)):∃g',Lk g g'/\HRel B g' ((id, .fh gen τ xs)::hp) w:=by
 obtain⟨g1,l1,R1⟩:=R.QX h;obtain⟨g2,l2,R2⟩:=R1.Wy (du _ _ _);refine⟨g2,l1.trans l2,⟨λi=> ?_,λi o hi=> ?_,R2.dj,R2.gA,R2.gD,R2.kH,R2.frame,R2.size,R2.os,R2.tape,R2.output,R2.fix⟩⟩
 ·rw[R2.top i]
  grind [id,du,de]
 ·refine R2.gE i o ?_
  grind [id,du,de]
theorem HRel.OR {B:Base}{g:Gh}{hp:List (Nat×Obj)}{w:World}(R:HRel B g hp w){id gen:Nat}{x:Int}{c:Cell}{xs:List Int}{bt:Nat}
  (h:look hp id=J (.box gen (bt,[.v (.int .i64) x,c]))) (hid:id<nv)
  {b0 o0:Nat} {kV:Array Value} {E7:TypeId} {a02:Nat×Nat} {u0:Value} (J2:g.cv id gen= .pointer (J ⟨b0,o0,ay⟩)) (SW:w.heap[b0]?=J (.cells kV E7 a02))
  (P9:kV.toList[1]?=J u0) (hc:sW g.dj xs u0):∃g',Lk g g'/\HRel B g' ((id, .ac3 gen (x::xs))::hp) w:=by
 obtain⟨b,o,arr,ty,L,h1,h2,h3,h4,h5,h6,h7⟩:=R.gE _ _ h;obtain⟨u1,r1,e1,qf,u2,r2,e2,AL,e3⟩:=h4;subst e3;subst e2;subst e1;have aa7:_=_:=qf.2
 injection aa7 with aa7
 subst aa7;obtain⟨rfl,hlen,_⟩:=h7;simp at hlen;rw[h1]at J2
 injection J2 with J2;injection J2 with J2;injection J2 with J2 ho0
 subst J2;rw[h3]at SW
 injection SW with SW;injection SW with SW
 subst SW
 have Dp:arr.toList=[.int .i64 x,u2]:=by
  rw[h5];have:a77 (0+2) (g.outer id)=[]:=cd (by omega);simp[this]
 let S:Nat->Option (List Value):=λy=>if y=b then J arr.toList else ay
 have hS:∀x L,S x=J L->g.fL x=J (id+1)/\∃arr ty fr,w.heap[x]?=J (.cells arr ty fr)/\arr.toList=L:=by
  intro x L hx;simp only[S]at hx;split at hx
  ·rename_i e;subst e;injection hx with hx;exact⟨h2.1,arr,ty,_,h3,hx⟩
  ·cases hx
 have hle:=R.F5 (λx L hx=>(hS x L hx).1);refine⟨_,R.F6 (λx L hx=>(hS x L hx).1),R.Lv hS h rfl ?_⟩
 have hu:u2=u0:=by rw[Dp]at P9;simpa using P9
 subst hu;exact⟨b,u2,h1,by simp[Gh.pF,S,Dp],hc.mono hle.dj⟩
theorem HRel.Xg {B:Base}{g:Gh}{hp:List (Nat×Obj)}{w:World}(R:HRel B g hp w){id gen:Nat}{τ:Ty}{deep:Bool}{xs:List τ.den}
  (h:look hp id=J (.own gen τ deep xs)) (hf:τ.flat=av):∃g' nb,Lk g g'/\HRel B g' ((id, .dead gen)::hp) w/\
   Lin g'.gA (.sl τ) xs [g.cv id gen] nb/\nb.Nodup/\∀b∈nb,g'.fL b=J 0/\g.fL b≠J 0:=by
 rcases R.gE _ _ h with⟨h1,h2⟩|⟨b,cap,arr,ty,h1,h2,h3,h4,h5,h6,h7⟩
 ·exact⟨g,[],Lk.refl g,R.put h rfl trivial,⟨hf, .inl ⟨by rw[h1],h2,rfl⟩⟩,bf,λb hb=>by simp_all⟩
 ·let g':Gh:={g with fL:=λx=>if x=b then J 0 else g.fL x,gA:=λx=>if x=b then J arr.toList else g.gA x}
  have hle:Le g g':=⟨λ_ _ h=>h,λ_=>aC _,λ_ _ _=>rfl⟩
  refine⟨g',[b],⟨hle,λx hx=>by grind,rfl⟩, ?_,⟨hf, .inr ⟨b,cap,arr.toList,by rw[h1],h5,rfl,by grind,by omega, ?_⟩⟩,by simp,λx hx=>by
   grind⟩
  ·refine⟨λi=> ?_,λi oi hi=> ?_,λx L hx=> ?_,λx L hx=> ?_,λx hx=> ?_,R.kH,λx hx hl hi=> ?_,R.size,R.os,R.tape,R.output,R.fix⟩
   ·show g.top i=_;rw[R.top i]
    by_cases e:id=i
    ·subst e;rw[du,h];rfl
    simp_all[de]
   ·by_cases e:id=i
    ·subst e;rw[du]at hi;injection hi with hi;subst hi;trivial
    ·rw[de _ _ e]at hi;refine(R.gE i oi hi).tr hle (λx hx=> ?_) rfl (by rw[R.top i,hi];simp)
     grind
   ·obtain⟨a1,a2,a3⟩:=R.dj x L hx
    grind
   ·by_cases zG:x=b
    ·grind
    ·simp only[g',zG,if_false]at hx⊢;exact R.gA x L hx
   ·by_cases zG:x=b
    ·grind
    ·simp[g',zG]at hx;exact R.gD x hx
   ·obtain⟨f1,f2,f3⟩:=R.frame x hx hl hi
    grind
  ·unfold gy at h7;simp[hf]at h7;exact h7.flat hf
end Go.Abs
end

section
namespace Go.Abs
def iM (g:Gh)(env:List (Nat×Slot))(a:Act):Prop:=∀t s,look env t=J s->fG g s (a.tmps.getD t undef)
theorem iM.mono {g g':Gh}(h:Le g g'){env:List (Nat×Slot)}{a:Act}(H:iM g env a):iM g' env a:=λt s hs=>(H t s hs).mono h
theorem cX {α:Type}{a b:α}{s s':St}(h:(AM.ret a).run s=J (b,s')):b=a/\s'=s:=by
 simp_all[AM.run,bY,cy]
theorem eO {α:Type}{x:Option α}{b:α}{s s':St}(h:(kf x).run s=J (b,s')):x=J b/\s'=s:=by
 cases x with
 |none=>cases h
 |some a=>obtain⟨rfl,rfl⟩:=cX h;simp
theorem lZ {τ τ':Ty}{x:List τ.den}{y:List τ'.den}{s s':St}(h:(wZ (τ':=τ') x).run s=J (y,s')):∃e:τ=τ',y=e ▸ x/\s'=s:=by
 unfold wZ at h;split at h
 ·grind [cX]
 ·cases h
theorem PF {α:Type}{b:Bool}{m n:AM α}{x:α}{s s':St}(h:(AM.br b m n).run s=J (x,s')):(b=av/\m.run s=J (x,s'))\/(b=ar/\n.run s=J (x,s')):=by
 cases b
 ·exact .inr ⟨rfl,h⟩
 ·exact .inl ⟨rfl,h⟩
theorem nY {α:Type}{b:Bool}{m:AM α}{x:α}{s s':St}(h:(AM.br b m .fail).run s=J (x,s')):b=av/\m.run s=J (x,s'):=by
 rcases PF h with h|⟨_,h⟩
 ·exact h
 ·cases h
theorem dQ {α:Type}{b:Bool}{m:AM α}{x:α}{s s':St}(h:(bif b then m else AM.fail).run s=J (x,s')):b=av/\m.run s=J (x,s'):=by
 cases b
 ·cases h
 simp_all
theorem jm {B:Base}{g:Gh}{hp:List (Nat×Obj)}{w:World}(R:HRel B g hp w){id:Nat}{o:Obj}(h:look hp id=J o):o.gen<g.top id:=by
 rw[R.top id,h];simp
theorem OT:∀(k:Nat) (c:Cell) (s:St) (xs:List Int) (s':St),(SE k c).run s=J (xs,s')->
  s'.env=s.env/\(∀i g cs,look s'.hp i=J (.box g cs)->look s.hp i=J (.box g cs))/\
   ∀B g w,HRel B g s.hp w->∃g',Lk g g'/\HRel B g' s'.hp w/\∀u,dR g c u->sW g'.dj xs u:=by
 intro k
 have np:∀(s:St) (xs:List Int) (s':St),(AM.ret ([]:List Int)).run s=J (xs,s')->
   s'.env=s.env/\(∀i g cs,look s'.hp i=J (.box g cs)->look s.hp i=J (.box g cs))/\
   ∀B g w,HRel B g s.hp w->∃g',Lk g g'/\HRel B g' s'.hp w/\∀u,dR g .np u->sW g'.dj xs u:=by
  intro s xs s' h;obtain⟨rfl,rfl⟩:=cX h;exact⟨rfl,λ_ _ _ h=>h,λB g w R=>⟨g,Lk.refl g,R,λu hc=>hc⟩⟩
 have v:∀(x:List Int) (s:St) (xs:List Int) (s':St),(AM.ret x).run s=J (xs,s')->
   s'.env=s.env/\(∀i g cs,look s'.hp i=J (.box g cs)->look s.hp i=J (.box g cs))/\
   ∀B g w,HRel B g s.hp w->∃g',Lk g g'/\HRel B g' s'.hp w/\∀u,dR g (.v .cl x) u->sW g'.dj xs u:=by
  intro x s xs s' h;obtain⟨rfl,rfl⟩:=cX h;exact⟨rfl,λ_ _ _ h=>h,λB g w R=>⟨g,Lk.refl g,R,λu hc=>by obtain⟨_,u',e,hx⟩:=hc;simp_all⟩⟩
 induction k with
 |zero=>
  intro c s xs s' h
  cases c with
  |v τ x=>cases τ<;>first|exact v _ _ _ _ h|exact nomatch h
  |np=>exact np _ _ _ h
  |nf=>exact nomatch h
  |nil=>exact nomatch h
  |own _ _=>exact nomatch h
  |ptr _ _ off=>cases off<;>exact nomatch h
  |fn _ _=>exact nomatch h
  |err _=>exact nomatch h
 |succ k ih=>
  intro c s xs s' h
  cases c with
  |v τ x=>cases τ<;>first|exact v _ _ _ _ h|exact nomatch h
  |np=>exact np _ _ _ h
  |nf=>exact nomatch h
  |nil=>exact nomatch h
  |own _ _=>exact nomatch h
  |fn _ _=>exact nomatch h
  |err _=>exact nomatch h
  |ptr id gen off=>
   cases off with
   |succ n=>exact nomatch h
   |zero=>
    simp only[SE,AM.run]at h;split at h
    ·rename_i g0 x c heq;obtain⟨hb,h'⟩:=dQ h;clear h;simp only[aA]at hb;obtain rfl:=beq_eq hb.1;have hid:id<nv:=aP hb.2;obtain⟨ys,t,h1,h2⟩:=AM.cV h';clear h';obtain⟨he,ar8,hs⟩:=ih _ _ _ _ h1;simp only[AM.run]at h2;split at h2
     ·rename_i g1 cs1 aq7;have e1:=(ar8 _ _ _ aq7).symm.trans heq
      injection e1 with e1
      injection e1 with ea eb
      subst ea;subst eb;obtain⟨rfl,rfl⟩:=h2;refine⟨he,λi g cs hi=> ?_,λB g w R=> ?_⟩
      ·by_cases ei:id=i
       ·subst ei;simp[du]at hi
       ·rw[de _ _ ei]at hi;exact ar8 _ _ _ hi
      ·have ht:=jm R heq;obtain⟨b',o',arr,ty,L,k1,k2,k3,k4,k5,k6,k7⟩:=R.gE _ _ heq;obtain⟨u1,r1,e1,qf,u2,r2,e2,AL,e3⟩:=k4;subst e3;subst e2;subst e1;obtain⟨g2,l1,R1,XM⟩:=hs B g w R;obtain⟨rfl,hlen,_⟩:=k7;have aA7:g2.cv id g1= .pointer (J ⟨b',0,ay⟩):=(l1.le.cv _ _ ht).trans k1;obtain⟨g3,l2,R2⟩:=R1.OR aq7 hid aA7 k3 (by rw[k5];simp) (XM u2 AL);refine⟨g3,l1.trans l2,R2,λu hc=> ?_⟩;obtain⟨_,b,o,nE,hu⟩:=hc;have hP:sW _ _ _:=R2.gE _ _ (du _ _ _);have aI7:g3.cv id g1=g.cv id g1:=(l1.trans l2).le.cv _ _ ht;rw[aI7,nE]at hP;subst hu;exact hP
     ·exact nomatch h2
    ·rename_i g0 ys heq;obtain⟨hb,h'⟩:=dQ h;clear h;obtain rfl:=beq_eq hb;obtain⟨rfl,rfl⟩:=cX h';refine⟨rfl,λ_ _ _ h=>h,λB g w R=>⟨g,Lk.refl g,R,λu hc=> ?_⟩⟩;obtain⟨ht,b,o,nE,hu⟩:=hc;have XM:sW _ _ _:=R.gE _ _ heq;rw[nE]at XM;subst hu;exact XM
    ·exact nomatch h
theorem EM (τ:Ty)(c:Cell)(s:St)(x:τ.den)(s':St)(h:(datum τ c).run s=J (x,s')):
  s'.env=s.env/\∀B g w,HRel B g s.hp w->∃g',Lk g g'/\HRel B g' s'.hp w/\∀u,dR g c u->τ.one=av/\Rc g'.dj τ x [u]:=by
 cases τ with
 |int k=>
  cases c with
  |v τ' x'=>
   cases τ' with
   |int k'=> ?_
   |_=>exact nomatch h
   simp[datum]at h;split at h
   ·rename_i e;subst e;obtain⟨rfl,rfl⟩:=cX h;exact⟨rfl,λB g w R=>⟨g,Lk.refl g,R,λu hc=>hc⟩⟩
   ·exact nomatch h
  |_=>exact nomatch h
 |bool=>
  cases c with
  |v τ' x'=>
   cases τ' with
   |bool=> ?_
   |_=>exact nomatch h
   obtain⟨rfl,rfl⟩:=cX h;exact⟨rfl,λB g w R=>⟨g,Lk.refl g,R,λu hc=>hc⟩⟩
  |_=>exact nomatch h
 |str=>
  cases c with
  |v τ' x'=>
   cases τ' with
   |str=> ?_
   |_=>exact nomatch h
   obtain⟨rfl,rfl⟩:=cX h;exact⟨rfl,λB g w R=>⟨g,Lk.refl g,R,λu hc=>hc⟩⟩
  |_=>exact nomatch h
 |un=>cases c<;>exact nomatch h
 |pr a b=>cases c<;>exact nomatch h
 |cl=>
  obtain⟨he,_,hs⟩:=OT 4 c s x s' h;refine⟨he,λB g w R=> ?_⟩;obtain⟨g',l,R',hc⟩:=hs B g w R;exact⟨g',l,R',λu hu=>⟨rfl,u,rfl,hc u hu⟩⟩
 |sl e=>
  cases c with
  |v τ' x'=>
   cases τ' with
   |sl e'=> ?_
   |_=>exact nomatch h
   obtain⟨ee,hx,rfl⟩:=lZ h;subst ee;subst hx;exact⟨rfl,λB g w R=>⟨g,Lk.refl g,R,λu hc=>hc⟩⟩
  |nil=>
   obtain⟨rfl,rfl⟩:=cX h;exact⟨rfl,λB g w R=>⟨g,Lk.refl g,R,λu hc=>⟨rfl,ay,0,by have hc:_=_:=hc;simp_all,aC _, .inl rfl⟩⟩⟩
  |own id gen=>
   simp only[datum,AM.run]at h;split at h
   ·rename_i g0 τ' deep xs heq;obtain⟨hb,h'⟩:=dQ h;obtain rfl:=beq_eq hb;obtain⟨ee,hx,rfl⟩:=lZ h';subst ee;subst hx;refine⟨rfl,λB g w R=> ?_⟩;obtain⟨g',l,R'⟩:=R.HS heq;refine⟨g',l,R',λu hc=>⟨rfl, ?_⟩⟩;have hP:Rc _ _ _ _:=R'.gE _ _ (du _ _ _);rw[show g'.cv id g0=g.cv id g0 from l.le.cv _ _ (jm R heq)]at hP;rw[hc.2.1];omega
   ·rename_i g0 τ' xs heq;obtain⟨hb,h'⟩:=dQ h;clear h;obtain rfl:=beq_eq hb;obtain⟨ee,hx,rfl⟩:=lZ h';subst ee;subst hx;refine⟨rfl,λB g w R=>⟨g,Lk.refl g,R,λu hc=>⟨rfl, ?_⟩⟩⟩;have hP:Rc _ _ _ _:=R.gE _ _ heq;rw[hc.2.1];exact hP
   ·exact nomatch h
  |ptr _ _ _=>exact nomatch h
  |np=>exact nomatch h
  |nf=>exact nomatch h
  |fn _ _=>exact nomatch h
  |err _=>exact nomatch h
theorem MC (τ:Ty)(c:Cell)(s:St)(x:τ.den)(s':St)(h:(NP τ c).run s=J (x,s')):
  s'.env=s.env/\∀B g w,HRel B g s.hp w->∃g',Lk g g'/\HRel B g' s'.hp w/\∀u,dR g c u->∃nb,Lin g'.gA τ x [u] nb/\nb.Nodup/\∀b∈nb,g'.fL b=J 0/\g.fL b≠J 0:=by
 have none_:∀{g:Gh} {b:Nat},b∈([]:List Nat)->g.fL b=J 0/\g.fL b≠J 0:=λh=>by grind
 cases τ with
 |int k=>
  cases c with
  |v τ' x'=>
   cases τ' with
   |int k'=> ?_
   |_=>exact nomatch h
   simp[NP]at h;split at h
   ·rename_i e;subst e;obtain⟨rfl,rfl⟩:=cX h;exact⟨rfl,λB g w R=>⟨g,Lk.refl g,R,λu hc=>⟨[],⟨hc.2,rfl⟩,bf,λb h=>none_ h⟩⟩⟩
   ·exact nomatch h
  |_=>exact nomatch h
 |bool=>
  cases c with
  |v τ' x'=>
   cases τ' with
   |bool=> ?_
   |_=>exact nomatch h
   obtain⟨rfl,rfl⟩:=cX h;exact⟨rfl,λB g w R=>⟨g,Lk.refl g,R,λu hc=>⟨[],⟨hc.2,rfl⟩,bf,λb h=>none_ h⟩⟩⟩
  |_=>exact nomatch h
 |str=>
  cases c with
  |v τ' x'=>
   cases τ' with
   |str=> ?_
   |_=>exact nomatch h
   obtain⟨rfl,rfl⟩:=cX h;exact⟨rfl,λB g w R=>⟨g,Lk.refl g,R,λu hc=>⟨[],⟨hc.2,rfl⟩,bf,λb h=>none_ h⟩⟩⟩
  |_=>exact nomatch h
 |un=>cases c<;>exact nomatch h
 |pr a b=>cases c<;>exact nomatch h
 |cl=>cases c<;>exact nomatch h
 |sl e=>
  cases c with
  |v τ' x'=>cases τ'<;>exact nomatch h
  |nil=>
   obtain⟨hb,h'⟩:=dQ h;obtain⟨rfl,rfl⟩:=cX h';exact⟨rfl,λB g w R=>⟨g,Lk.refl g,R,λu hc=>⟨[],⟨hb, .inl ⟨by subst hc;rfl,rfl,rfl⟩⟩,bf,λb h=>none_ h⟩⟩⟩
  |own id gen=>
   simp only[NP,AM.run]at h;split at h
   ·rename_i g0 τ' deep xs heq;obtain⟨hb,h'⟩:=dQ h;simp only[aA]at hb;obtain rfl:=beq_eq hb.1;obtain⟨ee,hx,rfl⟩:=lZ h';subst ee;subst hx;refine⟨rfl,λB g w R=> ?_⟩;obtain⟨g',nb,l,R',hL,hn,hl⟩:=R.Xg heq hb.2;exact⟨g',l,R',λu hc=>⟨nb,by rw[hc.2.1];exact hL,hn,hl⟩⟩
   ·exact nomatch h
  |ptr _ _ _=>exact nomatch h
  |np=>exact nomatch h
  |nf=>exact nomatch h
  |fn _ _=>exact nomatch h
  |err _=>exact nomatch h
def Got (g:Gh)(mv:Bool)(τ:Ty)(x:τ.den)(us:List Value)(nb:List Nat):Prop:=
 if mv then Lin g.gA τ x us nb/\nb.Nodup/\∀b∈nb,g.fL b=J 0 else Rc g.dj τ x us/\nb=[]
theorem Got.len {g:Gh}{mv:Bool}{τ:Ty}{x:τ.den}{us:List Value}{nb:List Nat}(h:Got g mv τ x us nb):us.length=τ.size:=by
 unfold Got at h;split at h
 ·exact h.1.rc.length
 ·exact h.1.length
theorem Got.mono {g g':Gh}(l:Lk g g'){mv:Bool}{τ:Ty}{x:τ.den}{us:List Value}{nb:List Nat}(h:Got g mv τ x us nb):Got g' mv τ x us nb:=by
 unfold Got at h⊢;split
 ·rename_i e;rw[ak e]at h;exact⟨h.1.mono (λb hb L hL=>by rw[(l.kp b (h.2.2 b hb)).2];omega),h.2.1,λb hb=>(l.kp b (h.2.2 b hb)).1⟩
 ·rename_i e;rw[aj e]at h;exact⟨h.1.mono l.le.dj,h.2⟩
theorem Td {mv:Bool}{τ:Ty}(h1:τ.one=av)(cells:List Cell):pack mv τ cells=match cells with
  |c::cs=>(bif mv then NP τ c else datum τ c).bind λx=> .ret (x,cs)
  |[]=> .fail:=by
 cases τ<;>first|(simp[Ty.one]at h1;done)|(cases cells<;>rfl)
theorem GV (mv:Bool):∀(τ:Ty) (cells:List Cell) (s:St) (x:τ.den) (rest:List Cell) (s':St),(pack mv τ cells).run s=J ((x,rest),s')->
  s'.env=s.env/\∀B g w,HRel B g s.hp w->∃g',Lk g g'/\HRel B g' s'.hp w/\∀us,dr g cells us->
   ∃Rm VP nb,us=Rm++VP/\Got g' mv τ x Rm nb/\dr g' rest VP/\∀b∈nb,g.fL b≠J 0:=by
 have single:∀(τ:Ty),τ.one=av->∀(cells:List Cell) (s:St) (x:τ.den) (rest:List Cell) (s':St),(pack mv τ cells).run s=J ((x,rest),s')->
  s'.env=s.env/\∀B g w,HRel B g s.hp w->∃g',Lk g g'/\HRel B g' s'.hp w/\∀us,dr g cells us->
   ∃Rm VP nb,us=Rm++VP/\Got g' mv τ x Rm nb/\dr g' rest VP/\∀b∈nb,g.fL b≠J 0:=by
  intro τ h1 cells s x rest s' h;rw[Td h1]at h
  cases cells with
  |nil=>exact nomatch h
  |cons c cs=>
   obtain⟨y,t,h2,h3⟩:=AM.cV h;obtain⟨h4,rfl⟩:=cX h3
   injection h4 with h4 h5
   subst h4;subst h5
   cases mv with
   |true=>
    obtain⟨he,hs⟩:=MC τ c s _ _ h2;refine⟨he,λB g w R=> ?_⟩;obtain⟨g',l,R',hc⟩:=hs B g w R;refine⟨g',l,R',λus hu=> ?_⟩;obtain⟨u,r,rfl,qf,hr⟩:=hu;obtain⟨nb,a1,a2,a3⟩:=hc u qf;exact⟨[u],r,nb,rfl,⟨a1,a2,λb hb=>(a3 b hb).1⟩,hr.mono l.le,λb hb=>(a3 b hb).2⟩
   |false=>
    obtain⟨he,hs⟩:=EM τ c s _ _ h2;refine⟨he,λB g w R=> ?_⟩;obtain⟨g',l,R',hc⟩:=hs B g w R;refine⟨g',l,R',λus hu=> ?_⟩;obtain⟨u,r,rfl,qf,hr⟩:=hu;exact⟨[u],r,[],rfl,⟨(hc u qf).2,rfl⟩,hr.mono l.le,λb hb=>by simp_all⟩
 intro τ
 induction τ with
 |int k=>exact single _ rfl
 |bool=>exact single _ rfl
 |str=>exact single _ rfl
 |sl e _=>exact single _ rfl
 |cl=>exact single _ rfl
 |un=>
  intro cells s x rest s' h;obtain⟨h1,rfl⟩:=cX h
  injection h1 with h1 h2
  subst h2;refine⟨rfl,λB g w R=>⟨g,Lk.refl g,R,λus hu=>⟨[],us,[],rfl, ?_,hu,λb hb=>by simp at hb⟩⟩⟩;unfold Got;split
  ·exact⟨⟨rfl,rfl⟩,bf,λb hb=>by simp at hb⟩
  ·exact⟨rfl,rfl⟩
 |pr a b Dt Dr=>
  intro cells s x rest s' h;obtain⟨p,t,h1,h2⟩:=AM.cV h;obtain⟨q,t2,h3,h4⟩:=AM.cV h2;obtain⟨h5,rfl⟩:=cX h4
  injection h5 with h5 h6
  subst h5;subst h6;obtain⟨e1,k1⟩:=Dt _ _ _ _ _ h1;obtain⟨e2,k2⟩:=Dr _ _ _ _ _ h3;refine⟨e2.trans e1,λB g w R=> ?_⟩;obtain⟨g1,l1,R1,c1⟩:=k1 B g w R;obtain⟨g2,l2,R2,c2⟩:=k2 B g1 w R1;refine⟨g2,l1.trans l2,R2,λus hu=> ?_⟩;obtain⟨ua,ub,na,rfl,ga,ra,fa⟩:=c1 us hu;obtain⟨uc,ud,nc,rfl,gc,rc,fc⟩:=c2 ub ra;refine⟨ua++uc,ud,na++nc,by simp, ?_,rc, ?_⟩
  ·have an4:=ga.mono l2
   cases mv with
   |true=>
    refine⟨⟨ua,uc,na,nc,rfl,rfl,an4.1,gc.1⟩, ?_,λb hb=> ?_⟩
    ·rw[bC];refine⟨an4.2.1,gc.2.1,λx hx y hy e=> ?_⟩;subst e;exact fc x hy (ga.2.2 x hx)
    ·rcases aL.1 hb with hb|hb
     ·exact an4.2.2 b hb
     ·exact gc.2.2 b hb
   |false=>
    exact⟨⟨ua,uc,rfl,an4.1,gc.1⟩,by rw[an4.2,gc.2];rfl⟩
  ·intro b hb
   rcases aL.1 hb with hb|hb
   ·exact fa b hb
   ·intro e;exact fc b hb (l1.kp b e).1
theorem oC {g:Gh}:∀{τ:Ty} {x:τ.den} {us:List Value},Rc g.dj τ x us->dr g (unpack τ x) us
 | .int _,_,_,h=>by have h':_=_:=h;subst h';exact⟨_,_,rfl,⟨rfl,h⟩,rfl⟩
 | .bool,_,_,h=>by have h':_=_:=h;subst h';exact⟨_,_,rfl,⟨rfl,h⟩,rfl⟩
 | .str,_,_,h=>by obtain⟨s,e,_⟩:=id h;subst e;exact⟨_,_,rfl,⟨rfl,h⟩,rfl⟩
 | .un,_,_,h=>h
 | .pr _ _,_,_,⟨c1,c2,e,h1,h2⟩=>by subst e;exact(oC h1).append (oC h2)
 | .sl _,_,_,h=>by obtain⟨A,c,e,_⟩:=id h;subst e;exact⟨_,_,rfl,⟨rfl,h⟩,rfl⟩
 | .cl,_,_,h=>by obtain⟨u,e,_⟩:=id h;subst e;exact⟨_,_,rfl,⟨rfl,h⟩,rfl⟩
end Go.Abs
end

section
namespace Go.Abs
open Classical in
noncomputable def Gh.inst (g:Gh)(id gen b:Nat)(u:Value)(nb:List Nat)(out:List Value):Gh:=
  { g with top := fun i => if i = id then gen + 1 else g.top i
           cv:=λi k=>if i=id/\k=gen then u else g.cv i k
           fL:=λx=>if x=b\/x∈nb then J (id+1)else g.fL x
           outer:=λi=>if i=id then out else g.outer i}
structure Free (g:Gh)(hp:List (Nat×Obj))(w:World)(b:Nat):Prop where
 obj:∀i,g.fL b=J (i+1)->∀o,look hp i=J o->∃gen,o= .dead gen
 Xg:g.fL b≠J 0
 dj:g.dj b=ay
 gA:g.gA b=ay
 new:g.fL b=ay->w.heap.size<=b
structure Turned (w w':World)(b:Nat):Prop where
 other:∀x,x≠b->w'.heap[x]?=w.heap[x]?
 size:w.heap.size<=w'.heap.size
 lt:b<w'.heap.size
 os:w'.os=w.os
 tape:w'.tape=w.tape
 output:w'.output=w.output
theorem HRel.FY {B:Base}{g:Gh}{hp:List (Nat×Obj)}{w:World}(_R:HRel B g hp w){id gen b:Nat}{u:Value}{nb:List Nat}{out:List Value}
  (hg:gen=g.top id):Le g (g.inst id gen b u nb out):=by
 refine⟨λ_ _ h=>h,λi=> ?_,λi k hk=> ?_⟩
 ·show g.top i<=if i=id then gen+1 else g.top i
  grind
 ·show(if i=id/\k=gen then u else g.cv i k)=g.cv i k
  grind
theorem HRel.install {B:Base}{g:Gh}{hp:List (Nat×Obj)}{w w':World}(R:HRel B g hp w){id gen b:Nat}{u:Value}{nb:List Nat}{out:List Value}{o':Obj}
  (hg:gen=g.top id) (hf:Free g hp w b) (hw:Turned w w' b) (Be:∀x∈nb,g.fL x=J 0) (FN:o'.gen=gen)
  (Vc:pg (g.inst id gen b u nb out) w' id o'):HRel B (g.inst id gen b u nb out) ((id,o')::hp) w':=by
 have hle:=R.FY (b:=b) (u:=u) (nb:=nb) (out:=out) hg;refine⟨λi=> ?_,λi oi hi=> ?_,λx L hx=> ?_,λx L hx=> ?_,λx hx=> ?_,R.kH,λx hx hl hi=> ?_,bX R.size hw.size,hw.os.trans R.os,hw.tape.trans R.tape,hw.output.trans R.output,λx L hx=> ?_⟩
 ·show(if i=id then gen+1 else g.top i)=_
  by_cases e:id=i
  ·subst e;rw[du,ak rfl];simp_all
  ·rw[de _ _ e,aj (λh=>e h.symm)];exact R.top i
 ·by_cases e:id=i
  ·simp_all[du]
  ·rw[de _ _ e]at hi
   have kI:oi.gen<g.top i:=by rw[R.top i,hi];simp
   by_cases hb:g.fL b=J (i+1)
   ·obtain⟨gn,rfl⟩:=hf.obj i hb oi hi
    trivial
   ·refine(R.gE i oi hi).tr hle (λx hx=> ?_) (by simp only[Gh.inst];grind) kI
    have zG:x≠b:=λe'=>by simp_all
    have Ai:x∉nb:=λhm=>by simp_all
    exact⟨by simp_all[Gh.inst],rfl,hw.other x zG⟩
 ·have hy:g.dj x=J L:=hx;obtain⟨a1,a2,arr,ty,fr,a3,a4⟩:=R.dj x L hy
  have zG:x≠b:=λe=>by rw[e,hf.dj]at hy;grind
  have Ai:x∉nb:=λhm=>by simp_all
  exact⟨by simp_all[Gh.inst],a2,arr,ty,fr,(hw.other x zG).trans a3,a4⟩
 ·have hy:g.gA x=J L:=hx;obtain⟨a1,arr,ty,a3,a4⟩:=R.gA x L hy
  have zG:x≠b:=λe=>by rw[e,hf.gA]at hy;grind
  refine⟨?_,arr,ty,(hw.other x zG).trans a3,a4⟩
  grind [Gh.inst]
 ·by_cases zG:x=b
  ·subst zG;exact hw.lt
  ·by_cases Ai:x∈nb
   ·exact aR (R.gD x (by simp_all)) hw.size
   ·have VC:g.fL x≠none:=by simp_all[Gh.inst]
    exact aR (R.gD x VC) hw.size
 ·obtain⟨f1,f2,f3⟩:=R.frame x hx hl hi
  have zG:x≠b:=λe=>by
   subst e;have:=hf.new f1;simp_all
  have Ai:x∉nb:=λhm=>by simp_all
  exact⟨by simp_all[Gh.inst],f2,(hw.other x zG).trans f3⟩
 ·have zG:x≠b:=λe=>by
   have:=R.kH x L hx;rw[e,hf.dj]at this;grind
  exact(hw.other x zG).trans (R.fix x L hx)
theorem HRel.sw {B:Base}{g:Gh}{hp:List (Nat×Obj)}{w:World}(R:HRel B g hp w):Free g hp w w.heap.size:=by
 have hl:g.fL w.heap.size=none:=by
  cases h:g.fL w.heap.size with
  |none=>rfl
  |some x=>exact absurd (R.gD _ (by simp_all)) (Nat.lt_irrefl _)
 refine⟨λi h=>absurd (hl.symm.trans h) (by simp),by simp_all, ?_, ?_,λ_=>aC _⟩
 ·cases h:g.dj w.heap.size with
  |none=>rfl
  |some L=>
   obtain⟨_,_,arr,ty,fr,h3,_⟩:=R.dj _ _ h;simp_all
 ·cases h:g.gA w.heap.size with
  |none=>rfl
  |some L=>
   obtain⟨_,arr,ty,h3,_⟩:=R.gA _ _ h;simp_all
open Classical in
theorem HRel.Zn {B:Base}{g:Gh}{hp:List (Nat×Obj)}{w w':World}(R:HRel B g hp w)(hw:Turned w w' w.heap.size){arr:Array Value}{ty:TypeId}{fr:Nat×Nat}(hb:w'.heap[w.heap.size]?=J (.cells arr ty fr)):
  ∃g',Le g g'/\g'.dj w.heap.size=J arr.toList/\HRel B g' hp w':=by
 have hf:=R.sw
 have hl:g.fL w.heap.size=none:=by
  cases h:g.fL w.heap.size with
  |none=>rfl
  |some x=>exact absurd (R.gD _ (by simp_all)) (Nat.lt_irrefl _)
 let g':Gh:={g with dj:=λb=>if b=w.heap.size then J arr.toList else g.dj b}
 have hle:Le g g':=⟨λb L h=>by
  have:b≠w.heap.size:=λe=>by rw[e,hf.dj]at h;cases h
  grind,λ_=>aC _,λ_ _ _=>rfl⟩
 refine⟨g',hle,by grind,⟨R.top,λi o hi=> ?_,λb L h=> ?_,λb L h=> ?_,λb h=>aR (R.gD b h) hw.size,λb L h=>hle.dj _ _ (R.kH b L h),λb h1 h2 h3=> ?_,bX R.size hw.size,hw.os.trans R.os,hw.tape.trans R.tape,hw.output.trans R.output,λb L h=> ?_⟩⟩
 ·refine(R.gE i o hi).tr hle (λx hx=>⟨hx,rfl,hw.other x λe=> ?_⟩) rfl (by rw[R.top i,hi];simp);simp_all
 ·by_cases e:b=w.heap.size
  ·subst e;have h:(if w.heap.size=w.heap.size then J arr.toList else g.dj w.heap.size)=J L:=h;rw[ak rfl]at h
   injection h with h
   exact⟨hl,hf.gA,arr,ty,fr,hb,h⟩
  ·have h:g.dj b=J L:=by grind
   obtain⟨a1,a2,oa,Ds,aW3,a3,a4⟩:=R.dj b L h;exact⟨a1,a2,oa,Ds,aW3,(hw.other b e).trans a3,a4⟩
 ·obtain⟨a1,oa,Ds,a3,a4⟩:=R.gA b L h
  have e:b≠w.heap.size:=λe=>by simp_all
  exact⟨a1,oa,Ds,(hw.other b e).trans a3,a4⟩
 ·obtain⟨f1,f2,f3⟩:=R.frame b h1 h2 h3
  have e:b≠w.heap.size:=λe=>by simp_all
  exact⟨f1,by grind,(hw.other b e).trans f3⟩
 ·have h':=R.kH b L h
  have e:b≠w.heap.size:=λe=>by rw[e,hf.dj]at h';grind
  exact(hw.other b e).trans (R.fix b L h)
def World.more (w:World)(o:Go.Obj):World:={w with heap:=w.heap.push o}
theorem xq (w:World)(o:Go.Obj):Turned w (World.more w o) w.heap.size:=by
 refine⟨λx hx=> ?_,by simp[World.more],by simp[World.more],rfl,rfl,rfl⟩;simp only[World.more,a29];rw[aj hx]
theorem C3 (w:World)(o:Go.Obj):(World.more w o).heap[w.heap.size]?=J o:=by
 show(w.heap.push _)[w.heap.size]?=_;simp
theorem lT {B:Base}{g:Gh}{s s':St}{w:World}{id gen:Nat}(R:HRel B g s.hp w)(h:(jv id).run s=J (gen,s')):gen=g.top id/\s'=s:=by
 simp only[jv,AM.run]at h;rw[R.top id]
 cases hl:look s.hp id with
 |none=>rw[hl]at h;obtain⟨rfl,rfl⟩:=cX h;simp
 |some o=>rw[hl]at h;cases o<;>first|(obtain⟨rfl,rfl⟩:=cX h;simp)|cases h
theorem qa {s s':St}{id gen:Nat}(h:(jv id).run s=J (gen,s')):s'=s/\∀gn cs,look s.hp id≠J (.j1 gn cs):=by
 simp only[jv,AM.run]at h
 cases hl:look s.hp id with
 |none=>rw[hl]at h;obtain⟨rfl,rfl⟩:=cX h;simp
 |some o=>rw[hl]at h;cases o<;>first|(obtain⟨rfl,rfl⟩:=cX h;simp)|cases h
end Go.Abs
end

section
namespace Go.Abs
theorem A0 {u:Value}{c:Cell}(h:D8 u=J c)(g:Gh):dR g c u:=by
 cases u with
 |int k n=>injection h with h;subst h;exact⟨rfl,rfl⟩
 |bool b=>injection h with h;subst h;exact⟨rfl,rfl⟩
 |string s=>injection h with h;subst h;exact⟨rfl,s,rfl,rfl⟩
 |slice a n m=>
  cases a with
  |none=>cases n<;>cases m<;>first|(injection h with h;subst h;rfl)|cases h
  |some a=>cases h
 |pointer a=>cases a<;>first|(injection h with h;subst h;rfl)|cases h
 |nilIface=>injection h with h;subst h;exact .inl ⟨rfl,rfl⟩
 |float k b=>cases h
 |complex k a b=>cases h
 |map r=>cases h
 |chan r=>cases h
 |func f a b=>cases h
 |nilFunc=>injection h with h;subst h;rfl
 |iface t v=>cases h
 |agg cs=>cases h
 |tuple vs=>cases h
theorem qq:∀{us:List Value} {cs:List Cell},uF us=J cs->∀g,dr g cs us
 |[],_,h,_=>by injection h with h;subst h;rfl
 |u::r,_,h,g=>by
  simp only[uF,bB,bj]at h;obtain⟨c,hc,cs,VB,rfl⟩:=h;exact⟨u,r,rfl,A0 hc g,qq VB g⟩
theorem CJ {u:Value}{v:Val}(h:zm u=J v)(g:Gh):gx g v u:=by
 cases u with
 |agg cs=>
  simp[zm]at h;obtain⟨Jg,h1,rfl⟩:=h;exact⟨cs.toList,by simp,qq h1 g⟩
 |_=>
  simp[zm]at h;obtain⟨c,h1,rfl⟩:=h;exact A0 h1 g
theorem qz {x:Operand}{s s':St}{sl:Slot}(h:(ev x).run s=J (sl,s')):s'=s/\∀{g:Gh} {a:Act},iM g s.env a->fG g sl (a.eval x):=by
 cases x with
 |tmp t=>
  simp only[ev,AM.run]at h;split at h
  ·rename_i y hy;obtain⟨rfl,rfl⟩:=h;exact⟨rfl,λV=>V t _ hy⟩
  simp_all
 |const u=>
  simp[ev]at h;split at h
  ·rename_i c hc;obtain⟨rfl,rfl⟩:=cX h;exact⟨rfl,λ_=>CJ hc _⟩
  ·cases h
 |global k=>obtain⟨rfl,rfl⟩:=cX h;exact⟨rfl,λ_=>rfl⟩
 |func f=>obtain⟨rfl,rfl⟩:=cX h;exact⟨rfl,λ_=>⟨[],rfl,rfl⟩⟩
theorem vB {sl:Slot}{v:Val}{s s':St}(h:(NT sl).run s=J (v,s')):sl= .val v/\s'=s:=by
 cases sl<;>try(cases h;done)
 obtain⟨rfl,rfl⟩:=cX h;simp
theorem eZ {x:Operand}{s s':St}{v:Val}(h:(evV x).run s=J (v,s')):s'=s/\∀{g:Gh} {a:Act},iM g s.env a->gx g v (a.eval x):=by
 obtain⟨sl,t,h1,h2⟩:=AM.cV h;obtain⟨rfl,hs⟩:=qz h1;obtain⟨rfl,rfl⟩:=vB h2;exact⟨rfl,hs⟩
theorem oT:∀{xs:List Operand} {s s':St} {vs:List Val},(BV xs).run s=J (vs,s')->s'=s/\∀{g:Gh} {a:Act},iM g s.env a->gW g vs (xs.map a.eval)
 |[],_,_,_,h=>by obtain⟨rfl,rfl⟩:=cX h;exact⟨rfl,λ_=>rfl⟩
 |x::r,_,_,_,h=>by
  obtain⟨v,t,h1,h2⟩:=AM.cV h;obtain⟨vs,t2,h3,h4⟩:=AM.cV h2;obtain⟨rfl,rfl⟩:=cX h4;obtain⟨rfl,k1⟩:=eZ h1;obtain⟨rfl,k2⟩:=oT h3;exact⟨rfl,λV=>⟨_,_,rfl,k1 V,k2 V⟩⟩
theorem mM {v:Val}{n:Int}{s s':St}(h:(asInt v).run s=J (n,s')):(∃k,v= .one (.v (.int k) n))/\s'=s:=by
 cases v with
 |agg cs=>cases h
 |one c=>
  cases c<;>try(cases h;done)
  rename_i τ x
  cases τ<;>try(cases h;done)
  rename_i k;obtain⟨rfl,rfl⟩:=cX h;simp
theorem CH {v:Val}{b:Bool}{s s':St}(h:(asBool v).run s=J (b,s')):v= .one (.v .bool b)/\s'=s:=by
 cases v with
 |agg cs=>cases h
 |one c=>
  cases c<;>try(cases h;done)
  rename_i τ x
  cases τ<;>try(cases h;done)
  obtain⟨rfl,rfl⟩:=cX h;simp
theorem wM {v:Val}{c:Cell}{s s':St}(h:(one v).run s=J (c,s')):v= .one c/\s'=s:=by
 cases v with
 |agg cs=>cases h
 |one c'=>obtain⟨rfl,rfl⟩:=cX h;simp
theorem jt {g:Gh}{k:IntKind}{n:Int}{u:Value}(h:dR g (.v (.int k) n) u):u= .int k n:=by
 have h':_=_:=h.2;simp_all
theorem oD {g:Gh}{b:Bool}{u:Value}(h:dR g (.v .bool b) u):u= .bool b:=by
 have h':_=_:=h.2;simp_all
theorem qC {g:Gh}{l:List Int}{u:Value}(h:dR g (.v .str l) u):∃s,u= .string s/\l=bytesOf s:=by
 obtain⟨_,s,e,h⟩:=h;simp_all
theorem xF (g:Gh)(k:IntKind)(n:Int):fG g (wi k n) (.int k n):=⟨rfl,rfl⟩
theorem vX (g:Gh)(b:Bool):fG g (wb b) (.bool b):=⟨rfl,rfl⟩
theorem Pz (g:Gh)(s:ByteArray):fG g (ws (bytesOf s)) (.string s):=⟨rfl,s,rfl,rfl⟩
theorem iy (s:ByteArray):(bytesOf s).length=s.size:=by simp[bytesOf]
theorem A2:∀{a b:List UInt8},(a.map λb=>(b.toNat:Int))=b.map (λb=>(b.toNat:Int))->a=b
 |[],[],_=>rfl
 |[],_::_,h=>by grind
 |_::_,[],h=>by grind
 |x::a,y::b,h=>by
  simp at h;have e:x.toNat=y.toNat:=(by omega);rw[UInt8.toNat_inj.1 e,A2 h.2]
theorem Mk {a b:ByteArray}(h:bytesOf a=bytesOf b):a=b:=by
 have h2:a.data.toList=b.data.toList:=A2 h;cases a;simp_all
theorem Gm (a b:ByteArray):bytesOf (a++b)=bytesOf a++bytesOf b:=by
 simp_all[bytesOf,ByteArray.data_append]
theorem vN (a b:ByteArray):(a.toList==b.toList)=I (bytesOf a=bytesOf b):=by
 grind [ByteArray.toList_eq,bytesOf,Mk,aa]
theorem Qq (x y:Int):(x==y)=I (x=y):=by rfl
theorem Km {P:Program}{w:World}{op:BinOp}{t:TypeId}{x y:Operand}{k k':IntKind}{m n:Int}{s s':St}{sl:Slot}(h:(Pn op k k' m n).run s=J (sl,s')):
    s'=s/\∃v,((do eqGuard op t x y (.int k m) (.int k' n);a04 op t (.int k m) (.int k' n)):Sem Value).run P w= .ok v w/\∀g,fG g sl v:=by
  rw[eqGuard_at_int];cases op<;>simp only[Pn]at h
  case shr=>
    obtain⟨hb,h⟩:=nY h;obtain⟨rfl,rfl⟩:=cX h
    have h0:0<=n:=by simp_all
    refine⟨rfl, .int k (m.fdiv (2^min n.toNat k.bits)), ?_,λg=>xF g k _⟩;have:¬ n<0:=(by omega);simp[a04,Op.shift,this]
  case shl=>
    obtain⟨hb,h⟩:=nY h;obtain⟨rfl,rfl⟩:=cX h
    have h0:0<=n:=by simp_all
    refine⟨rfl, .int k (k.wrap (m*2^min n.toNat k.bits)), ?_,λg=>xF g k _⟩;have:¬ n<0:=(by omega);simp[a04,Op.shift,this]
  all_goals
    split at h
    case isFalse=>cases h
    case isTrue e=>
      subst e
      first
        | (obtain⟨rfl,rfl⟩:=cX h
           first
             | (refine⟨rfl,_, ?_,λg=>xF g k _⟩
                simp_all[a04,Op.intArith,Op.intBits,intBits])
             | (refine⟨rfl,_, ?_,λg=>vX g _⟩
                simp_all[a04,Op.intCmp,bne,Qq]))
        | (obtain⟨hb,h⟩:=nY h
           obtain⟨rfl,rfl⟩:=cX h
           have h0:¬ n=0:=by simp_all
           refine⟨rfl,_, ?_,λg=>xF g k _⟩
           simp[a04,Op.intDiv,h0])
        |cases h
theorem Kg {P:Program}{w:World}{op:BinOp}{t:TypeId}{x y:Operand}{a b:ByteArray}{s s':St}{sl:Slot}(h:(Lg op (bytesOf a) (bytesOf b)).run s=J (sl,s')):
  s'=s/\∃v,((do eqGuard op t x y (.string a) (.string b);a04 op t (.string a) (.string b)):Sem Value).run P w= .ok v w/\∀g,fG g sl v:=by
 rw[eqGuard_at_string]
 cases op<;>simp[Lg]at h<;>try(cases h;done)
 case add=>
  obtain⟨hb,h⟩:=nY h;obtain⟨rfl,rfl⟩:=cX h;have h0:(bytesOf a).length+(bytesOf b).length<=lim:=aP hb;rw[iy,iy]at h0;unfold lim at h0;refine⟨rfl, .string (a++b), ?_,λg=>by grind [Gm,Pz]⟩;have h1:¬ (((a.size+b.size:Nat):Int)>9223372036854775807):=(by omega);simp_all[a04,Op.stringOp,aj]
 case eql=>
  obtain⟨rfl,rfl⟩:=cX h;refine⟨rfl,_, ?_,λg=>vX g _⟩;simp_all[vN,a04,Op.stringOp]
 case neq=>
  obtain⟨rfl,rfl⟩:=cX h;refine⟨rfl,_, ?_,λg=>vX g _⟩;simp_all[vN,a04,Op.stringOp]
theorem tc {op:BinOp}{b:Bool}{s s':St}{sl:Slot}(h:(Em op b).run s=J (sl,s')):s'=s/\((op= .eql/\sl=wb b)\/(op= .neq/\sl=wb (!b))):=by
 cases op<;>simp[Em]at h<;>try(cases h;done)
 ·obtain⟨rfl,rfl⟩:=cX h;simp
 ·obtain⟨rfl,rfl⟩:=cX h;simp
theorem Lb {g:Gh}{xs:List Int}{u:Value}(h:dR g (.v .cl xs) u):(xs=[]/\u= .pointer ay)\/(xs≠[]/\∃b,u= .pointer (J ⟨b,0,ay⟩)):=by
 obtain⟨_,u',e,hx⟩:=h
 injection e with e
 subst e
 cases xs with
 |nil=>exact .inl ⟨rfl,hx⟩
 |cons y ys=>obtain⟨b,p,e,_⟩:=hx;simp_all
theorem NF {P:Program}{w:World}{t:TypeId}{cs:Array Value}{off:Nat}{u:Value}(hi:(∃k,P.underlying t=J (.int k))\/P.underlying t=J .bool\/P.underlying t=J .string)
  (hu:cs[off]?=J u):(part t cs off).run P w= .ok u w:=by
 have:(isAgg t).run P w= .ok ar w:=by
  rcases hi with⟨k,h⟩|h|h<;>simp[Go.isAgg,run_underlying h]
 simp_all[part]
theorem GG {P:Program}{w:World}{d:Nat}{g:Gh}:∀{fs:List Field} {n:Nat} {a b:List Cell} {us vs:List Value} {xs ys:Array Value} {r:Bool},
  oB P fs a n=av->mw a b=J r->dr g a us->dr g b vs->(∀i u,us[i]?=J u->xs[n+i]?=J u)->(∀i u,vs[i]?=J u->ys[n+i]?=J u)->
  (Op.eqFields (d+1) xs ys fs).run P w= .ok r w:=by
 intro fs
 induction fs with
 |nil=>
  intro n a b us vs xs ys r hp he hu hv hx hy
  cases a with
  |cons c cs=>simp[oB]at hp
  |nil=>cases b with
   |nil=>simp[mw]at he;subst he;rfl
   |cons c cs=>grind [mw]
 |cons f fs ih=>
  intro n a b us vs xs ys r hp he hu hv hx hy
  cases a with
  |nil=>simp[oB]at hp
  |cons c a=>
  cases c with
  |v τ x=> ?_
  |_=>simp[oB]at hp
  simp only[oB,aA]at hp;obtain⟨⟨⟨h1,h2⟩,h3⟩,h4⟩:=hp;have ho:f.offset=n:=beq_eq h1
  have hn:f.name≠ "_" :=by simp_all
  obtain⟨u,OA,rfl,qf,AL⟩:=hu
  cases b with
  |nil=>simp_all[mw]
  |cons c' b=>
  obtain⟨v,av6,rfl,ac8,aA9⟩:=hv
  have key:∀(q:Bool),((∃k,P.underlying f.type=J (.int k))\/P.underlying f.type=J .bool\/P.underlying f.type=J .string)->
    (a42 (d+1) f.type u v).run P w= .ok q w->∀r',mw a b=J r'->r=(q&&r')->(Op.eqFields (d+1) xs ys (f::fs)).run P w= .ok r w:=by
   intro q ht hq r' SK e;have e1:(part f.type xs f.offset).run P w= .ok u w:=NF ht (by rw[ho];exact hx 0 u rfl);have e2:(part f.type ys f.offset).run P w= .ok v w:=NF ht (by rw[ho];exact hy 0 v rfl);have aX6:=ih (xs:=xs) (ys:=ys) h4 SK AL aA9 (λi u hi=>by have:=hx (i+1) u (by simpa using hi);rwa[show n+(i+1)=n+1+i from by omega]at this) (λi u hi=>by have:=hy (i+1) u (by simpa using hi);rwa[show n+(i+1)=n+1+i from by omega]at this);unfold Op.eqFields;rw[ak hn];simp[e1,e2,hq];subst e
   cases q with
   |false=>simp
   |true=>simpa using aX6
  cases c' with
  |v τ' x'=> ?_
  |_=>cases τ<;>simp[mw]at he
  split at h3
  ·rename_i k0 k1 hk
   cases τ'<;>try(simp[mw]at he;done)
   rename_i k2;simp only[mw]at he;split at he
   case isFalse=>cases he
   rename_i ek;subst ek;simp only[bj]at he;obtain⟨r',SK,e⟩:=he;have P9:=jt qf;have ab5:=jt ac8;subst P9;subst ab5;exact key _ (.inl ⟨_,hk⟩) (run_equalIn_int w d f.type _ _ _ _ hk) r' SK (by rw[<-e,Qq])
  ·rename_i hk
   cases τ'<;>try(simp[mw]at he;done)
   simp only[mw,bj]at he;obtain⟨r',SK,e⟩:=he;have P9:=oD qf;have ab5:=oD ac8;subst P9;subst ab5;exact key _ (.inr (.inl hk)) (run_equalIn_bool' w d f.type _ _ hk) r' SK (by rw[<-e];congr 1)
  ·rename_i hk
   cases τ'<;>try(simp[mw]at he;done)
   simp only[mw,bj]at he;obtain⟨r',SK,e⟩:=he;obtain⟨su,P9,ru⟩:=qC qf;obtain⟨sv,ab5,rv⟩:=qC ac8;subst P9;subst ab5;exact key _ (.inr (.inr hk)) (run_equalIn_string w d f.type _ _ hk) r' SK (by rw[<-e,vN,ru,rv])
  simp_all
theorem Mj {E:Env}{op:BinOp}{t:TypeId}{x y:Operand}{va vb:Val}{s s':St}{sl:Slot}(h:(binOp E op t va vb).run s=J (sl,s')):
  s'=s/\∀{g:Gh} {u1 u2:Value} {w:World},gx g va u1->gx g vb u2->∃v,((do eqGuard op t x y u1 u2;a04 op t u1 u2):Sem Value).run E.P w= .ok v w/\fG g sl v:=by
 unfold binOp at h;split at h
 ·rename_i k m k' n
  have hs:=λw=>Km (P:=E.P) (w:=w) (t:=t) (x:=x) (y:=y) h
  refine⟨(hs default).1,λ{g u1 u2 w} r1 r2=> ?_⟩;have e1:=jt r1;have e2:=jt r2;subst e1;subst e2;obtain⟨v,hv,hr⟩:=(hs w).2;simp_all
 ·rename_i l m
  have hs:s'=s:=by
   cases op<;>simp[Lg]at h<;>try(cases h;done)
   ·exact(cX (nY h).2).2
   all_goals grind [cX]
  refine⟨hs,λ{g u1 u2 w} r1 r2=> ?_⟩;obtain⟨s1,e1,l1⟩:=qC r1;obtain⟨s2,e2,l2⟩:=qC r2;subst e1;subst e2;subst l1;subst l2;obtain⟨_,v,hv,hr⟩:=Kg (P:=E.P) (w:=w) (t:=t) (x:=x) (y:=y) h;simp_all
 ·rename_i b c;split at h
  ·rename_i ht;obtain⟨rfl,he⟩:=tc h;refine⟨rfl,λ{g u1 u2 w} r1 r2=> ?_⟩;have e1:=oD r1;have e2:=oD r2;subst e1;subst e2;rw[eqGuard_at_bool];have e0:(b==c)=I (b=c):=(by rfl)
   rcases he with⟨rfl,rfl⟩|⟨rfl,rfl⟩
   all_goals simp_all[vX,run_equalIn_bool',a04,Op.equal,Op.maxDepth]
  ·cases h
 ·rename_i xs;split at h
  ·rename_i te ht;obtain⟨rfl,he⟩:=tc h;refine⟨rfl,λ{g u1 u2 w} r1 r2=> ?_⟩;have e2:u2= .pointer none:=r2;subst e2
   have hq:∀d,(a42 (d+1) t u1 (.pointer ay)).run E.P w= .ok (List.isEmpty (α:=Int) xs) w:=λd=>by
    rcases Lb r1 with⟨e,e1⟩|⟨e,b,e1⟩
    ·rw[e];subst e1;simp[a42,run_underlying ht]
    ·have e2:List.isEmpty (α:=Int) xs=false:=by
      have:(xs:List Int)≠[]:=e
      generalize(xs:List Int)=ys at this
      cases ys<;>simp_all
     rw[e2];subst e1;simp[a42,run_underlying ht]
   have aM0:=hq 9999
   have hg:eqGuard op t x y u1 (.pointer ay)=pure ():=by
    rcases Lb r1 with⟨_,e1⟩|⟨_,b,e1⟩<;>subst e1<;>exact eqGuard_at_pointer ..
   rw[hg]
   have qf:∃a,u1= .pointer a:=by rcases Lb r1 with⟨_,e1⟩|⟨_,b,e1⟩<;>exact⟨_,e1⟩
   obtain⟨a,rfl⟩:=qf
   rcases he with⟨rfl,rfl⟩|⟨rfl,rfl⟩
   all_goals simp_all[a04,Op.equal,Op.maxDepth,vX]
  ·cases h
 ·rename_i a b;split at h
  ·rename_i fs r ht hr;obtain⟨hb,h'⟩:=dQ h;clear h;simp at hb;obtain⟨⟨h1,h2⟩,h3⟩:=hb;obtain⟨rfl,he⟩:=tc h';refine⟨rfl,λ{g u1 u2 w} r1 r2=> ?_⟩;obtain⟨us,e1,hu⟩:=r1;obtain⟨vs,e2,hv⟩:=r2;subst e1;subst e2
   have hf:E.P.fieldsOf t=fs:=by unfold Program.fieldsOf;rw[ht]
   have hq:(a42 10000 t (.agg us.toArray) (.agg vs.toArray)).run E.P w= .ok r w:=by
    rw[run_equalIn_agg w 9999 t _ _ (by rw[hf];exact ht) h1,hf];exact GG h3 hr hu hv (λi u hi=>by simpa using hi) (λi u hi=>by simpa using hi)
   have hg:=run_eqGuard_agg (P:=E.P) w op t x y us.toArray vs.toArray h2
   rcases he with⟨rfl,rfl⟩|⟨rfl,rfl⟩
   ·refine⟨_, ?_,vX g _⟩;simp[hg,run_eql_struct,hq]
   ·refine⟨_, ?_,vX g _⟩;simp[hg,run_neq_struct,hq]
  ·cases h
 ·cases h
theorem Kb {E:Env}{op:BinOp}{t:TypeId}{x:Operand}{va:Val}{s s':St}{sl:Slot}(h:(Px E op t va).run s=J (sl,s')):
  s'=s/\∀{g:Gh} {u1:Value} {w:World},gx g va u1->∃v,((do eqGuard op t x (.const .nilIface) u1 .nilIface;a04 op t u1 .nilIface):Sem Value).run E.P w= .ok v w/\fG g sl v:=by
 unfold Px at h;split at h
 ·rename_i b;split at h
  ·rename_i ms ht;obtain⟨rfl,he⟩:=tc h;refine⟨rfl,λ{g u1 w} r1=> ?_⟩
   rcases r1 with⟨rfl,rfl⟩|⟨rfl,tv,v,rfl⟩
   ·rw[eqGuard_nil_constR]
    have ZT:∀d,(a42 (d+1) t .nilIface .nilIface).run E.P w= .ok av w:=λd=>by simp[a42,run_underlying ht]
    rcases he with⟨rfl,rfl⟩|⟨rfl,rfl⟩
    all_goals simp_all[a04,Op.equal,Op.maxDepth,vX]
   ·rw[eqGuard_at_iface]
    have ZT:∀d,(a42 (d+1) t (.iface tv v) .nilIface).run E.P w= .ok ar w:=λd=>by simp[a42,run_underlying ht]
    rcases he with⟨rfl,rfl⟩|⟨rfl,rfl⟩
    all_goals simp_all[a04,Op.equal,Op.maxDepth,vX]
  ·cases h
 ·cases h
end Go.Abs
end

section
namespace Go.Abs
def Yld (E:Env)(op:Op)(s:St)(sl:Slot)(s':St):Prop:=
 s'.env=s.env/\∀(o:Oper),o.op=op->∀B g a w,HRel B g s.hp w->iM g s.env a->
  ∃v w' g',(execOp a.eval o).run E.P w= .ok (.value v) w'/\Le g g'/\HRel B g' s'.hp w'/\fG g' sl v
theorem fT {P:Program}{w w':World}{x:Sem Value}{v:Value}(h:x.run P w= .ok v w'):((do pure (.value (<-x))):Sem Next).run P w= .ok (.value v) w':=by
 simp[h]
theorem Yld.still {E:Env}{op:Op}{s:St}{sl:Slot}(h:∀(o:Oper),o.op=op->∀B g a w,HRel B g s.hp w->iM g s.env a->∃v,(execOp a.eval o).run E.P w= .ok (.value v) w/\fG g sl v):Yld E op s sl s:=
 ⟨rfl,λo ho B g a w R V=>by grind [Le.refl]⟩
theorem Hm {E:Env}{x:Operand}{s s':St}{sl:Slot}(h:(ev x).run s=J (sl,s')):Yld E (.move x) s sl s'/\Yld E (.assign x) s sl s':=by
 obtain⟨rfl,hr⟩:=qz h;exact⟨.still λo ho B g a w R V=>⟨a.eval x,by simp_all[execOp],hr V⟩, .still λo ho B g a w R V=>⟨a.eval x,by simp_all[execOp],hr V⟩⟩
theorem OS {E:Env}{c x y:Operand}{s s':St}{sl:Slot}{d:Nat}(h:(gB E d (.pick c x y)).run s=J (sl,s')):Yld E (.pick c x y) s sl s':=by
 obtain⟨v,t,h1,h2⟩:=AM.cV h;obtain⟨b,t2,h3,h4⟩:=AM.cV h2;obtain⟨rfl,r1⟩:=eZ h1;obtain⟨rfl,rfl⟩:=CH h3
 rcases PF h4 with⟨rfl,h5⟩|⟨rfl,h5⟩
 ·obtain⟨rfl,r2⟩:=qz h5
  refine .still λo ho B g a w R V=>⟨a.eval x, ?_,r2 V⟩
  have e:=oD (r1 V);simp_all[execOp,Go.asBool]
 ·obtain⟨rfl,r2⟩:=qz h5
  refine .still λo ho B g a w R V=>⟨a.eval y, ?_,r2 V⟩
  have e:=oD (r1 V);simp_all[execOp,Go.asBool]
theorem R6 {E:Env}{op:BinOp}{t ty:TypeId}{x y:Operand}{s s':St}{sl:Slot}{d:Nat}(h:(gB E d (.binOp op t x y ty)).run s=J (sl,s')):Yld E (.binOp op t x y ty) s sl s':=by
 obtain⟨va,t1,h1,h2⟩:=AM.cV h;obtain⟨rfl,r1⟩:=eZ h1;split at h2
 ·obtain⟨rfl,hr⟩:=Kb (x:=x) h2
  refine .still λo ho B g a w R V=> ?_
  obtain⟨v,e,hs⟩:=hr (w:=w) (r1 V);refine⟨v, ?_,hs⟩;unfold execOp;rw[ho];exact fT e
 ·obtain⟨vb,t2,h3,h4⟩:=AM.cV h2;obtain⟨rfl,r2⟩:=eZ h3;obtain⟨rfl,hr⟩:=Mj (x:=x) (y:=y) h4
  refine .still λo ho B g a w R V=> ?_
  obtain⟨v,e,hs⟩:=hr (w:=w) (r1 V) (r2 V)
  grind [execOp,fT]
theorem Rx {E:Env}{t:TypeId}{x:Operand}{s s':St}{sl:Slot}{d:Nat}(h:(gB E d (.unOp .not t x)).run s=J (sl,s')):Yld E (.unOp .not t x) s sl s':=by
 obtain⟨v,t,h1,h2⟩:=AM.cV h;obtain⟨b,t2,h3,h4⟩:=AM.cV h2;obtain⟨rfl,r1⟩:=eZ h1;obtain⟨rfl,rfl⟩:=CH h3;obtain⟨rfl,rfl⟩:=cX h4
 refine .still λo ho B g a w R V=>⟨.bool !b, ?_,vX g _⟩
 have e:=oD (r1 V);simp_all[execOp,Op.unary]
theorem RO {E:Env}{t:TypeId}{x:Operand}{s s':St}{sl:Slot}{d:Nat}(h:(gB E d (.unOp .neg t x)).run s=J (sl,s')):Yld E (.unOp .neg t x) s sl s':=by
 obtain⟨v,t,h1,h2⟩:=AM.cV h;obtain⟨rfl,r1⟩:=eZ h1;split at h2
 ·rename_i k n;obtain⟨rfl,rfl⟩:=cX h2
  refine .still λo ho B g a w R V=>⟨.int k (k.wrap (0 - n)), ?_,xF g k _⟩
  have e:=jt (r1 V);simp_all[execOp,Op.unary,Op.intArith]
 ·cases h2
theorem Gc {E:Env}{x:Operand}{s s':St}{sl:Slot}{d:Nat}(h:(gB E d (.nilCheck x)).run s=J (sl,s')):Yld E (.nilCheck x) s sl s':=by
 obtain⟨s1,t,h1,h2⟩:=AM.cV h;obtain⟨rfl,r1⟩:=qz h1;unfold nilCheck at h2;split at h2
 ·obtain⟨rfl,rfl⟩:=cX h2
  refine .still λo ho B g a w R V=>⟨a.eval x, ?_,r1 V⟩
  obtain⟨_,b,o',_,e⟩:=r1 V;simp_all[execOp]
 ·obtain⟨rfl,rfl⟩:=cX h2
  refine .still λo ho B g a w R V=>⟨a.eval x, ?_,r1 V⟩
  obtain⟨vs,e,_⟩:=r1 V;simp_all[execOp]
 ·rename_i xs;obtain⟨hb,h3⟩:=nY h2;obtain⟨rfl,rfl⟩:=cX h3
  refine .still λo ho B g a w R V=>⟨a.eval x, ?_,r1 V⟩
  rcases Lb (r1 V)with⟨e,_⟩|⟨_,b,e⟩
  all_goals simp_all[execOp]
 ·cases h2
theorem IJ {E:Env}{x:Operand}{i:Nat}{s s':St}{sl:Slot}{d:Nat}(h:(gB E d (.extract x i)).run s=J (sl,s')):Yld E (.extract x i) s sl s':=by
 obtain⟨s1,t,h1,h2⟩:=AM.cV h;obtain⟨rfl,r1⟩:=qz h1;split at h2
 ·rename_i vs;obtain⟨v,t2,h3,h4⟩:=AM.cV h2;obtain⟨hv,rfl⟩:=eO h3;obtain⟨rfl,rfl⟩:=cX h4
  refine .still λo ho B g a w R V=> ?_
  obtain⟨us,e,hu⟩:=r1 V
  have key:∀{vs:List Val} {us:List Value} {i:Nat} {v:Val},gW g vs us->vs[i]?=J v->∃u,us[i]?=J u/\gx g v u:=by
   intro vs
   induction vs with
   |nil=>simp
   |cons c cs ih=>
    intro us i v ⟨u,r,e,hu,hr⟩ h
    grind
  obtain⟨u,qf,AL⟩:=key hu hv;refine⟨u, ?_,AL⟩;simp_all[execOp,Instr.extract]
 ·cases h2
theorem Pk {g:Gh}:∀{vs:List Val} {cs:List (Nat×Nat)} {us:List Value},zu vs=J cs->gW g vs us->uW g cs us:=by
 intro vs
 induction vs with
 |nil=>
  intro cs us hc hv;simp[zu]at hc;subst hc;exact hv
 |cons c vs ih=>
  intro cs us hc hv;obtain⟨u,r,e,hu,hr⟩:=hv
  cases c with
  |agg cs=>grind [zu]
  |one c=>
   cases c with
   |ptr id gen off=>
    cases off with
    |succ n=>simp[zu]at hc
    |zero=>
     simp[zu]at hc;obtain⟨Jg,XH,rfl⟩:=hc;obtain⟨ht,b,o,nE,hu⟩:=hu;exact⟨b,o,r,by simp_all,ht,nE,ih XH hr⟩
   |_=>grind [zu]
theorem Gi {E:Env}{f:Fn}{first lh:Array Operand}{s s':St}{sl:Slot}{d:Nat}(h:(gB E d (.makeFunc f first lh)).run s=J (sl,s')):Yld E (.makeFunc f first lh) s sl s':=by
 cases f with
 |func f=> ?_
 |_=>cases h
 obtain⟨hb,h⟩:=dQ h;obtain⟨vs,t,h1,h2⟩:=AM.cV h;obtain⟨cs,t2,h3,h4⟩:=AM.cV h2;obtain⟨rfl,r1⟩:=oT h1;obtain⟨hc,rfl⟩:=eO h3;obtain⟨rfl,rfl⟩:=cX h4
 refine .still λo ho B g a w R V=>⟨.func (.func f) #[] (lh.toList.map a.eval).toArray, ?_,lh.toList.map a.eval,rfl, ?_⟩
 ·unfold execOp;rw[ho]
  have e:first=#[]:=by simp_all
  simp only[e,Instr.makeFunc];cases lh;simp
 grind [Pk]
theorem AT {c:Cell}{s s':St}{n:Nat}(h:(F8 c).run s=J (n,s')):s'=s/\∀{B:Base} {g:Gh} {w:World} {u:Value},HRel B g s.hp w->dR g c u->
  (c.isStr=av/\∃st,u= .string st/\st.size=n)\/(c.isStr=ar/\∃A cap,u= .slice A n cap/\(0<n->∃b o,A=J ⟨b,o,ay⟩)):=by
 cases c with
 |v τ x=>
  cases τ with
  |str=>
   obtain⟨rfl,rfl⟩:=cX h;refine⟨rfl,λR hc=> ?_⟩;obtain⟨st,e,l⟩:=qC hc;exact .inl ⟨rfl,st,e,by rw[l,iy]⟩
  |sl e=>
   obtain⟨rfl,rfl⟩:=cX h;refine⟨rfl,λR hc=> ?_⟩;obtain⟨_,A,cap,e,_,hx⟩:=hc
   injection e with e
   refine .inr ⟨rfl,A,cap,e,λhn=> ?_⟩
   grind
  |_=>cases h
 |nil=>
  obtain⟨rfl,rfl⟩:=cX h;exact⟨rfl,λR hc=> .inr ⟨rfl,ay,0,hc,λhn=>absurd hn (by simp)⟩⟩
 |own id gen=>
  simp only[F8,AM.run]at h;split at h
  ·rename_i g0 τ dp xs heq;obtain⟨hb,h'⟩:=dQ h;obtain rfl:=beq_eq hb;obtain⟨rfl,rfl⟩:=cX h';refine⟨rfl,λR hc=> ?_⟩
   rcases R.gE _ _ heq with⟨e1,e2⟩|⟨b,cap,arr,ty,e1,_⟩
   ·subst e2;exact .inr ⟨rfl,ay,0,hc.2.1.trans e1,λhn=>absurd hn (by simp)⟩
   ·exact .inr ⟨rfl,_,cap,hc.2.1.trans e1,λ_=>⟨b,0,rfl⟩⟩
  ·rename_i g0 τ xs heq;obtain⟨hb,h'⟩:=dQ h;obtain rfl:=beq_eq hb;obtain⟨rfl,rfl⟩:=cX h';refine⟨rfl,λR hc=> ?_⟩;obtain⟨A,cap,e,_,hx⟩:=R.gE _ _ heq
   injection e with e
   refine .inr ⟨rfl,A,cap,hc.2.1.trans e,λhn=> ?_⟩
   grind
  ·rename_i g0 xs a ag bid bg off heq;obtain⟨hb,h'⟩:=dQ h;obtain rfl:=beq_eq hb;obtain⟨rfl,rfl⟩:=cX h';refine⟨rfl,λR hc=> ?_⟩;obtain⟨_,_,_,⟨_,e1,e2⟩|⟨bb,oo,_,_,⟨e1,e2⟩|⟨b,cap,arr,ty,e1,_⟩⟩⟩:=R.gE _ _ heq
   ·subst e2;exact .inr ⟨rfl,ay,0,hc.2.1.trans e1,λhn=>absurd hn (by simp)⟩
   ·subst e2;exact .inr ⟨rfl,ay,0,hc.2.1.trans e1,λhn=>absurd hn (by simp)⟩
   ·exact .inr ⟨rfl,_,cap,hc.2.1.trans e1,λ_=>⟨b,0,rfl⟩⟩
  ·cases h
 |_=>cases h
theorem Nk {g:Gh}{vs:List Val}{us:List Value}(h:gW g vs us){v:Val}(e:vs=[v]):∃u,us=[u]/\gx g v u:=by
 subst e;obtain⟨u,r,e,hu,hr⟩:=h;have hr:_=_:=hr;simp_all
theorem MW {g:Gh}{vs:List Val}{us:List Value}(h:gW g vs us){v v':Val}(e:vs=[v,v']):∃u u',us=[u,u']/\gx g v u/\gx g v' u':=by
 subst e;obtain⟨u,r,e,hu,u',r',e',hu',hr⟩:=h;have hr:_=_:=hr
 grind
theorem Qx {E:Env}{t:TypeId}{c:Cell}(h:E.fit t c=av):(E.P.underlying t=J .string/\c.isStr=av)\/(∃e,E.P.underlying t=J (.slice e)/\c.isStr=ar):=by
 grind [Env.fit]
theorem So {E:Env}{c:Call}(hc:c.callee= .builtin .len){s s':St}{sl:Slot}{d:Nat}(h:(gB E d (.call c)).run s=J (sl,s')):Yld E (.call c) s sl s':=by
 simp[gB,hc]at h;obtain⟨vs,t,h1,h2⟩:=AM.cV h;obtain⟨rfl,r1⟩:=oT h1;split at h2
 ·rename_i x;obtain⟨hb,h3⟩:=dQ h2;obtain⟨n,t2,h4,h5⟩:=AM.cV h3;obtain⟨rfl,hl⟩:=AT h4;obtain⟨rfl,rfl⟩:=cX h5
  refine .still λo ho B g a w R V=>⟨.int .i64 n, ?_,xF g _ _⟩
  obtain⟨u,hu,hr⟩:=Nk (r1 V) rfl
  have Yx:c.args.map a.eval=#[u]:=by
   grind
  have⟨t0,aY7,u5⟩:∃t0,c.argTypes[0]?=J t0/\E.fit t0 x=true:=by
   grind
  unfold execOp;rw[ho];simp only[resolve,hc,Go.invoke,builtin,bH,a08,bh,Yx,Builtin.len_,aY7]
  rcases Qx u5 with⟨e1,e2⟩|⟨e,e1,e2⟩
  ·rcases hl R hr with⟨_,st,e4,l'⟩|⟨e3,_⟩
   all_goals simp_all[run_underlying,goInt]
  ·rcases hl R hr with⟨e3,_⟩|⟨_,A,cap,e3,_⟩
   all_goals simp_all[run_underlying,goInt]
 ·cases h2
theorem Sk {E:Env}{c:Call}(hc:c.callee= .builtin .max){s s':St}{sl:Slot}{d:Nat}(h:(gB E d (.call c)).run s=J (sl,s')):Yld E (.call c) s sl s':=by
 simp[gB,hc]at h;obtain⟨vs,t,h1,h2⟩:=AM.cV h;obtain⟨rfl,r1⟩:=oT h1;split at h2
 ·rename_i k x k' y;obtain⟨rfl,rfl⟩:=cX h2
  refine .still λo ho B g a w R V=>⟨.int k (if y>x then y else x), ?_,xF g _ _⟩
  obtain⟨u,u',hu,hr,SK⟩:=MW (r1 V) rfl;have e1:=jt hr;have e2:=jt SK;unfold execOp;simp_all[resolve,Go.invoke,builtin,Builtin.max_,Builtin.max2]
 ·cases h2
theorem Mz {E:Env}{t:TypeId}{x i:Operand}{s s':St}{sl:Slot}{d:Nat}(h:(gB E d (.index t x i)).run s=J (sl,s')):Yld E (.index t x i) s sl s':=by
 obtain⟨v,t1,h1,h2⟩:=AM.cV h;obtain⟨iv,t2,h3,h4⟩:=AM.cV h2;obtain⟨n,t3,h5,h6⟩:=AM.cV h4;obtain⟨rfl,r1⟩:=eZ h1;obtain⟨rfl,r2⟩:=eZ h3;obtain⟨⟨k,rfl⟩,rfl⟩:=mM h5;split at h6
 ·rename_i l ht;obtain⟨hb,h7⟩:=nY h6;obtain⟨rfl,rfl⟩:=cX h7
  refine .still λo ho B g a w R V=> ?_
  obtain⟨st,e,hl⟩:=qC (r1 V);have e2:=jt (r2 V)
  have hlen:n.toNat<st.size:=by
   simp_all[iy]
  have kI:n.toNat<st.data.toList.length:=by simp_all
  have aa3:(l:List Int).getD n.toNat 0=(st[n.toNat].toNat:Int):=by
   rw[hl];unfold bytesOf;rw[aG,a05,aJ kI];rfl
  simp_all[xF,execOp,Instr.index,asIntOf,run_underlying]
 ·cases h6
theorem Ny {E:Env}{s:TypeId}{i:Nat}{f:Field}(h:E.field s i=J f):∃fs,E.P.underlying s=J (.struct fs)/\fs[i]?=J f:=by
 grind [Env.field]
end Go.Abs
end

section
namespace Go.Abs
theorem HRel.YT {B:Base}{g:Gh}{hp Ew:List (Nat×Obj)}{w:World}(R:HRel B g hp w)(e:∀i,look Ew i=look hp i):HRel B g Ew w:=
 ⟨λi=>by rw[e i];exact R.top i,λi o h=>R.gE i o (by simp_all),R.dj,R.gA,R.gD,R.kH,R.frame,R.size,R.os,R.tape,R.output,R.fix⟩
theorem Pm:∀{τ:Ty} {x:τ.den} {off:Nat} {e:Ty} {ys zs:List e.den} {x':τ.den},B8 τ x off=J ⟨e,ys⟩->qe τ x off e zs=J x'->B8 τ x' off=J ⟨e,zs⟩/\∀ws:List e.den,qe τ x' off e ws=qe τ x off e ws:=by
 intro τ
 induction τ with
 |pr a b Dt Dr=>
  intro x off e ys zs x' h k;unfold B8 at h;unfold qe at k
  cases hb:cE off a.size with
  |true=>
   rw[hb]at h k;obtain⟨y,h1,rfl⟩:=bj.1 k
   grind [B8,ws,qe]
  |false=>
   rw[hb]at h k;obtain⟨y,h1,rfl⟩:=bj.1 k
   grind [B8,ws,qe]
 |sl e' _=>
  intro x off e ys zs x' h k
  cases off with
  |zero=>
   injection h with h;injection h with h1 h2
   subst h1;have k:(if h:e'=e' then J (h ▸ zs)else ay)=J x':=k;rw[dif_pos rfl]at k
   injection k with k
   subst k;exact⟨rfl,λ_=>rfl⟩
  |succ n=>cases h
 |_=>intro x off e ys zs x' h;cases off<;>cases h
theorem Lin.len {r:Rd}{τ:Ty}{x:τ.den}{cs:List Value}{nb:List Nat}(h:Lin r τ x cs nb):cs.length=τ.size:=h.rc.length
theorem Lin.focus {r:Rd}:∀{τ:Ty} {x:τ.den} {cs:List Value} {nb:List Nat} {off:Nat} {e:Ty} {ys:List e.den},Lin r τ x cs nb->B8 τ x off=J ⟨e,ys⟩->
  ∃m1 mb m2 u,nb=m1++mb++m2/\cs[off]?=J u/\Lin r (.sl e) ys [u] mb/\
   ∀(r':Rd) (zs:List e.den) (v:Value) (Ov:List Nat) (x':τ.den),(∀b∈m1++m2,∀L,r b=J L->r' b=J L)->Lin r' (.sl e) zs [v] Ov->qe τ x off e zs=J x'->Lin r' τ x' (cs.set off v) (m1++Ov++m2):=by
 intro τ
 induction τ with
 |pr a b Dt Dr=>
  intro x cs nb off e ys ⟨c1,c2,n1,n2,ec,en,h1,h2⟩ h;subst ec;subst en;have hl:=h1.len;unfold B8 at h
  cases hb:cE off a.size with
  |true=>
   rw[hb]at h;have kI:off<a.size:=aP hb;obtain⟨m1,mb,m2,u,rfl,hu,hL,hS⟩:=Dt h1 h;refine⟨m1,mb,m2++n2,u,by simp,by rw[List.getElem?_append_left (by omega)];exact hu,hL,λr' zs v Ov x' hm hv hs=> ?_⟩;unfold qe at hs;rw[hb]at hs;obtain⟨y,hy,rfl⟩:=bj.1 hs;rw[List.set_append_left _ _ (by omega)];refine⟨c1.set off v,c2,m1++Ov++m2,n2,rfl,by simp,hS r' zs v Ov y (λb hb=>hm b ?_) hv hy,h2.mono λb hb=>hm b ?_⟩
   ·rcases aL.1 hb with hb|hb<;>simp[hb]
   ·simp[hb]
  |false=>
   rw[hb]at h
   have LY:a.size<=off:=by
    rcases bG off a.size with h'|h'
    ·have:cE off a.size=true:=Nat.ble_eq_true_of_le h';rw[this]at hb;cases hb
    ·exact h'
   obtain⟨m1,mb,m2,u,rfl,hu,hL,hS⟩:=Dr h2 h;refine⟨n1++m1,mb,m2,u,by simp,by rw[List.getElem?_append_right (by omega),hl];exact hu,hL,λr' zs v Ov x' hm hv hs=> ?_⟩;unfold qe at hs;rw[hb]at hs;obtain⟨y,hy,rfl⟩:=bj.1 hs;rw[List.set_append_right _ _ (by omega),hl];refine⟨c1,c2.set (off - a.size) v,n1,m1++Ov++m2,rfl,by simp,h1.mono (λb hb=>hm b ?_),hS r' zs v Ov y (λb hb=>hm b ?_) hv hy⟩
   ·simp[hb]
   ·rcases aL.1 hb with hb|hb<;>simp[hb]
 |sl e' _=>
  intro x cs nb off e ys hL h
  cases off with
  |succ n=>cases h
  |zero=>
   injection h with h;injection h with h1 h2
   subst h1;subst h2;have hl:cs.length=1:=hL.len
   obtain⟨u,rfl⟩:∃u,cs=[u]:=by
    match cs,hl with
    |[u],_=>exact⟨u,rfl⟩
   refine⟨[],nb,[],u,by simp,rfl,hL,λr' zs v Ov x' hm hv hs=> ?_⟩;have hs:(if h:e'=e' then J (h ▸ zs)else ay)=J x':=hs;rw[dif_pos rfl]at hs
   injection hs with hs
   subst hs;simpa using hv
 |_=>intro x cs nb off e ys _ h;cases off<;>cases h
theorem gZ.focus {r:Rd}{τ:Ty}:∀{xs:List τ.den} {L:List Value} {nb:List Nat} {i off:Nat} {e:Ty} {ys:List e.den} (hi:i<xs.length),gZ r τ xs L nb->B8 τ xs[i] off=J ⟨e,ys⟩->
  ∃m1 mb m2 u,nb=m1++mb++m2/\L[i*τ.size+off]?=J u/\Lin r (.sl e) ys [u] mb/\
   ∀(r':Rd) (zs:List e.den) (v:Value) (Ov:List Nat) (x':τ.den),(∀b∈m1++m2,∀L,r b=J L->r' b=J L)->Lin r' (.sl e) zs [v] Ov->qe τ xs[i] off e zs=J x'->gZ r' τ (xs.set i x') (L.set (i*τ.size+off) v) (m1++Ov++m2)
 |[],_,_,i,_,_,_,hi,_,_=>absurd hi (by simp)
 |x::xs,L,nb,0,off,e,ys,hi,⟨n1,n2,en,h1,h2⟩,h=>by
  subst en;obtain⟨m1,mb,m2,u,rfl,hu,hL,hS⟩:=h1.focus h
  have Dn:off<τ.size:=by
   grind
  refine⟨m1,mb,m2++n2,u,by simp,by simp_all,hL,λr' zs v Ov x' hm hv hs=> ?_⟩;refine⟨m1++Ov++m2,n2,by simp, ?_, ?_⟩
  ·rw[Nat.zero_mul,cj,List.take_set]
   grind
  ·rw[Nat.zero_mul,cj,List.drop_set,ak Dn]
   exact h2.mono λb hb=>hm b (by grind)
 |x::xs,L,nb,i+1,off,e,ys,hi,⟨n1,n2,en,h1,h2⟩,h=>by
  subst en
  have s5:i<xs.length:=by grind
  obtain⟨m1,mb,m2,u,rfl,hu,hL,hS⟩:=gZ.focus s5 h2 h
  have e1:(i+1)*τ.size+off=τ.size+(i*τ.size+off):=by grind
  refine⟨n1++m1,mb,m2,u,by simp,by simp_all,hL,λr' zs v Ov x' hm hv hs=> ?_⟩;refine⟨n1,m1++Ov++m2,by simp, ?_, ?_⟩
  ·rw[e1,List.take_set,List.set_eq_of_length_le (by grind)]
   exact h1.mono λb hb=>hm b (by grind)
  ·rw[e1,List.drop_set,aj (by omega),Nat.add_sub_cancel_left]
   grind
theorem af1 {τ:Ty}{xs:List τ.den}{i:Int}(h:i.toNat<xs.length):at_ xs i=xs[i.toNat]:=by
 simp_all[at_,aG,aJ]
theorem Qv (r:Rd){e:Ty}(he:e.flat=av):Lin r (.sl e) ([]:List e.den) [.slice ay 0 0] []:=⟨he, .inl ⟨rfl,rfl,rfl⟩⟩
open Classical in
noncomputable def Gh.opened (g:Gh)(d gd:Nat)(u:Value)(mb:List Nat):Gh:=
  { g with top := fun i => if i = d then gd + 1 else g.top i
           cv:=λi k=>if i=d/\k=gd then u else g.cv i k
           fL:=λx=>if x∈mb then J (d+1)else g.fL x
           gA:=λx=>if x∈mb then ay else g.gA x}
theorem HRel.Li {B:Base}{g:Gh}{hp:List (Nat×Obj)}{w:World}(R:HRel B g hp w){id gen d off:Nat}{i:Int}{τ e:Ty}{xs:List τ.den}{ys:List e.den}{x':τ.den}(h:look hp id=J (.own gen τ av xs))(hf:τ.flat=ar)(hd:d≠id)
  (h0:0<=i) (hi:i.toNat<xs.length) (hs:B8 τ (at_ xs i) off=J ⟨e,ys⟩) (hx:qe τ (at_ xs i) off e []=J x'):
  ∃g' b cap arr ty u,Lk g g'/\g.cv id gen= .slice (J ⟨b,0,ay⟩) xs.length cap/\w.heap[b]?=J (.cells arr ty (0,0))/\arr.toList[i.toNat*τ.size+off]?=J u/\dR g' (.own d (g.top d)) u/\
   HRel B g' ((id, .hole gen τ xs i off d (g.top d))::(d, .own (g.top d) e av ys)::hp) w:=by
 rcases R.gE _ _ h with⟨_,h2⟩|⟨b,cap,arr,ty,h1,h2,h3,h4,h5,h6,h7⟩
 ·subst h2;simp at hi
 unfold gy at h7;rw[hf]at h7;obtain⟨nb,k1,k2,k3⟩:=h7;have Of:=hs;have VC:=hx;rw[af1 hi]at Of VC;obtain⟨m1,mb,m2,u,rfl,hu,hL,hS⟩:=k1.focus hi Of
 have LZ:b∉m1++mb++m2:=λhm=>k1.uM b hm h3
 have an8:∀x∈mb,g.fL x=J (id+1):=λx hx=>k3 x (by simp[hx])
 have Vz:b∉mb:=λhm=>LZ (by simp[hm])
 have ht:=jm R h;have nd:=bC.1 k2;have jT:=bC.1 nd.1
 let g':=g.opened d (g.top d) u mb
 have hle:Le g g':=by
  refine⟨λ_ _ h=>h,λj=> ?_,λj k hk=> ?_⟩
  ·show g.top j<=if j=d then g.top d+1 else g.top j
   split
   ·rename_i e;subst e;omega
   ·exact aC _
  ·show(if j=d/\k=g.top d then _ else g.cv j k)=g.cv j k;rw[aj];rintro⟨rfl,rfl⟩;omega
 have n9:∀x,x∉mb->g'.fL x=g.fL x:=λx hx=>by simp[g',Gh.opened,hx]
 have xL:∀x,x∉mb->g'.gA x=g.gA x:=λx hx=>by simp[g',Gh.opened,hx]
 have XA:g'.cv d (g.top d)=u:=(by simp[g',Gh.opened]);have aV6:g'.top d=g.top d+1:=(by simp[g',Gh.opened])
 have Vo:oc u=true:=by
  rcases hL.2 with⟨e,_⟩|⟨_,_,_,e,_⟩<;>(injection e with e;subst e;rfl)
 have Ix:∀x∈m1++m2,x∉mb:=by
  intro x hx hm
  rcases aL.1 hx with hx|hx
  ·exact jT.2.2 x hx x hm rfl
  ·exact nd.2.2 x (by simp[hm]) x hx rfl
 have newObj:pg g' w d (.own (g.top d) e av ys):=by
  rcases hL.2 with⟨e1,e2,_⟩|⟨b',c,L,e1,e2,e3,e4,e5,e6⟩
  ·injection e1 with e1
   exact .inl ⟨by rw[XA,e1],e2⟩
  ·injection e1 with e1
   subst e3;obtain⟨_,oa,Ds,a1,a2⟩:=R.gA b' L e4;refine .inr ⟨b',c,oa,Ds,by rw[XA,e1],by simp[g',Gh.opened],by simp[g',Gh.opened],a1,e2, ?_, ?_⟩
   ·have:oa.size=oa.toList.length:=(by simp);rw[this,a2,e5]
   ·unfold gy;rw[hL.1];simp;rw[a2];exact e6.flat hL.1
 have Qe:pg g' w id (.hole gen τ xs i off d (g.top d)):=by
  refine⟨by omega,h0,hi,hf,b,cap,arr,ty,e,ys,x',(hle.cv _ _ ht).trans h1,(n9 b Vz).trans h2,(xL b Vz).trans h3,h4,h5,h6,hs,hx,by rw[XA];exact hu,m1++[]++m2, ?_, ?_,λx hx=> ?_⟩
  ·exact hS g'.gA [] _ [] x' (λy hy L ad1=>(xL y (Ix y hy)).trans ad1) (Qv _ hL.1) VC
  ·simp;rw[bC];exact⟨jT.1,nd.2.1,λx hx y hy=>nd.2.2 x (by simp[hx]) y hy⟩
  ·have hx:x∈m1++m2:=(by simpa using hx);rw[n9 x (Ix x hx)];exact k3 x (by rcases aL.1 hx with h|h<;>simp[h])
 refine⟨g',b,cap,arr,ty,u,⟨hle,λx hx=> ?_,rfl⟩,h1,h4,hu,⟨by omega,XA.symm,Vo⟩,⟨λj=> ?_,λj oj hj=> ?_,λx L hx=> ?_,λx L hx=> ?_,λx hx=> ?_,R.kH,λx hx hl hi=> ?_,R.size,R.os,R.tape,R.output,R.fix⟩⟩
 ·have:x∉mb:=λhm=>by rw[an8 x hm]at hx;simp at hx
  exact⟨(n9 x this).trans hx,xL x this⟩
 ·show(if j=d then g.top d+1 else g.top j)=_
  by_cases e1:id=j
  ·subst e1;rw[du,aj (Ne.symm hd),R.top id,h];rfl
  ·rw[de _ _ e1]
   by_cases e2:d=j
   ·subst e2;rw[du,ak rfl];rfl
   ·rw[de _ _ e2,aj (Ne.symm e2)];exact R.top j
 ·by_cases e1:id=j
  ·subst e1
   rw[du]at hj;injection hj with hj;subst hj;exact Qe
  ·rw[de _ _ e1]at hj
   by_cases e2:d=j
   ·subst e2
    rw[du]at hj;injection hj with hj;subst hj;exact newObj
   ·rw[de _ _ e2]at hj;refine(R.gE j oj hj).tr hle (λx hx=> ?_) rfl (jm R hj)
    have:x∉mb:=λhm=>by rw[an8 x hm]at hx;simp at hx;exact e1 hx
    exact⟨(n9 x this).trans hx,xL x this,rfl⟩
 ·obtain⟨a1,a2,a3⟩:=R.dj x L hx
  have:x∉mb:=λhm=>by rw[an8 x hm]at a1;cases a1
  exact⟨(n9 x this).trans a1,(xL x this).trans a2,a3⟩
 ·by_cases hm:x∈mb
  ·have:g'.gA x=none:=(by simp[g',Gh.opened,hm]);rw[this]at hx;cases hx
  ·rw[xL x hm]at hx;rw[n9 x hm];exact R.gA x L hx
 ·by_cases hm:x∈mb
  ·exact R.gD x (by rw[an8 x hm];simp)
  ·rw[n9 x hm]at hx;exact R.gD x hx
 ·obtain⟨f1,f2,f3⟩:=R.frame x hx hl hi
  have:x∉mb:=λhm=>by rw[an8 x hm]at f1;cases f1
  exact⟨(n9 x this).trans f1,f2,f3⟩
open Classical in
noncomputable def Gh.closed (g:Gh)(id:Nat)(mb:List Nat)(L:List Value):Gh:=
  { g with fL := fun x => if x ∈ mb then J (id + 1) else g.fL x
           gA:=λx=>if x∈mb then J L else g.gA x}
theorem HRel.sy {B:Base}{g:Gh}{hp:List (Nat×Obj)}{w:World}(R:HRel B g hp w){id gen d gd off:Nat}{i:Int}{τ e:Ty}{dp:Bool}{xs:List τ.den}{ys:List e.den}{x:τ.den}(h:look hp id=J (.hole gen τ xs i off d gd))(ho:look hp d=J (.own gd e dp ys))(hd:d≠id)
  (hx:qe τ (at_ xs i) off e ys=J x):
  ∃g',Lk g g'/\HRel B g' ((id, .own gen τ av (xs.set i.toNat x))::(d, .dead gd)::hp) w:=by
 obtain⟨hg,h0,hi,hf,b,cap,arr,ty,e',at2,x',h1,h2,h3,h4,h5,h6,h7,h8,h9,nb,k1,k2,k3⟩:=R.gE _ _ h
 have aS9:e'=e:=by
  have key:∀{τ:Ty} {x:τ.den} {off:Nat} {e e':Ty} {ys:List e.den} {at2:List e'.den} {x1:τ.den},B8 τ x off=J ⟨e',at2⟩->qe τ x off e ys=J x1->e'=e:=by
   intro τ
   induction τ with
   |pr a b Dt Dr=>
    grind [B8,qe,cE,bj]
   |sl e2 _=>
    intro x off e e' ys at2 x1 h k
    cases off with
    |succ n=>cases h
    |zero=>
     injection h with h;injection h with h1 h2
     have k:(if h:e=e2 then J (h ▸ ys)else ay)=J x1:=k
     grind
   |_=>intro x off e e' ys at2 x1 h;cases off<;>cases h
  grind
 subst aS9;obtain⟨q1,q2⟩:=Pm h7 h8;have s5:i.toNat<(xs.set i.toNat x').length:=(by simpa using hi);have IE:(xs.set i.toNat x')[i.toNat]=x':=(by simp);obtain⟨m1,aR5,m2,u0,rfl,P9,YA,hS⟩:=k1.focus s5 (by rw[IE];exact q1);have tu:i.toNat*τ.size+off<arr.toList.length:=(bw.1 h9).1;rw[List.getElem?_set_self tu]at P9
 injection P9 with P9
 subst P9
 have aJ0:aR5=[]:=by
  rcases YA.2 with⟨_,_,e3⟩|⟨b',c,L,e1,_⟩
  ·exact e3
  ·injection e1 with e1;cases e1
 subst aJ0
 have Xu:(arr.toList.set (i.toNat*τ.size+off) (.slice ay 0 0)).set (i.toNat*τ.size+off) (g.cv d gd)=arr.toList:=by
  rw[List.set_set]
  apply a06
  intro j
  by_cases e:i.toNat*τ.size+off=j
  ·subst e;rw[List.getElem?_set_self tu,h9]
  ·rw[List.getElem?_set_ne e]
 have at3:qe τ (xs.set i.toNat x')[i.toNat] off e' ys=J x:=by rw[IE,q2 ys];exact hx
 have hlen:((xs.set i.toNat x').set i.toNat x)=xs.set i.toNat x:=(by rw[List.set_set])
 have aE5:∀x∈m1++m2,g.fL x=J (id+1):=λx hx=>k3 x (by simpa using hx)
 have aV6:=jm R ho
 have done:∀(mb:List Nat) (L0:List Value),(∀y∈mb,g.fL y=J (d+1)/\∃arr ty,w.heap[y]?=J (.cells arr ty (0,0))/\arr.toList=L0)->mb.Nodup->
   Lin (g.closed id mb L0).gA (.sl e') ys [g.cv d gd] mb->∃g',Lk g g'/\HRel B g' ((id, .own gen τ av (xs.set i.toNat x))::(d, .dead gd)::hp) w:=by
  intro mb L0 rL o9 aC8
  let g':=g.closed id mb L0
  have hle:Le g g':=⟨λ_ _ h=>h,λ_=>aC _,λ_ _ _=>rfl⟩
  have n9:∀y,y∉mb->g'.fL y=g.fL y:=λy hy=>by simp[g',Gh.closed,hy]
  have xL:∀y,y∉mb->g'.gA y=g.gA y:=λy hy=>by simp[g',Gh.closed,hy]
  have Yw:∀y,y∈mb->g'.fL y=J (id+1):=λy hy=>by simp[g',Gh.closed,hy]
  have al9:∀y,y∈mb->g'.gA y=J L0:=λy hy=>by simp[g',Gh.closed,hy]
  have J3:∀y,g.fL y≠J (d+1)->y∉mb:=λy hy hm=>hy (rL y hm).1
  have Qc:∀y∈m1++m2,y∉mb:=λy hy=>J3 y (by rw[aE5 y hy];simp;exact λe=>hd e.symm)
  have Vz:b∉mb:=J3 b (by rw[h2];simp;exact λe=>hd e.symm);have e1:=hS g'.gA ys (g.cv d gd) mb x (λy hy L hL=>by rw[xL y (Qc y hy)];exact hL) aC8 at3;rw[Xu,hlen]at e1
  have Qe:pg g' w id (.own gen τ av (xs.set i.toNat x)):=by
   refine .inr ⟨b,cap,arr,ty,by show g.cv id gen=_;rw[cA];exact h1,(n9 b Vz).trans h2,(xL b Vz).trans h3,h4,by simpa using h5,h6, ?_⟩;unfold gy;rw[hf];simp;refine⟨m1++mb++m2,e1, ?_,λy hy=> ?_⟩
   ·have nd:=bC.1 (show(m1++m2).Nodup by simpa using k2);rw[bC,bC];refine⟨⟨nd.1,o9,λa ha c hc e=> ?_⟩,nd.2.1,λa ha c hc e=> ?_⟩
    ·subst e;exact Qc a (by simp[ha]) hc
    ·subst e
     rcases aL.1 ha with ha|ha
     ·exact nd.2.2 a ha a hc rfl
     ·exact Qc a (by simp[hc]) ha
   ·by_cases hm:y∈mb
    ·exact Yw y hm
    ·rw[n9 y hm];refine aE5 y ?_
     rcases aL.1 hy with hy|hy
     ·rcases aL.1 hy with hy|hy
      ·simp[hy]
      ·exact absurd hy hm
     ·simp[hy]
  refine⟨g',⟨hle,λy hy=> ?_,rfl⟩,⟨λj=> ?_,λj oj hj=> ?_,λy L hy=> ?_,λy L hy=> ?_,λy hy=> ?_,R.kH,λy hy hl hi=> ?_,R.size,R.os,R.tape,R.output,R.fix⟩⟩
  ·have:=J3 y (by rw[hy];simp);exact⟨(n9 y this).trans hy,xL y this⟩
  ·show g.top j=_;rw[R.top j]
   by_cases e1:id=j
   ·subst e1;rw[du,h];rfl
   ·rw[de _ _ e1]
    by_cases e2:d=j
    ·subst e2;rw[du,ho];rfl
    ·rw[de _ _ e2]
  ·by_cases e2:id=j
   ·subst e2
    rw[du]at hj;injection hj with hj;subst hj;exact Qe
   ·rw[de _ _ e2]at hj
    by_cases e3:d=j
    ·subst e3
     rw[du]at hj;injection hj with hj;subst hj;trivial
    ·rw[de _ _ e3]at hj;refine(R.gE j oj hj).tr hle (λy hy=> ?_) rfl (jm R hj);have aM4:=J3 y (by rw[hy];simp;exact λe=>e3 e.symm);exact⟨(n9 y aM4).trans hy,xL y aM4,rfl⟩
  ·obtain⟨a1,a2,a3⟩:=R.dj y L hy;have:=J3 y (by rw[a1];simp);exact⟨(n9 y this).trans a1,(xL y this).trans a2,a3⟩
  ·by_cases hm:y∈mb
   ·rw[al9 y hm]at hy
    injection hy with hy
    obtain⟨_,oa,Ds,a1,a2⟩:=rL y hm;exact⟨by rw[Yw y hm];simp,oa,Ds,a1,a2.trans hy⟩
   ·rw[xL y hm]at hy;rw[n9 y hm];exact R.gA y L hy
  ·by_cases hm:y∈mb
   ·exact R.gD y (by rw[(rL y hm).1];simp)
   ·rw[n9 y hm]at hy;exact R.gD y hy
  ·obtain⟨f1,f2,f3⟩:=R.frame y hy hl hi;have:=J3 y (by rw[f1];simp);exact⟨(n9 y this).trans f1,f2,f3⟩
 rcases R.gE _ _ ho with⟨o1,o2⟩|⟨b',Jf,oa,Ds,o1,o2,o3,o4,o5,o6,o7⟩
 ·refine done [] [] (λy hy=>by simp at hy) bf ?_;have o2:ys=[]:=o2;rw[o1,o2];exact Qv _ YA.1
 ·refine done [b'] oa.toList (λy hy=> ?_) (by simp) ⟨YA.1, .inr ⟨b',Jf,oa.toList,by rw[o1],o5,rfl,by simp[Gh.closed],by simpa using o6, ?_⟩⟩
  ·simp at hy;subst hy;exact⟨o2,oa,Ds,o4,rfl⟩
  ·unfold gy at o7;rw[YA.1]at o7;simp at o7;exact o7.flat YA.1
theorem yT {id gen:Nat}{s s':St}(h:(sy id gen).run s=J ((),s')):s'.env=s.env/\(∀j gn cs,look s.hp j=J (.j1 gn cs)->look s'.hp j=J (.j1 gn cs))/\∀{B:Base} {g:Gh} {w:World},HRel B g s.hp w->∃g',Lk g g'/\HRel B g' s'.hp w:=by
 simp only[sy,AM.run]at h;split at h
 ·rename_i g0 τ xs i off d gd heq;obtain⟨hb,h1⟩:=dQ h;simp only[AM.run]at h1;split at h1
  ·rename_i g2 e dp ys XJ;obtain⟨Cb,h2⟩:=dQ h1;simp only[aA,cq]at Cb;obtain rfl:=beq_eq Cb.1
   have hd:d≠id:=λe=>by simp_all
   split at h2
   ·rename_i x hx;simp only[AM.run,bY,cy,true_and]at h2;subst h2;refine⟨rfl,λj gn cs hj=> ?_,λ{B g w} R=>R.sy heq XJ hd hx⟩
    grind [id,look,de]
   ·cases h2
  ·cases h1
 ·obtain⟨_,rfl⟩:=cX h;exact⟨rfl,λ_ _ _ h=>h,λ{B g w} R=>⟨g,Lk.refl g,R⟩⟩
theorem Fo {c:Cell}{s s':St}(h:(D2 c).run s=J ((),s')):s'.env=s.env/\∀{B:Base} {g:Gh} {w:World},HRel B g s.hp w->∃g',Lk g g'/\HRel B g' s'.hp w:=by
 unfold D2 at h;split at h
 ·grind [yT]
 ·obtain⟨_,rfl⟩:=cX h;exact⟨rfl,λ{B g w} R=>⟨g,Lk.refl g,R⟩⟩
theorem CI {s s':St}{id gen:Nat}(h:(jv id).run s=J (gen,s')):s'=s/\∀gn cs,look s.hp id≠J (.j1 gn cs):=by
 simp only[jv,AM.run]at h
 cases hl:look s.hp id with
 |none=>rw[hl]at h;obtain⟨rfl,rfl⟩:=cX h;simp
 |some o=>rw[hl]at h;cases o<;>first|(obtain⟨rfl,rfl⟩:=cX h;simp)|cases h
theorem CF {B:Base}{g:Gh}{s s':St}{w:World}{id gen:Nat}(R:HRel B g s.hp w)(h:(jv id).run s=J (gen,s')):gen=g.top id:=by
 simp only[jv,AM.run]at h;rw[R.top id]
 cases hl:look s.hp id with
 |none=>grind [cX]
 |some o=>rw[hl]at h;cases o<;>first|grind [cX]|cases h
theorem RR {E:Env}{ag b:Bool}{sl:Slot}{s s':St}(h:(PC E ag sl).run s=J (b,s')):s'=s/\(b=av->ag=ar):=by
 unfold PC at h;split at h
 ·rename_i id gen i off sz
  cases hc:(E.nest&& !ag)with
  |true=>
   rw[hc]at h;simp only[ai,AM.run]at h;split at h<;>(obtain⟨_,rfl⟩:=cX h;simp_all)
  |false=>
   rw[hc]at h;obtain⟨rfl,rfl⟩:=cX h;simp
 ·obtain⟨rfl,rfl⟩:=cX h;simp
end Go.Abs
end

section
namespace Go.Abs
theorem wQ {E:Env}{t:TypeId}{b:Bool}(h:E.isAgg t=J b)(w:World):(Go.isAgg t).run E.P w= .ok b w:=by
 unfold Env.isAgg at h
 cases hu:E.P.underlying t with
 |none=>simp_all
 |some d=>
  simp only[Go.isAgg,bH,run_underlying hu,bh];cases d<;>(simp_all)
theorem run_sizeOf {E:Env}{t:TypeId}{n:Nat}(h:E.sizeOf t=J n)(w:World):(Go.sizeOf t).run E.P w= .ok n w:=by
 unfold Env.sizeOf at h;simp at h;obtain⟨i,hi,rfl⟩:=h;simp[Go.sizeOf,typeInfo,hi]
theorem CY (b o n:Nat):Addr.add ⟨b,o,ay⟩ n=⟨b,o+n,ay⟩:=by
 simp_all[Addr.add]
theorem FB {E:Env}{t:TypeId}{x:Operand}{i:Nat}{s s':St}{sl:Slot}{d:Nat}(h:(gB E d (.fieldAddr t x i)).run s=J (sl,s')):Yld E (.fieldAddr t x i) s sl s':=by
 obtain⟨s1,t1,h1,h2⟩:=AM.cV h;obtain⟨f,t2,h3,h4⟩:=AM.cV h2;obtain⟨n,t3,h5,h6⟩:=AM.cV h4;obtain⟨rfl,r1⟩:=qz h1;obtain⟨hf,rfl⟩:=eO h3;obtain⟨hn,rfl⟩:=eO h5;obtain⟨hb,h7⟩:=dQ h6
 have Vk:¬ n=0:=by have:=aP hb;omega
 obtain⟨fs,hs,av3⟩:=Ny hf
 have key:∀(b o:Nat) (w:World) (ρ:Operand->Value) (op:Oper),op.op= .fieldAddr t x i->ρ x= .pointer (J ⟨b,o,ay⟩)->
   (execOp ρ op).run E.P w= .ok (.value (.pointer (J ⟨b,o+f.offset,ay⟩))) w:=by
  intro b o w ρ op ho e;unfold execOp;rw[ho]
  apply fT
  simp[Instr.fieldAt,run_underlying hs,av3,e,a44,fieldPlace,run_sizeOf hn,Vk,CY]
 unfold fieldAddr at h7;split at h7
 ·rename_i id gen o0;obtain⟨rfl,rfl⟩:=cX h7
  refine .still λo ho B g a w R V=> ?_
  obtain⟨ht,b,o',nE,e⟩:=r1 V;exact⟨_,key b _ w a.eval o ho e,ht,b,o',nE,by simp⟩
 ·rename_i c i0 o0 sz;obtain⟨rfl,rfl⟩:=cX h7
  refine .still λo ho B g a w R V=> ?_
  obtain⟨b,o',n',cap,hc,h0,h1,e⟩:=r1 V;exact⟨_,key b _ w a.eval o ho e,b,o',n',cap,hc,h0,h1,by simp⟩
 ·rename_i xs;obtain⟨hb,h8⟩:=nY h7;obtain⟨rfl,rfl⟩:=cX h8
  refine .still λo ho B g a w R V=> ?_
  obtain⟨_,u',e,hx⟩:=r1 V
  injection e with e
  revert hb hx
  generalize(xs:List Int)=ys
  intro hb hx
  cases ys with
  |nil=>simp_all
  |cons y ys=>
   obtain⟨b,p,e',Om,XM⟩:=hx;subst e';refine⟨_,key b 0 w a.eval o ho e,y,ys,b,p,rfl,Om,XM,by simp⟩
 ·cases h7
theorem xA {g:Gh}{cs:List Cell}{us:List Value}(off n:Nat)(h:dr g cs us):dr g (cut off n cs) ((us.drop off).take n):=(h.drop off).take n
theorem zf {g:Gh}{ag:Bool}{cs:List Cell}{us:List Value}{v:Val}{s s':St}(h:(Ik ag cs).run s=J (v,s'))(hc:dr g cs us):
  s'=s/\((ag=av/\gx g v (.agg us.toArray))\/(ag=ar/\∃u,us=[u]/\gx g v u)):=by
 cases ag with
 |true=>
  obtain⟨rfl,rfl⟩:=cX h;exact⟨rfl, .inl ⟨rfl,us,rfl,hc⟩⟩
 |false=>
  simp[Ik]at h;split at h
  ·obtain⟨rfl,rfl⟩:=cX h;obtain⟨u,r,e,hu,hr⟩:=hc;subst hr;exact⟨rfl, .inr ⟨rfl,u,e,hu⟩⟩
  ·cases h
theorem HI {ag:Bool}{cs:List Cell}{v:Val}{s s':St}(h:(Ik ag cs).run s=J (v,s')):s'=s:=by
 cases ag with
 |true=>exact(cX h).2
 |false=>simp[Ik]at h;split at h<;>first|grind [cX]|cases h
theorem L8 {E:Env}{t:TypeId}{x:Operand}{i:Nat}{s s':St}{sl:Slot}{d:Nat}(h:(gB E d (.field t x i)).run s=J (sl,s')):Yld E (.field t x i) s sl s':=by
 obtain⟨v,t1,h1,h2⟩:=AM.cV h;obtain⟨rfl,r1⟩:=eZ h1;split at h2
 ·rename_i cs;obtain⟨f,t2,h3,h4⟩:=AM.cV h2;obtain⟨ag,t3,h5,h6⟩:=AM.cV h4;obtain⟨n,t4,h7,h8⟩:=AM.cV h6;obtain⟨v2,t5,h9,AH⟩:=AM.cV h8;obtain⟨hf,rfl⟩:=eO h3;obtain⟨P6,rfl⟩:=eO h5;obtain⟨hn,rfl⟩:=eO h7;obtain⟨rfl,rfl⟩:=cX AH;obtain rfl:=HI h9;obtain⟨fs,hs,av3⟩:=Ny hf
  refine .still λo ho B g a w R V=> ?_
  obtain⟨us,e,hu⟩:=r1 V;have Oi:=xA f.offset (bif ag then n else 1) hu;obtain⟨_,hv⟩:=zf h9 Oi
  rcases hv with⟨rfl,hv⟩|⟨rfl,u,qf,hv⟩
  ·refine⟨_, ?_,hv⟩;unfold execOp;rw[ho]
   apply fT
   simp only[Instr.field,bH,run_underlying hs,bh,av3,e,asAgg,a08,part,wQ P6,if_true,run_sizeOf hn,ai];simp
  ·refine⟨u, ?_,hv⟩;unfold execOp;rw[ho]
   apply fT
   have aa3:us.toArray[f.offset]?=J u:=by
    have:((us.drop f.offset).take 1)[0]?=J u:=by simp_all
    grind
   simp only[Instr.field,bH,run_underlying hs,bh,av3,e,asAgg,a08,part,wQ P6,bZ,if_false,aa3]
 ·cases h2
theorem Ft {E:Env}{t:TypeId}{x i:Operand}{s s':St}{sl:Slot}{d:Nat}(h:(gB E d (.indexAddr t x i)).run s=J (sl,s')):Yld E (.indexAddr t x i) s sl s':=by
 obtain⟨sz,t0,h0,h1⟩:=AM.cV h;obtain⟨v,t1,h2,h3⟩:=AM.cV h1;obtain⟨c,t2,h4,h5⟩:=AM.cV h3;obtain⟨iv,t3,h6,h7⟩:=AM.cV h5;obtain⟨n,t4,h8,h9⟩:=AM.cV h7;obtain⟨po,rfl⟩:=eO h0;obtain⟨rfl,r1⟩:=eZ h2;obtain⟨rfl,rfl⟩:=wM h4;obtain⟨rfl,r2⟩:=eZ h6;obtain⟨⟨k,rfl⟩,rfl⟩:=mM h8;obtain⟨hb,AH⟩:=dQ h9;simp at hb;obtain⟨u0,t6,aF2,aI1⟩:=AM.cV AH;obtain⟨ec,Ez⟩:=Fo aF2;obtain⟨len,t5,yp,uZ⟩:=AM.cV aI1;obtain⟨rfl,hl⟩:=AT yp;obtain⟨Cb,Ca⟩:=nY uZ;obtain⟨rfl,rfl⟩:=cX Ca;simp at Cb
 suffices H:∀(o:Oper),o.op= .indexAddr t x i->∀B g a w,HRel B g s'.hp w->iM g t4.env a->∃v,(execOp a.eval o).run E.P w= .ok (.value v) w/\fG g (.ea c n 0 sz) v by
  refine⟨ec,λo ho B g a w R V=> ?_⟩;obtain⟨g',l,R'⟩:=Ez R;obtain⟨v,k1,k2⟩:=H o ho B g' a w R' (λt s hs=>(V t s hs).mono l.le);exact⟨v,w,g',k1,l.le,R',k2⟩
 intro o ho B g a w R V
 rcases hl R (r1 V)with⟨e,_⟩|⟨_,A,cap,e,hA⟩
 ·simp_all
 ·obtain⟨b,o',rfl⟩:=hA (by omega);have e2:=jt (r2 V)
  rcases Qx hb.1 with⟨_,e3⟩|⟨el,e3,_⟩
  ·simp_all
  ·have Ox:E.sizeOf el=J sz:=by
    simp_all[Env.elem]
   refine⟨.pointer (J ⟨b,o'+n.toNat*sz,ay⟩), ?_,b,o',len,cap,by rw[<-e];exact r1 V,Cb.1,by omega,by simp⟩;unfold execOp;rw[ho]
   apply fT
   have hc:0<=n/\n<(len:Int):=Cb;simp only[Instr.indexAt,e2,asIntOf,bH,a08,bh,run_underlying e3,e,Sem.run_ite,ak hc,run_sizeOf Ox,CY]
def FX (w:World)(b o:Nat)(us:List Value):Prop:=∀j u,us[j]?=J u->w.cell? ⟨b,o+j,ay⟩=J u
theorem jE {w:World}{b o:Nat}{arr:Array Value}{ty:TypeId}{fr:Nat×Nat}(h:w.heap[b]?=J (.cells arr ty fr))(n:Nat):FX w b o ((arr.toList.drop o).take n):=by
 intro j u hj;simp_all[cK,cL,World.cell?]
theorem GQ {E:Env}{t:TypeId}{ag:Bool}{n:Nat}{w:World}{b o:Nat}{us:List Value}(P6:E.isAgg t=J ag)(hn:E.sizeOf t=J n)(hl:us.length=bif ag then n else 1)
  (h:FX w b o us):(a66 t (.pointer (J ⟨b,o,ay⟩))).run E.P w= .ok (if ag then .agg us.toArray else us.getD 0 undef) w:=by
 simp only[a66,a44,loadVar,bH,a08,bh,wQ P6,Sem.run_ite]
 cases ag with
 |true=>
  subst hl;have:=run_loadCells_list (P:=E.P) (w:=w) ⟨b,o,ay⟩ us (λj v hj=>by rw[CY];exact h j v hj);simp[run_sizeOf hn,this]
 |false=>
  match us,hl with
  |[u],_=>
   have:=h 0 u rfl;simp_all
theorem Lin.ay6 {g:Gh}{τ:Ty}{x:τ.den}{us:List Value}(h:Rc g.gA τ x us):dr {g with dj:=g.gA} (unpack τ x) us:=oC (g:={g with dj:=g.gA}) h
theorem Qy {g g':Gh}(ht:g'.top=g.top)(nE:g'.cv=g.cv):∀{ps:List (Nat×Nat)} {vs:List Value},uW g ps vs->uW g' ps vs
 |[],_,h=>h
 |_::_,_,⟨b,o,v,e,h1,h2,h3⟩=>⟨b,o,v,e,by simp_all,by simp_all,Qy ht nE h3⟩
theorem TW {g g':Gh}(ht:g'.top=g.top)(nE:g'.cv=g.cv):∀{cs:List Cell} {us:List Value},JY cs=ar->dr g cs us->dr g' cs us:=by
 intro cs
 induction cs with
 |nil=>intro us _ h;exact h
 |cons c cs ih=>
  intro us hs ⟨u,r,e,hu,hr⟩;simp only[JY,List.any_cons,Bool.or_eq_false_iff]at hs;refine⟨u,r,e, ?_,ih hs.2 hr⟩
  cases c with
  |v τ x=>
   obtain⟨h1,h2⟩:=hu;refine⟨h1, ?_⟩
   cases τ with
   |sl e=>simp_all
   |cl=>simp_all
   |un=>grind [Ty.one]
   |pr a b=>grind [Ty.one]
   |int k=>exact h2
   |bool=>exact h2
   |str=>exact h2
  |nil=>exact hu
  |own id gen=>exact⟨by rw[ht];exact hu.1,by rw[nE];exact hu.2.1,hu.2.2⟩
  |ptr id gen off=>obtain⟨a,b,o,c,d⟩:=hu;exact⟨by simp_all,b,o,by simp_all,d⟩
  |np=>exact hu
  |nf=>exact hu
  |fn f lh=>
   obtain⟨vs,e,hv⟩:=hu;exact⟨vs,e,Qy ht nE hv⟩
  |err b=>exact hu
theorem PI {r:Rd}{e:Ty}{xs:List e.den}{L:List Value}{o:Nat}{i:Int}(h:Els r e xs L o)(h0:0<=i)(h1:i.toNat<xs.length):Rc r e (at_ xs i) ((L.drop (o+i.toNat*e.size)).take e.size):=by
 have:=h i.toNat h1;simp_all[at_,aG,aJ]
theorem vO {α:Type}(L:List α)(o sz off n:Nat)(h:off+n<=sz):(((L.drop o).take sz).drop off).take n=(L.drop (o+off)).take n:=by
 grind [cr,b8]
theorem Ho {E:Env}{n:Nat}{sl:Slot}{cs:List Cell}{s s':St}(h:(C6 E n sl).run s=J (cs,s')):
  s'.env=s.env/\∀{B:Base} {g:Gh} {w:World} {u:Value},(∀k c,E.fH k=J [c]->∃u,g.dj k=J [u]/\dR g c u)->HRel B g s.hp w->fG g sl u->
   ∃b o us g',u= .pointer (J ⟨b,o,ay⟩)/\FX w b o us/\us.length=n/\Le g g'/\HRel B g' s'.hp w/\dr g' cs us:=by
 unfold C6 at h;split at h
 ·
  rename_i id gen off;simp only[AM.run]at h;split at h
  ·rename_i g0 aB2 heq;obtain⟨hb,h'⟩:=dQ h;simp only[aA]at hb;obtain rfl:=beq_eq hb.1;have hle:off+n<=aB2.length:=aP hb.2;obtain⟨rfl,rfl⟩:=cX h';refine⟨rfl,λ{B g w u} _ R hu=> ?_⟩;obtain⟨ht,b,o,nE,e⟩:=hu;obtain⟨b',o',arr,ty,L,k1,k2,k3,k4,k5,k6,k7⟩:=R.gE _ _ heq;rw[nE]at k1
   injection k1 with k1;injection k1 with k1;injection k1 with k1 aG2
   subst k1;subst aG2;have hL:L.length=aB2.length:=k4.length;have ho:o<=(g.outer id).length:=(by omega)
   have e1:(arr.toList.drop (o+off)).take n=(L.drop off).take n:=by
    rw[k5,aI,List.drop_append,bl,a07 ho];rw[cd (by rw[bl];omega)];rw[show o+off - o=off from by omega,bS,bI (by omega),cf (by rw[bL];omega)]
   refine⟨b,o+off,(L.drop off).take n,g,e,by rw[<-e1];exact jE k3 n,by rw[bl,bL];omega,Le.refl g,R,xA off n k4⟩
  ·cases h
 ·
  rename_i τ xs i off sz;obtain⟨hb,h'⟩:=dQ h;simp only[aA]at hb;have po:=beq_eq hb.1;have hle:off+n<=τ.size:=aP hb.2;obtain⟨rfl,rfl⟩:=cX h';refine⟨rfl,λ{B g w u} _ R hu=> ?_⟩;obtain⟨b,o,n',cap,hc,h0,h1,e⟩:=hu;obtain⟨_,A,c,e1,_,hx⟩:=hc
  injection e1 with e1
  injection e1 with e2 e3 e4
  subst po
  rcases hx with hx|⟨b',o',L,eA,hL,hi⟩
  ·exfalso
   have:(xs:List τ.den)=[]:=hx;rw[e3,this]at h1;simp at h1
  ·rw[eA]at e2
   injection e2 with e2;injection e2 with e5 e6
   subst e5;subst e6;obtain⟨_,_,arr,ty,fr,ha,ad1⟩:=R.dj _ _ hL;have qJ:Els g.dj τ xs L o:=hi;have Rr:=PI qJ h0 (by rw[<-e3];exact h1);refine⟨b,o+i.toNat*τ.size+off,((((L.drop (o+i.toNat*τ.size)).take τ.size).drop off).take n),g,e, ?_, ?_,Le.refl g,R,xA off n (oC Rr)⟩
   ·rw[vO _ _ _ _ _ hle,<-ad1];exact jE ha n
   ·rw[bl,bL,Rr.length];omega
 ·
  rename_i id gen i off sz;simp only[AM.run]at h;split at h
  ·rename_i g0 τ xs heq;obtain⟨hb,h'⟩:=dQ h;simp only[aA]at hb;obtain rfl:=beq_eq hb.1.1;have po:=beq_eq hb.1.2;have hle:off+n<=τ.size:=aP hb.2;obtain⟨rfl,rfl⟩:=cX h';refine⟨rfl,λ{B g w u} _ R hu=> ?_⟩;obtain⟨b,o,n',cap,hc,h0,h1,e⟩:=hu;obtain⟨A,c,e1,_,hx⟩:=R.gE _ _ heq
   injection e1 with e1
   have e1:=hc.2.1.trans e1
   injection e1 with e2 e3 e4
   subst po
   rcases hx with hx|⟨b',o',L,eA,hL,hi⟩
   ·exfalso
    rw[e3,hx]at h1;simp at h1
   ·rw[eA]at e2
    injection e2 with e2;injection e2 with e5 e6
    subst e5;subst e6;obtain⟨_,_,arr,ty,fr,ha,ad1⟩:=R.dj _ _ hL;have qJ:Els g.dj τ xs L o:=hi;have Rr:=PI qJ h0 (by rw[<-e3];exact h1);refine⟨b,o+i.toNat*τ.size+off,((((L.drop (o+i.toNat*τ.size)).take τ.size).drop off).take n),g,e, ?_, ?_,Le.refl g,R,xA off n (oC Rr)⟩
    ·rw[vO _ _ _ _ _ hle,<-ad1];exact jE ha n
    ·rw[bl,bL,Rr.length];omega
  ·rename_i g0 τ deep xs heq;obtain⟨hb,h'⟩:=dQ h;simp only[aA]at hb;obtain rfl:=beq_eq hb.1.1;have po:=beq_eq hb.1.2;have hle:off+n<=τ.size:=aP hb.2;subst po
   have fin:∀{B:Base} {g g1:Gh} {hp1:List (Nat×Obj)} {w:World} {u:Value} {r:Rd} {b o n' cap:Nat} {arr:Array Value} {ty:TypeId},Le g g1->HRel B g1 hp1 w->
     dR g (.own id g0) (.slice (J ⟨b,o,ay⟩) n' cap)->0<=i->i.toNat<n'->u= .pointer (J ⟨b,o+i.toNat*τ.size+off,ay⟩)->
     g.cv id g0= .slice (J ⟨b,0,ay⟩) xs.length cap->w.heap[b]?=J (.cells arr ty (0,0))->Els r τ xs arr.toList 0->
     (∀us,Rc r τ (at_ xs i) us->dr g1 (cut off n (unpack τ (at_ xs i))) ((us.drop off).take n))->
     ∃b o us g',u= .pointer (J ⟨b,o,ay⟩)/\FX w b o us/\us.length=n/\Le g g'/\HRel B g' hp1 w/\dr g' (cut off n (unpack τ (at_ xs i))) us:=by
    intro B g g1 hp1 w u r b o n' cap arr ty l R1 hc h0 h1 e nE ha qJ kG;have e1:=hc.2.1.trans nE
    injection e1 with e2 e3 e4
    injection e2 with e2;injection e2 with e5 e6
    subst e6;have Rr:=PI qJ h0 (by rw[<-e3];exact h1);refine⟨b,0+i.toNat*τ.size+off,((((arr.toList.drop (0+i.toNat*τ.size)).take τ.size).drop off).take n),g1,e, ?_, ?_,l,R1,kG _ Rr⟩
    ·rw[vO _ _ _ _ _ hle];exact jE ha n
    ·rw[bl,bL,Rr.length];omega
   have U0:∀{B:Base} {g:Gh} {hp1:List (Nat×Obj)} {w:World} {u:Value} {b o n' cap:Nat} {dp:Bool},pg g w id (.own g0 τ dp xs)->dR g (.own id g0) (.slice (J ⟨b,o,ay⟩) n' cap)->
     g.cv id g0= .slice (J ⟨b,0,ay⟩) xs.length cap/\∃arr ty,w.heap[b]?=J (.cells arr ty (0,0))/\gy g id τ dp xs arr.toList:=by
    intro B g hp1 w u b o n' cap dp hO hc
    rcases hO with⟨k1,_⟩|⟨b',Jf,arr,ty,k1,_,_,k4,_,_,k7⟩
    ·have:=hc.2.1.trans k1;cases this
    ·have e1:=hc.2.1.trans k1
     injection e1 with e2 e3 e4
     injection e2 with e2;injection e2 with e5 e6
     subst e5;subst e4;exact⟨k1,arr,ty,k4,k7⟩
   by_cases hd:(deep&&JY (cut off n (unpack τ (at_ xs i))))=av
   ·simp only[hd,ai,AM.run]at h';simp at h';obtain⟨rfl,rfl⟩:=h';refine⟨rfl,λ{B g w u} _ R hu=> ?_⟩;obtain⟨b,o,n',cap,hc,h0,h1,e⟩:=hu;obtain⟨g1,l,R1⟩:=R.QX heq;have EA:=hc.mono l.le;obtain⟨nE,arr,ty,ha,qJ⟩:=U0 (B:=B) (hp1:=s.hp) (u:=u) (R1.gE _ _ (du _ _ _)) EA
    have Iw:g.cv id g0= .slice (J ⟨b,0,ay⟩) xs.length cap:=by rw[<-nE];exact(l.le.cv _ _ (jm R heq)).symm
    refine fin l.le R1 hc h0 h1 e Iw ha (r:=g1.dj) (by unfold gy at qJ;simpa using qJ) (λus Rr=>xA off n (oC Rr))
   ·have aF3:(deep&&JY (cut off n (unpack τ (at_ xs i))))=false:=(by simpa using hd);simp[aF3]at h';obtain⟨rfl,rfl⟩:=cX h';refine⟨rfl,λ{B g w u} _ R hu=> ?_⟩;obtain⟨b,o,n',cap,hc,h0,h1,e⟩:=hu;obtain⟨nE,arr,ty,ha,qJ⟩:=U0 (B:=B) (hp1:=s'.hp) (u:=u) (R.gE _ _ heq) hc
    by_cases Yf:(deep&& !τ.flat)=av
    ·unfold gy at qJ;rw[ak Yf]at qJ;obtain⟨nb,hl,_⟩:=qJ
     have as2:deep=true:=by simp at Yf;exact Yf.1
     have F9:JY (cut off n (unpack τ (at_ xs i)))=false:=by rw[as2]at aF3;simpa using aF3
     refine fin (Le.refl g) R hc h0 h1 e nE ha (r:=g.gA) hl.els (λus Rr=>TW (g:={g with dj:=g.gA}) (g':=g) rfl rfl F9 (xA off n (Lin.ay6 Rr)))
    ·unfold gy at qJ;rw[aj Yf]at qJ;exact fin (Le.refl g) R hc h0 h1 e nE ha (r:=g.dj) qJ (λus Rr=>xA off n (oC Rr))
  ·cases h
 ·rename_i xs;obtain⟨hb,h'⟩:=dQ h;obtain rfl:=beq_eq hb;obtain⟨rfl,rfl⟩:=cX h';refine⟨rfl,λ{B g w u} _ R hu=> ?_⟩;obtain⟨x,VL,b,p,rfl,Om,XM,e⟩:=hu;obtain⟨_,_,arr,ty,fr,ha,hL⟩:=R.dj _ _ Om;refine⟨b,0,[.int .i64 x],g,e, ?_,rfl,Le.refl g,R,_,[],rfl,⟨rfl,rfl⟩,rfl⟩;have:=jE (o:=0) ha 1;rw[hL]at this;exact this
 ·rename_i xs;obtain⟨hb,h'⟩:=dQ h;obtain rfl:=beq_eq hb;obtain⟨rfl,rfl⟩:=cX h';refine⟨rfl,λ{B g w u} _ R hu=> ?_⟩;obtain⟨x,VL,b,p,rfl,Om,XM,e⟩:=hu;obtain⟨_,_,arr,ty,fr,ha,hL⟩:=R.dj _ _ Om;refine⟨b,1,[p],g,e, ?_,rfl,Le.refl g,R,p,[],rfl,⟨rfl,p,rfl,XM⟩,rfl⟩;have:=jE (o:=1) ha 1;rw[hL]at this;exact this
 ·rename_i k;obtain⟨hb,h'⟩:=dQ h;obtain rfl:=beq_eq hb;obtain⟨c,t,h1,h2⟩:=AM.cV h';obtain⟨hg,rfl⟩:=eO h1;obtain⟨rfl,rfl⟩:=cX h2;refine⟨rfl,λ{B g w u} al7 R hu=> ?_⟩
  have hg:E.fH k=J [c]:=by
   simp only[bB]at hg;obtain⟨cs,h3,h4⟩:=hg;split at h4
   ·injection h4 with h4;subst h4;exact h3
   ·cases h4
  obtain⟨v,hv,hr⟩:=al7 k c hg;obtain⟨_,_,arr,ty,fr,ha,hL⟩:=R.dj _ _ hv;have hu:u=_:=hu;refine⟨k,0,[v],g,hu, ?_,rfl,Le.refl g,R,v,[],rfl,hr,rfl⟩;have:=jE (o:=0) ha 1;rw[hL]at this;exact this
 ·cases h
theorem O0 {E:Env}{t:TypeId}{x:Operand}{s s':St}{sl:Slot}{d:Nat}(h:(Pt E d t x).run s=J (sl,s')):
  s'.env=s.env/\∀(o:Oper),o.op= .load t x->∀B g a w,(∀k c,E.fH k=J [c]->∃u,g.dj k=J [u]/\dR g c u)->HRel B g s.hp w->iM g s.env a->
  ∃v w' g',(execOp a.eval o).run E.P w= .ok (.value v) w'/\Le g g'/\HRel B g' s'.hp w'/\fG g' sl v:=by
 obtain⟨s1,t1,h1,h2⟩:=AM.cV h;obtain⟨ag,t2,h3,h4⟩:=AM.cV h2;obtain⟨rfl,r1⟩:=qz h1;obtain⟨P6,rfl⟩:=eO h3;obtain⟨ne,t6,aT2,VN⟩:=AM.cV h4;obtain⟨rfl,yu⟩:=RR aT2
 cases ne with
 |true=>
  obtain rfl:=yu rfl;have VN:(HQ d s1).run t6=J (sl,s'):=VN;unfold HQ at VN;split at VN
  ·rename_i id gen i off sz _;simp only[Li,AM.run]at VN;split at VN
   ·rename_i g0 τ xs heq;obtain⟨hb,h5⟩:=dQ VN;simp only[aA,cq]at hb;obtain⟨⟨⟨b1,b2⟩,b3⟩,b4⟩:=hb;obtain rfl:=beq_eq b1;obtain rfl:=beq_eq b2
    have hd:d≠id:=λe=>by simp_all
    split at h5
    ·rename_i e ys hs;split at h5
     ·rename_i x' hx;obtain⟨gd,t7,h6,h7⟩:=AM.cV h5;obtain⟨rfl,OD⟩:=CI h6;obtain⟨rfl,rfl⟩:=h7;refine⟨rfl,λo ho B g a w hG R V=> ?_⟩;obtain⟨b,o',n,cap,hc,h0,SV,e1⟩:=r1 V;have as4:gd=g.top d:=CF R h6;subst as4
      have hlen:n=xs.length:=by
       rcases R.gE _ _ heq with⟨k1,k2⟩|⟨b',Jf,arr,ty,k1,_⟩
       ·have:=hc.2.1.trans k1;injection this with e1 e2 e3;subst k2;simpa using e2
       ·have:=hc.2.1.trans k1;injection this with e1 e2 e3
      subst hlen;obtain⟨g',b',Jf,arr,ty,u,l,k1,k2,k3,k4,R'⟩:=R.Li heq b3 hd h0 SV hs hx;have hh:=hc.2.1.trans k1
      injection hh with ak9 hh2 hh3
      injection ak9 with ak9;injection ak9 with ak9 aR6
      subst ak9;subst aR6;refine⟨u,w,g', ?_,l.le,R',k4⟩;unfold execOp;rw[ho]
      apply fT
      rw[e1]
      have xa:w.cell? ⟨b,0+i.toNat*τ.size+off,ay⟩=J u:=by
       have:arr[i.toNat*τ.size+off]?=J u:=by rw[<-Array.getElem?_toList];exact k3
       simp[World.cell?,k2,this]
      have aa0:w.cell? ⟨b,i.toNat*τ.size+off,ay⟩=J u:=by rw[cj]at xa;exact xa
      simp only[a66,a44,loadVar,bH,a08,bh,wQ P6,Sem.run_ite];simp[aa0]
     ·cases h5
    ·cases h5
   ·cases VN
  ·cases VN
 |false=>
 obtain⟨n,t3,h5,h6⟩:=AM.cV VN;obtain⟨cs,t4,h7,h8⟩:=AM.cV h6;obtain⟨v,t5,h9,AH⟩:=AM.cV h8;obtain⟨hn,rfl⟩:=eO h5;obtain⟨rfl,rfl⟩:=cX AH;obtain rfl:=HI h9;obtain⟨he,hr⟩:=Ho h7;refine⟨he,λo ho B g a w hG R V=> ?_⟩;obtain⟨b,o',us,g',e,IE,hlen,l,R',hc⟩:=hr hG R (r1 V);obtain⟨_,hv⟩:=zf h9 hc;have EB:=GQ (E:=E) (w:=w) P6 hn hlen IE
 rcases hv with⟨rfl,hv⟩|⟨rfl,u,rfl,hv⟩
 ·refine⟨_,w,g', ?_,l,R',hv⟩;unfold execOp;rw[ho]
  apply fT
  rw[e];exact EB
 ·refine⟨u,w,g', ?_,l,R',hv⟩;unfold execOp;rw[ho]
  apply fT
  rw[e];exact EB
end Go.Abs
end

section
namespace Go.Abs
theorem Lin.length {r:Rd}{τ:Ty}{x:τ.den}{us:List Value}{nb:List Nat}(h:Lin r τ x us nb):us.length=τ.size:=h.rc.length
theorem Els.head {r:Rd}{e:Ty}{x:e.den}{xs:List e.den}{L:List Value}:Els r e (x::xs) L 0↔Rc r e x (L.take e.size)/\Els r e xs (L.drop e.size) 0:=by
 constructor
 ·intro h;refine⟨by have:=h 0 (by simp);simp only[Nat.zero_mul,Nat.add_zero,cc]at this;exact this,λi hi=> ?_⟩;have:=h (i+1) (by simpa using hi);simp only[List.getElem_cons_succ]at this;rw[b8]
  rwa[show e.size+(0+i*e.size)=0+(i+1)*e.size from by rw[bQ];omega]
 ·rintro⟨h1,h2⟩ i hi
  cases i with
  |zero=>simpa using h1
  |succ i=>
   have:=h2 i (by simpa using hi);rw[b8]at this;simp only[List.getElem_cons_succ]
   rwa[show e.size+(0+i*e.size)=0+(i+1)*e.size from by rw[bQ];omega]at this
theorem Els.nil {r:Rd}{e:Ty}{L:List Value}:Els r e [] L 0:=λi hi=>absurd hi (by simp)
theorem Els.len {r:Rd}{e:Ty}:∀{xs:List e.den} {L:List Value},Els r e xs L 0->xs.length*e.size<=L.length
 |[],_,_=>by simp
 |x::xs,L,h=>by
  obtain⟨h1,h2⟩:=Els.head.1 h;have a:=h1.length;have b:=h2.len;rw[bl]at a;rw[bL]at b;rw[az,bQ];omega
theorem Els.pre {r:Rd}{e:Ty}:∀{xs:List e.den} {L M:List Value},(∀k,k=xs.length*e.size->L.take k=M.take k)->Els r e xs L 0->Els r e xs M 0
 |[],_,_,_,_=>Els.nil
 |x::xs,L,M,hp,h=>by
  obtain⟨h1,h2⟩:=Els.head.1 h;have hp:=hp _ rfl;rw[az,bQ,Nat.one_mul]at hp;refine Els.head.2 ⟨?_, ?_⟩
  ·have:L.take e.size=M.take e.size:=by
    have:=congrArg (a78 e.size) hp
    rwa[b9,b9,a07 (by omega)]at this
   rwa[<-this]
  ·refine h2.pre (λk hk=> ?_);subst hk;have:=congrArg (a77 e.size) hp
   rwa[cr,cr,Nat.add_sub_cancel]at this
theorem Els.append {r:Rd}{e:Ty}:∀{xs ys:List e.den} {L M:List Value},Els r e xs L 0->Els r e ys M 0->L.length=xs.length*e.size->Els r e (xs++ys) (L++M) 0
 |[],ys,L,M,_,h2,hl=>by
  have:L=[]:=bn (by simpa using hl);subst this;simpa using h2
 |x::xs,ys,L,M,h1,h2,hl=>by
  obtain⟨a,b⟩:=Els.head.1 h1;rw[az,bQ,Nat.one_mul]at hl;refine Els.head.2 ⟨?_, ?_⟩
  ·rwa[cf (by omega)]
  ·show Els r e (xs++ys) _ 0;rw[bI (by omega)];exact b.append h2 (by rw[bL];omega)
theorem Els.set {r:Rd}{e:Ty}{x:e.den}{us:List Value}(hx:Rc r e x us):∀{xs:List e.den} {L:List Value} {i:Nat},Els r e xs L 0->i<xs.length->
  Els r e (xs.set i x) (L.take (i*e.size)++us++L.drop (i*e.size+us.length)) 0
 |[],_,_,_,hi=>absurd hi (by simp)
 |y::ys,L,i,h,hi=>by
  obtain⟨h1,h2⟩:=Els.head.1 h;have hl:=hx.length;have nJ:=h1.length;rw[bl]at nJ
  cases i with
  |zero=>
   simp only[List.set_cons_zero,Nat.zero_mul,List.take_zero,bS,cj];refine Els.head.2 ⟨?_, ?_⟩
   ·rw[<-hl,a45];exact hx
   ·rw[<-hl,cN];rw[hl];exact h2
  |succ i=>
   simp only[List.set_cons_succ];have ih:=h2.set hx (i:=i) (by simpa using hi)
   have e1:(i+1)*e.size=e.size+i*e.size:=by rw[bQ];omega
   refine Els.head.2 ⟨?_, ?_⟩
   ·rw[aI,cf (by rw[bl];omega),b9,a07 (by omega)];exact h1
   ·rw[aI,bI (by rw[bl];omega),cr];rw[e1,Nat.add_sub_cancel_left,<-aI];rw[b8]at ih;rw[Nat.add_assoc];exact ih
theorem gZ.pre {r:Rd}{e:Ty}:∀{xs:List e.den} {L M:List Value} {nb:List Nat},(∀k,k=xs.length*e.size->L.take k=M.take k)->gZ r e xs L nb->gZ r e xs M nb
 |[],_,_,_,_,h=>h
 |x::xs,L,M,_,hp,⟨n1,n2,en,h1,h2⟩=>by
  have hp:=hp _ rfl;rw[az,bQ,Nat.one_mul]at hp;refine⟨n1,n2,en, ?_, ?_⟩
  ·have:L.take e.size=M.take e.size:=by
    have:=congrArg (a78 e.size) hp
    rwa[b9,b9,a07 (by omega)]at this
   rwa[<-this]
  ·refine h2.pre (λk hk=> ?_);subst hk;have:=congrArg (a77 e.size) hp
   rwa[cr,cr,Nat.add_sub_cancel]at this
theorem gZ.append {r:Rd}{e:Ty}:∀{xs ys:List e.den} {L M:List Value} {n m:List Nat},gZ r e xs L n->gZ r e ys M m->L.length=xs.length*e.size->gZ r e (xs++ys) (L++M) (n++m)
 |[],ys,L,M,n,m,h1,h2,hl=>by
  have:L=[]:=bn (by simpa using hl);have h1:n=[]:=h1;subst this;subst h1;simpa using h2
 |x::xs,ys,L,M,_,m,⟨n1,n2,en,a,b⟩,h2,hl=>by
  subst en;rw[az,bQ,Nat.one_mul]at hl;refine⟨n1,n2++m,by simp, ?_, ?_⟩
  ·rwa[cf (by omega)]
  ·show gZ r e (xs++ys) _ _;rw[bI (by omega)];exact b.append h2 (by rw[bL];omega)
theorem gZ.set {r:Rd}{e:Ty}:∀{xs:List e.den} {L:List Value} {i:Nat} {nb:List Nat},gZ r e xs L nb->(hi:i<xs.length)->
  ∃na n0 nc,nb=na++n0++nc/\Lin r e xs[i] ((L.drop (i*e.size)).take e.size) n0/\
   ∀{r':Rd} {x:e.den} {us:List Value} {n1:List Nat},(∀b∈na++nc,∀L,r b=J L->r' b=J L)->Lin r' e x us n1->
    gZ r' e (xs.set i x) (L.take (i*e.size)++us++L.drop (i*e.size+us.length)) (na++n1++nc)
 |[],_,_,_,_,hi=>absurd hi (by simp)
 |y::ys,L,i,_,⟨n1,n2,en,h1,h2⟩,hi=>by
  subst en;have nJ:=h1.length;rw[bl]at nJ
  cases i with
  |zero=>
   refine⟨[],n1,n2,by simp,by simpa using h1,λ{r' x us au2} hm hx=> ?_⟩;have hl:=hx.length;simp only[List.set_cons_zero,Nat.zero_mul,List.take_zero,bS,cj];refine⟨au2,n2,rfl, ?_, ?_⟩
   ·rw[<-hl,a45];exact hx
   ·rw[<-hl,cN,hl];exact h2.mono (λb hb L hL=>hm b (by simpa using hb) L hL)
  |succ i=>
   obtain⟨na,n0,nc,e2,h3,h4⟩:=h2.set (i:=i) (by simpa using hi);subst e2
   have e1:(i+1)*e.size=e.size+i*e.size:=by rw[bQ];omega
   refine⟨n1++na,n0,nc,by simp, ?_,λ{r' x us au2} hm hx=> ?_⟩
   ·rw[b8]at h3;rw[e1];exact h3
   ·have ih:=h4 (r':=r') (x:=x) (us:=us) (n1:=au2) (λb hb L hL=>hm b (by rcases aL.1 hb with h|h<;>simp[h]) L hL) hx;refine⟨n1,na++au2++nc,by simp, ?_, ?_⟩
    ·rw[aI,cf (by rw[bl];omega),b9,a07 (by omega)];exact h1.mono (λb hb L hL=>hm b (by simp[hb]) L hL)
    ·show gZ r' e (ys.set i x) _ _;rw[aI,bI (by rw[bl];omega),cr];rw[e1,Nat.add_sub_cancel_left,<-aI];rw[b8]at ih;rw[Nat.add_assoc];exact ih
end Go.Abs
end

section
namespace Go.Abs
open Classical in
noncomputable def Gh.take (g:Gh)(id:Nat)(nb:List Nat):Gh:={g with fL:=λx=>if x∈nb then J (id+1)else g.fL x}
theorem Le.take (g:Gh)(id:Nat)(nb:List Nat):Le g (g.take id nb):=⟨λ_ _ h=>h,λ_=>aC _,λ_ _ _=>rfl⟩
theorem HRel.write {B:Base}{g:Gh}{hp:List (Nat×Obj)}{w w':World}(R:HRel B g hp w){id b:Nat}{nb:List Nat}{o o':Obj}
  (ho:look hp id=J o) (FN:o'.gen=o.gen) (hl:g.fL b=J (id+1)) (hn:g.gA b=ay) (hw:Turned w w' b) (Be:∀x∈nb,g.fL x=J 0)
  (Vc:pg (g.take id nb) w' id o'):HRel B (g.take id nb) ((id,o')::hp) w':=by
 have hle:=Le.take g id nb;refine⟨λi=> ?_,λi oi hi=> ?_,λx L hx=> ?_,λx L hx=> ?_,λx hx=> ?_,R.kH,λx hx SN hi=> ?_,bX R.size hw.size,hw.os.trans R.os,hw.tape.trans R.tape,hw.output.trans R.output,λx L hx=> ?_⟩
 ·show g.top i=_;rw[R.top i]
  grind [id,du,de]
 ·by_cases e:id=i
  ·simp_all[du]
  ·rw[de _ _ e]at hi;refine(R.gE i oi hi).tr hle (λx hx=> ?_) rfl (by rw[R.top i,hi];simp)
   have zG:x≠b:=λe'=>by simp_all
   have Ai:x∉nb:=λhm=>by simp_all
   exact⟨by simp_all[Gh.take],rfl,hw.other x zG⟩
 ·have hy:g.dj x=J L:=hx;obtain⟨a1,a2,arr,ty,fr,a3,a4⟩:=R.dj x L hy
  have zG:x≠b:=λe=>by simp_all
  have Ai:x∉nb:=λhm=>by simp_all
  exact⟨by simp_all[Gh.take],a2,arr,ty,fr,(hw.other x zG).trans a3,a4⟩
 ·have hy:g.gA x=J L:=hx;obtain⟨a1,arr,ty,a3,a4⟩:=R.gA x L hy
  have zG:x≠b:=λe=>by simp_all
  refine⟨?_,arr,ty,(hw.other x zG).trans a3,a4⟩
  grind [Gh.take]
 ·by_cases Ai:x∈nb
  ·exact aR (R.gD x (by simp_all)) hw.size
  ·have VC:g.fL x≠none:=by simp_all[Gh.take]
   exact aR (R.gD x VC) hw.size
 ·obtain⟨f1,f2,f3⟩:=R.frame x hx SN hi
  have zG:x≠b:=λe=>by simp_all
  have Ai:x∉nb:=λhm=>by simp_all
  exact⟨by simp_all[Gh.take],f2,(hw.other x zG).trans f3⟩
 ·have zG:x≠b:=λe=>by
   have:=(R.dj x L (R.kH x L hx)).1;simp_all
  exact(hw.other x zG).trans (R.fix x L hx)
theorem rE {w:World}{b:Nat}{arr:Array Value}{ty:TypeId}{fr:Nat×Nat}(h:w.heap[b]?=J (.cells arr ty fr))(cs:Array Value):Turned w (w.setRow b cs) b:=by
 refine⟨λx hx=>setRow_other w b x cs hx,by simp, ?_,rfl,rfl,rfl⟩
 grind [size_setRow,bG,Array.getElem?_eq_none]
theorem Mw {u:Value}(h:oc u=av):u.oneCell'=true:=by cases u<;>simp_all[oc,Value.oneCell']
theorem dr.Zt {g:Gh}:∀{cs:List Cell} {us:List Value},dr g cs us->∀u∈us,u.oneCell'=av
 |[],_,h,u,hu=>by have h:_=_:=h;simp_all
 |_::_,_,⟨v,r,e,hv,hr⟩,u,hu=>by
  subst e
  rcases bA.1 hu with hu|hu
  ·subst hu;exact Mw hv.F2
  ·exact hr.Zt u hu
theorem dr.set {g:Gh}{new:List Cell}{us:List Value}(hn:dr g new us){cs:List Cell}{L:List Value}(off:Nat)(h:dr g cs L):
  dr g (setCells off new cs) (L.take off++us++L.drop (off+us.length)):=by
 unfold setCells;rw[<-hn.length];exact((h.take off).append hn).append (h.drop _)
theorem nB {r:Rd}{g:Gh}{c:Cell}{u:Value}(hc:dR g c u):∀{τ:Ty} {x y:τ.den} {off:Nat} {us:List Value},iV τ x off c=J y->Rc r τ x us->
  off<us.length/\Rc r τ y (us.set off u)
 | .pr a b,x,y,off,us,h,⟨c1,c2,e,h1,h2⟩=>by
  subst e;simp[iV]at h;have l1:=h1.length;have l2:=h2.length
  cases hb:cE off a.size with
  |true=>
   rw[hb]at h;simp at h;obtain⟨z,hz,rfl⟩:=h;obtain⟨h3,h4⟩:=nB hc hz h1;refine⟨by grind,_,_, ?_,h4,h2⟩;simp_all
  |false=>
   rw[hb]at h;simp at h;obtain⟨z,hz,rfl⟩:=h;obtain⟨h3,h4⟩:=nB hc hz h2
   have LY:a.size<=off:=by
    grind [cE,Nat.blt_eq]
   refine⟨by grind,_,_, ?_,h1,h4⟩;simp_all
 | .int k,x,y,off,us,h,hx=>by
  subst hx
  cases off with
  |succ n=>simp[iV]at h
  |zero=>
   cases c with
   |v τ' z=> ?_
   |_=>grind [iV]
   cases τ' with
   |int k'=> ?_
   |_=>grind [iV]
   simp only[iV]at h;split at h
   ·rename_i ek;subst ek
    injection h with h;subst h
    exact⟨by simp,by have:=jt hc;subst this;rfl⟩
   simp_all
 | .bool,x,y,off,us,h,hx=>by
  subst hx
  cases off with
  |succ n=>simp[iV]at h
  |zero=>
   cases c with
   |v τ' z=> ?_
   |_=>grind [iV]
   cases τ' with
   |bool=> ?_
   |_=>grind [iV]
   injection h with h;subst h
   exact⟨by simp,by have:=oD hc;subst this;rfl⟩
 | .str,x,y,off,us,h,hx=>by
  obtain⟨s,e,_⟩:=hx;subst e
  cases off with
  |succ n=>simp[iV]at h
  |zero=>
   cases c with
   |v τ' z=> ?_
   |_=>grind [iV]
   cases τ' with
   |str=> ?_
   |_=>grind [iV]
   simp only[iV]at h
   injection h with h;subst h
   obtain⟨s',e,l⟩:=qC hc;exact⟨by simp,s',by grind,l⟩
 | .un,_,_,_,_,h,_=>by grind [iV]
 | .sl _,_,_,_,_,h,_=>by grind [iV]
 | .cl,_,_,_,_,h,_=>by grind [iV]
theorem zd {r:Rd}{g:Gh}{c:Cell}{u:Value}(hc:dR g c u):∀{τ:Ty} {x y:τ.den} {off:Nat} {us:List Value} {nb:List Nat},iV τ x off c=J y->Lin r τ x us nb->
  off<us.length/\Lin r τ y (us.set off u) nb
 | .pr a b,x,y,off,us,nb,h,⟨c1,c2,n1,n2,e,en,h1,h2⟩=>by
  simp[iV]at h;have l1:=h1.length
  cases hb:cE off a.size with
  |true=>
   rw[hb]at h;simp at h;obtain⟨z,hz,rfl⟩:=h;obtain⟨h3,h4⟩:=zd hc hz h1;refine⟨by grind,_,_,n1,n2, ?_,en,h4,h2⟩;simp_all
  |false=>
   rw[hb]at h;simp at h;obtain⟨z,hz,rfl⟩:=h;obtain⟨h3,h4⟩:=zd hc hz h2
   have LY:a.size<=off:=by
    grind [cE,Nat.blt_eq]
   refine⟨by grind,_,_,n1,n2, ?_,en,h1,h4⟩;simp_all
 | .int k,x,y,off,us,nb,h,hx=>by obtain⟨a,b⟩:=nB (r:=r) hc h hx.1;exact⟨a,b,hx.2⟩
 | .bool,x,y,off,us,nb,h,hx=>by obtain⟨a,b⟩:=nB (r:=r) hc h hx.1;exact⟨a,b,hx.2⟩
 | .str,x,y,off,us,nb,h,hx=>by obtain⟨a,b⟩:=nB (r:=r) (τ:= .str) hc h hx.1;exact⟨a,b,hx.2⟩
 | .un,_,_,_,_,_,h,_=>by grind [iV]
 | .sl _,_,_,_,_,_,h,_=>by grind [iV]
 | .cl,_,_,_,_,_,h,_=>by grind [iV]
theorem Wr {α:Type}(L:List α)(k sz off:Nat)(u:α)(h1:off<sz)(h2:k+sz<=L.length):
  L.take k++(((L.drop k).take sz).set off u)++L.drop (k+sz)=L.take (k+off)++[u]++L.drop (k+off+1):=by
 apply a06
 intro j;simp only[aI,List.getElem?_append,bl,bL,cA,cK,cL,List.getElem?_set,az,aB]
 grind
def nG (arr:Array Value)(o:Nat)(us:List Value):Array Value:=(arr.toList.take o++us++arr.toList.drop (o+us.length)).toArray
theorem Mx {E:Env}{t:TypeId}{n:Nat}{w:World}{b o:Nat}{arr:Array Value}{ty:TypeId}{v:Value}(hn:E.sizeOf t=J n)(hl:v.cells.toList.length=n)
  (h:w.heap[b]?=J (.cells arr ty (0,0))) (hle:o+v.cells.toList.length<=arr.size) (h1:∀u∈v.cells.toList,u.oneCell'=av):
  (Instr.storeAt t (.pointer (J ⟨b,o,ay⟩)) v).run E.P w= .ok () (w.setRow b (nG arr o v.cells.toList)):=by
 have hs:v.cells.size=n:=(by omega);have:=run_storeCells_at (P:=E.P) b o ty v.cells.toList 0 arr w h (by omega) h1;simp only[Instr.storeAt,a44,storeVar,bH,a08,bh,run_sizeOf hn,Sem.run_ite,hs,ne_eq,not_true,if_false];simp_all[nG]
theorem U0 {g:Gh}{w:World}{id g0:Nat}{τ:Ty}{xs:List τ.den}{b o n' cap:Nat}{dp:Bool}(hO:pg g w id (.own g0 τ dp xs))(hc:dR g (.own id g0) (.slice (J ⟨b,o,ay⟩) n' cap)):
  o=0/\n'=xs.length/\g.cv id g0= .slice (J ⟨b,0,ay⟩) xs.length cap/\g.fL b=J (id+1)/\g.gA b=ay/\xs.length<=cap/\
   ∃arr ty,w.heap[b]?=J (.cells arr ty (0,0))/\arr.size=cap*τ.size/\gy g id τ dp xs arr.toList:=by
 rcases hO with⟨k1,_⟩|⟨b',Jf,arr,ty,k1,k2,k3,k4,k5,k6,k7⟩
 ·have:=hc.2.1.trans k1;grind
 ·have e1:=hc.2.1.trans k1;simp_all
theorem gy.len {g:Gh}{id:Nat}{τ:Ty}{dp:Bool}{xs:List τ.den}{L:List Value}(h:gy g id τ dp xs L):xs.length*τ.size<=L.length:=by
 unfold gy at h;split at h
 ·obtain⟨nb,h,_⟩:=h;exact h.els.len
 ·exact h.len
theorem RL {id gen:Nat}{τ:Ty}{deep:Bool}{i:Int}{x:τ.den}{s s':St}(h:(UX id gen τ deep i x).run s=J ((),s')):
  ∃xs,look s.hp id=J (.own gen τ deep xs)/\s'={s with hp:=(id, .own gen τ deep (xs.set i.toNat x))::s.hp}:=by
 simp only[UX,AM.run]at h;split at h
 ·rename_i g τ' dp xs heq;obtain⟨hb,h1⟩:=dQ h;split at h1
  ·rename_i e;subst e;simp_all[AM.run,bY,cy,true_and]
  ·cases h1
 ·cases h
theorem Mt {new:List Cell}{sl:Slot}{s s':St}(h:(Ec new sl).run s=J ((),s')):
  s'.env=s.env/\∀{B:Base} {g:Gh} {w:World} {u:Value} {us:List Value},HRel B g s.hp w->fG g sl u->dr g new us->
   ∃b o arr ty g',u= .pointer (J ⟨b,o,ay⟩)/\w.heap[b]?=J (.cells arr ty (0,0))/\o+us.length<=arr.size/\Le g g'/\HRel B g' s'.hp (w.setRow b (nG arr o us)):=by
 unfold Ec at h;split at h
 ·rename_i id gen off;simp only[AM.run]at h;split at h
  ·rename_i g0 cs heq;obtain⟨hb,h'⟩:=dQ h;simp only[aA]at hb;obtain rfl:=beq_eq hb.1;have hle:off+new.length<=cs.length:=aP hb.2;simp only[AM.run,bY,cy,true_and]at h';subst h';refine⟨rfl,λ{B g w u us} R hu hn=> ?_⟩;obtain⟨ht,b,o,nE,e⟩:=hu;obtain⟨b',o',arr,ty,L,k1,k2,k3,k4,k5,k6,k7⟩:=R.gE _ _ heq;rw[nE]at k1
   injection k1 with k1;injection k1 with k1;injection k1 with k1 aG2
   subst k1;subst aG2;have hL:L.length=cs.length:=k4.length;have aq5:us.length=new.length:=hn.length
   have Dp:arr.size=(g.outer id).length:=by
    have:=congrArg a14 k5;simp at this;omega
   refine⟨b,o+off,arr,ty,_,e,k3,by omega,Le.take g id [],R.write heq rfl k2.1 k2.2 (rE k3 _) (λx hx=>by simp at hx) ?_⟩;refine⟨b,o,_,ty,L.take off++us++L.drop (off+us.length),nE,⟨by simp[Gh.take,k2.1],k2.2⟩,setRow_heap w b arr _ ty _ k3,(hn.set off k4).mono (Le.take g id []), ?_, ?_, ?_⟩
   ·have ho:o<=(g.outer id).length:=(by omega)
    have e1:((g.outer id).take o).length=o:=by rw[bl];omega
    show(nG arr (o+off) us).toList=_;unfold nG;rw[k5];simp only[Gh.take,ax,bl,bL];have e2:o+(min off L.length+us.length+(L.length - (off+us.length)))=o+L.length:=(by omega);rw[e2]
    rw[aI,aI,List.take_append,e1,a11 (by omega),Nat.add_sub_cancel_left,
     cf (by omega),aI,List.drop_append,e1,cd (by omega),bS,
     show o+off+us.length - o=off+us.length from by omega,bI (by omega)]
    simp[aI]
   ·simp only[Gh.take,ax,bl,bL];omega
   ·obtain⟨h0,h1,h2⟩:=k7;refine⟨h0, ?_,h2⟩;show(g.outer id).length=(setCells off new _).length;rw[h1];unfold setCells;simp;omega
  ·cases h
 ·rename_i id gen i off sz;simp only[AM.run]at h;split at h
  ·rename_i g0 τ deep aq2 ap8;obtain⟨hb,h'⟩:=dQ h;clear h;simp only[aA]at hb;obtain rfl:=beq_eq hb.1;have po:=beq_eq hb.2;subst po
   cases Ok:(aw off 0&&aw new.length τ.size)with
   |true=>
    rw[Ok]at h';simp at h';simp only[aA]at Ok;have Dn:=beq_eq Ok.1;have OD:=beq_eq Ok.2;subst Dn;obtain⟨p,t,h1,h2⟩:=AM.cV h';obtain⟨he,hp⟩:=GV _ _ _ _ _ _ _ h1;obtain⟨xs,heq,Of⟩:=RL h2;subst Of;refine⟨he,λ{B g w u us} R hu hn=> ?_⟩;obtain⟨g1,l1,R1,EA⟩:=hp B g w R;obtain⟨Rm,VP,nb,e1,Iu,Ix,hfresh⟩:=EA us hn;obtain⟨b,o,n',cap,hc,h0,h3,e⟩:=hu;obtain⟨rfl,rfl,nE,n9,xL,hle,arr,ty,ha,aG5,qJ⟩:=U0 (R1.gE _ _ heq) (hc.mono l1.le);have aq5:us.length=τ.size:=(by rw[hn.length,OD]);have qf:Rm.length=τ.size:=Iu.len
    have AL:VP=[]:=by
     have:=congrArg a14 e1;simp at this;exact bn (by omega)
    subst AL;simp at e1;subst e1;have hi:i.toNat<xs.length:=h3
    have Ol:i.toNat*τ.size+τ.size<=arr.size:=by
     have h5:(i.toNat+1)*τ.size<=cap*τ.size:=Nat.mul_le_mul_right _ (by omega);rw[bQ]at h5;omega
    have aH7:∀x∈nb,g1.fL x=J 0:=by
     unfold Got at Iu;split at Iu
     ·exact Iu.2.2
     ·rw[Iu.2];intro x hx;simp at hx
    refine⟨b,0+i.toNat*τ.size+0,arr,ty,_,e,ha,by omega,l1.le.trans (Le.take g1 id nb),R1.write heq rfl n9 xL (rE ha _) aH7 ?_⟩
    have aF9:b∉nb:=λhm=>by rw[aH7 b hm]at n9;simp at n9
    refine .inr ⟨b,cap,_,ty,by rw[cA];exact nE,by simp[Gh.take,aF9,n9],xL,setRow_heap w b arr _ ty _ ha,by rw[cA];exact hle, ?_, ?_⟩
    ·unfold nG;simp;omega
    ·have VG:(nG arr (0+i.toNat*τ.size+0) us).toList=arr.toList.take (i.toNat*τ.size)++us++arr.toList.drop (i.toNat*τ.size+us.length):=(by simp[nG]);rw[VG];unfold gy at qJ⊢;unfold Got at Iu
     by_cases hd:(deep&& !τ.flat)=av
     ·rw[ak hd]at qJ Iu⊢;obtain⟨aR4,hl,o9,SN⟩:=qJ;obtain⟨na,n0,nc,en,_,B9⟩:=hl.set hi;refine⟨na++nb++nc,B9 (λb _ L hL=>hL) Iu.1, ?_,λx hx=> ?_⟩
      ·have XC:∀x∈na++nc,x∉nb:=λx hx hm=>by
        have h1:=SN x (by rw[en];rcases aL.1 hx with h|h<;>simp[h]);rw[aH7 x hm]at h1;simp at h1
       subst en
       have Oh:(na++nc).Nodup:=by
        refine o9.sublist ?_;rw[aI];exact List.Sublist.append (List.Sublist.refl _) (List.sublist_append_right _ _)
       rw[bC]at Oh⊢;refine⟨?_,Oh.2.1,λx hx y hy e=> ?_⟩
       ·rw[bC];exact⟨Oh.1,Iu.2.1,λx hx y hy e=>XC x (aV _ hx) (by rw[e];exact hy)⟩
       ·rcases aL.1 hx with hx|hx
        ·exact Oh.2.2 x hx y hy e
        ·exact XC y (aY _ hy) (by rw[<-e];exact hx)
      ·show(if x∈nb then J (id+1)else g1.fL x)=J (id+1);split
       ·rfl
       ·rename_i Ai;refine SN x ?_;rw[en]
        rcases aL.1 hx with hx|hx
        ·rcases aL.1 hx with hx|hx
         ·simp[hx]
         ·exact absurd hx Ai
        ·simp[hx]
     ·rw[aj hd]at qJ Iu⊢;exact qJ.set Iu.1 hi
   |false=>
    rw[Ok]at h';simp at h';split at h'
    ·rename_i c;split at h'
     ·rename_i y hy;simp only[AM.run,bY,cy,true_and]at h';subst h';refine⟨rfl,λ{B g w u us} R hu hn=> ?_⟩;obtain⟨u1,r,e1,aN5,hr⟩:=hn;have hr:r=[]:=hr;subst hr;subst e1;obtain⟨b,o,n',cap,hc,h0,h3,e⟩:=hu;obtain⟨rfl,rfl,nE,n9,xL,hle,arr,ty,ha,aG5,qJ⟩:=U0 (R.gE _ _ ap8) hc;have hi:i.toNat<aq2.length:=h3
      have IE:at_ aq2 i=aq2[i.toNat]:=by unfold at_;rw[aG,aJ hi];rfl
      rw[IE]at hy
      have Ol:i.toNat*τ.size+τ.size<=arr.size:=by
       have h5:(i.toNat+1)*τ.size<=cap*τ.size:=Nat.mul_le_mul_right _ (by omega);rw[bQ]at h5;omega
      have aa8:∀{us:List Value},us=(arr.toList.drop (i.toNat*τ.size)).take τ.size->off<us.length->
        (nG arr (0+i.toNat*τ.size+off) [u1]).toList=arr.toList.take (i.toNat*τ.size)++us.set off u1++arr.toList.drop (i.toNat*τ.size+(us.set off u1).length)/\0+i.toNat*τ.size+off+1<=arr.size:=by
       intro us e kI
       have aL9:us.length=τ.size:=by rw[e,bl,bL,a30];omega
       rw[cA,aL9];refine⟨?_,by omega⟩;rw[e,Wr _ _ _ _ _ (by omega) (by rw[a30];exact Ol)];simp[nG]
      have fin:off<((arr.toList.drop (i.toNat*τ.size)).take τ.size).length->gy g id τ deep (aq2.set i.toNat y) (nG arr (0+i.toNat*τ.size+off) [u1]).toList->
        ∃b o arr ty g',u= .pointer (J ⟨b,o,ay⟩)/\w.heap[b]?=J (.cells arr ty (0,0))/\o+[u1].length<=arr.size/\Le g g'/\
         HRel B g' ((id, .own g0 τ deep (aq2.set i.toNat y))::s.hp) (w.setRow b (nG arr o [u1])):=by
       intro kI PW;obtain⟨_,aF7⟩:=aa8 rfl kI;refine⟨b,0+i.toNat*τ.size+off,arr,ty,_,e,ha,by simpa using aF7,Le.take g id [],R.write ap8 rfl n9 xL (rE ha _) (λx hx=>by simp at hx) ?_⟩;refine .inr ⟨b,cap,_,ty,by rw[cA];exact nE,by simp[Gh.take,n9],xL,setRow_heap w b arr _ ty _ ha,by rw[cA];exact hle, ?_, ?_⟩
       ·unfold nG;simp;omega
       ·unfold gy at PW⊢;split
        ·rename_i hd;rw[ak hd]at PW;obtain⟨nb,q1,q2,q3⟩:=PW;exact⟨nb,q1,q2,λx hx=>by simp[Gh.take,q3 x hx]⟩
        ·rename_i hd;rw[aj hd]at PW;exact PW
      unfold gy at qJ
      by_cases hd:(deep&& !τ.flat)=av
      ·rw[ak hd]at qJ;obtain⟨aR4,hl,o9,SN⟩:=qJ;obtain⟨na,n0,nc,en,YC,B9⟩:=hl.set hi;obtain⟨kI,Vl⟩:=zd aN5 hy YC;refine fin kI ?_;unfold gy;rw[ak hd,(aa8 rfl kI).1];exact⟨na++n0++nc,B9 (λb _ L hL=>hL) Vl,by rw[<-en];exact o9,λx hx=>SN x (by rw[en];exact hx)⟩
      ·rw[aj hd]at qJ;have YC:=qJ i.toNat hi;rw[cj]at YC;obtain⟨kI,Vl⟩:=nB aN5 hy YC;refine fin kI ?_;unfold gy;rw[aj hd,(aa8 rfl kI).1];exact qJ.set Vl hi
     ·cases h'
    ·cases h'
  ·cases h
 ·cases h
end Go.Abs
end

section
namespace Go.Abs
theorem Mm {E:Env}{t:TypeId}{x y:Operand}{s s':St}{sl:Slot}{d:Nat}(h:(gB E d (.store t x y)).run s=J (sl,s')):
  s'.env=s.env/\sl= .un/\∀(o:Oper),o.op= .store t x y->∀B g a w,HRel B g s.hp w->iM g s.env a->
  ∃w' g',(execOp a.eval o).run E.P w= .ok .skip w'/\Le g g'/\HRel B g' s'.hp w':=by
 obtain⟨v,t1,h1,h2⟩:=AM.cV h;obtain⟨s1,t2,h3,h4⟩:=AM.cV h2;obtain⟨n,t3,h5,h6⟩:=AM.cV h4;obtain⟨rfl,r1⟩:=eZ h1;obtain⟨rfl,r2⟩:=qz h3;obtain⟨hn,rfl⟩:=eO h5;obtain⟨hb,h7⟩:=dQ h6;have hl:=beq_eq hb;obtain⟨_,t4,h8,h9⟩:=AM.cV h7;obtain⟨rfl,rfl⟩:=cX h9;obtain⟨he,hw⟩:=Mt h8;refine⟨he,rfl,λo ho B g a w R V=> ?_⟩;have hc:=(r1 V).cells;obtain⟨b,o',arr,ty,g',e,ha,hle,l,R'⟩:=hw R (r2 V) hc;refine⟨_,g', ?_,l,R'⟩;unfold execOp;rw[ho];have:=Mx (E:=E) (v:=a.eval y) hn (by rw[hc.length,hl]) ha hle hc.Zt;simp only[bH,e,this,bh];rfl
theorem HRel.H5 {B:Base}{g:Gh}{hp:List (Nat×Obj)}{w:World}(R:HRel B g hp w){id:Nat}{cs:List Cell}{us:List Value}(ty:TypeId)(hc:dr g cs us):
  ∃g',Le g g'/\HRel B g' ((id, .box (g.top id) (ty,cs))::hp) (World.more w (.cells us.toArray ty))/\fG g' (.val (.one (.ptr id (g.top id) 0))) (.pointer (J ⟨w.heap.size,0,ay⟩)):=by
 have hle:=R.FY (id:=id) (b:=w.heap.size) (u:= .pointer (J ⟨w.heap.size,0,ay⟩)) (nb:=[]) (out:=us) rfl;refine⟨_,hle,R.install rfl R.sw (xq w _) (λx hx=>by simp at hx) rfl ?_, ?_⟩
 ·refine⟨w.heap.size,0,us.toArray,ty,us,by simp[Gh.inst],⟨by simp[Gh.inst],R.sw.gA⟩,C3 w _,hc.mono hle, ?_, ?_,⟨rfl, ?_,rfl⟩⟩
  ·simp[Gh.inst]
  ·simp[Gh.inst]
  ·simp[Gh.inst,hc.length]
 ·exact⟨by simp[Gh.inst],w.heap.size,0,by simp[Gh.inst],rfl⟩
theorem CQ {d:Nat}{ty:TypeId}{cs:List Cell}{s s':St}{sl:Slot}(h:(Go.Abs.H5 d ty cs).run s=J (sl,s')):
  s'.env=s.env/\∀{B:Base} {g:Gh} {w:World} {us:List Value},HRel B g s.hp w->dr g cs us->
   ∃g',Le g g'/\HRel B g' s'.hp (World.more w (.cells us.toArray ty))/\fG g' sl (.pointer (J ⟨w.heap.size,0,ay⟩)):=by
 obtain⟨gen,t,h1,h2⟩:=AM.cV h
 have pH:t=s:=by
  exact(qa h1).1
 subst pH;simp only[AM.run,bY,cy]at h2;obtain⟨rfl,rfl⟩:=h2;refine⟨rfl,λ{B g w us} R hc=> ?_⟩;obtain⟨rfl,_⟩:=lT R h1;exact R.H5 ty hc
theorem L9 {E:Env}{t:TypeId}{s s':St}{sl:Slot}{d:Nat}(h:(gB E d (.alloc t)).run s=J (sl,s')):Yld E (.alloc t) s sl s':=by
 obtain⟨cs,t1,h1,h2⟩:=AM.cV h;obtain⟨hz,rfl⟩:=eO h1;obtain⟨he,hb⟩:=CQ h2;refine⟨he,λo ho B g a w R V=> ?_⟩;unfold Env.zeroCells at hz;simp only[bB]at hz;obtain⟨z,⟨i,hi,aD2⟩,hz⟩:=hz;obtain⟨g',l,R',hs⟩:=hb R (qq hz g);refine⟨_,_,g', ?_,l,R',hs⟩;unfold execOp;rw[ho]
 apply fT
 simp[Instr.alloc,zeroValue,typeInfo,hi,aD2,newVar,newRow,World.more]
theorem Sj {E:Env}{t:TypeId}{x:Operand}{s s':St}{sl:Slot}{d:Nat}(h:(gB E d (.box t x)).run s=J (sl,s')):Yld E (.box t x) s sl s':=by
 obtain⟨v,t1,h1,h2⟩:=AM.cV h;obtain⟨rfl,r1⟩:=eZ h1;obtain⟨he,hb⟩:=CQ h2;refine⟨he,λo ho B g a w R V=> ?_⟩;obtain⟨g',l,R',hs⟩:=hb R (r1 V).cells;refine⟨_,_,g', ?_,l,R',hs⟩;unfold execOp;rw[ho]
 apply fT
 simp[Instr.box,newVar,newRow,World.more]
theorem Hw (n:Nat)(z:List Cell):(rep n z).length=n*z.length:=by
 induction n with
 |zero=>simp[rep]
 |succ n ih=>simp[rep,ih,bQ];omega
theorem QO {g:Gh}{z:List Cell}{us:List Value}(h:dr g z us):∀n,dr g (rep n z) (aM n us).flatten
 |0=>by simp[rep,dr]
 |n+1=>by
  rw[cF,List.flatten_cons];exact h.append (QO h n)
theorem ML (us:List Value)(n:Nat):((Array.range (n*us.length)).map (us.toArray[· % us.toArray.size]!)).toList=(aM n us).flatten:=by
 apply List.ext_getElem
 ·simp
 ·intro i h1 h2
  have hlen:0<us.length:=by
   rcases Nat.eq_zero_or_pos us.length with h|h
   ·simp[h]at h1
   ·exact h
  have hm:i % us.length<us.length:=Nat.mod_lt _ hlen;simp only[Array.toList_map,Array.toList_range,List.getElem_map,List.getElem_range,List.size_toArray];rw[getElem!_pos us.toArray _ (by simpa using hm)]
  have FN:∀(n i:Nat) (h:i<((aM n us).flatten).length),((aM n us).flatten)[i]=us[i % us.length]'(Nat.mod_lt _ hlen):=by
   intro n
   induction n with
   |zero=>intro i h;simp at h
   |succ n ih=>
    intro i h;have e:(aM (n+1) us).flatten=us++(aM n us).flatten:=(by rw[cF,List.flatten_cons]);simp only[e]at h⊢;rw[List.getElem_append];split
    ·rename_i hi;simp[Nat.mod_eq_of_lt hi]
    ·rename_i hi;rw[ih];have em:i % us.length=(i - us.length) % us.length:=Nat.mod_eq_sub_mod (by omega);simp only[em]
  rw[FN n i h2];simp
end Go.Abs
end

section
namespace Go.Abs
def HZ (g:Gh):List (Nat×Val)->List (Nat×Value)->Prop
 |[],qs=>qs=[]
 |p::ps,qs=>∃u r,qs=(p.1,u)::r/\gx g p.2 u/\HZ g ps r
theorem vR:∀{xs:List (Nat×Operand)} {s s':St} {vs:List (Nat×Val)},(FQ xs).run s=J (vs,s')->s'=s/\∀{g:Gh} {a:Act},iM g s.env a->HZ g vs (xs.map λp=>(p.1,a.eval p.2))
 |[],_,_,_,h=>by obtain⟨rfl,rfl⟩:=cX h;exact⟨rfl,λ_=>rfl⟩
 |(i,x)::r,_,_,_,h=>by
  obtain⟨v,t,h1,h2⟩:=AM.cV h;obtain⟨vs,t2,h3,h4⟩:=AM.cV h2;obtain⟨rfl,rfl⟩:=cX h4;obtain⟨rfl,r1⟩:=eZ h1;obtain⟨rfl,r2⟩:=vR h3;exact⟨rfl,λV=>⟨_,_,rfl,r1 V,r2 V⟩⟩
theorem Jx (off:Nat):∀(L:List Value) (k:Nat) (cs:Array Value),off+k+L.length<=cs.size->
  ((L.zipIdx k).foldl (λcs p=>cs.setIfInBounds (off+p.2) p.1) cs).toList=cs.toList.take (off+k)++L++cs.toList.drop (off+k+L.length)
 |[],k,cs,h=>by simp
 |u::L,k,cs,h=>by
  simp;rw[Jx off L (k+1) _ (by grind)];simp;rw[List.drop_set_of_lt (by omega)];rw[show off+(k+1)=(off+k)+1 from rfl,List.take_add_one];simp only[List.getElem?_set,List.take_set_of_le,aC]
  grind
theorem BL {g:Gh}{place place':Nat->Option (Nat×Nat)}(hp:∀i,place i=place' i):∀{ps:List (Nat×Val)} {qs:List (Nat×Value)} {cells Jg:List Cell} {us:Array Value},
  fill place cells ps=J Jg->HZ g ps qs->dr g cells us.toList->∃OA,Instr.fill place' us qs=J OA/\dr g Jg OA.toList
 |[],qs,cells,Jg,us,h,hq,hc=>by
  subst hq
  injection h with h;subst h
  exact⟨us,rfl,hc⟩
 |(i,x)::r,qs,cells,Jg,us,h,⟨u,qr,e,hu,hr⟩,hc=>by
  subst e;simp[fill]at h;simp only[Instr.fill];rw[<-hp i]
  cases aR8:place i with
  |none=>simp_all
  |some os=>
   obtain⟨off,size⟩:=os;rw[aR8]at h;simp only at h⊢;have hx:=hu.cells;have hl:=hx.length;have Ez:=hc.length
   cases hb:(aw x.cells.length size&&a10 (off+size) cells.length)with
   |false=>simp_all
   |true=>
    rw[hb]at h;rw[aj (by simp_all)];have hf:=Jx off u.cells.toList 0 us (by simp_all)
    have al8:(u.cells.zipIdx.foldl (λcs p=>cs.setIfInBounds (off+p.2) p.1) us).toList=us.toList.take off++u.cells.toList++us.toList.drop (off+u.cells.toList.length):=by
     grind [Array.toList_zipIdx]
    refine BL hp h hr ?_;rw[al8];exact hx.set off hc
theorem G0 {P:Program}:∀{fs:List Field},(fs.all λf=>(P.info? f.type).isSome)=av->∃places,fs.mapM (λf=>(P.info? f.type).map λi=>(f.offset,i.size))=J places/\
  ∀i:Nat,places[i]?=(fs[i]?).bind λf=>((P.info? f.type).map (·.size)).map (f.offset, ·)
 |[],_=>⟨[],rfl,λi=>by simp⟩
 |f::fs,h=>by
  simp only[cz,aA]at h;obtain⟨i,hi⟩:=Option.isSome_iff_exists.1 h.1;obtain⟨places,hp,hq⟩:=G0 h.2;refine⟨(f.offset,i.size)::places,by simp_all,λk=> ?_⟩
  grind
theorem sH {E:Env}{t:TypeId}{cs:List Cell}(h:E.zeroCells t=J cs):∃i z,E.P.info? t=J i/\i.zero=J z/\∀g,dr g cs z.cells.toList:=by
 grind [Env.zeroCells,bB,qq]
theorem Mv {E:Env}{t:TypeId}{ps:Array (Nat×Operand)}{s s':St}{sl:Slot}{d:Nat}(h:(gB E d (.build t ps)).run s=J (sl,s')):Yld E (.build t ps) s sl s':=by
 obtain⟨z,t1,h1,h2⟩:=AM.cV h;obtain⟨vs,t2,h3,h4⟩:=AM.cV h2;obtain⟨cs,t3,h5,h6⟩:=AM.cV h4;obtain⟨hb,h7⟩:=dQ h6;obtain⟨rfl,rfl⟩:=cX h7;obtain⟨hz,rfl⟩:=eO h1;obtain⟨rfl,r1⟩:=vR h3;obtain⟨hf,rfl⟩:=eO h5;obtain⟨it,zv,hi,aD2,ab0⟩:=sH hz
 refine .still λo ho B g a w R V=> ?_
 unfold Env.sized at hb;split at hb
 ·rename_i fs hu;obtain⟨places,hp,hq⟩:=G0 hb
  obtain⟨OA,Yh,hr⟩:=BL (place':=λi=>places.toArray[i]?) (λi=>by
   simp_all[List.getElem?_toArray,Env.field,Env.sizeOf,Array.getElem?_toList]) hf (r1 V) (ab0 g)
  refine⟨.agg OA, ?_,⟨OA.toList,rfl,hr⟩⟩;simp_all[execOp,fT,run_build,Program.built]
 simp_all
theorem KP {g:Gh}:∀{τ:Ty} {cells:List Cell} {x:τ.den} {rest:List Cell} {us:List Value},Di τ cells=J (x,rest)->dr g cells us->
  ∃u1 u2,us=u1++u2/\(∀r,Rc r τ x u1)/\(τ.pN=av->∀r,Lin r τ x u1 [])/\dr g rest u2
 | .un,cells,x,rest,us,h,hc=>by
  injection h with h;injection h with h1 h2;subst h2
  exact⟨[],us,rfl,λr=>rfl,λ_ r=>⟨rfl,rfl⟩,hc⟩
 | .pr a b,cells,x,rest,us,h,hc=>by
  simp only[Di,bB]at h;obtain⟨p,hp,q,hq,h⟩:=h
  injection h with h;injection h with h1 h2;subst h1;subst h2
  obtain⟨u1,u2,rfl,k1,k2,k3⟩:=KP (x:=p.1) (rest:=p.2) hp hc;obtain⟨v1,v2,rfl,m1,m2,m3⟩:=KP (x:=q.1) (rest:=q.2) hq k3;refine⟨u1++v1,v2,by simp,λr=>⟨u1,v1,rfl,k1 r,m1 r⟩,λhm r=> ?_,m3⟩;simp only[Ty.pN,aA]at hm;exact⟨u1,v1,[],[],rfl,rfl,k2 hm.1 r,m2 hm.2 r⟩
 | .int k,[],x,rest,us,h,hc=>by cases h
 | .bool,[],x,rest,us,h,hc=>by cases h
 | .str,[],x,rest,us,h,hc=>by cases h
 | .sl e,[],x,rest,us,h,hc=>by cases h
 | .cl,[],x,rest,us,h,hc=>by cases h
 | .int k,c::cs,x,rest,us,h,⟨u,r,e,hu,hr⟩=>by
  cases c<;>try(simp[Di]at h;done)
  rename_i τ' x'
  cases τ'<;>try(simp[Di]at h;done)
  rename_i k';simp only[Di]at h;split at h
  ·rename_i ek;subst ek
   injection h with h;injection h with h1 h2;subst h1;subst h2
   have hv:=jt hu;subst hv;subst e;exact⟨_,r,rfl,λ_=>rfl,λ_ _=>⟨rfl,rfl⟩,hr⟩
  simp_all
 | .bool,c::cs,x,rest,us,h,⟨u,r,e,hu,hr⟩=>by
  cases c<;>try(simp[Di]at h;done)
  rename_i τ' x'
  cases τ'<;>try(simp[Di]at h;done)
  injection h with h;injection h with h1 h2;subst h1;subst h2
  have hv:=oD hu;subst hv;subst e;exact⟨_,r,rfl,λ_=>rfl,λ_ _=>⟨rfl,rfl⟩,hr⟩
 | .str,c::cs,x,rest,us,h,⟨u,r,e,hu,hr⟩=>by
  cases c<;>try(simp[Di]at h;done)
  rename_i τ' x'
  cases τ'<;>try(simp[Di]at h;done)
  injection h with h;injection h with h1 h2;subst h1;subst h2
  obtain⟨st,hv,hl⟩:=qC hu;subst hv;subst e;exact⟨_,r,rfl,λ_=>⟨st,rfl,hl⟩,λ_ _=>⟨⟨st,rfl,hl⟩,rfl⟩,hr⟩
 | .sl e,c::cs,x,rest,us,h,⟨u,r,e',hu,hr⟩=>by
  cases c<;>try(simp[Di]at h;done)
  injection h with h;injection h with h1 h2;subst h1;subst h2
  have hv:_=_:=hu;subst hv;subst e';exact⟨_,r,rfl,λ_=>⟨ay,0,rfl,aC _, .inl rfl⟩,λhm _=>⟨hm, .inl ⟨rfl,rfl,rfl⟩⟩,hr⟩
 | .cl,c::cs,x,rest,us,h,⟨u,r,e,hu,hr⟩=>by
  cases c<;>try(simp[Di]at h;done)
  injection h with h;injection h with h1 h2;subst h1;subst h2
  have hv:_=_:=hu;subst hv;subst e;exact⟨_,r,rfl,λ_=>⟨_,rfl,rfl⟩,λhm _=>by grind [Ty.pN],hr⟩
end Go.Abs
end

section
namespace Go.Abs
def iZ (g:Gh)(mv:Bool)(τ:Ty)(xs:List τ.den)(L:List Value)(nb:List Nat):Prop:=
 if mv then gZ g.gA τ xs L nb/\nb.Nodup/\∀b∈nb,g.fL b=J 0 else Els g.dj τ xs L 0/\nb=[]
theorem iZ.mono {g g':Gh}(l:Lk g g'){mv:Bool}{τ:Ty}{xs:List τ.den}{L:List Value}{nb:List Nat}(h:iZ g mv τ xs L nb):iZ g' mv τ xs L nb:=by
 unfold iZ at h⊢;split
 ·rename_i e;rw[ak e]at h;exact⟨h.1.mono (λb hb L hL=>by rw[(l.kp b (h.2.2 b hb)).2];omega),h.2.1,λb hb=>(l.kp b (h.2.2 b hb)).1⟩
 ·rename_i e;rw[aj e]at h;exact⟨h.1.mono l.le.dj,h.2⟩
theorem HRel.own {B:Base}{g:Gh}{hp:List (Nat×Obj)}{w w':World}(R:HRel B g hp w){id b cap:Nat}{arr:Array Value}{ty:TypeId}{τ:Ty}{deep:Bool}{xs:List τ.den}{nb:List Nat}
  (hf:Free g hp w b) (hw:Turned w w' b) (ha:w'.heap[b]?=J (.cells arr ty (0,0))) (hh:iZ g (deep&& !τ.flat) τ xs arr.toList nb) (hl:xs.length<=cap) (hs:arr.size=cap*τ.size):
  ∃g',Le g g'/\HRel B g' ((id, .own (g.top id) τ deep xs)::hp) w'/\dR g' (.own id (g.top id)) (.slice (J ⟨b,0,ay⟩) xs.length cap):=by
 have hle:=R.FY (id:=id) (b:=b) (u:= .slice (J ⟨b,0,ay⟩) xs.length cap) (nb:=nb) (out:=[]) rfl
 have Be:∀x∈nb,g.fL x=J 0:=by
  grind [iZ]
 refine⟨_,hle,R.install rfl hf hw Be rfl (.inr ⟨b,cap,arr,ty,by simp[Gh.inst],by simp[Gh.inst],hf.gA,ha,hl,hs, ?_⟩),⟨by simp[Gh.inst],by simp[Gh.inst],rfl⟩⟩;unfold iZ at hh;unfold gy;split
 ·rename_i e;rw[ak e]at hh;exact⟨nb,hh.1,hh.2.1,λx hx=>by grind [Gh.inst]⟩
 ·rename_i e;rw[aj e]at hh;exact hh.1
noncomputable def Gh.name (g:Gh)(id gen:Nat)(u:Value):Gh:=
  open Classical in
  { g with top := fun i => if i = id then gen + 1 else g.top i
           cv:=λi k=>if i=id/\k=gen then u else g.cv i k}
theorem HRel.named {B:Base}{g:Gh}{hp:List (Nat×Obj)}{w:World}(R:HRel B g hp w){id:Nat}{u:Value}{o':Obj}(FN:o'.gen=g.top id)(Vc:pg (g.name id (g.top id) u) w id o'):
  Lk g (g.name id (g.top id) u)/\HRel B (g.name id (g.top id) u) ((id,o')::hp) w:=by
 have hle:Le g (g.name id (g.top id) u):=by
  refine⟨λ_ _ h=>h,λi=> ?_,λi k hk=> ?_⟩
  ·show g.top i<=if i=id then g.top id+1 else g.top i
   grind
  ·show(if i=id/\k=g.top id then u else g.cv i k)=g.cv i k
   grind
 refine⟨⟨hle,λb h=>⟨h,rfl⟩,rfl⟩,λi=> ?_,λi oi hi=> ?_,R.dj,R.gA,R.gD,R.kH,R.frame,R.size,R.os,R.tape,R.output,R.fix⟩
 ·show(if i=id then g.top id+1 else g.top i)=_
  by_cases e:id=i
  ·subst e;rw[du,ak rfl];simp_all
  ·rw[de _ _ e,aj (λh=>e h.symm)];exact R.top i
 ·by_cases e:id=i
  ·simp_all[du]
  ·rw[de _ _ e]at hi;exact(R.gE i oi hi).tr hle (λb hb=>⟨hb,rfl,rfl⟩) rfl (by rw[R.top i,hi];simp)
theorem HRel.YL {B:Base}{g:Gh}{hp:List (Nat×Obj)}{w:World}(R:HRel B g hp w)(id:Nat)(τ:Ty)(deep:Bool):
  ∃g',Lk g g'/\HRel B g' ((id, .own (g.top id) τ deep [])::hp) w/\dR g' (.own id (g.top id)) (.slice ay 0 0):=by
 obtain⟨l,R'⟩:=R.named (id:=id) (u:= .slice ay 0 0) (o':= .own (g.top id) τ deep []) rfl (.inl ⟨by simp[Gh.name],rfl⟩);exact⟨_,l,R',⟨by simp[Gh.name],by simp[Gh.name],rfl⟩⟩
theorem xt {d:Nat}{τ:Ty}{deep:Bool}{xs:List τ.den}{s s':St}{c:Cell}(h:(H6 d τ deep xs).run s=J (c,s')):
  ∃gen,(jv d).run s=J (gen,s)/\c= .own d gen/\s'={s with hp:=(d, .own gen τ deep xs)::s.hp}:=by
 obtain⟨gen,t,h1,h2⟩:=AM.cV h
 grind [qa,AM.run,bY,cy]
theorem Ms {mv:Bool}{τ:Ty}:∀{n:Nat} {cells:List Cell} {s s':St} {xs:List τ.den},(UY mv τ n cells).run s=J (xs,s')->n*τ.size<=cells.length->
  s'.env=s.env/\xs.length=n/\∀B g w,HRel B g s.hp w->∃g',Lk g g'/\HRel B g' s'.hp w/\∀us,dr g cells us->
   ∃nb,iZ g' mv τ xs us nb/\∀b∈nb,g.fL b≠J 0:=by
 intro n
 induction n with
 |zero=>
  intro cells s s' xs h hlen;obtain⟨rfl,rfl⟩:=cX h;refine⟨rfl,rfl,λB g w R=>⟨g,Lk.refl g,R,λus hu=>⟨[], ?_,λb hb=>by simp_all⟩⟩⟩;unfold iZ;split
  ·exact⟨rfl,bf,λb hb=>by simp_all⟩
  ·exact⟨Els.nil,rfl⟩
 |succ n ih=>
  intro cells s s' xs h hlen;obtain⟨p,t,h1,h2⟩:=AM.cV h;obtain⟨ys,t2,h3,h4⟩:=AM.cV h2;obtain⟨rfl,rfl⟩:=cX h4;rw[bQ,Nat.one_mul]at hlen;obtain⟨e1,k1⟩:=GV mv τ _ _ _ _ _ h1;obtain⟨e2,el,k2⟩:=ih h3 (by simp;omega);refine⟨e2.trans e1,by simp[el],λB g w R=> ?_⟩;obtain⟨g1,l1,R1,c1⟩:=k1 B g w R;obtain⟨g2,l2,R2,c2⟩:=k2 B g1 w R1;refine⟨g2,l1.trans l2,R2,λus hu=> ?_⟩;have aL9:=hu.length;obtain⟨u1,u2,n1,e,hg,_,f1⟩:=c1 _ (hu.take τ.size);obtain⟨n2,hh,f2⟩:=c2 _ ((hu.drop τ.size).mono l1.le);have ap9:=hg.len
  have aM3:(us.take τ.size).length=τ.size:=by simp;omega
  have AL:u2=[]:=by
   have:=congrArg a14 e;rw[aM3,ax,ap9]at this;exact bn (by omega)
  subst AL;rw[aU]at e;have Xz:=hg.mono l2;refine⟨n1++n2, ?_,λb hb=> ?_⟩
  ·cases mv with
   |true=>
    refine⟨⟨n1,n2,rfl,by rw[e];exact Xz.1,hh.1⟩, ?_,λb hb=> ?_⟩
    ·rw[bC];refine⟨Xz.2.1,hh.2.1,λx hx y hy e=> ?_⟩;subst e;exact f2 x hy (hg.2.2 x hx)
    ·rcases aL.1 hb with hb|hb
     ·exact Xz.2.2 b hb
     ·exact hh.2.2 b hb
   |false=>
    exact⟨Els.head.2 ⟨by rw[e];exact Xz.1,hh.1⟩,by rw[Xz.2,hh.2];rfl⟩
  ·rcases aL.1 hb with hb|hb
   ·exact f1 b hb
   ·intro e;exact f2 b hb (l1.kp b e).1
theorem zr {E:Env}{t:TypeId}{τ:Ty}{s s':St}(h:(E.ty t).run s=J (τ,s')):s'=s:=by
 unfold Env.ty at h;split at h
 ·grind [cX]
 ·cases h
theorem BG {E:Env}{t e:TypeId}(h:E.elem t=J e):E.P.underlying t=J (.slice e):=by
 grind [Env.elem]
theorem zj {E:Env}{e:TypeId}{τ:Ty}(h:E.NR e τ=av):∃i z,E.P.info? e=J i/\i.zero=J z/\i.size=τ.size/\i.bytes<=128/\τ.size<=64/\z.cells.size=τ.size:=by
 unfold Env.NR at h;split at h
 ·rename_i i hi;simp only[aA]at h;obtain⟨⟨⟨h1,h2⟩,h3⟩,h4⟩:=h;split at h4
  all_goals simp_all
 simp_all
theorem zh {place:Nat->Option (Nat×Nat)}:∀{ps:List (Nat×Val)} {cells cs:List Cell},fill place cells ps=J cs->cs.length=cells.length
 |[],cells,cs,h=>by injection h with h;simp_all
 |(i,x)::r,cells,cs,h=>by
  simp[fill]at h;split at h
  ·rename_i off size hp
   cases hb:(aw x.cells.length size&&a10 (off+size) cells.length)with
   |false=>simp_all
   |true=>
    rw[hb]at h;simp only[aA]at hb;have e1:=beq_eq hb.1;have e2:=aP hb.2;rw[zh h]
    grind [setCells]
  simp_all
theorem DB {E:Env}{t:TypeId}{n:Nat}{ps:Array (Nat×Operand)}{s s':St}{sl:Slot}{d:Nat}(h:(gB E d (.buildSlice t n ps)).run s=J (sl,s')):Yld E (.buildSlice t n ps) s sl s':=by
 obtain⟨e,t1,h1,h2⟩:=AM.cV h;obtain⟨τ,t2,h3,h4⟩:=AM.cV h2;obtain⟨z,t3,h5,h6⟩:=AM.cV h4;obtain⟨vs,t4,h7,h8⟩:=AM.cV h6;obtain⟨cs,t5,h9,AH⟩:=AM.cV h8;obtain⟨hb,yp⟩:=dQ AH;obtain⟨xs,t6,uZ,Ca⟩:=AM.cV yp;obtain⟨c,t7,ED,ID⟩:=AM.cV Ca;obtain⟨rfl,rfl⟩:=cX ID;obtain⟨he,rfl⟩:=eO h1;obtain rfl:=zr h3;obtain⟨hz,rfl⟩:=eO h5;obtain⟨rfl,r1⟩:=vR h7;obtain⟨hf,rfl⟩:=eO h9;simp only[aA]at hb;obtain⟨i,zv,hi,am0,po,LP,aL2,Qd⟩:=zj hb.1;have hn:=aP hb.2;obtain⟨i',aZ2,s5,LS,ab0⟩:=sH hz;rw[hi]at s5
 injection s5 with s5;subst s5
 rw[am0]at LS
 injection LS with LS;subst LS
 have aD5:z.length=τ.size:=by
  have:=(ab0 {dj:=λ_=>ay,top:=λ_=>0,cv:=λ_ _=> .tuple #[],fL:=λ_=>ay,gA:=λ_=>ay,outer:=λ_=>[]}).length;rw[<-this];simpa using Qd
 obtain⟨gen,an3,rfl,rfl⟩:=xt ED
 have ZL:(Array.range (n*τ.size)).map (λx=>zv.cells[x % zv.cells.size]!)=(aM n zv.cells.toList).flatten.toArray:=by
  have:=ML zv.cells.toList n
  apply a84
  simpa[Qd]using this
 have Ez:n*τ.size<=cs.length:=by
  rw[zh hf,Hw,aD5];exact aC _
 obtain⟨aE6,aQ0,hp⟩:=Ms uZ Ez;refine⟨aE6,λo ho B g a w R V=> ?_⟩;obtain⟨OA,Yh,hr⟩:=BL (g:=g) (us:=(aM n zv.cells.toList).flatten.toArray) (λi=>by rw[aD5]) hf (r1 V) (by simpa using QO (ab0 g) n);obtain⟨g1,l1,R1,c1⟩:=hp B g w R;obtain⟨nb,hh,_⟩:=c1 _ hr;obtain⟨rfl,_⟩:=lT R1 an3;have aO4:=hr.length;have ak8:cs.length=n*τ.size:=(by rw[zh hf,Hw,aD5])
 obtain⟨g2,l2,R2,hc⟩:=R1.own (id:=d) (cap:=n) (arr:=OA) (ty:=e) (w':=World.more w (.cells OA e)) (deep:=Af cs&&τ.pN&& !τ.flat) R1.sw (xq w _) (C3 w _) (nb:=nb) (xs:=xs) (by
  have:((Af cs&&τ.pN&& !τ.flat)&& !τ.flat)=(Af cs&&τ.pN&& !τ.flat):=by cases τ.flat<;>simp
  rw[this];exact hh) (by omega) (by simpa[ak8]using aO4)
 refine⟨.slice (J ⟨w.heap.size,0,ay⟩) n n,_,g2, ?_,l1.le.trans l2,R2,by exact aQ0 ▸ hc⟩;unfold execOp;rw[ho]
 apply fT
 have hu:=BG he
 have Z8:¬ (16777216<n*τ.size):=by
  have:n*τ.size<=4096*64:=a13 hn aL2;omega
 have Iy:Instr.fill (λi=>J (i*τ.size,τ.size)) ((Array.range (n*τ.size)).map (λx=>zv.cells[x % zv.cells.size]!)) (ps.map λp=>(p.1,a.eval p.2)).toList=J OA:=by
  rw[ZL];simpa using Yh
 by_cases hz0:n*τ.size=0
 ·rw[hz0,show(Array.range 0)=#[]from by simp]at Iy;simp only[Instr.buildSlice,run_underlying hu,bH,bh,sizeOf,typeInfo];simp at Iy
  have er:∀f:Nat->Value,Array.map f (Array.range 0)=#[]:=λf=>by apply a84;simp
  simp[hi,po,hz0,Iy,newRow,World.more,er]
 ·simp only[Instr.buildSlice,run_underlying hu,bH,bh,sizeOf,typeInfo,zeroValue];simp at Iy;simp[hi,am0,po,hz0,Z8,Iy,newRow,World.more]
end Go.Abs
end

section
namespace Go.Abs
theorem NI {r:Rd}{τ:Ty}{x:τ.den}{us:List Value}(h:Rc r τ x us):∀{l c:Nat},l<=c->Els r τ (aM l x) (aM c us).flatten 0
 |0,_,_=>Els.nil
 |l+1,0,am2=>by omega
 |l+1,c+1,am2=>by
  have hl:=h.length;rw[cF,cF,List.flatten_cons];simp_all[Els.head,a45,cN,NI]
theorem Ns {r:Rd}{τ:Ty}{x:τ.den}{us:List Value}(h:Lin r τ x us []):∀{l c:Nat},l<=c->gZ r τ (aM l x) (aM c us).flatten []
 |0,_,_=>rfl
 |l+1,0,am2=>by omega
 |l+1,c+1,am2=>by
  have hl:=h.length;rw[cF,cF,List.flatten_cons];refine⟨[],[],rfl,by simp_all, ?_⟩;simp_all[cN,Ns]
theorem Fw {E:Env}{t:TypeId}{lx cx:Operand}{s s':St}{sl:Slot}{d:Nat}(h:(gB E d (.makeSlice t lx cx)).run s=J (sl,s')):Yld E (.makeSlice t lx cx) s sl s':=by
 obtain⟨e,t1,h1,h2⟩:=AM.cV h;obtain⟨τ,t2,h3,h4⟩:=AM.cV h2;obtain⟨z,t3,h5,h6⟩:=AM.cV h4;obtain⟨x,t4,h7,h8⟩:=AM.cV h6;obtain⟨lv,t5,h9,AH⟩:=AM.cV h8;obtain⟨l,t6,yp,uZ⟩:=AM.cV AH;obtain⟨cv,t7,Ca,ED⟩:=AM.cV uZ;obtain⟨c,t8,ID,Aj⟩:=AM.cV ED;obtain⟨hb,as0⟩:=dQ Aj;obtain⟨hr,SM⟩:=nY as0;obtain⟨cell,t9,ak4,P3⟩:=AM.cV SM;obtain⟨rfl,rfl⟩:=cX P3;obtain⟨he,rfl⟩:=eO h1;obtain rfl:=zr h3;obtain⟨hz,rfl⟩:=eO h5;obtain⟨hx,rfl⟩:=eO h7;obtain⟨rfl,r1⟩:=eZ h9;obtain⟨⟨kl,rfl⟩,rfl⟩:=mM yp;obtain⟨rfl,r2⟩:=eZ Ca;obtain⟨⟨kc,rfl⟩,rfl⟩:=mM ID;simp at hb hr;obtain⟨⟨h0,am2⟩,Ob⟩:=hr;obtain⟨i,zv,hi,am0,po,LP,aL2,Qd⟩:=zj hb.1;obtain⟨i',aZ2,s5,LS,ab0⟩:=sH hz;rw[hi]at s5
 injection s5 with s5;subst s5
 rw[am0]at LS
 injection LS with LS;subst LS
 obtain⟨gen,an3,rfl,rfl⟩:=xt ak4;refine⟨rfl,λo ho B g a w R V=> ?_⟩;obtain⟨rfl,_⟩:=lT R an3;obtain⟨x,rest⟩:=x;obtain⟨u1,u2,eu,k1,k2,k3⟩:=KP hx (ab0 g)
 have AL:u2=[]:=by
  have hr:rest=[]:=(by simpa using hb.2);subst hr;exact k3
 subst AL;rw[aU]at eu;have hu:=BG he;have ap4:c<=1099511627776:=Ob
 have ZO:(i.bytes:Int)*c<=281474976710656:=by
  have h1:(i.bytes:Int)*c<=128*1099511627776:=Int.mul_le_mul (by omega) ap4 (by omega) (by omega);omega
 have EB:=run_make (P:=E.P) w t e i zv hu hi am0 kl kc l c h0 am2 ZO (by omega)
 have aX0:(madeCells zv.cells (c.toNat*i.size)).toList=(aM c.toNat u1).flatten:=by
  have:=ML zv.cells.toList c.toNat;rw[po,<-Qd,<-eu];exact this
 obtain⟨g2,l2,R2,hc⟩:=R.own (id:=d) (cap:=c.toNat) (arr:=madeCells zv.cells (c.toNat*i.size)) (ty:=e) (w':=World.more w (.cells (madeCells zv.cells (c.toNat*i.size)) e)) (τ:=τ) (deep:=τ.pN&& !τ.flat)
  (xs:=aM l.toNat x) (nb:=[]) R.sw (xq w _) (C3 w _) (by
   rw[aX0];unfold iZ;split
   ·rename_i hm;simp only[aA]at hm;exact⟨Ns (k2 hm.1.1 _) (by omega),bf,λb hb=>by simp at hb⟩
   ·exact⟨NI (k1 _) (by omega),rfl⟩) (by simp;omega) (by rw[size_madeCells,po])
 simp at hc;refine⟨_,_,g2, ?_,l2,R2,hc⟩;unfold execOp;rw[ho]
 apply fT
 have e1:a.eval lx= .int kl l:=jt (r1 V);have e2:a.eval cx= .int kc c:=jt (r2 V);rw[e1,e2,EB];rfl
theorem A1 {lo:Option Val}{l:Int}{s s':St}(h:(KM lo).run s=J (l,s')):s'=s/\((lo=ay/\l=0)\/∃k,lo=J (.one (.v (.int k) l))):=by
 cases lo with
 |none=>obtain⟨rfl,rfl⟩:=cX h;simp
 |some v=>obtain⟨⟨k,rfl⟩,rfl⟩:=mM h;simp
theorem vJ {n:Nat}{hi:Option Val}{l:Int}{s s':St}(h:(FW n hi).run s=J (l,s')):s'=s/\((hi=ay/\l=(n:Int))\/∃k,hi=J (.one (.v (.int k) l))):=by
 cases hi with
 |none=>obtain⟨rfl,rfl⟩:=cX h;simp
 |some v=>obtain⟨⟨k,rfl⟩,rfl⟩:=mM h;simp
theorem He {x:Option Operand}{v:Option Val}{s s':St}(h:(Zu x).run s=J (v,s')):s'=s/\∀{g:Gh} {a:Act},iM g s.env a->
  (v=ay/\x.map a.eval=ay)\/∃v' u,v=J v'/\x.map a.eval=J u/\gx g v' u:=by
 cases x with
 |none=>obtain⟨rfl,rfl⟩:=cX h;simp
 |some y=>
  obtain⟨w,t,h1,h2⟩:=AM.cV h;obtain⟨rfl,rfl⟩:=cX h2;obtain⟨rfl,r⟩:=eZ h1;simp_all
theorem BC {P:Program}{w:World}{isSlice:Bool}{len cap:Nat}{lo hi:Option Value}{l h:Int}(hb:bounds len l h=av)(hc:len<=cap)
  (h1:(lo=ay/\l=0)\/∃k,lo=J (.int k l)) (h2:(hi=ay/\h=(len:Int))\/∃k,hi=J (.int k h)):
  (Instr.sliceBounds isSlice len cap lo hi ay).run P w= .ok (l.toNat,h.toNat,cap) w:=by
 simp[bounds]at hb;have eh:(h.toNat:Int)=h:=Int.toNat_of_nonneg (by omega);have ao4:h<=(cap:Int):=(by omega);have h0:0<=h:=(by omega)
 rcases h1 with⟨rfl,rfl⟩|⟨k,rfl⟩<;>rcases h2 with⟨rfl,rfl⟩|⟨k',rfl⟩
 all_goals simp_all[Instr.sliceBounds,run_sliceBound]
theorem D7 (s:ByteArray)(l h:Int):sub (bytesOf s) l h=bytesOf (s.extract l.toNat h.toNat):=by
 unfold sub bytesOf;rw[ByteArray.data_extract,Array.toList_extract,List.extract_eq_take_drop,<-List.map_take,<-List.map_drop,cr]
theorem Pl {α:Type}{xs:List α}{l h:Int}(hb:bounds xs.length l h=av):(sub xs l h).length=h.toNat - l.toNat:=by
 simp_all[bounds,sub]
theorem Zh {r:Rd}{τ:Ty}{xs:List τ.den}{A:Option Addr}{n cap:Nat}{l h:Int}(H:Rc r (.sl τ) xs [.slice A n cap])(hb:bounds xs.length l h=av):
  n=xs.length/\n<=cap/\Rc r (.sl τ) (sub xs l h) [sliced A l.toNat h.toNat cap τ.size]:=by
 obtain⟨A',c,e,hc,he⟩:=H
 injection e with e;injection e with e1 e2 e3
 subst e1;subst e2;subst e3;refine⟨rfl,hc, ?_⟩;have IA:=Pl hb;simp[bounds]at hb;refine⟨_,cap - l.toNat,by unfold sliced;rw[IA],by omega, ?_⟩
 by_cases hz:sub xs l h=[]
 ·simp_all
 ·right
  rcases he with he|⟨b,o,L,rfl,hL,hi⟩
  ·simp_all[absurd,sub]
  ·have kI:l.toNat<h.toNat:=by
    grind [sub,cp]
   refine⟨b,o+l.toNat*τ.size,L, ?_,hL,λi s5=> ?_⟩
   ·rw[aj (by omega)];simp[a16]
   grind [sub,Nat.add_assoc,bQ]
theorem vS {E:Env}{t e:TypeId}{sz:Option Nat}{τ:Ty}{xs:List τ.den}{lo hi:Option Val}{s s':St}{sl:Slot}(h:(Dc sz τ xs lo hi).run s=J (sl,s'))(po:sz=E.sizeOf e)(ht:E.P.underlying t=J (.slice e)):
  s'=s/\∀{g:Gh} {w:World} {u:Value} {It EC:Option Value},Rc g.dj (.sl τ) xs [u]->((lo=ay/\It=ay)\/∃v' u,lo=J v'/\It=J u/\gx g v' u)->((hi=ay/\EC=ay)\/∃v' u,hi=J v'/\EC=J u/\gx g v' u)->
   ∃v,(a22 t u It EC ay).run E.P w= .ok v w/\fG g sl v:=by
 unfold Dc at h;split at h
 ·rename_i n;obtain⟨hb,h1⟩:=dQ h;obtain⟨l,t1,h2,h3⟩:=AM.cV h1;obtain⟨hh,t2,h4,h5⟩:=AM.cV h3;obtain⟨P5,h6⟩:=nY h5;obtain⟨rfl,rfl⟩:=cX h6;obtain⟨rfl,k1⟩:=A1 h2;obtain⟨rfl,k2⟩:=vJ h4;refine⟨rfl,λ{g w u It EC} hu S2 SU=> ?_⟩;obtain⟨A,c,e',hc,_⟩:=id hu
  injection e' with e'
  subst e';obtain⟨_,_,hr⟩:=Zh hu P5;refine⟨_, ?_,⟨rfl,hr⟩⟩
  have Ol:=BC (P:=E.P) (w:=w) (isSlice:=av) (lo:=It) (hi:=EC) P5 hc (by
   rcases k1 with⟨rfl,rfl⟩|⟨k,rfl⟩
   ·simp_all
   ·rcases S2 with⟨e,rfl⟩|⟨v',u,e,rfl,hv⟩
    ·cases e
    ·injection e with e;subst e
     exact .inr ⟨k,by rw[jt hv]⟩) (by
   rcases k2 with⟨rfl,rfl⟩|⟨k,rfl⟩
   ·simp_all
   ·rcases SU with⟨e,rfl⟩|⟨v',u,e,rfl,hv⟩
    ·cases e
    ·injection e with e;subst e
     exact .inr ⟨k,by rw[jt hv]⟩)
  have hn:=beq_eq hb
  have XB:(Go.sizeOf e).run E.P w= .ok n w:=by
   have:=po.symm;unfold Env.sizeOf at this;simp at this;obtain⟨i,hi,aJ8⟩:=this;simp_all[Go.sizeOf,typeInfo]
  simp only[a22,Instr.slice,bH,run_underlying ht,bh,Ol,XB];simp[sliced,hn]
 ·cases h
theorem IZ {E:Env}{t:TypeId}{lo hi:Option Val}{c:Cell}{s s':St}{sl:Slot}(h:(K3 ((E.elem t).bind E.sizeOf) lo hi c).run s=J (sl,s'))(hf:E.fit t c=av):
  s'.env=s.env/\∀{B:Base} {g:Gh} {w:World} {u:Value} {It EC:Option Value},HRel B g s.hp w->dR g c u->((lo=ay/\It=ay)\/∃v' u,lo=J v'/\It=J u/\gx g v' u)->((hi=ay/\EC=ay)\/∃v' u,hi=J v'/\EC=J u/\gx g v' u)->
   ∃v g',(a22 t u It EC ay).run E.P w= .ok v w/\Le g g'/\HRel B g' s'.hp w/\fG g' sl v:=by
 have Yl:∀{g g':Gh} {x:Option Val} {ux:Option Value},Le g g'->((x=ay/\ux=ay)\/∃v' u,x=J v'/\ux=J u/\gx g v' u)->((x=ay/\ux=ay)\/∃v' u,x=J v'/\ux=J u/\gx g' v' u):=
  λl h=>h.imp id λ⟨v',u,a,b,c⟩=>⟨v',u,a,b,c.mono l⟩
 unfold K3 at h;split at h
 ·rename_i st;obtain⟨l,t1,h2,h3⟩:=AM.cV h;obtain⟨hh,t2,h4,h5⟩:=AM.cV h3;obtain⟨P5,h6⟩:=nY h5;obtain⟨rfl,rfl⟩:=cX h6;obtain⟨rfl,k1⟩:=A1 h2;obtain⟨rfl,k2⟩:=vJ h4;refine⟨rfl,λ{B g w u It EC} R hu S2 SU=> ?_⟩;obtain⟨sb,rfl,pH⟩:=qC hu;subst pH;rw[iy]at P5 k2
  have ht:E.P.underlying t=J .string:=by
   grind [Env.fit,Cell.isStr]
  have Ol:=BC (P:=E.P) (w:=w) (isSlice:=ar) (lo:=It) (hi:=EC) P5 (aC _) (by
   rcases k1 with⟨rfl,rfl⟩|⟨k,rfl⟩
   ·simp_all
   ·rcases S2 with⟨e,rfl⟩|⟨v',u,e,rfl,hv⟩
    ·cases e
    ·injection e with e;subst e
     exact .inr ⟨k,by rw[jt hv]⟩) (by
   rcases k2 with⟨rfl,rfl⟩|⟨k,rfl⟩
   ·simp_all
   ·rcases SU with⟨e,rfl⟩|⟨v',u,e,rfl,hv⟩
    ·cases e
    ·injection e with e;subst e
     exact .inr ⟨k,by rw[jt hv]⟩)
  refine⟨.string (sb.extract l.toNat hh.toNat),g, ?_,Le.refl g,R,by rw[D7];exact Pz g _⟩;simp_all[a22,Instr.slice,bH,run_underlying,bh]
 ·rename_i τ xs
  have ht:∃e,E.P.underlying t=J (.slice e):=by
   unfold Env.fit at hf;split at hf
   ·simp[Cell.isStr]at hf
   ·exact⟨_,by assumption⟩
   ·cases hf
  obtain⟨e,ht⟩:=ht;obtain⟨rfl,hs⟩:=vS (E:=E) (t:=t) (e:=e) h (by simp[Env.elem,ht]) ht;refine⟨rfl,λ{B g w u It EC} R hu S2 SU=> ?_⟩;obtain⟨v,h1,h2⟩:=hs (w:=w) hu.2 S2 SU;exact⟨v,g,h1,Le.refl g,R,h2⟩
 ·rename_i id gen
  have ht:∃e,E.P.underlying t=J (.slice e):=by
   unfold Env.fit at hf;split at hf
   ·simp[Cell.isStr]at hf
   ·exact⟨_,by assumption⟩
   ·cases hf
  obtain⟨e,ht⟩:=ht;simp only[AM.run]at h;split at h
  ·rename_i g0 τ deep xs heq;obtain⟨hb,h'⟩:=dQ h;obtain rfl:=beq_eq hb;obtain⟨rfl,hs⟩:=vS (E:=E) (t:=t) (e:=e) h' (by simp[Env.elem,ht]) ht;refine⟨rfl,λ{B g w u It EC} R hu S2 SU=> ?_⟩;obtain⟨g',l,R'⟩:=R.HS heq;have hP:Rc _ _ _ _:=R'.gE _ _ (du _ _ _);rw[show g'.cv id g0=g.cv id g0 from l.le.cv _ _ (jm R heq),<-hu.2.1]at hP;obtain⟨v,h1,h2⟩:=hs (w:=w) hP (Yl l.le S2) (Yl l.le SU);exact⟨v,g',h1,l.le,R',h2⟩
  ·rename_i g0 τ xs heq;obtain⟨hb,h'⟩:=dQ h;obtain rfl:=beq_eq hb;obtain⟨rfl,hs⟩:=vS (E:=E) (t:=t) (e:=e) h' (by simp[Env.elem,ht]) ht;refine⟨rfl,λ{B g w u It EC} R hu S2 SU=> ?_⟩;have hP:Rc _ _ _ _:=R.gE _ _ heq;rw[<-hu.2.1]at hP;obtain⟨v,h1,h2⟩:=hs (w:=w) hP S2 SU;exact⟨v,g,h1,Le.refl g,R,h2⟩
  ·cases h
 ·cases h
theorem IX {E:Env}{t:TypeId}{hi:Option Val}{d id gen:Nat}{s s':St}{sl:Slot}(h:(K8 d id gen ((E.elem t).bind E.sizeOf) hi).run s=J (sl,s'))(hf:E.fit t (.own id gen)=av):
  s'.env=s.env/\∀{B:Base} {g:Gh} {w:World} {u:Value} {It EC:Option Value},HRel B g s.hp w->dR g (.own id gen) u->It=ay->((hi=ay/\EC=ay)\/∃v' u,hi=J v'/\EC=J u/\gx g v' u)->
   ∃v g',(a22 t u It EC ay).run E.P w= .ok v w/\Le g g'/\HRel B g' s'.hp w/\fG g' sl v:=by
 have ht:∃e,E.P.underlying t=J (.slice e):=by
  grind [Env.fit,Cell.isStr]
 obtain⟨e,ht⟩:=ht;simp only[K8,AM.run]at h;split at h
 ·rename_i g0 τ dp xs heq;obtain⟨hb,h1⟩:=dQ h;simp only[aA,cq]at hb;obtain⟨⟨b1,b2⟩,b3⟩:=hb;obtain rfl:=beq_eq b1
  have hd:d≠id:=λe=>by simp_all
  split at h1
  ·rename_i n po;obtain⟨hn,h2⟩:=dQ h1;obtain rfl:=beq_eq hn;obtain⟨hh,t1,h3,h4⟩:=AM.cV h2;obtain⟨rfl,k2⟩:=vJ h3;obtain⟨P5,h5⟩:=nY h4;obtain⟨gd,t2,h6,h7⟩:=AM.cV h5;obtain⟨rfl,_⟩:=CI h6;obtain⟨rfl,rfl⟩:=h7;refine⟨rfl,λ{B g w u It EC} R hu S2 SU=> ?_⟩;subst S2;have as4:=CF R h6;subst as4;have VH:=P5;simp[bounds]at VH;have nE:=hu.2.1;have XB:(Go.sizeOf e).run E.P w= .ok τ.size w:=run_sizeOf (by simp_all[Env.elem]) w
   have aS8:(hi=ay/\EC=ay/\hh=(xs.length:Int))\/(∃k,EC=J (.int k hh)):=by
    rcases k2 with⟨rfl,rfl⟩|⟨k,rfl⟩
    ·simp_all
    ·rcases SU with⟨e,rfl⟩|⟨v',u,e,rfl,hv⟩
     ·cases e
     ·injection e with e;subst e
      exact .inr ⟨k,by rw[jt hv]⟩
   have Ol:=λcap (hc:xs.length<=cap)=>BC (P:=E.P) (w:=w) (isSlice:=av) (cap:=cap) (lo:=ay) (hi:=EC) P5 hc (.inl ⟨rfl,rfl⟩) (by
    rcases aS8 with⟨_,a,b⟩|⟨k,a⟩
    ·exact .inl ⟨a,b⟩
    ·exact .inr ⟨k,a⟩)
   rcases R.gE _ _ heq with⟨o1,o2⟩|⟨b,cap,arr,ty,o1,o2,o3,o4,o5,o6,o7⟩
   ·subst o2;rw[o1]at nE
    have h0:hh=0:=by simp at VH;omega
    subst h0;obtain⟨l,R'⟩:=R.named (id:=d) (u:= .slice ay 0 0) (o':= .own (g.top d) τ av []) rfl (.inl ⟨by simp[Gh.name],rfl⟩)
    have R2:HRel B (g.name d (g.top d) (.slice ay 0 0)) ((id, .dead g0)::(d, .own (g.top d) τ av (a78 (Int.toNat 0) ([]:List τ.den)))::t2.hp) w:=by
     refine HRel.put (o:= .own g0 τ dp []) R' ?_ rfl trivial;rw[de _ _ hd];exact heq
    refine⟨.slice ay 0 0,_, ?_,l.le,R2,⟨by simp[Gh.name],by simp[Gh.name],rfl⟩⟩;have:=Ol 0 (aC _);simp only[a22,Instr.slice,bH,run_underlying ht,bh,nE,aB]at this⊢;simp only[this,XB,bh];simp[]
   ·rw[o1]at nE;unfold gy at o7;rw[b2]at o7;simp at o7
    have hlen:(xs.take hh.toNat).length=hh.toNat:=by simp;omega
    let g':Gh:={g with top:=λi=>if i=d then g.top d+1 else g.top i,cv:=λi k=>if i=d/\k=g.top d then .slice (J ⟨b,0,ay⟩) hh.toNat cap else g.cv i k,fL:=λx=>if x=b then J (d+1)else g.fL x}
    have hle:Le g g':=by
     refine⟨λ_ _ h=>h,λj=> ?_,λj k hk=> ?_⟩
     ·show g.top j<=if j=d then g.top d+1 else g.top j
      split
      ·rename_i e;subst e;omega
      ·exact aC _
     ·show(if j=d/\k=g.top d then _ else g.cv j k)=g.cv j k;rw[aj];rintro⟨rfl,rfl⟩;omega
    have n9:∀x,x≠b->g'.fL x=g.fL x:=λx hx=>by simp[g',hx]
    have newObj:pg g' w d (.own (g.top d) τ av (xs.take hh.toNat)):=by
     refine .inr ⟨b,cap,arr,ty,by simp[g',hlen],by simp[g'],o3,o4,by omega,o6, ?_⟩;unfold gy;rw[b2];simp;intro i hi
     have s5:i<xs.length:=by rw[hlen]at hi;omega
     have e1:(xs.take hh.toNat)[i]=xs[i]:=(by simp);rw[e1];exact o7 i s5
    have R2:HRel B g' ((d, .own (g.top d) τ av (xs.take hh.toNat))::(id, .dead g0)::t2.hp) w:=by
     refine⟨λj=> ?_,λj oj hj=> ?_,λx L hx=> ?_,λx L hx=> ?_,λx hx=> ?_,R.kH,λx hx hl hi=> ?_,R.size,R.os,R.tape,R.output,R.fix⟩
     ·show(if j=d then g.top d+1 else g.top j)=_
      by_cases e2:d=j
      ·subst e2;rw[du,ak rfl];rfl
      ·rw[de _ _ e2,aj (Ne.symm e2)]
       by_cases e1:id=j
       ·subst e1;rw[du,R.top id,heq];rfl
       ·rw[de _ _ e1];exact R.top j
     ·by_cases e2:d=j
      ·subst e2;rw[du]at hj;injection hj with hj;subst hj;exact newObj
      ·rw[de _ _ e2]at hj
       by_cases e1:id=j
       ·subst e1;rw[du]at hj;injection hj with hj;subst hj;trivial
       ·rw[de _ _ e1]at hj;refine(R.gE j oj hj).tr hle (λx hx=> ?_) rfl (jm R hj)
        have:x≠b:=λe=>by subst e;rw[o2]at hx;simp at hx;exact e1 hx
        exact⟨(n9 x this).trans hx,rfl,rfl⟩
     ·obtain⟨a1,a2,a3⟩:=R.dj x L hx
      have:x≠b:=λe=>by subst e;rw[o2]at a1;cases a1
      exact⟨(n9 x this).trans a1,a2,a3⟩
     ·obtain⟨a1,a2⟩:=R.gA x L hx;refine⟨?_,a2⟩
      by_cases e:x=b
      ·subst e;simp[g']
      ·rw[n9 x e];exact a1
     ·by_cases e:x=b
      ·subst e;exact R.gD x (by rw[o2];simp)
      ·rw[n9 x e]at hx;exact R.gD x hx
     ·obtain⟨f1,f2,f3⟩:=R.frame x hx hl hi
      have:x≠b:=λe=>by subst e;rw[o2]at f1;cases f1
      exact⟨(n9 x this).trans f1,f2,f3⟩
    have R3:HRel B g' ((id, .dead g0)::(d, .own (g.top d) τ av (xs.take hh.toNat))::t2.hp) w:=R2.YT λi=>by
     by_cases e1:id=i
     ·subst e1;rw[du,de _ _ hd,du]
     ·by_cases e2:d=i
      ·subst e2;rw[du,de _ _ e1,du]
      ·rw[de _ _ e1,de _ _ e2,de _ _ e2,de _ _ e1]
    refine⟨.slice (J ⟨b,0,ay⟩) hh.toNat cap,g', ?_,hle,R3,⟨by simp[g'],by simp[g'],rfl⟩⟩;have:=Ol cap o5;simp only[a22,Instr.slice,bH,run_underlying ht,bh,nE]at this⊢;simp[this,XB];simp[CY]
  ·cases h1
 ·cases h
theorem Mi {E:Env}{t:TypeId}{x:Operand}{lo hi:Option Operand}{s s':St}{sl:Slot}{d:Nat}(h:(gB E d (.slice t x lo hi ay)).run s=J (sl,s')):Yld E (.slice t x lo hi ay) s sl s':=by
 obtain⟨v,t1,h1,h2⟩:=AM.cV h;obtain⟨c,t2,h3,h4⟩:=AM.cV h2;obtain⟨aL4,t3,h5,h6⟩:=AM.cV h4;obtain⟨s5,t4,h7,h8⟩:=AM.cV h6;obtain⟨hf,h9⟩:=dQ h8;obtain⟨rfl,r1⟩:=eZ h1;obtain⟨rfl,rfl⟩:=wM h3;obtain⟨rfl,r2⟩:=He h5;obtain⟨rfl,r3⟩:=He h7
 obtain⟨he,hs⟩:s'.env=_/\∀{B:Base} {g:Gh} {w:World} {u:Value} {It EC:Option Value},HRel B g _ w->dR g c u->((aL4=ay/\It=ay)\/∃v' u,aL4=J v'/\It=J u/\gx g v' u)->((s5=ay/\EC=ay)\/∃v' u,s5=J v'/\EC=J u/\gx g v' u)->
   ∃v g',(a22 t u It EC ay).run E.P w= .ok v w/\Le g g'/\HRel B g' s'.hp w/\fG g' sl v:=by
  split at h9
  ·obtain⟨a,b⟩:=IX h9 hf;refine⟨a,λ{B g w u It EC} R hu S2 SU=>b R hu ?_ SU⟩;simp_all
  grind [IZ]
 refine⟨he,λo ho B g a w R V=> ?_⟩;obtain⟨v,g',k1,k2,k3,k4⟩:=hs R (r1 V) (r2 V) (r3 V)
 grind [execOp,fT]
theorem AS:∀(ns:List Int) (s:ByteArray),bytesOf (ns.foldl (λr n=>r.push (UInt8.ofNat n.toNat)) s)=bytesOf s++ns.map byte
 |[],s=>by simp
 |n::ns,s=>by
  rw[List.foldl_cons,AS ns]
  have:bytesOf (s.push (UInt8.ofNat n.toNat))=bytesOf s++[byte n]:=by
   simp_all[bytesOf,byte,ByteArray.data_push]
  simp_all
theorem QA {P:Program}{w:World}{b o:Nat}{xs:List Int}{cap:Nat}(h:∀i (hi:i<xs.length),w.cell? ⟨b,o+i,ay⟩=J (.int .u8 xs[i])):
  ∃st,(Conv.bytesToString (.slice (J ⟨b,o,ay⟩) xs.length cap)).run P w= .ok (.string st) w/\bytesOf st=xs.map byte:=by
 have hl:=run_loadCells_list (P:=P) w ⟨b,o,ay⟩ (xs.map (bN .u8)) (λj v hj=>by
  simp at hj;obtain⟨x,hx,rfl⟩:=hj;obtain⟨hj,rfl⟩:=bw.1 hx
  simp_all[a16])
 rw[bT]at hl;refine⟨_,run_bytesToString w ⟨b,o,ay⟩ xs.length cap xs (by omega), ?_⟩;rw[AS];rfl
theorem Eb {r:Rd}{w:World}{xs:List Int}{b o:Nat}{arr:Array Value}{ty:TypeId}{fr:Nat×Nat}(ha:w.heap[b]?=J (.cells arr ty fr))(h:Els r (.int .u8) xs arr.toList o):
  ∀i (hi:i<xs.length),w.cell? ⟨b,o+i,ay⟩=J (.int .u8 xs[i]):=by
 intro i hi;have h1:_=_:=h i hi
 have:=jE ha (o:=o+i) 1 0 (.int .u8 xs[i]) (by
  have h1:a78 1 (a77 (o+i*1) arr.toList)=[bN .u8 xs[i]]:=h1
  simp_all)
 omega
theorem No {P:Program}{g:Gh}{B:Base}{hp:List (Nat×Obj)}{w:World}(R:HRel B g hp w){xs:List Int}{u:Value}(h:Rc g.dj (.sl (.int .u8)) xs [u]):
  ∃st,(Conv.bytesToString u).run P w= .ok (.string st) w/\bytesOf st=xs.map byte:=by
 obtain⟨A,c,e,hc,he⟩:=h
 injection e with e
 subst e
 cases A with
 |none=>
  rcases he with he|⟨b,o,L,e,_⟩
  ·subst he;exact⟨.empty,by rfl,rfl⟩
  simp_all
 |some a=>
  rcases he with he|⟨b,o,L,e,hL,hi⟩
  ·subst he;have hl:=run_loadCells_list (P:=P) w a [] (λj v hj=>by simp_all);exact⟨_,run_bytesToString w a 0 c [] hl,rfl⟩
  ·injection e with e
   subst e;obtain⟨_,_,arr,ty,fr,k1,k2⟩:=R.dj _ _ hL;subst k2;exact QA (Eb k1 hi)
theorem IV {E:Env}{src dst:TypeId}{x:Operand}{s s':St}{sl:Slot}{d:Nat}(h:(gB E d (.convert src dst x)).run s=J (sl,s')):Yld E (.convert src dst x) s sl s':=by
 obtain⟨v,t1,h1,h2⟩:=AM.cV h;obtain⟨rfl,r1⟩:=eZ h1;unfold convert at h2;split at h2
 ·rename_i k0 k hs hd;obtain⟨n,t2,h3,h4⟩:=AM.cV h2;obtain⟨⟨k',rfl⟩,rfl⟩:=mM h3;obtain⟨rfl,rfl⟩:=cX h4
  refine .still λo ho B g a w R V=>⟨.int k (k.wrap n), ?_,xF g _ _⟩
  unfold execOp;rw[ho]
  apply fT
  rw[jt (r1 V)];simp_all[Go.convert,run_underlying,Conv.intToInt]
 ·rename_i e hs hd;split at h2
  ·rename_i c he
   have fin:∀{xs:List Int},sl=ws (xs.map byte)->s'=t1->(∀{B:Base} {g:Gh} {w:World} {u:Value},HRel B g t1.hp w->dR g c u->(∃A n c,u= .slice A n c)/\∃st,(Conv.bytesToString u).run E.P w= .ok (.string st) w/\bytesOf st=xs.map byte)->
     Yld E (.convert src dst x) t1 sl s':=by
    rintro xs rfl rfl hf
    refine .still λo ho B g a w R V=> ?_
    obtain⟨⟨A,n,c,e⟩,st,k1,k2⟩:=hf R (r1 V);refine⟨.string st, ?_,by grind [Pz]⟩;simp_all[execOp,fT,run_convert_bytes_string]
   split at h2
   ·obtain⟨rfl,rfl⟩:=cX h2
    refine fin rfl rfl λ{B g w u} R hu=>⟨?_,No R hu.2⟩
    obtain⟨_,A,c,e,_⟩:=hu;simp_all
   ·obtain⟨rfl,rfl⟩:=cX h2
    refine fin (xs:=[]) rfl rfl λ{B g w u} R hu=> ?_
    have hu:_=_:=hu;subst hu;exact⟨⟨_,_,_,rfl⟩, .empty,by rfl,rfl⟩
   ·rename_i id gen;simp only[AM.run]at h2;split at h2
    ·rename_i g0 deep xs heq;obtain⟨hb,h'⟩:=dQ h2;obtain rfl:=beq_eq hb;obtain⟨rfl,rfl⟩:=cX h'
     refine fin rfl rfl λ{B g w u} R hu=> ?_
     rcases R.gE _ _ heq with⟨k1,k2⟩|⟨b,cap,arr,ty,k1,k2,k3,k4,k5,k6,k7⟩
     ·subst k2;rw[hu.2.1,k1];exact⟨⟨_,_,_,rfl⟩, .empty,by simp[Conv.bytesToString],rfl⟩
     ·rw[hu.2.1,k1];refine⟨⟨_,_,_,rfl⟩,QA (Eb (r:=g.dj) k4 ?_)⟩;unfold gy at k7;rw[aj (by simp[Ty.flat])]at k7;exact k7
    ·rename_i g0 xs heq;obtain⟨hb,h'⟩:=dQ h2;obtain rfl:=beq_eq hb;obtain⟨rfl,rfl⟩:=cX h'
     refine fin rfl rfl λ{B g w u} R hu=> ?_
     have hP:Rc _ _ _ _:=R.gE _ _ heq;rw[<-hu.2.1]at hP;refine⟨?_,No R hP⟩;obtain⟨A,c,e,_⟩:=hP
     injection e with e
     exact⟨A,_,c,e⟩
    ·cases h2
   ·cases h2
  ·cases h2
 ·rename_i e hs hd;split at h2
  ·rename_i l he;obtain⟨rfl,rfl⟩:=cX h2;refine⟨rfl,λo ho B g a w R V=> ?_⟩;obtain⟨st,e1,pH⟩:=qC (r1 V)
   have hl:a14 l=st.size:=by rw[pH];exact iy st
   have hT:Turned w (Lib.bytesWorld w e st) w.heap.size:=by
    refine⟨λx hx=> ?_,by rw[Lib.bytesWorld_size];omega,by rw[Lib.bytesWorld_size];omega,rfl,rfl,rfl⟩
    rcases bG x w.heap.size with h|h
    ·exact Lib.bytesWorld_at_old w e st x h
    ·rw[Array.getElem?_eq_none (by rw[Lib.bytesWorld_size];omega),Array.getElem?_eq_none h]
   obtain⟨g',hle,hi,R'⟩:=R.Zn hT (Lib.bytesWorld_at_new w e st);refine⟨.slice (J ⟨w.heap.size,0,ay⟩) st.size (grownCap w st.size 0 e),_,g', ?_,hle,R', ?_⟩
   ·unfold execOp;rw[ho]
    apply fT
    rw[e1];exact Lib.run_convert_string_bytes w _ _ e st hs hd he
   ·refine⟨rfl,J ⟨w.heap.size,0,ay⟩,_,by rw[<-hl], ?_, .inr ⟨w.heap.size,0,_,rfl,hi,λi s5=> ?_⟩⟩
    ·rw[hl];exact grownCap_ge w st.size 0 e
    ·have aJ8:i<st.data.toList.length:=by
      have:i<st.size:=by rw[<-hl];exact s5
      rw[a30];exact this
     show a78 1 (a77 (0+i*1) (Lib.bytesCells w e st).toList)=[bN .u8 l[i]];rw[cj,a57];unfold Lib.bytesCells;rw[Array.toList_append,Array.toList_map,bI (by simp;omega)];have hlen:i<(st.data.toList.map λb=>bN .u8 b.toNat).length:=(by simpa using aJ8);rw[bJ hlen];simp
     congr 2
     have:l[i]=(bytesOf st)[i]'(by rw[<-pH];exact s5):=(by simp[pH]);rw[this];simp[bytesOf]
  ·cases h2
 ·cases h2
theorem Ar {E:Env}{t:TypeId}{x:Operand}{s s':St}{sl:Slot}{d:Nat}(h:(gB E d (.makeInterface t x)).run s=J (sl,s')):Yld E (.makeInterface t x) s sl s':=by
 obtain⟨v,t1,h1,h2⟩:=AM.cV h;obtain⟨rfl,r1⟩:=eZ h1;split at h2
 ·cases h2
 ·rename_i u hu ht;obtain⟨rfl,rfl⟩:=cX h2
  refine .still λo ho B g a w R V=>⟨.iface t (a.eval x), ?_, .inr ⟨rfl,_,_,rfl⟩⟩
  unfold execOp;rw[ho]
  apply fT
  simp only[Instr.makeInterface,run_underlying ht,bH,bh];rfl
 ·cases h2
end Go.Abs
end

section
namespace Go.Abs
theorem HRel.Ub {B:Base}{g:Gh}{hp:List (Nat×Obj)}{w:World}(R:HRel B g hp w){id gen:Nat}{τ:Ty}{deep:Bool}{xs:List τ.den}
  (h:look hp id=J (.own gen τ deep xs)):∃g' nb,Lk g g'/\HRel B g' ((id, .dead gen)::hp) w/\(∀b∈nb,g.fL b≠J 0)/\
   ((g'.cv id gen= .slice ay 0 0/\xs=[]/\nb=[])\/∃b cap arr ty,g'.cv id gen= .slice (J ⟨b,0,ay⟩) xs.length cap/\Free g' ((id, .dead gen)::hp) w b/\b∉nb/\b<w.heap.size/\w.heap[b]?=J (.cells arr ty (0,0))/\
    xs.length<=cap/\arr.size=cap*τ.size/\iZ g' (deep&& !τ.flat) τ xs arr.toList nb):=by
 have Yg:∀i,i=id->∀o,look ((id,Obj.dead gen)::hp) i=J o->∃gn,o= .dead gn:=by
  rintro i rfl o ho
  grind [du]
 rcases R.gE _ _ h with⟨h1,h2⟩|⟨b,cap,arr,ty,h1,h2,h3,h4,h5,h6,h7⟩
 ·exact⟨g,[],Lk.refl g,R.put h rfl trivial,λb hb=>by simp_all, .inl ⟨h1,h2,rfl⟩⟩
 ·have J1:b<w.heap.size:=R.gD b (by simp_all)
  have Yj:g.dj b=none:=by
   cases hi:g.dj b with
   |none=>rfl
   |some L=>have:=(R.dj b L hi).1;simp_all
  unfold gy at h7;split at h7
  ·rename_i hd;obtain⟨nb,k1,k2,k3⟩:=h7
   have LZ:b∉nb:=λhm=>k1.uM b hm h3
   let g':Gh:={g with fL:=open Classical in λx=>if x∈nb then J 0 else g.fL x}
   have hle:Le g g':=⟨λ_ _ h=>h,λ_=>aC _,λ_ _ _=>rfl⟩
   have hR:HRel B g' ((id, .dead gen)::hp) w:=by
    refine⟨λi=> ?_,λi oi hi=> ?_,λx L hx=> ?_,λx L hx=> ?_,λx hx=> ?_,R.kH,λx hx hl hi=> ?_,R.size,R.os,R.tape,R.output,R.fix⟩
    ·show g.top i=_;rw[R.top i]
     by_cases e:id=i
     ·subst e;rw[du,h];rfl
     simp_all[de]
    ·by_cases e:id=i
     ·subst e;rw[du]at hi;injection hi with hi;subst hi;trivial
     ·rw[de _ _ e]at hi;refine(R.gE i oi hi).tr hle (λx hx=> ?_) rfl (by rw[R.top i,hi];simp)
      grind
    ·obtain⟨a1,a2,a3⟩:=R.dj x L hx
     grind
    ·obtain⟨a1,a2⟩:=R.gA x L hx
     grind
    ·by_cases Ai:x∈nb
     ·exact R.gD x (by simp_all)
     ·exact R.gD x (by grind)
    ·obtain⟨f1,f2,f3⟩:=R.frame x hx hl hi
     have Ai:x∉nb:=λhm=>by rw[k3 x hm]at f1;cases f1
     exact⟨by simp[g',Ai,f1],f2,f3⟩
   refine⟨g',nb,⟨hle,λx hx=> ?_,rfl⟩,hR,λx hx=>by rw[k3 x hx];simp, .inr ⟨b,cap,arr,ty,h1,⟨λi hi o ho=> ?_, ?_,Yj,h3,λhn=> ?_⟩,LZ,J1,h4,h5,h6, ?_⟩⟩
   ·have Ai:x∉nb:=λhm=>by rw[k3 x hm]at hx;simp at hx
    simp[g',Ai,hx]
   ·have s5:g.fL b=J (i+1):=by simpa[g',LZ]using hi
    rw[h2]at s5;simp at s5;exact Yg i s5.symm o ho
   ·simp[g',LZ,h2]
   ·simp[g',LZ,h2]at hn
   ·unfold iZ;rw[ak hd];exact⟨k1,k2,λx hx=>by simp[g',hx]⟩
  ·rename_i hd;refine⟨g,[],Lk.refl g,R.put h rfl trivial,λx hx=>by simp at hx, .inr ⟨b,cap,arr,ty,h1,⟨λi hi o ho=> ?_,by rw[h2];simp,Yj,h3,λhn=>by rw[h2]at hn;cases hn⟩,by simp,J1,h4,h5,h6, ?_⟩⟩
   ·rw[h2]at hi;simp at hi;exact Yg i hi.symm o ho
   ·unfold iZ;rw[aj hd];exact⟨h7,rfl⟩
theorem HRel.settle {B:Base}{g:Gh}{hp:List (Nat×Obj)}{w:World}(R:HRel B g hp w){nb:List Nat}(h0:∀x∈nb,g.fL x=J 0):Le g (g.pF (nbS g nb))/\HRel B (g.pF (nbS g nb)) hp w:=by
 have hS:∀x L,nbS g nb x=J L->g.fL x=J 0/\∃arr ty fr,w.heap[x]?=J (.cells arr ty fr)/\arr.toList=L:=by
  intro x L hx;unfold nbS at hx;split at hx
  ·rename_i hm;obtain⟨_,arr,ty,a,b⟩:=R.gA x L hx;simp_all
  simp_all
 have hle:Le g (g.pF (nbS g nb)):=by
  refine⟨λb L h=> ?_,λ_=>aC _,λ_ _ _=>rfl⟩;show(match nbS g nb b with|some L=>J L|none=>g.dj b)=J L
  cases hs:nbS g nb b with
  |none=>exact h
  |some L'=>exact absurd (hS b L' hs).1 (by rw[(R.dj b L h).1];simp)
 refine⟨hle,λi=>R.top i,λi oi hi=> ?_,λb L h=> ?_,λb L h=> ?_,λb h=> ?_,λb L h=>hle.dj _ _ (R.kH b L h),λb hb hl hi=> ?_,R.size,R.os,R.tape,R.output,R.fix⟩
 ·refine(R.gE i oi hi).tr hle (λb hb=> ?_) rfl (by rw[R.top i,hi];simp)
  grind [nbS,absurd,Gh.pF]
 ·simp only[Gh.pF]at h⊢
  cases hs:nbS g nb b with
  |some L'=>
   simp_all
  |none=>rw[hs]at h;exact R.dj b L h
 ·simp only[Gh.pF]at h⊢
  cases hs:nbS g nb b with
  |some L'=>simp_all
  |none=>rw[hs]at h;exact R.gA b L h
 ·simp only[Gh.pF]at h
  cases hs:nbS g nb b with
  |some L'=>simp_all
  |none=>rw[hs]at h;exact R.gD b h
 ·obtain⟨f1,f2,f3⟩:=R.frame b hb hl hi
  grind [nbS,absurd,Gh.pF]
theorem iZ.loose {B:Base}{g:Gh}{hp:List (Nat×Obj)}{w:World}(R:HRel B g hp w){mv:Bool}{τ:Ty}{xs:List τ.den}{L:List Value}{nb:List Nat}(h:iZ g mv τ xs L nb):
  ∃g',Le g g'/\HRel B g' hp w/\iZ g' ar τ xs L []/\(∀b,b∉nb->Free g hp w b->Free g' hp w b):=by
 cases mv with
 |false=>
  refine⟨g,Le.refl g,R, ?_,λ_ _ h=>h⟩;simp_all[iZ,bZ,if_false,trivial]
 |true=>
  obtain⟨hle,R'⟩:=R.settle h.2.2;refine⟨_,hle,R', ?_,λb hb hf=> ?_⟩
  ·unfold iZ;simp only[bZ,if_false];exact⟨gZ.els (nb:=nb) (h.1.mono λx hx L hL=>by simp_all[Gh.pF,nbS]),trivial⟩
  ·have hn:nbS g nb b=none:=by grind [nbS]
   exact⟨λi hi=>hf.obj i (by simp_all[Gh.pF]),by simpa[Gh.pF,hn]using hf.Xg,by simpa[Gh.pF,hn]using hf.dj,by simpa[Gh.pF,hn]using hf.gA,λh=>hf.new (by simp_all[Gh.pF])⟩
theorem iZ.G3 {g g':Gh}(l:Le g g'){τ:Ty}{xs:List τ.den}{L:List Value}{nb:List Nat}(h:iZ g ar τ xs L nb):iZ g' ar τ xs L nb:=by
 exact⟨h.1.mono l.dj,h.2⟩
theorem WM {r:Rd}{τ:Ty}{x:τ.den}{us:List Value}(h:Rc r τ x us):∀u∈us,u.oneCell'=true:=
 (oC (g:={dj:=r,top:=λ_=>0,cv:=λ_ _=> .tuple #[],fL:=λ_=>ay,gA:=λ_=>ay,outer:=λ_=>[]}) h).Zt
theorem C4 {r:Rd}{τ:Ty}:∀{xs:List τ.den} {L:List Value},Els r τ xs L 0->L.length=xs.length*τ.size->∀u∈L,u.oneCell'=av
 |[],L,_,hl,u,hu=>by
  simp_all
 |x::xs,L,h,hl,u,hu=>by
  obtain⟨h1,h2⟩:=Els.head.1 h;rw[<-List.take_append_drop τ.size L]at hu
  rcases aL.1 hu with hu|hu
  ·exact WM h1 u hu
  ·exact C4 h2 (by simp only[bL,hl,az,bQ];omega) u hu
theorem iZ.els {g:Gh}{mv:Bool}{τ:Ty}{xs:List τ.den}{L:List Value}{nb:List Nat}(h:iZ g mv τ xs L nb):∃r,Els r τ xs L 0:=by
 unfold iZ at h;split at h
 ·exact⟨_,h.1.els⟩
 grind
theorem iZ.pre {g:Gh}{mv:Bool}{τ:Ty}{xs:List τ.den}{L M:List Value}{nb:List Nat}(hp:L.take (xs.length*τ.size)=M.take (xs.length*τ.size))(h:iZ g mv τ xs L nb):iZ g mv τ xs M nb:=by
 unfold iZ at h⊢;split
 ·rename_i e;rw[ak e]at h;exact⟨h.1.pre (λk hk=>by simp_all),h.2⟩
 ·rename_i e;rw[aj e]at h;exact⟨h.1.pre (λk hk=>by simp_all),h.2⟩
theorem iZ.append {g:Gh}{mv:Bool}{τ:Ty}{xs ys:List τ.den}{L M:List Value}{n m:List Nat}(h:iZ g mv τ xs L n)(k:iZ g mv τ ys M m)(hl:L.length=xs.length*τ.size)(hd:∀x∈n,x∉m):
  iZ g mv τ (xs++ys) (L++M) (n++m):=by
 unfold iZ at h k⊢;split
 ·rename_i e;rw[ak e]at h k;refine⟨h.1.append k.1 hl, ?_,λb hb=> ?_⟩
  all_goals grind
 ·rename_i e;rw[aj e]at h k;exact⟨h.1.append k.1 hl,by simp_all⟩
end Go.Abs
end

section
namespace Go.Abs
theorem WC {r:Rd}{e:Ty}{xs:List e.den}{L:List Value}{o:Nat}(h:Els r e xs L o):Els r e xs (L.drop o) 0:=by
 intro i hi;have:=h i hi;simp_all
theorem KQ {r:Rd}{e:Ty}{xs:List e.den}{L:List Value}{o:Nat}(h:Els r e xs L o):Els r e xs ((L.drop o).take (xs.length*e.size)) 0/\((L.drop o).take (xs.length*e.size)).length=xs.length*e.size:=by
 have h':=WC h;refine⟨h'.pre (λk hk=>by grind), ?_⟩;have:=h'.len;simp_all
theorem iZ.cut {g:Gh}{mv:Bool}{τ:Ty}{xs:List τ.den}{L:List Value}{nb:List Nat}(h:iZ g mv τ xs L nb):iZ g mv τ xs (L.take (xs.length*τ.size)) nb/\(L.take (xs.length*τ.size)).length=xs.length*τ.size:=by
 obtain⟨r,he⟩:=h.els;refine⟨h.pre (by grind), ?_⟩;have:=he.len;simp_all
theorem iZ.nil {g:Gh}{mv:Bool}{τ:Ty}{L:List Value}:iZ g mv τ [] L []:=by
 unfold iZ;split
 ·exact⟨rfl,bf,λb hb=>by simp_all⟩
 ·exact⟨Els.nil,rfl⟩
theorem Zo {P:Program}{B:Base}{g:Gh}{hp:List (Nat×Obj)}{w:World}(R:HRel B g hp w){e:Ty}{xs:List e.den}{u:Value}{tx e':TypeId}(hk:P.underlying tx=J (.slice e'))(h:Rc g.dj (.sl e) xs [u]):
  ∃news,Src P e.size tx u xs.length news w/\iZ g ar e xs news []:=by
 obtain⟨A,c,eu,hc,he⟩:=h
 injection eu with eu
 subst eu
 by_cases hx:xs=[]
 ·subst hx;refine⟨[], ?_,iZ.nil⟩
  cases A with
  |none=>grind [Src.ofNil]
  |some a=>simp_all[Src.ofSlice]
 ·rcases he with he|⟨b,o,L,rfl,hL,hi⟩
  ·simp_all
  ·obtain⟨_,_,arr,ty,fr,k1,k2⟩:=R.dj _ _ hL;subst k2;have hE:Els g.dj e xs arr.toList o:=hi;obtain⟨EA,L5⟩:=KQ hE;refine⟨_,Src.ofSlice w hk _ _ c _ L5 (λj u hj=> ?_) (C4 EA L5), ?_⟩
   ·rw[a16];exact jE k1 _ j u hj
   simp_all[iZ,bZ,if_false,trivial]
theorem zY {E:Env}{t:TypeId}{c:Cell}(h:E.fit t c=av)(hs:c.isStr=ar):∃e,E.P.underlying t=J (.slice e):=by
 grind [Env.fit]
theorem Kf {E:Env}{e:Ty}{c:Cell}{tx:TypeId}{s s':St}{dq:Bool}{ys:List e.den}(h:(source e c).run s=J ((dq,ys),s'))(hf:E.fit tx c=av):
  s'.env=s.env/\∀B g w,HRel B g s.hp w->∃g1,Lk g g1/\HRel B g1 s'.hp w/\∀u,dR g c u->
   ∃news nb,Src E.P e.size tx u ys.length news w/\iZ g1 (dq&& !e.flat) e ys news nb/\∀b∈nb,g.fL b≠J 0:=by
 have shared:∀{B:Base} {g:Gh} {hp:List (Nat×Obj)} {w:World} {u:Value} {dq:Bool},HRel B g hp w->c.isStr=ar->(dq&& !e.flat)=ar->Rc g.dj (.sl e) ys [u]->
   ∃news nb,Src E.P e.size tx u ys.length news w/\iZ g (dq&& !e.flat) e ys news nb/\∀b∈nb,g.fL b≠J 0:=by
  grind [zY,Zo]
 unfold source at h;split at h
 ·obtain⟨h1,rfl⟩:=cX h
  injection h1 with h1 h2
  subst h1;subst h2;refine⟨rfl,λB g w R=>⟨g,Lk.refl g,R,λu hu=> ?_⟩⟩;have hu:_=_:=hu;subst hu;obtain⟨e',hk⟩:=zY hf rfl;exact⟨[],[],Src.ofNil w hk 0,iZ.nil,λb hb=>by simp_all⟩
 ·rename_i τ xs;obtain⟨zs,t,h1,h2⟩:=AM.cV h;obtain⟨h3,rfl⟩:=cX h2
  injection h3 with h3 h4
  subst h3;subst h4;obtain⟨ee,hx,rfl⟩:=lZ h1;subst ee;subst hx;refine⟨rfl,λB g w R=>⟨g,Lk.refl g,R,λu hu=> ?_⟩⟩;exact shared R rfl (by simp) hu.2
 ·rename_i l;split at h
  ·obtain⟨h1,rfl⟩:=cX h
   injection h1 with h1 h2
   subst h1;subst h2;refine⟨rfl,λB g w R=>⟨g,Lk.refl g,R,λu hu=> ?_⟩⟩;obtain⟨st,rfl,pH⟩:=qC hu
   have hk:E.P.underlying tx=J .string:=by
    unfold Env.fit at hf;split at hf
    ·assumption
    ·simp[Cell.isStr]at hf
    ·cases hf
   have hl:a14 ys=st.size:=by rw[pH];exact iy st
   have hb:byteCells st=ys.map (bN .u8):=by
    rw[pH];unfold byteCells bytesOf;rw[List.map_map];rfl
   refine⟨byteCells st,[],by rw[hl];exact Src.ofString w hk st, ?_,λb hb=>by simp at hb⟩;unfold iZ;simp only[Ty.flat,Bool.not_true,aQ,bZ,if_false];refine⟨λi hi=> ?_,trivial⟩;show a78 1 (a77 (0+i*1) (byteCells st))=[bN .u8 ys[i]];rw[hb,cj,a57];have:i<(ys.map (bN .u8)).length:=(by simpa using hi);rw[bJ this];simp
  ·cases h
 ·rename_i id gen;simp only[AM.run]at h;split at h
  ·rename_i g0 τ deep xs heq;obtain⟨hb,h'⟩:=dQ h;obtain rfl:=beq_eq hb
   cases aq4:τ.flat with
   |true=>
    rw[aq4]at h';obtain⟨zs,t,h1,h2⟩:=AM.cV h';obtain⟨h3,rfl⟩:=cX h2
    injection h3 with h3 h4
    subst h3;subst h4;obtain⟨ee,hx,rfl⟩:=lZ h1;subst ee;subst hx;refine⟨rfl,λB g w R=>⟨g,Lk.refl g,R,λu hu=> ?_⟩⟩;obtain⟨e',hk⟩:=zY hf rfl
    rcases R.gE _ _ heq with⟨k1,k2⟩|⟨b,cap,arr,ty,k1,k2,k3,k4,k5,k6,k7⟩
    ·have k2:ys=[]:=k2;subst k2;rw[hu.2.1,k1];exact⟨[],[],Src.ofNil w hk 0,iZ.nil,λb hb=>by simp at hb⟩
    ·rw[hu.2.1,k1];unfold gy at k7;rw[aj (by simp[aq4])]at k7;obtain⟨EA,L5⟩:=KQ k7;refine⟨_,[],Src.ofSlice w hk _ _ cap _ L5 (λj u hj=> ?_) (C4 EA L5), ?_,λb hb=>by simp at hb⟩
     ·rw[a16];exact jE k4 _ j u hj
     ·unfold iZ;simp only[aq4,Bool.not_true,aQ,bZ,if_false];exact⟨EA,trivial⟩
   |false=>
    rw[aq4]at h';simp at h';obtain⟨zs,t,h1,h2⟩:=AM.cV h';obtain⟨h3,rfl⟩:=cX h2
    injection h3 with h3 h4
    subst h3;subst h4;obtain⟨ee,hx,rfl⟩:=lZ h1;subst ee;subst hx;refine⟨rfl,λB g w R=> ?_⟩
    cases dq with
    |true=>
     obtain⟨g1,nb,l,R1,hn,hO⟩:=R.Ub heq;refine⟨g1,l,R1,λu hu=> ?_⟩;obtain⟨e',hk⟩:=zY hf rfl;have nE:g1.cv id g0=g.cv id g0:=l.le.cv _ _ (jm R heq);rw[nE,<-hu.2.1]at hO
     rcases hO with⟨k1,k2,k3⟩|⟨b,cap,arr,ty,k1,k2,k3,aE5,k4,k5,k6,k7⟩
     ·have k2:ys=[]:=k2;subst k2;subst k3;rw[k1];exact⟨[],[],Src.ofNil w hk 0,iZ.nil,λb hb=>by simp at hb⟩
     ·rw[k1];obtain⟨EA,L5⟩:=k7.cut;obtain⟨r,he⟩:=EA.els;refine⟨_,nb,Src.ofSlice w hk _ _ cap _ L5 (λj u hj=> ?_) (C4 he L5),EA,hn⟩;rw[a16];exact jE k4 (o:=0) _ j u (by simpa using hj)
    |false=>
     obtain⟨g1,l,R1⟩:=R.HS heq;refine⟨g1,l,R1,λu hu=> ?_⟩;have hP:Rc _ _ _ _:=R1.gE _ _ (du _ _ _);rw[show g1.cv id g0=g.cv id g0 from l.le.cv _ _ (jm R heq),<-hu.2.1]at hP;obtain⟨news,nb,a1,a2,a3⟩:=shared (dq:=ar) R1 rfl (by simp) hP;refine⟨news,[],a1, ?_,λb hb=>by simp at hb⟩;unfold iZ at a2⊢;simp only[a47,bZ,if_false]at a2⊢;exact⟨a2.1,trivial⟩
  ·rename_i g0 τ xs heq;obtain⟨hb,h'⟩:=dQ h;obtain rfl:=beq_eq hb;obtain⟨zs,t,h1,h2⟩:=AM.cV h';obtain⟨h3,rfl⟩:=cX h2
   injection h3 with h3 h4
   subst h3;subst h4;obtain⟨ee,hx,rfl⟩:=lZ h1;subst ee;subst hx;refine⟨rfl,λB g w R=>⟨g,Lk.refl g,R,λu hu=> ?_⟩⟩;have hP:Rc _ _ _ _:=R.gE _ _ heq;rw[<-hu.2.1]at hP;exact shared R rfl (by simp) hP
  ·cases h
 ·cases h
def Tgt (g:Gh)(hp:List (Nat×Obj))(w:World)(mv:Bool)(e:Ty)(xs:List e.den)(u:Value)(nb:List Nat):Prop:=
 (u= .slice ay 0 0/\xs=[]/\nb=[])\/∃b cap arr ty,u= .slice (J ⟨b,0,ay⟩) xs.length cap/\Free g hp w b/\b∉nb/\b<w.heap.size/\w.heap[b]?=J (.cells arr ty (0,0))/\
  xs.length<=cap/\arr.size=cap*e.size/\iZ g mv e xs arr.toList nb
theorem J9 {e:Ty}{c:Cell}{s s':St}{dp:Bool}{xs:List e.den}(h:(target e c).run s=J ((dp,xs),s')):
  s'.env=s.env/\∀B g w,HRel B g s.hp w->∃g1,Lk g g1/\HRel B g1 s'.hp w/\∀u,dR g c u->∃nb,Tgt g1 s'.hp w (dp&& !e.flat) e xs u nb/\∀b∈nb,g.fL b≠J 0:=by
 unfold target at h;split at h
 ·obtain⟨h1,rfl⟩:=cX h
  injection h1 with h1 h2
  subst h2;refine⟨rfl,λB g w R=>⟨g,Lk.refl g,R,λu hu=>⟨[], .inl ⟨hu,rfl,rfl⟩,λb hb=>by simp_all⟩⟩⟩
 ·rename_i id gen;simp only[AM.run]at h;split at h
  ·rename_i g0 τ deep zs heq;obtain⟨hb,h'⟩:=dQ h;obtain rfl:=beq_eq hb;obtain⟨ys,t,h1,h2⟩:=AM.cV h';obtain⟨h3,rfl⟩:=cX h2
   injection h3 with h3 h4
   subst h3;subst h4;obtain⟨ee,hx,rfl⟩:=lZ h1;subst ee;subst hx;refine⟨rfl,λB g w R=> ?_⟩;obtain⟨g1,nb,l,R1,hn,hO⟩:=R.Ub heq;refine⟨g1,l,R1,λu hu=>⟨nb, ?_,hn⟩⟩;rw[show g1.cv id g0=g.cv id g0 from l.le.cv _ _ (jm R heq),<-hu.2.1]at hO;exact hO
  ·cases h
 ·cases h
end Go.Abs
end

section
namespace Go.Abs
theorem Nu {α:Type}(A R:List α){k:Nat}(h:A.length=k):A.take k=(A++R).take k:=by grind
theorem GR {P:Program}{B:Base}{g:Gh}{hp:List (Nat×Obj)}{w:World}{t tx ty e:TypeId}{i:TypeInfo}{z:Value}{τ:Ty}(ht:P.underlying t=J (.slice e))(hi:P.info? e=J i)(hz:i.zero=J z)
  (po:i.size=τ.size) (LP:i.bytes<=128) (Qd:z.cells.size=τ.size) (R:HRel B g hp w) {deep:Bool} {xs ys:List τ.den} {base:Option Addr} {sCap:Nat} {olds news:List Value} {u:Value} {Vv SZ:List Nat}
  (hold:(Builtin.firstCells i.size xs.length (.slice base xs.length sCap)).run P w.drew= .ok olds.toArray w.drew) (S0:olds.length=xs.length*τ.size) (hP:iZ g (deep&& !τ.flat) τ xs olds Vv)
  (hS:Src P τ.size tx u ys.length news w) (hQ:iZ g (deep&& !τ.flat) τ ys news SZ) (hd:∀x∈Vv,x∉SZ) (hg:sCap<xs.length+ys.length) (u5:xs.length+ys.length<=1099511627776) (id:Nat):
  ∃v w' g',(a18 #[t,tx] ty #[.slice base xs.length sCap,u]).run P w= .ok v w'/\Le g g'/\HRel B g' ((id, .own (g.top id) τ deep (xs++ys))::hp) w'/\dR g' (.own id (g.top id)) v:=by
 rw[<-po]at hS
 have hb:(xs.length+ys.length)*i.bytes<=140737488355328:=by
  have:(xs.length+ys.length)*i.bytes<=1099511627776*128:=a13 u5 LP;omega
 have hr:=run_append_grow_src (P:=P) w t tx ty e i z ht hi hz base xs.length sCap olds hold u ys.length news hS hg (by omega) (growslice_fits hg hb);have OD:=hS.newsLen;have LY:=grownCap_ge w (xs.length+ys.length) sCap e
 generalize hc:grownCap w (xs.length+ys.length) sCap e=c at hr LY
 have an0:Turned w (w.drew.alloc (.cells ((olds++news).toArray++Builtin.zeroCells z.cells (c - (xs.length+ys.length))) e)) w.heap.size:=by
  refine⟨λx hx=> ?_, ?_, ?_,rfl,rfl,rfl⟩
  ·show(w.heap.push _)[x]?=_
   grind
  all_goals simp
 obtain⟨g',l,R',xa⟩:=R.own (id:=id) (cap:=c) (ty:=e) (τ:=τ) (deep:=deep) (xs:=xs++ys) (nb:=Vv++SZ) R.sw an0 (by show(w.heap.push _)[w.heap.size]?=_;rw[a29,ak rfl]) (by
   have hA:=hP.append hQ S0 hd;refine hA.pre ?_
   grind [Array.toList_append,Nu,bQ]) (by simp_all) (by
   simp[size_zeroCells,S0,OD,Qd,po,<-bQ]
   simp_all)
 grind
theorem ET {P:Program}{w:World}{b o:Nat}{arr:Array Value}{ty:TypeId}{us:List Value}(h:w.heap[b]?=J (.cells arr ty (0,0)))(hle:o+us.length<=arr.size)(h1:∀u∈us,u.oneCell'=av):
  (∀j,j<us.length->(w.cell? ⟨b,o+j,ay⟩).isSome=av)/\(∀j,j<us.length->w.frozen? ⟨b,o+j,ay⟩=ar)/\w.setCells b o us=w.setRow b (nG arr o us):=by
 have a1:∀j,j<us.length->(w.cell? ⟨b,o+j,ay⟩).isSome=true:=by
  grind [World.cell?]
 have a2:∀j,j<us.length->w.frozen? ⟨b,o+j,ay⟩=false:=by
  simp_all[World.frozen?]
 have r1:=run_storeCells_cells (P:=P) b o us 0 w (by omega) (by omega) h1
 grind [run_storeCells_at,nG]
theorem Hh {P:Program}{B:Base}{g:Gh}{hp:List (Nat×Obj)}{w:World}{t tx ty e:TypeId}{i:TypeInfo}{z:Value}{τ:Ty}(ht:P.underlying t=J (.slice e))(hi:P.info? e=J i)(hz:i.zero=J z)
  (po:i.size=τ.size) (LP:i.bytes<=128) (Qd:z.cells.size=τ.size) (R:HRel B g hp w) {deep:Bool} {xs ys:List τ.den} {us u:Value} {news:List Value} {Vv SZ:List Nat}
  (hT:Tgt g hp w (deep&& !τ.flat) τ xs us Vv) (hS:Src P τ.size tx u ys.length news w) (hQ:iZ g (deep&& !τ.flat) τ ys news SZ) (hd:∀x∈Vv,x∉SZ) (u5:xs.length+ys.length<=1099511627776) (hbq:∀b,Free g hp w b->b∉SZ) (id:Nat):
  ∃v w' g',(a18 #[t,tx] ty #[us,u]).run P w= .ok v w'/\Le g g'/\HRel B g' ((id, .own (g.top id) τ deep (xs++ys))::hp) w'/\dR g' (.own id (g.top id)) v:=by
 rcases hT with⟨rfl,rfl,rfl⟩|⟨b,cap,arr,Ds,rfl,hf,LZ,J1,ha,ao4,al5,hP⟩
 ·by_cases h0:ys=[]
  ·subst h0;have hn:news=[]:=bn (by simpa using hS.newsLen);subst hn;rw[<-po]at hS;obtain⟨g',l,R',hc⟩:=R.YL id τ deep;exact⟨_,w,g',run_append_nothing w t tx ty e i ht hi ay 0 0 (aC _) u hS,l.le,R',hc⟩
  ·have tu:0<ys.length:=cp.2 h0;exact GR ht hi hz po LP Qd R (xs:=[]) (sCap:=0) (olds:=[]) (by rfl) (by simp) iZ.nil hS hQ hd (by omega) (by omega) id
 ·by_cases hroom:xs.length+ys.length<=cap
  ·have OD:=hS.newsLen
   have hle:xs.length*τ.size+news.length<=arr.size:=by
    rw[OD,<-bQ,al5];exact Nat.mul_le_mul_right _ hroom
   obtain⟨a1,a2,a3⟩:=ET (P:=P) ha hle hS.one;have ab6:=hS;rw[<-po]at ab6;have hr:=run_append_room_src (P:=P) w t tx ty e i ht hi b 0 xs.length cap u ys.length news ab6 hroom (by simp_all) (by simp_all);have Qc:=setRow_heap w b arr (nG arr (xs.length*τ.size) news) Ds (0,0) ha
   obtain⟨g',l,R',xa⟩:=R.own (id:=id) (cap:=cap) (ty:=Ds) (τ:=τ) (deep:=deep) (xs:=xs++ys) (nb:=Vv++SZ) hf (rE ha _) Qc (by
     obtain⟨EA,L5⟩:=hP.cut;have hA:=EA.append (M:=news++arr.toList.drop (xs.length*τ.size+news.length)) (hQ.pre (Nu _ _ (by omega))) L5 hd
     simp_all[nG,a78,a77]) (by simp_all) (by
     grind [nG])
   grind
  ·obtain⟨EA,L5⟩:=hP.cut;refine GR ht hi hz po LP Qd R (sCap:=cap) ?_ L5 EA hS hQ hd (by omega) u5 id;rw[po];refine run_firstCells_some (P:=P) w.drew τ.size xs.length _ xs.length cap _ L5 (λj v hj=> ?_);rw[a16,World.cell?_drew];exact jE ha (o:=0) _ j v (by simpa using hj)
theorem Kq {E:Env}{c:Call}(hc:c.callee= .builtin .append){s s':St}{sl:Slot}{d:Nat}(h:(gB E d (.call c)).run s=J (sl,s')):Yld E (.call c) s sl s':=by
 unfold gB at h;simp[hc]at h;split at h
 ·rename_i t tx aC6;obtain⟨e,t1,h1,h2⟩:=AM.cV h;obtain⟨τ,t2,h3,h4⟩:=AM.cV h2;obtain⟨vs,t3,h5,h6⟩:=AM.cV h4;obtain⟨he,rfl⟩:=eO h1;obtain rfl:=zr h3;obtain⟨rfl,r1⟩:=oT h5;split at h6
  ·rename_i sc xc;obtain⟨hb,h7⟩:=dQ h6;simp at hb;obtain⟨i,z,hi,hz,po,LP,_,Qd⟩:=zj hb.1;obtain⟨⟨dq,ys⟩,t4,h8,h9⟩:=AM.cV h7;obtain⟨⟨dp,xs⟩,t5,AH,yp⟩:=AM.cV h9;obtain⟨u5,uZ⟩:=nY yp;obtain⟨cell,t6,Ca,ED⟩:=AM.cV uZ;obtain⟨rfl,rfl⟩:=cX ED;obtain⟨e1,k1⟩:=Kf h8 hb.2;obtain⟨e2,k2⟩:=J9 AH;obtain⟨gen,an3,rfl,rfl⟩:=xt Ca;refine⟨e2.trans e1,λo ho B g a w R V=> ?_⟩;obtain⟨u1,u2,ea,qf,AL⟩:=MW (r1 V) rfl;obtain⟨g1,l1,R1,c1⟩:=k1 B g w R;obtain⟨news,SZ,hS,hQ,fq⟩:=c1 u2 AL;obtain⟨g2,l2,R2,c2⟩:=k2 B g1 w R1;obtain⟨Vv,hT,fp⟩:=c2 u1 (dR.mono l1.le qf);have Xm:=hQ.mono l2;have hn:xs.length+ys.length<=1099511627776:=aP u5
   have XC:∀x∈Vv,x∉SZ:=by
    intro x hx hy;unfold iZ at hQ;split at hQ
    ·exact fp x hx (hQ.2.2 x hy)
    ·rw[hQ.2]at hy;simp at hy
   have aO9:∀{g:Gh} {mv:Bool} {zs:List τ.den} {L:List Value} {nb:List Nat} {b:Nat} {hp:List (Nat×Obj)},iZ g mv τ zs L nb->Free g hp w b->b∉nb:=by
    intro g mv zs L nb b hp hh hf hm;unfold iZ at hh;split at hh
    ·exact hf.Xg (hh.2.2 b hm)
    ·rw[hh.2]at hm;simp at hm
   have main:∃g3 Z5 ZU,Le g2 g3/\HRel B g3 t5.hp w/\Tgt g3 t5.hp w ((dp&&dq)&& !τ.flat) τ xs u1 Z5/\iZ g3 ((dp&&dq)&& !τ.flat) τ ys news ZU/\∀x∈Z5,x∉ZU:=by
    by_cases hm:((dp&&dq)&& !τ.flat)=av
    ·simp at hm;obtain⟨⟨rfl,rfl⟩,aq4⟩:=hm;exact⟨g2,Vv,SZ,Le.refl g2,R2,hT,Xm,XC⟩
    ·have aO6:((dp&&dq)&& !τ.flat)=false:=(by simpa using hm);rw[aO6]
     by_cases hq:(dq&& !τ.flat)=av
     ·have yq:(dp&& !τ.flat)=false:=by
       revert aO6 hq
       cases dp<;>cases dq<;>cases τ.flat<;>simp
      rw[yq]at hT;obtain⟨g3,l3,R3,q3,f3⟩:=Xm.loose R2;refine⟨g3,Vv,[],l3,R3, ?_,q3,λx _ hx=>by simp at hx⟩
      rcases hT with⟨a1,a2,a3⟩|⟨b,cap,arr,Ds,a1,a2,a3,a4,a5,a6,a7,a8⟩
      ·exact .inl ⟨a1,a2,a3⟩
      ·exact .inr ⟨b,cap,arr,Ds,a1,f3 b (aO9 Xm a2) a2,a3,a4,a5,a6,a7,a8.G3 l3⟩
     ·have ZT:(dq&& !τ.flat)=false:=(by simpa using hq);rw[ZT]at Xm;have aZ0:SZ=[]:=Xm.2;subst aZ0
      rcases hT with⟨a1,a2,a3⟩|⟨b,cap,arr,Ds,a1,a2,a3,a4,a5,a6,a7,a8⟩
      ·exact⟨g2,[],[],Le.refl g2,R2, .inl ⟨a1,a2,rfl⟩,Xm,λx hx=>by simp at hx⟩
      ·obtain⟨g3,l3,R3,q3,f3⟩:=a8.loose R2;exact⟨g3,[],[],l3,R3, .inr ⟨b,cap,arr,Ds,a1,f3 b a3 a2,by simp,a4,a5,a6,a7,q3⟩,Xm.G3 l3,λx hx=>by simp at hx⟩
   obtain⟨g3,Z5,ZU,l3,R3,T3,Q3,d3⟩:=main;obtain⟨rfl,_⟩:=lT R3 an3;obtain⟨v,w',g4,k5,l4,R4,k6⟩:=Hh (ty:=o.type) (BG he) hi hz po LP Qd R3 (deep:=dp&&dq) T3 hS Q3 d3 hn (λb hf=>aO9 Q3 hf) d;refine⟨v,w',g4, ?_,((l1.le.trans l2.le).trans l3).trans l4,R4,k6⟩;unfold execOp;rw[ho]
   have e3:c.args.map a.eval=#[u1,u2]:=by
    apply a84
    simpa using ea
   have e4:c.argTypes=#[t,tx]:=by
    apply a84
    simpa using aC6
   simp[resolve,hc,invoke,builtin,e3,e4,k5]
  ·cases h6
 ·cases h
end Go.Abs
end
