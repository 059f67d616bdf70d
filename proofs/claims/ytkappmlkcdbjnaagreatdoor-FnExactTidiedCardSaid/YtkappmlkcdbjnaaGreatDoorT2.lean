/- What is here: behind a call: what came back is taken over. -/
import Derived.Test.YtkappmlkcdbjnaaGreatDoorT1
import Derived.MapKept
import Derived.Scope
import Derived.KernelRfl
import Derived.Below
import Derived.Laws.BitsLemmas
import Derived.OpenShut
import Derived.OpenVars
import Derived.Laws.Externs
import Derived.LaidMore
import Derived.LaidHandle
set_option autoImplicit true
set_option relaxedAutoImplicit true
set_option linter.all false
set_option maxRecDepth 100000
open Go.IntKind (i64 u64 u8)
open Array renaming getD_eq_getD_getElem? → bZ, replicate → bq1
open Bool renaming and_eq_true → aA, false → aq, or_eq_true → cO, true → av
open Decidable renaming decide → I
open Go.Addr renaming add_lit → bo8
open Go.Builtin renaming append_ → bo9
open Go.DataW renaming trod → bp7
open Go.Instr renaming findNow → bp0, loadAt → bu1, sureAddr → bq7
open Go.IntKind renaming i64 → ar, u8 → aO
open Go.Region renaming binds → bq9, wanted → bp1
open Go.Result renaming andThen → bu7, andThen_ok → bh
open Go.Sem renaming run_bind → bL, run_pure → bn9
open Go.Value renaming int → bQ
open Go.World renaming cell? → bs7
open List renaming all_cons → cE, all_eq_true → aK, append_assoc → aC, append_nil → aQ, drop → bu8, drop_drop → bX, drop_eq_getElem_cons → bG, drop_eq_nil_of_le → cn, drop_left → bn0, drop_take → cz, drop_zero → bY, eq_nil_of_length_eq_zero → bu, ext_getElem? → bn5, getD_eq_getElem?_getD → aG, getElem?_drop → cJ, getElem?_eq_getElem → aL, getElem?_eq_none → bR, getElem?_eq_some_iff → cr, getElem?_map → bn4, getElem?_take → cT, length → bo0, length_cons → aw, length_nil → ay, length_pos_iff → b9, length_set → cA, length_take → bl, map_cons → cw, mem_append → aP, mem_append_left → aX, mem_append_right → aZ, mem_cons → bA, mem_cons_of_mem → aB, mem_cons_self → aD, mem_range → cL, nil_append → cG, nodup_append → bw, nodup_cons → cu, nodup_nil → bf, range → cN, range' → bp6, take → bu9, take_left → bq8, take_length → cy, take_of_length_le → bo4, take_take → cj
open Nat renaming beq → ax, ble → bo5, blt → cd, eq_of_beq_eq_true → b8, le_of_ble_eq_true → aR, le_refl → aF, le_trans → bn8, lt_of_lt_of_le → aV, lt_or_ge → bB, min_eq_left → bn6, mul_one → bs8, zero_add → bJ, zero_le → aU
open Option renaming bind_eq_some_iff → bn, bind_some → al, map_eq_some_iff → bj, none → az, some → U
open Option.some renaming injEq → cc
open Prod.mk renaming injEq → cB
section
namespace Go.Abs
def rq (dC:Rd)(w0 w:World):(s:Sp)->s.ty.den->Nat×Nat->List Value->List Value->List Nat->Prop
 | .pr a b,x,pl,old,new,nb=>∃u1 u2 n1 n2,new=u1++u2/\nb=n1++n2/\rq dC w0 w a x.1 pl (old.take a.size) u1 n1/\rq dC w0 w b x.2 (pl.1,pl.2+a.size) (old.drop a.size) u2 n2
 | .lnd τ dp,xs,_,old,new,nb=>new=old/\OwnAt dC w (dp&& !τ.flat) τ xs new nb
 | .ptr _ _ s,x,_,old,new,nb=>∃b o nh GD arr L lW,old=[.pointer (U ⟨b,o,az⟩)]/\new=old/\nb=b::lW/\w0.heap[b]?=U (.cells nh GD (0,0))/\w.heap[b]?=U (.cells arr GD (0,0))/\
   arr.toList=nh.toList.take o++L++nh.toList.drop (o+L.length)/\o+L.length<=nh.toList.length/\L.length=s.size/\rq dC w0 w s x (b,o) ((nh.toList.drop o).take s.size) L lW
 |s,x,pl,_,new,nb=>Pass dC w s x pl new nb
def rq.length:∀{s:Sp}{x:s.ty.den}{pl:Nat×Nat}{old new:List Value}{nb:List Nat},rq dC w0 w s x pl old new nb->new.length=s.size
 | .un,_,pl,_,_,_,k=>Pass.length (s:= .un) (x:=()) (pl:=pl) k
 | .pr _ _,_,_,_,_,_,⟨u1,u2,n1,n2,e,_,k1,k2⟩=>by subst e;simp[Sp.size,rq.length k1,rq.length k2]
 | .fT _,x,pl,_,_,_,k=>Pass.length (s:= .fT _) (x:=x) (pl:=pl) k
 | .own _ _,x,pl,_,_,_,k=>Pass.length (s:= .own _ _) (x:=x) (pl:=pl) k
 | .lnd _ _,x,_,_,_,_,k=>OwnAt.length k.2
 | .vp,x,pl,_,_,_,k=>Pass.length (s:= .vp) (x:=x) (pl:=pl) k
 | .CV _,x,pl,_,_,_,k=>Pass.length (s:= .CV _) (x:=x) (pl:=pl) k
 | .ptr _ _ _,_,_,_,_,_,⟨b,o,nh,GD,arr,L,lW,e,e',_⟩=>by simp_all
 | .err,x,pl,_,_,_,k=>Pass.length (s:= .err) (x:=x) (pl:=pl) k
 | .np,_,pl,_,_,_,k=>Pass.length (s:= .np) (x:=()) (pl:=pl) k
 | .slf f m,_,pl,_,_,_,k=>Pass.length (s:= .slf f m) (x:=()) (pl:=pl) k
theorem rq.mono (h:∀b L,dC b=U L->gC b=U L){w0 w:World}:∀{s:Sp}{x:s.ty.den}{pl:Nat×Nat}{old new:List Value}{nb:List Nat},rq dC w0 w s x pl old new nb->rq gC w0 w s x pl old new nb
 | .un,_,_,_,_,_,k=>k
 | .pr _ _,_,_,_,_,_,⟨u1,u2,n1,n2,e,e',k1,k2⟩=>⟨u1,u2,n1,n2,e,e',rq.mono h k1,rq.mono h k2⟩
 | .fT _,x,pl,_,_,_,k=>Pass.mono h (s:= .fT _) (x:=x) (pl:=pl) k
 | .own _ _,x,pl,_,_,_,k=>Pass.mono h (s:= .own _ _) (x:=x) (pl:=pl) k
 | .lnd _ _,_,_,_,_,_,k=>⟨k.1,OwnAt.mono h k.2⟩
 | .vp,x,pl,_,_,_,k=>Pass.mono h (s:= .vp) (x:=x) (pl:=pl) k
 | .CV _,x,pl,_,_,_,k=>Pass.mono h (s:= .CV _) (x:=x) (pl:=pl) k
 | .ptr _ _ _,_,_,_,_,_,⟨b,o,nh,GD,arr,L,lW,e,e',e2,a0,a1,hL,hl,hs,k⟩=>⟨b,o,nh,GD,arr,L,lW,e,e',e2,a0,a1,hL,hl,hs,rq.mono h k⟩
 | .err,_,_,_,_,_,k=>k
 | .np,_,_,_,_,_,k=>k
 | .slf _ _,_,_,_,_,_,k=>k
structure After (dC:Rd)(w:World)(nb:List Nat)(gC:Rd)(w':World)(lW:List Nat):Prop where
 mono:∀b L,dC b=U L->gC b=U L
 cells:∀b L,gC b=U L->∃arr ty fr,w'.heap[b]?=U (.cells arr ty fr)/\arr.toList=L
 same:∀b,b<w.heap.size->b∉nb->dC b=az->w'.heap[b]?=w.heap[b]?/\gC b=az
 nodup:lW.Nodup
 ad0:∀b∈lW,gC b=az/\(b∈nb\/w.heap.size<=b)/\b<w'.heap.size
 size:w.heap.size<=w'.heap.size
 os:w'.os=w.os
 tape:w'.tape=w.tape
 output:w'.output=w.output
 fix:∀b L,dC b=U L->w'.heap[b]?=w.heap[b]?
open Classical in
noncomputable def Gh.after (g:Gh)(nb:List Nat)(gC:Rd)(lW:List Nat):Gh:=
 {g with dC:=gC,gV:=λx=>if x∈lW then U 0 else if x∈nb then az else g.gV x,iR:=λx=>if x∈lW\/x∈nb then az else g.iR x}
theorem HRel.after (R:HRel B g hp w){nb lW:List Nat}{gC:Rd}(Ax:iz g nb)(A:After g.dC w nb gC w' lW):
  Le g (g.after nb gC lW)/\HRel B (g.after nb gC lW) hp w'/\iz (g.after nb gC lW) lW/\∀b∈lW,(g.after nb gC lW).iR b=none:=by
 have hle:Le g (g.after nb gC lW):=⟨A.mono,λ_=>aF _,λ_ _ _=>rfl⟩
 have old:∀b,b<w.heap.size->b∉nb->b∉lW:=λb h1 h2 h3=>by
  rcases(A.ad0 b h3).2.1 with h|h
  all_goals grind
 refine⟨hle,⟨R.top,λi o hi=> ?_,λb L h=> ?_,λb L h=> ?_,λb h=> ?_,λb L h=>A.mono _ _ (R.mN b L h),λb hb hl hi=> ?_,bn8 R.size A.size,A.os.trans R.os,A.tape.trans R.tape,A.output.trans R.output,λb L h=>(A.fix b L (R.mN b L h)).trans (R.fix b L h)⟩,⟨A.nodup,λb hb=>by grind [Gh.after]⟩,λb hb=>by grind [Gh.after]⟩
 ·refine(R.iW i o hi).tr hle (λb hb=> ?_) rfl (kU R hi);have h1:=R.iV b (by simp_all)
  have h2:b∉nb:=λhm=>by rw[Ax.2 b hm]at hb;simp_all
  have h4:g.dC b=none:=by
   cases hi:g.dC b with
   |none=>rfl
   |some L=>have:=(R.dC b L hi).1;simp_all
  exact⟨by simp_all[Gh.after],by simp_all[Gh.after],(A.same b h1 h2 h4).1⟩
 ·have h':gC b=U L:=h
  have h3:b∉lW:=λhm=>by rw[(A.ad0 b hm).1]at h';grind
  refine⟨?_, ?_,A.cells b L h'⟩
  ·by_cases h2:b∈nb
   ·simp_all[Gh.after]
   ·simp only[Gh.after,h3,h2,if_false]
    by_cases h1:b<w.heap.size
    ·cases hi:g.dC b with
     |none=>rw[(A.same b h1 h2 hi).2]at h';grind
     |some L'=>exact(R.dC b L' hi).1
    ·cases hl:g.gV b with
     |none=>rfl
     |some x=>exact absurd (R.iV b (by simp_all)) h1
  ·by_cases h2:b∈nb
   ·grind [Gh.after]
   ·simp only[Gh.after,h3,h2,or_self,if_false]
    by_cases h1:b<w.heap.size
    ·cases hi:g.dC b with
     |none=>rw[(A.same b h1 h2 hi).2]at h';grind
     |some L'=>exact(R.dC b L' hi).2.1
    ·cases hl:g.iR b with
     |none=>rfl
     |some x=>exact absurd (R.iV b (R.iR b x hl).1) h1
 ·by_cases Ci:b∈lW\/b∈nb
  ·simp_all[Gh.after]
  ·have hn:g.iR b=U L:=by simp_all[Gh.after]
   rw[not_or]at Ci;obtain⟨a1,arr,ty,a2,a3⟩:=R.iR b L hn
   have h4:g.dC b=none:=by
    cases hi:g.dC b with
    |none=>rfl
    |some L=>exact absurd (R.dC b L hi).1 a1
   exact⟨by simp_all[Gh.after],arr,ty,((A.same b (R.iV b a1) Ci.2 h4).1).trans a2,a3⟩
 ·by_cases h3:b∈lW
  ·exact(A.ad0 b h3).2.2
  ·by_cases h2:b∈nb
   ·simp_all[Gh.after]
   ·exact aV (R.iV b (by simp_all[Gh.after])) A.size
 ·obtain⟨f1,f2,f3⟩:=R.frame b hb hl hi
  have h2:b∉nb:=λhm=>by rw[Ax.2 b hm]at f1;grind
  have h1:b<w.heap.size:=aV hb R.size;obtain⟨s1,s2⟩:=A.same b h1 h2 f2;simp_all[Gh.after]
def HRel.Wp (R:HRel B g hp w){id gen b:Nat}{bs:Nat×List Cell}(hb:g.gV b=U 0)(hn:g.iR b=az)(hl:look hp id=U (.lZ gen bs))
  {ob:Obj} (Ho:ob.gen=gen) (XB:rk {g with gV:=open Classical in λx=>if x=b then U (id+1)else g.gV x} w id ob):
  HRel B {g with gV:=open Classical in λx=>if x=b then U (id+1)else g.gV x} ((id,ob)::hp) w:=by
 have hle:Le g {g with gV:=open Classical in λx=>if x=b then U (id+1)else g.gV x}:=⟨λ_ _ h=>h,λ_=>aF _,λ_ _ _=>rfl⟩;refine⟨λi=> ?_,λi oi hi=> ?_,λx L hx=> ?_,λx L hx=> ?_,λx hx=> ?_,R.mN,λx hx ym hi=> ?_,R.size,R.os,R.tape,R.output,R.fix⟩
 ·show g.top i=_;rw[R.top i]
  by_cases e:id=i
  ·subst e;rw[dI,hl];show(Obj.lZ gen bs).gen+1=ob.gen+1;rw[Ho];rfl
  simp_all[dA]
 ·by_cases e:id=i
  ·simp_all[dI]
  ·rw[dA _ _ e]at hi;refine(R.iW i oi hi).tr hle (λx hx=> ?_) rfl (kU R hi)
   grind
 ·obtain⟨a1,a2,a3⟩:=R.dC x L hx
  grind
 ·obtain⟨a1,a2⟩:=R.iR x L hx
  grind
 ·by_cases BM:x=b
  ·exact R.iV x (by simp_all)
  ·exact R.iV x (by simp_all)
 ·obtain⟨f1,f2,f3⟩:=R.frame x hx ym hi
  grind
open Classical in
noncomputable def Gh.qH (g:Gh)(w:World)(id gen b:Nat)(u:Value)(nb:List Nat):Gh:=
  { g with top := fun i => if i = id then gen + 1 else g.top i
           cv:=λi k=>if i=id/\k=gen then u else g.cv i k
           gV:=λx=>if x=b\/x∈nb then U (id+1)else g.gV x
           iR:=λx=>if x∈nb then rdW w x else g.iR x
           outer:=λi=>if i=id then []else g.outer i}
theorem HRel.qH (R:HRel B g hp w){id b cap:Nat}{arr:Array Value}{ty:TypeId}{τ:Ty}{deep:Bool}{xs:List τ.den}{nb:List Nat}
  (hb:g.gV b=U 0) (hn:g.iR b=az) (NW:b∉nb) (ha:w.heap[b]?=U (.cells arr ty (0,0))) (hl:xs.length<=cap) (hs:arr.size=cap*τ.size) (qK:nb.Nodup) (Cv:∀x∈nb,g.gV x=U 0/\rdW w x≠az)
  (hh:oI g.dC w (deep&& !τ.flat) τ xs arr.toList nb):
  ∃g',Le g g'/\(∀x,x≠b->x∉nb->g'.gV x=g.gV x/\g'.iR x=g.iR x)/\(∀i,i≠id->g'.outer i=g.outer i)/\HRel B g' ((id, .own (g.top id) τ deep xs)::hp) w/\eC g' (.own id (g.top id)) (.slice (U ⟨b,0,az⟩) xs.length cap):=by
 have hle:Le g (g.qH w id (g.top id) b (.slice (U ⟨b,0,az⟩) xs.length cap) nb):=by
  refine⟨λ_ _ h=>h,λi=> ?_,λi k hk=> ?_⟩
  ·show g.top i<=if i=id then g.top id+1 else g.top i
   grind
  ·show(if i=id/\k=g.top id then _ else g.cv i k)=g.cv i k
   grind
 refine⟨_,hle,λx h1 h2=>⟨by simp_all[Gh.qH],by grind [Gh.qH]⟩,λi hi=>by grind [Gh.qH],⟨λi=> ?_,λi oi hi=> ?_,λx L hx=> ?_,λx L hx=> ?_,λx hx=> ?_,R.mN,λx hx ym hi=> ?_,R.size,R.os,R.tape,R.output,R.fix⟩,
  ⟨by simp[Gh.qH],by simp[Gh.qH],rfl⟩⟩
 ·show(if i=id then g.top id+1 else g.top i)=_
  by_cases e:id=i
  ·subst e;rw[dI,aj rfl];rfl
  ·rw[dA _ _ e,ai λh=>e h.symm];exact R.top i
 ·by_cases e:id=i
  ·subst e;rw[dI]at hi;injection hi with hi;subst hi
   refine .inr ⟨b,cap,arr,ty,by simp[Gh.qH],by simp[Gh.qH],by simp_all[Gh.qH],ha,hl,hs, ?_⟩;unfold oI at hh;unfold iK;split
   ·rename_i ec;rw[aj ec]at hh;exact⟨nb,hh.mono λx hx L hL=>by simp_all[Gh.qH],qK,λx hx=>by grind [Gh.qH]⟩
   ·rename_i ec;rw[ai ec]at hh;exact hh.1
  ·rw[dA _ _ e]at hi;refine(R.iW i oi hi).tr hle (λx hx=> ?_) (by simp only[Gh.qH];grind) (kU R hi)
   have BM:x≠b:=λe'=>by simp_all
   have Cg:x∉nb:=λhm=>by simp_all
   exact⟨by simp_all[Gh.qH],by grind [Gh.qH],rfl⟩
 ·have hy:g.dC x=U L:=hx;obtain⟨a1,a2,a3⟩:=R.dC x L hy
  grind [Gh.qH]
 ·by_cases Cg:x∈nb
  ·grind [rdW,Gh.qH]
  ·have hy:g.iR x=U L:=by simp_all[Gh.qH]
   obtain⟨a1,a2⟩:=R.iR x L hy
   grind [Gh.qH]
 ·by_cases BM:x=b
  ·grind
  ·by_cases Cg:x∈nb
   ·exact R.iV x (by simp_all)
   ·exact R.iV x (by simp_all[Gh.qH])
 ·obtain⟨f1,f2,f3⟩:=R.frame x hx ym hi
  have BM:x≠b:=λe'=>by subst e';rw[hb]at f1;cases f1
  have Cg:x∉nb:=λhm=>by rw[(Cv x hm).1]at f1;cases f1
  exact⟨by simp[Gh.qH,BM,Cg,f1],f2,f3⟩
open Classical in
noncomputable def Gh.nZ (g:Gh)(w:World)(id b:Nat)(nb:List Nat):Gh:=
  { g with gV := fun x => if x = b ∨ x ∈ nb then U (id + 1) else g.gV x
           iR:=λx=>if x∈nb then rdW w x else g.iR x}
theorem HRel.nZ (R:HRel B g hp w){id gen b cap:Nat}{arr:Array Value}{ty:TypeId}{τ:Ty}{deep:Bool}{xs:List τ.den}{nb:List Nat}{bs:Nat×List Cell}
  (Qo:look hp id=U (.lZ gen bs)) (pz:g.cv id gen= .slice (U ⟨b,0,az⟩) xs.length cap)
  (hb:g.gV b=U 0) (hn:g.iR b=az) (NW:b∉nb) (ha:w.heap[b]?=U (.cells arr ty (0,0))) (hl:xs.length<=cap) (hs:arr.size=cap*τ.size) (qK:nb.Nodup) (Cv:∀x∈nb,g.gV x=U 0/\rdW w x≠az)
  (hh:oI g.dC w (deep&& !τ.flat) τ xs arr.toList nb):
  ∃g',Le g g'/\(∀x,x≠b->x∉nb->g'.gV x=g.gV x/\g'.iR x=g.iR x)/\g'.outer=g.outer/\HRel B g' ((id, .own gen τ deep xs)::hp) w:=by
 have hle:Le g (g.nZ w id b nb):=⟨λ_ _ h=>h,λ_=>aF _,λ_ _ _=>rfl⟩;refine⟨_,hle,λx h1 h2=>⟨by simp_all[Gh.nZ],by grind [Gh.nZ]⟩,rfl,⟨λi=> ?_,λi oi hi=> ?_,λx L hx=> ?_,λx L hx=> ?_,λx hx=> ?_,R.mN,λx hx ym hi=> ?_,R.size,R.os,R.tape,R.output,R.fix⟩⟩
 ·show g.top i=_;rw[R.top i]
  by_cases e:id=i
  ·subst e;rw[dI,Qo];rfl
  simp_all[dA]
 ·by_cases e:id=i
  ·subst e;rw[dI]at hi;injection hi with hi;subst hi
   refine .inr ⟨b,cap,arr,ty,pz,by simp[Gh.nZ],by simp_all[Gh.nZ],ha,hl,hs, ?_⟩;unfold oI at hh;unfold iK;split
   ·rename_i ec;rw[aj ec]at hh;exact⟨nb,hh.mono λx hx L hL=>by simp_all[Gh.nZ],qK,λx hx=>by grind [Gh.nZ]⟩
   ·rename_i ec;rw[ai ec]at hh;exact hh.1
  ·rw[dA _ _ e]at hi;refine(R.iW i oi hi).tr hle (λx hx=> ?_) rfl (kU R hi)
   have BM:x≠b:=λe'=>by simp_all
   have Cg:x∉nb:=λhm=>by simp_all
   exact⟨by simp_all[Gh.nZ],by grind [Gh.nZ],rfl⟩
 ·have hy:g.dC x=U L:=hx;obtain⟨a1,a2,a3⟩:=R.dC x L hy
  grind [Gh.nZ]
 ·by_cases Cg:x∈nb
  ·grind [rdW,Gh.nZ]
  ·have hy:g.iR x=U L:=by simp_all[Gh.nZ]
   obtain⟨a1,a2⟩:=R.iR x L hy
   grind [Gh.nZ]
 ·by_cases BM:x=b
  ·grind
  ·by_cases Cg:x∈nb
   ·exact R.iV x (by simp_all)
   ·exact R.iV x (by simp_all[Gh.nZ])
 ·obtain⟨f1,f2,f3⟩:=R.frame x hx ym hi
  grind [Gh.nZ]
open Classical in
noncomputable def Gh.uW (g:Gh)(id gen:Nat)(u:Value)(bo:Option Nat):Gh:=
  { g with top := fun i => if i = id then gen + 1 else g.top i
           cv:=λi k=>if i=id/\k=gen then u else g.cv i k
           gV:=λx=>if bo=U x then U (id+1)else g.gV x}
def HRel.Ph (R:HRel B g hp w){id a ag bid bg off:Nat}{xs:List Int}{u2:Value}{nb:List Nat}{bb oo:Nat}
  (R9:ag<g.top a) (N2:bg<g.top bid) (mU:a≠id) (hO:iz g nb) (hn:∀b∈nb,g.iR b=az) (pz:g.cv bid bg= .pointer (U ⟨bb,oo,az⟩)) (hb:th g.dC w (bb,oo+off) xs [g.cv a ag,u2] nb):
  ∃g',Le g g'/\(∀x,x∉nb->g'.gV x=g.gV x/\g'.iR x=g.iR x)/\g'.outer=g.outer/\HRel B g' ((id, .vp (g.top id) xs a ag bid bg off)::hp) w/\eC g' (.own id (g.top id)) u2:=by
 have bb9:oc (g.cv a ag)=true:=by
  rcases hb with⟨e,_⟩|⟨v,e,_⟩
  ·injection e with e;rw[e];rfl
  ·injection e with e;rw[e];rfl
 have key:∀bo:Option Nat,(∀x,bo=U x->x∈nb)->(∀x∈nb,bo=U x)->oc u2=av->
   ((g.cv a ag= .pointer az/\u2= .slice az 0 0/\xs=[])\/(g.cv a ag= .pointer (U ⟨bb,oo+off,az⟩)/\((u2= .slice az 0 0/\xs=[])\/
    ∃b cap arr ty,bo=U b/\u2= .slice (U ⟨b,0,az⟩) xs.length cap/\w.heap[b]?=U (.cells arr ty (0,0))/\xs.length<=cap/\arr.size=cap/\Els g.dC (.int .u8) xs arr.toList 0/\ty=pR)))->
   ∃g',Le g g'/\(∀x,x∉nb->g'.gV x=g.gV x/\g'.iR x=g.iR x)/\g'.outer=g.outer/\HRel B g' ((id, .vp (g.top id) xs a ag bid bg off)::hp) w/\eC g' (.own id (g.top id)) u2:=by
  intro bo UI hbo' XR hd
  have hle:Le g (g.uW id (g.top id) u2 bo):=by
   refine⟨λ_ _ h=>h,λi=> ?_,λi k hk=> ?_⟩
   ·show g.top i<=if i=id then g.top id+1 else g.top i
    grind
   ·show(if i=id/\k=g.top id then _ else g.cv i k)=g.cv i k
    grind
  have qb:∀x,bo=U x->g.gV x=U 0:=λx hx=>hO.2 x (UI x hx)
  have aM1:(g.uW id (g.top id) u2 bo).cv id (g.top id)=u2:=(by simp[Gh.uW]);refine⟨_,hle,λx hx=>⟨?_,rfl⟩,rfl,⟨λi=> ?_,λi oi hi=> ?_,λx L hx=> ?_,λx L hx=> ?_,λx hx=> ?_,R.mN,λx hx ym hi=> ?_,R.size,R.os,R.tape,R.output,R.fix⟩,⟨by simp[Gh.uW],aM1.symm,XR⟩⟩
  ·grind [Gh.uW]
  ·show(if i=id then g.top id+1 else g.top i)=_
   by_cases e:id=i
   ·subst e;rw[dI,aj rfl];rfl
   ·rw[dA _ _ e,ai λh=>e h.symm];exact R.top i
  ·by_cases e:id=i
   ·subst e;rw[dI]at hi;injection hi with hi;subst hi
    refine⟨aV R9 (hle.top _),aV N2 (hle.top _),by rw[hle.cv _ _ R9];exact bb9, ?_⟩;rw[hle.cv _ _ R9,hle.cv _ _ N2,aM1]
    rcases hd with hd|⟨d1,d2⟩
    ·exact .inl hd
    ·refine .inr ⟨bb,oo,pz,d1, ?_⟩
     rcases d2 with d2|⟨b,cap,arr,ty,e0,e1,e2,e3,e4,e5⟩
     ·exact .inl d2
     ·exact .inr ⟨b,cap,arr,ty,e1,by simp[Gh.uW,e0],hn b (UI b e0),e2,e3,e4,e5⟩
   ·rw[dA _ _ e]at hi;refine(R.iW i oi hi).tr hle (λx hx=> ?_) rfl (kU R hi)
    have:bo≠U x:=λe'=>by rw[qb x e']at hx;simp at hx
    exact⟨by simp[Gh.uW,this,hx],rfl,rfl⟩
  ·have hy:g.dC x=U L:=hx;obtain⟨a1,a2,a3⟩:=R.dC x L hy
   have:bo≠U x:=λe'=>by rw[qb x e']at a1;cases a1
   exact⟨by simp[Gh.uW,this,a1],a2,a3⟩
  ·have hy:g.iR x=U L:=hx;obtain⟨a1,a2⟩:=R.iR x L hy;refine⟨?_,a2⟩
   by_cases e:bo=U x
   ·simp[Gh.uW,e]
   ·simp[Gh.uW,e,a1]
  ·by_cases e:bo=U x
   ·exact R.iV x (by rw[qb x e];simp)
   ·exact R.iV x (by simpa[Gh.uW,e]using hx)
  ·obtain⟨f1,f2,f3⟩:=R.frame x hx ym hi
   have:bo≠U x:=λe'=>by rw[qb x e']at f1;cases f1
   exact⟨by simp[Gh.uW,this,f1],f2,f3⟩
 rcases hb with⟨e,hx,rfl⟩|⟨v,e,hr,RR⟩
 ·injection e with e1 e2;injection e2 with e2 _
  refine key az (λx h=>by cases h) (λx h=>by simp at h) (by rw[e2];rfl) (.inl ⟨e1,e2,hx⟩)
 ·injection e with e1 e2;injection e2 with e2 _
  subst e2
  rcases hr with⟨k1,k2,rfl⟩|⟨b,cap,arr,ty,lW,k1,rfl,ha,hl,hs,hE⟩
  ·injection k1 with k1 _
   exact key az (λx h=>by cases h) (λx h=>by simp at h) (by rw[k1];rfl) (.inr ⟨e1, .inl ⟨k1,k2⟩⟩)
  ·injection k1 with k1 _
   have Cv:lW=[]:=by
    simpa using hE.2
   subst Cv
   have aZ0:ty=pR:=by
    obtain⟨pT,h'⟩:=RR b (by simp);rw[ha]at h'
    injection h' with h';injection h' with _ h'
   exact key (U b) (λx h=>by injection h with h;subst h;simp) (λx h=>by simp at h;rw[h]) (by rw[k1];rfl) (.inr ⟨e1, .inr ⟨b,cap,arr,ty,rfl,k1,ha,hl,by simpa[Ty.size]using hs,by simpa using hE.1,aZ0⟩⟩)
end Go.Abs
end

section
namespace Go.Abs
def qW.L5 (l:Le g g')(ht:∀id gn cs,look hp id=U (.lZ gn cs)->gn<g.top id):
  ∀{s:Sp} {x:s.ty.den} {pl:Nat×Nat} {cs:List Cell} {us news:List Value} {nb:List Nat},(∀i gn cs b o,look hp i=U (.lZ gn cs)->g.cv i gn= .pointer (U ⟨b,o,az⟩)->b∈nb->look F0 i=U (.lZ gn cs)/\g'.outer i=g.outer i)->
   rq dC w0 w s x pl us news nb->qW hp g w0 s cs us->qW F0 g' w0 s cs us
 | .un,_,_,_,_,_,_,_,_,_=>trivial
 | .fT _,_,_,_,_,_,_,_,_,_=>trivial
 | .own _ _,_,_,_,_,_,_,_,_,_=>trivial
 | .vp,_,_,_,_,_,_,_,_,_=>trivial
 | .CV _,_,_,_,_,_,_,_,_,_=>trivial
 | .err,_,_,_,_,_,_,_,_,_=>trivial
 | .np,_,_,_,_,_,_,_,_,_=>trivial
 | .slf _ _,_,_,_,_,_,_,_,_,_=>trivial
 | .lnd _ _,_,_,_,_,_,_,_,_, .inl h=> .inl h
 | .lnd _ _,_,_,_,_,_,_,_,_, .inr ⟨id,gen,e,e',h,XR⟩=> .inr ⟨id,gen,e,by rw[l.cv _ _ h];omega,aV h (l.top _),by rw[l.cv _ _ h];omega⟩
 | .pr _ _,_,_,_,_,_,_,ho,⟨u1,u2,n1,n2,e,e',k1,k2⟩,⟨h1,h2⟩=>by
  subst e';exact⟨qW.L5 l ht (λi gn cs b o a1 a2 a3=>ho i gn cs b o a1 a2 (aX _ a3)) k1 h1,qW.L5 l ht (λi gn cs b o a1 a2 a3=>ho i gn cs b o a1 a2 (aZ _ a3)) k2 h2⟩
 | .ptr _ _ _,_,_,_,_,_,_,ho,⟨b1,o1,nh,GD,pT,L',lW,e,e',e2,a0,a1,ay0,ym,hs,k⟩,⟨id,gen,off,bs,b,o,arr,ty,L,e1,e3,hl,pz,ha,hL,hle,hid,EU,hc,hr⟩=>by
  subst e2;rw[e]at e3
  injection e3 with e3;injection e3 with e3;injection e3 with e3;injection e3 with e3 e4
  subst e3;subst e4;obtain⟨k1,k2⟩:=ho _ _ _ _ _ hl pz (aD ..);rw[ha]at a0
  injection a0 with a0;injection a0 with a0
  subst a0;have Xs:=Rt (n:=_) hL hle (show off+_<=L.length by rw[hc.length];exact EU);rw[<-Xs]at k
  exact⟨id,gen,off,bs,b1,o,arr,ty,L,e1,e,k1,(l.cv _ _ (ht _ _ _ hl)).trans pz,ha,by rw[k2];exact hL,by rw[k2];exact hle,by rw[k2];exact hid,EU,hc.mono l,
   qW.L5 l ht (λi gn cs b o a1 a2 a3=>ho i gn cs b o a1 a2 (aB _ a3)) k hr⟩
def QK {O L N nh arr:List α}(h0:nh=O.take o++L++O.drop (o+L.length))(ho:o+L.length<=O.length)(hn:off+N.length<=L.length)
  (h1:arr=nh.take (o+off)++N++nh.drop (o+off+N.length)):
  arr=O.take o++(L.take off++N++L.drop (off+N.length))++O.drop (o+(L.take off++N++L.drop (off+N.length)).length):=by
 have hlen:(L.take off++N++L.drop (off+N.length)).length=L.length:=by simp;omega
 have bc5:(O.take o).length=o:=by grind
 have e1:(O.take o++L++O.drop (o+L.length)).take (o+off)=O.take o++L.take off:=by
  grind
 have e2:(O.take o++L++O.drop (o+L.length)).drop (o+off+N.length)=L.drop (off+N.length)++O.drop (o+L.length):=by
  rw[aC,List.drop_append,bc5,List.drop_of_length_le (by omega),cG,List.drop_append];rw[show o+off+N.length - o=off+N.length by omega,show off+N.length - L.length=0 by omega,bY]
 simp_all
def aA0 (sp:Sp)(x:sp.ty.den)(pl:Plc)(old:List Cell)(s:St)(cells rest:List Cell)(s':St):Prop:=
 s'.env=s.env/\rest=old.drop sp.size/\∀B g w0 w,HRel B g s.hp w->∀rp olds news nb,mi g pl rp->qW s.hp g w0 sp (old.take sp.size) olds->rq g.dC w0 w sp x rp olds news nb->iz g nb->(∀b∈nb,g.iR b=az)->
  ∃g',Le g g'/\(∀x,x∉nb->g'.gV x=g.gV x/\g'.iR x=g.iR x)/\HRel B g' s'.hp w/\dG g' cells news/\
   ∀i gn cs b o,look s.hp i=U (.lZ gn cs)->g.cv i gn= .pointer (U ⟨b,o,az⟩)->b∉nb->look s'.hp i=U (.lZ gn cs)/\g'.outer i=g.outer i
def xF:∀sp x pl old n s cells rest n' s',(CU sp x pl old n).run s=U ((cells,rest,n'),s')->aA0 sp x pl old s cells rest s':=by
 intro sp
 induction sp with
 |un=>
  intro x pl old n s cells rest n' s' h;obtain⟨h1,rfl⟩:=de h
  injection h1 with h1 h2;injection h2 with h2 h3
  subst h1;subst h2;exact⟨rfl,rfl,λB g w0 w R rp olds news nb BH hL hB hp hn=>⟨g,Le.refl g,λ_ _=>⟨rfl,rfl⟩,R,hB.1,λi gn cs b o h _ _=>⟨h,rfl⟩⟩⟩
 |fT τ=>
  intro x pl old n s cells rest n' s' h;obtain⟨h1,rfl⟩:=de h
  injection h1 with h1 h2;injection h2 with h2 h3
  subst h1;subst h2;refine⟨rfl,by simp,λB g w0 w R rp olds news nb BH hL hB hp hn=>⟨g,Le.refl g,λ_ _=>⟨rfl,rfl⟩,R, ?_,λi gn cs b o h _ _=>⟨h,rfl⟩⟩⟩;obtain⟨_,h1,u,rfl,hr⟩:=hB;exact⟨u,[],rfl,⟨h1,hr⟩,rfl⟩
 |err=>
  intro x pl old n s cells rest n' s' h;obtain⟨h1,rfl⟩:=de h
  injection h1 with h1 h2;injection h2 with h2 h3
  subst h1;subst h2;refine⟨rfl,by simp,λB g w0 w R rp olds news nb BH hL hB hp hn=>⟨g,Le.refl g,λ_ _=>⟨rfl,rfl⟩,R, ?_,λi gn cs b o h _ _=>⟨h,rfl⟩⟩⟩;obtain⟨_,u,rfl,hr⟩:=hB;exact⟨u,[],rfl,hr,rfl⟩
 |np=>
  intro x pl old n s cells rest n' s' h;obtain⟨h1,rfl⟩:=de h
  injection h1 with h1 h2;injection h2 with h2 h3
  subst h1;subst h2;refine⟨rfl,by simp,λB g w0 w R rp olds news nb BH hL hB hp hn=>⟨g,Le.refl g,λ_ _=>⟨rfl,rfl⟩,R, ?_,λi gn cs b o h _ _=>⟨h,rfl⟩⟩⟩;obtain⟨_,rfl⟩:=hB;exact⟨_,[],rfl,rfl,rfl⟩
 |slf f m=>intro x pl old n s cells rest n' s' h;exact nomatch h
 |own τ dp=>
  intro x pl old n s cells rest n' s' h;obtain⟨c,t,h1,h2⟩:=AM.dc h;obtain⟨h3,rfl⟩:=de h2
  injection h3 with h3 h4;injection h4 with h4 h5
  subst h3;subst h4;obtain⟨gen,hg,rfl,rfl⟩:=zz h1;have N0:=(sx hg).2
  have Qo:∀i gn cs,look s.hp i=U (.lZ gn cs)->i≠n:=λi gn cs hi e=>by simp_all
  refine⟨rfl,by simp,λB g w0 w R rp olds news nb BH hL hB hp hn=> ?_⟩;obtain⟨rfl,_⟩:=nP R hg
  rcases hB with⟨rfl,hx,rfl⟩|⟨b,cap,arr,ty,lW,rfl,rfl,ha,hl,hs,hE⟩
  ·have hx:x=[]:=hx;subst hx;obtain⟨l,R'⟩:=R.named (id:=n) (u:= .slice az 0 0) (o':= .own (g.top n) τ (dp||τ.flat) []) rfl (.inl ⟨by simp[Gh.name],rfl⟩);refine⟨_,l.le,λx _=>⟨rfl,rfl⟩,R',⟨_,[],rfl,⟨by simp[Gh.name],by simp[Gh.name],rfl⟩,rfl⟩,λi gn cs b o hi _ _=>⟨?_,by rfl⟩⟩
   ·show look ((n,_)::s.hp) i=_;rw[dA _ _ (Ne.symm (Qo i gn cs hi))];omega
  ·have L9:=hp.2 b (aD ..);have qK:=cu.1 hp.1
   have Xu:((dp||τ.flat)&& !τ.flat)=(dp&& !τ.flat):=by grind
   obtain⟨g',l,hk,ho,R',hc⟩:=R.qH (id:=n) (deep:=dp||τ.flat) (τ:=τ) (xs:=x) (nb:=lW) L9 (hn b (aD ..)) qK.1 ha hl hs qK.2 (λy hy=>⟨hp.2 y (aB _ hy),by
    unfold oI at hE;split at hE
    ·exact hE.xb y hy
    simp_all⟩) (by simp_all)
   refine⟨g',l,λy hy=> ?_,R',⟨_,[],rfl,hc,rfl⟩,λi gn cs b o hi _ _=>⟨?_,ho i (Qo i gn cs hi)⟩⟩
   ·simp_all
   ·show look ((n,_)::s.hp) i=_;rw[dA _ _ (Ne.symm (Qo i gn cs hi))];omega
 |lnd τ dp=>
  intro x pl old n s cells rest n' s' h
  cases old with
  |nil=>exact nomatch h
  |cons c cs=>
   cases c with
   |nil=>
    obtain⟨h1,rfl⟩:=de h
    injection h1 with h1 h2;injection h2 with h2 h3
    subst h1;subst h2;refine⟨rfl,by rfl,λB g w0 w R rp olds news nb BH hL hB hp hn=> ?_⟩;obtain⟨rfl,hO⟩:=hB
    rcases hL with⟨_,rfl⟩|⟨id,gen,e,_⟩
    ·have Cv:nb=[]:=by
      rcases hO with⟨_,_,h⟩|⟨b,cap,arr,ty,lW,e,_⟩
      all_goals simp_all
     subst Cv;exact⟨g,Le.refl g,λ_ _=>⟨rfl,rfl⟩,R,⟨_,[],rfl,rfl,rfl⟩,λi gn cs b o h _ _=>⟨h,rfl⟩⟩
    simp_all
   |own id gen=>
    simp only[CU,AM.run]at h;split at h
    ·rename_i g0 bs heq;obtain⟨hb,h'⟩:=eB h;obtain rfl:=beq_eq hb;simp only[AM.run,cc,cB]at h';obtain⟨⟨rfl,rfl,rfl⟩,rfl⟩:=h';refine⟨rfl,by simp[Sp.size],λB g w0 w R rp olds news nb BH hL hB hp hn=> ?_⟩;obtain⟨rfl,hO⟩:=hB
     rcases hL with⟨e,_⟩|⟨ad4,NV,e,rfl,ht,XR⟩
     ·simp[Sp.size]at e
     ·have e:[Cell.own id g0]=[Cell.own ad4 NV]:=by simpa[Sp.size]using e
      injection e with e _;injection e with e1 e2
      subst e1;subst e2
      have Xu:((dp||τ.flat)&& !τ.flat)=(dp&& !τ.flat):=by cases dp<;>cases τ.flat<;>rfl
      rcases hO with⟨k1,k2,rfl⟩|⟨b,cap,arr,ty,lW,k1,rfl,ha,hl,hs,hE⟩
      ·have k2:x=[]:=k2;subst k2
       injection k1 with k1 _
       have R':HRel B g ((id, .own g0 τ (dp||τ.flat) [])::s.hp) w:=R.put heq rfl (.inl ⟨k1,rfl⟩);refine⟨g,Le.refl g,λ_ _=>⟨rfl,rfl⟩,R',⟨_,[],rfl,⟨ht,rfl,XR⟩,rfl⟩,λi gn cs b o hi pz _=>⟨?_,rfl⟩⟩
       have mU:id≠i:=λe=>by
        subst e;rw[heq]at hi
        injection hi with hi;injection hi with hi _
        subst hi;rw[k1]at pz;cases pz
       show look ((id,_)::s.hp) i=_;rw[dA _ _ mU];exact hi
      ·injection k1 with k1 _
       have qK:=cu.1 hp.1
       obtain⟨g',l,hk,ho,R'⟩:=R.nZ (deep:=dp||τ.flat) (τ:=τ) (xs:=x) (nb:=lW) heq k1 (hp.2 b (aD ..)) (hn b (aD ..)) qK.1 ha hl hs qK.2 (λy hy=>⟨hp.2 y (aB _ hy),by
        unfold oI at hE;split at hE
        ·exact hE.xb y hy
        ·rw[hE.2]at hy;simp at hy⟩) (by rw[Xu];exact hE)
       refine⟨g',l,λy hy=> ?_,R',⟨_,[],rfl,⟨aV ht (l.top _),(l.cv _ _ ht).symm,XR⟩,rfl⟩,λi gn cs b' o hi pz _=>⟨?_,by rw[ho]⟩⟩
       ·rw[bA,not_or]at hy;exact hk y hy.1 hy.2
       ·have mU:id≠i:=λe=>by
         subst e;rw[heq]at hi
         injection hi with hi;injection hi with hi _
         subst hi;rw[k1]at pz;cases pz
        show look ((id,_)::s.hp) i=_;rw[dA _ _ mU];exact hi
    ·cases h
   |_=>exact nomatch h
 |CV ok=>intro x pl old n s cells rest n' s' h;exact nomatch h
 |vp=>
  intro x pl old n s cells rest n' s' h;obtain⟨c,t,h1,h2⟩:=AM.dc h;obtain⟨h3,rfl⟩:=de h2
  injection h3 with h3 h4;injection h4 with h4 h5
  subst h3;subst h4
  cases pl with
  |none=>cases h1
  |some q=>
   obtain⟨id,bg,off⟩:=q;obtain⟨gn1,t1,h6,h7⟩:=AM.dc h1;obtain⟨rfl,Xr⟩:=sx h6;simp only[AM.run]at h7;obtain⟨gn2,t2,h8,h9⟩:=AM.dc h7;obtain⟨rfl,a36⟩:=sx h8;simp only[AM.run,cc,cB]at h9;obtain⟨rfl,rfl⟩:=h9;refine⟨rfl,by simp[Sp.size],λB g w0 w R rp olds news nb BH hL hB hp hn=> ?_⟩;have hB:th g.dC w rp x news nb:=hB;obtain⟨N2,bb,oo,pz,rfl⟩:=BH id bg off rfl;obtain⟨rfl,_⟩:=nP R h6
   have two:∃u1 u2,news=[u1,u2]/\oc u1=true:=by
    rcases hB with⟨e,_⟩|⟨u2,e,_⟩
    ·exact⟨_,_,e,rfl⟩
    ·exact⟨_,_,e,rfl⟩
   obtain⟨u1,u2,rfl,aZ8⟩:=two;obtain⟨l1,R1⟩:=R.named (id:=n) (u:=u1) (o':= .dead (g.top n)) rfl trivial;have Cy:(g.name n (g.top n) u1).cv n (g.top n)=u1:=(by simp[Gh.name]);have Ya:g.top n<(g.name n (g.top n) u1).top n:=(by simp[Gh.name]);obtain⟨rfl,_⟩:=nP (s:=⟨t1.env,(n, .dead (g.top n))::t1.hp⟩) R1 h8;obtain⟨g2,l2,k2,o2,R2,c2⟩:=R1.Ph (id:=n+1) (a:=n) (ag:=g.top n) (bid:=id) (bg:=bg) (off:=off) (xs:=x) (u2:=u2) (nb:=nb) Ya (aV N2 (l1.le.top _)) (by omega) (hp.mono l1) hn ((l1.le.cv _ _ N2).trans pz) (by rw[Cy];exact hB);refine⟨g2,l1.le.trans l2,k2,R2,⟨u1,[u2],rfl,⟨aV Ya (l2.top _), ?_,aZ8⟩,u2,[],rfl,c2,rfl⟩,λi gn cs b o hi _ _=>⟨?_,by rw[o2,l1.out]⟩⟩
   ·rw[l2.cv _ _ Ya,Cy]
   ·have e1:n≠i:=λe=>by subst e;exact Xr gn cs hi
    have e2:n+1≠i:=λe=>by
     subst e;exact a36 gn cs (by show look ((n,_)::t1.hp) (n+1)=_;rw[dA _ _ e1];exact hi)
    show look ((n+1,_)::(n,_)::t1.hp) i=_;rw[dA _ _ e2,dA _ _ e1];exact hi
 |pr a b EY EW=>
  intro x pl old n s cells rest n' s' h;obtain⟨⟨p1,p2,p3⟩,t,h1,h2⟩:=AM.dc h;obtain⟨⟨q1,q2,q3⟩,t2,h3,h4⟩:=AM.dc h2;obtain⟨h5,rfl⟩:=de h4
  injection h5 with h5 h6;injection h6 with h6 h7
  subst h5;subst h6;obtain⟨ea,ra,sa⟩:=EY _ _ _ _ _ _ _ _ _ h1;obtain⟨eb,rb,sb⟩:=EW _ _ _ _ _ _ _ _ _ h3;have ra:p2=old.drop a.size:=ra;have rb:rest=p2.drop b.size:=rb;refine⟨eb.trans ea,by rw[rb,ra,bX],λB g w0 w R rp olds news nb BH hL hB hp hn=> ?_⟩;obtain⟨u1,u2,n1,n2,rfl,rfl,B1,B2⟩:=hB;obtain⟨L1,L2⟩:=hL;have qK:=bw.1 hp.1
  have hd:∀y∈n2,y∉n1:=λy h2 h1=>qK.2.2 y h1 y h2 rfl
  have e1:((old.take (a.size+b.size)).take a.size)=old.take a.size:=by rw[cj];congr 1;omega
  have e2:((old.take (a.size+b.size)).drop a.size)=p2.take b.size:=by rw[ra,cz];congr 1;omega
  have aZ7:qW s.hp g w0 a (old.take a.size) (olds.take a.size):=by rw[<-e1];exact L1
  have a43:qW s.hp g w0 b (p2.take b.size) (olds.drop a.size):=by rw[<-e2];exact L2
  obtain⟨g1,l1,k1,R1,c1,t1⟩:=sa B g w0 w R rp _ _ _ BH aZ7 B1 ⟨qK.1,λy hy=>hp.2 y (aX _ hy)⟩ (λy hy=>hn y (aX _ hy));have L3:qW t.hp g1 w0 b (p2.take b.size) (olds.drop a.size):=qW.L5 l1 R.yj (λi gn cs b' o a1 a2 a3=>t1 i gn cs b' o a1 a2 (hd b' a3)) B2 a43
  obtain⟨g2,l2,k2,R2,c2,aX3⟩:=sb B g1 w0 w R1 (rp.1,rp.2+a.size) _ _ _ ((BH.mono l1).on a.size) L3 (B2.mono l1.dC) ⟨qK.2.1,λy hy=>by rw[(k1 y (hd y hy)).1];exact hp.2 y (aZ _ hy)⟩
   (λy hy=>by rw[(k1 y (hd y hy)).2];exact hn y (aZ _ hy))
  refine⟨g2,l1.trans l2,λy hy=> ?_,R2,(c1.mono l2).append c2,λi gn cs b' o hi pz hb=> ?_⟩
  ·rw[aP,not_or]at hy;obtain⟨a1,a2⟩:=k1 y hy.1;obtain⟨b1,b2⟩:=k2 y hy.2;exact⟨b1.trans a1,b2.trans a2⟩
  ·rw[aP,not_or]at hb;obtain⟨a1,a2⟩:=t1 i gn cs b' o hi pz hb.1;obtain⟨b1,b2⟩:=aX3 i gn cs b' o a1 ((l1.cv _ _ (R.yj _ _ _ hi)).trans pz) hb.2;exact⟨b1,b2.trans a2⟩
 |ptr wh st sp ih=>
  intro x pl old n s cells rest n' s' h
  cases old with
  |nil=>exact nomatch h
  |cons c cs=>
   cases c with
   |ptr id gen off=>
    simp only[CU,AM.run]at h;split at h
    ·rename_i g0 bt bs heq;obtain⟨hb,h'⟩:=eB h;obtain rfl:=beq_eq hb;obtain⟨⟨p1,p2,p3⟩,t,h1,h2⟩:=AM.dc h';simp at h2;obtain⟨⟨rfl,rfl,rfl⟩,rfl⟩:=h2;obtain⟨e1,r1,s1⟩:=ih _ _ _ _ _ _ _ _ _ h1;refine⟨e1,by simp[Sp.size],λB g w0 w R rp olds news nb BH hL hB hp hn=> ?_⟩;obtain⟨ad4,NV,XK,bs',b,o,nh,GD,L,ec,eo,Qo,pz,UW,ac9,hle,hid,EU,X4,bd4⟩:=hL
     have ec:[Cell.ptr id g0 off]=[Cell.ptr ad4 NV XK]:=by simpa[Sp.size]using ec
     injection ec with ec _;injection ec with bf9 bl2 bg3
     subst bf9;subst bl2;subst bg3;rw[heq]at Qo
     injection Qo with Qo;injection Qo with _ Qo;injection Qo with aU7 Qo
     subst Qo;subst aU7;obtain⟨b1,o1,arr1,ty1,arr,N,lW,f1,f2,f3,f4,f5,f6,f7,f8,f9⟩:=hB;rw[f1]at eo
     injection eo with eo;injection eo with eo;injection eo with eo;injection eo with bl5 bk3
     subst bl5;subst bk3;rw[UW]at f4
     injection f4 with f4;injection f4 with f4 bm5
     subst f4;subst bm5;subst f3;have qK:=cu.1 hp.1;have Qk:=X4.length;have Xs:=Rt (n:=sp.size) ac9 hle (show off+sp.size<=L.length by rw[Qk];exact EU);rw[<-Xs]at f9
     have ES:(cut off sp.size bs).take sp.size=cut off sp.size bs:=by unfold cut;rw[cj,Nat.min_self]
     obtain⟨g1,l1,k1,R1,c1,t1⟩:=s1 B g w0 w R (b1,o+off) _ _ _ (λad4 NV XK e=>by
      injection e with e;injection e with e1 e;injection e with e2 e3
      subst e1;subst e2;subst e3
      exact⟨R.yj _ _ _ heq,b1,o,pz,rfl⟩) (by rw[ES];exact bd4) f9 ⟨qK.2,λy hy=>hp.2 y (aB _ hy)⟩ (λy hy=>hn y (aB _ hy))
     obtain⟨q1,q2⟩:=k1 b1 qK.1;obtain⟨w1,w2⟩:=t1 id g0 (_,bs) b1 o heq pz qK.1;have Cy:g1.cv id g0= .pointer (U ⟨b1,o,az⟩):=(l1.cv _ _ (R.yj _ _ _ heq)).trans pz;have hN:=c1.length
     let g2:Gh:={g1 with gV:=open Classical in λx=>if x=b1 then U (id+1)else g1.gV x}
     have R7:Le g1 g2:=⟨λ_ _ h=>h,λ_=>aF _,λ_ _ _=>rfl⟩;have RW:=QK (off:=off) ac9 hle (by rw[f8,Qk];exact EU) f6
     have hlen:(L.take off++N++L.drop (off+N.length)).length=L.length:=by simp;omega
     have DA:dG g2 (setCells off p1 bs) (L.take off++N++L.drop (off+N.length)):=dG.set (c1.mono R7) off (X4.mono (l1.trans R7))
     have R2:HRel B g2 ((id, .box g0 (bt,setCells off p1 bs))::t.hp) w:=by
      refine R1.Wp (q1.trans (hp.2 b1 (aD ..))) (q2.trans (hn b1 (aD ..))) w1 rfl ?_;refine⟨b1,o,arr,_,_,Cy,⟨by simp,q2.trans (hn b1 (aD ..))⟩,f5,DA, ?_, ?_, ?_⟩
      ·show arr.toList=(g1.outer id).take o++_++(g1.outer id).drop _;rw[w2];exact RW
      ·show _<=(g1.outer id).length;rw[w2,hlen];exact hle
      ·refine⟨hid.1, ?_,rfl⟩;show(g1.outer id).length=(setCells off p1 bs).length;rw[w2,<-DA.length,hlen,Qk];exact hid.2
     refine⟨g2,l1.trans R7,λy hy=> ?_,R2,⟨_,[],by rw[f2,f1],⟨R2.top id ▸ by rw[dI];exact Nat.lt_succ_self _,b1,o,Cy,rfl⟩,rfl⟩,λi gn cs b' o' hi Kl P9=> ?_⟩
     ·rw[bA,not_or]at hy;obtain⟨a1,a2⟩:=k1 y hy.2;exact⟨by simp[g2,hy.1,a1],a2⟩
     ·rw[bA,not_or]at P9;obtain⟨a1,a2⟩:=t1 i gn cs b' o' hi Kl P9.2;refine⟨?_,a2⟩
      have mU:id≠i:=λe=>by
       subst e;rw[heq]at hi
       injection hi with hi;injection hi with hi _
       subst hi;rw[pz]at Kl
       injection Kl with Kl;injection Kl with Kl;injection Kl with Kl _
       exact P9.1 Kl.symm
      show look ((id,_)::t.hp) i=_;rw[dA _ _ mU];exact a1
    ·cases h
   |_=>exact nomatch h
end Go.Abs
end

section
namespace Go.Abs
def vD (dC:Rd)(w:World):(a:VSp)->a.sp.ty.den->Value->List Nat->Prop
 | .one s,x,u,nb=>oc u=av/\Pass dC w s x (0,0) [u] nb
 | .agg s,x,u,nb=>∃us:List Value,u= .agg us.toArray/\Pass dC w s x (0,0) us nb
def kT (dC:Rd)(w:World):(as:List VSp)->(fF as).den->List Value->List Nat->Prop
 |[],_,us,nb=>us=[]/\nb=[]
 |a::as,x,us,nb=>∃u r n1 n2,us=u::r/\nb=n1++n2/\vD dC w a x.1 u n1/\kT dC w as x.2 r n2
def EK (dC:Rd)(w0 w:World):(s:Sp)->s.tg.den->List Value->List Nat->Prop
 | .pr a b,x,us,nb=>∃n1 n2,nb=n1++n2/\EK dC w0 w a x.1 (us.take a.size) n1/\EK dC w0 w b x.2 (us.drop a.size) n2
 | .ptr wh st s,x,us,nb=>rq dC w0 w (.ptr wh st s) x (0,0) us us nb
 | .lnd τ dp,x,us,nb=>rq dC w0 w (.lnd τ dp) x (0,0) us us nb
 |_,_,_,nb=>nb=[]
def nW (dC:Rd)(w0 w:World):(as:List VSp)->(tH as).den->List Value->List Nat->Prop
 |[],_,us,nb=>us=[]/\nb=[]
 |a::as,x,us,nb=>∃u r n1 n2,us=u::r/\nb=n1++n2/\EK dC w0 w a.sp x.1 u.cells.toList n1/\nW dC w0 w as x.2 r n2
def Br (dC:Rd)(w:World):(a:VSp)->a.sp.ty.den->Value->List Nat->Prop
 | .one s,x,u,nb=>oc u=av/\rq dC w w s x (0,0) [] [u] nb
 | .agg s,x,u,nb=>∃us:List Value,u= .agg us.toArray/\rq dC w w s x (0,0) [] us nb
def vE (dC:Rd)(w:World):(as:List VSp)->(fF as).den->List Value->List Nat->Prop
 |[],_,us,nb=>us=[]/\nb=[]
 |a::as,x,us,nb=>∃u r n1 n2,us=u::r/\nb=n1++n2/\Br dC w a x.1 u n1/\vE dC w as x.2 r n2
def z7 (dC:Rd)(w:World):(r:RSp)->r.ty.den->Value->List Nat->Prop
 | .val a,x,v,nb=>Br dC w a x v nb
 | .xl as,x,v,nb=>∃vs:List Value,v= .tuple vs.toArray/\vE dC w as x vs nb
 | .none,_,v,nb=>v= .tuple #[]/\nb=[]
def lU (gU:Nat->Option (List Cell))(dC:Rd):Prop:=∀k cs,gU k=U cs->∃us,dC k=U us/\∀g:Gh,(∀b L,dC b=U L->g.dC b=U L)->dG g cs us
theorem lU.mono (h:∀b L,dC b=U L->gC b=U L)(k:lU gU dC):lU gU gC:=λi c hi=>by
 obtain⟨u,h1,h2⟩:=k i c hi
 grind
theorem lU.one (h:lU gU g.dC):∀k c,gU k=U [c]->∃u,g.dC k=U [u]/\eC g c u:=λk c hk=>by
 obtain⟨us,h1,h2⟩:=h k [c] hk
 obtain⟨u,r,rfl,hu,hr⟩:=h2 g λ_ _ hb=>hb
 have hr:r=[]:=hr;simp_all
def ll (P:Program)(f:FuncId)(args:Array Value)(w:World)(R:Value->World->Prop):Prop:=
 match(callFunc f args).run P w with
 | .ok (.enter f' a') w1=>Calls P f' a' w1 λe w'=>∃v,e= .returned v/\R v w'
 | .ok (.value v) w1=>R v w1
 |_=>False
def o9 (P:Program)(gU:Nat->Option (List Cell))(f:FuncId)(c:Callee):Prop:=
 ∀x y,c.F x=U y->∀dC w args nb,lU gU dC->(∀b L,dC b=U L->∃arr ty fr,w.heap[b]?=U (.cells arr ty fr)/\arr.toList=L)->
  kT dC w c.sig.args x args nb->nb.Nodup->(∀b∈nb,dC b=az/\b<w.heap.size)->
  ll P f args.toArray w λv w'=>∃gC n1 n2,After dC w nb gC w' (n1++n2)/\z7 gC w' c.sig.res y.1 v n1/\nW gC w w' c.sig.args y.2 args n2
def GB (as:List VSp)(dC:Rd)(w:World)(nb:List Nat)(args:List Value):Prop:=∀f m,z8 as=U (f,m)->
 ∃b ty,args.getLast?=U (.pointer (U ⟨b,0,az⟩))/\w.heap[b]?=U (.cells #[.func (.func f) #[] (args.drop m).toArray] ty (0,0))/\b∉nb/\dC b=az
def zH (P:Program)(gU:Nat->Option (List Cell))(f:FuncId)(c:Callee):Prop:=
 ∀x y,c.F x=U y->∀dC w args nb,lU gU dC->(∀b L,dC b=U L->∃arr ty fr,w.heap[b]?=U (.cells arr ty fr)/\arr.toList=L)->
  kT dC w c.sig.args x args nb->nb.Nodup->(∀b∈nb,dC b=az/\b<w.heap.size)->GB c.sig.args dC w nb args->
  ll P f args.toArray w λv w'=>∃gC n1 n2,After dC w nb gC w' (n1++n2)/\z7 gC w' c.sig.res y.1 v n1/\nW gC w w' c.sig.args y.2 args n2
def o9.slf (h:o9 P gU f c):zH P gU f c:=λx y k dC w args nb a b c d e _=>h x y k dC w args nb a b c d e
def GB.none (h:z8 as=az){dC:Rd}{w:World}{nb:List Nat}{args:List Value}:GB as dC w nb args:=λf m k=>by simp_all
def zH.plain (hn:z8 c.sig.args= .none)(h:zH P gU f c):o9 P gU f c:=λx y k dC w args nb a b c d e=>h x y k dC w args nb a b c d e (GB.none hn)
def FF (h:oc u=av):u.cells.toList=[u]:=by rw[Ed h]
def rE (hp:List (Nat×Obj))(g:Gh)(w:World):List VSp->List Val->List Value->Prop
 |[],vs,us=>vs=[]/\us=[]
 |a::as,vs,us=>∃v r u q,vs=v::r/\us=u::q/\v.cells.length=a.sp.size/\qW hp g w a.sp v.cells u.cells.toList/\rE hp g w as r q
theorem rE.mono (l:Le g g')(ho:∀id gn cs,look hp id=U (.lZ gn cs)->look F0 id=U (.lZ gn cs)/\g'.outer id=g.outer id)(ht:∀id gn cs,look hp id=U (.lZ gn cs)->gn<g.top id):
  ∀{as:List VSp} {vs:List Val} {us:List Value},rE hp g w as vs us->rE F0 g' w as vs us
 |[],_,_,h=>h
 |_::_,_,_,⟨v,r,u,q,e,e',hl,h1,h2⟩=>⟨v,r,u,q,e,e',hl,h1.mono l ho ht,rE.mono l ho ht h2⟩
def Gq (h:(W7 a v).run s=U (x,s')):mE s s'/\∀B g w,HRel B g s.hp w->∃g',Lk g g'/\HRel B g' s'.hp w/\∀u,iL g v u->
  ∃nb,vD g'.dC w a x u nb/\iz g' nb/\(∀b∈nb,g.gV b≠U 0)/\v.cells.length=a.sp.size/\qW s'.hp g' w a.sp v.cells u.cells.toList:=by
 cases a with
 |one sp=>
  cases v with
  |agg cs=>exact nomatch h
  |one c=>
   obtain⟨⟨p1,p2⟩,t,h1,h2⟩:=AM.dc h;simp at h2;split at h2
   ·obtain⟨rfl,rfl⟩:=de h2;obtain⟨k,⟨used,eu,lu⟩,hs⟩:=zB _ _ _ _ _ _ _ h1
    have rr:sp.size=1:=by grind
    refine⟨k,λB g w R=> ?_⟩;obtain⟨g',l,R',hc⟩:=hs B g w R;refine⟨g',l,R',λu hu=> ?_⟩;have XR:=hu.Hx;obtain⟨u1,u2,nb,e,hP,hO,hr,hf,hL⟩:=hc [u] (0,0) ⟨u,[],rfl,hu,rfl⟩ (mi.none _ _);have Cx:u2=[]:=hr;subst Cx;rw[aQ]at e;subst e;refine⟨nb,⟨XR,hP⟩,hO,hf,rr.symm, ?_⟩;rw[FF XR];rw[rr]at hL;exact hL
   ·cases h2
 |agg sp=>
  cases v with
  |one c=>exact nomatch h
  |agg cs=>
   obtain⟨⟨p1,p2⟩,t,h1,h2⟩:=AM.dc h;simp at h2;split at h2
   ·obtain⟨rfl,rfl⟩:=de h2;obtain⟨k,⟨used,eu,lu⟩,hs⟩:=zB _ _ _ _ _ _ _ h1;rw[aQ]at eu;subst eu;refine⟨k,λB g w R=> ?_⟩;obtain⟨g',l,R',hc⟩:=hs B g w R;refine⟨g',l,R',λu hu=> ?_⟩;obtain⟨us,rfl,hu⟩:=hu;obtain⟨u1,u2,nb,e,hP,hO,hr,hf,hL⟩:=hc us (0,0) hu (mi.none _ _);have Cx:u2=[]:=hr;subst Cx;rw[aQ]at e;subst e;refine⟨nb,⟨us,rfl,hP⟩,hO,hf,lu, ?_⟩;have:cs.take sp.size=cs:=(by rw[<-lu,cy]);rw[this]at hL;exact hL
   ·cases h2
theorem vD.mono (h:∀b L,dC b=U L->gC b=U L){w:World}{a:VSp}{x:a.sp.ty.den}{u:Value}{nb:List Nat}(k:vD dC w a x u nb):vD gC w a x u nb:=by
 cases a with
 |one s=>exact⟨k.1,Pass.mono h k.2⟩
 |agg s=>obtain⟨us,e,k⟩:=k;exact⟨us,e,Pass.mono h k⟩
def vr:∀{as:List VSp}{vs:List Val}{s s':St}{x:(fF as).den},(FL as vs).run s=U (x,s')->mE s s'/\∀B g w,HRel B g s.hp w->∃g',Lk g g'/\HRel B g' s'.hp w/\∀us,ju g vs us->
  ∃nb,kT g'.dC w as x us nb/\iz g' nb/\(∀b∈nb,g.gV b≠U 0)/\rE s'.hp g' w as vs us
 |[],vs,s,s',x,h=>by
  cases vs with
  |nil=>
   obtain⟨rfl,rfl⟩:=de h;exact⟨mE.refl _,λB g w R=>⟨g,Lk.refl g,R,λus hu=>⟨[],⟨hu,rfl⟩,⟨bf,λb hb=>by simp_all⟩,λb hb=>by simp_all,rfl,hu⟩⟩⟩
  |cons v r=>exact nomatch h
 |a::as,vs,s,s',x,h=>by
  cases vs with
  |nil=>exact nomatch h
  |cons v r=>
   obtain⟨p,t,h1,h2⟩:=AM.dc h;obtain⟨q,t2,h3,h4⟩:=AM.dc h2;obtain⟨rfl,rfl⟩:=de h4;obtain⟨k1,s1⟩:=Gq h1;obtain⟨k2,s2⟩:=vr h3;refine⟨k1.trans k2,λB g w R=> ?_⟩;obtain⟨g1,l1,R1,c1⟩:=s1 B g w R;obtain⟨g2,l2,R2,c2⟩:=s2 B g1 w R1;refine⟨g2,l1.trans l2,R2,λus hu=> ?_⟩;obtain⟨u,Qj,rfl,sC,Cx⟩:=hu;obtain⟨n1,P1,O1,f1,z1,L1⟩:=c1 u sC;obtain⟨n2,P2,O2,f2,L2⟩:=c2 Qj (Cx.mono l1.le);refine⟨n1++n2,⟨u,Qj,n1,n2,rfl,rfl,P1.mono l2.le.dC,P2⟩,iz.append l2 O1 O2 f2,λb hb=> ?_,v,r,u,Qj,rfl,rfl,z1,L1.mono l2.le (λid gn cs hl=>⟨k2.2 id gn cs hl,by rw[l2.out]⟩) R1.yj,L2⟩
   rcases aP.1 hb with hb|hb
   ·simp_all
   ·exact λe=>f2 b hb (l1.kp b e).1
def Z0 (sp:Sp)(x:sp.tg.den)(cells:List Cell)(s:St)(rest:List Cell)(s':St):Prop:=
 s'.env=s.env/\rest=cells.drop sp.size/\∀B g w0 w,HRel B g s.hp w->∀us nb,qW s.hp g w0 sp (cells.take sp.size) us->EK g.dC w0 w sp x us nb->iz g nb->(∀b∈nb,g.iR b=az)->
  ∃g',Le g g'/\(∀x,x∉nb->g'.gV x=g.gV x/\g'.iR x=g.iR x)/\HRel B g' s'.hp w/\
   ∀i gn cs b o,look s.hp i=U (.lZ gn cs)->g.cv i gn= .pointer (U ⟨b,o,az⟩)->b∉nb->look s'.hp i=U (.lZ gn cs)/\g'.outer i=g.outer i
def vQ (h:∀b L,dC b=U L->gC b=U L){w0 w:World}:∀{s:Sp}{x:s.tg.den}{us:List Value}{nb:List Nat},EK dC w0 w s x us nb->EK gC w0 w s x us nb
 | .un,_,_,_,k=>k
 | .pr _ _,_,_,_,⟨n1,n2,e,k1,k2⟩=>⟨n1,n2,e,vQ h k1,vQ h k2⟩
 | .fT _,_,_,_,k=>k
 | .own _ _,_,_,_,k=>k
 | .ptr _ _ _,x,_,_,k=>rq.mono h (s:= .ptr _ _ _) (x:=x) k
 | .lnd _ _,x,_,_,k=>rq.mono h (s:= .lnd _ _) (x:=x) (pl:=(0,0)) k
 | .vp,_,_,_,k=>k
 | .CV _,_,_,_,k=>k
 | .err,_,_,_,k=>k
 | .np,_,_,_,k=>k
 | .slf _ _,_,_,_,k=>k
def BV (l:Le g g')(ht:∀id gn cs,look hp id=U (.lZ gn cs)->gn<g.top id):
  ∀{s:Sp} {x:s.tg.den} {cs:List Cell} {us:List Value} {nb:List Nat},(∀i gn cs b o,look hp i=U (.lZ gn cs)->g.cv i gn= .pointer (U ⟨b,o,az⟩)->b∈nb->look F0 i=U (.lZ gn cs)/\g'.outer i=g.outer i)->
   EK dC w0 w s x us nb->qW hp g w0 s cs us->qW F0 g' w0 s cs us
 | .un,_,_,_,_,_,_,_=>trivial
 | .fT _,_,_,_,_,_,_,_=>trivial
 | .own _ _,_,_,_,_,_,_,_=>trivial
 | .err,_,_,_,_,_,_,_=>trivial
 | .np,_,_,_,_,_,_,_=>trivial
 | .slf _ _,_,_,_,_,_,_,_=>trivial
 | .pr _ _,_,_,_,_,ho,⟨n1,n2,e',k1,k2⟩,⟨h1,h2⟩=>by
  subst e';exact⟨BV l ht (λi gn cs b o a1 a2 a3=>ho i gn cs b o a1 a2 (aX _ a3)) k1 h1,BV l ht (λi gn cs b o a1 a2 a3=>ho i gn cs b o a1 a2 (aZ _ a3)) k2 h2⟩
 | .vp,_,_,_,_,_,_,_=>trivial
 | .CV _,_,_,_,_,_,_,_=>trivial
 | .ptr _ _ _,x,_,_,_,ho,k,h=>qW.L5 (s:= .ptr _ _ _) (x:=x) l ht ho k h
 | .lnd _ _,x,_,_,_,ho,k,h=>qW.L5 (s:= .lnd _ _) (x:=x) (pl:=(0,0)) l ht ho k h
def OA:∀sp x cells s rest s',(Tc sp x cells).run s=U (rest,s')->Z0 sp x cells s rest s':=by
 intro sp
 have one:∀sp x c cs s rest s',sp.size=1->(∀dC w0 w us nb,EK dC w0 w sp x us nb->nb=[])->(AM.ret cs).run s=U (rest,s')->Z0 sp x (c::cs) s rest s':=by
  intro sp x c cs s rest s' hs ho h;obtain⟨rfl,rfl⟩:=de h;refine⟨rfl,by simp_all,λB g w0 w R us nb hL hO hp hn=> ?_⟩;exact⟨g,Le.refl g,λ_ _=>⟨rfl,rfl⟩,R,λi gn cs b o h _ _=>⟨h,rfl⟩⟩
 induction sp with
 |un=>
  intro x cells s rest s' h;obtain⟨rfl,rfl⟩:=de h;refine⟨rfl,rfl,λB g w0 w R us nb hL hO hp hn=> ?_⟩;exact⟨g,Le.refl g,λ_ _=>⟨rfl,rfl⟩,R,λi gn cs b o h _ _=>⟨h,rfl⟩⟩
 |fT τ=>intro x cells s rest s' h;cases cells with|nil=>exact nomatch h|cons c cs=>exact one _ x c cs s rest s' rfl (λ_ _ _ _ _ h=>h) h
 |own τ dp=>intro x cells s rest s' h;cases cells with|nil=>exact nomatch h|cons c cs=>exact one _ x c cs s rest s' rfl (λ_ _ _ _ _ h=>h) h
 |err=>intro x cells s rest s' h;cases cells with|nil=>exact nomatch h|cons c cs=>exact one _ x c cs s rest s' rfl (λ_ _ _ _ _ h=>h) h
 |np=>intro x cells s rest s' h;cases cells with|nil=>exact nomatch h|cons c cs=>exact one _ x c cs s rest s' rfl (λ_ _ _ _ _ h=>h) h
 |slf f m=>intro x cells s rest s' h;cases cells with|nil=>exact nomatch h|cons c cs=>exact one _ x c cs s rest s' rfl (λ_ _ _ _ _ h=>h) h
 |pr a b EY EW=>
  intro x cells s rest s' h;obtain⟨r,t,h1,h2⟩:=AM.dc h;obtain⟨ea,ra,sa⟩:=EY _ _ _ _ _ h1;obtain⟨eb,rb,sb⟩:=EW _ _ _ _ _ h2;refine⟨eb.trans ea,by rw[rb,ra,bX],λB g w0 w R us nb hL hO hp hn=> ?_⟩;obtain⟨n1,n2,rfl,B1,B2⟩:=hO;obtain⟨L1,L2⟩:=hL;have qK:=bw.1 hp.1
  have hd:∀y∈n2,y∉n1:=λy h2 h1=>qK.2.2 y h1 y h2 rfl
  have e1:((cells.take (a.size+b.size)).take a.size)=cells.take a.size:=by rw[cj];congr 1;omega
  have e2:((cells.take (a.size+b.size)).drop a.size)=r.take b.size:=by rw[ra,cz];congr 1;omega
  have aZ7:qW s.hp g w0 a (cells.take a.size) (us.take a.size):=by rw[<-e1];exact L1
  have a43:qW s.hp g w0 b (r.take b.size) (us.drop a.size):=by rw[<-e2];exact L2
  obtain⟨g1,l1,k1,R1,t1⟩:=sa B g w0 w R _ _ aZ7 B1 ⟨qK.1,λy hy=>hp.2 y (aX _ hy)⟩ (λy hy=>hn y (aX _ hy));have L3:qW t.hp g1 w0 b (r.take b.size) (us.drop a.size):=BV l1 R.yj (λi gn cs b' o a1 a2 a3=>t1 i gn cs b' o a1 a2 (hd b' a3)) B2 a43
  obtain⟨g2,l2,k2,R2,aX3⟩:=sb B g1 w0 w R1 _ _ L3 (vQ l1.dC B2) ⟨qK.2.1,λy hy=>by rw[(k1 y (hd y hy)).1];exact hp.2 y (aZ _ hy)⟩
   (λy hy=>by rw[(k1 y (hd y hy)).2];exact hn y (aZ _ hy))
  refine⟨g2,l1.trans l2,λy hy=> ?_,R2,λi gn cs b' o hi pz hb=> ?_⟩
  ·rw[aP,not_or]at hy;obtain⟨a1,a2⟩:=k1 y hy.1;obtain⟨b1,b2⟩:=k2 y hy.2;exact⟨b1.trans a1,b2.trans a2⟩
  ·rw[aP,not_or]at hb;obtain⟨a1,a2⟩:=t1 i gn cs b' o hi pz hb.1;obtain⟨b1,b2⟩:=aX3 i gn cs b' o a1 ((l1.cv _ _ (R.yj _ _ _ hi)).trans pz) hb.2;exact⟨b1,b2.trans a2⟩
 |CV ok=>
  intro x cells s rest s' h
  cases cells with
  |nil=>exact nomatch h
  |cons c cs=>exact one (.CV ok) x c cs s rest s' rfl (λ_ _ _ _ _ k=>k) h
 |vp=>
  intro x cells s rest s' h
  cases cells with
  |nil=>exact nomatch h
  |cons c cs=>
   cases cs with
   |nil=>exact nomatch h
   |cons c2 cs=>
    obtain⟨rfl,rfl⟩:=de h;refine⟨rfl,rfl,λB g w0 w R us nb hL hO hp hn=> ?_⟩;exact⟨g,Le.refl g,λ_ _=>⟨rfl,rfl⟩,R,λi gn cs b o h _ _=>⟨h,rfl⟩⟩
 |ptr wh st sp _=>
  intro x cells s rest s' h
  cases cells with
  |nil=>exact nomatch h
  |cons c cs=>
   obtain⟨⟨p1,p2,p3⟩,t,h1,h2⟩:=AM.dc h;obtain⟨rfl,rfl⟩:=de h2;obtain⟨e1,_,s1⟩:=xF (.ptr wh st sp) x _ _ _ _ _ _ _ _ h1;refine⟨e1,rfl,λB g w0 w R us nb hL hO hp hn=> ?_⟩;obtain⟨g',l,k,R',_,t'⟩:=s1 B g w0 w R (0,0) us us nb (mi.none _ _) hL hO hp hn;exact⟨g',l,k,R',t'⟩
 |lnd τ dp=>
  intro x cells s rest s' h
  cases cells with
  |nil=>exact nomatch h
  |cons c cs=>
   obtain⟨⟨p1,p2,p3⟩,t,h1,h2⟩:=AM.dc h;obtain⟨rfl,rfl⟩:=de h2;obtain⟨e1,_,s1⟩:=xF (.lnd τ dp) x _ _ _ _ _ _ _ _ h1;refine⟨e1,rfl,λB g w0 w R us nb hL hO hp hn=> ?_⟩;obtain⟨g',l,k,R',_,t'⟩:=s1 B g w0 w R (0,0) us us nb (mi.none _ _) hL hO hp hn;exact⟨g',l,k,R',t'⟩
end Go.Abs
end

section
namespace Go.Abs
def CF (l:Le g g')(ht:∀id gn cs,look hp id=U (.lZ gn cs)->gn<g.top id):
  ∀{as:List VSp} {x:(tH as).den} {vs:List Val} {us:List Value} {nb:List Nat},(∀i gn cs b o,look hp i=U (.lZ gn cs)->g.cv i gn= .pointer (U ⟨b,o,az⟩)->b∈nb->look F0 i=U (.lZ gn cs)/\g'.outer i=g.outer i)->
   nW dC w0 w as x us nb->rE hp g w0 as vs us->rE F0 g' w0 as vs us
 |[],_,_,_,_,_,_,h=>h
 |_::_,x,_,_,_,ho,⟨u,r,n1,n2,e,e',k1,k2⟩,⟨v,q,u',r',e1,e2,hl,h1,h2⟩=>by
  subst e';rw[e]at e2
  injection e2 with e2 e3
  subst e2;subst e3;exact⟨v,q,u,r,e1,e,hl,BV l ht (λi gn cs b o a1 a2 a3=>ho i gn cs b o a1 a2 (aX _ a3)) k1 h1,CF l ht (λi gn cs b o a1 a2 a3=>ho i gn cs b o a1 a2 (aZ _ a3)) k2 h2⟩
def CR (h:∀b L,dC b=U L->gC b=U L){w0 w:World}:∀{as:List VSp}{x:(tH as).den}{us:List Value}{nb:List Nat},nW dC w0 w as x us nb->nW gC w0 w as x us nb
 |[],_,_,_,k=>k
 |_::_,_,_,_,⟨u,r,n1,n2,e,e',k1,k2⟩=>⟨u,r,n1,n2,e,e',vQ h k1,CR h k2⟩
def CA:∀{as:List VSp}{x:(tH as).den}{vs:List Val}{s s':St},(Hs as x vs).run s=U ((),s')->s'.env=s.env/\∀B g w0 w,HRel B g s.hp w->∀us nb,rE s.hp g w0 as vs us->nW g.dC w0 w as x us nb->iz g nb->(∀b∈nb,g.iR b=az)->
  ∃g',Le g g'/\(∀x,x∉nb->g'.gV x=g.gV x/\g'.iR x=g.iR x)/\HRel B g' s'.hp w
 |[],x,vs,s,s',h=>by
  cases vs with
  |nil=>
   obtain⟨_,rfl⟩:=de h;exact⟨rfl,λB g w0 w R us nb _ _ _ _=>⟨g,Le.refl g,λ_ _=>⟨rfl,rfl⟩,R⟩⟩
  |cons v r=>exact nomatch h
 |a::as,x,vs,s,s',h=>by
  cases vs with
  |nil=>exact nomatch h
  |cons v r=>
   obtain⟨rest,t,h1,h2⟩:=AM.dc h;obtain⟨e1,_,s1⟩:=OA _ _ _ _ _ _ h1;obtain⟨e2,s2⟩:=CA h2;refine⟨e2.trans e1,λB g w0 w R us nb hL hO hp hn=> ?_⟩;obtain⟨v',r',u,q,ev,eu,hl,L1,L2⟩:=hL
   injection ev with ev1 bm1
   subst bm1;obtain⟨u',q',n1,n2,a66,rfl,O1,O2⟩:=hO;rw[eu]at a66
   injection a66 with aK1 bh1
   subst bh1;have qK:=bw.1 hp.1
   have hd:∀y∈n2,y∉n1:=λy h2 h1=>qK.2.2 y h1 y h2 rfl
   have ht:v.cells.take a.sp.size=v.cells:=by grind
   obtain⟨g1,l1,k1,R1,t1⟩:=s1 B g w0 w R _ n1 (by simp_all) O1 ⟨qK.1,λy hy=>hp.2 y (aX _ hy)⟩ (λy hy=>hn y (aX _ hy));have L3:=CF l1 R.yj (λi gn cs b' o a1 a2 a3=>t1 i gn cs b' o a1 a2 (hd b' a3)) O2 L2
   obtain⟨g2,l2,k2,R2⟩:=s2 B g1 w0 w R1 _ n2 L3 (CR l1.dC O2) ⟨qK.2.1,λy hy=>by rw[(k1 y (hd y hy)).1];exact hp.2 y (aZ _ hy)⟩
    (λy hy=>by simp_all)
   refine⟨g2,l1.trans l2,λy hy=> ?_,R2⟩;simp_all
theorem BP:∀{s:Sp}{x:s.ty.den}{pl:Nat×Nat}{new:List Value}{nb:List Nat},rq dC w0 w s x pl [] new nb->qW hp g w1 s [] []
 | .un,_,_,_,_,_=>trivial
 | .fT _,_,_,_,_,_=>trivial
 | .own _ _,_,_,_,_,_=>trivial
 | .vp,_,_,_,_,_=>trivial
 | .CV _,_,_,_,_,_=>trivial
 | .err,_,_,_,_,_=>trivial
 | .np,_,_,_,_,_=>trivial
 | .slf _ _,_,_,_,_,_=>trivial
 | .lnd _ _,_,_,_,_,k=>by
  obtain⟨rfl,k⟩:=k;have:=k.length;simp_all
 | .pr _ _,_,_,_,_,⟨u1,u2,n1,n2,e,e',k1,k2⟩=>by
  rw[List.take_nil]at k1;rw[List.drop_nil]at k2;refine⟨?_, ?_⟩
  ·rw[List.take_nil,List.take_nil];exact BP k1
  ·rw[List.drop_nil,List.drop_nil];exact BP k2
 | .ptr _ _ _,_,_,_,_,⟨b,o,nh,GD,arr,L,lW,e,_⟩=>by cases e
def Eb (h:(Ro a x n).run s=U ((v,n'),s')):s'.env=s.env/\∀B g w,HRel B g s.hp w->∀u nb,Br g.dC w a x u nb->iz g nb->(∀b∈nb,g.iR b=az)->
  ∃g',Le g g'/\(∀x,x∉nb->g'.gV x=g.gV x/\g'.iR x=g.iR x)/\HRel B g' s'.hp w/\iL g' v u:=by
 cases a with
 |one sp=>
  obtain⟨⟨p1,p2,p3⟩,t,h1,h2⟩:=AM.dc h;simp at h2;split at h2
  ·obtain⟨h3,rfl⟩:=de h2
   injection h3 with h3 h4
   subst h3;obtain⟨e1,_,s1⟩:=xF sp x _ _ _ _ _ _ _ _ h1;refine⟨e1,λB g w R u nb hR hp hn=> ?_⟩;obtain⟨g',l,k,R',hc,_⟩:=s1 B g w w R (0,0) [] [u] nb (mi.none _ _) (by rw[List.take_nil];exact BP hR.2) hR.2 hp hn;obtain⟨u',r,e,hu,hr⟩:=hc
   injection e with e _
   subst e;exact⟨g',l,k,R',hu⟩
  ·cases h2
 |agg sp=>
  obtain⟨⟨p1,p2,p3⟩,t,h1,h2⟩:=AM.dc h;obtain⟨h3,rfl⟩:=de h2
  injection h3 with h3 h4
  subst h3;obtain⟨e1,_,s1⟩:=xF sp x _ _ _ _ _ _ _ _ h1;refine⟨e1,λB g w R u nb hR hp hn=> ?_⟩;obtain⟨us,rfl,hB⟩:=hR;obtain⟨g',l,k,R',hc,_⟩:=s1 B g w w R (0,0) [] us nb (mi.none _ _) (by grind [BP]) hB hp hn;exact⟨g',l,k,R',us,rfl,hc⟩
def Gb (h:∀b L,dC b=U L->gC b=U L){w:World}{a:VSp}{x:a.sp.ty.den}{u:Value}{nb:List Nat}(k:Br dC w a x u nb):Br gC w a x u nb:=by
 cases a with
 |one s=>exact⟨k.1,rq.mono h k.2⟩
 |agg s=>obtain⟨us,e,k⟩:=k;exact⟨us,e,rq.mono h k⟩
def zo (h:∀b L,dC b=U L->gC b=U L){w:World}:∀{as:List VSp}{x:(fF as).den}{us:List Value}{nb:List Nat},vE dC w as x us nb->vE gC w as x us nb
 |[],_,_,_,k=>k
 |_::_,_,_,_,⟨u,r,n1,n2,e,e',k1,k2⟩=>⟨u,r,n1,n2,e,e',Gb h k1,zo h k2⟩
def CM:∀{as:List VSp}{x:(fF as).den}{n:Nat}{vs:List Val}{s s':St},(MS as x n).run s=U (vs,s')->s'.env=s.env/\∀B g w,HRel B g s.hp w->∀us nb,vE g.dC w as x us nb->iz g nb->(∀b∈nb,g.iR b=az)->
  ∃g',Le g g'/\HRel B g' s'.hp w/\ju g' vs us
 |[],x,n,vs,s,s',h=>by
  obtain⟨rfl,rfl⟩:=de h;exact⟨rfl,λB g w R us nb hR _ _=>⟨g,Le.refl g,R,hR.1⟩⟩
 |a::as,x,n,vs,s,s',h=>by
  obtain⟨⟨p1,p2⟩,t,h1,h2⟩:=AM.dc h;obtain⟨q,t2,h3,h4⟩:=AM.dc h2;obtain⟨rfl,rfl⟩:=de h4;obtain⟨e1,s1⟩:=Eb h1;obtain⟨e2,s2⟩:=CM h3;refine⟨e2.trans e1,λB g w R us nb hR hp hn=> ?_⟩;obtain⟨u,r,n1,n2,rfl,rfl,k1,k2⟩:=hR;have qK:=bw.1 hp.1
  have hd:∀y∈n2,y∉n1:=λy h2 h1=>qK.2.2 y h1 y h2 rfl
  obtain⟨g1,l1,t1,R1,c1⟩:=s1 B g w R u n1 k1 ⟨qK.1,λy hy=>hp.2 y (aX _ hy)⟩ (λy hy=>hn y (aX _ hy))
  obtain⟨g2,l2,R2,c2⟩:=s2 B g1 w R1 r n2 (zo l1.dC k2) ⟨qK.2.1,λy hy=>by rw[(t1 y (hd y hy)).1];exact hp.2 y (aZ _ hy)⟩
   (λy hy=>by simp_all)
  exact⟨g2,l1.trans l2,R2,u,r,rfl,c1.mono l2,c2⟩
def IT (h:∀b L,dC b=U L->gC b=U L){w:World}{r:RSp}{x:r.ty.den}{v:Value}{nb:List Nat}(k:z7 dC w r x v nb):z7 gC w r x v nb:=by
 cases r with
 |val a=>exact Gb h k
 |xl as=>obtain⟨us,e,k⟩:=k;exact⟨us,e,zo h k⟩
 |none=>exact k
def Ku (h:(Nb r x n).run s=U (sl,s')):s'.env=s.env/\∀B g w,HRel B g s.hp w->∀v nb,z7 g.dC w r x v nb->iz g nb->(∀b∈nb,g.iR b=az)->
  ∃g',Le g g'/\HRel B g' s'.hp w/\gT g' sl v:=by
 cases r with
 |val a=>
  obtain⟨⟨p1,p2⟩,t,h1,h2⟩:=AM.dc h;obtain⟨rfl,rfl⟩:=de h2;obtain⟨e1,s1⟩:=Eb h1;refine⟨e1,λB g w R v nb hR hp hn=> ?_⟩;obtain⟨g',l,_,R',hv⟩:=s1 B g w R v nb hR hp hn;exact⟨g',l,R',hv⟩
 |xl as=>
  obtain⟨p,t,h1,h2⟩:=AM.dc h;obtain⟨rfl,rfl⟩:=de h2;obtain⟨e1,s1⟩:=CM h1;refine⟨e1,λB g w R v nb hR hp hn=> ?_⟩;obtain⟨us,rfl,hR⟩:=hR;obtain⟨g',l,R',hv⟩:=s1 B g w R us nb hR hp hn;exact⟨g',l,R',us,rfl,hv⟩
 |none=>
  obtain⟨rfl,rfl⟩:=de h;exact⟨rfl,λB g w R v nb hR hp hn=>⟨g,Le.refl g,R,[],by rw[hR.1],rfl⟩⟩
theorem ll.mono (h:∀v w',R v w'->R' v w')(k:ll P f args w R):ll P f args w R':=by
 grind [ll,Calls.mono]
def YT (c) (x) (k:c.den->AM α) (s):(AM.opt c x k).run s=x.bind λd=>(k d).run s:=by cases x<;>rfl
def Ge {chk:AM Unit}(aF8:∀t t',chk.run t=U ((),t')->t'=t)(hc:zH P gU f c)(h:(aa8 chk c dd vs).run s=U (sl,s')):
  s'.env=s.env/\∃t1:St,t1.env=s.env/\chk.run t1=U ((),t1)/\∀B g w,lU gU g.dC->HRel B g s.hp w->∀us,ju g vs us->(∀g1 nb,Le g g1->HRel B g1 t1.hp w->iz g1 nb->GB c.sig.args g1.dC w nb us)->ll P f us.toArray w λv w'=>∃g',Le g g'/\HRel B g' s'.hp w'/\gT g' sl v:=by
 obtain⟨x,t1,h1,h2⟩:=AM.dc h;obtain⟨⟨⟩,t1',a71,h2a⟩:=AM.dc h2;obtain rfl:=aF8 _ _ a71;have h2:=(YT _ _ _ _).symm.trans h2a
 cases hF:c.F x with
 |none=>simp_all
 |some y=>
  rw[hF]at h2;obtain⟨⟨⟩,t2,h3,h4⟩:=AM.dc h2;obtain⟨k1,s1⟩:=vr h1;obtain⟨e2,s2⟩:=CA h3;obtain⟨e3,s3⟩:=Ku h4;refine⟨(e3.trans e2).trans k1.1,_,k1.1,a71,λB g w hG R us hu hS=> ?_⟩;obtain⟨g1,l1,R1,c1⟩:=s1 B g w R;obtain⟨nb,hP,hO,hf,hL⟩:=c1 us hu
  have mM:∀b L,g1.dC b=U L->∃arr ty fr,w.heap[b]?=U (.cells arr ty fr)/\arr.toList=L:=λb L hb=>(R1.dC b L hb).2.2
  have Cv:∀b∈nb,g1.dC b=az/\b<w.heap.size:=λb hb=>by
   have hl:=hO.2 b hb;refine⟨?_,R1.iV b (by rw[hl];simp)⟩
   cases hi:g1.dC b with
   |none=>rfl
   |some L=>have:=(R1.dC b L hi).1;rw[hl]at this;cases this
  refine ll.mono ?_ (hc x y hF g1.dC w us nb (hG.mono l1.le.dC) mM hP hO.1 Cv (hS g1 nb l1.le R1 hO));rintro v w' ⟨gC,n1,n2,A,hR,hOut⟩;obtain⟨l2,R2,Sb,Xz⟩:=R1.after hO A;have Zo:rE t1'.hp (g1.after nb gC (n1++n2)) w c.sig.args vs us:=hL.mono l2 (λid gn cs hl=>⟨hl,rfl⟩) R1.yj;have qK:=bw.1 Sb.1
  have hd:∀y∈n1,y∉n2:=λy h1 h2=>qK.2.2 y h1 y h2 rfl
  obtain⟨g3,l3,k3,R3⟩:=s2 B _ w w' R2 us n2 Zo hOut ⟨qK.2.1,λy hy=>Sb.2 y (aZ _ hy)⟩ (λy hy=>Xz y (aZ _ hy));have bj5:z7 g3.dC w' c.sig.res y.1 v n1:=IT l3.dC hR;obtain⟨g4,l4,R4,hs⟩:=s3 B g3 w' R3 v n1 bj5 ⟨qK.1,λy hy=>by rw[(k3 y (hd y hy)).1];exact Sb.2 y (aX _ hy)⟩ (λy hy=>by rw[(k3 y (hd y hy)).2];exact Xz y (aX _ hy));exact⟨g4,((l1.le.trans l2).trans l3).trans l4,R4,hs⟩
def QD (hc:o9 P gU f c)(hn:z8 c.sig.args=az)(h:(call c dd vs).run s=U (sl,s')):
  s'.env=s.env/\∀B g w,lU gU g.dC->HRel B g s.hp w->∀us,ju g vs us->ll P f us.toArray w λv w'=>∃g',Le g g'/\HRel B g' s'.hp w'/\gT g' sl v:=by
 obtain⟨e,t1,_,_,hs⟩:=Ge (chk:= .ret ()) (λt t' k=>(de k).2) hc.slf h;simp_all[GB.none]
end Go.Abs
end

section
namespace Go.Abs
def tE.snoc (hk:e.key= .int .i64 p.1)(hv:Rc r τ p.2 [e.val]):∀{xs:List (Int×τ.den)}{es:List MapEntry},tE r τ xs es->tE r τ (xs++[p]) (es++[e])
 |[],es,h=>by
  subst h;exact⟨e,[],rfl,hk,hv,rfl⟩
 |_::_,_,⟨e',r',h1,h2,h3,h4⟩=>⟨e',r'++[e],by simp_all,h2,h3,tE.snoc hk hv h4⟩
def Eh:∀{xs:List (Int×τ.den)}{es:List MapEntry} i,tE r τ xs es->(xs.any λp=>I (p.1=n))=aq->bp0 (.int K) (.int .i64 n) es i=U az
 |[],es,i,h,_=>by
  subst h;rfl
 |p::xs,es,i,⟨e,r',h1,h2,h3,h4⟩,hn=>by
  subst h1;simp only[List.any_cons,Bool.or_eq_false_iff,ae]at hn
  have hb:(n==p.1)=false:=by simpa using λe:n=p.1=>hn.1 e.symm
  have ih:=Eh (K:=K) (i+1) h4 hn.2;simp[bp0,Instr.sameNow,h2,hb,ih]
def Gv (z):∀{xs:List (Int×τ.den)}{es:List MapEntry} i,tE r τ xs es->
  (bp0 (.int K) (.int .i64 n) es i=U az/\J9 z xs n=z)\/∃j v,bp0 (.int K) (.int .i64 n) es i=U (U (j,v))/\Rc r τ (J9 z xs n) [v]
 |[],es,i,h=>by
  subst h;exact .inl ⟨rfl,rfl⟩
 |p::xs,es,i,⟨e,r',h1,h2,h3,h4⟩=>by
  subst h1;unfold J9
  by_cases hb:n=p.1
  ·rw[ab hb];have P9:(n==p.1)=true:=(by simpa using hb);exact .inr ⟨i,e.val,by simp[bp0,Instr.sameNow,h2,P9],h3⟩
  ·rw[aa hb];have P9:(n==p.1)=false:=(by simpa using hb)
   rcases Gv (K:=K) z (i+1) h4 with⟨k1,k2⟩|⟨j,v,k1,k2⟩
   ·exact .inl ⟨by simp[bp0,Instr.sameNow,h2,P9,k1],k2⟩
   ·exact .inr ⟨j,v,by simp[bp0,Instr.sameNow,h2,P9,k1],k2⟩
def FB (h:mapKey E t=U e):∃k,E.P.underlying t=U (.map k e)/\E.P.underlying k=U (.int .i64):=by
 grind [mapKey]
def HRel.aj4 (R:HRel B g hp w){id:Nat}{τ:Ty}(h1:τ.one=av):
  ∃g',Le g g'/\HRel B g' ((id, .mp (g.top id) τ [])::hp) (World.more w (.map #[] 0))/\gT g' (.val (.one (.own id (g.top id)))) (.map (U w.heap.size)):=by
 have hle:=R.HK (id:=id) (b:=w.heap.size) (u:= .map (U w.heap.size)) (nb:=[]) (out:=[]) rfl;refine⟨_,hle,R.install rfl R.uC (zy w _) (λx hx=>by simp_all) rfl ?_, ?_⟩
 ·exact⟨h1,w.heap.size,#[],0,by simp[Gh.inst],by simp[Gh.inst],R.uC.iR,Ex w _,rfl⟩
 ·exact⟨by simp[Gh.inst],by simp[Gh.inst],rfl⟩
def D1 (h:(bif τ.one then(lr d).bind λg=>AM.ot d (.mp g τ []) (.ret (Slot.val (.one (.own d g))))else .fail).run s=U (sl,s')):
  s'.env=s.env/\∀{B:Base} {g:Gh} {w:World},HRel B g s.hp w->∃g',Le g g'/\HRel B g' s'.hp (World.more w (.map #[] 0))/\gT g' sl (.map (U w.heap.size)):=by
 obtain⟨h1,h⟩:=eB h;obtain⟨gen,t,h2,h3⟩:=AM.dc h;have qc:t=s:=(sx h2).1;subst qc;obtain⟨rfl,rfl⟩:=h3;refine⟨rfl,λ{B g w} R=> ?_⟩;obtain⟨rfl,_⟩:=nP R h2;exact R.aj4 h1
def KH (h:(iT E d (.makeMap t r)).run s=U (sl,s')):Yld E (.makeMap t r) s sl s':=by
 cases r with
 |none=>
  obtain⟨e,t1,h1,h2⟩:=AM.dc h;obtain⟨hm,rfl⟩:=fL h1;obtain⟨τ,t2,h3,h4⟩:=AM.dc h2;obtain rfl:=Bl h3;obtain⟨he,hb⟩:=D1 h4;refine⟨he,λo ho B g a w R V=> ?_⟩;obtain⟨g',l,R',hs⟩:=hb R;refine⟨_,_,g', ?_,l,R',hs⟩;unfold execOp;rw[ho];rfl
 |some x=>
  obtain⟨v,t0,k1,k2⟩:=AM.dc h;obtain⟨e0,r1⟩:=gi k1;obtain⟨n,t1,k3,k4⟩:=AM.dc k2;obtain⟨⟨k,e2⟩,e1⟩:=oN k3;obtain⟨e,t2,k5,k6⟩:=AM.dc k4;obtain⟨hm,e3⟩:=fL k5;obtain⟨τ,t3,k7,k8⟩:=AM.dc k6;have e4:=Bl k7;subst e4;subst e3;subst e1;subst e0;subst e2;obtain⟨he,hb⟩:=D1 k8;refine⟨he,λo ho B g a w R V=> ?_⟩;obtain⟨g',l,R',hs⟩:=hb R;have hx:a.eval x= .int k n:=lk (r1 V);obtain⟨kt,hu,_⟩:=FB hm;refine⟨_,_,g', ?_,l,R',hs⟩;unfold execOp;rw[ho]
  apply ic
  simp[Instr.makeMap,hx,run_underlying hu,Go.asInt,asIntOf,World.more,newObj,Sem.run,bu7]
def KU (h:w.heap[b]?=U o):Turned w {w with heap:=w.heap.setIfInBounds b o'} b:=
 ⟨λx hx=>(MapKept.heap_set h).2 x hx,by simp,by
  grind,rfl,rfl,rfl⟩
def MH (h:(iT E d (.insert t m k x)).run s=U (sl,s')):
  s'.env=s.env/\sl= .un/\∀o,o.op= .insert t m k x->∀B g a w,HRel B g s.hp w->j6 g s.env a->
  ∃w' g',(execOp a.eval o).run E.P w= .ok .skip w'/\Le g g'/\HRel B g' s'.hp w':=by
 obtain⟨vm,t1,a1,a2⟩:=AM.dc h;obtain⟨e1,r1⟩:=gi a1;obtain⟨cm,t2,a3,a4⟩:=AM.dc a2;obtain⟨e2,e3⟩:=yQ a3;obtain⟨vk,t3,a5,a6⟩:=AM.dc a4;obtain⟨e4,r2⟩:=gi a5;obtain⟨vx,t4,a7,a8⟩:=AM.dc a6;obtain⟨e5,r3⟩:=gi a7;subst e5;subst e4;subst e3;subst e1;subst e2;have h:=a8;split at h
 ·rename_i n τ y;unfold WU at h;split at h
  ·rename_i id gen;obtain⟨e,t5,b1,b2⟩:=AM.dc h;obtain⟨hm,e6⟩:=fL b1;subst e6;have h:=b2;simp only[AM.run]at h;split at h
   ·rename_i g0 τ' xs heq;obtain⟨hb,k0⟩:=eB h;simp only[aA]at hb;have Ho:=beq_eq hb.1;subst Ho
    by_cases hτ:τ=τ'
    ·subst hτ;simp at k0;obtain⟨rfl,rfl⟩:=k0;refine⟨rfl,rfl,λo ho B g a w R V=> ?_⟩;obtain⟨h1,b,es,Zv,k1,k2,k3,k4,k5⟩:=R.iW _ _ heq
     have aP3:a.eval m= .map (U b):=by
      obtain⟨_,e1,_⟩:eC g (.own id g0) (a.eval m):=r1 V;simp_all
     have aO0:a.eval k= .int .i64 n:=lk (r2 V);obtain⟨_,hx⟩:eC g (.v τ y) (a.eval x):=r3 V;obtain⟨kt,hu,aI7⟩:=FB hm;have aM4:bp0 (.int .i64) (.int .i64 n) es.toList 0=U none:=Eh 0 k5 (by grind);refine⟨_,g.take id [], ?_,Le.take g id [],R.write heq rfl k2 k3 (KU (o':= .map (es.push {key:= .int .i64 n,val:=a.eval x,born:=Zv}) (Zv+1)) k4) (λx hx=>by simp_all) ?_⟩
     ·unfold execOp;rw[ho];simp only[aP3,aO0,Instr.mapUpdate,bL,run_underlying hu,bh,MapKept.run_getObj_map k4];rw[show 10000=9999+1 from rfl,MapKept.run_checkKey aI7 (show MapKept.IsKey (.int .i64) (.int .i64 n)from rfl)];simp only[bh,MapKept.run_findKey aI7 aM4,MapKept.run_setObj_map _ k4];rfl
     ·refine⟨h1,b,es.push {key:= .int .i64 n,val:=a.eval x,born:=Zv},Zv+1,k1, ?_,k3,(MapKept.heap_set k4).1, ?_⟩
      ·simpa[Gh.take]using k2
      ·rw[Array.toList_push];exact tE.snoc rfl hx k5
    ·rw[dif_neg hτ]at k0;cases k0
   ·cases h
  ·cases h
 ·cases h
def ME (h:(iT E d (.lookup t m k aq)).run s=U (sl,s')):Yld E (.lookup t m k aq) s sl s':=by
 obtain⟨vm,t1,a1,a2⟩:=AM.dc h;obtain⟨e1,r1⟩:=gi a1;obtain⟨cm,t2,a3,a4⟩:=AM.dc a2;obtain⟨e2,e3⟩:=yQ a3;obtain⟨vk,t3,a5,a6⟩:=AM.dc a4;obtain⟨e4,r2⟩:=gi a5;subst e4;subst e3;subst e1;subst e2;have h:=a6;split at h
 ·rename_i n;unfold WJ at h;split at h
  ·rename_i id gen;obtain⟨e,t5,b1,b2⟩:=AM.dc h;obtain⟨hm,e6⟩:=fL b1;subst e6;have h:=b2;split at h
   ·rename_i τ0 z hz;simp only[AM.run]at h;split at h
    ·rename_i g0 τ' xs heq;obtain⟨hb,k0⟩:=eB h;have Ho:=beq_eq hb;subst Ho
     by_cases hτ:τ0=τ'
     ·subst hτ;rw[dif_pos rfl]at k0;obtain⟨rfl,rfl⟩:=de k0
      refine Yld.still λo ho B g a w R V=> ?_
      obtain⟨h1,b,es,Zv,k1,k2,k3,k4,k5⟩:=R.iW _ _ heq
      have aP3:a.eval m= .map (U b):=by
       obtain⟨_,e1,_⟩:eC g (.own id g0) (a.eval m):=r1 V;simp_all
      have aO0:a.eval k= .int .i64 n:=lk (r2 V);obtain⟨kt,hu,aI7⟩:=FB hm;unfold S6 at hz;simp only[bn]at hz;obtain⟨zv,⟨i,hi,a42⟩,hz⟩:=hz;obtain⟨_,aq3⟩:eC g (.v τ0 z) zv:=DZ hz g
      rcases Gv (K:= .i64) (n:=n) z 0 k5 with⟨f1,f2⟩|⟨j,v,f1,f2⟩
      ·refine⟨zv, ?_,h1, ?_⟩
       ·unfold execOp;rw[ho]
        apply ic
        simp only[aP3,aO0,Instr.lookup,bL,run_underlying hu,bh,MapKept.run_getObj_map k4,bn9];rw[show 10000=9999+1 from rfl,MapKept.run_checkKey aI7 (show MapKept.IsKey (.int .i64) (.int .i64 n)from rfl)];simp_all[bh,MapKept.run_findKey,zeroValue,typeInfo]
       simp_all
      ·refine⟨v, ?_,h1,f2⟩;unfold execOp;rw[ho]
       apply ic
       simp only[aP3,aO0,Instr.lookup,bL,run_underlying hu,bh,MapKept.run_getObj_map k4,bn9];rw[show 10000=9999+1 from rfl,MapKept.run_checkKey aI7 (show MapKept.IsKey (.int .i64) (.int .i64 n)from rfl)];simp_all[bh,MapKept.run_findKey]
     ·rw[dif_neg hτ]at k0;cases k0
    ·cases h
   ·cases h
  ·cases h
 ·cases h
end Go.Abs
end

section
namespace Go.Abs
structure EnvOk (E:Env):Prop where
 calls:∀f c,E.callee f=U c->zH E.P E.gU f c
def am6 (E:Env)(B:Base):Prop:=∀f ts,E.slf=U (f,ts)->ts≠[]->
 ∃b ty,B.arg (ts.getLastD 0)= .pointer (U ⟨b,0,az⟩)/\B.w.heap[b]?=U (.cells #[.func (.func f) #[] (ts.map B.arg).toArray] ty (0,0))/\B.gV b=az/\B.dC b=az
def BB (B:Base)(g:Gh):Prop:=0<g.top pv/\0<g.top (pv+1)/\g.cv pv 0= .pointer (U ⟨B.f0.1,0,az⟩)/\g.cv (pv+1) 0=B.f0.2
theorem BB.mono (h:Le g g')(k:BB B g):BB B g':=⟨aV k.1 (h.top _),aV k.2.1 (h.top _),(h.cv _ _ k.1).trans k.2.2.1,(h.cv _ _ k.2.1).trans k.2.2.2⟩
structure ActRel (E:Env)(B:Base)(g:Gh)(env:List (Nat×Slot))(a:Act):Prop where
 env:j6 g env a
 size:a.tmps.size=E.nt
 defers:a.defers=[]
 kept:∀t∈E.qJ,a.tmps.getD t undef=B.arg t
 slf:am6 E B
 ini:E.ini=av->Le B.g0 g
 fst:E.fst=av->BB B g
theorem ActRel.mono (h:Le g g'){env:List (Nat×Slot)}{a:Act}(H:ActRel E B g env a):ActRel E B g' env a:=⟨H.env.mono h,H.size,H.defers,H.kept,H.slf,λe=>(H.ini e).trans h,λe=>(H.fst e).mono h⟩
def am5 (E:Env)(op:Op)(s:St)(sl:Slot)(s':St):Prop:=
 s'.env=s.env/\∀(o:Oper),o.op=op->∀B g a w,lU E.gU g.dC->HRel B g s.hp w->ActRel E B g s.env a->∀next Q,
  (∀v w' g',Le g g'->HRel B g' s'.hp w'->gT g' sl v->next (a.put o.dst v) w')->o.wp E.P a w next Q
def Yld.ok (h:Yld E op s sl s'):am5 E op s sl s':=by
 refine⟨h.1,λo ho B g a w _ R V next Q hn=> ?_⟩;obtain⟨v,w',g',e,l,R',hs⟩:=h.2 o ho B g a w R V.env;unfold Oper.wp;rw[e];exact hn v w' g' l R' hs
def Bg:∀{nv:List (Nat×Nat)}{us:List Value},xg g nv us->ju g (nv.map λp=> .one (.ptr p.1 p.2 0)) us
 |[],_,h=>h
 |p::r,us,⟨b,o,v,e,h1,h2,h3⟩=>⟨_,_,e,⟨h1,b,o,h2,rfl⟩,Bg h3⟩
def ju.append:∀{a b:List Val}{us vs:List Value},ju g a us->ju g b vs->ju g (a++b) (us++vs)
 |[],_,_,_,h,k=>by have h:_=_:=h;simp_all
 |_::_,_,_,_,⟨u,r,e,hu,hr⟩,k=>by subst e;exact⟨u,_,rfl,hu,hr.append k⟩
def xg.eq:∀{nv:List (Nat×Nat)}{us vs:List Value},xg g nv us->xg g nv vs->us=vs
 |[],_,_,h,k=>by have h:_=_:=h;have k:_=_:=k;grind
 |_::_,_,_,⟨b,o,v,e,_,h2,h3⟩,⟨b',o',v',e',_,as6,ay6⟩=>by
  rw[h2]at as6;rw[e,e',as6,xg.eq h3 ay6]
def xg.last:∀{nv:List (Nat×Nat)}{us:List Value}{p:Nat×Nat},xg g nv us->nv.getLast?=U p->us.getLast?=U (g.cv p.1 p.2)
 |[],_,_,_,h=>by cases h
 |[q],_,p,⟨b,o,v,e,h1,h2,h3⟩,h=>by
  have h3:v=[]:=h3;simp_all
 |q::q'::r,_,p,⟨b,o,v,e,h1,h2,h3⟩,h=>by
  have ih:=xg.last h3 (p:=p) (by simpa using h);obtain⟨b',o',v',e',_⟩:=h3;subst e;subst e';simpa using ih
def tT:∀{ts:List Nat}{cs:List (Nat×Nat)}{s s':St},(Ce ts).run s=U (cs,s')->s'=s/\∀g a,j6 g s.env a->xg g cs (ts.map λt=>a.tmps.getD t undef)
 |[],cs,s,s',h=>by
  obtain⟨rfl,rfl⟩:=de h;exact⟨rfl,λg a V=>rfl⟩
 |t::ts,cs,s,s',h=>by
  simp only[Ce,AM.run]at h;split at h
  ·rename_i x hx;split at h
   ·rename_i id gen;obtain⟨c2,t2,h1,h2⟩:=AM.dc h;obtain⟨rfl,rfl⟩:=de h2;obtain⟨rfl,k⟩:=tT h1;refine⟨rfl,λg a V=> ?_⟩;have hc:eC g (.ptr id gen 0) (a.tmps.getD t undef):=V t _ hx;obtain⟨h1,b,o,h2,h3⟩:=hc;exact⟨b,o,_,by simp_all,h1,h2,k g a V⟩
   ·cases h
  simp_all
def Su {w:World}(h:w.heap[b]?=U o):b<w.heap.size:=(Array.getElem?_eq_some_iff.1 h).1
def ju.length:∀{vs:List Val}{us:List Value},ju g vs us->vs.length=us.length
 |[],_,h=>by have h:_=_:=h;simp_all
 |_::_,_,⟨_,_,e,_,hr⟩=>by rw[e,aw,aw,ju.length hr]
theorem yU (h:kept E ts=av):ts≠[]/\∀t∈ts,t∈E.qJ:=by
 have h:(!ts.isEmpty&&ts.all λt=>E.qJ.any (ax t))=true:=h;simp_all
def O6 (V:ActRel E B g env a){ts:List Nat}(h:kept E ts=av):(ts.map λt=>a.tmps.getD t undef)=ts.map B.arg:=
 List.map_congr_left λt ht=>V.kept t ((yU h).2 t ht)
def xG:∀{a b:List (Nat×Nat)},yV a b=av->a=b
 |[],[],_=>rfl
 |x::a,y::b,h=>by
  simp only[yV,aA]at h;rw[xG h.2]
  congr 1
  exact Prod.ext (beq_eq h.1.1) (beq_eq h.1.2)
 |[],_::_,h=>by cases h
 |_::_,[],h=>by cases h
def TK (t t') (h:(JY E f nv).run t=U ((),t')):t'=t:=by
 unfold JY at h;split at h
 ·obtain⟨_,h⟩:=eB h;obtain⟨cs,t2,h1,h2⟩:=AM.dc h;obtain⟨rfl,_⟩:=tT h1;obtain⟨_,h2⟩:=eB h2
  grind [de]
 ·unfold W9 at h;split at h
  ·simp only[AM.run]at h;split at h
   ·obtain⟨_,h⟩:=eB h
    grind [de]
   ·cases h
  ·cases h
theorem aj0 (h:(JY E f nv).run t=U ((),t)){B:Base}{g g1:Gh}{env:List (Nat×Slot)}{a:Act}{w:World}(V:ActRel E B g env a)(he:t.env=env)(l:Le g g1)(R1:HRel B g1 t.hp w){nb:List Nat}(hO:iz g1 nb)
  {as:List VSp} {args vs:List Value} (hs:z8 as=U (f,args.length)) (hc:xg g nv vs):GB as g1.dC w nb (args++vs):=by
 intro f' m hm;rw[hs]at hm
 injection hm with hm;injection hm with bb8 bm8
 subst bb8;subst bm8;rw[bn0];have FZ:=hc.mono l
 have aJ5:∀{x:Value},vs.getLast?=U x->(args++vs).getLast?=U x:=λ{x} hx=>by
  simp_all
 unfold JY at h;split at h
 ·rename_i f' ts hE;obtain⟨hb,h0⟩:=eB h;simp only[aA]at hb;obtain⟨cs,t2,h1,h2⟩:=AM.dc h0;obtain⟨e2,k⟩:=tT h1;subst e2;obtain⟨h3,_⟩:=eB h2;obtain rfl:=xG h3;subst he;have k2:=k g a V.env;rw[O6 V hb.2]at k2;have hv:vs=ts.map B.arg:=hc.eq k2;obtain⟨b,ty,q1,q2,q3,q4⟩:=V.slf _ ts hE (yU hb.2).1;obtain⟨f1,f2,f3⟩:=R1.frame b (Su q2) q3 q4;refine⟨b,ty, ?_,by simp_all,λhb=> ?_,f2⟩
  ·grind [List.getLast?_map,yU,List.getLast?_eq_some_getLast]
  ·have:=hO.2 b hb;simp_all
 ·unfold W9 at h;split at h
  ·rename_i p hp;simp only[AM.run]at h;split at h
   ·rename_i g0 bt f2 cs heq;obtain⟨hb,_⟩:=eB h;simp only[aA]at hb;obtain rfl:=beq_eq hb.1.1;obtain rfl:=beq_eq hb.1.2;obtain rfl:=xG hb.2;obtain⟨b,o,arr,ty,L,k1,k2,k3,k4,k5,k6,k7,k8,k9⟩:=R1.iW _ _ heq;subst k7;obtain⟨u,r,e,hu,hr⟩:=k4;subst hr;subst e;obtain⟨aO2,e,hv⟩:=hu;have bc3:vs=aO2:=FZ.eq hv;subst bc3;subst e;have hlen:(g1.outer p.1).length=1:=k8
    have EO:arr=#[.func (.func f2) #[] vs.toArray]:=by
     apply Array.ext'
     rw[k5,List.take_zero,cG,cn (by simp[hlen]),aQ]
    refine⟨b,ty,aJ5 (by rw[xg.last FZ hp];exact congrArg U k1),by rw[k3,EO],λhb=> ?_, ?_⟩
    ·have:=hO.2 b hb;rw[k2.1]at this;cases this
    ·cases hi:g1.dC b with
     |none=>rfl
     |some L=>have:=(R1.dC b L hi).1;rw[k2.1]at this;cases this
   ·cases h
  ·cases h
theorem Mg (hE:EnvOk E){c:Call}{f:Operand}(hc:c.callee= .value f){d:Nat}{s s':St}{sl:Slot}(h:(iT E d (.call c)).run s=U (sl,s')):am5 E (.call c) s sl s':=by
 unfold iT at h;simp[hc]at h;obtain⟨vs,t1,h1,h2⟩:=AM.dc h;obtain⟨v,t2,h3,h4⟩:=AM.dc h2;obtain⟨cl,t3,h5,h6⟩:=AM.dc h4;obtain⟨rfl,r1⟩:=qO h1;obtain⟨rfl,r2⟩:=gi h3;obtain⟨rfl,rfl⟩:=yQ h5;unfold WH at h6;split at h6
 ·rename_i aP9 nv
  cases ES:E.callee aP9 with
  |none=>rw[ES]at h6;cases h6
  |some a61=>
   rw[ES]at h6;simp at h6
   have key:s'.env=t3.env/\∀B g a w,lU E.gU g.dC->HRel B g t3.hp w->ActRel E B g t3.env a->∀us,xg g nv us->ll E.P aP9 (c.args.toList.map a.eval++us).toArray w λv w'=>∃g',Le g g'/\HRel B g' s'.hp w'/\gT g' sl v:=by
    split at h6
    ·rename_i a54;obtain⟨e1,hs⟩:=QD ((hE.calls aP9 a61 ES).plain a54) a54 h6;exact⟨e1,λB g a w hG R V us PX=>hs B g w hG R _ ((r1 V.env).append (Bg PX))⟩
    ·rename_i sf aO3;obtain⟨hb,h6⟩:=eB h6;simp only[aA]at hb;obtain rfl:=beq_eq hb.1;obtain⟨e1,t1,e2,aF8,hs⟩:=Ge (TK) (hE.calls _ a61 ES) h6;refine⟨e1,λB g a w hG R V us PX=>hs B g w hG R _ ((r1 V.env).append (Bg PX)) λg1 nb l R1 hO=> ?_⟩
     have hlen:sf.2=(c.args.toList.map a.eval).length:=by
      rw[beq_eq hb.2];exact(ju.length (r1 V.env))
     grind [aj0]
   obtain⟨e1,hs⟩:=key;refine⟨e1,λo ho B g a w hG R V next Q hn=> ?_⟩;obtain⟨us,eu,PX⟩:=r2 V.env;have hI:=hs B g a w hG R V us PX;unfold Oper.wp
   have aH3:(execOp a.eval o).run E.P w=(callFunc aP9 (c.args.toList.map a.eval++us).toArray).run E.P w:=by
    unfold execOp;have ea:(List.map a.eval c.args.toList++us).toArray=c.args.map a.eval++us.toArray:=by
     simp
    grind [resolve,Deferred.ofValue,invoke]
   rw[aH3];unfold ll at hI;split at hI
   ·rename_i f' a' w1 F6;rw[F6]
    refine Calls.mono hI λe w' ⟨v,ee,hv⟩=> ?_
    grind
   ·rename_i v w1 F6;rw[F6];obtain⟨g',l,R',HO⟩:=hI;exact hn v w1 g' l R' HO
   simp_all
 ·cases h6
def Ea (hE:EnvOk E){op:Op}{d:Nat}{s s':St}{sl:Slot}(h:(iT E d op).run s=U (sl,s')):am5 E op s sl s':=by
 cases op with
 |move x=>exact(IP h).1.ok
 |assign x=>exact(IP h).2.ok
 |pick c a b=>exact(Q1 h).ok
 |alloc t=>exact(Od h).ok
 |box t x=>exact(T8 h).ok
 |build t ps=>exact(Oy h).ok
 |buildSlice t n ps=>exact(Fl h).ok
 |load t x=>
  have h:(match MQ E t x with
   |some p=>(Ce p.2).bind λcs=>AM.ret (Slot.val (Val.one (Cell.fn p.1 cs)))
   |none=>Rx E d t x).run s=U (sl,s'):=h
  split at h
  ·rename_i p hp;obtain⟨cs,t2,h1,h2⟩:=AM.dc h;obtain⟨e1,k⟩:=tT h1;obtain⟨rfl,rfl⟩:=de h2;subst e1;refine⟨rfl,λo ho B g a w hG R V next Q hn=> ?_⟩;unfold MQ at hp;split at hp
   ·rename_i f ts k' hE
    cases hc:(ax k' (ts.getLastD 0)&&kept E ts&&Wt (E.isAgg t))with
    |false=>grind
    |true=>
     rw[hc]at hp
     injection hp with hp
     subst hp;simp only[aA]at hc;obtain rfl:=beq_eq hc.1.1
     have R9:E.isAgg t=U false:=by
      have:=hc.2
      revert this
      cases E.isAgg t with
      |none=>exact λh=>by cases h
      |some b=>cases b<;>intro h<;>first|rfl|cases h
     obtain⟨b,ty,q1,q2,q3,q4⟩:=V.slf _ ts hE (yU hc.1.2).1;obtain⟨f1,f2,f3⟩:=R.frame b (Su q2) q3 q4;have mU:=(yU hc.1.2).1
     have ZU:ts.getLastD 0∈ts:=by simp_all[List.getLastD_eq_getLast?,List.getLast?_eq_some_getLast,List.getLast_mem]
     have ha:a.tmps.getD (ts.getLastD 0) undef= .pointer (U ⟨b,0,az⟩):=(V.kept _ ((yU hc.1.2).2 _ ZU)).trans q1;have k2:=k g a V.env;rw[O6 V hc.1.2]at k2
     have p9:w.cell? ⟨b,0,az⟩=U (.func (.func f) #[] (ts.map B.arg).toArray):=by
      simp_all[bs7]
     have F6:(execOp a.eval o).run E.P w= .ok (.value (.func (.func f) #[] (ts.map B.arg).toArray)) w:=by
      unfold execOp;rw[ho]
      apply ic
      show(bu1 t (a.tmps.getD (ts.getLastD 0) undef)).run E.P w=_;rw[ha];simp only[bu1,bq7,loadVar,bL,bn9,bh,yP R9,Sem.run_ite];simp_all
     unfold Oper.wp;rw[F6];exact hn _ w g (Le.refl g) R ⟨_,rfl,k2⟩
   simp_all
  obtain⟨e,hs⟩:=QA h;refine⟨e,λo ho B g a w hG R V next Q hn=> ?_⟩;obtain⟨v,w',g',e',l,R',HO⟩:=hs o ho B g a w hG.one R V.env;unfold Oper.wp;rw[e'];exact hn v w' g' l R' HO
 |store t x y=>
  obtain⟨e,rfl,hs⟩:=Oc h;refine⟨e,λo ho B g a w hG R V next Q hn=> ?_⟩;obtain⟨w',g',e',l,R'⟩:=hs o ho B g a w R V.env;unfold Oper.wp;rw[e'];exact hn undef w' g' l R' trivial
 |nilCheck x=>exact(HV h).ok
 |binOp op t x y ty=>exact(T4 h).ok
 |unOp op t x=>
  cases op with
  |not=>exact(TF h).ok
  |neg=>exact(TX h).ok
  |_=>cases h
 |convert a b x=>exact(KF h).ok
 |makeMap t r=>exact(KH h).ok
 |insert t m k x=>
  obtain⟨e,rfl,hs⟩:=MH h;refine⟨e,λo ho B g a w hG R V next Q hn=> ?_⟩;obtain⟨w',g',e',l,R'⟩:=hs o ho B g a w R V.env;unfold Oper.wp;rw[e'];exact hn undef w' g' l R' trivial
 |lookup t m k ok=>
  cases ok with
  |false=>exact(ME h).ok
  |true=>cases h
 |makeInterface t x=>exact(Cl h).ok
 |makeFunc f a b=>exact(Ia h).ok
 |makeSlice t l c=>exact(GQ h).ok
 |slice t x lo hi mx=>
  cases mx with
  |none=>exact(Of h).ok
  |some m=>cases h
 |fieldAddr t x i=>exact(GM h).ok
 |field t x i=>exact(Oq h).ok
 |indexAddr t x i=>exact(GL h).ok
 |index t x i=>exact(Ol h).ok
 |extract t i=>exact(KD h).ok
 |call c=>
  cases hc:c.callee with
  |value f=>grind [Mg]
  |builtin b=>
   cases b with
   |len=>exact(TO hc h).ok
   |max=>exact(TB hc h).ok
   |append=>exact(Mk hc h).ok
   |_=>unfold iT at h;simp[hc]at h;cases h
  |invoke r m=>unfold iT at h;simp[hc]at h;cases h
 |_=>cases h
def Vb (a:Act){d t:Nat} (v) (e:d≠t):(a.put (U d) v).tmps.getD t undef=a.tmps.getD t undef:=by
 simp[Act.put,bZ,Array.getElem?_setIfInBounds_ne e]
def Sf {E:Env}{d:Nat}(h:(!E.qJ.any (ax d))=av):∀t∈E.qJ,d≠t:=by
 simp_all
def Sx (H:ActRel E B g env a){d:Nat}{sl:Slot}{v:Value}(hd:d<E.nt)(hk:∀t∈E.qJ,d≠t)(hs:gT g sl v):ActRel E B g ((d,sl)::env) (a.put (U d) v):=by
 refine⟨λt s ht=> ?_,by simpa[Act.put]using H.size,H.defers,λt ht=>by rw[Vb a v (hk t ht)];exact H.kept t ht,H.slf,H.ini,H.fst⟩
 by_cases e:d=t
 ·subst e;rw[dI]at ht
  have:(a.put (U d) v).tmps.getD d undef=v:=by
   have mL:d<a.tmps.size:=by rw[H.size];omega
   simp[Act.put,Array.getD,mL]
  simp_all
 ·rw[dA _ _ e]at ht
  have:(a.put (U d) v).tmps.getD t undef=a.tmps.getD t undef:=by
   simp[Act.put,bZ,Array.getElem?_setIfInBounds_ne e]
  rw[this];exact H.env t s ht
def ActRel.NA {env aJ1:List (Nat×Slot)}(H:ActRel E B g env a)(e:aJ1=env):ActRel E B g aJ1 a:=by simp_all
def ag6 (E:Env)(o:Oper)(s s':St):Prop:=
 ∀B g a w,lU E.gU g.dC->HRel B g s.hp w->ActRel E B g s.env a->∀next Q,
  (∀a' w' g',Le g g'->HRel B g' s'.hp w'->ActRel E B g' s'.env a'->next a' w')->o.wp E.P a w next Q
def I5 (hE:EnvOk E){n:Nat}{o:Oper}{s s':St}(h:(step E n o).run s=U ((),s')):ag6 E o s s':=by
 intro B g a w hG R V next Q hn;unfold step at h;split at h
 ·rename_i d hd;obtain⟨hb,h1⟩:=eB h;obtain⟨sl,t,h2,h3⟩:=AM.dc h1;obtain⟨_,rfl⟩:=h3;obtain⟨e,hs⟩:=Ea hE h2
  refine hs o rfl B g a w hG R V next Q λv w' g' l R' HO=>hn _ w' g' l R' ?_
  rw[hd];simp only[aA]at hb;refine Sx ?_ (aR hb.1) (Sf hb.2) HO;exact(V.mono l).NA e
 ·rename_i hd;obtain⟨sl,t,h2,h3⟩:=AM.dc h;obtain⟨_,rfl⟩:=de h3;obtain⟨e,hs⟩:=Ea hE h2
  refine hs o rfl B g a w hG R V next Q λv w' g' l R' HO=>hn _ w' g' l R' ?_
  rw[hd];exact(V.mono l).NA e
end Go.Abs
end

section
namespace Go.Abs
def St.Eqv (s t:St):Prop:=(∀i,look s.env i=look t.env i)/\∀i,look s.hp i=look t.hp i
theorem St.Eqv.refl (s):St.Eqv s s:=⟨λ_=>rfl,λ_=>rfl⟩
theorem St.Eqv.symm (h:St.Eqv s t):St.Eqv t s:=⟨λi=>(h.1 i).symm,λi=>(h.2 i).symm⟩
theorem St.Eqv.trans (h:St.Eqv s t)(k:St.Eqv t u):St.Eqv s u:=⟨λi=>(h.1 i).trans (k.1 i),λi=>(h.2 i).trans (k.2 i)⟩
def ActRel.congr (h:∀i,look e' i=look e i)(H:ActRel E B g e a):ActRel E B g e' a:=⟨λt s hs=>H.env t s (by simp_all),H.size,H.defers,H.kept,H.slf,H.ini,H.fst⟩
theorem Sv (h:(skip E o).run s=U ((),s')):s'.hp=s.hp/\∀B g a,ActRel E B g s.env a->ActRel E B g s'.env (a.put o.dst undef):=by
 unfold skip at h;split at h
 ·rename_i d ar9;obtain⟨hb,h1⟩:=eB h;obtain⟨_,rfl⟩:=h1;simp only[aA]at hb;exact⟨rfl,λB g a V=>by rw[ar9];exact Sx V (aR hb.1) (Sf hb.2) rfl⟩
 ·rename_i ar9;obtain⟨_,rfl⟩:=de h;exact⟨rfl,λB g a V=>by rw[ar9];exact V⟩
def Pv:∀ops j,Tl ops j=ops[j]?
 |[],_=>by rfl
 |_::_,0=>rfl
 |_::r,j+1=>by simp[Tl,Pv r j]
def LM (ops) (j):zM ops j=(ops.toArray[j]?).bind (·.dst):=by simp[zM,Pv]
def Gw (hE:EnvOk E){ops:List Oper}{n i:Nat}{o:Oper}{s s':St}(ho:ops[i]?=U o)(h:(stepG E ops n o).run s=U ((),s')){B:Base}{g:Gh}{a:Act}{w:World}(hG:lU E.gU g.dC)(R:HRel B g s.hp w)(V:ActRel E B g s.env a)
  {K:Act->World->Prop} {Q:Exit->Act->World->Prop} (hK:∀a' w' g',Le g g'->HRel B g' s'.hp w'->ActRel E B g' s'.env a'->K a' w'):wpOp E.P ops.toArray Q i K a w:=by
 unfold wpOp
 have X6:ops.toArray[i]?=U o:=by simp_all
 rw[X6];simp;unfold stepG at h;split at h
 ·rename_i hg
  have hw:bp1 o (yielded ops.toArray a.tmps)=true:=by grind [bp1]
  rw[aj hw];exact .inl (I5 hE h B g a w hG R V K Q hK)
 ·rename_i j want hg;obtain⟨d,t,h1,h2⟩:=AM.dc h;obtain⟨hd,rfl⟩:=fL h1;simp only[AM.run]at h2;split at h2
  ·rename_i sl HO;split at h2
   ·rename_i gv;have hv:a.tmps.getD d undef= .bool gv:=qF (V.env d _ HO)
    have hy:yielded ops.toArray a.tmps j=U gv:=by
     unfold yielded;rw[<-LM,hd]
     have:a.tmps[d]?=U (.bool gv):=by
      rw[bZ]at hv
      grind [undef]
     simp_all
    rcases Q4 h2 with⟨hb,h3⟩|⟨hb,h3⟩
    ·have hw:bp1 o (yielded ops.toArray a.tmps)=true:=by
      simp_all[bp1]
     rw[aj hw];exact .inl (I5 hE h3 B g a w hG R V K Q hK)
    ·have hw:bp1 o (yielded ops.toArray a.tmps)≠true:=by
      simp_all[bp1]
     grind [Sv,Le.refl]
   ·have hv:a.tmps.getD d undef=undef:=V.env d _ HO
    have hy:yielded ops.toArray a.tmps j=none:=by
     unfold yielded;rw[<-LM,hd];rw[bZ]at hv
     grind [undef]
    have hw:bp1 o (yielded ops.toArray a.tmps)≠true:=by
     simp_all[bp1]
    grind [Sv,Le.refl]
   ·cases h2
  simp_all
def IJ (hg:o.guard=U (j,want))(hd:zM ops j=U d)(hs:look s.env d=U (.val (.one (.v .bool gv)))):
  (stepG E ops n o).run s=(bif gv==want then step E (alt n) o else skip E o).run s:=by
 grind [stepG,mj,AM.run_bind,AM.run]
theorem VZ (hg:o.guard=U (j,want))(hd:zM ops j=U d)(hs:look s.env d=U .sk):
  (stepG E ops n o).run s=(skip E o).run s:=by
 simp_all[stepG,mj,AM.run_bind,AM.run,al]
def Jd (h:brk b t e=U r):(b=av/\t=U r)\/(b=aq/\e=U r):=by
 rw[iJ]at h
 grind
def qT {m:AM α}(h:m.exec s K=U r):∃a t,m.run s=U (a,t)/\K a t=U r:=by
 rw[AM.VI]at h
 cases hm:m.run s with
 |none=>simp_all
 |some p=>grind
def Hr (h:look s.env d=U x):St.Eqv {s with env:=(d,x)::s.env} s:=by
 refine⟨λi=> ?_,λ_=>rfl⟩
 grind [look,dI,dA]
def MG (h:vF E ops (o::r) n s K=U x):
  ∃s0 t,St.Eqv s0 s/\(stepG E ops n o).run s0=U ((),t)/\vF E ops r (n+1) t K=U x:=by
 unfold vF at h;split at h
 ·rename_i hg;obtain⟨⟨⟩,t,h1,h2⟩:=qT h
  grind [St.Eqv.refl,stepG]
 ·rename_i j want hg;split at h
  ·rename_i d hd;split at h
   ·rename_i gv hs
    rcases Jd h with⟨rfl,h'⟩|⟨rfl,h'⟩
    ·obtain⟨⟨⟩,t,h1,h2⟩:=qT h';refine⟨_,t,Hr hs, ?_,h2⟩;rw[IJ hg hd (dI _ _ _)];cases want<;>exact h1
    ·obtain⟨⟨⟩,t,h1,h2⟩:=qT h';refine⟨_,t,Hr hs, ?_,h2⟩;rw[IJ hg hd (dI _ _ _)];cases want<;>exact h1
   ·rename_i hs;obtain⟨⟨⟩,t,h1,h2⟩:=qT h;exact⟨s,t,St.Eqv.refl s,by grind [VZ],h2⟩
   simp_all
  simp_all
def KOk {ρ:Type}(E:Env)(B:Base)(K:St->Option ρ)(x:ρ)(Q:Act->World->Prop):Prop:=
 ∀s g a w,K s=U x->lU E.gU g.dC->HRel B g s.hp w->ActRel E B g s.env a->Q a w
def CC {E:Env}(hE:EnvOk E){B:Base}{ops:List Oper}{K:St->Option ρ}{x:ρ}{Q:Exit->Act->World->Prop}(hK:KOk E B K x (Q .normal)):
  ∀r n s,ops.drop n=r->vF E ops r n s K=U x->∀g a w,lU E.gU g.dC->HRel B g s.hp w->ActRel E B g s.env a->wpOps E.P ops.toArray Q (bp6 n r.length) a w
 |[],n,s,hr,h,g,a,w,hG,R,V=>hK s g a w h hG R V
 |o::r,n,s,hr,h,g,a,w,hG,R,V=>by
  obtain⟨s0,t,e,h1,h2⟩:=MG h
  have ho:ops[n]?=U o:=by
   have:=congrArg (·[0]?) hr
   grind
  have UO:ops.drop (n+1)=r:=by
   rw[<-bX,hr];rfl
  exact Gw hE ho h1 hG (R.congr e.2) (V.congr e.1) λa' w' g' l R' V'=>CC hE hK r (n+1) t UO h2 g' a' w' (hG.mono l.dC) R' V'
end Go.Abs
end

section
namespace Go.Abs
def AM.ou:AM α->St->List Nat->List Nat->Option (α×St×List Nat×List Nat)
 | .ret a,s,r,w=>U (a,s,r,w)
 | .br b t e,s,r,w=>bif b then t.ou s r w else e.ou s r w
 | .fail,_,_,_=>az
 | .zR t k,s,r,w=>match look s.env t with
  |some x=>(k x).ou s ((2*t)::r) w
  |none=>az
 | .ET t x k,s,r,w=>k.ou {s with env:=(t,x)::s.env} r ((2*t)::w)
 | .nr i k,s,r,w=>(k (look s.hp i)).ou s ((2*i+1)::r) w
 | .ot i o k,s,r,w=>k.ou {s with hp:=(i,o)::s.hp} r ((2*i+1)::w)
 | .opt _ x k,s,r,w=>match x with
  |some d=>(k d).ou s r w
  |none=>az
theorem AM.Qp (m:AM α):∀s r w (K:α->St->List Nat->List Nat->Option ρ),m.sY s r w K=(m.ou s r w).bind λp=>K p.1 p.2.1 p.2.2.1 p.2.2.2:=by
 induction m with
 |ret a=>intro s r w K;rfl
 |br b t e ab5 ac8=>intro s r w K;cases b<;>simp[sY,ou,ab5,ac8,iJ]
 |fail=>intro s r w K;rfl
 |zR t k ih=>intro s r w K;simp[sY,ou];grind
 |ET t x k ih=>intro s r w K;simp[sY,ou,ih]
 |nr i k ih=>intro s r w K;simp[sY,ou,ih]
 |ot i o k ih=>intro s r w K;simp[sY,ou,ih]
 |opt c x k ih=>intro s r w K;cases x<;>simp[sY,ou,ih]
theorem AM.Vj (m:AM α):∀{s s':St}{r w r' w':List Nat}{a:α},m.ou s r w=U (a,s',r',w')->m.run s=U (a,s'):=by
 induction m with
 |ret a=>intro s s' r w r' w' x h;simp[ou]at h;simp[run,h.1,h.2.1]
 |br b t e ab5 ac8=>intro s s' r w r' w' x h;cases b<;>simp[ou,run]at h⊢<;>first|grind|grind
 |fail=>intro s s' r w r' w' x h;cases h
 |zR t k ih=>
  intro s s' r w r' w' x h;simp[ou,run]at h⊢
  grind
 |ET t x k ih=>intro s s' r w r' w' x h;exact ih h
 |nr i k ih=>intro s s' r w r' w' x h;exact ih _ h
 |ot i o k ih=>intro s s' r w r' w' x h;exact ih h
 |opt c x k ih=>
  intro s s' r w r' w' y h
  cases x with
  |none=>cases h
  |some d=>exact ih d h
def St.get (s:St)(p:Nat):Option Slot⊕Option Obj:=if p % 2=0 then .inl (look s.env (p/2))else .inr (look s.hp (p/2))
theorem Jn (s:St) (t):s.get (2*t)= .inl (look s.env t):=by simp_all[St.get,aj]
def Na (s:St) (i):s.get (2*i+1)= .inr (look s.hp i):=by unfold St.get;grind
def uD (s:St) (t) (x) (p):St.get {s with env:=(t,x)::s.env} p=if p=2*t then .inl (U x)else s.get p:=by
 unfold St.get
 by_cases hp:p % 2=0
 ·simp[hp]
  by_cases e:p=2*t
  ·subst e;rw[aj rfl,show 2*t/2=t by omega,dI]
  ·rw[ai e,dA _ _ (by omega)]
 grind
def uA (s:St) (i) (o) (p):St.get {s with hp:=(i,o)::s.hp} p=if p=2*i+1 then .inr (U o)else s.get p:=by
 unfold St.get
 by_cases hp:p % 2=0
 ·grind
 ·simp[hp]
  by_cases e:p=2*i+1
  ·subst e;rw[aj rfl,show(2*i+1)/2=i by omega,dI]
  ·rw[ai e,dA _ _ (by omega)]
theorem MY:St.Eqv s t↔∀p,s.get p=t.get p:=by
 constructor
 ·intro h p;unfold St.get;rw[h.1,h.2]
 ·intro h;refine⟨λi=> ?_,λi=> ?_⟩
  ·have:=h (2*i)
   grind [Jn]
  ·have:=h (2*i+1);simp_all[Na]
theorem AM.IZ (m:AM α):∀{s s':St}{r0 w0 r w:List Nat}{a:α},m.ou s r0 w0=U (a,s',r,w)->
  (∀p∈r0,p∈r)/\(∀p∈w0,p∈w)/\(∀p,p∉w->s'.get p=s.get p)/\∀t:St,(∀p∈r,t.get p=s.get p)->
   ∃t',m.ou t r0 w0=U (a,t',r,w)/\(∀p,p∉w->t'.get p=t.get p)/\(∀p,t.get p=s.get p->t'.get p=s'.get p)/\∀p∈w,p∉w0->t'.get p=s'.get p:=by
 induction m with
 |ret a=>
  intro s s' r0 w0 r w x h;obtain⟨rfl,rfl,rfl,rfl⟩:=h;exact⟨λ_ h=>h,λ_ h=>h,λ_ _=>rfl,λt ht=>⟨t,rfl,λ_ _=>rfl,λ_ h=>h,λp h1 h2=>absurd h1 h2⟩⟩
 |br b t e ab5 ac8=>
  intro s s' r0 w0 r w x h;cases b
  ·exact ac8 h
  ·exact ab5 h
 |fail=>intro s s' r0 w0 r w x h;cases h
 |zR t k ih=>
  intro s s' r0 w0 r w x h;simp[ou]at h;split at h
  ·rename_i sl HO;obtain⟨h1,h2,h3,h4⟩:=ih _ h;refine⟨λp hp=>h1 p (aB _ hp),h2,h3,λu hu=> ?_⟩;have hx:=hu (2*t) (h1 _ (aD ..));rw[Jn,Jn]at hx
   injection hx with hx
   obtain⟨t',a1,a2⟩:=h4 u hu;refine⟨t', ?_,a2⟩;simp[ou,hx,HO];omega
  simp_all
 |ET t x k ih=>
  intro s s' r0 w0 r w y h;obtain⟨h1,h2,h3,h4⟩:=ih h;have hm:2*t∈w:=h2 _ (aD ..);refine⟨h1,λp hp=>h2 p (aB _ hp),λp hp=> ?_,λu hu=> ?_⟩
  ·rw[h3 p hp,uD,ai (show p≠2*t from λe=>hp (by simp_all))]
  ·obtain⟨t',a1,a2,a3,a4⟩:=h4 {u with env:=(t,x)::u.env} (λp hp=>by rw[uD,uD,hu p hp]);refine⟨t',a1,λp hp=> ?_,λp hp=>a3 p (by rw[uD,uD,hp]),λp hp Ax=> ?_⟩
   ·rw[a2 p hp,uD,ai (show p≠2*t from λe=>hp (by rw[e];exact hm))]
   ·by_cases e:p=2*t
    ·exact a3 p (by rw[uD,uD,aj e,aj e])
    ·exact a4 p hp (λhm=>by rcases bA.1 hm with h|h;exact e h;exact Ax h)
 |nr i k ih=>
  intro s s' r0 w0 r w x h;obtain⟨h1,h2,h3,h4⟩:=ih _ h;refine⟨λp hp=>h1 p (aB _ hp),h2,h3,λu hu=> ?_⟩;have hx:=hu (2*i+1) (h1 _ (aD ..));rw[Na,Na]at hx
  injection hx with hx
  obtain⟨t',a1,a2⟩:=h4 u hu;refine⟨t', ?_,a2⟩;simp[ou,hx];exact a1
 |ot i o k ih=>
  intro s s' r0 w0 r w y h;obtain⟨h1,h2,h3,h4⟩:=ih h;have hm:2*i+1∈w:=h2 _ (aD ..);refine⟨h1,λp hp=>h2 p (aB _ hp),λp hp=> ?_,λu hu=> ?_⟩
  ·rw[h3 p hp,uA,ai (show p≠2*i+1 from λe=>hp (by rw[e];exact hm))]
  ·obtain⟨t',a1,a2,a3,a4⟩:=h4 {u with hp:=(i,o)::u.hp} (λp hp=>by rw[uA,uA,hu p hp]);refine⟨t',a1,λp hp=> ?_,λp hp=>a3 p (by rw[uA,uA,hp]),λp hp Ax=> ?_⟩
   ·rw[a2 p hp,uA,ai (show p≠2*i+1 from λe=>hp (by rw[e];exact hm))]
   ·by_cases e:p=2*i+1
    ·exact a3 p (by rw[uA,uA,aj e,aj e])
    ·exact a4 p hp (λhm=>by rcases bA.1 hm with h|h;exact e h;exact Ax h)
 |opt c x k ih=>
  intro s s' r0 w0 r w y h
  cases x with
  |none=>cases h
  |some d=>exact ih d h
def zC {m:AM α}(h:m.sY s r w K=U x):∃a t rd wr,m.ou s r w=U (a,t,rd,wr)/\K a t rd wr=U x:=by
 rw[AM.Qp]at h
 cases hm:m.ou s r w with
 |none=>simp_all
 |some p=>grind
theorem AM.Lv (m:AM α)(f:α->AM β):∀s r w,(m.bind f).ou s r w=(m.ou s r w).bind λp=>(f p.1).ou p.2.1 p.2.2.1 p.2.2.2:=by
 induction m with
 |ret a=>intro s r w;rfl
 |br b t e ab5 ac8=>grind [AM.bind,AM.ou]
 |fail=>intro s r w;rfl
 |zR t k ih=>grind [AM.bind,AM.ou,look]
 |ET t x k ih=>simp_all[AM.bind,AM.ou]
 |nr i k ih=>simp_all[AM.bind,AM.ou]
 |ot i o k ih=>simp_all[AM.bind,AM.ou]
 |opt c x k ih=>intro s r w;cases x<;>simp[AM.bind,AM.ou,ih]
def Gr (hg:o.guard=U (j,want))(hd:zM ops j=U d)(hs:look s.env d=U (.val (.one (.v .bool gv)))):
  (stepG E ops n o).ou s [] []=(bif gv==want then step E (alt n) o else skip E o).ou s [2*d] []:=by
 grind [stepG,mj,AM.Lv,AM.ou]
theorem T2 (hg:o.guard=U (j,want))(hd:zM ops j=U d)(hs:look s.env d=U .sk):
  (stepG E ops n o).ou s [] []=(skip E o).ou s [2*d] []:=by
 simp_all[stepG,mj,AM.Lv,AM.ou,al]
def KM (h:sR E ops (o::r) n s L K=U x):
  ∃s0 t rd wr,St.Eqv s0 s/\(stepG E ops n o).ou s0 [] []=U ((),t,rd,wr)/\sR E ops r (n+1) t ((rd,wr)::L) K=U x:=by
 unfold sR at h;split at h
 ·rename_i hg;obtain⟨⟨⟩,t,rd,wr,h1,h2⟩:=zC h
  grind [St.Eqv.refl,stepG]
 ·rename_i j want hg;split at h
  ·rename_i d hd;split at h
   ·rename_i gv hs
    rcases Jd h with⟨rfl,h'⟩|⟨rfl,h'⟩
    ·obtain⟨⟨⟩,t,rd,wr,h1,h2⟩:=zC h';refine⟨_,t,rd,wr,Hr hs, ?_,h2⟩;rw[Gr hg hd (dI _ _ _)];cases want<;>exact h1
    ·obtain⟨⟨⟩,t,rd,wr,h1,h2⟩:=zC h';refine⟨_,t,rd,wr,Hr hs, ?_,h2⟩;rw[Gr hg hd (dI _ _ _)];cases want<;>exact h1
   ·rename_i hs;obtain⟨⟨⟩,t,rd,wr,h1,h2⟩:=zC h;exact⟨s,t,rd,wr,St.Eqv.refl s,by grind [T2],h2⟩
   simp_all
  simp_all
structure Way (E:Env)(ops:List Oper)(n:Nat)(st:Nat->St)(ZT:Nat->List Nat×List Nat):Prop where
 step:∀i o,n<=i->ops[i]?=U o->∃pre,St.Eqv pre (st i)/\(stepG E ops i o).ou pre [] []=U ((),st (i+1),(ZT i).1,(ZT i).2)
def WA:∀r n s L,ops.drop n=r->sR E ops r n s L K=U x->
  ∃st ZT,st n=s/\Way E ops n st ZT/\K (st (n+r.length)) (((bp6 n r.length).map ZT).reverse++L)=U x
 |[],n,s,L,hr,h=>by
  refine⟨λ_=>s,λ_=>([],[]),rfl,⟨λi o hi ho=> ?_⟩,h⟩
  grind [List.drop_eq_nil_iff,bR]
 |o::r,n,s,L,hr,h=>by
  obtain⟨s0,t,rd,wr,e,h1,h2⟩:=KM h
  have ho:ops[n]?=U o:=by
   have:=congrArg (·[0]?) hr
   grind
  have UO:ops.drop (n+1)=r:=by rw[<-bX,hr];rfl
  obtain⟨st,ZT,k1,k2,k3⟩:=WA r (n+1) t _ UO h2;refine⟨λi=>if i=n then s else st i,λi=>if i=n then(rd,wr)else ZT i,by simp,⟨λi o' hi X6=> ?_⟩, ?_⟩
  ·by_cases e':i=n
   ·grind
   ·obtain⟨pre,a1,a2⟩:=k2.step i o' (by omega) X6
    grind
  ·rw[aw,List.range'_succ,cw,List.reverse_cons,aC,aj rfl]
   have em:(bp6 (n+1) r.length).map (λi=>if i=n then(rd,wr)else ZT i)=(bp6 (n+1) r.length).map ZT:=by
    apply List.map_congr_left
    grind
   grind
end Go.Abs
end

section
namespace Go.Abs
theorem Ra (n):∀l:List Nat,mem n l=av↔n∈l
 |[]=>by simp[mem]
 |m::r=>by
  simp only[mem,cO,Ra n r,bA]
  grind [beq_eq,Nat.beq_refl]
def Dp (h:meet a b=aq):∀p∈a,p∉b:=by
 induction a with
 |nil=>simp
 |cons x r ih=>
  simp[meet]at h;intro p hp hb
  rcases bA.1 hp with rfl|hp
  all_goals grind [Ra]
def Tg (x y:List Nat×List Nat):Prop:=(∀p∈x.2,p∉y.2)/\(∀p∈x.2,p∉y.1)/\∀p∈x.1,p∉y.2
def A5:∀{L:Log}{n:Nat},Ej x bx L n=av->∀k y,L[k]?=U y->(n - 1 - k)∈bx\/Tg x y
 |[],_,_,k,y,hy=>by simp_all
 |z::r,n,h,k,y,hy=>by
  simp[Ej]at h
  cases k with
  |zero=>
   have hz:z=y:=(by simpa using hy);subst hz
   rcases h.1 with h1|h1
   ·exact .inl (by simpa using(Ra _ _).1 h1)
   ·exact .inr ⟨Dp h1.1.1,Dp h1.1.2,Dp h1.2⟩
  |succ k=>
   have:=A5 h.2 k y (by simpa using hy);rw[show n - 1 - (k+1)=n - 1 - 1 - k by omega];exact this
def Gp:∀{L:Log}{bs:List (List Nat)}{n:Nat},apart L bs n=av->∀k x,L[k]?=U x->∃bx,bs[k]?=U bx/\∀k' y,k<k'->L[k']?=U y->(n - 1 - k')∈bx\/Tg x y
 |[],_,_,_,k,x,hx=>by simp_all
 |z::r,[],_,h,_,_,_=>by cases h
 |z::r,bz::bs,n,h,k,x,hx=>by
  simp[apart]at h
  cases k with
  |zero=>
   refine⟨bz,rfl,λk' y hk hy=> ?_⟩
   cases k' with
   |zero=>omega
   |succ k'=>
    have:=A5 h.1 k' y (by simp_all)
    grind
  |succ k=>
   obtain⟨bx,h1,h2⟩:=Gp h.2 k x (by simp_all);refine⟨bx,by simp_all,λk' y hk hy=> ?_⟩
   cases k' with
   |zero=>omega
   |succ k'=>
    grind
def Vy:∀es acc,∀j,acc.length<=j->∀e,es[j - acc.length]?=U e->∃b,(Cr es acc)[j]?=U b/\∀i,i∈b->i∈e\/∃k∈e,k<j/\∃bk,(Cr es acc)[k]?=U bk/\i∈bk:=by
 have pre:∀es acc,∃tl,Cr es acc=acc++tl:=by
  intro es
  induction es with
  |nil=>simp_all[Cr]
  |cons e es ih=>
   intro acc;obtain⟨tl,h⟩:=ih (acc++[e.flatMap λi=>i::acc.getD i []]);simp_all[Cr,aC]
 intro es
 induction es with
 |nil=>simp
 |cons e0 es ih=>
  intro acc j hj e he
  by_cases Zq:j=acc.length
  ·subst Zq;have:e0=e:=(by simpa using he);subst this;obtain⟨tl,h⟩:=pre es (acc++[e0.flatMap λi=>i::acc.getD i []]);refine⟨e0.flatMap λi=>i::acc.getD i [],by rw[Cr,h];simp,λi hi=> ?_⟩;obtain⟨k,hk,hi⟩:=List.mem_flatMap.1 hi
   rcases bA.1 hi with rfl|hi
   ·exact .inl hk
   ·right
    rw[aG]at hi
    cases aN4:acc[k]? with
    |none=>rw[aN4]at hi;simp at hi
    |some bk=>
     have mL:=(cr.1 aN4).1;rw[aN4]at hi;refine⟨k,hk,mL,bk, ?_,by simpa using hi⟩;rw[Cr,h,aC,List.getElem?_append_left mL,aN4]
  ·exact ih _ j (by simp;omega) e (by
    have:j - acc.length=(j - (acc++[e0.flatMap λi=>i::acc.getD i []]).length)+1:=by simp;omega
    rw[this]at he
    simpa using he)
def CG:∀{es:List (List Nat)}{n:Nat},Cd es n=av->∀j e,es[j]?=U e->∀i∈e,i<n+j
 |[],_,_,j,e,he=>by simp_all
 |e0::es,n,h,j,e,he=>by
  simp only[Cd,aA,aK]at h
  cases j with
  |zero=>
   simp_all
  |succ j=>
   intro i hi;have:=CG h.2 j e (by simp_all) i hi;omega
section
variable{E:Env}{ops:List Oper}{st:Nat->St}{lg:Nat->List Nat×List Nat}
def held (st:Nat->St)(lg:Nat->List Nat×List Nat)(D:Nat->Bool)(p:Nat):Nat->Option Slot⊕Option Obj
 |0=>(st 0).get p
 |k+1=>open Classical in if D k=av/\p∈(lg k).2 then(st (k+1)).get p else held st lg D p k
def BT:∀{n:Nat},i<=n->(∀k,i<=k->k<n->D k=av->p∉(lg k).2)->held st lg D p n=held st lg D p i
 |0,hi,_=>by simp_all
 |n+1,hi,h=>by
  by_cases e:i=n+1
  ·simp_all
  ·rw[held,ai λhc=>h n (by omega) (by omega) hc.1 hc.2]
   exact BT (by omega) λk h1 h2=>h k h1 (by omega)
def Jb (W:Way E ops 0 st lg){D:Nat->Bool}{p:Nat}:∀{i:Nat},i<=ops.length->(∀k,k<i->p∈(lg k).2->D k=av)->held st lg D p i=(st i).get p
 |0,_,_=>rfl
 |i+1,hi,h=>by
  rw[held];split
  ·rfl
  ·rename_i hc;rw[Jb W (by omega) λk hk=>h k (by omega)];have ho:ops[i]?=U (ops[i]'(by omega)):=aL _;obtain⟨pre,a1,a2⟩:=W.step i _ (aU _) ho
   grind [AM.IZ,MY]
structure Order (ops:List Oper)(lg:Nat->List Nat×List Nat)(b:Nat->List Nat):Prop where
 direct:∀j o,ops[j]?=U o->∀e∈o.after,bq9 .any e=av->e.on<j
 closed:∀j o,ops[j]?=U o->∀i∈b j,(∃e∈o.after,bq9 .any e=av/\e.on=i)\/∃e∈o.after,bq9 .any e=av/\i∈b e.on
 apart:∀i j,i<j->j<ops.length->i∈b j\/Tg (lg j) (lg i)
def VN (he:Cd (Aa ops) 0=av)(ha:apart ((bp6 0 ops.length).map lg).reverse (Cr (Aa ops) []).reverse ops.length=av):
  ∃b,Order ops lg b:=by
 have ad3:∀(j:Nat) o,ops[j]?=U o->(Aa ops)[j]?=U (o.after.toList.filterMap λe=>bif bq9 .any e then U e.on else az):=by
  simp_all[Aa,bn4]
 have aI9:∀(o:Oper) i,i∈(o.after.toList.filterMap λe=>bif bq9 .any e then U e.on else az)↔∃e∈o.after,bq9 .any e=av/\e.on=i:=by
  grind
 refine⟨λj=>((Cr (Aa ops) [])[j]?).getD [],⟨λj o ho e hm hb=> ?_,λj o ho i hi=> ?_,λi j Uz hj=> ?_⟩⟩
 ·have:=CG he j _ (ad3 j o ho) e.on ((aI9 o _).2 ⟨e,hm,hb,rfl⟩);omega
 ·obtain⟨b,h1,h2⟩:=Vy (Aa ops) [] j (aU _) _ (by simpa using ad3 j o ho)
  grind
 ·have hx:(((bp6 0 ops.length).map lg).reverse)[ops.length - 1 - j]?=U (lg j):=by
   grind
  have hy:(((bp6 0 ops.length).map lg).reverse)[ops.length - 1 - i]?=U (lg i):=by
   grind
  obtain⟨bx,h1,h2⟩:=Gp ha _ _ hx
  rcases h2 _ _ (by omega) hy with h|h
  ·left
   rw[show ops.length - 1 - (ops.length - 1 - i)=i by omega]at h
   have hlen:(Cr (Aa ops) []).length=ops.length:=by
    have:∀es acc,(Cr es acc).length=acc.length+es.length:=by
     intro es
     induction es with
     |nil=>intro acc;simp[Cr]
     |cons e es ih=>intro acc;rw[Cr,ih];simp;omega
    rw[this];simp[Aa]
   rw[List.getElem?_reverse (by omega),hlen,show ops.length - 1 - (ops.length - 1 - j)=j by omega]at h1;rw[h1];exact h
  simp_all
def done (listed:Array Bool)(i:Nat):Bool:=listed.getD i aq
def N5 (hE:EnvOk E){B:Base}{K:St->Option ρ}{x:ρ}{Q:Exit->Act->World->Prop}(hK:KOk E B K x (Q .normal))(W:Way E ops 0 st lg){b:Nat->List Nat}(O:Order ops lg b)(aI0:K (st ops.length)=U x)
  (Xy:∀s t,St.Eqv s t->K s=U x->∀g a w,lU E.gU g.dC->HRel B g t.hp w->ActRel E B g t.env a->Q .normal a w):
  ∀fuel listed (t:St),listed.size=ops.length->((cN ops.length).filter λi=> !done listed i).length=fuel->
   (∀j,j<ops.length->done listed j=av->∀i∈b j,done listed i=av)->(∀p,t.get p=held st lg (done listed) p ops.length)->
   ∀g a w,lU E.gU g.dC->HRel B g t.hp w->ActRel E B g t.env a->wpAny E.P .any ops.toArray Q fuel listed a w:=by
 have full:∀listed t,(∀i,i<ops.length->done listed i=av)->(∀p,t.get p=held st lg (done listed) p ops.length)->St.Eqv (st ops.length) t:=by
  intro listed t Ay ht;rw[MY];intro p;rw[ht p,Jb W (aF _) λk hk _=>Ay k hk]
 have empty:∀listed,listed.size=ops.length->Region.ready .any ops.toArray listed=[]->∀i,i<ops.length->done listed i=true:=by
  intro listed rr hr i
  induction i using Nat.strongRecOn with
  |_ i ih=>
   intro hi
   cases hd:done listed i with
   |true=>rfl
   |false=>
    exfalso
    have hm:i∈Region.ready .any ops.toArray listed:=by
     rw[mem_ready];refine⟨?_,ops[i],by simp,λe he hb=> ?_⟩
     ·simp_all[done,Array.getD]
     ·have:=O.direct i ops[i] (aL hi) e he hb;exact ih e.on this (by omega)
    simp_all
 intro fuel
 induction fuel with
 |zero=>
  intro listed t rr ao4 HL ht g a w hG R V
  have Ay:∀i,i<ops.length->done listed i=true:=by
   simp_all
  refine⟨?_,Xy _ _ (full listed t Ay ht) aI0 g a w hG R V⟩;rw[List.eq_nil_iff_forall_not_mem];simp_all[mem_ready,bB,done,Array.getD]
 |succ fuel ih=>
  intro listed t rr ao4 HL ht g a w hG R V;refine⟨λhr=>Xy _ _ (full listed t (empty listed rr hr) ht) aI0 g a w hG R V,λi hi=> ?_⟩;obtain⟨h1,o,h2,h3⟩:=mem_ready.1 hi
  have a96:i<ops.length:=by
   grind
  have ho:ops[i]?=U o:=by simp_all
  have qK:done listed i=false:=by
   simp_all[done,Array.getD]
  obtain⟨pre,a1,a2⟩:=W.step i o (aU _) ho
  have ad9:∀k∈b i,done listed k=true:=by
   intro k hk
   rcases O.closed i o ho k hk with⟨e,e1,e2,e3⟩|⟨e,e1,e2,e3⟩
   ·rw[<-e3];exact h3 e e1 e2
   ·have mL:=O.direct i o ho e e1 e2;exact HL e.on (by omega) (h3 e e1 e2) k e3
  have later:∀k,i<k->k<ops.length->done listed k=av->Tg (lg k) (lg i):=by
   intro k bl9 hk Uw
   rcases O.apart i k bl9 hk with h|h
   ·have:=HL k hk Uw i h;rw[qK]at this;cases this
   ·exact h
  have agree:∀p∈(lg i).1,t.get p=pre.get p:=by
   intro p hp;rw[ht p,MY.1 a1 p]
   rw[BT (i:=i) (by omega) λk h1 h2 Uw hm=>by
    by_cases e:k=i
    ·subst e;rw[qK]at Uw;cases Uw
    ·exact(later k (by omega) h2 Uw).2.1 p hm hp]
   exact Jb W (by omega) λk hk hm=>by
    rcases O.apart k i hk a96 with h|h
    ·exact ad9 k h
    ·exact absurd hm (h.2.2 p hp)
  obtain⟨_,_,_,a15⟩:=AM.IZ _ a2;obtain⟨t',b1,b2,b3,b4⟩:=a15 t agree;have F6:=AM.Vj _ b1
  refine Gw hE ho F6 hG R V λa' w' g' l R' V'=> ?_
  have DA:∀k,done (listed.setIfInBounds i av) k=(done listed k||decide (k=i)):=by
   intro k;unfold done
   by_cases e:k=i
   ·subst e;have mL:k<listed.size:=(by omega);simp[Array.getD,mL]
   ·have:(listed.setIfInBounds i av).getD k aq=listed.getD k false:=getD_set_ne aq (Ne.symm e);rw[this];simp[e]
  refine ih (listed.setIfInBounds i av) t' (by simpa using rr) ?_ ?_ ?_ g' a' w' (hG.mono l.dC) R' V'
  ·have key:∀(l:List Nat),l.Nodup->i∈l->(l.filter λk=> !done listed k).length=(l.filter λk=> !done (listed.setIfInBounds i av) k).length+1:=by
    intro l
    induction l with
    |nil=>intro _ h;simp at h
    |cons y r bg8=>
     intro hn hm;rw[cu]at hn
     by_cases e:y=i
     ·subst e
      have hr:(r.filter λk=> !done (listed.setIfInBounds y av) k)=(r.filter λk=> !done listed k):=by
       apply List.filter_congr
       intro k hk
       have:k≠y:=λe=>hn.1 (e ▸ hk)
       rw[DA k];simp[this]
      rw[List.filter_cons_of_pos (by simp[qK]),List.filter_cons_of_neg (by simp[DA]),hr];rfl
     ·have ae0:i∈r:=by
       rcases bA.1 hm with h|h
       ·exact absurd h.symm e
       ·exact h
      have:=bg8 hn.2 ae0
      cases hd:done listed y with
      |true=>rw[List.filter_cons_of_neg (by simp[hd]),List.filter_cons_of_neg (by simp[DA,hd])];exact this
      |false=>rw[List.filter_cons_of_pos (by simp[hd]),List.filter_cons_of_pos (by simp[DA,hd,e])];simp[this]
   have:=key (cN ops.length) List.nodup_range (cL.2 a96);omega
  ·intro j hj a32 k hk;rw[DA]at a32⊢;simp at a32⊢
   rcases a32 with h|h
   ·exact .inl (HL j hj h k hk)
   ·subst h;exact .inl (ad9 k hk)
  ·intro p
   by_cases hp:p∈(lg i).2
   ·rw[b4 p hp (by simp)]
    rw[BT (i:=i+1) (by omega) λk h1 h2 Uw hm=>by
     rw[DA]at Uw;simp at Uw
     rcases Uw with h|h
     ·exact(later k (by omega) h2 h).1 p hm hp
     ·omega]
    rw[held,aj ⟨by rw[DA];simp,hp⟩]
   ·rw[b2 p hp,ht p]
    have:∀n,held st lg (done listed) p n=held st lg (done (listed.setIfInBounds i av)) p n:=by
     intro n
     induction n with
     |zero=>rfl
     |succ n bh8=>
      rw[held,held,bh8]
      by_cases e:n=i
      ·subst e;rw[ai λh=>hp h.2,ai λh=>hp h.2]
      ·have:done (listed.setIfInBounds i av) n=done listed n:=by rw[DA];simp[e]
       rw[this]
    exact this _
end
def HRel.drew (R:HRel B g hp w) (n):HRel B g hp {w with drawn:=n}:=
 ⟨R.top,R.iW,R.dC,R.iR,R.iV,R.mN,R.frame,R.size,R.os,R.tape,R.output,R.fix⟩
def E3 {E:Env}(hE:EnvOk E)(hm:E.P.follows .mixedOrders=av){B:Base}{id:Nat}{ops:Array Oper}{draw:Bool}{K:St->Option ρ}{x:ρ}{Q:Exit->Act->World->Prop}(hK:KOk E B K x (Q .normal))
  {s:St} (h:IS E ops.toList draw s K=U x) {g:Gh} {a:Act} {w:World} (hG:lU E.gU g.dC) (R:HRel B g s.hp w) (V:ActRel E B g s.env a):(Code.region id ops draw).wp E.P Q a w:=by
 cases draw with
 |false=>
  apply wp_region
  have:=CC hE hK ops.toList 0 s rfl h g a w hG R V;simp_all[List.range_eq_range']
 |true=>
  obtain⟨st,lg,k1,W,k3⟩:=WA ops.toList 0 s [] rfl h
  cases hc:(Cd (Aa ops.toList) 0&&apart (((bp6 0 ops.toList.length).map lg).reverse++[]) (Cr (Aa ops.toList) []).reverse ops.toList.length)with
  |false=>grind
  |true=>
   simp at hc;obtain⟨b,O⟩:=VN hc.1 hc.2
   apply wp_region_any hm
   have:=N5 hE (Q:=Q) hK W O (by simp_all) (λs t e hs g a w hG R V=>hK s g a w hs hG (R.congr e.2) (V.congr e.1)) ops.toList.length (bq1 ops.toList.length aq) s (by simp) (by
     have:∀i,done (bq1 ops.toList.length aq) i=false:=by
      intro i;unfold done;simp[bZ,Array.getElem?_replicate]
      grind
     grind [List.filter_eq_self,List.length_range]) (λj _ hd=>by
     simp_all[done,bZ,Array.getElem?_replicate]) (λp=>by
     rw[BT (i:=0) (aU _) λk _ _ hd=>by
      simp_all[done,bZ,Array.getElem?_replicate]]
     show _=(st 0).get p
     rw[k1]) g a {w with drawn:=w.drawn+1} hG (R.drew _) V
   omega
end Go.Abs
end

section
namespace Go.Abs
noncomputable def Gh.oy (g:Gh)(id gen:Nat)(u:Value)(L:List Value):Gh:=
  open Classical in
  { g with top := fun i => if i = id then gen + 1 else g.top i
           cv:=λi k=>if i=id/\k=gen then u else g.cv i k
           outer:=λi=>if i=id then L else g.outer i}
def HRel.U1 (R:HRel B g hp w) (id) (u) (L):
  Le g (g.oy id (g.top id) u L)/\HRel B (g.oy id (g.top id) u L) ((id, .lZ (g.top id) (0,[]))::hp) w:=by
 have hle:Le g (g.oy id (g.top id) u L):=by
  refine⟨λ_ _ h=>h,λi=> ?_,λi k hk=> ?_⟩
  ·show g.top i<=if i=id then g.top id+1 else g.top i
   grind
  ·show(if i=id/\k=g.top id then u else g.cv i k)=g.cv i k
   grind
 refine⟨hle,λi=> ?_,λi oi hi=> ?_,R.dC,R.iR,R.iV,R.mN,R.frame,R.size,R.os,R.tape,R.output,R.fix⟩
 ·show(if i=id then g.top id+1 else g.top i)=_
  by_cases e:id=i
  ·subst e;rw[dI,aj rfl];rfl
  ·rw[dA _ _ e,ai λh=>e h.symm];exact R.top i
 ·by_cases e:id=i
  ·subst e;rw[dI]at hi;injection hi with hi;subst hi;trivial
  ·rw[dA _ _ e]at hi;exact(R.iW i oi hi).tr hle (λb hb=>⟨hb,rfl,rfl⟩) (by simp only[Gh.oy];grind) (kU R hi)
def xd (hp:List (Nat×Obj))(n:Nat):Prop:=∀i,n<=i->look hp i=az
def HRel.Bm (R:HRel B g hp w){i:Nat}(h:look hp i=az):g.top i=0:=by rw[R.top i,h]
def aD7 (cells:List Cell)(iW:List (Nat×Obj))(n n':Nat)(B:Base)(g:Gh)(hp:List (Nat×Obj))(w:World)(us:List Value)(nb:List Nat):Prop:=
 n<=n'/\xd (iW++hp) n'/\(∀i,i<n->look (iW++hp) i=look hp i)/\∃g',Le g g'/\(∀y,y∉nb->g'.gV y=g.gV y/\g'.iR y=g.iR y)/\(∀i,i<n->g'.outer i=g.outer i)/\HRel B g' (iW++hp) w/\dG g' cells us
def SX (R:HRel B g hp w)(hP:OwnAt g.dC w (dp&& !τ.flat) τ x us nb)(hO:iz g nb)(hn:∀b∈nb,g.iR b=az)(hf:xd hp n):
  aD7 [.own n 0] [(n, .own 0 τ (dp||τ.flat) x)] n (n+1) B g hp w us nb:=by
 have ht:=R.Bm (hf n (aF _))
 have ad8:∀o:Obj,xd ([(n,o)]++hp) (n+1):=λo i hi=>by
  show look ((n,o)::hp) i=az;rw[dA _ _ (by omega)];exact hf i (by omega)
 have hold:∀o:Obj,∀i,i<n->look ([(n,o)]++hp) i=look hp i:=λo i hi=>dA _ _ (by omega)
 rcases hP with⟨rfl,hx,rfl⟩|⟨b,cap,arr,ty,lW,rfl,rfl,ha,hl,hs,hE⟩
 ·obtain⟨l,R'⟩:=R.named (id:=n) (u:= .slice az 0 0) (o':= .own (g.top n) τ (dp||τ.flat) []) rfl (.inl ⟨by simp[Gh.name],rfl⟩);refine⟨Nat.le_succ _,ad8 _,hold _,_,l.le,λx _=>⟨rfl,rfl⟩,λ_ _=>rfl, ?_,⟨_,[],rfl,⟨?_, ?_,rfl⟩,rfl⟩⟩
  all_goals simp_all[Gh.name]
 ·have L9:=hO.2 b (aD ..);have qK:=cu.1 hO.1
  have Xu:((dp||τ.flat)&& !τ.flat)=(dp&& !τ.flat):=by grind
  obtain⟨g',l,hk,ho,R',hc⟩:=R.qH (id:=n) (deep:=dp||τ.flat) (τ:=τ) (xs:=x) (nb:=lW) L9 (hn b (aD ..)) qK.1 ha hl hs qK.2 (λy hy=>⟨hO.2 y (aB _ hy),by
   unfold oI at hE;split at hE
   ·exact hE.xb y hy
   simp_all⟩) (by simp_all)
  rw[ht]at R' hc;refine⟨Nat.le_succ _,ad8 _,hold _,g',l,λy hy=> ?_,λi hi=>ho i (by omega),R',⟨_,[],rfl,hc,rfl⟩⟩;simp_all
def Lz:∀sp x pl n ib {B:Base}{g:Gh}{hp:List (Nat×Obj)}{w:World}{rp:Nat×Nat}{us:List Value}{nb:List Nat},sp.whole ib=av->(ib=av->mi g (U (pl.1,0,pl.2)) rp)->HRel B g hp w->Pass g.dC w sp x rp us nb->iz g nb->(∀b∈nb,g.iR b=az)->xd hp n->
  aD7 (mk0 sp x pl n).1 (mk0 sp x pl n).2.1 n (mk0 sp x pl n).2.2 B g hp w us nb:=by
 intro sp
 induction sp with
 |un=>intro x pl n ib B g hp w rp us nb hw BH R hP hO hn hf;exact⟨aF _,hf,λ_ _=>rfl,g,Le.refl g,λ_ _=>⟨rfl,rfl⟩,λ_ _=>rfl,R,hP.1⟩
 |fT τ=>
  intro x pl n ib B g hp w rp us nb hw BH R hP hO hn hf;obtain⟨_,h1,u,rfl,hr⟩:=hP;exact⟨aF _,hf,λ_ _=>rfl,g,Le.refl g,λ_ _=>⟨rfl,rfl⟩,λ_ _=>rfl,R,u,[],rfl,⟨h1,hr⟩,rfl⟩
 |err=>
  intro x pl n ib B g hp w rp us nb hw BH R hP hO hn hf;obtain⟨_,u,rfl,hr⟩:=hP;exact⟨aF _,hf,λ_ _=>rfl,g,Le.refl g,λ_ _=>⟨rfl,rfl⟩,λ_ _=>rfl,R,u,[],rfl,hr,rfl⟩
 |np=>
  intro x pl n ib B g hp w rp us nb hw BH R hP hO hn hf;obtain⟨_,rfl⟩:=hP;exact⟨aF _,hf,λ_ _=>rfl,g,Le.refl g,λ_ _=>⟨rfl,rfl⟩,λ_ _=>rfl,R,_,[],rfl,rfl,rfl⟩
 |slf f m=>
  intro x pl n ib B g hp w rp us nb hw BH R hP hO hn hf;obtain⟨_,b,o,rfl⟩:=hP;have ht:=R.Bm (hf n (aF _));obtain⟨l1,R1⟩:=R.named (id:=n) (u:= .pointer (U ⟨b,o,az⟩)) (o':= .dead (g.top n)) rfl trivial;have Cy:(g.name n (g.top n) (.pointer (U ⟨b,o,az⟩))).cv n (g.top n)= .pointer (U ⟨b,o,az⟩):=(by simp[Gh.name]);have Ya:g.top n<(g.name n (g.top n) (.pointer (U ⟨b,o,az⟩))).top n:=(by simp[Gh.name]);rw[ht]at R1 Cy Ya;rw[ht]at l1;refine⟨Nat.le_succ n,λi hi=> ?_,λi hi=> ?_,g.name n 0 (.pointer (U ⟨b,o,az⟩)),l1.le,λ_ _=>⟨rfl,rfl⟩,λ_ _=>rfl,R1,⟨_,[],rfl,⟨Ya,b,o,Cy,rfl⟩,rfl⟩⟩
  ·have hi:n+1<=i:=hi;show look ((n,_)::hp) i=az;rw[dA _ _ (by omega)];exact hf i (by omega)
  ·show look ((n,_)::hp) i=_
   grind [dA]
 |own τ dp=>intro x pl n ib B g hp w rp us nb hw BH R hP hO hn hf;exact SX R hP hO hn hf
 |lnd τ dp=>intro x pl n ib B g hp w rp us nb hw BH R hP hO hn hf;exact SX R hP hO hn hf
 |CV ok=>intro x pl n ib B g hp w rp us nb hw;cases hw
 |vp=>
  intro x pl n ib B g hp w rp us nb hw BH R hP hO hn hf;have XW:ib=true:=hw;obtain⟨N2,bb,oo,pz,rfl⟩:=BH XW _ _ _ rfl;have hB:th g.dC w (bb,oo+pl.2) x us nb:=hP
  have two:∃u1 u2,us=[u1,u2]/\oc u1=true:=by
   rcases hB with⟨e,_⟩|⟨u2,e,_⟩
   ·exact⟨_,_,e,rfl⟩
   ·exact⟨_,_,e,rfl⟩
  obtain⟨u1,u2,rfl,aZ8⟩:=two;have ht:=R.Bm (hf n (aF _));have ax5:=R.Bm (hf (n+1) (by omega));obtain⟨l1,R1⟩:=R.named (id:=n) (u:=u1) (o':= .dead (g.top n)) rfl trivial;have Cy:(g.name n (g.top n) u1).cv n (g.top n)=u1:=(by simp[Gh.name]);have Ya:g.top n<(g.name n (g.top n) u1).top n:=(by simp[Gh.name]);have bk4:(g.name n (g.top n) u1).top (n+1)=0:=(by simp[Gh.name,ax5]);obtain⟨g2,l2,k2,o2,R2,c2⟩:=R1.Ph (id:=n+1) (a:=n) (ag:=g.top n) (bid:=pl.1) (bg:=0) (off:=pl.2) (xs:=x) (u2:=u2) (nb:=nb) Ya (aV N2 (l1.le.top _)) (by omega) (hO.mono l1) hn ((l1.le.cv _ _ N2).trans pz) (by rw[Cy];exact hB);have FZ:eC g2 (.own n (g.top n)) u1:=⟨aV Ya (l2.top _),by rw[l2.cv _ _ Ya,Cy],aZ8⟩;rw[bk4]at R2 c2;rw[ht]at R2 FZ;refine⟨Nat.le_add_right n 2,λi hi=> ?_,λi hi=> ?_,g2,l1.le.trans l2,k2,λi hi=>by rw[o2,l1.out],R2,⟨u1,[u2],rfl,FZ,u2,[],rfl,c2,rfl⟩⟩
  ·have hi:n+2<=i:=hi;show look ((n+1,_)::(n,_)::hp) i=az;rw[dA _ _ (by omega),dA _ _ (by omega)];exact hf i (by omega)
  ·show look ((n+1,_)::(n,_)::hp) i=_;rw[dA _ _ (by omega),dA _ _ (by omega)]
 |pr a b EY EW=>
  intro x pl n ib B g hp w rp us nb hw BH R hP hO hn hf;simp only[Sp.whole,aA]at hw;obtain⟨u1,u2,n1,n2,rfl,rfl,P1,P2⟩:=hP;have qK:=bw.1 hO.1
  have hd:∀y∈n2,y∉n1:=λy h2 h1=>qK.2.2 y h1 y h2 rfl
  obtain⟨m1,f1,i1,g1,l1,k1,o1,R1,c1⟩:=EY x.1 pl n ib hw.1 BH R P1 ⟨qK.1,λy hy=>hO.2 y (aX _ hy)⟩ (λy hy=>hn y (aX _ hy)) hf
  obtain⟨m2,f2,i2,g2,l2,k2,o2,R2,c2⟩:=EW x.2 (pl.1,pl.2+a.size) _ ib hw.2 (λe=>(((BH e).mono l1).on a.size)) R1 (P2.mono l1.dC) ⟨qK.2.1,λy hy=>by rw[(k1 y (hd y hy)).1];exact hO.2 y (aZ _ hy)⟩
   (λy hy=>by rw[(k1 y (hd y hy)).2];exact hn y (aZ _ hy)) f1
  refine⟨bn8 m1 m2, ?_,λi hi=> ?_,g2,l1.trans l2,λy hy=> ?_,λi hi=>(o2 i (by omega)).trans (o1 i hi), ?_,(c1.mono l2).append c2⟩
  ·show xd ((_++_)++hp) _;rw[aC];exact f2
  ·show look ((_++_)++hp) i=_;rw[aC,i2 i (by omega),i1 i hi]
  ·rw[aP,not_or]at hy;obtain⟨a1,a2⟩:=k1 y hy.1;obtain⟨b1,b2⟩:=k2 y hy.2;exact⟨b1.trans a1,b2.trans a2⟩
  ·show HRel B g2 ((_++_)++hp) w;rw[aC];exact R2
 |ptr wh st sp ih=>
  intro x pl n ib B g hp w rp us nb hw BH R hP hO hn hf;simp only[Sp.whole,aA]at hw;obtain⟨b,o,arr,ty,lW,rfl,rfl,ha,aY2,hle0,P⟩:=hP;obtain⟨rfl,rr,rfl⟩:=aY2.1 hw.1;have qK:=cu.1 hO.1;have ht:=R.Bm (hf n (aF _));obtain⟨l0,R0⟩:=R.U1 n (.pointer (U ⟨b,0,az⟩)) arr.toList;have an4:(g.oy n (g.top n) (.pointer (U ⟨b,0,az⟩)) arr.toList).cv n 0= .pointer (U ⟨b,0,az⟩):=(by simp[Gh.oy,ht]);have Tn:0<(g.oy n (g.top n) (.pointer (U ⟨b,0,az⟩)) arr.toList).top n:=(by simp[Gh.oy]);have ab6:(g.oy n (g.top n) (.pointer (U ⟨b,0,az⟩)) arr.toList).outer n=arr.toList:=(by simp[Gh.oy])
  have ac3:∀i,i<n->(g.oy n (g.top n) (.pointer (U ⟨b,0,az⟩)) arr.toList).outer i=g.outer i:=λi hi=>by
   simp only[Gh.oy];rw[ai (by omega)]
  have Tv:(g.oy n (g.top n) (.pointer (U ⟨b,0,az⟩)) arr.toList).gV=g.gV:=rfl;have Tz:(g.oy n (g.top n) (.pointer (U ⟨b,0,az⟩)) arr.toList).iR=g.iR:=rfl;have P0:Pass (g.oy n (g.top n) (.pointer (U ⟨b,0,az⟩)) arr.toList).dC w sp x (b,0) ((arr.toList.drop 0).take sp.size) lW:=P
  generalize g.oy n (g.top n) (.pointer (U ⟨b,0,az⟩)) arr.toList=g0 at l0 R0 an4 Tn ab6 ac3 Tv Tz P0
  rw[ht]at R0
  obtain⟨m1,f1,i1,g1,l1,k1,o1,R1,c1⟩:=ih x (n,0) (n+1) av hw.2 (λ_ id gen off e=>by
    injection e with e;injection e with e1 e;injection e with e2 e3
    subst e1;subst e2;subst e3
    exact⟨Tn,b,0,an4,rfl⟩) R0 P0 ⟨qK.2,λy hy=>by rw[Tv];exact hO.2 y (aB _ hy)⟩ (λy hy=>by rw[Tz];exact hn y (aB _ hy)) (λi hi=>by rw[dA _ _ (by omega)];exact hf i (by omega))
  obtain⟨q1,q2⟩:=k1 b qK.1;rw[Tv]at q1;rw[Tz]at q2
  have Ay:(arr.toList.drop 0).take sp.size=arr.toList:=by
   rw[bY];exact bo4 (by simp[rr])
  rw[Ay]at c1;have Qo:look ((mk0 sp x (n,0) (n+1)).2.1++((n,Obj.lZ 0 (0,[]))::hp)) n=U (.lZ 0 (0,[])):=(by rw[i1 n (by omega),dI]);have L9:g1.gV b=U 0:=q1.trans (hO.2 b (aD ..));have NW:g1.iR b=none:=q2.trans (hn b (aD ..));have Cy:g1.cv n 0= .pointer (U ⟨b,0,az⟩):=(l1.cv _ _ Tn).trans an4;have Xt:g1.outer n=arr.toList:=(o1 n (by omega)).trans ab6
  let g2:Gh:={g1 with gV:=open Classical in λx=>if x=b then U (n+1)else g1.gV x}
  have R7:Le g1 g2:=⟨λ_ _ h=>h,λ_=>aF _,λ_ _ _=>rfl⟩
  have R2:HRel B g2 ((n, .box 0 (st.1,(mk0 sp x (n,0) (n+1)).1))::((mk0 sp x (n,0) (n+1)).2.1++((n,Obj.lZ 0 (0,[]))::hp))) w:=by
   refine R1.Wp L9 NW Qo rfl ⟨b,0,arr,st.1,arr.toList,Cy,⟨by simp,NW⟩,ha,c1.mono R7, ?_, ?_,rfl, ?_,rfl⟩
   ·show arr.toList=(g1.outer n).take 0++arr.toList++(g1.outer n).drop (0+arr.toList.length);rw[Xt];simp
   ·show 0+arr.toList.length<=(g1.outer n).length;rw[Xt];simp
   ·show(g1.outer n).length=(mk0 sp x (n,0) (n+1)).1.length;rw[Xt];exact c1.length
  have XQ:∀i,look ((n,Obj.box 0 (st.1,(mk0 sp x (n,0) (n+1)).1))::((mk0 sp x (n,0) (n+1)).2.1++hp)) i=look ((n,Obj.box 0 (st.1,(mk0 sp x (n,0) (n+1)).1))::((mk0 sp x (n,0) (n+1)).2.1++((n,Obj.lZ 0 (0,[]))::hp))) i:=by
   intro i
   by_cases e:n=i
   ·subst e;rw[dI,dI]
   ·rw[dA _ _ e,dA _ _ e]
    have app:∀l,look (l++hp) i=look (l++((n,Obj.lZ 0 (0,[]))::hp)) i:=by
     intro l
     induction l with
     |nil=>exact(dA _ _ e).symm
     |cons p l ih=>
      show(bif ax p.1 i then U p.2 else look (l++hp) i)=(bif ax p.1 i then U p.2 else look (l++((n,Obj.lZ 0 (0,[]))::hp)) i);rw[ih]
    exact app _
  refine⟨by show n<=(mk0 sp x (n,0) (n+1)).2.2;omega,λi hi=> ?_,λi hi=> ?_,g2,(l0.trans l1).trans R7,λy hy=> ?_,λi hi=>(o1 i (by omega)).trans (ac3 i hi),R2.congr XQ,⟨_,[],rfl,⟨aV Tn (l1.top n),b,0,Cy,rfl⟩,rfl⟩⟩
  ·have hi:(mk0 sp x (n,0) (n+1)).2.2<=i:=hi;have:=f1 i hi;have h2:=XQ i;rw[dA _ _ (by omega),dA _ _ (by omega)]at h2;show look ((n,_)::((mk0 sp x (n,0) (n+1)).2.1++hp)) i=az;rw[dA _ _ (by omega),h2];exact this
  ·have h2:=XQ i;rw[dA _ _ (by omega),dA _ _ (by omega)]at h2;show look ((n,_)::((mk0 sp x (n,0) (n+1)).2.1++hp)) i=_;rw[dA _ _ (by omega),h2,i1 i (by omega),dA _ _ (by omega)]
  ·rw[bA,not_or]at hy;obtain⟨a1,a2⟩:=k1 y hy.2;exact⟨by simp[g2,hy.1,a1,Tv],by rw[show g2.iR=g1.iR from rfl,a2,Tz]⟩
def yW (a:Act):List Nat->List Value->Prop
 |[],us=>us=[]
 |t::ts,us=>∃u r,us=u::r/\a.tmps.getD t undef=u/\yW a ts r
def yd:∀as ts x n {B:Base}{g:Gh}{hp:List (Nat×Obj)}{w:World}{us:List Value}{nb:List Nat},qU as=av->HRel B g hp w->kT g.dC w as x us nb->iz g nb->(∀b∈nb,g.iR b=az)->xd hp n->
  yW a ts us->∃g',Le g g'/\HRel B g' ((zF as ts x n).2++hp) w/\∀t s,(t,s)∈(zF as ts x n).1->gT g' s (a.tmps.getD t undef)
 |[],ts,x,n,B,g,hp,w,us,nb,Tx,R,hP,hO,hn,hf,hs=>⟨g,Le.refl g,R,λt s h=>by grind [zF]⟩
 |sp::as,[],x,n,B,g,hp,w,us,nb,Tx,R,hP,hO,hn,hf,hs=>⟨g,Le.refl g,R,λt s h=>by grind [zF]⟩
 |sp::as,t::ts,x,n,B,g,hp,w,us,nb,Tx,R,hP,hO,hn,hf,hs=>by
  simp[qU]at Tx;obtain⟨u,r,n1,n2,rfl,rfl,P1,P2⟩:=hP;obtain⟨u',r',e,hu,ad6⟩:=hs
  injection e with e1 e2
  subst e1;subst e2;have qK:=bw.1 hO.1
  have hd:∀y∈n2,y∉n1:=λy h2 h1=>qK.2.2 y h1 y h2 rfl
  have ae3:iz g n1:=⟨qK.1,λy hy=>hO.2 y (aX _ hy)⟩
  have ZH:∀y∈n1,g.iR y=none:=λy hy=>hn y (aX _ hy)
  have one:∃m g1,n<=m/\m=(Ds sp x.1 n).2.2/\xd ((Ds sp x.1 n).2.1++hp) m/\Le g g1/\(∀y,y∉n1->g1.gV y=g.gV y/\g1.iR y=g.iR y)/\HRel B g1 ((Ds sp x.1 n).2.1++hp) w/\∀v,(Ds sp x.1 n).1=U v->iL g1 v u:=by
   cases sp with
   |one s=>
    obtain⟨m1,f1,_,g1,l1,k1,_,R1,c1⟩:=Lz s x.1 (0,0) n aq Tx.1 (λe=>by cases e) R P1.2 ae3 ZH hf;refine⟨_,g1,m1,rfl,f1,l1,k1,R1,λv hv=> ?_⟩;simp[Ds]at hv;split at hv
    ·rename_i c hc
     injection hv with hv
     subst hv;rw[hc]at c1;obtain⟨u'',r'',aW6,aY7,_⟩:=c1
     injection aW6 with aW6
     subst aW6;exact aY7
    simp_all
   |agg s=>
    obtain⟨Qj,rfl,P1⟩:=P1;obtain⟨m1,f1,_,g1,l1,k1,_,R1,c1⟩:=Lz s x.1 (0,0) n aq Tx.1 (λe=>by cases e) R P1 ae3 ZH hf;refine⟨_,g1,m1,rfl,f1,l1,k1,R1,λv hv=> ?_⟩
    injection hv with hv
    subst hv;exact⟨Qj,rfl,c1⟩
  obtain⟨m,g1,m1,em,f1,l1,k1,R1,c1⟩:=one;subst em
  have bb3:kT g1.dC w as x.2 r n2:=by
   have:∀as x us nb,kT g.dC w as x us nb->kT g1.dC w as x us nb:=by
    intro as
    induction as with
    |nil=>intro x us nb h;exact h
    |cons a as ih=>intro x us nb h;obtain⟨u,r,n1,n2,e,e',h1,h2⟩:=h;exact⟨u,r,n1,n2,e,e',h1.mono l1.dC,ih _ _ _ h2⟩
   simp_all
  obtain⟨g2,l2,R2,c2⟩:=yd as ts x.2 (Ds sp x.1 n).2.2 Tx.2 R1 bb3 ⟨qK.2.1,λy hy=>by rw[(k1 y (hd y hy)).1];exact hO.2 y (aZ _ hy)⟩
   (λy hy=>by simp_all) f1 ad6
  refine⟨g2,l1.trans l2, ?_,λt' s ht=> ?_⟩
  ·show HRel B g2 ((_++_)++hp) w;simp_all
  ·simp[zF]at ht;split at ht
   ·rename_i v hv
    rcases bA.1 ht with ht|ht
    ·injection ht with h1 h2
     subst h1;subst h2;show iL g2 v _;rw[hu];exact iL.mono l2 (c1 v hv)
    ·exact c2 t' s ht
   ·exact c2 t' s ht
def Er:∀{l:List (Nat×β)}{n:Nat}{b:β},look l n=U b->(n,b)∈l
 |[],_,_,h=>by cases h
 |(m,c)::r,n,b,h=>by
  simp[look]at h
  cases e:ax m n with
  |true=>rw[e]at h;injection h with h;subst h;rw[beq_eq e];exact aD ..
  |false=>rw[e]at h;exact aB _ (Er h)
def TS (Tx:qU as=av)(R:HRel B g [] w)(hP:kT g.dC w as x us nb)(hO:iz g nb)(hn:∀b∈nb,g.iR b=az)
  (hs:yW a ts us) (rr:a.tmps.size=E.nt) (ac1:a.defers=[]) (hk:∀t∈E.qJ,a.tmps.getD t undef=B.arg t) (aO3:am6 E B) (hI:E.ini=aq) (hF:∀g',HRel B g' (dec ts as x).hp w->j6 g' (dec ts as x).env a->E.fst=av->BB B g'):
  ∃g',Le g g'/\HRel B g' (dec ts as x).hp w/\ActRel E B g' (dec ts as x).env a:=by
 obtain⟨g',l,R',hc⟩:=yd as ts x pv Tx R hP hO hn (λi _=>rfl) hs;rw[aQ]at R';exact⟨g',l,R',⟨λt s ht=>hc t s (Er ht),rr,ac1,hk,aO3,λe=>by simp_all,hF g' R' λt s ht=>hc t s (Er ht)⟩⟩
def HRel.at (R:HRel B g hp w) (g1) (f1):HRel {B with g0:=g1,f0:=f1} g hp w:=
 ⟨R.top,R.iW,R.dC,R.iR,R.iV,R.mN,R.frame,R.size,R.os,R.tape,R.output,R.fix⟩
def blk:Value->Nat
 | .pointer (U p)=>p.block
 |_=>0
def vP (R:HRel B g hp w){n gen t:Nat}{cs:List Cell}(hl:look hp n=U (.box gen (t,cs))):∃b arr,g.cv n gen= .pointer (U ⟨b,0,az⟩)/\w.heap[b]?=U (.cells arr t (0,0))/\dG g cs arr.toList:=by
 obtain⟨b,o,arr,ty,L,e1,_,e2,hc,e3,_,rfl,e4,rfl⟩:=R.iW n _ hl;have:=hc.length
 have:arr.toList=L:=by rw[e3,List.take_zero,List.drop_of_length_le (by omega)];simp
 exact⟨b,arr,e1,e2,by rw[this];exact hc⟩
def JI (h:Pw s=av)(R:HRel B g s.hp w)(V:j6 g s.env a):
  ∃b arr ty q,(0<g.top pv/\0<g.top (pv+1))/\g.cv pv 0= .pointer (U ⟨b,0,az⟩)/\a.tmps.getD 0 undef= .pointer (U ⟨b,0,az⟩)/\w.heap[b]?=U (.cells arr ty (0,0))/\arr.toList=g.cv (pv+1) 0::q:=by
 unfold Pw at h;split at h
 ·rename_i n ty m r h1 h2;rw[aA]at h;obtain rfl:=beq_eq h.1;obtain rfl:=beq_eq h.2;obtain⟨b,arr,c1,c2,x,q,c3,⟨t2,b1,o1,c4,c5⟩,_⟩:=vP R h2;obtain⟨t1,b2,o2,d1,d2⟩:=(V 0 _ h1)
  rw[c1]at d1;injection d1 with d1;injection d1 with d1;injection d1 with d1 d5;subst d1;subst d5
  exact⟨b,arr,ty,q,⟨t1,t2⟩,c1,d2,c2,by rw[c3,c5,c4];rfl⟩
 ·cases h
def Qr (h:Pw s=av)(h':Pw s'=av)(R:HRel B g s.hp w)(V:j6 g s.env a)(R':HRel B' g' s'.hp w)(V':j6 g' s'.env a)(F:BB B g):BB B g':=by
 obtain⟨b,arr,ty,q,t,e1,e2,e3,e4⟩:=JI h R V;obtain⟨b',pT,ER,q',t',f1,f2,f3,f4⟩:=JI h' R' V'
 rw[e2]at f2;injection f2 with f2;injection f2 with f2;injection f2 with f2;subst f2
 rw[e3]at f3;injection f3 with f3;injection f3 with f3;subst f3
 rw[e4]at f4;injection f4 with f4 _
 exact⟨t'.1,t'.2,f1.trans (e1.symm.trans F.2.2.1),f4.symm.trans F.2.2.2⟩
def TN (Tx:qU as=av)(R:HRel B g [] w)(hP:kT g.dC w as x us nb)(hO:iz g nb)(hn:∀b∈nb,g.iR b=az)
  (hs:yW a ts us) (rr:a.tmps.size=E.nt) (ac1:a.defers=[]) (hk:∀t∈E.qJ,a.tmps.getD t undef=B.arg t) (aO3:am6 E B) (hF:rI E.fst (dec ts as x)=av):
  ∃g' f',Le g g'/\HRel {B with g0:=g',f0:=f'} g' (dec ts as x).hp w/\ActRel E {B with g0:=g',f0:=f'} g' (dec ts as x).env a/\(E.fst=av->∃arr ty q,w.heap[f'.1]?=U (.cells arr ty (0,0))/\arr.toList=f'.2::q):=by
 obtain⟨g',l,R',hc⟩:=yd as ts x pv Tx R hP hO hn (λi _=>rfl) hs;rw[aQ]at R'
 have V':j6 g' (dec ts as x).env a:=λt s ht=>hc t s (Er ht)
 refine⟨g',(blk (g'.cv pv 0),g'.cv (pv+1) 0),l,R'.at _ _,⟨V',rr,ac1,hk,aO3,λ_=>Le.refl _,λe=> ?_⟩,λe=> ?_⟩
 all_goals
  rw[e]at hF;obtain⟨b,arr,ty,q,t,e1,e2,e3,e4⟩:=JI hF R' V'
 ·exact⟨t.1,t.2,by rw[e1];rfl,rfl⟩
 ·exact⟨arr,ty,q,by rw[e1];exact e3,e4⟩
open Classical in
theorem HRel.fresh {B:Base}{g:Gh}{hp:List (Nat×Obj)}{w:World}(R:HRel B g hp w){nb:List Nat}(hO:iz g nb):
  ∃g',g'.dC=g.dC/\HRel B g' [] w/\iz g' nb/\∀b∈nb,g'.iR b=none:=by
 refine⟨{dC:=g.dC,top:=λ_=>0,cv:=λ_ _=> .tuple #[],gV:=λx=>if x∈nb then U 0 else az,iR:=λ_=>az,outer:=λ_=>[]},rfl,⟨λ_=>rfl,(λi o h=>by cases h),λb L h=> ?_,(λb L h=>by cases h),λb h=> ?_,R.mN,λb hb hl hi=> ?_,R.size,R.os,R.tape,R.output,R.fix⟩,
  ⟨hO.1,λb hb=>by grind⟩,λ_ _=>rfl⟩
 ·obtain⟨a1,a2,a3⟩:=R.dC b L h
  have:b∉nb:=λhm=>by rw[hO.2 b hm]at a1;grind
  simp_all
 ·by_cases hm:b∈nb
  ·exact R.iV b (by rw[hO.2 b hm];simp)
  simp_all
 ·obtain⟨f1,f2,f3⟩:=R.frame b hb hl hi
  have:b∉nb:=λhm=>by rw[hO.2 b hm]at f1;grind
  simp_all
def AY:∀{ts:List Nat}{s s':St}{vs:List Val},(Jw ts).run s=U (vs,s')->s'=s/\∀{g:Gh}{a:Act},j6 g s.env a->∃us,yW a ts us/\ju g vs us
 |[],_,_,_,h=>by obtain⟨rfl,rfl⟩:=de h;exact⟨rfl,λ_=>⟨[],rfl,rfl⟩⟩
 |t::ts,s,s',vs,h=>by
  obtain⟨v,t1,h1,h2⟩:=AM.dc h;obtain⟨aO2,t2,h3,h4⟩:=AM.dc h2;obtain⟨rfl,rfl⟩:=de h4;simp only[AM.run]at h1;split at h1
  ·rename_i sl HO;obtain⟨rfl,rfl⟩:=xK h1;obtain⟨rfl,hr⟩:=AY h3;refine⟨rfl,λV=> ?_⟩;obtain⟨us,hs,hv⟩:=hr V;exact⟨_::us,⟨_,us,rfl,rfl,hs⟩,⟨_,us,rfl,V t _ HO,hv⟩⟩
  simp_all
def Yq (hI:E.ini=aq){B:Base}{ts ts':List Nat}{as:List VSp}{s s':St}{x:(fF as).den}(hf:rI E.fst s=av)(ZA:rI E.fst (dec ts as x)=av)(h:(enc ts as).run s=U (x,s')){g:Gh}{a:Act}{w:World}(R:HRel B g s.hp w)(V:ActRel E B g s.env a):
  ∃g',(∀b L,g.dC b=U L->g'.dC b=U L)/\HRel B g' (dec ts as x).hp w/\ActRel E B g' (dec ts as x).env a:=by
 obtain⟨Tx,h⟩:=eB h;obtain⟨vs,t,h1,h2⟩:=AM.dc h;obtain⟨rfl,hv⟩:=AY h1;obtain⟨us,hs,hr⟩:=hv V.env;obtain⟨_,Hg⟩:=vr h2;obtain⟨g1,l1,R1,c1⟩:=Hg B g w R;obtain⟨nb,hP,hO,_,_⟩:=c1 us hr;obtain⟨g2,e2,R2,Sb,Xz⟩:=R1.fresh hO;obtain⟨g3,l3,R3,V3⟩:=TS (E:=E) (ts:=ts) Tx R2 (by rw[e2];omega) Sb Xz hs V.size V.defers V.kept V.slf hI (λg' R' V' e=>by rw[e]at hf ZA;exact Qr hf ZA R V.env R' V' (V.fst e));exact⟨g3,λb L hb=>l3.dC b L (by rw[e2];exact l1.le.dC b L hb),R3,V3⟩
def HA (a:Act):List Nat->List Value->Prop
 |[],us=>us=[]
 |t::r,us=>∃b o v,us= .pointer (U ⟨b,o,az⟩)::v/\a.tmps.getD t undef= .pointer (U ⟨b,o,az⟩)/\HA a r v
def WY (a:Act)(w:World):Der->Prop
 |[]=>True
 |d::r=>(match Te d with
  |true=>∃t b arr ty x q,d.2.2=[t]/\a.tmps.getD t undef= .pointer (U ⟨b,0,az⟩)/\w.heap[b]?=U (.cells arr ty (0,0))/\arr.toList=x::q/\a.tmps.getD d.1 undef=x
  |false=>∃vs:List Value,a.tmps.getD d.1 undef= .func (.func d.2.1) #[] vs.toArray/\HA a d.2.2 vs)/\WY a w r
def IG (h:W8 s ts=U p):∃t id gen ty r,ts=[t]/\look s.env t=U (.val (.one (.ptr id gen 0)))/\look s.hp id=U (.box gen (ty, .ptr p.1 p.2 0::r)):=by
 unfold W8 at h;split at h
 ·split at h
  ·split at h
   ·rename_i t _ id gen h1 _ NV ty m k r h2
    cases hb:ax gen NV with
    |false=>rw[hb]at h;cases h
    |true=>
     rw[hb]at h
     injection h with h
     subst h;obtain rfl:=beq_eq hb;exact⟨t,id,gen,ty,r,rfl,h1,h2⟩
   ·cases h
  ·cases h
 ·cases h
def LQ (V:j6 g env a):∀{ts:List Nat}{cs:List (Nat×Nat)}{us:List Value},FO env ts=U cs->xg g cs us->HA a ts us
 |[],cs,us,h,k=>by
  injection h with h
  subst h;exact k
 |t::ts,cs,us,h,k=>by
  simp[FO]at h;split at h
  ·rename_i id gen hl;simp at h;obtain⟨F5,h1,rfl⟩:=h;obtain⟨b,o,v,rfl,ht,pz,hr⟩:=k;have hs:eC g (.ptr id gen 0) (a.tmps.getD t undef):=V t _ hl;obtain⟨_,b',o',e1,e2⟩:=hs;rw[pz]at e1
   injection e1 with e1;injection e1 with e1;injection e1 with e1 e3
   subst e1;subst e3;exact⟨b,o,v,rfl,e2,LQ V h1 hr⟩
  simp_all
def Li (V:j6 g env a):∀{ts:List Nat}{cs:List (Nat×Nat)}{us:List Value},FO env ts=U cs->HA a ts us->xg g cs us
 |[],cs,us,h,k=>by
  injection h with h
  subst h;exact k
 |t::ts,cs,us,h,k=>by
  simp[FO]at h;split at h
  ·rename_i id gen hl;simp at h;obtain⟨F5,h1,rfl⟩:=h;obtain⟨b,o,v,rfl,hu,hr⟩:=k;have hs:eC g (.ptr id gen 0) (a.tmps.getD t undef):=V t _ hl;obtain⟨ht,b',o',e1,e2⟩:=hs;refine⟨b,o,v,rfl,ht, ?_,Li V h1 hr⟩;simp_all
  simp_all
def OO (R:HRel B g s.hp w)(V:j6 g s.env a):∀{Cf:Der},vo s Cf=av->WY a w Cf
 |[],_=>trivial
 |d::r,h=>by
  simp only[vo,aA]at h;refine⟨?_,OO R V h.2⟩;have h1:=h.1;unfold SB EA at h1
  cases hp:Te d with
  |true=>
   rw[hp]at h1;split at h1
   ·rename_i hc;simp at hc
   ·rename_i m k m' k' hl hc;simp only[ah,bj]at hc;obtain⟨p,hc,e⟩:=hc
    injection e with e1 e2;subst e1;subst e2
    obtain⟨t,id,gen,ty,q,e,h2,h3⟩:=IG hc;simp only[aA]at h1;obtain rfl:=beq_eq h1.1;obtain rfl:=beq_eq h1.2;obtain⟨b,arr,c1,c2,u,us,c3,⟨_,b1,o1,c4,c5⟩,_⟩:=vP R h3;obtain⟨_,b2,o2,d1,d2⟩:=(V t _ h2);obtain⟨_,b3,o3,d3,d4⟩:=(V d.1 _ hl);refine⟨t,b,arr,ty,u,us,e, ?_,c2,c3, ?_⟩
    ·rw[c1]at d1;injection d1 with d1;injection d1 with d1;injection d1 with d1 d5;subst d1;subst d5;exact d2
    ·rw[c4]at d3;injection d3 with d3;injection d3 with d3;injection d3 with d3 d5;subst d3;subst d5;rw[d4,c5]
   ·cases h1
  |false=>
   rw[hp]at h1;split at h1
   ·rename_i f nv f' cs hl hc;simp only[af,bj]at hc;obtain⟨F5,hc,e⟩:=hc
    injection e with e1 e2;subst e1;subst e2
    simp only[aA]at h1;obtain rfl:=beq_eq h1.1;obtain rfl:=xG h1.2;obtain⟨vs,e,hv⟩:=(V d.1 _ hl);exact⟨vs,e,LQ V hc hv⟩
   ·rename_i hc;simp at hc
   ·cases h1
def Dr (R:HRel B g s.hp w)(V:j6 g s.env a):∀{Cf:Der},WY a w Cf->j6 g (derive s Cf) a
 |[],_=>V
 |d::r,⟨hd,hr⟩=>by
  have key:∀c,EA s d=U c->eC g c (a.tmps.getD d.1 undef):=by
   intro c hc;unfold EA at hc
   cases hp:Te d with
   |true=>
    rw[hp]at hc hd;obtain⟨t,b,arr,ty,x,q,e,k1,k2,k3,k4⟩:=hd;simp only[ah,bj]at hc;obtain⟨p,hc,rfl⟩:=hc;obtain⟨t',id,gen,ER,q',e',h2,h3⟩:=IG hc
    rw[e]at e';injection e' with e';subst e'
    obtain⟨b',pT,c1,c2,u,us,c3,c4,_⟩:=vP R h3;obtain⟨_,b2,o2,d1,d2⟩:=(V t _ h2)
    rw[c1]at d1;injection d1 with d1;injection d1 with d1;injection d1 with d1 d5;subst d1;subst d5
    rw[k1]at d2;injection d2 with d2;injection d2 with d2;injection d2 with d2 d5;subst d2
    rw[k2]at c2;injection c2 with c2;injection c2 with c2;subst c2
    rw[k3]at c3;injection c3 with c3;subst c3
    rw[k4];exact c4
   |false=>
    rw[hp]at hc hd;obtain⟨vs,e,hv⟩:=hd;simp only[af,bj]at hc;obtain⟨cs,hc,rfl⟩:=hc;exact⟨vs,e,Li V hc hv⟩
  simp only[derive];split
  ·rename_i c hc;intro t s' hl
   by_cases et:d.1=t
   ·subst et;rw[dI]at hl
    injection hl with hl
    subst hl;exact key c hc
   ·rw[dA _ _ et]at hl;exact Dr R V hr t s' hl
  ·exact Dr R V hr
def Eu (hI:E.ini=aq){B:Base}{ts:List Nat}{as:List VSp}{Cf:Der}{s s':St}{x:(fF as).den}(hd:vo s Cf=av)(hf:rI E.fst s=av)(ZA:rI E.fst (dec ts as x)=av)(h:(enc ts as).run s=U (x,s')){g:Gh}{a:Act}{w:World}(R:HRel B g s.hp w)(V:ActRel E B g s.env a):
  ∃g',(∀b L,g.dC b=U L->g'.dC b=U L)/\HRel B g' (NH ts as Cf x).hp w/\ActRel E B g' (NH ts as Cf x).env a:=by
 obtain⟨g',hi,R',V'⟩:=Yq hI (ts':=ts) hf ZA h R V;exact⟨g',hi,R',⟨Dr R' V'.env (OO R V.env hd),V'.size,V'.defers,V'.kept,V'.slf,V'.ini,V'.fst⟩⟩
end Go.Abs
end

section
namespace Go.Abs
def BU (E:Env)(c:Code)(h:Handler):Prop:=
 ∀ρ B s K x Q,h ρ s K=U x->(∀e,KOk E B (K e) x (Q e))->
  ∀g a w,lU E.gU g.dC->HRel B g s.hp w->ActRel E B g s.env a->c.wp E.P Q a w
def pieces:Code->List (Bool×Code)
 | .seq a b=>(aq,b)::(pieces a++pieces b)
 | .cond _ a b=>pieces a++pieces b
 | .block _ c=>pieces c
 | .loop c=>[(av,c)]
 | .scope c=>pieces c
 |_=>[]
structure CutsOk (E:Env)(H:Cuts)(c:Code):Prop where
 loop:∀b,(av,b)∈pieces c->∀h:Handler,(first b).bind H.loop=U h->BU E (.loop b) h
 join:∀b,(aq,b)∈pieces c->∀h:Handler,(first b).bind H.join=U h->BU E b h
theorem CutsOk.sub (h:CutsOk E H c)(hs:∀p∈pieces d,p∈pieces c):CutsOk E H d:=
 ⟨λb hb=>h.loop b (hs _ hb),λb hb=>h.join b (hs _ hb)⟩
def Ip (h:Ev s c=U t)(V:j6 g s.env a):a.eval c= .bool t:=by
 unfold Ev at h;split at h
 ·rename_i t';split at h
  ·rename_i b hb
   injection h with h
   subst h;exact qF (V t' _ hb)
  simp_all
 ·injection h with h;subst h;rfl
 simp_all
def Df (hE:EnvOk E)(hm:E.P.follows .mixedOrders=av){ρ:Type}{B:Base}{H:Cuts}:∀c s K (x:ρ) Q,CutsOk E H c->exec E H c s K=U x->(∀e,KOk E B (K e) x (Q e))->
  ∀g a w,lU E.gU g.dC->HRel B g s.hp w->ActRel E B g s.env a->c.wp E.P Q a w:=by
 intro c
 induction c with
 |skip=>intro s K x Q _ h hK g a w hG R V;exact wp_skip (hK .normal s g a w h hG R V)
 |region id ops draw=>
  intro s K x Q _ h hK g a w hG R V;exact E3 hE hm (hK .normal) h hG R V
 |seq c1 c2 ap0 av7=>
  intro s K x Q hH h hK g a w hG R V
  have h1:CutsOk E H c1:=hH.sub λp hp=>aB _ (aX _ hp)
  have h2:CutsOk E H c2:=hH.sub λp hp=>aB _ (aZ _ hp)
  refine wp_seq (ap0 s _ x _ h1 h (λe=> ?_) g a w hG R V)
  cases e with
  |normal=>
   intro s' g' a' w' hk NY R' V'
   cases hj:(first c2).bind H.join with
   |none=>
    rw[hj]at hk;exact av7 s' K x Q h2 hk hK g' a' w' NY R' V'
   |some hh=>
    rw[hj]at hk;exact hH.join c2 (aD ..) hh hj ρ B s' K x Q hk hK g' a' w' NY R' V'
  |_=>intro s' g' a' w' hk NY R' V';exact hK _ s' g' a' w' hk NY R' V'
 |cond c c1 c2 ap0 av7=>
  intro s K x Q hH h hK g a w hG R V;simp[exec]at h
  cases hb:Ev s c with
  |none=>simp_all
  |some t=>
   rw[hb]at h;refine wp_cond (Ip hb V.env) ?_
   rcases Jd h with⟨rfl,h'⟩|⟨rfl,h'⟩
   ·exact ap0 s K x Q (hH.sub λp hp=>aX _ hp) h' hK g a w hG R V
   ·exact av7 s K x Q (hH.sub λp hp=>aZ _ hp) h' hK g a w hG R V
 |block id c ih=>
  intro s K x Q hH h hK g a w hG R V;refine wp_block (ih s _ x _ (hH.sub λp hp=>hp) h (λe=> ?_) g a w hG R V)
  cases e with
  |exit i=>
   intro s' g' a' w' hk NY R' V';simp at hk;simp only[Exit.inBlock]
   by_cases e:i=id
   ·rw[aj e];subst e;rw[Nat.beq_refl]at hk;exact hK .normal s' g' a' w' hk NY R' V'
   ·rw[ai e]
    have:ax i id=false:=by simp_all[Bool.eq_false_iff,beq_eq]
    rw[this]at hk;exact hK (.exit i) s' g' a' w' hk NY R' V'
  |_=>intro s' g' a' w' hk NY R' V';exact hK _ s' g' a' w' hk NY R' V'
 |loop c ih=>
  intro s K x Q hH h hK g a w hG R V;simp[exec]at h
  cases hj:(first c).bind H.loop with
  |none=>simp_all
  |some hh=>
   rw[hj]at h;exact hH.loop c (aD ..) hh hj ρ B s K x Q h hK g a w hG R V
 |exit i=>intro s K x Q _ h hK g a w hG R V;exact wp_exit (hK (.exit i) s g a w h hG R V)
 |ret=>intro s K x Q _ h hK g a w hG R V;exact wp_ret (hK .ret s g a w h hG R V)
 |label l=>intro s K x Q _ h hK g a w hG R V;exact wp_label (hK .normal s g a w h hG R V)
 |scope c ih=>
  intro s K x Q hH h hK g a w hG R V;refine wp_scope_straight (ih s _ x _ (hH.sub λp hp=>hp) h (λe=> ?_) g a w hG R V)
  cases e with
  |goto l=>intro s' g' a' w' hk;grind
  |_=>intro s' g' a' w' hk NY R' V';exact hK _ s' g' a' w' hk NY R' V'
 |_=>intro s K x Q _ h;cases h
def Ow (h:Jg e e'=av):e=e':=by
 cases e<;>cases e'<;>first|rfl|(cases h;done)|skip
 rw[beq_eq h]
def Eg:∀{ws:List Way1}{e:Exit}{s:St}{y:sB ws}{K:Exit->St->Option ρ}{z:ρ},FM f ws e s=U y->J4 ws y K=U z->
  ∃ts as Cf x s',vo s Cf=av/\rI f s=av/\rI f (dec ts as x)=av/\(enc ts as).run s=U (x,s')/\K e (NH ts as Cf x)=U z
 |[],_,_,_,_,_,h,_=>by cases h
 |w::r,e,s,y,K,z,h,hg=>by
  simp[FM]at h
  cases hs:Jg w.e e with
  |true=>
   rw[hs]at h;have h:(bif vo s w.Cf&&rI f s then(enc w.ts w.as).exec s λz _=>bif rI f (dec w.ts w.as z)then U (.inl z)else az else az)=U y:=h
   cases hd:(vo s w.Cf&&rI f s)with
   |false=>rw[hd]at h;cases h
   |true=>
    rw[hd]at h;rw[aA]at hd;obtain⟨x,s',h1,h2⟩:=qT h
    cases hf:rI f (dec w.ts w.as x)with
    |false=>rw[hf]at h2;cases h2
    |true=>
    rw[hf]at h2
    injection h2 with h2
    subst h2;have hg:K w.e (NH w.ts w.as w.Cf x)=U z:=hg;exact⟨_,_,_,x,s',hd.1,hd.2,hf,h1,by rw[<-Ow hs];exact hg⟩
  |false=>
   rw[hs]at h;simp only[af,bn]at h;obtain⟨y',h1,h2⟩:=h
   injection h2 with h2
   subst h2;exact Eg h1 hg
def uF (P:Program)(c:Code)(Q:Exit->Act->World->Prop)(a:Act)(w:World):Prop:=
 ∀b k cs,∃e a' w',Q e a' w'/\Arrives P (lone (b.at a (.code c:: .inLoop c::k)) cs w) b k cs e a' w'
def uF.wp (h:uF P c Q a w):(Code.loop c).wp P Q a w:=by
 intro b k cs;obtain⟨e,a',w',hq,EO⟩:=h b k cs;exact⟨e,a',w',hq, .of_steps (.one step_loop) EO⟩
def uF.round (h:c.wp P (Exit.then (uF P c Q) Q) a w):uF P c Q a w:=by
 intro b k cs;obtain⟨e,a₁,w₁,hq,EO⟩:=h b (.inLoop c::k) cs
 cases e with
 |normal=>
  obtain⟨e₂,a₂,w₂,bh6,aK0⟩:=hq b k cs;exact⟨e₂,a₂,w₂,bh6, .of_steps (Steps.trans EO (.one step_inLoop)) aK0⟩
 |exit id=>exact⟨_,a₁,w₁,hq, .pass (x:= .inLoop c) rfl (λ_ _=> .inl (by simp)) EO⟩
 |goto l=>exact⟨_,a₁,w₁,hq, .pass (x:= .inLoop c) rfl (λ_ _=> .inl (by simp)) EO⟩
 |ret=>exact⟨_,a₁,w₁,hq, .pass (x:= .inLoop c) rfl (λ_ _=> .inl (by simp)) EO⟩
 |panic ch=>exact⟨_,a₁,w₁,hq, .pass (x:= .inLoop c) rfl (λ_ _=> .inl (by simp)) EO⟩
 |outgrown=>exact⟨_,a₁,w₁,hq, .pass (x:= .inLoop c) rfl (λ_ _=> .inl (by simp)) EO⟩
def xM (E:Env)(c:Cut)(W:(Exit->Act->World->Prop)->Act->World->Prop)(L:(fF c.as).den->Option (sB c.ws)):Prop:=
 ∀x y,L x=U y->∀{ρ:Type} B K (z:ρ) Q,J4 c.ws y K=U z->(∀e,KOk E B (K e) z (Q e))->
  ∀g a w,lU E.gU g.dC->HRel B g (NH c.ts c.as c.Cf x).hp w->ActRel E B g (NH c.ts c.as c.Cf x).env a->W Q a w
def JU (E:Env)(c:Cut)(body:Code)(L:(fF c.as).den->Option (sB c.ws)):Prop:=xM E c (uF E.P body) L
def Nf (E:Env)(c:Cut)(body:Code)(L:(fF c.as).den->Option (sB c.ws)):Prop:=xM E c (λQ=>body.wp E.P Q) L
def JU.none:JU E c body (λ_=> .none):=λx y h=>by cases h
def Nf.none:Nf E c body (λ_=> .none):=λx y h=>by cases h
def WG (hI:E.ini=aq){B:Base}{ρ:Type}{ws:List Way1}{y:sB ws}{K:Exit->St->Option ρ}{z:ρ}{Q:Exit->Act->World->Prop}(hg:J4 ws y K=U z)(hK:∀e,KOk E B (K e) z (Q e)) (e):KOk E B (FM E.fst ws e) y (Q e):=by
 intro s g a w hk hG R V;obtain⟨ts,as,Cf,x,s',hd,hf,ZA,h1,h2⟩:=Eg hk hg;obtain⟨g',hi,R',V'⟩:=Eu hI hd hf ZA h1 R V;exact hK e _ g' a w h2 (hG.mono hi) R' V'
def U2 (hI:E.ini=aq)(hE:EnvOk E)(hm:E.P.follows .mixedOrders=av){H:Cuts}{c:Cut}{body:Code}(hH:CutsOk E H body){L:(fF c.as).den->Option (sB c.ws)}(hL:JU E c body L):JU E c body (c.round E H body L):=by
 intro x y h ρ B K z Q hg hK g a w hG R V
 apply uF.round
 refine Df hE hm body _ _ y _ hH h (λe=> ?_) g a w hG R V
 cases e with
 |normal=>
  intro s' g' a' w' hk NY R' V';have hk:(bif vo s' c.Cf&&rI E.fst s' then(enc c.ts c.as).exec s' λx' _=>bif rI E.fst (dec c.ts c.as x')then L x' else az else az)=U y:=hk
  cases hd:(vo s' c.Cf&&rI E.fst s')with
  |false=>rw[hd]at hk;cases hk
  |true=>
   rw[hd]at hk;rw[aA]at hd;obtain⟨x',s'',h1,h2⟩:=qT hk
   cases hf:rI E.fst (dec c.ts c.as x')with
   |false=>rw[hf]at h2;cases h2
   |true=>
   rw[hf]at h2;obtain⟨g2,hi,R2,V2⟩:=Eu hI hd.1 hd.2 hf h1 R' V';exact hL x' y h2 B K z Q hg hK g2 a' w' (NY.mono hi) R2 V2
 |_=>exact WG hI hg hK _
def zI (hI:E.ini=aq)(hE:EnvOk E)(hm:E.P.follows .mixedOrders=av){H:Cuts}{c:Cut}{body:Code}(hH:CutsOk E H body):Nf E c body (c.tail E H body):=by
 intro x y h ρ B K z Q hg hK g a w hG R V;exact Df hE hm body _ _ y _ hH h (λe=>WG hI hg hK e) g a w hG R V
def Mh (hI:E.ini=aq){c:Cut}{body:Code}{L:(fF c.as).den->Option (sB c.ws)}(hL:JU E c body L):BU E (.loop body) (c.Cb E.fst L):=by
 intro ρ B s K x Q h hK g a w hG R V;have h:(bif vo s c.Cf&&rI E.fst s then(enc c.ts c.as).exec s λx _=>bif rI E.fst (dec c.ts c.as x)then(L x).bind λy=>J4 c.ws y K else az else az)=U x:=h
 cases hd:(vo s c.Cf&&rI E.fst s)with
 |false=>rw[hd]at h;cases h
 |true=>
  rw[hd]at h;rw[aA]at hd;obtain⟨x0,s',h1,h2⟩:=qT h
  cases hf:rI E.fst (dec c.ts c.as x0)with
  |false=>rw[hf]at h2;cases h2
  |true=>
  rw[hf]at h2;simp only[ah,bn]at h2;obtain⟨y,h3,h4⟩:=h2;obtain⟨g2,hi,R2,V2⟩:=Eu hI hd.1 hd.2 hf h1 R V;exact(hL x0 y h3 B K x Q h4 hK g2 a w (hG.mono hi) R2 V2).wp
def MF (hI:E.ini=aq){c:Cut}{body:Code}{L:(fF c.as).den->Option (sB c.ws)}(hL:Nf E c body L):BU E body (c.Cb E.fst L):=by
 intro ρ B s K x Q h hK g a w hG R V;have h:(bif vo s c.Cf&&rI E.fst s then(enc c.ts c.as).exec s λx _=>bif rI E.fst (dec c.ts c.as x)then(L x).bind λy=>J4 c.ws y K else az else az)=U x:=h
 cases hd:(vo s c.Cf&&rI E.fst s)with
 |false=>rw[hd]at h;cases h
 |true=>
  rw[hd]at h;rw[aA]at hd;obtain⟨x0,s',h1,h2⟩:=qT h
  cases hf:rI E.fst (dec c.ts c.as x0)with
  |false=>rw[hf]at h2;cases h2
  |true=>
  rw[hf]at h2;simp only[ah,bn]at h2;obtain⟨y,h3,h4⟩:=h2;obtain⟨g2,hi,R2,V2⟩:=Eu hI hd.1 hd.2 hf h1 R V;exact hL x0 y h3 B K x Q h4 hK g2 a w (hG.mono hi) R2 V2
end Go.Abs
end

section
namespace Go.Abs
def Pass.back:∀{s:Sp}{x:s.ty.den}{pl:Nat×Nat}{old us:List Value}{nb:List Nat},s.plain=av->Pass dC w s x pl us nb->rq dC w0 w s x pl old us nb
 | .un,_,_,_,_,_,_,k=>k
 | .pr _ _,_,_,_,_,_,hp,⟨u1,u2,n1,n2,e,e',k1,k2⟩=>by
  simp only[Sp.plain,aA]at hp;exact⟨u1,u2,n1,n2,e,e',Pass.back hp.1 k1,Pass.back hp.2 k2⟩
 | .fT _,_,_,_,_,_,_,k=>k
 | .own _ _,_,_,_,_,_,_,k=>k
 | .vp,_,_,_,_,_,_,k=>k
 | .CV _,_,_,_,_,_,hp,_=>by cases hp
 | .err,_,_,_,_,_,_,k=>k
 | .np,_,_,_,_,_,_,k=>k
 | .slf _ _,_,_,_,_,_,hp,_=>by cases hp
 | .ptr _ _ _,_,_,_,_,_,hp,_=>by cases hp
 | .lnd _ _,_,_,_,_,_,hp,_=>by cases hp
def vD.res (hp:a.sp.plain=av)(h:vD dC w a x u nb):Br dC w a x u nb:=by
 cases a with
 |one s=>exact⟨h.1,Pass.back hp h.2⟩
 |agg s=>obtain⟨us,e,h⟩:=h;exact⟨us,e,Pass.back hp h⟩
def kT.res:∀{as:List VSp}{x:(fF as).den}{us:List Value}{nb:List Nat},BX as=av->kT dC w as x us nb->vE dC w as x us nb
 |[],_,_,_,_,h=>h
 |_::_,_,_,_,hp,⟨u,r,n1,n2,e,e',h1,h2⟩=>by
  simp[BX]at hp;exact⟨u,r,n1,n2,e,e',h1.res hp.1,kT.res hp.2 h2⟩
def JV (tmps:Array Value):ResultVar->Sem Value
 | .tmp t=>pure (tmps.getD t undef)
 | .cell c t=>do loadVar t (<-asAddr (tmps.getD c undef))
def MB (h:(Nv E r).run s=U (v,s')):s'.env=s.env/\∀{B:Base}{g:Gh}{a:Act}{w:World},lU E.gU g.dC->HRel B g s.hp w->j6 g s.env a->
  ∃u g',(JV a.tmps r).run E.P w= .ok u w/\Le g g'/\HRel B g' s'.hp w/\iL g' v u:=by
 cases r with
 |tmp t=>
  simp only[Nv,AM.run]at h;split at h
  ·rename_i sl HO;obtain⟨rfl,rfl⟩:=xK h;exact⟨rfl,λ_ R V=>⟨_,_,rfl,Le.refl _,R,V t _ HO⟩⟩
  simp_all
 |cell c t=>
  simp only[Nv,AM.run]at h;split at h
  ·rename_i sl HO;obtain⟨ag,t2,h3,h4⟩:=AM.dc h;obtain⟨n,t3,h5,h6⟩:=AM.dc h4;obtain⟨cs,t4,h7,h9⟩:=AM.dc h6;obtain⟨R9,rfl⟩:=fL h3;obtain⟨hn,rfl⟩:=fL h5;obtain rfl:=Jv h9;obtain⟨he,hr⟩:=IY h7;refine⟨he,λ{B g a w} hG R V=> ?_⟩;obtain⟨b,o',us,g',e,L7,hlen,l,R',hc⟩:=hr hG.one R (V c _ HO);obtain⟨_,hv⟩:=Be h9 hc;have F6:=IB (E:=E) (w:=w) R9 hn hlen L7
   have hrun':(loadVar t ⟨b,o',az⟩).run E.P w= .ok (if ag then .agg us.toArray else us.getD 0 undef) w:=by simp_all[bu1,bq7]
   refine⟨if ag then .agg us.toArray else us.getD 0 undef,g', ?_,l,R', ?_⟩
   ·show(do loadVar t (<-asAddr (a.tmps.getD c undef))).run E.P w=_;simp_all[asAddr]
   grind
  simp_all
def tM:∀{rs:List ResultVar}{s s':St}{vs:List Val},(ED E rs).run s=U (vs,s')->s'.env=s.env/\∀{B:Base}{g:Gh}{a:Act}{w:World},lU E.gU g.dC->HRel B g s.hp w->j6 g s.env a->
  ∃us g',(rs.mapM (JV a.tmps)).run E.P w= .ok us w/\Le g g'/\HRel B g' s'.hp w/\ju g' vs us
 |[],s,s',vs,h=>by
  obtain⟨rfl,rfl⟩:=de h;exact⟨rfl,λ_ R _=>⟨[],_,by simp,Le.refl _,R,rfl⟩⟩
 |r::rs,s,s',vs,h=>by
  obtain⟨v,t,h1,h2⟩:=AM.dc h;obtain⟨aO2,t2,h3,h4⟩:=AM.dc h2;obtain⟨rfl,rfl⟩:=de h4;obtain⟨e1,k1⟩:=MB h1;obtain⟨e2,k2⟩:=tM h3;refine⟨e2.trans e1,λ{B g a w} hG R V=> ?_⟩;obtain⟨u,g1,a1,l1,R1,v1⟩:=k1 hG R V;obtain⟨us,g2,a2,l2,R2,v2⟩:=k2 (hG.mono l1.dC) R1 (by rw[e1];exact V.mono l1);refine⟨u::us,g2, ?_,l1.trans l2,R2,⟨u,us,rfl,v1.mono l2,v2⟩⟩;simp_all
def A7:∀{sp:Sp}{p:sp.tg.den}{s s':St},(Tk sp).run s=U (p,s')->s'=s/\∀dC w0 w us,EK dC w0 w sp p us []
 | .un,_,_,_,h=>by obtain⟨rfl,rfl⟩:=de h;exact⟨rfl,λ_ _ _ _=>rfl⟩
 | .fT _,_,_,_,h=>by obtain⟨rfl,rfl⟩:=de h;exact⟨rfl,λ_ _ _ _=>rfl⟩
 | .own _ _,_,_,_,h=>by obtain⟨rfl,rfl⟩:=de h;exact⟨rfl,λ_ _ _ _=>rfl⟩
 | .CV _,_,_,_,h=>by obtain⟨rfl,rfl⟩:=de h;exact⟨rfl,λ_ _ _ _=>rfl⟩
 | .vp,_,_,_,h=>by obtain⟨rfl,rfl⟩:=de h;exact⟨rfl,λ_ _ _ _=>rfl⟩
 | .err,_,_,_,h=>by obtain⟨rfl,rfl⟩:=de h;exact⟨rfl,λ_ _ _ _=>rfl⟩
 | .np,_,_,_,h=>by obtain⟨rfl,rfl⟩:=de h;exact⟨rfl,λ_ _ _ _=>rfl⟩
 | .slf _ _,_,_,_,h=>by obtain⟨rfl,rfl⟩:=de h;exact⟨rfl,λ_ _ _ _=>rfl⟩
 | .ptr _ _ _,_,_,_,h=>by cases h
 | .lnd _ _,_,_,_,h=>by cases h
 | .pr a b,p,s,s',h=>by
  obtain⟨x,t,h1,h2⟩:=AM.dc h;obtain⟨y,t2,h3,h4⟩:=AM.dc h2;obtain⟨rfl,rfl⟩:=de h4;obtain⟨rfl,k1⟩:=A7 h1;obtain⟨rfl,k2⟩:=A7 h3;exact⟨rfl,λdC w0 w us=>⟨[],[],rfl,k1 _ _ _ _,k2 _ _ _ _⟩⟩
def dG.head (h:dG g (c::cs) us){n:Nat}{Ts:List Value}(e:Ts=us.take (n+1)):∃u,eC g c u/\Ts=u::(us.drop 1).take n:=by
 obtain⟨u,r,e',hu,_⟩:=h;simp_all
def OM (P1:Pass dC w (.ptr av st s) x pl us nb)(P0:Pass mN w0 (.ptr av st s) x0 aN8 us Qi)
  (k:∀b arr nh ty GD n1 n0,us=[.pointer (U ⟨b,0,az⟩)]->w.heap[b]?=U (.cells arr ty (0,0))->w0.heap[b]?=U (.cells nh GD (0,0))->Pass dC w s x (b,0) arr.toList n1->Pass mN w0 s x0 (b,0) nh.toList n0->rq dC w0 w s x (b,0) nh.toList arr.toList n1):rq dC w0 w (.ptr av st s) x pl us us nb:=by
 obtain⟨b,o,arr,ty,lW,e,rfl,ha,aY2,_,be4⟩:=P1;obtain⟨rfl,rr,rfl⟩:=aY2.1 rfl;obtain⟨b0,o0,nh,GD,nb0',e0,_,UW,a09,_,hP0⟩:=P0;obtain⟨rfl,hsz0,rfl⟩:=a09.1 rfl;rw[e]at e0
 injection e0 with e0 _;injection e0 with e0;injection e0 with e0;injection e0 with e0 _
 subst e0
 have Ay:(arr.toList.drop 0).take s.size=arr.toList:=by
  simp_all[bY,bo4]
 have hall0:(nh.toList.drop 0).take s.size=nh.toList:=by
  simp_all[bY,bo4]
 refine⟨b,0,nh,_,arr,arr.toList,lW,e,rfl,rfl,UW,ha, ?_,by simp_all,by omega, ?_⟩
 all_goals grind
def Oz (h:(stays Ax c).run s=U ((),s')):s'=s/\∀{B:Base}{g0 g:Gh}{w0 w:World}{us:List Value},HRel B g0 Ax w0->Le g0 g->HRel B g s.hp w->dG g [c] us->
  ∃b arr ty nh GD x q q0,us=[.pointer (U ⟨b,0,az⟩)]/\w.heap[b]?=U (.cells arr ty (0,0))/\w0.heap[b]?=U (.cells nh GD (0,0))/\arr.toList=x::q/\nh.toList=x::q0:=by
 unfold stays at h;split at h
 ·rename_i n;obtain⟨hb,h⟩:=eB h;simp only[AM.run]at h;split at h
  ·rename_i t m r hl;obtain⟨hm,h⟩:=eB h;obtain⟨_,rfl⟩:=de h;obtain rfl:=beq_eq hm;refine⟨rfl,λ{B g0 g w0 w us} R0 l R hc=> ?_⟩;unfold aa4 at hb;split at hb
   ·rename_i t0 m0 r0 ZG;simp only[aA]at hb;obtain rfl:=beq_eq hb.1;obtain⟨b,arr,e1,e2,x,q,e3,⟨_,b1,o1,e4,e5⟩,_⟩:=vP R hl;obtain⟨b',nh,f1,f2,x0,q0,f3,⟨_,b1',o1',f4,f5⟩,_⟩:=vP R0 ZG
    have t1:0<g0.top n:=by rw[R0.top,ZG];exact Nat.succ_pos _
    have t2:0<g0.top (n+1):=by
     rw[R0.top]
     cases hq:look Ax (n+1)with
     |none=>rw[hq]at hb;cases hb.2
     |some o=>exact Nat.succ_pos _
    rw[l.cv n 0 t1,f1]at e1;rw[l.cv (n+1) 0 t2,f4]at e4
    injection e1 with e1;injection e1 with e1;injection e1 with e1 _
    subst e1
    injection e4 with e4;injection e4 with e4;injection e4 with e4 e6
    subst e4;subst e6;obtain⟨u,r,rfl,⟨_,bb,oo,q1,rfl⟩,hr⟩:=hc;subst hr;rw[l.cv n 0 t1,f1]at q1
    injection q1 with q1;injection q1 with q1;injection q1 with q1 q2
    subst q1;subst q2;exact⟨b',arr,_,nh,_,x,q,q0,rfl,e2,f2,e3,by rw[f3,f5,e5]⟩
   ·cases hb
  ·cases h
 ·cases h
def MC (h:(Nj c).run s=U ((),s')):s'=s/\∀{B:Base}{g:Gh}{w0 w:World}{us:List Value},BB B g->(∃arr ty q,w0.heap[B.f0.1]?=U (.cells arr ty (0,0))/\arr.toList=B.f0.2::q)->HRel B g s.hp w->dG g [c] us->
  ∃b arr ty nh GD x q q0,us=[.pointer (U ⟨b,0,az⟩)]/\w.heap[b]?=U (.cells arr ty (0,0))/\w0.heap[b]?=U (.cells nh GD (0,0))/\arr.toList=x::q/\nh.toList=x::q0:=by
 unfold Nj at h;split at h
 ·rename_i n;obtain⟨hb,h⟩:=eB h;obtain rfl:=beq_eq hb
  have h:(AM.nr pv fun
   |some (.box 0 (_, .ptr m 0 0::_))=>bif ax m (pv+1)then .ret ()else .fail
   |_=> .fail).run s=U ((),s'):=h
  simp only[AM.run]at h;split at h
  ·rename_i t m r hl;obtain⟨hm,h⟩:=eB h;obtain⟨_,rfl⟩:=de h;obtain rfl:=beq_eq hm;refine⟨rfl,λ{B g w0 w us} F ⟨nh,GD,q0,k1,k2⟩ R hc=> ?_⟩;obtain⟨b,arr,e1,e2,x,q,e3,⟨_,b1,o1,e4,e5⟩,_⟩:=vP R hl;obtain⟨u,r,rfl,⟨_,bb,oo,q1,rfl⟩,hr⟩:=hc;subst hr;rw[e1]at q1
   injection q1 with q1;injection q1 with q1;injection q1 with q1 q2
   subst q1;subst q2;have hb:b=B.f0.1:=congrArg blk (e1.symm.trans F.2.2.1);subst hb
   have hx:x=B.f0.2:=by rw[<-F.2.2.2,e5,e4];rfl
   exact⟨_,arr,t,nh,GD,x,q,q0,rfl,e2,k1,e3,by rw[hx];exact k2⟩
  ·cases h
 ·cases h
def Mb:∀{sp:Sp}{cells:List Cell}{s s':St}{p:sp.tg.den}{rest:List Cell},(Nw ini fst Ax sp cells).run s=U ((p,rest),s')->s'.env=s.env/\rest=cells.drop sp.size/\
  ∀{B:Base} {g:Gh} {w0 w:World} {mN:Rd} {x0:sp.ty.den} {rp:Nat×Nat} {us:List Value} {Qi:List Nat},(ini=av->∃g0,HRel B g0 Ax w0/\Le g0 g)->(fst=av->BB B g/\∃arr ty q,w0.heap[B.f0.1]?=U (.cells arr ty (0,0))/\arr.toList=B.f0.2::q)->HRel B g s.hp w->dG g (cells.take sp.size) us->Pass mN w0 sp x0 rp us Qi->
   ∃g' nb,Lk g g'/\HRel B g' s'.hp w/\iz g' nb/\(∀b∈nb,g.gV b≠U 0)/\EK g'.dC w0 w sp p us nb:=by
 intro sp
 have nil:∀{sp:Sp} {p:sp.tg.den} {B:Base} {g:Gh} {hp:List (Nat×Obj)} {w0 w:World} {us:List Value},HRel B g hp w->(∀dC,EK dC w0 w sp p us [])->
   ∃g' nb,Lk g g'/\HRel B g' hp w/\iz g' nb/\(∀b∈nb,g.gV b≠U 0)/\EK g'.dC w0 w sp p us nb:=λ{sp p B g hp w0 w us} R h=>
  ⟨g,[],Lk.refl g,R,⟨bf,λb hb=>by simp_all⟩,λb hb=>by simp_all,h _⟩
 induction sp with
 |un=>intro cells s s' p rest h;obtain⟨h1,rfl⟩:=de h;injection h1 with h1 h2;subst h2;exact⟨rfl,rfl,λ_ _ R _ _=>nil R λ_=>rfl⟩
 |fT τ=>intro cells s s' p rest h;cases cells with|nil=>exact nomatch h|cons c cs=>obtain⟨h1,rfl⟩:=de h;injection h1 with h1 h2;subst h2;exact⟨rfl,rfl,λ_ _ R _ _=>nil R λ_=>rfl⟩
 |own τ dp=>intro cells s s' p rest h;cases cells with|nil=>exact nomatch h|cons c cs=>obtain⟨h1,rfl⟩:=de h;injection h1 with h1 h2;subst h2;exact⟨rfl,rfl,λ_ _ R _ _=>nil R λ_=>rfl⟩
 |err=>intro cells s s' p rest h;cases cells with|nil=>exact nomatch h|cons c cs=>obtain⟨h1,rfl⟩:=de h;injection h1 with h1 h2;subst h2;exact⟨rfl,rfl,λ_ _ R _ _=>nil R λ_=>rfl⟩
 |np=>intro cells s s' p rest h;cases cells with|nil=>exact nomatch h|cons c cs=>obtain⟨h1,rfl⟩:=de h;injection h1 with h1 h2;subst h2;exact⟨rfl,rfl,λ_ _ R _ _=>nil R λ_=>rfl⟩
 |slf f m=>intro cells s s' p rest h;cases cells with|nil=>exact nomatch h|cons c cs=>obtain⟨h1,rfl⟩:=de h;injection h1 with h1 h2;subst h2;exact⟨rfl,rfl,λ_ _ R _ _=>nil R λ_=>rfl⟩
 |vp=>intro cells s s' p rest h;cases cells<;>exact nomatch h
 |CV ok=>intro cells s s' p rest h;cases cells with|nil=>exact nomatch h|cons c cs=>obtain⟨h1,rfl⟩:=de h;injection h1 with h1 h2;subst h2;exact⟨rfl,rfl,λ_ _ R _ _=>nil R λ_=>rfl⟩
 |pr a b EY EW=>
  intro cells s s' p rest h;obtain⟨⟨p1,r1⟩,t,h1,h2⟩:=AM.dc h;obtain⟨⟨q1,q2⟩,t2,h3,h4⟩:=AM.dc h2;obtain⟨h5,rfl⟩:=de h4
  injection h5 with h5 h6
  subst h5;subst h6;obtain⟨ea,ra,sa⟩:=EY h1;obtain⟨eb,rb,sb⟩:=EW h3;refine⟨eb.trans ea,by rw[rb,ra,bX],λ{B g w0 w mN x0 rp us Qi} hI hF R hc hP=> ?_⟩;obtain⟨u1,u2,m1,m2,rfl,rfl,P1,P2⟩:=hP;have om:=P1.length
  have c1:dG g (cells.take a.size) u1:=by
   have:=hc.take a.size;rw[cj,bn6 (by show a.size<=a.size+b.size;omega),<-om,bq8,om]at this;exact this
  have c2:dG g (r1.take b.size) u2:=by
   have:=hc.drop a.size;rw[show(Sp.pr a b).size=a.size+b.size from rfl,cz,show a.size+b.size - a.size=b.size by omega,<-ra,<-om,bn0]at this;exact this
  obtain⟨g1,n1,l1,R1,O1,f1,X1⟩:=sa hI hF R c1 P1;obtain⟨g2,n2,l2,R2,O2,f2,X2⟩:=sb (λe=>(hI e).imp λ_ q=>⟨q.1,q.2.trans l1.le⟩) (λe=>⟨(hF e).1.mono l1.le,(hF e).2⟩) R1 (c2.mono l1.le) P2;refine⟨g2,n1++n2,l1.trans l2,R2,iz.append l2 O1 O2 f2,λb hb=> ?_,n1,n2,rfl, ?_, ?_⟩
  ·rcases aP.1 hb with hb|hb
   ·exact f1 b hb
   ·exact λe=>f2 b hb (l1.kp b e).1
  ·rw[<-om,bq8];exact vQ l2.le.dC X1
  ·rw[<-om,bn0];exact X2
 |lnd τ dp=>
  intro cells s s' p rest h
  cases cells with
  |nil=>exact nomatch h
  |cons c cs=>
   obtain⟨⟨x,r⟩,t,h1,h2⟩:=AM.dc h;obtain⟨h3,rfl⟩:=de h2
   injection h3 with h3 h4
   subst h3;subst h4;obtain⟨k,_,hs⟩:=zB (.own τ dp) _ _ _ _ _ _ h1;refine⟨k.1,rfl,λ{B g w0 w mN x0 rp us Qi} hI hF R hc hP=> ?_⟩;obtain⟨g',l,R',ZF⟩:=hs B g w R;obtain⟨u1,u2,nb,e,P1,O1,r1,f1,_⟩:=ZF us (0,0) hc (mi.none _ _);have hl:us.length=1:=hP.length;have om:u1.length=1:=P1.length;have Cx:u2=[]:=bu (by have:=congrArg bo0 e;simp at this;omega);subst Cx;rw[aQ]at e;subst e;exact⟨g',nb,l,R',O1,f1,rfl,P1⟩
 |ptr wh st sr ih=>
  intro cells s s' p rest h
  cases cells with
  |nil=>exact nomatch h
  |cons c cs=>
   have fin:wh=av/\((Dz (.ptr wh st sr) az [c]).bind λp=>AM.ret (p.1,cs)).run s=U ((p,rest),s')/\(∀{B:Base} {g g':Gh} {w0 w:World} {mN:Rd} {x0:sr.ty.den} {us:List Value},(ini=av->∃g0,HRel B g0 Ax w0/\Le g0 g)->(fst=av->BB B g/\∃arr ty q,w0.heap[B.f0.1]?=U (.cells arr ty (0,0))/\arr.toList=B.f0.2::q)->HRel B g s.hp w->dG g [c] us->∀b arr nh ty GD n1 n0,us=[.pointer (U ⟨b,0,az⟩)]->w.heap[b]?=U (.cells arr ty (0,0))->w0.heap[b]?=U (.cells nh GD (0,0))->Pass g'.dC w sr p (b,0) arr.toList n1->Pass mN w0 sr x0 (b,0) nh.toList n0->rq g'.dC w0 w sr p (b,0) nh.toList arr.toList n1):=by
    have h0:(bif sr.plain&&wh then(Dz (.ptr wh st sr) az [c]).bind λp=>AM.ret (p.1,cs)else bif sr.inner&&wh then(bif ini then stays Ax c else bif fst then Nj c else .fail).bind λ_=>(Dz (.ptr wh st sr) az [c]).bind λp=> .ret (p.1,cs)else .fail).run s=U ((p,rest),s'):=h
    cases hb:(sr.plain&&wh)with
    |true=>
     rw[hb]at h0;rw[aA]at hb;exact⟨hb.2,h0,λ_ _ _ _ b arr nh ty GD n1 n0 _ _ _ q _=>q.back hb.1⟩
    |false=>
     rw[hb]at h0;obtain⟨CW,h0⟩:=eB (b:=sr.inner&&wh) h0;rw[aA]at CW;obtain⟨⟨⟩,t,h1,h2⟩:=AM.dc h0
     have qc:t=s/\∀{B:Base} {g:Gh} {w0 w:World} {us:List Value},(ini=av->∃g0,HRel B g0 Ax w0/\Le g0 g)->(fst=av->BB B g/\∃arr ty q,w0.heap[B.f0.1]?=U (.cells arr ty (0,0))/\arr.toList=B.f0.2::q)->HRel B g s.hp w->dG g [c] us->
       ∃b arr ty nh GD x q q0,us=[.pointer (U ⟨b,0,az⟩)]/\w.heap[b]?=U (.cells arr ty (0,0))/\w0.heap[b]?=U (.cells nh GD (0,0))/\arr.toList=x::q/\nh.toList=x::q0:=by
      cases ini with
      |true=>
       obtain⟨rfl,k⟩:=Oz h1;exact⟨rfl,λhI _ R hc=>by obtain⟨g0,R0,l0⟩:=hI rfl;exact k R0 l0 R hc⟩
      |false=>
       cases fst with
       |false=>cases h1
       |true=>
        obtain⟨rfl,k⟩:=MC h1;exact⟨rfl,λ_ hF R hc=>k (hF rfl).1 (hF rfl).2 R hc⟩
     obtain⟨rfl,qc⟩:=qc;refine⟨CW.2,h2,λ{B g g' w0 w mN x0 us} hI hF R hc b arr nh ty GD n1 n0 e ha UW q q0=> ?_⟩;obtain⟨b',a1,t1,a2,t2,v,v1,v2,e',f1,f2,f3,f4⟩:=qc hI hF R hc;rw[e]at e'
     injection e' with e' _;injection e' with e';injection e' with e';injection e' with e' _
     subst e';rw[ha]at f1
     injection f1 with f1;injection f1 with f1 _
     subst f1;rw[UW]at f2
     injection f2 with f2;injection f2 with f2 _
     subst f2
     have one:∀{i1 i0:Rd} {Zr:Bool} {P7:PT} {s2:Sp} {x x0:s2.ty.den} {u u0:List Value} {pl aN8:Nat×Nat} {m m0:List Nat},(s2.plain&&Zr)=av->Pass i1 w (.ptr Zr P7 s2) x pl u m->Pass i0 w0 (.ptr Zr P7 s2) x0 aN8 u0 m0->u.head?=u0.head?->u0=u/\rq i1 w0 w (.ptr Zr P7 s2) x pl u u m:=by
      intro i1 i0 Zr P7 s2 x x0 u u0 pl aN8 m m0 hp P P0 hh;rw[aA]at hp;obtain⟨BH,rfl⟩:=hp;have l1:u.length=1:=P.length;have l0:u0.length=1:=P0.length
      have e:u0=u:=by
       match u,u0,l1,l0 with
       |[a],[b],_,_=>simpa using hh.symm
      subst e;exact⟨rfl,OM P P0 λb arr nh ty GD n1 n0 _ _ _ q _=>q.back BH⟩
     cases sr with
     |ptr Zr P7 s2=>
      obtain⟨k1,k2⟩:=one CW.1 q q0 (by rw[f3,f4];rfl);rw[k1];exact k2
     |pr sa sb=>
      cases sa with
      |ptr Zr P7 s2=>
       have hi:(s2.plain&&Zr&&sb.plain)=true:=CW.1;rw[aA]at hi;obtain⟨u1,u2,m1,m2,e1,e2,P1,P2⟩:=q;obtain⟨ap9,a89,m1',m2',Zt,e2',ao3,bb3⟩:=q0;have l1:u1.length=1:=P1.length;have bi6:ap9.length=1:=ao3.length
       have hh:u1.head?=ap9.head?:=by
        match u1,ap9,l1,bi6 with
        |[c1],[c2],_,_=>
         rw[f3]at e1;rw[f4]at Zt
         injection e1 with e1 _;injection Zt with Zt _
         rw[<-e1,<-Zt]
       obtain⟨k1,k2⟩:=one hi.1 P1 ao3 hh;subst k1;refine⟨ap9,u2,m1,m2,e1,e2, ?_,P2.back hi.2⟩
       have:nh.toList.take (Sp.ptr Zr P7 s2).size=ap9:=by rw[Zt];exact List.take_left' l1
       rw[this];exact k2
      |_=>exact absurd CW.1 (by simp[Sp.inner])
     |_=>exact absurd CW.1 (by simp[Sp.inner])
   obtain⟨rfl,h0,key⟩:=fin;obtain⟨⟨x,r⟩,t,h1,h2⟩:=AM.dc h0;obtain⟨h3,rfl⟩:=de h2
   injection h3 with h3 h4
   subst h3;subst h4;obtain⟨k,_,hs⟩:=zB (.ptr av st sr) _ _ _ _ _ _ h1;refine⟨k.1,rfl,λ{B g w0 w mN x0 rp us Qi} hI hF R hc hP=> ?_⟩;obtain⟨g',l,R',ZF⟩:=hs B g w R;obtain⟨u1,u2,nb,e,P1,O1,r1,f1,_⟩:=ZF us (0,0) hc (mi.none _ _);have hl:us.length=1:=hP.length;have om:u1.length=1:=P1.length;have Cx:u2=[]:=bu (by have:=congrArg bo0 e;simp at this;omega);subst Cx;rw[aQ]at e;subst e;exact⟨g',nb,l,R',O1,f1,OM P1 hP (key hI hF R hc)⟩
def KO:∀{as:List VSp}{n:Nat}{s s':St}{y:(tH as).den},(M8 E.ini E.fst Ax E.qJ as n).run s=U (y,s')->
  ∀{B:Base} {g:Gh} {a:Act} {w0 w:World} {mN:Rd} {x0:(fF as).den} {args:List Value} {Qi:List Nat},(E.ini=av->∃g0,HRel B g0 Ax w0/\Le g0 g)->(E.fst=av->∃arr ty q,w0.heap[B.f0.1]?=U (.cells arr ty (0,0))/\arr.toList=B.f0.2::q)->HRel B g s.hp w->ActRel E B g s.env a->kT mN w0 as x0 args Qi->(∀k u,args[k]?=U u->B.arg (n+k)=u)->
   ∃g' nb,Lk g g'/\HRel B g' s'.hp w/\iz g' nb/\(∀b∈nb,g.gV b≠U 0)/\nW g'.dC w0 w as y args nb:=by
 intro as
 induction as with
 |nil=>
  intro n s s' y h B g a w0 w mN x0 args Qi hI hF R V hP hA;obtain⟨_,rfl⟩:=de h;exact⟨g,[],Lk.refl g,R,⟨bf,λb hb=>by simp_all⟩,λb hb=>by simp_all,hP.1,rfl⟩
 |cons sp as ih=>
  intro n s s' y h B g a w0 w mN x0 args Qi hI hF R V hP hA;obtain⟨u,r,m1,m2,rfl,rfl,P1,P2⟩:=hP
  have Ql:∀k v,r[k]?=U v->B.arg (n+1+k)=v:=λk v hk=>by
   have:=hA (k+1) v (by simp_all)
   grind
  obtain⟨p,t,h1,h2⟩:=AM.dc h;obtain⟨q,t2,h3,h4⟩:=AM.dc h2;obtain⟨rfl,rfl⟩:=de h4
  cases ho:sp.sp.Nt with
  |false=>
   rw[ho]at h1;obtain⟨rfl,k⟩:=A7 h1;obtain⟨g',nb,l,R',hO,hf,hX⟩:=ih h3 hI hF R V P2 Ql;exact⟨g',nb,l,R',hO,hf,u,r,[],nb,rfl,rfl,k _ _ _ _,hX⟩
  |true=>
   rw[ho]at h1;obtain⟨hb,h0⟩:=eB h1;obtain⟨v,t0,h5,h6⟩:=AM.dc h0;obtain⟨⟨p',rest⟩,t1,h7,h8⟩:=AM.dc h6;obtain⟨rfl,rfl⟩:=de h8;simp only[AM.run]at h5;split at h5
   ·rename_i sl HO;obtain⟨rfl,rfl⟩:=xK h5;obtain⟨e1,_,hs⟩:=Mb h7
    have UJ:iL g v u:=by
     have h1:gT g (.val v) (a.tmps.getD n undef):=V.env n _ HO;obtain⟨k,hk,be5⟩:=List.any_eq_true.1 hb;rw[V.kept n (by rw[beq_eq be5];exact hk),show B.arg n=u from hA 0 u rfl]at h1;exact h1
    have mM:=UJ.cells
    have ao3:∃rp,Pass mN w0 sp.sp x0.1 rp u.cells.toList m1:=by
     cases sp with
     |one sq=>exact⟨(0,0),by rw[FF P1.1];exact P1.2⟩
     |agg sq=>obtain⟨us,rfl,P1⟩:=P1;exact⟨(0,0),P1⟩
    obtain⟨rp,ao3⟩:=ao3;have hlen:=mM.length;rw[ao3.length]at hlen;have aI1:v.cells.take sp.sp.size=v.cells:=(by rw[hlen,cy]);obtain⟨g1,n1,l1,R1,ae3,aM7,X1⟩:=hs hI (λe=>⟨V.fst e,hF e⟩) R (by rw[aI1];exact mM) ao3;obtain⟨g2,n2,l2,R2,Sb,ZA,hX⟩:=ih h3 (λe=>(hI e).imp λ_ q=>⟨q.1,q.2.trans l1.le⟩) hF R1 ((V.mono l1.le).NA e1) P2 Ql;refine⟨g2,n1++n2,l1.trans l2,R2,iz.append l2 ae3 Sb ZA,λb hb=> ?_,u,r,n1,n2,rfl,rfl,vQ l2.le.dC X1,hX⟩
    rcases aP.1 hb with hb|hb
    ·exact aM7 b hb
    ·exact λe=>ZA b hb (l1.kp b e).1
   ·cases h5
def Ba {fn:Func}{tmps:Array Value}{w:World}(h:(fn.results.toList.mapM (JV tmps)).run P w= .ok us w):
  (results fn tmps).run P w= .ok (match us with|[u]=>u|us=> .tuple us.toArray) w:=by
 have e:(fn.results.mapM (JV tmps)).run P w= .ok us.toArray w:=by
  simp_all[Array.mapM_eq_mapM_toList]
 have hr:results fn tmps=(do
  let vs<-fn.results.mapM (JV tmps)
  pure (if h:vs.size=1 then vs[0]else .tuple vs)):=rfl
 rw[hr];simp[e]
 match us with
 |[]=>rfl
 |[u]=>rfl
 |u::v::r=>rfl
def AZ:∀{vs:List Val}{us:List Value},ju g vs us->us.length=vs.length
 |[],_,h=>by have h:_=_:=h;simp_all
 |_::_,_,⟨_,_,e,_,hr⟩=>by subst e;simp[AZ hr]
def Mt (h:(Wr E fn.results.toList r).run s=U (y,s')):s'.env=s.env/\∀{B:Base}{g:Gh}{a:Act}{w:World},lU E.gU g.dC->HRel B g s.hp w->j6 g s.env a->
  ∃v g' nb,(results fn a.tmps).run E.P w= .ok v w/\Le g g'/\HRel B g' s'.hp w/\iz g' nb/\z7 g'.dC w r y v nb:=by
 cases r with
 |none=>
  obtain⟨vs,t,h1,h2⟩:=AM.dc h;split at h2
  ·obtain⟨_,rfl⟩:=de h2;obtain⟨e1,k1⟩:=tM h1;refine⟨e1,λ{B g a w} hG R V=> ?_⟩;obtain⟨us,g1,a1,l1,R1,v1⟩:=k1 hG R V;subst v1;exact⟨_,g1,[],Ba a1,l1,R1,⟨bf,λb hb=>by simp_all⟩,rfl,rfl⟩
  ·cases h2
 |val sp=>
  obtain⟨vs,t,h1,h2⟩:=AM.dc h;obtain⟨hp,h3⟩:=eB h2;split at h3
  ·rename_i v;obtain⟨e1,k1⟩:=tM h1;obtain⟨e2,k2⟩:=Gq h3;refine⟨e2.1.trans e1,λ{B g a w} hG R V=> ?_⟩;obtain⟨us,g1,a1,l1,R1,v1⟩:=k1 hG R V;obtain⟨u,rfl,hv⟩:=Pn v1 rfl;obtain⟨g2,l2,R2,c2⟩:=k2 B g1 w R1;obtain⟨nb,hP,hO,_⟩:=c2 u hv;exact⟨u,g2,nb,Ba a1,l1.trans l2.le,R2,hO,hP.res hp⟩
  ·cases h3
 |xl as=>
  obtain⟨vs,t,h1,h2⟩:=AM.dc h;obtain⟨hp,h3⟩:=eB h2;split at h3
  ·cases h3
  ·rename_i mU;obtain⟨e1,k1⟩:=tM h1;obtain⟨e2,k2⟩:=vr h3;refine⟨e2.1.trans e1,λ{B g a w} hG R V=> ?_⟩;obtain⟨us,g1,a1,l1,R1,v1⟩:=k1 hG R V;obtain⟨g2,l2,R2,c2⟩:=k2 B g1 w R1;obtain⟨nb,hP,hO,_⟩:=c2 us v1;have hl:=AZ v1;have hr:=Ba a1;refine⟨.tuple us.toArray,g2,nb, ?_,l1.trans l2.le,R2,hO,us,rfl,hP.res hp⟩;rw[hr]
   match us,hl with
   |[],_=>rfl
   |[u],hl=>
    exfalso
    match vs,hl with
    |[v],_=>exact mU v rfl
   |u::v::r,_=>rfl
def zZ:∀{as:List VSp}{x:(fF as).den}{us:List Value}{nb:List Nat},kT dC w as x us nb->us.length=as.length
 |[],_,_,_,h=>by rw[h.1];rfl
 |_::_,_,_,_,⟨u,r,n1,n2,e,_,_,h⟩=>by rw[e];simp[zZ h]
def CL:∀as n us,us.length=as.length->(∀k u,us[k]?=U u->a.tmps.getD (n+k) undef=u)->yW a (upto as n) us
 |[],_,us,h,_=>bu h
 |_::as,n,[],h,_=>by grind
 |_::as,n,u::r,h,hk=>⟨u,r,rfl,hk 0 u rfl,CL as (n+1) r (by simp_all) λk v hv=>by
   have:=hk (k+1) v (by simp_all)
   grind⟩
def MM (hE:EnvOk E)(hm:E.P.follows .mixedOrders=av){f:FuncId}{fn:Func}{c:Code}{sg:Sig}{H:Cuts}(hf:E.P.funcs[f]?=U fn)(hb:fn.body=U c)(Tt:(fn.name== "runtime.NumGoroutine")=aq)
  (hnt:fn.ntmps=E.nt) (ab9:sg.args.length<=E.nt) (aI6:(E.qJ.all λt=>cd t sg.args.length)=av) (Tx:qU sg.args=av) (HO:E.slf=JG sg.args) (hH:CutsOk E H c):zH E.P E.gU f ⟨sg,J1 E fn sg H⟩:=by
 classical
 intro x y hF dC w args nb hG mM hP qK Cv bm4;have hF:J1 E fn sg H x=U y:=hF;unfold J1 at hF;rw[hb]at hF;have hF:(bif rI E.fst (dec (upto sg.args 0) sg.args x)then exec E H c (dec (upto sg.args 0) sg.args x) (atEnd E (dec (upto sg.args 0) sg.args x).hp fn.results.toList sg)else az)=U y:=hF
 cases a39:rI E.fst (dec (upto sg.args 0) sg.args x)with
 |false=>rw[a39]at hF;cases hF
 |true=>
 rw[a39,ah]at hF
 have Qg:(callFunc f args.toArray).run E.P w= .ok (.enter f args.toArray) w:=by
  simp_all[callFunc]
 unfold ll;rw[Qg];simp;have hlen:args.length=sg.args.length:=zZ hP
 let B0:Base:={dC:=dC,gV:=λb=>if b∈nb then U 0 else az,w:=w,arg:=λt=>args.getD t undef}
 let g0:Gh:={dC:=dC,top:=λ_=>0,cv:=λ_ _=> .tuple #[],gV:=λb=>if b∈nb then U 0 else az,iR:=λ_=>az,outer:=λ_=>[]}
 have R0:HRel B0 g0 [] w:=by
  refine⟨λ_=>rfl,(λi o h=>by cases h),λb L h=> ?_,(λb L h=>by cases h),λb h=> ?_,λb L h=>h,λb hb hl hi=>⟨hl,hi,rfl⟩,aF _,rfl,rfl,rfl,λ_ _ _=>rfl⟩
  all_goals grind
 refine calls_of_wp hf hb ?_
 let a0:Act:={tmps:=args.toArray++bq1 (fn.ntmps - args.toArray.size) undef,defers:=[]}
 have ao9:∀k u,args[k]?=U u->a0.tmps.getD k undef=u:=by
  intro k u hk;have mL:=(cr.1 hk).1;simp
  grind
 have rr:a0.tmps.size=E.nt:=by
  grind
 obtain⟨g1,f1,l1,R1,V1,bd2⟩:=TN (E:=E) (B:=B0) (ts:=upto sg.args 0) (x:=x) (a:=a0) Tx R0 hP ⟨qK,λb hb=>by grind⟩ (λ_ _=>rfl) (CL sg.args 0 args hlen λk u hk=>by simp_all) rr rfl (λt ht=>by
  have:=aR (aK.1 aI6 t ht)
  grind) (λf ts hE mU=>by
  rw[HO]at hE;unfold JG at hE
  cases ax9:z8 sg.args with
  |none=>simp_all
  |some p=>
   rw[ax9]at hE
   injection hE with hE;injection hE with Hl bm2
   subst Hl;subst bm2;obtain⟨b,ty,q1,q2,q3,q4⟩:=bm4 p.1 p.2 ax9
   have hm:p.2<args.length:=by
    rcases bB p.2 args.length with h|h
    ·exact h
    ·exact absurd (cn (by rw[List.length_range,<-hlen];exact h)) mU
   have ao5:(cN sg.args.length).map B0.arg=args:=by
    rw[<-hlen]
    apply List.ext_getElem (by simp)
    intro i h1 h2;simp[B0,h2]
   have aL9:((cN sg.args.length).drop p.2).map B0.arg=args.drop p.2:=(by rw[List.map_drop,ao5]);refine⟨b,ty, ?_,by rw[aL9];exact q2,by simp[B0,q3],q4⟩
   have hl:((cN sg.args.length).drop p.2).getLastD 0=args.length - 1:=by
    rw[List.getLastD_eq_getLast?,List.getLast?_drop,ai (by rw[List.length_range,<-hlen];omega),<-hlen,List.getLast?_range];simp[show args.length≠0 by omega]
   rw[hl];have:args[args.length - 1]?=U (.pointer (U ⟨b,0,az⟩)):=(by rw[<-q1,List.getLast?_eq_getElem?])
   simp[B0,this]) a39
 let B:Base:={B0 with g0:=g1,f0:=f1}
 have bd3:HRel B g1 (dec (upto sg.args 0) sg.args x).hp w:=R1;refine Df hE hm c _ _ y _ hH hF (λe=> ?_) g1 a0 w (hG.mono l1.dC) R1 V1
 have fin:∀s g a w',(finish E (dec (upto sg.args 0) sg.args x).hp fn.results.toList sg).exec s (λr _=>U r)=U y->lU E.gU g.dC->HRel B g s.hp w'->ActRel E B g s.env a->
   a.defers=[]/\∃v,(results fn a.tmps).run E.P w'= .ok v w'/\(∃v',Ending.returned v= .returned v'/\∃gC n1 n2,After dC w nb gC w' (n1++n2)/\z7 gC w' sg.res y.1 v' n1/\nW gC w w' sg.args y.2 args n2):=by
  intro s g a w' hk NY R V;obtain⟨y',s',h1,h2⟩:=qT hk
  injection h2 with h2
  subst h2;obtain⟨r,t,h3,h4⟩:=AM.dc h1;obtain⟨o,t2,h5,h6⟩:=AM.dc h4;obtain⟨h7,rfl⟩:=de h6;obtain⟨e1,k1⟩:=Mt h3;obtain⟨v,g2,n1,hr,l2,R2,Sb,a11⟩:=k1 NY R V.env;obtain⟨g3,n2,l3,R3,bc4,bi0,hOut⟩:=KO h5 (λe=>⟨g1,bd3,(V.ini e).trans l2⟩) bd2 R2 ((V.mono l2).NA e1) hP (λk u hk=>by simp[B,B0,hk]);have hO:=iz.append l3 Sb bc4 bi0;refine⟨V.defers,v,hr,v,rfl,g3.dC,n1,n2,⟨λb L hb=>R3.mN b L hb,λb L hb=>(R3.dC b L hb).2.2,λb h1 h2 h3=> ?_,hO.1,λb hb=> ?_,R3.size,R3.os,R3.tape,R3.output,λb L hb=>R3.fix b L hb⟩, ?_, ?_⟩
  ·have hl:B.gV b=none:=(by simp[B,B0,h2]);obtain⟨_,f2,f3⟩:=R3.frame b h1 hl h3;exact⟨f3,f2⟩
  ·have UG:=hO.2 b hb
   have hi:g3.dC b=none:=by
    cases hi:g3.dC b with
    |none=>rfl
    |some L=>have:=(R3.dC b L hi).1;rw[UG]at this;cases this
   refine⟨hi, ?_,R3.iV b (by rw[UG];simp)⟩
   rcases bB b w.heap.size with h1|h1
   ·left
    apply Classical.byContradiction
    intro h2;have hl:B.gV b=none:=(by simp[B,B0,h2])
    have h3:dC b=none:=by
     cases h3:dC b with
     |none=>rfl
     |some L=>have:=R3.mN b L h3;rw[hi]at this;cases this
    obtain⟨f1,_⟩:=R3.frame b h1 hl h3;rw[f1]at UG;cases UG
   ·exact .inr h1
  ·rw[h7];exact IT l3.le.dC a11
  ·rw[h7];exact hOut
 cases e with
 |normal=>intro s g a w' hk NY R V;exact fin s g a w' hk NY R V
 |ret=>intro s g a w' hk NY R V;exact fin s g a w' hk NY R V
 |_=>intro s g a w' hk;cases hk
end Go.Abs
end

section
namespace Go.Abs
@[reducible] def FX:Sp->Sp
 | .pr a b=> .pr (FX a) (FX b)
 | .fT (.sl τ)=> .lnd τ av
 |s=>s
def tG:Sp->Bool
 | .un=>av
 | .pr a b=>tG a&&tG b
 | .fT _=>av
 | .err=>av
 | .np=>av
 |_=>aq
def Bs:Sp->Bool
 | .un=>av
 | .pr a b=>Bs a&&Bs b
 | .fT τ=>τ.flat
 | .own τ dp=>τ.flat||dp
 | .err=>av
 | .np=>av
 |_=>aq
def Pz:(s:Sp)->(FX s).ty.den->s.ty.den
 | .un,x=>x
 | .pr a b,x=>(Pz a x.1,Pz b x.2)
 | .fT (.sl _),x=>x
 | .fT (.int _),x=>x
 | .fT .bool,x=>x
 | .fT .str,x=>x
 | .fT .un,x=>x
 | .fT (.pr _ _),x=>x
 | .fT .cl,x=>x
 | .own _ _,x=>x
 | .lnd _ _,x=>x
 | .ptr _ _ _,x=>x
 | .CV _,x=>x
 | .vp,x=>x
 | .err,x=>x
 | .np,x=>x
 | .slf _ _,x=>x
def Xk:(s:Sp)->(FX s).ty.den->(FX s).tg.den
 | .un,_=>()
 | .pr a b,x=>(Xk a x.1,Xk b x.2)
 | .fT (.sl _),x=>x
 | .fT (.int _),_=>()
 | .fT .bool,_=>()
 | .fT .str,_=>()
 | .fT .un,_=>()
 | .fT (.pr _ _),_=>()
 | .fT .cl,_=>()
 | .own _ _,_=>()
 | .lnd _ _,x=>x
 | .ptr _ _ _,x=>x
 | .CV _,_=>()
 | .vp,_=>()
 | .err,_=>()
 | .np,_=>()
 | .slf _ _,_=>()
@[reducible] def Us:VSp->VSp
 | .one s=> .one (FX s)
 | .agg s=> .agg (FX s)
def V9:(a:VSp)->(Us a).sp.ty.den->a.sp.ty.den
 | .one s,x=>Pz s x
 | .agg s,x=>Pz s x
def aC5:(a:VSp)->(Us a).sp.ty.den->(Us a).sp.tg.den
 | .one s,x=>Xk s x
 | .agg s,x=>Xk s x
@[reducible] def CT:List VSp->List VSp
 |[]=>[]
 |a::r=>Us a::CT r
def MO:(as:List VSp)->(fF (CT as)).den->(fF as).den
 |[],_=>()
 |a::r,x=>(V9 a x.1,MO r x.2)
def Rm:(as:List VSp)->(fF (CT as)).den->(tH (CT as)).den
 |[],_=>()
 |a::r,x=>(aC5 a x.1,Rm r x.2)
def Fz (c:Callee):Callee:=⟨⟨CT c.sig.args,c.sig.res⟩,λx=>(c.F (MO c.sig.args x)).map λy=>(y.1,Rm c.sig.args x)⟩
def tV (as:List VSp):Bool:=as.all λa=>tG a.sp
def Rr:RSp->Bool
 | .val v=>Bs v.sp
 | .xl vs=>vs.all λv=>Bs v.sp
 | .none=>av
open Classical in
noncomputable def ND (dC:Rd)(w:World)(nb:List Nat):Rd:=λb=>if b∈nb then rdW w b else dC b
theorem Ry (h:w.heap[b]?=U (.cells arr ty (0,0))):rdW w b=U arr.toList:=by
 simp_all[rdW]
def Ze (w:World)(nb:List Nat):Prop:=∀b∈nb,∃arr ty,w.heap[b]?=U (.cells arr ty (0,0))
def UY (h:rdW w b≠az):∃arr ty,w.heap[b]?=U (.cells arr ty (0,0)):=by
 unfold rdW at h
 grind
def OwnAt.here (h:OwnAt dC w mv τ xs us nb):Ze w nb:=by
 rcases h with⟨_,_,rfl⟩|⟨b,cap,arr,ty,lW,_,rfl,ha,_,_,hE⟩
 ·exact λb hb=>by simp_all
 ·intro x hx
  rcases bA.1 hx with rfl|hx
  ·simp_all
  ·unfold oI at hE;split at hE
   ·exact UY (hE.xb x hx)
   simp_all
def OwnAt.rc (h1:∀b∈nb,imm1 b=rdW w b)(h:OwnAt dC w (av&& !τ.flat) τ xs us nb):Rc imm1 (.sl τ) xs us:=by
 rcases h with⟨rfl,rfl,rfl⟩|⟨b,cap,arr,ty,lW,rfl,rfl,ha,hl,_,hE⟩
 ·exact⟨az,0,rfl,aF _, .inl rfl⟩
 ·refine⟨U ⟨b,0,az⟩,cap,rfl,hl, .inr ⟨b,0,arr.toList,rfl, ?_, ?_⟩⟩
  ·grind [aD,Ry]
  ·show Els imm1 τ xs arr.toList 0;unfold oI at hE;split at hE
   ·exact(jx.mono (r':=imm1) (λx hx L hL=>by simp_all) hE).els
   ·rename_i hf
    have hf:τ.flat=true:=by simp_all
    exact hE.1.flat hf
def OH (hm:∀b L,dC b=U L->imm1 b=U L):∀{s:Sp}{x:(FX s).ty.den}{pl:Nat×Nat}{us:List Value}{nb:List Nat},tG s=av->(∀b∈nb,imm1 b=rdW w b)->Pass dC w (FX s) x pl us nb->
  Pass imm1 w s (Pz s x) pl us []/\Ze w nb:=by
 intro s
 induction s with
 |un=>intro x pl us nb _ _ h;exact⟨⟨h.1,rfl⟩,by rw[h.2];exact λb hb=>by simp_all⟩
 |pr a b EY EW=>
  intro x pl us nb hp h1 h;simp[tG]at hp;obtain⟨u1,u2,n1,n2,rfl,rfl,k1,k2⟩:=h;obtain⟨a1,a2⟩:=EY hp.1 (λb hb=>h1 b (aX _ hb)) k1;obtain⟨b1,b2⟩:=EW hp.2 (λb hb=>h1 b (aZ _ hb)) k2;refine⟨⟨u1,u2,[],[],rfl,rfl,a1, ?_⟩,λb hb=> ?_⟩
  ·have rr:∀s,tG s=av->(FX s).size=s.size:=by
    intro s
    induction s with
    |pr a b EY EW=>intro h;simp[tG]at h;grind
    |fT τ=>intro _;cases τ<;>rfl
    |_=>simp
   rw[rr a hp.1]at b1;exact b1
  ·rcases aP.1 hb with hb|hb
   ·exact a2 b hb
   ·exact b2 b hb
 |fT τ=>
  intro x pl us nb _ h1 h
  cases τ with
  |sl e=>
   refine⟨⟨rfl,rfl, ?_⟩,h.here⟩;have hr:=h.rc h1;obtain⟨A,c,e',_⟩:=id hr;exact⟨_,e',by rw[<-e'];exact hr⟩
  |_=>
   obtain⟨rfl,h2,u,rfl,h3⟩:=h;exact⟨⟨rfl,h2,u,rfl,h3.mono hm⟩,λb hb=>by simp_all⟩
 |err=>
  intro x pl us nb _ _ h;obtain⟨rfl,h⟩:=h;exact⟨⟨rfl,h⟩,λb hb=>by simp_all⟩
 |np=>
  intro x pl us nb _ _ h;obtain⟨rfl,h⟩:=h;exact⟨⟨rfl,h⟩,λb hb=>by simp_all⟩
 |_=>intro x pl us nb hp;cases hp
def TT (hm:∀b L,dC b=U L->imm1 b=U L){a:VSp}{x:(Us a).sp.ty.den}{u:Value}{nb:List Nat}(hp:tG a.sp=av)(h1:∀b∈nb,imm1 b=rdW w b)(h:vD dC w (Us a) x u nb):
  vD imm1 w a (V9 a x) u []/\Ze w nb:=by
 cases a with
 |one s=>obtain⟨ho,h⟩:=h;obtain⟨k1,k2⟩:=OH hm hp h1 h;exact⟨⟨ho,k1⟩,k2⟩
 |agg s=>obtain⟨us,e,h⟩:=h;obtain⟨k1,k2⟩:=OH hm hp h1 h;exact⟨⟨us,e,k1⟩,k2⟩
def Iw (hm:∀b L,dC b=U L->imm1 b=U L):∀{as:List VSp}{x:(fF (CT as)).den}{us:List Value}{nb:List Nat},tV as=av->(∀b∈nb,imm1 b=rdW w b)->kT dC w (CT as) x us nb->
  kT imm1 w as (MO as x) us []/\Ze w nb
 |[],x,us,nb,_,_,h=>⟨⟨h.1,rfl⟩,by rw[h.2];exact λb hb=>by simp_all⟩
 |a::r,x,us,nb,hp,h1,⟨u,q,n1,n2,e,e',k1,k2⟩=>by
  subst e;subst e';simp only[tV,cE,aA]at hp;obtain⟨a1,a2⟩:=TT hm hp.1 (λb hb=>h1 b (aX _ hb)) k1;obtain⟨b1,b2⟩:=Iw hm hp.2 (λb hb=>h1 b (aZ _ hb)) k2;refine⟨⟨u,q,[],[],rfl,rfl,a1,b1⟩,λb hb=> ?_⟩
  rcases aP.1 hb with hb|hb
  ·exact a2 b hb
  ·exact b2 b hb
def OwnAt.still (hs:∀b∈nb,w'.heap[b]?=w.heap[b]?)(h:OwnAt dC w (av&& !τ.flat) τ xs us nb):OwnAt gC w' (av&& !τ.flat) τ xs us nb:=by
 rcases h with h|⟨b,cap,arr,ty,lW,e,rfl,ha,hl,hz,hE⟩
 ·exact .inl h
 ·refine .inr ⟨b,cap,arr,ty,lW,e,rfl,(hs b (aD ..)).trans ha,hl,hz, ?_⟩;unfold oI at hE⊢;split
  ·rename_i hc
   grind [jx.mono,aB,rdW]
  ·rename_i hc;rw[ai hc]at hE
   have hf:τ.flat=true:=by simp_all
   exact⟨hE.1.flat hf,hE.2⟩
def O7:∀{s:Sp}{x:(FX s).ty.den}{pl:Nat×Nat}{us:List Value}{nb:List Nat},tG s=av->(∀b∈nb,w'.heap[b]?=w.heap[b]?)->Pass dC w (FX s) x pl us nb->EK gC w w' (FX s) (Xk s x) us nb:=by
 intro s
 induction s with
 |un=>intro x pl us nb _ _ h;exact h.2
 |pr a b EY EW=>
  intro x pl us nb hp h1 h;simp[tG]at hp;obtain⟨u1,u2,n1,n2,rfl,rfl,k1,k2⟩:=h;have hl:=k1.length;refine⟨n1,n2,rfl, ?_, ?_⟩
  ·rw[<-hl,bq8];exact EY hp.1 (λb hb=>h1 b (aX _ hb)) k1
  ·rw[<-hl,bn0];exact EW hp.2 (λb hb=>h1 b (aZ _ hb)) k2
 |fT τ=>
  intro x pl us nb _ h1 h
  cases τ with
  |sl e=>
   exact⟨rfl,h.still h1⟩
  |_=>exact h.1
 |err=>intro x pl us nb _ _ h;exact h.1
 |np=>intro x pl us nb _ _ h;exact h.1
 |_=>intro x pl us nb hp;cases hp
def IN:∀{as:List VSp}{x:(fF (CT as)).den}{us:List Value}{nb:List Nat},tV as=av->(∀b∈nb,w'.heap[b]?=w.heap[b]?)->kT dC w (CT as) x us nb->nW gC w w' (CT as) (Rm as x) us nb
 |[],x,us,nb,_,_,h=>h
 |a::r,x,us,nb,hp,h1,⟨u,q,n1,n2,e,e',k1,k2⟩=>by
  subst e;subst e';simp only[tV,cE,aA]at hp;refine⟨u,q,n1,n2,rfl,rfl, ?_,IN hp.2 (λb hb=>h1 b (aZ _ hb)) k2⟩
  have UQ:=λb hb=>h1 b (aX n2 hb)
  cases a with
  |one s=>obtain⟨ho,k1⟩:=k1;rw[FF ho];exact O7 hp.1 UQ k1
  |agg s=>obtain⟨us,e,k1⟩:=k1;subst e;exact O7 hp.1 UQ k1
def rq.indep:∀{s:Sp}{x:s.ty.den}{pl:Nat×Nat}{old us:List Value}{nb:List Nat},Bs s=av->rq dC w w s x pl old us nb->rq gC w w s x pl old us nb:=by
 intro s
 induction s with
 |un=>intro x pl old us nb _ h;exact h
 |pr a b EY EW=>
  intro x pl old us nb hp h;simp[Bs]at hp;obtain⟨u1,u2,n1,n2,e,e',k1,k2⟩:=h;exact⟨u1,u2,n1,n2,e,e',EY hp.1 k1,EW hp.2 k2⟩
 |fT τ=>
  intro x pl old us nb hp h;obtain⟨h1,h2,u,h3,h4⟩:=h;exact⟨h1,h2,u,h3,h4.flat hp⟩
 |own τ dp=>
  intro x pl old us nb hp h;have hp:(τ.flat||dp)=true:=hp;show OwnAt gC w (dp&& !τ.flat) τ x us nb
  rcases h with h|⟨b,cap,arr,ty,lW,e,e',ha,hl,hs,hE⟩
  ·exact .inl h
  ·refine .inr ⟨b,cap,arr,ty,lW,e,e',ha,hl,hs, ?_⟩;unfold oI at hE⊢;split
   ·simp_all
   ·rename_i hc;rw[ai hc]at hE
    have hf:τ.flat=true:=by
     grind
    exact⟨hE.1.flat hf,hE.2⟩
 |err=>intro x pl old us nb _ h;exact h
 |np=>intro x pl old us nb _ h;exact h
 |_=>intro x pl old us nb hp;cases hp
def I7 (hp:Bs a.sp=av)(h:Br dC w a x u nb):Br gC w a x u nb:=by
 cases a with
 |one s=>exact⟨h.1,h.2.indep hp⟩
 |agg s=>obtain⟨us,e,h⟩:=h;exact⟨us,e,h.indep hp⟩
def Gi:∀{as:List VSp}{x:(fF as).den}{us:List Value}{nb:List Nat},(as.all λv=>Bs v.sp)=av->vE dC w as x us nb->vE gC w as x us nb
 |[],_,_,_,_,h=>h
 |a::r,x,us,nb,hp,⟨u,q,n1,n2,e,e',k1,k2⟩=>by
  simp only[cE,aA]at hp;exact⟨u,q,n1,n2,e,e',I7 hp.1 k1,Gi hp.2 k2⟩
def T6 (hp:Rr r=av)(h:z7 dC w r x u nb):z7 gC w r x u nb:=by
 cases r with
 |val a=>exact I7 hp h
 |xl as=>obtain⟨vs,e,h⟩:=h;exact⟨vs,e,Gi hp h⟩
 |none=>exact h
def QJ:∀{s:Sp}{x:s.tg.den}{us:List Value}{nb:List Nat},tG s=av->EK dC w w' s x us nb->nb=[]:=by
 intro s
 induction s with
 |pr a b EY EW=>
  intro x us nb hp ⟨n1,n2,e,h1,h2⟩
  grind [tG]
 |un=>intro x us nb _ h;exact h
 |fT τ=>intro x us nb _ h;exact h
 |err=>intro x us nb _ h;exact h
 |np=>intro x us nb _ h;exact h
 |_=>intro x us nb hp;cases hp
def D9:∀{as:List VSp}{x:(tH as).den}{us:List Value}{nb:List Nat},tV as=av->nW dC w w' as x us nb->nb=[]
 |[],_,_,_,_,h=>h.2
 |a::r,x,us,nb,hp,⟨u,q,n1,n2,e,e',k1,k2⟩=>by
  simp only[tV,cE,aA]at hp;rw[e',QJ hp.1 k1,D9 hp.2 k2];rfl
def aj2 (hp:tV c.sig.args=av)(hr:Rr c.sig.res=av)(H:o9 P gU f c):o9 P gU f (Fz c):=by
 intro x y hF dC w args nb hG mM hP qK Cv;obtain⟨z,hz,rfl⟩:=bj.1 hF
 have hm:∀b L,dC b=U L->ND dC w nb b=U L:=λb L h=>by
  unfold ND
  grind
 obtain⟨P1,here⟩:=Iw (imm1:=ND dC w nb) hm hp (λb hb=>by simp_all[ND,aj]) hP;refine(H _ _ hz (ND dC w nb) w args [] (hG.mono hm) (λb L h=> ?_) P1 bf λb hb=>by simp_all).mono ?_
 ·unfold ND at h;split at h
  ·rename_i hb;obtain⟨arr,ty,ha⟩:=here b hb
   grind [Ry]
  simp_all
 ·rintro v w' ⟨gC,n1,n2,A,hR,hO⟩;have Xz:=D9 hp hO;subst Xz;rw[aQ]at A
  have qc:∀b∈nb,w'.heap[b]?=w.heap[b]?:=λb hb=>by
   obtain⟨arr,ty,ha⟩:=here b hb;exact A.fix b arr.toList (by unfold ND;rw[aj hb,Ry ha])
  refine⟨λb=>open Classical in if b∈nb then az else gC b,n1,nb,⟨λb L h=> ?_,λb L h=> ?_,λb h1 h2 h3=> ?_, ?_,λb hb=> ?_,A.size,A.os,A.tape,A.output,λb L h=>A.fix b L (hm b L h)⟩,T6 hr hR,IN hp qc hP⟩
  ·rw[ai λhb=>by rw[(Cv b hb).1]at h;cases h];exact A.mono b L (hm b L h)
  ·split at h
   ·cases h
   ·exact A.cells b L h
  ·have e:ND dC w nb b=none:=by unfold ND;rw[ai h2];exact h3
   obtain⟨a1,a2⟩:=A.same b h1 (by simp) e;exact⟨a1,by rw[ai h2];exact a2⟩
  ·rw[bw];refine⟨A.nodup,qK,λa ha b hb e=> ?_⟩;subst e;have h1:=(Cv a hb).2
   rcases(A.ad0 a ha).2.1 with h|h
   ·simp at h
   ·omega
  ·rcases aP.1 hb with hb|hb
   ·obtain⟨a1,a2,a3⟩:=A.ad0 b hb;refine⟨?_, ?_,a3⟩
    ·split
     ·rfl
     ·exact a1
    ·rcases a2 with h|h
     ·simp at h
     ·exact .inr h
   ·refine⟨by rw[aj hb], .inl hb, ?_⟩;have:=(Cv b hb).2;have:=A.size;omega
end Go.Abs
end

section
namespace Go.Abs
def eU:Code->List (Bool×Code)
 | .seq a b=>(aq,b)::(eU a++eU b)
 | .cond _ a b=>eU a++eU b
 | .block _ c=>eU c
 | .loop c=>(av,c)::eU c
 | .scope c=>eU c
 |_=>[]
def o8 (k:Bool)(r:Nat):List (Bool×Code)->Code
 |[]=> .skip
 |p::q=>bif(p.1==k)&&(match first p.2 with|some n=>ax n r|none=>aq)then p.2 else o8 k r q
def Qx:∀c,∀p∈pieces c,p∈eU c:=by
 intro c
 induction c with
 |seq a b EY EW=>
  grind [pieces,eU]
 |cond c a b EY EW=>
  grind [pieces,eU]
 |block id c ih=>exact ih
 |loop c ih=>simp_all[pieces,eU]
 |scope c ih=>exact ih
 |_=>intro p hp;cases hp
def G5:∀c,∀p∈eU c,∀q∈eU p.2,q∈eU c:=by
 intro c
 induction c with
 |seq a b EY EW=>
  intro p hp q hq;simp[eU]at hp⊢
  grind
 |cond c a b EY EW=>
  intro p hp q hq
  grind [eU]
 |block id c ih=>exact ih
 |loop c ih=>
  intro p hp q hq;simp[eU]at hp⊢
  grind
 |scope c ih=>exact ih
 |_=>intro p hp;cases hp
def IM:∀{l:List (Bool×Code)},(∀p∈l,first p.2=U r->p.1=k->p=(k,b))->(k,b)∈l->first b=U r->o8 k r l=b
 |[],_,h,_=>by grind
 |p::q,hu,h,hf=>by
  simp[o8]
  cases hc:((p.1==k)&&(match first p.2 with|some n=>ax n r|none=>aq))with
  |true=>
   grind [first,beq_eq,aD]
  |false=>
   refine IM (λp' F0=>hu p' (aB _ F0)) ?_ hf
   rcases bA.1 h with h|h
   ·exfalso
    subst h;simp_all
   omega
def MJ (EE:Bool->Nat->Bool)(c:Code):List (Bool×Nat):=(eU c).filterMap λp=>match first p.2 with
 |some r=>bif EE p.1 r then U (p.1,r)else az
 |none=>az
def IV {EE:Bool->Nat->Bool}:∀{l:List (Bool×Code)},(l.filterMap λp=>match first p.2 with|some r=>bif EE p.1 r then U (p.1,r)else az|none=>az).Nodup->∀{p q:Bool×Code}{r:Nat},p∈l->q∈l->first p.2=U r->first q.2=U r->p.1=q.1->EE p.1 r=av->p=q
 |[],_,p,q,r,hp,_,_,_,_,_=>by simp_all
 |x::l,h,p,q,r,hp,hq,h1,h2,h3,h4=>by
  rcases bA.1 hp with rfl|F0<;>rcases bA.1 hq with rfl|ac6
  ·rfl
  ·grind
  ·grind
  ·refine IV (l:=l) ?_ F0 ac6 h1 h2 h3 h4
   grind
structure Sys where
 P:Program
 gU:Nat->Option (List Cell)
 cl:TypeId
 sig:FuncId->Sig
 known:FuncId->Bool
 qJ:FuncId->List Nat
 EE:FuncId->Bool->Nat->Bool
 cut:FuncId->Bool->Nat->Cut
 lib:FuncId->Option Callee
 bors:List (FuncId×FuncId):=[]
 nest:FuncId->Bool:=λ_=>aq
 trim:FuncId->Bool:=λ_=>aq
namespace Sys
variable(S:Sys)
structure Tab where
 fn:(f:FuncId)->(S.sig f).dom.den->Option (S.sig f).cod.den
 pc:(f:FuncId)->(k:Bool)->(r:Nat)->(fF (S.cut f k r).as).den->Option (sB (S.cut f k r).ws)
def W2 (c f:FuncId):Bool:=S.bors.any λp=>ax p.1 c&&ax p.2 f
def Wd:Bool:=S.bors.all λp=>tV (S.sig p.2).args&&Rr (S.sig p.2).res
def callee (T:S.Tab)(c f:FuncId):Option Callee:=bif S.known f then(bif S.W2 c f then U (Fz ⟨S.sig f,T.fn f⟩)else U ⟨S.sig f,T.fn f⟩)else S.lib f
def aA7:Sp->Bool
 | .ptr _ _ (.ptr _ _ _)=>av
 |_=>aq
def oJ:List VSp->Bool
 | .one (.ptr _ _ (.pr (.ptr _ _ _) _))::_=>av
 |_=>aq
def fst (f:FuncId):Bool:=oJ (S.sig f).args
def ini (f:FuncId):Bool:=(S.sig f).args.any λa=>aA7 a.sp
def cutAt (f:FuncId)(k:Bool)(r:Nat):Bool:=S.EE f k r&& !S.ini f
def env (T:S.Tab)(f:FuncId)(nt:Nat):Env:={P:=S.P,callee:=S.callee T f,gU:=S.gU,cl:=S.cl,nt:=nt,qJ:=S.qJ f,nest:=S.nest f,trim:=S.trim f,slf:=JG (S.sig f).args,ini:=S.ini f,fst:=S.fst f}
def EJ (T:S.Tab)(f:FuncId):Cuts:=
  ⟨λr=>bif S.cutAt f av r then U ((S.cut f av r).Cb (S.fst f) (T.pc f av r))else az,
   λr=>bif S.cutAt f aq r then U ((S.cut f aq r).Cb (S.fst f) (T.pc f aq r))else az⟩
def JO (T:S.Tab) (f) (x:(S.sig f).dom.den):Option (S.sig f).cod.den:=match S.P.funcs[f]? with
 |some fn=>J1 (S.env T f fn.ntmps) fn (S.sig f) (S.EJ T f) x
 |none=>az
def Du (T:S.Tab) (f) (k) (r) (x:(fF (S.cut f k r).as).den):Option (sB (S.cut f k r).ws):=match S.P.funcs[f]? with
 |some fn=>match fn.body with
  |some c=>bif k then(S.cut f k r).round (S.env T f fn.ntmps) (S.EJ T f) (o8 k r (eU c)) (T.pc f k r) x
    else(S.cut f k r).tail (S.env T f fn.ntmps) (S.EJ T f) (o8 k r (eU c)) x
  |none=>az
 |none=>az
def step (T:S.Tab):S.Tab:=⟨S.JO T,S.Du T⟩
@[reducible] def tab:Nat->S.Tab
 |0=>⟨λ_ _=>az,λ_ _ _ _=>az⟩
 |n+1=>S.step (tab n)
def RH (f:FuncId):Bool:=match S.P.funcs[f]? with
 |some fn=>match fn.body with
  |some c=>(fn.name != "runtime.NumGoroutine")&&bo5 (S.sig f).args.length fn.ntmps&&((S.qJ f).all λt=>cd t (S.sig f).args.length)&&qU (S.sig f).args&&
    (MJ (S.cutAt f) c).Nodup
  |none=>aq
 |none=>aq
end Sys
end Go.Abs
end

section
namespace Go.Abs
def ActRel.callee (hn:E'.nt=E.nt)(hk:E'.qJ=E.qJ)(hs:E'.slf=E.slf)(hi:E'.ini=E.ini)(hq:E'.fst=E.fst){B:Base}{g:Gh}{env:List (Nat×Slot)}{a:Act}(H:ActRel E B g env a):ActRel E' B g env a:=
 ⟨H.env,H.size.trans hn.symm,H.defers,by rw[hk];exact H.kept,λf ts h h2=>H.slf f ts (by simp_all) h2,λe=>H.ini (hi.symm.trans e),λe=>H.fst (hq.symm.trans e)⟩
def KOk.callee (hg:E'.gU=E.gU)(hn:E'.nt=E.nt)(hk:E'.qJ=E.qJ)(hs:E'.slf=E.slf)(hi:E'.ini=E.ini)(hq:E'.fst=E.fst){B:Base}{K:St->Option ρ}{x:ρ}{Q:Act->World->Prop}(h:KOk E' B K x Q):KOk E B K x Q:=
 λs g a w h1 h2 h3 h4=>h s g a w h1 (by simp_all) h3 (h4.callee hn hk hs hi hq)
def xM.callee (hg:E'.gU=E.gU)(hn:E'.nt=E.nt)(hk:E'.qJ=E.qJ)(hs:E'.slf=E.slf)(hi:E'.ini=E.ini)(hq:E'.fst=E.fst){c:Cut}{W:(Exit->Act->World->Prop)->Act->World->Prop}{L:(fF c.as).den->Option (sB c.ws)}(h:xM E c W L):xM E' c W L:=
 λx y bl4 _ B K z Q bk2 hK g a w h1 h2 h3=>h x y bl4 B K z Q bk2 (λe=>(hK e).callee hg hn hk hs hi hq) g a w (by simp_all) h2 (h3.callee hn.symm hk.symm hs.symm hi.symm hq.symm)
namespace Sys
variable{S:Sys}
def Ns (h:S.cutAt f k r=av):S.ini f=false:=by
 simp_all[cutAt,aA]
def ID (h:S.RH f=av):∃fn c,S.P.funcs[f]?=U fn/\fn.body=U c/\(fn.name== "runtime.NumGoroutine")=aq/\(S.sig f).args.length<=fn.ntmps/\((S.qJ f).all λt=>cd t (S.sig f).args.length)=av/\qU (S.sig f).args=av/\
  (MJ (S.cutAt f) c).Nodup:=by
 unfold RH at h;split at h
 ·rename_i fn hf;split at h
  all_goals simp_all
 simp_all
def W1 (P:Program)(k:Bool)(b:Code):(Exit->Act->World->Prop)->Act->World->Prop:=if k then uF P b else λQ=>b.wp P Q
structure TabOk (S:Sys)(T:S.Tab):Prop where
 fn:∀f,S.known f=av->zH S.P S.gU f ⟨S.sig f,T.fn f⟩
 pc:∀f,S.known f=av->∀fn c,S.P.funcs[f]?=U fn->fn.body=U c->∀k r,S.cutAt f k r=av->(k,o8 k r (eU c))∈eU c->∀T':S.Tab,
  xM (S.env T' f fn.ntmps) (S.cut f k r) (W1 S.P k (o8 k r (eU c))) (T.pc f k r)
def Wn (hT:TabOk S T){f:FuncId}(hk:S.known f=av){fn:Func}{c:Code}(hf:S.P.funcs[f]?=U fn)(hb:fn.body=U c)(qK:(MJ (S.cutAt f) c).Nodup){d:Code}(hd:∀p∈eU d,p∈eU c):
  CutsOk (S.env T f fn.ntmps) (S.EJ T f) d:=by
 have found:∀k b r,(k,b)∈pieces d->first b=U r->S.cutAt f k r=av->o8 k r (eU c)=b/\(k,b)∈eU c:=by
  intro k b r hp hr Qd;have hm:=hd _ (Qx d _ hp);refine⟨IM (λp F0 h1 h2=> ?_) hm hr,hm⟩;exact IV qK F0 hm h1 hr h2 (by simp_all)
 refine⟨λb hp h hh=> ?_,λb hp h hh=> ?_⟩
 ·cases hr:first b with
  |none=>simp_all
  |some r=>
   rw[hr]at hh;have hh:(bif S.cutAt f av r then U ((S.cut f av r).Cb (S.fst f) (T.pc f av r))else az)=U h:=hh
   cases hc:S.cutAt f av r with
   |false=>simp_all
   |true=>
    rw[hc]at hh
    injection hh with hh
    subst hh;obtain⟨e,hm⟩:=found av b r hp hr hc;have:=hT.pc f hk fn c hf hb av r hc (by simp_all) T;rw[e]at this;exact Mh (Ns hc) (body:=b) this
 ·cases hr:first b with
  |none=>simp_all
  |some r=>
   rw[hr]at hh;have hh:(bif S.cutAt f aq r then U ((S.cut f aq r).Cb (S.fst f) (T.pc f aq r))else az)=U h:=hh
   cases hc:S.cutAt f aq r with
   |false=>simp_all
   |true=>
    rw[hc]at hh
    injection hh with hh
    subst hh;obtain⟨e,hm⟩:=found aq b r hp hr hc;have:=hT.pc f hk fn c hf hb aq r hc (by simp_all) T;rw[e]at this;exact MF (Ns hc) (body:=b) this
def LN:∀{as:List VSp},tV as=av->z8 as=az
 |[],_=>rfl
 |[.one s],h=>by
  cases s with
  |slf f m=>cases h
  |_=>rfl
 |[.agg s],_=>rfl
 |x::a::r,h=>by
  have h:(tG x.sp&&tV (a::r))=true:=h;rw[aA]at h;have ih:=LN h.2
  have e:z8 (x::a::r)=z8 (a::r):=by
   cases x with
   |one s=>cases s<;>rfl
   |agg s=>rfl
  rw[e];exact ih
def step_ok (hm:S.P.follows .mixedOrders=av)(hk:∀f,S.known f=av->S.RH f=av)(hl:∀f c,S.known f=aq->S.lib f=U c->o9 S.P S.gU f c)(X4:S.Wd=av){T:S.Tab}(hT:TabOk S T):TabOk S (S.step T):=by
 have hE:∀f nt,EnvOk (S.env T f nt):=λf nt=>⟨λg c hc=>by
  have hc:(bif S.known g then(bif S.W2 f g then U (Fz ⟨S.sig g,T.fn g⟩)else U ⟨S.sig g,T.fn g⟩)else S.lib g)=U c:=hc
  cases hg:S.known g with
  |true=>
   rw[hg]at hc
   cases XW:S.W2 f g with
   |false=>rw[XW]at hc;injection hc with hc;subst hc;exact hT.fn g hg
   |true=>
    rw[XW]at hc;injection hc with hc;subst hc
    obtain⟨q,hq,a74⟩:=List.any_eq_true.1 XW;simp only[aA]at a74;obtain rfl:=beq_eq a74.2;have:=aK.1 X4 q hq;simp at this;exact(aj2 this.1 this.2 ((hT.fn _ hg).plain (LN this.1))).slf
  |false=>rw[hg]at hc;exact(hl g c hg hc).slf⟩
 refine⟨λf hf=> ?_,λf hf fn c ap1 hb k r Qd ZU T'=> ?_⟩
 ·obtain⟨fn,c,h1,h2,h3,h4,h5,h6,h7⟩:=ID (hk f hf);have aF7:=MM (hE f fn.ntmps) hm (f:=f) (fn:=fn) (c:=c) (sg:=S.sig f) (H:=S.EJ T f) h1 h2 h3 rfl h4 h5 h6 rfl (Wn hT hf h1 h2 h7 λp hp=>hp)
  have e:(S.step T).fn f=J1 (S.env T f fn.ntmps) fn (S.sig f) (S.EJ T f):=by
   funext x
   show S.JO T f x=_;simp_all[JO]
  rw[e];exact aF7
 ·obtain⟨fn',c',h1,h2,h3,h4,h5,h6,h7⟩:=ID (hk f hf);rw[ap1]at h1
  injection h1 with h1
  subst h1;rw[hb]at h2
  injection h2 with h2
  subst h2
  have Hm:∀p∈eU (o8 k r (eU c)),p∈eU c:=λp hp=>G5 c _ ZU p hp
  have hC:=Wn hT hf ap1 hb h7 Hm
  have e:(S.step T).pc f k r=λx=>bif k then(S.cut f k r).round (S.env T f fn.ntmps) (S.EJ T f) (o8 k r (eU c)) (T.pc f k r) x
    else(S.cut f k r).tail (S.env T f fn.ntmps) (S.EJ T f) (o8 k r (eU c)) x:=by
   funext x
   show S.Du T f k r x=_;simp_all[Du]
  rw[e]
  cases k with
  |true=>exact xM.callee (E:=S.env T f fn.ntmps) (E':=S.env T' f fn.ntmps) rfl rfl rfl rfl rfl rfl (U2 (Ns Qd) (hE f fn.ntmps) hm hC (hT.pc f hf fn c ap1 hb av r Qd ZU T))
  |false=>exact xM.callee (E:=S.env T f fn.ntmps) (E':=S.env T' f fn.ntmps) rfl rfl rfl rfl rfl rfl (zI (Ns Qd) (hE f fn.ntmps) hm hC)
def ok (hm:S.P.follows .mixedOrders=av)(hk:∀f,S.known f=av->S.RH f=av)(hl:∀f c,S.known f=aq->S.lib f=U c->o9 S.P S.gU f c)(X4:S.Wd=true:=by rfl):∀n,TabOk S (S.tab n)
 |0=>⟨(λf _ x y h=>by cases h),λf _ fn c _ _ k r _ _ T' x y h=>by cases h⟩
 |n+1=>step_ok hm hk hl X4 (ok hm hk hl X4 n)
end Sys
end Go.Abs
end

section
namespace Go.Abs
def dH {A ρ:Type}(f:A->Option ρ):A⊕Empty->Option ρ:=Sum.elim f Empty.elim
def ep {A B ρ:Type}(f:A->Option ρ)(g:B->Option ρ):A⊕(B⊕Empty)->Option ρ:=Sum.elim f (Sum.elim g Empty.elim)
def Uk {A B C ρ:Type}(f:A->Option ρ)(g:B->Option ρ)(h:C->Option ρ):A⊕(B⊕(C⊕Empty))->Option ρ:=Sum.elim f (Sum.elim g (Sum.elim h Empty.elim))
namespace Sys
variable{S:Sys}
def Yg (h:S.P.funcs[f]?=U fn) (T) (x):(S.step T).fn f x=J1 (S.env T f fn.ntmps) fn (S.sig f) (S.EJ T f) x:=by
 show S.JO T f x=_;unfold JO;rw[h]
def Vd (h:S.P.funcs[f]?=U fn)(hb:fn.body=U c) (T) {r:Nat} (x):
  (S.step T).pc f av r x=(S.cut f av r).round (S.env T f fn.ntmps) (S.EJ T f) (o8 av r (eU c)) (T.pc f av r) x:=by
 show S.Du T f av r x=_;unfold Du;rw[h]
 show(match fn.body with
    |some c=>_
    |none=>az)=_
 rw[hb];rfl
def VH (h:S.P.funcs[f]?=U fn)(hb:fn.body=U c) (T) {r:Nat} (x):
  (S.step T).pc f aq r x=(S.cut f aq r).tail (S.env T f fn.ntmps) (S.EJ T f) (o8 aq r (eU c)) x:=by
 show S.Du T f aq r x=_;unfold Du;rw[h]
 show(match fn.body with
    |some c=>_
    |none=>az)=_
 rw[hb];rfl
def Yd {fns:List Nat}(h:(fns.all S.RH)=av){f:FuncId}(hf:(fns.any (ax f))=av):S.RH f=true:=by
 obtain⟨g,hg,e⟩:=List.any_eq_true.1 hf;have:=b8 e;subst this;exact aK.1 h _ hg
end Sys
def Ft (hf:P.funcs[f]?=U fn)(hb:fn.body=U c)(Tt:(fn.name== "runtime.NumGoroutine")=aq)
  (h:ll P f args w R):Calls P f args w λe w'=>∃v,e= .returned v/\R v w':=by
 have Qg:(callFunc f args).run P w= .ok (.enter f args) w:=by
  have h1:fn.name≠ "runtime.NumGoroutine" :=(by simpa using Tt)
  simp[callFunc,hf,h1,hb]
 unfold ll at h;rw[Qg]at h;exact h
def After.below (h:After dC w [] gC w' lW):RowKit.Below w.heap.size w w':=
 ⟨h.os,h.tape,h.output,h.size,λk hk=>by
  cases e:dC k with
  |none=>exact(h.same k hk (by simp) e).1
  |some L=>exact h.fix k L e⟩
def Evt (p:Nat->Prop):Prop:=∃N,∀n,N<=n->p n
theorem Evt.of (h:∀n,p n):Evt p:=⟨0,λn _=>h n⟩
theorem Evt.and (h:Evt p)(k:Evt q):Evt λn=>p n/\q n:=by
 obtain⟨N,h⟩:=h;obtain⟨M,k⟩:=k;exact⟨max N M,λn hn=>⟨h n (by omega),k n (by omega)⟩⟩
theorem Evt.mono (h:Evt p)(k:∀n,p n->q n):Evt q:=by
 obtain⟨N,h⟩:=h;exact⟨N,λn hn=>k n (h n hn)⟩
theorem Evt.up (h:Evt p)(k:∀n,p n->q (n+1)):Evt q:=by
 obtain⟨N,h⟩:=h;refine⟨N+1,λn hn=> ?_⟩;obtain⟨m,rfl⟩:∃m,n=m+1:=⟨n - 1,by omega⟩;exact k m (h m (by omega))
end Go.Abs
end

section
namespace Go.Abs
def isByte (c:Int):Prop:=0<=c/\c<256
def Tb:∀c:Int,isByte c->intBits .and .u8 c 15=c % 16:=by
 have h:∀n:Fin 256,intBits .and .u8 n.val 15=n.val % 16:=by decide+kernel
 intro c hc;have:=h ⟨c.toNat,by have:=hc.2;omega⟩;simpa[Int.toNat_of_nonneg hc.1]using this
def aD9 (c) (h:isByte c):c.fdiv (2^min (Int.toNat 4) aO.bits)=c/16:=by
 have e:2^min (Int.toNat 4) aO.bits=16:=(by decide)
 grind
theorem Bx (x) (h0:0<=x)(h1:x<256):aO.wrap x=x:=by
 have:aO.wrap x=x % 256:=rfl;omega
theorem wrap64 (x) (h0: -9223372036854775808<=x)(h1:x<9223372036854775808):ar.wrap x=x:=by
 grind [IntKind.wrap_i64]
theorem fU (h:n<=lim):fits n=true:=Nat.ble_eq_true_of_le h
def AX (s):∀c∈bytesOf s,isByte c:=by
 intro c hc;obtain⟨b,_,rfl⟩:=List.mem_map.1 hc;have:=b.toNat_lt;exact⟨by omega,by omega⟩
theorem MW (h:isByte c):byte c=c:=by
 unfold byte;obtain⟨h0,h1⟩:=h;omega
def Es {l:List Int}(h:∀c∈l,isByte c):l.map byte=l:=by
 induction l with
 |nil=>rfl
 |cons x r ih=>
  simp_all[cw,MW,aD,aB]
def oH (pre) (x) (r) (d:α):(pre++x::r).getD pre.length d=x:=by
 simp
def stop (q:Nat->Bool):Nat->Nat->Nat
 |0,j=>j
 |k+1,j=>bif q j then stop q k (j+1)else j
theorem vG:∀k j,j<=stop q k j
 |0,j=>aF _
 |k+1,j=>by
  unfold stop;cases q j
  ·simp
  ·have:=vG (q:=q) k (j+1);simp;omega
def uE {q:Nat->Bool}(h:∀j,N<=j->q j=aq):∀k j,N<=j+k->q (stop q k j)=aq
 |0,j,hk=>h j (by omega)
 |k+1,j,hk=>by
  unfold stop;cases hq:q j
  ·grind
  ·exact uE h k (j+1) (by omega)
theorem rD:∀k j i,j<=i->i<stop q k j->q i=av
 |0,j,i,h1,h2=>by grind [stop]
 |k+1,j,i,h1,h2=>by
  unfold stop at h2;cases hq:q j
  ·rw[hq]at h2;simp at h2;omega
  ·rw[hq]at h2
   rcases bB j i with h|h
   ·exact rD k (j+1) i h h2
   ·have:i=j:=(by omega);subst this;exact hq
def O5 (h:∀j,N<=j->q j=aq):∀k k' j,N<=j+k->N<=j+k'->stop q k j=stop q k' j
 |0,0,j,_,_=>rfl
 |0,k'+1,j,h1,_=>by simp_all[stop]
 |k+1,0,j,_,h2=>by simp_all[stop]
 |k+1,k'+1,j,h1,h2=>by
  unfold stop;cases q j
  ·rfl
  ·exact O5 h k k' (j+1) (by omega) (by omega)
def LB (h:∀j,N<=j->q j=aq){k j:Nat}(hk:N<=j+k)(hq:q j=av):stop q k j=stop q k (j+1):=by
 have hj:j<N:=by
  grind
 obtain⟨k,rfl⟩:∃m,k=m+1:=⟨k - 1,by omega⟩;rw[O5 h (k+1) k (j+1) (by omega) (by omega)];simp_all[stop]
def BW (hq:q j=aq):stop q k j=j:=by
 cases k with
 |zero=>rfl
 |succ k=>simp_all[stop]
def adv {S:Sys}{R:Type}{F:S.Tab->Nat->Option R}{q:Nat->Bool}{out:Nat->R}{N:Nat}{p:S.Tab->Prop}(hp:Evt λn=>p (S.tab n))(hN:∀j,N<=j->q j=aq)
  (h1:∀T j,p T->q j=av->F (S.step T) j=F T (j+1)) (h2:∀T j,p T->q j=aq->F (S.step T) j=U (out j)):
  ∀k j,N<=j+k->Evt λn=>F (S.tab n) j=U (out (stop q k j))
 |0,j,hk=>hp.up λn h=>by
  show F (S.step (S.tab n)) j=_;rw[h2 _ _ h (hN j (by omega))];rfl
 |k+1,j,hk=>by
  cases hq:q j with
  |false=>
   refine hp.up λn h=> ?_
   simp_all[BW]
  |true=>
   refine((adv hp hN h1 h2 k (j+1) (by omega)).and hp).up λn h=> ?_
   simp_all[stop]
theorem c8 (h:b=av):brk b x y=x:=by grind [iJ]
theorem dz (h:b=aq):brk b x y=y:=by grind [iJ]
def dn [Decidable p] (h:p):brk (decide p) x y=x:=c8 (ab h)
def db [Decidable p] (h:¬p):brk (decide p) x y=y:=dz (aa h)
end Go.Abs
end

section
namespace Go.Abs
def snap (W:World):Rd:=λb=>match W.heap[b]? with|some (.cells arr _ _)=>U arr.toList|_=>az
def Ug (h:snap W b=U L):∃arr ty fr,W.heap[b]?=U (.cells arr ty fr)/\arr.toList=L:=by
 grind [snap]
def ofD:(τ:Ty)->DataW H->τ.den
 | .int _,d=>match d with| .lit (.int _ z)=>z|_=>(0:Int)
 | .bool,d=>match d with| .lit (.bool b)=>b|_=>aq
 | .str,d=>match d with| .lit (.string bs)=>bs.map λb=>b.toNat|_=>[]
 | .sl e,d=>match d with| .slice ds _=>ds.map (ofD e)|_=>[]
 | .un,_=>()
 | .pr a b,d=>match d with| .agg (x::r)=>(ofD a x,ofD b (.agg r))|_=>(ofD a (DataW.nil (H:=H)),ofD b (DataW.nil (H:=H)))
 | .cl,_=>[] 
def Good:(τ:Ty)->τ.den->Prop
 | .int k,x=>k.min<=x/\x<=k.max
 | .str,l=>(∀c∈l,isByte c)/\l.length<=maxLen
 | .sl e,xs=>(∀x∈xs,Good e x)/\xs.length<=maxLen
 | .pr a b,x=>Good a x.1/\Good b x.2
 |_,_=>True
def Ti (P:Program)(g:TypeId->Ty->Bool):List Field->Nat->Ty->Bool
 |[],_, .un=>av
 |f::r,off, .pr a b=>ax f.offset off&&g f.type a&&ax (P.cellsOf f.type) a.size&&Ti P g r (off+a.size) b
 |_,_,_=>aq
def PH (P:Program):Nat->TypeId->Ty->Bool
 |0,_,_=>aq
 |n+1,t,τ=>match P.underlying t with
  |some .bool=>(match τ with| .bool=>av|_=>aq)
  |some (.int k)=>(match τ with| .int k'=>I (k=k')|_=>aq)
  |some .string=>(match τ with| .str=>av|_=>aq)
  |some (.slice e)=>(match τ with| .sl τ'=>PH P n e τ'&&ax (P.cellsOf e) τ'.size&&cd 0 τ'.size|_=>aq)
  |some (.struct fs)=>Ti P (PH P n) fs.toList 0 τ&&ax (P.cellsOf t) τ.size
  |_=>aq
def CQ:∀{l:List α}{r:List β},l.mapM f=U r->r.length=l.length/\∀i (h:i<l.length),f l[i]=r[i]?
 |[],r,h=>by
  simp_all
 |x::l,r,h=>by
  rw[List.mapM_cons]at h;obtain⟨y,h1,h2⟩:=bn.1 h;obtain⟨ys,h3,h4⟩:=bn.1 h2
  injection h4 with h4
  subst h4;obtain⟨hl,hx⟩:=CQ h3;refine⟨by simp[hl],λi hi=> ?_⟩
  cases i with
  |zero=>exact h1
  |succ i=>exact hx i (by simpa using hi)
def LC (a:Addr) (n):(a.add n).block=a.block:=by grind [Addr.add]
def SS (a:Addr) (n):(a.add n).off=a.off+n:=by
 grind [Addr.add]
def V5 {a:Addr}(h:a.spot=az) (n):(a.add n).spot=none:=by grind [Addr.add]
def add_zero' (a:Addr):a.add 0=a:=by rfl
def IA (h:W.cells? base a n=U cs)(hn:0<n):a.spot=az/\∃L,snap W a.block=U L/\(L.drop a.off).take n=cs:=by
 unfold World.cells? at h;split at h
 ·obtain⟨hl,hx⟩:=CQ h
  have hc:∀i,i<n->W.cell? (a.add i)=cs[i]?:=λi hi=>by
   simp_all
  have e0:=hc 0 hn;rw[add_zero']at e0;unfold bs7 at e0
  cases hh:W.heap[a.block]? with
  |none=>simp_all
  |some o=>
   cases o with
   |cells arr ty fr=>
    have RW:a.spot=none:=by
     simp_all
    refine⟨RW,arr.toList, ?_, ?_⟩
    ·simp_all[snap]
    ·refine bn5 λi=> ?_
     by_cases hi:i<n
     ·simp_all[bs7,LC,V5,SS]
     grind
   |_=>simp_all
 simp_all
def O0 {enc:TypeId×Value->H}{held:Bool} 
  (hg:∀t τ cs x,g t τ=av->bp7 enc P W 0 sp held n t cs=U x->Rc (snap W) τ (ofD τ x.1) cs/\Good τ (ofD τ x.1)):
  ∀fs off τ (cs:List Value) xs,Ti P g fs off τ=av->(fs.mapM λf=>bp7 enc P W 0 sp held n f.type ((cs.drop f.offset).take (P.cellsOf f.type)))=U xs->off+τ.size<=cs.length->
   Rc (snap W) τ (ofD τ (.agg (xs.map (·.1)))) ((cs.drop off).take τ.size)/\Good τ (ofD τ (.agg (xs.map (·.1))))
 |[],off,τ,cs,xs,hf,hm,hl=>by
  cases τ with
  |un=>exact⟨by rfl,trivial⟩
  |_=>cases hf
 |f::fs,off,τ,cs,xs,hf,hm,hl=>by
  cases τ with
  |pr a b=>
   unfold Ti at hf;simp only[aA]at hf;obtain⟨⟨⟨h1,h2⟩,h3⟩,h4⟩:=hf;have h1:=b8 h1;have h3:=b8 h3;rw[List.mapM_cons]at hm;obtain⟨y,hy,hm⟩:=bn.1 hm;obtain⟨ys,bf7,hm⟩:=bn.1 hm
   injection hm with hm
   subst hm;have rr:(Ty.pr a b).size=a.size+b.size:=rfl;rw[h1,h3]at hy;obtain⟨r1,g1⟩:=hg _ _ _ _ h2 hy;obtain⟨r2,g2⟩:=O0 hg fs (off+a.size) b cs ys h4 bf7 (by omega);refine⟨⟨(cs.drop off).take a.size,(cs.drop (off+a.size)).take b.size, ?_,r1,r2⟩,g1,g2⟩;rw[rr,List.take_add,bX]
  |_=>cases hf
def M4 {enc:TypeId×Value->H}{held:Bool}:∀k n t τ cs x,PH P k t τ=av->bp7 enc P W 0 sp held n t cs=U x->
  Rc (snap W) τ (ofD τ x.1) cs/\Good τ (ofD τ x.1)
 |0,_,_,_,_,_,h,_=>by cases h
 |k+1,n,t,τ,cs,x,h,hx=>by
  unfold PH at h
  cases hu:P.underlying t with
  |none=>simp_all
  |some d=>
  rw[hu]at h
  cases d with
  |bool=>
   cases τ with
   |bool=>
    obtain⟨b,rfl,rfl⟩:=DataW.trod_bool hu hx;exact⟨rfl,trivial⟩
   |_=>cases h
  |int j=>
   cases τ with
   |int j'=>
    have h:I (j=j')=true:=h;have h:=of_decide_eq_true h;subst h;obtain⟨z,rfl,rfl,hw⟩:=DataW.trod_int hu hx;refine⟨rfl, ?_⟩;simp only[Lit.wf,aA,ad]at hw;exact hw
   |_=>cases h
  |string=>
   cases τ with
   |str=>
    obtain⟨s,rfl,rfl,hs⟩:=DataW.trod_string hu hx;refine⟨⟨s,rfl,rfl⟩,AX s, ?_⟩;show(List.map _ s.data.toList).length<=maxLen;simp_all
   |_=>cases h
  |slice e=>
   cases τ with
   |sl τ'=>
    rw[aA,aA]at h;obtain⟨h,sF⟩:=h
    have sF:0<τ'.size:=by simp_all
    have hz:=b8 h.2
    rcases DataW.trod_slice hu hx with⟨rfl,rfl⟩|⟨a,len,cap,elems,rest,m,rfl,rfl,rfl,_,hle,aG0,hlen,NP,_,_⟩
    ·refine⟨⟨az,0,rfl,aF _, .inl rfl⟩, ?_⟩;show(∀x∈[],Good τ' x)/\0<=maxLen;simp
    ·have hL:((elems.map (·.1)).map (ofD τ')).length=len:=by simp_all
     have one:∀i (hi:i<len),∃F5,W.cells? 0 (a.add (i*τ'.size)) τ'.size=U F5/\Rc (snap W) τ' (ofD τ' (elems[i]'(by omega)).1) F5/\Good τ' (ofD τ' (elems[i]'(by omega)).1):=λi hi=>by
      have xn:=NP i hi;rw[aL (show i<elems.length by omega),hz]at xn;obtain⟨F5,h1,h2⟩:=bn.1 xn;obtain⟨h3,h4⟩:=M4 k _ _ _ _ _ h.1 h2;exact⟨F5,h1,h3,h4⟩
     refine⟨?_, ?_⟩
     ·show Rc (snap W) (.sl τ') ((elems.map (·.1)).map (ofD τ')) _
      by_cases h0:len=0
      ·subst h0;refine⟨U a,cap,by rw[hL],by omega, .inl ?_⟩
       grind
      ·obtain⟨aV2,c1,c2,c3⟩:=one 0 (by omega);obtain⟨RW,L,hb,_⟩:=IA c1 (by omega);rw[Nat.zero_mul,add_zero']at RW hb;obtain⟨b,o,bk0⟩:=a;have RW:bk0=none:=RW;subst RW;refine⟨U ⟨b,o,az⟩,cap,by rw[hL],by omega, .inr ⟨b,o,L,rfl,hb,λi hi=> ?_⟩⟩;rw[hL]at hi;obtain⟨F5,d1,d2,d3⟩:=one i hi;obtain⟨_,L',P9,e'⟩:=IA d1 (by omega);simp_all[LC,snap,SS]
     ·refine⟨λy hy=> ?_, ?_⟩
      ·have hy:y∈(elems.map (·.1)).map (ofD τ'):=hy;obtain⟨i,hi,rfl⟩:=List.getElem_of_mem hy
       grind
      grind [ofD,maxLen]
   |_=>cases h
  |struct fs=>
   rw[aA]at h;have hz:=b8 h.2
   cases n with
   |zero=>simp[bp7]at hx
   |succ n=>
    unfold bp7 at hx;rw[hu]at hx;simp only at hx;split at hx
    ·rename_i hl;obtain⟨xs,h1,rfl⟩:=bj.1 hx;have:=O0 (λt τ cs x h1 h2=>M4 k n t τ cs x h1 h2) fs.toList 0 τ cs xs h.1 h1 (by omega)
     grind
    simp_all
  |_=>cases h
end Go.Abs
end

section
namespace Go.Abs
theorem TG (w:World) (o):(w.drew.alloc o).heap[w.heap.size]?=U o:=by
 show(w.heap.push _)[w.heap.size]?=_;simp
def TM (ht:P.underlying t=U (.slice e))(hi:P.info? e=U i)(hz:i.zero=U z)
  (rr:i.size=1) (NU:i.bytes<=128) {xs ys:List Int} {u x:Value} {nb:List Nat} (hT:OwnAt dC w aq (.int .u8) xs [u] nb) (RR:∀b∈nb,∃arr,w.heap[b]?=U (.cells arr e (0,0))) (hS:Src P 1 tx x ys.length (ys.map (bQ .u8)) w)
  (tb:xs.length+ys.length<=1099511627776) {v:Value} {w':World} (hr:(bo9 #[t,tx] ty #[u,x]).run P w= .ok v w') {b n cap:Nat} (hv:v= .slice (U ⟨b,0,az⟩) n cap):
  ∃arr,w'.heap[b]?=U (.cells arr e (0,0)):=by
 have ax7:=hS;rw[<-rr]at ax7
 have grow:∀{base:Option Addr} {sCap:Nat} {olds:List Value},u= .slice base xs.length sCap->(Builtin.firstCells i.size xs.length (.slice base xs.length sCap)).run P w.drew= .ok olds.toArray w.drew->sCap<xs.length+ys.length->
   ∃arr,w'.heap[b]?=U (.cells arr e (0,0)):=by
  intro base sCap olds hu hold hg
  have hb:(xs.length+ys.length)*i.bytes<=140737488355328:=by
   have:(xs.length+ys.length)*i.bytes<=1099511627776*128:=Nat.mul_le_mul tb NU;omega
  have aG8:=run_append_grow_src (P:=P) w t tx ty e i z ht hi hz base xs.length sCap olds hold x ys.length _ ax7 hg (by omega) (growslice_fits hg hb)
  grind [TG]
 rcases hT with⟨h1,rfl,_⟩|⟨b',K8,arr,ER,lW,h1,h2,h3,h4,h5,h6⟩
 ·injection h1 with h1 _
  subst h1
  by_cases h0:ys=[]
  ·simp_all[run_append_nothing,aF]
  ·have sF:0<ys.length:=b9.2 h0;exact grow rfl (olds:=[]) (by rfl) (by omega)
 ·injection h1 with h1 _
  subst h1;obtain⟨a10,k1⟩:=RR b' (by simp_all);rw[h3]at k1
  injection k1 with k1;injection k1 with _ k2
  subst k2
  have aq9:arr.size=K8:=by simp_all[Ty.size]
  by_cases hroom:xs.length+ys.length<=K8
  ·obtain⟨a1,a2,a3⟩:=Gx (P:=P) (us:=ys.map (bQ .u8)) (o:=xs.length) h3 (by simp;omega) hS.one;have aG8:=run_append_room_src (P:=P) w t tx ty ER i ht hi b' 0 xs.length K8 x ys.length _ ax7 hroom (by simpa[rr]using a1) (by simpa[rr]using a2);rw[rr,bJ,bs8,a3]at aG8;rw[aG8]at hr
   injection hr with h1 h2
   rw[hv]at h1
   injection h1 with h1 _
   injection h1 with h1;injection h1 with h1
   subst h2;rw[<-h1];exact⟨_,setRow_heap w b' arr _ ER (0,0) h3⟩
  ·have hE:Els dC (.int .u8) xs arr.toList 0:=h6.1;obtain⟨FZ,RV⟩:=MR hE;refine grow (olds:=arr.toList.take (xs.length*1)) rfl ?_ (by omega);rw[rr];refine run_firstCells_some (P:=P) w.drew 1 xs.length _ xs.length K8 _ (by simpa[Ty.size]using RV) (λj v hj=> ?_);rw[bo8,World.cell?_drew];exact lE h3 (o:=0) _ j v (by simpa using hj)
open Classical in
theorem Lj {P:Program}{dC:Rd}{w:World}{t tx ty e:TypeId}{i:TypeInfo}{z:Value}(ht:P.underlying t=U (.slice e))(hi:P.info? e=U i)(hz:i.zero=U z)
  (rr:i.size=1) (NU:i.bytes<=128) (RQ:z.cells.size=1) {xs ys:List Int} {u x:Value} {nb:List Nat} (hT:OwnAt dC w aq (.int .u8) xs [u] nb) (hS:Src P 1 tx x ys.length (ys.map (bQ .u8)) w)
  (tb:xs.length+ys.length<=1099511627776) (hc:∀b L,dC b=U L->∃arr ty fr,w.heap[b]?=U (.cells arr ty fr)/\arr.toList=L) (hn:∀b∈nb,dC b=az/\b<w.heap.size) (RR:∀b∈nb,∃arr,w.heap[b]?=U (.cells arr e (0,0))):
  ∃v w' lW,(bo9 #[t,tx] ty #[u,x]).run P w= .ok v w'/\After dC w nb dC w' lW/\OwnAt dC w' aq (.int .u8) (xs++ys) [v] lW/\∀b∈lW,∃arr,w'.heap[b]?=U (.cells arr e (0,0)):=by
 let g:Gh:={dC:=dC,top:=λ_=>0,cv:=λ_ _=> .nilIface,gV:=λy=>if y∈nb then U 1 else az,iR:=λ_=>az,outer:=λ_=>[]}
 let B:Base:={dC:=dC,gV:=g.gV,w:=w,arg:=λ_=> .nilIface}
 have R:HRel B g [] w:=by
  refine⟨λid=>rfl,λid o h=>(by cases h),λb L h=> ?_,λb L h=>(by cases h),λb h=> ?_,λb L h=>h,λb _ h1 h2=>⟨h1,h2,rfl⟩,aF _,rfl,rfl,rfl,λ_ _ _=>rfl⟩
  all_goals grind
 have ez:(Value.cells z).size=(Ty.int .u8).size:=RQ
 have bd9:Tgt g [] w (aq&& !(Ty.int aO).flat) (.int .u8) xs u []:=by
  rcases hT with⟨h1,h2,h3⟩|⟨b,cap,arr,ER,lW,h1,h2,h3,h4,h5,h6⟩
  ·injection h1 with h1 _
   exact .inl ⟨h1,h2,rfl⟩
  ·injection h1 with h1 _
   obtain⟨h6,h7⟩:=h6;subst h7
   have hb:b∈nb:=by simp_all
   refine .inr ⟨b,cap,arr,ER,h1,⟨λ_ _ _ h=>(by cases h), ?_,(hn b hb).1,rfl,λh=> ?_⟩,by simp,(hn b hb).2,h3,h4,h5,h6,rfl⟩
   all_goals grind
 have hQ:kF g (aq&& !(Ty.int aO).flat) (.int .u8) ys (ys.map (bQ .u8)) []:=by
  refine⟨λj hj=> ?_,rfl⟩;show bu9 1 (bu8 (0+j*1) (ys.map (bQ .u8)))=[bQ .u8 ys[j]];simp_all[bJ,bs8,bG]
 obtain⟨v,w',g',hr,l,R',p9⟩:=IC (τ:= .int .u8) (ty:=ty) ht hi hz rr NU ez R bd9 hS hQ (λ_ h=>by simp) tb (λ_ _ h=>by grind) 7;have pz:v=g'.cv 7 0:=p9.2.1
 have qJ:∀b,b<w.heap.size->b∉nb->dC b=az->w'.heap[b]?=w.heap[b]?/\g'.gV b=none:=λb h1 h2 h3=>by
  obtain⟨a1,_,a3⟩:=R'.frame b h1 (ai h2) h3
  grind
 have aq5:∀b L,dC b=U L->g'.gV b=az/\∃arr ty fr,w'.heap[b]?=U (.cells arr ty fr)/\arr.toList=L:=λb L h=>by
  obtain⟨a1,_,a3⟩:=R'.dC b L (R'.mN b L h);simp_all
 have hO:=R'.iW 7 _ (dI _ _ _)
 rcases hO with⟨h1,h2⟩|⟨b,cap,arr,ER,h1,h2,h3,h4,h5,h6,h7⟩
 ·refine⟨v,w',[],hr,⟨λ_ _ h=>h,λb L h=>(aq5 b L h).2,λb h1 h2 h3=>⟨(qJ b h1 h2 h3).1,h3⟩,bf,λb h=>by simp at h,R'.size,R'.os,R'.tape,R'.output,λb L h=>R'.fix b L h⟩, .inl ⟨by rw[pz];exact congrArg (λv=>[v]) h1,h2,rfl⟩,λb hb=>by simp at hb⟩
 ·have ad9:dC b=none:=by
   cases e:dC b with
   |none=>rfl
   |some L=>
    have:=(aq5 b L e).1;rw[h2]at this;cases this
  refine⟨v,w',[b],hr,⟨λ_ _ h=>h,λb L h=>(aq5 b L h).2,λb h1 h2 h3=>⟨(qJ b h1 h2 h3).1,h3⟩,by simp,λy hy=> ?_,R'.size,R'.os,R'.tape,R'.output,λb L h=>R'.fix b L h⟩, .inr ⟨b,cap,arr,ER,[],by rw[pz];exact congrArg (λv=>[v]) h1,rfl,h4,h5,h6, ?_,rfl⟩,λy hy=> ?_⟩
  ·have hy:y=b:=(by simpa using hy);subst hy;refine⟨ad9, ?_,R'.iV _ (by rw[h2];simp)⟩
   by_cases hm:y∈nb
   ·exact .inl hm
   ·refine .inr (Nat.le_of_not_lt λmL=> ?_);have:=(qJ y mL hm ad9).2;rw[h2]at this;cases this
  ·exact Els.flat rfl h7
  ·have hy:y=b:=(by simpa using hy);subst hy;exact TM ht hi hz rr NU hT RR hS tb hr (pz.trans h1)
def sj {w:World}(h:w.heap[b]?=U (.cells arr ty (0,0))) (v):
  (w.setCell ⟨b,k,az⟩ v).heap[b]?=U (.cells (arr.setIfInBounds k v) ty (0,0))/\(∀x,x≠b->(w.setCell ⟨b,k,az⟩ v).heap[x]?=w.heap[x]?)/\(w.setCell ⟨b,k,az⟩ v).heap.size=w.heap.size:=
 ⟨heap_setCell_same w b k arr ty v h,λx hx=>heap_setCell_other w _ x v hx,by simp⟩
def lt_of_heap {w:World}(h:w.heap[b]?=U o):b<w.heap.size:=by
 grind
def OwnAt.other (h:OwnAt dC w aq (.int .u8) xs us nb)(k:∀b∈nb,w'.heap[b]?=w.heap[b]?):OwnAt dC w' aq (.int .u8) xs us nb:=by
 rcases h with h|⟨b,cap,arr,ty,lW,h1,h2,h3,h4,h5,h6,h7⟩
 ·exact .inl h
 ·exact .inr ⟨b,cap,arr,ty,lW,h1,h2,by simp_all,h4,h5,h6,h7⟩
def LY 
  (ha:w.heap[b]?=U (.cells arr ty (0,0))) (hle:o+2<=arr.size) (hn:(b::Qi).Nodup) (hi:∀y∈b::Qi,dC y=az/\y<w.heap.size)
  (hc:∀b L,dC b=U L->∃arr ty fr,w.heap[b]?=U (.cells arr ty fr)/\arr.toList=L)
  (e1:w1=w.setCell ⟨b,o,az⟩ self) (A:After dC w1 Qi dC w2 UX) (hO:OwnAt dC w2 aq (.int .u8) xs [v] UX):
  After dC w (b::Qi) dC (w2.setCell ⟨b,o+1,az⟩ v) (b::UX)/\b∉UX/\∃pT,(w2.setCell ⟨b,o+1,az⟩ v).heap[b]?=U (.cells pT ty (0,0))/\
   pT.toList=arr.toList.take o++[self,v]++arr.toList.drop (o+2)/\OwnAt dC (w2.setCell ⟨b,o+1,az⟩ v) aq (.int .u8) xs [v] UX/\w2.heap[b]?=U (.cells (arr.setIfInBounds o self) ty (0,0)):=by
 obtain⟨s1,s2,s3⟩:=sj (k:=o) ha self;rw[<-e1]at s1 s2 s3;have UB:b<w1.heap.size:=lt_of_heap s1;have Cv:=cu.1 hn;have XW:=(hi b (aD ..)).1
 have h2:w2.heap[b]?=U (.cells (arr.setIfInBounds o self) ty (0,0)):=by rw[(A.same b UB Cv.1 XW).1];omega
 have NW:b∉UX:=λhm=>by
  rcases(A.ad0 b hm).2.1 with h|h
  all_goals grind
 obtain⟨t1,t2,t3⟩:=sj (k:=o+1) h2 v;refine⟨⟨λ_ _ h=>h,λy L h=> ?_,λy h1 hm h3=> ?_,cu.2 ⟨NW,A.nodup⟩,λy hy=> ?_, ?_, ?_, ?_, ?_,λy L h=> ?_⟩,NW,_,t1, ?_,hO.other λy hy=>t2 y λe=>NW (e ▸ hy),h2⟩
 ·have ax3:y≠b:=λe=>by simp_all
  obtain⟨a,t,f,k1,k2⟩:=A.cells y L h;simp_all
 ·have ax3:y≠b:=λe=>hm (e ▸ aD ..)
  have bh7:y∉Qi:=λe=>hm (aB _ e)
  rw[t2 y ax3,(A.same y (by omega) bh7 h3).1,s2 y ax3];simp_all
 ·rcases bA.1 hy with rfl|hy
  ·grind
  ·obtain⟨k1,k2,k3⟩:=A.ad0 y hy
   grind
 ·rw[t3,<-s3];exact A.size
 ·show w2.os=w.os;rw[A.os,e1];rfl
 ·show w2.tape=w.tape;rw[A.tape,e1];rfl
 ·show w2.output=w.output;rw[A.output,e1];rfl
 ·have ax3:y≠b:=λe=>by subst e;rw[XW]at h;cases h
  rw[t2 y ax3,A.fix y L h,s2 y ax3]
 ·simp only[Array.toList_setIfInBounds]
  apply bn5
  intro j;have hl:arr.toList.length=arr.size:=rfl;simp only[List.getElem?_set,cA,aC,List.getElem?_append,bl,cT,aw,ay,cJ]
  rcases Nat.lt_trichotomy j o with h|h|h
  ·rw[ai (by omega),ai (by omega),aj (by omega),aj h]
  ·subst h;rw[ai (by omega),aj rfl,aj (by omega),ai (by omega),aj (by omega)];rw[show j - min j arr.toList.length=0 by omega];rfl
  ·by_cases h2:j=o+1
   ·subst h2;rw[aj rfl,aj (by omega),ai (by omega),aj (by omega),show o+1 - min o arr.toList.length=1 by omega];rfl
   ·rw[ai (by omega),ai (by omega),ai (by omega),ai (by omega)]
    congr 1
    omega
def xq (aH8:o.guard=az) (s x) (t u)
  (ho:o.op= .call {callee:= .builtin .append,args:=#[s,x],argTypes:=#[t,u]}) (vs vx) (hs:a.eval s=vs) (hx:a.eval x=vx) (R:Value->World->Prop)
  (hr:∃v w',(bo9 #[t,u] o.type #[vs,vx]).run P w= .ok v w'/\R v w') (h:∀v w',R v w'->wpList P ops Q rest (a.put o.dst v) w'):wpList P ops Q (o::rest) a w:=by
 obtain⟨v,w',hr,hR⟩:=hr
 refine wpList_plain aH8 λK hK=> ?_
 unfold Oper.wp execOp;simp[ho,resolve,invoke,builtin,hs,hx,hr];exact hK _ _ (h v w' hR)
def After.Yb (hc:∀b L,dC b=U L->b<w.heap.size)(h:After dC (w.alloc o) nb dC w' lW):After dC w nb dC w' lW:=by
 have hs:(w.alloc o).heap.size=w.heap.size+1:=(by simp);refine⟨h.mono,h.cells,λb h1 h2 h3=> ?_,h.nodup,λb hb=> ?_, ?_,h.os,h.tape,h.output,λb L hb=> ?_⟩
 ·rw[(h.same b (by omega) h2 h3).1];refine⟨?_,h3⟩;show(w.heap.push _)[b]?=_
  grind
 ·obtain⟨a1,a2,a3⟩:=h.ad0 b hb
  grind
 ·have:=h.size;omega
 ·rw[h.fix b L hb];show(w.heap.push _)[b]?=_
  grind
def OwnAt.alloc (h:OwnAt dC w aq (.int .u8) xs us nb)(k:∀b∈nb,b<w.heap.size) (o):OwnAt dC (w.alloc o) aq (.int .u8) xs us nb:=
 h.other λb hb=>by
  show(w.heap.push _)[b]?=_
  grind
end Go.Abs
end

section
namespace Go.Abs
def hZ (hf:P.funcs[f]?=U fn)(hb:fn.body=U c)(Tt:(fn.name== "runtime.NumGoroutine")=aq)
  (h:Calls P f args w λe w'=>∃v,e= .returned v/\R v w'):ll P f args w R:=by
 have Qg:(callFunc f args).run P w= .ok (.enter f args) w:=by
  have h1:fn.name≠ "runtime.NumGoroutine" :=(by simpa using Tt)
  simp[callFunc,hf,h1,hb]
 unfold ll;rw[Qg];exact h
structure Same (w w':World):Prop where
 other:∀b,b<w.heap.size->w'.heap[b]?=w.heap[b]?
 size:w.heap.size<=w'.heap.size
 os:w'.os=w.os
 tape:w'.tape=w.tape
 output:w'.output=w.output
theorem Same.refl (w):Same w w:=⟨λ_ _=>rfl,aF _,rfl,rfl,rfl⟩
theorem Same.after (h:Same w w')(hc:∀b L,dC b=U L->∃arr ty fr,w.heap[b]?=U (.cells arr ty fr)/\arr.toList=L):After dC w [] dC w' []:=
 ⟨λ_ _ h=>h,λb L k=>by
  obtain⟨a,t,f,k1,k2⟩:=hc b L k
  exact⟨a,t,f,by rw[h.other b (lt_of_heap k1)];exact k1,k2⟩,λb h1 _ h3=>⟨h.other b h1,h3⟩,bf,λb hb=>by simp at hb,h.size,h.os,h.tape,h.output,λb L k=>by
  obtain⟨a,t,f,k1,k2⟩:=hc b L k
  exact h.other b (lt_of_heap k1)⟩
def Is:(τ:Ty)->τ.den->Value->Prop
 | .int k,x,u=>u= .int k x
 | .bool,b,u=>u= .bool b
 | .str,l,u=>∃s,u= .string s/\l=bytesOf s
 |_,_,_=>False
def uS:List Ty->List VSp
 |[]=>[]
 |τ::r=> .one (.fT τ)::uS r
def Dx:(ts:List Ty)->(fF (uS ts)).den->List Value->Prop
 |[],_,us=>us=[]
 |τ::r,x,us=>∃u v,us=u::v/\Is τ x.1 u/\Dx r x.2 v
def simple:Ty->Bool
 | .int _=>av
 | .bool=>av
 | .str=>av
 |_=>aq
def Vp (hs:simple τ=av)(h:Rc r τ x [u]):Is τ x u:=by
 cases τ with
 |int k=>have h:_=_:=h;injection h
 |bool=>have h:_=_:=h;injection h
 |str=>obtain⟨s,e,h⟩:=h;injection e with e;exact⟨s,e,h⟩
 |_=>cases hs
def O4 (hs:simple τ=av)(h:Is τ x u):Rc r τ x [u]/\oc u=av/\τ.one=true:=by
 cases τ with
 |int k=>have h:_=_:=h;subst h;exact⟨rfl,rfl,rfl⟩
 |bool=>have h:_=_:=h;subst h;exact⟨rfl,rfl,rfl⟩
 |str=>obtain⟨s,e,h⟩:=h;subst e;exact⟨⟨s,rfl,h⟩,rfl,rfl⟩
 |_=>cases hs
def yS:∀{ts:List Ty}{x:(fF (uS ts)).den}{us:List Value}{nb:List Nat},ts.all simple=av->kT dC w (uS ts) x us nb->Dx ts x us/\nb=[]
 |[],_,_,_,_,h=>h
 |τ::r,x,us,nb,hs,⟨u,v,n1,n2,e,e',⟨_,h1,_,u',e2,h2⟩,h3⟩=>by
  simp only[cE,aA]at hs
  injection e2 with e2
  subst e2;obtain⟨k1,k2⟩:=yS hs.2 h3;exact⟨⟨u,v,e,Vp hs.1 h2,k1⟩,by rw[e',h1,k2];rfl⟩
def yN:∀{ts:List Ty}{x:(tH (uS ts)).den}{y:(fF (uS ts)).den}{us:List Value},Dx ts y us->nW dC w w' (uS ts) x us []
 |[],_,_,_,h=>⟨h,rfl⟩
 |_::_,_,_,_,⟨u,v,e,_,h⟩=>⟨u,v,[],[],e,rfl,rfl,yN h⟩
def BY (aY4:ts.all simple=av)(hτ:simple τ=av){F:(fF (uS ts)).den->Option (Ty.pr τ (tH (uS ts))).den}
  (h:∀x y,F x=U y->∀w us,Dx ts x us->ll P f us.toArray w λv w'=>Same w w'/\Is τ y.1 v):o9 P gU f ⟨⟨uS ts, .val (.one (.fT τ))⟩,F⟩:=by
 intro x y hF dC w args nb hG mM hP qK Cv;obtain⟨hA,rfl⟩:=yS aY4 hP;refine ll.mono (λv w' hk=> ?_) (h x y hF w args hA);obtain⟨hs,hv⟩:=hk;obtain⟨k1,k2,k3⟩:=O4 (r:=dC) hτ hv;exact⟨dC,[],[],hs.after mM,⟨k2,rfl,k3,v,rfl,k1⟩,yN hA⟩
theorem Dx.map:∀{ts:List Ty}{x:(fF (uS ts)).den}{us:List Value},ts.all simple=av->Dx ts x us->vE dC w (uS ts) x us []
 |[],_,_,_,h=>⟨h,rfl⟩
 |τ::r,x,us,hs,⟨u,v,e,h1,h2⟩=>by
  simp only[cE,aA]at hs;obtain⟨k1,k2,k3⟩:=O4 (r:=dC) hs.1 h1;exact⟨u,v,[],[],e,rfl,⟨k2,rfl,k3,u,rfl,k1⟩,Dx.map hs.2 h2⟩
end Go.Abs
end

section
namespace Go.Abs
def Jh (hg:P.globalNamed n=U g)(h:W.var? P n=U cs):snap W g=U cs.toList:=by
 unfold World.var? at h;rw[hg,al]at h;unfold snap;split at h
 ·rename_i arr a b e;rw[e]
  injection h with h
  rw[h]
 ·cases h
def JA {enc:TypeId×Value->H}{P:Program}{g g' t:Nat}{held:Bool} 
  (hg:P.globalNamed n=U g) (ht:(P.globals[g]?).map (·.type)=U t) (hv:W.var? P n=U cs) (hd:bp7 enc P W 0 sp held fuel t cs.toList=U (d,p))
  (eg:P.globalNamed n=U g') (ef:((P.globals[g']?).map (·.type)).all (λt=>PH P k t τ)=av) (ho:τ.one=av) (hs:∀us,Rc (snap W) τ x us->us.length=1) (ex:ofD τ d=x):
  ∃us,snap W g'=U us/\∀gh:Gh,(∀b L,snap W b=U L->gh.dC b=U L)->dG gh [.v τ x] us:=by
 obtain rfl:=Option.some.inj (hg.symm.trans eg);rw[ht]at ef;have h:=(M4 k fuel t τ cs.toList (d,p) ef hd).1;rw[ex]at h;have hl:=hs _ h;refine⟨cs.toList,Jh hg hv,λgh hi=> ?_⟩
 match hc:cs.toList,hl with
 |[u],_=>
  rw[hc]at h;exact⟨u,[],rfl,⟨ho,h.mono hi⟩,rfl⟩
def Rn:∀us,Rc r (.sl e) xs us->us.length=1:=by
 rintro us ⟨A,c,rfl,_⟩;rfl
def VA {enc:TypeId×Value->H}{P:Program}{g g' t:Nat} 
  (hg:P.globalNamed n=U g) (ht:(P.globals[g]?).map (·.type)=U t) (hv:W.var? P n=U cs) (hd:bp7 enc P W 0 sp aq fuel t cs.toList=U (.iface nm d,p))
  (eg:P.globalNamed n=U g') (ef:((P.globals[g']?).map (·.type)).all (λt=>match P.underlying t with|some (.interface _)=>av|_=>aq)=av):
  ∃us,snap W g'=U us/\∀gh:Gh,(∀b L,snap W b=U L->gh.dC b=U L)->dG gh [.err aq] us:=by
 obtain rfl:=Option.some.inj (hg.symm.trans eg);rw[ht]at ef;refine⟨cs.toList,Jh hg hv,λgh hi=> ?_⟩;have ef:(match P.underlying t with|some (.interface _)=>av|_=>aq)=true:=ef
 cases hu:P.underlying t with
 |none=>rw[hu]at ef;cases ef
 |some k=>
  cases k with
  |interface ms=>
   cases fuel with
   |zero=>simp[bp7]at hd
   |succ m=>
    unfold bp7 at hd;rw[hu]at hd;simp only at hd;split at hd<;>simp_all;rename_i u v hc _;exact⟨_,_,rfl, .inr ⟨rfl,_,_,rfl⟩,rfl⟩
  |_=>rw[hu]at ef;cases ef
def IW:∀zs:List Int,dG gh (zs.map λz=> .v (.int k) z) (zs.map λz=> .int k z)
 |[]=>rfl
 |z::zs=>⟨_,_,rfl,⟨rfl,rfl⟩,IW zs⟩
def Ls {enc:TypeId×Value->H}{P:Program}{g g' t m e:Nat}{held:Bool} 
  (hg:P.globalNamed n=U g) (ht:(P.globals[g]?).map (·.type)=U t) (hv:W.var? P n=U cs) (hd:bp7 enc P W 0 sp held fuel t cs.toList=U (.agg ds,p))
  (eg:P.globalNamed n=U g') (zs:List Int) (ez:ds.map (ofD (.int k))=zs)
  (et:((P.globals[g']?).bind λgl=>P.underlying gl.type)=U (.array m e)) (ee:P.underlying e=U (.int k)) (e1:P.cellsOf e=1) (en:((P.globals[g']?).map λgl=>P.cellsOf gl.type)=U m):
  ∃us,snap W g'=U us/\∀gh:Gh,(∀b L,snap W b=U L->gh.dC b=U L)->dG gh (zs.map λz=> .v (.int k) z) us:=by
 obtain rfl:=Option.some.inj (hg.symm.trans eg);refine⟨cs.toList,Jh hg hv,λgh hi=> ?_⟩;obtain⟨gl,bi8,rfl⟩:=bj.1 ht;rw[bi8]at et en;have et:P.underlying gl.type=U (.array m e):=et;have en:U (P.cellsOf gl.type)=U m:=en
 injection en with en
 obtain⟨xs,q,_,ex,hl,hx,NP⟩:=DataW.trod_array et hd;rw[en]at hl;simp only[cB,DataW.agg.injEq]at ex
 have:cs.toList=zs.map λz=> .int k z:=by
  refine bn5 λi=> ?_
  by_cases hi:i<m
  ·have h:=NP i hi;rw[e1,bs8,aL (show i<xs.length by omega)]at h;obtain⟨z,h1,h2,_⟩:=DataW.trod_int ee h
   have h3:cs.toList[i]?=U (.int k z):=by
    have:((cs.toList.drop i).take 1)[0]?=U (.int k z):=by rw[h1];rfl
    simpa using this
   rw[h3,<-ez,ex.1,List.map_map,List.map_map,bn4,aL (show i<xs.length by omega)];simp only[Option.map_some,Function.comp,h2];rfl
  ·rw[bR (by omega),bR (by rw[<-ez,ex.1];simp;omega)]
 rw[this];exact IW zs
end Go.Abs
end

