/- What is here: what is handed over at a call, told by the world and what is immutable alone. -/
import Derived.Test.YtdoinjofjojmbaaGreatDoorV1
import Derived.MapKept
import Derived.Scope
import Derived.KernelRfl
import Derived.Below
import Derived.Laws.BitsLemmas
import Derived.OpenShut
import Derived.OpenVars
set_option linter.all false
set_option maxRecDepth 100000
open Go.IntKind (i64 u64 u8)
open Array renaming ext' → a84, getD_eq_getD_getElem? → bU, length_toList → a30
open Bool renaming and_eq_true → aA, false → ar, false_eq_true → bZ, false_or → cH, true → av
open Decidable renaming decide → I
open Go.DataW renaming trod → a34
open Go.Instr renaming findNow → a23, loadAt → a66, sureAddr → a44
open Go.IntKind renaming i64 → aq, u8 → aN
open Go.Region renaming binds → a48, wanted → a25
open Go.Result renaming andThen → a74, andThen_ok → bh
open Go.Sem renaming run_bind → bH, run_pure → a08
open List renaming all_cons → cz, all_eq_true → aW, append_assoc → aI, append_nil → aU, drop_drop → b8, drop_eq_nil_of_le → cd, drop_left → cN, drop_take → cr, drop_zero → cc, eq_nil_of_length_eq_zero → bn, ext_getElem? → a06, getD_eq_getElem?_getD → aG, getElem?_drop → cL, getElem?_eq_getElem → aJ, getElem?_eq_none → bM, getElem?_eq_some_iff → bw, getElem?_map → a05, getElem?_take → cK, length → a14, length_cons → az, map_cons → bW, mem_append → aL, mem_append_left → aV, mem_append_right → aY, mem_cons → bA, mem_cons_of_mem → aD, mem_cons_self → aF, mem_flatMap → a33, mem_map → cG, mem_range → a03, nil_append → bS, nodup_append → bC, nodup_cons → cg, nodup_nil → bf, range → a09, range' → a32, take_left → a45, take_length → ck, take_of_length_le → a11, take_take → b9
open Nat renaming beq → aw, ble → a10, blt → cE, eq_of_beq_eq_true → bV, le_of_ble_eq_true → aP, le_refl → aC, le_succ → bR, le_trans → bX, lt_of_lt_of_le → aR, lt_or_ge → bG, min_eq_left → a07, zero_add → cj, zero_le → aX
open Option renaming bind_eq_some_iff → bB, bind_some → au, map_eq_some_iff → bj, none → ay, some → J
open Option.some renaming injEq → bY
open Prod.mk renaming injEq → cy
section
namespace Go.Abs
def rdW (w:World):Rd:=λb=>match w.heap[b]? with
 |some (.cells arr _ (0,0))=>J arr.toList
 |_=>ay
def mH (dj:Rd)(w:World)(mv:Bool)(τ:Ty)(xs:List τ.den)(L:List Value)(nb:List Nat):Prop:=
 if mv then gZ (rdW w) τ xs L nb else Els dj τ xs L 0/\nb=[]
def OwnAt (dj:Rd)(w:World)(mv:Bool)(τ:Ty)(xs:List τ.den)(us:List Value)(nb:List Nat):Prop:=
 (us=[.slice ay 0 0]/\xs=[]/\nb=[])\/∃b cap arr ty ku,us=[.slice (J ⟨b,0,ay⟩) xs.length cap]/\nb=b::ku/\w.heap[b]?=J (.cells arr ty (0,0))/\
   xs.length<=cap/\arr.size=cap*τ.size/\mH dj w mv τ xs arr.toList ku
def sC (dj:Rd)(w:World)(pl:Nat×Nat)(xs:List Int)(us:List Value)(nb:List Nat):Prop:=
 (us=[.pointer ay, .slice ay 0 0]/\xs=[]/\nb=[])\/∃u2,us=[.pointer (J ⟨pl.1,pl.2,ay⟩),u2]/\OwnAt dj w ar (.int .u8) xs [u2] nb/\∀b∈nb,∃arr,w.heap[b]?=J (.cells arr nF (0,0))
def Pass (dj:Rd)(w:World):(s:Sp)->s.ty.den->Nat×Nat->List Value->List Nat->Prop
 | .un,_,_,us,nb=>us=[]/\nb=[]
 | .pr a b,x,pl,us,nb=>∃u1 u2 n1 n2,us=u1++u2/\nb=n1++n2/\Pass dj w a x.1 pl u1 n1/\Pass dj w b x.2 (pl.1,pl.2+a.size) u2 n2
 | .fh τ,x,_,us,nb=>nb=[]/\τ.one=av/\∃u,us=[u]/\Rc dj τ x [u]
 | .own τ dp,xs,_,us,nb=>OwnAt dj w (dp&& !τ.flat) τ xs us nb
 | .lnd τ dp,xs,_,us,nb=>OwnAt dj w (dp&& !τ.flat) τ xs us nb
 | .ptr wh st s,x,_,us,nb=>∃b o arr ty ku,us=[.pointer (J ⟨b,o,ay⟩)]/\nb=b::ku/\w.heap[b]?=J (.cells arr ty (0,0))/\((wh=av->o=0/\arr.size=s.size/\ty=st.1)/\(wh=ar->Im st.2 ty o arr.size=av))/\o+s.size<=arr.size/\
   Pass dj w s x (b,o) ((arr.toList.drop o).take s.size) ku
 | .Bc ok,x,_,us,nb=>∃b o arr ty,us=[.pointer (J ⟨b,o,ay⟩)]/\w.heap[b]?=J (.cells arr ty (0,0))/\Im ok ty o arr.size=av/\o+2<=arr.size/\sC dj w (b,o) x ((arr.toList.drop o).take 2) nb
 | .uY,x,pl,us,nb=>sC dj w pl x us nb
 | .err,b,_,us,nb=>nb=[]/\∃u,us=[u]/\((b=av/\u= .nilIface)\/(b=ar/\∃t v,u= .iface t v))
 | .np,_,_,us,nb=>nb=[]/\us=[.pointer ay]
 | .slf _ _,_,_,us,nb=>nb=[]/\∃b o,us=[.pointer (J ⟨b,o,ay⟩)]
theorem mH.mono {dj fw:Rd}(h:∀b L,dj b=J L->fw b=J L){w:World}{mv:Bool}{τ:Ty}{xs:List τ.den}{L:List Value}{nb:List Nat}(k:mH dj w mv τ xs L nb):mH fw w mv τ xs L nb:=by
 unfold mH at k⊢;split
 ·simp_all
 ·rename_i e;rw[aj e]at k;exact⟨k.1.mono h,k.2⟩
theorem OwnAt.mono {dj fw:Rd}(h:∀b L,dj b=J L->fw b=J L){w:World}{mv:Bool}{τ:Ty}{xs:List τ.den}{us:List Value}{nb:List Nat}(k:OwnAt dj w mv τ xs us nb):OwnAt fw w mv τ xs us nb:=by
 rcases k with k|⟨b,cap,arr,ty,ku,e,e',ha,hl,hs,k⟩
 ·exact .inl k
 ·exact .inr ⟨b,cap,arr,ty,ku,e,e',ha,hl,hs,k.mono h⟩
theorem OwnAt.length {dj:Rd}{w:World}{mv:Bool}{τ:Ty}{xs:List τ.den}{us:List Value}{nb:List Nat}(k:OwnAt dj w mv τ xs us nb):us.length=1:=by
 rcases k with k|⟨b,cap,arr,ty,ku,e,_⟩
 all_goals simp_all
theorem sC.mono {dj fw:Rd}(h:∀b L,dj b=J L->fw b=J L){w:World}{pl:Nat×Nat}{xs:List Int}{us:List Value}{nb:List Nat}(k:sC dj w pl xs us nb):sC fw w pl xs us nb:=by
 rcases k with k|⟨u2,e,k⟩
 ·exact .inl k
 ·exact .inr ⟨u2,e,k.1.mono h,k.2⟩
theorem sC.length {dj:Rd}{w:World}{pl:Nat×Nat}{xs:List Int}{us:List Value}{nb:List Nat}(k:sC dj w pl xs us nb):us.length=2:=by
 rcases k with k|⟨u2,e,_⟩
 all_goals simp_all
theorem Pass.mono {dj fw:Rd}(h:∀b L,dj b=J L->fw b=J L){w:World}:∀{s:Sp} {x:s.ty.den} {pl:Nat×Nat} {us:List Value} {nb:List Nat},Pass dj w s x pl us nb->Pass fw w s x pl us nb
 | .un,_,_,_,_,k=>k
 | .pr _ _,_,_,_,_,⟨u1,u2,n1,n2,e,e',k1,k2⟩=>⟨u1,u2,n1,n2,e,e',Pass.mono h k1,Pass.mono h k2⟩
 | .fh _,_,_,_,_,⟨e,h1,u,e',k⟩=>⟨e,h1,u,e',k.mono h⟩
 | .own _ _,_,_,_,_,k=>OwnAt.mono h k
 | .lnd _ _,_,_,_,_,k=>OwnAt.mono h k
 | .ptr _ _ _,_,_,_,_,⟨b,o,arr,ty,ku,e,e',ha,hw,hl,k⟩=>⟨b,o,arr,ty,ku,e,e',ha,hw,hl,Pass.mono h k⟩
 | .Bc _,_,_,_,_,⟨b,o,arr,ty,e,ha,hk,hl,k⟩=>⟨b,o,arr,ty,e,ha,hk,hl,sC.mono h k⟩
 | .uY,_,_,_,_,k=>sC.mono h k
 | .err,_,_,_,_,k=>k
 | .np,_,_,_,_,k=>k
 | .slf _ _,_,_,_,_,k=>k
theorem Pass.length {dj:Rd}{w:World}:∀{s:Sp} {x:s.ty.den} {pl:Nat×Nat} {us:List Value} {nb:List Nat},Pass dj w s x pl us nb->us.length=s.size
 | .un,_,_,_,_,k=>by rw[k.1];rfl
 | .pr _ _,_,_,_,_,⟨u1,u2,n1,n2,e,e',k1,k2⟩=>by subst e;simp[Sp.size,k1.length,k2.length]
 | .fh _,_,_,_,_,⟨e,h1,u,e',k⟩=>by simp_all
 | .own _ _,_,_,_,_,k=>OwnAt.length k
 | .lnd _ _,_,_,_,_,k=>OwnAt.length k
 | .ptr _ _ _,_,_,_,_,⟨b,o,arr,ty,ku,e,_⟩=>by simp_all
 | .Bc _,_,_,_,_,⟨b,o,arr,ty,e,_⟩=>by simp_all
 | .uY,_,_,_,_,k=>sC.length k
 | .err,_,_,_,_,⟨_,u,e,_⟩=>by simp_all
 | .np,_,_,_,_,k=>by rw[k.2];rfl
 | .slf _ _,_,_,_,_,⟨_,b,o,e⟩=>by simp_all
theorem HRel.congr {B:Base}{g:Gh}{hp Ew:List (Nat×Obj)}{w:World}(e:∀i,look Ew i=look hp i)(R:HRel B g hp w):HRel B g Ew w:=
 ⟨λi=>by rw[e i];exact R.top i,λi o h=>R.gE i o (by simp_all),R.dj,R.gA,R.gD,R.kH,R.frame,R.size,R.os,R.tape,R.output,R.fix⟩
theorem Hb {β:Type}(l:List (Nat×β))(n:Nat)(a b:β)(i:Nat):look ((n,a)::l) i=look ((n,a)::(n,b)::l) i:=by
 grind [du,de]
theorem HRel.UR {B:Base}{g:Gh}{hp:List (Nat×Obj)}{w:World}(R:HRel B g hp w){id b:Nat}(hl:g.fL b=J (id+1))(hn:g.gA b=ay)
  (ho:∀o,look hp id=J o->(∃gn,o= .dead gn)\/∃gn cs,o= .j1 gn cs):
  ∃g',Lk g g'/\g'.outer=g.outer/\g'.dj=g.dj/\g'.gA=g.gA/\(∀x,x≠b->g'.fL x=g.fL x)/\g'.fL b=J 0/\HRel B g' hp w:=by
 let g':Gh:={g with fL:=λx=>if x=b then J 0 else g.fL x}
 have hle:Le g g':=⟨λ_ _ h=>h,λ_=>aC _,λ_ _ _=>rfl⟩;refine⟨g',⟨hle,λx hx=> ?_,rfl⟩,rfl,rfl,rfl,λx hx=>by grind,by grind, ?_⟩
 ·grind
 ·refine⟨R.top,λi oi hi=> ?_,λx L hx=> ?_,λx L hx=> ?_,λx hx=> ?_,R.kH,λx hx Iz hi=> ?_,R.size,R.os,R.tape,R.output,R.fix⟩
  ·by_cases e:i=id
   ·subst e
    rcases ho oi hi with⟨gn,rfl⟩|⟨gn,cs,rfl⟩<;>trivial
   ·refine(R.gE i oi hi).tr hle (λx hx=> ?_) rfl (jm R hi)
    grind
  ·obtain⟨a1,a2,a3⟩:=R.dj x L hx
   grind
  ·obtain⟨a1,a2⟩:=R.gA x L hx
   grind
  ·by_cases zG:x=b
   ·exact R.gD x (by simp_all)
   ·exact R.gD x (by grind)
  ·obtain⟨f1,f2,f3⟩:=R.frame x hx Iz hi
   grind
theorem HRel.Wk {B:Base}{g:Gh}{hp:List (Nat×Obj)}{w:World}(R:HRel B g hp w){b:Nat}{L:List Value}(h:g.gA b=J L):rdW w b=J L:=by
 obtain⟨_,arr,ty,a,e⟩:=R.gA b L h;simp_all[rdW]
theorem HRel.aj2 {B:Base}{g:Gh}{hp:List (Nat×Obj)}{w:World}(R:HRel B g hp w){id gen:Nat}{τ:Ty}{deep dp:Bool}{xs:List τ.den}
  (h:look hp id=J (.own gen τ deep xs)) (hd:(deep|| !dp||τ.flat)=av):∃g' nb,Lk g g'/\g'.outer=g.outer/\HRel B g' ((id, .dead gen)::hp) w/\nb.Nodup/\(∀b∈nb,g'.fL b=J 0/\g.fL b≠J 0)/\
   OwnAt g'.dj w (dp&& !τ.flat) τ xs [g.cv id gen] nb:=by
 have step1:∃g1,Lk g g1/\g1.outer=g.outer/\HRel B g1 ((id, .own gen τ (deep&&dp) xs)::hp) w:=by
  by_cases e:(deep&&dp)=deep
  ·rw[e];exact⟨g,Lk.refl g,rfl,R.put h rfl (R.gE _ _ h)⟩
  ·have e':(deep&&dp)=false:=by simp_all
   rw[e']
   have:∃g',Lk g g'/\g'.outer=g.outer/\HRel B g' ((id, .own gen τ ar xs)::hp) w:=by
    have hO:=R.gE _ _ h
    rcases hO with⟨h1,h2⟩|⟨b,cap,arr,ty,h1,h2,h3,h4,h5,h6,h7⟩
    ·exact⟨g,Lk.refl g,rfl,R.put h rfl (.inl ⟨h1,h2⟩)⟩
    ·by_cases hd:(deep&& !τ.flat)=av
     ·unfold gy at h7;rw[ak hd]at h7;obtain⟨nb,k1,k2,k3⟩:=h7
      have hS:∀x L,nbS g nb x=J L->g.fL x=J (id+1)/\∃arr ty fr,w.heap[x]?=J (.cells arr ty fr)/\arr.toList=L:=by
       intro x L hx;unfold nbS at hx;split at hx
       ·rename_i hm;obtain⟨_,arr,ty,a,b⟩:=R.gA x L hx;simp_all
       simp_all
      have Be:nbS g nb b=none:=by grind [nbS]
      refine⟨_,R.F6 (λx L hx=>(hS x L hx).1),rfl,R.Lv hS h rfl (.inr ⟨b,cap,arr,ty,h1,by simp_all[Gh.pF],by simp_all[Gh.pF],h4,h5,h6, ?_⟩)⟩;show gy _ _ _ ar _ _;unfold gy;simp;refine gZ.els (nb:=nb) (k1.mono λx hx L hL=> ?_);simp_all[Gh.pF,nbS]
     ·refine⟨g,Lk.refl g,rfl,R.put h rfl (.inr ⟨b,cap,arr,ty,h1,h2,h3,h4,h5,h6, ?_⟩)⟩;simp_all[gy,aj]
   omega
 obtain⟨g1,l1,o1,R1⟩:=step1;have ht:=jm R h;have hO:=R1.gE _ _ (du _ _ _);have AJ:g1.cv id gen=g.cv id gen:=l1.le.cv _ _ ht
 have Rd:HRel B g1 ((id, .dead gen)::hp) w:=(R1.put (du _ _ _) (o':= .dead gen) rfl trivial).congr λi=>Hb _ _ _ _ i
 rcases hO with⟨h1,h2⟩|⟨b,cap,arr,ty,h1,h2,h3,h4,h5,h6,h7⟩
 ·refine⟨g1,[],l1,o1,Rd,bf,λb hb=>by simp_all, .inl ⟨?_,h2,rfl⟩⟩;simp_all
 ·rw[AJ]at h1
  have nest:∃g2 ku,Lk g1 g2/\g2.outer=g1.outer/\g2.dj=g1.dj/\HRel B g2 ((id, .dead gen)::hp) w/\ku.Nodup/\(∀x∈ku,g2.fL x=J 0/\g1.fL x≠J 0)/\b∉ku/\g2.fL b=J (id+1)/\g2.gA b=ay/\
    mH g2.dj w (dp&& !τ.flat) τ xs arr.toList ku:=by
   unfold gy at h7
   by_cases hc:((deep&&dp)&& !τ.flat)=av
   ·rw[ak hc]at h7;obtain⟨nb,k1,k2,k3⟩:=h7
    have LZ:b∉nb:=λhm=>k1.uM b hm h3
    let g':Gh:={g1 with fL:=open Classical in λx=>if x∈nb then J 0 else g1.fL x}
    have hle:Le g1 g':=⟨λ_ _ h=>h,λ_=>aC _,λ_ _ _=>rfl⟩
    have hR:HRel B g' ((id, .dead gen)::hp) w:=by
     refine⟨Rd.top,λi oi hi=> ?_,λx L hx=> ?_,λx L hx=> ?_,λx hx=> ?_,Rd.kH,λx hx hl hi=> ?_,Rd.size,Rd.os,Rd.tape,Rd.output,Rd.fix⟩
     ·by_cases e:id=i
      ·subst e;rw[du]at hi;injection hi with hi;subst hi;trivial
      ·refine(Rd.gE i oi hi).tr hle (λx hx=> ?_) rfl (jm Rd hi)
       grind
     ·obtain⟨a1,a2,a3⟩:=Rd.dj x L hx
      have Ai:x∉nb:=λhm=>by rw[k3 x hm]at a1;cases a1
      exact⟨by simp[g',Ai,a1],a2,a3⟩
     ·obtain⟨a1,a2⟩:=Rd.gA x L hx;refine⟨?_,a2⟩
      by_cases Ai:x∈nb
      ·simp[g',Ai]
      ·simpa[g',Ai]using a1
     ·by_cases Ai:x∈nb
      ·exact Rd.gD x (by rw[k3 x Ai];simp)
      ·exact Rd.gD x (by simpa[g',Ai]using hx)
     ·obtain⟨f1,f2,f3⟩:=Rd.frame x hx hl hi
      have Ai:x∉nb:=λhm=>by rw[k3 x hm]at f1;cases f1
      exact⟨by simp[g',Ai,f1],f2,f3⟩
    refine⟨g',nb,⟨hle,λx hx=> ?_,rfl⟩,rfl,rfl,hR,k2,λx hx=>⟨by simp[g',hx],by rw[k3 x hx];simp⟩,LZ,by simp[g',LZ,h2],h3, ?_⟩
    ·have Ai:x∉nb:=λhm=>by rw[k3 x hm]at hx;simp at hx
     simp[g',Ai,hx]
    ·have XH:(dp&& !τ.flat)=true:=by
      simp at hc⊢;exact⟨hc.1.2,hc.2⟩
     unfold mH;rw[ak XH]
     exact k1.mono λx hx L hL=>Rd.Wk hL
   ·rw[aj hc]at h7
    have XH:(dp&& !τ.flat)=false:=by
     revert hc hd
     cases deep<;>cases dp<;>cases τ.flat<;>simp
    refine⟨g1,[],Lk.refl g1,rfl,rfl,Rd,bf,λx hx=>by simp at hx,by simp,h2,h3, ?_⟩;unfold mH;rw[XH];simp only[bZ,if_false];exact⟨h7,trivial⟩
  obtain⟨g2,ku,l2,o2,i2,R2,n1,n2,n3,n4,n5,n6⟩:=nest;obtain⟨g3,l3,o3,i3,s3,f3,z3,R3⟩:=R2.UR n4 n5 (λo ho=>by rw[du]at ho;injection ho with ho;exact .inl ⟨gen,ho.symm⟩);refine⟨g3,b::ku,(l1.trans l2).trans l3,(o3.trans o2).trans o1,R3,cg.2 ⟨n3,n1⟩,λx hx=> ?_, .inr ⟨b,cap,arr,ty,ku,by rw[h1],rfl,h4,h5,h6,by rw[i3];exact n6⟩⟩
  rcases bA.1 hx with rfl|hy
  ·refine⟨z3,λe=> ?_⟩;have:=(l1.kp x e).1;rw[h2]at this;simp at this
  ·have zG:x≠b:=λe=>n3 (e ▸ hy)
   refine⟨by rw[f3 x zG];exact(n2 x hy).1,λe=>(n2 x hy).2 (l1.kp x e).1⟩
def o8 (hp:List (Nat×Obj))(g:Gh)(w:World):(s:Sp)->List Cell->List Value->Prop
 | .pr a b,cs,us=>o8 hp g w a (cs.take a.size) (us.take a.size)/\o8 hp g w b (cs.drop a.size) (us.drop a.size)
 | .lnd _ _,cs,us=>(cs=[.nil]/\us=[.slice ay 0 0])\/∃id gen,cs=[.own id gen]/\us=[g.cv id gen]/\gen<g.top id/\oc (g.cv id gen)=av
 | .ptr _ _ s,cs,us=>∃id gen off bs b o arr ty L,cs=[.ptr id gen off]/\us=[.pointer (J ⟨b,o+off,ay⟩)]/\look hp id=J (.j1 gen (ty,bs))/\g.cv id gen= .pointer (J ⟨b,o,ay⟩)/\
   w.heap[b]?=J (.cells arr ty (0,0))/\arr.toList=(g.outer id).take o++L++(g.outer id).drop (o+L.length)/\o+L.length<=(g.outer id).length/\(o=0/\(g.outer id).length=bs.length)/\
   off+s.size<=bs.length/\dr g bs L/\o8 hp g w s (cut off s.size bs) ((L.drop off).take s.size)
 |_,_,_=>True
theorem o8.mono {hp Ew:List (Nat×Obj)}{g g':Gh}{w:World}(l:Le g g')(ho:∀id gn cs,look hp id=J (.j1 gn cs)->look Ew id=J (.j1 gn cs)/\g'.outer id=g.outer id)(ht:∀id gn cs,look hp id=J (.j1 gn cs)->gn<g.top id):
  ∀{s:Sp} {cs:List Cell} {us:List Value},o8 hp g w s cs us->o8 Ew g' w s cs us
 | .un,_,_,_=>trivial
 | .fh _,_,_,_=>trivial
 | .own _ _,_,_,_=>trivial
 | .uY,_,_,_=>trivial
 | .Bc _,_,_,_=>trivial
 | .err,_,_,_=>trivial
 | .np,_,_,_=>trivial
 | .slf _ _,_,_,_=>trivial
 | .lnd _ _,_,_, .inl h=> .inl h
 | .lnd _ _,_,_, .inr ⟨id,gen,e,e',h,Vo⟩=> .inr ⟨id,gen,e,by rw[l.cv _ _ h];omega,aR h (l.top _),by rw[l.cv _ _ h];omega⟩
 | .pr _ _,_,_,⟨h1,h2⟩=>⟨o8.mono l ho ht h1,o8.mono l ho ht h2⟩
 | .ptr _ _ _,_,_,⟨id,gen,off,bs,b,o,arr,ty,L,e1,e2,hl,nE,ha,hL,hle,hid,Dn,hc,hr⟩=>by
  obtain⟨k1,k2⟩:=ho _ _ _ hl;exact⟨id,gen,off,bs,b,o,arr,ty,L,e1,e2,k1,(l.cv _ _ (ht _ _ _ hl)).trans nE,ha,by simp_all,by simp_all,by simp_all,Dn,hc.mono l,o8.mono l ho ht hr⟩
def gk (g:Gh)(nb:List Nat):Prop:=nb.Nodup/\∀b∈nb,g.fL b=J 0
theorem gk.mono {g g':Gh}(l:Lk g g'){nb:List Nat}(h:gk g nb):gk g' nb:=⟨h.1,λb hb=>(l.kp b (h.2 b hb)).1⟩
theorem gk.append {g g':Gh}{n1 n2:List Nat}(l:Lk g g')(h1:gk g n1)(h2:gk g' n2)(hf:∀b∈n2,g.fL b≠J 0):gk g' (n1++n2):=by
 refine⟨?_,λb hb=> ?_⟩
 ·rw[bC];exact⟨h1.1,h2.1,λx hx y hy e=>by subst e;exact hf x hy (h1.2 x hx)⟩
 ·rcases aL.1 hb with hb|hb
  ·exact(h1.mono l).2 b hb
  ·exact h2.2 b hb
def kz (s s':St):Prop:=s'.env=s.env/\∀id gn cs,look s.hp id=J (.j1 gn cs)->look s'.hp id=J (.j1 gn cs)
theorem kz.refl (s:St):kz s s:=⟨rfl,λ_ _ _ h=>h⟩
theorem kz.trans {a b c:St}(h:kz a b)(k:kz b c):kz a c:=⟨k.1.trans h.1,λi g cs hl=>k.2 i g cs (h.2 i g cs hl)⟩
theorem q9 {s:St}{id:Nat}{o:Obj}(h:∀gn cs,look s.hp id≠J (.j1 gn cs)):kz s {s with hp:=(id,o)::s.hp}:=
 ⟨rfl,λi gn cs hl=>by
  grind [id,absurd,look,de]⟩
end Go.Abs
end

section
namespace Go.Abs
theorem O3:∀(k:Nat) (c:Cell) (s:St) (xs:List Int) (s':St),(SE k c).run s=J (xs,s')->kz s s':=by
 intro k
 induction k with
 |zero=>
  intro c s xs s' h
  cases c with
  |v τ x=>cases τ<;>first|(obtain⟨rfl,rfl⟩:=cX h;exact kz.refl _)|exact nomatch h
  |np=>obtain⟨rfl,rfl⟩:=cX h;exact kz.refl _
  |nf=>exact nomatch h
  |nil=>exact nomatch h
  |own _ _=>exact nomatch h
  |ptr _ _ off=>cases off<;>exact nomatch h
  |fn _ _=>exact nomatch h
  |err _=>exact nomatch h
 |succ k ih=>
  intro c s xs s' h
  cases c with
  |v τ x=>cases τ<;>first|(obtain⟨rfl,rfl⟩:=cX h;exact kz.refl _)|exact nomatch h
  |np=>obtain⟨rfl,rfl⟩:=cX h;exact kz.refl _
  |nf=>exact nomatch h
  |nil=>exact nomatch h
  |own _ _=>exact nomatch h
  |fn _ _=>exact nomatch h
  |err _=>exact nomatch h
  |ptr id gen off=>
   cases off with
   |succ n=>exact nomatch h
   |zero=>
    simp only[SE,AM.run]at h;split at h
    ·obtain⟨hb,h'⟩:=dQ h;obtain⟨ys,t,h1,h2⟩:=AM.cV h';have k1:=ih _ _ _ _ h1;simp only[AM.run]at h2;split at h2
     ·rename_i heq;obtain⟨rfl,rfl⟩:=h2;exact k1.trans (q9 λgn cs hl=>by simp_all)
     ·exact nomatch h2
    ·obtain⟨hb,h'⟩:=dQ h;obtain⟨rfl,rfl⟩:=cX h';exact kz.refl _
    ·exact nomatch h
theorem Mg {τ:Ty}{c:Cell}{s s':St}{x:τ.den}(h:(datum τ c).run s=J (x,s')):kz s s':=by
 cases τ with
 |int k=>
  cases c with
  |v τ' x'=>
   cases τ' with
   |int k'=>
    simp[datum]at h;split at h
    ·obtain⟨rfl,rfl⟩:=cX h;exact kz.refl _
    ·exact nomatch h
   |_=>exact nomatch h
  |_=>exact nomatch h
 |bool=>
  cases c with
  |v τ' x'=>cases τ'<;>first|(obtain⟨rfl,rfl⟩:=cX h;exact kz.refl _)|exact nomatch h
  |_=>exact nomatch h
 |str=>
  cases c with
  |v τ' x'=>cases τ'<;>first|(obtain⟨rfl,rfl⟩:=cX h;exact kz.refl _)|exact nomatch h
  |_=>exact nomatch h
 |un=>cases c<;>exact nomatch h
 |pr a b=>cases c<;>exact nomatch h
 |cl=>exact O3 4 c s x s' h
 |sl e=>
  cases c with
  |v τ' x'=>
   cases τ' with
   |sl e'=>
    obtain⟨_,_,rfl⟩:=lZ h;exact kz.refl _
   |_=>exact nomatch h
  |nil=>obtain⟨rfl,rfl⟩:=cX h;exact kz.refl _
  |own id gen=>
   simp only[datum,AM.run]at h;split at h
   ·rename_i heq;obtain⟨hb,h'⟩:=dQ h;obtain⟨_,_,rfl⟩:=lZ h';simp_all[q9]
   ·obtain⟨hb,h'⟩:=dQ h;obtain⟨_,_,rfl⟩:=lZ h';exact kz.refl _
   ·exact nomatch h
  |ptr _ _ _=>exact nomatch h
  |np=>exact nomatch h
  |nf=>exact nomatch h
  |fn _ _=>exact nomatch h
  |err _=>exact nomatch h
def j9 (g:Gh)(pl:Plc)(rp:Nat×Nat):Prop:=∀id gen off,pl=J (id,gen,off)->gen<g.top id/\∃b o,g.cv id gen= .pointer (J ⟨b,o,ay⟩)/\rp=(b,o+off)
theorem j9.mono {g g':Gh}(l:Le g g'){pl:Plc}{rp:Nat×Nat}(h:j9 g pl rp):j9 g' pl rp:=λid gen off e=>by
 obtain⟨h1,b,o,h2,h3⟩:=h id gen off e;exact⟨aR h1 (l.top _),b,o,(l.cv _ _ h1).trans h2,h3⟩
theorem j9.on {g:Gh}{pl:Plc}{rp:Nat×Nat}(h:j9 g pl rp)(n:Nat):j9 g (pl.on n) (rp.1,rp.2+n):=λid gen off e=>by
 unfold Plc.on at e;split at e
 ·rename_i YD g' o';obtain⟨h1,b,o,h2,h3⟩:=h _ _ _ rfl
  grind
 simp_all
theorem j9.none (g:Gh)(rp:Nat×Nat):j9 g ay rp:=λid gen off e=>by cases e
def Ek (sp:Sp)(pl:Plc)(cells:List Cell)(s:St)(x:sp.ty.den)(rest:List Cell)(s':St):Prop:=
 kz s s'/\(∃used,cells=used++rest/\used.length=sp.size)/\∀B g w,HRel B g s.hp w->∃g',Lk g g'/\HRel B g' s'.hp w/\∀us rp,dr g cells us->j9 g pl rp->
  ∃Rm VP nb,us=Rm++VP/\Pass g'.dj w sp x rp Rm nb/\gk g' nb/\dr g' rest VP/\(∀b∈nb,g.fL b≠J 0)/\o8 s'.hp g' w sp (cells.take sp.size) Rm
theorem HRel.QE {B:Base}{g:Gh}{hp:List (Nat×Obj)}{w:World}(R:HRel B g hp w){id gen:Nat}{xs:List Int}{a ag bid bg off:Nat}(h:look hp id=J (.uY gen xs a ag bid bg off)):
  ∃g' nb,Lk g g'/\HRel B g' ((id, .dead gen)::hp) w/\nb.Nodup/\(∀b∈nb,g'.fL b=J 0/\g.fL b≠J 0)/\
   ((g.cv a ag= .pointer ay/\g.cv id gen= .slice ay 0 0/\xs=[]/\nb=[])\/∃bb oo,g.cv bid bg= .pointer (J ⟨bb,oo,ay⟩)/\g.cv a ag= .pointer (J ⟨bb,oo+off,ay⟩)/\OwnAt g'.dj w ar (.int .u8) xs [g.cv id gen] nb/\∀b∈nb,∃arr,w.heap[b]?=J (.cells arr nF (0,0))):=by
 obtain⟨h1,h2,h3,h4⟩:=R.gE _ _ h;have R1:HRel B g ((id, .dead gen)::hp) w:=R.put h rfl trivial
 rcases h4 with⟨k1,k2,k3⟩|⟨bb,oo,k1,k2,⟨k3,k4⟩|⟨b,cap,arr,ty,e1,e2,e3,e4,e5,e6,e7,rfl⟩⟩
 ·exact⟨g,[],Lk.refl g,R1,bf,λb hb=>by simp_all, .inl ⟨k1,k2,k3,rfl⟩⟩
 ·exact⟨g,[],Lk.refl g,R1,bf,λb hb=>by simp_all, .inr ⟨bb,oo,k1,k2, .inl ⟨by rw[k3],k4,rfl⟩,λb hb=>by simp_all⟩⟩
 ·obtain⟨g2,l2,o2,i2,s2,f2,z2,R2⟩:=R1.UR e2 e3 (λo ho=>by grind [du]);refine⟨g2,[b],l2,R2,by simp,λx hx=> ?_, .inr ⟨bb,oo,k1,k2, .inr ⟨b,cap,arr,nF,[],by rw[e1],rfl,e4,e5,by simp_all[Ty.size], ?_⟩,λx hx=> ?_⟩⟩
  ·simp_all
  ·unfold mH;simp_all
  simp_all
theorem HRel.vV {B:Base}{g:Gh}{hp:List (Nat×Obj)}{w:World}(R:HRel B g hp w):∀id gn cs,look hp id=J (.j1 gn cs)->gn<g.top id:=λ_ _ _ h=>jm R h
theorem Pw {α:Type}{arr O L:List α}{o off n:Nat}(h:arr=O.take o++L++O.drop (o+L.length))(ho:o+L.length<=O.length)(hn:off+n<=L.length):(L.drop off).take n=(arr.drop (o+off)).take n:=by
 apply a06
 intro j;simp only[cK,cL]
 grind
theorem Ek.close {sp:Sp}{pl:Plc}{cells:List Cell}{s t:St}{x:sp.ty.den}{rest:List Cell}{s':St}{id gen:Nat}(h:(sy id gen).run s=J ((),t))(k:Ek sp pl cells t x rest s'):Ek sp pl cells s x rest s':=by
 obtain⟨e1,e2,e3⟩:=yT h;obtain⟨k1,k2,k3⟩:=k;refine⟨⟨k1.1.trans e1,λi gn cs hl=>k1.2 i gn cs (e2 i gn cs hl)⟩,k2,λB g w R=> ?_⟩;obtain⟨g1,l1,R1⟩:=e3 R;obtain⟨g2,l2,R2,c⟩:=k3 B g1 w R1;refine⟨g2,l1.trans l2,R2,λus rp hu yt=> ?_⟩;obtain⟨u1,u2,nb,a1,a2,a3,a4,a5,a6⟩:=c us rp (hu.mono l1.le) (yt.mono l1.le);exact⟨u1,u2,nb,a1,a2,a3,a4,λb hb e=>a5 b hb (l1.kp b e).1,a6⟩
theorem xx:∀(sp:Sp) (pl:Plc) (cells:List Cell) (s:St) (x:sp.ty.den) (rest:List Cell) (s':St),(BY sp pl cells).run s=J ((x,rest),s')->Ek sp pl cells s x rest s':=by
 intro sp
 induction sp with
 |un=>
  intro pl cells s x rest s' h;obtain⟨h1,rfl⟩:=cX h
  injection h1 with h1 h2
  subst h2;exact⟨kz.refl _,⟨[],rfl,rfl⟩,λB g w R=>⟨g,Lk.refl g,R,λus rp hu _=>⟨[],us,[],rfl,⟨rfl,rfl⟩,⟨bf,λb hb=>by simp_all⟩,hu,λb hb=>by simp_all,trivial⟩⟩⟩
 |pr a b Dt Dr=>
  intro pl cells s x rest s' h;obtain⟨⟨p1,p2⟩,t,h1,h2⟩:=AM.cV h;obtain⟨⟨q1,q2⟩,t2,h3,h4⟩:=AM.cV h2;obtain⟨h5,rfl⟩:=cX h4
  injection h5 with h5 h6
  subst h5;subst h6;obtain⟨ka,⟨ca,ea,la⟩,sa⟩:=Dt _ _ _ _ _ _ h1;obtain⟨kb,⟨cb,eb,lb⟩,sb⟩:=Dr _ _ _ _ _ _ h3;have eb:p2=cb++rest:=eb;refine⟨ka.trans kb,⟨ca++cb,by rw[ea,eb,aI],by simp[la,lb,Sp.size]⟩,λB g w R=> ?_⟩;obtain⟨g1,l1,R1,c1⟩:=sa B g w R;obtain⟨g2,l2,R2,c2⟩:=sb B g1 w R1;refine⟨g2,l1.trans l2,R2,λus rp hu yt=> ?_⟩;obtain⟨u1,u2,n1,rfl,P1,O1,r1,f1,L1⟩:=c1 us rp hu yt;obtain⟨u3,u4,n2,rfl,P2,O2,r2,f2,L2⟩:=c2 u2 (rp.1,rp.2+a.size) r1 ((yt.mono l1.le).on a.size);have nJ:=P1.length;have pb:=P2.length;refine⟨u1++u3,u4,n1++n2,by simp,⟨u1,u3,n1,n2,rfl,rfl,P1.mono l2.le.dj,P2⟩,gk.append l2 O1 O2 f2,r2,λb hb=> ?_, ?_⟩
  ·rcases aL.1 hb with hb|hb
   ·exact f1 b hb
   ·exact λe=>f2 b hb (l1.kp b e).1
  ·have e1:((cells.take (a.size+b.size)).take a.size)=cells.take a.size:=by rw[b9];congr 1;omega
   have e2:((cells.take (a.size+b.size)).drop a.size)=p2.take b.size:=by
    rw[ea,<-la,cr,cN]
    congr 1
    omega
   have e3:(u1++u3).take a.size=u1:=by rw[<-nJ];simp
   have e4:(u1++u3).drop a.size=u3:=by rw[<-nJ];simp
   show o8 _ _ _ a ((cells.take (a.size+b.size)).take a.size) ((u1++u3).take a.size)/\o8 _ _ _ b ((cells.take (a.size+b.size)).drop a.size) ((u1++u3).drop a.size);rw[e1,e2,e3,e4];exact⟨L1.mono l2.le (λid gn cs hl=>⟨kb.2 id gn cs hl,by rw[l2.out]⟩) R1.vV,L2⟩
 |fh τ=>
  intro pl cells s x rest s' h
  cases cells with
  |nil=>exact nomatch h
  |cons c cs=>
   obtain⟨y,t,h1,h2⟩:=AM.cV h;obtain⟨h3,rfl⟩:=cX h2
   injection h3 with h3 h4
   subst h3;subst h4;refine⟨Mg h1,⟨[c],rfl,rfl⟩,λB g w R=> ?_⟩;obtain⟨g',l,R',hd⟩:=(EM τ c _ _ _ h1).2 B g w R;refine⟨g',l,R',λus rp hu _=> ?_⟩;obtain⟨u,r,rfl,qf,hr⟩:=hu;obtain⟨o1,o2⟩:=hd u qf;exact⟨[u],r,[],rfl,⟨rfl,o1,u,rfl,o2⟩,⟨bf,λb hb=>by simp at hb⟩,hr.mono l.le,λb hb=>by simp at hb,trivial⟩
 |own τ dp=>
  intro pl cells s x rest s' h
  cases cells with
  |nil=>exact nomatch h
  |cons c cs=>
   cases c with
   |nil=>
    obtain⟨h3,rfl⟩:=cX h
    injection h3 with h3 h4
    subst h3;subst h4;refine⟨kz.refl _,⟨[.nil],rfl,rfl⟩,λB g w R=>⟨g,Lk.refl g,R,λus rp hu _=> ?_⟩⟩;obtain⟨u,r,rfl,qf,hr⟩:=hu;have qf:_=_:=qf;subst qf;exact⟨_,r,[],rfl, .inl ⟨rfl,rfl,rfl⟩,⟨bf,λb hb=>by simp at hb⟩,hr,λb hb=>by simp at hb,trivial⟩
   |own id gen=>
    obtain⟨u0,s0,Ez,h⟩:=AM.cV h;refine Ek.close Ez ?_;simp only[AM.run]at h;split at h
    ·rename_i g0 τ' deep xs heq;obtain⟨hb,h'⟩:=dQ h;simp only[aA]at hb;obtain rfl:=beq_eq hb.1;simp only[AM.run]at h';obtain⟨ys,t,h1,h2⟩:=AM.cV h';obtain⟨h3,rfl⟩:=cX h2
     injection h3 with h3 h4
     subst h3;subst h4;obtain⟨ee,hx,rfl⟩:=lZ h1;subst ee;subst hx;refine⟨q9 (λgn cs hl=>by rw[heq]at hl;cases hl),⟨[.own id g0],rfl,rfl⟩,λB g w R=> ?_⟩;obtain⟨g',nb,l,_,R',hn,hp,hP⟩:=R.aj2 heq hb.2;refine⟨g',l,R',λus rp hu _=> ?_⟩;obtain⟨u,r,rfl,qf,hr⟩:=hu;exact⟨[u],r,nb,rfl,by rw[qf.2.1];exact hP,⟨hn,λb hb=>(hp b hb).1⟩,hr.mono l.le,λb hb=>(hp b hb).2,trivial⟩
    ·cases h
   |_=>exact nomatch h
 |lnd τ dp=>
  intro pl cells s x rest s' h
  cases cells with
  |nil=>exact nomatch h
  |cons c cs=>
   cases c with
   |nil=>
    obtain⟨h3,rfl⟩:=cX h
    injection h3 with h3 h4
    subst h3;subst h4;refine⟨kz.refl _,⟨[.nil],rfl,rfl⟩,λB g w R=>⟨g,Lk.refl g,R,λus rp hu _=> ?_⟩⟩;obtain⟨u,r,rfl,qf,hr⟩:=hu;have qf:_=_:=qf;subst qf;exact⟨_,r,[],rfl, .inl ⟨rfl,rfl,rfl⟩,⟨bf,λb hb=>by simp at hb⟩,hr,λb hb=>by simp at hb, .inl ⟨rfl,rfl⟩⟩
   |own id gen=>
    obtain⟨u0,s0,Ez,h⟩:=AM.cV h;refine Ek.close Ez ?_;simp only[AM.run]at h;split at h
    ·rename_i g0 τ' deep xs heq;obtain⟨hb,h'⟩:=dQ h;simp only[aA]at hb;obtain rfl:=beq_eq hb.1;simp only[AM.run]at h';obtain⟨ys,t,h1,h2⟩:=AM.cV h';obtain⟨h3,rfl⟩:=cX h2
     injection h3 with h3 h4
     subst h3;subst h4;obtain⟨ee,hx,rfl⟩:=lZ h1;subst ee;subst hx;refine⟨q9 (λgn cs hl=>by rw[heq]at hl;cases hl),⟨[.own id g0],rfl,rfl⟩,λB g w R=> ?_⟩;obtain⟨g',nb,l,_,R',hn,hp,hP⟩:=R.aj2 heq hb.2
     have R2:HRel B g' ((id, .j1 g0 (0,[]))::s0.hp) w:=(R'.put (du _ _ _) (o':= .j1 g0 (0,[])) rfl trivial).congr λi=>Hb _ _ _ _ i
     refine⟨g',l,R2,λus rp hu _=> ?_⟩;obtain⟨u,r,rfl,qf,hr⟩:=hu;refine⟨[u],r,nb,rfl,by rw[qf.2.1];exact hP,⟨hn,λb hb=>(hp b hb).1⟩,hr.mono l.le,λb hb=>(hp b hb).2, .inr ⟨id,g0,rfl, ?_,aR qf.1 (l.le.top _), ?_⟩⟩
     ·rw[qf.2.1,show g'.cv id g0=g.cv id g0 from l.le.cv _ _ qf.1]
     ·rw[show g'.cv id g0=g.cv id g0 from l.le.cv _ _ qf.1,<-qf.2.1];exact qf.2.2
    ·cases h
   |_=>exact nomatch h
 |ptr wh st sp ih=>
  intro pl cells s x rest s' h
  cases cells with
  |nil=>exact nomatch h
  |cons c cs=>
   cases c with
   |ptr id gen off=>
    simp only[BY,AM.run]at h;split at h
    ·rename_i g0 bt bs heq;obtain⟨hb,h'⟩:=dQ h;simp only[aA]at hb;obtain rfl:=beq_eq hb.1.1;have Dn:=aP hb.2;simp only[AM.run]at h';obtain⟨⟨y,rst⟩,t,h1,h2⟩:=AM.cV h';obtain⟨h3,rfl⟩:=cX h2
     injection h3 with h3 h4
     subst h3;subst h4;obtain⟨k1,⟨used,eu,lu⟩,hs⟩:=ih _ _ _ _ _ _ h1
     have SY:kz s {s with hp:=(id, .j1 g0 (bt,bs))::s.hp}:=q9 λgn cs hl=>by rw[heq]at hl;cases hl
     refine⟨SY.trans k1,⟨[.ptr id g0 off],rfl,rfl⟩,λB g w R=> ?_⟩;have hO:=R.gE _ _ heq;obtain⟨b,o,arr,ty,L,SV,aa6,ab3,VM,ZR,aB4,Yt,av8,XO⟩:=hO;have XO:ty=bt:=XO;subst XO;have ht:=jm R heq;have R1:HRel B g ((id, .j1 g0 (ty,bs))::s.hp) w:=R.put heq rfl trivial;obtain⟨g2,l2,o2,i2,s2,f2,z2,R2⟩:=R1.UR aa6.1 aa6.2 (λo ho=>by rw[du]at ho;injection ho with ho;exact .inr ⟨g0,(ty,bs),ho.symm⟩);obtain⟨g3,l3,R3,c3⟩:=hs B g2 w R2;have ZK:=l2.trans l3;refine⟨g3,ZK,R3,λus rp hu _=> ?_⟩;obtain⟨u,r,rfl,qf,hr⟩:=hu;obtain⟨_,b1,o1,e1,rfl⟩:=qf;rw[SV]at e1
     injection e1 with e1;injection e1 with e1;injection e1 with e1 e2
     subst e1;subst e2;have aO2:L.length=bs.length:=VM.length;have Oi:dr g2 (cut off sp.size bs) ((L.drop off).take sp.size):=((VM.mono l2.le).drop off).take sp.size
     have Z0:j9 g2 (J (id,g0,off)) (b,o+off):=λYD LV Vp e=>by
      injection e with e;injection e with e1 e;injection e with e2 e3
      subst e1;subst e2;subst e3;exact⟨aR ht (l2.le.top _),b,o,(l2.le.cv _ _ ht).trans SV,rfl⟩
     obtain⟨u1,u2,n1,ak5,P1,O1,r1,f1,aX9⟩:=c3 _ (b,o+off) Oi Z0;have aP8:=P1.length
     have AL:u2=[]:=by
      have:=congrArg a14 ak5;simp at this;exact bn (by omega)
     subst AL;rw[aU]at ak5;have Vu:(L.drop off).take sp.size=(arr.toList.drop (o+off)).take sp.size:=Pw ZR aB4 (by omega);have J1:g3.fL b=J 0:=(l3.kp b z2).1
     have ad0:arr.size=(g.outer id).length:=by
      have:arr.toList.length=(g.outer id).length:=by
       rw[ZR];simp;omega
      simpa using this
     have aW6:=Yt;have aT4:(g.outer id).length=bs.length:=av8;refine⟨[_],r,b::n1,rfl,⟨b,o+off,arr,ty,n1,rfl,rfl,ab3,⟨λhw=> ?_,λhw=> ?_⟩, ?_, ?_⟩,⟨cg.2 ⟨λhm=>f1 b hm z2,O1.1⟩,λx hx=> ?_⟩,hr.mono ZK.le,λx hx=> ?_, ?_⟩
     ·subst hw;have:=hb.1.2.1;simp only[Bool.not_true,cH,aA]at this;have a1:=beq_eq this.1.1;have a2:=beq_eq this.1.2;have a3:=beq_eq this.2;exact⟨by omega,by omega,a3⟩
     ·subst hw;have:=hb.1.2.2;rw[cH]at this;rw[show o+off=off by omega,show arr.size=bs.length by omega];exact this
     ·omega
     ·rw[<-Vu,ak5];exact P1
     ·rcases bA.1 hx with rfl|hy
      ·exact J1
      ·exact O1.2 x hy
     ·rcases bA.1 hx with rfl|hy
      ·rw[aa6.1];simp
      ·exact λe=>f1 x hy (l2.kp x e).1
     ·refine⟨id,g0,off,bs,b,o,arr,ty,L,rfl,rfl,k1.2 id g0 (ty,bs) (du _ _ _),(ZK.le.cv _ _ ht).trans SV,ab3,by rw[ZK.out];exact ZR,by rw[ZK.out];exact aB4,by rw[ZK.out];exact⟨aW6,aT4⟩,Dn,VM.mono ZK.le, ?_⟩
      have Ez:cut off sp.size bs=(cut off sp.size bs).take sp.size:=by unfold cut;rw[b9,Nat.min_self]
      rw[Ez,ak5];exact aX9
    ·cases h
   |_=>exact nomatch h
 |Bc ok=>
  intro pl cells s x rest s' h
  cases cells with
  |nil=>exact nomatch h
  |cons c cs=>
   cases c with
   |ptr id gen off=>
    simp only[BY,AM.run]at h;split at h
    ·rename_i g0 bt bs heq;obtain⟨hb,h'⟩:=dQ h;simp only[aA]at hb;obtain rfl:=beq_eq hb.1.1;have Dn:=aP hb.2;have kM:=hb.1.2
     have place:∀{B g w},HRel B g s.hp w->∀{u},dR g (.ptr id g0 off) u->∃b arr,u= .pointer (J ⟨b,off,ay⟩)/\g.cv id g0= .pointer (J ⟨b,0,ay⟩)/\w.heap[b]?=J (.cells arr bt (0,0))/\arr.size=bs.length/\
       dr g (cut off 2 bs) ((arr.toList.drop off).take 2):=by
      intro B g w R u hu;obtain⟨b,o,arr,ty,L,SV,aa6,ab3,VM,ZR,aB4,Yt,av8,XO⟩:=R.gE _ _ heq;have XO:ty=bt:=XO;subst XO;have av8:(g.outer id).length=bs.length:=av8;subst Yt;have aO2:L.length=bs.length:=VM.length
      have e5:arr.toList=L:=by
       rw[ZR,List.take_zero,bS,cd (by omega),aU]
      obtain⟨_,b1,o1,e1,rfl⟩:=hu;rw[SV]at e1
      injection e1 with e1;injection e1 with e1;injection e1 with e1 e2
      subst e1;subst e2;refine⟨b,arr,by rw[cj],SV,ab3,by rw[<-a30,e5,aO2], ?_⟩;rw[e5];exact(VM.drop off).take 2
     split at h'
     ·rename_i hc;obtain⟨h3,rfl⟩:=cX h'
      injection h3 with h3 h4
      subst h3;subst h4;refine⟨kz.refl _,⟨[_],rfl,rfl⟩,λB g w R=>⟨g,Lk.refl g,R,λus rp hu _=> ?_⟩⟩;obtain⟨u,r,rfl,qf,hr⟩:=hu;obtain⟨b,arr,rfl,nE,ha,hs,VB⟩:=place R qf;rw[hc]at VB;obtain⟨u1,r1,e1,k1,u2,r2,e2,k2,e3⟩:=VB;have k1:_=_:=k1;have k2:_=_:=k2;have e3:_=_:=e3;subst k1;subst k2;subst e3;subst e2;refine⟨[_],r,[],rfl,⟨b,off,arr,bt,rfl,ha,by rw[hs];exact kM,by omega, ?_⟩,⟨bf,λb hb=>by simp at hb⟩,hr,λb hb=>by simp at hb,trivial⟩;rw[e1];exact .inl ⟨rfl,rfl,rfl⟩
     ·rename_i a ag aE9 ap0 hc;simp only[AM.run]at h';split at h'
      ·rename_i g2 xs a' aq9 bid bg off2 XJ;obtain⟨Cb,aO1⟩:=dQ h';simp only[aA]at Cb;obtain rfl:=beq_eq Cb.1.1.1;obtain rfl:=beq_eq Cb.1.1.2;obtain rfl:=beq_eq Cb.1.2;obtain rfl:=beq_eq Cb.2.1.1;obtain rfl:=beq_eq Cb.2.1.2;obtain rfl:=beq_eq Cb.2.2;simp only[AM.run,bY,cy]at aO1;obtain⟨⟨rfl,rfl⟩,rfl⟩:=aO1;refine⟨q9 (λgn cs hl=>by rw[XJ]at hl;cases hl),⟨[_],rfl,rfl⟩,λB g w R=> ?_⟩;obtain⟨g',nb,l,R',hn,hp,hP⟩:=R.QE XJ;refine⟨g',l,R',λus rp hu yt=> ?_⟩;obtain⟨u,r,rfl,qf,hr⟩:=hu;obtain⟨b,arr,rfl,nE,ha,hs,VB⟩:=place R qf;rw[hc]at VB;obtain⟨u1,r1,e1,k1,u2,r2,e2,k2,e3⟩:=VB;have e3:_=_:=e3;subst e3;subst e2;refine⟨[_],r,nb,rfl,⟨b,_,arr,bt,rfl,ha,by rw[hs];exact kM,by omega, ?_⟩,⟨hn,λb hb=>(hp b hb).1⟩,hr.mono l.le,λb hb=>(hp b hb).2,trivial⟩;rw[e1]
       rcases hP with⟨q1,q2,q3,q4⟩|⟨bb,oo,q1,q2,q3⟩
       ·exact .inl ⟨by rw[k1.2.1,k2.2.1,q1,q2],q3,q4⟩
       ·rw[nE]at q1
        injection q1 with q1;injection q1 with q1;injection q1 with q1 q4
        subst q1;subst q4;exact .inr ⟨u2,by rw[k1.2.1,q2,cj],by rw[k2.2.1];exact q3⟩
      ·cases h'
     ·cases h'
    ·cases h
   |_=>exact nomatch h
 |uY=>
  intro pl cells s x rest s' h
  cases cells with
  |nil=>exact nomatch h
  |cons c cs=>
   cases cs with
   |nil=>cases c<;>exact nomatch h
   |cons c2 cs=>
    cases c with
    |np=>
     cases c2 with
     |nil=>
      obtain⟨h3,rfl⟩:=cX h
      injection h3 with h3 h4
      subst h3;subst h4;refine⟨kz.refl _,⟨[.np, .nil],rfl,rfl⟩,λB g w R=>⟨g,Lk.refl g,R,λus rp hu _=> ?_⟩⟩;obtain⟨u,r,rfl,qf,u',r',rfl,AL,hr⟩:=hu;have qf:_=_:=qf;have AL:_=_:=AL;subst qf;subst AL;exact⟨[_,_],r',[],rfl, .inl ⟨rfl,rfl,rfl⟩,⟨bf,λb hb=>by simp at hb⟩,hr,λb hb=>by simp at hb,trivial⟩
     |_=>exact nomatch h
    |own a ag=>
     cases c2 with
     |own id gen=>
      simp only[BY,AM.run]at h;split at h
      ·rename_i g0 xs a' aq9 bid bg off heq;obtain⟨hb,h'⟩:=dQ h;simp only[aA]at hb;obtain rfl:=beq_eq hb.1.1.1;obtain rfl:=beq_eq hb.1.1.2;obtain rfl:=beq_eq hb.1.2;simp only[AM.run,bY,cy]at h';obtain⟨⟨rfl,rfl⟩,rfl⟩:=h';refine⟨q9 (λgn cs hl=>by rw[heq]at hl;cases hl),⟨[_,_],rfl,rfl⟩,λB g w R=> ?_⟩;obtain⟨g',nb,l,R',hn,hp,hP⟩:=R.QE heq;refine⟨g',l,R',λus rp hu yt=> ?_⟩;obtain⟨u,r,rfl,qf,u',r',rfl,AL,hr⟩:=hu;refine⟨[u,u'],r',nb,rfl, ?_,⟨hn,λb hb=>(hp b hb).1⟩,hr.mono l.le,λb hb=>(hp b hb).2,trivial⟩
       rcases hP with⟨k1,k2,k3,k4⟩|⟨bb,oo,k1,k2,k3⟩
       ·exact .inl ⟨by rw[qf.2.1,AL.2.1,k1,k2],k3,k4⟩
       ·have aX8:pl=J (bid,bg,off):=by
         have:=hb.2;unfold Plc.is at this;split at this
         ·simp only[aA]at this;rw[beq_eq this.1.1,beq_eq this.1.2,beq_eq this.2]
         ·cases this
        obtain⟨_,b',o',q1,q2⟩:=yt _ _ _ aX8;rw[k1]at q1
        injection q1 with q1;injection q1 with q1;injection q1 with q1 q3
        subst q1;subst q3;refine .inr ⟨u', ?_,by rw[AL.2.1];exact k3⟩;rw[qf.2.1,k2,q2]
      ·cases h
     |_=>exact nomatch h
    |_=>exact nomatch h
 |err=>
  intro pl cells s x rest s' h
  cases cells with
  |nil=>exact nomatch h
  |cons c cs=>
   cases c with
   |err b=>
    obtain⟨h3,rfl⟩:=cX h
    injection h3 with h3 h4
    subst h3;subst h4;refine⟨kz.refl _,⟨[_],rfl,rfl⟩,λB g w R=>⟨g,Lk.refl g,R,λus rp hu _=> ?_⟩⟩;obtain⟨u,r,rfl,qf,hr⟩:=hu;exact⟨[u],r,[],rfl,⟨rfl,u,rfl,qf⟩,⟨bf,λb hb=>by simp at hb⟩,hr,λb hb=>by simp at hb,trivial⟩
   |_=>exact nomatch h
 |np=>
  intro pl cells s x rest s' h
  cases cells with
  |nil=>exact nomatch h
  |cons c cs=>
   cases c with
   |np=>
    obtain⟨h3,rfl⟩:=cX h
    injection h3 with h3 h4
    subst h4;refine⟨kz.refl _,⟨[_],rfl,rfl⟩,λB g w R=>⟨g,Lk.refl g,R,λus rp hu _=> ?_⟩⟩;obtain⟨u,r,rfl,qf,hr⟩:=hu;have qf:_=_:=qf;subst qf;exact⟨_,r,[],rfl,⟨rfl,rfl⟩,⟨bf,λb hb=>by simp at hb⟩,hr,λb hb=>by simp at hb,trivial⟩
   |_=>exact nomatch h
 |slf f m=>
  intro pl cells s x rest s' h
  cases cells with
  |nil=>exact nomatch h
  |cons c cs=>
   cases c with
   |ptr id gen off=>
    obtain⟨_,h⟩:=dQ h;obtain⟨h3,rfl⟩:=cX h
    injection h3 with h3 h4
    subst h4;refine⟨kz.refl _,⟨[_],rfl,rfl⟩,λB g w R=>⟨g,Lk.refl g,R,λus rp hu _=> ?_⟩⟩;obtain⟨u,r,rfl,qf,hr⟩:=hu;obtain⟨_,b,o,_,rfl⟩:=qf;exact⟨_,r,[],rfl,⟨rfl,_,_,rfl⟩,⟨bf,λb hb=>by simp at hb⟩,hr,λb hb=>by simp at hb,trivial⟩
   |_=>exact nomatch h
end Go.Abs
end

section
namespace Go.Abs
def pn (dj:Rd)(w0 w:World):(s:Sp)->s.ty.den->Nat×Nat->List Value->List Value->List Nat->Prop
 | .pr a b,x,pl,old,new,nb=>∃u1 u2 n1 n2,new=u1++u2/\nb=n1++n2/\pn dj w0 w a x.1 pl (old.take a.size) u1 n1/\pn dj w0 w b x.2 (pl.1,pl.2+a.size) (old.drop a.size) u2 n2
 | .lnd τ dp,xs,_,old,new,nb=>new=old/\OwnAt dj w (dp&& !τ.flat) τ xs new nb
 | .ptr _ _ s,x,_,old,new,nb=>∃b o kV E7 arr L ku,old=[.pointer (J ⟨b,o,ay⟩)]/\new=old/\nb=b::ku/\w0.heap[b]?=J (.cells kV E7 (0,0))/\w.heap[b]?=J (.cells arr E7 (0,0))/\
   arr.toList=kV.toList.take o++L++kV.toList.drop (o+L.length)/\o+L.length<=kV.toList.length/\L.length=s.size/\pn dj w0 w s x (b,o) ((kV.toList.drop o).take s.size) L ku
 |s,x,pl,_,new,nb=>Pass dj w s x pl new nb
theorem pn.length {dj:Rd}{w0 w:World}:∀{s:Sp} {x:s.ty.den} {pl:Nat×Nat} {old new:List Value} {nb:List Nat},pn dj w0 w s x pl old new nb->new.length=s.size
 | .un,_,pl,_,_,_,k=>Pass.length (s:= .un) (x:=()) (pl:=pl) k
 | .pr _ _,_,_,_,_,_,⟨u1,u2,n1,n2,e,_,k1,k2⟩=>by subst e;simp[Sp.size,pn.length k1,pn.length k2]
 | .fh _,x,pl,_,_,_,k=>Pass.length (s:= .fh _) (x:=x) (pl:=pl) k
 | .own _ _,x,pl,_,_,_,k=>Pass.length (s:= .own _ _) (x:=x) (pl:=pl) k
 | .lnd _ _,x,_,_,_,_,k=>OwnAt.length k.2
 | .uY,x,pl,_,_,_,k=>Pass.length (s:= .uY) (x:=x) (pl:=pl) k
 | .Bc _,x,pl,_,_,_,k=>Pass.length (s:= .Bc _) (x:=x) (pl:=pl) k
 | .ptr _ _ _,_,_,_,_,_,⟨b,o,kV,E7,arr,L,ku,e,e',_⟩=>by simp_all
 | .err,x,pl,_,_,_,k=>Pass.length (s:= .err) (x:=x) (pl:=pl) k
 | .np,_,pl,_,_,_,k=>Pass.length (s:= .np) (x:=()) (pl:=pl) k
 | .slf f m,_,pl,_,_,_,k=>Pass.length (s:= .slf f m) (x:=()) (pl:=pl) k
theorem pn.mono {dj fw:Rd}(h:∀b L,dj b=J L->fw b=J L){w0 w:World}:∀{s:Sp} {x:s.ty.den} {pl:Nat×Nat} {old new:List Value} {nb:List Nat},pn dj w0 w s x pl old new nb->pn fw w0 w s x pl old new nb
 | .un,_,_,_,_,_,k=>k
 | .pr _ _,_,_,_,_,_,⟨u1,u2,n1,n2,e,e',k1,k2⟩=>⟨u1,u2,n1,n2,e,e',pn.mono h k1,pn.mono h k2⟩
 | .fh _,x,pl,_,_,_,k=>Pass.mono h (s:= .fh _) (x:=x) (pl:=pl) k
 | .own _ _,x,pl,_,_,_,k=>Pass.mono h (s:= .own _ _) (x:=x) (pl:=pl) k
 | .lnd _ _,_,_,_,_,_,k=>⟨k.1,OwnAt.mono h k.2⟩
 | .uY,x,pl,_,_,_,k=>Pass.mono h (s:= .uY) (x:=x) (pl:=pl) k
 | .Bc _,x,pl,_,_,_,k=>Pass.mono h (s:= .Bc _) (x:=x) (pl:=pl) k
 | .ptr _ _ _,_,_,_,_,_,⟨b,o,kV,E7,arr,L,ku,e,e',e2,a0,a1,hL,hl,hs,k⟩=>⟨b,o,kV,E7,arr,L,ku,e,e',e2,a0,a1,hL,hl,hs,pn.mono h k⟩
 | .err,_,_,_,_,_,k=>k
 | .np,_,_,_,_,_,k=>k
 | .slf _ _,_,_,_,_,_,k=>k
structure After (dj:Rd)(w:World)(nb:List Nat)(fw:Rd)(w':World)(ku:List Nat):Prop where
 mono:∀b L,dj b=J L->fw b=J L
 cells:∀b L,fw b=J L->∃arr ty fr,w'.heap[b]?=J (.cells arr ty fr)/\arr.toList=L
 same:∀b,b<w.heap.size->b∉nb->dj b=ay->w'.heap[b]?=w.heap[b]?/\fw b=ay
 nodup:ku.Nodup
 Yo:∀b∈ku,fw b=ay/\(b∈nb\/w.heap.size<=b)/\b<w'.heap.size
 size:w.heap.size<=w'.heap.size
 os:w'.os=w.os
 tape:w'.tape=w.tape
 output:w'.output=w.output
 fix:∀b L,dj b=J L->w'.heap[b]?=w.heap[b]?
open Classical in
noncomputable def Gh.after (g:Gh)(nb:List Nat)(fw:Rd)(ku:List Nat):Gh:=
 {g with dj:=fw,fL:=λx=>if x∈ku then J 0 else if x∈nb then ay else g.fL x,gA:=λx=>if x∈ku\/x∈nb then ay else g.gA x}
theorem HRel.after {B:Base}{g:Gh}{hp:List (Nat×Obj)}{w w':World}(R:HRel B g hp w){nb ku:List Nat}{fw:Rd}(yq:gk g nb)(A:After g.dj w nb fw w' ku):
  Le g (g.after nb fw ku)/\HRel B (g.after nb fw ku) hp w'/\gk (g.after nb fw ku) ku/\∀b∈ku,(g.after nb fw ku).gA b=none:=by
 have hle:Le g (g.after nb fw ku):=⟨A.mono,λ_=>aC _,λ_ _ _=>rfl⟩
 have old:∀b,b<w.heap.size->b∉nb->b∉ku:=λb h1 h2 h3=>by
  rcases(A.Yo b h3).2.1 with h|h
  all_goals grind
 refine⟨hle,⟨R.top,λi o hi=> ?_,λb L h=> ?_,λb L h=> ?_,λb h=> ?_,λb L h=>A.mono _ _ (R.kH b L h),λb hb hl hi=> ?_,bX R.size A.size,A.os.trans R.os,A.tape.trans R.tape,A.output.trans R.output,λb L h=>(A.fix b L (R.kH b L h)).trans (R.fix b L h)⟩,⟨A.nodup,λb hb=>by grind [Gh.after]⟩,λb hb=>by grind [Gh.after]⟩
 ·refine(R.gE i o hi).tr hle (λb hb=> ?_) rfl (jm R hi);have h1:=R.gD b (by simp_all)
  have h2:b∉nb:=λhm=>by rw[yq.2 b hm]at hb;simp_all
  have h4:g.dj b=none:=by
   cases hi:g.dj b with
   |none=>rfl
   |some L=>have:=(R.dj b L hi).1;simp_all
  exact⟨by simp_all[Gh.after],by simp_all[Gh.after],(A.same b h1 h2 h4).1⟩
 ·have h':fw b=J L:=h
  have h3:b∉ku:=λhm=>by rw[(A.Yo b hm).1]at h';grind
  refine⟨?_, ?_,A.cells b L h'⟩
  ·by_cases h2:b∈nb
   ·simp_all[Gh.after]
   ·simp only[Gh.after,h3,h2,if_false]
    by_cases h1:b<w.heap.size
    ·cases hi:g.dj b with
     |none=>rw[(A.same b h1 h2 hi).2]at h';grind
     |some L'=>exact(R.dj b L' hi).1
    ·cases hl:g.fL b with
     |none=>rfl
     |some x=>exact absurd (R.gD b (by simp_all)) h1
  ·by_cases h2:b∈nb
   ·grind [Gh.after]
   ·simp only[Gh.after,h3,h2,or_self,if_false]
    by_cases h1:b<w.heap.size
    ·cases hi:g.dj b with
     |none=>rw[(A.same b h1 h2 hi).2]at h';grind
     |some L'=>exact(R.dj b L' hi).2.1
    ·cases hl:g.gA b with
     |none=>rfl
     |some x=>exact absurd (R.gD b (R.gA b x hl).1) h1
 ·by_cases On:b∈ku\/b∈nb
  ·simp_all[Gh.after]
  ·have hn:g.gA b=J L:=by simp_all[Gh.after]
   rw[not_or]at On;obtain⟨a1,arr,ty,a2,a3⟩:=R.gA b L hn
   have h4:g.dj b=none:=by
    cases hi:g.dj b with
    |none=>rfl
    |some L=>exact absurd (R.dj b L hi).1 a1
   exact⟨by simp_all[Gh.after],arr,ty,((A.same b (R.gD b a1) On.2 h4).1).trans a2,a3⟩
 ·by_cases h3:b∈ku
  ·exact(A.Yo b h3).2.2
  ·by_cases h2:b∈nb
   ·simp_all[Gh.after]
   ·exact aR (R.gD b (by simp_all[Gh.after])) A.size
 ·obtain⟨f1,f2,f3⟩:=R.frame b hb hl hi
  have h2:b∉nb:=λhm=>by rw[yq.2 b hm]at f1;grind
  have h1:b<w.heap.size:=aR hb R.size;obtain⟨s1,s2⟩:=A.same b h1 h2 f2;simp_all[Gh.after]
theorem HRel.Uy {B:Base}{g:Gh}{hp:List (Nat×Obj)}{w:World}(R:HRel B g hp w){id gen b:Nat}{bs:Nat×List Cell}(hb:g.fL b=J 0)(hn:g.gA b=ay)(hl:look hp id=J (.j1 gen bs))
  {ob:Obj} (FN:ob.gen=gen) (Vc:pg {g with fL:=open Classical in λx=>if x=b then J (id+1)else g.fL x} w id ob):
  HRel B {g with fL:=open Classical in λx=>if x=b then J (id+1)else g.fL x} ((id,ob)::hp) w:=by
 have hle:Le g {g with fL:=open Classical in λx=>if x=b then J (id+1)else g.fL x}:=⟨λ_ _ h=>h,λ_=>aC _,λ_ _ _=>rfl⟩;refine⟨λi=> ?_,λi oi hi=> ?_,λx L hx=> ?_,λx L hx=> ?_,λx hx=> ?_,R.kH,λx hx Iz hi=> ?_,R.size,R.os,R.tape,R.output,R.fix⟩
 ·show g.top i=_;rw[R.top i]
  by_cases e:id=i
  ·subst e;rw[du,hl];show(Obj.j1 gen bs).gen+1=ob.gen+1;rw[FN];rfl
  simp_all[de]
 ·by_cases e:id=i
  ·simp_all[du]
  ·rw[de _ _ e]at hi;refine(R.gE i oi hi).tr hle (λx hx=> ?_) rfl (jm R hi)
   grind
 ·obtain⟨a1,a2,a3⟩:=R.dj x L hx
  grind
 ·obtain⟨a1,a2⟩:=R.gA x L hx
  grind
 ·by_cases zG:x=b
  ·exact R.gD x (by simp_all)
  ·exact R.gD x (by simp_all)
 ·obtain⟨f1,f2,f3⟩:=R.frame x hx Iz hi
  grind
open Classical in
noncomputable def Gh.oG (g:Gh)(w:World)(id gen b:Nat)(u:Value)(nb:List Nat):Gh:=
  { g with top := fun i => if i = id then gen + 1 else g.top i
           cv:=λi k=>if i=id/\k=gen then u else g.cv i k
           fL:=λx=>if x=b\/x∈nb then J (id+1)else g.fL x
           gA:=λx=>if x∈nb then rdW w x else g.gA x
           outer:=λi=>if i=id then []else g.outer i}
theorem HRel.oG {B:Base}{g:Gh}{hp:List (Nat×Obj)}{w:World}(R:HRel B g hp w){id b cap:Nat}{arr:Array Value}{ty:TypeId}{τ:Ty}{deep:Bool}{xs:List τ.den}{nb:List Nat}
  (hb:g.fL b=J 0) (hn:g.gA b=ay) (LZ:b∉nb) (ha:w.heap[b]?=J (.cells arr ty (0,0))) (hl:xs.length<=cap) (hs:arr.size=cap*τ.size) (o9:nb.Nodup) (Be:∀x∈nb,g.fL x=J 0/\rdW w x≠ay)
  (hh:mH g.dj w (deep&& !τ.flat) τ xs arr.toList nb):
  ∃g',Le g g'/\(∀x,x≠b->x∉nb->g'.fL x=g.fL x/\g'.gA x=g.gA x)/\(∀i,i≠id->g'.outer i=g.outer i)/\HRel B g' ((id, .own (g.top id) τ deep xs)::hp) w/\dR g' (.own id (g.top id)) (.slice (J ⟨b,0,ay⟩) xs.length cap):=by
 have hle:Le g (g.oG w id (g.top id) b (.slice (J ⟨b,0,ay⟩) xs.length cap) nb):=by
  refine⟨λ_ _ h=>h,λi=> ?_,λi k hk=> ?_⟩
  ·show g.top i<=if i=id then g.top id+1 else g.top i
   grind
  ·show(if i=id/\k=g.top id then _ else g.cv i k)=g.cv i k
   grind
 refine⟨_,hle,λx h1 h2=>⟨by simp_all[Gh.oG],by grind [Gh.oG]⟩,λi hi=>by grind [Gh.oG],⟨λi=> ?_,λi oi hi=> ?_,λx L hx=> ?_,λx L hx=> ?_,λx hx=> ?_,R.kH,λx hx Iz hi=> ?_,R.size,R.os,R.tape,R.output,R.fix⟩,
  ⟨by simp[Gh.oG],by simp[Gh.oG],rfl⟩⟩
 ·show(if i=id then g.top id+1 else g.top i)=_
  by_cases e:id=i
  ·subst e;rw[du,ak rfl];rfl
  ·rw[de _ _ e,aj (λh=>e h.symm)];exact R.top i
 ·by_cases e:id=i
  ·subst e;rw[du]at hi;injection hi with hi;subst hi
   refine .inr ⟨b,cap,arr,ty,by simp[Gh.oG],by simp[Gh.oG],by simp_all[Gh.oG],ha,hl,hs, ?_⟩;unfold mH at hh;unfold gy;split
   ·rename_i ec;rw[ak ec]at hh;exact⟨nb,hh.mono (λx hx L hL=>by simp_all[Gh.oG]),o9,λx hx=>by grind [Gh.oG]⟩
   ·rename_i ec;rw[aj ec]at hh;exact hh.1
  ·rw[de _ _ e]at hi;refine(R.gE i oi hi).tr hle (λx hx=> ?_) (by simp only[Gh.oG];grind) (jm R hi)
   have zG:x≠b:=λe'=>by simp_all
   have Ai:x∉nb:=λhm=>by simp_all
   exact⟨by simp_all[Gh.oG],by grind [Gh.oG],rfl⟩
 ·have hy:g.dj x=J L:=hx;obtain⟨a1,a2,a3⟩:=R.dj x L hy
  grind [Gh.oG]
 ·by_cases Ai:x∈nb
  ·grind [rdW,Gh.oG]
  ·have hy:g.gA x=J L:=by simp_all[Gh.oG]
   obtain⟨a1,a2⟩:=R.gA x L hy
   grind [Gh.oG]
 ·by_cases zG:x=b
  ·grind
  ·by_cases Ai:x∈nb
   ·exact R.gD x (by simp_all)
   ·exact R.gD x (by simp_all[Gh.oG])
 ·obtain⟨f1,f2,f3⟩:=R.frame x hx Iz hi
  have zG:x≠b:=λe'=>by subst e';rw[hb]at f1;cases f1
  have Ai:x∉nb:=λhm=>by rw[(Be x hm).1]at f1;cases f1
  exact⟨by simp[Gh.oG,zG,Ai,f1],f2,f3⟩
open Classical in
noncomputable def Gh.l7 (g:Gh)(w:World)(id b:Nat)(nb:List Nat):Gh:=
  { g with fL := fun x => if x = b ∨ x ∈ nb then J (id + 1) else g.fL x
           gA:=λx=>if x∈nb then rdW w x else g.gA x}
theorem HRel.l7 {B:Base}{g:Gh}{hp:List (Nat×Obj)}{w:World}(R:HRel B g hp w){id gen b cap:Nat}{arr:Array Value}{ty:TypeId}{τ:Ty}{deep:Bool}{xs:List τ.den}{nb:List Nat}{bs:Nat×List Cell}
  (Oz:look hp id=J (.j1 gen bs)) (nE:g.cv id gen= .slice (J ⟨b,0,ay⟩) xs.length cap)
  (hb:g.fL b=J 0) (hn:g.gA b=ay) (LZ:b∉nb) (ha:w.heap[b]?=J (.cells arr ty (0,0))) (hl:xs.length<=cap) (hs:arr.size=cap*τ.size) (o9:nb.Nodup) (Be:∀x∈nb,g.fL x=J 0/\rdW w x≠ay)
  (hh:mH g.dj w (deep&& !τ.flat) τ xs arr.toList nb):
  ∃g',Le g g'/\(∀x,x≠b->x∉nb->g'.fL x=g.fL x/\g'.gA x=g.gA x)/\g'.outer=g.outer/\HRel B g' ((id, .own gen τ deep xs)::hp) w:=by
 have hle:Le g (g.l7 w id b nb):=⟨λ_ _ h=>h,λ_=>aC _,λ_ _ _=>rfl⟩;refine⟨_,hle,λx h1 h2=>⟨by simp_all[Gh.l7],by grind [Gh.l7]⟩,rfl,⟨λi=> ?_,λi oi hi=> ?_,λx L hx=> ?_,λx L hx=> ?_,λx hx=> ?_,R.kH,λx hx Iz hi=> ?_,R.size,R.os,R.tape,R.output,R.fix⟩⟩
 ·show g.top i=_;rw[R.top i]
  by_cases e:id=i
  ·subst e;rw[du,Oz];rfl
  simp_all[de]
 ·by_cases e:id=i
  ·subst e;rw[du]at hi;injection hi with hi;subst hi
   refine .inr ⟨b,cap,arr,ty,nE,by simp[Gh.l7],by simp_all[Gh.l7],ha,hl,hs, ?_⟩;unfold mH at hh;unfold gy;split
   ·rename_i ec;rw[ak ec]at hh;exact⟨nb,hh.mono (λx hx L hL=>by simp_all[Gh.l7]),o9,λx hx=>by grind [Gh.l7]⟩
   ·rename_i ec;rw[aj ec]at hh;exact hh.1
  ·rw[de _ _ e]at hi;refine(R.gE i oi hi).tr hle (λx hx=> ?_) rfl (jm R hi)
   have zG:x≠b:=λe'=>by simp_all
   have Ai:x∉nb:=λhm=>by simp_all
   exact⟨by simp_all[Gh.l7],by grind [Gh.l7],rfl⟩
 ·have hy:g.dj x=J L:=hx;obtain⟨a1,a2,a3⟩:=R.dj x L hy
  grind [Gh.l7]
 ·by_cases Ai:x∈nb
  ·grind [rdW,Gh.l7]
  ·have hy:g.gA x=J L:=by simp_all[Gh.l7]
   obtain⟨a1,a2⟩:=R.gA x L hy
   grind [Gh.l7]
 ·by_cases zG:x=b
  ·grind
  ·by_cases Ai:x∈nb
   ·exact R.gD x (by simp_all)
   ·exact R.gD x (by simp_all[Gh.l7])
 ·obtain⟨f1,f2,f3⟩:=R.frame x hx Iz hi
  grind [Gh.l7]
open Classical in
noncomputable def Gh.sK (g:Gh)(id gen:Nat)(u:Value)(bo:Option Nat):Gh:=
  { g with top := fun i => if i = id then gen + 1 else g.top i
           cv:=λi k=>if i=id/\k=gen then u else g.cv i k
           fL:=λx=>if bo=J x then J (id+1)else g.fL x}
theorem HRel.NC {B:Base}{g:Gh}{hp:List (Nat×Obj)}{w:World}(R:HRel B g hp w){id a ag bid bg off:Nat}{xs:List Int}{u2:Value}{nb:List Nat}{bb oo:Nat}
  (P6:ag<g.top a) (YG:bg<g.top bid) (yu:a≠id) (hO:gk g nb) (hn:∀b∈nb,g.gA b=ay) (nE:g.cv bid bg= .pointer (J ⟨bb,oo,ay⟩)) (hb:sC g.dj w (bb,oo+off) xs [g.cv a ag,u2] nb):
  ∃g',Le g g'/\(∀x,x∉nb->g'.fL x=g.fL x/\g'.gA x=g.gA x)/\g'.outer=g.outer/\HRel B g' ((id, .uY (g.top id) xs a ag bid bg off)::hp) w/\dR g' (.own id (g.top id)) u2:=by
 have aQ1:oc (g.cv a ag)=true:=by
  rcases hb with⟨e,_⟩|⟨v,e,_⟩
  ·injection e with e;rw[e];rfl
  ·injection e with e;rw[e];rfl
 have key:∀bo:Option Nat,(∀x,bo=J x->x∈nb)->(∀x∈nb,bo=J x)->oc u2=av->
   ((g.cv a ag= .pointer ay/\u2= .slice ay 0 0/\xs=[])\/(g.cv a ag= .pointer (J ⟨bb,oo+off,ay⟩)/\((u2= .slice ay 0 0/\xs=[])\/
    ∃b cap arr ty,bo=J b/\u2= .slice (J ⟨b,0,ay⟩) xs.length cap/\w.heap[b]?=J (.cells arr ty (0,0))/\xs.length<=cap/\arr.size=cap/\Els g.dj (.int .u8) xs arr.toList 0/\ty=nF)))->
   ∃g',Le g g'/\(∀x,x∉nb->g'.fL x=g.fL x/\g'.gA x=g.gA x)/\g'.outer=g.outer/\HRel B g' ((id, .uY (g.top id) xs a ag bid bg off)::hp) w/\dR g' (.own id (g.top id)) u2:=by
  intro bo Xt hbo' Vo hd
  have hle:Le g (g.sK id (g.top id) u2 bo):=by
   refine⟨λ_ _ h=>h,λi=> ?_,λi k hk=> ?_⟩
   ·show g.top i<=if i=id then g.top id+1 else g.top i
    grind
   ·show(if i=id/\k=g.top id then _ else g.cv i k)=g.cv i k
    grind
  have n9:∀x,bo=J x->g.fL x=J 0:=λx hx=>hO.2 x (Xt x hx)
  have ao7:(g.sK id (g.top id) u2 bo).cv id (g.top id)=u2:=(by simp[Gh.sK]);refine⟨_,hle,λx hx=>⟨?_,rfl⟩,rfl,⟨λi=> ?_,λi oi hi=> ?_,λx L hx=> ?_,λx L hx=> ?_,λx hx=> ?_,R.kH,λx hx Iz hi=> ?_,R.size,R.os,R.tape,R.output,R.fix⟩,⟨by simp[Gh.sK],ao7.symm,Vo⟩⟩
  ·grind [Gh.sK]
  ·show(if i=id then g.top id+1 else g.top i)=_
   by_cases e:id=i
   ·subst e;rw[du,ak rfl];rfl
   ·rw[de _ _ e,aj (λh=>e h.symm)];exact R.top i
  ·by_cases e:id=i
   ·subst e;rw[du]at hi;injection hi with hi;subst hi
    refine⟨aR P6 (hle.top _),aR YG (hle.top _),by rw[hle.cv _ _ P6];exact aQ1, ?_⟩;rw[hle.cv _ _ P6,hle.cv _ _ YG,ao7]
    rcases hd with hd|⟨d1,d2⟩
    ·exact .inl hd
    ·refine .inr ⟨bb,oo,nE,d1, ?_⟩
     rcases d2 with d2|⟨b,cap,arr,ty,e0,e1,e2,e3,e4,e5⟩
     ·exact .inl d2
     ·exact .inr ⟨b,cap,arr,ty,e1,by simp[Gh.sK,e0],hn b (Xt b e0),e2,e3,e4,e5⟩
   ·rw[de _ _ e]at hi;refine(R.gE i oi hi).tr hle (λx hx=> ?_) rfl (jm R hi)
    have:bo≠J x:=λe'=>by rw[n9 x e']at hx;simp at hx
    exact⟨by simp[Gh.sK,this,hx],rfl,rfl⟩
  ·have hy:g.dj x=J L:=hx;obtain⟨a1,a2,a3⟩:=R.dj x L hy
   have:bo≠J x:=λe'=>by rw[n9 x e']at a1;cases a1
   exact⟨by simp[Gh.sK,this,a1],a2,a3⟩
  ·have hy:g.gA x=J L:=hx;obtain⟨a1,a2⟩:=R.gA x L hy;refine⟨?_,a2⟩
   by_cases e:bo=J x
   ·simp[Gh.sK,e]
   ·simp[Gh.sK,e,a1]
  ·by_cases e:bo=J x
   ·exact R.gD x (by rw[n9 x e];simp)
   ·exact R.gD x (by simpa[Gh.sK,e]using hx)
  ·obtain⟨f1,f2,f3⟩:=R.frame x hx Iz hi
   have:bo≠J x:=λe'=>by rw[n9 x e']at f1;cases f1
   exact⟨by simp[Gh.sK,this,f1],f2,f3⟩
 rcases hb with⟨e,hx,rfl⟩|⟨v,e,hr,Qa⟩
 ·injection e with e1 e2;injection e2 with e2 _
  refine key ay (λx h=>by cases h) (λx h=>by simp at h) (by rw[e2];rfl) (.inl ⟨e1,e2,hx⟩)
 ·injection e with e1 e2;injection e2 with e2 _
  subst e2
  rcases hr with⟨k1,k2,rfl⟩|⟨b,cap,arr,ty,ku,k1,rfl,ha,hl,hs,hE⟩
  ·injection k1 with k1 _
   exact key ay (λx h=>by cases h) (λx h=>by simp at h) (by rw[k1];rfl) (.inr ⟨e1, .inl ⟨k1,k2⟩⟩)
  ·injection k1 with k1 _
   have Be:ku=[]:=by
    simpa using hE.2
   subst Be
   have aW4:ty=nF:=by
    obtain⟨oa,h'⟩:=Qa b (by simp);rw[ha]at h'
    injection h' with h';injection h' with _ h'
   exact key (J b) (λx h=>by injection h with h;subst h;simp) (λx h=>by simp at h;rw[h]) (by rw[k1];rfl) (.inr ⟨e1, .inr ⟨b,cap,arr,ty,rfl,k1,ha,hl,by simpa[Ty.size]using hs,by simpa using hE.1,aW4⟩⟩)
end Go.Abs
end

section
namespace Go.Abs
theorem o8.JV {hp Ew:List (Nat×Obj)}{g g':Gh}{dj:Rd}{w0 w:World}(l:Le g g')(ht:∀id gn cs,look hp id=J (.j1 gn cs)->gn<g.top id):
  ∀{s:Sp} {x:s.ty.den} {pl:Nat×Nat} {cs:List Cell} {us news:List Value} {nb:List Nat},(∀i gn cs b o,look hp i=J (.j1 gn cs)->g.cv i gn= .pointer (J ⟨b,o,ay⟩)->b∈nb->look Ew i=J (.j1 gn cs)/\g'.outer i=g.outer i)->
   pn dj w0 w s x pl us news nb->o8 hp g w0 s cs us->o8 Ew g' w0 s cs us
 | .un,_,_,_,_,_,_,_,_,_=>trivial
 | .fh _,_,_,_,_,_,_,_,_,_=>trivial
 | .own _ _,_,_,_,_,_,_,_,_,_=>trivial
 | .uY,_,_,_,_,_,_,_,_,_=>trivial
 | .Bc _,_,_,_,_,_,_,_,_,_=>trivial
 | .err,_,_,_,_,_,_,_,_,_=>trivial
 | .np,_,_,_,_,_,_,_,_,_=>trivial
 | .slf _ _,_,_,_,_,_,_,_,_,_=>trivial
 | .lnd _ _,_,_,_,_,_,_,_,_, .inl h=> .inl h
 | .lnd _ _,_,_,_,_,_,_,_,_, .inr ⟨id,gen,e,e',h,Vo⟩=> .inr ⟨id,gen,e,by rw[l.cv _ _ h];omega,aR h (l.top _),by rw[l.cv _ _ h];omega⟩
 | .pr _ _,_,_,_,_,_,_,ho,⟨u1,u2,n1,n2,e,e',k1,k2⟩,⟨h1,h2⟩=>by
  subst e';exact⟨o8.JV l ht (λi gn cs b o a1 a2 a3=>ho i gn cs b o a1 a2 (aV _ a3)) k1 h1,o8.JV l ht (λi gn cs b o a1 a2 a3=>ho i gn cs b o a1 a2 (aY _ a3)) k2 h2⟩
 | .ptr _ _ _,_,_,_,_,_,_,ho,⟨b1,o1,kV,E7,oa,L',ku,e,e',e2,a0,a1,ad1,Iz,hs,k⟩,⟨id,gen,off,bs,b,o,arr,ty,L,e1,e3,hl,nE,ha,hL,hle,hid,Dn,hc,hr⟩=>by
  subst e2;rw[e]at e3
  injection e3 with e3;injection e3 with e3;injection e3 with e3;injection e3 with e3 e4
  subst e3;subst e4;obtain⟨k1,k2⟩:=ho _ _ _ _ _ hl nE (aF ..);rw[ha]at a0
  injection a0 with a0;injection a0 with a0
  subst a0;have Vu:=Pw (n:=_) hL hle (show off+_<=L.length by rw[hc.length];exact Dn);rw[<-Vu]at k
  exact⟨id,gen,off,bs,b1,o,arr,ty,L,e1,e,k1,(l.cv _ _ (ht _ _ _ hl)).trans nE,ha,by rw[k2];exact hL,by rw[k2];exact hle,by rw[k2];exact hid,Dn,hc.mono l,
   o8.JV l ht (λi gn cs b o a1 a2 a3=>ho i gn cs b o a1 a2 (aD _ a3)) k hr⟩
theorem O6 {α:Type}{O L N kV arr:List α}{o off:Nat}(h0:kV=O.take o++L++O.drop (o+L.length))(ho:o+L.length<=O.length)(hn:off+N.length<=L.length)
  (h1:arr=kV.take (o+off)++N++kV.drop (o+off+N.length)):
  arr=O.take o++(L.take off++N++L.drop (off+N.length))++O.drop (o+(L.take off++N++L.drop (off+N.length)).length):=by
 have hlen:(L.take off++N++L.drop (off+N.length)).length=L.length:=by simp;omega
 have aW5:(O.take o).length=o:=by grind
 have e1:(O.take o++L++O.drop (o+L.length)).take (o+off)=O.take o++L.take off:=by
  grind
 have e2:(O.take o++L++O.drop (o+L.length)).drop (o+off+N.length)=L.drop (off+N.length)++O.drop (o+L.length):=by
  rw[aI,List.drop_append,aW5,List.drop_of_length_le (by omega),bS,List.drop_append];rw[show o+off+N.length - o=off+N.length by omega,show off+N.length - L.length=0 by omega,cc]
 simp_all
def ae8 (sp:Sp)(x:sp.ty.den)(pl:Plc)(old:List Cell)(s:St)(cells rest:List Cell)(s':St):Prop:=
 s'.env=s.env/\rest=old.drop sp.size/\∀B g w0 w,HRel B g s.hp w->∀rp olds news nb,j9 g pl rp->o8 s.hp g w0 sp (old.take sp.size) olds->pn g.dj w0 w sp x rp olds news nb->gk g nb->(∀b∈nb,g.gA b=ay)->
  ∃g',Le g g'/\(∀x,x∉nb->g'.fL x=g.fL x/\g'.gA x=g.gA x)/\HRel B g' s'.hp w/\dr g' cells news/\
   ∀i gn cs b o,look s.hp i=J (.j1 gn cs)->g.cv i gn= .pointer (J ⟨b,o,ay⟩)->b∉nb->look s'.hp i=J (.j1 gn cs)/\g'.outer i=g.outer i
theorem vz:∀(sp:Sp) (x:sp.ty.den) (pl:Plc) (old:List Cell) (n:Nat) (s:St) (cells rest:List Cell) (n':Nat) (s':St),(A6 sp x pl old n).run s=J ((cells,rest,n'),s')->ae8 sp x pl old s cells rest s':=by
 intro sp
 induction sp with
 |un=>
  intro x pl old n s cells rest n' s' h;obtain⟨h1,rfl⟩:=cX h
  injection h1 with h1 h2;injection h2 with h2 h3
  subst h1;subst h2;exact⟨rfl,rfl,λB g w0 w R rp olds news nb yt hL hB hp hn=>⟨g,Le.refl g,λ_ _=>⟨rfl,rfl⟩,R,hB.1,λi gn cs b o h _ _=>⟨h,rfl⟩⟩⟩
 |fh τ=>
  intro x pl old n s cells rest n' s' h;obtain⟨h1,rfl⟩:=cX h
  injection h1 with h1 h2;injection h2 with h2 h3
  subst h1;subst h2;refine⟨rfl,by simp,λB g w0 w R rp olds news nb yt hL hB hp hn=>⟨g,Le.refl g,λ_ _=>⟨rfl,rfl⟩,R, ?_,λi gn cs b o h _ _=>⟨h,rfl⟩⟩⟩;obtain⟨_,h1,u,rfl,hr⟩:=hB;exact⟨u,[],rfl,⟨h1,hr⟩,rfl⟩
 |err=>
  intro x pl old n s cells rest n' s' h;obtain⟨h1,rfl⟩:=cX h
  injection h1 with h1 h2;injection h2 with h2 h3
  subst h1;subst h2;refine⟨rfl,by simp,λB g w0 w R rp olds news nb yt hL hB hp hn=>⟨g,Le.refl g,λ_ _=>⟨rfl,rfl⟩,R, ?_,λi gn cs b o h _ _=>⟨h,rfl⟩⟩⟩;obtain⟨_,u,rfl,hr⟩:=hB;exact⟨u,[],rfl,hr,rfl⟩
 |np=>
  intro x pl old n s cells rest n' s' h;obtain⟨h1,rfl⟩:=cX h
  injection h1 with h1 h2;injection h2 with h2 h3
  subst h1;subst h2;refine⟨rfl,by simp,λB g w0 w R rp olds news nb yt hL hB hp hn=>⟨g,Le.refl g,λ_ _=>⟨rfl,rfl⟩,R, ?_,λi gn cs b o h _ _=>⟨h,rfl⟩⟩⟩;obtain⟨_,rfl⟩:=hB;exact⟨_,[],rfl,rfl,rfl⟩
 |slf f m=>intro x pl old n s cells rest n' s' h;exact nomatch h
 |own τ dp=>
  intro x pl old n s cells rest n' s' h;obtain⟨c,t,h1,h2⟩:=AM.cV h;obtain⟨h3,rfl⟩:=cX h2
  injection h3 with h3 h4;injection h4 with h4 h5
  subst h3;subst h4;obtain⟨gen,hg,rfl,rfl⟩:=xt h1;have OD:=(qa hg).2
  have Oz:∀i gn cs,look s.hp i=J (.j1 gn cs)->i≠n:=λi gn cs hi e=>by simp_all
  refine⟨rfl,by simp,λB g w0 w R rp olds news nb yt hL hB hp hn=> ?_⟩;obtain⟨rfl,_⟩:=lT R hg
  rcases hB with⟨rfl,hx,rfl⟩|⟨b,cap,arr,ty,ku,rfl,rfl,ha,hl,hs,hE⟩
  ·have hx:x=[]:=hx;subst hx;obtain⟨l,R'⟩:=R.named (id:=n) (u:= .slice ay 0 0) (o':= .own (g.top n) τ (dp||τ.flat) []) rfl (.inl ⟨by simp[Gh.name],rfl⟩);refine⟨_,l.le,λx _=>⟨rfl,rfl⟩,R',⟨_,[],rfl,⟨by simp[Gh.name],by simp[Gh.name],rfl⟩,rfl⟩,λi gn cs b o hi _ _=>⟨?_,by rfl⟩⟩
   ·show look ((n,_)::s.hp) i=_;rw[de _ _ (Ne.symm (Oz i gn cs hi))];omega
  ·have J2:=hp.2 b (aF ..);have o9:=cg.1 hp.1
   have Vn:((dp||τ.flat)&& !τ.flat)=(dp&& !τ.flat):=by grind
   obtain⟨g',l,hk,ho,R',hc⟩:=R.oG (id:=n) (deep:=dp||τ.flat) (τ:=τ) (xs:=x) (nb:=ku) J2 (hn b (aF ..)) o9.1 ha hl hs o9.2 (λy hy=>⟨hp.2 y (aD _ hy),by
    unfold mH at hE;split at hE
    ·exact hE.uM y hy
    simp_all⟩) (by simp_all)
   refine⟨g',l,λy hy=> ?_,R',⟨_,[],rfl,hc,rfl⟩,λi gn cs b o hi _ _=>⟨?_,ho i (Oz i gn cs hi)⟩⟩
   ·simp_all
   ·show look ((n,_)::s.hp) i=_;rw[de _ _ (Ne.symm (Oz i gn cs hi))];omega
 |lnd τ dp=>
  intro x pl old n s cells rest n' s' h
  cases old with
  |nil=>exact nomatch h
  |cons c cs=>
   cases c with
   |nil=>
    obtain⟨h1,rfl⟩:=cX h
    injection h1 with h1 h2;injection h2 with h2 h3
    subst h1;subst h2;refine⟨rfl,by rfl,λB g w0 w R rp olds news nb yt hL hB hp hn=> ?_⟩;obtain⟨rfl,hO⟩:=hB
    rcases hL with⟨_,rfl⟩|⟨id,gen,e,_⟩
    ·have Be:nb=[]:=by
      rcases hO with⟨_,_,h⟩|⟨b,cap,arr,ty,ku,e,_⟩
      all_goals simp_all
     subst Be;exact⟨g,Le.refl g,λ_ _=>⟨rfl,rfl⟩,R,⟨_,[],rfl,rfl,rfl⟩,λi gn cs b o h _ _=>⟨h,rfl⟩⟩
    simp_all
   |own id gen=>
    simp only[A6,AM.run]at h;split at h
    ·rename_i g0 bs heq;obtain⟨hb,h'⟩:=dQ h;obtain rfl:=beq_eq hb;simp only[AM.run,bY,cy]at h';obtain⟨⟨rfl,rfl,rfl⟩,rfl⟩:=h';refine⟨rfl,by simp[Sp.size],λB g w0 w R rp olds news nb yt hL hB hp hn=> ?_⟩;obtain⟨rfl,hO⟩:=hB
     rcases hL with⟨e,_⟩|⟨YD,LV,e,rfl,ht,Vo⟩
     ·simp[Sp.size]at e
     ·have e:[Cell.own id g0]=[Cell.own YD LV]:=by simpa[Sp.size]using e
      injection e with e _;injection e with e1 e2
      subst e1;subst e2
      have Vn:((dp||τ.flat)&& !τ.flat)=(dp&& !τ.flat):=by cases dp<;>cases τ.flat<;>rfl
      rcases hO with⟨k1,k2,rfl⟩|⟨b,cap,arr,ty,ku,k1,rfl,ha,hl,hs,hE⟩
      ·have k2:x=[]:=k2;subst k2
       injection k1 with k1 _
       have R':HRel B g ((id, .own g0 τ (dp||τ.flat) [])::s.hp) w:=R.put heq rfl (.inl ⟨k1,rfl⟩);refine⟨g,Le.refl g,λ_ _=>⟨rfl,rfl⟩,R',⟨_,[],rfl,⟨ht,rfl,Vo⟩,rfl⟩,λi gn cs b o hi nE _=>⟨?_,rfl⟩⟩
       have yu:id≠i:=λe=>by
        subst e;rw[heq]at hi
        injection hi with hi;injection hi with hi _
        subst hi;rw[k1]at nE;cases nE
       show look ((id,_)::s.hp) i=_;rw[de _ _ yu];exact hi
      ·injection k1 with k1 _
       have o9:=cg.1 hp.1
       obtain⟨g',l,hk,ho,R'⟩:=R.l7 (deep:=dp||τ.flat) (τ:=τ) (xs:=x) (nb:=ku) heq k1 (hp.2 b (aF ..)) (hn b (aF ..)) o9.1 ha hl hs o9.2 (λy hy=>⟨hp.2 y (aD _ hy),by
        unfold mH at hE;split at hE
        ·exact hE.uM y hy
        ·rw[hE.2]at hy;simp at hy⟩) (by rw[Vn];exact hE)
       refine⟨g',l,λy hy=> ?_,R',⟨_,[],rfl,⟨aR ht (l.top _),(l.cv _ _ ht).symm,Vo⟩,rfl⟩,λi gn cs b' o hi nE _=>⟨?_,by rw[ho]⟩⟩
       ·rw[bA,not_or]at hy;exact hk y hy.1 hy.2
       ·have yu:id≠i:=λe=>by
         subst e;rw[heq]at hi
         injection hi with hi;injection hi with hi _
         subst hi;rw[k1]at nE;cases nE
        show look ((id,_)::s.hp) i=_;rw[de _ _ yu];exact hi
    ·cases h
   |_=>exact nomatch h
 |Bc ok=>intro x pl old n s cells rest n' s' h;exact nomatch h
 |uY=>
  intro x pl old n s cells rest n' s' h;obtain⟨c,t,h1,h2⟩:=AM.cV h;obtain⟨h3,rfl⟩:=cX h2
  injection h3 with h3 h4;injection h4 with h4 h5
  subst h3;subst h4
  cases pl with
  |none=>cases h1
  |some q=>
   obtain⟨id,bg,off⟩:=q;obtain⟨gn1,t1,h6,h7⟩:=AM.cV h1;obtain⟨rfl,Vg⟩:=qa h6;simp only[AM.run]at h7;obtain⟨gn2,t2,h8,h9⟩:=AM.cV h7;obtain⟨rfl,aH2⟩:=qa h8;simp only[AM.run,bY,cy]at h9;obtain⟨rfl,rfl⟩:=h9;refine⟨rfl,by simp[Sp.size],λB g w0 w R rp olds news nb yt hL hB hp hn=> ?_⟩;have hB:sC g.dj w rp x news nb:=hB;obtain⟨YG,bb,oo,nE,rfl⟩:=yt id bg off rfl;obtain⟨rfl,_⟩:=lT R h6
   have two:∃u1 u2,news=[u1,u2]/\oc u1=true:=by
    rcases hB with⟨e,_⟩|⟨u2,e,_⟩
    ·exact⟨_,_,e,rfl⟩
    ·exact⟨_,_,e,rfl⟩
   obtain⟨u1,u2,rfl,aC0⟩:=two;obtain⟨l1,R1⟩:=R.named (id:=n) (u:=u1) (o':= .dead (g.top n)) rfl trivial;have AJ:(g.name n (g.top n) u1).cv n (g.top n)=u1:=(by simp[Gh.name]);have VO:g.top n<(g.name n (g.top n) u1).top n:=(by simp[Gh.name]);obtain⟨rfl,_⟩:=lT (s:=⟨t1.env,(n, .dead (g.top n))::t1.hp⟩) R1 h8;obtain⟨g2,l2,k2,o2,R2,c2⟩:=R1.NC (id:=n+1) (a:=n) (ag:=g.top n) (bid:=id) (bg:=bg) (off:=off) (xs:=x) (u2:=u2) (nb:=nb) VO (aR YG (l1.le.top _)) (by omega) (hp.mono l1) hn ((l1.le.cv _ _ YG).trans nE) (by rw[AJ];exact hB);refine⟨g2,l1.le.trans l2,k2,R2,⟨u1,[u2],rfl,⟨aR VO (l2.top _), ?_,aC0⟩,u2,[],rfl,c2,rfl⟩,λi gn cs b o hi _ _=>⟨?_,by rw[o2,l1.out]⟩⟩
   ·rw[l2.cv _ _ VO,AJ]
   ·have e1:n≠i:=λe=>by subst e;exact Vg gn cs hi
    have e2:n+1≠i:=λe=>by
     subst e;exact aH2 gn cs (by show look ((n,_)::t1.hp) (n+1)=_;rw[de _ _ e1];exact hi)
    show look ((n+1,_)::(n,_)::t1.hp) i=_;rw[de _ _ e2,de _ _ e1];exact hi
 |pr a b Dt Dr=>
  intro x pl old n s cells rest n' s' h;obtain⟨⟨p1,p2,p3⟩,t,h1,h2⟩:=AM.cV h;obtain⟨⟨q1,q2,q3⟩,t2,h3,h4⟩:=AM.cV h2;obtain⟨h5,rfl⟩:=cX h4
  injection h5 with h5 h6;injection h6 with h6 h7
  subst h5;subst h6;obtain⟨ea,ra,sa⟩:=Dt _ _ _ _ _ _ _ _ _ h1;obtain⟨eb,rb,sb⟩:=Dr _ _ _ _ _ _ _ _ _ h3;have ra:p2=old.drop a.size:=ra;have rb:rest=p2.drop b.size:=rb;refine⟨eb.trans ea,by rw[rb,ra,b8],λB g w0 w R rp olds news nb yt hL hB hp hn=> ?_⟩;obtain⟨u1,u2,n1,n2,rfl,rfl,B1,B2⟩:=hB;obtain⟨L1,L2⟩:=hL;have o9:=bC.1 hp.1
  have hd:∀y∈n2,y∉n1:=λy h2 h1=>o9.2.2 y h1 y h2 rfl
  have e1:((old.take (a.size+b.size)).take a.size)=old.take a.size:=by rw[b9];congr 1;omega
  have e2:((old.take (a.size+b.size)).drop a.size)=p2.take b.size:=by rw[ra,cr];congr 1;omega
  have aK4:o8 s.hp g w0 a (old.take a.size) (olds.take a.size):=by rw[<-e1];exact L1
  have aA8:o8 s.hp g w0 b (p2.take b.size) (olds.drop a.size):=by rw[<-e2];exact L2
  obtain⟨g1,l1,k1,R1,c1,t1⟩:=sa B g w0 w R rp _ _ _ yt aK4 B1 ⟨o9.1,λy hy=>hp.2 y (aV _ hy)⟩ (λy hy=>hn y (aV _ hy));have L3:o8 t.hp g1 w0 b (p2.take b.size) (olds.drop a.size):=o8.JV l1 R.vV (λi gn cs b' o a1 a2 a3=>t1 i gn cs b' o a1 a2 (hd b' a3)) B2 aA8
  obtain⟨g2,l2,k2,R2,c2,aE3⟩:=sb B g1 w0 w R1 (rp.1,rp.2+a.size) _ _ _ ((yt.mono l1).on a.size) L3 (B2.mono l1.dj) ⟨o9.2.1,λy hy=>by rw[(k1 y (hd y hy)).1];exact hp.2 y (aY _ hy)⟩
   (λy hy=>by rw[(k1 y (hd y hy)).2];exact hn y (aY _ hy))
  refine⟨g2,l1.trans l2,λy hy=> ?_,R2,(c1.mono l2).append c2,λi gn cs b' o hi nE hb=> ?_⟩
  ·rw[aL,not_or]at hy;obtain⟨a1,a2⟩:=k1 y hy.1;obtain⟨b1,b2⟩:=k2 y hy.2;exact⟨b1.trans a1,b2.trans a2⟩
  ·rw[aL,not_or]at hb;obtain⟨a1,a2⟩:=t1 i gn cs b' o hi nE hb.1;obtain⟨b1,b2⟩:=aE3 i gn cs b' o a1 ((l1.cv _ _ (R.vV _ _ _ hi)).trans nE) hb.2;exact⟨b1,b2.trans a2⟩
 |ptr wh st sp ih=>
  intro x pl old n s cells rest n' s' h
  cases old with
  |nil=>exact nomatch h
  |cons c cs=>
   cases c with
   |ptr id gen off=>
    simp only[A6,AM.run]at h;split at h
    ·rename_i g0 bt bs heq;obtain⟨hb,h'⟩:=dQ h;obtain rfl:=beq_eq hb;obtain⟨⟨p1,p2,p3⟩,t,h1,h2⟩:=AM.cV h';simp at h2;obtain⟨⟨rfl,rfl,rfl⟩,rfl⟩:=h2;obtain⟨e1,r1,s1⟩:=ih _ _ _ _ _ _ _ _ _ h1;refine⟨e1,by simp[Sp.size],λB g w0 w R rp olds news nb yt hL hB hp hn=> ?_⟩;obtain⟨YD,LV,Vp,bs',b,o,kV,E7,L,ec,eo,Oz,nE,SW,YA,hle,hid,Dn,VH,aU5⟩:=hL
     have ec:[Cell.ptr id g0 off]=[Cell.ptr YD LV Vp]:=by simpa[Sp.size]using ec
     injection ec with ec _;injection ec with aY8 aQ9 aV5
     subst aY8;subst aQ9;subst aV5;rw[heq]at Oz
     injection Oz with Oz;injection Oz with _ Oz;injection Oz with aI0 Oz
     subst Oz;subst aI0;obtain⟨b1,o1,arr1,ty1,arr,N,ku,f1,f2,f3,f4,f5,f6,f7,f8,f9⟩:=hB;rw[f1]at eo
     injection eo with eo;injection eo with eo;injection eo with eo;injection eo with aY9 aS2
     subst aY9;subst aS2;rw[SW]at f4
     injection f4 with f4;injection f4 with f4 aW2
     subst f4;subst aW2;subst f3;have o9:=cg.1 hp.1;have J1:=VH.length;have Vu:=Pw (n:=sp.size) YA hle (show off+sp.size<=L.length by rw[J1];exact Dn);rw[<-Vu]at f9
     have Ez:(cut off sp.size bs).take sp.size=cut off sp.size bs:=by unfold cut;rw[b9,Nat.min_self]
     obtain⟨g1,l1,k1,R1,c1,t1⟩:=s1 B g w0 w R (b1,o+off) _ _ _ (λYD LV Vp e=>by
      injection e with e;injection e with e1 e;injection e with e2 e3
      subst e1;subst e2;subst e3
      exact⟨R.vV _ _ _ heq,b1,o,nE,rfl⟩) (by rw[Ez];exact aU5) f9 ⟨o9.2,λy hy=>hp.2 y (aD _ hy)⟩ (λy hy=>hn y (aD _ hy))
     obtain⟨q1,q2⟩:=k1 b1 o9.1;obtain⟨w1,w2⟩:=t1 id g0 (_,bs) b1 o heq nE o9.1;have AJ:g1.cv id g0= .pointer (J ⟨b1,o,ay⟩):=(l1.cv _ _ (R.vV _ _ _ heq)).trans nE;have hN:=c1.length
     let g2:Gh:={g1 with fL:=open Classical in λx=>if x=b1 then J (id+1)else g1.fL x}
     have SG:Le g1 g2:=⟨λ_ _ h=>h,λ_=>aC _,λ_ _ _=>rfl⟩;have VG:=O6 (off:=off) YA hle (by rw[f8,J1];exact Dn) f6
     have hlen:(L.take off++N++L.drop (off+N.length)).length=L.length:=by simp;omega
     have B9:dr g2 (setCells off p1 bs) (L.take off++N++L.drop (off+N.length)):=dr.set (c1.mono SG) off (VH.mono (l1.trans SG))
     have R2:HRel B g2 ((id, .box g0 (bt,setCells off p1 bs))::t.hp) w:=by
      refine R1.Uy (q1.trans (hp.2 b1 (aF ..))) (q2.trans (hn b1 (aF ..))) w1 rfl ?_;refine⟨b1,o,arr,_,_,AJ,⟨by simp,q2.trans (hn b1 (aF ..))⟩,f5,B9, ?_, ?_, ?_⟩
      ·show arr.toList=(g1.outer id).take o++_++(g1.outer id).drop _;rw[w2];exact VG
      ·show _<=(g1.outer id).length;rw[w2,hlen];exact hle
      ·refine⟨hid.1, ?_,rfl⟩;show(g1.outer id).length=(setCells off p1 bs).length;rw[w2,<-B9.length,hlen,J1];exact hid.2
     refine⟨g2,l1.trans SG,λy hy=> ?_,R2,⟨_,[],by rw[f2,f1],⟨R2.top id ▸ by rw[du];exact Nat.lt_succ_self _,b1,o,AJ,rfl⟩,rfl⟩,λi gn cs b' o' hi Iw Om=> ?_⟩
     ·rw[bA,not_or]at hy;obtain⟨a1,a2⟩:=k1 y hy.2;exact⟨by simp[g2,hy.1,a1],a2⟩
     ·rw[bA,not_or]at Om;obtain⟨a1,a2⟩:=t1 i gn cs b' o' hi Iw Om.2;refine⟨?_,a2⟩
      have yu:id≠i:=λe=>by
       subst e;rw[heq]at hi
       injection hi with hi;injection hi with hi _
       subst hi;rw[nE]at Iw
       injection Iw with Iw;injection Iw with Iw;injection Iw with Iw _
       exact Om.1 Iw.symm
      show look ((id,_)::t.hp) i=_;rw[de _ _ yu];exact a1
    ·cases h
   |_=>exact nomatch h
end Go.Abs
end

section
namespace Go.Abs
def th (dj:Rd)(w:World):(a:VSp)->a.sp.ty.den->Value->List Nat->Prop
 | .one s,x,u,nb=>oc u=av/\Pass dj w s x (0,0) [u] nb
 | .agg s,x,u,nb=>∃us:List Value,u= .agg us.toArray/\Pass dj w s x (0,0) us nb
def jk (dj:Rd)(w:World):(as:List VSp)->(eI as).den->List Value->List Nat->Prop
 |[],_,us,nb=>us=[]/\nb=[]
 |a::as,x,us,nb=>∃u r n1 n2,us=u::r/\nb=n1++n2/\th dj w a x.1 u n1/\jk dj w as x.2 r n2
def Df (dj:Rd)(w0 w:World):(s:Sp)->s.qQ.den->List Value->List Nat->Prop
 | .pr a b,x,us,nb=>∃n1 n2,nb=n1++n2/\Df dj w0 w a x.1 (us.take a.size) n1/\Df dj w0 w b x.2 (us.drop a.size) n2
 | .ptr wh st s,x,us,nb=>pn dj w0 w (.ptr wh st s) x (0,0) us us nb
 | .lnd τ dp,x,us,nb=>pn dj w0 w (.lnd τ dp) x (0,0) us us nb
 |_,_,_,nb=>nb=[]
def l6 (dj:Rd)(w0 w:World):(as:List VSp)->(rk as).den->List Value->List Nat->Prop
 |[],_,us,nb=>us=[]/\nb=[]
 |a::as,x,us,nb=>∃u r n1 n2,us=u::r/\nb=n1++n2/\Df dj w0 w a.sp x.1 u.cells.toList n1/\l6 dj w0 w as x.2 r n2
def zx (dj:Rd)(w:World):(a:VSp)->a.sp.ty.den->Value->List Nat->Prop
 | .one s,x,u,nb=>oc u=av/\pn dj w w s x (0,0) [] [u] nb
 | .agg s,x,u,nb=>∃us:List Value,u= .agg us.toArray/\pn dj w w s x (0,0) [] us nb
def tn (dj:Rd)(w:World):(as:List VSp)->(eI as).den->List Value->List Nat->Prop
 |[],_,us,nb=>us=[]/\nb=[]
 |a::as,x,us,nb=>∃u r n1 n2,us=u::r/\nb=n1++n2/\zx dj w a x.1 u n1/\tn dj w as x.2 r n2
def xW (dj:Rd)(w:World):(r:RSp)->r.ty.den->Value->List Nat->Prop
 | .val a,x,v,nb=>zx dj w a x v nb
 | .yc as,x,v,nb=>∃vs:List Value,v= .tuple vs.toArray/\tn dj w as x vs nb
 | .none,_,v,nb=>v= .tuple #[]/\nb=[]
def jG (fH:Nat->Option (List Cell))(dj:Rd):Prop:=∀k cs,fH k=J cs->∃us,dj k=J us/\∀g:Gh,(∀b L,dj b=J L->g.dj b=J L)->dr g cs us
theorem jG.mono {fH:Nat->Option (List Cell)}{dj fw:Rd}(h:∀b L,dj b=J L->fw b=J L)(k:jG fH dj):jG fH fw:=λi c hi=>by
 obtain⟨u,h1,h2⟩:=k i c hi
 grind
theorem jG.one {fH:Nat->Option (List Cell)}{g:Gh}(h:jG fH g.dj):∀k c,fH k=J [c]->∃u,g.dj k=J [u]/\dR g c u:=λk c hk=>by
 obtain⟨us,h1,h2⟩:=h k [c] hk
 obtain⟨u,r,rfl,hu,hr⟩:=h2 g λ_ _ hb=>hb
 have hr:r=[]:=hr;simp_all
def jR (P:Program)(f:FuncId)(args:Array Value)(w:World)(R:Value->World->Prop):Prop:=
 match(callFunc f args).run P w with
 | .ok (.enter f' a') w1=>Calls P f' a' w1 λe w'=>∃v,e= .returned v/\R v w'
 | .ok (.value v) w1=>R v w1
 |_=>False
def oF (P:Program)(fH:Nat->Option (List Cell))(f:FuncId)(c:Callee):Prop:=
 ∀x y,c.F x=J y->∀(dj:Rd) (w:World) (args:List Value) (nb:List Nat),jG fH dj->(∀b L,dj b=J L->∃arr ty fr,w.heap[b]?=J (.cells arr ty fr)/\arr.toList=L)->
  jk dj w c.sig.args x args nb->nb.Nodup->(∀b∈nb,dj b=ay/\b<w.heap.size)->
  jR P f args.toArray w λv w'=>∃fw n1 n2,After dj w nb fw w' (n1++n2)/\xW fw w' c.sig.res y.1 v n1/\l6 fw w w' c.sig.args y.2 args n2
def E3 (as:List VSp)(dj:Rd)(w:World)(nb:List Nat)(args:List Value):Prop:=∀f m,x8 as=J (f,m)->
 ∃b ty,args.getLast?=J (.pointer (J ⟨b,0,ay⟩))/\w.heap[b]?=J (.cells #[.func (.func f) #[] (args.drop m).toArray] ty (0,0))/\b∉nb/\dj b=ay
def xB (P:Program)(fH:Nat->Option (List Cell))(f:FuncId)(c:Callee):Prop:=
 ∀x y,c.F x=J y->∀(dj:Rd) (w:World) (args:List Value) (nb:List Nat),jG fH dj->(∀b L,dj b=J L->∃arr ty fr,w.heap[b]?=J (.cells arr ty fr)/\arr.toList=L)->
  jk dj w c.sig.args x args nb->nb.Nodup->(∀b∈nb,dj b=ay/\b<w.heap.size)->E3 c.sig.args dj w nb args->
  jR P f args.toArray w λv w'=>∃fw n1 n2,After dj w nb fw w' (n1++n2)/\xW fw w' c.sig.res y.1 v n1/\l6 fw w w' c.sig.args y.2 args n2
theorem oF.slf {P:Program}{fH:Nat->Option (List Cell)}{f:FuncId}{c:Callee}(h:oF P fH f c):xB P fH f c:=λx y k dj w args nb a b c d e _=>h x y k dj w args nb a b c d e
theorem E3.none {as:List VSp}(h:x8 as=ay){dj:Rd}{w:World}{nb:List Nat}{args:List Value}:E3 as dj w nb args:=λf m k=>by simp_all
theorem xB.plain {P:Program}{fH:Nat->Option (List Cell)}{f:FuncId}{c:Callee}(hn:x8 c.sig.args= .none)(h:xB P fH f c):oF P fH f c:=λx y k dj w args nb a b c d e=>h x y k dj w args nb a b c d e (E3.none hn)
theorem D4 {u:Value}(h:oc u=av):u.cells.toList=[u]:=by rw[CR h]
def pB (hp:List (Nat×Obj))(g:Gh)(w:World):List VSp->List Val->List Value->Prop
 |[],vs,us=>vs=[]/\us=[]
 |a::as,vs,us=>∃v r u q,vs=v::r/\us=u::q/\v.cells.length=a.sp.size/\o8 hp g w a.sp v.cells u.cells.toList/\pB hp g w as r q
theorem pB.mono {hp Ew:List (Nat×Obj)}{g g':Gh}{w:World}(l:Le g g')(ho:∀id gn cs,look hp id=J (.j1 gn cs)->look Ew id=J (.j1 gn cs)/\g'.outer id=g.outer id)(ht:∀id gn cs,look hp id=J (.j1 gn cs)->gn<g.top id):
  ∀{as:List VSp} {vs:List Val} {us:List Value},pB hp g w as vs us->pB Ew g' w as vs us
 |[],_,_,h=>h
 |_::_,_,_,⟨v,r,u,q,e,e',hl,h1,h2⟩=>⟨v,r,u,q,e,e',hl,h1.mono l ho ht,pB.mono l ho ht h2⟩
theorem EF {a:VSp}{v:Val}{s s':St}{x:a.sp.ty.den}(h:(UM a v).run s=J (x,s')):kz s s'/\∀B g w,HRel B g s.hp w->∃g',Lk g g'/\HRel B g' s'.hp w/\∀u,gx g v u->
  ∃nb,th g'.dj w a x u nb/\gk g' nb/\(∀b∈nb,g.fL b≠J 0)/\v.cells.length=a.sp.size/\o8 s'.hp g' w a.sp v.cells u.cells.toList:=by
 cases a with
 |one sp=>
  cases v with
  |agg cs=>exact nomatch h
  |one c=>
   obtain⟨⟨p1,p2⟩,t,h1,h2⟩:=AM.cV h;simp at h2;split at h2
   ·obtain⟨rfl,rfl⟩:=cX h2;obtain⟨k,⟨used,eu,lu⟩,hs⟩:=xx _ _ _ _ _ _ _ h1
    have po:sp.size=1:=by grind
    refine⟨k,λB g w R=> ?_⟩;obtain⟨g',l,R',hc⟩:=hs B g w R;refine⟨g',l,R',λu hu=> ?_⟩;have Vo:=hu.F2;obtain⟨u1,u2,nb,e,hP,hO,hr,hf,hL⟩:=hc [u] (0,0) ⟨u,[],rfl,hu,rfl⟩ (j9.none _ _);have AL:u2=[]:=hr;subst AL;rw[aU]at e;subst e;refine⟨nb,⟨Vo,hP⟩,hO,hf,po.symm, ?_⟩;rw[D4 Vo];rw[po]at hL;exact hL
   ·cases h2
 |agg sp=>
  cases v with
  |one c=>exact nomatch h
  |agg cs=>
   obtain⟨⟨p1,p2⟩,t,h1,h2⟩:=AM.cV h;simp at h2;split at h2
   ·obtain⟨rfl,rfl⟩:=cX h2;obtain⟨k,⟨used,eu,lu⟩,hs⟩:=xx _ _ _ _ _ _ _ h1;rw[aU]at eu;subst eu;refine⟨k,λB g w R=> ?_⟩;obtain⟨g',l,R',hc⟩:=hs B g w R;refine⟨g',l,R',λu hu=> ?_⟩;obtain⟨us,rfl,hu⟩:=hu;obtain⟨u1,u2,nb,e,hP,hO,hr,hf,hL⟩:=hc us (0,0) hu (j9.none _ _);have AL:u2=[]:=hr;subst AL;rw[aU]at e;subst e;refine⟨nb,⟨us,rfl,hP⟩,hO,hf,lu, ?_⟩;have:cs.take sp.size=cs:=(by rw[<-lu,ck]);rw[this]at hL;exact hL
   ·cases h2
theorem th.mono {dj fw:Rd}(h:∀b L,dj b=J L->fw b=J L){w:World}{a:VSp}{x:a.sp.ty.den}{u:Value}{nb:List Nat}(k:th dj w a x u nb):th fw w a x u nb:=by
 cases a with
 |one s=>exact⟨k.1,Pass.mono h k.2⟩
 |agg s=>obtain⟨us,e,k⟩:=k;exact⟨us,e,Pass.mono h k⟩
theorem s9:∀{as:List VSp} {vs:List Val} {s s':St} {x:(eI as).den},(Eo as vs).run s=J (x,s')->kz s s'/\∀B g w,HRel B g s.hp w->∃g',Lk g g'/\HRel B g' s'.hp w/\∀us,gW g vs us->
  ∃nb,jk g'.dj w as x us nb/\gk g' nb/\(∀b∈nb,g.fL b≠J 0)/\pB s'.hp g' w as vs us
 |[],vs,s,s',x,h=>by
  cases vs with
  |nil=>
   obtain⟨rfl,rfl⟩:=cX h;exact⟨kz.refl _,λB g w R=>⟨g,Lk.refl g,R,λus hu=>⟨[],⟨hu,rfl⟩,⟨bf,λb hb=>by simp_all⟩,λb hb=>by simp_all,rfl,hu⟩⟩⟩
  |cons v r=>exact nomatch h
 |a::as,vs,s,s',x,h=>by
  cases vs with
  |nil=>exact nomatch h
  |cons v r=>
   obtain⟨p,t,h1,h2⟩:=AM.cV h;obtain⟨q,t2,h3,h4⟩:=AM.cV h2;obtain⟨rfl,rfl⟩:=cX h4;obtain⟨k1,s1⟩:=EF h1;obtain⟨k2,s2⟩:=s9 h3;refine⟨k1.trans k2,λB g w R=> ?_⟩;obtain⟨g1,l1,R1,c1⟩:=s1 B g w R;obtain⟨g2,l2,R2,c2⟩:=s2 B g1 w R1;refine⟨g2,l1.trans l2,R2,λus hu=> ?_⟩;obtain⟨u,OA,rfl,qf,AL⟩:=hu;obtain⟨n1,P1,O1,f1,z1,L1⟩:=c1 u qf;obtain⟨n2,P2,O2,f2,L2⟩:=c2 OA (AL.mono l1.le);refine⟨n1++n2,⟨u,OA,n1,n2,rfl,rfl,P1.mono l2.le.dj,P2⟩,gk.append l2 O1 O2 f2,λb hb=> ?_,v,r,u,OA,rfl,rfl,z1,L1.mono l2.le (λid gn cs hl=>⟨k2.2 id gn cs hl,by rw[l2.out]⟩) R1.vV,L2⟩
   rcases aL.1 hb with hb|hb
   ·simp_all
   ·exact λe=>f2 b hb (l1.kp b e).1
def X4 (sp:Sp)(x:sp.qQ.den)(cells:List Cell)(s:St)(rest:List Cell)(s':St):Prop:=
 s'.env=s.env/\rest=cells.drop sp.size/\∀B g w0 w,HRel B g s.hp w->∀us nb,o8 s.hp g w0 sp (cells.take sp.size) us->Df g.dj w0 w sp x us nb->gk g nb->(∀b∈nb,g.gA b=ay)->
  ∃g',Le g g'/\(∀x,x∉nb->g'.fL x=g.fL x/\g'.gA x=g.gA x)/\HRel B g' s'.hp w/\
   ∀i gn cs b o,look s.hp i=J (.j1 gn cs)->g.cv i gn= .pointer (J ⟨b,o,ay⟩)->b∉nb->look s'.hp i=J (.j1 gn cs)/\g'.outer i=g.outer i
theorem tA {dj fw:Rd}(h:∀b L,dj b=J L->fw b=J L){w0 w:World}:∀{s:Sp} {x:s.qQ.den} {us:List Value} {nb:List Nat},Df dj w0 w s x us nb->Df fw w0 w s x us nb
 | .un,_,_,_,k=>k
 | .pr _ _,_,_,_,⟨n1,n2,e,k1,k2⟩=>⟨n1,n2,e,tA h k1,tA h k2⟩
 | .fh _,_,_,_,k=>k
 | .own _ _,_,_,_,k=>k
 | .ptr _ _ _,x,_,_,k=>pn.mono h (s:= .ptr _ _ _) (x:=x) k
 | .lnd _ _,x,_,_,k=>pn.mono h (s:= .lnd _ _) (x:=x) (pl:=(0,0)) k
 | .uY,_,_,_,k=>k
 | .Bc _,_,_,_,k=>k
 | .err,_,_,_,k=>k
 | .np,_,_,_,k=>k
 | .slf _ _,_,_,_,k=>k
theorem zS {hp Ew:List (Nat×Obj)}{g g':Gh}{dj:Rd}{w0 w:World}(l:Le g g')(ht:∀id gn cs,look hp id=J (.j1 gn cs)->gn<g.top id):
  ∀{s:Sp} {x:s.qQ.den} {cs:List Cell} {us:List Value} {nb:List Nat},(∀i gn cs b o,look hp i=J (.j1 gn cs)->g.cv i gn= .pointer (J ⟨b,o,ay⟩)->b∈nb->look Ew i=J (.j1 gn cs)/\g'.outer i=g.outer i)->
   Df dj w0 w s x us nb->o8 hp g w0 s cs us->o8 Ew g' w0 s cs us
 | .un,_,_,_,_,_,_,_=>trivial
 | .fh _,_,_,_,_,_,_,_=>trivial
 | .own _ _,_,_,_,_,_,_,_=>trivial
 | .err,_,_,_,_,_,_,_=>trivial
 | .np,_,_,_,_,_,_,_=>trivial
 | .slf _ _,_,_,_,_,_,_,_=>trivial
 | .pr _ _,_,_,_,_,ho,⟨n1,n2,e',k1,k2⟩,⟨h1,h2⟩=>by
  subst e';exact⟨zS l ht (λi gn cs b o a1 a2 a3=>ho i gn cs b o a1 a2 (aV _ a3)) k1 h1,zS l ht (λi gn cs b o a1 a2 a3=>ho i gn cs b o a1 a2 (aY _ a3)) k2 h2⟩
 | .uY,_,_,_,_,_,_,_=>trivial
 | .Bc _,_,_,_,_,_,_,_=>trivial
 | .ptr _ _ _,x,_,_,_,ho,k,h=>o8.JV (s:= .ptr _ _ _) (x:=x) l ht ho k h
 | .lnd _ _,x,_,_,_,ho,k,h=>o8.JV (s:= .lnd _ _) (x:=x) (pl:=(0,0)) l ht ho k h
theorem Mc:∀(sp:Sp) (x:sp.qQ.den) (cells:List Cell) (s:St) (rest:List Cell) (s':St),(Rj sp x cells).run s=J (rest,s')->X4 sp x cells s rest s':=by
 intro sp
 have one:∀(sp:Sp) (x:sp.qQ.den) (c:Cell) (cs:List Cell) (s:St) (rest:List Cell) (s':St),sp.size=1->(∀dj w0 w us nb,Df dj w0 w sp x us nb->nb=[])->(AM.ret cs).run s=J (rest,s')->X4 sp x (c::cs) s rest s':=by
  intro sp x c cs s rest s' hs ho h;obtain⟨rfl,rfl⟩:=cX h;refine⟨rfl,by simp_all,λB g w0 w R us nb hL hO hp hn=> ?_⟩;exact⟨g,Le.refl g,λ_ _=>⟨rfl,rfl⟩,R,λi gn cs b o h _ _=>⟨h,rfl⟩⟩
 induction sp with
 |un=>
  intro x cells s rest s' h;obtain⟨rfl,rfl⟩:=cX h;refine⟨rfl,rfl,λB g w0 w R us nb hL hO hp hn=> ?_⟩;exact⟨g,Le.refl g,λ_ _=>⟨rfl,rfl⟩,R,λi gn cs b o h _ _=>⟨h,rfl⟩⟩
 |fh τ=>intro x cells s rest s' h;cases cells with|nil=>exact nomatch h|cons c cs=>exact one _ x c cs s rest s' rfl (λ_ _ _ _ _ h=>h) h
 |own τ dp=>intro x cells s rest s' h;cases cells with|nil=>exact nomatch h|cons c cs=>exact one _ x c cs s rest s' rfl (λ_ _ _ _ _ h=>h) h
 |err=>intro x cells s rest s' h;cases cells with|nil=>exact nomatch h|cons c cs=>exact one _ x c cs s rest s' rfl (λ_ _ _ _ _ h=>h) h
 |np=>intro x cells s rest s' h;cases cells with|nil=>exact nomatch h|cons c cs=>exact one _ x c cs s rest s' rfl (λ_ _ _ _ _ h=>h) h
 |slf f m=>intro x cells s rest s' h;cases cells with|nil=>exact nomatch h|cons c cs=>exact one _ x c cs s rest s' rfl (λ_ _ _ _ _ h=>h) h
 |pr a b Dt Dr=>
  intro x cells s rest s' h;obtain⟨r,t,h1,h2⟩:=AM.cV h;obtain⟨ea,ra,sa⟩:=Dt _ _ _ _ _ h1;obtain⟨eb,rb,sb⟩:=Dr _ _ _ _ _ h2;refine⟨eb.trans ea,by rw[rb,ra,b8],λB g w0 w R us nb hL hO hp hn=> ?_⟩;obtain⟨n1,n2,rfl,B1,B2⟩:=hO;obtain⟨L1,L2⟩:=hL;have o9:=bC.1 hp.1
  have hd:∀y∈n2,y∉n1:=λy h2 h1=>o9.2.2 y h1 y h2 rfl
  have e1:((cells.take (a.size+b.size)).take a.size)=cells.take a.size:=by rw[b9];congr 1;omega
  have e2:((cells.take (a.size+b.size)).drop a.size)=r.take b.size:=by rw[ra,cr];congr 1;omega
  have aK4:o8 s.hp g w0 a (cells.take a.size) (us.take a.size):=by rw[<-e1];exact L1
  have aA8:o8 s.hp g w0 b (r.take b.size) (us.drop a.size):=by rw[<-e2];exact L2
  obtain⟨g1,l1,k1,R1,t1⟩:=sa B g w0 w R _ _ aK4 B1 ⟨o9.1,λy hy=>hp.2 y (aV _ hy)⟩ (λy hy=>hn y (aV _ hy));have L3:o8 t.hp g1 w0 b (r.take b.size) (us.drop a.size):=zS l1 R.vV (λi gn cs b' o a1 a2 a3=>t1 i gn cs b' o a1 a2 (hd b' a3)) B2 aA8
  obtain⟨g2,l2,k2,R2,aE3⟩:=sb B g1 w0 w R1 _ _ L3 (tA l1.dj B2) ⟨o9.2.1,λy hy=>by rw[(k1 y (hd y hy)).1];exact hp.2 y (aY _ hy)⟩
   (λy hy=>by rw[(k1 y (hd y hy)).2];exact hn y (aY _ hy))
  refine⟨g2,l1.trans l2,λy hy=> ?_,R2,λi gn cs b' o hi nE hb=> ?_⟩
  ·rw[aL,not_or]at hy;obtain⟨a1,a2⟩:=k1 y hy.1;obtain⟨b1,b2⟩:=k2 y hy.2;exact⟨b1.trans a1,b2.trans a2⟩
  ·rw[aL,not_or]at hb;obtain⟨a1,a2⟩:=t1 i gn cs b' o hi nE hb.1;obtain⟨b1,b2⟩:=aE3 i gn cs b' o a1 ((l1.cv _ _ (R.vV _ _ _ hi)).trans nE) hb.2;exact⟨b1,b2.trans a2⟩
 |Bc ok=>
  intro x cells s rest s' h
  cases cells with
  |nil=>exact nomatch h
  |cons c cs=>exact one (.Bc ok) x c cs s rest s' rfl (λ_ _ _ _ _ k=>k) h
 |uY=>
  intro x cells s rest s' h
  cases cells with
  |nil=>exact nomatch h
  |cons c cs=>
   cases cs with
   |nil=>exact nomatch h
   |cons c2 cs=>
    obtain⟨rfl,rfl⟩:=cX h;refine⟨rfl,rfl,λB g w0 w R us nb hL hO hp hn=> ?_⟩;exact⟨g,Le.refl g,λ_ _=>⟨rfl,rfl⟩,R,λi gn cs b o h _ _=>⟨h,rfl⟩⟩
 |ptr wh st sp _=>
  intro x cells s rest s' h
  cases cells with
  |nil=>exact nomatch h
  |cons c cs=>
   obtain⟨⟨p1,p2,p3⟩,t,h1,h2⟩:=AM.cV h;obtain⟨rfl,rfl⟩:=cX h2;obtain⟨e1,_,s1⟩:=vz (.ptr wh st sp) x _ _ _ _ _ _ _ _ h1;refine⟨e1,rfl,λB g w0 w R us nb hL hO hp hn=> ?_⟩;obtain⟨g',l,k,R',_,t'⟩:=s1 B g w0 w R (0,0) us us nb (j9.none _ _) hL hO hp hn;exact⟨g',l,k,R',t'⟩
 |lnd τ dp=>
  intro x cells s rest s' h
  cases cells with
  |nil=>exact nomatch h
  |cons c cs=>
   obtain⟨⟨p1,p2,p3⟩,t,h1,h2⟩:=AM.cV h;obtain⟨rfl,rfl⟩:=cX h2;obtain⟨e1,_,s1⟩:=vz (.lnd τ dp) x _ _ _ _ _ _ _ _ h1;refine⟨e1,rfl,λB g w0 w R us nb hL hO hp hn=> ?_⟩;obtain⟨g',l,k,R',_,t'⟩:=s1 B g w0 w R (0,0) us us nb (j9.none _ _) hL hO hp hn;exact⟨g',l,k,R',t'⟩
end Go.Abs
end

section
namespace Go.Abs
theorem A5 {hp Ew:List (Nat×Obj)}{g g':Gh}{dj:Rd}{w0 w:World}(l:Le g g')(ht:∀id gn cs,look hp id=J (.j1 gn cs)->gn<g.top id):
  ∀{as:List VSp} {x:(rk as).den} {vs:List Val} {us:List Value} {nb:List Nat},(∀i gn cs b o,look hp i=J (.j1 gn cs)->g.cv i gn= .pointer (J ⟨b,o,ay⟩)->b∈nb->look Ew i=J (.j1 gn cs)/\g'.outer i=g.outer i)->
   l6 dj w0 w as x us nb->pB hp g w0 as vs us->pB Ew g' w0 as vs us
 |[],_,_,_,_,_,_,h=>h
 |_::_,x,_,_,_,ho,⟨u,r,n1,n2,e,e',k1,k2⟩,⟨v,q,u',r',e1,e2,hl,h1,h2⟩=>by
  subst e';rw[e]at e2
  injection e2 with e2 e3
  subst e2;subst e3;exact⟨v,q,u,r,e1,e,hl,zS l ht (λi gn cs b o a1 a2 a3=>ho i gn cs b o a1 a2 (aV _ a3)) k1 h1,A5 l ht (λi gn cs b o a1 a2 a3=>ho i gn cs b o a1 a2 (aY _ a3)) k2 h2⟩
theorem AW {dj fw:Rd}(h:∀b L,dj b=J L->fw b=J L){w0 w:World}:∀{as:List VSp} {x:(rk as).den} {us:List Value} {nb:List Nat},l6 dj w0 w as x us nb->l6 fw w0 w as x us nb
 |[],_,_,_,k=>k
 |_::_,_,_,_,⟨u,r,n1,n2,e,e',k1,k2⟩=>⟨u,r,n1,n2,e,e',tA h k1,AW h k2⟩
theorem A3:∀{as:List VSp} {x:(rk as).den} {vs:List Val} {s s':St},(FZ as x vs).run s=J ((),s')->s'.env=s.env/\∀B g w0 w,HRel B g s.hp w->∀us nb,pB s.hp g w0 as vs us->l6 g.dj w0 w as x us nb->gk g nb->(∀b∈nb,g.gA b=ay)->
  ∃g',Le g g'/\(∀x,x∉nb->g'.fL x=g.fL x/\g'.gA x=g.gA x)/\HRel B g' s'.hp w
 |[],x,vs,s,s',h=>by
  cases vs with
  |nil=>
   obtain⟨_,rfl⟩:=cX h;exact⟨rfl,λB g w0 w R us nb _ _ _ _=>⟨g,Le.refl g,λ_ _=>⟨rfl,rfl⟩,R⟩⟩
  |cons v r=>exact nomatch h
 |a::as,x,vs,s,s',h=>by
  cases vs with
  |nil=>exact nomatch h
  |cons v r=>
   obtain⟨rest,t,h1,h2⟩:=AM.cV h;obtain⟨e1,_,s1⟩:=Mc _ _ _ _ _ _ h1;obtain⟨e2,s2⟩:=A3 h2;refine⟨e2.trans e1,λB g w0 w R us nb hL hO hp hn=> ?_⟩;obtain⟨v',r',u,q,ev,eu,hl,L1,L2⟩:=hL
   injection ev with ev1 aX7
   subst aX7;obtain⟨u',q',n1,n2,aM9,rfl,O1,O2⟩:=hO;rw[eu]at aM9
   injection aM9 with ak5 aU3
   subst aU3;have o9:=bC.1 hp.1
   have hd:∀y∈n2,y∉n1:=λy h2 h1=>o9.2.2 y h1 y h2 rfl
   have ht:v.cells.take a.sp.size=v.cells:=by grind
   obtain⟨g1,l1,k1,R1,t1⟩:=s1 B g w0 w R _ n1 (by simp_all) O1 ⟨o9.1,λy hy=>hp.2 y (aV _ hy)⟩ (λy hy=>hn y (aV _ hy));have L3:=A5 l1 R.vV (λi gn cs b' o a1 a2 a3=>t1 i gn cs b' o a1 a2 (hd b' a3)) O2 L2
   obtain⟨g2,l2,k2,R2⟩:=s2 B g1 w0 w R1 _ n2 L3 (AW l1.dj O2) ⟨o9.2.1,λy hy=>by rw[(k1 y (hd y hy)).1];exact hp.2 y (aY _ hy)⟩
    (λy hy=>by simp_all)
   refine⟨g2,l1.trans l2,λy hy=> ?_,R2⟩;simp_all
theorem zT {dj:Rd}{hp:List (Nat×Obj)}{g:Gh}{w0 w1 w:World}:∀{s:Sp} {x:s.ty.den} {pl:Nat×Nat} {new:List Value} {nb:List Nat},pn dj w0 w s x pl [] new nb->o8 hp g w1 s [] []
 | .un,_,_,_,_,_=>trivial
 | .fh _,_,_,_,_,_=>trivial
 | .own _ _,_,_,_,_,_=>trivial
 | .uY,_,_,_,_,_=>trivial
 | .Bc _,_,_,_,_,_=>trivial
 | .err,_,_,_,_,_=>trivial
 | .np,_,_,_,_,_=>trivial
 | .slf _ _,_,_,_,_,_=>trivial
 | .lnd _ _,_,_,_,_,k=>by
  obtain⟨rfl,k⟩:=k;have:=k.length;simp_all
 | .pr _ _,_,_,_,_,⟨u1,u2,n1,n2,e,e',k1,k2⟩=>by
  rw[List.take_nil]at k1;rw[List.drop_nil]at k2;refine⟨?_, ?_⟩
  ·rw[List.take_nil,List.take_nil];exact zT k1
  ·rw[List.drop_nil,List.drop_nil];exact zT k2
 | .ptr _ _ _,_,_,_,_,⟨b,o,kV,E7,arr,L,ku,e,_⟩=>by cases e
theorem CL {a:VSp}{x:a.sp.ty.den}{n n':Nat}{v:Val}{s s':St}(h:(PA a x n).run s=J ((v,n'),s')):s'.env=s.env/\∀B g w,HRel B g s.hp w->∀u nb,zx g.dj w a x u nb->gk g nb->(∀b∈nb,g.gA b=ay)->
  ∃g',Le g g'/\(∀x,x∉nb->g'.fL x=g.fL x/\g'.gA x=g.gA x)/\HRel B g' s'.hp w/\gx g' v u:=by
 cases a with
 |one sp=>
  obtain⟨⟨p1,p2,p3⟩,t,h1,h2⟩:=AM.cV h;simp at h2;split at h2
  ·obtain⟨h3,rfl⟩:=cX h2
   injection h3 with h3 h4
   subst h3;obtain⟨e1,_,s1⟩:=vz sp x _ _ _ _ _ _ _ _ h1;refine⟨e1,λB g w R u nb hR hp hn=> ?_⟩;obtain⟨g',l,k,R',hc,_⟩:=s1 B g w w R (0,0) [] [u] nb (j9.none _ _) (by rw[List.take_nil];exact zT hR.2) hR.2 hp hn;obtain⟨u',r,e,hu,hr⟩:=hc
   injection e with e _
   subst e;exact⟨g',l,k,R',hu⟩
  ·cases h2
 |agg sp=>
  obtain⟨⟨p1,p2,p3⟩,t,h1,h2⟩:=AM.cV h;obtain⟨h3,rfl⟩:=cX h2
  injection h3 with h3 h4
  subst h3;obtain⟨e1,_,s1⟩:=vz sp x _ _ _ _ _ _ _ _ h1;refine⟨e1,λB g w R u nb hR hp hn=> ?_⟩;obtain⟨us,rfl,hB⟩:=hR;obtain⟨g',l,k,R',hc,_⟩:=s1 B g w w R (0,0) [] us nb (j9.none _ _) (by grind [zT]) hB hp hn;exact⟨g',l,k,R',us,rfl,hc⟩
theorem EK {dj fw:Rd}(h:∀b L,dj b=J L->fw b=J L){w:World}{a:VSp}{x:a.sp.ty.den}{u:Value}{nb:List Nat}(k:zx dj w a x u nb):zx fw w a x u nb:=by
 cases a with
 |one s=>exact⟨k.1,pn.mono h k.2⟩
 |agg s=>obtain⟨us,e,k⟩:=k;exact⟨us,e,pn.mono h k⟩
theorem xj {dj fw:Rd}(h:∀b L,dj b=J L->fw b=J L){w:World}:∀{as:List VSp} {x:(eI as).den} {us:List Value} {nb:List Nat},tn dj w as x us nb->tn fw w as x us nb
 |[],_,_,_,k=>k
 |_::_,_,_,_,⟨u,r,n1,n2,e,e',k1,k2⟩=>⟨u,r,n1,n2,e,e',EK h k1,xj h k2⟩
theorem AP:∀{as:List VSp} {x:(eI as).den} {n:Nat} {vs:List Val} {s s':St},(KN as x n).run s=J (vs,s')->s'.env=s.env/\∀B g w,HRel B g s.hp w->∀us nb,tn g.dj w as x us nb->gk g nb->(∀b∈nb,g.gA b=ay)->
  ∃g',Le g g'/\HRel B g' s'.hp w/\gW g' vs us
 |[],x,n,vs,s,s',h=>by
  obtain⟨rfl,rfl⟩:=cX h;exact⟨rfl,λB g w R us nb hR _ _=>⟨g,Le.refl g,R,hR.1⟩⟩
 |a::as,x,n,vs,s,s',h=>by
  obtain⟨⟨p1,p2⟩,t,h1,h2⟩:=AM.cV h;obtain⟨q,t2,h3,h4⟩:=AM.cV h2;obtain⟨rfl,rfl⟩:=cX h4;obtain⟨e1,s1⟩:=CL h1;obtain⟨e2,s2⟩:=AP h3;refine⟨e2.trans e1,λB g w R us nb hR hp hn=> ?_⟩;obtain⟨u,r,n1,n2,rfl,rfl,k1,k2⟩:=hR;have o9:=bC.1 hp.1
  have hd:∀y∈n2,y∉n1:=λy h2 h1=>o9.2.2 y h1 y h2 rfl
  obtain⟨g1,l1,t1,R1,c1⟩:=s1 B g w R u n1 k1 ⟨o9.1,λy hy=>hp.2 y (aV _ hy)⟩ (λy hy=>hn y (aV _ hy))
  obtain⟨g2,l2,R2,c2⟩:=s2 B g1 w R1 r n2 (xj l1.dj k2) ⟨o9.2.1,λy hy=>by rw[(t1 y (hd y hy)).1];exact hp.2 y (aY _ hy)⟩
   (λy hy=>by simp_all)
  exact⟨g2,l1.trans l2,R2,u,r,rfl,c1.mono l2,c2⟩
theorem GP {dj fw:Rd}(h:∀b L,dj b=J L->fw b=J L){w:World}{r:RSp}{x:r.ty.den}{v:Value}{nb:List Nat}(k:xW dj w r x v nb):xW fw w r x v nb:=by
 cases r with
 |val a=>exact EK h k
 |yc as=>obtain⟨us,e,k⟩:=k;exact⟨us,e,xj h k⟩
 |none=>exact k
theorem I4 {r:RSp}{x:r.ty.den}{n:Nat}{sl:Slot}{s s':St}(h:(KO r x n).run s=J (sl,s')):s'.env=s.env/\∀B g w,HRel B g s.hp w->∀v nb,xW g.dj w r x v nb->gk g nb->(∀b∈nb,g.gA b=ay)->
  ∃g',Le g g'/\HRel B g' s'.hp w/\fG g' sl v:=by
 cases r with
 |val a=>
  obtain⟨⟨p1,p2⟩,t,h1,h2⟩:=AM.cV h;obtain⟨rfl,rfl⟩:=cX h2;obtain⟨e1,s1⟩:=CL h1;refine⟨e1,λB g w R v nb hR hp hn=> ?_⟩;obtain⟨g',l,_,R',hv⟩:=s1 B g w R v nb hR hp hn;exact⟨g',l,R',hv⟩
 |yc as=>
  obtain⟨p,t,h1,h2⟩:=AM.cV h;obtain⟨rfl,rfl⟩:=cX h2;obtain⟨e1,s1⟩:=AP h1;refine⟨e1,λB g w R v nb hR hp hn=> ?_⟩;obtain⟨us,rfl,hR⟩:=hR;obtain⟨g',l,R',hv⟩:=s1 B g w R us nb hR hp hn;exact⟨g',l,R',us,rfl,hv⟩
 |none=>
  obtain⟨rfl,rfl⟩:=cX h;exact⟨rfl,λB g w R v nb hR hp hn=>⟨g,Le.refl g,R,[],by rw[hR.1],rfl⟩⟩
theorem jR.mono {P:Program}{f:FuncId}{args:Array Value}{w:World}{R R':Value->World->Prop}(h:∀v w',R v w'->R' v w')(k:jR P f args w R):jR P f args w R':=by
 grind [jR,Calls.mono]
theorem VS {α:Type}(c:Ty)(x:Option c.den)(k:c.den->AM α)(s:St):(AM.opt c x k).run s=x.bind λd=>(k d).run s:=by cases x<;>rfl
theorem EN {P:Program}{fH:Nat->Option (List Cell)}{f:FuncId}{c:Callee}{dd:Nat}{vs:List Val}{s s':St}{sl:Slot}{chk:AM Unit}(al2:∀t t',chk.run t=J ((),t')->t'=t)(hc:xB P fH f c)(h:(X5 chk c dd vs).run s=J (sl,s')):
  s'.env=s.env/\∃t1:St,t1.env=s.env/\chk.run t1=J ((),t1)/\∀B g w,jG fH g.dj->HRel B g s.hp w->∀us,gW g vs us->(∀g1 nb,Le g g1->HRel B g1 t1.hp w->gk g1 nb->E3 c.sig.args g1.dj w nb us)->jR P f us.toArray w λv w'=>∃g',Le g g'/\HRel B g' s'.hp w'/\fG g' sl v:=by
 obtain⟨x,t1,h1,h2⟩:=AM.cV h;obtain⟨⟨⟩,t1',aO0,h2a⟩:=AM.cV h2;obtain rfl:=al2 _ _ aO0;have h2:=(VS _ _ _ _).symm.trans h2a
 cases hF:c.F x with
 |none=>simp_all
 |some y=>
  rw[hF]at h2;obtain⟨⟨⟩,t2,h3,h4⟩:=AM.cV h2;obtain⟨k1,s1⟩:=s9 h1;obtain⟨e2,s2⟩:=A3 h3;obtain⟨e3,s3⟩:=I4 h4;refine⟨(e3.trans e2).trans k1.1,_,k1.1,aO0,λB g w hG R us hu hS=> ?_⟩;obtain⟨g1,l1,R1,c1⟩:=s1 B g w R;obtain⟨nb,hP,hO,hf,hL⟩:=c1 us hu
  have kG:∀b L,g1.dj b=J L->∃arr ty fr,w.heap[b]?=J (.cells arr ty fr)/\arr.toList=L:=λb L hb=>(R1.dj b L hb).2.2
  have Be:∀b∈nb,g1.dj b=ay/\b<w.heap.size:=λb hb=>by
   have hl:=hO.2 b hb;refine⟨?_,R1.gD b (by rw[hl];simp)⟩
   cases hi:g1.dj b with
   |none=>rfl
   |some L=>have:=(R1.dj b L hi).1;rw[hl]at this;cases this
  refine jR.mono ?_ (hc x y hF g1.dj w us nb (hG.mono l1.le.dj) kG hP hO.1 Be (hS g1 nb l1.le R1 hO));rintro v w' ⟨fw,n1,n2,A,hR,hOut⟩;obtain⟨l2,R2,P7,YB⟩:=R1.after hO A;have an2:pB t1'.hp (g1.after nb fw (n1++n2)) w c.sig.args vs us:=hL.mono l2 (λid gn cs hl=>⟨hl,rfl⟩) R1.vV;have o9:=bC.1 P7.1
  have hd:∀y∈n1,y∉n2:=λy h1 h2=>o9.2.2 y h1 y h2 rfl
  obtain⟨g3,l3,k3,R3⟩:=s2 B _ w w' R2 us n2 an2 hOut ⟨o9.2.1,λy hy=>P7.2 y (aY _ hy)⟩ (λy hy=>YB y (aY _ hy));have aZ4:xW g3.dj w' c.sig.res y.1 v n1:=GP l3.dj hR;obtain⟨g4,l4,R4,hs⟩:=s3 B g3 w' R3 v n1 aZ4 ⟨o9.1,λy hy=>by rw[(k3 y (hd y hy)).1];exact P7.2 y (aV _ hy)⟩ (λy hy=>by rw[(k3 y (hd y hy)).2];exact YB y (aV _ hy));exact⟨g4,((l1.le.trans l2).trans l3).trans l4,R4,hs⟩
theorem OM {P:Program}{fH:Nat->Option (List Cell)}{f:FuncId}{c:Callee}{dd:Nat}{vs:List Val}{s s':St}{sl:Slot}(hc:oF P fH f c)(hn:x8 c.sig.args=ay)(h:(call c dd vs).run s=J (sl,s')):
  s'.env=s.env/\∀B g w,jG fH g.dj->HRel B g s.hp w->∀us,gW g vs us->jR P f us.toArray w λv w'=>∃g',Le g g'/\HRel B g' s'.hp w'/\fG g' sl v:=by
 obtain⟨e,t1,_,_,hs⟩:=EN (chk:= .ret ()) (λt t' k=>(cX k).2) hc.slf h;simp_all[E3.none]
end Go.Abs
end

section
namespace Go.Abs
theorem rm.snoc {r:Rd}{τ:Ty}{p:Int×τ.den}{e:MapEntry}(hk:e.key= .int .i64 p.1)(hv:Rc r τ p.2 [e.val]):∀{xs:List (Int×τ.den)} {es:List MapEntry},rm r τ xs es->rm r τ (xs++[p]) (es++[e])
 |[],es,h=>by
  subst h;exact⟨e,[],rfl,hk,hv,rfl⟩
 |_::_,_,⟨e',r',h1,h2,h3,h4⟩=>⟨e',r'++[e],by simp_all,h2,h3,rm.snoc hk hv h4⟩
theorem CK {r:Rd}{τ:Ty}{K:IntKind}{n:Int}:∀{xs:List (Int×τ.den)} {es:List MapEntry} (i:Nat),rm r τ xs es->(xs.any λp=>I (p.1=n))=ar->a23 (.int K) (.int .i64 n) es i=J ay
 |[],es,i,h,_=>by
  subst h;rfl
 |p::xs,es,i,⟨e,r',h1,h2,h3,h4⟩,hn=>by
  subst h1;simp only[List.any_cons,Bool.or_eq_false_iff,af]at hn
  have hb:(n==p.1)=false:=by simpa using λe:n=p.1=>hn.1 e.symm
  have ih:=CK (K:=K) (i+1) h4 hn.2;simp[a23,Instr.sameNow,h2,hb,ih]
theorem EG {r:Rd}{τ:Ty}{K:IntKind}{n:Int}(z:τ.den):∀{xs:List (Int×τ.den)} {es:List MapEntry} (i:Nat),rm r τ xs es->
  (a23 (.int K) (.int .i64 n) es i=J ay/\U1 z xs n=z)\/∃j v,a23 (.int K) (.int .i64 n) es i=J (J (j,v))/\Rc r τ (U1 z xs n) [v]
 |[],es,i,h=>by
  subst h;exact .inl ⟨rfl,rfl⟩
 |p::xs,es,i,⟨e,r',h1,h2,h3,h4⟩=>by
  subst h1;unfold U1
  by_cases hb:n=p.1
  ·rw[ab hb];have Om:(n==p.1)=true:=(by simpa using hb);exact .inr ⟨i,e.val,by simp[a23,Instr.sameNow,h2,Om],h3⟩
  ·rw[aa hb];have Om:(n==p.1)=false:=(by simpa using hb)
   rcases EG (K:=K) z (i+1) h4 with⟨k1,k2⟩|⟨j,v,k1,k2⟩
   ·exact .inl ⟨by simp[a23,Instr.sameNow,h2,Om,k1],k2⟩
   ·exact .inr ⟨j,v,by simp[a23,Instr.sameNow,h2,Om,k1],k2⟩
theorem Ea {E:Env}{t e:TypeId}(h:mapKey E t=J e):∃k,E.P.underlying t=J (.map k e)/\E.P.underlying k=J (.int .i64):=by
 grind [mapKey]
theorem HRel.Y2 {B:Base}{g:Gh}{hp:List (Nat×Obj)}{w:World}(R:HRel B g hp w){id:Nat}{τ:Ty}(h1:τ.one=av):
  ∃g',Le g g'/\HRel B g' ((id, .mp (g.top id) τ [])::hp) (World.more w (.map #[] 0))/\fG g' (.val (.one (.own id (g.top id)))) (.map (J w.heap.size)):=by
 have hle:=R.FY (id:=id) (b:=w.heap.size) (u:= .map (J w.heap.size)) (nb:=[]) (out:=[]) rfl;refine⟨_,hle,R.install rfl R.sw (xq w _) (λx hx=>by simp_all) rfl ?_, ?_⟩
 ·exact⟨h1,w.heap.size,#[],0,by simp[Gh.inst],by simp[Gh.inst],R.sw.gA,C3 w _,rfl⟩
 ·exact⟨by simp[Gh.inst],by simp[Gh.inst],rfl⟩
theorem CM {d:Nat}{τ:Ty}{s s':St}{sl:Slot}(h:(bif τ.one then(jv d).bind λg=>AM.mm d (.mp g τ []) (.ret (Slot.val (.one (.own d g))))else .fail).run s=J (sl,s')):
  s'.env=s.env/\∀{B:Base} {g:Gh} {w:World},HRel B g s.hp w->∃g',Le g g'/\HRel B g' s'.hp (World.more w (.map #[] 0))/\fG g' sl (.map (J w.heap.size)):=by
 obtain⟨h1,h⟩:=dQ h;obtain⟨gen,t,h2,h3⟩:=AM.cV h;have pH:t=s:=(qa h2).1;subst pH;obtain⟨rfl,rfl⟩:=h3;refine⟨rfl,λ{B g w} R=> ?_⟩;obtain⟨rfl,_⟩:=lT R h2;exact R.Y2 h1
theorem IN {E:Env}{t:TypeId}{r:Option Operand}{s s':St}{sl:Slot}{d:Nat}(h:(gB E d (.makeMap t r)).run s=J (sl,s')):Yld E (.makeMap t r) s sl s':=by
 cases r with
 |none=>
  obtain⟨e,t1,h1,h2⟩:=AM.cV h;obtain⟨hm,rfl⟩:=eO h1;obtain⟨τ,t2,h3,h4⟩:=AM.cV h2;obtain rfl:=zr h3;obtain⟨he,hb⟩:=CM h4;refine⟨he,λo ho B g a w R V=> ?_⟩;obtain⟨g',l,R',hs⟩:=hb R;refine⟨_,_,g', ?_,l,R',hs⟩;unfold execOp;rw[ho];rfl
 |some x=>
  obtain⟨v,t0,k1,k2⟩:=AM.cV h;obtain⟨e0,r1⟩:=eZ k1;obtain⟨n,t1,k3,k4⟩:=AM.cV k2;obtain⟨⟨k,e2⟩,e1⟩:=mM k3;obtain⟨e,t2,k5,k6⟩:=AM.cV k4;obtain⟨hm,e3⟩:=eO k5;obtain⟨τ,t3,k7,k8⟩:=AM.cV k6;have e4:=zr k7;subst e4;subst e3;subst e1;subst e0;subst e2;obtain⟨he,hb⟩:=CM k8;refine⟨he,λo ho B g a w R V=> ?_⟩;obtain⟨g',l,R',hs⟩:=hb R;have hx:a.eval x= .int k n:=jt (r1 V);obtain⟨kt,hu,_⟩:=Ea hm;refine⟨_,_,g', ?_,l,R',hs⟩;unfold execOp;rw[ho]
  apply fT
  simp[Instr.makeMap,hx,run_underlying hu,Go.asInt,asIntOf,World.more,newObj,Sem.run,a74]
theorem IW {w:World}{b:Nat}{o o':Go.Obj}(h:w.heap[b]?=J o):Turned w {w with heap:=w.heap.setIfInBounds b o'} b:=
 ⟨λx hx=>(MapKept.heap_set h).2 x hx,by simp,by
  grind,rfl,rfl,rfl⟩
theorem KF {E:Env}{t:TypeId}{m k x:Operand}{s s':St}{sl:Slot}{d:Nat}(h:(gB E d (.insert t m k x)).run s=J (sl,s')):
  s'.env=s.env/\sl= .un/\∀(o:Oper),o.op= .insert t m k x->∀B g a w,HRel B g s.hp w->iM g s.env a->
  ∃w' g',(execOp a.eval o).run E.P w= .ok .skip w'/\Le g g'/\HRel B g' s'.hp w':=by
 obtain⟨vm,t1,a1,a2⟩:=AM.cV h;obtain⟨e1,r1⟩:=eZ a1;obtain⟨cm,t2,a3,a4⟩:=AM.cV a2;obtain⟨e2,e3⟩:=wM a3;obtain⟨vk,t3,a5,a6⟩:=AM.cV a4;obtain⟨e4,r2⟩:=eZ a5;obtain⟨vx,t4,a7,a8⟩:=AM.cV a6;obtain⟨e5,r3⟩:=eZ a7;subst e5;subst e4;subst e3;subst e1;subst e2;have h:=a8;split at h
 ·rename_i n τ y;unfold Up at h;split at h
  ·rename_i id gen;obtain⟨e,t5,b1,b2⟩:=AM.cV h;obtain⟨hm,e6⟩:=eO b1;subst e6;have h:=b2;simp only[AM.run]at h;split at h
   ·rename_i g0 τ' xs heq;obtain⟨hb,k0⟩:=dQ h;simp only[aA]at hb;have FN:=beq_eq hb.1;subst FN
    by_cases hτ:τ=τ'
    ·subst hτ;simp at k0;obtain⟨rfl,rfl⟩:=k0;refine⟨rfl,rfl,λo ho B g a w R V=> ?_⟩;obtain⟨h1,b,es,Xr,k1,k2,k3,k4,k5⟩:=R.gE _ _ heq
     have au7:a.eval m= .map (J b):=by
      obtain⟨_,e1,_⟩:dR g (.own id g0) (a.eval m):=r1 V;simp_all
     have av0:a.eval k= .int .i64 n:=jt (r2 V);obtain⟨_,hx⟩:dR g (.v τ y) (a.eval x):=r3 V;obtain⟨kt,hu,ao3⟩:=Ea hm;have ar3:a23 (.int .i64) (.int .i64 n) es.toList 0=J none:=CK 0 k5 (by grind);refine⟨_,g.take id [], ?_,Le.take g id [],R.write heq rfl k2 k3 (IW (o':= .map (es.push {key:= .int .i64 n,val:=a.eval x,born:=Xr}) (Xr+1)) k4) (λx hx=>by simp_all) ?_⟩
     ·unfold execOp;rw[ho];simp only[au7,av0,Instr.mapUpdate,bH,run_underlying hu,bh,MapKept.run_getObj_map k4];rw[show(10000:Nat)=9999+1 from rfl,MapKept.run_checkKey ao3 (show MapKept.IsKey (.int .i64) (.int .i64 n)from rfl)];simp only[bh,MapKept.run_findKey ao3 ar3,MapKept.run_setObj_map _ k4];rfl
     ·refine⟨h1,b,es.push {key:= .int .i64 n,val:=a.eval x,born:=Xr},Xr+1,k1, ?_,k3,(MapKept.heap_set k4).1, ?_⟩
      ·simpa[Gh.take]using k2
      ·rw[Array.toList_push];exact rm.snoc rfl hx k5
    ·rw[dif_neg hτ]at k0;cases k0
   ·cases h
  ·cases h
 ·cases h
theorem Kz {E:Env}{t:TypeId}{m k:Operand}{s s':St}{sl:Slot}{d:Nat}(h:(gB E d (.lookup t m k ar)).run s=J (sl,s')):Yld E (.lookup t m k ar) s sl s':=by
 obtain⟨vm,t1,a1,a2⟩:=AM.cV h;obtain⟨e1,r1⟩:=eZ a1;obtain⟨cm,t2,a3,a4⟩:=AM.cV a2;obtain⟨e2,e3⟩:=wM a3;obtain⟨vk,t3,a5,a6⟩:=AM.cV a4;obtain⟨e4,r2⟩:=eZ a5;subst e4;subst e3;subst e1;subst e2;have h:=a6;split at h
 ·rename_i n;unfold UF at h;split at h
  ·rename_i id gen;obtain⟨e,t5,b1,b2⟩:=AM.cV h;obtain⟨hm,e6⟩:=eO b1;subst e6;have h:=b2;split at h
   ·rename_i τ0 z hz;simp only[AM.run]at h;split at h
    ·rename_i g0 τ' xs heq;obtain⟨hb,k0⟩:=dQ h;have FN:=beq_eq hb;subst FN
     by_cases hτ:τ0=τ'
     ·subst hτ;rw[dif_pos rfl]at k0;obtain⟨rfl,rfl⟩:=cX k0
      refine Yld.still λo ho B g a w R V=> ?_
      obtain⟨h1,b,es,Xr,k1,k2,k3,k4,k5⟩:=R.gE _ _ heq
      have au7:a.eval m= .map (J b):=by
       obtain⟨_,e1,_⟩:dR g (.own id g0) (a.eval m):=r1 V;simp_all
      have av0:a.eval k= .int .i64 n:=jt (r2 V);obtain⟨kt,hu,ao3⟩:=Ea hm;unfold QW at hz;simp only[bB]at hz;obtain⟨zv,⟨i,hi,aD2⟩,hz⟩:=hz;obtain⟨_,ab0⟩:dR g (.v τ0 z) zv:=CJ hz g
      rcases EG (K:= .i64) (n:=n) z 0 k5 with⟨f1,f2⟩|⟨j,v,f1,f2⟩
      ·refine⟨zv, ?_,h1, ?_⟩
       ·unfold execOp;rw[ho]
        apply fT
        simp only[au7,av0,Instr.lookup,bH,run_underlying hu,bh,MapKept.run_getObj_map k4,a08];rw[show(10000:Nat)=9999+1 from rfl,MapKept.run_checkKey ao3 (show MapKept.IsKey (.int .i64) (.int .i64 n)from rfl)];simp_all[bh,MapKept.run_findKey,zeroValue,typeInfo]
       simp_all
      ·refine⟨v, ?_,h1,f2⟩;unfold execOp;rw[ho]
       apply fT
       simp only[au7,av0,Instr.lookup,bH,run_underlying hu,bh,MapKept.run_getObj_map k4,a08];rw[show(10000:Nat)=9999+1 from rfl,MapKept.run_checkKey ao3 (show MapKept.IsKey (.int .i64) (.int .i64 n)from rfl)];simp_all[bh,MapKept.run_findKey]
     ·rw[dif_neg hτ]at k0;cases k0
    ·cases h
   ·cases h
  ·cases h
 ·cases h
end Go.Abs
end

section
namespace Go.Abs
structure EnvOk (E:Env):Prop where
 calls:∀f c,E.callee f=J c->xB E.P E.fH f c
def Zz (E:Env)(B:Base):Prop:=∀f ts,E.slf=J (f,ts)->ts≠[]->
 ∃b ty,B.arg (ts.getLastD 0)= .pointer (J ⟨b,0,ay⟩)/\B.w.heap[b]?=J (.cells #[.func (.func f) #[] (ts.map B.arg).toArray] ty (0,0))/\B.fL b=ay/\B.dj b=ay
def zC (B:Base)(g:Gh):Prop:=0<g.top nv/\0<g.top (nv+1)/\g.cv nv 0= .pointer (J ⟨B.f0.1,0,ay⟩)/\g.cv (nv+1) 0=B.f0.2
theorem zC.mono {B:Base}{g g':Gh}(h:Le g g')(k:zC B g):zC B g':=⟨aR k.1 (h.top _),aR k.2.1 (h.top _),(h.cv _ _ k.1).trans k.2.2.1,(h.cv _ _ k.2.1).trans k.2.2.2⟩
structure ActRel (E:Env)(B:Base)(g:Gh)(env:List (Nat×Slot))(a:Act):Prop where
 env:iM g env a
 size:a.tmps.size=E.nt
 defers:a.defers=[]
 kept:∀t∈E.oH,a.tmps.getD t undef=B.arg t
 slf:Zz E B
 ini:E.ini=av->Le B.g0 g
 fst:E.fst=av->zC B g
theorem ActRel.mono {E:Env}{B:Base}{g g':Gh}(h:Le g g'){env:List (Nat×Slot)}{a:Act}(H:ActRel E B g env a):ActRel E B g' env a:=⟨H.env.mono h,H.size,H.defers,H.kept,H.slf,λe=>(H.ini e).trans h,λe=>(H.fst e).mono h⟩
def ZA (E:Env)(op:Op)(s:St)(sl:Slot)(s':St):Prop:=
 s'.env=s.env/\∀(o:Oper),o.op=op->∀B g a w,jG E.fH g.dj->HRel B g s.hp w->ActRel E B g s.env a->∀(next:Act->World->Prop) (Q:Exit->Act->World->Prop),
  (∀v w' g',Le g g'->HRel B g' s'.hp w'->fG g' sl v->next (a.put o.dst v) w')->o.wp E.P a w next Q
theorem Yld.ok {E:Env}{op:Op}{s s':St}{sl:Slot}(h:Yld E op s sl s'):ZA E op s sl s':=by
 refine⟨h.1,λo ho B g a w _ R V next Q hn=> ?_⟩;obtain⟨v,w',g',e,l,R',hs⟩:=h.2 o ho B g a w R V.env;unfold Oper.wp;rw[e];exact hn v w' g' l R' hs
theorem za {g:Gh}:∀{lh:List (Nat×Nat)} {us:List Value},uW g lh us->gW g (lh.map λp=> .one (.ptr p.1 p.2 0)) us
 |[],_,h=>h
 |p::r,us,⟨b,o,v,e,h1,h2,h3⟩=>⟨_,_,e,⟨h1,b,o,h2,rfl⟩,za h3⟩
theorem gW.append {g:Gh}:∀{a b:List Val} {us vs:List Value},gW g a us->gW g b vs->gW g (a++b) (us++vs)
 |[],_,_,_,h,k=>by have h:_=_:=h;simp_all
 |_::_,_,_,_,⟨u,r,e,hu,hr⟩,k=>by subst e;exact⟨u,_,rfl,hu,hr.append k⟩
theorem uW.eq {g:Gh}:∀{lh:List (Nat×Nat)} {us vs:List Value},uW g lh us->uW g lh vs->us=vs
 |[],_,_,h,k=>by have h:_=_:=h;have k:_=_:=k;grind
 |_::_,_,_,⟨b,o,v,e,_,h2,h3⟩,⟨b',o',v',e',_,aa6,ab3⟩=>by
  rw[h2]at aa6;rw[e,e',aa6,uW.eq h3 ab3]
theorem uW.last {g:Gh}:∀{lh:List (Nat×Nat)} {us:List Value} {p:Nat×Nat},uW g lh us->lh.getLast?=J p->us.getLast?=J (g.cv p.1 p.2)
 |[],_,_,_,h=>by cases h
 |[q],_,p,⟨b,o,v,e,h1,h2,h3⟩,h=>by
  have h3:v=[]:=h3;simp_all
 |q::q'::r,_,p,⟨b,o,v,e,h1,h2,h3⟩,h=>by
  have ih:=uW.last h3 (p:=p) (by simpa using h);obtain⟨b',o',v',e',_⟩:=h3;subst e;subst e';simpa using ih
theorem rC:∀{ts:List Nat} {cs:List (Nat×Nat)} {s s':St},(z8 ts).run s=J (cs,s')->s'=s/\∀g a,iM g s.env a->uW g cs (ts.map λt=>a.tmps.getD t undef)
 |[],cs,s,s',h=>by
  obtain⟨rfl,rfl⟩:=cX h;exact⟨rfl,λg a V=>rfl⟩
 |t::ts,cs,s,s',h=>by
  simp only[z8,AM.run]at h;split at h
  ·rename_i x hx;split at h
   ·rename_i id gen;obtain⟨c2,t2,h1,h2⟩:=AM.cV h;obtain⟨rfl,rfl⟩:=cX h2;obtain⟨rfl,k⟩:=rC h1;refine⟨rfl,λg a V=> ?_⟩;have hc:dR g (.ptr id gen 0) (a.tmps.getD t undef):=V t _ hx;obtain⟨h1,b,o,h2,h3⟩:=hc;exact⟨b,o,_,by simp_all,h1,h2,k g a V⟩
   ·cases h
  simp_all
theorem QN {w:World}{b:Nat}{o:Go.Obj}(h:w.heap[b]?=J o):b<w.heap.size:=(Array.getElem?_eq_some_iff.1 h).1
theorem gW.length {g:Gh}:∀{vs:List Val} {us:List Value},gW g vs us->vs.length=us.length
 |[],_,h=>by have h:_=_:=h;simp_all
 |_::_,_,⟨_,_,e,_,hr⟩=>by rw[e,az,az,gW.length hr]
theorem wS {E:Env}{ts:List Nat}(h:kept E ts=av):ts≠[]/\∀t∈ts,t∈E.oH:=by
 have h:(!ts.isEmpty&&ts.all λt=>E.oH.any (aw t))=true:=h;simp_all
theorem NO {E:Env}{B:Base}{g:Gh}{env:List (Nat×Slot)}{a:Act}(V:ActRel E B g env a){ts:List Nat}(h:kept E ts=av):(ts.map λt=>a.tmps.getD t undef)=ts.map B.arg:=
 List.map_congr_left λt ht=>V.kept t ((wS h).2 t ht)
theorem vv:∀{a b:List (Nat×Nat)},wV a b=av->a=b
 |[],[],_=>rfl
 |x::a,y::b,h=>by
  simp only[wV,aA]at h;rw[vv h.2]
  congr 1
  exact Prod.ext (beq_eq h.1.1) (beq_eq h.1.2)
 |[],_::_,h=>by cases h
 |_::_,[],h=>by cases h
theorem RG {E:Env}{f:FuncId}{lh:List (Nat×Nat)}(t t':St)(h:(H7 E f lh).run t=J ((),t')):t'=t:=by
 unfold H7 at h;split at h
 ·obtain⟨_,h⟩:=dQ h;obtain⟨cs,t2,h1,h2⟩:=AM.cV h;obtain⟨rfl,_⟩:=rC h1;obtain⟨_,h2⟩:=dQ h2
  grind [cX]
 ·unfold UW at h;split at h
  ·simp only[AM.run]at h;split at h
   ·obtain⟨_,h⟩:=dQ h
    grind [cX]
   ·cases h
  ·cases h
theorem Zc {E:Env}{f:FuncId}{lh:List (Nat×Nat)}{t:St}(h:(H7 E f lh).run t=J ((),t)){B:Base}{g g1:Gh}{env:List (Nat×Slot)}{a:Act}{w:World}(V:ActRel E B g env a)(he:t.env=env)(l:Le g g1)(R1:HRel B g1 t.hp w){nb:List Nat}(hO:gk g1 nb)
  {as:List VSp} {args vs:List Value} (hs:x8 as=J (f,args.length)) (hc:uW g lh vs):E3 as g1.dj w nb (args++vs):=by
 intro f' m hm;rw[hs]at hm
 injection hm with hm;injection hm with aR3 aU6
 subst aR3;subst aU6;rw[cN];have EA:=hc.mono l
 have ao6:∀{x:Value},vs.getLast?=J x->(args++vs).getLast?=J x:=λ{x} hx=>by
  simp_all
 unfold H7 at h;split at h
 ·rename_i f' ts hE;obtain⟨hb,h0⟩:=dQ h;simp only[aA]at hb;obtain⟨cs,t2,h1,h2⟩:=AM.cV h0;obtain⟨e2,k⟩:=rC h1;subst e2;obtain⟨h3,_⟩:=dQ h2;obtain rfl:=vv h3;subst he;have k2:=k g a V.env;rw[NO V hb.2]at k2;have hv:vs=ts.map B.arg:=hc.eq k2;obtain⟨b,ty,q1,q2,q3,q4⟩:=V.slf _ ts hE (wS hb.2).1;obtain⟨f1,f2,f3⟩:=R1.frame b (QN q2) q3 q4;refine⟨b,ty, ?_,by simp_all,λhb=> ?_,f2⟩
  ·grind [List.getLast?_map,wS,List.getLast?_eq_some_getLast]
  ·have:=hO.2 b hb;simp_all
 ·unfold UW at h;split at h
  ·rename_i p hp;simp only[AM.run]at h;split at h
   ·rename_i g0 bt f2 cs heq;obtain⟨hb,_⟩:=dQ h;simp only[aA]at hb;obtain rfl:=beq_eq hb.1.1;obtain rfl:=beq_eq hb.1.2;obtain rfl:=vv hb.2;obtain⟨b,o,arr,ty,L,k1,k2,k3,k4,k5,k6,k7,k8,k9⟩:=R1.gE _ _ heq;subst k7;obtain⟨u,r,e,hu,hr⟩:=k4;subst hr;subst e;obtain⟨av6,e,hv⟩:=hu;have aR1:vs=av6:=EA.eq hv;subst aR1;subst e;have hlen:(g1.outer p.1).length=1:=k8
    have Dp:arr=#[.func (.func f2) #[] vs.toArray]:=by
     apply a84
     rw[k5,List.take_zero,bS,cd (by simp[hlen]),aU]
    refine⟨b,ty,ao6 (by rw[uW.last EA hp];exact congrArg J k1),by rw[k3,Dp],λhb=> ?_, ?_⟩
    ·have:=hO.2 b hb;rw[k2.1]at this;cases this
    ·cases hi:g1.dj b with
     |none=>rfl
     |some L=>have:=(R1.dj b L hi).1;rw[k2.1]at this;cases this
   ·cases h
  ·cases h
theorem KD {E:Env}(hE:EnvOk E){c:Call}{f:Operand}(hc:c.callee= .value f){d:Nat}{s s':St}{sl:Slot}(h:(gB E d (.call c)).run s=J (sl,s')):ZA E (.call c) s sl s':=by
 unfold gB at h;simp[hc]at h;obtain⟨vs,t1,h1,h2⟩:=AM.cV h;obtain⟨v,t2,h3,h4⟩:=AM.cV h2;obtain⟨cl,t3,h5,h6⟩:=AM.cV h4;obtain⟨rfl,r1⟩:=oT h1;obtain⟨rfl,r2⟩:=eZ h3;obtain⟨rfl,rfl⟩:=wM h5;unfold UH at h6;split at h6
 ·rename_i at5 lh
  cases Ez:E.callee at5 with
  |none=>rw[Ez]at h6;cases h6
  |some aO8=>
   rw[Ez]at h6;simp at h6
   have key:s'.env=t3.env/\∀B g a w,jG E.fH g.dj->HRel B g t3.hp w->ActRel E B g t3.env a->∀us,uW g lh us->jR E.P at5 ((c.args.toList.map a.eval)++us).toArray w λv w'=>∃g',Le g g'/\HRel B g' s'.hp w'/\fG g' sl v:=by
    split at h6
    ·rename_i aN9;obtain⟨e1,hs⟩:=OM ((hE.calls at5 aO8 Ez).plain aN9) aN9 h6;exact⟨e1,λB g a w hG R V us Od=>hs B g w hG R _ ((r1 V.env).append (za Od))⟩
    ·rename_i sf au0;obtain⟨hb,h6⟩:=dQ h6;simp only[aA]at hb;obtain rfl:=beq_eq hb.1;obtain⟨e1,t1,e2,al2,hs⟩:=EN (RG) (hE.calls _ aO8 Ez) h6;refine⟨e1,λB g a w hG R V us Od=>hs B g w hG R _ ((r1 V.env).append (za Od)) λg1 nb l R1 hO=> ?_⟩
     have hlen:sf.2=(c.args.toList.map a.eval).length:=by
      rw[beq_eq hb.2];exact(gW.length (r1 V.env))
     grind [Zc]
   obtain⟨e1,hs⟩:=key;refine⟨e1,λo ho B g a w hG R V next Q hn=> ?_⟩;obtain⟨us,eu,Od⟩:=r2 V.env;have hI:=hs B g a w hG R V us Od;unfold Oper.wp
   have aq6:(execOp a.eval o).run E.P w=(callFunc at5 ((c.args.toList.map a.eval)++us).toArray).run E.P w:=by
    unfold execOp;have ea:(List.map a.eval c.args.toList++us).toArray=c.args.map a.eval++us.toArray:=by
     simp
    grind [resolve,Deferred.ofValue,invoke]
   rw[aq6];unfold jR at hI;split at hI
   ·rename_i f' a' w1 EB;rw[EB]
    refine Calls.mono hI λe w' ⟨v,ee,hv⟩=> ?_
    grind
   ·rename_i v w1 EB;rw[EB];obtain⟨g',l,R',IA⟩:=hI;exact hn v w1 g' l R' IA
   simp_all
 ·cases h6
theorem CS {E:Env}(hE:EnvOk E){op:Op}{d:Nat}{s s':St}{sl:Slot}(h:(gB E d op).run s=J (sl,s')):ZA E op s sl s':=by
 cases op with
 |move x=>exact(Hm h).1.ok
 |assign x=>exact(Hm h).2.ok
 |pick c a b=>exact(OS h).ok
 |alloc t=>exact(L9 h).ok
 |box t x=>exact(Sj h).ok
 |build t ps=>exact(Mv h).ok
 |buildSlice t n ps=>exact(DB h).ok
 |load t x=>
  have h:(match KL E t x with
   |some p=>(z8 p.2).bind λcs=>AM.ret (Slot.val (Val.one (Cell.fn p.1 cs)))
   |none=>Pt E d t x).run s=J (sl,s'):=h
  split at h
  ·rename_i p hp;obtain⟨cs,t2,h1,h2⟩:=AM.cV h;obtain⟨e1,k⟩:=rC h1;obtain⟨rfl,rfl⟩:=cX h2;subst e1;refine⟨rfl,λo ho B g a w hG R V next Q hn=> ?_⟩;unfold KL at hp;split at hp
   ·rename_i f ts k' hE
    cases hc:(aw k' (ts.getLastD 0)&&kept E ts&&Ui (E.isAgg t))with
    |false=>grind
    |true=>
     rw[hc]at hp
     injection hp with hp
     subst hp;simp only[aA]at hc;obtain rfl:=beq_eq hc.1.1
     have P6:E.isAgg t=J false:=by
      have:=hc.2
      revert this
      cases E.isAgg t with
      |none=>exact λh=>by cases h
      |some b=>cases b<;>intro h<;>first|rfl|cases h
     obtain⟨b,ty,q1,q2,q3,q4⟩:=V.slf _ ts hE (wS hc.1.2).1;obtain⟨f1,f2,f3⟩:=R.frame b (QN q2) q3 q4;have yu:=(wS hc.1.2).1
     have XL:ts.getLastD 0∈ts:=by simp_all[List.getLastD_eq_getLast?,List.getLast?_eq_some_getLast,List.getLast_mem]
     have ha:a.tmps.getD (ts.getLastD 0) undef= .pointer (J ⟨b,0,ay⟩):=(V.kept _ ((wS hc.1.2).2 _ XL)).trans q1;have k2:=k g a V.env;rw[NO V hc.1.2]at k2
     have xa:w.cell? ⟨b,0,ay⟩=J (.func (.func f) #[] (ts.map B.arg).toArray):=by
      simp_all[World.cell?]
     have EB:(execOp a.eval o).run E.P w= .ok (.value (.func (.func f) #[] (ts.map B.arg).toArray)) w:=by
      unfold execOp;rw[ho]
      apply fT
      show(a66 t (a.tmps.getD (ts.getLastD 0) undef)).run E.P w=_;rw[ha];simp only[a66,a44,loadVar,bH,a08,bh,wQ P6,Sem.run_ite];simp_all
     unfold Oper.wp;rw[EB];exact hn _ w g (Le.refl g) R ⟨_,rfl,k2⟩
   simp_all
  obtain⟨e,hs⟩:=O0 h;refine⟨e,λo ho B g a w hG R V next Q hn=> ?_⟩;obtain⟨v,w',g',e',l,R',IA⟩:=hs o ho B g a w hG.one R V.env;unfold Oper.wp;rw[e'];exact hn v w' g' l R' IA
 |store t x y=>
  obtain⟨e,rfl,hs⟩:=Mm h;refine⟨e,λo ho B g a w hG R V next Q hn=> ?_⟩;obtain⟨w',g',e',l,R'⟩:=hs o ho B g a w R V.env;unfold Oper.wp;rw[e'];exact hn undef w' g' l R' trivial
 |nilCheck x=>exact(Gc h).ok
 |binOp op t x y ty=>exact(R6 h).ok
 |unOp op t x=>
  cases op with
  |not=>exact(Rx h).ok
  |neg=>exact(RO h).ok
  |_=>cases h
 |convert a b x=>exact(IV h).ok
 |makeMap t r=>exact(IN h).ok
 |insert t m k x=>
  obtain⟨e,rfl,hs⟩:=KF h;refine⟨e,λo ho B g a w hG R V next Q hn=> ?_⟩;obtain⟨w',g',e',l,R'⟩:=hs o ho B g a w R V.env;unfold Oper.wp;rw[e'];exact hn undef w' g' l R' trivial
 |lookup t m k ok=>
  cases ok with
  |false=>exact(Kz h).ok
  |true=>cases h
 |makeInterface t x=>exact(Ar h).ok
 |makeFunc f a b=>exact(Gi h).ok
 |makeSlice t l c=>exact(Fw h).ok
 |slice t x lo hi mx=>
  cases mx with
  |none=>exact(Mi h).ok
  |some m=>cases h
 |fieldAddr t x i=>exact(FB h).ok
 |field t x i=>exact(L8 h).ok
 |indexAddr t x i=>exact(Ft h).ok
 |index t x i=>exact(Mz h).ok
 |extract t i=>exact(IJ h).ok
 |call c=>
  cases hc:c.callee with
  |value f=>grind [KD]
  |builtin b=>
   cases b with
   |len=>exact(So hc h).ok
   |max=>exact(Sk hc h).ok
   |append=>exact(Kq hc h).ok
   |_=>unfold gB at h;simp[hc]at h;cases h
  |invoke r m=>unfold gB at h;simp[hc]at h;cases h
 |_=>cases h
theorem TZ (a:Act){d t:Nat}(v:Value)(e:d≠t):(a.put (J d) v).tmps.getD t undef=a.tmps.getD t undef:=by
 simp[Act.put,bU,Array.getElem?_setIfInBounds_ne e]
theorem Qo {E:Env}{d:Nat}(h:(!E.oH.any (aw d))=av):∀t∈E.oH,d≠t:=by
 simp_all
theorem Qz {E:Env}{B:Base}{g:Gh}{env:List (Nat×Slot)}{a:Act}(H:ActRel E B g env a){d:Nat}{sl:Slot}{v:Value}(hd:d<E.nt)(hk:∀t∈E.oH,d≠t)(hs:fG g sl v):ActRel E B g ((d,sl)::env) (a.put (J d) v):=by
 refine⟨λt s ht=> ?_,by simpa[Act.put]using H.size,H.defers,λt ht=>by rw[TZ a v (hk t ht)];exact H.kept t ht,H.slf,H.ini,H.fst⟩
 by_cases e:d=t
 ·subst e;rw[du]at ht
  have:(a.put (J d) v).tmps.getD d undef=v:=by
   have kI:d<a.tmps.size:=by rw[H.size];omega
   simp[Act.put,Array.getD,kI]
  simp_all
 ·rw[de _ _ e]at ht
  have:(a.put (J d) v).tmps.getD t undef=a.tmps.getD t undef:=by
   simp[Act.put,bU,Array.getElem?_setIfInBounds_ne e]
  rw[this];exact H.env t s ht
theorem ActRel.Lw {E:Env}{B:Base}{g:Gh}{env ar2:List (Nat×Slot)}{a:Act}(H:ActRel E B g env a)(e:ar2=env):ActRel E B g ar2 a:=by simp_all
def Zq (E:Env)(o:Oper)(s s':St):Prop:=
 ∀B g a w,jG E.fH g.dj->HRel B g s.hp w->ActRel E B g s.env a->∀(next:Act->World->Prop) (Q:Exit->Act->World->Prop),
  (∀a' w' g',Le g g'->HRel B g' s'.hp w'->ActRel E B g' s'.env a'->next a' w')->o.wp E.P a w next Q
theorem Hk {E:Env}(hE:EnvOk E){n:Nat}{o:Oper}{s s':St}(h:(step E n o).run s=J ((),s')):Zq E o s s':=by
 intro B g a w hG R V next Q hn;unfold step at h;split at h
 ·rename_i d hd;obtain⟨hb,h1⟩:=dQ h;obtain⟨sl,t,h2,h3⟩:=AM.cV h1;obtain⟨_,rfl⟩:=h3;obtain⟨e,hs⟩:=CS hE h2
  refine hs o rfl B g a w hG R V next Q λv w' g' l R' IA=>hn _ w' g' l R' ?_
  rw[hd];simp only[aA]at hb;refine Qz ?_ (aP hb.1) (Qo hb.2) IA;exact(V.mono l).Lw e
 ·rename_i hd;obtain⟨sl,t,h2,h3⟩:=AM.cV h;obtain⟨_,rfl⟩:=cX h3;obtain⟨e,hs⟩:=CS hE h2
  refine hs o rfl B g a w hG R V next Q λv w' g' l R' IA=>hn _ w' g' l R' ?_
  rw[hd];exact(V.mono l).Lw e
end Go.Abs
end

section
namespace Go.Abs
def St.Eqv (s t:St):Prop:=(∀i,look s.env i=look t.env i)/\∀i,look s.hp i=look t.hp i
theorem St.Eqv.refl (s:St):St.Eqv s s:=⟨λ_=>rfl,λ_=>rfl⟩
theorem St.Eqv.symm {s t:St}(h:St.Eqv s t):St.Eqv t s:=⟨λi=>(h.1 i).symm,λi=>(h.2 i).symm⟩
theorem St.Eqv.trans {s t u:St}(h:St.Eqv s t)(k:St.Eqv t u):St.Eqv s u:=⟨λi=>(h.1 i).trans (k.1 i),λi=>(h.2 i).trans (k.2 i)⟩
theorem ActRel.congr {E:Env}{B:Base}{g:Gh}{e e':List (Nat×Slot)}{a:Act}(h:∀i,look e' i=look e i)(H:ActRel E B g e a):ActRel E B g e' a:=⟨λt s hs=>H.env t s (by simp_all),H.size,H.defers,H.kept,H.slf,H.ini,H.fst⟩
theorem Qk {E:Env}{o:Oper}{s s':St}(h:(skip E o).run s=J ((),s')):s'.hp=s.hp/\∀B g a,ActRel E B g s.env a->ActRel E B g s'.env (a.put o.dst undef):=by
 unfold skip at h;split at h
 ·rename_i d ZX;obtain⟨hb,h1⟩:=dQ h;obtain⟨_,rfl⟩:=h1;simp only[aA]at hb;exact⟨rfl,λB g a V=>by rw[ZX];exact Qz V (aP hb.1) (Qo hb.2) rfl⟩
 ·rename_i ZX;obtain⟨_,rfl⟩:=cX h;exact⟨rfl,λB g a V=>by rw[ZX];exact V⟩
theorem M8:∀(ops:List Oper) (j:Nat),Ri ops j=ops[j]?
 |[],_=>by rfl
 |_::_,0=>rfl
 |_::r,j+1=>by simp[Ri,M8 r j]
theorem JN (ops:List Oper)(j:Nat):xD ops j=(ops.toArray[j]?).bind (·.dst):=by simp[xD,M8]
theorem EP {E:Env}(hE:EnvOk E){ops:List Oper}{n i:Nat}{o:Oper}{s s':St}(ho:ops[i]?=J o)(h:(stepG E ops n o).run s=J ((),s')){B:Base}{g:Gh}{a:Act}{w:World}(hG:jG E.fH g.dj)(R:HRel B g s.hp w)(V:ActRel E B g s.env a)
  {K:Act->World->Prop} {Q:Exit->Act->World->Prop} (hK:∀a' w' g',Le g g'->HRel B g' s'.hp w'->ActRel E B g' s'.env a'->K a' w'):wpOp E.P ops.toArray Q i K a w:=by
 unfold wpOp
 have an6:ops.toArray[i]?=J o:=by simp_all
 rw[an6];simp;unfold stepG at h;split at h
 ·rename_i hg
  have hw:a25 o (yielded ops.toArray a.tmps)=true:=by grind [a25]
  rw[ak hw];exact .inl (Hk hE h B g a w hG R V K Q hK)
 ·rename_i j want hg;obtain⟨d,t,h1,h2⟩:=AM.cV h;obtain⟨hd,rfl⟩:=eO h1;simp only[AM.run]at h2;split at h2
  ·rename_i sl IA;split at h2
   ·rename_i gv;have hv:a.tmps.getD d undef= .bool gv:=oD (V.env d _ IA)
    have hy:yielded ops.toArray a.tmps j=J gv:=by
     unfold yielded;rw[<-JN,hd]
     have:a.tmps[d]?=J (.bool gv):=by
      rw[bU]at hv
      grind [undef]
     simp_all
    rcases PF h2 with⟨hb,h3⟩|⟨hb,h3⟩
    ·have hw:a25 o (yielded ops.toArray a.tmps)=true:=by
      simp_all[a25]
     rw[ak hw];exact .inl (Hk hE h3 B g a w hG R V K Q hK)
    ·have hw:a25 o (yielded ops.toArray a.tmps)≠true:=by
      simp_all[a25]
     grind [Qk,Le.refl]
   ·have hv:a.tmps.getD d undef=undef:=V.env d _ IA
    have hy:yielded ops.toArray a.tmps j=none:=by
     unfold yielded;rw[<-JN,hd];rw[bU]at hv
     grind [undef]
    have hw:a25 o (yielded ops.toArray a.tmps)≠true:=by
     simp_all[a25]
    grind [Qk,Le.refl]
   ·cases h2
  simp_all
theorem GW {E:Env}{ops:List Oper}{n j d:Nat}{o:Oper}{want gv:Bool}{s:St}(hg:o.guard=J (j,want))(hd:xD ops j=J d)(hs:look s.env d=J (.val (.one (.v .bool gv)))):
  (stepG E ops n o).run s=(bif gv==want then step E (alt n) o else skip E o).run s:=by
 grind [stepG,kf,AM.run_bind,AM.run]
theorem TN {E:Env}{ops:List Oper}{n j d:Nat}{o:Oper}{want:Bool}{s:St}(hg:o.guard=J (j,want))(hd:xD ops j=J d)(hs:look s.env d=J .sk):
  (stepG E ops n o).run s=(skip E o).run s:=by
 simp_all[stepG,kf,AM.run_bind,AM.run,au]
theorem HN {ρ:Type}{b:Bool}{t e:Option ρ}{r:ρ}(h:brk b t e=J r):(b=av/\t=J r)\/(b=ar/\e=J r):=by
 rw[gC]at h
 grind
theorem oU {α ρ:Type}{m:AM α}{s:St}{K:α->St->Option ρ}{r:ρ}(h:m.exec s K=J r):∃a t,m.run s=J (a,t)/\K a t=J r:=by
 rw[AM.S3]at h
 cases hm:m.run s with
 |none=>simp_all
 |some p=>grind
theorem F4 {s:St}{d:Nat}{x:Slot}(h:look s.env d=J x):St.Eqv {s with env:=(d,x)::s.env} s:=by
 refine⟨λi=> ?_,λ_=>rfl⟩
 grind [look,du,de]
theorem Ks {ρ:Type}{E:Env}{ops:List Oper}{o:Oper}{r:List Oper}{n:Nat}{s:St}{K:St->Option ρ}{x:ρ}(h:ti E ops (o::r) n s K=J x):
  ∃s0 t,St.Eqv s0 s/\(stepG E ops n o).run s0=J ((),t)/\ti E ops r (n+1) t K=J x:=by
 unfold ti at h;split at h
 ·rename_i hg;obtain⟨⟨⟩,t,h1,h2⟩:=oU h
  grind [St.Eqv.refl,stepG]
 ·rename_i j want hg;split at h
  ·rename_i d hd;split at h
   ·rename_i gv hs
    rcases HN h with⟨rfl,h'⟩|⟨rfl,h'⟩
    ·obtain⟨⟨⟩,t,h1,h2⟩:=oU h';refine⟨_,t,F4 hs, ?_,h2⟩;rw[GW hg hd (du _ _ _)];cases want<;>exact h1
    ·obtain⟨⟨⟩,t,h1,h2⟩:=oU h';refine⟨_,t,F4 hs, ?_,h2⟩;rw[GW hg hd (du _ _ _)];cases want<;>exact h1
   ·rename_i hs;obtain⟨⟨⟩,t,h1,h2⟩:=oU h;exact⟨s,t,St.Eqv.refl s,by grind [TN],h2⟩
   simp_all
  simp_all
def KOk {ρ:Type}(E:Env)(B:Base)(K:St->Option ρ)(x:ρ)(Q:Act->World->Prop):Prop:=
 ∀s g a w,K s=J x->jG E.fH g.dj->HRel B g s.hp w->ActRel E B g s.env a->Q a w
theorem AN {ρ:Type}{E:Env}(hE:EnvOk E){B:Base}{ops:List Oper}{K:St->Option ρ}{x:ρ}{Q:Exit->Act->World->Prop}(hK:KOk E B K x (Q .normal)):
  ∀(r:List Oper) (n:Nat) (s:St),ops.drop n=r->ti E ops r n s K=J x->∀g a w,jG E.fH g.dj->HRel B g s.hp w->ActRel E B g s.env a->wpOps E.P ops.toArray Q (a32 n r.length) a w
 |[],n,s,hr,h,g,a,w,hG,R,V=>hK s g a w h hG R V
 |o::r,n,s,hr,h,g,a,w,hG,R,V=>by
  obtain⟨s0,t,e,h1,h2⟩:=Ks h
  have ho:ops[n]?=J o:=by
   have:=congrArg (·[0]?) hr
   grind
  have SK:ops.drop (n+1)=r:=by
   rw[<-b8,hr];rfl
  exact EP hE ho h1 hG (R.congr e.2) (V.congr e.1) λa' w' g' l R' V'=>AN hE hK r (n+1) t SK h2 g' a' w' (hG.mono l.dj) R' V'
end Go.Abs
end

section
namespace Go.Abs
def AM.mo {α:Type}:AM α->St->List Nat->List Nat->Option (α×St×List Nat×List Nat)
 | .ret a,s,r,w=>J (a,s,r,w)
 | .br b t e,s,r,w=>bif b then t.mo s r w else e.mo s r w
 | .fail,_,_,_=>ay
 | .xK t k,s,r,w=>match look s.env t with
  |some x=>(k x).mo s ((2*t)::r) w
  |none=>ay
 | .Dk t x k,s,r,w=>k.mo {s with env:=(t,x)::s.env} r ((2*t)::w)
 | .kY i k,s,r,w=>(k (look s.hp i)).mo s ((2*i+1)::r) w
 | .mm i o k,s,r,w=>k.mo {s with hp:=(i,o)::s.hp} r ((2*i+1)::w)
 | .opt _ x k,s,r,w=>match x with
  |some d=>(k d).mo s r w
  |none=>ay
theorem AM.OV {α ρ:Type}(m:AM α):∀(s:St) (r w:List Nat) (K:α->St->List Nat->List Nat->Option ρ),m.qD s r w K=(m.mo s r w).bind λp=>K p.1 p.2.1 p.2.2.1 p.2.2.2:=by
 induction m with
 |ret a=>intro s r w K;rfl
 |br b t e Yv Yb=>intro s r w K;cases b<;>simp[qD,mo,Yv,Yb,gC]
 |fail=>intro s r w K;rfl
 |xK t k ih=>intro s r w K;simp[qD,mo];grind
 |Dk t x k ih=>intro s r w K;simp[qD,mo,ih]
 |kY i k ih=>intro s r w K;simp[qD,mo,ih]
 |mm i o k ih=>intro s r w K;simp[qD,mo,ih]
 |opt c x k ih=>intro s r w K;cases x<;>simp[qD,mo,ih]
theorem AM.Tp {α:Type}(m:AM α):∀{s s':St} {r w r' w':List Nat} {a:α},m.mo s r w=J (a,s',r',w')->m.run s=J (a,s'):=by
 induction m with
 |ret a=>intro s s' r w r' w' x h;simp[mo]at h;simp[run,h.1,h.2.1]
 |br b t e Yv Yb=>intro s s' r w r' w' x h;cases b<;>simp[mo,run]at h⊢<;>first|grind|grind
 |fail=>intro s s' r w r' w' x h;cases h
 |xK t k ih=>
  intro s s' r w r' w' x h;simp[mo,run]at h⊢
  grind
 |Dk t x k ih=>intro s s' r w r' w' x h;exact ih h
 |kY i k ih=>intro s s' r w r' w' x h;exact ih _ h
 |mm i o k ih=>intro s s' r w r' w' x h;exact ih h
 |opt c x k ih=>
  intro s s' r w r' w' y h
  cases x with
  |none=>cases h
  |some d=>exact ih d h
def St.get (s:St)(p:Nat):Option Slot⊕Option Obj:=if p % 2=0 then .inl (look s.env (p/2))else .inr (look s.hp (p/2))
theorem Hx (s:St)(t:Nat):s.get (2*t)= .inl (look s.env t):=by simp_all[St.get,ak]
theorem K1 (s:St)(i:Nat):s.get (2*i+1)= .inr (look s.hp i):=by unfold St.get;grind
theorem sA (s:St)(t:Nat)(x:Slot)(p:Nat):St.get {s with env:=(t,x)::s.env} p=if p=2*t then .inl (J x)else s.get p:=by
 unfold St.get
 by_cases hp:p % 2=0
 ·simp[hp]
  by_cases e:p=2*t
  ·subst e;rw[ak rfl,show 2*t/2=t by omega,du]
  ·rw[aj e,de _ _ (by omega)]
 grind
theorem sj (s:St)(i:Nat)(o:Obj)(p:Nat):St.get {s with hp:=(i,o)::s.hp} p=if p=2*i+1 then .inr (J o)else s.get p:=by
 unfold St.get
 by_cases hp:p % 2=0
 ·grind
 ·simp[hp]
  by_cases e:p=2*i+1
  ·subst e;rw[ak rfl,show(2*i+1)/2=i by omega,du]
  ·rw[aj e,de _ _ (by omega)]
theorem KT {s t:St}:St.Eqv s t↔∀p,s.get p=t.get p:=by
 constructor
 ·intro h p;unfold St.get;rw[h.1,h.2]
 ·intro h;refine⟨λi=> ?_,λi=> ?_⟩
  ·have:=h (2*i)
   grind [Hx]
  ·have:=h (2*i+1);simp_all[K1]
theorem AM.Hl {α:Type}(m:AM α):∀{s s':St} {r0 w0 r w:List Nat} {a:α},m.mo s r0 w0=J (a,s',r,w)->
  (∀p∈r0,p∈r)/\(∀p∈w0,p∈w)/\(∀p,p∉w->s'.get p=s.get p)/\∀t:St,(∀p∈r,t.get p=s.get p)->
   ∃t',m.mo t r0 w0=J (a,t',r,w)/\(∀p,p∉w->t'.get p=t.get p)/\(∀p,t.get p=s.get p->t'.get p=s'.get p)/\∀p∈w,p∉w0->t'.get p=s'.get p:=by
 induction m with
 |ret a=>
  intro s s' r0 w0 r w x h;obtain⟨rfl,rfl,rfl,rfl⟩:=h;exact⟨λ_ h=>h,λ_ h=>h,λ_ _=>rfl,λt ht=>⟨t,rfl,λ_ _=>rfl,λ_ h=>h,λp h1 h2=>absurd h1 h2⟩⟩
 |br b t e Yv Yb=>
  intro s s' r0 w0 r w x h;cases b
  ·exact Yb h
  ·exact Yv h
 |fail=>intro s s' r0 w0 r w x h;cases h
 |xK t k ih=>
  intro s s' r0 w0 r w x h;simp[mo]at h;split at h
  ·rename_i sl IA;obtain⟨h1,h2,h3,h4⟩:=ih _ h;refine⟨λp hp=>h1 p (aD _ hp),h2,h3,λu hu=> ?_⟩;have hx:=hu (2*t) (h1 _ (aF ..));rw[Hx,Hx]at hx
   injection hx with hx
   obtain⟨t',a1,a2⟩:=h4 u hu;refine⟨t', ?_,a2⟩;simp[mo,hx,IA];omega
  simp_all
 |Dk t x k ih=>
  intro s s' r0 w0 r w y h;obtain⟨h1,h2,h3,h4⟩:=ih h;have hm:2*t∈w:=h2 _ (aF ..);refine⟨h1,λp hp=>h2 p (aD _ hp),λp hp=> ?_,λu hu=> ?_⟩
  ·rw[h3 p hp,sA,aj (show p≠2*t from λe=>hp (by simp_all))]
  ·obtain⟨t',a1,a2,a3,a4⟩:=h4 {u with env:=(t,x)::u.env} (λp hp=>by rw[sA,sA,hu p hp]);refine⟨t',a1,λp hp=> ?_,λp hp=>a3 p (by rw[sA,sA,hp]),λp hp yq=> ?_⟩
   ·rw[a2 p hp,sA,aj (show p≠2*t from λe=>hp (by rw[e];exact hm))]
   ·by_cases e:p=2*t
    ·exact a3 p (by rw[sA,sA,ak e,ak e])
    ·exact a4 p hp (λhm=>by rcases bA.1 hm with h|h;exact e h;exact yq h)
 |kY i k ih=>
  intro s s' r0 w0 r w x h;obtain⟨h1,h2,h3,h4⟩:=ih _ h;refine⟨λp hp=>h1 p (aD _ hp),h2,h3,λu hu=> ?_⟩;have hx:=hu (2*i+1) (h1 _ (aF ..));rw[K1,K1]at hx
  injection hx with hx
  obtain⟨t',a1,a2⟩:=h4 u hu;refine⟨t', ?_,a2⟩;simp[mo,hx];exact a1
 |mm i o k ih=>
  intro s s' r0 w0 r w y h;obtain⟨h1,h2,h3,h4⟩:=ih h;have hm:2*i+1∈w:=h2 _ (aF ..);refine⟨h1,λp hp=>h2 p (aD _ hp),λp hp=> ?_,λu hu=> ?_⟩
  ·rw[h3 p hp,sj,aj (show p≠2*i+1 from λe=>hp (by rw[e];exact hm))]
  ·obtain⟨t',a1,a2,a3,a4⟩:=h4 {u with hp:=(i,o)::u.hp} (λp hp=>by rw[sj,sj,hu p hp]);refine⟨t',a1,λp hp=> ?_,λp hp=>a3 p (by rw[sj,sj,hp]),λp hp yq=> ?_⟩
   ·rw[a2 p hp,sj,aj (show p≠2*i+1 from λe=>hp (by rw[e];exact hm))]
   ·by_cases e:p=2*i+1
    ·exact a3 p (by rw[sj,sj,ak e,ak e])
    ·exact a4 p hp (λhm=>by rcases bA.1 hm with h|h;exact e h;exact yq h)
 |opt c x k ih=>
  intro s s' r0 w0 r w y h
  cases x with
  |none=>cases h
  |some d=>exact ih d h
theorem xv {α ρ:Type}{m:AM α}{s:St}{r w:List Nat}{K:α->St->List Nat->List Nat->Option ρ}{x:ρ}(h:m.qD s r w K=J x):∃a t rd wr,m.mo s r w=J (a,t,rd,wr)/\K a t rd wr=J x:=by
 rw[AM.OV]at h
 cases hm:m.mo s r w with
 |none=>simp_all
 |some p=>grind
theorem AM.Jq {α β:Type}(m:AM α)(f:α->AM β):∀s r w,(m.bind f).mo s r w=(m.mo s r w).bind λp=>(f p.1).mo p.2.1 p.2.2.1 p.2.2.2:=by
 induction m with
 |ret a=>intro s r w;rfl
 |br b t e Yv Yb=>grind [AM.bind,AM.mo]
 |fail=>intro s r w;rfl
 |xK t k ih=>grind [AM.bind,AM.mo,look]
 |Dk t x k ih=>simp_all[AM.bind,AM.mo]
 |kY i k ih=>simp_all[AM.bind,AM.mo]
 |mm i o k ih=>simp_all[AM.bind,AM.mo]
 |opt c x k ih=>intro s r w;cases x<;>simp[AM.bind,AM.mo,ih]
theorem E0 {E:Env}{ops:List Oper}{n j d:Nat}{o:Oper}{want gv:Bool}{s:St}(hg:o.guard=J (j,want))(hd:xD ops j=J d)(hs:look s.env d=J (.val (.one (.v .bool gv)))):
  (stepG E ops n o).mo s [] []=(bif gv==want then step E (alt n) o else skip E o).mo s [2*d] []:=by
 grind [stepG,kf,AM.Jq,AM.mo]
theorem Sd {E:Env}{ops:List Oper}{n j d:Nat}{o:Oper}{want:Bool}{s:St}(hg:o.guard=J (j,want))(hd:xD ops j=J d)(hs:look s.env d=J .sk):
  (stepG E ops n o).mo s [] []=(skip E o).mo s [2*d] []:=by
 simp_all[stepG,kf,AM.Jq,AM.mo,au]
theorem II {ρ:Type}{E:Env}{ops:List Oper}{o:Oper}{r:List Oper}{n:Nat}{s:St}{L:Log}{K:St->Log->Option ρ}{x:ρ}(h:qB E ops (o::r) n s L K=J x):
  ∃s0 t rd wr,St.Eqv s0 s/\(stepG E ops n o).mo s0 [] []=J ((),t,rd,wr)/\qB E ops r (n+1) t ((rd,wr)::L) K=J x:=by
 unfold qB at h;split at h
 ·rename_i hg;obtain⟨⟨⟩,t,rd,wr,h1,h2⟩:=xv h
  grind [St.Eqv.refl,stepG]
 ·rename_i j want hg;split at h
  ·rename_i d hd;split at h
   ·rename_i gv hs
    rcases HN h with⟨rfl,h'⟩|⟨rfl,h'⟩
    ·obtain⟨⟨⟩,t,rd,wr,h1,h2⟩:=xv h';refine⟨_,t,rd,wr,F4 hs, ?_,h2⟩;rw[E0 hg hd (du _ _ _)];cases want<;>exact h1
    ·obtain⟨⟨⟩,t,rd,wr,h1,h2⟩:=xv h';refine⟨_,t,rd,wr,F4 hs, ?_,h2⟩;rw[E0 hg hd (du _ _ _)];cases want<;>exact h1
   ·rename_i hs;obtain⟨⟨⟩,t,rd,wr,h1,h2⟩:=xv h;exact⟨s,t,rd,wr,St.Eqv.refl s,by grind [Sd],h2⟩
   simp_all
  simp_all
structure Way (E:Env)(ops:List Oper)(n:Nat)(st:Nat->St)(Xo:Nat->List Nat×List Nat):Prop where
 step:∀i o,n<=i->ops[i]?=J o->∃pre,St.Eqv pre (st i)/\(stepG E ops i o).mo pre [] []=J ((),st (i+1),(Xo i).1,(Xo i).2)
theorem Uo {ρ:Type}{E:Env}{ops:List Oper}{K:St->Log->Option ρ}{x:ρ}:∀(r:List Oper) (n:Nat) (s:St) (L:Log),ops.drop n=r->qB E ops r n s L K=J x->
  ∃st Xo,st n=s/\Way E ops n st Xo/\K (st (n+r.length)) (((a32 n r.length).map Xo).reverse++L)=J x
 |[],n,s,L,hr,h=>by
  refine⟨λ_=>s,λ_=>([],[]),rfl,⟨λi o hi ho=> ?_⟩,h⟩
  grind [List.drop_eq_nil_iff,bM]
 |o::r,n,s,L,hr,h=>by
  obtain⟨s0,t,rd,wr,e,h1,h2⟩:=II h
  have ho:ops[n]?=J o:=by
   have:=congrArg (·[0]?) hr
   grind
  have SK:ops.drop (n+1)=r:=by rw[<-b8,hr];rfl
  obtain⟨st,Xo,k1,k2,k3⟩:=Uo r (n+1) t _ SK h2;refine⟨λi=>if i=n then s else st i,λi=>if i=n then(rd,wr)else Xo i,by simp,⟨λi o' hi an6=> ?_⟩, ?_⟩
  ·by_cases e':i=n
   ·grind
   ·obtain⟨pre,a1,a2⟩:=k2.step i o' (by omega) an6
    grind
  ·rw[az,List.range'_succ,bW,List.reverse_cons,aI,ak rfl]
   have em:(a32 (n+1) r.length).map (λi=>if i=n then(rd,wr)else Xo i)=(a32 (n+1) r.length).map Xo:=by
    apply List.map_congr_left
    grind
   grind
end Go.Abs
end

section
namespace Go.Abs
theorem PG (n:Nat):∀l:List Nat,mem n l=av↔n∈l
 |[]=>by simp[mem]
 |m::r=>by
  simp only[mem,Bool.or_eq_true,PG n r,bA]
  grind [beq_eq,Nat.beq_refl]
theorem BJ {a b:List Nat}(h:meet a b=ar):∀p∈a,p∉b:=by
 induction a with
 |nil=>simp
 |cons x r ih=>
  simp[meet]at h;intro p hp hb
  rcases bA.1 hp with rfl|hp
  all_goals grind [PG]
def Re (x y:List Nat×List Nat):Prop:=(∀p∈x.2,p∉y.2)/\(∀p∈x.2,p∉y.1)/\∀p∈x.1,p∉y.2
theorem yW {x:List Nat×List Nat}{bx:List Nat}:∀{L:Log} {n:Nat},C1 x bx L n=av->∀k y,L[k]?=J y->(n - 1 - k)∈bx\/Re x y
 |[],_,_,k,y,hy=>by simp_all
 |z::r,n,h,k,y,hy=>by
  simp[C1]at h
  cases k with
  |zero=>
   have hz:z=y:=(by simpa using hy);subst hz
   rcases h.1 with h1|h1
   ·exact .inl (by simpa using(PG _ _).1 h1)
   ·exact .inr ⟨BJ h1.1.1,BJ h1.1.2,BJ h1.2⟩
  |succ k=>
   have:=yW h.2 k y (by simpa using hy);rw[show n - 1 - (k+1)=n - 1 - 1 - k by omega];exact this
theorem EV:∀{L:Log} {bs:List (List Nat)} {n:Nat},apart L bs n=av->∀k x,L[k]?=J x->∃bx,bs[k]?=J bx/\∀k' y,k<k'->L[k']?=J y->(n - 1 - k')∈bx\/Re x y
 |[],_,_,_,k,x,hx=>by simp_all
 |z::r,[],_,h,_,_,_=>by cases h
 |z::r,bz::bs,n,h,k,x,hx=>by
  simp[apart]at h
  cases k with
  |zero=>
   refine⟨bz,rfl,λk' y hk hy=> ?_⟩
   cases k' with
   |zero=>omega
   |succ k'=>
    have:=yW h.1 k' y (by simp_all)
    grind
  |succ k=>
   obtain⟨bx,h1,h2⟩:=EV h.2 k x (by simp_all);refine⟨bx,by simp_all,λk' y hk hy=> ?_⟩
   cases k' with
   |zero=>omega
   |succ k'=>
    grind
theorem Ta:∀(es acc:List (List Nat)),∀j,acc.length<=j->∀e,es[j - acc.length]?=J e->∃b,(AB es acc)[j]?=J b/\∀i,i∈b->i∈e\/∃k∈e,k<j/\∃bk,(AB es acc)[k]?=J bk/\i∈bk:=by
 have pre:∀(es acc:List (List Nat)),∃tl,AB es acc=acc++tl:=by
  intro es
  induction es with
  |nil=>simp_all[AB]
  |cons e es ih=>
   intro acc;obtain⟨tl,h⟩:=ih (acc++[e.flatMap λi=>i::acc.getD i []]);simp_all[AB,aI]
 intro es
 induction es with
 |nil=>simp
 |cons e0 es ih=>
  intro acc j hj e he
  by_cases Ys:j=acc.length
  ·subst Ys;have:e0=e:=(by simpa using he);subst this;obtain⟨tl,h⟩:=pre es (acc++[e0.flatMap λi=>i::acc.getD i []]);refine⟨e0.flatMap λi=>i::acc.getD i [],by rw[AB,h];simp,λi hi=> ?_⟩;obtain⟨k,hk,hi⟩:=a33.1 hi
   rcases bA.1 hi with rfl|hi
   ·exact .inl hk
   ·right
    rw[aG]at hi
    cases au4:acc[k]? with
    |none=>rw[au4]at hi;simp at hi
    |some bk=>
     have kI:=(bw.1 au4).1;rw[au4]at hi;refine⟨k,hk,kI,bk, ?_,by simpa using hi⟩;rw[AB,h,aI,List.getElem?_append_left kI,au4]
  ·exact ih _ j (by simp;omega) e (by
    have:j - acc.length=(j - (acc++[e0.flatMap λi=>i::acc.getD i []]).length)+1:=by simp;omega
    rw[this]at he
    simpa using he)
theorem AX:∀{es:List (List Nat)} {n:Nat},Ab es n=av->∀j e,es[j]?=J e->∀i∈e,i<n+j
 |[],_,_,j,e,he=>by simp_all
 |e0::es,n,h,j,e,he=>by
  simp only[Ab,aA,aW]at h
  cases j with
  |zero=>
   simp_all
  |succ j=>
   intro i hi;have:=AX h.2 j e (by simp_all) i hi;omega
section
variable{E:Env}{ops:List Oper}{st:Nat->St}{lg:Nat->List Nat×List Nat}
def held (st:Nat->St)(lg:Nat->List Nat×List Nat)(D:Nat->Bool)(p:Nat):Nat->Option Slot⊕Option Obj
 |0=>(st 0).get p
 |k+1=>open Classical in if D k=av/\p∈(lg k).2 then(st (k+1)).get p else held st lg D p k
theorem zX {D:Nat->Bool}{p:Nat}{i:Nat}:∀{n:Nat},i<=n->(∀k,i<=k->k<n->D k=av->p∉(lg k).2)->held st lg D p n=held st lg D p i
 |0,hi,_=>by simp_all
 |n+1,hi,h=>by
  by_cases e:i=n+1
  ·simp_all
  ·rw[held,aj (λhc=>h n (by omega) (by omega) hc.1 hc.2)]
   exact zX (by omega) λk h1 h2=>h k h1 (by omega)
theorem HT (W:Way E ops 0 st lg){D:Nat->Bool}{p:Nat}:∀{i:Nat},i<=ops.length->(∀k,k<i->p∈(lg k).2->D k=av)->held st lg D p i=(st i).get p
 |0,_,_=>rfl
 |i+1,hi,h=>by
  rw[held];split
  ·rfl
  ·rename_i hc;rw[HT W (by omega) λk hk=>h k (by omega)];have ho:ops[i]?=J (ops[i]'(by omega)):=aJ _;obtain⟨pre,a1,a2⟩:=W.step i _ (aX _) ho
   grind [AM.Hl,KT]
structure Order (ops:List Oper)(lg:Nat->List Nat×List Nat)(b:Nat->List Nat):Prop where
 direct:∀j o,ops[j]?=J o->∀e∈o.after,a48 .any e=av->e.on<j
 closed:∀j o,ops[j]?=J o->∀i∈b j,(∃e∈o.after,a48 .any e=av/\e.on=i)\/∃e∈o.after,a48 .any e=av/\i∈b e.on
 apart:∀i j,i<j->j<ops.length->i∈b j\/Re (lg j) (lg i)
theorem Tw (he:Ab (x9 ops) 0=av)(ha:apart ((a32 0 ops.length).map lg).reverse (AB (x9 ops) []).reverse ops.length=av):
  ∃b,Order ops lg b:=by
 have Yr:∀(j:Nat) (o:Oper),ops[j]?=J o->(x9 ops)[j]?=J (o.after.toList.filterMap λe=>bif a48 .any e then J e.on else ay):=by
  simp_all[x9,a05]
 have ao1:∀(o:Oper) (i:Nat),i∈(o.after.toList.filterMap λe=>bif a48 .any e then J e.on else ay)↔∃e∈o.after,a48 .any e=av/\e.on=i:=by
  grind
 refine⟨λj=>((AB (x9 ops) [])[j]?).getD [],⟨λj o ho e hm hb=> ?_,λj o ho i hi=> ?_,λi j SP hj=> ?_⟩⟩
 ·have:=AX he j _ (Yr j o ho) e.on ((ao1 o _).2 ⟨e,hm,hb,rfl⟩);omega
 ·obtain⟨b,h1,h2⟩:=Ta (x9 ops) [] j (aX _) _ (by simpa using Yr j o ho)
  grind
 ·have hx:(((a32 0 ops.length).map lg).reverse)[ops.length - 1 - j]?=J (lg j):=by
   grind
  have hy:(((a32 0 ops.length).map lg).reverse)[ops.length - 1 - i]?=J (lg i):=by
   grind
  obtain⟨bx,h1,h2⟩:=EV ha _ _ hx
  rcases h2 _ _ (by omega) hy with h|h
  ·left
   rw[show ops.length - 1 - (ops.length - 1 - i)=i by omega]at h
   have hlen:(AB (x9 ops) []).length=ops.length:=by
    have:∀(es acc:List (List Nat)),(AB es acc).length=acc.length+es.length:=by
     intro es
     induction es with
     |nil=>intro acc;simp[AB]
     |cons e es ih=>intro acc;rw[AB,ih];simp;omega
    rw[this];simp[x9]
   rw[List.getElem?_reverse (by omega),hlen,show ops.length - 1 - (ops.length - 1 - j)=j by omega]at h1;rw[h1];exact h
  simp_all
def done (listed:Array Bool)(i:Nat):Bool:=listed.getD i ar
theorem MA {ρ:Type}(hE:EnvOk E){B:Base}{K:St->Option ρ}{x:ρ}{Q:Exit->Act->World->Prop}(hK:KOk E B K x (Q .normal))(W:Way E ops 0 st lg){b:Nat->List Nat}(O:Order ops lg b)(an7:K (st ops.length)=J x)
  (Vm:∀s t,St.Eqv s t->K s=J x->∀g a w,jG E.fH g.dj->HRel B g t.hp w->ActRel E B g t.env a->Q .normal a w):
  ∀(fuel:Nat) (listed:Array Bool) (t:St),listed.size=ops.length->((a09 ops.length).filter λi=> !done listed i).length=fuel->
   (∀j,j<ops.length->done listed j=av->∀i∈b j,done listed i=av)->(∀p,t.get p=held st lg (done listed) p ops.length)->
   ∀g a w,jG E.fH g.dj->HRel B g t.hp w->ActRel E B g t.env a->wpAny E.P .any ops.toArray Q fuel listed a w:=by
 have full:∀(listed:Array Bool) (t:St),(∀i,i<ops.length->done listed i=av)->(∀p,t.get p=held st lg (done listed) p ops.length)->St.Eqv (st ops.length) t:=by
  intro listed t we ht;rw[KT];intro p;rw[ht p,HT W (aC _) λk hk _=>we k hk]
 have empty:∀(listed:Array Bool),listed.size=ops.length->Region.ready .any ops.toArray listed=[]->∀i,i<ops.length->done listed i=true:=by
  intro listed po hr i
  induction i using Nat.strongRecOn with
  |_ i ih=>
   intro hi
   cases hd:done listed i with
   |true=>rfl
   |false=>
    exfalso
    have hm:i∈Region.ready .any ops.toArray listed:=by
     rw[mem_ready];refine⟨?_,ops[i],by simp,λe he hb=> ?_⟩
     ·simp_all[done,Array.getD]
     ·have:=O.direct i ops[i] (aJ hi) e he hb;exact ih e.on this (by omega)
    simp_all
 intro fuel
 induction fuel with
 |zero=>
  intro listed t po ZS Gb ht g a w hG R V
  have we:∀i,i<ops.length->done listed i=true:=by
   simp_all
  refine⟨?_,Vm _ _ (full listed t we ht) an7 g a w hG R V⟩;rw[List.eq_nil_iff_forall_not_mem];simp_all[mem_ready,bG,done,Array.getD]
 |succ fuel ih=>
  intro listed t po ZS Gb ht g a w hG R V;refine⟨λhr=>Vm _ _ (full listed t (empty listed po hr) ht) an7 g a w hG R V,λi hi=> ?_⟩;obtain⟨h1,o,h2,h3⟩:=mem_ready.1 hi
  have aL0:i<ops.length:=by
   grind
  have ho:ops[i]?=J o:=by simp_all
  have o9:done listed i=false:=by
   simp_all[done,Array.getD]
  obtain⟨pre,a1,a2⟩:=W.step i o (aX _) ho
  have Yj:∀k∈b i,done listed k=true:=by
   intro k hk
   rcases O.closed i o ho k hk with⟨e,e1,e2,e3⟩|⟨e,e1,e2,e3⟩
   ·rw[<-e3];exact h3 e e1 e2
   ·have kI:=O.direct i o ho e e1 e2;exact Gb e.on (by omega) (h3 e e1 e2) k e3
  have later:∀k,i<k->k<ops.length->done listed k=av->Re (lg k) (lg i):=by
   intro k aU2 hk SL
   rcases O.apart i k aU2 hk with h|h
   ·have:=Gb k hk SL i h;rw[o9]at this;cases this
   ·exact h
  have agree:∀p∈(lg i).1,t.get p=pre.get p:=by
   intro p hp;rw[ht p,KT.1 a1 p]
   rw[zX (i:=i) (by omega) (λk h1 h2 SL hm=>by
    by_cases e:k=i
    ·subst e;rw[o9]at SL;cases SL
    ·exact(later k (by omega) h2 SL).2.1 p hm hp)]
   exact HT W (by omega) λk hk hm=>by
    rcases O.apart k i hk aL0 with h|h
    ·exact Yj k h
    ·exact absurd hm (h.2.2 p hp)
  obtain⟨_,_,_,aK3⟩:=AM.Hl _ a2;obtain⟨t',b1,b2,b3,b4⟩:=aK3 t agree;have EB:=AM.Tp _ b1
  refine EP hE ho EB hG R V λa' w' g' l R' V'=> ?_
  have B9:∀k,done (listed.setIfInBounds i av) k=(done listed k||decide (k=i)):=by
   intro k;unfold done
   by_cases e:k=i
   ·subst e;have kI:k<listed.size:=(by omega);simp[Array.getD,kI]
   ·have:(listed.setIfInBounds i av).getD k ar=listed.getD k false:=getD_set_ne ar (Ne.symm e);rw[this];simp[e]
  refine ih (listed.setIfInBounds i av) t' (by simpa using po) ?_ ?_ ?_ g' a' w' (hG.mono l.dj) R' V'
  ·have key:∀(l:List Nat),l.Nodup->i∈l->(l.filter λk=> !done listed k).length=(l.filter λk=> !done (listed.setIfInBounds i av) k).length+1:=by
    intro l
    induction l with
    |nil=>intro _ h;simp at h
    |cons y r aU1=>
     intro hn hm;rw[cg]at hn
     by_cases e:y=i
     ·subst e
      have hr:(r.filter λk=> !done (listed.setIfInBounds y av) k)=(r.filter λk=> !done listed k):=by
       apply List.filter_congr
       intro k hk
       have:k≠y:=λe=>hn.1 (e ▸ hk)
       rw[B9 k];simp[this]
      rw[List.filter_cons_of_pos (by simp[o9]),List.filter_cons_of_neg (by simp[B9]),hr];rfl
     ·have ad5:i∈r:=by
       rcases bA.1 hm with h|h
       ·exact absurd h.symm e
       ·exact h
      have:=aU1 hn.2 ad5
      cases hd:done listed y with
      |true=>rw[List.filter_cons_of_neg (by simp[hd]),List.filter_cons_of_neg (by simp[B9,hd])];exact this
      |false=>rw[List.filter_cons_of_pos (by simp[hd]),List.filter_cons_of_pos (by simp[B9,hd,e])];simp[this]
   have:=key (a09 ops.length) List.nodup_range (a03.2 aL0);omega
  ·intro j hj aF4 k hk;rw[B9]at aF4⊢;simp at aF4⊢
   rcases aF4 with h|h
   ·exact .inl (Gb j hj h k hk)
   ·subst h;exact .inl (Yj k hk)
  ·intro p
   by_cases hp:p∈(lg i).2
   ·rw[b4 p hp (by simp)]
    rw[zX (i:=i+1) (by omega) (λk h1 h2 SL hm=>by
     rw[B9]at SL;simp at SL
     rcases SL with h|h
     ·exact(later k (by omega) h2 h).1 p hm hp
     ·omega)]
    rw[held,ak ⟨by rw[B9];simp,hp⟩]
   ·rw[b2 p hp,ht p]
    have:∀n,held st lg (done listed) p n=held st lg (done (listed.setIfInBounds i av)) p n:=by
     intro n
     induction n with
     |zero=>rfl
     |succ n aS3=>
      rw[held,held,aS3]
      by_cases e:n=i
      ·subst e;rw[aj (λh=>hp h.2),aj (λh=>hp h.2)]
      ·have:done (listed.setIfInBounds i av) n=done listed n:=by rw[B9];simp[e]
       rw[this]
    exact this _
end
theorem HRel.drew {B:Base}{g:Gh}{hp:List (Nat×Obj)}{w:World}(R:HRel B g hp w)(n:Nat):HRel B g hp {w with drawn:=n}:=
 ⟨R.top,R.gE,R.dj,R.gA,R.gD,R.kH,R.frame,R.size,R.os,R.tape,R.output,R.fix⟩
theorem DY {ρ:Type}{E:Env}(hE:EnvOk E)(hm:E.P.follows .mixedOrders=av){B:Base}{id:Nat}{ops:Array Oper}{draw:Bool}{K:St->Option ρ}{x:ρ}{Q:Exit->Act->World->Prop}(hK:KOk E B K x (Q .normal))
  {s:St} (h:GS E ops.toList draw s K=J x) {g:Gh} {a:Act} {w:World} (hG:jG E.fH g.dj) (R:HRel B g s.hp w) (V:ActRel E B g s.env a):(Code.region id ops draw).wp E.P Q a w:=by
 cases draw with
 |false=>
  apply wp_region
  have:=AN hE hK ops.toList 0 s rfl h g a w hG R V;simp_all[List.range_eq_range']
 |true=>
  obtain⟨st,lg,k1,W,k3⟩:=Uo ops.toList 0 s [] rfl h
  cases hc:(Ab (x9 ops.toList) 0&&apart (((a32 0 ops.toList.length).map lg).reverse++[]) (AB (x9 ops.toList) []).reverse ops.toList.length)with
  |false=>grind
  |true=>
   simp at hc;obtain⟨b,O⟩:=Tw hc.1 hc.2
   apply wp_region_any hm
   have:=MA hE (Q:=Q) hK W O (by simp_all) (λs t e hs g a w hG R V=>hK s g a w hs hG (R.congr e.2) (V.congr e.1)) ops.toList.length (Array.replicate ops.toList.length ar) s (by simp) (by
     have:∀i,done (Array.replicate ops.toList.length ar) i=false:=by
      intro i;unfold done;simp[bU,Array.getElem?_replicate]
      grind
     grind [List.filter_eq_self,List.length_range]) (λj _ hd=>by
     simp_all[done,bU,Array.getElem?_replicate]) (λp=>by
     rw[zX (i:=0) (aX _) (λk _ _ hd=>by
      simp_all[done,bU,Array.getElem?_replicate])]
     show _=(st 0).get p
     rw[k1]) g a {w with drawn:=w.drawn+1} hG (R.drew _) V
   omega
end Go.Abs
end

section
namespace Go.Abs
noncomputable def Gh.mu (g:Gh)(id gen:Nat)(u:Value)(L:List Value):Gh:=
  open Classical in
  { g with top := fun i => if i = id then gen + 1 else g.top i
           cv:=λi k=>if i=id/\k=gen then u else g.cv i k
           outer:=λi=>if i=id then L else g.outer i}
theorem HRel.TJ {B:Base}{g:Gh}{hp:List (Nat×Obj)}{w:World}(R:HRel B g hp w)(id:Nat)(u:Value)(L:List Value):
  Le g (g.mu id (g.top id) u L)/\HRel B (g.mu id (g.top id) u L) ((id, .j1 (g.top id) (0,[]))::hp) w:=by
 have hle:Le g (g.mu id (g.top id) u L):=by
  refine⟨λ_ _ h=>h,λi=> ?_,λi k hk=> ?_⟩
  ·show g.top i<=if i=id then g.top id+1 else g.top i
   grind
  ·show(if i=id/\k=g.top id then u else g.cv i k)=g.cv i k
   grind
 refine⟨hle,λi=> ?_,λi oi hi=> ?_,R.dj,R.gA,R.gD,R.kH,R.frame,R.size,R.os,R.tape,R.output,R.fix⟩
 ·show(if i=id then g.top id+1 else g.top i)=_
  by_cases e:id=i
  ·subst e;rw[du,ak rfl];rfl
  ·rw[de _ _ e,aj (λh=>e h.symm)];exact R.top i
 ·by_cases e:id=i
  ·subst e;rw[du]at hi;injection hi with hi;subst hi;trivial
  ·rw[de _ _ e]at hi;exact(R.gE i oi hi).tr hle (λb hb=>⟨hb,rfl,rfl⟩) (by simp only[Gh.mu];grind) (jm R hi)
def uL (hp:List (Nat×Obj))(n:Nat):Prop:=∀i,n<=i->look hp i=ay
theorem HRel.zl {B:Base}{g:Gh}{hp:List (Nat×Obj)}{w:World}(R:HRel B g hp w){i:Nat}(h:look hp i=ay):g.top i=0:=by rw[R.top i,h]
def aj3 (cells:List Cell)(gE:List (Nat×Obj))(n n':Nat)(B:Base)(g:Gh)(hp:List (Nat×Obj))(w:World)(us:List Value)(nb:List Nat):Prop:=
 n<=n'/\uL (gE++hp) n'/\(∀i,i<n->look (gE++hp) i=look hp i)/\∃g',Le g g'/\(∀y,y∉nb->g'.fL y=g.fL y/\g'.gA y=g.gA y)/\(∀i,i<n->g'.outer i=g.outer i)/\HRel B g' (gE++hp) w/\dr g' cells us
theorem Qt {τ:Ty}{dp:Bool}{x:List τ.den}{n:Nat}{B:Base}{g:Gh}{hp:List (Nat×Obj)}{w:World}{us:List Value}{nb:List Nat}(R:HRel B g hp w)(hP:OwnAt g.dj w (dp&& !τ.flat) τ x us nb)(hO:gk g nb)(hn:∀b∈nb,g.gA b=ay)(hf:uL hp n):
  aj3 [.own n 0] [(n, .own 0 τ (dp||τ.flat) x)] n (n+1) B g hp w us nb:=by
 have ht:=R.zl (hf n (aC _))
 have Yp:∀o:Obj,uL ([(n,o)]++hp) (n+1):=λo i hi=>by
  show look ((n,o)::hp) i=ay;rw[de _ _ (by omega)];exact hf i (by omega)
 have hold:∀o:Obj,∀i,i<n->look ([(n,o)]++hp) i=look hp i:=λo i hi=>de _ _ (by omega)
 rcases hP with⟨rfl,hx,rfl⟩|⟨b,cap,arr,ty,ku,rfl,rfl,ha,hl,hs,hE⟩
 ·obtain⟨l,R'⟩:=R.named (id:=n) (u:= .slice ay 0 0) (o':= .own (g.top n) τ (dp||τ.flat) []) rfl (.inl ⟨by simp[Gh.name],rfl⟩);refine⟨bR _,Yp _,hold _,_,l.le,λx _=>⟨rfl,rfl⟩,λ_ _=>rfl, ?_,⟨_,[],rfl,⟨?_, ?_,rfl⟩,rfl⟩⟩
  all_goals simp_all[Gh.name]
 ·have J2:=hO.2 b (aF ..);have o9:=cg.1 hO.1
  have Vn:((dp||τ.flat)&& !τ.flat)=(dp&& !τ.flat):=by grind
  obtain⟨g',l,hk,ho,R',hc⟩:=R.oG (id:=n) (deep:=dp||τ.flat) (τ:=τ) (xs:=x) (nb:=ku) J2 (hn b (aF ..)) o9.1 ha hl hs o9.2 (λy hy=>⟨hO.2 y (aD _ hy),by
   unfold mH at hE;split at hE
   ·exact hE.uM y hy
   simp_all⟩) (by simp_all)
  rw[ht]at R' hc;refine⟨bR _,Yp _,hold _,g',l,λy hy=> ?_,λi hi=>ho i (by omega),R',⟨_,[],rfl,hc,rfl⟩⟩;simp_all
theorem Jr:∀(sp:Sp) (x:sp.ty.den) (pl:Nat×Nat) (n:Nat) (ib:Bool) {B:Base} {g:Gh} {hp:List (Nat×Obj)} {w:World} {rp:Nat×Nat} {us:List Value} {nb:List Nat},sp.whole ib=av->(ib=av->j9 g (J (pl.1,0,pl.2)) rp)->HRel B g hp w->Pass g.dj w sp x rp us nb->gk g nb->(∀b∈nb,g.gA b=ay)->uL hp n->
  aj3 (mk0 sp x pl n).1 (mk0 sp x pl n).2.1 n (mk0 sp x pl n).2.2 B g hp w us nb:=by
 intro sp
 induction sp with
 |un=>intro x pl n ib B g hp w rp us nb hw yt R hP hO hn hf;exact⟨aC _,hf,λ_ _=>rfl,g,Le.refl g,λ_ _=>⟨rfl,rfl⟩,λ_ _=>rfl,R,hP.1⟩
 |fh τ=>
  intro x pl n ib B g hp w rp us nb hw yt R hP hO hn hf;obtain⟨_,h1,u,rfl,hr⟩:=hP;exact⟨aC _,hf,λ_ _=>rfl,g,Le.refl g,λ_ _=>⟨rfl,rfl⟩,λ_ _=>rfl,R,u,[],rfl,⟨h1,hr⟩,rfl⟩
 |err=>
  intro x pl n ib B g hp w rp us nb hw yt R hP hO hn hf;obtain⟨_,u,rfl,hr⟩:=hP;exact⟨aC _,hf,λ_ _=>rfl,g,Le.refl g,λ_ _=>⟨rfl,rfl⟩,λ_ _=>rfl,R,u,[],rfl,hr,rfl⟩
 |np=>
  intro x pl n ib B g hp w rp us nb hw yt R hP hO hn hf;obtain⟨_,rfl⟩:=hP;exact⟨aC _,hf,λ_ _=>rfl,g,Le.refl g,λ_ _=>⟨rfl,rfl⟩,λ_ _=>rfl,R,_,[],rfl,rfl,rfl⟩
 |slf f m=>
  intro x pl n ib B g hp w rp us nb hw yt R hP hO hn hf;obtain⟨_,b,o,rfl⟩:=hP;have ht:=R.zl (hf n (aC _));obtain⟨l1,R1⟩:=R.named (id:=n) (u:= .pointer (J ⟨b,o,ay⟩)) (o':= .dead (g.top n)) rfl trivial;have AJ:(g.name n (g.top n) (.pointer (J ⟨b,o,ay⟩))).cv n (g.top n)= .pointer (J ⟨b,o,ay⟩):=(by simp[Gh.name]);have VO:g.top n<(g.name n (g.top n) (.pointer (J ⟨b,o,ay⟩))).top n:=(by simp[Gh.name]);rw[ht]at R1 AJ VO;rw[ht]at l1;refine⟨bR n,λi hi=> ?_,λi hi=> ?_,g.name n 0 (.pointer (J ⟨b,o,ay⟩)),l1.le,λ_ _=>⟨rfl,rfl⟩,λ_ _=>rfl,R1,⟨_,[],rfl,⟨VO,b,o,AJ,rfl⟩,rfl⟩⟩
  ·have hi:n+1<=i:=hi;show look ((n,_)::hp) i=ay;rw[de _ _ (by omega)];exact hf i (by omega)
  ·show look ((n,_)::hp) i=_
   grind [de]
 |own τ dp=>intro x pl n ib B g hp w rp us nb hw yt R hP hO hn hf;exact Qt R hP hO hn hf
 |lnd τ dp=>intro x pl n ib B g hp w rp us nb hw yt R hP hO hn hf;exact Qt R hP hO hn hf
 |Bc ok=>intro x pl n ib B g hp w rp us nb hw;cases hw
 |uY=>
  intro x pl n ib B g hp w rp us nb hw yt R hP hO hn hf;have YH:ib=true:=hw;obtain⟨YG,bb,oo,nE,rfl⟩:=yt YH _ _ _ rfl;have hB:sC g.dj w (bb,oo+pl.2) x us nb:=hP
  have two:∃u1 u2,us=[u1,u2]/\oc u1=true:=by
   rcases hB with⟨e,_⟩|⟨u2,e,_⟩
   ·exact⟨_,_,e,rfl⟩
   ·exact⟨_,_,e,rfl⟩
  obtain⟨u1,u2,rfl,aC0⟩:=two;have ht:=R.zl (hf n (aC _));have Vj:=R.zl (hf (n+1) (by omega));obtain⟨l1,R1⟩:=R.named (id:=n) (u:=u1) (o':= .dead (g.top n)) rfl trivial;have AJ:(g.name n (g.top n) u1).cv n (g.top n)=u1:=(by simp[Gh.name]);have VO:g.top n<(g.name n (g.top n) u1).top n:=(by simp[Gh.name]);have aZ9:(g.name n (g.top n) u1).top (n+1)=0:=(by simp[Gh.name,Vj]);obtain⟨g2,l2,k2,o2,R2,c2⟩:=R1.NC (id:=n+1) (a:=n) (ag:=g.top n) (bid:=pl.1) (bg:=0) (off:=pl.2) (xs:=x) (u2:=u2) (nb:=nb) VO (aR YG (l1.le.top _)) (by omega) (hO.mono l1) hn ((l1.le.cv _ _ YG).trans nE) (by rw[AJ];exact hB);have EA:dR g2 (.own n (g.top n)) u1:=⟨aR VO (l2.top _),by rw[l2.cv _ _ VO,AJ],aC0⟩;rw[aZ9]at R2 c2;rw[ht]at R2 EA;refine⟨Nat.le_add_right n 2,λi hi=> ?_,λi hi=> ?_,g2,l1.le.trans l2,k2,λi hi=>by rw[o2,l1.out],R2,⟨u1,[u2],rfl,EA,u2,[],rfl,c2,rfl⟩⟩
  ·have hi:n+2<=i:=hi;show look ((n+1,_)::(n,_)::hp) i=ay;rw[de _ _ (by omega),de _ _ (by omega)];exact hf i (by omega)
  ·show look ((n+1,_)::(n,_)::hp) i=_;rw[de _ _ (by omega),de _ _ (by omega)]
 |pr a b Dt Dr=>
  intro x pl n ib B g hp w rp us nb hw yt R hP hO hn hf;simp only[Sp.whole,aA]at hw;obtain⟨u1,u2,n1,n2,rfl,rfl,P1,P2⟩:=hP;have o9:=bC.1 hO.1
  have hd:∀y∈n2,y∉n1:=λy h2 h1=>o9.2.2 y h1 y h2 rfl
  obtain⟨m1,f1,i1,g1,l1,k1,o1,R1,c1⟩:=Dt x.1 pl n ib hw.1 yt R P1 ⟨o9.1,λy hy=>hO.2 y (aV _ hy)⟩ (λy hy=>hn y (aV _ hy)) hf
  obtain⟨m2,f2,i2,g2,l2,k2,o2,R2,c2⟩:=Dr x.2 (pl.1,pl.2+a.size) _ ib hw.2 (λe=>(((yt e).mono l1).on a.size)) R1 (P2.mono l1.dj) ⟨o9.2.1,λy hy=>by rw[(k1 y (hd y hy)).1];exact hO.2 y (aY _ hy)⟩
   (λy hy=>by rw[(k1 y (hd y hy)).2];exact hn y (aY _ hy)) f1
  refine⟨bX m1 m2, ?_,λi hi=> ?_,g2,l1.trans l2,λy hy=> ?_,λi hi=>(o2 i (by omega)).trans (o1 i hi), ?_,(c1.mono l2).append c2⟩
  ·show uL ((_++_)++hp) _;rw[aI];exact f2
  ·show look ((_++_)++hp) i=_;rw[aI,i2 i (by omega),i1 i hi]
  ·rw[aL,not_or]at hy;obtain⟨a1,a2⟩:=k1 y hy.1;obtain⟨b1,b2⟩:=k2 y hy.2;exact⟨b1.trans a1,b2.trans a2⟩
  ·show HRel B g2 ((_++_)++hp) w;rw[aI];exact R2
 |ptr wh st sp ih=>
  intro x pl n ib B g hp w rp us nb hw yt R hP hO hn hf;simp only[Sp.whole,aA]at hw;obtain⟨b,o,arr,ty,ku,rfl,rfl,ha,aA3,hle0,P⟩:=hP;obtain⟨rfl,po,rfl⟩:=aA3.1 hw.1;have o9:=cg.1 hO.1;have ht:=R.zl (hf n (aC _));obtain⟨l0,R0⟩:=R.TJ n (.pointer (J ⟨b,0,ay⟩)) arr.toList;have ZM:(g.mu n (g.top n) (.pointer (J ⟨b,0,ay⟩)) arr.toList).cv n 0= .pointer (J ⟨b,0,ay⟩):=(by simp[Gh.mu,ht]);have Rs:0<(g.mu n (g.top n) (.pointer (J ⟨b,0,ay⟩)) arr.toList).top n:=(by simp[Gh.mu]);have YE:(g.mu n (g.top n) (.pointer (J ⟨b,0,ay⟩)) arr.toList).outer n=arr.toList:=(by simp[Gh.mu])
  have Yy:∀i,i<n->(g.mu n (g.top n) (.pointer (J ⟨b,0,ay⟩)) arr.toList).outer i=g.outer i:=λi hi=>by
   simp only[Gh.mu];rw[aj (by omega)]
  have Rq:(g.mu n (g.top n) (.pointer (J ⟨b,0,ay⟩)) arr.toList).fL=g.fL:=rfl;have Ru:(g.mu n (g.top n) (.pointer (J ⟨b,0,ay⟩)) arr.toList).gA=g.gA:=rfl;have P0:Pass (g.mu n (g.top n) (.pointer (J ⟨b,0,ay⟩)) arr.toList).dj w sp x (b,0) ((arr.toList.drop 0).take sp.size) ku:=P
  generalize g.mu n (g.top n) (.pointer (J ⟨b,0,ay⟩)) arr.toList=g0 at l0 R0 ZM Rs YE Yy Rq Ru P0
  rw[ht]at R0
  obtain⟨m1,f1,i1,g1,l1,k1,o1,R1,c1⟩:=ih x (n,0) (n+1) av hw.2 (λ_ id gen off e=>by
    injection e with e;injection e with e1 e;injection e with e2 e3
    subst e1;subst e2;subst e3
    exact⟨Rs,b,0,ZM,rfl⟩) R0 P0 ⟨o9.2,λy hy=>by rw[Rq];exact hO.2 y (aD _ hy)⟩ (λy hy=>by rw[Ru];exact hn y (aD _ hy)) (λi hi=>by rw[de _ _ (by omega)];exact hf i (by omega))
  obtain⟨q1,q2⟩:=k1 b o9.1;rw[Rq]at q1;rw[Ru]at q2
  have we:(arr.toList.drop 0).take sp.size=arr.toList:=by
   rw[cc];exact a11 (by simp[po])
  rw[we]at c1;have Oz:look ((mk0 sp x (n,0) (n+1)).2.1++((n,Obj.j1 0 (0,[]))::hp)) n=J (.j1 0 (0,[])):=(by rw[i1 n (by omega),du]);have J2:g1.fL b=J 0:=q1.trans (hO.2 b (aF ..));have LZ:g1.gA b=none:=q2.trans (hn b (aF ..));have AJ:g1.cv n 0= .pointer (J ⟨b,0,ay⟩):=(l1.cv _ _ Rs).trans ZM;have VA:g1.outer n=arr.toList:=(o1 n (by omega)).trans YE
  let g2:Gh:={g1 with fL:=open Classical in λx=>if x=b then J (n+1)else g1.fL x}
  have SG:Le g1 g2:=⟨λ_ _ h=>h,λ_=>aC _,λ_ _ _=>rfl⟩
  have R2:HRel B g2 ((n, .box 0 (st.1,(mk0 sp x (n,0) (n+1)).1))::((mk0 sp x (n,0) (n+1)).2.1++((n,Obj.j1 0 (0,[]))::hp))) w:=by
   refine R1.Uy J2 LZ Oz rfl ⟨b,0,arr,st.1,arr.toList,AJ,⟨by simp,LZ⟩,ha,c1.mono SG, ?_, ?_,rfl, ?_,rfl⟩
   ·show arr.toList=(g1.outer n).take 0++arr.toList++(g1.outer n).drop (0+arr.toList.length);rw[VA];simp
   ·show 0+arr.toList.length<=(g1.outer n).length;rw[VA];simp
   ·show(g1.outer n).length=(mk0 sp x (n,0) (n+1)).1.length;rw[VA];exact c1.length
  have Vx:∀i,look ((n,Obj.box 0 (st.1,(mk0 sp x (n,0) (n+1)).1))::((mk0 sp x (n,0) (n+1)).2.1++hp)) i=look ((n,Obj.box 0 (st.1,(mk0 sp x (n,0) (n+1)).1))::((mk0 sp x (n,0) (n+1)).2.1++((n,Obj.j1 0 (0,[]))::hp))) i:=by
   intro i
   by_cases e:n=i
   ·subst e;rw[du,du]
   ·rw[de _ _ e,de _ _ e]
    have app:∀(l:List (Nat×Obj)),look (l++hp) i=look (l++((n,Obj.j1 0 (0,[]))::hp)) i:=by
     intro l
     induction l with
     |nil=>exact(de _ _ e).symm
     |cons p l ih=>
      show(bif aw p.1 i then J p.2 else look (l++hp) i)=(bif aw p.1 i then J p.2 else look (l++((n,Obj.j1 0 (0,[]))::hp)) i);rw[ih]
    exact app _
  refine⟨by show n<=(mk0 sp x (n,0) (n+1)).2.2;omega,λi hi=> ?_,λi hi=> ?_,g2,(l0.trans l1).trans SG,λy hy=> ?_,λi hi=>(o1 i (by omega)).trans (Yy i hi),R2.congr Vx,⟨_,[],rfl,⟨aR Rs (l1.top n),b,0,AJ,rfl⟩,rfl⟩⟩
  ·have hi:(mk0 sp x (n,0) (n+1)).2.2<=i:=hi;have:=f1 i hi;have h2:=Vx i;rw[de _ _ (by omega),de _ _ (by omega)]at h2;show look ((n,_)::((mk0 sp x (n,0) (n+1)).2.1++hp)) i=ay;rw[de _ _ (by omega),h2];exact this
  ·have h2:=Vx i;rw[de _ _ (by omega),de _ _ (by omega)]at h2;show look ((n,_)::((mk0 sp x (n,0) (n+1)).2.1++hp)) i=_;rw[de _ _ (by omega),h2,i1 i (by omega),de _ _ (by omega)]
  ·rw[bA,not_or]at hy;obtain⟨a1,a2⟩:=k1 y hy.2;exact⟨by simp[g2,hy.1,a1,Rq],by rw[show g2.gA=g1.gA from rfl,a2,Ru]⟩
def wT (a:Act):List Nat->List Value->Prop
 |[],us=>us=[]
 |t::ts,us=>∃u r,us=u::r/\a.tmps.getD t undef=u/\wT a ts r
theorem vU {a:Act}:∀(as:List VSp) (ts:List Nat) (x:(eI as).den) (n:Nat) {B:Base} {g:Gh} {hp:List (Nat×Obj)} {w:World} {us:List Value} {nb:List Nat},oV as=av->HRel B g hp w->jk g.dj w as x us nb->gk g nb->(∀b∈nb,g.gA b=ay)->uL hp n->
  wT a ts us->∃g',Le g g'/\HRel B g' ((xC as ts x n).2++hp) w/\∀t s,(t,s)∈(xC as ts x n).1->fG g' s (a.tmps.getD t undef)
 |[],ts,x,n,B,g,hp,w,us,nb,Rv,R,hP,hO,hn,hf,hs=>⟨g,Le.refl g,R,λt s h=>by grind [xC]⟩
 |sp::as,[],x,n,B,g,hp,w,us,nb,Rv,R,hP,hO,hn,hf,hs=>⟨g,Le.refl g,R,λt s h=>by grind [xC]⟩
 |sp::as,t::ts,x,n,B,g,hp,w,us,nb,Rv,R,hP,hO,hn,hf,hs=>by
  simp[oV]at Rv;obtain⟨u,r,n1,n2,rfl,rfl,P1,P2⟩:=hP;obtain⟨u',r',e,hu,Of⟩:=hs
  injection e with e1 e2
  subst e1;subst e2;have o9:=bC.1 hO.1
  have hd:∀y∈n2,y∉n1:=λy h2 h1=>o9.2.2 y h1 y h2 rfl
  have Yd:gk g n1:=⟨o9.1,λy hy=>hO.2 y (aV _ hy)⟩
  have Oc:∀y∈n1,g.gA y=none:=λy hy=>hn y (aV _ hy)
  have one:∃m g1,n<=m/\m=(BP sp x.1 n).2.2/\uL ((BP sp x.1 n).2.1++hp) m/\Le g g1/\(∀y,y∉n1->g1.fL y=g.fL y/\g1.gA y=g.gA y)/\HRel B g1 ((BP sp x.1 n).2.1++hp) w/\∀v,(BP sp x.1 n).1=J v->gx g1 v u:=by
   cases sp with
   |one s=>
    obtain⟨m1,f1,_,g1,l1,k1,_,R1,c1⟩:=Jr s x.1 (0,0) n ar Rv.1 (λe=>by cases e) R P1.2 Yd Oc hf;refine⟨_,g1,m1,rfl,f1,l1,k1,R1,λv hv=> ?_⟩;simp[BP]at hv;split at hv
    ·rename_i c hc
     injection hv with hv
     subst hv;rw[hc]at c1;obtain⟨u'',r'',aK0,aD8,_⟩:=c1
     injection aK0 with aK0
     subst aK0;exact aD8
    simp_all
   |agg s=>
    obtain⟨OA,rfl,P1⟩:=P1;obtain⟨m1,f1,_,g1,l1,k1,_,R1,c1⟩:=Jr s x.1 (0,0) n ar Rv.1 (λe=>by cases e) R P1 Yd Oc hf;refine⟨_,g1,m1,rfl,f1,l1,k1,R1,λv hv=> ?_⟩
    injection hv with hv
    subst hv;exact⟨OA,rfl,c1⟩
  obtain⟨m,g1,m1,em,f1,l1,k1,R1,c1⟩:=one;subst em
  have aO5:jk g1.dj w as x.2 r n2:=by
   have:∀(as:List VSp) (x:(eI as).den) (us:List Value) (nb:List Nat),jk g.dj w as x us nb->jk g1.dj w as x us nb:=by
    intro as
    induction as with
    |nil=>intro x us nb h;exact h
    |cons a as ih=>intro x us nb h;obtain⟨u,r,n1,n2,e,e',h1,h2⟩:=h;exact⟨u,r,n1,n2,e,e',h1.mono l1.dj,ih _ _ _ h2⟩
   simp_all
  obtain⟨g2,l2,R2,c2⟩:=vU as ts x.2 (BP sp x.1 n).2.2 Rv.2 R1 aO5 ⟨o9.2.1,λy hy=>by rw[(k1 y (hd y hy)).1];exact hO.2 y (aY _ hy)⟩
   (λy hy=>by simp_all) f1 Of
  refine⟨g2,l1.trans l2, ?_,λt' s ht=> ?_⟩
  ·show HRel B g2 ((_++_)++hp) w;simp_all
  ·simp[xC]at ht;split at ht
   ·rename_i v hv
    rcases bA.1 ht with ht|ht
    ·injection ht with h1 h2
     subst h1;subst h2;show gx g2 v _;rw[hu];exact gx.mono l2 (c1 v hv)
    ·exact c2 t' s ht
   ·exact c2 t' s ht
theorem CZ {β:Type}:∀{l:List (Nat×β)} {n:Nat} {b:β},look l n=J b->(n,b)∈l
 |[],_,_,h=>by cases h
 |(m,c)::r,n,b,h=>by
  simp[look]at h
  cases e:aw m n with
  |true=>rw[e]at h;injection h with h;subst h;rw[beq_eq e];exact aF ..
  |false=>rw[e]at h;exact aD _ (CZ h)
theorem RQ {E:Env}{B:Base}{g:Gh}{w:World}{as:List VSp}{ts:List Nat}{x:(eI as).den}{us:List Value}{nb:List Nat}{a:Act}(Rv:oV as=av)(R:HRel B g [] w)(hP:jk g.dj w as x us nb)(hO:gk g nb)(hn:∀b∈nb,g.gA b=ay)
  (hs:wT a ts us) (po:a.tmps.size=E.nt) (Yf:a.defers=[]) (hk:∀t∈E.oH,a.tmps.getD t undef=B.arg t) (au0:Zz E B) (hI:E.ini=ar) (hF:∀g',HRel B g' (dec ts as x).hp w->iM g' (dec ts as x).env a->E.fst=av->zC B g'):
  ∃g',Le g g'/\HRel B g' (dec ts as x).hp w/\ActRel E B g' (dec ts as x).env a:=by
 obtain⟨g',l,R',hc⟩:=vU as ts x nv Rv R hP hO hn (λi _=>rfl) hs;rw[aU]at R';exact⟨g',l,R',⟨λt s ht=>hc t s (CZ ht),po,Yf,hk,au0,λe=>by simp_all,hF g' R' λt s ht=>hc t s (CZ ht)⟩⟩
theorem HRel.at {B:Base}{g:Gh}{hp:List (Nat×Obj)}{w:World}(R:HRel B g hp w)(g1:Gh)(f1:Nat×Value):HRel {B with g0:=g1,f0:=f1} g hp w:=
 ⟨R.top,R.gE,R.dj,R.gA,R.gD,R.kH,R.frame,R.size,R.os,R.tape,R.output,R.fix⟩
def blk:Value->Nat
 | .pointer (J p)=>p.block
 |_=>0
theorem tB {B:Base}{g:Gh}{hp:List (Nat×Obj)}{w:World}(R:HRel B g hp w){n gen t:Nat}{cs:List Cell}(hl:look hp n=J (.box gen (t,cs))):∃b arr,g.cv n gen= .pointer (J ⟨b,0,ay⟩)/\w.heap[b]?=J (.cells arr t (0,0))/\dr g cs arr.toList:=by
 obtain⟨b,o,arr,ty,L,e1,_,e2,hc,e3,_,rfl,e4,rfl⟩:=R.gE n _ hl;have:=hc.length
 have:arr.toList=L:=by rw[e3,List.take_zero,List.drop_of_length_le (by omega)];simp
 exact⟨b,arr,e1,e2,by rw[this];exact hc⟩
theorem HX {B:Base}{g:Gh}{s:St}{a:Act}{w:World}(h:NX s=av)(R:HRel B g s.hp w)(V:iM g s.env a):
  ∃b arr ty q,(0<g.top nv/\0<g.top (nv+1))/\g.cv nv 0= .pointer (J ⟨b,0,ay⟩)/\a.tmps.getD 0 undef= .pointer (J ⟨b,0,ay⟩)/\w.heap[b]?=J (.cells arr ty (0,0))/\arr.toList=g.cv (nv+1) 0::q:=by
 unfold NX at h;split at h
 ·rename_i n ty m r h1 h2;rw[aA]at h;obtain rfl:=beq_eq h.1;obtain rfl:=beq_eq h.2;obtain⟨b,arr,c1,c2,x,q,c3,⟨t2,b1,o1,c4,c5⟩,_⟩:=tB R h2;obtain⟨t1,b2,o2,d1,d2⟩:=(V 0 _ h1:dR g (.ptr nv 0 0) (a.tmps.getD 0 undef))
  rw[c1]at d1;injection d1 with d1;injection d1 with d1;injection d1 with d1 d5;subst d1;subst d5
  exact⟨b,arr,ty,q,⟨t1,t2⟩,c1,d2,c2,by rw[c3,c5,c4];rfl⟩
 ·cases h
theorem OO {B B':Base}{g g':Gh}{s s':St}{a:Act}{w:World}(h:NX s=av)(h':NX s'=av)(R:HRel B g s.hp w)(V:iM g s.env a)(R':HRel B' g' s'.hp w)(V':iM g' s'.env a)(F:zC B g):zC B g':=by
 obtain⟨b,arr,ty,q,t,e1,e2,e3,e4⟩:=HX h R V;obtain⟨b',oa,Ds,q',t',f1,f2,f3,f4⟩:=HX h' R' V'
 rw[e2]at f2;injection f2 with f2;injection f2 with f2;injection f2 with f2;subst f2
 rw[e3]at f3;injection f3 with f3;injection f3 with f3;subst f3
 rw[e4]at f4;injection f4 with f4 _
 exact⟨t'.1,t'.2,f1.trans (e1.symm.trans F.2.2.1),f4.symm.trans F.2.2.2⟩
theorem Si {E:Env}{B:Base}{g:Gh}{w:World}{as:List VSp}{ts:List Nat}{x:(eI as).den}{us:List Value}{nb:List Nat}{a:Act}(Rv:oV as=av)(R:HRel B g [] w)(hP:jk g.dj w as x us nb)(hO:gk g nb)(hn:∀b∈nb,g.gA b=ay)
  (hs:wT a ts us) (po:a.tmps.size=E.nt) (Yf:a.defers=[]) (hk:∀t∈E.oH,a.tmps.getD t undef=B.arg t) (au0:Zz E B) (hF:pE E.fst (dec ts as x)=av):
  ∃g' f',Le g g'/\HRel {B with g0:=g',f0:=f'} g' (dec ts as x).hp w/\ActRel E {B with g0:=g',f0:=f'} g' (dec ts as x).env a/\(E.fst=av->∃arr ty q,w.heap[f'.1]?=J (.cells arr ty (0,0))/\arr.toList=f'.2::q):=by
 obtain⟨g',l,R',hc⟩:=vU as ts x nv Rv R hP hO hn (λi _=>rfl) hs;rw[aU]at R'
 have V':iM g' (dec ts as x).env a:=λt s ht=>hc t s (CZ ht)
 refine⟨g',(blk (g'.cv nv 0),g'.cv (nv+1) 0),l,R'.at _ _,⟨V',po,Yf,hk,au0,λ_=>Le.refl _,λe=> ?_⟩,λe=> ?_⟩
 all_goals
  rw[e]at hF;obtain⟨b,arr,ty,q,t,e1,e2,e3,e4⟩:=HX hF R' V'
 ·exact⟨t.1,t.2,by rw[e1];rfl,rfl⟩
 ·exact⟨arr,ty,q,by rw[e1];exact e3,e4⟩
open Classical in
theorem HRel.fresh {B:Base}{g:Gh}{hp:List (Nat×Obj)}{w:World}(R:HRel B g hp w){nb:List Nat}(hO:gk g nb):
  ∃g',g'.dj=g.dj/\HRel B g' [] w/\gk g' nb/\∀b∈nb,g'.gA b=none:=by
 refine⟨{dj:=g.dj,top:=λ_=>0,cv:=λ_ _=> .tuple #[],fL:=λx=>if x∈nb then J 0 else ay,gA:=λ_=>ay,outer:=λ_=>[]},rfl,⟨λ_=>rfl,(λi o h=>by cases h),λb L h=> ?_,(λb L h=>by cases h),λb h=> ?_,R.kH,λb hb hl hi=> ?_,R.size,R.os,R.tape,R.output,R.fix⟩,
  ⟨hO.1,λb hb=>by grind⟩,λ_ _=>rfl⟩
 ·obtain⟨a1,a2,a3⟩:=R.dj b L h
  have:b∉nb:=λhm=>by rw[hO.2 b hm]at a1;grind
  simp_all
 ·by_cases hm:b∈nb
  ·exact R.gD b (by rw[hO.2 b hm];simp)
  simp_all
 ·obtain⟨f1,f2,f3⟩:=R.frame b hb hl hi
  have:b∉nb:=λhm=>by rw[hO.2 b hm]at f1;grind
  simp_all
theorem yS:∀{ts:List Nat} {s s':St} {vs:List Val},(H2 ts).run s=J (vs,s')->s'=s/\∀{g:Gh} {a:Act},iM g s.env a->∃us,wT a ts us/\gW g vs us
 |[],_,_,_,h=>by obtain⟨rfl,rfl⟩:=cX h;exact⟨rfl,λ_=>⟨[],rfl,rfl⟩⟩
 |t::ts,s,s',vs,h=>by
  obtain⟨v,t1,h1,h2⟩:=AM.cV h;obtain⟨av6,t2,h3,h4⟩:=AM.cV h2;obtain⟨rfl,rfl⟩:=cX h4;simp only[AM.run]at h1;split at h1
  ·rename_i sl IA;obtain⟨rfl,rfl⟩:=vB h1;obtain⟨rfl,hr⟩:=yS h3;refine⟨rfl,λV=> ?_⟩;obtain⟨us,hs,hv⟩:=hr V;exact⟨_::us,⟨_,us,rfl,rfl,hs⟩,⟨_,us,rfl,V t _ IA,hv⟩⟩
  simp_all
theorem WT {E:Env}(hI:E.ini=ar){B:Base}{ts ts':List Nat}{as:List VSp}{s s':St}{x:(eI as).den}(hf:pE E.fst s=av)(Xp:pE E.fst (dec ts as x)=av)(h:(enc ts as).run s=J (x,s')){g:Gh}{a:Act}{w:World}(R:HRel B g s.hp w)(V:ActRel E B g s.env a):
  ∃g',(∀b L,g.dj b=J L->g'.dj b=J L)/\HRel B g' (dec ts as x).hp w/\ActRel E B g' (dec ts as x).env a:=by
 obtain⟨Rv,h⟩:=dQ h;obtain⟨vs,t,h1,h2⟩:=AM.cV h;obtain⟨rfl,hv⟩:=yS h1;obtain⟨us,hs,hr⟩:=hv V.env;obtain⟨_,VK⟩:=s9 h2;obtain⟨g1,l1,R1,c1⟩:=VK B g w R;obtain⟨nb,hP,hO,_,_⟩:=c1 us hr;obtain⟨g2,e2,R2,P7,YB⟩:=R1.fresh hO;obtain⟨g3,l3,R3,V3⟩:=RQ (E:=E) (ts:=ts) Rv R2 (by rw[e2];omega) P7 YB hs V.size V.defers V.kept V.slf hI (λg' R' V' e=>by rw[e]at hf Xp;exact OO hf Xp R V.env R' V' (V.fst e));exact⟨g3,λb L hb=>l3.dj b L (by rw[e2];exact l1.le.dj b L hb),R3,V3⟩
def FP (a:Act):List Nat->List Value->Prop
 |[],us=>us=[]
 |t::r,us=>∃b o v,us= .pointer (J ⟨b,o,ay⟩)::v/\a.tmps.getD t undef= .pointer (J ⟨b,o,ay⟩)/\FP a r v
def UQ (a:Act)(w:World):Der->Prop
 |[]=>True
 |d::r=>(match Rk d with
  |true=>∃t b arr ty x q,d.2.2=[t]/\a.tmps.getD t undef= .pointer (J ⟨b,0,ay⟩)/\w.heap[b]?=J (.cells arr ty (0,0))/\arr.toList=x::q/\a.tmps.getD d.1 undef=x
  |false=>∃vs:List Value,a.tmps.getD d.1 undef= .func (.func d.2.1) #[] vs.toArray/\FP a d.2.2 vs)/\UQ a w r
theorem GZ {s:St}{ts:List Nat}{p:Nat×Nat}(h:UU s ts=J p):∃t id gen ty r,ts=[t]/\look s.env t=J (.val (.one (.ptr id gen 0)))/\look s.hp id=J (.box gen (ty, .ptr p.1 p.2 0::r)):=by
 unfold UU at h;split at h
 ·split at h
  ·split at h
   ·rename_i t _ id gen h1 _ LV ty m k r h2
    cases hb:aw gen LV with
    |false=>rw[hb]at h;cases h
    |true=>
     rw[hb]at h
     injection h with h
     subst h;obtain rfl:=beq_eq hb;exact⟨t,id,gen,ty,r,rfl,h1,h2⟩
   ·cases h
  ·cases h
 ·cases h
theorem JL {g:Gh}{a:Act}{env:List (Nat×Slot)}(V:iM g env a):∀{ts:List Nat} {cs:List (Nat×Nat)} {us:List Value},Er env ts=J cs->uW g cs us->FP a ts us
 |[],cs,us,h,k=>by
  injection h with h
  subst h;exact k
 |t::ts,cs,us,h,k=>by
  simp[Er]at h;split at h
  ·rename_i id gen hl;simp at h;obtain⟨Jg,h1,rfl⟩:=h;obtain⟨b,o,v,rfl,ht,nE,hr⟩:=k;have hs:dR g (.ptr id gen 0) (a.tmps.getD t undef):=V t _ hl;obtain⟨_,b',o',e1,e2⟩:=hs;rw[nE]at e1
   injection e1 with e1;injection e1 with e1;injection e1 with e1 e3
   subst e1;subst e3;exact⟨b,o,v,rfl,e2,JL V h1 hr⟩
  simp_all
theorem Jv {g:Gh}{a:Act}{env:List (Nat×Slot)}(V:iM g env a):∀{ts:List Nat} {cs:List (Nat×Nat)} {us:List Value},Er env ts=J cs->FP a ts us->uW g cs us
 |[],cs,us,h,k=>by
  injection h with h
  subst h;exact k
 |t::ts,cs,us,h,k=>by
  simp[Er]at h;split at h
  ·rename_i id gen hl;simp at h;obtain⟨Jg,h1,rfl⟩:=h;obtain⟨b,o,v,rfl,hu,hr⟩:=k;have hs:dR g (.ptr id gen 0) (a.tmps.getD t undef):=V t _ hl;obtain⟨ht,b',o',e1,e2⟩:=hs;refine⟨b,o,v,rfl,ht, ?_,Jv V h1 hr⟩;simp_all
  simp_all
theorem Nf {B:Base}{g:Gh}{a:Act}{s:St}{w:World}(R:HRel B g s.hp w)(V:iM g s.env a):∀{Ag:Der},s4 s Ag=av->UQ a w Ag
 |[],_=>trivial
 |d::r,h=>by
  simp only[s4,aA]at h;refine⟨?_,Nf R V h.2⟩;have h1:=h.1;unfold QG C9 at h1
  cases hp:Rk d with
  |true=>
   rw[hp]at h1;split at h1
   ·rename_i hc;simp at hc
   ·rename_i m k m' k' hl hc;simp only[ai,bj]at hc;obtain⟨p,hc,e⟩:=hc
    injection e with e1 e2;subst e1;subst e2
    obtain⟨t,id,gen,ty,q,e,h2,h3⟩:=GZ hc;simp only[aA]at h1;obtain rfl:=beq_eq h1.1;obtain rfl:=beq_eq h1.2;obtain⟨b,arr,c1,c2,u,us,c3,⟨_,b1,o1,c4,c5⟩,_⟩:=tB R h3;obtain⟨_,b2,o2,d1,d2⟩:=(V t _ h2:dR g (.ptr id gen 0) (a.tmps.getD t undef));obtain⟨_,b3,o3,d3,d4⟩:=(V d.1 _ hl:dR g (.ptr p.1 p.2 0) (a.tmps.getD d.1 undef));refine⟨t,b,arr,ty,u,us,e, ?_,c2,c3, ?_⟩
    ·rw[c1]at d1;injection d1 with d1;injection d1 with d1;injection d1 with d1 d5;subst d1;subst d5;exact d2
    ·rw[c4]at d3;injection d3 with d3;injection d3 with d3;injection d3 with d3 d5;subst d3;subst d5;rw[d4,c5]
   ·cases h1
  |false=>
   rw[hp]at h1;split at h1
   ·rename_i f lh f' cs hl hc;simp only[ah,bj]at hc;obtain⟨Jg,hc,e⟩:=hc
    injection e with e1 e2;subst e1;subst e2
    simp only[aA]at h1;obtain rfl:=beq_eq h1.1;obtain rfl:=vv h1.2;obtain⟨vs,e,hv⟩:=(V d.1 _ hl:dR g (.fn d.2.1 lh) (a.tmps.getD d.1 undef));exact⟨vs,e,JL V hc hv⟩
   ·rename_i hc;simp at hc
   ·cases h1
theorem BH {B:Base}{g:Gh}{a:Act}{s:St}{w:World}(R:HRel B g s.hp w)(V:iM g s.env a):∀{Ag:Der},UQ a w Ag->iM g (derive s Ag) a
 |[],_=>V
 |d::r,⟨hd,hr⟩=>by
  have key:∀c,C9 s d=J c->dR g c (a.tmps.getD d.1 undef):=by
   intro c hc;unfold C9 at hc
   cases hp:Rk d with
   |true=>
    rw[hp]at hc hd;obtain⟨t,b,arr,ty,x,q,e,k1,k2,k3,k4⟩:=hd;simp only[ai,bj]at hc;obtain⟨p,hc,rfl⟩:=hc;obtain⟨t',id,gen,Ds,q',e',h2,h3⟩:=GZ hc
    rw[e]at e';injection e' with e';subst e'
    obtain⟨b',oa,c1,c2,u,us,c3,c4,_⟩:=tB R h3;obtain⟨_,b2,o2,d1,d2⟩:=(V t _ h2:dR g (.ptr id gen 0) (a.tmps.getD t undef))
    rw[c1]at d1;injection d1 with d1;injection d1 with d1;injection d1 with d1 d5;subst d1;subst d5
    rw[k1]at d2;injection d2 with d2;injection d2 with d2;injection d2 with d2 d5;subst d2
    rw[k2]at c2;injection c2 with c2;injection c2 with c2;subst c2
    rw[k3]at c3;injection c3 with c3;subst c3
    rw[k4];exact c4
   |false=>
    rw[hp]at hc hd;obtain⟨vs,e,hv⟩:=hd;simp only[ah,bj]at hc;obtain⟨cs,hc,rfl⟩:=hc;exact⟨vs,e,Jv V hc hv⟩
  simp only[derive];split
  ·rename_i c hc;intro t s' hl
   by_cases et:d.1=t
   ·subst et;rw[du]at hl
    injection hl with hl
    subst hl;exact key c hc
   ·rw[de _ _ et]at hl;exact BH R V hr t s' hl
  ·exact BH R V hr
theorem C5 {E:Env}(hI:E.ini=ar){B:Base}{ts:List Nat}{as:List VSp}{Ag:Der}{s s':St}{x:(eI as).den}(hd:s4 s Ag=av)(hf:pE E.fst s=av)(Xp:pE E.fst (dec ts as x)=av)(h:(enc ts as).run s=J (x,s')){g:Gh}{a:Act}{w:World}(R:HRel B g s.hp w)(V:ActRel E B g s.env a):
  ∃g',(∀b L,g.dj b=J L->g'.dj b=J L)/\HRel B g' (LJ ts as Ag x).hp w/\ActRel E B g' (LJ ts as Ag x).env a:=by
 obtain⟨g',hi,R',V'⟩:=WT hI (ts':=ts) hf Xp h R V;exact⟨g',hi,R',⟨BH R' V'.env (Nf R V.env hd),V'.size,V'.defers,V'.kept,V'.slf,V'.ini,V'.fst⟩⟩
end Go.Abs
end

section
namespace Go.Abs
def zU (E:Env)(c:Code)(h:Handler):Prop:=
 ∀(ρ:Type) (B:Base) (s:St) (K:Exit->St->Option ρ) (x:ρ) (Q:Exit->Act->World->Prop),h ρ s K=J x->(∀e,KOk E B (K e) x (Q e))->
  ∀g a w,jG E.fH g.dj->HRel B g s.hp w->ActRel E B g s.env a->c.wp E.P Q a w
def pieces:Code->List (Bool×Code)
 | .seq a b=>(ar,b)::(pieces a++pieces b)
 | .cond _ a b=>pieces a++pieces b
 | .block _ c=>pieces c
 | .loop c=>[(av,c)]
 | .scope c=>pieces c
 |_=>[]
structure CutsOk (E:Env)(H:Cuts)(c:Code):Prop where
 loop:∀b,(av,b)∈pieces c->∀h:Handler,(first b).bind H.loop=J h->zU E (.loop b) h
 join:∀b,(ar,b)∈pieces c->∀h:Handler,(first b).bind H.join=J h->zU E b h
theorem CutsOk.sub {E:Env}{H:Cuts}{c d:Code}(h:CutsOk E H c)(hs:∀p∈pieces d,p∈pieces c):CutsOk E H d:=
 ⟨λb hb=>h.loop b (hs _ hb),λb hb=>h.join b (hs _ hb)⟩
theorem Gk {s:St}{c:Operand}{t:Bool}{g:Gh}{a:Act}(h:C7 s c=J t)(V:iM g s.env a):a.eval c= .bool t:=by
 unfold C7 at h;split at h
 ·rename_i t';split at h
  ·rename_i b hb
   injection h with h
   subst h;exact oD (V t' _ hb)
  simp_all
 ·injection h with h;subst h;rfl
 simp_all
theorem BK {E:Env}(hE:EnvOk E)(hm:E.P.follows .mixedOrders=av){ρ:Type}{B:Base}{H:Cuts}:∀(c:Code) (s:St) (K:Exit->St->Option ρ) (x:ρ) (Q:Exit->Act->World->Prop),CutsOk E H c->exec E H c s K=J x->(∀e,KOk E B (K e) x (Q e))->
  ∀g a w,jG E.fH g.dj->HRel B g s.hp w->ActRel E B g s.env a->c.wp E.P Q a w:=by
 intro c
 induction c with
 |skip=>intro s K x Q _ h hK g a w hG R V;exact wp_skip (hK .normal s g a w h hG R V)
 |region id ops draw=>
  intro s K x Q _ h hK g a w hG R V;exact DY hE hm (hK .normal) h hG R V
 |seq c1 c2 ad4 ac5=>
  intro s K x Q hH h hK g a w hG R V
  have h1:CutsOk E H c1:=hH.sub λp hp=>aD _ (aV _ hp)
  have h2:CutsOk E H c2:=hH.sub λp hp=>aD _ (aY _ hp)
  refine wp_seq (ad4 s _ x _ h1 h (λe=> ?_) g a w hG R V)
  cases e with
  |normal=>
   intro s' g' a' w' hk LW R' V'
   cases hj:(first c2).bind H.join with
   |none=>
    rw[hj]at hk;exact ac5 s' K x Q h2 hk hK g' a' w' LW R' V'
   |some hh=>
    rw[hj]at hk;exact hH.join c2 (aF ..) hh hj ρ B s' K x Q hk hK g' a' w' LW R' V'
  |_=>intro s' g' a' w' hk LW R' V';exact hK _ s' g' a' w' hk LW R' V'
 |cond c c1 c2 ad4 ac5=>
  intro s K x Q hH h hK g a w hG R V;simp[exec]at h
  cases hb:C7 s c with
  |none=>simp_all
  |some t=>
   rw[hb]at h;refine wp_cond (Gk hb V.env) ?_
   rcases HN h with⟨rfl,h'⟩|⟨rfl,h'⟩
   ·exact ad4 s K x Q (hH.sub λp hp=>aV _ hp) h' hK g a w hG R V
   ·exact ac5 s K x Q (hH.sub λp hp=>aY _ hp) h' hK g a w hG R V
 |block id c ih=>
  intro s K x Q hH h hK g a w hG R V;refine wp_block (ih s _ x _ (hH.sub λp hp=>hp) h (λe=> ?_) g a w hG R V)
  cases e with
  |exit i=>
   intro s' g' a' w' hk LW R' V';simp at hk;simp only[Exit.inBlock]
   by_cases e:i=id
   ·rw[ak e];subst e;rw[Nat.beq_refl]at hk;exact hK .normal s' g' a' w' hk LW R' V'
   ·rw[aj e]
    have:aw i id=false:=by simp_all[Bool.eq_false_iff,beq_eq]
    rw[this]at hk;exact hK (.exit i) s' g' a' w' hk LW R' V'
  |_=>intro s' g' a' w' hk LW R' V';exact hK _ s' g' a' w' hk LW R' V'
 |loop c ih=>
  intro s K x Q hH h hK g a w hG R V;simp[exec]at h
  cases hj:(first c).bind H.loop with
  |none=>simp_all
  |some hh=>
   rw[hj]at h;exact hH.loop c (aF ..) hh hj ρ B s K x Q h hK g a w hG R V
 |exit i=>intro s K x Q _ h hK g a w hG R V;exact wp_exit (hK (.exit i) s g a w h hG R V)
 |ret=>intro s K x Q _ h hK g a w hG R V;exact wp_ret (hK .ret s g a w h hG R V)
 |label l=>intro s K x Q _ h hK g a w hG R V;exact wp_label (hK .normal s g a w h hG R V)
 |scope c ih=>
  intro s K x Q hH h hK g a w hG R V;refine wp_scope_straight (ih s _ x _ (hH.sub λp hp=>hp) h (λe=> ?_) g a w hG R V)
  cases e with
  |goto l=>intro s' g' a' w' hk;grind
  |_=>intro s' g' a' w' hk LW R' V';exact hK _ s' g' a' w' hk LW R' V'
 |_=>intro s K x Q _ h;cases h
theorem Ma {e e':Exit}(h:HH e e'=av):e=e':=by
 cases e<;>cases e'<;>first|rfl|(cases h;done)|skip
 rw[beq_eq h]
theorem CP {ρ:Type}{f:Bool}:∀{ws:List Way1} {e:Exit} {s:St} {y:qd ws} {K:Exit->St->Option ρ} {z:ρ},Ej f ws e s=J y->Ij ws y K=J z->
  ∃ts as Ag x s',s4 s Ag=av/\pE f s=av/\pE f (dec ts as x)=av/\(enc ts as).run s=J (x,s')/\K e (LJ ts as Ag x)=J z
 |[],_,_,_,_,_,h,_=>by cases h
 |w::r,e,s,y,K,z,h,hg=>by
  simp[Ej]at h
  cases hs:HH w.e e with
  |true=>
   rw[hs]at h;have h:(bif s4 s w.Ag&&pE f s then(enc w.ts w.as).exec s λz _=>bif pE f (dec w.ts w.as z)then J (.inl z)else ay else ay)=J y:=h
   cases hd:(s4 s w.Ag&&pE f s)with
   |false=>rw[hd]at h;cases h
   |true=>
    rw[hd]at h;rw[aA]at hd;obtain⟨x,s',h1,h2⟩:=oU h
    cases hf:pE f (dec w.ts w.as x)with
    |false=>rw[hf]at h2;cases h2
    |true=>
    rw[hf]at h2
    injection h2 with h2
    subst h2;have hg:K w.e (LJ w.ts w.as w.Ag x)=J z:=hg;exact⟨_,_,_,x,s',hd.1,hd.2,hf,h1,by rw[<-Ma hs];exact hg⟩
  |false=>
   rw[hs]at h;simp only[ah,bB]at h;obtain⟨y',h1,h2⟩:=h
   injection h2 with h2
   subst h2;exact CP h1 hg
def ss (P:Program)(c:Code)(Q:Exit->Act->World->Prop)(a:Act)(w:World):Prop:=
 ∀(b:Frame) (k:List Item) (cs:List Frame),∃e a' w',Q e a' w'/\Arrives P (lone (b.at a (.code c:: .inLoop c::k)) cs w) b k cs e a' w'
theorem ss.wp {P:Program}{c:Code}{Q:Exit->Act->World->Prop}{a:Act}{w:World}(h:ss P c Q a w):(Code.loop c).wp P Q a w:=by
 intro b k cs;obtain⟨e,a',w',hq,Dp⟩:=h b k cs;exact⟨e,a',w',hq, .of_steps (.one step_loop) Dp⟩
theorem ss.round {P:Program}{c:Code}{Q:Exit->Act->World->Prop}{a:Act}{w:World}(h:c.wp P (Exit.then (ss P c Q) Q) a w):ss P c Q a w:=by
 intro b k cs;obtain⟨e,a₁,w₁,hq,Dp⟩:=h b (.inLoop c::k) cs
 cases e with
 |normal=>
  obtain⟨e₂,a₂,w₂,aZ7,ap5⟩:=hq b k cs;exact⟨e₂,a₂,w₂,aZ7, .of_steps (Steps.trans Dp (.one step_inLoop)) ap5⟩
 |exit id=>exact⟨_,a₁,w₁,hq, .pass (x:= .inLoop c) rfl (λ_ _=> .inl (by simp)) Dp⟩
 |goto l=>exact⟨_,a₁,w₁,hq, .pass (x:= .inLoop c) rfl (λ_ _=> .inl (by simp)) Dp⟩
 |ret=>exact⟨_,a₁,w₁,hq, .pass (x:= .inLoop c) rfl (λ_ _=> .inl (by simp)) Dp⟩
 |panic ch=>exact⟨_,a₁,w₁,hq, .pass (x:= .inLoop c) rfl (λ_ _=> .inl (by simp)) Dp⟩
 |outgrown=>exact⟨_,a₁,w₁,hq, .pass (x:= .inLoop c) rfl (λ_ _=> .inl (by simp)) Dp⟩
def vE (E:Env)(c:Cut)(W:(Exit->Act->World->Prop)->Act->World->Prop)(L:(eI c.as).den->Option (qd c.ws)):Prop:=
 ∀x y,L x=J y->∀{ρ:Type} (B:Base) (K:Exit->St->Option ρ) (z:ρ) (Q:Exit->Act->World->Prop),Ij c.ws y K=J z->(∀e,KOk E B (K e) z (Q e))->
  ∀g a w,jG E.fH g.dj->HRel B g (LJ c.ts c.as c.Ag x).hp w->ActRel E B g (LJ c.ts c.as c.Ag x).env a->W Q a w
def Ic (E:Env)(c:Cut)(body:Code)(L:(eI c.as).den->Option (qd c.ws)):Prop:=vE E c (ss E.P body) L
def Lq (E:Env)(c:Cut)(body:Code)(L:(eI c.as).den->Option (qd c.ws)):Prop:=vE E c (λQ=>body.wp E.P Q) L
theorem Ic.none {E:Env}{c:Cut}{body:Code}:Ic E c body (λ_=> .none):=λx y h=>by cases h
theorem Lq.none {E:Env}{c:Cut}{body:Code}:Lq E c body (λ_=> .none):=λx y h=>by cases h
theorem Uh {E:Env}(hI:E.ini=ar){B:Base}{ρ:Type}{ws:List Way1}{y:qd ws}{K:Exit->St->Option ρ}{z:ρ}{Q:Exit->Act->World->Prop}(hg:Ij ws y K=J z)(hK:∀e,KOk E B (K e) z (Q e))(e:Exit):KOk E B (Ej E.fst ws e) y (Q e):=by
 intro s g a w hk hG R V;obtain⟨ts,as,Ag,x,s',hd,hf,Xp,h1,h2⟩:=CP hk hg;obtain⟨g',hi,R',V'⟩:=C5 hI hd hf Xp h1 R V;exact hK e _ g' a w h2 (hG.mono hi) R' V'
theorem TU {E:Env}(hI:E.ini=ar)(hE:EnvOk E)(hm:E.P.follows .mixedOrders=av){H:Cuts}{c:Cut}{body:Code}(hH:CutsOk E H body){L:(eI c.as).den->Option (qd c.ws)}(hL:Ic E c body L):Ic E c body (c.round E H body L):=by
 intro x y h ρ B K z Q hg hK g a w hG R V
 apply ss.round
 refine BK hE hm body _ _ y _ hH h (λe=> ?_) g a w hG R V
 cases e with
 |normal=>
  intro s' g' a' w' hk LW R' V';have hk:(bif s4 s' c.Ag&&pE E.fst s' then(enc c.ts c.as).exec s' λx' _=>bif pE E.fst (dec c.ts c.as x')then L x' else ay else ay)=J y:=hk
  cases hd:(s4 s' c.Ag&&pE E.fst s')with
  |false=>rw[hd]at hk;cases hk
  |true=>
   rw[hd]at hk;rw[aA]at hd;obtain⟨x',s'',h1,h2⟩:=oU hk
   cases hf:pE E.fst (dec c.ts c.as x')with
   |false=>rw[hf]at h2;cases h2
   |true=>
   rw[hf]at h2;obtain⟨g2,hi,R2,V2⟩:=C5 hI hd.1 hd.2 hf h1 R' V';exact hL x' y h2 B K z Q hg hK g2 a' w' (LW.mono hi) R2 V2
 |_=>exact Uh hI hg hK _
theorem V4 {E:Env}(hI:E.ini=ar)(hE:EnvOk E)(hm:E.P.follows .mixedOrders=av){H:Cuts}{c:Cut}{body:Code}(hH:CutsOk E H body):Lq E c body (c.tail E H body):=by
 intro x y h ρ B K z Q hg hK g a w hG R V;exact BK hE hm body _ _ y _ hH h (λe=>Uh hI hg hK e) g a w hG R V
theorem Kt {E:Env}(hI:E.ini=ar){c:Cut}{body:Code}{L:(eI c.as).den->Option (qd c.ws)}(hL:Ic E c body L):zU E (.loop body) (c.zZ E.fst L):=by
 intro ρ B s K x Q h hK g a w hG R V;have h:(bif s4 s c.Ag&&pE E.fst s then(enc c.ts c.as).exec s λx _=>bif pE E.fst (dec c.ts c.as x)then(L x).bind λy=>Ij c.ws y K else ay else ay)=J x:=h
 cases hd:(s4 s c.Ag&&pE E.fst s)with
 |false=>rw[hd]at h;cases h
 |true=>
  rw[hd]at h;rw[aA]at hd;obtain⟨x0,s',h1,h2⟩:=oU h
  cases hf:pE E.fst (dec c.ts c.as x0)with
  |false=>rw[hf]at h2;cases h2
  |true=>
  rw[hf]at h2;simp only[ai,bB]at h2;obtain⟨y,h3,h4⟩:=h2;obtain⟨g2,hi,R2,V2⟩:=C5 hI hd.1 hd.2 hf h1 R V;exact(hL x0 y h3 B K x Q h4 hK g2 a w (hG.mono hi) R2 V2).wp
theorem KC {E:Env}(hI:E.ini=ar){c:Cut}{body:Code}{L:(eI c.as).den->Option (qd c.ws)}(hL:Lq E c body L):zU E body (c.zZ E.fst L):=by
 intro ρ B s K x Q h hK g a w hG R V;have h:(bif s4 s c.Ag&&pE E.fst s then(enc c.ts c.as).exec s λx _=>bif pE E.fst (dec c.ts c.as x)then(L x).bind λy=>Ij c.ws y K else ay else ay)=J x:=h
 cases hd:(s4 s c.Ag&&pE E.fst s)with
 |false=>rw[hd]at h;cases h
 |true=>
  rw[hd]at h;rw[aA]at hd;obtain⟨x0,s',h1,h2⟩:=oU h
  cases hf:pE E.fst (dec c.ts c.as x0)with
  |false=>rw[hf]at h2;cases h2
  |true=>
  rw[hf]at h2;simp only[ai,bB]at h2;obtain⟨y,h3,h4⟩:=h2;obtain⟨g2,hi,R2,V2⟩:=C5 hI hd.1 hd.2 hf h1 R V;exact hL x0 y h3 B K x Q h4 hK g2 a w (hG.mono hi) R2 V2
end Go.Abs
end

section
namespace Go.Abs
theorem Pass.back {dj:Rd}{w0 w:World}:∀{s:Sp} {x:s.ty.den} {pl:Nat×Nat} {old us:List Value} {nb:List Nat},s.plain=av->Pass dj w s x pl us nb->pn dj w0 w s x pl old us nb
 | .un,_,_,_,_,_,_,k=>k
 | .pr _ _,_,_,_,_,_,hp,⟨u1,u2,n1,n2,e,e',k1,k2⟩=>by
  simp only[Sp.plain,aA]at hp;exact⟨u1,u2,n1,n2,e,e',Pass.back hp.1 k1,Pass.back hp.2 k2⟩
 | .fh _,_,_,_,_,_,_,k=>k
 | .own _ _,_,_,_,_,_,_,k=>k
 | .uY,_,_,_,_,_,_,k=>k
 | .Bc _,_,_,_,_,_,hp,_=>by cases hp
 | .err,_,_,_,_,_,_,k=>k
 | .np,_,_,_,_,_,_,k=>k
 | .slf _ _,_,_,_,_,_,hp,_=>by cases hp
 | .ptr _ _ _,_,_,_,_,_,hp,_=>by cases hp
 | .lnd _ _,_,_,_,_,_,hp,_=>by cases hp
theorem th.res {dj:Rd}{w:World}{a:VSp}{x:a.sp.ty.den}{u:Value}{nb:List Nat}(hp:a.sp.plain=av)(h:th dj w a x u nb):zx dj w a x u nb:=by
 cases a with
 |one s=>exact⟨h.1,Pass.back hp h.2⟩
 |agg s=>obtain⟨us,e,h⟩:=h;exact⟨us,e,Pass.back hp h⟩
theorem jk.res {dj:Rd}{w:World}:∀{as:List VSp} {x:(eI as).den} {us:List Value} {nb:List Nat},zR as=av->jk dj w as x us nb->tn dj w as x us nb
 |[],_,_,_,_,h=>h
 |_::_,_,_,_,hp,⟨u,r,n1,n2,e,e',h1,h2⟩=>by
  simp[zR]at hp;exact⟨u,r,n1,n2,e,e',h1.res hp.1,jk.res hp.2 h2⟩
def Ig (tmps:Array Value):ResultVar->Sem Value
 | .tmp t=>pure (tmps.getD t undef)
 | .cell c t=>do loadVar t (<-asAddr (tmps.getD c undef))
theorem Kn {E:Env}{r:ResultVar}{s s':St}{v:Val}(h:(Lo E r).run s=J (v,s')):s'.env=s.env/\∀{B:Base} {g:Gh} {a:Act} {w:World},jG E.fH g.dj->HRel B g s.hp w->iM g s.env a->
  ∃u g',(Ig a.tmps r).run E.P w= .ok u w/\Le g g'/\HRel B g' s'.hp w/\gx g' v u:=by
 cases r with
 |tmp t=>
  simp only[Lo,AM.run]at h;split at h
  ·rename_i sl IA;obtain⟨rfl,rfl⟩:=vB h;exact⟨rfl,λ_ R V=>⟨_,_,rfl,Le.refl _,R,V t _ IA⟩⟩
  simp_all
 |cell c t=>
  simp only[Lo,AM.run]at h;split at h
  ·rename_i sl IA;obtain⟨ag,t2,h3,h4⟩:=AM.cV h;obtain⟨n,t3,h5,h6⟩:=AM.cV h4;obtain⟨cs,t4,h7,h9⟩:=AM.cV h6;obtain⟨P6,rfl⟩:=eO h3;obtain⟨hn,rfl⟩:=eO h5;obtain rfl:=HI h9;obtain⟨he,hr⟩:=Ho h7;refine⟨he,λ{B g a w} hG R V=> ?_⟩;obtain⟨b,o',us,g',e,IE,hlen,l,R',hc⟩:=hr hG.one R (V c _ IA);obtain⟨_,hv⟩:=zf h9 hc;have EB:=GQ (E:=E) (w:=w) P6 hn hlen IE
   have hrun':(loadVar t ⟨b,o',ay⟩).run E.P w= .ok (if ag then .agg us.toArray else us.getD 0 undef) w:=by simp_all[a66,a44]
   refine⟨if ag then .agg us.toArray else us.getD 0 undef,g', ?_,l,R', ?_⟩
   ·show(do loadVar t (<-asAddr (a.tmps.getD c undef)):Sem Value).run E.P w=_;simp_all[asAddr]
   grind
  simp_all
theorem rr {E:Env}:∀{rs:List ResultVar} {s s':St} {vs:List Val},(C8 E rs).run s=J (vs,s')->s'.env=s.env/\∀{B:Base} {g:Gh} {a:Act} {w:World},jG E.fH g.dj->HRel B g s.hp w->iM g s.env a->
  ∃us g',(rs.mapM (Ig a.tmps)).run E.P w= .ok us w/\Le g g'/\HRel B g' s'.hp w/\gW g' vs us
 |[],s,s',vs,h=>by
  obtain⟨rfl,rfl⟩:=cX h;exact⟨rfl,λ_ R _=>⟨[],_,by simp,Le.refl _,R,rfl⟩⟩
 |r::rs,s,s',vs,h=>by
  obtain⟨v,t,h1,h2⟩:=AM.cV h;obtain⟨av6,t2,h3,h4⟩:=AM.cV h2;obtain⟨rfl,rfl⟩:=cX h4;obtain⟨e1,k1⟩:=Kn h1;obtain⟨e2,k2⟩:=rr h3;refine⟨e2.trans e1,λ{B g a w} hG R V=> ?_⟩;obtain⟨u,g1,a1,l1,R1,v1⟩:=k1 hG R V;obtain⟨us,g2,a2,l2,R2,v2⟩:=k2 (hG.mono l1.dj) R1 (by rw[e1];exact V.mono l1);refine⟨u::us,g2, ?_,l1.trans l2,R2,⟨u,us,rfl,v1.mono l2,v2⟩⟩;simp_all
theorem zb:∀{sp:Sp} {p:sp.qQ.den} {s s':St},(Ra sp).run s=J (p,s')->s'=s/\∀dj w0 w us,Df dj w0 w sp p us []
 | .un,_,_,_,h=>by obtain⟨rfl,rfl⟩:=cX h;exact⟨rfl,λ_ _ _ _=>rfl⟩
 | .fh _,_,_,_,h=>by obtain⟨rfl,rfl⟩:=cX h;exact⟨rfl,λ_ _ _ _=>rfl⟩
 | .own _ _,_,_,_,h=>by obtain⟨rfl,rfl⟩:=cX h;exact⟨rfl,λ_ _ _ _=>rfl⟩
 | .Bc _,_,_,_,h=>by obtain⟨rfl,rfl⟩:=cX h;exact⟨rfl,λ_ _ _ _=>rfl⟩
 | .uY,_,_,_,h=>by obtain⟨rfl,rfl⟩:=cX h;exact⟨rfl,λ_ _ _ _=>rfl⟩
 | .err,_,_,_,h=>by obtain⟨rfl,rfl⟩:=cX h;exact⟨rfl,λ_ _ _ _=>rfl⟩
 | .np,_,_,_,h=>by obtain⟨rfl,rfl⟩:=cX h;exact⟨rfl,λ_ _ _ _=>rfl⟩
 | .slf _ _,_,_,_,h=>by obtain⟨rfl,rfl⟩:=cX h;exact⟨rfl,λ_ _ _ _=>rfl⟩
 | .ptr _ _ _,_,_,_,h=>by cases h
 | .lnd _ _,_,_,_,h=>by cases h
 | .pr a b,p,s,s',h=>by
  obtain⟨x,t,h1,h2⟩:=AM.cV h;obtain⟨y,t2,h3,h4⟩:=AM.cV h2;obtain⟨rfl,rfl⟩:=cX h4;obtain⟨rfl,k1⟩:=zb h1;obtain⟨rfl,k2⟩:=zb h3;exact⟨rfl,λdj w0 w us=>⟨[],[],rfl,k1 _ _ _ _,k2 _ _ _ _⟩⟩
theorem dr.head {g:Gh}{c:Cell}{cs:List Cell}{us:List Value}(h:dr g (c::cs) us){n:Nat}{Rm:List Value}(e:Rm=us.take (n+1)):∃u,dR g c u/\Rm=u::(us.drop 1).take n:=by
 obtain⟨u,r,e',hu,_⟩:=h;simp_all
theorem MS {dj kH:Rd}{w0 w:World}{st:PT}{s:Sp}{x x0:s.ty.den}{pl aw2:Nat×Nat}{us:List Value}{nb OB:List Nat}(P1:Pass dj w (.ptr av st s) x pl us nb)(P0:Pass kH w0 (.ptr av st s) x0 aw2 us OB)
  (k:∀b arr kV ty E7 n1 n0,us=[.pointer (J ⟨b,0,ay⟩)]->w.heap[b]?=J (.cells arr ty (0,0))->w0.heap[b]?=J (.cells kV E7 (0,0))->Pass dj w s x (b,0) arr.toList n1->Pass kH w0 s x0 (b,0) kV.toList n0->pn dj w0 w s x (b,0) kV.toList arr.toList n1):pn dj w0 w (.ptr av st s) x pl us us nb:=by
 obtain⟨b,o,arr,ty,ku,e,rfl,ha,aA3,_,aP8⟩:=P1;obtain⟨rfl,po,rfl⟩:=aA3.1 rfl;obtain⟨b0,o0,kV,E7,nb0',e0,_,SW,aH3,_,hP0⟩:=P0;obtain⟨rfl,hsz0,rfl⟩:=aH3.1 rfl;rw[e]at e0
 injection e0 with e0 _;injection e0 with e0;injection e0 with e0;injection e0 with e0 _
 subst e0
 have we:(arr.toList.drop 0).take s.size=arr.toList:=by
  simp_all[cc,a11]
 have hall0:(kV.toList.drop 0).take s.size=kV.toList:=by
  simp_all[cc,a11]
 refine⟨b,0,kV,_,arr,arr.toList,ku,e,rfl,rfl,SW,ha, ?_,by simp_all,by omega, ?_⟩
 all_goals grind
theorem Mf {yq:List (Nat×Obj)}{c:Cell}{s s':St}(h:(stays yq c).run s=J ((),s')):s'=s/\∀{B:Base} {g0 g:Gh} {w0 w:World} {us:List Value},HRel B g0 yq w0->Le g0 g->HRel B g s.hp w->dr g [c] us->
  ∃b arr ty kV E7 x q q0,us=[.pointer (J ⟨b,0,ay⟩)]/\w.heap[b]?=J (.cells arr ty (0,0))/\w0.heap[b]?=J (.cells kV E7 (0,0))/\arr.toList=x::q/\kV.toList=x::q0:=by
 unfold stays at h;split at h
 ·rename_i n;obtain⟨hb,h⟩:=dQ h;simp only[AM.run]at h;split at h
  ·rename_i t m r hl;obtain⟨hm,h⟩:=dQ h;obtain⟨_,rfl⟩:=cX h;obtain rfl:=beq_eq hm;refine⟨rfl,λ{B g0 g w0 w us} R0 l R hc=> ?_⟩;unfold XX at hb;split at hb
   ·rename_i t0 m0 r0 ab2;simp only[aA]at hb;obtain rfl:=beq_eq hb.1;obtain⟨b,arr,e1,e2,x,q,e3,⟨_,b1,o1,e4,e5⟩,_⟩:=tB R hl;obtain⟨b',kV,f1,f2,x0,q0,f3,⟨_,b1',o1',f4,f5⟩,_⟩:=tB R0 ab2
    have t1:0<g0.top n:=by rw[R0.top,ab2];exact Nat.succ_pos _
    have t2:0<g0.top (n+1):=by
     rw[R0.top]
     cases hq:look yq (n+1)with
     |none=>rw[hq]at hb;cases hb.2
     |some o=>exact Nat.succ_pos _
    rw[l.cv n 0 t1,f1]at e1;rw[l.cv (n+1) 0 t2,f4]at e4
    injection e1 with e1;injection e1 with e1;injection e1 with e1 _
    subst e1
    injection e4 with e4;injection e4 with e4;injection e4 with e4 e6
    subst e4;subst e6;obtain⟨u,r,rfl,⟨_,bb,oo,q1,rfl⟩,hr⟩:=hc;subst hr;rw[l.cv n 0 t1,f1]at q1
    injection q1 with q1;injection q1 with q1;injection q1 with q1 q2
    subst q1;subst q2;exact⟨b',arr,_,kV,_,x,q,q0,rfl,e2,f2,e3,by rw[f3,f5,e5]⟩
   ·cases hb
  ·cases h
 ·cases h
theorem Kj {c:Cell}{s s':St}(h:(LA c).run s=J ((),s')):s'=s/\∀{B:Base} {g:Gh} {w0 w:World} {us:List Value},zC B g->(∃arr ty q,w0.heap[B.f0.1]?=J (.cells arr ty (0,0))/\arr.toList=B.f0.2::q)->HRel B g s.hp w->dr g [c] us->
  ∃b arr ty kV E7 x q q0,us=[.pointer (J ⟨b,0,ay⟩)]/\w.heap[b]?=J (.cells arr ty (0,0))/\w0.heap[b]?=J (.cells kV E7 (0,0))/\arr.toList=x::q/\kV.toList=x::q0:=by
 unfold LA at h;split at h
 ·rename_i n;obtain⟨hb,h⟩:=dQ h;obtain rfl:=beq_eq hb
  have h:(AM.kY nv fun
   |some (.box 0 (_, .ptr m 0 0::_))=>bif aw m (nv+1)then .ret ()else .fail
   |_=> .fail).run s=J ((),s'):=h
  simp only[AM.run]at h;split at h
  ·rename_i t m r hl;obtain⟨hm,h⟩:=dQ h;obtain⟨_,rfl⟩:=cX h;obtain rfl:=beq_eq hm;refine⟨rfl,λ{B g w0 w us} F ⟨kV,E7,q0,k1,k2⟩ R hc=> ?_⟩;obtain⟨b,arr,e1,e2,x,q,e3,⟨_,b1,o1,e4,e5⟩,_⟩:=tB R hl;obtain⟨u,r,rfl,⟨_,bb,oo,q1,rfl⟩,hr⟩:=hc;subst hr;rw[e1]at q1
   injection q1 with q1;injection q1 with q1;injection q1 with q1 q2
   subst q1;subst q2;have hb:b=B.f0.1:=congrArg blk (e1.symm.trans F.2.2.1);subst hb
   have hx:x=B.f0.2:=by rw[<-F.2.2.2,e5,e4];rfl
   exact⟨_,arr,t,kV,E7,x,q,q0,rfl,e2,k1,e3,by rw[hx];exact k2⟩
  ·cases h
 ·cases h
theorem KG {ini fst:Bool}{yq:List (Nat×Obj)}:∀{sp:Sp} {cells:List Cell} {s s':St} {p:sp.qQ.den} {rest:List Cell},(Lc ini fst yq sp cells).run s=J ((p,rest),s')->s'.env=s.env/\rest=cells.drop sp.size/\
  ∀{B:Base} {g:Gh} {w0 w:World} {kH:Rd} {x0:sp.ty.den} {rp:Nat×Nat} {us:List Value} {OB:List Nat},(ini=av->∃g0,HRel B g0 yq w0/\Le g0 g)->(fst=av->zC B g/\∃arr ty q,w0.heap[B.f0.1]?=J (.cells arr ty (0,0))/\arr.toList=B.f0.2::q)->HRel B g s.hp w->dr g (cells.take sp.size) us->Pass kH w0 sp x0 rp us OB->
   ∃g' nb,Lk g g'/\HRel B g' s'.hp w/\gk g' nb/\(∀b∈nb,g.fL b≠J 0)/\Df g'.dj w0 w sp p us nb:=by
 intro sp
 have nil:∀{sp:Sp} {p:sp.qQ.den} {B:Base} {g:Gh} {hp:List (Nat×Obj)} {w0 w:World} {us:List Value},HRel B g hp w->(∀dj,Df dj w0 w sp p us [])->
   ∃g' nb,Lk g g'/\HRel B g' hp w/\gk g' nb/\(∀b∈nb,g.fL b≠J 0)/\Df g'.dj w0 w sp p us nb:=λ{sp p B g hp w0 w us} R h=>
  ⟨g,[],Lk.refl g,R,⟨bf,λb hb=>by simp_all⟩,λb hb=>by simp_all,h _⟩
 induction sp with
 |un=>intro cells s s' p rest h;obtain⟨h1,rfl⟩:=cX h;injection h1 with h1 h2;subst h2;exact⟨rfl,rfl,λ_ _ R _ _=>nil R λ_=>rfl⟩
 |fh τ=>intro cells s s' p rest h;cases cells with|nil=>exact nomatch h|cons c cs=>obtain⟨h1,rfl⟩:=cX h;injection h1 with h1 h2;subst h2;exact⟨rfl,rfl,λ_ _ R _ _=>nil R λ_=>rfl⟩
 |own τ dp=>intro cells s s' p rest h;cases cells with|nil=>exact nomatch h|cons c cs=>obtain⟨h1,rfl⟩:=cX h;injection h1 with h1 h2;subst h2;exact⟨rfl,rfl,λ_ _ R _ _=>nil R λ_=>rfl⟩
 |err=>intro cells s s' p rest h;cases cells with|nil=>exact nomatch h|cons c cs=>obtain⟨h1,rfl⟩:=cX h;injection h1 with h1 h2;subst h2;exact⟨rfl,rfl,λ_ _ R _ _=>nil R λ_=>rfl⟩
 |np=>intro cells s s' p rest h;cases cells with|nil=>exact nomatch h|cons c cs=>obtain⟨h1,rfl⟩:=cX h;injection h1 with h1 h2;subst h2;exact⟨rfl,rfl,λ_ _ R _ _=>nil R λ_=>rfl⟩
 |slf f m=>intro cells s s' p rest h;cases cells with|nil=>exact nomatch h|cons c cs=>obtain⟨h1,rfl⟩:=cX h;injection h1 with h1 h2;subst h2;exact⟨rfl,rfl,λ_ _ R _ _=>nil R λ_=>rfl⟩
 |uY=>intro cells s s' p rest h;cases cells<;>exact nomatch h
 |Bc ok=>intro cells s s' p rest h;cases cells with|nil=>exact nomatch h|cons c cs=>obtain⟨h1,rfl⟩:=cX h;injection h1 with h1 h2;subst h2;exact⟨rfl,rfl,λ_ _ R _ _=>nil R λ_=>rfl⟩
 |pr a b Dt Dr=>
  intro cells s s' p rest h;obtain⟨⟨p1,r1⟩,t,h1,h2⟩:=AM.cV h;obtain⟨⟨q1,q2⟩,t2,h3,h4⟩:=AM.cV h2;obtain⟨h5,rfl⟩:=cX h4
  injection h5 with h5 h6
  subst h5;subst h6;obtain⟨ea,ra,sa⟩:=Dt h1;obtain⟨eb,rb,sb⟩:=Dr h3;refine⟨eb.trans ea,by rw[rb,ra,b8],λ{B g w0 w kH x0 rp us OB} hI hF R hc hP=> ?_⟩;obtain⟨u1,u2,m1,m2,rfl,rfl,P1,P2⟩:=hP;have nJ:=P1.length
  have c1:dr g (cells.take a.size) u1:=by
   have:=hc.take a.size;rw[b9,a07 (by show a.size<=a.size+b.size;omega),<-nJ,a45,nJ]at this;exact this
  have c2:dr g (r1.take b.size) u2:=by
   have:=hc.drop a.size;rw[show(Sp.pr a b).size=a.size+b.size from rfl,cr,show a.size+b.size - a.size=b.size by omega,<-ra,<-nJ,cN]at this;exact this
  obtain⟨g1,n1,l1,R1,O1,f1,X1⟩:=sa hI hF R c1 P1;obtain⟨g2,n2,l2,R2,O2,f2,X2⟩:=sb (λe=>(hI e).imp λ_ q=>⟨q.1,q.2.trans l1.le⟩) (λe=>⟨(hF e).1.mono l1.le,(hF e).2⟩) R1 (c2.mono l1.le) P2;refine⟨g2,n1++n2,l1.trans l2,R2,gk.append l2 O1 O2 f2,λb hb=> ?_,n1,n2,rfl, ?_, ?_⟩
  ·rcases aL.1 hb with hb|hb
   ·exact f1 b hb
   ·exact λe=>f2 b hb (l1.kp b e).1
  ·rw[<-nJ,a45];exact tA l2.le.dj X1
  ·rw[<-nJ,cN];exact X2
 |lnd τ dp=>
  intro cells s s' p rest h
  cases cells with
  |nil=>exact nomatch h
  |cons c cs=>
   obtain⟨⟨x,r⟩,t,h1,h2⟩:=AM.cV h;obtain⟨h3,rfl⟩:=cX h2
   injection h3 with h3 h4
   subst h3;subst h4;obtain⟨k,_,hs⟩:=xx (.own τ dp) _ _ _ _ _ _ h1;refine⟨k.1,rfl,λ{B g w0 w kH x0 rp us OB} hI hF R hc hP=> ?_⟩;obtain⟨g',l,R',XH⟩:=hs B g w R;obtain⟨u1,u2,nb,e,P1,O1,r1,f1,_⟩:=XH us (0,0) hc (j9.none _ _);have hl:us.length=1:=hP.length;have nJ:u1.length=1:=P1.length;have AL:u2=[]:=bn (by have:=congrArg a14 e;simp at this;omega);subst AL;rw[aU]at e;subst e;exact⟨g',nb,l,R',O1,f1,rfl,P1⟩
 |ptr wh st sr ih=>
  intro cells s s' p rest h
  cases cells with
  |nil=>exact nomatch h
  |cons c cs=>
   have fin:wh=av/\((BY (.ptr wh st sr) ay [c]).bind λp=>AM.ret (p.1,cs)).run s=J ((p,rest),s')/\(∀{B:Base} {g g':Gh} {w0 w:World} {kH:Rd} {x0:sr.ty.den} {us:List Value},(ini=av->∃g0,HRel B g0 yq w0/\Le g0 g)->(fst=av->zC B g/\∃arr ty q,w0.heap[B.f0.1]?=J (.cells arr ty (0,0))/\arr.toList=B.f0.2::q)->HRel B g s.hp w->dr g [c] us->∀b arr kV ty E7 n1 n0,us=[.pointer (J ⟨b,0,ay⟩)]->w.heap[b]?=J (.cells arr ty (0,0))->w0.heap[b]?=J (.cells kV E7 (0,0))->Pass g'.dj w sr p (b,0) arr.toList n1->Pass kH w0 sr x0 (b,0) kV.toList n0->pn g'.dj w0 w sr p (b,0) kV.toList arr.toList n1):=by
    have h0:(bif sr.plain&&wh then(BY (.ptr wh st sr) ay [c]).bind λp=>AM.ret (p.1,cs)else bif sr.inner&&wh then(bif ini then stays yq c else bif fst then LA c else .fail).bind λ_=>(BY (.ptr wh st sr) ay [c]).bind λp=> .ret (p.1,cs)else .fail).run s=J ((p,rest),s'):=h
    cases hb:(sr.plain&&wh)with
    |true=>
     rw[hb]at h0;rw[aA]at hb;exact⟨hb.2,h0,λ_ _ _ _ b arr kV ty E7 n1 n0 _ _ _ q _=>q.back hb.1⟩
    |false=>
     rw[hb]at h0;obtain⟨Cb,h0⟩:=dQ (b:=sr.inner&&wh) h0;rw[aA]at Cb;obtain⟨⟨⟩,t,h1,h2⟩:=AM.cV h0
     have pH:t=s/\∀{B:Base} {g:Gh} {w0 w:World} {us:List Value},(ini=av->∃g0,HRel B g0 yq w0/\Le g0 g)->(fst=av->zC B g/\∃arr ty q,w0.heap[B.f0.1]?=J (.cells arr ty (0,0))/\arr.toList=B.f0.2::q)->HRel B g s.hp w->dr g [c] us->
       ∃b arr ty kV E7 x q q0,us=[.pointer (J ⟨b,0,ay⟩)]/\w.heap[b]?=J (.cells arr ty (0,0))/\w0.heap[b]?=J (.cells kV E7 (0,0))/\arr.toList=x::q/\kV.toList=x::q0:=by
      cases ini with
      |true=>
       obtain⟨rfl,k⟩:=Mf h1;exact⟨rfl,λhI _ R hc=>by obtain⟨g0,R0,l0⟩:=hI rfl;exact k R0 l0 R hc⟩
      |false=>
       cases fst with
       |false=>cases h1
       |true=>
        obtain⟨rfl,k⟩:=Kj h1;exact⟨rfl,λ_ hF R hc=>k (hF rfl).1 (hF rfl).2 R hc⟩
     obtain⟨rfl,pH⟩:=pH;refine⟨Cb.2,h2,λ{B g g' w0 w kH x0 us} hI hF R hc b arr kV ty E7 n1 n0 e ha SW q q0=> ?_⟩;obtain⟨b',a1,t1,a2,t2,v,v1,v2,e',f1,f2,f3,f4⟩:=pH hI hF R hc;rw[e]at e'
     injection e' with e' _;injection e' with e';injection e' with e';injection e' with e' _
     subst e';rw[ha]at f1
     injection f1 with f1;injection f1 with f1 _
     subst f1;rw[SW]at f2
     injection f2 with f2;injection f2 with f2 _
     subst f2
     have one:∀{i1 i0:Rd} {Xq:Bool} {ZN:PT} {s2:Sp} {x x0:s2.ty.den} {u u0:List Value} {pl aw2:Nat×Nat} {m m0:List Nat},(s2.plain&&Xq)=av->Pass i1 w (.ptr Xq ZN s2) x pl u m->Pass i0 w0 (.ptr Xq ZN s2) x0 aw2 u0 m0->u.head?=u0.head?->u0=u/\pn i1 w0 w (.ptr Xq ZN s2) x pl u u m:=by
      intro i1 i0 Xq ZN s2 x x0 u u0 pl aw2 m m0 hp P P0 hh;rw[aA]at hp;obtain⟨yt,rfl⟩:=hp;have l1:u.length=1:=P.length;have l0:u0.length=1:=P0.length
      have e:u0=u:=by
       match u,u0,l1,l0 with
       |[a],[b],_,_=>simpa using hh.symm
      subst e;exact⟨rfl,MS P P0 λb arr kV ty E7 n1 n0 _ _ _ q _=>q.back yt⟩
     cases sr with
     |ptr Xq ZN s2=>
      obtain⟨k1,k2⟩:=one Cb.1 q q0 (by rw[f3,f4];rfl);rw[k1];exact k2
     |pr sa sb=>
      cases sa with
      |ptr Xq ZN s2=>
       have hi:(s2.plain&&Xq&&sb.plain)=true:=Cb.1;rw[aA]at hi;obtain⟨u1,u2,m1,m2,e1,e2,P1,P2⟩:=q;obtain⟨ad3,aT5,m1',m2',XP,e2',ZQ,aO5⟩:=q0;have l1:u1.length=1:=P1.length;have aY3:ad3.length=1:=ZQ.length
       have hh:u1.head?=ad3.head?:=by
        match u1,ad3,l1,aY3 with
        |[c1],[c2],_,_=>
         rw[f3]at e1;rw[f4]at XP
         injection e1 with e1 _;injection XP with XP _
         rw[<-e1,<-XP]
       obtain⟨k1,k2⟩:=one hi.1 P1 ZQ hh;subst k1;refine⟨ad3,u2,m1,m2,e1,e2, ?_,P2.back hi.2⟩
       have:kV.toList.take (Sp.ptr Xq ZN s2).size=ad3:=by rw[XP];exact List.take_left' l1
       rw[this];exact k2
      |_=>exact absurd Cb.1 (by simp[Sp.inner])
     |_=>exact absurd Cb.1 (by simp[Sp.inner])
   obtain⟨rfl,h0,key⟩:=fin;obtain⟨⟨x,r⟩,t,h1,h2⟩:=AM.cV h0;obtain⟨h3,rfl⟩:=cX h2
   injection h3 with h3 h4
   subst h3;subst h4;obtain⟨k,_,hs⟩:=xx (.ptr av st sr) _ _ _ _ _ _ h1;refine⟨k.1,rfl,λ{B g w0 w kH x0 rp us OB} hI hF R hc hP=> ?_⟩;obtain⟨g',l,R',XH⟩:=hs B g w R;obtain⟨u1,u2,nb,e,P1,O1,r1,f1,_⟩:=XH us (0,0) hc (j9.none _ _);have hl:us.length=1:=hP.length;have nJ:u1.length=1:=P1.length;have AL:u2=[]:=bn (by have:=congrArg a14 e;simp at this;omega);subst AL;rw[aU]at e;subst e;exact⟨g',nb,l,R',O1,f1,MS P1 hP (key hI hF R hc)⟩
theorem I2 {E:Env}{yq:List (Nat×Obj)}:∀{as:List VSp} {n:Nat} {s s':St} {y:(rk as).den},(K2 E.ini E.fst yq E.oH as n).run s=J (y,s')->
  ∀{B:Base} {g:Gh} {a:Act} {w0 w:World} {kH:Rd} {x0:(eI as).den} {args:List Value} {OB:List Nat},(E.ini=av->∃g0,HRel B g0 yq w0/\Le g0 g)->(E.fst=av->∃arr ty q,w0.heap[B.f0.1]?=J (.cells arr ty (0,0))/\arr.toList=B.f0.2::q)->HRel B g s.hp w->ActRel E B g s.env a->jk kH w0 as x0 args OB->(∀k u,args[k]?=J u->B.arg (n+k)=u)->
   ∃g' nb,Lk g g'/\HRel B g' s'.hp w/\gk g' nb/\(∀b∈nb,g.fL b≠J 0)/\l6 g'.dj w0 w as y args nb:=by
 intro as
 induction as with
 |nil=>
  intro n s s' y h B g a w0 w kH x0 args OB hI hF R V hP hA;obtain⟨_,rfl⟩:=cX h;exact⟨g,[],Lk.refl g,R,⟨bf,λb hb=>by simp_all⟩,λb hb=>by simp_all,hP.1,rfl⟩
 |cons sp as ih=>
  intro n s s' y h B g a w0 w kH x0 args OB hI hF R V hP hA;obtain⟨u,r,m1,m2,rfl,rfl,P1,P2⟩:=hP
  have L4:∀k v,r[k]?=J v->B.arg (n+1+k)=v:=λk v hk=>by
   have:=hA (k+1) v (by simp_all)
   grind
  obtain⟨p,t,h1,h2⟩:=AM.cV h;obtain⟨q,t2,h3,h4⟩:=AM.cV h2;obtain⟨rfl,rfl⟩:=cX h4
  cases ho:sp.sp.Ls with
  |false=>
   rw[ho]at h1;obtain⟨rfl,k⟩:=zb h1;obtain⟨g',nb,l,R',hO,hf,hX⟩:=ih h3 hI hF R V P2 L4;exact⟨g',nb,l,R',hO,hf,u,r,[],nb,rfl,rfl,k _ _ _ _,hX⟩
  |true=>
   rw[ho]at h1;obtain⟨hb,h0⟩:=dQ h1;obtain⟨v,t0,h5,h6⟩:=AM.cV h0;obtain⟨⟨p',rest⟩,t1,h7,h8⟩:=AM.cV h6;obtain⟨rfl,rfl⟩:=cX h8;simp only[AM.run]at h5;split at h5
   ·rename_i sl IA;obtain⟨rfl,rfl⟩:=vB h5;obtain⟨e1,_,hs⟩:=KG h7
    have SO:gx g v u:=by
     have h1:fG g (.val v) (a.tmps.getD n undef):=V.env n _ IA;obtain⟨k,hk,aU8⟩:=List.any_eq_true.1 hb;rw[V.kept n (by rw[beq_eq aU8];exact hk),show B.arg n=u from hA 0 u rfl]at h1;exact h1
    have kG:=SO.cells
    have ZQ:∃rp,Pass kH w0 sp.sp x0.1 rp u.cells.toList m1:=by
     cases sp with
     |one sq=>exact⟨(0,0),by rw[D4 P1.1];exact P1.2⟩
     |agg sq=>obtain⟨us,rfl,P1⟩:=P1;exact⟨(0,0),P1⟩
    obtain⟨rp,ZQ⟩:=ZQ;have hlen:=kG.length;rw[ZQ.length]at hlen;have al3:v.cells.take sp.sp.size=v.cells:=(by rw[hlen,ck]);obtain⟨g1,n1,l1,R1,Yd,an9,X1⟩:=hs hI (λe=>⟨V.fst e,hF e⟩) R (by rw[al3];exact kG) ZQ;obtain⟨g2,n2,l2,R2,P7,Xp,hX⟩:=ih h3 (λe=>(hI e).imp λ_ q=>⟨q.1,q.2.trans l1.le⟩) hF R1 ((V.mono l1.le).Lw e1) P2 L4;refine⟨g2,n1++n2,l1.trans l2,R2,gk.append l2 Yd P7 Xp,λb hb=> ?_,u,r,n1,n2,rfl,rfl,tA l2.le.dj X1,hX⟩
    rcases aL.1 hb with hb|hb
    ·exact an9 b hb
    ·exact λe=>Xp b hb (l1.kp b e).1
   ·cases h5
theorem ze {P:Program}{fn:Func}{tmps:Array Value}{w:World}{us:List Value}(h:(fn.results.toList.mapM (Ig tmps)).run P w= .ok us w):
  (results fn tmps).run P w= .ok (match us with|[u]=>u|us=> .tuple us.toArray) w:=by
 have e:(fn.results.mapM (Ig tmps)).run P w= .ok us.toArray w:=by
  simp_all[Array.mapM_eq_mapM_toList]
 have hr:results fn tmps=(do
  let vs<-fn.results.mapM (Ig tmps)
  pure (if h:vs.size=1 then vs[0]else .tuple vs)):=rfl
 rw[hr];simp[e]
 match us with
 |[]=>rfl
 |[u]=>rfl
 |u::v::r=>rfl
theorem yR {g:Gh}:∀{vs:List Val} {us:List Value},gW g vs us->us.length=vs.length
 |[],_,h=>by have h:_=_:=h;simp_all
 |_::_,_,⟨_,_,e,_,hr⟩=>by subst e;simp[yR hr]
theorem Kw {E:Env}{fn:Func}{r:RSp}{s s':St}{y:r.ty.den}(h:(T9 E fn.results.toList r).run s=J (y,s')):s'.env=s.env/\∀{B:Base} {g:Gh} {a:Act} {w:World},jG E.fH g.dj->HRel B g s.hp w->iM g s.env a->
  ∃v g' nb,(results fn a.tmps).run E.P w= .ok v w/\Le g g'/\HRel B g' s'.hp w/\gk g' nb/\xW g'.dj w r y v nb:=by
 cases r with
 |none=>
  obtain⟨vs,t,h1,h2⟩:=AM.cV h;split at h2
  ·obtain⟨_,rfl⟩:=cX h2;obtain⟨e1,k1⟩:=rr h1;refine⟨e1,λ{B g a w} hG R V=> ?_⟩;obtain⟨us,g1,a1,l1,R1,v1⟩:=k1 hG R V;subst v1;exact⟨_,g1,[],ze a1,l1,R1,⟨bf,λb hb=>by simp_all⟩,rfl,rfl⟩
  ·cases h2
 |val sp=>
  obtain⟨vs,t,h1,h2⟩:=AM.cV h;obtain⟨hp,h3⟩:=dQ h2;split at h3
  ·rename_i v;obtain⟨e1,k1⟩:=rr h1;obtain⟨e2,k2⟩:=EF h3;refine⟨e2.1.trans e1,λ{B g a w} hG R V=> ?_⟩;obtain⟨us,g1,a1,l1,R1,v1⟩:=k1 hG R V;obtain⟨u,rfl,hv⟩:=Nk v1 rfl;obtain⟨g2,l2,R2,c2⟩:=k2 B g1 w R1;obtain⟨nb,hP,hO,_⟩:=c2 u hv;exact⟨u,g2,nb,ze a1,l1.trans l2.le,R2,hO,hP.res hp⟩
  ·cases h3
 |yc as=>
  obtain⟨vs,t,h1,h2⟩:=AM.cV h;obtain⟨hp,h3⟩:=dQ h2;split at h3
  ·cases h3
  ·rename_i yu;obtain⟨e1,k1⟩:=rr h1;obtain⟨e2,k2⟩:=s9 h3;refine⟨e2.1.trans e1,λ{B g a w} hG R V=> ?_⟩;obtain⟨us,g1,a1,l1,R1,v1⟩:=k1 hG R V;obtain⟨g2,l2,R2,c2⟩:=k2 B g1 w R1;obtain⟨nb,hP,hO,_⟩:=c2 us v1;have hl:=yR v1;have hr:=ze a1;refine⟨.tuple us.toArray,g2,nb, ?_,l1.trans l2.le,R2,hO,us,rfl,hP.res hp⟩;rw[hr]
   match us,hl with
   |[],_=>rfl
   |[u],hl=>
    exfalso
    match vs,hl with
    |[v],_=>exact yu v rfl
   |u::v::r,_=>rfl
theorem xM {dj:Rd}{w:World}:∀{as:List VSp} {x:(eI as).den} {us:List Value} {nb:List Nat},jk dj w as x us nb->us.length=as.length
 |[],_,_,_,h=>by rw[h.1];rfl
 |_::_,_,_,_,⟨u,r,n1,n2,e,_,_,h⟩=>by rw[e];simp[xM h]
theorem AU {a:Act}:∀(as:List VSp) (n:Nat) (us:List Value),us.length=as.length->(∀k u,us[k]?=J u->a.tmps.getD (n+k) undef=u)->wT a (upto as n) us
 |[],_,us,h,_=>bn h
 |_::as,n,[],h,_=>by grind
 |_::as,n,u::r,h,hk=>⟨u,r,rfl,hk 0 u rfl,AU as (n+1) r (by simp_all) λk v hv=>by
   have:=hk (k+1) v (by simp_all)
   grind⟩
theorem KX {E:Env}(hE:EnvOk E)(hm:E.P.follows .mixedOrders=av){f:FuncId}{fn:Func}{c:Code}{sg:Sig}{H:Cuts}(hf:E.P.funcs[f]?=J fn)(hb:fn.body=J c)(Rl:(fn.name== "runtime.NumGoroutine")=ar)
  (hnt:fn.ntmps=E.nt) (Yx:sg.args.length<=E.nt) (ak6:(E.oH.all λt=>cE t sg.args.length)=av) (Rv:oV sg.args=av) (IA:E.slf=HA sg.args) (hH:CutsOk E H c):xB E.P E.fH f ⟨sg,Ii E fn sg H⟩:=by
 classical
 intro x y hF dj w args nb hG kG hP o9 Be aS1;have hF:Ii E fn sg H x=J y:=hF;unfold Ii at hF;rw[hb]at hF;have hF:(bif pE E.fst (dec (upto sg.args 0) sg.args x)then exec E H c (dec (upto sg.args 0) sg.args x) (atEnd E (dec (upto sg.args 0) sg.args x).hp fn.results.toList sg)else ay)=J y:=hF
 cases aB0:pE E.fst (dec (upto sg.args 0) sg.args x)with
 |false=>rw[aB0]at hF;cases hF
 |true=>
 rw[aB0,ai]at hF
 have N8:(callFunc f args.toArray).run E.P w= .ok (.enter f args.toArray) w:=by
  simp_all[callFunc]
 unfold jR;rw[N8];simp;have hlen:args.length=sg.args.length:=xM hP
 let B0:Base:={dj:=dj,fL:=λb=>if b∈nb then J 0 else ay,w:=w,arg:=λt=>args.getD t undef}
 let g0:Gh:={dj:=dj,top:=λ_=>0,cv:=λ_ _=> .tuple #[],fL:=λb=>if b∈nb then J 0 else ay,gA:=λ_=>ay,outer:=λ_=>[]}
 have R0:HRel B0 g0 [] w:=by
  refine⟨λ_=>rfl,(λi o h=>by cases h),λb L h=> ?_,(λb L h=>by cases h),λb h=> ?_,λb L h=>h,λb hb hl hi=>⟨hl,hi,rfl⟩,aC _,rfl,rfl,rfl,λ_ _ _=>rfl⟩
  all_goals grind
 refine calls_of_wp hf hb ?_
 let a0:Act:={tmps:=args.toArray++Array.replicate (fn.ntmps - args.toArray.size) undef,defers:=[]}
 have aa3:∀k u,args[k]?=J u->a0.tmps.getD k undef=u:=by
  intro k u hk;have kI:=(bw.1 hk).1;simp
  grind
 have po:a0.tmps.size=E.nt:=by
  grind
 obtain⟨g1,f1,l1,R1,V1,aW7⟩:=Si (E:=E) (B:=B0) (ts:=upto sg.args 0) (x:=x) (a:=a0) Rv R0 hP ⟨o9,λb hb=>by grind⟩ (λ_ _=>rfl) (AU sg.args 0 args hlen λk u hk=>by simp_all) po rfl (λt ht=>by
  have:=aP (aW.1 ak6 t ht)
  grind) (λf ts hE yu=>by
  rw[IA]at hE;unfold HA at hE
  cases av9:x8 sg.args with
  |none=>simp_all
  |some p=>
   rw[av9]at hE
   injection hE with hE;injection hE with Vw aV1
   subst Vw;subst aV1;obtain⟨b,ty,q1,q2,q3,q4⟩:=aS1 p.1 p.2 av9
   have hm:p.2<args.length:=by
    rcases bG p.2 args.length with h|h
    ·exact h
    ·exact absurd (cd (by rw[List.length_range,<-hlen];exact h)) yu
   have aa9:(a09 sg.args.length).map B0.arg=args:=by
    rw[<-hlen]
    apply List.ext_getElem (by simp)
    intro i h1 h2;simp[B0,h2]
   have ap2:((a09 sg.args.length).drop p.2).map B0.arg=args.drop p.2:=(by rw[List.map_drop,aa9]);refine⟨b,ty, ?_,by rw[ap2];exact q2,by simp[B0,q3],q4⟩
   have hl:((a09 sg.args.length).drop p.2).getLastD 0=args.length - 1:=by
    rw[List.getLastD_eq_getLast?,List.getLast?_drop,aj (by rw[List.length_range,<-hlen];omega),<-hlen,List.getLast?_range];simp[show args.length≠0 by omega]
   rw[hl];have:args[args.length - 1]?=J (.pointer (J ⟨b,0,ay⟩)):=(by rw[<-q1,List.getLast?_eq_getElem?])
   simp[B0,this]) aB0
 let B:Base:={B0 with g0:=g1,f0:=f1}
 have aS4:HRel B g1 (dec (upto sg.args 0) sg.args x).hp w:=R1;refine BK hE hm c _ _ y _ hH hF (λe=> ?_) g1 a0 w (hG.mono l1.dj) R1 V1
 have fin:∀s g a w',(finish E (dec (upto sg.args 0) sg.args x).hp fn.results.toList sg).exec s (λr _=>J r)=J y->jG E.fH g.dj->HRel B g s.hp w'->ActRel E B g s.env a->
   a.defers=[]/\∃v,(results fn a.tmps).run E.P w'= .ok v w'/\(∃v',Ending.returned v= .returned v'/\∃fw n1 n2,After dj w nb fw w' (n1++n2)/\xW fw w' sg.res y.1 v' n1/\l6 fw w w' sg.args y.2 args n2):=by
  intro s g a w' hk LW R V;obtain⟨y',s',h1,h2⟩:=oU hk
  injection h2 with h2
  subst h2;obtain⟨r,t,h3,h4⟩:=AM.cV h1;obtain⟨o,t2,h5,h6⟩:=AM.cV h4;obtain⟨h7,rfl⟩:=cX h6;obtain⟨e1,k1⟩:=Kw h3;obtain⟨v,g2,n1,hr,l2,R2,P7,aC5⟩:=k1 LW R V.env;obtain⟨g3,n2,l3,R3,aP9,aY2,hOut⟩:=I2 h5 (λe=>⟨g1,aS4,(V.ini e).trans l2⟩) aW7 R2 ((V.mono l2).Lw e1) hP (λk u hk=>by simp[B,B0,hk]);have hO:=gk.append l3 P7 aP9 aY2;refine⟨V.defers,v,hr,v,rfl,g3.dj,n1,n2,⟨λb L hb=>R3.kH b L hb,λb L hb=>(R3.dj b L hb).2.2,λb h1 h2 h3=> ?_,hO.1,λb hb=> ?_,R3.size,R3.os,R3.tape,R3.output,λb L hb=>R3.fix b L hb⟩, ?_, ?_⟩
  ·have hl:B.fL b=none:=(by simp[B,B0,h2]);obtain⟨_,f2,f3⟩:=R3.frame b h1 hl h3;exact⟨f3,f2⟩
  ·have SN:=hO.2 b hb
   have hi:g3.dj b=none:=by
    cases hi:g3.dj b with
    |none=>rfl
    |some L=>have:=(R3.dj b L hi).1;rw[SN]at this;cases this
   refine⟨hi, ?_,R3.gD b (by rw[SN];simp)⟩
   rcases bG b w.heap.size with h1|h1
   ·left
    apply Classical.byContradiction
    intro h2;have hl:B.fL b=none:=(by simp[B,B0,h2])
    have h3:dj b=none:=by
     cases h3:dj b with
     |none=>rfl
     |some L=>have:=R3.kH b L h3;rw[hi]at this;cases this
    obtain⟨f1,_⟩:=R3.frame b h1 hl h3;rw[f1]at SN;cases SN
   ·exact .inr h1
  ·rw[h7];exact GP l3.le.dj aC5
  ·rw[h7];exact hOut
 cases e with
 |normal=>intro s g a w' hk LW R V;exact fin s g a w' hk LW R V
 |ret=>intro s g a w' hk LW R V;exact fin s g a w' hk LW R V
 |_=>intro s g a w' hk;cases hk
end Go.Abs
end

section
namespace Go.Abs
@[reducible] def Eu:Sp->Sp
 | .pr a b=> .pr (Eu a) (Eu b)
 | .fh (.sl τ)=> .lnd τ av
 |s=>s
def rj:Sp->Bool
 | .un=>av
 | .pr a b=>rj a&&rj b
 | .fh _=>av
 | .err=>av
 | .np=>av
 |_=>ar
def zy:Sp->Bool
 | .un=>av
 | .pr a b=>zy a&&zy b
 | .fh τ=>τ.flat
 | .own τ dp=>τ.flat||dp
 | .err=>av
 | .np=>av
 |_=>ar
def NQ:(s:Sp)->(Eu s).ty.den->s.ty.den
 | .un,x=>x
 | .pr a b,x=>(NQ a x.1,NQ b x.2)
 | .fh (.sl _),x=>x
 | .fh (.int _),x=>x
 | .fh .bool,x=>x
 | .fh .str,x=>x
 | .fh .un,x=>x
 | .fh (.pr _ _),x=>x
 | .fh .cl,x=>x
 | .own _ _,x=>x
 | .lnd _ _,x=>x
 | .ptr _ _ _,x=>x
 | .Bc _,x=>x
 | .uY,x=>x
 | .err,x=>x
 | .np,x=>x
 | .slf _ _,x=>x
def U7:(s:Sp)->(Eu s).ty.den->(Eu s).qQ.den
 | .un,_=>()
 | .pr a b,x=>(U7 a x.1,U7 b x.2)
 | .fh (.sl _),x=>x
 | .fh (.int _),_=>()
 | .fh .bool,_=>()
 | .fh .str,_=>()
 | .fh .un,_=>()
 | .fh (.pr _ _),_=>()
 | .fh .cl,_=>()
 | .own _ _,_=>()
 | .lnd _ _,x=>x
 | .ptr _ _ _,x=>x
 | .Bc _,_=>()
 | .uY,_=>()
 | .err,_=>()
 | .np,_=>()
 | .slf _ _,_=>()
@[reducible] def Sv:VSp->VSp
 | .one s=> .one (Eu s)
 | .agg s=> .agg (Eu s)
def T8:(a:VSp)->(Sv a).sp.ty.den->a.sp.ty.den
 | .one s,x=>NQ s x
 | .agg s,x=>NQ s x
def af0:(a:VSp)->(Sv a).sp.ty.den->(Sv a).sp.qQ.den
 | .one s,x=>U7 s x
 | .agg s,x=>U7 s x
@[reducible] def Bb:List VSp->List VSp
 |[]=>[]
 |a::r=>Sv a::Bb r
def KR:(as:List VSp)->(eI (Bb as)).den->(eI as).den
 |[],_=>()
 |a::r,x=>(T8 a x.1,KR r x.2)
def Ps:(as:List VSp)->(eI (Bb as)).den->(rk (Bb as)).den
 |[],_=>()
 |a::r,x=>(af0 a x.1,Ps r x.2)
def D0 (c:Callee):Callee:=⟨⟨Bb c.sig.args,c.sig.res⟩,λx=>(c.F (KR c.sig.args x)).map λy=>(y.1,Ps c.sig.args x)⟩
def rF (as:List VSp):Bool:=as.all λa=>rj a.sp
def Pu:RSp->Bool
 | .val v=>zy v.sp
 | .yc vs=>vs.all λv=>zy v.sp
 | .none=>av
open Classical in
noncomputable def LL (dj:Rd)(w:World)(nb:List Nat):Rd:=λb=>if b∈nb then rdW w b else dj b
theorem Pp {w:World}{b:Nat}{arr:Array Value}{ty:TypeId}(h:w.heap[b]?=J (.cells arr ty (0,0))):rdW w b=J arr.toList:=by
 simp_all[rdW]
def Xc (w:World)(nb:List Nat):Prop:=∀b∈nb,∃arr ty,w.heap[b]?=J (.cells arr ty (0,0))
theorem TY {w:World}{b:Nat}(h:rdW w b≠ay):∃arr ty,w.heap[b]?=J (.cells arr ty (0,0)):=by
 unfold rdW at h
 grind
theorem OwnAt.here {dj:Rd}{w:World}{mv:Bool}{τ:Ty}{xs:List τ.den}{us:List Value}{nb:List Nat}(h:OwnAt dj w mv τ xs us nb):Xc w nb:=by
 rcases h with⟨_,_,rfl⟩|⟨b,cap,arr,ty,ku,_,rfl,ha,_,_,hE⟩
 ·exact λb hb=>by simp_all
 ·intro x hx
  rcases bA.1 hx with rfl|hx
  ·simp_all
  ·unfold mH at hE;split at hE
   ·exact TY (hE.uM x hx)
   simp_all
theorem OwnAt.rc {dj imm1:Rd}{w:World}{τ:Ty}{xs:List τ.den}{us:List Value}{nb:List Nat}(h1:∀b∈nb,imm1 b=rdW w b)(h:OwnAt dj w (av&& !τ.flat) τ xs us nb):Rc imm1 (.sl τ) xs us:=by
 rcases h with⟨rfl,rfl,rfl⟩|⟨b,cap,arr,ty,ku,rfl,rfl,ha,hl,_,hE⟩
 ·exact⟨ay,0,rfl,aC _, .inl rfl⟩
 ·refine⟨J ⟨b,0,ay⟩,cap,rfl,hl, .inr ⟨b,0,arr.toList,rfl, ?_, ?_⟩⟩
  ·grind [aF,Pp]
  ·show Els imm1 τ xs arr.toList 0;unfold mH at hE;split at hE
   ·exact(gZ.mono (r':=imm1) (λx hx L hL=>by simp_all) hE).els
   ·rename_i hf
    have hf:τ.flat=true:=by simp_all
    exact hE.1.flat hf
theorem NG {dj imm1:Rd}{w:World}(hm:∀b L,dj b=J L->imm1 b=J L):∀{s:Sp} {x:(Eu s).ty.den} {pl:Nat×Nat} {us:List Value} {nb:List Nat},rj s=av->(∀b∈nb,imm1 b=rdW w b)->Pass dj w (Eu s) x pl us nb->
  Pass imm1 w s (NQ s x) pl us []/\Xc w nb:=by
 intro s
 induction s with
 |un=>intro x pl us nb _ _ h;exact⟨⟨h.1,rfl⟩,by rw[h.2];exact λb hb=>by simp_all⟩
 |pr a b Dt Dr=>
  intro x pl us nb hp h1 h;simp[rj]at hp;obtain⟨u1,u2,n1,n2,rfl,rfl,k1,k2⟩:=h;obtain⟨a1,a2⟩:=Dt hp.1 (λb hb=>h1 b (aV _ hb)) k1;obtain⟨b1,b2⟩:=Dr hp.2 (λb hb=>h1 b (aY _ hb)) k2;refine⟨⟨u1,u2,[],[],rfl,rfl,a1, ?_⟩,λb hb=> ?_⟩
  ·have po:∀s,rj s=av->(Eu s).size=s.size:=by
    intro s
    induction s with
    |pr a b Dt Dr=>intro h;simp[rj]at h;grind
    |fh τ=>intro _;cases τ<;>rfl
    |_=>simp
   rw[po a hp.1]at b1;exact b1
  ·rcases aL.1 hb with hb|hb
   ·exact a2 b hb
   ·exact b2 b hb
 |fh τ=>
  intro x pl us nb _ h1 h
  cases τ with
  |sl e=>
   refine⟨⟨rfl,rfl, ?_⟩,h.here⟩;have hr:=h.rc h1;obtain⟨A,c,e',_⟩:=id hr;exact⟨_,e',by rw[<-e'];exact hr⟩
  |_=>
   obtain⟨rfl,h2,u,rfl,h3⟩:=h;exact⟨⟨rfl,h2,u,rfl,h3.mono hm⟩,λb hb=>by simp_all⟩
 |err=>
  intro x pl us nb _ _ h;obtain⟨rfl,h⟩:=h;exact⟨⟨rfl,h⟩,λb hb=>by simp_all⟩
 |np=>
  intro x pl us nb _ _ h;obtain⟨rfl,h⟩:=h;exact⟨⟨rfl,h⟩,λb hb=>by simp_all⟩
 |_=>intro x pl us nb hp;cases hp
theorem Sl {dj imm1:Rd}{w:World}(hm:∀b L,dj b=J L->imm1 b=J L){a:VSp}{x:(Sv a).sp.ty.den}{u:Value}{nb:List Nat}(hp:rj a.sp=av)(h1:∀b∈nb,imm1 b=rdW w b)(h:th dj w (Sv a) x u nb):
  th imm1 w a (T8 a x) u []/\Xc w nb:=by
 cases a with
 |one s=>obtain⟨ho,h⟩:=h;obtain⟨k1,k2⟩:=NG hm hp h1 h;exact⟨⟨ho,k1⟩,k2⟩
 |agg s=>obtain⟨us,e,h⟩:=h;obtain⟨k1,k2⟩:=NG hm hp h1 h;exact⟨⟨us,e,k1⟩,k2⟩
theorem Hj {dj imm1:Rd}{w:World}(hm:∀b L,dj b=J L->imm1 b=J L):∀{as:List VSp} {x:(eI (Bb as)).den} {us:List Value} {nb:List Nat},rF as=av->(∀b∈nb,imm1 b=rdW w b)->jk dj w (Bb as) x us nb->
  jk imm1 w as (KR as x) us []/\Xc w nb
 |[],x,us,nb,_,_,h=>⟨⟨h.1,rfl⟩,by rw[h.2];exact λb hb=>by simp_all⟩
 |a::r,x,us,nb,hp,h1,⟨u,q,n1,n2,e,e',k1,k2⟩=>by
  subst e;subst e';simp only[rF,cz,aA]at hp;obtain⟨a1,a2⟩:=Sl hm hp.1 (λb hb=>h1 b (aV _ hb)) k1;obtain⟨b1,b2⟩:=Hj hm hp.2 (λb hb=>h1 b (aY _ hb)) k2;refine⟨⟨u,q,[],[],rfl,rfl,a1,b1⟩,λb hb=> ?_⟩
  rcases aL.1 hb with hb|hb
  ·exact a2 b hb
  ·exact b2 b hb
theorem OwnAt.still {dj fw:Rd}{w w':World}{τ:Ty}{xs:List τ.den}{us:List Value}{nb:List Nat}(hs:∀b∈nb,w'.heap[b]?=w.heap[b]?)(h:OwnAt dj w (av&& !τ.flat) τ xs us nb):OwnAt fw w' (av&& !τ.flat) τ xs us nb:=by
 rcases h with h|⟨b,cap,arr,ty,ku,e,rfl,ha,hl,hz,hE⟩
 ·exact .inl h
 ·refine .inr ⟨b,cap,arr,ty,ku,e,rfl,(hs b (aF ..)).trans ha,hl,hz, ?_⟩;unfold mH at hE⊢;split
  ·rename_i hc
   grind [gZ.mono,aD,rdW]
  ·rename_i hc;rw[aj hc]at hE
   have hf:τ.flat=true:=by simp_all
   exact⟨hE.1.flat hf,hE.2⟩
theorem MH {dj fw:Rd}{w w':World}:∀{s:Sp} {x:(Eu s).ty.den} {pl:Nat×Nat} {us:List Value} {nb:List Nat},rj s=av->(∀b∈nb,w'.heap[b]?=w.heap[b]?)->Pass dj w (Eu s) x pl us nb->Df fw w w' (Eu s) (U7 s x) us nb:=by
 intro s
 induction s with
 |un=>intro x pl us nb _ _ h;exact h.2
 |pr a b Dt Dr=>
  intro x pl us nb hp h1 h;simp[rj]at hp;obtain⟨u1,u2,n1,n2,rfl,rfl,k1,k2⟩:=h;have hl:=k1.length;refine⟨n1,n2,rfl, ?_, ?_⟩
  ·rw[<-hl,a45];exact Dt hp.1 (λb hb=>h1 b (aV _ hb)) k1
  ·rw[<-hl,cN];exact Dr hp.2 (λb hb=>h1 b (aY _ hb)) k2
 |fh τ=>
  intro x pl us nb _ h1 h
  cases τ with
  |sl e=>
   exact⟨rfl,h.still h1⟩
  |_=>exact h.1
 |err=>intro x pl us nb _ _ h;exact h.1
 |np=>intro x pl us nb _ _ h;exact h.1
 |_=>intro x pl us nb hp;cases hp
theorem Hs {dj fw:Rd}{w w':World}:∀{as:List VSp} {x:(eI (Bb as)).den} {us:List Value} {nb:List Nat},rF as=av->(∀b∈nb,w'.heap[b]?=w.heap[b]?)->jk dj w (Bb as) x us nb->l6 fw w w' (Bb as) (Ps as x) us nb
 |[],x,us,nb,_,_,h=>h
 |a::r,x,us,nb,hp,h1,⟨u,q,n1,n2,e,e',k1,k2⟩=>by
  subst e;subst e';simp only[rF,cz,aA]at hp;refine⟨u,q,n1,n2,rfl,rfl, ?_,Hs hp.2 (λb hb=>h1 b (aY _ hb)) k2⟩
  have SV:=λb hb=>h1 b (aV n2 hb)
  cases a with
  |one s=>obtain⟨ho,k1⟩:=k1;rw[D4 ho];exact MH hp.1 SV k1
  |agg s=>obtain⟨us,e,k1⟩:=k1;subst e;exact MH hp.1 SV k1
theorem pn.indep {dj fw:Rd}{w:World}:∀{s:Sp} {x:s.ty.den} {pl:Nat×Nat} {old us:List Value} {nb:List Nat},zy s=av->pn dj w w s x pl old us nb->pn fw w w s x pl old us nb:=by
 intro s
 induction s with
 |un=>intro x pl old us nb _ h;exact h
 |pr a b Dt Dr=>
  intro x pl old us nb hp h;simp[zy]at hp;obtain⟨u1,u2,n1,n2,e,e',k1,k2⟩:=h;exact⟨u1,u2,n1,n2,e,e',Dt hp.1 k1,Dr hp.2 k2⟩
 |fh τ=>
  intro x pl old us nb hp h;obtain⟨h1,h2,u,h3,h4⟩:=h;exact⟨h1,h2,u,h3,h4.flat hp⟩
 |own τ dp=>
  intro x pl old us nb hp h;have hp:(τ.flat||dp)=true:=hp;show OwnAt fw w (dp&& !τ.flat) τ x us nb
  rcases h with h|⟨b,cap,arr,ty,ku,e,e',ha,hl,hs,hE⟩
  ·exact .inl h
  ·refine .inr ⟨b,cap,arr,ty,ku,e,e',ha,hl,hs, ?_⟩;unfold mH at hE⊢;split
   ·simp_all
   ·rename_i hc;rw[aj hc]at hE
    have hf:τ.flat=true:=by
     grind
    exact⟨hE.1.flat hf,hE.2⟩
 |err=>intro x pl old us nb _ h;exact h
 |np=>intro x pl old us nb _ h;exact h
 |_=>intro x pl old us nb hp;cases hp
theorem G1 {dj fw:Rd}{w:World}{a:VSp}{x:a.sp.ty.den}{u:Value}{nb:List Nat}(hp:zy a.sp=av)(h:zx dj w a x u nb):zx fw w a x u nb:=by
 cases a with
 |one s=>exact⟨h.1,h.2.indep hp⟩
 |agg s=>obtain⟨us,e,h⟩:=h;exact⟨us,e,h.indep hp⟩
theorem EW {dj fw:Rd}{w:World}:∀{as:List VSp} {x:(eI as).den} {us:List Value} {nb:List Nat},(as.all λv=>zy v.sp)=av->tn dj w as x us nb->tn fw w as x us nb
 |[],_,_,_,_,h=>h
 |a::r,x,us,nb,hp,⟨u,q,n1,n2,e,e',k1,k2⟩=>by
  simp only[cz,aA]at hp;exact⟨u,q,n1,n2,e,e',G1 hp.1 k1,EW hp.2 k2⟩
theorem Rz {dj fw:Rd}{w:World}{r:RSp}{x:r.ty.den}{u:Value}{nb:List Nat}(hp:Pu r=av)(h:xW dj w r x u nb):xW fw w r x u nb:=by
 cases r with
 |val a=>exact G1 hp h
 |yc as=>obtain⟨vs,e,h⟩:=h;exact⟨vs,e,EW hp h⟩
 |none=>exact h
theorem O5 {dj:Rd}{w w':World}:∀{s:Sp} {x:s.qQ.den} {us:List Value} {nb:List Nat},rj s=av->Df dj w w' s x us nb->nb=[]:=by
 intro s
 induction s with
 |pr a b Dt Dr=>
  intro x us nb hp ⟨n1,n2,e,h1,h2⟩
  grind [rj]
 |un=>intro x us nb _ h;exact h
 |fh τ=>intro x us nb _ h;exact h
 |err=>intro x us nb _ h;exact h
 |np=>intro x us nb _ h;exact h
 |_=>intro x us nb hp;cases hp
theorem CV {dj:Rd}{w w':World}:∀{as:List VSp} {x:(rk as).den} {us:List Value} {nb:List Nat},rF as=av->l6 dj w w' as x us nb->nb=[]
 |[],_,_,_,_,h=>h.2
 |a::r,x,us,nb,hp,⟨u,q,n1,n2,e,e',k1,k2⟩=>by
  simp only[rF,cz,aA]at hp;rw[e',O5 hp.1 k1,CV hp.2 k2];rfl
theorem YM {P:Program}{fH:Nat->Option (List Cell)}{f:FuncId}{c:Callee}(hp:rF c.sig.args=av)(hr:Pu c.sig.res=av)(H:oF P fH f c):oF P fH f (D0 c):=by
 intro x y hF dj w args nb hG kG hP o9 Be;obtain⟨z,hz,rfl⟩:=bj.1 hF
 have hm:∀b L,dj b=J L->LL dj w nb b=J L:=λb L h=>by
  unfold LL
  grind
 obtain⟨P1,here⟩:=Hj (imm1:=LL dj w nb) hm hp (λb hb=>by simp_all[LL,ak]) hP;refine(H _ _ hz (LL dj w nb) w args [] (hG.mono hm) (λb L h=> ?_) P1 bf (λb hb=>by simp_all)).mono ?_
 ·unfold LL at h;split at h
  ·rename_i hb;obtain⟨arr,ty,ha⟩:=here b hb
   grind [Pp]
  simp_all
 ·rintro v w' ⟨fw,n1,n2,A,hR,hO⟩;have YB:=CV hp hO;subst YB;rw[aU]at A
  have pH:∀b∈nb,w'.heap[b]?=w.heap[b]?:=λb hb=>by
   obtain⟨arr,ty,ha⟩:=here b hb;exact A.fix b arr.toList (by unfold LL;rw[ak hb,Pp ha])
  refine⟨λb=>open Classical in if b∈nb then ay else fw b,n1,nb,⟨λb L h=> ?_,λb L h=> ?_,λb h1 h2 h3=> ?_, ?_,λb hb=> ?_,A.size,A.os,A.tape,A.output,λb L h=>A.fix b L (hm b L h)⟩,Rz hr hR,Hs hp pH hP⟩
  ·rw[aj (λhb=>by rw[(Be b hb).1]at h;cases h)];exact A.mono b L (hm b L h)
  ·split at h
   ·cases h
   ·exact A.cells b L h
  ·have e:LL dj w nb b=none:=by unfold LL;rw[aj h2];exact h3
   obtain⟨a1,a2⟩:=A.same b h1 (by simp) e;exact⟨a1,by rw[aj h2];exact a2⟩
  ·rw[bC];refine⟨A.nodup,o9,λa ha b hb e=> ?_⟩;subst e;have h1:=(Be a hb).2
   rcases(A.Yo a ha).2.1 with h|h
   ·simp at h
   ·omega
  ·rcases aL.1 hb with hb|hb
   ·obtain⟨a1,a2,a3⟩:=A.Yo b hb;refine⟨?_, ?_,a3⟩
    ·split
     ·rfl
     ·exact a1
    ·rcases a2 with h|h
     ·simp at h
     ·exact .inr h
   ·refine⟨by rw[ak hb], .inl hb, ?_⟩;have:=(Be b hb).2;have:=A.size;omega
end Go.Abs
end

section
namespace Go.Abs
def dZ:Code->List (Bool×Code)
 | .seq a b=>(ar,b)::(dZ a++dZ b)
 | .cond _ a b=>dZ a++dZ b
 | .block _ c=>dZ c
 | .loop c=>(av,c)::dZ c
 | .scope c=>dZ c
 |_=>[]
def mT (k:Bool)(r:Nat):List (Bool×Code)->Code
 |[]=> .skip
 |p::q=>bif(p.1==k)&&(match first p.2 with|some n=>aw n r|none=>ar)then p.2 else mT k r q
theorem OX:∀(c:Code),∀p∈pieces c,p∈dZ c:=by
 intro c
 induction c with
 |seq a b Dt Dr=>
  grind [pieces,dZ]
 |cond c a b Dt Dr=>
  grind [pieces,dZ]
 |block id c ih=>exact ih
 |loop c ih=>simp_all[pieces,dZ]
 |scope c ih=>exact ih
 |_=>intro p hp;cases hp
theorem FG:∀(c:Code),∀p∈dZ c,∀q∈dZ p.2,q∈dZ c:=by
 intro c
 induction c with
 |seq a b Dt Dr=>
  intro p hp q hq;simp[dZ]at hp⊢
  grind
 |cond c a b Dt Dr=>
  intro p hp q hq
  grind [dZ]
 |block id c ih=>exact ih
 |loop c ih=>
  intro p hp q hq;simp[dZ]at hp⊢
  grind
 |scope c ih=>exact ih
 |_=>intro p hp;cases hp
theorem GO {k:Bool}{b:Code}{r:Nat}:∀{l:List (Bool×Code)},(∀p∈l,first p.2=J r->p.1=k->p=(k,b))->(k,b)∈l->first b=J r->mT k r l=b
 |[],_,h,_=>by grind
 |p::q,hu,h,hf=>by
  simp[mT]
  cases hc:((p.1==k)&&(match first p.2 with|some n=>aw n r|none=>ar))with
  |true=>
   grind [first,beq_eq,aF]
  |false=>
   refine GO (λp' Ew=>hu p' (aD _ Ew)) ?_ hf
   rcases bA.1 h with h|h
   ·exfalso
    subst h;simp_all
   omega
def K5 (De:Bool->Nat->Bool)(c:Code):List (Bool×Nat):=(dZ c).filterMap λp=>match first p.2 with
 |some r=>bif De p.1 r then J (p.1,r)else ay
 |none=>ay
theorem G9 {De:Bool->Nat->Bool}:∀{l:List (Bool×Code)},(l.filterMap λp=>match first p.2 with|some r=>bif De p.1 r then J (p.1,r)else ay|none=>ay).Nodup->∀{p q:Bool×Code} {r:Nat},p∈l->q∈l->first p.2=J r->first q.2=J r->p.1=q.1->De p.1 r=av->p=q
 |[],_,p,q,r,hp,_,_,_,_,_=>by simp_all
 |x::l,h,p,q,r,hp,hq,h1,h2,h3,h4=>by
  rcases bA.1 hp with rfl|Ew<;>rcases bA.1 hq with rfl|Vs
  ·rfl
  ·grind
  ·grind
  ·refine G9 (l:=l) ?_ Ew Vs h1 h2 h3 h4
   grind
structure Sys where
 P:Program
 fH:Nat->Option (List Cell)
 cl:TypeId
 sig:FuncId->Sig
 known:FuncId->Bool
 oH:FuncId->List Nat
 De:FuncId->Bool->Nat->Bool
 cut:FuncId->Bool->Nat->Cut
 lib:FuncId->Option Callee
 bors:List (FuncId×FuncId):=[]
 nest:FuncId->Bool:=λ_=>ar
 trim:FuncId->Bool:=λ_=>ar
namespace Sys
variable(S:Sys)
structure Tab where
 fn:(f:FuncId)->(S.sig f).dom.den->Option (S.sig f).cod.den
 pc:(f:FuncId)->(k:Bool)->(r:Nat)->(eI (S.cut f k r).as).den->Option (qd (S.cut f k r).ws)
def UP (c f:FuncId):Bool:=S.bors.any λp=>aw p.1 c&&aw p.2 f
def Ua:Bool:=S.bors.all λp=>rF (S.sig p.2).args&&Pu (S.sig p.2).res
def callee (T:S.Tab)(c f:FuncId):Option Callee:=bif S.known f then(bif S.UP c f then J (D0 ⟨S.sig f,T.fn f⟩)else J ⟨S.sig f,T.fn f⟩)else S.lib f
def af2:Sp->Bool
 | .ptr _ _ (.ptr _ _ _)=>av
 |_=>ar
def mU:List VSp->Bool
 | .one (.ptr _ _ (.pr (.ptr _ _ _) _))::_=>av
 |_=>ar
def fst (f:FuncId):Bool:=mU (S.sig f).args
def ini (f:FuncId):Bool:=(S.sig f).args.any λa=>af2 a.sp
def cutAt (f:FuncId)(k:Bool)(r:Nat):Bool:=S.De f k r&& !S.ini f
def env (T:S.Tab)(f:FuncId)(nt:Nat):Env:={P:=S.P,callee:=S.callee T f,fH:=S.fH,cl:=S.cl,nt:=nt,oH:=S.oH f,nest:=S.nest f,trim:=S.trim f,slf:=HA (S.sig f).args,ini:=S.ini f,fst:=S.fst f}
def Dh (T:S.Tab)(f:FuncId):Cuts:=
  ⟨λr=>bif S.cutAt f av r then J ((S.cut f av r).zZ (S.fst f) (T.pc f av r))else ay,
   λr=>bif S.cutAt f ar r then J ((S.cut f ar r).zZ (S.fst f) (T.pc f ar r))else ay⟩
def H9 (T:S.Tab)(f:FuncId)(x:(S.sig f).dom.den):Option (S.sig f).cod.den:=match S.P.funcs[f]? with
 |some fn=>Ii (S.env T f fn.ntmps) fn (S.sig f) (S.Dh T f) x
 |none=>ay
def BQ (T:S.Tab)(f:FuncId)(k:Bool)(r:Nat)(x:(eI (S.cut f k r).as).den):Option (qd (S.cut f k r).ws):=match S.P.funcs[f]? with
 |some fn=>match fn.body with
  |some c=>bif k then(S.cut f k r).round (S.env T f fn.ntmps) (S.Dh T f) (mT k r (dZ c)) (T.pc f k r) x
    else(S.cut f k r).tail (S.env T f fn.ntmps) (S.Dh T f) (mT k r (dZ c)) x
  |none=>ay
 |none=>ay
def step (T:S.Tab):S.Tab:=⟨S.H9 T,S.BQ T⟩
@[reducible] def tab:Nat->S.Tab
 |0=>⟨λ_ _=>ay,λ_ _ _ _=>ay⟩
 |n+1=>S.step (tab n)
def PQ (f:FuncId):Bool:=match S.P.funcs[f]? with
 |some fn=>match fn.body with
  |some c=>(fn.name != "runtime.NumGoroutine")&&a10 (S.sig f).args.length fn.ntmps&&((S.oH f).all λt=>cE t (S.sig f).args.length)&&oV (S.sig f).args&&
    I (K5 (S.cutAt f) c).Nodup
  |none=>ar
 |none=>ar
end Sys
end Go.Abs
end

section
namespace Go.Abs
theorem ActRel.callee {E E':Env}(hn:E'.nt=E.nt)(hk:E'.oH=E.oH)(hs:E'.slf=E.slf)(hi:E'.ini=E.ini)(hq:E'.fst=E.fst){B:Base}{g:Gh}{env:List (Nat×Slot)}{a:Act}(H:ActRel E B g env a):ActRel E' B g env a:=
 ⟨H.env,H.size.trans hn.symm,H.defers,by rw[hk];exact H.kept,λf ts h h2=>H.slf f ts (by simp_all) h2,λe=>H.ini (hi.symm.trans e),λe=>H.fst (hq.symm.trans e)⟩
theorem KOk.callee {ρ:Type}{E E':Env}(hg:E'.fH=E.fH)(hn:E'.nt=E.nt)(hk:E'.oH=E.oH)(hs:E'.slf=E.slf)(hi:E'.ini=E.ini)(hq:E'.fst=E.fst){B:Base}{K:St->Option ρ}{x:ρ}{Q:Act->World->Prop}(h:KOk E' B K x Q):KOk E B K x Q:=
 λs g a w h1 h2 h3 h4=>h s g a w h1 (by simp_all) h3 (h4.callee hn hk hs hi hq)
theorem vE.callee {E E':Env}(hg:E'.fH=E.fH)(hn:E'.nt=E.nt)(hk:E'.oH=E.oH)(hs:E'.slf=E.slf)(hi:E'.ini=E.ini)(hq:E'.fst=E.fst){c:Cut}{W:(Exit->Act->World->Prop)->Act->World->Prop}{L:(eI c.as).den->Option (qd c.ws)}(h:vE E c W L):vE E' c W L:=
 λx y aV4 _ B K z Q aU9 hK g a w h1 h2 h3=>h x y aV4 B K z Q aU9 (λe=>(hK e).callee hg hn hk hs hi hq) g a w (by simp_all) h2 (h3.callee hn.symm hk.symm hs.symm hi.symm hq.symm)
namespace Sys
variable{S:Sys}
theorem Ld {f:FuncId}{k:Bool}{r:Nat}(h:S.cutAt f k r=av):S.ini f=false:=by
 simp_all[cutAt,aA]
theorem Hg {f:FuncId}(h:S.PQ f=av):∃fn c,S.P.funcs[f]?=J fn/\fn.body=J c/\(fn.name== "runtime.NumGoroutine")=ar/\(S.sig f).args.length<=fn.ntmps/\((S.oH f).all λt=>cE t (S.sig f).args.length)=av/\oV (S.sig f).args=av/\
  (K5 (S.cutAt f) c).Nodup:=by
 unfold PQ at h;split at h
 ·rename_i fn hf;split at h
  all_goals simp_all
 simp_all
def W1 (P:Program)(k:Bool)(b:Code):(Exit->Act->World->Prop)->Act->World->Prop:=if k then ss P b else λQ=>b.wp P Q
structure TabOk (S:Sys)(T:S.Tab):Prop where
 fn:∀f,S.known f=av->xB S.P S.fH f ⟨S.sig f,T.fn f⟩
 pc:∀f,S.known f=av->∀fn c,S.P.funcs[f]?=J fn->fn.body=J c->∀k r,S.cutAt f k r=av->(k,mT k r (dZ c))∈dZ c->∀T':S.Tab,
  vE (S.env T' f fn.ntmps) (S.cut f k r) (W1 S.P k (mT k r (dZ c))) (T.pc f k r)
theorem Ul {T:S.Tab}(hT:TabOk S T){f:FuncId}(hk:S.known f=av){fn:Func}{c:Code}(hf:S.P.funcs[f]?=J fn)(hb:fn.body=J c)(o9:(K5 (S.cutAt f) c).Nodup){d:Code}(hd:∀p∈dZ d,p∈dZ c):
  CutsOk (S.env T f fn.ntmps) (S.Dh T f) d:=by
 have found:∀k b r,(k,b)∈pieces d->first b=J r->S.cutAt f k r=av->mT k r (dZ c)=b/\(k,b)∈dZ c:=by
  intro k b r hp hr Oi;have hm:=hd _ (OX d _ hp);refine⟨GO (λp Ew h1 h2=> ?_) hm hr,hm⟩;exact G9 o9 Ew hm h1 hr h2 (by simp_all)
 refine⟨λb hp h hh=> ?_,λb hp h hh=> ?_⟩
 ·cases hr:first b with
  |none=>simp_all
  |some r=>
   rw[hr]at hh;have hh:(bif S.cutAt f av r then J ((S.cut f av r).zZ (S.fst f) (T.pc f av r))else ay)=J h:=hh
   cases hc:S.cutAt f av r with
   |false=>simp_all
   |true=>
    rw[hc]at hh
    injection hh with hh
    subst hh;obtain⟨e,hm⟩:=found av b r hp hr hc;have:=hT.pc f hk fn c hf hb av r hc (by simp_all) T;rw[e]at this;exact Kt (Ld hc) (body:=b) this
 ·cases hr:first b with
  |none=>simp_all
  |some r=>
   rw[hr]at hh;have hh:(bif S.cutAt f ar r then J ((S.cut f ar r).zZ (S.fst f) (T.pc f ar r))else ay)=J h:=hh
   cases hc:S.cutAt f ar r with
   |false=>simp_all
   |true=>
    rw[hc]at hh
    injection hh with hh
    subst hh;obtain⟨e,hm⟩:=found ar b r hp hr hc;have:=hT.pc f hk fn c hf hb ar r hc (by simp_all) T;rw[e]at this;exact KC (Ld hc) (body:=b) this
theorem Jo:∀{as:List VSp},rF as=av->x8 as=ay
 |[],_=>rfl
 |[.one s],h=>by
  cases s with
  |slf f m=>cases h
  |_=>rfl
 |[.agg s],_=>rfl
 |x::a::r,h=>by
  have h:(rj x.sp&&rF (a::r))=true:=h;rw[aA]at h;have ih:=Jo h.2
  have e:x8 (x::a::r)=x8 (a::r):=by
   cases x with
   |one s=>cases s<;>rfl
   |agg s=>rfl
  rw[e];exact ih
theorem Wd (hm:S.P.follows .mixedOrders=av)(hk:∀f,S.known f=av->S.PQ f=av)(hl:∀f c,S.known f=ar->S.lib f=J c->oF S.P S.fH f c)(VH:S.Ua=av){T:S.Tab}(hT:TabOk S T):TabOk S (S.step T):=by
 have hE:∀f nt,EnvOk (S.env T f nt):=λf nt=>⟨λg c hc=>by
  have hc:(bif S.known g then(bif S.UP f g then J (D0 ⟨S.sig g,T.fn g⟩)else J ⟨S.sig g,T.fn g⟩)else S.lib g)=J c:=hc
  cases hg:S.known g with
  |true=>
   rw[hg]at hc
   cases YH:S.UP f g with
   |false=>rw[YH]at hc;injection hc with hc;subst hc;exact hT.fn g hg
   |true=>
    rw[YH]at hc;injection hc with hc;subst hc
    obtain⟨q,hq,aK6⟩:=List.any_eq_true.1 YH;simp only[aA]at aK6;obtain rfl:=beq_eq aK6.2;have:=aW.1 VH q hq;simp at this;exact(YM this.1 this.2 ((hT.fn _ hg).plain (Jo this.1))).slf
  |false=>rw[hg]at hc;exact(hl g c hg hc).slf⟩
 refine⟨λf hf=> ?_,λf hf fn c ar4 hb k r Oi XL T'=> ?_⟩
 ·obtain⟨fn,c,h1,h2,h3,h4,h5,h6,h7⟩:=Hg (hk f hf);have ao0:=KX (hE f fn.ntmps) hm (f:=f) (fn:=fn) (c:=c) (sg:=S.sig f) (H:=S.Dh T f) h1 h2 h3 rfl h4 h5 h6 rfl (Ul hT hf h1 h2 h7 λp hp=>hp)
  have e:(S.step T).fn f=Ii (S.env T f fn.ntmps) fn (S.sig f) (S.Dh T f):=by
   funext x
   show S.H9 T f x=_;simp_all[H9]
  rw[e];exact ao0
 ·obtain⟨fn',c',h1,h2,h3,h4,h5,h6,h7⟩:=Hg (hk f hf);rw[ar4]at h1
  injection h1 with h1
  subst h1;rw[hb]at h2
  injection h2 with h2
  subst h2
  have Oh:∀p∈dZ (mT k r (dZ c)),p∈dZ c:=λp hp=>FG c _ XL p hp
  have hC:=Ul hT hf ar4 hb h7 Oh
  have e:(S.step T).pc f k r=λx=>bif k then(S.cut f k r).round (S.env T f fn.ntmps) (S.Dh T f) (mT k r (dZ c)) (T.pc f k r) x
    else(S.cut f k r).tail (S.env T f fn.ntmps) (S.Dh T f) (mT k r (dZ c)) x:=by
   funext x
   show S.BQ T f k r x=_;simp_all[BQ]
  rw[e]
  cases k with
  |true=>exact vE.callee (E:=S.env T f fn.ntmps) (E':=S.env T' f fn.ntmps) rfl rfl rfl rfl rfl rfl (TU (Ld Oi) (hE f fn.ntmps) hm hC (hT.pc f hf fn c ar4 hb av r Oi XL T))
  |false=>exact vE.callee (E:=S.env T f fn.ntmps) (E':=S.env T' f fn.ntmps) rfl rfl rfl rfl rfl rfl (V4 (Ld Oi) (hE f fn.ntmps) hm hC)
theorem ok (hm:S.P.follows .mixedOrders=av)(hk:∀f,S.known f=av->S.PQ f=av)(hl:∀f c,S.known f=ar->S.lib f=J c->oF S.P S.fH f c)(VH:S.Ua=true:=by rfl):∀n,TabOk S (S.tab n)
 |0=>⟨(λf _ x y h=>by cases h),(λf _ fn c _ _ k r _ _ T' x y h=>by cases h)⟩
 |n+1=>Wd hm hk hl VH (ok hm hk hl VH n)
end Sys
end Go.Abs
end

section
namespace Go.Abs
def dB {A ρ:Type}(f:A->Option ρ):A⊕Empty->Option ρ:=Sum.elim f Empty.elim
def dM {A B ρ:Type}(f:A->Option ρ)(g:B->Option ρ):A⊕(B⊕Empty)->Option ρ:=Sum.elim f (Sum.elim g Empty.elim)
def Sy {A B C ρ:Type}(f:A->Option ρ)(g:B->Option ρ)(h:C->Option ρ):A⊕(B⊕(C⊕Empty))->Option ρ:=Sum.elim f (Sum.elim g (Sum.elim h Empty.elim))
namespace Sys
variable{S:Sys}
theorem WH {f:FuncId}{fn:Func}(h:S.P.funcs[f]?=J fn)(T:S.Tab)(x:(S.sig f).dom.den):(S.step T).fn f x=Ii (S.env T f fn.ntmps) fn (S.sig f) (S.Dh T f) x:=by
 show S.H9 T f x=_;unfold H9;rw[h]
theorem S8 {f:FuncId}{fn:Func}{c:Code}(h:S.P.funcs[f]?=J fn)(hb:fn.body=J c)(T:S.Tab){r:Nat}(x:(eI (S.cut f av r).as).den):
  (S.step T).pc f av r x=(S.cut f av r).round (S.env T f fn.ntmps) (S.Dh T f) (mT av r (dZ c)) (T.pc f av r) x:=by
 show S.BQ T f av r x=_;unfold BQ;rw[h]
 show(match fn.body with
    |some c=>_
    |none=>ay)=_
 rw[hb];rfl
theorem Tt {f:FuncId}{fn:Func}{c:Code}(h:S.P.funcs[f]?=J fn)(hb:fn.body=J c)(T:S.Tab){r:Nat}(x:(eI (S.cut f ar r).as).den):
  (S.step T).pc f ar r x=(S.cut f ar r).tail (S.env T f fn.ntmps) (S.Dh T f) (mT ar r (dZ c)) x:=by
 show S.BQ T f ar r x=_;unfold BQ;rw[h]
 show(match fn.body with
    |some c=>_
    |none=>ay)=_
 rw[hb];rfl
theorem VX {fns:List Nat}(h:(fns.all S.PQ)=av){f:FuncId}(hf:(fns.any (aw f))=av):S.PQ f=true:=by
 obtain⟨g,hg,e⟩:=List.any_eq_true.1 hf;have:=bV e;subst this;exact aW.1 h _ hg
end Sys
theorem DM {P:Program}{f:FuncId}{fn:Func}{c:Code}{args:Array Value}{w:World}{R:Value->World->Prop}(hf:P.funcs[f]?=J fn)(hb:fn.body=J c)(Rl:(fn.name== "runtime.NumGoroutine")=ar)
  (h:jR P f args w R):Calls P f args w λe w'=>∃v,e= .returned v/\R v w':=by
 have N8:(callFunc f args).run P w= .ok (.enter f args) w:=by
  have h1:fn.name≠ "runtime.NumGoroutine" :=(by simpa using Rl)
  simp[callFunc,hf,h1,hb]
 unfold jR at h;rw[N8]at h;exact h
theorem After.below {dj fw:Rd}{w w':World}{ku:List Nat}(h:After dj w [] fw w' ku):RowKit.Below w.heap.size w w':=
 ⟨h.os,h.tape,h.output,h.size,λk hk=>by
  cases e:dj k with
  |none=>exact(h.same k hk (by simp) e).1
  |some L=>exact h.fix k L e⟩
def Evt (p:Nat->Prop):Prop:=∃N,∀n,N<=n->p n
theorem Evt.of {p:Nat->Prop}(h:∀n,p n):Evt p:=⟨0,λn _=>h n⟩
theorem Evt.and {p q:Nat->Prop}(h:Evt p)(k:Evt q):Evt λn=>p n/\q n:=by
 obtain⟨N,h⟩:=h;obtain⟨M,k⟩:=k;exact⟨max N M,λn hn=>⟨h n (by omega),k n (by omega)⟩⟩
theorem Evt.mono {p q:Nat->Prop}(h:Evt p)(k:∀n,p n->q n):Evt q:=by
 obtain⟨N,h⟩:=h;exact⟨N,λn hn=>k n (h n hn)⟩
theorem Evt.up {p q:Nat->Prop}(h:Evt p)(k:∀n,p n->q (n+1)):Evt q:=by
 obtain⟨N,h⟩:=h;refine⟨N+1,λn hn=> ?_⟩;obtain⟨m,rfl⟩:∃m,n=m+1:=⟨n - 1,by omega⟩;exact k m (h m (by omega))
end Go.Abs
end

section
namespace Go.Abs
def isByte (c:Int):Prop:=0<=c/\c<256
theorem X3:∀c:Int,isByte c->intBits .and .u8 c 15=c % 16:=by
 have h:∀n:Fin 256,intBits .and .u8 (n.val:Int) 15=(n.val:Int) % 16:=by decide+kernel
 intro c hc;have:=h ⟨c.toNat,by have:=hc.2;omega⟩;simpa[Int.toNat_of_nonneg hc.1]using this
theorem ai2 (c:Int)(h:isByte c):c.fdiv (2^min (Int.toNat 4) aN.bits)=c/16:=by
 have e:(2:Int)^min (Int.toNat 4) aN.bits=16:=(by decide)
 grind
theorem xX (x:Int)(h0:0<=x)(h1:x<256):aN.wrap x=x:=by
 have:aN.wrap x=x % 256:=rfl;omega
theorem wrap64 (x:Int)(h0: -9223372036854775808<=x)(h1:x<9223372036854775808):aq.wrap x=x:=by
 grind [IntKind.wrap_i64]
theorem dE {n:Nat}(h:n<=lim):fits n=true:=Nat.ble_eq_true_of_le h
theorem Gj (s:ByteArray):∀c∈bytesOf s,isByte c:=by
 intro c hc;obtain⟨b,_,rfl⟩:=cG.1 hc;have:=b.toNat_lt;exact⟨by omega,by omega⟩
theorem KH {c:Int}(h:isByte c):byte c=c:=by
 unfold byte;obtain⟨h0,h1⟩:=h;omega
theorem wY {l:List Int}(h:∀c∈l,isByte c):l.map byte=l:=by
 induction l with
 |nil=>rfl
 |cons x r ih=>
  simp_all[bW,KH,aF,aD]
theorem ju {α:Type}(pre:List α)(x:α)(r:List α)(d:α):(pre++x::r).getD pre.length d=x:=by
 simp
def stop (q:Nat->Bool):Nat->Nat->Nat
 |0,j=>j
 |k+1,j=>bif q j then stop q k (j+1)else j
theorem tj {q:Nat->Bool}:∀(k j:Nat),j<=stop q k j
 |0,j=>aC _
 |k+1,j=>by
  unfold stop;cases q j
  ·simp
  ·have:=tj (q:=q) k (j+1);simp;omega
theorem zn {q:Nat->Bool}{N:Nat}(h:∀j,N<=j->q j=ar):∀(k j:Nat),N<=j+k->q (stop q k j)=ar
 |0,j,hk=>h j (by omega)
 |k+1,j,hk=>by
  unfold stop;cases hq:q j
  ·grind
  ·exact zn h k (j+1) (by omega)
theorem uJ {q:Nat->Bool}:∀(k j i:Nat),j<=i->i<stop q k j->q i=av
 |0,j,i,h1,h2=>by grind [stop]
 |k+1,j,i,h1,h2=>by
  unfold stop at h2;cases hq:q j
  ·rw[hq]at h2;simp at h2;omega
  ·rw[hq]at h2
   rcases bG j i with h|h
   ·exact uJ k (j+1) i h h2
   ·have:i=j:=(by omega);subst this;exact hq
theorem Nl {q:Nat->Bool}{N:Nat}(h:∀j,N<=j->q j=ar):∀(k k' j:Nat),N<=j+k->N<=j+k'->stop q k j=stop q k' j
 |0,0,j,_,_=>rfl
 |0,k'+1,j,h1,_=>by simp_all[stop]
 |k+1,0,j,_,h2=>by simp_all[stop]
 |k+1,k'+1,j,h1,h2=>by
  unfold stop;cases q j
  ·rfl
  ·exact Nl h k k' (j+1) (by omega) (by omega)
theorem Jt {q:Nat->Bool}{N:Nat}(h:∀j,N<=j->q j=ar){k j:Nat}(hk:N<=j+k)(hq:q j=av):stop q k j=stop q k (j+1):=by
 have hj:j<N:=by
  grind
 obtain⟨k,rfl⟩:∃m,k=m+1:=⟨k - 1,by omega⟩;rw[Nl h (k+1) k (j+1) (by omega) (by omega)];simp_all[stop]
theorem D9 {q:Nat->Bool}{k j:Nat}(hq:q j=ar):stop q k j=j:=by
 cases k with
 |zero=>rfl
 |succ k=>simp_all[stop]
theorem adv {S:Sys}{R:Type}{F:S.Tab->Nat->Option R}{q:Nat->Bool}{out:Nat->R}{N:Nat}{p:S.Tab->Prop}(hp:Evt λn=>p (S.tab n))(hN:∀j,N<=j->q j=ar)
  (h1:∀T j,p T->q j=av->F (S.step T) j=F T (j+1)) (h2:∀T j,p T->q j=ar->F (S.step T) j=J (out j)):
  ∀(k j:Nat),N<=j+k->Evt λn=>F (S.tab n) j=J (out (stop q k j))
 |0,j,hk=>hp.up λn h=>by
  show F (S.step (S.tab n)) j=_;rw[h2 _ _ h (hN j (by omega))];rfl
 |k+1,j,hk=>by
  cases hq:q j with
  |false=>
   refine hp.up λn h=> ?_
   simp_all[D9]
  |true=>
   refine((adv hp hN h1 h2 k (j+1) (by omega)).and hp).up λn h=> ?_
   simp_all[stop]
theorem cU {ρ:Type}{b:Bool}{x y:Option ρ}(h:b=av):brk b x y=x:=by grind [gC]
theorem dm {ρ:Type}{b:Bool}{x y:Option ρ}(h:b=ar):brk b x y=y:=by grind [gC]
theorem dA {ρ:Type}{p:Prop} [Decidable p] {x y:Option ρ}(h:p):brk (decide p) x y=x:=cU (ab h)
theorem da {ρ:Type}{p:Prop} [Decidable p] {x y:Option ρ}(h:¬p):brk (decide p) x y=y:=dm (aa h)
end Go.Abs
end

section
namespace Go.Abs
def snap (W:World):Rd:=λb=>match W.heap[b]? with|some (.cells arr _ _)=>J arr.toList|_=>ay
theorem RX {W:World}{b:Nat}{L:List Value}(h:snap W b=J L):∃arr ty fr,W.heap[b]?=J (.cells arr ty fr)/\arr.toList=L:=by
 grind [snap]
def ofD {H:Type}:(τ:Ty)->DataW H->τ.den
 | .int _,d=>match d with| .lit (.int _ z)=>z|_=>(0:Int)
 | .bool,d=>match d with| .lit (.bool b)=>b|_=>ar
 | .str,d=>match d with| .lit (.string bs)=>bs.map λb=>(b.toNat:Int)|_=>([]:List Int)
 | .sl e,d=>match d with| .slice ds _=>ds.map (ofD e)|_=>[]
 | .un,_=>()
 | .pr a b,d=>match d with| .agg (x::r)=>(ofD a x,ofD b (.agg r))|_=>(ofD a (DataW.nil (H:=H)),ofD b (DataW.nil (H:=H)))
 | .cl,_=>([]:List Int)
def Good:(τ:Ty)->τ.den->Prop
 | .int k,x=>k.min<=x/\x<=k.max
 | .str,l=>(∀c∈l,isByte c)/\l.length<=maxLen
 | .sl e,xs=>(∀x∈xs,Good e x)/\xs.length<=maxLen
 | .pr a b,x=>Good a x.1/\Good b x.2
 |_,_=>True
def Rh (P:Program)(g:TypeId->Ty->Bool):List Field->Nat->Ty->Bool
 |[],_, .un=>av
 |f::r,off, .pr a b=>aw f.offset off&&g f.type a&&aw (P.cellsOf f.type) a.size&&Rh P g r (off+a.size) b
 |_,_,_=>ar
def NV (P:Program):Nat->TypeId->Ty->Bool
 |0,_,_=>ar
 |n+1,t,τ=>match P.underlying t with
  |some .bool=>(match τ with| .bool=>av|_=>ar)
  |some (.int k)=>(match τ with| .int k'=>I (k=k')|_=>ar)
  |some .string=>(match τ with| .str=>av|_=>ar)
  |some (.slice e)=>(match τ with| .sl τ'=>NV P n e τ'&&aw (P.cellsOf e) τ'.size&&cE 0 τ'.size|_=>ar)
  |some (.struct fs)=>Rh P (NV P n) fs.toList 0 τ&&aw (P.cellsOf t) τ.size
  |_=>ar
theorem AZ {α β:Type}{f:α->Option β}:∀{l:List α} {r:List β},l.mapM f=J r->r.length=l.length/\∀i (h:i<l.length),f l[i]=r[i]?
 |[],r,h=>by
  simp_all
 |x::l,r,h=>by
  rw[List.mapM_cons]at h;obtain⟨y,h1,h2⟩:=bB.1 h;obtain⟨ys,h3,h4⟩:=bB.1 h2
  injection h4 with h4
  subst h4;obtain⟨hl,hx⟩:=AZ h3;refine⟨by simp[hl],λi hi=> ?_⟩
  cases i with
  |zero=>exact h1
  |succ i=>exact hx i (by simpa using hi)
theorem Jw (a:Addr)(n:Nat):(a.add n).block=a.block:=by grind [Addr.add]
theorem Q4 (a:Addr)(n:Nat):(a.add n).off=a.off+n:=by
 grind [Addr.add]
theorem Ti {a:Addr}(h:a.spot=ay)(n:Nat):(a.add n).spot=none:=by grind [Addr.add]
theorem add_zero' (a:Addr):a.add 0=a:=by rfl
theorem Hn {W:World}{base:Nat}{a:Addr}{n:Nat}{cs:List Value}(h:W.cells? base a n=J cs)(hn:0<n):a.spot=ay/\∃L,snap W a.block=J L/\(L.drop a.off).take n=cs:=by
 unfold World.cells? at h;split at h
 ·obtain⟨hl,hx⟩:=AZ h
  have hc:∀i,i<n->W.cell? (a.add i)=cs[i]?:=λi hi=>by
   simp_all
  have e0:=hc 0 hn;rw[add_zero']at e0;unfold World.cell? at e0
  cases hh:W.heap[a.block]? with
  |none=>simp_all
  |some o=>
   cases o with
   |cells arr ty fr=>
    have VG:a.spot=none:=by
     simp_all
    refine⟨VG,arr.toList, ?_, ?_⟩
    ·simp_all[snap]
    ·refine a06 λi=> ?_
     by_cases hi:i<n
     ·simp_all[World.cell?,Jw,Ti,Q4]
     grind
   |_=>simp_all
 simp_all
theorem NN {H:Type}{enc:TypeId×Value->H}{P:Program}{W:World}{sp:Nat->Bool}{held:Bool}{n:Nat}{g:TypeId->Ty->Bool}
  (hg:∀t τ cs (x:DataW H×List MemPlace),g t τ=av->a34 enc P W 0 sp held n t cs=J x->Rc (snap W) τ (ofD τ x.1) cs/\Good τ (ofD τ x.1)):
  ∀(fs:List Field) (off:Nat) (τ:Ty) (cs:List Value) (xs:List (DataW H×List MemPlace)),Rh P g fs off τ=av->(fs.mapM λf=>a34 enc P W 0 sp held n f.type ((cs.drop f.offset).take (P.cellsOf f.type)))=J xs->off+τ.size<=cs.length->
   Rc (snap W) τ (ofD τ (.agg (xs.map (·.1)))) ((cs.drop off).take τ.size)/\Good τ (ofD τ (.agg (xs.map (·.1))))
 |[],off,τ,cs,xs,hf,hm,hl=>by
  cases τ with
  |un=>exact⟨by rfl,trivial⟩
  |_=>cases hf
 |f::fs,off,τ,cs,xs,hf,hm,hl=>by
  cases τ with
  |pr a b=>
   unfold Rh at hf;simp only[aA]at hf;obtain⟨⟨⟨h1,h2⟩,h3⟩,h4⟩:=hf;have h1:=bV h1;have h3:=bV h3;rw[List.mapM_cons]at hm;obtain⟨y,hy,hm⟩:=bB.1 hm;obtain⟨ys,aW0,hm⟩:=bB.1 hm
   injection hm with hm
   subst hm;have po:(Ty.pr a b).size=a.size+b.size:=rfl;rw[h1,h3]at hy;obtain⟨r1,g1⟩:=hg _ _ _ _ h2 hy;obtain⟨r2,g2⟩:=NN hg fs (off+a.size) b cs ys h4 aW0 (by omega);refine⟨⟨(cs.drop off).take a.size,(cs.drop (off+a.size)).take b.size, ?_,r1,r2⟩,g1,g2⟩;rw[po,List.take_add,b8]
  |_=>cases hf
theorem FR {H:Type}{enc:TypeId×Value->H}{P:Program}{W:World}{sp:Nat->Bool}{held:Bool}:∀(k n:Nat) (t:TypeId) (τ:Ty) (cs:List Value) (x:DataW H×List MemPlace),NV P k t τ=av->a34 enc P W 0 sp held n t cs=J x->
  Rc (snap W) τ (ofD τ x.1) cs/\Good τ (ofD τ x.1)
 |0,_,_,_,_,_,h,_=>by cases h
 |k+1,n,t,τ,cs,x,h,hx=>by
  unfold NV at h
  cases hu:P.underlying t with
  |none=>simp_all
  |some d=>
  rw[hu]at h
  cases d with
  |bool=>
   cases τ with
   |bool=>
    obtain⟨b,rfl,rfl⟩:=DataW.trod_bool hu hx;exact⟨rfl,trivial⟩
   |_=>cases h
  |int j=>
   cases τ with
   |int j'=>
    have h:I (j=j')=true:=h;have h:=of_decide_eq_true h;subst h;obtain⟨z,rfl,rfl,hw⟩:=DataW.trod_int hu hx;refine⟨rfl, ?_⟩;simp only[Lit.wf,aA,ae]at hw;exact hw
   |_=>cases h
  |string=>
   cases τ with
   |str=>
    obtain⟨s,rfl,rfl,hs⟩:=DataW.trod_string hu hx;refine⟨⟨s,rfl,rfl⟩,Gj s, ?_⟩;show(List.map _ s.data.toList).length<=maxLen;simp_all
   |_=>cases h
  |slice e=>
   cases τ with
   |sl τ'=>
    rw[aA,aA]at h;obtain⟨h,tu⟩:=h
    have tu:0<τ'.size:=by simp_all
    have hz:=bV h.2
    rcases DataW.trod_slice hu hx with⟨rfl,rfl⟩|⟨a,len,cap,elems,rest,m,rfl,rfl,rfl,_,hle,ao4,hlen,Ox,_,_⟩
    ·refine⟨⟨ay,0,rfl,aC _, .inl rfl⟩, ?_⟩;show(∀x∈([]:List τ'.den),Good τ' x)/\0<=maxLen;simp
    ·have hL:((elems.map (·.1)).map (ofD τ')).length=len:=by simp_all
     have one:∀i (hi:i<len),∃Jg,W.cells? 0 (a.add (i*τ'.size)) τ'.size=J Jg/\Rc (snap W) τ' (ofD τ' (elems[i]'(by omega)).1) Jg/\Good τ' (ofD τ' (elems[i]'(by omega)).1):=λi hi=>by
      have s5:=Ox i hi;rw[aJ (show i<elems.length by omega),hz]at s5;obtain⟨Jg,h1,h2⟩:=bB.1 s5;obtain⟨h3,h4⟩:=FR k _ _ _ _ _ h.1 h2;exact⟨Jg,h1,h3,h4⟩
     refine⟨?_, ?_⟩
     ·show Rc (snap W) (.sl τ') ((elems.map (·.1)).map (ofD τ')) _
      by_cases h0:len=0
      ·subst h0;refine⟨J a,cap,by rw[hL],by omega, .inl ?_⟩
       grind
      ·obtain⟨aB2,c1,c2,c3⟩:=one 0 (by omega);obtain⟨VG,L,hb,_⟩:=Hn c1 (by omega);rw[Nat.zero_mul,add_zero']at VG hb;obtain⟨b,o,aT9⟩:=a;have VG:aT9=none:=VG;subst VG;refine⟨J ⟨b,o,ay⟩,cap,by rw[hL],by omega, .inr ⟨b,o,L,rfl,hb,λi hi=> ?_⟩⟩;rw[hL]at hi;obtain⟨Jg,d1,d2,d3⟩:=one i hi;obtain⟨_,L',Om,e'⟩:=Hn d1 (by omega);simp_all[Jw,snap,Q4]
     ·refine⟨λy hy=> ?_, ?_⟩
      ·have hy:y∈(elems.map (·.1)).map (ofD τ'):=hy;obtain⟨i,hi,rfl⟩:=List.getElem_of_mem hy
       grind
      grind [ofD,maxLen]
   |_=>cases h
  |struct fs=>
   rw[aA]at h;have hz:=bV h.2
   cases n with
   |zero=>simp[a34]at hx
   |succ n=>
    unfold a34 at hx;rw[hu]at hx;simp only at hx;split at hx
    ·rename_i hl;obtain⟨xs,h1,rfl⟩:=bj.1 hx;have:=NN (λt τ cs x h1 h2=>FR k n t τ cs x h1 h2) fs.toList 0 τ cs xs h.1 h1 (by omega)
     grind
    simp_all
  |_=>cases h
end Go.Abs
end
