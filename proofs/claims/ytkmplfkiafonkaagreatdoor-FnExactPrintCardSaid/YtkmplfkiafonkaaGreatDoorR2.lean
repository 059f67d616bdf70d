/- What is here: what is handed over at a call, told by the world and what is immutable alone. -/
import Derived.Test.YtkmplfkiafonkaaGreatDoorR1
import Derived.MapKept
import Derived.Scope
import Derived.KernelRfl
import Derived.Below
import Derived.Laws.BitsLemmas
import Derived.OpenShut
import Derived.OpenVars
import Derived.Laws.Externs
import Derived.LaidMore
import Derived.LaidHandle
set_option linter.unusedVariables false
set_option linter.unusedSimpArgs false
set_option maxRecDepth 100000
open Go.IntKind (i64 u64 u8)
section
namespace Go.Abs
def rdW (w:World):Rd:=fun b=>match w.heap[b]? with
 |some (.cells arr _ (0,0))=>some arr.toList
 |_=>none
def kG (ax:Rd)(w:World)(mv:Bool)(τ:Ty)(xs:List τ.den)(L:List Value)(nb:List Nat):Prop:=
 if mv then eW (rdW w) τ xs L nb else Els ax τ xs L 0∧nb=[]
def OwnAt (ax:Rd)(w:World)(mv:Bool)(τ:Ty)(xs:List τ.den)(us:List Value)(nb:List Nat):Prop:=
 (us=[.slice none 0 0]∧xs=[]∧nb=[])∨∃b cap arr ty fV,us=[.slice (some ⟨b,0,none⟩) xs.length cap]∧nb=b::fV∧w.heap[b]?=some (.cells arr ty (0,0))∧
   xs.length≤cap∧arr.size=cap*τ.size∧kG ax w mv τ xs arr.toList fV
def lU (ax:Rd)(w:World)(pl:Nat×Nat)(xs:List Int)(us:List Value)(nb:List Nat):Prop:=
 (us=[.pointer none, .slice none 0 0]∧xs=[]∧nb=[])∨∃u2,us=[.pointer (some ⟨pl.1,pl.2,none⟩),u2]∧OwnAt ax w false (.int .u8) xs [u2] nb∧∀b∈nb,∃arr,w.heap[b]?=some (.cells arr jb (0,0))
def Pass (ax:Rd)(w:World):(s:Sp)→s.ty.den→Nat×Nat→List Value→List Nat→Prop
 | .un,_,_,us,nb=>us=[]∧nb=[]
 | .pr a b,x,pl,us,nb=>∃u1 u2 n1 n2,us=u1++u2∧nb=n1++n2∧Pass ax w a x.1 pl u1 n1∧Pass ax w b x.2 (pl.1,pl.2+a.size) u2 n2
 | .cf τ,x,_,us,nb=>nb=[]∧τ.one=true∧∃u,us=[u]∧Rc ax τ x [u]
 | .own τ dp,xs,_,us,nb=>OwnAt ax w (dp&& !τ.flat) τ xs us nb
 | .vg τ dp,xs,_,us,nb=>OwnAt ax w (dp&& !τ.flat) τ xs us nb
 | .ptr wh st s,x,_,us,nb=>∃b o arr ty fV,us=[.pointer (some ⟨b,o,none⟩)]∧nb=b::fV∧w.heap[b]?=some (.cells arr ty (0,0))∧((wh=true→o=0∧arr.size=s.size∧ty=st.1)∧(wh=false→A2 st.2 ty o arr.size=true))∧o+s.size≤arr.size∧
   Pass ax w s x (b,o) ((arr.toList.drop o).take s.size) fV
 | .vj ok,x,_,us,nb=>∃b o arr ty,us=[.pointer (some ⟨b,o,none⟩)]∧w.heap[b]?=some (.cells arr ty (0,0))∧A2 ok ty o arr.size=true∧o+2≤arr.size∧lU ax w (b,o) x ((arr.toList.drop o).take 2) nb
 | .nR,x,pl,us,nb=>lU ax w pl x us nb
 | .err,b,_,us,nb=>nb=[]∧∃u,us=[u]∧((b=true∧u= .nilIface)∨(b=false∧∃t v,u= .iface t v))
 | .np,_,_,us,nb=>nb=[]∧us=[.pointer none]
 | .slf _ _,_,_,us,nb=>nb=[]∧∃b o,us=[.pointer (some ⟨b,o,none⟩)]
theorem kG.mono {ax cH:Rd}(h:∀b L,ax b=some L→cH b=some L){w:World}{mv:Bool}{τ:Ty}{xs:List τ.den}{L:List Value}{nb:List Nat}(k:kG ax w mv τ xs L nb):kG cH w mv τ xs L nb:=by
 unfold kG at k⊢;split
 ·rename_i e;rw[WK e]at k;exact k
 ·rename_i e;rw[Wz e]at k;exact⟨k.1.mono h,k.2⟩
theorem OwnAt.mono {ax cH:Rd}(h:∀b L,ax b=some L→cH b=some L){w:World}{mv:Bool}{τ:Ty}{xs:List τ.den}{us:List Value}{nb:List Nat}(k:OwnAt ax w mv τ xs us nb):OwnAt cH w mv τ xs us nb:=by
 rcases k with k|⟨b,cap,arr,ty,fV,e,e',ha,hl,hs,k⟩
 ·exact .inl k
 ·exact .inr ⟨b,cap,arr,ty,fV,e,e',ha,hl,hs,k.mono h⟩
theorem OwnAt.length {ax:Rd}{w:World}{mv:Bool}{τ:Ty}{xs:List τ.den}{us:List Value}{nb:List Nat}(k:OwnAt ax w mv τ xs us nb):us.length=1:=by
 rcases k with k|⟨b,cap,arr,ty,fV,e,_⟩
 ·rw[k.1];rfl
 ·rw[e];rfl
theorem lU.mono {ax cH:Rd}(h:∀b L,ax b=some L→cH b=some L){w:World}{pl:Nat×Nat}{xs:List Int}{us:List Value}{nb:List Nat}(k:lU ax w pl xs us nb):lU cH w pl xs us nb:=by
 rcases k with k|⟨u2,e,k⟩
 ·exact .inl k
 ·exact .inr ⟨u2,e,k.1.mono h,k.2⟩
theorem lU.length {ax:Rd}{w:World}{pl:Nat×Nat}{xs:List Int}{us:List Value}{nb:List Nat}(k:lU ax w pl xs us nb):us.length=2:=by
 rcases k with k|⟨u2,e,_⟩
 ·rw[k.1];rfl
 ·rw[e];rfl
theorem Pass.mono {ax cH:Rd}(h:∀b L,ax b=some L→cH b=some L){w:World}:∀{s:Sp}{x:s.ty.den}{pl:Nat×Nat}{us:List Value}{nb:List Nat},Pass ax w s x pl us nb→Pass cH w s x pl us nb
 | .un,_,_,_,_,k=>k
 | .pr _ _,_,_,_,_,⟨u1,u2,n1,n2,e,e',k1,k2⟩=>⟨u1,u2,n1,n2,e,e',Pass.mono h k1,Pass.mono h k2⟩
 | .cf _,_,_,_,_,⟨e,h1,u,e',k⟩=>⟨e,h1,u,e',k.mono h⟩
 | .own _ _,_,_,_,_,k=>OwnAt.mono h k
 | .vg _ _,_,_,_,_,k=>OwnAt.mono h k
 | .ptr _ _ _,_,_,_,_,⟨b,o,arr,ty,fV,e,e',ha,hw,hl,k⟩=>⟨b,o,arr,ty,fV,e,e',ha,hw,hl,Pass.mono h k⟩
 | .vj _,_,_,_,_,⟨b,o,arr,ty,e,ha,hk,hl,k⟩=>⟨b,o,arr,ty,e,ha,hk,hl,lU.mono h k⟩
 | .nR,_,_,_,_,k=>lU.mono h k
 | .err,_,_,_,_,k=>k
 | .np,_,_,_,_,k=>k
 | .slf _ _,_,_,_,_,k=>k
theorem Pass.length {ax:Rd}{w:World}:∀{s:Sp}{x:s.ty.den}{pl:Nat×Nat}{us:List Value}{nb:List Nat},Pass ax w s x pl us nb→us.length=s.size
 | .un,_,_,_,_,k=>by rw[k.1];rfl
 | .pr _ _,_,_,_,_,⟨u1,u2,n1,n2,e,e',k1,k2⟩=>by subst e;simp[Sp.size,k1.length,k2.length]
 | .cf _,_,_,_,_,⟨e,h1,u,e',k⟩=>by subst e';rfl
 | .own _ _,_,_,_,_,k=>OwnAt.length k
 | .vg _ _,_,_,_,_,k=>OwnAt.length k
 | .ptr _ _ _,_,_,_,_,⟨b,o,arr,ty,fV,e,_⟩=>by rw[e];rfl
 | .vj _,_,_,_,_,⟨b,o,arr,ty,e,_⟩=>by rw[e];rfl
 | .nR,_,_,_,_,k=>lU.length k
 | .err,_,_,_,_,⟨_,u,e,_⟩=>by rw[e];rfl
 | .np,_,_,_,_,k=>by rw[k.2];rfl
 | .slf _ _,_,_,_,_,⟨_,b,o,e⟩=>by rw[e];rfl
theorem HRel.congr {B:Base}{g:Gh}{hp x8:List (Nat×Obj)}{w:World}(e:∀i,look x8 i=look hp i)(R:HRel B g hp w):HRel B g x8 w:=
 ⟨fun i=>by rw[e i];exact R.top i,fun i o h=>R.eC i o (by rw[←e i];exact h),R.ax,R.ed,R.ey,R.jh,R.frame,R.size,R.os,R.tape,R.output,R.fix⟩
theorem FA {β:Type}(l:List (Nat×β))(n:Nat)(a b:β)(i:Nat):look ((n,a)::l) i=look ((n,a)::(n,b)::l) i:=by
 by_cases e:n=i
 ·subst e;rw[aF,aF]
 ·rw[aC _ _ e,aC _ _ e,aC _ _ e]
theorem HRel.Kd {B:Base}{g:Gh}{hp:List (Nat×Obj)}{w:World}(R:HRel B g hp w){id b:Nat}(hl:g.cM b=some (id+1))(hn:g.ed b=none)
  (ho:∀o,look hp id=some o→(∃gn,o= .dead gn)∨∃gn cs,o= .gj gn cs):
  ∃g',Lk g g'∧g'.outer=g.outer∧g'.ax=g.ax∧g'.ed=g.ed∧(∀x,x≠b→g'.cM x=g.cM x)∧g'.cM b=some 0∧HRel B g' hp w:=by
 let g':Gh:={g with cM:=fun x=>if x=b then some 0 else g.cM x}
 have hle:Le g g':=⟨fun _ _ h=>h,fun _=>Wp _,fun _ _ _=>rfl⟩;refine⟨g',⟨hle,fun x hx=> ?_,rfl⟩,rfl,rfl,rfl,fun x hx=>by simp[g',hx],by simp[g'], ?_⟩
 ·have:x≠b:=fun e=>by subst e;rw[hl]at hx;simp at hx
  simp[g',this,hx]
 ·refine⟨R.top,fun i oi hi=> ?_,fun x L hx=> ?_,fun x L hx=> ?_,fun x hx=> ?_,R.jh,fun x hx Ik hi=> ?_,R.size,R.os,R.tape,R.output,R.fix⟩
  ·by_cases e:i=id
   ·subst e
    rcases ho oi hi with⟨gn,rfl⟩|⟨gn,cs,rfl⟩<;>trivial
   ·refine(R.eC i oi hi).tr hle (fun x hx=> ?_) rfl (gP R hi)
    have iZ:x≠b:=fun e'=>by subst e';rw[hl]at hx;simp at hx;exact e hx.symm
    exact⟨by simp[g',iZ,hx],rfl,rfl⟩
  ·obtain⟨a1,a2,a3⟩:=R.ax x L hx
   have iZ:x≠b:=fun e'=>by subst e';rw[hl]at a1;cases a1
   exact⟨by simp[g',iZ,a1],a2,a3⟩
  ·obtain⟨a1,a2⟩:=R.ed x L hx;refine⟨?_,a2⟩
   by_cases iZ:x=b
   ·simp[g',iZ]
   ·simpa[g',iZ]using a1
  ·by_cases iZ:x=b
   ·subst iZ;exact R.ey x (by rw[hl];simp)
   ·exact R.ey x (by simpa[g',iZ]using hx)
  ·obtain⟨f1,f2,f3⟩:=R.frame x hx Ik hi
   have iZ:x≠b:=fun e'=>by subst e';rw[hl]at f1;cases f1
   exact⟨by simp[g',iZ,f1],f2,f3⟩
theorem HRel.Ly {B:Base}{g:Gh}{hp:List (Nat×Obj)}{w:World}(R:HRel B g hp w){b:Nat}{L:List Value}(h:g.ed b=some L):rdW w b=some L:=by
 obtain⟨_,arr,ty,a,e⟩:=R.ed b L h;unfold rdW;rw[a];simpa using e
theorem HRel.R6 {B:Base}{g:Gh}{hp:List (Nat×Obj)}{w:World}(R:HRel B g hp w){id gen:Nat}{τ:Ty}{deep dp:Bool}{xs:List τ.den}
  (h:look hp id=some (.own gen τ deep xs)) (hd:(deep|| !dp||τ.flat)=true):∃g' nb,Lk g g'∧g'.outer=g.outer∧HRel B g' ((id, .dead gen)::hp) w∧nb.Nodup∧(∀b∈nb,g'.cM b=some 0∧g.cM b≠some 0)∧
   OwnAt g'.ax w (dp&& !τ.flat) τ xs [g.cv id gen] nb:=by
 have step1:∃g1,Lk g g1∧g1.outer=g.outer∧HRel B g1 ((id, .own gen τ (deep&&dp) xs)::hp) w:=by
  by_cases e:(deep&&dp)=deep
  ·rw[e];exact⟨g,Lk.refl g,rfl,R.put h rfl (R.eC _ _ h)⟩
  ·have e':(deep&&dp)=false:=by cases deep<;>cases dp<;>simp_all
   rw[e']
   have:∃g',Lk g g'∧g'.outer=g.outer∧HRel B g' ((id, .own gen τ false xs)::hp) w:=by
    have hO:=R.eC _ _ h
    rcases hO with⟨h1,h2⟩|⟨b,cap,arr,ty,h1,h2,h3,h4,h5,h6,h7⟩
    ·exact⟨g,Lk.refl g,rfl,R.put h rfl (.inl ⟨h1,h2⟩)⟩
    ·by_cases hd:(deep&& !τ.flat)=true
     ·unfold dG at h7;rw[WK hd]at h7;obtain⟨nb,k1,k2,k3⟩:=h7
      have hS:∀x L,nbS g nb x=some L→g.cM x=some (id+1)∧∃arr ty fr,w.heap[x]?=some (.cells arr ty fr)∧arr.toList=L:=by
       intro x L hx;unfold nbS at hx;split at hx
       ·rename_i hm;obtain⟨_,arr,ty,a,b⟩:=R.ed x L hx;exact⟨k3 x hm,arr,ty,(0,0),a,b⟩
       ·cases hx
      have Bj:b∉nb:=fun hm=>k1.qO b hm h3
      have o9:nbS g nb b=none:=(by simp[nbS,Bj]);refine⟨_,R.yH (fun x L hx=>(hS x L hx).1),rfl,R.Dx hS h rfl (.inr ⟨b,cap,arr,ty,h1,by simp[Gh.ki,o9,h2],by simp[Gh.ki,o9,h3],h4,h5,h6, ?_⟩)⟩;show dG _ _ _ false _ _;unfold dG;simp only[Wc,WJ,WY];refine eW.els (nb:=nb) (k1.mono fun x hx L hL=> ?_);simp[Gh.ki,nbS,hx,hL]
     ·refine⟨g,Lk.refl g,rfl,R.put h rfl (.inr ⟨b,cap,arr,ty,h1,h2,h3,h4,h5,h6, ?_⟩)⟩;unfold dG at h7⊢;rw[Wz hd]at h7;simpa using h7
   exact this
 obtain⟨g1,l1,o1,R1⟩:=step1;have ht:=gP R h;have hO:=R1.eC _ _ (aF _ _ _);have tg:g1.cv id gen=g.cv id gen:=l1.le.cv _ _ ht
 have Rd:HRel B g1 ((id, .dead gen)::hp) w:=(R1.put (aF _ _ _) (o':= .dead gen) rfl trivial).congr fun i=>FA _ _ _ _ i
 rcases hO with⟨h1,h2⟩|⟨b,cap,arr,ty,h1,h2,h3,h4,h5,h6,h7⟩
 ·refine⟨g1,[],l1,o1,Rd,WM,fun b hb=>by simp at hb, .inl ⟨?_,h2,rfl⟩⟩;rw[←tg,h1]
 ·rw[tg]at h1
  have nest:∃g2 fV,Lk g1 g2∧g2.outer=g1.outer∧g2.ax=g1.ax∧HRel B g2 ((id, .dead gen)::hp) w∧fV.Nodup∧(∀x∈fV,g2.cM x=some 0∧g1.cM x≠some 0)∧b∉fV∧g2.cM b=some (id+1)∧g2.ed b=none∧
    kG g2.ax w (dp&& !τ.flat) τ xs arr.toList fV:=by
   unfold dG at h7
   by_cases hc:((deep&&dp)&& !τ.flat)=true
   ·rw[WK hc]at h7;obtain⟨nb,k1,k2,k3⟩:=h7
    have Bj:b∉nb:=fun hm=>k1.qO b hm h3
    let g':Gh:={g1 with cM:=open Classical in fun x=>if x∈nb then some 0 else g1.cM x}
    have hle:Le g1 g':=⟨fun _ _ h=>h,fun _=>Wp _,fun _ _ _=>rfl⟩
    have hR:HRel B g' ((id, .dead gen)::hp) w:=by
     refine⟨Rd.top,fun i oi hi=> ?_,fun x L hx=> ?_,fun x L hx=> ?_,fun x hx=> ?_,Rd.jh,fun x hx hl hi=> ?_,Rd.size,Rd.os,Rd.tape,Rd.output,Rd.fix⟩
     ·by_cases e:id=i
      ·subst e;rw[aF]at hi;injection hi with hi;subst hi;trivial
      ·refine(Rd.eC i oi hi).tr hle (fun x hx=> ?_) rfl (gP Rd hi)
       have jW:x∉nb:=fun hm=>by rw[k3 x hm]at hx;simp at hx;exact e hx
       simp[g',jW,hx]
     ·obtain⟨a1,a2,a3⟩:=Rd.ax x L hx
      have jW:x∉nb:=fun hm=>by rw[k3 x hm]at a1;cases a1
      exact⟨by simp[g',jW,a1],a2,a3⟩
     ·obtain⟨a1,a2⟩:=Rd.ed x L hx;refine⟨?_,a2⟩
      by_cases jW:x∈nb
      ·simp[g',jW]
      ·simpa[g',jW]using a1
     ·by_cases jW:x∈nb
      ·exact Rd.ey x (by rw[k3 x jW];simp)
      ·exact Rd.ey x (by simpa[g',jW]using hx)
     ·obtain⟨f1,f2,f3⟩:=Rd.frame x hx hl hi
      have jW:x∉nb:=fun hm=>by rw[k3 x hm]at f1;cases f1
      exact⟨by simp[g',jW,f1],f2,f3⟩
    refine⟨g',nb,⟨hle,fun x hx=> ?_,rfl⟩,rfl,rfl,hR,k2,fun x hx=>⟨by simp[g',hx],by rw[k3 x hx];simp⟩,Bj,by simp[g',Bj,h2],h3, ?_⟩
    ·have jW:x∉nb:=fun hm=>by rw[k3 x hm]at hx;simp at hx
     simp[g',jW,hx]
    ·have IG:(dp&& !τ.flat)=true:=by
      simp only[V6]at hc⊢;exact⟨hc.1.2,hc.2⟩
     unfold kG;rw[WK IG]
     exact k1.mono fun x hx L hL=>Rd.Ly hL
   ·rw[Wz hc]at h7
    have IG:(dp&& !τ.flat)=false:=by
     revert hc hd
     cases deep<;>cases dp<;>cases τ.flat<;>simp
    refine⟨g1,[],Lk.refl g1,rfl,rfl,Rd,WM,fun x hx=>by simp at hx,by simp,h2,h3, ?_⟩;unfold kG;rw[IG];simp only[WJ,WY];exact⟨h7,trivial⟩
  obtain⟨g2,fV,l2,o2,i2,R2,n1,n2,n3,n4,n5,n6⟩:=nest;obtain⟨g3,l3,o3,i3,s3,f3,z3,R3⟩:=R2.Kd n4 n5 (fun o ho=>by rw[aF]at ho;injection ho with ho;exact .inl ⟨gen,ho.symm⟩);refine⟨g3,b::fV,(l1.trans l2).trans l3,(o3.trans o2).trans o1,R3,List.nodup_cons.2 ⟨n3,n1⟩,fun x hx=> ?_, .inr ⟨b,cap,arr,ty,fV,by rw[h1],rfl,h4,h5,h6,by rw[i3];exact n6⟩⟩
  rcases WE.1 hx with rfl|hy
  ·refine⟨z3,fun e=> ?_⟩;have:=(l1.kp x e).1;rw[h2]at this;simp at this
  ·have iZ:x≠b:=fun e=>n3 (e ▸ hy)
   refine⟨by rw[f3 x iZ];exact(n2 x hy).1,fun e=>(n2 x hy).2 (l1.kp x e).1⟩
def jU (hp:List (Nat×Obj))(g:Gh)(w:World):(s:Sp)→List Cell→List Value→Prop
 | .pr a b,cs,us=>jU hp g w a (cs.take a.size) (us.take a.size)∧jU hp g w b (cs.drop a.size) (us.drop a.size)
 | .vg _ _,cs,us=>(cs=[.nil]∧us=[.slice none 0 0])∨∃id gen,cs=[.own id gen]∧us=[g.cv id gen]∧gen<g.top id∧oc (g.cv id gen)=true
 | .ptr _ _ s,cs,us=>∃id gen off bs b o arr ty L,cs=[.ptr id gen off]∧us=[.pointer (some ⟨b,o+off,none⟩)]∧look hp id=some (.gj gen (ty,bs))∧g.cv id gen= .pointer (some ⟨b,o,none⟩)∧
   w.heap[b]?=some (.cells arr ty (0,0))∧arr.toList=(g.outer id).take o++L++(g.outer id).drop (o+L.length)∧o+L.length≤(g.outer id).length∧(o=0∧(g.outer id).length=bs.length)∧
   off+s.size≤bs.length∧aA g bs L∧jU hp g w s (cut off s.size bs) ((L.drop off).take s.size)
 |_,_,_=>True
theorem jU.mono {hp x8:List (Nat×Obj)}{g g':Gh}{w:World}(l:Le g g')(ho:∀id gn cs,look hp id=some (.gj gn cs)→look x8 id=some (.gj gn cs)∧g'.outer id=g.outer id)(ht:∀id gn cs,look hp id=some (.gj gn cs)→gn<g.top id):
  ∀{s:Sp} {cs:List Cell} {us:List Value},jU hp g w s cs us→jU x8 g' w s cs us
 | .un,_,_,_=>trivial
 | .cf _,_,_,_=>trivial
 | .own _ _,_,_,_=>trivial
 | .nR,_,_,_=>trivial
 | .vj _,_,_,_=>trivial
 | .err,_,_,_=>trivial
 | .np,_,_,_=>trivial
 | .slf _ _,_,_,_=>trivial
 | .vg _ _,_,_, .inl h=> .inl h
 | .vg _ _,_,_, .inr ⟨id,gen,e,e',h,M0⟩=> .inr ⟨id,gen,e,by rw[l.cv _ _ h];exact e',WD h (l.top _),by rw[l.cv _ _ h];exact M0⟩
 | .pr _ _,_,_,⟨h1,h2⟩=>⟨jU.mono l ho ht h1,jU.mono l ho ht h2⟩
 | .ptr _ _ _,_,_,⟨id,gen,off,bs,b,o,arr,ty,L,e1,e2,hl,jV,ha,hL,hle,hid,yB,hc,hr⟩=>by
  obtain⟨k1,k2⟩:=ho _ _ _ hl;exact⟨id,gen,off,bs,b,o,arr,ty,L,e1,e2,k1,(l.cv _ _ (ht _ _ _ hl)).trans jV,ha,by rw[k2];exact hL,by rw[k2];exact hle,by rw[k2];exact hid,yB,hc.mono l,jU.mono l ho ht hr⟩
def cF (g:Gh)(nb:List Nat):Prop:=nb.Nodup∧∀b∈nb,g.cM b=some 0
theorem cF.mono {g g':Gh}(l:Lk g g'){nb:List Nat}(h:cF g nb):cF g' nb:=⟨h.1,fun b hb=>(l.kp b (h.2 b hb)).1⟩
theorem cF.append {g g':Gh}{n1 n2:List Nat}(l:Lk g g')(h1:cF g n1)(h2:cF g' n2)(hf:∀b∈n2,g.cM b≠some 0):cF g' (n1++n2):=by
 refine⟨?_,fun b hb=> ?_⟩
 ·rw[List.nodup_append];exact⟨h1.1,h2.1,fun x hx y hy e=>by subst e;exact hf x hy (h1.2 x hx)⟩
 ·rcases Wu.1 hb with hb|hb
  ·exact(h1.mono l).2 b hb
  ·exact h2.2 b hb
def fU (s s':St):Prop:=s'.env=s.env∧∀id gn cs,look s.hp id=some (.gj gn cs)→look s'.hp id=some (.gj gn cs)
theorem fU.refl (s:St):fU s s:=⟨rfl,fun _ _ _ h=>h⟩
theorem fU.trans {a b c:St}(h:fU a b)(k:fU b c):fU a c:=⟨k.1.trans h.1,fun i g cs hl=>k.2 i g cs (h.2 i g cs hl)⟩
theorem nN {s:St}{id:Nat}{o:Obj}(h:∀gn cs,look s.hp id≠some (.gj gn cs)):fU s {s with hp:=(id,o)::s.hp}:=
 ⟨rfl,fun i gn cs hl=>by
  by_cases e:id=i
  ·subst e;exact absurd hl (h gn cs)
  ·show look ((id,o)::s.hp) i=_
   rw[aC _ _ e];exact hl⟩
end Go.Abs
end

section
namespace Go.Abs
theorem FF:∀(k:Nat)(c:Cell)(s:St)(xs:List Int)(s':St),(Ii k c).run s=some (xs,s')→fU s s':=by
 intro k
 induction k with
 |zero=>
  intro c s xs s' h
  cases c with
  |v τ x=>cases τ<;>first|(obtain⟨rfl,rfl⟩:=aq h;exact fU.refl _)|exact nomatch h
  |np=>obtain⟨rfl,rfl⟩:=aq h;exact fU.refl _
  |nf=>exact nomatch h
  |nil=>exact nomatch h
  |own _ _=>exact nomatch h
  |ptr _ _ off=>cases off<;>exact nomatch h
  |fn _ _=>exact nomatch h
  |err _=>exact nomatch h
 |succ k ih=>
  intro c s xs s' h
  cases c with
  |v τ x=>cases τ<;>first|(obtain⟨rfl,rfl⟩:=aq h;exact fU.refl _)|exact nomatch h
  |np=>obtain⟨rfl,rfl⟩:=aq h;exact fU.refl _
  |nf=>exact nomatch h
  |nil=>exact nomatch h
  |own _ _=>exact nomatch h
  |fn _ _=>exact nomatch h
  |err _=>exact nomatch h
  |ptr id gen off=>
   cases off with
   |succ n=>exact nomatch h
   |zero=>
    simp only[Ii,AM.run]at h;split at h
    ·obtain⟨hb,h'⟩:=aX h;obtain⟨ys,t,h1,h2⟩:=AM.ai h';have k1:=ih _ _ _ _ h1;simp only[AM.run]at h2;split at h2
     ·rename_i heq;simp only[AM.run,WI,WU]at h2;obtain⟨rfl,rfl⟩:=h2;exact k1.trans (nN fun gn cs hl=>by rw[heq]at hl;cases hl)
     ·exact nomatch h2
    ·obtain⟨hb,h'⟩:=aX h;obtain⟨rfl,rfl⟩:=aq h';exact fU.refl _
    ·exact nomatch h
theorem Ee {τ:Ty}{c:Cell}{s s':St}{x:τ.den}(h:(datum τ c).run s=some (x,s')):fU s s':=by
 cases τ with
 |int k=>
  cases c with
  |v τ' x'=>
   cases τ' with
   |int k'=>
    simp only[datum]at h;split at h
    ·obtain⟨rfl,rfl⟩:=aq h;exact fU.refl _
    ·exact nomatch h
   |_=>exact nomatch h
  |_=>exact nomatch h
 |bool=>
  cases c with
  |v τ' x'=>cases τ'<;>first|(obtain⟨rfl,rfl⟩:=aq h;exact fU.refl _)|exact nomatch h
  |_=>exact nomatch h
 |str=>
  cases c with
  |v τ' x'=>cases τ'<;>first|(obtain⟨rfl,rfl⟩:=aq h;exact fU.refl _)|exact nomatch h
  |_=>exact nomatch h
 |un=>cases c<;>exact nomatch h
 |pr a b=>cases c<;>exact nomatch h
 |cl=>exact FF 4 c s x s' h
 |sl e=>
  cases c with
  |v τ' x'=>
   cases τ' with
   |sl e'=>
    simp only[datum]at h;obtain⟨_,_,rfl⟩:=ij h;exact fU.refl _
   |_=>exact nomatch h
  |nil=>obtain⟨rfl,rfl⟩:=aq h;exact fU.refl _
  |own id gen=>
   simp only[datum,AM.run]at h;split at h
   ·rename_i heq;obtain⟨hb,h'⟩:=aX h;simp only[AM.run]at h';obtain⟨_,_,rfl⟩:=ij h'
    exact nN fun gn cs hl=>by rw[heq]at hl;cases hl
   ·obtain⟨hb,h'⟩:=aX h;obtain⟨_,_,rfl⟩:=ij h';exact fU.refl _
   ·exact nomatch h
  |ptr _ _ _=>exact nomatch h
  |np=>exact nomatch h
  |nf=>exact nomatch h
  |fn _ _=>exact nomatch h
  |err _=>exact nomatch h
def gg (g:Gh)(pl:Plc)(rp:Nat×Nat):Prop:=∀id gen off,pl=some (id,gen,off)→gen<g.top id∧∃b o,g.cv id gen= .pointer (some ⟨b,o,none⟩)∧rp=(b,o+off)
theorem gg.mono {g g':Gh}(l:Le g g'){pl:Plc}{rp:Nat×Nat}(h:gg g pl rp):gg g' pl rp:=fun id gen off e=>by
 obtain⟨h1,b,o,h2,h3⟩:=h id gen off e;exact⟨WD h1 (l.top _),b,o,(l.cv _ _ h1).trans h2,h3⟩
theorem gg.on {g:Gh}{pl:Plc}{rp:Nat×Nat}(h:gg g pl rp)(n:Nat):gg g (pl.on n) (rp.1,rp.2+n):=fun id gen off e=>by
 unfold Plc.on at e;split at e
 ·rename_i Ph g' o'
  injection e with e;injection e with e1 e;injection e with e2 e3
  subst e1;subst e2;subst e3;obtain⟨h1,b,o,h2,h3⟩:=h _ _ _ rfl;refine⟨h1,b,o,h2, ?_⟩;rw[h3];simp[Nat.add_assoc]
 ·cases e
theorem gg.none (g:Gh)(rp:Nat×Nat):gg g none rp:=fun id gen off e=>by cases e
def AS (sp:Sp)(pl:Plc)(cells:List Cell)(s:St)(x:sp.ty.den)(rest:List Cell)(s':St):Prop:=
 fU s s'∧(∃used,cells=used++rest∧used.length=sp.size)∧∀B g w,HRel B g s.hp w→∃g',Lk g g'∧HRel B g' s'.hp w∧∀us rp,aA g cells us→gg g pl rp→
  ∃Ho K3 nb,us=Ho++K3∧Pass g'.ax w sp x rp Ho nb∧cF g' nb∧aA g' rest K3∧(∀b∈nb,g.cM b≠some 0)∧jU s'.hp g' w sp (cells.take sp.size) Ho
theorem HRel.GZ {B:Base}{g:Gh}{hp:List (Nat×Obj)}{w:World}(R:HRel B g hp w){id gen:Nat}{xs:List Int}{a ag bid bg off:Nat}(h:look hp id=some (.nR gen xs a ag bid bg off)):
  ∃g' nb,Lk g g'∧HRel B g' ((id, .dead gen)::hp) w∧nb.Nodup∧(∀b∈nb,g'.cM b=some 0∧g.cM b≠some 0)∧
   ((g.cv a ag= .pointer none∧g.cv id gen= .slice none 0 0∧xs=[]∧nb=[])∨∃bb oo,g.cv bid bg= .pointer (some ⟨bb,oo,none⟩)∧g.cv a ag= .pointer (some ⟨bb,oo+off,none⟩)∧OwnAt g'.ax w false (.int .u8) xs [g.cv id gen] nb∧∀b∈nb,∃arr,w.heap[b]?=some (.cells arr jb (0,0))):=by
 obtain⟨h1,h2,h3,h4⟩:=R.eC _ _ h;have R1:HRel B g ((id, .dead gen)::hp) w:=R.put h rfl trivial
 rcases h4 with⟨k1,k2,k3⟩|⟨bb,oo,k1,k2,⟨k3,k4⟩|⟨b,cap,arr,ty,e1,e2,e3,e4,e5,e6,e7,rfl⟩⟩
 ·exact⟨g,[],Lk.refl g,R1,WM,fun b hb=>by simp at hb, .inl ⟨k1,k2,k3,rfl⟩⟩
 ·exact⟨g,[],Lk.refl g,R1,WM,fun b hb=>by simp at hb, .inr ⟨bb,oo,k1,k2, .inl ⟨by rw[k3],k4,rfl⟩,fun b hb=>by simp at hb⟩⟩
 ·obtain⟨g2,l2,o2,i2,s2,f2,z2,R2⟩:=R1.Kd e2 e3 (fun o ho=>by rw[aF]at ho;injection ho with ho;exact .inl ⟨gen,ho.symm⟩);refine⟨g2,[b],l2,R2,by simp,fun x hx=> ?_, .inr ⟨bb,oo,k1,k2, .inr ⟨b,cap,arr,jb,[],by rw[e1],rfl,e4,e5,by simpa[Ty.size]using e6, ?_⟩,fun x hx=> ?_⟩⟩
  ·simp only[List.mem_singleton]at hx;subst hx;exact⟨z2,by rw[e2];simp⟩
  ·unfold kG;simp only[WJ,WY];exact⟨e7.flat rfl,trivial⟩
  ·simp only[List.mem_singleton]at hx;subst hx;exact⟨arr,e4⟩
theorem HRel.qj {B:Base}{g:Gh}{hp:List (Nat×Obj)}{w:World}(R:HRel B g hp w):∀id gn cs,look hp id=some (.gj gn cs)→gn<g.top id:=fun _ _ _ h=>gP R h
theorem F2 {α:Type}{arr O L:List α}{o off n:Nat}(h:arr=O.take o++L++O.drop (o+L.length))(ho:o+L.length≤O.length)(hn:off+n≤L.length):(L.drop off).take n=(arr.drop (o+off)).take n:=by
 subst h
 apply List.ext_getElem?
 intro j;simp only[List.getElem?_take,List.getElem?_drop];split
 ·rw[V7,List.getElem?_append_right (by simp;omega),List.getElem?_append_left (by simp;omega)]
  congr 1
  simp;omega
 ·rfl
theorem AS.close {sp:Sp}{pl:Plc}{cells:List Cell}{s t:St}{x:sp.ty.den}{rest:List Cell}{s':St}{id gen:Nat}(h:(wu id gen).run s=some ((),t))(k:AS sp pl cells t x rest s'):AS sp pl cells s x rest s':=by
 obtain⟨e1,e2,e3⟩:=ss h;obtain⟨k1,k2,k3⟩:=k;refine⟨⟨k1.1.trans e1,fun i gn cs hl=>k1.2 i gn cs (e2 i gn cs hl)⟩,k2,fun B g w R=> ?_⟩;obtain⟨g1,l1,R1⟩:=e3 R;obtain⟨g2,l2,R2,c⟩:=k3 B g1 w R1;refine⟨g2,l1.trans l2,R2,fun us rp hu vf=> ?_⟩;obtain⟨u1,u2,nb,a1,a2,a3,a4,a5,a6⟩:=c us rp (hu.mono l1.le) (vf.mono l1.le);exact⟨u1,u2,nb,a1,a2,a3,a4,fun b hb e=>a5 b hb (l1.kp b e).1,a6⟩
theorem uP:∀(sp:Sp)(pl:Plc)(cells:List Cell)(s:St)(x:sp.ty.den)(rest:List Cell)(s':St),(BM sp pl cells).run s=some ((x,rest),s')→AS sp pl cells s x rest s':=by
 intro sp
 induction sp with
 |un=>
  intro pl cells s x rest s' h;obtain⟨h1,rfl⟩:=aq h
  injection h1 with h1 h2
  subst h2;exact⟨fU.refl _,⟨[],rfl,rfl⟩,fun B g w R=>⟨g,Lk.refl g,R,fun us rp hu _=>⟨[],us,[],rfl,⟨rfl,rfl⟩,⟨WM,fun b hb=>by simp at hb⟩,hu,fun b hb=>by simp at hb,trivial⟩⟩⟩
 |pr a b BQ BT=>
  intro pl cells s x rest s' h;obtain⟨⟨p1,p2⟩,t,h1,h2⟩:=AM.ai h;obtain⟨⟨q1,q2⟩,t2,h3,h4⟩:=AM.ai h2;obtain⟨h5,rfl⟩:=aq h4
  injection h5 with h5 h6
  subst h5;subst h6;obtain⟨ka,⟨ca,ea,la⟩,sa⟩:=BQ _ _ _ _ _ _ h1;obtain⟨kb,⟨cb,eb,lb⟩,sb⟩:=BT _ _ _ _ _ _ h3;have eb:p2=cb++rest:=eb;refine⟨ka.trans kb,⟨ca++cb,by rw[ea,eb,V7],by simp[la,lb,Sp.size]⟩,fun B g w R=> ?_⟩;obtain⟨g1,l1,R1,c1⟩:=sa B g w R;obtain⟨g2,l2,R2,c2⟩:=sb B g1 w R1;refine⟨g2,l1.trans l2,R2,fun us rp hu vf=> ?_⟩;obtain⟨u1,u2,n1,rfl,P1,O1,r1,f1,L1⟩:=c1 us rp hu vf;obtain⟨u3,u4,n2,rfl,P2,O2,r2,f2,L2⟩:=c2 u2 (rp.1,rp.2+a.size) r1 ((vf.mono l1.le).on a.size);have lO:=P1.length;have K5:=P2.length;refine⟨u1++u3,u4,n1++n2,by simp,⟨u1,u3,n1,n2,rfl,rfl,P1.mono l2.le.ax,P2⟩,cF.append l2 O1 O2 f2,r2,fun b hb=> ?_, ?_⟩
  ·rcases Wu.1 hb with hb|hb
   ·exact f1 b hb
   ·exact fun e=>f2 b hb (l1.kp b e).1
  ·have e1:((cells.take (a.size+b.size)).take a.size)=cells.take a.size:=by rw[List.take_take];congr 1;omega
   have e2:((cells.take (a.size+b.size)).drop a.size)=p2.take b.size:=by
    rw[ea,←la,List.drop_take,List.drop_left]
    congr 1
    omega
   have e3:(u1++u3).take a.size=u1:=by rw[←lO];simp
   have e4:(u1++u3).drop a.size=u3:=by rw[←lO];simp
   show jU _ _ _ a ((cells.take (a.size+b.size)).take a.size) ((u1++u3).take a.size)∧jU _ _ _ b ((cells.take (a.size+b.size)).drop a.size) ((u1++u3).drop a.size);rw[e1,e2,e3,e4];exact⟨L1.mono l2.le (fun id gn cs hl=>⟨kb.2 id gn cs hl,by rw[l2.out]⟩) R1.qj,L2⟩
 |cf τ=>
  intro pl cells s x rest s' h
  cases cells with
  |nil=>exact nomatch h
  |cons c cs=>
   obtain⟨y,t,h1,h2⟩:=AM.ai h;obtain⟨h3,rfl⟩:=aq h2
   injection h3 with h3 h4
   subst h3;subst h4;refine⟨Ee h1,⟨[c],rfl,rfl⟩,fun B g w R=> ?_⟩;obtain⟨g',l,R',hd⟩:=(xP τ c _ _ _ h1).2 B g w R;refine⟨g',l,R',fun us rp hu _=> ?_⟩;obtain⟨u,r,rfl,mO,hr⟩:=hu;obtain⟨o1,o2⟩:=hd u mO;exact⟨[u],r,[],rfl,⟨rfl,o1,u,rfl,o2⟩,⟨WM,fun b hb=>by simp at hb⟩,hr.mono l.le,fun b hb=>by simp at hb,trivial⟩
 |own τ dp=>
  intro pl cells s x rest s' h
  cases cells with
  |nil=>exact nomatch h
  |cons c cs=>
   cases c with
   |nil=>
    obtain⟨h3,rfl⟩:=aq h
    injection h3 with h3 h4
    subst h3;subst h4;refine⟨fU.refl _,⟨[.nil],rfl,rfl⟩,fun B g w R=>⟨g,Lk.refl g,R,fun us rp hu _=> ?_⟩⟩;obtain⟨u,r,rfl,mO,hr⟩:=hu;have mO:_=_:=mO;subst mO;exact⟨_,r,[],rfl, .inl ⟨rfl,rfl,rfl⟩,⟨WM,fun b hb=>by simp at hb⟩,hr,fun b hb=>by simp at hb,trivial⟩
   |own id gen=>
    obtain⟨u0,s0,Fu,h⟩:=AM.ai h;refine AS.close Fu ?_;simp only[AM.run]at h;split at h
    ·rename_i g0 τ' deep xs heq;obtain⟨hb,h'⟩:=aX h;simp only[V6]at hb;obtain rfl:=beq_eq hb.1;simp only[AM.run]at h';obtain⟨ys,t,h1,h2⟩:=AM.ai h';obtain⟨h3,rfl⟩:=aq h2
     injection h3 with h3 h4
     subst h3;subst h4;obtain⟨ee,hx,rfl⟩:=ij h1;subst ee;subst hx;refine⟨nN (fun gn cs hl=>by rw[heq]at hl;cases hl),⟨[.own id g0],rfl,rfl⟩,fun B g w R=> ?_⟩;obtain⟨g',nb,l,_,R',hn,hp,hP⟩:=R.R6 heq hb.2;refine⟨g',l,R',fun us rp hu _=> ?_⟩;obtain⟨u,r,rfl,mO,hr⟩:=hu;exact⟨[u],r,nb,rfl,by rw[mO.2.1];exact hP,⟨hn,fun b hb=>(hp b hb).1⟩,hr.mono l.le,fun b hb=>(hp b hb).2,trivial⟩
    ·cases h
   |_=>exact nomatch h
 |vg τ dp=>
  intro pl cells s x rest s' h;exact nomatch h
 |ptr wh st sp ih=>
  intro pl cells s x rest s' h
  cases cells with
  |nil=>exact nomatch h
  |cons c cs=>
   cases c with
   |ptr id gen off=>
    simp only[BM,AM.run]at h;split at h
    ·rename_i g0 bt bs heq;obtain⟨hb,h'⟩:=aX h;simp only[V6]at hb;obtain rfl:=beq_eq hb.1.1;have yB:=Wr hb.2;simp only[AM.run]at h';obtain⟨⟨y,rst⟩,t,h1,h2⟩:=AM.ai h';obtain⟨h3,rfl⟩:=aq h2
     injection h3 with h3 h4
     subst h3;subst h4;obtain⟨k1,⟨used,eu,lu⟩,hs⟩:=ih _ _ _ _ _ _ h1
     have MR:fU s {s with hp:=(id, .gj g0 (bt,bs))::s.hp}:=nN fun gn cs hl=>by rw[heq]at hl;cases hl
     refine⟨MR.trans k1,⟨[.ptr id g0 off],rfl,rfl⟩,fun B g w R=> ?_⟩;have hO:=R.eC _ _ heq;obtain⟨b,o,arr,ty,L,KJ,OT,O4,KY,Oz,Tt,Io,Rn,Mk⟩:=hO;have Mk:ty=bt:=Mk;subst Mk;have ht:=gP R heq;have R1:HRel B g ((id, .gj g0 (ty,bs))::s.hp) w:=R.put heq rfl trivial;obtain⟨g2,l2,o2,i2,s2,f2,z2,R2⟩:=R1.Kd OT.1 OT.2 (fun o ho=>by rw[aF]at ho;injection ho with ho;exact .inr ⟨g0,(ty,bs),ho.symm⟩);obtain⟨g3,l3,R3,c3⟩:=hs B g2 w R2;have Oi:=l2.trans l3;refine⟨g3,Oi,R3,fun us rp hu _=> ?_⟩;obtain⟨u,r,rfl,mO,hr⟩:=hu;obtain⟨_,b1,o1,e1,rfl⟩:=mO;rw[KJ]at e1
     injection e1 with e1;injection e1 with e1;injection e1 with e1 e2
     subst e1;subst e2;have Ur:L.length=bs.length:=KY.length;have Gy:aA g2 (cut off sp.size bs) ((L.drop off).take sp.size):=((KY.mono l2.le).drop off).take sp.size
     have OJ:gg g2 (some (id,g0,off)) (b,o+off):=fun Ph OW KK e=>by
      injection e with e;injection e with e1 e;injection e with e2 e3
      subst e1;subst e2;subst e3;exact⟨WD ht (l2.le.top _),b,o,(l2.le.cv _ _ ht).trans KJ,rfl⟩
     obtain⟨u1,u2,n1,O7,P1,O1,r1,f1,Vq⟩:=c3 _ (b,o+off) Gy OJ;have Rs:=P1.length
     have vh:u2=[]:=by
      have:=congrArg List.length O7;simp only[WA,WN,VZ,Rs]at this;exact WL (by omega)
     subst vh;rw[Wv]at O7;have Kx:(L.drop off).take sp.size=(arr.toList.drop (o+off)).take sp.size:=F2 Oz Tt (by omega);have LZ:g3.cM b=some 0:=(l3.kp b z2).1
     have Q8:arr.size=(g.outer id).length:=by
      have:arr.toList.length=(g.outer id).length:=by
       rw[Oz];simp only[VZ,WA,WN];omega
      simpa using this
     have UP:=Io;have UC:(g.outer id).length=bs.length:=Rn;refine⟨[_],r,b::n1,rfl,⟨b,o+off,arr,ty,n1,rfl,rfl,O4,⟨fun hw=> ?_,fun hw=> ?_⟩, ?_, ?_⟩,⟨List.nodup_cons.2 ⟨fun hm=>f1 b hm z2,O1.1⟩,fun x hx=> ?_⟩,hr.mono Oi.le,fun x hx=> ?_, ?_⟩
     ·subst hw;have:=hb.1.2.1;simp only[Wq,Wd,V6]at this;have a1:=beq_eq this.1.1;have a2:=beq_eq this.1.2;have a3:=beq_eq this.2;exact⟨by omega,by omega,a3⟩
     ·subst hw;have:=hb.1.2.2;rw[Wd]at this;rw[show o+off=off by omega,show arr.size=bs.length by omega];exact this
     ·omega
     ·rw[←Kx,O7];exact P1
     ·rcases WE.1 hx with rfl|hy
      ·exact LZ
      ·exact O1.2 x hy
     ·rcases WE.1 hx with rfl|hy
      ·rw[OT.1];simp
      ·exact fun e=>f1 x hy (l2.kp x e).1
     ·refine⟨id,g0,off,bs,b,o,arr,ty,L,rfl,rfl,k1.2 id g0 (ty,bs) (aF _ _ _),(Oi.le.cv _ _ ht).trans KJ,O4,by rw[Oi.out];exact Oz,by rw[Oi.out];exact Tt,by rw[Oi.out];exact⟨UP,UC⟩,yB,KY.mono Oi.le, ?_⟩
      have Fu:cut off sp.size bs=(cut off sp.size bs).take sp.size:=by unfold cut;rw[List.take_take,Nat.min_self]
      rw[Fu,O7];exact Vq
    ·cases h
   |_=>exact nomatch h
 |vj ok=>
  intro pl cells s x rest s' h
  cases cells with
  |nil=>exact nomatch h
  |cons c cs=>
   cases c with
   |ptr id gen off=>
    simp only[BM,AM.run]at h;split at h
    ·rename_i g0 bt bs heq;obtain⟨hb,h'⟩:=aX h;simp only[V6]at hb;obtain rfl:=beq_eq hb.1.1;have yB:=Wr hb.2;have cE:=hb.1.2
     have place:∀{B g w},HRel B g s.hp w→∀{u},aV g (.ptr id g0 off) u→∃b arr,u= .pointer (some ⟨b,off,none⟩)∧g.cv id g0= .pointer (some ⟨b,0,none⟩)∧w.heap[b]?=some (.cells arr bt (0,0))∧arr.size=bs.length∧
       aA g (cut off 2 bs) ((arr.toList.drop off).take 2):=by
      intro B g w R u hu;obtain⟨b,o,arr,ty,L,KJ,OT,O4,KY,Oz,Tt,Io,Rn,Mk⟩:=R.eC _ _ heq;have Mk:ty=bt:=Mk;subst Mk;have Rn:(g.outer id).length=bs.length:=Rn;subst Io;have Ur:L.length=bs.length:=KY.length
      have e5:arr.toList=L:=by
       rw[Oz,List.take_zero,List.nil_append,List.drop_eq_nil_of_le (by omega),Wv]
      obtain⟨_,b1,o1,e1,rfl⟩:=hu;rw[KJ]at e1
      injection e1 with e1;injection e1 with e1;injection e1 with e1 e2
      subst e1;subst e2;refine⟨b,arr,by rw[Nat.zero_add],KJ,O4,by rw[←Array.length_toList,e5,Ur], ?_⟩;rw[e5];exact(KY.drop off).take 2
     split at h'
     ·rename_i hc;obtain⟨h3,rfl⟩:=aq h'
      injection h3 with h3 h4
      subst h3;subst h4;refine⟨fU.refl _,⟨[_],rfl,rfl⟩,fun B g w R=>⟨g,Lk.refl g,R,fun us rp hu _=> ?_⟩⟩;obtain⟨u,r,rfl,mO,hr⟩:=hu;obtain⟨b,arr,rfl,jV,ha,hs,Kr⟩:=place R mO;rw[hc]at Kr;obtain⟨u1,r1,e1,k1,u2,r2,e2,k2,e3⟩:=Kr;have k1:_=_:=k1;have k2:_=_:=k2;have e3:_=_:=e3;subst k1;subst k2;subst e3;subst e2;refine⟨[_],r,[],rfl,⟨b,off,arr,bt,rfl,ha,by rw[hs];exact cE,by omega, ?_⟩,⟨WM,fun b hb=>by simp at hb⟩,hr,fun b hb=>by simp at hb,trivial⟩;rw[e1];exact .inl ⟨rfl,rfl,rfl⟩
     ·rename_i a ag Sy P5 hc;simp only[AM.run]at h';split at h'
      ·rename_i g2 xs a' Qe bid bg off2 QF;obtain⟨Bi,Uk⟩:=aX h';simp only[V6]at Bi;obtain rfl:=beq_eq Bi.1.1.1;obtain rfl:=beq_eq Bi.1.1.2;obtain rfl:=beq_eq Bi.1.2;obtain rfl:=beq_eq Bi.2.1.1;obtain rfl:=beq_eq Bi.2.1.2;obtain rfl:=beq_eq Bi.2.2;simp only[AM.run,WI,WU]at Uk;obtain⟨⟨rfl,rfl⟩,rfl⟩:=Uk;refine⟨nN (fun gn cs hl=>by rw[QF]at hl;cases hl),⟨[_],rfl,rfl⟩,fun B g w R=> ?_⟩;obtain⟨g',nb,l,R',hn,hp,hP⟩:=R.GZ QF;refine⟨g',l,R',fun us rp hu vf=> ?_⟩;obtain⟨u,r,rfl,mO,hr⟩:=hu;obtain⟨b,arr,rfl,jV,ha,hs,Kr⟩:=place R mO;rw[hc]at Kr;obtain⟨u1,r1,e1,k1,u2,r2,e2,k2,e3⟩:=Kr;have e3:_=_:=e3;subst e3;subst e2;refine⟨[_],r,nb,rfl,⟨b,_,arr,bt,rfl,ha,by rw[hs];exact cE,by omega, ?_⟩,⟨hn,fun b hb=>(hp b hb).1⟩,hr.mono l.le,fun b hb=>(hp b hb).2,trivial⟩;rw[e1]
       rcases hP with⟨q1,q2,q3,q4⟩|⟨bb,oo,q1,q2,q3⟩
       ·exact .inl ⟨by rw[k1.2.1,k2.2.1,q1,q2],q3,q4⟩
       ·rw[jV]at q1
        injection q1 with q1;injection q1 with q1;injection q1 with q1 q4
        subst q1;subst q4;exact .inr ⟨u2,by rw[k1.2.1,q2,Nat.zero_add],by rw[k2.2.1];exact q3⟩
      ·cases h'
     ·cases h'
    ·cases h
   |_=>exact nomatch h
 |nR=>
  intro pl cells s x rest s' h
  cases cells with
  |nil=>exact nomatch h
  |cons c cs=>
   cases cs with
   |nil=>cases c<;>exact nomatch h
   |cons c2 cs=>
    cases c with
    |np=>
     cases c2 with
     |nil=>
      obtain⟨h3,rfl⟩:=aq h
      injection h3 with h3 h4
      subst h3;subst h4;refine⟨fU.refl _,⟨[.np, .nil],rfl,rfl⟩,fun B g w R=>⟨g,Lk.refl g,R,fun us rp hu _=> ?_⟩⟩;obtain⟨u,r,rfl,mO,u',r',rfl,vh,hr⟩:=hu;have mO:_=_:=mO;have vh:_=_:=vh;subst mO;subst vh;exact⟨[_,_],r',[],rfl, .inl ⟨rfl,rfl,rfl⟩,⟨WM,fun b hb=>by simp at hb⟩,hr,fun b hb=>by simp at hb,trivial⟩
     |_=>exact nomatch h
    |own a ag=>
     cases c2 with
     |own id gen=>
      simp only[BM,AM.run]at h;split at h
      ·rename_i g0 xs a' Qe bid bg off heq;obtain⟨hb,h'⟩:=aX h;simp only[V6]at hb;obtain rfl:=beq_eq hb.1.1.1;obtain rfl:=beq_eq hb.1.1.2;obtain rfl:=beq_eq hb.1.2;simp only[AM.run,WI,WU]at h';obtain⟨⟨rfl,rfl⟩,rfl⟩:=h';refine⟨nN (fun gn cs hl=>by rw[heq]at hl;cases hl),⟨[_,_],rfl,rfl⟩,fun B g w R=> ?_⟩;obtain⟨g',nb,l,R',hn,hp,hP⟩:=R.GZ heq;refine⟨g',l,R',fun us rp hu vf=> ?_⟩;obtain⟨u,r,rfl,mO,u',r',rfl,vh,hr⟩:=hu;refine⟨[u,u'],r',nb,rfl, ?_,⟨hn,fun b hb=>(hp b hb).1⟩,hr.mono l.le,fun b hb=>(hp b hb).2,trivial⟩
       rcases hP with⟨k1,k2,k3,k4⟩|⟨bb,oo,k1,k2,k3⟩
       ·exact .inl ⟨by rw[mO.2.1,vh.2.1,k1,k2],k3,k4⟩
       ·have VI:pl=some (bid,bg,off):=by
         have:=hb.2;unfold Plc.is at this;split at this
         ·simp only[V6]at this;rw[beq_eq this.1.1,beq_eq this.1.2,beq_eq this.2]
         ·cases this
        obtain⟨_,b',o',q1,q2⟩:=vf _ _ _ VI;rw[k1]at q1
        injection q1 with q1;injection q1 with q1;injection q1 with q1 q3
        subst q1;subst q3;refine .inr ⟨u', ?_,by rw[vh.2.1];exact k3⟩;rw[mO.2.1,k2,q2]
      ·cases h
     |_=>exact nomatch h
    |_=>exact nomatch h
 |err=>
  intro pl cells s x rest s' h
  cases cells with
  |nil=>exact nomatch h
  |cons c cs=>
   cases c with
   |err b=>
    obtain⟨h3,rfl⟩:=aq h
    injection h3 with h3 h4
    subst h3;subst h4;refine⟨fU.refl _,⟨[_],rfl,rfl⟩,fun B g w R=>⟨g,Lk.refl g,R,fun us rp hu _=> ?_⟩⟩;obtain⟨u,r,rfl,mO,hr⟩:=hu;exact⟨[u],r,[],rfl,⟨rfl,u,rfl,mO⟩,⟨WM,fun b hb=>by simp at hb⟩,hr,fun b hb=>by simp at hb,trivial⟩
   |_=>exact nomatch h
 |np=>
  intro pl cells s x rest s' h
  cases cells with
  |nil=>exact nomatch h
  |cons c cs=>
   cases c with
   |np=>
    obtain⟨h3,rfl⟩:=aq h
    injection h3 with h3 h4
    subst h4;refine⟨fU.refl _,⟨[_],rfl,rfl⟩,fun B g w R=>⟨g,Lk.refl g,R,fun us rp hu _=> ?_⟩⟩;obtain⟨u,r,rfl,mO,hr⟩:=hu;have mO:_=_:=mO;subst mO;exact⟨_,r,[],rfl,⟨rfl,rfl⟩,⟨WM,fun b hb=>by simp at hb⟩,hr,fun b hb=>by simp at hb,trivial⟩
   |_=>exact nomatch h
 |slf f m=>
  intro pl cells s x rest s' h
  cases cells with
  |nil=>exact nomatch h
  |cons c cs=>
   cases c with
   |ptr id gen off=>
    obtain⟨_,h⟩:=aX h;obtain⟨h3,rfl⟩:=aq h
    injection h3 with h3 h4
    subst h4;refine⟨fU.refl _,⟨[_],rfl,rfl⟩,fun B g w R=>⟨g,Lk.refl g,R,fun us rp hu _=> ?_⟩⟩;obtain⟨u,r,rfl,mO,hr⟩:=hu;obtain⟨_,b,o,_,rfl⟩:=mO;exact⟨_,r,[],rfl,⟨rfl,_,_,rfl⟩,⟨WM,fun b hb=>by simp at hb⟩,hr,fun b hb=>by simp at hb,trivial⟩
   |_=>exact nomatch h
end Go.Abs
end

section
namespace Go.Abs
def mM (ax:Rd)(w0 w:World):(s:Sp)→s.ty.den→Nat×Nat→List Value→List Value→List Nat→Prop
 | .pr a b,x,pl,old,new,nb=>∃u1 u2 n1 n2,new=u1++u2∧nb=n1++n2∧mM ax w0 w a x.1 pl (old.take a.size) u1 n1∧mM ax w0 w b x.2 (pl.1,pl.2+a.size) (old.drop a.size) u2 n2
 | .vg τ dp,xs,_,old,new,nb=>new=old∧OwnAt ax w (dp&& !τ.flat) τ xs new nb
 | .ptr _ _ s,x,_,old,new,nb=>∃b o ql Kq arr L fV,old=[.pointer (some ⟨b,o,none⟩)]∧new=old∧nb=b::fV∧w0.heap[b]?=some (.cells ql Kq (0,0))∧w.heap[b]?=some (.cells arr Kq (0,0))∧
   arr.toList=ql.toList.take o++L++ql.toList.drop (o+L.length)∧o+L.length≤ql.toList.length∧L.length=s.size∧mM ax w0 w s x (b,o) ((ql.toList.drop o).take s.size) L fV
 |s,x,pl,_,new,nb=>Pass ax w s x pl new nb
theorem mM.length {ax:Rd}{w0 w:World}:∀{s:Sp}{x:s.ty.den}{pl:Nat×Nat}{old new:List Value}{nb:List Nat},mM ax w0 w s x pl old new nb→new.length=s.size
 | .un,_,pl,_,_,_,k=>Pass.length (s:= .un) (x:=()) (pl:=pl) k
 | .pr _ _,_,_,_,_,_,⟨u1,u2,n1,n2,e,_,k1,k2⟩=>by subst e;simp[Sp.size,mM.length k1,mM.length k2]
 | .cf _,x,pl,_,_,_,k=>Pass.length (s:= .cf _) (x:=x) (pl:=pl) k
 | .own _ _,x,pl,_,_,_,k=>Pass.length (s:= .own _ _) (x:=x) (pl:=pl) k
 | .vg _ _,x,_,_,_,_,k=>OwnAt.length k.2
 | .nR,x,pl,_,_,_,k=>Pass.length (s:= .nR) (x:=x) (pl:=pl) k
 | .vj _,x,pl,_,_,_,k=>Pass.length (s:= .vj _) (x:=x) (pl:=pl) k
 | .ptr _ _ _,_,_,_,_,_,⟨b,o,ql,Kq,arr,L,fV,e,e',_⟩=>by rw[e',e];rfl
 | .err,x,pl,_,_,_,k=>Pass.length (s:= .err) (x:=x) (pl:=pl) k
 | .np,_,pl,_,_,_,k=>Pass.length (s:= .np) (x:=()) (pl:=pl) k
 | .slf f m,_,pl,_,_,_,k=>Pass.length (s:= .slf f m) (x:=()) (pl:=pl) k
theorem mM.mono {ax cH:Rd}(h:∀b L,ax b=some L→cH b=some L){w0 w:World}:∀{s:Sp}{x:s.ty.den}{pl:Nat×Nat}{old new:List Value}{nb:List Nat},mM ax w0 w s x pl old new nb→mM cH w0 w s x pl old new nb
 | .un,_,_,_,_,_,k=>k
 | .pr _ _,_,_,_,_,_,⟨u1,u2,n1,n2,e,e',k1,k2⟩=>⟨u1,u2,n1,n2,e,e',mM.mono h k1,mM.mono h k2⟩
 | .cf _,x,pl,_,_,_,k=>Pass.mono h (s:= .cf _) (x:=x) (pl:=pl) k
 | .own _ _,x,pl,_,_,_,k=>Pass.mono h (s:= .own _ _) (x:=x) (pl:=pl) k
 | .vg _ _,_,_,_,_,_,k=>⟨k.1,OwnAt.mono h k.2⟩
 | .nR,x,pl,_,_,_,k=>Pass.mono h (s:= .nR) (x:=x) (pl:=pl) k
 | .vj _,x,pl,_,_,_,k=>Pass.mono h (s:= .vj _) (x:=x) (pl:=pl) k
 | .ptr _ _ _,_,_,_,_,_,⟨b,o,ql,Kq,arr,L,fV,e,e',e2,a0,a1,hL,hl,hs,k⟩=>⟨b,o,ql,Kq,arr,L,fV,e,e',e2,a0,a1,hL,hl,hs,mM.mono h k⟩
 | .err,_,_,_,_,_,k=>k
 | .np,_,_,_,_,_,k=>k
 | .slf _ _,_,_,_,_,_,k=>k
structure After (ax:Rd)(w:World)(nb:List Nat)(cH:Rd)(w':World)(fV:List Nat):Prop where
 mono:∀b L,ax b=some L→cH b=some L
 cells:∀b L,cH b=some L→∃arr ty fr,w'.heap[b]?=some (.cells arr ty fr)∧arr.toList=L
 same:∀b,b<w.heap.size→b∉nb→ax b=none→w'.heap[b]?=w.heap[b]?∧cH b=none
 nodup:fV.Nodup
 Pj:∀b∈fV,cH b=none∧(b∈nb∨w.heap.size≤b)∧b<w'.heap.size
 size:w.heap.size≤w'.heap.size
 os:w'.os=w.os
 tape:w'.tape=w.tape
 output:w'.output=w.output
 fix:∀b L,ax b=some L→w'.heap[b]?=w.heap[b]?
open Classical in
noncomputable def Gh.after (g:Gh)(nb:List Nat)(cH:Rd)(fV:List Nat):Gh:=
 {g with ax:=cH,cM:=fun x=>if x∈fV then some 0 else if x∈nb then none else g.cM x,ed:=fun x=>if x∈fV∨x∈nb then none else g.ed x}
theorem HRel.after {B:Base}{g:Gh}{hp:List (Nat×Obj)}{w w':World}(R:HRel B g hp w){nb fV:List Nat}{cH:Rd}(Ip:cF g nb)(A:After g.ax w nb cH w' fV):
  Le g (g.after nb cH fV)∧HRel B (g.after nb cH fV) hp w'∧cF (g.after nb cH fV) fV∧∀b∈fV,(g.after nb cH fV).ed b=none:=by
 have hle:Le g (g.after nb cH fV):=⟨A.mono,fun _=>Wp _,fun _ _ _=>rfl⟩
 have old:∀b,b<w.heap.size→b∉nb→b∉fV:=fun b h1 h2 h3=>by
  rcases(A.Pj b h3).2.1 with h|h
  ·exact h2 h
  ·omega
 refine⟨hle,⟨R.top,fun i o hi=> ?_,fun b L h=> ?_,fun b L h=> ?_,fun b h=> ?_,fun b L h=>A.mono _ _ (R.jh b L h),fun b hb hl hi=> ?_,Nat.le_trans R.size A.size,A.os.trans R.os,A.tape.trans R.tape,A.output.trans R.output,fun b L h=>(A.fix b L (R.jh b L h)).trans (R.fix b L h)⟩,⟨A.nodup,fun b hb=>by simp[Gh.after,hb]⟩,fun b hb=>by simp[Gh.after,hb]⟩
 ·refine(R.eC i o hi).tr hle (fun b hb=> ?_) rfl (gP R hi);have h1:=R.ey b (by rw[hb];simp)
  have h2:b∉nb:=fun hm=>by rw[Ip.2 b hm]at hb;simp at hb
  have h3:=old b h1 h2
  have h4:g.ax b=none:=by
   cases hi:g.ax b with
   |none=>rfl
   |some L=>have:=(R.ax b L hi).1;rw[hb]at this;cases this
  exact⟨by simp[Gh.after,h2,h3,hb],by simp[Gh.after,h2,h3],(A.same b h1 h2 h4).1⟩
 ·have h':cH b=some L:=h
  have h3:b∉fV:=fun hm=>by rw[(A.Pj b hm).1]at h';cases h'
  refine⟨?_, ?_,A.cells b L h'⟩
  ·by_cases h2:b∈nb
   ·simp[Gh.after,h3,h2]
   ·simp only[Gh.after,h3,h2,WY]
    by_cases h1:b<w.heap.size
    ·cases hi:g.ax b with
     |none=>rw[(A.same b h1 h2 hi).2]at h';cases h'
     |some L'=>exact(R.ax b L' hi).1
    ·cases hl:g.cM b with
     |none=>rfl
     |some x=>exact absurd (R.ey b (by rw[hl];simp)) h1
  ·by_cases h2:b∈nb
   ·simp[Gh.after,h2]
   ·simp only[Gh.after,h3,h2,or_self,WY]
    by_cases h1:b<w.heap.size
    ·cases hi:g.ax b with
     |none=>rw[(A.same b h1 h2 hi).2]at h';cases h'
     |some L'=>exact(R.ax b L' hi).2.1
    ·cases hl:g.ed b with
     |none=>rfl
     |some x=>exact absurd (R.ey b (R.ed b x hl).1) h1
 ·by_cases wO:b∈fV∨b∈nb
  ·simp[Gh.after,wO]at h
  ·have hn:g.ed b=some L:=by simpa[Gh.after,wO]using h
   rw[not_or]at wO;obtain⟨a1,arr,ty,a2,a3⟩:=R.ed b L hn
   have h4:g.ax b=none:=by
    cases hi:g.ax b with
    |none=>rfl
    |some L=>exact absurd (R.ax b L hi).1 a1
   exact⟨by simp[Gh.after,wO.1,wO.2,a1],arr,ty,((A.same b (R.ey b a1) wO.2 h4).1).trans a2,a3⟩
 ·by_cases h3:b∈fV
  ·exact(A.Pj b h3).2.2
  ·by_cases h2:b∈nb
   ·simp[Gh.after,h3,h2]at h
   ·exact WD (R.ey b (by simpa[Gh.after,h3,h2]using h)) A.size
 ·obtain⟨f1,f2,f3⟩:=R.frame b hb hl hi
  have h2:b∉nb:=fun hm=>by rw[Ip.2 b hm]at f1;cases f1
  have h1:b<w.heap.size:=WD hb R.size;have h3:=old b h1 h2;obtain⟨s1,s2⟩:=A.same b h1 h2 f2;exact⟨by simp[Gh.after,h2,h3,f1],s2,s1.trans f3⟩
theorem HRel.J0 {B:Base}{g:Gh}{hp:List (Nat×Obj)}{w:World}(R:HRel B g hp w){id gen b:Nat}{bs:Nat×List Cell}(hb:g.cM b=some 0)(hn:g.ed b=none)(hl:look hp id=some (.gj gen bs))
  {ob:Obj} (tf:ob.gen=gen) (A7:mW {g with cM:=open Classical in fun x=>if x=b then some (id+1)else g.cM x} w id ob):
  HRel B {g with cM:=open Classical in fun x=>if x=b then some (id+1)else g.cM x} ((id,ob)::hp) w:=by
 have hle:Le g {g with cM:=open Classical in fun x=>if x=b then some (id+1)else g.cM x}:=⟨fun _ _ h=>h,fun _=>Wp _,fun _ _ _=>rfl⟩;refine⟨fun i=> ?_,fun i oi hi=> ?_,fun x L hx=> ?_,fun x L hx=> ?_,fun x hx=> ?_,R.jh,fun x hx Ik hi=> ?_,R.size,R.os,R.tape,R.output,R.fix⟩
 ·show g.top i=_;rw[R.top i]
  by_cases e:id=i
  ·subst e;rw[aF,hl];show(Obj.gj gen bs).gen+1=ob.gen+1;rw[tf];rfl
  ·rw[aC _ _ e]
 ·by_cases e:id=i
  ·subst e;rw[aF]at hi;injection hi with hi;subst hi;exact A7
  ·rw[aC _ _ e]at hi;refine(R.eC i oi hi).tr hle (fun x hx=> ?_) rfl (gP R hi)
   have iZ:x≠b:=fun e'=>by subst e';rw[hb]at hx;simp at hx
   exact⟨by simp[iZ,hx],rfl,rfl⟩
 ·obtain⟨a1,a2,a3⟩:=R.ax x L hx
  have iZ:x≠b:=fun e'=>by subst e';rw[hb]at a1;cases a1
  exact⟨by simp[iZ,a1],a2,a3⟩
 ·obtain⟨a1,a2⟩:=R.ed x L hx;refine⟨?_,a2⟩
  by_cases iZ:x=b
  ·simp[iZ]
  ·simpa[iZ]using a1
 ·by_cases iZ:x=b
  ·subst iZ;exact R.ey x (by rw[hb];simp)
  ·exact R.ey x (by simpa[iZ]using hx)
 ·obtain⟨f1,f2,f3⟩:=R.frame x hx Ik hi
  have iZ:x≠b:=fun e'=>by subst e';rw[hb]at f1;cases f1
  exact⟨by simp[iZ,f1],f2,f3⟩
open Classical in
noncomputable def Gh.iP (g:Gh)(w:World)(id gen b:Nat)(u:Value)(nb:List Nat):Gh:=
  { g with top := fun i => if i = id then gen + 1 else g.top i
           cv:=fun i k=>if i=id∧k=gen then u else g.cv i k
           cM:=fun x=>if x=b∨x∈nb then some (id+1)else g.cM x
           ed:=fun x=>if x∈nb then rdW w x else g.ed x
           outer:=fun i=>if i=id then []else g.outer i}
theorem HRel.iP {B:Base}{g:Gh}{hp:List (Nat×Obj)}{w:World}(R:HRel B g hp w){id b cap:Nat}{arr:Array Value}{ty:TypeId}{τ:Ty}{deep:Bool}{xs:List τ.den}{nb:List Nat}
  (hb:g.cM b=some 0) (hn:g.ed b=none) (Bj:b∉nb) (ha:w.heap[b]?=some (.cells arr ty (0,0))) (hl:xs.length≤cap) (hs:arr.size=cap*τ.size) (kY:nb.Nodup) (o9:∀x∈nb,g.cM x=some 0∧rdW w x≠none)
  (hh:kG g.ax w (deep&& !τ.flat) τ xs arr.toList nb):
  ∃g',Le g g'∧(∀x,x≠b→x∉nb→g'.cM x=g.cM x∧g'.ed x=g.ed x)∧(∀i,i≠id→g'.outer i=g.outer i)∧HRel B g' ((id, .own (g.top id) τ deep xs)::hp) w∧aV g' (.own id (g.top id)) (.slice (some ⟨b,0,none⟩) xs.length cap):=by
 have hle:Le g (g.iP w id (g.top id) b (.slice (some ⟨b,0,none⟩) xs.length cap) nb):=by
  refine⟨fun _ _ h=>h,fun i=> ?_,fun i k hk=> ?_⟩
  ·show g.top i≤if i=id then g.top id+1 else g.top i
   split
   ·rename_i e;subst e;omega
   ·exact Wp _
  ·show(if i=id∧k=g.top id then _ else g.cv i k)=g.cv i k;rw[Wz];rintro⟨rfl,rfl⟩;omega
 refine⟨_,hle,fun x h1 h2=>⟨by simp[Gh.iP,h1,h2],by simp[Gh.iP,h2]⟩,fun i hi=>by simp[Gh.iP,hi],⟨fun i=> ?_,fun i oi hi=> ?_,fun x L hx=> ?_,fun x L hx=> ?_,fun x hx=> ?_,R.jh,fun x hx Ik hi=> ?_,R.size,R.os,R.tape,R.output,R.fix⟩,
  ⟨by simp[Gh.iP],by simp[Gh.iP],rfl⟩⟩
 ·show(if i=id then g.top id+1 else g.top i)=_
  by_cases e:id=i
  ·subst e;rw[aF,WK rfl];rfl
  ·rw[aC _ _ e,Wz (fun h=>e h.symm)];exact R.top i
 ·by_cases e:id=i
  ·subst e;rw[aF]at hi;injection hi with hi;subst hi
   refine .inr ⟨b,cap,arr,ty,by simp[Gh.iP],by simp[Gh.iP],by simp[Gh.iP,Bj,hn],ha,hl,hs, ?_⟩;unfold kG at hh;unfold dG;split
   ·rename_i ec;rw[WK ec]at hh;exact⟨nb,hh.mono (fun x hx L hL=>by simp[Gh.iP,hx,hL]),kY,fun x hx=>by simp[Gh.iP,hx]⟩
   ·rename_i ec;rw[Wz ec]at hh;exact hh.1
  ·rw[aC _ _ e]at hi;refine(R.eC i oi hi).tr hle (fun x hx=> ?_) (by simp only[Gh.iP];rw[Wz (fun h=>e h.symm)]) (gP R hi)
   have iZ:x≠b:=fun e'=>by subst e';rw[hb]at hx;simp at hx
   have jW:x∉nb:=fun hm=>by rw[(o9 x hm).1]at hx;simp at hx
   exact⟨by simp[Gh.iP,iZ,jW,hx],by simp[Gh.iP,jW],rfl⟩
 ·have hy:g.ax x=some L:=hx;obtain⟨a1,a2,a3⟩:=R.ax x L hy
  have iZ:x≠b:=fun e'=>by subst e';rw[hb]at a1;cases a1
  have jW:x∉nb:=fun hm=>by rw[(o9 x hm).1]at a1;cases a1
  exact⟨by simp[Gh.iP,iZ,jW,a1],by simp[Gh.iP,jW,a2],a3⟩
 ·by_cases jW:x∈nb
  ·have hy:rdW w x=some L:=by simpa[Gh.iP,jW]using hx
   refine⟨by simp[Gh.iP,jW], ?_⟩;unfold rdW at hy;split at hy
   ·rename_i l8 A5 Uy
    injection hy with hy
    exact⟨l8,A5,Uy,hy⟩
   ·cases hy
  ·have hy:g.ed x=some L:=by simpa[Gh.iP,jW]using hx
   obtain⟨a1,a2⟩:=R.ed x L hy;refine⟨?_,a2⟩
   have iZ:x≠b:=fun e'=>by subst e';rw[hn]at hy;cases hy
   simp[Gh.iP,iZ,jW,a1]
 ·by_cases iZ:x=b
  ·subst iZ;exact R.ey x (by rw[hb];simp)
  ·by_cases jW:x∈nb
   ·exact R.ey x (by rw[(o9 x jW).1];simp)
   ·exact R.ey x (by simpa[Gh.iP,iZ,jW]using hx)
 ·obtain⟨f1,f2,f3⟩:=R.frame x hx Ik hi
  have iZ:x≠b:=fun e'=>by subst e';rw[hb]at f1;cases f1
  have jW:x∉nb:=fun hm=>by rw[(o9 x hm).1]at f1;cases f1
  exact⟨by simp[Gh.iP,iZ,jW,f1],f2,f3⟩
open Classical in
noncomputable def Gh.mV (g:Gh)(id gen:Nat)(u:Value)(bo:Option Nat):Gh:=
  { g with top := fun i => if i = id then gen + 1 else g.top i
           cv:=fun i k=>if i=id∧k=gen then u else g.cv i k
           cM:=fun x=>if bo=some x then some (id+1)else g.cM x}
theorem HRel.EC {B:Base}{g:Gh}{hp:List (Nat×Obj)}{w:World}(R:HRel B g hp w){id a ag bid bg off:Nat}{xs:List Int}{u2:Value}{nb:List Nat}{bb oo:Nat}
  (Hy:ag<g.top a) (MO:bg<g.top bid) (nL:a≠id) (hO:cF g nb) (hn:∀b∈nb,g.ed b=none) (jV:g.cv bid bg= .pointer (some ⟨bb,oo,none⟩)) (hb:lU g.ax w (bb,oo+off) xs [g.cv a ag,u2] nb):
  ∃g',Le g g'∧(∀x,x∉nb→g'.cM x=g.cM x∧g'.ed x=g.ed x)∧g'.outer=g.outer∧HRel B g' ((id, .nR (g.top id) xs a ag bid bg off)::hp) w∧aV g' (.own id (g.top id)) u2:=by
 have VQ:oc (g.cv a ag)=true:=by
  rcases hb with⟨e,_⟩|⟨v,e,_⟩
  ·injection e with e;rw[e];rfl
  ·injection e with e;rw[e];rfl
 have key:∀bo:Option Nat,(∀x,bo=some x→x∈nb)→(∀x∈nb,bo=some x)→oc u2=true→
   ((g.cv a ag= .pointer none∧u2= .slice none 0 0∧xs=[])∨(g.cv a ag= .pointer (some ⟨bb,oo+off,none⟩)∧((u2= .slice none 0 0∧xs=[])∨
    ∃b cap arr ty,bo=some b∧u2= .slice (some ⟨b,0,none⟩) xs.length cap∧w.heap[b]?=some (.cells arr ty (0,0))∧xs.length≤cap∧arr.size=cap∧Els g.ax (.int .u8) xs arr.toList 0∧ty=jb)))→
   ∃g',Le g g'∧(∀x,x∉nb→g'.cM x=g.cM x∧g'.ed x=g.ed x)∧g'.outer=g.outer∧HRel B g' ((id, .nR (g.top id) xs a ag bid bg off)::hp) w∧aV g' (.own id (g.top id)) u2:=by
  intro bo Mb hbo' M0 hd
  have hle:Le g (g.mV id (g.top id) u2 bo):=by
   refine⟨fun _ _ h=>h,fun i=> ?_,fun i k hk=> ?_⟩
   ·show g.top i≤if i=id then g.top id+1 else g.top i
    split
    ·rename_i e;subst e;omega
    ·exact Wp _
   ·show(if i=id∧k=g.top id then _ else g.cv i k)=g.cv i k;rw[Wz];rintro⟨rfl,rfl⟩;omega
  have yA:∀x,bo=some x→g.cM x=some 0:=fun x hx=>hO.2 x (Mb x hx)
  have QE:(g.mV id (g.top id) u2 bo).cv id (g.top id)=u2:=(by simp[Gh.mV]);refine⟨_,hle,fun x hx=>⟨?_,rfl⟩,rfl,⟨fun i=> ?_,fun i oi hi=> ?_,fun x L hx=> ?_,fun x L hx=> ?_,fun x hx=> ?_,R.jh,fun x hx Ik hi=> ?_,R.size,R.os,R.tape,R.output,R.fix⟩,⟨by simp[Gh.mV],QE.symm,M0⟩⟩
  ·have:bo≠some x:=fun e=>hx (Mb x e)
   simp[Gh.mV,this]
  ·show(if i=id then g.top id+1 else g.top i)=_
   by_cases e:id=i
   ·subst e;rw[aF,WK rfl];rfl
   ·rw[aC _ _ e,Wz (fun h=>e h.symm)];exact R.top i
  ·by_cases e:id=i
   ·subst e;rw[aF]at hi;injection hi with hi;subst hi
    refine⟨WD Hy (hle.top _),WD MO (hle.top _),by rw[hle.cv _ _ Hy];exact VQ, ?_⟩;rw[hle.cv _ _ Hy,hle.cv _ _ MO,QE]
    rcases hd with hd|⟨d1,d2⟩
    ·exact .inl hd
    ·refine .inr ⟨bb,oo,jV,d1, ?_⟩
     rcases d2 with d2|⟨b,cap,arr,ty,e0,e1,e2,e3,e4,e5⟩
     ·exact .inl d2
     ·exact .inr ⟨b,cap,arr,ty,e1,by simp[Gh.mV,e0],hn b (Mb b e0),e2,e3,e4,e5⟩
   ·rw[aC _ _ e]at hi;refine(R.eC i oi hi).tr hle (fun x hx=> ?_) rfl (gP R hi)
    have:bo≠some x:=fun e'=>by rw[yA x e']at hx;simp at hx
    exact⟨by simp[Gh.mV,this,hx],rfl,rfl⟩
  ·have hy:g.ax x=some L:=hx;obtain⟨a1,a2,a3⟩:=R.ax x L hy
   have:bo≠some x:=fun e'=>by rw[yA x e']at a1;cases a1
   exact⟨by simp[Gh.mV,this,a1],a2,a3⟩
  ·have hy:g.ed x=some L:=hx;obtain⟨a1,a2⟩:=R.ed x L hy;refine⟨?_,a2⟩
   by_cases e:bo=some x
   ·simp[Gh.mV,e]
   ·simp[Gh.mV,e,a1]
  ·by_cases e:bo=some x
   ·exact R.ey x (by rw[yA x e];simp)
   ·exact R.ey x (by simpa[Gh.mV,e]using hx)
  ·obtain⟨f1,f2,f3⟩:=R.frame x hx Ik hi
   have:bo≠some x:=fun e'=>by rw[yA x e']at f1;cases f1
   exact⟨by simp[Gh.mV,this,f1],f2,f3⟩
 rcases hb with⟨e,hx,rfl⟩|⟨v,e,hr,Gp⟩
 ·injection e with e1 e2;injection e2 with e2 _
  refine key none (fun x h=>by cases h) (fun x h=>by simp at h) (by rw[e2];rfl) (.inl ⟨e1,e2,hx⟩)
 ·injection e with e1 e2;injection e2 with e2 _
  subst e2
  rcases hr with⟨k1,k2,rfl⟩|⟨b,cap,arr,ty,fV,k1,rfl,ha,hl,hs,hE⟩
  ·injection k1 with k1 _
   exact key none (fun x h=>by cases h) (fun x h=>by simp at h) (by rw[k1];rfl) (.inr ⟨e1, .inl ⟨k1,k2⟩⟩)
  ·injection k1 with k1 _
   have o9:fV=[]:=by
    unfold kG at hE;simpa using hE.2
   subst o9;unfold kG at hE
   have VP:ty=jb:=by
    obtain⟨l8,h'⟩:=Gp b (by simp);rw[ha]at h'
    injection h' with h';injection h' with _ h'
   exact key (some b) (fun x h=>by injection h with h;subst h;simp) (fun x h=>by simp only[List.mem_singleton]at h;rw[h]) (by rw[k1];rfl) (.inr ⟨e1, .inr ⟨b,cap,arr,ty,rfl,k1,ha,hl,by simpa[Ty.size]using hs,by simpa using hE.1,VP⟩⟩)
end Go.Abs
end

section
namespace Go.Abs
theorem jU.Ct {hp x8:List (Nat×Obj)}{g g':Gh}{ax:Rd}{w0 w:World}(l:Le g g')(ht:∀id gn cs,look hp id=some (.gj gn cs)→gn<g.top id):
  ∀{s:Sp} {x:s.ty.den} {pl:Nat×Nat} {cs:List Cell} {us news:List Value} {nb:List Nat},(∀i gn cs b o,look hp i=some (.gj gn cs)→g.cv i gn= .pointer (some ⟨b,o,none⟩)→b∈nb→look x8 i=some (.gj gn cs)∧g'.outer i=g.outer i)→
   mM ax w0 w s x pl us news nb→jU hp g w0 s cs us→jU x8 g' w0 s cs us
 | .un,_,_,_,_,_,_,_,_,_=>trivial
 | .cf _,_,_,_,_,_,_,_,_,_=>trivial
 | .own _ _,_,_,_,_,_,_,_,_,_=>trivial
 | .nR,_,_,_,_,_,_,_,_,_=>trivial
 | .vj _,_,_,_,_,_,_,_,_,_=>trivial
 | .err,_,_,_,_,_,_,_,_,_=>trivial
 | .np,_,_,_,_,_,_,_,_,_=>trivial
 | .slf _ _,_,_,_,_,_,_,_,_,_=>trivial
 | .vg _ _,_,_,_,_,_,_,_,_, .inl h=> .inl h
 | .vg _ _,_,_,_,_,_,_,_,_, .inr ⟨id,gen,e,e',h,M0⟩=> .inr ⟨id,gen,e,by rw[l.cv _ _ h];exact e',WD h (l.top _),by rw[l.cv _ _ h];exact M0⟩
 | .pr _ _,_,_,_,_,_,_,ho,⟨u1,u2,n1,n2,e,e',k1,k2⟩,⟨h1,h2⟩=>by
  subst e';exact⟨jU.Ct l ht (fun i gn cs b o a1 a2 a3=>ho i gn cs b o a1 a2 (WC _ a3)) k1 h1,jU.Ct l ht (fun i gn cs b o a1 a2 a3=>ho i gn cs b o a1 a2 (Wy _ a3)) k2 h2⟩
 | .ptr _ _ _,_,_,_,_,_,_,ho,⟨b1,o1,ql,Kq,l8,L',fV,e,e',e2,a0,a1,Rk,Ik,hs,k⟩,⟨id,gen,off,bs,b,o,arr,ty,L,e1,e3,hl,jV,ha,hL,hle,hid,yB,hc,hr⟩=>by
  subst e2;rw[e]at e3
  injection e3 with e3;injection e3 with e3;injection e3 with e3;injection e3 with e3 e4
  subst e3;subst e4;obtain⟨k1,k2⟩:=ho _ _ _ _ _ hl jV (Wk ..);rw[ha]at a0
  injection a0 with a0;injection a0 with a0
  subst a0;have Kx:=F2 (n:=_) hL hle (show off+_≤L.length by rw[hc.length];exact yB);rw[←Kx]at k
  exact⟨id,gen,off,bs,b1,o,arr,ty,L,e1,e,k1,(l.cv _ _ (ht _ _ _ hl)).trans jV,ha,by rw[k2];exact hL,by rw[k2];exact hle,by rw[k2];exact hid,yB,hc.mono l,
   jU.Ct l ht (fun i gn cs b o a1 a2 a3=>ho i gn cs b o a1 a2 (Wj _ a3)) k hr⟩
theorem FH {α:Type}{O L N ql arr:List α}{o off:Nat}(h0:ql=O.take o++L++O.drop (o+L.length))(ho:o+L.length≤O.length)(hn:off+N.length≤L.length)
  (h1:arr=ql.take (o+off)++N++ql.drop (o+off+N.length)):
  arr=O.take o++(L.take off++N++L.drop (off+N.length))++O.drop (o+(L.take off++N++L.drop (off+N.length)).length):=by
 have hlen:(L.take off++N++L.drop (off+N.length)).length=L.length:=by simp;omega
 have Ua:(O.take o).length=o:=by simp;omega
 rw[hlen];subst h1;subst h0
 have e1:(O.take o++L++O.drop (o+L.length)).take (o+off)=O.take o++L.take off:=by
  rw[V7,List.take_append,Ua,List.take_of_length_le (by omega),List.take_append];rw[show o+off - o - L.length=0 by omega,List.take_zero,Wv]
  congr 2
  omega
 have e2:(O.take o++L++O.drop (o+L.length)).drop (o+off+N.length)=L.drop (off+N.length)++O.drop (o+L.length):=by
  rw[V7,List.drop_append,Ua,List.drop_of_length_le (by omega),List.nil_append,List.drop_append];rw[show o+off+N.length - o=off+N.length by omega,show off+N.length - L.length=0 by omega,List.drop_zero]
 rw[e1,e2];simp[V7]
def Pu (sp:Sp)(x:sp.ty.den)(pl:Plc)(old:List Cell)(s:St)(cells rest:List Cell)(s':St):Prop:=
 s'.env=s.env∧rest=old.drop sp.size∧∀B g w0 w,HRel B g s.hp w→∀rp olds news nb,gg g pl rp→jU s.hp g w0 sp (old.take sp.size) olds→mM g.ax w0 w sp x rp olds news nb→cF g nb→(∀b∈nb,g.ed b=none)→
  ∃g',Le g g'∧(∀x,x∉nb→g'.cM x=g.cM x∧g'.ed x=g.ed x)∧HRel B g' s'.hp w∧aA g' cells news∧
   ∀i gn cs b o,look s.hp i=some (.gj gn cs)→g.cv i gn= .pointer (some ⟨b,o,none⟩)→b∉nb→look s'.hp i=some (.gj gn cs)∧g'.outer i=g.outer i
theorem sL:∀(sp:Sp)(x:sp.ty.den)(pl:Plc)(old:List Cell)(n:Nat)(s:St)(cells rest:List Cell)(n':Nat)(s':St),(xY sp x pl old n).run s=some ((cells,rest,n'),s')→Pu sp x pl old s cells rest s':=by
 intro sp
 induction sp with
 |un=>
  intro x pl old n s cells rest n' s' h;obtain⟨h1,rfl⟩:=aq h
  injection h1 with h1 h2;injection h2 with h2 h3
  subst h1;subst h2;exact⟨rfl,rfl,fun B g w0 w R rp olds news nb vf hL hB hp hn=>⟨g,Le.refl g,fun _ _=>⟨rfl,rfl⟩,R,hB.1,fun i gn cs b o h _ _=>⟨h,rfl⟩⟩⟩
 |cf τ=>
  intro x pl old n s cells rest n' s' h;obtain⟨h1,rfl⟩:=aq h
  injection h1 with h1 h2;injection h2 with h2 h3
  subst h1;subst h2;refine⟨rfl,by simp[Sp.size],fun B g w0 w R rp olds news nb vf hL hB hp hn=>⟨g,Le.refl g,fun _ _=>⟨rfl,rfl⟩,R, ?_,fun i gn cs b o h _ _=>⟨h,rfl⟩⟩⟩;obtain⟨_,h1,u,rfl,hr⟩:=hB;exact⟨u,[],rfl,⟨h1,hr⟩,rfl⟩
 |err=>
  intro x pl old n s cells rest n' s' h;obtain⟨h1,rfl⟩:=aq h
  injection h1 with h1 h2;injection h2 with h2 h3
  subst h1;subst h2;refine⟨rfl,by simp[Sp.size],fun B g w0 w R rp olds news nb vf hL hB hp hn=>⟨g,Le.refl g,fun _ _=>⟨rfl,rfl⟩,R, ?_,fun i gn cs b o h _ _=>⟨h,rfl⟩⟩⟩;obtain⟨_,u,rfl,hr⟩:=hB;exact⟨u,[],rfl,hr,rfl⟩
 |np=>
  intro x pl old n s cells rest n' s' h;obtain⟨h1,rfl⟩:=aq h
  injection h1 with h1 h2;injection h2 with h2 h3
  subst h1;subst h2;refine⟨rfl,by simp[Sp.size],fun B g w0 w R rp olds news nb vf hL hB hp hn=>⟨g,Le.refl g,fun _ _=>⟨rfl,rfl⟩,R, ?_,fun i gn cs b o h _ _=>⟨h,rfl⟩⟩⟩;obtain⟨_,rfl⟩:=hB;exact⟨_,[],rfl,rfl,rfl⟩
 |slf f m=>intro x pl old n s cells rest n' s' h;exact nomatch h
 |own τ dp=>
  intro x pl old n s cells rest n' s' h;obtain⟨c,t,h1,h2⟩:=AM.ai h;obtain⟨h3,rfl⟩:=aq h2
  injection h3 with h3 h4;injection h4 with h4 h5
  subst h3;subst h4;obtain⟨gen,hg,rfl,rfl⟩:=rl h1;have DU:=(kQ hg).2
  have Hp:∀i gn cs,look s.hp i=some (.gj gn cs)→i≠n:=fun i gn cs hi e=>by subst e;exact DU gn cs hi
  refine⟨rfl,by simp[Sp.size],fun B g w0 w R rp olds news nb vf hL hB hp hn=> ?_⟩;obtain⟨rfl,_⟩:=gK R hg
  rcases hB with⟨rfl,hx,rfl⟩|⟨b,cap,arr,ty,fV,rfl,rfl,ha,hl,hs,hE⟩
  ·have hx:x=[]:=hx;subst hx;obtain⟨l,R'⟩:=R.named (id:=n) (u:= .slice none 0 0) (o':= .own (g.top n) τ (dp||τ.flat) []) rfl (.inl ⟨by simp[Gh.name],rfl⟩);refine⟨_,l.le,fun x _=>⟨rfl,rfl⟩,R',⟨_,[],rfl,⟨by simp[Gh.name],by simp[Gh.name],rfl⟩,rfl⟩,fun i gn cs b o hi _ _=>⟨?_,by rw[l.out]⟩⟩
   ·show look ((n,_)::s.hp) i=_;rw[aC _ _ (Ne.symm (Hp i gn cs hi))];exact hi
  ·have Cx:=hp.2 b (Wk ..);have kY:=List.nodup_cons.1 hp.1
   have KV:((dp||τ.flat)&& !τ.flat)=(dp&& !τ.flat):=by cases dp<;>cases τ.flat<;>rfl
   obtain⟨g',l,hk,ho,R',hc⟩:=R.iP (id:=n) (deep:=dp||τ.flat) (τ:=τ) (xs:=x) (nb:=fV) Cx (hn b (Wk ..)) kY.1 ha hl hs kY.2 (fun y hy=>⟨hp.2 y (Wj _ hy),by
    unfold kG at hE;split at hE
    ·exact hE.qO y hy
    ·rw[hE.2]at hy;simp at hy⟩) (by rw[KV];exact hE)
   refine⟨g',l,fun y hy=> ?_,R',⟨_,[],rfl,hc,rfl⟩,fun i gn cs b o hi _ _=>⟨?_,ho i (Hp i gn cs hi)⟩⟩
   ·rw[WE,not_or]at hy;exact hk y hy.1 hy.2
   ·show look ((n,_)::s.hp) i=_;rw[aC _ _ (Ne.symm (Hp i gn cs hi))];exact hi
 |vg τ dp=>
  intro x pl old n s cells rest n' s' h;exact nomatch h
 |vj ok=>intro x pl old n s cells rest n' s' h;exact nomatch h
 |nR=>
  intro x pl old n s cells rest n' s' h;obtain⟨c,t,h1,h2⟩:=AM.ai h;obtain⟨h3,rfl⟩:=aq h2
  injection h3 with h3 h4;injection h4 with h4 h5
  subst h3;subst h4
  cases pl with
  |none=>cases h1
  |some q=>
   obtain⟨id,bg,off⟩:=q;obtain⟨gn1,t1,h6,h7⟩:=AM.ai h1;obtain⟨rfl,Kt⟩:=kQ h6;simp only[AM.run]at h7;obtain⟨gn2,t2,h8,h9⟩:=AM.ai h7;obtain⟨rfl,TO⟩:=kQ h8;simp only[AM.run,WI,WU]at h9;obtain⟨rfl,rfl⟩:=h9;refine⟨rfl,by simp[Sp.size],fun B g w0 w R rp olds news nb vf hL hB hp hn=> ?_⟩;have hB:lU g.ax w rp x news nb:=hB;obtain⟨MO,bb,oo,jV,rfl⟩:=vf id bg off rfl;obtain⟨rfl,_⟩:=gK R h6
   have two:∃u1 u2,news=[u1,u2]∧oc u1=true:=by
    rcases hB with⟨e,_⟩|⟨u2,e,_⟩
    ·exact⟨_,_,e,rfl⟩
    ·exact⟨_,_,e,rfl⟩
   obtain⟨u1,u2,rfl,SJ⟩:=two;obtain⟨l1,R1⟩:=R.named (id:=n) (u:=u1) (o':= .dead (g.top n)) rfl trivial;have tg:(g.name n (g.top n) u1).cv n (g.top n)=u1:=(by simp[Gh.name]);have K0:g.top n<(g.name n (g.top n) u1).top n:=(by simp[Gh.name]);obtain⟨rfl,_⟩:=gK (s:=⟨t1.env,(n, .dead (g.top n))::t1.hp⟩) R1 h8;obtain⟨g2,l2,k2,o2,R2,c2⟩:=R1.EC (id:=n+1) (a:=n) (ag:=g.top n) (bid:=id) (bg:=bg) (off:=off) (xs:=x) (u2:=u2) (nb:=nb) K0 (WD MO (l1.le.top _)) (by omega) (hp.mono l1) hn ((l1.le.cv _ _ MO).trans jV) (by rw[tg];exact hB);refine⟨g2,l1.le.trans l2,k2,R2,⟨u1,[u2],rfl,⟨WD K0 (l2.top _), ?_,SJ⟩,u2,[],rfl,c2,rfl⟩,fun i gn cs b o hi _ _=>⟨?_,by rw[o2,l1.out]⟩⟩
   ·rw[l2.cv _ _ K0,tg]
   ·have e1:n≠i:=fun e=>by subst e;exact Kt gn cs hi
    have e2:n+1≠i:=fun e=>by
     subst e;exact TO gn cs (by show look ((n,_)::t1.hp) (n+1)=_;rw[aC _ _ e1];exact hi)
    show look ((n+1,_)::(n,_)::t1.hp) i=_;rw[aC _ _ e2,aC _ _ e1];exact hi
 |pr a b BQ BT=>
  intro x pl old n s cells rest n' s' h;obtain⟨⟨p1,p2,p3⟩,t,h1,h2⟩:=AM.ai h;obtain⟨⟨q1,q2,q3⟩,t2,h3,h4⟩:=AM.ai h2;obtain⟨h5,rfl⟩:=aq h4
  injection h5 with h5 h6;injection h6 with h6 h7
  subst h5;subst h6;obtain⟨ea,ra,sa⟩:=BQ _ _ _ _ _ _ _ _ _ h1;obtain⟨eb,rb,sb⟩:=BT _ _ _ _ _ _ _ _ _ h3;have ra:p2=old.drop a.size:=ra;have rb:rest=p2.drop b.size:=rb;refine⟨eb.trans ea,by rw[rb,ra,List.drop_drop],fun B g w0 w R rp olds news nb vf hL hB hp hn=> ?_⟩;obtain⟨u1,u2,n1,n2,rfl,rfl,B1,B2⟩:=hB;obtain⟨L1,L2⟩:=hL;have kY:=List.nodup_append.1 hp.1
  have hd:∀y∈n2,y∉n1:=fun y h2 h1=>kY.2.2 y h1 y h2 rfl
  have e1:((old.take (a.size+b.size)).take a.size)=old.take a.size:=by rw[List.take_take];congr 1;omega
  have e2:((old.take (a.size+b.size)).drop a.size)=p2.take b.size:=by rw[ra,List.drop_take];congr 1;omega
  have Sm:jU s.hp g w0 a (old.take a.size) (olds.take a.size):=by rw[←e1];exact L1
  have SB:jU s.hp g w0 b (p2.take b.size) (olds.drop a.size):=by rw[←e2];exact L2
  obtain⟨g1,l1,k1,R1,c1,t1⟩:=sa B g w0 w R rp _ _ _ vf Sm B1 ⟨kY.1,fun y hy=>hp.2 y (WC _ hy)⟩ (fun y hy=>hn y (WC _ hy));have L3:jU t.hp g1 w0 b (p2.take b.size) (olds.drop a.size):=jU.Ct l1 R.qj (fun i gn cs b' o a1 a2 a3=>t1 i gn cs b' o a1 a2 (hd b' a3)) B2 SB
  obtain⟨g2,l2,k2,R2,c2,SE⟩:=sb B g1 w0 w R1 (rp.1,rp.2+a.size) _ _ _ ((vf.mono l1).on a.size) L3 (B2.mono l1.ax) ⟨kY.2.1,fun y hy=>by rw[(k1 y (hd y hy)).1];exact hp.2 y (Wy _ hy)⟩
   (fun y hy=>by rw[(k1 y (hd y hy)).2];exact hn y (Wy _ hy))
  refine⟨g2,l1.trans l2,fun y hy=> ?_,R2,(c1.mono l2).append c2,fun i gn cs b' o hi jV hb=> ?_⟩
  ·rw[Wu,not_or]at hy;obtain⟨a1,a2⟩:=k1 y hy.1;obtain⟨b1,b2⟩:=k2 y hy.2;exact⟨b1.trans a1,b2.trans a2⟩
  ·rw[Wu,not_or]at hb;obtain⟨a1,a2⟩:=t1 i gn cs b' o hi jV hb.1;obtain⟨b1,b2⟩:=SE i gn cs b' o a1 ((l1.cv _ _ (R.qj _ _ _ hi)).trans jV) hb.2;exact⟨b1,b2.trans a2⟩
 |ptr wh st sp ih=>
  intro x pl old n s cells rest n' s' h
  cases old with
  |nil=>exact nomatch h
  |cons c cs=>
   cases c with
   |ptr id gen off=>
    simp only[xY,AM.run]at h;split at h
    ·rename_i g0 bt bs heq;obtain⟨hb,h'⟩:=aX h;obtain rfl:=beq_eq hb;obtain⟨⟨p1,p2,p3⟩,t,h1,h2⟩:=AM.ai h';simp only[AM.run,WI,WU]at h2;obtain⟨⟨rfl,rfl,rfl⟩,rfl⟩:=h2;obtain⟨e1,r1,s1⟩:=ih _ _ _ _ _ _ _ _ _ h1;refine⟨e1,by simp[Sp.size],fun B g w0 w R rp olds news nb vf hL hB hp hn=> ?_⟩;obtain⟨Ph,OW,KK,bs',b,o,ql,Kq,L,ec,eo,Hp,jV,K2,Uo,hle,hid,yB,Pg,U6⟩:=hL
     have ec:[Cell.ptr id g0 off]=[Cell.ptr Ph OW KK]:=by simpa[Sp.size]using ec
     injection ec with ec _;injection ec with VC U8 U3
     subst VC;subst U8;subst U3;rw[heq]at Hp
     injection Hp with Hp;injection Hp with _ Hp;injection Hp with Tm Hp
     subst Hp;subst Tm;obtain⟨b1,o1,arr1,ty1,arr,N,fV,f1,f2,f3,f4,f5,f6,f7,f8,f9⟩:=hB;rw[f1]at eo
     injection eo with eo;injection eo with eo;injection eo with eo;injection eo with UL VV
     subst UL;subst VV;rw[K2]at f4
     injection f4 with f4;injection f4 with f4 VT
     subst f4;subst VT;subst f3;have kY:=List.nodup_cons.1 hp.1;have LZ:=Pg.length;have Kx:=F2 (n:=sp.size) Uo hle (show off+sp.size≤L.length by rw[LZ];exact yB);rw[←Kx]at f9
     have Fu:(cut off sp.size bs).take sp.size=cut off sp.size bs:=by unfold cut;rw[List.take_take,Nat.min_self]
     obtain⟨g1,l1,k1,R1,c1,t1⟩:=s1 B g w0 w R (b1,o+off) _ _ _ (fun Ph OW KK e=>by
      injection e with e;injection e with e1 e;injection e with e2 e3
      subst e1;subst e2;subst e3
      exact⟨R.qj _ _ _ heq,b1,o,jV,rfl⟩) (by rw[Fu];exact U6) f9 ⟨kY.2,fun y hy=>hp.2 y (Wj _ hy)⟩ (fun y hy=>hn y (Wj _ hy))
     obtain⟨q1,q2⟩:=k1 b1 kY.1;obtain⟨w1,w2⟩:=t1 id g0 (_,bs) b1 o heq jV kY.1;have tg:g1.cv id g0= .pointer (some ⟨b1,o,none⟩):=(l1.cv _ _ (R.qj _ _ _ heq)).trans jV;have hN:=c1.length
     let g2:Gh:={g1 with cM:=open Classical in fun x=>if x=b1 then some (id+1)else g1.cM x}
     have Gt:Le g1 g2:=⟨fun _ _ h=>h,fun _=>Wp _,fun _ _ _=>rfl⟩;have KC:=FH (off:=off) Uo hle (by rw[f8,LZ];exact yB) f6
     have hlen:(L.take off++N++L.drop (off+N.length)).length=L.length:=by simp;omega
     have tN:aA g2 (setCells off p1 bs) (L.take off++N++L.drop (off+N.length)):=aA.set (c1.mono Gt) off (Pg.mono (l1.trans Gt))
     have R2:HRel B g2 ((id, .box g0 (bt,setCells off p1 bs))::t.hp) w:=by
      refine R1.J0 (q1.trans (hp.2 b1 (Wk ..))) (q2.trans (hn b1 (Wk ..))) w1 rfl ?_;refine⟨b1,o,arr,_,_,tg,⟨by simp,q2.trans (hn b1 (Wk ..))⟩,f5,tN, ?_, ?_, ?_⟩
      ·show arr.toList=(g1.outer id).take o++_++(g1.outer id).drop _;rw[w2];exact KC
      ·show _≤(g1.outer id).length;rw[w2,hlen];exact hle
      ·refine⟨hid.1, ?_,rfl⟩;show(g1.outer id).length=(setCells off p1 bs).length;rw[w2,←tN.length,hlen,LZ];exact hid.2
     refine⟨g2,l1.trans Gt,fun y hy=> ?_,R2,⟨_,[],by rw[f2,f1],⟨R2.top id ▸ by rw[aF];exact Nat.lt_succ_self _,b1,o,tg,rfl⟩,rfl⟩,fun i gn cs b' o' hi Bc yz=> ?_⟩
     ·rw[WE,not_or]at hy;obtain⟨a1,a2⟩:=k1 y hy.2;exact⟨by simp[g2,hy.1,a1],a2⟩
     ·rw[WE,not_or]at yz;obtain⟨a1,a2⟩:=t1 i gn cs b' o' hi Bc yz.2;refine⟨?_,a2⟩
      have nL:id≠i:=fun e=>by
       subst e;rw[heq]at hi
       injection hi with hi;injection hi with hi _
       subst hi;rw[jV]at Bc
       injection Bc with Bc;injection Bc with Bc;injection Bc with Bc _
       exact yz.1 Bc.symm
      show look ((id,_)::t.hp) i=_;rw[aC _ _ nL];exact a1
    ·cases h
   |_=>exact nomatch h
end Go.Abs
end

section
namespace Go.Abs
def rD (ax:Rd)(w:World):(a:VSp)→a.sp.ty.den→Value→List Nat→Prop
 | .one s,x,u,nb=>oc u=true∧Pass ax w s x (0,0) [u] nb
 | .agg s,x,u,nb=>∃us:List Value,u= .agg us.toArray∧Pass ax w s x (0,0) us nb
def gb (ax:Rd)(w:World):(as:List VSp)→(bO as).den→List Value→List Nat→Prop
 |[],_,us,nb=>us=[]∧nb=[]
 |a::as,x,us,nb=>∃u r n1 n2,us=u::r∧nb=n1++n2∧rD ax w a x.1 u n1∧gb ax w as x.2 r n2
def yx (ax:Rd)(w0 w:World):(s:Sp)→s.o5.den→List Value→List Nat→Prop
 | .pr a b,x,us,nb=>∃n1 n2,nb=n1++n2∧yx ax w0 w a x.1 (us.take a.size) n1∧yx ax w0 w b x.2 (us.drop a.size) n2
 | .ptr wh st s,x,us,nb=>mM ax w0 w (.ptr wh st s) x (0,0) us us nb
 | .vg τ dp,x,us,nb=>mM ax w0 w (.vg τ dp) x (0,0) us us nb
 |_,_,_,nb=>nb=[]
def iO (ax:Rd)(w0 w:World):(as:List VSp)→(oW as).den→List Value→List Nat→Prop
 |[],_,us,nb=>us=[]∧nb=[]
 |a::as,x,us,nb=>∃u r n1 n2,us=u::r∧nb=n1++n2∧yx ax w0 w a.sp x.1 u.cells.toList n1∧iO ax w0 w as x.2 r n2
def xr (ax:Rd)(w:World):(a:VSp)→a.sp.ty.den→Value→List Nat→Prop
 | .one s,x,u,nb=>oc u=true∧mM ax w w s x (0,0) [] [u] nb
 | .agg s,x,u,nb=>∃us:List Value,u= .agg us.toArray∧mM ax w w s x (0,0) [] us nb
def rq (ax:Rd)(w:World):(as:List VSp)→(bO as).den→List Value→List Nat→Prop
 |[],_,us,nb=>us=[]∧nb=[]
 |a::as,x,us,nb=>∃u r n1 n2,us=u::r∧nb=n1++n2∧xr ax w a x.1 u n1∧rq ax w as x.2 r n2
def uw (ax:Rd)(w:World):(r:RSp)→r.ty.den→Value→List Nat→Prop
 | .val a,x,v,nb=>xr ax w a x v nb
 | .vi as,x,v,nb=>∃vs:List Value,v= .tuple vs.toArray∧rq ax w as x vs nb
 | .none,_,v,nb=>v= .tuple #[]∧nb=[]
def fj (cd:Nat→Option (List Cell))(ax:Rd):Prop:=∀k cs,cd k=some cs→∃us,ax k=some us∧∀g:Gh,(∀b L,ax b=some L→g.ax b=some L)→aA g cs us
theorem fj.mono {cd:Nat→Option (List Cell)}{ax cH:Rd}(h:∀b L,ax b=some L→cH b=some L)(k:fj cd ax):fj cd cH:=fun i c hi=>by
 obtain⟨u,h1,h2⟩:=k i c hi;exact⟨u,h _ _ h1,fun g hg=>h2 g fun b L hb=>hg b L (h b L hb)⟩
theorem fj.one {cd:Nat→Option (List Cell)}{g:Gh}(h:fj cd g.ax):∀k c,cd k=some [c]→∃u,g.ax k=some [u]∧aV g c u:=fun k c hk=>by
 obtain⟨us,h1,h2⟩:=h k [c] hk
 obtain⟨u,r,rfl,hu,hr⟩:=h2 g fun _ _ hb=>hb
 have hr:r=[]:=hr;subst hr;exact⟨u,h1,hu⟩
def eS (P:Program)(f:FuncId)(args:Array Value)(w:World)(R:Value→World→Prop):Prop:=
 match(callFunc f args).run P w with
 | .ok (.enter f' a') w1=>Calls P f' a' w1 fun e w'=>∃v,e= .returned v∧R v w'
 | .ok (.value v) w1=>R v w1
 |_=>False
def jC (P:Program)(cd:Nat→Option (List Cell))(f:FuncId)(c:Callee):Prop:=
 ∀x y,c.F x=some y→∀(ax:Rd) (w:World) (args:List Value) (nb:List Nat),fj cd ax→(∀b L,ax b=some L→∃arr ty fr,w.heap[b]?=some (.cells arr ty fr)∧arr.toList=L)→
  gb ax w c.sig.args x args nb→nb.Nodup→(∀b∈nb,ax b=none∧b<w.heap.size)→
  eS P f args.toArray w fun v w'=>∃cH n1 n2,After ax w nb cH w' (n1++n2)∧uw cH w' c.sig.res y.1 v n1∧iO cH w w' c.sig.args y.2 args n2
def x6 (as:List VSp)(ax:Rd)(w:World)(nb:List Nat)(args:List Value):Prop:=∀f m,wC as=some (f,m)→
 ∃b ty,args.getLast?=some (.pointer (some ⟨b,0,none⟩))∧w.heap[b]?=some (.cells #[.func (.func f) #[] (args.drop m).toArray] ty (0,0))∧b∉nb∧ax b=none
def rm (P:Program)(cd:Nat→Option (List Cell))(f:FuncId)(c:Callee):Prop:=
 ∀x y,c.F x=some y→∀(ax:Rd) (w:World) (args:List Value) (nb:List Nat),fj cd ax→(∀b L,ax b=some L→∃arr ty fr,w.heap[b]?=some (.cells arr ty fr)∧arr.toList=L)→
  gb ax w c.sig.args x args nb→nb.Nodup→(∀b∈nb,ax b=none∧b<w.heap.size)→x6 c.sig.args ax w nb args→
  eS P f args.toArray w fun v w'=>∃cH n1 n2,After ax w nb cH w' (n1++n2)∧uw cH w' c.sig.res y.1 v n1∧iO cH w w' c.sig.args y.2 args n2
theorem jC.slf {P:Program}{cd:Nat→Option (List Cell)}{f:FuncId}{c:Callee}(h:jC P cd f c):rm P cd f c:=fun x y k ax w args nb a b c d e _=>h x y k ax w args nb a b c d e
theorem x6.none {as:List VSp}(h:wC as=none){ax:Rd}{w:World}{nb:List Nat}{args:List Value}:x6 as ax w nb args:=fun f m k=>by rw[h]at k;cases k
theorem rm.plain {P:Program}{cd:Nat→Option (List Cell)}{f:FuncId}{c:Callee}(hn:wC c.sig.args= .none)(h:rm P cd f c):jC P cd f c:=fun x y k ax w args nb a b c d e=>h x y k ax w args nb a b c d e (x6.none hn)
theorem Ci {u:Value}(h:oc u=true):u.cells.toList=[u]:=by rw[vL h]
def kf (hp:List (Nat×Obj))(g:Gh)(w:World):List VSp→List Val→List Value→Prop
 |[],vs,us=>vs=[]∧us=[]
 |a::as,vs,us=>∃v r u q,vs=v::r∧us=u::q∧v.cells.length=a.sp.size∧jU hp g w a.sp v.cells u.cells.toList∧kf hp g w as r q
theorem kf.mono {hp x8:List (Nat×Obj)}{g g':Gh}{w:World}(l:Le g g')(ho:∀id gn cs,look hp id=some (.gj gn cs)→look x8 id=some (.gj gn cs)∧g'.outer id=g.outer id)(ht:∀id gn cs,look hp id=some (.gj gn cs)→gn<g.top id):
  ∀{as:List VSp} {vs:List Val} {us:List Value},kf hp g w as vs us→kf x8 g' w as vs us
 |[],_,_,h=>h
 |_::_,_,_,⟨v,r,u,q,e,e',hl,h1,h2⟩=>⟨v,r,u,q,e,e',hl,h1.mono l ho ht,kf.mono l ho ht h2⟩
theorem xS {a:VSp}{v:Val}{s s':St}{x:a.sp.ty.den}(h:(Kk a v).run s=some (x,s')):fU s s'∧∀B g w,HRel B g s.hp w→∃g',Lk g g'∧HRel B g' s'.hp w∧∀u,cG g v u→
  ∃nb,rD g'.ax w a x u nb∧cF g' nb∧(∀b∈nb,g.cM b≠some 0)∧v.cells.length=a.sp.size∧jU s'.hp g' w a.sp v.cells u.cells.toList:=by
 cases a with
 |one sp=>
  cases v with
  |agg cs=>exact nomatch h
  |one c=>
   obtain⟨⟨p1,p2⟩,t,h1,h2⟩:=AM.ai h;simp only at h2;split at h2
   ·obtain⟨rfl,rfl⟩:=aq h2;obtain⟨k,⟨used,eu,lu⟩,hs⟩:=uP _ _ _ _ _ _ _ h1
    have iE:sp.size=1:=by rw[←lu,←Wv used,←eu];rfl
    refine⟨k,fun B g w R=> ?_⟩;obtain⟨g',l,R',hc⟩:=hs B g w R;refine⟨g',l,R',fun u hu=> ?_⟩;have hu:aV g c u:=hu;have M0:=hu.C7;obtain⟨u1,u2,nb,e,hP,hO,hr,hf,hL⟩:=hc [u] (0,0) ⟨u,[],rfl,hu,rfl⟩ (gg.none _ _);have vh:u2=[]:=hr;subst vh;rw[Wv]at e;subst e;refine⟨nb,⟨M0,hP⟩,hO,hf,iE.symm, ?_⟩;rw[Ci M0];rw[iE]at hL;exact hL
   ·cases h2
 |agg sp=>
  cases v with
  |one c=>exact nomatch h
  |agg cs=>
   obtain⟨⟨p1,p2⟩,t,h1,h2⟩:=AM.ai h;simp only at h2;split at h2
   ·obtain⟨rfl,rfl⟩:=aq h2;obtain⟨k,⟨used,eu,lu⟩,hs⟩:=uP _ _ _ _ _ _ _ h1;rw[Wv]at eu;subst eu;refine⟨k,fun B g w R=> ?_⟩;obtain⟨g',l,R',hc⟩:=hs B g w R;refine⟨g',l,R',fun u hu=> ?_⟩;obtain⟨us,rfl,hu⟩:=hu;obtain⟨u1,u2,nb,e,hP,hO,hr,hf,hL⟩:=hc us (0,0) hu (gg.none _ _);have vh:u2=[]:=hr;subst vh;rw[Wv]at e;subst e;refine⟨nb,⟨us,rfl,hP⟩,hO,hf,lu, ?_⟩;have:cs.take sp.size=cs:=(by rw[←lu,List.take_length]);rw[this]at hL;exact hL
   ·cases h2
theorem rD.mono {ax cH:Rd}(h:∀b L,ax b=some L→cH b=some L){w:World}{a:VSp}{x:a.sp.ty.den}{u:Value}{nb:List Nat}(k:rD ax w a x u nb):rD cH w a x u nb:=by
 cases a with
 |one s=>exact⟨k.1,Pass.mono h k.2⟩
 |agg s=>obtain⟨us,e,k⟩:=k;exact⟨us,e,Pass.mono h k⟩
theorem nx:∀{as:List VSp}{vs:List Val}{s s':St}{x:(bO as).den},(xo as vs).run s=some (x,s')→fU s s'∧∀B g w,HRel B g s.hp w→∃g',Lk g g'∧HRel B g' s'.hp w∧∀us,db g vs us→
  ∃nb,gb g'.ax w as x us nb∧cF g' nb∧(∀b∈nb,g.cM b≠some 0)∧kf s'.hp g' w as vs us
 |[],vs,s,s',x,h=>by
  cases vs with
  |nil=>
   obtain⟨rfl,rfl⟩:=aq h;exact⟨fU.refl _,fun B g w R=>⟨g,Lk.refl g,R,fun us hu=>⟨[],⟨hu,rfl⟩,⟨WM,fun b hb=>by simp at hb⟩,fun b hb=>by simp at hb,rfl,hu⟩⟩⟩
  |cons v r=>exact nomatch h
 |a::as,vs,s,s',x,h=>by
  cases vs with
  |nil=>exact nomatch h
  |cons v r=>
   obtain⟨p,t,h1,h2⟩:=AM.ai h;obtain⟨q,t2,h3,h4⟩:=AM.ai h2;obtain⟨rfl,rfl⟩:=aq h4;obtain⟨k1,s1⟩:=xS h1;obtain⟨k2,s2⟩:=nx h3;refine⟨k1.trans k2,fun B g w R=> ?_⟩;obtain⟨g1,l1,R1,c1⟩:=s1 B g w R;obtain⟨g2,l2,R2,c2⟩:=s2 B g1 w R1;refine⟨g2,l1.trans l2,R2,fun us hu=> ?_⟩;obtain⟨u,Fv,rfl,mO,vh⟩:=hu;obtain⟨n1,P1,O1,f1,z1,L1⟩:=c1 u mO;obtain⟨n2,P2,O2,f2,L2⟩:=c2 Fv (vh.mono l1.le);refine⟨n1++n2,⟨u,Fv,n1,n2,rfl,rfl,P1.mono l2.le.ax,P2⟩,cF.append l2 O1 O2 f2,fun b hb=> ?_,v,r,u,Fv,rfl,rfl,z1,L1.mono l2.le (fun id gn cs hl=>⟨k2.2 id gn cs hl,by rw[l2.out]⟩) R1.qj,L2⟩
   rcases Wu.1 hb with hb|hb
   ·exact f1 b hb
   ·exact fun e=>f2 b hb (l1.kp b e).1
def MA (sp:Sp)(x:sp.o5.den)(cells:List Cell)(s:St)(rest:List Cell)(s':St):Prop:=
 s'.env=s.env∧rest=cells.drop sp.size∧∀B g w0 w,HRel B g s.hp w→∀us nb,jU s.hp g w0 sp (cells.take sp.size) us→yx g.ax w0 w sp x us nb→cF g nb→(∀b∈nb,g.ed b=none)→
  ∃g',Le g g'∧(∀x,x∉nb→g'.cM x=g.cM x∧g'.ed x=g.ed x)∧HRel B g' s'.hp w∧
   ∀i gn cs b o,look s.hp i=some (.gj gn cs)→g.cv i gn= .pointer (some ⟨b,o,none⟩)→b∉nb→look s'.hp i=some (.gj gn cs)∧g'.outer i=g.outer i
theorem nO {ax cH:Rd}(h:∀b L,ax b=some L→cH b=some L){w0 w:World}:∀{s:Sp}{x:s.o5.den}{us:List Value}{nb:List Nat},yx ax w0 w s x us nb→yx cH w0 w s x us nb
 | .un,_,_,_,k=>k
 | .pr _ _,_,_,_,⟨n1,n2,e,k1,k2⟩=>⟨n1,n2,e,nO h k1,nO h k2⟩
 | .cf _,_,_,_,k=>k
 | .own _ _,_,_,_,k=>k
 | .ptr _ _ _,x,_,_,k=>mM.mono h (s:= .ptr _ _ _) (x:=x) k
 | .vg _ _,x,_,_,k=>mM.mono h (s:= .vg _ _) (x:=x) (pl:=(0,0)) k
 | .nR,_,_,_,k=>k
 | .vj _,_,_,_,k=>k
 | .err,_,_,_,k=>k
 | .np,_,_,_,k=>k
 | .slf _ _,_,_,_,k=>k
theorem tw {hp x8:List (Nat×Obj)}{g g':Gh}{ax:Rd}{w0 w:World}(l:Le g g')(ht:∀id gn cs,look hp id=some (.gj gn cs)→gn<g.top id):
  ∀{s:Sp} {x:s.o5.den} {cs:List Cell} {us:List Value} {nb:List Nat},(∀i gn cs b o,look hp i=some (.gj gn cs)→g.cv i gn= .pointer (some ⟨b,o,none⟩)→b∈nb→look x8 i=some (.gj gn cs)∧g'.outer i=g.outer i)→
   yx ax w0 w s x us nb→jU hp g w0 s cs us→jU x8 g' w0 s cs us
 | .un,_,_,_,_,_,_,_=>trivial
 | .cf _,_,_,_,_,_,_,_=>trivial
 | .own _ _,_,_,_,_,_,_,_=>trivial
 | .err,_,_,_,_,_,_,_=>trivial
 | .np,_,_,_,_,_,_,_=>trivial
 | .slf _ _,_,_,_,_,_,_,_=>trivial
 | .pr _ _,_,_,_,_,ho,⟨n1,n2,e',k1,k2⟩,⟨h1,h2⟩=>by
  subst e';exact⟨tw l ht (fun i gn cs b o a1 a2 a3=>ho i gn cs b o a1 a2 (WC _ a3)) k1 h1,tw l ht (fun i gn cs b o a1 a2 a3=>ho i gn cs b o a1 a2 (Wy _ a3)) k2 h2⟩
 | .nR,_,_,_,_,_,_,_=>trivial
 | .vj _,_,_,_,_,_,_,_=>trivial
 | .ptr _ _ _,x,_,_,_,ho,k,h=>jU.Ct (s:= .ptr _ _ _) (x:=x) l ht ho k h
 | .vg _ _,x,_,_,_,ho,k,h=>jU.Ct (s:= .vg _ _) (x:=x) (pl:=(0,0)) l ht ho k h
theorem DX:∀(sp:Sp)(x:sp.o5.den)(cells:List Cell)(s:St)(rest:List Cell)(s':St),(Hm sp x cells).run s=some (rest,s')→MA sp x cells s rest s':=by
 intro sp
 have one:∀(sp:Sp) (x:sp.o5.den) (c:Cell) (cs:List Cell) (s:St) (rest:List Cell) (s':St),sp.size=1→(∀ax w0 w us nb,yx ax w0 w sp x us nb→nb=[])→(AM.ret cs).run s=some (rest,s')→MA sp x (c::cs) s rest s':=by
  intro sp x c cs s rest s' hs ho h;obtain⟨rfl,rfl⟩:=aq h;refine⟨rfl,by rw[hs];rfl,fun B g w0 w R us nb hL hO hp hn=> ?_⟩;obtain rfl:=ho _ _ _ _ _ hO;exact⟨g,Le.refl g,fun _ _=>⟨rfl,rfl⟩,R,fun i gn cs b o h _ _=>⟨h,rfl⟩⟩
 induction sp with
 |un=>
  intro x cells s rest s' h;obtain⟨rfl,rfl⟩:=aq h;refine⟨rfl,rfl,fun B g w0 w R us nb hL hO hp hn=> ?_⟩;have hO:nb=[]:=hO;subst hO;exact⟨g,Le.refl g,fun _ _=>⟨rfl,rfl⟩,R,fun i gn cs b o h _ _=>⟨h,rfl⟩⟩
 |cf τ=>intro x cells s rest s' h;cases cells with|nil=>exact nomatch h|cons c cs=>exact one _ x c cs s rest s' rfl (fun _ _ _ _ _ h=>h) h
 |own τ dp=>intro x cells s rest s' h;cases cells with|nil=>exact nomatch h|cons c cs=>exact one _ x c cs s rest s' rfl (fun _ _ _ _ _ h=>h) h
 |err=>intro x cells s rest s' h;cases cells with|nil=>exact nomatch h|cons c cs=>exact one _ x c cs s rest s' rfl (fun _ _ _ _ _ h=>h) h
 |np=>intro x cells s rest s' h;cases cells with|nil=>exact nomatch h|cons c cs=>exact one _ x c cs s rest s' rfl (fun _ _ _ _ _ h=>h) h
 |slf f m=>intro x cells s rest s' h;cases cells with|nil=>exact nomatch h|cons c cs=>exact one _ x c cs s rest s' rfl (fun _ _ _ _ _ h=>h) h
 |pr a b BQ BT=>
  intro x cells s rest s' h;obtain⟨r,t,h1,h2⟩:=AM.ai h;obtain⟨ea,ra,sa⟩:=BQ _ _ _ _ _ h1;obtain⟨eb,rb,sb⟩:=BT _ _ _ _ _ h2;refine⟨eb.trans ea,by rw[rb,ra,List.drop_drop],fun B g w0 w R us nb hL hO hp hn=> ?_⟩;obtain⟨n1,n2,rfl,B1,B2⟩:=hO;obtain⟨L1,L2⟩:=hL;have kY:=List.nodup_append.1 hp.1
  have hd:∀y∈n2,y∉n1:=fun y h2 h1=>kY.2.2 y h1 y h2 rfl
  have e1:((cells.take (a.size+b.size)).take a.size)=cells.take a.size:=by rw[List.take_take];congr 1;omega
  have e2:((cells.take (a.size+b.size)).drop a.size)=r.take b.size:=by rw[ra,List.drop_take];congr 1;omega
  have Sm:jU s.hp g w0 a (cells.take a.size) (us.take a.size):=by rw[←e1];exact L1
  have SB:jU s.hp g w0 b (r.take b.size) (us.drop a.size):=by rw[←e2];exact L2
  obtain⟨g1,l1,k1,R1,t1⟩:=sa B g w0 w R _ _ Sm B1 ⟨kY.1,fun y hy=>hp.2 y (WC _ hy)⟩ (fun y hy=>hn y (WC _ hy));have L3:jU t.hp g1 w0 b (r.take b.size) (us.drop a.size):=tw l1 R.qj (fun i gn cs b' o a1 a2 a3=>t1 i gn cs b' o a1 a2 (hd b' a3)) B2 SB
  obtain⟨g2,l2,k2,R2,SE⟩:=sb B g1 w0 w R1 _ _ L3 (nO l1.ax B2) ⟨kY.2.1,fun y hy=>by rw[(k1 y (hd y hy)).1];exact hp.2 y (Wy _ hy)⟩
   (fun y hy=>by rw[(k1 y (hd y hy)).2];exact hn y (Wy _ hy))
  refine⟨g2,l1.trans l2,fun y hy=> ?_,R2,fun i gn cs b' o hi jV hb=> ?_⟩
  ·rw[Wu,not_or]at hy;obtain⟨a1,a2⟩:=k1 y hy.1;obtain⟨b1,b2⟩:=k2 y hy.2;exact⟨b1.trans a1,b2.trans a2⟩
  ·rw[Wu,not_or]at hb;obtain⟨a1,a2⟩:=t1 i gn cs b' o hi jV hb.1;obtain⟨b1,b2⟩:=SE i gn cs b' o a1 ((l1.cv _ _ (R.qj _ _ _ hi)).trans jV) hb.2;exact⟨b1,b2.trans a2⟩
 |vj ok=>
  intro x cells s rest s' h
  cases cells with
  |nil=>exact nomatch h
  |cons c cs=>exact one (.vj ok) x c cs s rest s' rfl (fun _ _ _ _ _ k=>k) h
 |nR=>
  intro x cells s rest s' h
  cases cells with
  |nil=>exact nomatch h
  |cons c cs=>
   cases cs with
   |nil=>exact nomatch h
   |cons c2 cs=>
    obtain⟨rfl,rfl⟩:=aq h;refine⟨rfl,rfl,fun B g w0 w R us nb hL hO hp hn=> ?_⟩;have hO:nb=[]:=hO;subst hO;exact⟨g,Le.refl g,fun _ _=>⟨rfl,rfl⟩,R,fun i gn cs b o h _ _=>⟨h,rfl⟩⟩
 |ptr wh st sp _=>
  intro x cells s rest s' h
  cases cells with
  |nil=>exact nomatch h
  |cons c cs=>
   obtain⟨⟨p1,p2,p3⟩,t,h1,h2⟩:=AM.ai h;obtain⟨rfl,rfl⟩:=aq h2;obtain⟨e1,_,s1⟩:=sL (.ptr wh st sp) x _ _ _ _ _ _ _ _ h1;refine⟨e1,rfl,fun B g w0 w R us nb hL hO hp hn=> ?_⟩;obtain⟨g',l,k,R',_,t'⟩:=s1 B g w0 w R (0,0) us us nb (gg.none _ _) hL hO hp hn;exact⟨g',l,k,R',t'⟩
 |vg τ dp=>
  intro x cells s rest s' h;exact nomatch h
end Go.Abs
end

section
namespace Go.Abs
theorem um {hp x8:List (Nat×Obj)}{g g':Gh}{ax:Rd}{w0 w:World}(l:Le g g')(ht:∀id gn cs,look hp id=some (.gj gn cs)→gn<g.top id):
  ∀{as:List VSp} {x:(oW as).den} {vs:List Val} {us:List Value} {nb:List Nat},(∀i gn cs b o,look hp i=some (.gj gn cs)→g.cv i gn= .pointer (some ⟨b,o,none⟩)→b∈nb→look x8 i=some (.gj gn cs)∧g'.outer i=g.outer i)→
   iO ax w0 w as x us nb→kf hp g w0 as vs us→kf x8 g' w0 as vs us
 |[],_,_,_,_,_,_,h=>h
 |_::_,x,_,_,_,ho,⟨u,r,n1,n2,e,e',k1,k2⟩,⟨v,q,u',r',e1,e2,hl,h1,h2⟩=>by
  subst e';rw[e]at e2
  injection e2 with e2 e3
  subst e2;subst e3;exact⟨v,q,u,r,e1,e,hl,tw l ht (fun i gn cs b o a1 a2 a3=>ho i gn cs b o a1 a2 (WC _ a3)) k1 h1,um l ht (fun i gn cs b o a1 a2 a3=>ho i gn cs b o a1 a2 (Wy _ a3)) k2 h2⟩
theorem tP {ax cH:Rd}(h:∀b L,ax b=some L→cH b=some L){w0 w:World}:∀{as:List VSp}{x:(oW as).den}{us:List Value}{nb:List Nat},iO ax w0 w as x us nb→iO cH w0 w as x us nb
 |[],_,_,_,k=>k
 |_::_,_,_,_,⟨u,r,n1,n2,e,e',k1,k2⟩=>⟨u,r,n1,n2,e,e',nO h k1,tP h k2⟩
theorem ue:∀{as:List VSp}{x:(oW as).den}{vs:List Val}{s s':St},(yP as x vs).run s=some ((),s')→s'.env=s.env∧∀B g w0 w,HRel B g s.hp w→∀us nb,kf s.hp g w0 as vs us→iO g.ax w0 w as x us nb→cF g nb→(∀b∈nb,g.ed b=none)→
  ∃g',Le g g'∧(∀x,x∉nb→g'.cM x=g.cM x∧g'.ed x=g.ed x)∧HRel B g' s'.hp w
 |[],x,vs,s,s',h=>by
  cases vs with
  |nil=>
   obtain⟨_,rfl⟩:=aq h;exact⟨rfl,fun B g w0 w R us nb _ _ _ _=>⟨g,Le.refl g,fun _ _=>⟨rfl,rfl⟩,R⟩⟩
  |cons v r=>exact nomatch h
 |a::as,x,vs,s,s',h=>by
  cases vs with
  |nil=>exact nomatch h
  |cons v r=>
   obtain⟨rest,t,h1,h2⟩:=AM.ai h;obtain⟨e1,_,s1⟩:=DX _ _ _ _ _ _ h1;obtain⟨e2,s2⟩:=ue h2;refine⟨e2.trans e1,fun B g w0 w R us nb hL hO hp hn=> ?_⟩;obtain⟨v',r',u,q,ev,eu,hl,L1,L2⟩:=hL
   injection ev with UA Vh
   subst UA;subst Vh;obtain⟨u',q',n1,n2,T1,rfl,O1,O2⟩:=hO;rw[eu]at T1
   injection T1 with O7 VF
   subst O7;subst VF;have kY:=List.nodup_append.1 hp.1
   have hd:∀y∈n2,y∉n1:=fun y h2 h1=>kY.2.2 y h1 y h2 rfl
   have ht:v.cells.take a.sp.size=v.cells:=(by rw[←hl,List.take_length]);obtain⟨g1,l1,k1,R1,t1⟩:=s1 B g w0 w R _ n1 (by rw[ht];exact L1) O1 ⟨kY.1,fun y hy=>hp.2 y (WC _ hy)⟩ (fun y hy=>hn y (WC _ hy));have L3:=um l1 R.qj (fun i gn cs b' o a1 a2 a3=>t1 i gn cs b' o a1 a2 (hd b' a3)) O2 L2
   obtain⟨g2,l2,k2,R2⟩:=s2 B g1 w0 w R1 _ n2 L3 (tP l1.ax O2) ⟨kY.2.1,fun y hy=>by rw[(k1 y (hd y hy)).1];exact hp.2 y (Wy _ hy)⟩
    (fun y hy=>by rw[(k1 y (hd y hy)).2];exact hn y (Wy _ hy))
   refine⟨g2,l1.trans l2,fun y hy=> ?_,R2⟩;rw[Wu,not_or]at hy;obtain⟨a1,a2⟩:=k1 y hy.1;obtain⟨b1,b2⟩:=k2 y hy.2;exact⟨b1.trans a1,b2.trans a2⟩
theorem tp {ax:Rd}{hp:List (Nat×Obj)}{g:Gh}{w0 w1 w:World}:∀{s:Sp}{x:s.ty.den}{pl:Nat×Nat}{new:List Value}{nb:List Nat},mM ax w0 w s x pl [] new nb→jU hp g w1 s [] []
 | .un,_,_,_,_,_=>trivial
 | .cf _,_,_,_,_,_=>trivial
 | .own _ _,_,_,_,_,_=>trivial
 | .nR,_,_,_,_,_=>trivial
 | .vj _,_,_,_,_,_=>trivial
 | .err,_,_,_,_,_=>trivial
 | .np,_,_,_,_,_=>trivial
 | .slf _ _,_,_,_,_,_=>trivial
 | .vg _ _,_,_,_,_,k=>by
  obtain⟨rfl,k⟩:=k;have:=k.length;simp at this
 | .pr _ _,_,_,_,_,⟨u1,u2,n1,n2,e,e',k1,k2⟩=>by
  rw[List.take_nil]at k1;rw[List.drop_nil]at k2;refine⟨?_, ?_⟩
  ·rw[List.take_nil,List.take_nil];exact tp k1
  ·rw[List.drop_nil,List.drop_nil];exact tp k2
 | .ptr _ _ _,_,_,_,_,⟨b,o,ql,Kq,arr,L,fV,e,_⟩=>by cases e
theorem vF {a:VSp}{x:a.sp.ty.den}{n n':Nat}{v:Val}{s s':St}(h:(Gc a x n).run s=some ((v,n'),s')):s'.env=s.env∧∀B g w,HRel B g s.hp w→∀u nb,xr g.ax w a x u nb→cF g nb→(∀b∈nb,g.ed b=none)→
  ∃g',Le g g'∧(∀x,x∉nb→g'.cM x=g.cM x∧g'.ed x=g.ed x)∧HRel B g' s'.hp w∧cG g' v u:=by
 cases a with
 |one sp=>
  obtain⟨⟨p1,p2,p3⟩,t,h1,h2⟩:=AM.ai h;simp only at h2;split at h2
  ·obtain⟨h3,rfl⟩:=aq h2
   injection h3 with h3 h4
   subst h3;obtain⟨e1,_,s1⟩:=sL sp x _ _ _ _ _ _ _ _ h1;refine⟨e1,fun B g w R u nb hR hp hn=> ?_⟩;obtain⟨g',l,k,R',hc,_⟩:=s1 B g w w R (0,0) [] [u] nb (gg.none _ _) (by rw[List.take_nil];exact tp hR.2) hR.2 hp hn;obtain⟨u',r,e,hu,hr⟩:=hc
   injection e with e _
   subst e;exact⟨g',l,k,R',hu⟩
  ·cases h2
 |agg sp=>
  obtain⟨⟨p1,p2,p3⟩,t,h1,h2⟩:=AM.ai h;obtain⟨h3,rfl⟩:=aq h2
  injection h3 with h3 h4
  subst h3;obtain⟨e1,_,s1⟩:=sL sp x _ _ _ _ _ _ _ _ h1;refine⟨e1,fun B g w R u nb hR hp hn=> ?_⟩;obtain⟨us,rfl,hB⟩:=hR;obtain⟨g',l,k,R',hc,_⟩:=s1 B g w w R (0,0) [] us nb (gg.none _ _) (by rw[List.take_nil];exact tp hB) hB hp hn;exact⟨g',l,k,R',us,rfl,hc⟩
theorem xM {ax cH:Rd}(h:∀b L,ax b=some L→cH b=some L){w:World}{a:VSp}{x:a.sp.ty.den}{u:Value}{nb:List Nat}(k:xr ax w a x u nb):xr cH w a x u nb:=by
 cases a with
 |one s=>exact⟨k.1,mM.mono h k.2⟩
 |agg s=>obtain⟨us,e,k⟩:=k;exact⟨us,e,mM.mono h k⟩
theorem q8 {ax cH:Rd}(h:∀b L,ax b=some L→cH b=some L){w:World}:∀{as:List VSp}{x:(bO as).den}{us:List Value}{nb:List Nat},rq ax w as x us nb→rq cH w as x us nb
 |[],_,_,_,k=>k
 |_::_,_,_,_,⟨u,r,n1,n2,e,e',k1,k2⟩=>⟨u,r,n1,n2,e,e',xM h k1,q8 h k2⟩
theorem tY:∀{as:List VSp}{x:(bO as).den}{n:Nat}{vs:List Val}{s s':St},(C5 as x n).run s=some (vs,s')→s'.env=s.env∧∀B g w,HRel B g s.hp w→∀us nb,rq g.ax w as x us nb→cF g nb→(∀b∈nb,g.ed b=none)→
  ∃g',Le g g'∧HRel B g' s'.hp w∧db g' vs us
 |[],x,n,vs,s,s',h=>by
  obtain⟨rfl,rfl⟩:=aq h;exact⟨rfl,fun B g w R us nb hR _ _=>⟨g,Le.refl g,R,hR.1⟩⟩
 |a::as,x,n,vs,s,s',h=>by
  obtain⟨⟨p1,p2⟩,t,h1,h2⟩:=AM.ai h;obtain⟨q,t2,h3,h4⟩:=AM.ai h2;obtain⟨rfl,rfl⟩:=aq h4;obtain⟨e1,s1⟩:=vF h1;obtain⟨e2,s2⟩:=tY h3;refine⟨e2.trans e1,fun B g w R us nb hR hp hn=> ?_⟩;obtain⟨u,r,n1,n2,rfl,rfl,k1,k2⟩:=hR;have kY:=List.nodup_append.1 hp.1
  have hd:∀y∈n2,y∉n1:=fun y h2 h1=>kY.2.2 y h1 y h2 rfl
  obtain⟨g1,l1,t1,R1,c1⟩:=s1 B g w R u n1 k1 ⟨kY.1,fun y hy=>hp.2 y (WC _ hy)⟩ (fun y hy=>hn y (WC _ hy))
  obtain⟨g2,l2,R2,c2⟩:=s2 B g1 w R1 r n2 (q8 l1.ax k2) ⟨kY.2.1,fun y hy=>by rw[(t1 y (hd y hy)).1];exact hp.2 y (Wy _ hy)⟩
   (fun y hy=>by rw[(t1 y (hd y hy)).2];exact hn y (Wy _ hy))
  exact⟨g2,l1.trans l2,R2,u,r,rfl,c1.mono l2,c2⟩
theorem z7 {ax cH:Rd}(h:∀b L,ax b=some L→cH b=some L){w:World}{r:RSp}{x:r.ty.den}{v:Value}{nb:List Nat}(k:uw ax w r x v nb):uw cH w r x v nb:=by
 cases r with
 |val a=>exact xM h k
 |vi as=>obtain⟨us,e,k⟩:=k;exact⟨us,e,q8 h k⟩
 |none=>exact k
theorem BD {r:RSp}{x:r.ty.den}{n:Nat}{sl:Slot}{s s':St}(h:(Dj r x n).run s=some (sl,s')):s'.env=s.env∧∀B g w,HRel B g s.hp w→∀v nb,uw g.ax w r x v nb→cF g nb→(∀b∈nb,g.ed b=none)→
  ∃g',Le g g'∧HRel B g' s'.hp w∧bV g' sl v:=by
 cases r with
 |val a=>
  obtain⟨⟨p1,p2⟩,t,h1,h2⟩:=AM.ai h;obtain⟨rfl,rfl⟩:=aq h2;obtain⟨e1,s1⟩:=vF h1;refine⟨e1,fun B g w R v nb hR hp hn=> ?_⟩;obtain⟨g',l,_,R',hv⟩:=s1 B g w R v nb hR hp hn;exact⟨g',l,R',hv⟩
 |vi as=>
  obtain⟨p,t,h1,h2⟩:=AM.ai h;obtain⟨rfl,rfl⟩:=aq h2;obtain⟨e1,s1⟩:=tY h1;refine⟨e1,fun B g w R v nb hR hp hn=> ?_⟩;obtain⟨us,rfl,hR⟩:=hR;obtain⟨g',l,R',hv⟩:=s1 B g w R us nb hR hp hn;exact⟨g',l,R',us,rfl,hv⟩
 |none=>
  obtain⟨rfl,rfl⟩:=aq h;exact⟨rfl,fun B g w R v nb hR hp hn=>⟨g,Le.refl g,R,[],by rw[hR.1],rfl⟩⟩
theorem eS.mono {P:Program}{f:FuncId}{args:Array Value}{w:World}{R R':Value→World→Prop}(h:∀v w',R v w'→R' v w')(k:eS P f args w R):eS P f args w R':=by
 unfold eS at k⊢;split
 ·rename_i he;rw[he]at k
  exact Calls.mono k fun e w' ⟨v,e1,hr⟩=>⟨v,e1,h _ _ hr⟩
 ·rename_i he;rw[he]at k;exact h _ _ k
 ·rename_i h1 h2;split at k
  ·rename_i he;exact h1 _ _ _ he
  ·rename_i he;exact h2 _ _ he
  ·exact k
theorem Lv {α:Type}(c:Ty)(x:Option c.den)(k:c.den→AM α)(s:St):(AM.opt c x k).run s=x.bind fun d=>(k d).run s:=by cases x<;>rfl
theorem xL {P:Program}{cd:Nat→Option (List Cell)}{f:FuncId}{c:Callee}{dd:Nat}{vs:List Val}{s s':St}{sl:Slot}{chk:AM Unit}(OO:∀t t',chk.run t=some ((),t')→t'=t)(hc:rm P cd f c)(h:(MD chk c dd vs).run s=some (sl,s')):
  s'.env=s.env∧∃t1:St,t1.env=s.env∧chk.run t1=some ((),t1)∧∀B g w,fj cd g.ax→HRel B g s.hp w→∀us,db g vs us→(∀g1 nb,Le g g1→HRel B g1 t1.hp w→cF g1 nb→x6 c.sig.args g1.ax w nb us)→eS P f us.toArray w fun v w'=>∃g',Le g g'∧HRel B g' s'.hp w'∧bV g' sl v:=by
 obtain⟨x,t1,h1,h2⟩:=AM.ai h;obtain⟨⟨⟩,t1',TZ,h2a⟩:=AM.ai h2;obtain rfl:=OO _ _ TZ;have h2:=(Lv _ _ _ _).symm.trans h2a
 cases hF:c.F x with
 |none=>rw[hF]at h2;cases h2
 |some y=>
  rw[hF]at h2;obtain⟨⟨⟩,t2,h3,h4⟩:=AM.ai h2;obtain⟨k1,s1⟩:=nx h1;obtain⟨e2,s2⟩:=ue h3;obtain⟨e3,s3⟩:=BD h4;refine⟨(e3.trans e2).trans k1.1,_,k1.1,TZ,fun B g w hG R us hu hS=> ?_⟩;obtain⟨g1,l1,R1,c1⟩:=s1 B g w R;obtain⟨nb,hP,hO,hf,hL⟩:=c1 us hu
  have fQ:∀b L,g1.ax b=some L→∃arr ty fr,w.heap[b]?=some (.cells arr ty fr)∧arr.toList=L:=fun b L hb=>(R1.ax b L hb).2.2
  have o9:∀b∈nb,g1.ax b=none∧b<w.heap.size:=fun b hb=>by
   have hl:=hO.2 b hb;refine⟨?_,R1.ey b (by rw[hl];simp)⟩
   cases hi:g1.ax b with
   |none=>rfl
   |some L=>have:=(R1.ax b L hi).1;rw[hl]at this;cases this
  refine eS.mono ?_ (hc x y hF g1.ax w us nb (hG.mono l1.le.ax) fQ hP hO.1 o9 (hS g1 nb l1.le R1 hO));rintro v w' ⟨cH,n1,n2,A,hR,hOut⟩;obtain⟨l2,R2,Gu,yT⟩:=R1.after hO A;have Mc:kf t1'.hp (g1.after nb cH (n1++n2)) w c.sig.args vs us:=hL.mono l2 (fun id gn cs hl=>⟨hl,rfl⟩) R1.qj;have kY:=List.nodup_append.1 Gu.1
  have hd:∀y∈n1,y∉n2:=fun y h1 h2=>kY.2.2 y h1 y h2 rfl
  obtain⟨g3,l3,k3,R3⟩:=s2 B _ w w' R2 us n2 Mc hOut ⟨kY.2.1,fun y hy=>Gu.2 y (Wy _ hy)⟩ (fun y hy=>yT y (Wy _ hy));have US:uw g3.ax w' c.sig.res y.1 v n1:=z7 l3.ax hR;obtain⟨g4,l4,R4,hs⟩:=s3 B g3 w' R3 v n1 US ⟨kY.1,fun y hy=>by rw[(k3 y (hd y hy)).1];exact Gu.2 y (WC _ hy)⟩ (fun y hy=>by rw[(k3 y (hd y hy)).2];exact yT y (WC _ hy));exact⟨g4,((l1.le.trans l2).trans l3).trans l4,R4,hs⟩
theorem FQ {P:Program}{cd:Nat→Option (List Cell)}{f:FuncId}{c:Callee}{dd:Nat}{vs:List Val}{s s':St}{sl:Slot}(hc:jC P cd f c)(hn:wC c.sig.args=none)(h:(call c dd vs).run s=some (sl,s')):
  s'.env=s.env∧∀B g w,fj cd g.ax→HRel B g s.hp w→∀us,db g vs us→eS P f us.toArray w fun v w'=>∃g',Le g g'∧HRel B g' s'.hp w'∧bV g' sl v:=by
 obtain⟨e,t1,_,_,hs⟩:=xL (chk:= .ret ()) (fun t t' k=>(aq k).2) hc.slf h;exact⟨e,fun B g w hG R us hu=>hs B g w hG R us hu fun _ _ _ _ _=>x6.none hn⟩
end Go.Abs
end

section
namespace Go.Abs
theorem l6.snoc {r:Rd}{τ:Ty}{p:Int×τ.den}{e:MapEntry}(hk:e.key= .int .i64 p.1)(hv:Rc r τ p.2 [e.val]):∀{xs:List (Int×τ.den)}{es:List MapEntry},l6 r τ xs es→l6 r τ (xs++[p]) (es++[e])
 |[],es,h=>by
  have h:es=[]:=h;subst h;exact⟨e,[],rfl,hk,hv,rfl⟩
 |_::_,_,⟨e',r',h1,h2,h3,h4⟩=>⟨e',r'++[e],by rw[h1];rfl,h2,h3,l6.snoc hk hv h4⟩
theorem vE {r:Rd}{τ:Ty}{K:IntKind}{n:Int}:∀{xs:List (Int×τ.den)}{es:List MapEntry}(i:Nat),l6 r τ xs es→(xs.any fun p=>decide (p.1=n))=false→Instr.findNow (.int K) (.int .i64 n) es i=some none
 |[],es,i,h,_=>by
  have h:es=[]:=h;subst h;rfl
 |p::xs,es,i,⟨e,r',h1,h2,h3,h4⟩,hn=>by
  subst h1;simp only[List.any_cons,Bool.or_eq_false_iff,V8]at hn
  have hb:(n==p.1)=false:=by simpa using fun e:n=p.1=>hn.1 e.symm
  have ih:=vE (K:=K) (i+1) h4 hn.2;simp[Instr.findNow,Instr.sameNow,h2,hb,ih]
theorem xQ {r:Rd}{τ:Ty}{K:IntKind}{n:Int}(z:τ.den):∀{xs:List (Int×τ.den)}{es:List MapEntry}(i:Nat),l6 r τ xs es→
  (Instr.findNow (.int K) (.int .i64 n) es i=some none∧Ff z xs n=z)∨∃j v,Instr.findNow (.int K) (.int .i64 n) es i=some (some (j,v))∧Rc r τ (Ff z xs n) [v]
 |[],es,i,h=>by
  have h:es=[]:=h;subst h;exact .inl ⟨rfl,rfl⟩
 |p::xs,es,i,⟨e,r',h1,h2,h3,h4⟩=>by
  subst h1;unfold Ff
  by_cases hb:n=p.1
  ·rw[VY hb];have yz:(n==p.1)=true:=(by simpa using hb);exact .inr ⟨i,e.val,by simp[Instr.findNow,Instr.sameNow,h2,yz],h3⟩
  ·rw[VW hb];have yz:(n==p.1)=false:=(by simpa using hb)
   rcases xQ (K:=K) z (i+1) h4 with⟨k1,k2⟩|⟨j,v,k1,k2⟩
   ·exact .inl ⟨by simp[Instr.findNow,Instr.sameNow,h2,yz,k1],k2⟩
   ·exact .inr ⟨j,v,by simp[Instr.findNow,Instr.sameNow,h2,yz,k1],k2⟩
theorem xk {E:Env}{t e:TypeId}(h:mapKey E t=some e):∃k,E.P.underlying t=some (.map k e)∧E.P.underlying k=some (.int .i64):=by
 unfold mapKey at h;split at h
 ·rename_i k e' hu;split at h
  ·rename_i hk
   injection h with h
   subst h;exact⟨k,hu,hk⟩
  ·cases h
 ·cases h
theorem HRel.Nz {B:Base}{g:Gh}{hp:List (Nat×Obj)}{w:World}(R:HRel B g hp w){id:Nat}{τ:Ty}(h1:τ.one=true):
  ∃g',Le g g'∧HRel B g' ((id, .mp (g.top id) τ [])::hp) (World.more w (.map #[] 0))∧bV g' (.val (.one (.own id (g.top id)))) (.map (some w.heap.size)):=by
 have hle:=R.yK (id:=id) (b:=w.heap.size) (u:= .map (some w.heap.size)) (nb:=[]) (out:=[]) rfl;refine⟨_,hle,R.install rfl R.mI (ri w _) (fun x hx=>by simp at hx) rfl ?_, ?_⟩
 ·exact⟨h1,w.heap.size,#[],0,by simp[Gh.inst],by simp[Gh.inst],R.mI.ed,wc w _,rfl⟩
 ·exact⟨by simp[Gh.inst],by simp[Gh.inst],rfl⟩
theorem vT {d:Nat}{τ:Ty}{s s':St}{sl:Slot}(h:(bif τ.one then(iL d).bind fun g=>AM.jG d (.mp g τ []) (.ret (Slot.val (.one (.own d g))))else .fail).run s=some (sl,s')):
  s'.env=s.env∧∀{B:Base} {g:Gh} {w:World},HRel B g s.hp w→∃g',Le g g'∧HRel B g' s'.hp (World.more w (.map #[] 0))∧bV g' sl (.map (some w.heap.size)):=by
 obtain⟨h1,h⟩:=aX h;obtain⟨gen,t,h2,h3⟩:=AM.ai h;have nw:t=s:=(kQ h2).1;subst nw;simp only[AM.run,WI,WU]at h3;obtain⟨rfl,rfl⟩:=h3;refine⟨rfl,fun{B g w} R=> ?_⟩;obtain⟨rfl,_⟩:=gK R h2;exact R.Nz h1
theorem BE {E:Env}{t:TypeId}{r:Option Operand}{s s':St}{sl:Slot}{d:Nat}(h:(cN E d (.makeMap t r)).run s=some (sl,s')):Yld E (.makeMap t r) s sl s':=by
 cases r with
 |none=>
  obtain⟨e,t1,h1,h2⟩:=AM.ai h;obtain⟨hm,rfl⟩:=bw h1;obtain⟨τ,t2,h3,h4⟩:=AM.ai h2;obtain rfl:=sX h3;obtain⟨he,hb⟩:=vT h4;refine⟨he,fun o ho B g a w R V=> ?_⟩;obtain⟨g',l,R',hs⟩:=hb R;refine⟨_,_,g', ?_,l,R',hs⟩;unfold execOp;rw[ho]
  apply cc
  simp[Instr.makeMap,World.more,newObj,Sem.run,Result.andThen]
 |some x=>
  obtain⟨v,t0,k1,k2⟩:=AM.ai h;obtain⟨e0,r1⟩:=bE k1;obtain⟨n,t1,k3,k4⟩:=AM.ai k2;obtain⟨⟨k,e2⟩,e1⟩:=im k3;obtain⟨e,t2,k5,k6⟩:=AM.ai k4;obtain⟨hm,e3⟩:=bw k5;obtain⟨τ,t3,k7,k8⟩:=AM.ai k6;have e4:=sX k7;subst e4;subst e3;subst e1;subst e0;subst e2;obtain⟨he,hb⟩:=vT k8;refine⟨he,fun o ho B g a w R V=> ?_⟩;obtain⟨g',l,R',hs⟩:=hb R;have hx:a.eval x= .int k n:=e9 (r1 V);obtain⟨kt,hu,_⟩:=xk hm;refine⟨_,_,g', ?_,l,R',hs⟩;unfold execOp;rw[ho]
  apply cc
  simp[Instr.makeMap,hx,run_underlying hu,Go.asInt,asIntOf,World.more,newObj,Sem.run,Result.andThen]
theorem Bp {w:World}{b:Nat}{o o':Go.Obj}(h:w.heap[b]?=some o):Turned w {w with heap:=w.heap.setIfInBounds b o'} b:=
 ⟨fun x hx=>(MapKept.heap_set h).2 x hx,by simp,by
  have:=(Array.getElem?_eq_some_iff.1 h).1
  simpa using this,rfl,rfl,rfl⟩
theorem CG {E:Env}{t:TypeId}{m k x:Operand}{s s':St}{sl:Slot}{d:Nat}(h:(cN E d (.insert t m k x)).run s=some (sl,s')):
  s'.env=s.env∧sl= .un∧∀(o:Oper),o.op= .insert t m k x→∀B g a w,HRel B g s.hp w→fi g s.env a→
  ∃w' g',(execOp a.eval o).run E.P w= .ok .skip w'∧Le g g'∧HRel B g' s'.hp w':=by
 obtain⟨vm,t1,a1,a2⟩:=AM.ai h;obtain⟨e1,r1⟩:=bE a1;obtain⟨cm,t2,a3,a4⟩:=AM.ai a2;obtain⟨e2,e3⟩:=qF a3;obtain⟨vk,t3,a5,a6⟩:=AM.ai a4;obtain⟨e4,r2⟩:=bE a5;obtain⟨vx,t4,a7,a8⟩:=AM.ai a6;obtain⟨e5,r3⟩:=bE a7;subst e5;subst e4;subst e3;subst e1;subst e2;clear a1 a2 a3 a4 a5 a6 a7 h;have h:=a8;clear a8;split at h
 ·rename_i n τ y;unfold JL at h;split at h
  ·rename_i id gen;obtain⟨e,t5,b1,b2⟩:=AM.ai h;obtain⟨hm,e6⟩:=bw b1;subst e6;clear b1 h;have h:=b2;clear b2;simp only[AM.run]at h;split at h
   ·rename_i g0 τ' xs heq;obtain⟨hb,k0⟩:=aX h;clear h;simp only[V6]at hb;have tf:=beq_eq hb.1;subst tf
    by_cases hτ:τ=τ'
    ·subst hτ;rw[dif_pos rfl]at k0;simp only[AM.run,WI,WU]at k0;obtain⟨rfl,rfl⟩:=k0;refine⟨rfl,rfl,fun o ho B g a w R V=> ?_⟩;obtain⟨h1,b,es,Ma,k1,k2,k3,k4,k5⟩:=R.eC _ _ heq
     have Rm:a.eval m= .map (some b):=by
      obtain⟨_,e1,_⟩:aV g (.own id g0) (a.eval m):=r1 V;rw[e1,k1]
     have Re:a.eval k= .int .i64 n:=e9 (r2 V);obtain⟨_,hx⟩:aV g (.v τ y) (a.eval x):=r3 V;obtain⟨kt,hu,OG⟩:=xk hm;have QQ:Instr.findNow (.int .i64) (.int .i64 n) es.toList 0=some none:=vE 0 k5 (by simpa using hb.2);refine⟨_,g.take id [], ?_,Le.take g id [],R.write heq rfl k2 k3 (Bp (o':= .map (es.push {key:= .int .i64 n,val:=a.eval x,born:=Ma}) (Ma+1)) k4) (fun x hx=>by simp at hx) ?_⟩
     ·unfold execOp;rw[ho];simp only[Rm,Re,Instr.mapUpdate,Sem.run_bind,run_underlying hu,Result.andThen_ok,MapKept.run_getObj_map k4];rw[show(10000:Nat)=9999+1 from rfl,MapKept.run_checkKey OG (show MapKept.IsKey (.int .i64) (.int .i64 n)from rfl)];simp only[Result.andThen_ok,MapKept.run_findKey OG QQ,MapKept.run_setObj_map _ k4];rfl
     ·refine⟨h1,b,es.push {key:= .int .i64 n,val:=a.eval x,born:=Ma},Ma+1,k1, ?_,k3,(MapKept.heap_set k4).1, ?_⟩
      ·simpa[Gh.take]using k2
      ·rw[Array.toList_push];exact l6.snoc rfl hx k5
    ·rw[dif_neg hτ]at k0;cases k0
   ·cases h
  ·cases h
 ·cases h
theorem CF {E:Env}{t:TypeId}{m k:Operand}{s s':St}{sl:Slot}{d:Nat}(h:(cN E d (.lookup t m k false)).run s=some (sl,s')):Yld E (.lookup t m k false) s sl s':=by
 obtain⟨vm,t1,a1,a2⟩:=AM.ai h;obtain⟨e1,r1⟩:=bE a1;obtain⟨cm,t2,a3,a4⟩:=AM.ai a2;obtain⟨e2,e3⟩:=qF a3;obtain⟨vk,t3,a5,a6⟩:=AM.ai a4;obtain⟨e4,r2⟩:=bE a5;subst e4;subst e3;subst e1;subst e2;clear a1 a2 a3 a4 a5 h;have h:=a6;clear a6;split at h
 ·rename_i n;unfold JU at h;split at h
  ·rename_i id gen;obtain⟨e,t5,b1,b2⟩:=AM.ai h;obtain⟨hm,e6⟩:=bw b1;subst e6;clear b1 h;have h:=b2;clear b2;split at h
   ·rename_i τ0 z hz;simp only[AM.run]at h;split at h
    ·rename_i g0 τ' xs heq;obtain⟨hb,k0⟩:=aX h;clear h;have tf:=beq_eq hb;subst tf
     by_cases hτ:τ0=τ'
     ·subst hτ;rw[dif_pos rfl]at k0;obtain⟨rfl,rfl⟩:=aq k0
      refine Yld.still fun o ho B g a w R V=> ?_
      obtain⟨h1,b,es,Ma,k1,k2,k3,k4,k5⟩:=R.eC _ _ heq
      have Rm:a.eval m= .map (some b):=by
       obtain⟨_,e1,_⟩:aV g (.own id g0) (a.eval m):=r1 V;rw[e1,k1]
      have Re:a.eval k= .int .i64 n:=e9 (r2 V);obtain⟨kt,hu,OG⟩:=xk hm;unfold G6 at hz;simp only[WT]at hz;obtain⟨zv,⟨i,hi,Oo⟩,hz⟩:=hz;obtain⟨_,MN⟩:aV g (.v τ0 z) zv:=vP hz g
      rcases xQ (K:= .i64) (n:=n) z 0 k5 with⟨f1,f2⟩|⟨j,v,f1,f2⟩
      ·refine⟨zv, ?_,h1, ?_⟩
       ·unfold execOp;rw[ho]
        apply cc
        simp only[Rm,Re,Instr.lookup,Sem.run_bind,run_underlying hu,Result.andThen_ok,MapKept.run_getObj_map k4,Sem.run_pure];rw[show(10000:Nat)=9999+1 from rfl,MapKept.run_checkKey OG (show MapKept.IsKey (.int .i64) (.int .i64 n)from rfl)];simp only[Result.andThen_ok,MapKept.run_findKey OG f1];simp[zeroValue,typeInfo,hi,Oo]
       ·rw[f2];exact MN
      ·refine⟨v, ?_,h1,f2⟩;unfold execOp;rw[ho]
       apply cc
       simp only[Rm,Re,Instr.lookup,Sem.run_bind,run_underlying hu,Result.andThen_ok,MapKept.run_getObj_map k4,Sem.run_pure];rw[show(10000:Nat)=9999+1 from rfl,MapKept.run_checkKey OG (show MapKept.IsKey (.int .i64) (.int .i64 n)from rfl)];simp only[Result.andThen_ok,MapKept.run_findKey OG f1];simp
     ·rw[dif_neg hτ]at k0;cases k0
    ·cases h
   ·cases h
  ·cases h
 ·cases h
end Go.Abs
end

section
namespace Go.Abs
structure EnvOk (E:Env):Prop where
 calls:∀f c,E.callee f=some c→rm E.P E.cd f c
def PW (E:Env)(B:Base):Prop:=∀f ts,E.slf=some (f,ts)→ts≠[]→
 ∃b ty,B.arg (ts.getLastD 0)= .pointer (some ⟨b,0,none⟩)∧B.w.heap[b]?=some (.cells #[.func (.func f) #[] (ts.map B.arg).toArray] ty (0,0))∧B.cM b=none∧B.ax b=none
structure ActRel (E:Env)(B:Base)(g:Gh)(env:List (Nat×Slot))(a:Act):Prop where
 env:fi g env a
 size:a.tmps.size=E.nt
 defers:a.defers=[]
 kept:∀t∈E.jF,a.tmps.getD t undef=B.arg t
 slf:PW E B
theorem ActRel.mono {E:Env}{B:Base}{g g':Gh}(h:Le g g'){env:List (Nat×Slot)}{a:Act}(H:ActRel E B g env a):ActRel E B g' env a:=⟨H.env.mono h,H.size,H.defers,H.kept,H.slf⟩
def N1 (E:Env)(op:Op)(s:St)(sl:Slot)(s':St):Prop:=
 s'.env=s.env∧∀(o:Oper),o.op=op→∀B g a w,fj E.cd g.ax→HRel B g s.hp w→ActRel E B g s.env a→∀(next:Act→World→Prop) (Q:Exit→Act→World→Prop),
  (∀v w' g',Le g g'→HRel B g' s'.hp w'→bV g' sl v→next (a.put o.dst v) w')→o.wp E.P a w next Q
theorem Yld.ok {E:Env}{op:Op}{s s':St}{sl:Slot}(h:Yld E op s sl s'):N1 E op s sl s':=by
 refine⟨h.1,fun o ho B g a w _ R V next Q hn=> ?_⟩;obtain⟨v,w',g',e,l,R',hs⟩:=h.2 o ho B g a w R V.env;unfold Oper.wp;rw[e];exact hn v w' g' l R' hs
theorem sO {g:Gh}:∀{gp:List (Nat×Nat)}{us:List Value},o7 g gp us→db g (gp.map fun p=> .one (.ptr p.1 p.2 0)) us
 |[],_,h=>h
 |p::r,us,⟨b,o,v,e,h1,h2,h3⟩=>⟨_,_,e,⟨h1,b,o,h2,rfl⟩,sO h3⟩
theorem db.append {g:Gh}:∀{a b:List Val}{us vs:List Value},db g a us→db g b vs→db g (a++b) (us++vs)
 |[],_,_,_,h,k=>by have h:_=_:=h;subst h;exact k
 |_::_,_,_,_,⟨u,r,e,hu,hr⟩,k=>by subst e;exact⟨u,_,rfl,hu,hr.append k⟩
theorem o7.eq {g:Gh}:∀{gp:List (Nat×Nat)}{us vs:List Value},o7 g gp us→o7 g gp vs→us=vs
 |[],_,_,h,k=>by have h:_=_:=h;have k:_=_:=k;rw[h,k]
 |_::_,_,_,⟨b,o,v,e,_,h2,h3⟩,⟨b',o',v',e',_,OT,O4⟩=>by
  rw[h2]at OT;rw[e,e',OT,o7.eq h3 O4]
theorem o7.last {g:Gh}:∀{gp:List (Nat×Nat)}{us:List Value}{p:Nat×Nat},o7 g gp us→gp.getLast?=some p→us.getLast?=some (g.cv p.1 p.2)
 |[],_,_,_,h=>by cases h
 |[q],_,p,⟨b,o,v,e,h1,h2,h3⟩,h=>by
  have h3:v=[]:=h3;have h:some q=some p:=h
  injection h with h
  subst h;subst h3;subst e;rw[h2];rfl
 |q::q'::r,_,p,⟨b,o,v,e,h1,h2,h3⟩,h=>by
  have ih:=o7.last h3 (p:=p) (by simpa using h);obtain⟨b',o',v',e',_⟩:=h3;subst e;subst e';simpa using ih
theorem mh:∀{ts:List Nat}{cs:List (Nat×Nat)}{s s':St},(tC ts).run s=some (cs,s')→s'=s∧∀g a,fi g s.env a→o7 g cs (ts.map fun t=>a.tmps.getD t undef)
 |[],cs,s,s',h=>by
  obtain⟨rfl,rfl⟩:=aq h;exact⟨rfl,fun g a V=>rfl⟩
 |t::ts,cs,s,s',h=>by
  simp only[tC,AM.run]at h;split at h
  ·rename_i x hx;split at h
   ·rename_i id gen;obtain⟨c2,t2,h1,h2⟩:=AM.ai h;obtain⟨rfl,rfl⟩:=aq h2;obtain⟨rfl,k⟩:=mh h1;refine⟨rfl,fun g a V=> ?_⟩;have hc:aV g (.ptr id gen 0) (a.tmps.getD t undef):=V t _ hx;obtain⟨h1,b,o,h2,h3⟩:=hc;exact⟨b,o,_,by rw[List.map_cons,h3];rfl,h1,h2,k g a V⟩
   ·cases h
  ·cases h
theorem Hh {w:World}{b:Nat}{o:Go.Obj}(h:w.heap[b]?=some o):b<w.heap.size:=(Array.getElem?_eq_some_iff.1 h).1
theorem db.length {g:Gh}:∀{vs:List Val}{us:List Value},db g vs us→vs.length=us.length
 |[],_,h=>by have h:_=_:=h;rw[h];rfl
 |_::_,_,⟨_,_,e,_,hr⟩=>by rw[e,V0,V0,db.length hr]
theorem qL {E:Env}{ts:List Nat}(h:kept E ts=true):ts≠[]∧∀t∈ts,t∈E.jF:=by
 have h:(!ts.isEmpty&&ts.all fun t=>E.jF.any (Nat.beq t))=true:=h;rw[V6]at h;refine⟨fun e=>by subst e;exact absurd h.1 (by decide),fun t ht=> ?_⟩;obtain⟨u,hu,he⟩:=List.any_eq_true.1 (List.all_eq_true.1 h.2 t ht);rw[beq_eq he];exact hu
theorem Ey {E:Env}{B:Base}{g:Gh}{env:List (Nat×Slot)}{a:Act}(V:ActRel E B g env a){ts:List Nat}(h:kept E ts=true):(ts.map fun t=>a.tmps.getD t undef)=ts.map B.arg:=
 List.map_congr_left fun t ht=>V.kept t ((qL h).2 t ht)
theorem pJ:∀{a b:List (Nat×Nat)},qM a b=true→a=b
 |[],[],_=>rfl
 |x::a,y::b,h=>by
  simp only[qM,V6]at h;rw[pJ h.2]
  congr 1
  exact Prod.ext (beq_eq h.1.1) (beq_eq h.1.2)
 |[],_::_,h=>by cases h
 |_::_,[],h=>by cases h
theorem HU {E:Env}{f:FuncId}{gp:List (Nat×Nat)}(t t':St)(h:(AN E f gp).run t=some ((),t')):t'=t:=by
 unfold AN at h;split at h
 ·obtain⟨_,h⟩:=aX h;obtain⟨cs,t2,h1,h2⟩:=AM.ai h;obtain⟨rfl,_⟩:=mh h1;obtain⟨_,h2⟩:=aX h2;exact(aq h2).2
 ·unfold Ke at h;split at h
  ·simp only[AM.run]at h;split at h
   ·obtain⟨_,h⟩:=aX h;exact(aq h).2
   ·cases h
  ·cases h
theorem Nl {E:Env}{f:FuncId}{gp:List (Nat×Nat)}{t:St}(h:(AN E f gp).run t=some ((),t)){B:Base}{g g1:Gh}{env:List (Nat×Slot)}{a:Act}{w:World}(V:ActRel E B g env a)(he:t.env=env)(l:Le g g1)(R1:HRel B g1 t.hp w){nb:List Nat}(hO:cF g1 nb)
  {as:List VSp} {args vs:List Value} (hs:wC as=some (f,args.length)) (hc:o7 g gp vs):x6 as g1.ax w nb (args++vs):=by
 intro f' m hm;rw[hs]at hm
 injection hm with hm;injection hm with Vv VN
 subst Vv;subst VN;rw[List.drop_left];have wS:=hc.mono l
 have MU:∀{x:Value},vs.getLast?=some x→(args++vs).getLast?=some x:=fun{x} hx=>by
  rw[List.getLast?_append,hx];rfl
 unfold AN at h;split at h
 ·rename_i f' ts hE;obtain⟨hb,h0⟩:=aX h;simp only[V6]at hb;obtain rfl:=beq_eq hb.1;obtain⟨cs,t2,h1,h2⟩:=AM.ai h0;obtain⟨e2,k⟩:=mh h1;subst e2;obtain⟨h3,_⟩:=aX h2;obtain rfl:=pJ h3;subst he;have k2:=k g a V.env;rw[Ey V hb.2]at k2;have hv:vs=ts.map B.arg:=hc.eq k2;obtain⟨b,ty,q1,q2,q3,q4⟩:=V.slf _ ts hE (qL hb.2).1;obtain⟨f1,f2,f3⟩:=R1.frame b (Hh q2) q3 q4;refine⟨b,ty, ?_,by rw[f3,q2,hv],fun hb=> ?_,f2⟩
  ·apply MU
   rw[hv,←q1,List.getLast?_map];have nL:=(qL hb.2).1;rw[List.getLast?_eq_some_getLast nL,List.getLastD_eq_getLast?,List.getLast?_eq_some_getLast nL];rfl
  ·have:=hO.2 b hb;rw[f1]at this;cases this
 ·unfold Ke at h;split at h
  ·rename_i p hp;simp only[AM.run]at h;split at h
   ·rename_i g0 bt f2 cs heq;obtain⟨hb,_⟩:=aX h;simp only[V6]at hb;obtain rfl:=beq_eq hb.1.1;obtain rfl:=beq_eq hb.1.2;obtain rfl:=pJ hb.2;obtain⟨b,o,arr,ty,L,k1,k2,k3,k4,k5,k6,k7,k8,k9⟩:=R1.eC _ _ heq;subst k7;obtain⟨u,r,e,hu,hr⟩:=k4;have hr:r=[]:=hr;subst hr;subst e;obtain⟨Ri,e,hv⟩:=hu;have Uv:vs=Ri:=wS.eq hv;subst Uv;subst e;have hlen:(g1.outer p.1).length=1:=k8
    have wK:arr=#[.func (.func f2) #[] vs.toArray]:=by
     apply Array.ext'
     rw[k5,List.take_zero,List.nil_append,List.drop_eq_nil_of_le (by simp[hlen]),Wv]
    refine⟨b,ty,MU (by rw[o7.last wS hp];exact congrArg some k1),by rw[k3,wK],fun hb=> ?_, ?_⟩
    ·have:=hO.2 b hb;rw[k2.1]at this;injection this with this;cases this
    ·cases hi:g1.ax b with
     |none=>rfl
     |some L=>have:=(R1.ax b L hi).1;rw[k2.1]at this;cases this
   ·cases h
  ·cases h
theorem CT {E:Env}(hE:EnvOk E){c:Call}{f:Operand}(hc:c.callee= .value f){d:Nat}{s s':St}{sl:Slot}(h:(cN E d (.call c)).run s=some (sl,s')):N1 E (.call c) s sl s':=by
 unfold cN at h;simp only[hc]at h;obtain⟨vs,t1,h1,h2⟩:=AM.ai h;obtain⟨v,t2,h3,h4⟩:=AM.ai h2;obtain⟨cl,t3,h5,h6⟩:=AM.ai h4;obtain⟨rfl,r1⟩:=jO h1;obtain⟨rfl,r2⟩:=bE h3;obtain⟨rfl,rfl⟩:=qF h5;unfold JW at h6;split at h6
 ·rename_i Rw gp
  cases Fu:E.callee Rw with
  |none=>rw[Fu]at h6;cases h6
  |some TY=>
   rw[Fu]at h6;simp only at h6
   have key:s'.env=t3.env∧∀B g a w,fj E.cd g.ax→HRel B g t3.hp w→ActRel E B g t3.env a→∀us,o7 g gp us→eS E.P Rw ((c.args.toList.map a.eval)++us).toArray w fun v w'=>∃g',Le g g'∧HRel B g' s'.hp w'∧bV g' sl v:=by
    split at h6
    ·rename_i Ue;obtain⟨e1,hs⟩:=FQ ((hE.calls Rw TY Fu).plain Ue) Ue h6;exact⟨e1,fun B g a w hG R V us Cw=>hs B g w hG R _ ((r1 V.env).append (sO Cw))⟩
    ·rename_i sf Ss;obtain⟨hb,h6⟩:=aX h6;simp only[V6]at hb;obtain rfl:=beq_eq hb.1;obtain⟨e1,t1,e2,OO,hs⟩:=xL (HU) (hE.calls _ TY Fu) h6;refine⟨e1,fun B g a w hG R V us Cw=>hs B g w hG R _ ((r1 V.env).append (sO Cw)) fun g1 nb l R1 hO=> ?_⟩
     have hlen:sf.2=(c.args.toList.map a.eval).length:=by
      rw[beq_eq hb.2];exact(db.length (r1 V.env))
     exact Nl OO V e2 l R1 hO (by rw[Ss,←hlen]) Cw
   obtain⟨e1,hs⟩:=key;refine⟨e1,fun o ho B g a w hG R V next Q hn=> ?_⟩;obtain⟨us,eu,Cw⟩:=r2 V.env;have hI:=hs B g a w hG R V us Cw;unfold Oper.wp
   have Qo:(execOp a.eval o).run E.P w=(callFunc Rw ((c.args.toList.map a.eval)++us).toArray).run E.P w:=by
    unfold execOp;rw[ho]
    have ea:(List.map a.eval c.args.toList++us).toArray=c.args.map a.eval++us.toArray:=by
     apply Array.ext'
     simp
    rw[ea];simp only[resolve,hc];rw[show a.eval f=_ from eu];simp[Deferred.ofValue,invoke]
   rw[Qo];unfold eS at hI;split at hI
   ·rename_i f' a' w1 wP;rw[wP]
    refine Calls.mono hI fun e w' ⟨v,ee,hv⟩=> ?_
    subst ee;obtain⟨g',l,R',xy⟩:=hv;exact hn v w' g' l R' xy
   ·rename_i v w1 wP;rw[wP];obtain⟨g',l,R',xy⟩:=hI;exact hn v w1 g' l R' xy
   ·exact hI.elim
 ·cases h6
theorem vW {E:Env}(hE:EnvOk E){op:Op}{d:Nat}{s s':St}{sl:Slot}(h:(cN E d op).run s=some (sl,s')):N1 E op s sl s':=by
 cases op with
 |move x=>exact(Ac h).1.ok
 |assign x=>exact(Ac h).2.ok
 |pick c a b=>exact(Fx h).ok
 |alloc t=>exact(Ej h).ok
 |box t x=>exact(HS h).ok
 |build t ps=>exact(D4 h).ok
 |buildSlice t n ps=>exact(wX h).ok
 |load t x=>
  have h:(match Dg E t x with
   |some p=>(tC p.2).bind fun cs=>AM.ret (Slot.val (Val.one (Cell.fn p.1 cs)))
   |none=>F9 E d t x).run s=some (sl,s'):=h
  split at h
  ·rename_i p hp;obtain⟨cs,t2,h1,h2⟩:=AM.ai h;obtain⟨e1,k⟩:=mh h1;obtain⟨rfl,rfl⟩:=aq h2;subst e1;refine⟨rfl,fun o ho B g a w hG R V next Q hn=> ?_⟩;unfold Dg at hp;split at hp
   ·rename_i f ts k' hE
    cases hc:(Nat.beq k' (ts.getLastD 0)&&kept E ts&&Jz (E.isAgg t))with
    |false=>rw[hc]at hp;cases hp
    |true=>
     rw[hc]at hp
     injection hp with hp
     subst hp;simp only[V6]at hc;obtain rfl:=beq_eq hc.1.1
     have Hy:E.isAgg t=some false:=by
      have:=hc.2
      revert this
      cases E.isAgg t with
      |none=>exact fun h=>by cases h
      |some b=>cases b<;>intro h<;>first|rfl|cases h
     obtain⟨b,ty,q1,q2,q3,q4⟩:=V.slf _ ts hE (qL hc.1.2).1;obtain⟨f1,f2,f3⟩:=R.frame b (Hh q2) q3 q4;have nL:=(qL hc.1.2).1
     have L6:ts.getLastD 0∈ts:=by rw[List.getLastD_eq_getLast?,List.getLast?_eq_some_getLast nL];exact List.getLast_mem nL
     have ha:a.tmps.getD (ts.getLastD 0) undef= .pointer (some ⟨b,0,none⟩):=(V.kept _ ((qL hc.1.2).2 _ L6)).trans q1;have k2:=k g a V.env;rw[Ey V hc.1.2]at k2
     have ir:w.cell? ⟨b,0,none⟩=some (.func (.func f) #[] (ts.map B.arg).toArray):=by
      have hw:=f3.trans q2;simp[World.cell?,hw]
     have wP:(execOp a.eval o).run E.P w= .ok (.value (.func (.func f) #[] (ts.map B.arg).toArray)) w:=by
      unfold execOp;rw[ho]
      apply cc
      show(Instr.loadAt t (a.tmps.getD (ts.getLastD 0) undef)).run E.P w=_;rw[ha];simp only[Instr.loadAt,Instr.sureAddr,loadVar,Sem.run_bind,Sem.run_pure,Result.andThen_ok,tu Hy,Sem.run_ite];simp[ir]
     unfold Oper.wp;rw[wP];exact hn _ w g (Le.refl g) R ⟨_,rfl,k2⟩
   ·cases hp
  obtain⟨e,hs⟩:=FC h;refine⟨e,fun o ho B g a w hG R V next Q hn=> ?_⟩;obtain⟨v,w',g',e',l,R',xy⟩:=hs o ho B g a w hG.one R V.env;unfold Oper.wp;rw[e'];exact hn v w' g' l R' xy
 |store t x y=>
  obtain⟨e,rfl,hs⟩:=DW h;refine⟨e,fun o ho B g a w hG R V next Q hn=> ?_⟩;obtain⟨w',g',e',l,R'⟩:=hs o ho B g a w R V.env;unfold Oper.wp;rw[e'];exact hn undef w' g' l R' trivial
 |nilCheck x=>exact(zh h).ok
 |binOp op t x y ty=>exact(H5 h).ok
 |unOp op t x=>
  cases op with
  |not=>exact(HO h).ok
  |neg=>exact(HT h).ok
  |_=>cases h
 |convert a b x=>exact(Br h).ok
 |makeMap t r=>exact(BE h).ok
 |insert t m k x=>
  obtain⟨e,rfl,hs⟩:=CG h;refine⟨e,fun o ho B g a w hG R V next Q hn=> ?_⟩;obtain⟨w',g',e',l,R'⟩:=hs o ho B g a w R V.env;unfold Oper.wp;rw[e'];exact hn undef w' g' l R' trivial
 |lookup t m k ok=>
  cases ok with
  |false=>exact(CF h).ok
  |true=>cases h
 |makeInterface t x=>exact(tH h).ok
 |makeFunc f a b=>exact(zb h).ok
 |makeSlice t l c=>exact(ya h).ok
 |slice t x lo hi mx=>
  cases mx with
  |none=>exact(Ef h).ok
  |some m=>cases h
 |fieldAddr t x i=>exact(yr h).ok
 |field t x i=>exact(Eg h).ok
 |indexAddr t x i=>exact(yb h).ok
 |index t x i=>exact(Em h).ok
 |extract t i=>exact(BB h).ok
 |call c=>
  cases hc:c.callee with
  |value f=>exact CT hE hc h
  |builtin b=>
   cases b with
   |len=>exact(HV hc h).ok
   |max=>exact(H2 hc h).ok
   |append=>exact(CD hc h).ok
   |_=>unfold cN at h;simp only[hc]at h;cases h
  |invoke r m=>unfold cN at h;simp only[hc]at h;cases h
 |_=>cases h
theorem IP (a:Act){d t:Nat}(v:Value)(e:d≠t):(a.put (some d) v).tmps.getD t undef=a.tmps.getD t undef:=by
 simp[Act.put,Array.getD_eq_getD_getElem?,Array.getElem?_setIfInBounds_ne e]
theorem G2 {E:Env}{d:Nat}(h:(!E.jF.any (Nat.beq d))=true):∀t∈E.jF,d≠t:=by
 intro t ht e;subst e;have:E.jF.any (Nat.beq d)=true:=List.any_eq_true.2 ⟨d,ht,Nat.beq_refl d⟩;rw[this]at h;cases h
theorem GF {E:Env}{B:Base}{g:Gh}{env:List (Nat×Slot)}{a:Act}(H:ActRel E B g env a){d:Nat}{sl:Slot}{v:Value}(hd:d<E.nt)(hk:∀t∈E.jF,d≠t)(hs:bV g sl v):ActRel E B g ((d,sl)::env) (a.put (some d) v):=by
 refine⟨fun t s ht=> ?_,by simpa[Act.put]using H.size,H.defers,fun t ht=>by rw[IP a v (hk t ht)];exact H.kept t ht,H.slf⟩
 by_cases e:d=t
 ·subst e;rw[aF]at ht
  injection ht with ht
  subst ht
  have:(a.put (some d) v).tmps.getD d undef=v:=by
   have fP:d<a.tmps.size:=by rw[H.size];exact hd
   simp[Act.put,Array.getD,fP]
  rw[this];exact hs
 ·rw[aC _ _ e]at ht
  have:(a.put (some d) v).tmps.getD t undef=a.tmps.getD t undef:=by
   simp[Act.put,Array.getD_eq_getD_getElem?,Array.getElem?_setIfInBounds_ne e]
  rw[this];exact H.env t s ht
theorem ActRel.DK {E:Env}{B:Base}{g:Gh}{env P8:List (Nat×Slot)}{a:Act}(H:ActRel E B g env a)(e:P8=env):ActRel E B g P8 a:=by subst e;exact H
def NC (E:Env)(o:Oper)(s s':St):Prop:=
 ∀B g a w,fj E.cd g.ax→HRel B g s.hp w→ActRel E B g s.env a→∀(next:Act→World→Prop) (Q:Exit→Act→World→Prop),
  (∀a' w' g',Le g g'→HRel B g' s'.hp w'→ActRel E B g' s'.env a'→next a' w')→o.wp E.P a w next Q
theorem zT {E:Env}(hE:EnvOk E){n:Nat}{o:Oper}{s s':St}(h:(step E n o).run s=some ((),s')):NC E o s s':=by
 intro B g a w hG R V next Q hn;unfold step at h;split at h
 ·rename_i d hd;obtain⟨hb,h1⟩:=aX h;obtain⟨sl,t,h2,h3⟩:=AM.ai h1;simp only[AM.run,WI,WU]at h3;obtain⟨_,rfl⟩:=h3;obtain⟨e,hs⟩:=vW hE h2
  refine hs o rfl B g a w hG R V next Q fun v w' g' l R' xy=>hn _ w' g' l R' ?_
  rw[hd];simp only[V6]at hb;refine GF ?_ (Wr hb.1) (G2 hb.2) xy;exact(V.mono l).DK e
 ·rename_i hd;obtain⟨sl,t,h2,h3⟩:=AM.ai h;obtain⟨_,rfl⟩:=aq h3;obtain⟨e,hs⟩:=vW hE h2
  refine hs o rfl B g a w hG R V next Q fun v w' g' l R' xy=>hn _ w' g' l R' ?_
  rw[hd];exact(V.mono l).DK e
end Go.Abs
end

section
namespace Go.Abs
def St.Eqv (s t:St):Prop:=(∀i,look s.env i=look t.env i)∧∀i,look s.hp i=look t.hp i
theorem St.Eqv.refl (s:St):St.Eqv s s:=⟨fun _=>rfl,fun _=>rfl⟩
theorem St.Eqv.symm {s t:St}(h:St.Eqv s t):St.Eqv t s:=⟨fun i=>(h.1 i).symm,fun i=>(h.2 i).symm⟩
theorem St.Eqv.trans {s t u:St}(h:St.Eqv s t)(k:St.Eqv t u):St.Eqv s u:=⟨fun i=>(h.1 i).trans (k.1 i),fun i=>(h.2 i).trans (k.2 i)⟩
theorem ActRel.congr {E:Env}{B:Base}{g:Gh}{e e':List (Nat×Slot)}{a:Act}(h:∀i,look e' i=look e i)(H:ActRel E B g e a):ActRel E B g e' a:=⟨fun t s hs=>H.env t s (by rw[←h t];exact hs),H.size,H.defers,H.kept,H.slf⟩
theorem GW {E:Env}{o:Oper}{s s':St}(h:(skip E o).run s=some ((),s')):s'.hp=s.hp∧∀B g a,ActRel E B g s.env a→ActRel E B g s'.env (a.put o.dst undef):=by
 unfold skip at h;split at h
 ·rename_i d OI;obtain⟨hb,h1⟩:=aX h;simp only[AM.run,WI,WU]at h1;obtain⟨_,rfl⟩:=h1;simp only[V6]at hb;exact⟨rfl,fun B g a V=>by rw[OI];exact GF V (Wr hb.1) (G2 hb.2) rfl⟩
 ·rename_i OI;obtain⟨_,rfl⟩:=aq h;exact⟨rfl,fun B g a V=>by rw[OI];exact V⟩
theorem EH:∀(ops:List Oper)(j:Nat),E4 ops j=ops[j]?
 |[],_=>by simp[E4]
 |_::_,0=>rfl
 |_::r,j+1=>by simp[E4,EH r j]
theorem Cs (ops:List Oper)(j:Nat):rE ops j=(ops.toArray[j]?).bind (·.dst):=by simp[rE,EH]
theorem xD {E:Env}(hE:EnvOk E){ops:List Oper}{n i:Nat}{o:Oper}{s s':St}(ho:ops[i]?=some o)(h:(stepG E ops n o).run s=some ((),s')){B:Base}{g:Gh}{a:Act}{w:World}(hG:fj E.cd g.ax)(R:HRel B g s.hp w)(V:ActRel E B g s.env a)
  {K:Act→World→Prop} {Q:Exit→Act→World→Prop} (hK:∀a' w' g',Le g g'→HRel B g' s'.hp w'→ActRel E B g' s'.env a'→K a' w'):wpOp E.P ops.toArray Q i K a w:=by
 unfold wpOp;have Ox:ops.toArray[i]?=some o:=(by simpa using ho);rw[Ox];simp only;unfold stepG at h;split at h
 ·rename_i hg;have hw:Region.wanted o (yielded ops.toArray a.tmps)=true:=(by simp[Region.wanted,hg]);rw[WK hw];exact .inl (zT hE h B g a w hG R V K Q hK)
 ·rename_i j want hg;obtain⟨d,t,h1,h2⟩:=AM.ai h;obtain⟨hd,rfl⟩:=bw h1;simp only[AM.run]at h2;split at h2
  ·rename_i sl xy;split at h2
   ·rename_i gv;have hv:a.tmps.getD d undef= .bool gv:=jB (V.env d _ xy)
    have hy:yielded ops.toArray a.tmps j=some gv:=by
     unfold yielded;rw[←Cs,hd]
     have:a.tmps[d]?=some (.bool gv):=by
      rw[Array.getD_eq_getD_getElem?]at hv
      cases hx:a.tmps[d]? with
      |none=>rw[hx]at hv;simp[undef]at hv
      |some u=>rw[hx]at hv;simpa using hv
     simp[this]
    rcases F8 h2 with⟨hb,h3⟩|⟨hb,h3⟩
    ·have hw:Region.wanted o (yielded ops.toArray a.tmps)=true:=by
      simp only[Region.wanted,hg,hy];simpa using hb
     rw[WK hw];exact .inl (zT hE h3 B g a w hG R V K Q hK)
    ·have hw:Region.wanted o (yielded ops.toArray a.tmps)≠true:=by
      simp only[Region.wanted,hg,hy];simpa using hb
     rw[Wz hw];obtain⟨e,k⟩:=GW h3;exact hK _ _ g (Le.refl g) (by rw[e];exact R) (k B g a V)
   ·have hv:a.tmps.getD d undef=undef:=V.env d _ xy
    have hy:yielded ops.toArray a.tmps j=none:=by
     unfold yielded;rw[←Cs,hd];rw[Array.getD_eq_getD_getElem?]at hv
     cases hx:a.tmps[d]? with
     |none=>simp[hx]
     |some u=>rw[hx]at hv;simp only[Option.getD_some]at hv;subst hv;simp[hx,undef]
    have hw:Region.wanted o (yielded ops.toArray a.tmps)≠true:=by
     simp[Region.wanted,hg,hy]
    rw[Wz hw];obtain⟨e,k⟩:=GW h2;exact hK _ _ g (Le.refl g) (by rw[e];exact R) (k B g a V)
   ·cases h2
  ·cases h2
theorem zO {E:Env}{ops:List Oper}{n j d:Nat}{o:Oper}{want gv:Bool}{s:St}(hg:o.guard=some (j,want))(hd:rE ops j=some d)(hs:look s.env d=some (.val (.one (.v .bool gv)))):
  (stepG E ops n o).run s=(bif gv==want then step E (alt n) o else skip E o).run s:=by
 unfold stepG;rw[hg];simp only[hd,fk,AM.run_bind,AM.run,VX,hs];cases gv==want<;>rfl
theorem IW {E:Env}{ops:List Oper}{n j d:Nat}{o:Oper}{want:Bool}{s:St}(hg:o.guard=some (j,want))(hd:rE ops j=some d)(hs:look s.env d=some .sk):
  (stepG E ops n o).run s=(skip E o).run s:=by
 unfold stepG;rw[hg];simp only[hd,fk,AM.run_bind,AM.run,VX,hs]
theorem AF {ρ:Type}{b:Bool}{t e:Option ρ}{r:ρ}(h:brk b t e=some r):(b=true∧t=some r)∨(b=false∧e=some r):=by
 rw[dF]at h;cases b
 ·exact .inr ⟨rfl,h⟩
 ·exact .inl ⟨rfl,h⟩
theorem jR {α ρ:Type}{m:AM α}{s:St}{K:α→St→Option ρ}{r:ρ}(h:m.exec s K=some r):∃a t,m.run s=some (a,t)∧K a t=some r:=by
 rw[AM.Ju]at h
 cases hm:m.run s with
 |none=>rw[hm]at h;cases h
 |some p=>rw[hm]at h;exact⟨p.1,p.2,rfl,h⟩
theorem yM {s:St}{d:Nat}{x:Slot}(h:look s.env d=some x):St.Eqv {s with env:=(d,x)::s.env} s:=by
 refine⟨fun i=> ?_,fun _=>rfl⟩
 by_cases e:d=i
 ·subst e;show look ((d,x)::s.env) d=_;rw[aF,h]
 ·exact aC _ _ e
theorem CP {ρ:Type}{E:Env}{ops:List Oper}{o:Oper}{r:List Oper}{n:Nat}{s:St}{K:St→Option ρ}{x:ρ}(h:mn E ops (o::r) n s K=some x):
  ∃s0 t,St.Eqv s0 s∧(stepG E ops n o).run s0=some ((),t)∧mn E ops r (n+1) t K=some x:=by
 unfold mn at h;split at h
 ·rename_i hg;obtain⟨⟨⟩,t,h1,h2⟩:=jR h;exact⟨s,t,St.Eqv.refl s,by unfold stepG;rw[hg];exact h1,h2⟩
 ·rename_i j want hg;split at h
  ·rename_i d hd;split at h
   ·rename_i gv hs
    rcases AF h with⟨rfl,h'⟩|⟨rfl,h'⟩
    ·obtain⟨⟨⟩,t,h1,h2⟩:=jR h';refine⟨_,t,yM hs, ?_,h2⟩;rw[zO hg hd (aF _ _ _)];cases want<;>exact h1
    ·obtain⟨⟨⟩,t,h1,h2⟩:=jR h';refine⟨_,t,yM hs, ?_,h2⟩;rw[zO hg hd (aF _ _ _)];cases want<;>exact h1
   ·rename_i hs;obtain⟨⟨⟩,t,h1,h2⟩:=jR h;exact⟨s,t,St.Eqv.refl s,by rw[IW hg hd hs];exact h1,h2⟩
   ·cases h
  ·cases h
def KOk {ρ:Type}(E:Env)(B:Base)(K:St→Option ρ)(x:ρ)(Q:Act→World→Prop):Prop:=
 ∀s g a w,K s=some x→fj E.cd g.ax→HRel B g s.hp w→ActRel E B g s.env a→Q a w
theorem tW {ρ:Type}{E:Env}(hE:EnvOk E){B:Base}{ops:List Oper}{K:St→Option ρ}{x:ρ}{Q:Exit→Act→World→Prop}(hK:KOk E B K x (Q .normal)):
  ∀(r:List Oper) (n:Nat) (s:St),ops.drop n=r→mn E ops r n s K=some x→∀g a w,fj E.cd g.ax→HRel B g s.hp w→ActRel E B g s.env a→wpOps E.P ops.toArray Q (List.range' n r.length) a w
 |[],n,s,hr,h,g,a,w,hG,R,V=>hK s g a w h hG R V
 |o::r,n,s,hr,h,g,a,w,hG,R,V=>by
  obtain⟨s0,t,e,h1,h2⟩:=CP h;rw[V0,List.range'_succ,wpOps_cons]
  have ho:ops[n]?=some o:=by
   have:=congrArg (·[0]?) hr;simpa[List.getElem?_drop]using this
  have Il:ops.drop (n+1)=r:=by
   rw[←List.drop_drop,hr];rfl
  exact xD hE ho h1 hG (R.congr e.2) (V.congr e.1) fun a' w' g' l R' V'=>tW hE hK r (n+1) t Il h2 g' a' w' (hG.mono l.ax) R' V'
end Go.Abs
end

section
namespace Go.Abs
def AM.gU {α:Type}:AM α→St→List Nat→List Nat→Option (α×St×List Nat×List Nat)
 | .ret a,s,r,w=>some (a,s,r,w)
 | .br b t e,s,r,w=>bif b then t.gU s r w else e.gU s r w
 | .fail,_,_,_=>none
 | .rJ t k,s,r,w=>match look s.env t with
  |some x=>(k x).gU s ((2*t)::r) w
  |none=>none
 | .wM t x k,s,r,w=>k.gU {s with env:=(t,x)::s.env} r ((2*t)::w)
 | .jg i k,s,r,w=>(k (look s.hp i)).gU s ((2*i+1)::r) w
 | .jG i o k,s,r,w=>k.gU {s with hp:=(i,o)::s.hp} r ((2*i+1)::w)
 | .opt _ x k,s,r,w=>match x with
  |some d=>(k d).gU s r w
  |none=>none
theorem AM.FG {α ρ:Type}(m:AM α):∀(s:St)(r w:List Nat)(K:α→St→List Nat→List Nat→Option ρ),m.lJ s r w K=(m.gU s r w).bind fun p=>K p.1 p.2.1 p.2.2.1 p.2.2.2:=by
 induction m with
 |ret a=>intro s r w K;rfl
 |br b t e KF KR=>intro s r w K;cases b<;>simp[lJ,gU,KF,KR,dF]
 |fail=>intro s r w K;rfl
 |rJ t k ih=>intro s r w K;simp only[lJ,gU];cases look s.env t<;>simp[ih]
 |wM t x k ih=>intro s r w K;simp[lJ,gU,ih]
 |jg i k ih=>intro s r w K;simp[lJ,gU,ih]
 |jG i o k ih=>intro s r w K;simp[lJ,gU,ih]
 |opt c x k ih=>intro s r w K;cases x<;>simp[lJ,gU,ih]
theorem AM.Jt {α:Type}(m:AM α):∀{s s':St}{r w r' w':List Nat}{a:α},m.gU s r w=some (a,s',r',w')→m.run s=some (a,s'):=by
 induction m with
 |ret a=>intro s s' r w r' w' x h;simp only[gU,WI,WU]at h;simp[run,h.1,h.2.1]
 |br b t e KF KR=>intro s s' r w r' w' x h;cases b<;>simp only[gU,run,Wg,Wb]at h⊢<;>first|exact KF h|exact KR h
 |fail=>intro s s' r w r' w' x h;cases h
 |rJ t k ih=>
  intro s s' r w r' w' x h;simp only[gU,run]at h⊢
  cases hl:look s.env t with
  |none=>rw[hl]at h;cases h
  |some y=>rw[hl]at h;exact ih _ h
 |wM t x k ih=>intro s s' r w r' w' x h;exact ih h
 |jg i k ih=>intro s s' r w r' w' x h;exact ih _ h
 |jG i o k ih=>intro s s' r w r' w' x h;exact ih h
 |opt c x k ih=>
  intro s s' r w r' w' y h
  cases x with
  |none=>cases h
  |some d=>exact ih d h
def St.get (s:St)(p:Nat):Option Slot⊕Option Obj:=if p % 2=0 then .inl (look s.env (p/2))else .inr (look s.hp (p/2))
theorem wg (s:St)(t:Nat):s.get (2*t)= .inl (look s.env t):=by unfold St.get;rw[WK (by omega),show 2*t/2=t by omega]
theorem yL (s:St)(i:Nat):s.get (2*i+1)= .inr (look s.hp i):=by unfold St.get;rw[Wz (by omega),show(2*i+1)/2=i by omega]
theorem mH (s:St)(t:Nat)(x:Slot)(p:Nat):St.get {s with env:=(t,x)::s.env} p=if p=2*t then .inl (some x)else s.get p:=by
 unfold St.get
 by_cases hp:p % 2=0
 ·simp only[hp,if_true]
  by_cases e:p=2*t
  ·subst e;rw[WK rfl,show 2*t/2=t by omega,aF]
  ·rw[Wz e,aC _ _ (by omega)]
 ·simp only[hp,WY];rw[Wz (by omega)]
theorem mJ (s:St)(i:Nat)(o:Obj)(p:Nat):St.get {s with hp:=(i,o)::s.hp} p=if p=2*i+1 then .inr (some o)else s.get p:=by
 unfold St.get
 by_cases hp:p % 2=0
 ·simp only[hp,if_true];rw[Wz (by omega)]
 ·simp only[hp,WY]
  by_cases e:p=2*i+1
  ·subst e;rw[WK rfl,show(2*i+1)/2=i by omega,aF]
  ·rw[Wz e,aC _ _ (by omega)]
theorem Da {s t:St}:St.Eqv s t↔∀p,s.get p=t.get p:=by
 constructor
 ·intro h p;unfold St.get;rw[h.1,h.2]
 ·intro h;refine⟨fun i=> ?_,fun i=> ?_⟩
  ·have:=h (2*i);rw[wg,wg]at this;injection this
  ·have:=h (2*i+1);rw[yL,yL]at this;injection this
theorem AM.zK {α:Type}(m:AM α):∀{s s':St}{r0 w0 r w:List Nat}{a:α},m.gU s r0 w0=some (a,s',r,w)→
  (∀p∈r0,p∈r)∧(∀p∈w0,p∈w)∧(∀p,p∉w→s'.get p=s.get p)∧∀t:St,(∀p∈r,t.get p=s.get p)→
   ∃t',m.gU t r0 w0=some (a,t',r,w)∧(∀p,p∉w→t'.get p=t.get p)∧(∀p,t.get p=s.get p→t'.get p=s'.get p)∧∀p∈w,p∉w0→t'.get p=s'.get p:=by
 induction m with
 |ret a=>
  intro s s' r0 w0 r w x h;simp only[gU,WI,WU]at h;obtain⟨rfl,rfl,rfl,rfl⟩:=h;exact⟨fun _ h=>h,fun _ h=>h,fun _ _=>rfl,fun t ht=>⟨t,rfl,fun _ _=>rfl,fun _ h=>h,fun p h1 h2=>absurd h1 h2⟩⟩
 |br b t e KF KR=>
  intro s s' r0 w0 r w x h;cases b
  ·exact KR h
  ·exact KF h
 |fail=>intro s s' r0 w0 r w x h;cases h
 |rJ t k ih=>
  intro s s' r0 w0 r w x h;simp only[gU]at h;split at h
  ·rename_i sl xy;obtain⟨h1,h2,h3,h4⟩:=ih _ h;refine⟨fun p hp=>h1 p (Wj _ hp),h2,h3,fun u hu=> ?_⟩;have hx:=hu (2*t) (h1 _ (Wk ..));rw[wg,wg]at hx
   injection hx with hx
   obtain⟨t',a1,a2⟩:=h4 u hu;refine⟨t', ?_,a2⟩;simp only[gU,hx,xy];exact a1
  ·cases h
 |wM t x k ih=>
  intro s s' r0 w0 r w y h;obtain⟨h1,h2,h3,h4⟩:=ih h;have hm:2*t∈w:=h2 _ (Wk ..);refine⟨h1,fun p hp=>h2 p (Wj _ hp),fun p hp=> ?_,fun u hu=> ?_⟩
  ·rw[h3 p hp,mH,Wz (show p≠2*t from fun e=>hp (by rw[e];exact hm))]
  ·obtain⟨t',a1,a2,a3,a4⟩:=h4 {u with env:=(t,x)::u.env} (fun p hp=>by rw[mH,mH,hu p hp]);refine⟨t',a1,fun p hp=> ?_,fun p hp=>a3 p (by rw[mH,mH,hp]),fun p hp Ip=> ?_⟩
   ·rw[a2 p hp,mH,Wz (show p≠2*t from fun e=>hp (by rw[e];exact hm))]
   ·by_cases e:p=2*t
    ·exact a3 p (by rw[mH,mH,WK e,WK e])
    ·exact a4 p hp (fun hm=>by rcases WE.1 hm with h|h;exact e h;exact Ip h)
 |jg i k ih=>
  intro s s' r0 w0 r w x h;obtain⟨h1,h2,h3,h4⟩:=ih _ h;refine⟨fun p hp=>h1 p (Wj _ hp),h2,h3,fun u hu=> ?_⟩;have hx:=hu (2*i+1) (h1 _ (Wk ..));rw[yL,yL]at hx
  injection hx with hx
  obtain⟨t',a1,a2⟩:=h4 u hu;refine⟨t', ?_,a2⟩;simp only[gU,hx];exact a1
 |jG i o k ih=>
  intro s s' r0 w0 r w y h;obtain⟨h1,h2,h3,h4⟩:=ih h;have hm:2*i+1∈w:=h2 _ (Wk ..);refine⟨h1,fun p hp=>h2 p (Wj _ hp),fun p hp=> ?_,fun u hu=> ?_⟩
  ·rw[h3 p hp,mJ,Wz (show p≠2*i+1 from fun e=>hp (by rw[e];exact hm))]
  ·obtain⟨t',a1,a2,a3,a4⟩:=h4 {u with hp:=(i,o)::u.hp} (fun p hp=>by rw[mJ,mJ,hu p hp]);refine⟨t',a1,fun p hp=> ?_,fun p hp=>a3 p (by rw[mJ,mJ,hp]),fun p hp Ip=> ?_⟩
   ·rw[a2 p hp,mJ,Wz (show p≠2*i+1 from fun e=>hp (by rw[e];exact hm))]
   ·by_cases e:p=2*i+1
    ·exact a3 p (by rw[mJ,mJ,WK e,WK e])
    ·exact a4 p hp (fun hm=>by rcases WE.1 hm with h|h;exact e h;exact Ip h)
 |opt c x k ih=>
  intro s s' r0 w0 r w y h
  cases x with
  |none=>cases h
  |some d=>exact ih d h
theorem rh {α ρ:Type}{m:AM α}{s:St}{r w:List Nat}{K:α→St→List Nat→List Nat→Option ρ}{x:ρ}(h:m.lJ s r w K=some x):∃a t rd wr,m.gU s r w=some (a,t,rd,wr)∧K a t rd wr=some x:=by
 rw[AM.FG]at h
 cases hm:m.gU s r w with
 |none=>rw[hm]at h;cases h
 |some p=>rw[hm]at h;exact⟨p.1,p.2.1,p.2.2.1,p.2.2.2,rfl,h⟩
theorem AM.Ch {α β:Type}(m:AM α)(f:α→AM β):∀s r w,(m.bind f).gU s r w=(m.gU s r w).bind fun p=>(f p.1).gU p.2.1 p.2.2.1 p.2.2.2:=by
 induction m with
 |ret a=>intro s r w;rfl
 |br b t e KF KR=>intro s r w;cases b<;>simp[AM.bind,AM.gU,KF,KR]
 |fail=>intro s r w;rfl
 |rJ t k ih=>intro s r w;simp only[AM.bind,AM.gU];cases look s.env t<;>simp[ih]
 |wM t x k ih=>intro s r w;simp[AM.bind,AM.gU,ih]
 |jg i k ih=>intro s r w;simp[AM.bind,AM.gU,ih]
 |jG i o k ih=>intro s r w;simp[AM.bind,AM.gU,ih]
 |opt c x k ih=>intro s r w;cases x<;>simp[AM.bind,AM.gU,ih]
theorem xH {E:Env}{ops:List Oper}{n j d:Nat}{o:Oper}{want gv:Bool}{s:St}(hg:o.guard=some (j,want))(hd:rE ops j=some d)(hs:look s.env d=some (.val (.one (.v .bool gv)))):
  (stepG E ops n o).gU s [] []=(bif gv==want then step E (alt n) o else skip E o).gU s [2*d] []:=by
 unfold stepG;rw[hg];simp only[hd,fk,AM.Ch,AM.gU,VX,hs];cases gv==want<;>rfl
theorem HZ {E:Env}{ops:List Oper}{n j d:Nat}{o:Oper}{want:Bool}{s:St}(hg:o.guard=some (j,want))(hd:rE ops j=some d)(hs:look s.env d=some .sk):
  (stepG E ops n o).gU s [] []=(skip E o).gU s [2*d] []:=by
 unfold stepG;rw[hg];simp only[hd,fk,AM.Ch,AM.gU,VX,hs]
theorem Bl {ρ:Type}{E:Env}{ops:List Oper}{o:Oper}{r:List Oper}{n:Nat}{s:St}{L:Log}{K:St→Log→Option ρ}{x:ρ}(h:kg E ops (o::r) n s L K=some x):
  ∃s0 t rd wr,St.Eqv s0 s∧(stepG E ops n o).gU s0 [] []=some ((),t,rd,wr)∧kg E ops r (n+1) t ((rd,wr)::L) K=some x:=by
 unfold kg at h;split at h
 ·rename_i hg;obtain⟨⟨⟩,t,rd,wr,h1,h2⟩:=rh h;exact⟨s,t,rd,wr,St.Eqv.refl s,by unfold stepG;rw[hg];exact h1,h2⟩
 ·rename_i j want hg;split at h
  ·rename_i d hd;split at h
   ·rename_i gv hs
    rcases AF h with⟨rfl,h'⟩|⟨rfl,h'⟩
    ·obtain⟨⟨⟩,t,rd,wr,h1,h2⟩:=rh h';refine⟨_,t,rd,wr,yM hs, ?_,h2⟩;rw[xH hg hd (aF _ _ _)];cases want<;>exact h1
    ·obtain⟨⟨⟩,t,rd,wr,h1,h2⟩:=rh h';refine⟨_,t,rd,wr,yM hs, ?_,h2⟩;rw[xH hg hd (aF _ _ _)];cases want<;>exact h1
   ·rename_i hs;obtain⟨⟨⟩,t,rd,wr,h1,h2⟩:=rh h;exact⟨s,t,rd,wr,St.Eqv.refl s,by rw[HZ hg hd hs];exact h1,h2⟩
   ·cases h
  ·cases h
structure Way (E:Env)(ops:List Oper)(n:Nat)(st:Nat→St)(L7:Nat→List Nat×List Nat):Prop where
 step:∀i o,n≤i→ops[i]?=some o→∃pre,St.Eqv pre (st i)∧(stepG E ops i o).gU pre [] []=some ((),st (i+1),(L7 i).1,(L7 i).2)
theorem JC {ρ:Type}{E:Env}{ops:List Oper}{K:St→Log→Option ρ}{x:ρ}:∀(r:List Oper)(n:Nat)(s:St)(L:Log),ops.drop n=r→kg E ops r n s L K=some x→
  ∃st L7,st n=s∧Way E ops n st L7∧K (st (n+r.length)) (((List.range' n r.length).map L7).reverse++L)=some x
 |[],n,s,L,hr,h=>by
  refine⟨fun _=>s,fun _=>([],[]),rfl,⟨fun i o hi ho=> ?_⟩,h⟩;have:ops.length≤n:=List.drop_eq_nil_iff.1 hr;rw[List.getElem?_eq_none (by omega)]at ho;cases ho
 |o::r,n,s,L,hr,h=>by
  obtain⟨s0,t,rd,wr,e,h1,h2⟩:=Bl h
  have ho:ops[n]?=some o:=by
   have:=congrArg (·[0]?) hr;simpa[List.getElem?_drop]using this
  have Il:ops.drop (n+1)=r:=by rw[←List.drop_drop,hr];rfl
  obtain⟨st,L7,k1,k2,k3⟩:=JC r (n+1) t _ Il h2;refine⟨fun i=>if i=n then s else st i,fun i=>if i=n then(rd,wr)else L7 i,by simp,⟨fun i o' hi Ox=> ?_⟩, ?_⟩
  ·by_cases e':i=n
   ·subst e';rw[ho]at Ox
    injection Ox with Ox
    subst Ox;refine⟨s0,by simpa using e, ?_⟩;rw[Wz (by omega),WK rfl,k1];exact h1
   ·obtain⟨pre,a1,a2⟩:=k2.step i o' (by omega) Ox;refine⟨pre,by simpa[e']using a1, ?_⟩;simp only[e',WY];rw[Wz (by omega)];exact a2
  ·rw[V0,List.range'_succ,List.map_cons,List.reverse_cons,V7,WK rfl]
   have em:(List.range' (n+1) r.length).map (fun i=>if i=n then(rd,wr)else L7 i)=(List.range' (n+1) r.length).map L7:=by
    apply List.map_congr_left
    intro i hi;have:=(List.mem_range'_1.1 hi).1;rw[Wz (by omega)]
   rw[em]
   have es:(fun i=>if i=n then s else st i) (n+(r.length+1))=st (n+1+r.length):=by
    show(if n+(r.length+1)=n then s else st (n+(r.length+1)))=_;rw[Wz (by omega),show n+(r.length+1)=n+1+r.length by omega]
   rw[es];exact k3
end Go.Abs
end

section
namespace Go.Abs
theorem Gb (n:Nat):∀l:List Nat,mem n l=true↔n∈l
 |[]=>by simp[mem]
 |m::r=>by
  simp only[mem,WH,Gb n r,WE];constructor
  ·rintro(h|h)
   ·exact .inl (beq_eq h).symm
   ·exact .inr h
  ·rintro(h|h)
   ·exact .inl (by rw[h];exact Nat.beq_refl m)
   ·exact .inr h
theorem uN {a b:List Nat}(h:meet a b=false):∀p∈a,p∉b:=by
 induction a with
 |nil=>intro p hp;simp at hp
 |cons x r ih=>
  simp only[meet,Bool.or_eq_false_iff]at h;intro p hp hb
  rcases WE.1 hp with rfl|hp
  ·have:=(Gb p b).2 hb;rw[this]at h;cases h.1
  ·exact ih h.2 p hp hb
def Hj (x y:List Nat×List Nat):Prop:=(∀p∈x.2,p∉y.2)∧(∀p∈x.2,p∉y.1)∧∀p∈x.1,p∉y.2
theorem sE {x:List Nat×List Nat}{bx:List Nat}:∀{L:Log}{n:Nat},we x bx L n=true→∀k y,L[k]?=some y→(n - 1 - k)∈bx∨Hj x y
 |[],_,_,k,y,hy=>by simp at hy
 |z::r,n,h,k,y,hy=>by
  simp only[we,V6,WH,WV,Bool.or_eq_false_iff]at h
  cases k with
  |zero=>
   have hz:z=y:=(by simpa using hy);subst hz
   rcases h.1 with h1|h1
   ·exact .inl (by simpa using(Gb _ _).1 h1)
   ·exact .inr ⟨uN h1.1.1,uN h1.1.2,uN h1.2⟩
  |succ k=>
   have:=sE h.2 k y (by simpa using hy);rw[show n - 1 - (k+1)=n - 1 - 1 - k by omega];exact this
theorem xV:∀{L:Log}{bs:List (List Nat)}{n:Nat},apart L bs n=true→∀k x,L[k]?=some x→∃bx,bs[k]?=some bx∧∀k' y,k<k'→L[k']?=some y→(n - 1 - k')∈bx∨Hj x y
 |[],_,_,_,k,x,hx=>by simp at hx
 |z::r,[],_,h,_,_,_=>by cases h
 |z::r,bz::bs,n,h,k,x,hx=>by
  simp only[apart,V6]at h
  cases k with
  |zero=>
   have hz:z=x:=(by simpa using hx);subst hz;refine⟨bz,rfl,fun k' y hk hy=> ?_⟩
   cases k' with
   |zero=>omega
   |succ k'=>
    have:=sE h.1 k' y (by simpa using hy);rw[show n - 1 - (k'+1)=n - 1 - 1 - k' by omega];exact this
  |succ k=>
   obtain⟨bx,h1,h2⟩:=xV h.2 k x (by simpa using hx);refine⟨bx,by simpa using h1,fun k' y hk hy=> ?_⟩
   cases k' with
   |zero=>omega
   |succ k'=>
    have:=h2 k' y (by omega) (by simpa using hy);rw[show n - 1 - (k'+1)=n - 1 - 1 - k' by omega];exact this
theorem I9:∀(es acc:List (List Nat)),∀j,acc.length≤j→∀e,es[j - acc.length]?=some e→∃b,(r6 es acc)[j]?=some b∧∀i,i∈b→i∈e∨∃k∈e,k<j∧∃bk,(r6 es acc)[k]?=some bk∧i∈bk:=by
 have pre:∀(es acc:List (List Nat)),∃tl,r6 es acc=acc++tl:=by
  intro es
  induction es with
  |nil=>intro acc;exact⟨[],by simp[r6]⟩
  |cons e es ih=>
   intro acc;obtain⟨tl,h⟩:=ih (acc++[e.flatMap fun i=>i::acc.getD i []]);exact⟨_,by rw[r6,h,V7]⟩
 intro es
 induction es with
 |nil=>intro acc j hj e he;simp at he
 |cons e0 es ih=>
  intro acc j hj e he
  by_cases Hr:j=acc.length
  ·subst Hr;have:e0=e:=(by simpa using he);subst this;obtain⟨tl,h⟩:=pre es (acc++[e0.flatMap fun i=>i::acc.getD i []]);refine⟨e0.flatMap fun i=>i::acc.getD i [],by rw[r6,h];simp,fun i hi=> ?_⟩;obtain⟨k,hk,hi⟩:=List.mem_flatMap.1 hi
   rcases WE.1 hi with rfl|hi
   ·exact .inl hk
   ·right
    rw[Wm]at hi
    cases Rr:acc[k]? with
    |none=>rw[Rr]at hi;simp at hi
    |some bk=>
     have fP:=(List.getElem?_eq_some_iff.1 Rr).1;rw[Rr]at hi;refine⟨k,hk,fP,bk, ?_,by simpa using hi⟩;rw[r6,h,V7,List.getElem?_append_left fP,Rr]
  ·rw[r6]
   exact ih _ j (by simp;omega) e (by
    have:j - acc.length=(j - (acc++[e0.flatMap fun i=>i::acc.getD i []]).length)+1:=by simp;omega
    rw[this]at he
    simpa using he)
theorem uq:∀{es:List (List Nat)}{n:Nat},rr es n=true→∀j e,es[j]?=some e→∀i∈e,i<n+j
 |[],_,_,j,e,he=>by simp at he
 |e0::es,n,h,j,e,he=>by
  simp only[rr,V6,List.all_eq_true]at h
  cases j with
  |zero=>
   have:e0=e:=(by simpa using he);subst this;intro i hi;exact Wr (h.1 i hi)
  |succ j=>
   intro i hi;have:=uq h.2 j e (by simpa using he) i hi;omega
section
variable{E:Env}{ops:List Oper}{st:Nat→St}{lg:Nat→List Nat×List Nat}
def held (st:Nat→St)(lg:Nat→List Nat×List Nat)(D:Nat→Bool)(p:Nat):Nat→Option Slot⊕Option Obj
 |0=>(st 0).get p
 |k+1=>open Classical in if D k=true∧p∈(lg k).2 then(st (k+1)).get p else held st lg D p k
theorem tn {D:Nat→Bool}{p:Nat}{i:Nat}:∀{n:Nat},i≤n→(∀k,i≤k→k<n→D k=true→p∉(lg k).2)→held st lg D p n=held st lg D p i
  | 0, hi, _ => by have:i=0:=by omega
                   subst this;rfl
  |n+1,hi,h=>by
    by_cases e:i=n+1
    · subst e;rfl
    · rw[held,Wz (fun hc=>h n (by omega) (by omega) hc.1 hc.2)]
      exact tn (by omega) fun k h1 h2=>h k h1 (by omega)
theorem Ap (W:Way E ops 0 st lg){D:Nat→Bool}{p:Nat}:∀{i:Nat},i≤ops.length→(∀k,k<i→p∈(lg k).2→D k=true)→held st lg D p i=(st i).get p
 |0,_,_=>rfl
 |i+1,hi,h=>by
  rw[held];split
  ·rfl
  ·rename_i hc
   have hp:p∉(lg i).2:=fun hm=>hc ⟨h i (by omega) hm,hm⟩
   rw[Ap W (by omega) fun k hk=>h k (by omega)];have ho:ops[i]?=some (ops[i]'(by omega)):=Wl _;obtain⟨pre,a1,a2⟩:=W.step i _ (WQ _) ho;have:=(AM.zK _ a2).2.2.1 p hp;rw[this,(Da.1 a1 p)]
structure Order (ops:List Oper)(lg:Nat→List Nat×List Nat)(b:Nat→List Nat):Prop where
 direct:∀j o,ops[j]?=some o→∀e∈o.after,Region.binds .any e=true→e.on<j
 closed:∀j o,ops[j]?=some o→∀i∈b j,(∃e∈o.after,Region.binds .any e=true∧e.on=i)∨∃e∈o.after,Region.binds .any e=true∧i∈b e.on
 apart:∀i j,i<j→j<ops.length→i∈b j∨Hj (lg j) (lg i)
theorem Jf (he:rr (pQ ops) 0=true)(ha:apart ((List.range' 0 ops.length).map lg).reverse (r6 (pQ ops) []).reverse ops.length=true):
  ∃b,Order ops lg b:=by
 have M9:∀(j:Nat) (o:Oper),ops[j]?=some o→(pQ ops)[j]?=some (o.after.toList.filterMap fun e=>bif Region.binds .any e then some e.on else none):=by
  intro j o ho;unfold pQ;rw[List.getElem?_map,ho];rfl
 have KM:∀(o:Oper) (i:Nat),i∈(o.after.toList.filterMap fun e=>bif Region.binds .any e then some e.on else none)↔∃e∈o.after,Region.binds .any e=true∧e.on=i:=by
  intro o i;rw[List.mem_filterMap];constructor
  ·rintro⟨e,h1,h2⟩
   cases hb:Region.binds .any e with
   |false=>rw[hb]at h2;cases h2
   |true=>rw[hb]at h2;injection h2 with h2;exact⟨e,by simpa using h1,hb,h2⟩
  ·rintro⟨e,h1,h2,h3⟩;exact⟨e,by simpa using h1,by rw[h2];simp[h3]⟩
 refine⟨fun j=>((r6 (pQ ops) [])[j]?).getD [],⟨fun j o ho e hm hb=> ?_,fun j o ho i hi=> ?_,fun i j Iy hj=> ?_⟩⟩
 ·have:=uq he j _ (M9 j o ho) e.on ((KM o _).2 ⟨e,hm,hb,rfl⟩);omega
 ·obtain⟨b,h1,h2⟩:=I9 (pQ ops) [] j (WQ _) _ (by simpa using M9 j o ho);rw[h1]at hi
  rcases h2 i (by simpa using hi)with h|⟨k,hk,_,bk,Vx,SS⟩
  ·exact .inl ((KM o i).1 h)
  ·obtain⟨e,a1,a2,a3⟩:=(KM o k).1 hk;refine .inr ⟨e,a1,a2, ?_⟩;rw[a3,Vx];simpa using SS
 ·have hx:(((List.range' 0 ops.length).map lg).reverse)[ops.length - 1 - j]?=some (lg j):=by
   rw[List.getElem?_reverse (by simp;omega)];simp only[List.length_map,List.length_range'];rw[show ops.length - 1 - (ops.length - 1 - j)=j by omega,List.getElem?_map,List.getElem?_range' (by omega)];simp
  have hy:(((List.range' 0 ops.length).map lg).reverse)[ops.length - 1 - i]?=some (lg i):=by
   rw[List.getElem?_reverse (by simp;omega)];simp only[List.length_map,List.length_range'];rw[show ops.length - 1 - (ops.length - 1 - i)=i by omega,List.getElem?_map,List.getElem?_range' (by omega)];simp
  obtain⟨bx,h1,h2⟩:=xV ha _ _ hx
  rcases h2 _ _ (by omega) hy with h|h
  ·left
   rw[show ops.length - 1 - (ops.length - 1 - i)=i by omega]at h
   have hlen:(r6 (pQ ops) []).length=ops.length:=by
    have:∀(es acc:List (List Nat)),(r6 es acc).length=acc.length+es.length:=by
     intro es
     induction es with
     |nil=>intro acc;simp[r6]
     |cons e es ih=>intro acc;rw[r6,ih];simp;omega
    rw[this];simp[pQ]
   rw[List.getElem?_reverse (by omega),hlen,show ops.length - 1 - (ops.length - 1 - j)=j by omega]at h1;rw[h1];exact h
  ·exact .inr h
def done (listed:Array Bool)(i:Nat):Bool:=listed.getD i false
theorem Ed {ρ:Type}(hE:EnvOk E){B:Base}{K:St→Option ρ}{x:ρ}{Q:Exit→Act→World→Prop}(hK:KOk E B K x (Q .normal))(W:Way E ops 0 st lg){b:Nat→List Nat}(O:Order ops lg b)(QR:K (st ops.length)=some x)
  (Ks:∀s t,St.Eqv s t→K s=some x→∀g a w,fj E.cd g.ax→HRel B g t.hp w→ActRel E B g t.env a→Q .normal a w):
  ∀(fuel:Nat) (listed:Array Bool) (t:St),listed.size=ops.length→((List.range ops.length).filter fun i=> !done listed i).length=fuel→
   (∀j,j<ops.length→done listed j=true→∀i∈b j,done listed i=true)→(∀p,t.get p=held st lg (done listed) p ops.length)→
   ∀g a w,fj E.cd g.ax→HRel B g t.hp w→ActRel E B g t.env a→wpAny E.P .any ops.toArray Q fuel listed a w:=by
 have full:∀(listed:Array Bool) (t:St),(∀i,i<ops.length→done listed i=true)→(∀p,t.get p=held st lg (done listed) p ops.length)→St.Eqv (st ops.length) t:=by
  intro listed t nd ht;rw[Da];intro p;rw[ht p,Ap W (Wp _) fun k hk _=>nd k hk]
 have empty:∀(listed:Array Bool),listed.size=ops.length→Region.ready .any ops.toArray listed=[]→∀i,i<ops.length→done listed i=true:=by
  intro listed iE hr i
  induction i using Nat.strongRecOn with
  |_ i ih=>
   intro hi
   cases hd:done listed i with
   |true=>rfl
   |false=>
    exfalso
    have hm:i∈Region.ready .any ops.toArray listed:=by
     rw[mem_ready];refine⟨?_,ops[i],by simp[hi],fun e he hb=> ?_⟩
     ·unfold done at hd;have fP:i<listed.size:=(by omega);simp[Array.getD,fP]at hd⊢;exact hd
     ·have:=O.direct i ops[i] (Wl hi) e he hb;exact ih e.on this (by omega)
    rw[hr]at hm;simp at hm
 intro fuel
 induction fuel with
 |zero=>
  intro listed t iE KH yU ht g a w hG R V
  have nd:∀i,i<ops.length→done listed i=true:=by
   intro i hi;have h0:=WL KH;rw[List.filter_eq_nil_iff]at h0;have:=h0 i (List.mem_range.2 hi);simpa using this
  refine⟨?_,Ks _ _ (full listed t nd ht) QR g a w hG R V⟩;rw[List.eq_nil_iff_forall_not_mem];intro i hm;obtain⟨h1,o,h2,_⟩:=mem_ready.1 hm
  have hi:i<ops.length:=by
   rcases Nat.lt_or_ge i ops.length with h|h
   ·exact h
   ·simp[h]at h2
  have:=nd i hi;have fP:i<listed.size:=(by omega);unfold done at this;simp[Array.getD,fP]at this h1;rw[this]at h1;cases h1
 |succ fuel ih=>
  intro listed t iE KH yU ht g a w hG R V;refine⟨fun hr=>Ks _ _ (full listed t (empty listed iE hr) ht) QR g a w hG R V,fun i hi=> ?_⟩;obtain⟨h1,o,h2,h3⟩:=mem_ready.1 hi
  have TW:i<ops.length:=by
   rcases Nat.lt_or_ge i ops.length with h|h
   ·exact h
   ·simp[h]at h2
  have ho:ops[i]?=some o:=(by simpa using h2)
  have kY:done listed i=false:=by
   have fP:i<listed.size:=(by omega);unfold done;simp[Array.getD,fP]at h1⊢;exact h1
  obtain⟨pre,a1,a2⟩:=W.step i o (WQ _) ho
  have MG:∀k∈b i,done listed k=true:=by
   intro k hk
   rcases O.closed i o ho k hk with⟨e,e1,e2,e3⟩|⟨e,e1,e2,e3⟩
   ·rw[←e3];exact h3 e e1 e2
   ·have fP:=O.direct i o ho e e1 e2;exact yU e.on (by omega) (h3 e e1 e2) k e3
  have later:∀k,i<k→k<ops.length→done listed k=true→Hj (lg k) (lg i):=by
   intro k SS hk Iv
   rcases O.apart i k SS hk with h|h
   ·have:=yU k hk Iv i h;rw[kY]at this;cases this
   ·exact h
  have agree:∀p∈(lg i).1,t.get p=pre.get p:=by
   intro p hp;rw[ht p,Da.1 a1 p]
   rw[tn (i:=i) (by omega) (fun k h1 h2 Iv hm=>by
    by_cases e:k=i
    ·subst e;rw[kY]at Iv;cases Iv
    ·exact(later k (by omega) h2 Iv).2.1 p hm hp)]
   exact Ap W (by omega) fun k hk hm=>by
    rcases O.apart k i hk TW with h|h
    ·exact MG k h
    ·exact absurd hm (h.2.2 p hp)
  obtain⟨_,_,_,SH⟩:=AM.zK _ a2;obtain⟨t',b1,b2,b3,b4⟩:=SH t agree;have wP:=AM.Jt _ b1
  refine xD hE ho wP hG R V fun a' w' g' l R' V'=> ?_
  have tN:∀k,done (listed.setIfInBounds i true) k=(done listed k||decide (k=i)):=by
   intro k;unfold done
   by_cases e:k=i
   ·subst e;have fP:k<listed.size:=(by omega);simp[Array.getD,fP]
   ·have:(listed.setIfInBounds i true).getD k false=listed.getD k false:=getD_set_ne false (Ne.symm e);rw[this];simp[e]
  refine ih (listed.setIfInBounds i true) t' (by simpa using iE) ?_ ?_ ?_ g' a' w' (hG.mono l.ax) R' V'
  ·have key:∀(l:List Nat),l.Nodup→i∈l→(l.filter fun k=> !done listed k).length=(l.filter fun k=> !done (listed.setIfInBounds i true) k).length+1:=by
    intro l
    induction l with
    |nil=>intro _ h;simp at h
    |cons y r UO=>
     intro hn hm;rw[List.nodup_cons]at hn
     by_cases e:y=i
     ·subst e
      have hr:(r.filter fun k=> !done (listed.setIfInBounds y true) k)=(r.filter fun k=> !done listed k):=by
       apply List.filter_congr
       intro k hk
       have:k≠y:=fun e=>hn.1 (e ▸ hk)
       rw[tN k];simp[this]
      rw[List.filter_cons_of_pos (by simp[kY]),List.filter_cons_of_neg (by simp[tN]),hr];rfl
     ·have MM:i∈r:=by
       rcases WE.1 hm with h|h
       ·exact absurd h.symm e
       ·exact h
      have he:(!done (listed.setIfInBounds i true) y)=(!done listed y):=by rw[tN y];simp[e]
      have:=UO hn.2 MM
      cases hd:done listed y with
      |true=>rw[List.filter_cons_of_neg (by simp[hd]),List.filter_cons_of_neg (by simp[tN,hd])];exact this
      |false=>rw[List.filter_cons_of_pos (by simp[hd]),List.filter_cons_of_pos (by simp[tN,hd,e])];simp[this]
   have:=key (List.range ops.length) List.nodup_range (List.mem_range.2 TW);omega
  ·intro j hj S0 k hk;rw[tN]at S0⊢;simp only[WH,V4]at S0⊢
   rcases S0 with h|h
   ·exact .inl (yU j hj h k hk)
   ·subst h;exact .inl (MG k hk)
  ·intro p
   by_cases hp:p∈(lg i).2
   ·rw[b4 p hp (by simp)]
    rw[tn (i:=i+1) (by omega) (fun k h1 h2 Iv hm=>by
     rw[tN]at Iv;simp only[WH,V4]at Iv
     rcases Iv with h|h
     ·exact(later k (by omega) h2 h).1 p hm hp
     ·omega)]
    rw[held,WK ⟨by rw[tN];simp,hp⟩]
   ·rw[b2 p hp,ht p]
    have:∀n,held st lg (done listed) p n=held st lg (done (listed.setIfInBounds i true)) p n:=by
     intro n
     induction n with
     |zero=>rfl
     |succ n U4=>
      rw[held,held,U4]
      by_cases e:n=i
      ·subst e;rw[Wz (fun h=>hp h.2),Wz (fun h=>hp h.2)]
      ·have:done (listed.setIfInBounds i true) n=done listed n:=by rw[tN];simp[e]
       rw[this]
    exact this _
end
theorem HRel.drew {B:Base}{g:Gh}{hp:List (Nat×Obj)}{w:World}(R:HRel B g hp w)(n:Nat):HRel B g hp {w with drawn:=n}:=
 ⟨R.top,R.eC,R.ax,R.ed,R.ey,R.jh,R.frame,R.size,R.os,R.tape,R.output,R.fix⟩
theorem wZ {ρ:Type}{E:Env}(hE:EnvOk E)(hm:E.P.follows .mixedOrders=true){B:Base}{id:Nat}{ops:Array Oper}{draw:Bool}{K:St→Option ρ}{x:ρ}{Q:Exit→Act→World→Prop}(hK:KOk E B K x (Q .normal))
  {s:St} (h:zJ E ops.toList draw s K=some x) {g:Gh} {a:Act} {w:World} (hG:fj E.cd g.ax) (R:HRel B g s.hp w) (V:ActRel E B g s.env a):(Code.region id ops draw).wp E.P Q a w:=by
 cases draw with
 |false=>
  have h:mn E ops.toList ops.toList 0 s K=some x:=h
  apply wp_region
  have:=tW hE hK ops.toList 0 s rfl h g a w hG R V;rw[List.range_eq_range'];simpa using this
 |true=>
  have h:kg E ops.toList ops.toList 0 s [] (fun s' L=>bif rr (pQ ops.toList) 0&&apart L (r6 (pQ ops.toList) []).reverse ops.toList.length then K s' else none)=some x:=h;obtain⟨st,lg,k1,W,k3⟩:=JC ops.toList 0 s [] rfl h
  cases hc:(rr (pQ ops.toList) 0&&apart (((List.range' 0 ops.toList.length).map lg).reverse++[]) (r6 (pQ ops.toList) []).reverse ops.toList.length)with
  |false=>rw[hc]at k3;cases k3
  |true=>
   rw[hc]at k3;simp only[V6,Wv]at hc;obtain⟨b,O⟩:=Jf hc.1 hc.2
   apply wp_region_any hm
   have:=Ed hE (Q:=Q) hK W O (by simpa using k3) (fun s t e hs g a w hG R V=>hK s g a w hs hG (R.congr e.2) (V.congr e.1)) ops.toList.length (Array.replicate ops.toList.length false) s (by simp) (by
     have:∀i,done (Array.replicate ops.toList.length false) i=false:=by
      intro i;unfold done;simp[Array.getD_eq_getD_getElem?,Array.getElem?_replicate];split<;>rfl
     rw[List.filter_eq_self.2 (fun i _=>by rw[this];rfl),List.length_range]) (fun j _ hd=>by
     exfalso
     unfold done at hd;simp[Array.getD_eq_getD_getElem?,Array.getElem?_replicate]at hd
     split at hd<;>cases hd) (fun p=>by
     rw[tn (i:=0) (WQ _) (fun k _ _ hd=>by
      exfalso
      unfold done at hd;simp[Array.getD_eq_getD_getElem?,Array.getElem?_replicate]at hd
      split at hd<;>cases hd)]
     show _=(st 0).get p
     rw[k1]) g a {w with drawn:=w.drawn+1} hG (R.drew _) V
   simpa using this
end Go.Abs
end

section
namespace Go.Abs
noncomputable def Gh.gY (g:Gh)(id gen:Nat)(u:Value)(L:List Value):Gh:=
  open Classical in
  { g with top := fun i => if i = id then gen + 1 else g.top i
           cv:=fun i k=>if i=id∧k=gen then u else g.cv i k
           outer:=fun i=>if i=id then L else g.outer i}
theorem HRel.IZ {B:Base}{g:Gh}{hp:List (Nat×Obj)}{w:World}(R:HRel B g hp w)(id:Nat)(u:Value)(L:List Value):
  Le g (g.gY id (g.top id) u L)∧HRel B (g.gY id (g.top id) u L) ((id, .gj (g.top id) (0,[]))::hp) w:=by
 have hle:Le g (g.gY id (g.top id) u L):=by
  refine⟨fun _ _ h=>h,fun i=> ?_,fun i k hk=> ?_⟩
  ·show g.top i≤if i=id then g.top id+1 else g.top i
   split
   ·rename_i e;subst e;omega
   ·exact Wp _
  ·show(if i=id∧k=g.top id then u else g.cv i k)=g.cv i k;rw[Wz];rintro⟨rfl,rfl⟩;omega
 refine⟨hle,fun i=> ?_,fun i oi hi=> ?_,R.ax,R.ed,R.ey,R.jh,R.frame,R.size,R.os,R.tape,R.output,R.fix⟩
 ·show(if i=id then g.top id+1 else g.top i)=_
  by_cases e:id=i
  ·subst e;rw[aF,WK rfl];rfl
  ·rw[aC _ _ e,Wz (fun h=>e h.symm)];exact R.top i
 ·by_cases e:id=i
  ·subst e;rw[aF]at hi;injection hi with hi;subst hi;trivial
  ·rw[aC _ _ e]at hi;exact(R.eC i oi hi).tr hle (fun b hb=>⟨hb,rfl,rfl⟩) (by simp only[Gh.gY];rw[Wz (fun h=>e h.symm)]) (gP R hi)
def oU (hp:List (Nat×Obj))(n:Nat):Prop:=∀i,n≤i→look hp i=none
theorem HRel.qP {B:Base}{g:Gh}{hp:List (Nat×Obj)}{w:World}(R:HRel B g hp w){i:Nat}(h:look hp i=none):g.top i=0:=by rw[R.top i,h]
def PU (cells:List Cell)(eC:List (Nat×Obj))(n n':Nat)(B:Base)(g:Gh)(hp:List (Nat×Obj))(w:World)(us:List Value)(nb:List Nat):Prop:=
 n≤n'∧oU (eC++hp) n'∧(∀i,i<n→look (eC++hp) i=look hp i)∧∃g',Le g g'∧(∀y,y∉nb→g'.cM y=g.cM y∧g'.ed y=g.ed y)∧(∀i,i<n→g'.outer i=g.outer i)∧HRel B g' (eC++hp) w∧aA g' cells us
theorem He {τ:Ty}{dp:Bool}{x:List τ.den}{n:Nat}{B:Base}{g:Gh}{hp:List (Nat×Obj)}{w:World}{us:List Value}{nb:List Nat}(R:HRel B g hp w)(hP:OwnAt g.ax w (dp&& !τ.flat) τ x us nb)(hO:cF g nb)(hn:∀b∈nb,g.ed b=none)(hf:oU hp n):
  PU [.own n 0] [(n, .own 0 τ (dp||τ.flat) x)] n (n+1) B g hp w us nb:=by
 have ht:=R.qP (hf n (Wp _))
 have MK:∀o:Obj,oU ([(n,o)]++hp) (n+1):=fun o i hi=>by
  show look ((n,o)::hp) i=none;rw[aC _ _ (by omega)];exact hf i (by omega)
 have hold:∀o:Obj,∀i,i<n→look ([(n,o)]++hp) i=look hp i:=fun o i hi=>aC _ _ (by omega)
 rcases hP with⟨rfl,hx,rfl⟩|⟨b,cap,arr,ty,fV,rfl,rfl,ha,hl,hs,hE⟩
 ·subst hx;obtain⟨l,R'⟩:=R.named (id:=n) (u:= .slice none 0 0) (o':= .own (g.top n) τ (dp||τ.flat) []) rfl (.inl ⟨by simp[Gh.name],rfl⟩);refine⟨Nat.le_succ _,MK _,hold _,_,l.le,fun x _=>⟨rfl,rfl⟩,fun _ _=>rfl, ?_,⟨_,[],rfl,⟨?_, ?_,rfl⟩,rfl⟩⟩
  ·rw[ht]at R';rw[ht];exact R'
  ·simp[Gh.name]
  ·simp[Gh.name,ht]
 ·have Cx:=hO.2 b (Wk ..);have kY:=List.nodup_cons.1 hO.1
  have KV:((dp||τ.flat)&& !τ.flat)=(dp&& !τ.flat):=by cases dp<;>cases τ.flat<;>rfl
  obtain⟨g',l,hk,ho,R',hc⟩:=R.iP (id:=n) (deep:=dp||τ.flat) (τ:=τ) (xs:=x) (nb:=fV) Cx (hn b (Wk ..)) kY.1 ha hl hs kY.2 (fun y hy=>⟨hO.2 y (Wj _ hy),by
   unfold kG at hE;split at hE
   ·exact hE.qO y hy
   ·rw[hE.2]at hy;simp at hy⟩) (by rw[KV];exact hE)
  rw[ht]at R' hc;refine⟨Nat.le_succ _,MK _,hold _,g',l,fun y hy=> ?_,fun i hi=>ho i (by omega),R',⟨_,[],rfl,hc,rfl⟩⟩;rw[WE,not_or]at hy;exact hk y hy.1 hy.2
theorem Cr:∀(sp:Sp)(x:sp.ty.den)(pl:Nat×Nat)(n:Nat)(ib:Bool){B:Base}{g:Gh}{hp:List (Nat×Obj)}{w:World}{rp:Nat×Nat}{us:List Value}{nb:List Nat},sp.whole ib=true→(ib=true→gg g (some (pl.1,0,pl.2)) rp)→HRel B g hp w→Pass g.ax w sp x rp us nb→cF g nb→(∀b∈nb,g.ed b=none)→oU hp n→
  PU (mk0 sp x pl n).1 (mk0 sp x pl n).2.1 n (mk0 sp x pl n).2.2 B g hp w us nb:=by
 intro sp
 induction sp with
 |un=>intro x pl n ib B g hp w rp us nb hw vf R hP hO hn hf;exact⟨Wp _,hf,fun _ _=>rfl,g,Le.refl g,fun _ _=>⟨rfl,rfl⟩,fun _ _=>rfl,R,hP.1⟩
 |cf τ=>
  intro x pl n ib B g hp w rp us nb hw vf R hP hO hn hf;obtain⟨_,h1,u,rfl,hr⟩:=hP;exact⟨Wp _,hf,fun _ _=>rfl,g,Le.refl g,fun _ _=>⟨rfl,rfl⟩,fun _ _=>rfl,R,u,[],rfl,⟨h1,hr⟩,rfl⟩
 |err=>
  intro x pl n ib B g hp w rp us nb hw vf R hP hO hn hf;obtain⟨_,u,rfl,hr⟩:=hP;exact⟨Wp _,hf,fun _ _=>rfl,g,Le.refl g,fun _ _=>⟨rfl,rfl⟩,fun _ _=>rfl,R,u,[],rfl,hr,rfl⟩
 |np=>
  intro x pl n ib B g hp w rp us nb hw vf R hP hO hn hf;obtain⟨_,rfl⟩:=hP;exact⟨Wp _,hf,fun _ _=>rfl,g,Le.refl g,fun _ _=>⟨rfl,rfl⟩,fun _ _=>rfl,R,_,[],rfl,rfl,rfl⟩
 |slf f m=>
  intro x pl n ib B g hp w rp us nb hw vf R hP hO hn hf;obtain⟨_,b,o,rfl⟩:=hP;have ht:=R.qP (hf n (Wp _));obtain⟨l1,R1⟩:=R.named (id:=n) (u:= .pointer (some ⟨b,o,none⟩)) (o':= .dead (g.top n)) rfl trivial;have tg:(g.name n (g.top n) (.pointer (some ⟨b,o,none⟩))).cv n (g.top n)= .pointer (some ⟨b,o,none⟩):=(by simp[Gh.name]);have K0:g.top n<(g.name n (g.top n) (.pointer (some ⟨b,o,none⟩))).top n:=(by simp[Gh.name]);rw[ht]at R1 tg K0;rw[ht]at l1;refine⟨Nat.le_succ n,fun i hi=> ?_,fun i hi=> ?_,g.name n 0 (.pointer (some ⟨b,o,none⟩)),l1.le,fun _ _=>⟨rfl,rfl⟩,fun _ _=>rfl,R1,⟨_,[],rfl,⟨K0,b,o,tg,rfl⟩,rfl⟩⟩
  ·have hi:n+1≤i:=hi;show look ((n,_)::hp) i=none;rw[aC _ _ (by omega)];exact hf i (by omega)
  ·show look ((n,_)::hp) i=_;rw[aC _ _ (by omega)]
 |own τ dp=>intro x pl n ib B g hp w rp us nb hw vf R hP hO hn hf;exact He R hP hO hn hf
 |vg τ dp=>intro x pl n ib B g hp w rp us nb hw vf R hP hO hn hf;exact He R hP hO hn hf
 |vj ok=>intro x pl n ib B g hp w rp us nb hw;cases hw
 |nR=>
  intro x pl n ib B g hp w rp us nb hw vf R hP hO hn hf;have Pf:ib=true:=hw;obtain⟨MO,bb,oo,jV,rfl⟩:=vf Pf _ _ _ rfl;have hB:lU g.ax w (bb,oo+pl.2) x us nb:=hP
  have fP:pl.1<n:=by
   rcases Nat.lt_or_ge pl.1 n with h|h
   ·exact h
   ·have:=R.qP (hf pl.1 h);omega
  have two:∃u1 u2,us=[u1,u2]∧oc u1=true:=by
   rcases hB with⟨e,_⟩|⟨u2,e,_⟩
   ·exact⟨_,_,e,rfl⟩
   ·exact⟨_,_,e,rfl⟩
  obtain⟨u1,u2,rfl,SJ⟩:=two;have ht:=R.qP (hf n (Wp _));have UW:=R.qP (hf (n+1) (by omega));obtain⟨l1,R1⟩:=R.named (id:=n) (u:=u1) (o':= .dead (g.top n)) rfl trivial;have tg:(g.name n (g.top n) u1).cv n (g.top n)=u1:=(by simp[Gh.name]);have K0:g.top n<(g.name n (g.top n) u1).top n:=(by simp[Gh.name]);have Ux:(g.name n (g.top n) u1).top (n+1)=0:=(by simp[Gh.name,UW]);obtain⟨g2,l2,k2,o2,R2,c2⟩:=R1.EC (id:=n+1) (a:=n) (ag:=g.top n) (bid:=pl.1) (bg:=0) (off:=pl.2) (xs:=x) (u2:=u2) (nb:=nb) K0 (WD MO (l1.le.top _)) (by omega) (hO.mono l1) hn ((l1.le.cv _ _ MO).trans jV) (by rw[tg];exact hB);have wS:aV g2 (.own n (g.top n)) u1:=⟨WD K0 (l2.top _),by rw[l2.cv _ _ K0,tg],SJ⟩;rw[Ux]at R2 c2;rw[ht]at R2 wS;refine⟨Nat.le_add_right n 2,fun i hi=> ?_,fun i hi=> ?_,g2,l1.le.trans l2,k2,fun i hi=>by rw[o2,l1.out],R2,⟨u1,[u2],rfl,wS,u2,[],rfl,c2,rfl⟩⟩
  ·have hi:n+2≤i:=hi;show look ((n+1,_)::(n,_)::hp) i=none;rw[aC _ _ (by omega),aC _ _ (by omega)];exact hf i (by omega)
  ·show look ((n+1,_)::(n,_)::hp) i=_;rw[aC _ _ (by omega),aC _ _ (by omega)]
 |pr a b BQ BT=>
  intro x pl n ib B g hp w rp us nb hw vf R hP hO hn hf;simp only[Sp.whole,V6]at hw;obtain⟨u1,u2,n1,n2,rfl,rfl,P1,P2⟩:=hP;have kY:=List.nodup_append.1 hO.1
  have hd:∀y∈n2,y∉n1:=fun y h2 h1=>kY.2.2 y h1 y h2 rfl
  obtain⟨m1,f1,i1,g1,l1,k1,o1,R1,c1⟩:=BQ x.1 pl n ib hw.1 vf R P1 ⟨kY.1,fun y hy=>hO.2 y (WC _ hy)⟩ (fun y hy=>hn y (WC _ hy)) hf
  obtain⟨m2,f2,i2,g2,l2,k2,o2,R2,c2⟩:=BT x.2 (pl.1,pl.2+a.size) _ ib hw.2 (fun e=>(((vf e).mono l1).on a.size)) R1 (P2.mono l1.ax) ⟨kY.2.1,fun y hy=>by rw[(k1 y (hd y hy)).1];exact hO.2 y (Wy _ hy)⟩
   (fun y hy=>by rw[(k1 y (hd y hy)).2];exact hn y (Wy _ hy)) f1
  refine⟨Nat.le_trans m1 m2, ?_,fun i hi=> ?_,g2,l1.trans l2,fun y hy=> ?_,fun i hi=>(o2 i (by omega)).trans (o1 i hi), ?_,(c1.mono l2).append c2⟩
  ·show oU ((_++_)++hp) _;rw[V7];exact f2
  ·show look ((_++_)++hp) i=_;rw[V7,i2 i (by omega),i1 i hi]
  ·rw[Wu,not_or]at hy;obtain⟨a1,a2⟩:=k1 y hy.1;obtain⟨b1,b2⟩:=k2 y hy.2;exact⟨b1.trans a1,b2.trans a2⟩
  ·show HRel B g2 ((_++_)++hp) w;rw[V7];exact R2
 |ptr wh st sp ih=>
  intro x pl n ib B g hp w rp us nb hw vf R hP hO hn hf;simp only[Sp.whole,V6]at hw;obtain⟨b,o,arr,ty,fV,rfl,rfl,ha,S8,hle0,P⟩:=hP;obtain⟨rfl,iE,rfl⟩:=S8.1 hw.1;have kY:=List.nodup_cons.1 hO.1;have ht:=R.qP (hf n (Wp _));obtain⟨l0,R0⟩:=R.IZ n (.pointer (some ⟨b,0,none⟩)) arr.toList;have Ob:(g.gY n (g.top n) (.pointer (some ⟨b,0,none⟩)) arr.toList).cv n 0= .pointer (some ⟨b,0,none⟩):=(by simp[Gh.gY,ht]);have Hx:0<(g.gY n (g.top n) (.pointer (some ⟨b,0,none⟩)) arr.toList).top n:=(by simp[Gh.gY]);have MQ:(g.gY n (g.top n) (.pointer (some ⟨b,0,none⟩)) arr.toList).outer n=arr.toList:=(by simp[Gh.gY])
  have MH:∀i,i<n→(g.gY n (g.top n) (.pointer (some ⟨b,0,none⟩)) arr.toList).outer i=g.outer i:=fun i hi=>by
   simp only[Gh.gY];rw[Wz (by omega)]
  have Hq:(g.gY n (g.top n) (.pointer (some ⟨b,0,none⟩)) arr.toList).cM=g.cM:=rfl;have Hz:(g.gY n (g.top n) (.pointer (some ⟨b,0,none⟩)) arr.toList).ed=g.ed:=rfl;have P0:Pass (g.gY n (g.top n) (.pointer (some ⟨b,0,none⟩)) arr.toList).ax w sp x (b,0) ((arr.toList.drop 0).take sp.size) fV:=P
  generalize g.gY n (g.top n) (.pointer (some ⟨b,0,none⟩)) arr.toList=g0 at l0 R0 Ob Hx MQ MH Hq Hz P0
  rw[ht]at R0
  obtain⟨m1,f1,i1,g1,l1,k1,o1,R1,c1⟩:=ih x (n,0) (n+1) true hw.2 (fun _ id gen off e=>by
    injection e with e;injection e with e1 e;injection e with e2 e3
    subst e1;subst e2;subst e3
    exact⟨Hx,b,0,Ob,rfl⟩) R0 P0 ⟨kY.2,fun y hy=>by rw[Hq];exact hO.2 y (Wj _ hy)⟩ (fun y hy=>by rw[Hz];exact hn y (Wj _ hy)) (fun i hi=>by rw[aC _ _ (by omega)];exact hf i (by omega))
  obtain⟨q1,q2⟩:=k1 b kY.1;rw[Hq]at q1;rw[Hz]at q2
  have nd:(arr.toList.drop 0).take sp.size=arr.toList:=by
   rw[List.drop_zero];exact List.take_of_length_le (by simp[iE])
  rw[nd]at c1;have Hp:look ((mk0 sp x (n,0) (n+1)).2.1++((n,Obj.gj 0 (0,[]))::hp)) n=some (.gj 0 (0,[])):=(by rw[i1 n (by omega),aF]);have Cx:g1.cM b=some 0:=q1.trans (hO.2 b (Wk ..));have Bj:g1.ed b=none:=q2.trans (hn b (Wk ..));have tg:g1.cv n 0= .pointer (some ⟨b,0,none⟩):=(l1.cv _ _ Hx).trans Ob;have Ko:g1.outer n=arr.toList:=(o1 n (by omega)).trans MQ
  let g2:Gh:={g1 with cM:=open Classical in fun x=>if x=b then some (n+1)else g1.cM x}
  have Gt:Le g1 g2:=⟨fun _ _ h=>h,fun _=>Wp _,fun _ _ _=>rfl⟩
  have R2:HRel B g2 ((n, .box 0 (st.1,(mk0 sp x (n,0) (n+1)).1))::((mk0 sp x (n,0) (n+1)).2.1++((n,Obj.gj 0 (0,[]))::hp))) w:=by
   refine R1.J0 Cx Bj Hp rfl ⟨b,0,arr,st.1,arr.toList,tg,⟨by simp,Bj⟩,ha,c1.mono Gt, ?_, ?_,rfl, ?_,rfl⟩
   ·show arr.toList=(g1.outer n).take 0++arr.toList++(g1.outer n).drop (0+arr.toList.length);rw[Ko];simp
   ·show 0+arr.toList.length≤(g1.outer n).length;rw[Ko];simp
   ·show(g1.outer n).length=(mk0 sp x (n,0) (n+1)).1.length;rw[Ko];exact c1.length
  have KD:∀i,look ((n,Obj.box 0 (st.1,(mk0 sp x (n,0) (n+1)).1))::((mk0 sp x (n,0) (n+1)).2.1++hp)) i=look ((n,Obj.box 0 (st.1,(mk0 sp x (n,0) (n+1)).1))::((mk0 sp x (n,0) (n+1)).2.1++((n,Obj.gj 0 (0,[]))::hp))) i:=by
   intro i
   by_cases e:n=i
   ·subst e;rw[aF,aF]
   ·rw[aC _ _ e,aC _ _ e]
    have app:∀(l:List (Nat×Obj)),look (l++hp) i=look (l++((n,Obj.gj 0 (0,[]))::hp)) i:=by
     intro l
     induction l with
     |nil=>exact(aC _ _ e).symm
     |cons p l ih=>
      show(bif Nat.beq p.1 i then some p.2 else look (l++hp) i)=(bif Nat.beq p.1 i then some p.2 else look (l++((n,Obj.gj 0 (0,[]))::hp)) i);rw[ih]
    exact app _
  refine⟨by show n≤(mk0 sp x (n,0) (n+1)).2.2;omega,fun i hi=> ?_,fun i hi=> ?_,g2,(l0.trans l1).trans Gt,fun y hy=> ?_,fun i hi=>(o1 i (by omega)).trans (MH i hi),R2.congr KD,⟨_,[],rfl,⟨WD Hx (l1.top n),b,0,tg,rfl⟩,rfl⟩⟩
  ·have hi:(mk0 sp x (n,0) (n+1)).2.2≤i:=hi;have:=f1 i hi;have h2:=KD i;rw[aC _ _ (by omega),aC _ _ (by omega)]at h2;show look ((n,_)::((mk0 sp x (n,0) (n+1)).2.1++hp)) i=none;rw[aC _ _ (by omega),h2];exact this
  ·have h2:=KD i;rw[aC _ _ (by omega),aC _ _ (by omega)]at h2;show look ((n,_)::((mk0 sp x (n,0) (n+1)).2.1++hp)) i=_;rw[aC _ _ (by omega),h2,i1 i (by omega),aC _ _ (by omega)]
  ·rw[WE,not_or]at hy;obtain⟨a1,a2⟩:=k1 y hy.2;exact⟨by simp[g2,hy.1,a1,Hq],by rw[show g2.ed=g1.ed from rfl,a2,Hz]⟩
def s4 (a:Act):List Nat→List Value→Prop
 |[],us=>us=[]
 |t::ts,us=>∃u r,us=u::r∧a.tmps.getD t undef=u∧s4 a ts r
theorem ug {a:Act}:∀(as:List VSp)(ts:List Nat)(x:(bO as).den)(n:Nat){B:Base}{g:Gh}{hp:List (Nat×Obj)}{w:World}{us:List Value}{nb:List Nat},kS as=true→HRel B g hp w→gb g.ax w as x us nb→cF g nb→(∀b∈nb,g.ed b=none)→oU hp n→
  s4 a ts us→∃g',Le g g'∧HRel B g' ((rB as ts x n).2++hp) w∧∀t s,(t,s)∈(rB as ts x n).1→bV g' s (a.tmps.getD t undef)
 |[],ts,x,n,B,g,hp,w,us,nb,II,R,hP,hO,hn,hf,hs=>⟨g,Le.refl g,R,fun t s h=>by simp[rB]at h⟩
 |sp::as,[],x,n,B,g,hp,w,us,nb,II,R,hP,hO,hn,hf,hs=>⟨g,Le.refl g,R,fun t s h=>by simp[rB]at h⟩
 |sp::as,t::ts,x,n,B,g,hp,w,us,nb,II,R,hP,hO,hn,hf,hs=>by
  simp only[kS,V6]at II;obtain⟨u,r,n1,n2,rfl,rfl,P1,P2⟩:=hP;obtain⟨u',r',e,hu,TL⟩:=hs
  injection e with e1 e2
  subst e1;subst e2;have kY:=List.nodup_append.1 hO.1
  have hd:∀y∈n2,y∉n1:=fun y h2 h1=>kY.2.2 y h1 y h2 rfl
  have MP:cF g n1:=⟨kY.1,fun y hy=>hO.2 y (WC _ hy)⟩
  have Bg:∀y∈n1,g.ed y=none:=fun y hy=>hn y (WC _ hy)
  have one:∃m g1,n≤m∧m=(uW sp x.1 n).2.2∧oU ((uW sp x.1 n).2.1++hp) m∧Le g g1∧(∀y,y∉n1→g1.cM y=g.cM y∧g1.ed y=g.ed y)∧HRel B g1 ((uW sp x.1 n).2.1++hp) w∧∀v,(uW sp x.1 n).1=some v→cG g1 v u:=by
   cases sp with
   |one s=>
    obtain⟨m1,f1,_,g1,l1,k1,_,R1,c1⟩:=Cr s x.1 (0,0) n false II.1 (fun e=>by cases e) R P1.2 MP Bg hf;refine⟨_,g1,m1,rfl,f1,l1,k1,R1,fun v hv=> ?_⟩;simp only[uW]at hv;split at hv
    ·rename_i c hc
     injection hv with hv
     subst hv;rw[hc]at c1;obtain⟨u'',r'',TJ,Tz,_⟩:=c1
     injection TJ with TJ
     subst TJ;exact Tz
    ·cases hv
   |agg s=>
    obtain⟨Fv,rfl,P1⟩:=P1;obtain⟨m1,f1,_,g1,l1,k1,_,R1,c1⟩:=Cr s x.1 (0,0) n false II.1 (fun e=>by cases e) R P1 MP Bg hf;refine⟨_,g1,m1,rfl,f1,l1,k1,R1,fun v hv=> ?_⟩
    injection hv with hv
    subst hv;exact⟨Fv,rfl,c1⟩
  obtain⟨m,g1,m1,em,f1,l1,k1,R1,c1⟩:=one;subst em
  have UR:gb g1.ax w as x.2 r n2:=by
   have:∀(as:List VSp) (x:(bO as).den) (us:List Value) (nb:List Nat),gb g.ax w as x us nb→gb g1.ax w as x us nb:=by
    intro as
    induction as with
    |nil=>intro x us nb h;exact h
    |cons a as ih=>intro x us nb h;obtain⟨u,r,n1,n2,e,e',h1,h2⟩:=h;exact⟨u,r,n1,n2,e,e',h1.mono l1.ax,ih _ _ _ h2⟩
   exact this _ _ _ _ P2
  obtain⟨g2,l2,R2,c2⟩:=ug as ts x.2 (uW sp x.1 n).2.2 II.2 R1 UR ⟨kY.2.1,fun y hy=>by rw[(k1 y (hd y hy)).1];exact hO.2 y (Wy _ hy)⟩
   (fun y hy=>by rw[(k1 y (hd y hy)).2];exact hn y (Wy _ hy)) f1 TL
  refine⟨g2,l1.trans l2, ?_,fun t' s ht=> ?_⟩
  ·show HRel B g2 ((_++_)++hp) w;rw[V7];exact R2
  ·simp only[rB]at ht;split at ht
   ·rename_i v hv
    rcases WE.1 ht with ht|ht
    ·injection ht with h1 h2
     subst h1;subst h2;show cG g2 v _;rw[hu];exact cG.mono l2 (c1 v hv)
    ·exact c2 t' s ht
   ·exact c2 t' s ht
theorem EO {β:Type}:∀{l:List (Nat×β)}{n:Nat}{b:β},look l n=some b→(n,b)∈l
 |[],_,_,h=>by cases h
 |(m,c)::r,n,b,h=>by
  simp only[look]at h
  cases e:Nat.beq m n with
  |true=>rw[e]at h;injection h with h;subst h;rw[beq_eq e];exact Wk ..
  |false=>rw[e]at h;exact Wj _ (EO h)
theorem Cc {E:Env}{B:Base}{g:Gh}{w:World}{as:List VSp}{ts:List Nat}{x:(bO as).den}{us:List Value}{nb:List Nat}{a:Act}(II:kS as=true)(R:HRel B g [] w)(hP:gb g.ax w as x us nb)(hO:cF g nb)(hn:∀b∈nb,g.ed b=none)
  (hs:s4 a ts us) (iE:a.tmps.size=E.nt) (OZ:a.defers=[]) (hk:∀t∈E.jF,a.tmps.getD t undef=B.arg t) (Ss:PW E B):
  ∃g',Le g g'∧HRel B g' (dec ts as x).hp w∧ActRel E B g' (dec ts as x).env a:=by
 obtain⟨g',l,R',hc⟩:=ug as ts x E2 II R hP hO hn (fun i _=>rfl) hs;rw[Wv]at R';exact⟨g',l,R',⟨fun t s ht=>hc t s (EO ht),iE,OZ,hk,Ss⟩⟩
open Classical in
theorem HRel.fresh {B:Base}{g:Gh}{hp:List (Nat×Obj)}{w:World}(R:HRel B g hp w){nb:List Nat}(hO:cF g nb):
  ∃g',g'.ax=g.ax∧HRel B g' [] w∧cF g' nb∧∀b∈nb,g'.ed b=none:=by
 refine⟨{ax:=g.ax,top:=fun _=>0,cv:=fun _ _=> .tuple #[],cM:=fun x=>if x∈nb then some 0 else none,ed:=fun _=>none,outer:=fun _=>[]},rfl,⟨fun _=>rfl,(fun i o h=>by cases h),fun b L h=> ?_,(fun b L h=>by cases h),fun b h=> ?_,R.jh,fun b hb hl hi=> ?_,R.size,R.os,R.tape,R.output,R.fix⟩,
  ⟨hO.1,fun b hb=>by simp[hb]⟩,fun _ _=>rfl⟩
 ·obtain⟨a1,a2,a3⟩:=R.ax b L h
  have:b∉nb:=fun hm=>by rw[hO.2 b hm]at a1;cases a1
  exact⟨by simp[this],rfl,a3⟩
 ·by_cases hm:b∈nb
  ·exact R.ey b (by rw[hO.2 b hm];simp)
  ·simp[hm]at h
 ·obtain⟨f1,f2,f3⟩:=R.frame b hb hl hi
  have:b∉nb:=fun hm=>by rw[hO.2 b hm]at f1;cases f1
  exact⟨by simp[this],f2,f3⟩
theorem sB:∀{ts:List Nat}{s s':St}{vs:List Val},(AD ts).run s=some (vs,s')→s'=s∧∀{g:Gh}{a:Act},fi g s.env a→∃us,s4 a ts us∧db g vs us
 |[],_,_,_,h=>by obtain⟨rfl,rfl⟩:=aq h;exact⟨rfl,fun _=>⟨[],rfl,rfl⟩⟩
 |t::ts,s,s',vs,h=>by
  obtain⟨v,t1,h1,h2⟩:=AM.ai h;obtain⟨Ri,t2,h3,h4⟩:=AM.ai h2;obtain⟨rfl,rfl⟩:=aq h4;simp only[AM.run]at h1;split at h1
  ·rename_i sl xy;obtain⟨rfl,rfl⟩:=pI h1;obtain⟨rfl,hr⟩:=sB h3;refine⟨rfl,fun V=> ?_⟩;obtain⟨us,hs,hv⟩:=hr V;exact⟨_::us,⟨_,us,rfl,rfl,hs⟩,⟨_,us,rfl,V t _ xy,hv⟩⟩
  ·cases h1
theorem K6 {E:Env}{B:Base}{ts ts':List Nat}{as:List VSp}{s s':St}{x:(bO as).den}(h:(enc ts as).run s=some (x,s')){g:Gh}{a:Act}{w:World}(R:HRel B g s.hp w)(V:ActRel E B g s.env a):
  ∃g',(∀b L,g.ax b=some L→g'.ax b=some L)∧HRel B g' (dec ts as x).hp w∧ActRel E B g' (dec ts as x).env a:=by
 obtain⟨II,h⟩:=aX h;obtain⟨vs,t,h1,h2⟩:=AM.ai h;obtain⟨rfl,hv⟩:=sB h1;obtain⟨us,hs,hr⟩:=hv V.env;obtain⟨_,UU⟩:=nx h2;obtain⟨g1,l1,R1,c1⟩:=UU B g w R;obtain⟨nb,hP,hO,_,_⟩:=c1 us hr;obtain⟨g2,e2,R2,Gu,yT⟩:=R1.fresh hO;obtain⟨g3,l3,R3,V3⟩:=Cc (E:=E) (ts:=ts) II R2 (by rw[e2];exact hP) Gu yT hs V.size V.defers V.kept V.slf;exact⟨g3,fun b L hb=>l3.ax b L (by rw[e2];exact l1.le.ax b L hb),R3,V3⟩
def yC (a:Act):List Nat→List Value→Prop
 |[],us=>us=[]
 |t::r,us=>∃b o v,us= .pointer (some ⟨b,o,none⟩)::v∧a.tmps.getD t undef= .pointer (some ⟨b,o,none⟩)∧yC a r v
def Kc (a:Act):Der→Prop
 |[]=>True
 |d::r=>(∃vs:List Value,a.tmps.getD d.1 undef= .func (.func d.2.1) #[] vs.toArray∧yC a d.2.2 vs)∧Kc a r
theorem Cn {g:Gh}{a:Act}{env:List (Nat×Slot)}(V:fi g env a):∀{ts:List Nat}{cs:List (Nat×Nat)}{us:List Value},u7 env ts=some cs→o7 g cs us→yC a ts us
 |[],cs,us,h,k=>by
  injection h with h
  subst h;exact k
 |t::ts,cs,us,h,k=>by
  simp only[u7]at h;split at h
  ·rename_i id gen hl;simp only[Ww]at h;obtain⟨Gw,h1,rfl⟩:=h;obtain⟨b,o,v,rfl,ht,jV,hr⟩:=k;have hs:aV g (.ptr id gen 0) (a.tmps.getD t undef):=V t _ hl;obtain⟨_,b',o',e1,e2⟩:=hs;have jV:g.cv id gen= .pointer (some ⟨b,o,none⟩):=jV;rw[jV]at e1
   injection e1 with e1;injection e1 with e1;injection e1 with e1 e3
   subst e1;subst e3;exact⟨b,o,v,rfl,e2,Cn V h1 hr⟩
  ·cases h
theorem Cm {g:Gh}{a:Act}{env:List (Nat×Slot)}(V:fi g env a):∀{ts:List Nat}{cs:List (Nat×Nat)}{us:List Value},u7 env ts=some cs→yC a ts us→o7 g cs us
 |[],cs,us,h,k=>by
  injection h with h
  subst h;exact k
 |t::ts,cs,us,h,k=>by
  simp only[u7]at h;split at h
  ·rename_i id gen hl;simp only[Ww]at h;obtain⟨Gw,h1,rfl⟩:=h;obtain⟨b,o,v,rfl,hu,hr⟩:=k;have hs:aV g (.ptr id gen 0) (a.tmps.getD t undef):=V t _ hl;obtain⟨ht,b',o',e1,e2⟩:=hs;rw[hu]at e2
   injection e2 with e2;injection e2 with e2;injection e2 with e2 e3
   subst e2;refine⟨b,o,v,rfl,ht, ?_,Cm V h1 hr⟩;rw[e1,e3];rfl
  ·cases h
theorem EA {g:Gh}{a:Act}{env:List (Nat×Slot)}(V:fi g env a):∀{tM:Der},oZ env tM=true→Kc a tM
 |[],_=>trivial
 |d::r,h=>by
  simp only[oZ,V6]at h;refine⟨?_,EA V h.2⟩;have h1:=h.1;split at h1
  ·rename_i f gp cs hl hc;simp only[V6]at h1;obtain rfl:=beq_eq h1.1;obtain rfl:=pJ h1.2;have hs:aV g (.fn d.2.1 gp) (a.tmps.getD d.1 undef):=V d.1 _ hl;obtain⟨vs,e,hv⟩:=hs;exact⟨vs,e,Cn V hc hv⟩
  ·cases h1
theorem uT {g:Gh}{a:Act}{env:List (Nat×Slot)}(V:fi g env a):∀{tM:Der},Kc a tM→fi g (derive env tM) a
 |[],_=>V
 |d::r,⟨⟨vs,e,hv⟩,hr⟩=>by
  simp only[derive];split
  ·rename_i cs hc;intro t s hl
   by_cases et:d.1=t
   ·subst et;rw[aF]at hl
    injection hl with hl
    subst hl;exact⟨vs,e,Cm V hc hv⟩
   ·rw[aC _ _ et]at hl;exact uT V hr t s hl
  ·exact uT V hr
theorem wo {E:Env}{B:Base}{ts:List Nat}{as:List VSp}{tM:Der}{s s':St}{x:(bO as).den}(hd:oZ s.env tM=true)(h:(enc ts as).run s=some (x,s')){g:Gh}{a:Act}{w:World}(R:HRel B g s.hp w)(V:ActRel E B g s.env a):
  ∃g',(∀b L,g.ax b=some L→g'.ax b=some L)∧HRel B g' (DM ts as tM x).hp w∧ActRel E B g' (DM ts as tM x).env a:=by
 obtain⟨g',hi,R',V'⟩:=K6 (ts':=ts) h R V;exact⟨g',hi,R',⟨uT V'.env (EA V.env hd),V'.size,V'.defers,V'.kept,V'.slf⟩⟩
end Go.Abs
end

section
namespace Go.Abs
def tk (E:Env)(c:Code)(h:Handler):Prop:=
 ∀(ρ:Type) (B:Base) (s:St) (K:Exit→St→Option ρ) (x:ρ) (Q:Exit→Act→World→Prop),h ρ s K=some x→(∀e,KOk E B (K e) x (Q e))→
  ∀g a w,fj E.cd g.ax→HRel B g s.hp w→ActRel E B g s.env a→c.wp E.P Q a w
def pieces:Code→List (Bool×Code)
 | .seq a b=>(false,b)::(pieces a++pieces b)
 | .cond _ a b=>pieces a++pieces b
 | .block _ c=>pieces c
 | .loop c=>[(true,c)]
 | .scope c=>pieces c
 |_=>[]
structure CutsOk (E:Env)(H:Cuts)(c:Code):Prop where
 loop:∀b,(true,b)∈pieces c→∀h:Handler,(first b).bind H.loop=some h→tk E (.loop b) h
 join:∀b,(false,b)∈pieces c→∀h:Handler,(first b).bind H.join=some h→tk E b h
theorem CutsOk.sub {E:Env}{H:Cuts}{c d:Code}(h:CutsOk E H c)(hs:∀p∈pieces d,p∈pieces c):CutsOk E H d:=
 ⟨fun b hb=>h.loop b (hs _ hb),fun b hb=>h.join b (hs _ hb)⟩
theorem zg {s:St}{c:Operand}{t:Bool}{g:Gh}{a:Act}(h:wv s c=some t)(V:fi g s.env a):a.eval c= .bool t:=by
 unfold wv at h;split at h
 ·rename_i t';split at h
  ·rename_i b hb
   injection h with h
   subst h;exact jB (V t' _ hb)
  ·cases h
 ·injection h with h;subst h;rfl
 ·cases h
theorem uO {E:Env}(hE:EnvOk E)(hm:E.P.follows .mixedOrders=true){ρ:Type}{B:Base}{H:Cuts}:∀(c:Code)(s:St)(K:Exit→St→Option ρ)(x:ρ)(Q:Exit→Act→World→Prop),CutsOk E H c→exec E H c s K=some x→(∀e,KOk E B (K e) x (Q e))→
  ∀g a w,fj E.cd g.ax→HRel B g s.hp w→ActRel E B g s.env a→c.wp E.P Q a w:=by
 intro c
 induction c with
 |skip=>intro s K x Q _ h hK g a w hG R V;exact wp_skip (hK .normal s g a w h hG R V)
 |region id ops draw=>
  intro s K x Q _ h hK g a w hG R V;exact wZ hE hm (hK .normal) h hG R V
 |seq c1 c2 M7 QS=>
  intro s K x Q hH h hK g a w hG R V
  have h1:CutsOk E H c1:=hH.sub fun p hp=>Wj _ (WC _ hp)
  have h2:CutsOk E H c2:=hH.sub fun p hp=>Wj _ (Wy _ hp)
  refine wp_seq (M7 s _ x _ h1 h (fun e=> ?_) g a w hG R V)
  cases e with
  |normal=>
   intro s' g' a' w' hk DR R' V';simp only at hk
   cases hj:(first c2).bind H.join with
   |none=>
    rw[hj]at hk;exact QS s' K x Q h2 hk hK g' a' w' DR R' V'
   |some hh=>
    rw[hj]at hk;exact hH.join c2 (Wk ..) hh hj ρ B s' K x Q hk hK g' a' w' DR R' V'
  |_=>intro s' g' a' w' hk DR R' V';exact hK _ s' g' a' w' hk DR R' V'
 |cond c c1 c2 M7 QS=>
  intro s K x Q hH h hK g a w hG R V;simp only[exec]at h
  cases hb:wv s c with
  |none=>rw[hb]at h;cases h
  |some t=>
   rw[hb]at h;refine wp_cond (zg hb V.env) ?_;have h:brk t (exec E H c1 s K) (exec E H c2 s K)=some x:=h
   rcases AF h with⟨rfl,h'⟩|⟨rfl,h'⟩
   ·exact M7 s K x Q (hH.sub fun p hp=>WC _ hp) h' hK g a w hG R V
   ·exact QS s K x Q (hH.sub fun p hp=>Wy _ hp) h' hK g a w hG R V
 |block id c ih=>
  intro s K x Q hH h hK g a w hG R V;refine wp_block (ih s _ x _ (hH.sub fun p hp=>hp) h (fun e=> ?_) g a w hG R V)
  cases e with
  |exit i=>
   intro s' g' a' w' hk DR R' V';simp only at hk;simp only[Exit.inBlock]
   by_cases e:i=id
   ·rw[WK e];subst e;rw[Nat.beq_refl]at hk;exact hK .normal s' g' a' w' hk DR R' V'
   ·rw[Wz e]
    have:Nat.beq i id=false:=by rw[Bool.eq_false_iff];intro he;exact e (beq_eq he)
    rw[this]at hk;exact hK (.exit i) s' g' a' w' hk DR R' V'
  |_=>intro s' g' a' w' hk DR R' V';exact hK _ s' g' a' w' hk DR R' V'
 |loop c ih=>
  intro s K x Q hH h hK g a w hG R V;simp only[exec]at h
  cases hj:(first c).bind H.loop with
  |none=>rw[hj]at h;cases h
  |some hh=>
   rw[hj]at h;exact hH.loop c (Wk ..) hh hj ρ B s K x Q h hK g a w hG R V
 |exit i=>intro s K x Q _ h hK g a w hG R V;exact wp_exit (hK (.exit i) s g a w h hG R V)
 |ret=>intro s K x Q _ h hK g a w hG R V;exact wp_ret (hK .ret s g a w h hG R V)
 |label l=>intro s K x Q _ h hK g a w hG R V;exact wp_label (hK .normal s g a w h hG R V)
 |scope c ih=>
  intro s K x Q hH h hK g a w hG R V;refine wp_scope_straight (ih s _ x _ (hH.sub fun p hp=>hp) h (fun e=> ?_) g a w hG R V)
  cases e with
  |goto l=>intro s' g' a' w' hk;cases hk
  |_=>intro s' g' a' w' hk DR R' V';exact hK _ s' g' a' w' hk DR R' V'
 |_=>intro s K x Q _ h;cases h
theorem Ea {e e':Exit}(h:AB e e'=true):e=e':=by
 cases e<;>cases e'<;>first|rfl|(cases h;done)|skip
 rw[beq_eq h]
theorem vG {ρ:Type}:∀{ws:List Way1}{e:Exit}{s:St}{y:kU ws}{K:Exit→St→Option ρ}{z:ρ},xp ws e s=some y→AX ws y K=some z→
  ∃ts as tM x s',oZ s.env tM=true∧(enc ts as).run s=some (x,s')∧K e (DM ts as tM x)=some z
 |[],_,_,_,_,_,h,_=>by cases h
 |w::r,e,s,y,K,z,h,hg=>by
  simp only[xp]at h
  cases hs:AB w.e e with
  |true=>
   rw[hs]at h;simp only[Wg]at h
   cases hd:oZ s.env w.tM with
   |false=>rw[hd]at h;cases h
   |true=>
    rw[hd]at h;obtain⟨x,s',h1,h2⟩:=jR h
    injection h2 with h2
    subst h2;have hg:K w.e (DM w.ts w.as w.tM x)=some z:=hg;rw[Ea hs]at hg;exact⟨_,_,_,x,s',hd,h1,hg⟩
  |false=>
   rw[hs]at h;simp only[Wb,WT]at h;obtain⟨y',h1,h2⟩:=h
   injection h2 with h2
   subst h2;exact vG h1 hg
def mK (P:Program)(c:Code)(Q:Exit→Act→World→Prop)(a:Act)(w:World):Prop:=
 ∀(b:Frame) (k:List Item) (cs:List Frame),∃e a' w',Q e a' w'∧Arrives P (lone (b.at a (.code c:: .inLoop c::k)) cs w) b k cs e a' w'
theorem mK.wp {P:Program}{c:Code}{Q:Exit→Act→World→Prop}{a:Act}{w:World}(h:mK P c Q a w):(Code.loop c).wp P Q a w:=by
 intro b k cs;obtain⟨e,a',w',hq,wK⟩:=h b k cs;exact⟨e,a',w',hq, .of_steps (.one step_loop) wK⟩
theorem mK.round {P:Program}{c:Code}{Q:Exit→Act→World→Prop}{a:Act}{w:World}(h:c.wp P (Exit.then (mK P c Q) Q) a w):mK P c Q a w:=by
 intro b k cs;obtain⟨e,a₁,w₁,hq,wK⟩:=h b (.inLoop c::k) cs
 cases e with
 |normal=>
  obtain⟨e₂,a₂,w₂,Vf,QL⟩:=hq b k cs;exact⟨e₂,a₂,w₂,Vf, .of_steps (Steps.trans wK (.one step_inLoop)) QL⟩
 |exit id=>exact⟨_,a₁,w₁,hq, .pass (x:= .inLoop c) rfl (fun _ _=> .inl (by simp)) wK⟩
 |goto l=>exact⟨_,a₁,w₁,hq, .pass (x:= .inLoop c) rfl (fun _ _=> .inl (by simp)) wK⟩
 |ret=>exact⟨_,a₁,w₁,hq, .pass (x:= .inLoop c) rfl (fun _ _=> .inl (by simp)) wK⟩
 |panic ch=>exact⟨_,a₁,w₁,hq, .pass (x:= .inLoop c) rfl (fun _ _=> .inl (by simp)) wK⟩
 |outgrown=>exact⟨_,a₁,w₁,hq, .pass (x:= .inLoop c) rfl (fun _ _=> .inl (by simp)) wK⟩
def pO (E:Env)(c:Cut)(W:(Exit→Act→World→Prop)→Act→World→Prop)(L:(bO c.as).den→Option (kU c.ws)):Prop:=
 ∀x y,L x=some y→∀{ρ:Type} (B:Base) (K:Exit→St→Option ρ) (z:ρ) (Q:Exit→Act→World→Prop),AX c.ws y K=some z→(∀e,KOk E B (K e) z (Q e))→
  ∀g a w,fj E.cd g.ax→HRel B g (DM c.ts c.as c.tM x).hp w→ActRel E B g (DM c.ts c.as c.tM x).env a→W Q a w
def AO (E:Env)(c:Cut)(body:Code)(L:(bO c.as).den→Option (kU c.ws)):Prop:=pO E c (mK E.P body) L
def Dv (E:Env)(c:Cut)(body:Code)(L:(bO c.as).den→Option (kU c.ws)):Prop:=pO E c (fun Q=>body.wp E.P Q) L
theorem AO.none {E:Env}{c:Cut}{body:Code}:AO E c body (fun _=> .none):=fun x y h=>by cases h
theorem Dv.none {E:Env}{c:Cut}{body:Code}:Dv E c body (fun _=> .none):=fun x y h=>by cases h
theorem JG {E:Env}{B:Base}{ρ:Type}{ws:List Way1}{y:kU ws}{K:Exit→St→Option ρ}{z:ρ}{Q:Exit→Act→World→Prop}(hg:AX ws y K=some z)(hK:∀e,KOk E B (K e) z (Q e))(e:Exit):KOk E B (xp ws e) y (Q e):=by
 intro s g a w hk hG R V;obtain⟨ts,as,tM,x,s',hd,h1,h2⟩:=vG hk hg;obtain⟨g',hi,R',V'⟩:=wo hd h1 R V;exact hK e _ g' a w h2 (hG.mono hi) R' V'
theorem IT {E:Env}(hE:EnvOk E)(hm:E.P.follows .mixedOrders=true){H:Cuts}{c:Cut}{body:Code}(hH:CutsOk E H body){L:(bO c.as).den→Option (kU c.ws)}(hL:AO E c body L):AO E c body (c.round E H body L):=by
 intro x y h ρ B K z Q hg hK g a w hG R V
 apply mK.round
 refine uO hE hm body _ _ y _ hH h (fun e=> ?_) g a w hG R V
 cases e with
 |normal=>
  intro s' g' a' w' hk DR R' V';have hk:(bif oZ s'.env c.tM then(enc c.ts c.as).exec s' fun x' _=>L x' else none)=some y:=hk
  cases hd:oZ s'.env c.tM with
  |false=>rw[hd]at hk;cases hk
  |true=>
   rw[hd]at hk;obtain⟨x',s'',h1,h2⟩:=jR hk;obtain⟨g2,hi,R2,V2⟩:=wo hd h1 R' V';exact hL x' y h2 B K z Q hg hK g2 a' w' (DR.mono hi) R2 V2
 |_=>exact JG hg hK _
theorem LP {E:Env}(hE:EnvOk E)(hm:E.P.follows .mixedOrders=true){H:Cuts}{c:Cut}{body:Code}(hH:CutsOk E H body):Dv E c body (c.tail E H body):=by
 intro x y h ρ B K z Q hg hK g a w hG R V;exact uO hE hm body _ _ y _ hH h (fun e=>JG hg hK e) g a w hG R V
theorem CV {E:Env}{c:Cut}{body:Code}{L:(bO c.as).den→Option (kU c.ws)}(hL:AO E c body L):tk E (.loop body) (c.tE L):=by
 intro ρ B s K x Q h hK g a w hG R V;have h:(bif oZ s.env c.tM then(enc c.ts c.as).exec s fun x _=>(L x).bind fun y=>AX c.ws y K else none)=some x:=h
 cases hd:oZ s.env c.tM with
 |false=>rw[hd]at h;cases h
 |true=>
  rw[hd]at h;obtain⟨x0,s',h1,h2⟩:=jR h;simp only[WT]at h2;obtain⟨y,h3,h4⟩:=h2;obtain⟨g2,hi,R2,V2⟩:=wo hd h1 R V;exact(hL x0 y h3 B K x Q h4 hK g2 a w (hG.mono hi) R2 V2).wp
theorem C2 {E:Env}{c:Cut}{body:Code}{L:(bO c.as).den→Option (kU c.ws)}(hL:Dv E c body L):tk E body (c.tE L):=by
 intro ρ B s K x Q h hK g a w hG R V;have h:(bif oZ s.env c.tM then(enc c.ts c.as).exec s fun x _=>(L x).bind fun y=>AX c.ws y K else none)=some x:=h
 cases hd:oZ s.env c.tM with
 |false=>rw[hd]at h;cases h
 |true=>
  rw[hd]at h;obtain⟨x0,s',h1,h2⟩:=jR h;simp only[WT]at h2;obtain⟨y,h3,h4⟩:=h2;obtain⟨g2,hi,R2,V2⟩:=wo hd h1 R V;exact hL x0 y h3 B K x Q h4 hK g2 a w (hG.mono hi) R2 V2
end Go.Abs
end

section
namespace Go.Abs
theorem Pass.back {ax:Rd}{w0 w:World}:∀{s:Sp}{x:s.ty.den}{pl:Nat×Nat}{old us:List Value}{nb:List Nat},s.plain=true→Pass ax w s x pl us nb→mM ax w0 w s x pl old us nb
 | .un,_,_,_,_,_,_,k=>k
 | .pr _ _,_,_,_,_,_,hp,⟨u1,u2,n1,n2,e,e',k1,k2⟩=>by
  simp only[Sp.plain,V6]at hp;exact⟨u1,u2,n1,n2,e,e',Pass.back hp.1 k1,Pass.back hp.2 k2⟩
 | .cf _,_,_,_,_,_,_,k=>k
 | .own _ _,_,_,_,_,_,_,k=>k
 | .nR,_,_,_,_,_,_,k=>k
 | .vj _,_,_,_,_,_,hp,_=>by cases hp
 | .err,_,_,_,_,_,_,k=>k
 | .np,_,_,_,_,_,_,k=>k
 | .slf _ _,_,_,_,_,_,hp,_=>by cases hp
 | .ptr _ _ _,_,_,_,_,_,hp,_=>by cases hp
 | .vg _ _,_,_,_,_,_,hp,_=>by cases hp
theorem rD.res {ax:Rd}{w:World}{a:VSp}{x:a.sp.ty.den}{u:Value}{nb:List Nat}(hp:a.sp.plain=true)(h:rD ax w a x u nb):xr ax w a x u nb:=by
 cases a with
 |one s=>exact⟨h.1,Pass.back hp h.2⟩
 |agg s=>obtain⟨us,e,h⟩:=h;exact⟨us,e,Pass.back hp h⟩
theorem gb.res {ax:Rd}{w:World}:∀{as:List VSp}{x:(bO as).den}{us:List Value}{nb:List Nat},tz as=true→gb ax w as x us nb→rq ax w as x us nb
 |[],_,_,_,_,h=>h
 |_::_,_,_,_,hp,⟨u,r,n1,n2,e,e',h1,h2⟩=>by
  simp only[tz,V6]at hp;exact⟨u,r,n1,n2,e,e',h1.res hp.1,gb.res hp.2 h2⟩
def AP (tmps:Array Value):ResultVar→Sem Value
 | .tmp t=>pure (tmps.getD t undef)
 | .cell c t=>do loadVar t (←asAddr (tmps.getD c undef))
theorem CK {E:Env}{r:ResultVar}{s s':St}{v:Val}(h:(DA E r).run s=some (v,s')):s'.env=s.env∧∀{B:Base}{g:Gh}{a:Act}{w:World},fj E.cd g.ax→HRel B g s.hp w→fi g s.env a→
  ∃u g',(AP a.tmps r).run E.P w= .ok u w∧Le g g'∧HRel B g' s'.hp w∧cG g' v u:=by
 cases r with
 |tmp t=>
  simp only[DA,AM.run]at h;split at h
  ·rename_i sl xy;obtain⟨rfl,rfl⟩:=pI h;exact⟨rfl,fun _ R V=>⟨_,_,rfl,Le.refl _,R,V t _ xy⟩⟩
  ·cases h
 |cell c t=>
  simp only[DA,AM.run]at h;split at h
  ·rename_i sl xy;obtain⟨ag,t2,h3,h4⟩:=AM.ai h;obtain⟨n,t3,h5,h6⟩:=AM.ai h4;obtain⟨cs,t4,h7,h9⟩:=AM.ai h6;obtain⟨Hy,rfl⟩:=bw h3;obtain⟨hn,rfl⟩:=bw h5;obtain rfl:=Ay h9;obtain⟨he,hr⟩:=zQ h7;refine⟨he,fun{B g a w} hG R V=> ?_⟩;obtain⟨b,o',us,g',e,Fp,hlen,l,R',hc⟩:=hr hG.one R (V c _ xy);obtain⟨_,hv⟩:=sJ h9 hc;have wP:=zU (E:=E) (w:=w) Hy hn hlen Fp
   have QI:(loadVar t ⟨b,o',none⟩).run E.P w= .ok (if ag then .agg us.toArray else us.getD 0 undef) w:=by simpa[Instr.loadAt,Instr.sureAddr]using wP
   refine⟨if ag then .agg us.toArray else us.getD 0 undef,g', ?_,l,R', ?_⟩
   ·show(do loadVar t (←asAddr (a.tmps.getD c undef)):Sem Value).run E.P w=_;rw[e];simpa[asAddr]using QI
   ·rcases hv with⟨rfl,hv⟩|⟨rfl,u,rfl,hv⟩
    ·exact hv
    ·exact hv
  ·cases h
theorem mc {E:Env}:∀{rs:List ResultVar}{s s':St}{vs:List Val},(wy E rs).run s=some (vs,s')→s'.env=s.env∧∀{B:Base}{g:Gh}{a:Act}{w:World},fj E.cd g.ax→HRel B g s.hp w→fi g s.env a→
  ∃us g',(rs.mapM (AP a.tmps)).run E.P w= .ok us w∧Le g g'∧HRel B g' s'.hp w∧db g' vs us
 |[],s,s',vs,h=>by
  obtain⟨rfl,rfl⟩:=aq h;exact⟨rfl,fun _ R _=>⟨[],_,by simp,Le.refl _,R,rfl⟩⟩
 |r::rs,s,s',vs,h=>by
  obtain⟨v,t,h1,h2⟩:=AM.ai h;obtain⟨Ri,t2,h3,h4⟩:=AM.ai h2;obtain⟨rfl,rfl⟩:=aq h4;obtain⟨e1,k1⟩:=CK h1;obtain⟨e2,k2⟩:=mc h3;refine⟨e2.trans e1,fun{B g a w} hG R V=> ?_⟩;obtain⟨u,g1,a1,l1,R1,v1⟩:=k1 hG R V;obtain⟨us,g2,a2,l2,R2,v2⟩:=k2 (hG.mono l1.ax) R1 (by rw[e1];exact V.mono l1);refine⟨u::us,g2, ?_,l1.trans l2,R2,⟨u,us,rfl,v1.mono l2,v2⟩⟩;rw[List.mapM_cons];simp only[Sem.run_bind,a1,Result.andThen_ok,a2];rfl
theorem sU:∀{sp:Sp}{p:sp.o5.den}{s s':St},(Hi sp).run s=some (p,s')→s'=s∧∀ax w0 w us,yx ax w0 w sp p us []
 | .un,_,_,_,h=>by obtain⟨rfl,rfl⟩:=aq h;exact⟨rfl,fun _ _ _ _=>rfl⟩
 | .cf _,_,_,_,h=>by obtain⟨rfl,rfl⟩:=aq h;exact⟨rfl,fun _ _ _ _=>rfl⟩
 | .own _ _,_,_,_,h=>by obtain⟨rfl,rfl⟩:=aq h;exact⟨rfl,fun _ _ _ _=>rfl⟩
 | .vj _,_,_,_,h=>by obtain⟨rfl,rfl⟩:=aq h;exact⟨rfl,fun _ _ _ _=>rfl⟩
 | .nR,_,_,_,h=>by obtain⟨rfl,rfl⟩:=aq h;exact⟨rfl,fun _ _ _ _=>rfl⟩
 | .err,_,_,_,h=>by obtain⟨rfl,rfl⟩:=aq h;exact⟨rfl,fun _ _ _ _=>rfl⟩
 | .np,_,_,_,h=>by obtain⟨rfl,rfl⟩:=aq h;exact⟨rfl,fun _ _ _ _=>rfl⟩
 | .slf _ _,_,_,_,h=>by obtain⟨rfl,rfl⟩:=aq h;exact⟨rfl,fun _ _ _ _=>rfl⟩
 | .ptr _ _ _,_,_,_,h=>by cases h
 | .vg _ _,_,_,_,h=>by cases h
 | .pr a b,p,s,s',h=>by
  obtain⟨x,t,h1,h2⟩:=AM.ai h;obtain⟨y,t2,h3,h4⟩:=AM.ai h2;obtain⟨rfl,rfl⟩:=aq h4;obtain⟨rfl,k1⟩:=sU h1;obtain⟨rfl,k2⟩:=sU h3;exact⟨rfl,fun ax w0 w us=>⟨[],[],rfl,k1 _ _ _ _,k2 _ _ _ _⟩⟩
theorem aA.head {g:Gh}{c:Cell}{cs:List Cell}{us:List Value}(h:aA g (c::cs) us){n:Nat}{Ho:List Value}(e:Ho=us.take (n+1)):∃u,aV g c u∧Ho=u::(us.drop 1).take n:=by
 obtain⟨u,r,e',hu,_⟩:=h;subst e';exact⟨u,hu,by rw[e];rfl⟩
theorem CO:∀{sp:Sp}{cells:List Cell}{s s':St}{p:sp.o5.den}{rest:List Cell},(DB sp cells).run s=some ((p,rest),s')→s'.env=s.env∧rest=cells.drop sp.size∧
  ∀{B:Base} {g:Gh} {w0 w:World} {jh:Rd} {x0:sp.ty.den} {rp:Nat×Nat} {us:List Value} {Iw:List Nat},HRel B g s.hp w→aA g (cells.take sp.size) us→Pass jh w0 sp x0 rp us Iw→
   ∃g' nb,Lk g g'∧HRel B g' s'.hp w∧cF g' nb∧(∀b∈nb,g.cM b≠some 0)∧yx g'.ax w0 w sp p us nb:=by
 intro sp
 have nil:∀{sp:Sp} {p:sp.o5.den} {B:Base} {g:Gh} {hp:List (Nat×Obj)} {w0 w:World} {us:List Value},HRel B g hp w→(∀ax,yx ax w0 w sp p us [])→
   ∃g' nb,Lk g g'∧HRel B g' hp w∧cF g' nb∧(∀b∈nb,g.cM b≠some 0)∧yx g'.ax w0 w sp p us nb:=fun{sp p B g hp w0 w us} R h=>
  ⟨g,[],Lk.refl g,R,⟨WM,fun b hb=>by simp at hb⟩,fun b hb=>by simp at hb,h _⟩
 induction sp with
 |un=>intro cells s s' p rest h;obtain⟨h1,rfl⟩:=aq h;injection h1 with h1 h2;subst h2;exact⟨rfl,rfl,fun R _ _=>nil R fun _=>rfl⟩
 |cf τ=>intro cells s s' p rest h;cases cells with|nil=>exact nomatch h|cons c cs=>obtain⟨h1,rfl⟩:=aq h;injection h1 with h1 h2;subst h2;exact⟨rfl,rfl,fun R _ _=>nil R fun _=>rfl⟩
 |own τ dp=>intro cells s s' p rest h;cases cells with|nil=>exact nomatch h|cons c cs=>obtain⟨h1,rfl⟩:=aq h;injection h1 with h1 h2;subst h2;exact⟨rfl,rfl,fun R _ _=>nil R fun _=>rfl⟩
 |err=>intro cells s s' p rest h;cases cells with|nil=>exact nomatch h|cons c cs=>obtain⟨h1,rfl⟩:=aq h;injection h1 with h1 h2;subst h2;exact⟨rfl,rfl,fun R _ _=>nil R fun _=>rfl⟩
 |np=>intro cells s s' p rest h;cases cells with|nil=>exact nomatch h|cons c cs=>obtain⟨h1,rfl⟩:=aq h;injection h1 with h1 h2;subst h2;exact⟨rfl,rfl,fun R _ _=>nil R fun _=>rfl⟩
 |slf f m=>intro cells s s' p rest h;cases cells with|nil=>exact nomatch h|cons c cs=>obtain⟨h1,rfl⟩:=aq h;injection h1 with h1 h2;subst h2;exact⟨rfl,rfl,fun R _ _=>nil R fun _=>rfl⟩
 |nR=>intro cells s s' p rest h;cases cells<;>exact nomatch h
 |vj ok=>intro cells s s' p rest h;cases cells with|nil=>exact nomatch h|cons c cs=>obtain⟨h1,rfl⟩:=aq h;injection h1 with h1 h2;subst h2;exact⟨rfl,rfl,fun R _ _=>nil R fun _=>rfl⟩
 |pr a b BQ BT=>
  intro cells s s' p rest h;obtain⟨⟨p1,r1⟩,t,h1,h2⟩:=AM.ai h;obtain⟨⟨q1,q2⟩,t2,h3,h4⟩:=AM.ai h2;obtain⟨h5,rfl⟩:=aq h4
  injection h5 with h5 h6
  subst h5;subst h6;obtain⟨ea,ra,sa⟩:=BQ h1;obtain⟨eb,rb,sb⟩:=BT h3;have ra:r1=cells.drop a.size:=ra;have rb:rest=r1.drop b.size:=rb;refine⟨eb.trans ea,by rw[rb,ra,List.drop_drop],fun{B g w0 w jh x0 rp us Iw} R hc hP=> ?_⟩;obtain⟨u1,u2,m1,m2,rfl,rfl,P1,P2⟩:=hP;have lO:=P1.length
  have c1:aA g (cells.take a.size) u1:=by
   have:=hc.take a.size;rw[List.take_take,Nat.min_eq_left (by show a.size≤a.size+b.size;omega),←lO,List.take_left,lO]at this;exact this
  have c2:aA g (r1.take b.size) u2:=by
   have:=hc.drop a.size;rw[show(Sp.pr a b).size=a.size+b.size from rfl,List.drop_take,show a.size+b.size - a.size=b.size by omega,←ra,←lO,List.drop_left]at this;exact this
  obtain⟨g1,n1,l1,R1,O1,f1,X1⟩:=sa R c1 P1;obtain⟨g2,n2,l2,R2,O2,f2,X2⟩:=sb R1 (c2.mono l1.le) P2;refine⟨g2,n1++n2,l1.trans l2,R2,cF.append l2 O1 O2 f2,fun b hb=> ?_,n1,n2,rfl, ?_, ?_⟩
  ·rcases Wu.1 hb with hb|hb
   ·exact f1 b hb
   ·exact fun e=>f2 b hb (l1.kp b e).1
  ·rw[←lO,List.take_left];exact nO l2.le.ax X1
  ·rw[←lO,List.drop_left];exact X2
 |vg τ dp=>
  intro cells s s' p rest h;exact nomatch h
 |ptr wh st sr ih=>
  intro cells s s' p rest h
  cases cells with
  |nil=>exact nomatch h
  |cons c cs=>
   obtain⟨hb,h0⟩:=aX h;simp only[V6]at hb;obtain⟨⟨x,r⟩,t,h1,h2⟩:=AM.ai h0;obtain⟨h3,rfl⟩:=aq h2
   injection h3 with h3 h4
   subst h3;subst h4;obtain⟨k,_,hs⟩:=uP (.ptr wh st sr) _ _ _ _ _ _ h1;refine⟨k.1,rfl,fun{B g w0 w jh x0 rp us Iw} R hc hP=> ?_⟩;obtain⟨g',l,R',IG⟩:=hs B g w R;obtain⟨u1,u2,nb,e,P1,O1,r1,f1,_⟩:=IG us (0,0) hc (gg.none _ _);have hl:us.length=1:=hP.length;have lO:u1.length=1:=P1.length;have vh:u2=[]:=WL (by have:=congrArg List.length e;simp at this;omega);subst vh;rw[Wv]at e;subst e;refine⟨g',nb,l,R',O1,f1, ?_⟩;obtain⟨b,o,arr,ty,fV,e,rfl,ha,S8,_,Rs⟩:=P1;obtain⟨rfl,iE,rfl⟩:=S8.1 hb.2;obtain⟨b0,o0,ql,Kq,nb0',e0,_,K2,Tq,_,_⟩:=hP;obtain⟨rfl,P4,rfl⟩:=Tq.1 hb.2;rw[e]at e0
   injection e0 with e0 _;injection e0 with e0;injection e0 with e0;injection e0 with e0 _
   subst e0
   have nd:(arr.toList.drop 0).take sr.size=arr.toList:=by
    rw[List.drop_zero];exact List.take_of_length_le (by simp[iE])
   rw[nd]at Rs;have hd:ql.toList.drop (0+arr.toList.length)=[]:=List.drop_eq_nil_of_le (by simp[iE,P4]);refine⟨b,0,ql,_,arr,arr.toList,fV,e,rfl,rfl,K2,ha, ?_,by simp[iE,P4],by simpa using iE,Rs.back hb.1⟩;rw[hd];simp
theorem Bw {E:Env}:∀{as:List VSp}{n:Nat}{s s':St}{y:(oW as).den},(Dl E.jF as n).run s=some (y,s')→
  ∀{B:Base} {g:Gh} {a:Act} {w0 w:World} {jh:Rd} {x0:(bO as).den} {args:List Value} {Iw:List Nat},HRel B g s.hp w→ActRel E B g s.env a→gb jh w0 as x0 args Iw→(∀k u,args[k]?=some u→B.arg (n+k)=u)→
   ∃g' nb,Lk g g'∧HRel B g' s'.hp w∧cF g' nb∧(∀b∈nb,g.cM b≠some 0)∧iO g'.ax w0 w as y args nb:=by
 intro as
 induction as with
 |nil=>
  intro n s s' y h B g a w0 w jh x0 args Iw R V hP hA;obtain⟨_,rfl⟩:=aq h;exact⟨g,[],Lk.refl g,R,⟨WM,fun b hb=>by simp at hb⟩,fun b hb=>by simp at hb,hP.1,rfl⟩
 |cons sp as ih=>
  intro n s s' y h B g a w0 w jh x0 args Iw R V hP hA;obtain⟨u,r,m1,m2,rfl,rfl,P1,P2⟩:=hP
  have T6:∀k v,r[k]?=some v→B.arg (n+1+k)=v:=fun k v hk=>by
   have:=hA (k+1) v (by simpa using hk);rw[show n+1+k=n+(k+1)by omega];exact this
  obtain⟨p,t,h1,h2⟩:=AM.ai h;obtain⟨q,t2,h3,h4⟩:=AM.ai h2;obtain⟨rfl,rfl⟩:=aq h4
  cases ho:sp.sp.DJ with
  |false=>
   rw[ho]at h1;obtain⟨rfl,k⟩:=sU h1;obtain⟨g',nb,l,R',hO,hf,hX⟩:=ih h3 R V P2 T6;exact⟨g',nb,l,R',hO,hf,u,r,[],nb,rfl,rfl,k _ _ _ _,hX⟩
  |true=>
   rw[ho]at h1;obtain⟨hb,h0⟩:=aX h1;obtain⟨v,t0,h5,h6⟩:=AM.ai h0;obtain⟨⟨p',rest⟩,t1,h7,h8⟩:=AM.ai h6;obtain⟨rfl,rfl⟩:=aq h8;simp only[AM.run]at h5;split at h5
   ·rename_i sl xy;obtain⟨rfl,rfl⟩:=pI h5;obtain⟨e1,_,hs⟩:=CO h7
    have IA:cG g v u:=by
     have h1:bV g (.val v) (a.tmps.getD n undef):=V.env n _ xy;obtain⟨k,hk,Vo⟩:=List.any_eq_true.1 hb;rw[V.kept n (by rw[beq_eq Vo];exact hk),show B.arg n=u from hA 0 u rfl]at h1;exact h1
    have fQ:=IA.cells
    have Ro:∃rp,Pass jh w0 sp.sp x0.1 rp u.cells.toList m1:=by
     cases sp with
     |one sq=>exact⟨(0,0),by rw[Ci P1.1];exact P1.2⟩
     |agg sq=>obtain⟨us,rfl,P1⟩:=P1;exact⟨(0,0),P1⟩
    obtain⟨rp,Ro⟩:=Ro;have hlen:=fQ.length;rw[Ro.length]at hlen;have Ra:v.cells.take sp.sp.size=v.cells:=(by rw[hlen,List.take_length]);obtain⟨g1,n1,l1,R1,MP,Rb,X1⟩:=hs R (by rw[Ra];exact fQ) Ro;obtain⟨g2,n2,l2,R2,Gu,Ul,hX⟩:=ih h3 R1 ((V.mono l1.le).DK e1) P2 T6;refine⟨g2,n1++n2,l1.trans l2,R2,cF.append l2 MP Gu Ul,fun b hb=> ?_,u,r,n1,n2,rfl,rfl,nO l2.le.ax X1,hX⟩
    rcases Wu.1 hb with hb|hb
    ·exact Rb b hb
    ·exact fun e=>Ul b hb (l1.kp b e).1
   ·cases h5
theorem sN {P:Program}{fn:Func}{tmps:Array Value}{w:World}{us:List Value}(h:(fn.results.toList.mapM (AP tmps)).run P w= .ok us w):
  (results fn tmps).run P w= .ok (match us with|[u]=>u|us=> .tuple us.toArray) w:=by
 have e:(fn.results.mapM (AP tmps)).run P w= .ok us.toArray w:=by
  rw[Array.mapM_eq_mapM_toList];simp[h]
 have hr:results fn tmps=(do
  let vs←fn.results.mapM (AP tmps)
  pure (if h:vs.size=1 then vs[0]else .tuple vs)):=rfl
 rw[hr];simp only[Sem.run_bind,e,Result.andThen_ok,Sem.run_pure]
 match us with
 |[]=>rfl
 |[u]=>rfl
 |u::v::r=>rfl
theorem sC {g:Gh}:∀{vs:List Val}{us:List Value},db g vs us→us.length=vs.length
 |[],_,h=>by have h:_=_:=h;subst h;rfl
 |_::_,_,⟨_,_,e,_,hr⟩=>by subst e;simp[sC hr]
theorem CX {E:Env}{fn:Func}{r:RSp}{s s':St}{y:r.ty.den}(h:(JF E fn.results.toList r).run s=some (y,s')):s'.env=s.env∧∀{B:Base}{g:Gh}{a:Act}{w:World},fj E.cd g.ax→HRel B g s.hp w→fi g s.env a→
  ∃v g' nb,(results fn a.tmps).run E.P w= .ok v w∧Le g g'∧HRel B g' s'.hp w∧cF g' nb∧uw g'.ax w r y v nb:=by
 cases r with
 |none=>
  obtain⟨vs,t,h1,h2⟩:=AM.ai h;split at h2
  ·obtain⟨_,rfl⟩:=aq h2;obtain⟨e1,k1⟩:=mc h1;refine⟨e1,fun{B g a w} hG R V=> ?_⟩;obtain⟨us,g1,a1,l1,R1,v1⟩:=k1 hG R V;have v1:us=[]:=v1;subst v1;exact⟨_,g1,[],sN a1,l1,R1,⟨WM,fun b hb=>by simp at hb⟩,rfl,rfl⟩
  ·cases h2
 |val sp=>
  obtain⟨vs,t,h1,h2⟩:=AM.ai h;obtain⟨hp,h3⟩:=aX h2;split at h3
  ·rename_i v;obtain⟨e1,k1⟩:=mc h1;obtain⟨e2,k2⟩:=xS h3;refine⟨e2.1.trans e1,fun{B g a w} hG R V=> ?_⟩;obtain⟨us,g1,a1,l1,R1,v1⟩:=k1 hG R V;obtain⟨u,rfl,hv⟩:=EM v1 rfl;obtain⟨g2,l2,R2,c2⟩:=k2 B g1 w R1;obtain⟨nb,hP,hO,_⟩:=c2 u hv;exact⟨u,g2,nb,sN a1,l1.trans l2.le,R2,hO,hP.res hp⟩
  ·cases h3
 |vi as=>
  obtain⟨vs,t,h1,h2⟩:=AM.ai h;obtain⟨hp,h3⟩:=aX h2;split at h3
  ·cases h3
  ·rename_i nL;obtain⟨e1,k1⟩:=mc h1;obtain⟨e2,k2⟩:=nx h3;refine⟨e2.1.trans e1,fun{B g a w} hG R V=> ?_⟩;obtain⟨us,g1,a1,l1,R1,v1⟩:=k1 hG R V;obtain⟨g2,l2,R2,c2⟩:=k2 B g1 w R1;obtain⟨nb,hP,hO,_⟩:=c2 us v1;have hl:=sC v1;have hr:=sN a1;refine⟨.tuple us.toArray,g2,nb, ?_,l1.trans l2.le,R2,hO,us,rfl,hP.res hp⟩;rw[hr]
   match us,hl with
   |[],_=>rfl
   |[u],hl=>
    exfalso
    match vs,hl with
    |[v],_=>exact nL v rfl
   |u::v::r,_=>rfl
theorem rM {ax:Rd}{w:World}:∀{as:List VSp}{x:(bO as).den}{us:List Value}{nb:List Nat},gb ax w as x us nb→us.length=as.length
 |[],_,_,_,h=>by rw[h.1];rfl
 |_::_,_,_,_,⟨u,r,n1,n2,e,_,_,h⟩=>by rw[e];simp[rM h]
theorem uj {a:Act}:∀(as:List VSp)(n:Nat)(us:List Value),us.length=as.length→(∀k u,us[k]?=some u→a.tmps.getD (n+k) undef=u)→s4 a (upto as n) us
 |[],_,us,h,_=>WL h
 |_::as,n,[],h,_=>by simp at h
 |_::as,n,u::r,h,hk=>⟨u,r,rfl,hk 0 u rfl,uj as (n+1) r (by simpa using h) fun k v hv=>by
   have:=hk (k+1) v (by simpa using hv)
   rw[show n+1+k=n+(k+1)by omega];exact this⟩
theorem Di {E:Env}(hE:EnvOk E)(hm:E.P.follows .mixedOrders=true){f:FuncId}{fn:Func}{c:Code}{sg:Sig}{H:Cuts}(hf:E.P.funcs[f]?=some fn)(hb:fn.body=some c)(Fm:(fn.name== "runtime.NumGoroutine")=false)
  (UI:fn.ntmps=E.nt) (Hu:sg.args.length≤E.nt) (QG:(E.jF.all fun t=>Nat.blt t sg.args.length)=true) (II:kS sg.args=true) (xy:E.slf=At sg.args) (hH:CutsOk E H c):rm E.P E.cd f ⟨sg,AZ E fn sg H⟩:=by
 classical
 intro x y hF ax w args nb hG fQ hP kY o9 UD;have hF:AZ E fn sg H x=some y:=hF;unfold AZ at hF;rw[hb]at hF
 have Fq:(callFunc f args.toArray).run E.P w= .ok (.enter f args.toArray) w:=by
  have h1:fn.name≠ "runtime.NumGoroutine" :=(by simpa using Fm)
  simp[callFunc,hf,h1,hb]
 unfold eS;rw[Fq];simp only;have hlen:args.length=sg.args.length:=rM hP
 let B:Base:={ax:=ax,cM:=fun b=>if b∈nb then some 0 else none,w:=w,arg:=fun t=>args.getD t undef}
 let g0:Gh:={ax:=ax,top:=fun _=>0,cv:=fun _ _=> .tuple #[],cM:=fun b=>if b∈nb then some 0 else none,ed:=fun _=>none,outer:=fun _=>[]}
 have R0:HRel B g0 [] w:=by
  refine⟨fun _=>rfl,(fun i o h=>by cases h),fun b L h=> ?_,(fun b L h=>by cases h),fun b h=> ?_,fun b L h=>h,fun b hb hl hi=>⟨hl,hi,rfl⟩,Wp _,rfl,rfl,rfl,fun _ _ _=>rfl⟩
  ·have:b∉nb:=fun hm=>by
    have h1:=(o9 b hm).1;have h:ax b=some L:=h;rw[h1]at h;cases h
   exact⟨by simp[g0,this],rfl,fQ b L h⟩
  ·by_cases hm:b∈nb
   ·exact(o9 b hm).2
   ·simp[g0,hm]at h
 refine calls_of_wp hf hb ?_
 let a0:Act:={tmps:=args.toArray++Array.replicate (fn.ntmps - args.toArray.size) undef,defers:=[]}
 have Im:∀k u,args[k]?=some u→a0.tmps.getD k undef=u:=by
  intro k u hk;have fP:=(List.getElem?_eq_some_iff.1 hk).1;simp only[a0,Array.getD_eq_getD_getElem?];rw[Array.getElem?_append_left (by simpa using fP)];simp[hk]
 have iE:a0.tmps.size=E.nt:=by
  simp only[a0,Array.size_append,Array.size_replicate,List.size_toArray,UI];omega
 obtain⟨g1,l1,R1,V1⟩:=Cc (E:=E) (ts:=upto sg.args 0) (x:=x) (a:=a0) II R0 hP ⟨kY,fun b hb=>by simp[g0,hb]⟩ (fun _ _=>rfl) (uj sg.args 0 args hlen fun k u hk=>by rw[Nat.zero_add];exact Im k u hk) iE rfl (fun t ht=>by
  have:=Wr (List.all_eq_true.1 QG t ht);have fP:t<args.length:=(by omega);rw[Im t args[t] (Wl fP)]
  simp[B,fP]) (fun f ts hE nL=>by
  rw[xy]at hE;unfold At at hE
  cases Tv:wC sg.args with
  |none=>rw[Tv]at hE;cases hE
  |some p=>
   rw[Tv]at hE
   injection hE with hE;injection hE with yy VO
   subst yy;subst VO;obtain⟨b,ty,q1,q2,q3,q4⟩:=UD p.1 p.2 Tv
   have hm:p.2<args.length:=by
    rcases Nat.lt_or_ge p.2 args.length with h|h
    ·exact h
    ·exact absurd (List.drop_eq_nil_of_le (by rw[List.length_range,←hlen];exact h)) nL
   have OP:(List.range sg.args.length).map B.arg=args:=by
    rw[←hlen]
    apply List.ext_getElem (by simp)
    intro i h1 h2;simp[B,h2]
   have QY:((List.range sg.args.length).drop p.2).map B.arg=args.drop p.2:=(by rw[List.map_drop,OP]);refine⟨b,ty, ?_,by rw[QY];exact q2,by simp[B,q3],q4⟩
   have hl:((List.range sg.args.length).drop p.2).getLastD 0=args.length - 1:=by
    rw[List.getLastD_eq_getLast?,List.getLast?_drop,Wz (by rw[List.length_range,←hlen];omega),←hlen,List.getLast?_range];simp only[show args.length≠0 by omega,WY,Option.getD_some]
   rw[hl];have:args[args.length - 1]?=some (.pointer (some ⟨b,0,none⟩)):=(by rw[←q1,List.getLast?_eq_getElem?])
   simp[B,this])
 refine uO hE hm c _ _ y _ hH hF (fun e=> ?_) g1 a0 w (hG.mono l1.ax) R1 V1
 have fin:∀s g a w',(finish E fn.results.toList sg).exec s (fun r _=>some r)=some y→fj E.cd g.ax→HRel B g s.hp w'→ActRel E B g s.env a→
   a.defers=[]∧∃v,(results fn a.tmps).run E.P w'= .ok v w'∧(∃v',Ending.returned v= .returned v'∧∃cH n1 n2,After ax w nb cH w' (n1++n2)∧uw cH w' sg.res y.1 v' n1∧iO cH w w' sg.args y.2 args n2):=by
  intro s g a w' hk DR R V;obtain⟨y',s',h1,h2⟩:=jR hk
  injection h2 with h2
  subst h2;obtain⟨r,t,h3,h4⟩:=AM.ai h1;obtain⟨o,t2,h5,h6⟩:=AM.ai h4;obtain⟨h7,rfl⟩:=aq h6;obtain⟨e1,k1⟩:=CX h3;obtain⟨v,g2,n1,hr,l2,R2,Gu,Tn⟩:=k1 DR R V.env;obtain⟨g3,n2,l3,R3,U5,U1,hOut⟩:=Bw h5 R2 ((V.mono l2).DK e1) hP (fun k u hk=>by simp[B,hk]);have hO:=cF.append l3 Gu U5 U1;refine⟨V.defers,v,hr,v,rfl,g3.ax,n1,n2,⟨fun b L hb=>R3.jh b L hb,fun b L hb=>(R3.ax b L hb).2.2,fun b h1 h2 h3=> ?_,hO.1,fun b hb=> ?_,R3.size,R3.os,R3.tape,R3.output,fun b L hb=>R3.fix b L hb⟩, ?_, ?_⟩
  ·have hl:B.cM b=none:=(by simp[B,h2]);obtain⟨_,f2,f3⟩:=R3.frame b h1 hl h3;exact⟨f3,f2⟩
  ·have Iu:=hO.2 b hb
   have hi:g3.ax b=none:=by
    cases hi:g3.ax b with
    |none=>rfl
    |some L=>have:=(R3.ax b L hi).1;rw[Iu]at this;cases this
   refine⟨hi, ?_,R3.ey b (by rw[Iu];simp)⟩
   rcases Nat.lt_or_ge b w.heap.size with h1|h1
   ·left
    apply Classical.byContradiction
    intro h2;have hl:B.cM b=none:=(by simp[B,h2])
    have h3:ax b=none:=by
     cases h3:ax b with
     |none=>rfl
     |some L=>have:=R3.jh b L h3;rw[hi]at this;cases this
    obtain⟨f1,_⟩:=R3.frame b h1 hl h3;rw[f1]at Iu;cases Iu
   ·exact .inr h1
  ·rw[h7];exact z7 l3.le.ax Tn
  ·rw[h7];exact hOut
 cases e with
 |normal=>intro s g a w' hk DR R V;exact fin s g a w' hk DR R V
 |ret=>intro s g a w' hk DR R V;exact fin s g a w' hk DR R V
 |_=>intro s g a w' hk;cases hk
end Go.Abs
end

section
namespace Go.Abs
def ba:Code→List (Bool×Code)
 | .seq a b=>(false,b)::(ba a++ba b)
 | .cond _ a b=>ba a++ba b
 | .block _ c=>ba c
 | .loop c=>(true,c)::ba c
 | .scope c=>ba c
 |_=>[]
def iC (k:Bool)(r:Nat):List (Bool×Code)→Code
 |[]=> .skip
 |p::q=>bif(p.1==k)&&(match first p.2 with|some n=>Nat.beq n r|none=>false)then p.2 else iC k r q
theorem FW:∀(c:Code),∀p∈pieces c,p∈ba c:=by
 intro c
 induction c with
 |seq a b BQ BT=>
  intro p hp;simp only[pieces,ba,WE,Wu]at hp⊢
  rcases hp with h|h|h
  ·exact .inl h
  ·exact .inr (.inl (BQ p h))
  ·exact .inr (.inr (BT p h))
 |cond c a b BQ BT=>
  intro p hp;simp only[pieces,ba,Wu]at hp⊢;exact hp.imp (BQ p) (BT p)
 |block id c ih=>exact ih
 |loop c ih=>intro p hp;simp only[pieces,ba,WE,List.not_mem_nil,or_false]at hp⊢;exact .inl hp
 |scope c ih=>exact ih
 |_=>intro p hp;cases hp
theorem yf:∀(c:Code),∀p∈ba c,∀q∈ba p.2,q∈ba c:=by
 intro c
 induction c with
 |seq a b BQ BT=>
  intro p hp q hq;simp only[ba,WE,Wu]at hp⊢
  rcases hp with rfl|h|h
  ·exact .inr (.inr hq)
  ·exact .inr (.inl (BQ p h q hq))
  ·exact .inr (.inr (BT p h q hq))
 |cond c a b BQ BT=>
  intro p hp q hq;simp only[ba,Wu]at hp⊢
  rcases hp with h|h
  ·exact .inl (BQ p h q hq)
  ·exact .inr (BT p h q hq)
 |block id c ih=>exact ih
 |loop c ih=>
  intro p hp q hq;simp only[ba,WE]at hp⊢
  rcases hp with rfl|h
  ·exact .inr hq
  ·exact .inr (ih p h q hq)
 |scope c ih=>exact ih
 |_=>intro p hp;cases hp
theorem zX {k:Bool}{b:Code}{r:Nat}:∀{l:List (Bool×Code)},(∀p∈l,first p.2=some r→p.1=k→p=(k,b))→(k,b)∈l→first b=some r→iC k r l=b
 |[],_,h,_=>by simp at h
 |p::q,hu,h,hf=>by
  simp only[iC]
  cases hc:((p.1==k)&&(match first p.2 with|some n=>Nat.beq n r|none=>false))with
  |true=>
   simp only[V6,beq_iff_eq]at hc
   have h2:first p.2=some r:=by
    cases hp:first p.2 with
    |none=>rw[hp]at hc;cases hc.2
    |some n=>rw[hp]at hc;rw[beq_eq hc.2]
   rw[hu p (Wk ..) h2 hc.1];rfl
  |false=>
   simp only[Wb];refine zX (fun p' x8=>hu p' (Wj _ x8)) ?_ hf
   rcases WE.1 h with h|h
   ·exfalso
    subst h;simp[hf]at hc
   ·exact h
def Dp (kT:Bool→Nat→Bool)(c:Code):List (Bool×Nat):=(ba c).filterMap fun p=>match first p.2 with
 |some r=>bif kT p.1 r then some (p.1,r)else none
 |none=>none
theorem zZ {kT:Bool→Nat→Bool}:∀{l:List (Bool×Code)},(l.filterMap fun p=>match first p.2 with|some r=>bif kT p.1 r then some (p.1,r)else none|none=>none).Nodup→∀{p q:Bool×Code}{r:Nat},p∈l→q∈l→first p.2=some r→first q.2=some r→p.1=q.1→kT p.1 r=true→p=q
 |[],_,p,q,r,hp,_,_,_,_,_=>by simp at hp
 |x::l,h,p,q,r,hp,hq,h1,h2,h3,h4=>by
  have mem:∀y∈l,first y.2=some r→y.1=p.1→(p.1,r)∈(l.filterMap fun p=>match first p.2 with|some r=>bif kT p.1 r then some (p.1,r)else none|none=>none):=fun y hy hf hk=>
   List.mem_filterMap.2 ⟨y,hy,by rw[hf];simp[hk,h4]⟩
  rcases WE.1 hp with rfl|x8<;>rcases WE.1 hq with rfl|Mm
  ·rfl
  ·exfalso
   rw[List.filterMap_cons]at h;simp only[h1,h4,Wg,List.nodup_cons]at h;exact h.1 (mem q Mm h2 h3.symm)
  ·exfalso
   rw[List.filterMap_cons]at h;simp only[h2,←h3,h4,Wg,List.nodup_cons]at h;exact h.1 (mem p x8 h1 rfl)
  ·refine zZ (l:=l) ?_ x8 Mm h1 h2 h3 h4;rw[List.filterMap_cons]at h;split at h
   ·exact h
   ·exact(List.nodup_cons.1 h).2
structure Sys where
 P:Program
 cd:Nat→Option (List Cell)
 cl:TypeId
 sig:FuncId→Sig
 known:FuncId→Bool
 jF:FuncId→List Nat
 kT:FuncId→Bool→Nat→Bool
 cut:FuncId→Bool→Nat→Cut
 lib:FuncId→Option Callee
 bors:List (FuncId×FuncId):=[]
 nest:FuncId→Bool:=fun _=>false
 trim:FuncId→Bool:=fun _=>false
namespace Sys
variable(S:Sys)
structure Tab where
 fn:(f:FuncId)→(S.sig f).dom.den→Option (S.sig f).cod.den
 pc:(f:FuncId)→(k:Bool)→(r:Nat)→(bO (S.cut f k r).as).den→Option (kU (S.cut f k r).ws)
def JA:Bool:=S.bors.isEmpty
def callee (T:S.Tab)(c f:FuncId):Option Callee:=bif S.known f then some ⟨S.sig f,T.fn f⟩else S.lib f
def env (T:S.Tab)(f:FuncId)(nt:Nat):Env:={P:=S.P,callee:=S.callee T f,cd:=S.cd,cl:=S.cl,nt:=nt,jF:=S.jF f,nest:=S.nest f,trim:=S.trim f,slf:=At (S.sig f).args}
def wJ (T:S.Tab)(f:FuncId):Cuts:=
  ⟨fun r=>bif S.kT f true r then some ((S.cut f true r).tE (T.pc f true r))else none,
   fun r=>bif S.kT f false r then some ((S.cut f false r).tE (T.pc f false r))else none⟩
def AU (T:S.Tab)(f:FuncId)(x:(S.sig f).dom.den):Option (S.sig f).cod.den:=match S.P.funcs[f]? with
 |some fn=>AZ (S.env T f fn.ntmps) fn (S.sig f) (S.wJ T f) x
 |none=>none
def uV (T:S.Tab)(f:FuncId)(k:Bool)(r:Nat)(x:(bO (S.cut f k r).as).den):Option (kU (S.cut f k r).ws):=match S.P.funcs[f]? with
 |some fn=>match fn.body with
  |some c=>bif k then(S.cut f k r).round (S.env T f fn.ntmps) (S.wJ T f) (iC k r (ba c)) (T.pc f k r) x
    else(S.cut f k r).tail (S.env T f fn.ntmps) (S.wJ T f) (iC k r (ba c)) x
  |none=>none
 |none=>none
def step (T:S.Tab):S.Tab:=⟨S.AU T,S.uV T⟩
@[reducible] def tab:Nat→S.Tab
 |0=>⟨fun _ _=>none,fun _ _ _ _=>none⟩
 |n+1=>S.step (tab n)
def Gk (f:FuncId):Bool:=match S.P.funcs[f]? with
 |some fn=>match fn.body with
  |some c=>(fn.name != "runtime.NumGoroutine")&&Nat.ble (S.sig f).args.length fn.ntmps&&((S.jF f).all fun t=>Nat.blt t (S.sig f).args.length)&&kS (S.sig f).args&&
    decide (Dp (S.kT f) c).Nodup
  |none=>false
 |none=>false
end Sys
end Go.Abs
end

section
namespace Go.Abs
theorem ActRel.callee {E E':Env}(hn:E'.nt=E.nt)(hk:E'.jF=E.jF)(hs:E'.slf=E.slf){B:Base}{g:Gh}{env:List (Nat×Slot)}{a:Act}(H:ActRel E B g env a):ActRel E' B g env a:=
 ⟨H.env,H.size.trans hn.symm,H.defers,by rw[hk];exact H.kept,fun f ts h h2=>H.slf f ts (by rw[←hs];exact h) h2⟩
theorem KOk.callee {ρ:Type}{E E':Env}(hg:E'.cd=E.cd)(hn:E'.nt=E.nt)(hk:E'.jF=E.jF)(hs:E'.slf=E.slf){B:Base}{K:St→Option ρ}{x:ρ}{Q:Act→World→Prop}(h:KOk E' B K x Q):KOk E B K x Q:=
 fun s g a w h1 h2 h3 h4=>h s g a w h1 (by rw[hg];exact h2) h3 (h4.callee hn hk hs)
theorem pO.callee {E E':Env}(hg:E'.cd=E.cd)(hn:E'.nt=E.nt)(hk:E'.jF=E.jF)(hs:E'.slf=E.slf){c:Cut}{W:(Exit→Act→World→Prop)→Act→World→Prop}{L:(bO c.as).den→Option (kU c.ws)}(h:pO E c W L):pO E' c W L:=
 fun x y Ve _ B K z Q VM hK g a w h1 h2 h3=>h x y Ve B K z Q VM (fun e=>(hK e).callee hg hn hk hs) g a w (by rw[←hg];exact h1) h2 (h3.callee hn.symm hk.symm hs.symm)
namespace Sys
variable{S:Sys}
theorem zM {f:FuncId}(h:S.Gk f=true):∃fn c,S.P.funcs[f]?=some fn∧fn.body=some c∧(fn.name== "runtime.NumGoroutine")=false∧(S.sig f).args.length≤fn.ntmps∧((S.jF f).all fun t=>Nat.blt t (S.sig f).args.length)=true∧kS (S.sig f).args=true∧
  (Dp (S.kT f) c).Nodup:=by
 unfold Gk at h;split at h
 ·rename_i fn hf;split at h
  ·rename_i c hc;simp only[V6,V4]at h;exact⟨fn,c,hf,hc,by have:=h.1.1.1.1;simpa[bne]using this,Wr h.1.1.1.2,h.1.1.2,h.1.2,h.2⟩
  ·cases h
 ·cases h
def W1 (P:Program)(k:Bool)(b:Code):(Exit→Act→World→Prop)→Act→World→Prop:=if k then mK P b else fun Q=>b.wp P Q
structure TabOk (S:Sys)(T:S.Tab):Prop where
 fn:∀f,S.known f=true→rm S.P S.cd f ⟨S.sig f,T.fn f⟩
 pc:∀f,S.known f=true→∀fn c,S.P.funcs[f]?=some fn→fn.body=some c→∀k r,S.kT f k r=true→(k,iC k r (ba c))∈ba c→∀T':S.Tab,
  pO (S.env T' f fn.ntmps) (S.cut f k r) (W1 S.P k (iC k r (ba c))) (T.pc f k r)
theorem J6 {T:S.Tab}(hT:TabOk S T){f:FuncId}(hk:S.known f=true){fn:Func}{c:Code}(hf:S.P.funcs[f]?=some fn)(hb:fn.body=some c)(kY:(Dp (S.kT f) c).Nodup){d:Code}(hd:∀p∈ba d,p∈ba c):
  CutsOk (S.env T f fn.ntmps) (S.wJ T f) d:=by
 have found:∀k b r,(k,b)∈pieces d→first b=some r→S.kT f k r=true→iC k r (ba c)=b∧(k,b)∈ba c:=by
  intro k b r hp hr Gy;have hm:=hd _ (FW d _ hp);refine⟨zX (fun p x8 h1 h2=> ?_) hm hr,hm⟩;exact zZ kY x8 hm h1 hr h2 (by rw[h2];exact Gy)
 refine⟨fun b hp h hh=> ?_,fun b hp h hh=> ?_⟩
 ·cases hr:first b with
  |none=>rw[hr]at hh;cases hh
  |some r=>
   rw[hr]at hh;have hh:(bif S.kT f true r then some ((S.cut f true r).tE (T.pc f true r))else none)=some h:=hh
   cases hc:S.kT f true r with
   |false=>rw[hc]at hh;cases hh
   |true=>
    rw[hc]at hh
    injection hh with hh
    subst hh;obtain⟨e,hm⟩:=found true b r hp hr hc;have:=hT.pc f hk fn c hf hb true r hc (by rw[e];exact hm) T;rw[e]at this;exact CV (body:=b) this
 ·cases hr:first b with
  |none=>rw[hr]at hh;cases hh
  |some r=>
   rw[hr]at hh;have hh:(bif S.kT f false r then some ((S.cut f false r).tE (T.pc f false r))else none)=some h:=hh
   cases hc:S.kT f false r with
   |false=>rw[hc]at hh;cases hh
   |true=>
    rw[hc]at hh
    injection hh with hh
    subst hh;obtain⟨e,hm⟩:=found false b r hp hr hc;have:=hT.pc f hk fn c hf hb false r hc (by rw[e];exact hm) T;rw[e]at this;exact C2 (body:=b) this
theorem step_ok (hm:S.P.follows .mixedOrders=true)(hk:∀f,S.known f=true→S.Gk f=true)(hl:∀f c,S.known f=false→S.lib f=some c→jC S.P S.cd f c)(Pg:S.JA=true){T:S.Tab}(hT:TabOk S T):TabOk S (S.step T):=by
 have hE:∀f nt,EnvOk (S.env T f nt):=fun f nt=>⟨fun g c hc=>by
  have hc:(bif S.known g then some ⟨S.sig g,T.fn g⟩else S.lib g)=some c:=hc
  cases hg:S.known g with
  |true=>rw[hg]at hc;injection hc with hc;subst hc;exact hT.fn g hg
  |false=>rw[hg]at hc;exact(hl g c hg hc).slf⟩
 refine⟨fun f hf=> ?_,fun f hf fn c M1 hb k r Gy L6 T'=> ?_⟩
 ·obtain⟨fn,c,h1,h2,h3,h4,h5,h6,h7⟩:=zM (hk f hf);have Qp:=Di (hE f fn.ntmps) hm (f:=f) (fn:=fn) (c:=c) (sg:=S.sig f) (H:=S.wJ T f) h1 h2 h3 rfl h4 h5 h6 rfl (J6 hT hf h1 h2 h7 fun p hp=>hp)
  have e:(S.step T).fn f=AZ (S.env T f fn.ntmps) fn (S.sig f) (S.wJ T f):=by
   funext x
   show S.AU T f x=_;unfold AU;rw[h1]
  rw[e];exact Qp
 ·obtain⟨fn',c',h1,h2,h3,h4,h5,h6,h7⟩:=zM (hk f hf);rw[M1]at h1
  injection h1 with h1
  subst h1;rw[hb]at h2
  injection h2 with h2
  subst h2
  have BN:∀p∈ba (iC k r (ba c)),p∈ba c:=fun p hp=>yf c _ L6 p hp
  have hC:=J6 hT hf M1 hb h7 BN
  have e:(S.step T).pc f k r=fun x=>bif k then(S.cut f k r).round (S.env T f fn.ntmps) (S.wJ T f) (iC k r (ba c)) (T.pc f k r) x
    else(S.cut f k r).tail (S.env T f fn.ntmps) (S.wJ T f) (iC k r (ba c)) x:=by
   funext x
   show S.uV T f k r x=_;unfold uV;rw[M1]
   show(match fn.body with
    |some c=>_
    |none=>none)=_
   rw[hb]
  rw[e]
  cases k with
  |true=>exact pO.callee (E:=S.env T f fn.ntmps) (E':=S.env T' f fn.ntmps) rfl rfl rfl rfl (IT (hE f fn.ntmps) hm hC (hT.pc f hf fn c M1 hb true r Gy L6 T))
  |false=>exact pO.callee (E:=S.env T f fn.ntmps) (E':=S.env T' f fn.ntmps) rfl rfl rfl rfl (LP (hE f fn.ntmps) hm hC)
theorem ok (hm:S.P.follows .mixedOrders=true)(hk:∀f,S.known f=true→S.Gk f=true)(hl:∀f c,S.known f=false→S.lib f=some c→jC S.P S.cd f c)(Pg:S.JA=true:=by rfl):∀n,TabOk S (S.tab n)
 |0=>⟨(fun f _ x y h=>by cases h),(fun f _ fn c _ _ k r _ _ T' x y h=>by cases h)⟩
 |n+1=>step_ok hm hk hl Pg (ok hm hk hl Pg n)
end Sys
end Go.Abs
end

section
namespace Go.Abs
def aR {A ρ:Type}(f:A→Option ρ):A⊕Empty→Option ρ:=Sum.elim f Empty.elim
def bC {A B ρ:Type}(f:A→Option ρ)(g:B→Option ρ):A⊕(B⊕Empty)→Option ρ:=Sum.elim f (Sum.elim g Empty.elim)
namespace Sys
variable{S:Sys}
theorem LC {f:FuncId}{fn:Func}(h:S.P.funcs[f]?=some fn)(T:S.Tab)(x:(S.sig f).dom.den):(S.step T).fn f x=AZ (S.env T f fn.ntmps) fn (S.sig f) (S.wJ T f) x:=by
 show S.AU T f x=_;unfold AU;rw[h]
theorem Je {f:FuncId}{fn:Func}{c:Code}(h:S.P.funcs[f]?=some fn)(hb:fn.body=some c)(T:S.Tab){r:Nat}(x:(bO (S.cut f true r).as).den):
  (S.step T).pc f true r x=(S.cut f true r).round (S.env T f fn.ntmps) (S.wJ T f) (iC true r (ba c)) (T.pc f true r) x:=by
 show S.uV T f true r x=_;unfold uV;rw[h]
 show(match fn.body with
    |some c=>_
    |none=>none)=_
 rw[hb];rfl
theorem Jp {f:FuncId}{fn:Func}{c:Code}(h:S.P.funcs[f]?=some fn)(hb:fn.body=some c)(T:S.Tab){r:Nat}(x:(bO (S.cut f false r).as).den):
  (S.step T).pc f false r x=(S.cut f false r).tail (S.env T f fn.ntmps) (S.wJ T f) (iC false r (ba c)) x:=by
 show S.uV T f false r x=_;unfold uV;rw[h]
 show(match fn.body with
    |some c=>_
    |none=>none)=_
 rw[hb];rfl
theorem LK {fns:List Nat}(h:(fns.all S.Gk)=true){f:FuncId}(hf:(fns.any (Nat.beq f))=true):S.Gk f=true:=by
 obtain⟨g,hg,e⟩:=List.any_eq_true.1 hf;have:=Nat.eq_of_beq_eq_true e;subst this;exact List.all_eq_true.1 h _ hg
end Sys
theorem w7 {P:Program}{f:FuncId}{fn:Func}{c:Code}{args:Array Value}{w:World}{R:Value→World→Prop}(hf:P.funcs[f]?=some fn)(hb:fn.body=some c)(Fm:(fn.name== "runtime.NumGoroutine")=false)
  (h:eS P f args w R):Calls P f args w fun e w'=>∃v,e= .returned v∧R v w':=by
 have Fq:(callFunc f args).run P w= .ok (.enter f args) w:=by
  have h1:fn.name≠ "runtime.NumGoroutine" :=(by simpa using Fm)
  simp[callFunc,hf,h1,hb]
 unfold eS at h;rw[Fq]at h;exact h
theorem After.below {ax cH:Rd}{w w':World}{fV:List Nat}(h:After ax w [] cH w' fV):RowKit.Below w.heap.size w w':=
 ⟨h.os,h.tape,h.output,h.size,fun k hk=>by
  cases e:ax k with
  |none=>exact(h.same k hk (by simp) e).1
  |some L=>exact h.fix k L e⟩
def Evt (p:Nat→Prop):Prop:=∃N,∀n,N≤n→p n
theorem Evt.of {p:Nat→Prop}(h:∀n,p n):Evt p:=⟨0,fun n _=>h n⟩
theorem Evt.and {p q:Nat→Prop}(h:Evt p)(k:Evt q):Evt fun n=>p n∧q n:=by
 obtain⟨N,h⟩:=h;obtain⟨M,k⟩:=k;exact⟨max N M,fun n hn=>⟨h n (by omega),k n (by omega)⟩⟩
theorem Evt.mono {p q:Nat→Prop}(h:Evt p)(k:∀n,p n→q n):Evt q:=by
 obtain⟨N,h⟩:=h;exact⟨N,fun n hn=>k n (h n hn)⟩
theorem Evt.up {p q:Nat→Prop}(h:Evt p)(k:∀n,p n→q (n+1)):Evt q:=by
 obtain⟨N,h⟩:=h;refine⟨N+1,fun n hn=> ?_⟩;obtain⟨m,rfl⟩:∃m,n=m+1:=⟨n - 1,by omega⟩;exact k m (h m (by omega))
end Go.Abs
end

section
namespace Go.Abs
def isByte (c:Int):Prop:=0≤c∧c<256
theorem Hn:∀c:Int,isByte c→intBits .and .u8 c 15=c % 16:=by
 have h:∀n:Fin 256,intBits .and .u8 (n.val:Int) 15=(n.val:Int) % 16:=by decide+kernel
 intro c hc;have:=h ⟨c.toNat,by have:=hc.1;have:=hc.2;omega⟩;simpa[Int.toNat_of_nonneg hc.1]using this
theorem PO (c:Int)(h:isByte c):c.fdiv (2^min (Int.toNat 4) u8.bits)=c/16:=by
 have e:(2:Int)^min (Int.toNat 4) u8.bits=16:=(by decide);rw[e,Int.fdiv_eq_ediv_of_nonneg _ (by decide)]
theorem rP (x:Int)(h0:0≤x)(h1:x<256):u8.wrap x=x:=by
 have:u8.wrap x=x % 256:=rfl;rw[this];omega
theorem wrap64 (x:Int)(h0: -9223372036854775808≤x)(h1:x<9223372036854775808):i64.wrap x=x:=by
 rw[IntKind.wrap_i64];omega
theorem dZ {n:Nat}(h:n≤lim):fits n=true:=Nat.ble_eq_true_of_le h
theorem zp (s:ByteArray):∀c∈bytesOf s,isByte c:=by
 intro c hc;unfold bytesOf at hc;obtain⟨b,_,rfl⟩:=List.mem_map.1 hc;have:=b.toNat_lt;exact⟨by omega,by omega⟩
theorem C6 {c:Int}(h:isByte c):byte c=c:=by
 unfold byte;obtain⟨h0,h1⟩:=h;omega
theorem wj {l:List Int}(h:∀c∈l,isByte c):l.map byte=l:=by
 induction l with
 |nil=>rfl
 |cons x r ih=>
  rw[List.map_cons,C6 (h x (Wk ..)),ih fun c hc=>h c (Wj _ hc)]
theorem fZ {α:Type}(pre:List α)(x:α)(r:List α)(d:α):(pre++x::r).getD pre.length d=x:=by
 rw[Wm,List.getElem?_append_right (Wp _),Nat.sub_self];rfl
def stop (q:Nat→Bool):Nat→Nat→Nat
 |0,j=>j
 |k+1,j=>bif q j then stop q k (j+1)else j
theorem wB {q:Nat→Bool}:∀(k j:Nat),j≤stop q k j
 |0,j=>Wp _
 |k+1,j=>by
  unfold stop;cases q j
  ·exact Wp _
  ·have:=wB (q:=q) k (j+1);simp only[Wg];omega
theorem v8 {q:Nat→Bool}{N:Nat}(h:∀j,N≤j→q j=false):∀(k j:Nat),N≤j+k→q (stop q k j)=false
 |0,j,hk=>h j (by omega)
 |k+1,j,hk=>by
  unfold stop;cases hq:q j
  ·exact hq
  ·exact v8 h k (j+1) (by omega)
theorem oV {q:Nat→Bool}:∀(k j i:Nat),j≤i→i<stop q k j→q i=true
 |0,j,i,h1,h2=>by simp only[stop]at h2;omega
 |k+1,j,i,h1,h2=>by
  unfold stop at h2;cases hq:q j
  ·rw[hq]at h2;simp only[Wb]at h2;omega
  ·rw[hq]at h2
   rcases Nat.lt_or_ge j i with h|h
   ·exact oV k (j+1) i h h2
   ·have:i=j:=(by omega);subst this;exact hq
theorem xl {q:Nat→Bool}{k j:Nat}(hq:q j=false):stop q k j=j:=by
 cases k with
 |zero=>rfl
 |succ k=>unfold stop;rw[hq];rfl
theorem adv {S:Sys}{R:Type}{F:S.Tab→Nat→Option R}{q:Nat→Bool}{out:Nat→R}{N:Nat}{p:S.Tab→Prop}(hp:Evt fun n=>p (S.tab n))(hN:∀j,N≤j→q j=false)
  (h1:∀T j,p T→q j=true→F (S.step T) j=F T (j+1)) (h2:∀T j,p T→q j=false→F (S.step T) j=some (out j)):
  ∀(k j:Nat),N≤j+k→Evt fun n=>F (S.tab n) j=some (out (stop q k j))
 |0,j,hk=>hp.up fun n h=>by
  show F (S.step (S.tab n)) j=_;rw[h2 _ _ h (hN j (by omega))];rfl
 |k+1,j,hk=>by
  cases hq:q j with
  |false=>
   refine hp.up fun n h=> ?_
   show F (S.step (S.tab n)) j=_;rw[h2 _ _ h hq,xl hq]
  |true=>
   refine((adv hp hN h1 h2 k (j+1) (by omega)).and hp).up fun n h=> ?_
   show F (S.step (S.tab n)) j=_;rw[h1 _ _ h.2 hq,h.1];show some (out (stop q k (j+1)))=some (out (bif q j then _ else _));rw[hq];rfl
theorem aj {ρ:Type}{b:Bool}{x y:Option ρ}(h:b=true):brk b x y=x:=by rw[dF,h];rfl
theorem ay {ρ:Type}{b:Bool}{x y:Option ρ}(h:b=false):brk b x y=y:=by rw[dF,h];rfl
theorem ak {ρ:Type}{p:Prop} [Decidable p] {x y:Option ρ}(h:p):brk (decide p) x y=x:=aj (VY h)
theorem ae {ρ:Type}{p:Prop} [Decidable p] {x y:Option ρ}(h:¬p):brk (decide p) x y=y:=ay (VW h)
end Go.Abs
end

section
namespace Go.Abs
def snap (W:World):Rd:=fun b=>match W.heap[b]? with|some (.cells arr _ _)=>some arr.toList|_=>none
theorem H8 {W:World}{b:Nat}{L:List Value}(h:snap W b=some L):∃arr ty fr,W.heap[b]?=some (.cells arr ty fr)∧arr.toList=L:=by
 unfold snap at h;split at h
 ·rename_i arr ty fr e;injection h with h;exact⟨arr,ty,fr,e,h⟩
 ·cases h
def ofD {H:Type}:(τ:Ty)→DataW H→τ.den
 | .int _,d=>match d with| .lit (.int _ z)=>z|_=>(0:Int)
 | .bool,d=>match d with| .lit (.bool b)=>b|_=>false
 | .str,d=>match d with| .lit (.string bs)=>bs.map fun b=>(b.toNat:Int)|_=>([]:List Int)
 | .sl e,d=>match d with| .slice ds _=>ds.map (ofD e)|_=>[]
 | .un,_=>()
 | .pr a b,d=>match d with| .agg (x::r)=>(ofD a x,ofD b (.agg r))|_=>(ofD a (DataW.nil (H:=H)),ofD b (DataW.nil (H:=H)))
 | .cl,_=>([]:List Int)
def Good:(τ:Ty)→τ.den→Prop
 | .int k,x=>k.min≤x∧x≤k.max
 | .str,l=>(∀c∈l,isByte c)∧l.length≤maxLen
 | .sl e,xs=>(∀x∈xs,Good e x)∧xs.length≤maxLen
 | .pr a b,x=>Good a x.1∧Good b x.2
 |_,_=>True
def E6 (P:Program)(g:TypeId→Ty→Bool):List Field→Nat→Ty→Bool
 |[],_, .un=>true
 |f::r,off, .pr a b=>Nat.beq f.offset off&&g f.type a&&Nat.beq (P.cellsOf f.type) a.size&&E6 P g r (off+a.size) b
 |_,_,_=>false
def A1 (P:Program):Nat→TypeId→Ty→Bool
 |0,_,_=>false
 |n+1,t,τ=>match P.underlying t with
  |some .bool=>(match τ with| .bool=>true|_=>false)
  |some (.int k)=>(match τ with| .int k'=>decide (k=k')|_=>false)
  |some .string=>(match τ with| .str=>true|_=>false)
  |some (.slice e)=>(match τ with| .sl τ'=>A1 P n e τ'&&Nat.beq (P.cellsOf e) τ'.size&&Nat.blt 0 τ'.size|_=>false)
  |some (.struct fs)=>E6 P (A1 P n) fs.toList 0 τ&&Nat.beq (P.cellsOf t) τ.size
  |_=>false
theorem tR {α β:Type}{f:α→Option β}:∀{l:List α}{r:List β},l.mapM f=some r→r.length=l.length∧∀i (h:i<l.length),f l[i]=r[i]?
 |[],r,h=>by
  simp at h;subst h;exact⟨rfl,fun i h=>absurd h (by simp)⟩
 |x::l,r,h=>by
  rw[List.mapM_cons]at h;obtain⟨y,h1,h2⟩:=WT.1 h;obtain⟨ys,h3,h4⟩:=WT.1 h2;have h4:some (y::ys)=some r:=h4
  injection h4 with h4
  subst h4;obtain⟨hl,hx⟩:=tR h3;refine⟨by simp[hl],fun i hi=> ?_⟩
  cases i with
  |zero=>exact h1
  |succ i=>exact hx i (by simpa using hi)
theorem Cf (a:Addr)(n:Nat):(a.add n).block=a.block:=by unfold Addr.add;split<;>rfl
theorem G9 (a:Addr)(n:Nat):(a.add n).off=a.off+n:=by
 unfold Addr.add;split
 ·rename_i h;rw[h];rfl
 ·rfl
theorem IM {a:Addr}(h:a.spot=none)(n:Nat):(a.add n).spot=none:=by unfold Addr.add;split<;>simp[h]
theorem add_zero' (a:Addr):a.add 0=a:=by unfold Addr.add;rw[WK rfl]
theorem z8 {W:World}{base:Nat}{a:Addr}{n:Nat}{cs:List Value}(h:W.cells? base a n=some cs)(hn:0<n):a.spot=none∧∃L,snap W a.block=some L∧(L.drop a.off).take n=cs:=by
 unfold World.cells? at h;split at h
 ·obtain⟨hl,hx⟩:=tR h;rw[List.length_range]at hl;have h0:=hx 0 (by simpa using hn)
  have hc:∀i,i<n→W.cell? (a.add i)=cs[i]?:=fun i hi=>by
   have:=hx i (by simpa using hi);simpa using this
  have e0:=hc 0 hn;rw[Wl (show 0<cs.length by omega)]at e0;rw[add_zero']at e0;unfold World.cell? at e0
  cases hh:W.heap[a.block]? with
  |none=>rw[hh]at e0;cases e0
  |some o=>
   cases o with
   |cells arr ty fr=>
    rw[hh]at e0
    have KC:a.spot=none:=by
     cases hs:a.spot with
     |none=>rfl
     |some v=>simp[hs]at e0
    refine⟨KC,arr.toList, ?_, ?_⟩
    ·unfold snap;rw[hh]
    ·refine List.ext_getElem? fun i=> ?_
     rw[List.getElem?_take]
     by_cases hi:i<n
     ·rw[WK hi,List.getElem?_drop,←hc i hi];unfold World.cell?;rw[Cf,hh];simp[IM KC,G9]
     ·rw[Wz hi,List.getElem?_eq_none (by omega)]
   |_=>rw[hh]at e0;cases e0
 ·cases h
theorem EN {H:Type}{enc:TypeId×Value→H}{P:Program}{W:World}{sp:Nat→Bool}{held:Bool}{n:Nat}{g:TypeId→Ty→Bool}
  (hg:∀t τ cs (x:DataW H×List MemPlace),g t τ=true→DataW.trod enc P W 0 sp held n t cs=some x→Rc (snap W) τ (ofD τ x.1) cs∧Good τ (ofD τ x.1)):
  ∀(fs:List Field) (off:Nat) (τ:Ty) (cs:List Value) (xs:List (DataW H×List MemPlace)),E6 P g fs off τ=true→(fs.mapM fun f=>DataW.trod enc P W 0 sp held n f.type ((cs.drop f.offset).take (P.cellsOf f.type)))=some xs→off+τ.size≤cs.length→
   Rc (snap W) τ (ofD τ (.agg (xs.map (·.1)))) ((cs.drop off).take τ.size)∧Good τ (ofD τ (.agg (xs.map (·.1))))
 |[],off,τ,cs,xs,hf,hm,hl=>by
  cases τ with
  |un=>exact⟨by show List.take 0 _=[];rfl,trivial⟩
  |_=>cases hf
 |f::fs,off,τ,cs,xs,hf,hm,hl=>by
  cases τ with
  |pr a b=>
   unfold E6 at hf;simp only[V6]at hf;obtain⟨⟨⟨h1,h2⟩,h3⟩,h4⟩:=hf;have h1:=Nat.eq_of_beq_eq_true h1;have h3:=Nat.eq_of_beq_eq_true h3;rw[List.mapM_cons]at hm;obtain⟨y,hy,hm⟩:=WT.1 hm;obtain⟨ys,Ut,hm⟩:=WT.1 hm;have hm:some (y::ys)=some xs:=hm
   injection hm with hm
   subst hm;have iE:(Ty.pr a b).size=a.size+b.size:=rfl;rw[iE]at hl;rw[h1,h3]at hy;obtain⟨r1,g1⟩:=hg _ _ _ _ h2 hy;obtain⟨r2,g2⟩:=EN hg fs (off+a.size) b cs ys h4 Ut (by omega);refine⟨⟨(cs.drop off).take a.size,(cs.drop (off+a.size)).take b.size, ?_,r1,r2⟩,g1,g2⟩;rw[iE,List.take_add,List.drop_drop]
  |_=>cases hf
theorem yN {H:Type}{enc:TypeId×Value→H}{P:Program}{W:World}{sp:Nat→Bool}{held:Bool}:∀(k n:Nat)(t:TypeId)(τ:Ty)(cs:List Value)(x:DataW H×List MemPlace),A1 P k t τ=true→DataW.trod enc P W 0 sp held n t cs=some x→
  Rc (snap W) τ (ofD τ x.1) cs∧Good τ (ofD τ x.1)
 |0,_,_,_,_,_,h,_=>by cases h
 |k+1,n,t,τ,cs,x,h,hx=>by
  unfold A1 at h
  cases hu:P.underlying t with
  |none=>rw[hu]at h;cases h
  |some d=>
  rw[hu]at h
  cases d with
  |bool=>
   cases τ with
   |bool=>
    obtain⟨b,rfl,rfl⟩:=DataW.trod_bool hu hx;exact⟨rfl,trivial⟩
   |_=>cases h
  |int j=>
   cases τ with
   |int j'=>
    have h:decide (j=j')=true:=h;have h:=of_decide_eq_true h;subst h;obtain⟨z,rfl,rfl,hw⟩:=DataW.trod_int hu hx;refine⟨rfl, ?_⟩;simp only[Lit.wf,V6,V4]at hw;exact hw
   |_=>cases h
  |string=>
   cases τ with
   |str=>
    obtain⟨s,rfl,rfl,hs⟩:=DataW.trod_string hu hx;refine⟨⟨s,rfl,rfl⟩,zp s, ?_⟩;show(List.map _ s.data.toList).length≤maxLen;rw[List.length_map,Array.length_toList];exact hs
   |_=>cases h
  |slice e=>
   cases τ with
   |sl τ'=>
    have h:(A1 P k e τ'&&Nat.beq (P.cellsOf e) τ'.size&&Nat.blt 0 τ'.size)=true:=h;rw[V6,V6]at h;obtain⟨h,lR⟩:=h
    have lR:0<τ'.size:=by unfold Nat.blt at lR;exact Wr lR
    have hz:=Nat.eq_of_beq_eq_true h.2
    rcases DataW.trod_slice hu hx with⟨rfl,rfl⟩|⟨a,len,cap,elems,rest,m,rfl,rfl,rfl,_,hle,L5,hlen,K4,_,_⟩
    ·refine⟨⟨none,0,rfl,Wp _, .inl rfl⟩, ?_⟩;show(∀x∈([]:List τ'.den),Good τ' x)∧0≤maxLen;exact⟨(fun x hx=>by cases hx),WQ _⟩
    ·have hL:((elems.map (·.1)).map (ofD τ')).length=len:=(by simp[hlen])
     have one:∀i (hi:i<len),∃Gw,W.cells? 0 (a.add (i*τ'.size)) τ'.size=some Gw∧Rc (snap W) τ' (ofD τ' (elems[i]'(by omega)).1) Gw∧Good τ' (ofD τ' (elems[i]'(by omega)).1):=fun i hi=>by
      have qm:=K4 i hi;rw[Wl (show i<elems.length by omega),hz]at qm;obtain⟨Gw,h1,h2⟩:=WT.1 qm;obtain⟨h3,h4⟩:=yN k _ _ _ _ _ h.1 h2;exact⟨Gw,h1,h3,h4⟩
     refine⟨?_, ?_⟩
     ·show Rc (snap W) (.sl τ') ((elems.map (·.1)).map (ofD τ')) _
      by_cases h0:len=0
      ·subst h0;refine⟨some a,cap,by rw[hL],by rw[hL];exact hle, .inl ?_⟩;exact WL hL
      ·obtain⟨O6,c1,c2,c3⟩:=one 0 (by omega);obtain⟨KC,L,hb,_⟩:=z8 c1 (by omega);rw[Nat.zero_mul,add_zero']at KC hb;obtain⟨b,o,Vu⟩:=a;have KC:Vu=none:=KC;subst KC;refine⟨some ⟨b,o,none⟩,cap,by rw[hL],by rw[hL];exact hle, .inr ⟨b,o,L,rfl,hb,fun i hi=> ?_⟩⟩;rw[hL]at hi;obtain⟨Gw,d1,d2,d3⟩:=one i hi;obtain⟨_,L',yz,e'⟩:=z8 d1 (by omega);rw[Cf]at yz;have yz:snap W b=some L':=yz;rw[hb]at yz
       injection yz with yz
       subst yz;rw[G9]at e';have e':(L.drop (o+i*τ'.size)).take τ'.size=Gw:=e';rw[e'];simpa using d2
     ·refine⟨fun y hy=> ?_, ?_⟩
      ·have hy:y∈(elems.map (·.1)).map (ofD τ'):=hy;obtain⟨i,hi,rfl⟩:=List.getElem_of_mem hy;rw[hL]at hi;obtain⟨_,_,_,d3⟩:=one i hi;simpa using d3
      ·show((elems.map (·.1)).map (ofD τ')).length≤maxLen;omega
   |_=>cases h
  |struct fs=>
   have h:(E6 P (A1 P k) fs.toList 0 τ&&Nat.beq (P.cellsOf t) τ.size)=true:=h;rw[V6]at h;have hz:=Nat.eq_of_beq_eq_true h.2
   cases n with
   |zero=>simp[DataW.trod]at hx
   |succ n=>
    unfold DataW.trod at hx;rw[hu]at hx;simp only at hx;split at hx
    ·rename_i hl;obtain⟨xs,h1,rfl⟩:=Ww.1 hx;have:=EN (fun t τ cs x h1 h2=>yN k n t τ cs x h1 h2) fs.toList 0 τ cs xs h.1 h1 (by omega);rw[List.drop_zero,List.take_of_length_le (by omega)]at this;exact this
    ·cases hx
  |_=>cases h
end Go.Abs
end

section
namespace Go.Abs
theorem HG (w:World)(o:Go.Obj):(w.drew.alloc o).heap[w.heap.size]?=some o:=by
 show(w.heap.push _)[w.heap.size]?=_;rw[Array.getElem?_push,WK rfl]
theorem HA {P:Program}{ax:Rd}{w:World}{t tx ty e:TypeId}{i:TypeInfo}{z:Value}(ht:P.underlying t=some (.slice e))(hi:P.info? e=some i)(hz:i.zero=some z)
  (iE:i.size=1) (DO:i.bytes≤128) {xs ys:List Int} {u x:Value} {nb:List Nat} (hT:OwnAt ax w false (.int .u8) xs [u] nb) (Gp:∀b∈nb,∃arr,w.heap[b]?=some (.cells arr e (0,0))) (hS:Src P 1 tx x ys.length (ys.map (Value.int .u8)) w)
  (mN:xs.length+ys.length≤1099511627776) {v:Value} {w':World} (hr:(Builtin.append_ #[t,tx] ty #[u,x]).run P w= .ok v w') {b n cap:Nat} (hv:v= .slice (some ⟨b,0,none⟩) n cap):
  ∃arr,w'.heap[b]?=some (.cells arr e (0,0)):=by
 have Ow:=hS;rw[←iE]at Ow
 have grow:∀{base:Option Addr} {sCap:Nat} {olds:List Value},u= .slice base xs.length sCap→(Builtin.firstCells i.size xs.length (.slice base xs.length sCap)).run P w.drew= .ok olds.toArray w.drew→sCap<xs.length+ys.length→
   ∃arr,w'.heap[b]?=some (.cells arr e (0,0)):=by
  intro base sCap olds hu hold hg
  have hb:(xs.length+ys.length)*i.bytes≤140737488355328:=by
   have:(xs.length+ys.length)*i.bytes≤1099511627776*128:=Nat.mul_le_mul mN DO;omega
  have M3:=run_append_grow_src (P:=P) w t tx ty e i z ht hi hz base xs.length sCap olds hold x ys.length _ Ow hg (by omega) (growslice_fits hg hb);rw[hu,M3]at hr
  injection hr with h1 h2
  rw[hv]at h1
  injection h1 with h1 _
  injection h1 with h1;injection h1 with h1
  subst h2;rw[←h1];exact⟨_,HG w _⟩
 rcases hT with⟨h1,rfl,_⟩|⟨b',IC,arr,A5,fV,h1,h2,h3,h4,h5,h6⟩
 ·injection h1 with h1 _
  subst h1
  by_cases h0:ys=[]
  ·subst h0;have M3:=run_append_nothing w t tx ty e i ht hi none 0 0 (Wp _) x Ow;rw[M3]at hr
   injection hr with h1 h2
   rw[hv]at h1;cases h1
  ·have lR:0<ys.length:=List.length_pos_iff.2 h0;exact grow rfl (olds:=[]) (by simp[run_firstCells_none]) (by simpa using lR)
 ·injection h1 with h1 _
  subst h1;obtain⟨Tf,k1⟩:=Gp b' (by rw[h2];simp);rw[h3]at k1
  injection k1 with k1;injection k1 with _ k2
  subst k2
  have Oz:arr.size=IC:=by simpa[Ty.size]using h5
  by_cases hroom:xs.length+ys.length≤IC
  ·obtain⟨a1,a2,a3⟩:=xE (P:=P) (us:=ys.map (Value.int .u8)) (o:=xs.length) h3 (by simp;omega) hS.one;have M3:=run_append_room_src (P:=P) w t tx ty A5 i ht hi b' 0 xs.length IC x ys.length _ Ow hroom (by simpa[iE]using a1) (by simpa[iE]using a2);rw[iE,Nat.zero_add,Nat.mul_one,a3]at M3;rw[M3]at hr
   injection hr with h1 h2
   rw[hv]at h1
   injection h1 with h1 _
   injection h1 with h1;injection h1 with h1
   subst h2;rw[←h1];exact⟨_,setRow_heap w b' arr _ A5 (0,0) h3⟩
  ·have hE:Els ax (.int .u8) xs arr.toList 0:=h6.1;obtain⟨wS,Gr⟩:=Db hE;refine grow (olds:=arr.toList.take (xs.length*1)) rfl ?_ (by omega);rw[iE];refine run_firstCells_some (P:=P) w.drew 1 xs.length _ xs.length IC _ (by simpa[Ty.size]using Gr) (fun j v hj=> ?_);rw[Addr.add_lit,World.cell?_drew];exact eV h3 (o:=0) _ j v (by simpa using hj)
open Classical in
theorem B9 {P:Program}{ax:Rd}{w:World}{t tx ty e:TypeId}{i:TypeInfo}{z:Value}(ht:P.underlying t=some (.slice e))(hi:P.info? e=some i)(hz:i.zero=some z)
  (iE:i.size=1) (DO:i.bytes≤128) (Gs:z.cells.size=1) {xs ys:List Int} {u x:Value} {nb:List Nat} (hT:OwnAt ax w false (.int .u8) xs [u] nb) (hS:Src P 1 tx x ys.length (ys.map (Value.int .u8)) w)
  (mN:xs.length+ys.length≤1099511627776) (hc:∀b L,ax b=some L→∃arr ty fr,w.heap[b]?=some (.cells arr ty fr)∧arr.toList=L) (hn:∀b∈nb,ax b=none∧b<w.heap.size) (Gp:∀b∈nb,∃arr,w.heap[b]?=some (.cells arr e (0,0))):
  ∃v w' fV,(Builtin.append_ #[t,tx] ty #[u,x]).run P w= .ok v w'∧After ax w nb ax w' fV∧OwnAt ax w' false (.int .u8) (xs++ys) [v] fV∧∀b∈fV,∃arr,w'.heap[b]?=some (.cells arr e (0,0)):=by
 let g:Gh:={ax:=ax,top:=fun _=>0,cv:=fun _ _=> .nilIface,cM:=fun y=>if y∈nb then some 1 else none,ed:=fun _=>none,outer:=fun _=>[]}
 let B:Base:={ax:=ax,cM:=g.cM,w:=w,arg:=fun _=> .nilIface}
 have R:HRel B g [] w:=by
  refine⟨fun id=>rfl,fun id o h=>(by cases h),fun b L h=> ?_,fun b L h=>(by cases h),fun b h=> ?_,fun b L h=>h,fun b _ h1 h2=>⟨h1,h2,rfl⟩,Wp _,rfl,rfl,rfl,fun _ _ _=>rfl⟩
  ·obtain⟨arr,ty,fr,h1,h2⟩:=hc b L h;refine⟨?_,rfl,arr,ty,fr,h1,h2⟩;show(if b∈nb then some 1 else none)=none;rw[Wz];intro hm;have h':ax b=some L:=h;rw[(hn b hm).1]at h';cases h'
  ·by_cases hm:b∈nb
   ·exact(hn b hm).2
   ·exact absurd (Wz hm) h
 have ez:(Value.cells z).size=(Ty.int .u8).size:=Gs
 have UG:Tgt g [] w (false&& !(Ty.int u8).flat) (.int .u8) xs u []:=by
  rcases hT with⟨h1,h2,h3⟩|⟨b,cap,arr,A5,fV,h1,h2,h3,h4,h5,h6⟩
  ·injection h1 with h1 _
   exact .inl ⟨h1,h2,rfl⟩
  ·injection h1 with h1 _
   obtain⟨h6,h7⟩:=h6;subst h7
   have hb:b∈nb:=by rw[h2];simp
   refine .inr ⟨b,cap,arr,A5,h1,⟨fun _ _ _ h=>(by cases h), ?_,(hn b hb).1,rfl,fun h=> ?_⟩,by simp,(hn b hb).2,h3,h4,h5,h6,rfl⟩
   ·show(if b∈nb then some 1 else none)≠some 0;rw[WK hb];simp
   ·have h:(if b∈nb then some 1 else none)=none:=h;rw[WK hb]at h;cases h
 have hQ:dS g (false&& !(Ty.int u8).flat) (.int .u8) ys (ys.map (Value.int .u8)) []:=by
  refine⟨fun j hj=> ?_,rfl⟩;show List.take 1 (List.drop (0+j*1) (ys.map (Value.int .u8)))=[Value.int .u8 ys[j]];rw[Nat.zero_add,Nat.mul_one];have:j<(ys.map (Value.int .u8)).length:=(by simpa using hj);rw[List.drop_eq_getElem_cons this];simp
 obtain⟨v,w',g',hr,l,R',ir⟩:=zV (τ:= .int .u8) (ty:=ty) ht hi hz iE DO ez R UG hS hQ (fun _ h=>by simp at h) mN (fun _ _ h=>by simp at h) 7;have jV:v=g'.cv 7 0:=ir.2.1
 have jF:∀b,b<w.heap.size→b∉nb→ax b=none→w'.heap[b]?=w.heap[b]?∧g'.cM b=none:=fun b h1 h2 h3=>by
  obtain⟨a1,_,a3⟩:=R'.frame b h1 (Wz h2) h3;exact⟨a3,a1⟩
 have OL:∀b L,ax b=some L→g'.cM b=none∧∃arr ty fr,w'.heap[b]?=some (.cells arr ty fr)∧arr.toList=L:=fun b L h=>by
  obtain⟨a1,_,a3⟩:=R'.ax b L (R'.jh b L h);exact⟨a1,a3⟩
 have hO:=R'.eC 7 _ (aF _ _ _)
 rcases hO with⟨h1,h2⟩|⟨b,cap,arr,A5,h1,h2,h3,h4,h5,h6,h7⟩
 ·refine⟨v,w',[],hr,⟨fun _ _ h=>h,fun b L h=>(OL b L h).2,fun b h1 h2 h3=>⟨(jF b h1 h2 h3).1,h3⟩,WM,fun b h=>by simp at h,R'.size,R'.os,R'.tape,R'.output,fun b L h=>R'.fix b L h⟩, .inl ⟨by rw[jV];exact congrArg (fun v=>[v]) h1,h2,rfl⟩,fun b hb=>by simp at hb⟩
 ·have MG:ax b=none:=by
   cases e:ax b with
   |none=>rfl
   |some L=>
    have:=(OL b L e).1;rw[h2]at this;cases this
  refine⟨v,w',[b],hr,⟨fun _ _ h=>h,fun b L h=>(OL b L h).2,fun b h1 h2 h3=>⟨(jF b h1 h2 h3).1,h3⟩,by simp,fun y hy=> ?_,R'.size,R'.os,R'.tape,R'.output,fun b L h=>R'.fix b L h⟩, .inr ⟨b,cap,arr,A5,[],by rw[jV];exact congrArg (fun v=>[v]) h1,rfl,h4,h5,h6, ?_,rfl⟩,fun y hy=> ?_⟩
  ·have hy:y=b:=(by simpa using hy);subst hy;refine⟨MG, ?_,R'.ey _ (by rw[h2];simp)⟩
   by_cases hm:y∈nb
   ·exact .inl hm
   ·refine .inr (Nat.le_of_not_lt fun fP=> ?_);have:=(jF y fP hm MG).2;rw[h2]at this;cases this
  ·exact Els.flat rfl h7
  ·have hy:y=b:=(by simpa using hy);subst hy;exact HA ht hi hz iE DO hT Gp hS mN hr (jV.trans h1)
theorem kM {w:World}{b k:Nat}{arr:Array Value}{ty:TypeId}(h:w.heap[b]?=some (.cells arr ty (0,0)))(v:Value):
  (w.setCell ⟨b,k,none⟩ v).heap[b]?=some (.cells (arr.setIfInBounds k v) ty (0,0))∧(∀x,x≠b→(w.setCell ⟨b,k,none⟩ v).heap[x]?=w.heap[x]?)∧(w.setCell ⟨b,k,none⟩ v).heap.size=w.heap.size:=
 ⟨heap_setCell_same w b k arr ty v h,fun x hx=>heap_setCell_other w _ x v hx,by simp[World.setCell]⟩
theorem lt_of_heap {w:World}{b:Nat}{o:Go.Obj}(h:w.heap[b]?=some o):b<w.heap.size:=by
 rcases Nat.lt_or_ge b w.heap.size with h'|h'
 ·exact h'
 ·rw[Array.getElem?_eq_none h']at h;cases h
theorem OwnAt.other {ax:Rd}{w w':World}{xs:List Int}{us:List Value}{nb:List Nat}(h:OwnAt ax w false (.int .u8) xs us nb)(k:∀b∈nb,w'.heap[b]?=w.heap[b]?):OwnAt ax w' false (.int .u8) xs us nb:=by
 rcases h with h|⟨b,cap,arr,ty,fV,h1,h2,h3,h4,h5,h6,h7⟩
 ·exact .inl h
 ·exact .inr ⟨b,cap,arr,ty,fV,h1,h2,by rw[k b (by rw[h2];simp)];exact h3,h4,h5,h6,h7⟩
theorem Cq {ax:Rd}{w w1 w2:World}{b o:Nat}{arr:Array Value}{ty:TypeId}{xs:List Int}{v:Value}{self:Value}{Iw IK:List Nat}
  (ha:w.heap[b]?=some (.cells arr ty (0,0))) (hle:o+2≤arr.size) (hn:(b::Iw).Nodup) (hi:∀y∈b::Iw,ax y=none∧y<w.heap.size)
  (hc:∀b L,ax b=some L→∃arr ty fr,w.heap[b]?=some (.cells arr ty fr)∧arr.toList=L)
  (e1:w1=w.setCell ⟨b,o,none⟩ self) (A:After ax w1 Iw ax w2 IK) (hO:OwnAt ax w2 false (.int .u8) xs [v] IK):
  After ax w (b::Iw) ax (w2.setCell ⟨b,o+1,none⟩ v) (b::IK)∧b∉IK∧∃l8,(w2.setCell ⟨b,o+1,none⟩ v).heap[b]?=some (.cells l8 ty (0,0))∧
   l8.toList=arr.toList.take o++[self,v]++arr.toList.drop (o+2)∧OwnAt ax (w2.setCell ⟨b,o+1,none⟩ v) false (.int .u8) xs [v] IK∧w2.heap[b]?=some (.cells (arr.setIfInBounds o self) ty (0,0)):=by
 obtain⟨s1,s2,s3⟩:=kM (k:=o) ha self;rw[←e1]at s1 s2 s3;have It:b<w1.heap.size:=lt_of_heap s1;have o9:=List.nodup_cons.1 hn;have Pf:=(hi b (Wk ..)).1
 have h2:w2.heap[b]?=some (.cells (arr.setIfInBounds o self) ty (0,0)):=by rw[(A.same b It o9.1 Pf).1];exact s1
 have Bj:b∉IK:=fun hm=>by
  rcases(A.Pj b hm).2.1 with h|h
  ·exact o9.1 h
  ·omega
 obtain⟨t1,t2,t3⟩:=kM (k:=o+1) h2 v;refine⟨⟨fun _ _ h=>h,fun y L h=> ?_,fun y h1 hm h3=> ?_,List.nodup_cons.2 ⟨Bj,A.nodup⟩,fun y hy=> ?_, ?_, ?_, ?_, ?_,fun y L h=> ?_⟩,Bj,_,t1, ?_,hO.other fun y hy=>t2 y (fun e=>Bj (e ▸ hy)),h2⟩
 ·have Of:y≠b:=fun e=>by subst e;rw[Pf]at h;cases h
  obtain⟨a,t,f,k1,k2⟩:=A.cells y L h;exact⟨a,t,f,by rw[t2 y Of];exact k1,k2⟩
 ·have Of:y≠b:=fun e=>hm (e ▸ Wk ..)
  have VD:y∉Iw:=fun e=>hm (Wj _ e)
  rw[t2 y Of,(A.same y (by rw[s3];exact h1) VD h3).1,s2 y Of];exact⟨rfl,h3⟩
 ·rcases WE.1 hy with rfl|hy
  ·exact⟨Pf, .inl (Wk ..),by rw[t3];exact lt_of_heap h2⟩
  ·obtain⟨k1,k2,k3⟩:=A.Pj y hy;refine⟨k1, ?_,by rw[t3];exact k3⟩
   rcases k2 with k2|k2
   ·exact .inl (Wj _ k2)
   ·exact .inr (by rw[←s3];exact k2)
 ·rw[t3,←s3];exact A.size
 ·show w2.os=w.os;rw[A.os,e1];rfl
 ·show w2.tape=w.tape;rw[A.tape,e1];rfl
 ·show w2.output=w.output;rw[A.output,e1];rfl
 ·have Of:y≠b:=fun e=>by subst e;rw[Pf]at h;cases h
  rw[t2 y Of,A.fix y L h,s2 y Of]
 ·simp only[Array.toList_setIfInBounds]
  apply List.ext_getElem?
  intro j;have hl:arr.toList.length=arr.size:=rfl;simp only[List.getElem?_set,List.length_set,V7,List.getElem?_append,WA,List.getElem?_take,V0,V5,List.getElem?_drop]
  rcases Nat.lt_trichotomy j o with h|h|h
  ·rw[Wz (by omega),Wz (by omega),WK (by omega),WK h]
  ·subst h;rw[Wz (by omega),WK rfl,WK (by omega),Wz (by omega),WK (by omega)];rw[show j - min j arr.toList.length=0 by omega];rfl
  ·by_cases h2:j=o+1
   ·subst h2;rw[WK rfl,WK (by omega),Wz (by omega),WK (by omega),show o+1 - min o arr.toList.length=1 by omega];rfl
   ·rw[Wz (by omega),Wz (by omega),Wz (by omega),Wz (by omega)]
    congr 1
    omega
theorem pv {P:Program}{w:World}{ops:Array Oper}{rest:List Oper}{o:Oper}{a:Act}{Q:Exit→Act→World→Prop}(U0:o.guard=none)(s x:Operand)(t u:TypeId)
  (ho:o.op= .call {callee:= .builtin .append,args:=#[s,x],argTypes:=#[t,u]}) (vs vx:Value) (hs:a.eval s=vs) (hx:a.eval x=vx) (R:Value→World→Prop)
  (hr:∃v w',(Builtin.append_ #[t,u] o.type #[vs,vx]).run P w= .ok v w'∧R v w') (h:∀v w',R v w'→wpList P ops Q rest (a.put o.dst v) w'):wpList P ops Q (o::rest) a w:=by
 obtain⟨v,w',hr,hR⟩:=hr
 refine wpList_plain U0 fun K hK=> ?_
 unfold Oper.wp execOp;simp only[ho,resolve,invoke,builtin,Sem.run_bind,Sem.run_pure,Result.andThen_ok,List.map_toArray,List.map_cons,List.map_nil,hs,hx,hr];exact hK _ _ (h v w' hR)
theorem After.Li {ax:Rd}{w w':World}{nb fV:List Nat}{o:Go.Obj}(hc:∀b L,ax b=some L→b<w.heap.size)(h:After ax (w.alloc o) nb ax w' fV):After ax w nb ax w' fV:=by
 have hs:(w.alloc o).heap.size=w.heap.size+1:=by show(w.heap.push _).size=_;simp
 refine⟨h.mono,h.cells,fun b h1 h2 h3=> ?_,h.nodup,fun b hb=> ?_, ?_,h.os,h.tape,h.output,fun b L hb=> ?_⟩
 ·rw[(h.same b (by omega) h2 h3).1];refine⟨?_,h3⟩;show(w.heap.push _)[b]?=_;rw[Array.getElem?_push,Wz (by omega)]
 ·obtain⟨a1,a2,a3⟩:=h.Pj b hb;refine⟨a1,a2.imp id fun k=> ?_,a3⟩;omega
 ·have:=h.size;omega
 ·rw[h.fix b L hb];have:=hc b L hb;show(w.heap.push _)[b]?=_;rw[Array.getElem?_push,Wz (by omega)]
theorem OwnAt.alloc {ax:Rd}{w:World}{xs:List Int}{us:List Value}{nb:List Nat}(h:OwnAt ax w false (.int .u8) xs us nb)(k:∀b∈nb,b<w.heap.size)(o:Go.Obj):OwnAt ax (w.alloc o) false (.int .u8) xs us nb:=
 h.other fun b hb=>by
  have:=k b hb;show(w.heap.push _)[b]?=_;rw[Array.getElem?_push,Wz (by omega)]
end Go.Abs
end

section
namespace Go.Abs
theorem b8 {P:Program}{f:FuncId}{fn:Func}{c:Code}{args:Array Value}{w:World}{R:Value→World→Prop}(hf:P.funcs[f]?=some fn)(hb:fn.body=some c)(Fm:(fn.name== "runtime.NumGoroutine")=false)
  (h:Calls P f args w fun e w'=>∃v,e= .returned v∧R v w'):eS P f args w R:=by
 have Fq:(callFunc f args).run P w= .ok (.enter f args) w:=by
  have h1:fn.name≠ "runtime.NumGoroutine" :=(by simpa using Fm)
  simp[callFunc,hf,h1,hb]
 unfold eS;rw[Fq];exact h
structure Same (w w':World):Prop where
 other:∀b,b<w.heap.size→w'.heap[b]?=w.heap[b]?
 size:w.heap.size≤w'.heap.size
 os:w'.os=w.os
 tape:w'.tape=w.tape
 output:w'.output=w.output
theorem Same.refl (w:World):Same w w:=⟨fun _ _=>rfl,Wp _,rfl,rfl,rfl⟩
theorem Same.after {ax:Rd}{w w':World}(h:Same w w')(hc:∀b L,ax b=some L→∃arr ty fr,w.heap[b]?=some (.cells arr ty fr)∧arr.toList=L):After ax w [] ax w' []:=
 ⟨fun _ _ h=>h,fun b L k=>by
  obtain⟨a,t,f,k1,k2⟩:=hc b L k
  exact⟨a,t,f,by rw[h.other b (lt_of_heap k1)];exact k1,k2⟩,fun b h1 _ h3=>⟨h.other b h1,h3⟩,WM,(fun b hb=>by simp at hb),h.size,h.os,h.tape,h.output,fun b L k=>by
  obtain⟨a,t,f,k1,k2⟩:=hc b L k
  exact h.other b (lt_of_heap k1)⟩
def Is:(τ:Ty)→τ.den→Value→Prop
 | .int k,x,u=>u= .int k x
 | .bool,b,u=>u= .bool b
 | .str,l,u=>∃s,u= .string s∧l=bytesOf s
 |_,_,_=>False
def mT:List Ty→List VSp
 |[]=>[]
 |τ::r=> .one (.cf τ)::mT r
def uY:(ts:List Ty)→(bO (mT ts)).den→List Value→Prop
 |[],_,us=>us=[]
 |τ::r,x,us=>∃u v,us=u::v∧Is τ x.1 u∧uY r x.2 v
def simple:Ty→Bool
 | .int _=>true
 | .bool=>true
 | .str=>true
 |_=>false
theorem I7 {r:Rd}{τ:Ty}{x:τ.den}{u:Value}(hs:simple τ=true)(h:Rc r τ x [u]):Is τ x u:=by
 cases τ with
 |int k=>have h:_=_:=h;injection h
 |bool=>have h:_=_:=h;injection h
 |str=>obtain⟨s,e,h⟩:=h;injection e with e;exact⟨s,e,h⟩
 |_=>cases hs
theorem Ep {r:Rd}{τ:Ty}{x:τ.den}{u:Value}(hs:simple τ=true)(h:Is τ x u):Rc r τ x [u]∧oc u=true∧τ.one=true:=by
 cases τ with
 |int k=>have h:_=_:=h;subst h;exact⟨rfl,rfl,rfl⟩
 |bool=>have h:_=_:=h;subst h;exact⟨rfl,rfl,rfl⟩
 |str=>obtain⟨s,e,h⟩:=h;subst e;exact⟨⟨s,rfl,h⟩,rfl,rfl⟩
 |_=>cases hs
theorem qG {ax:Rd}{w:World}:∀{ts:List Ty}{x:(bO (mT ts)).den}{us:List Value}{nb:List Nat},(ts.all simple)=true→gb ax w (mT ts) x us nb→uY ts x us∧nb=[]
 |[],_,_,_,_,h=>h
 |τ::r,x,us,nb,hs,⟨u,v,n1,n2,e,e',⟨_,h1,_,u',e2,h2⟩,h3⟩=>by
  simp only[List.all_cons,V6]at hs
  injection e2 with e2
  subst e2;obtain⟨k1,k2⟩:=qG hs.2 h3;exact⟨⟨u,v,e,I7 hs.1 h2,k1⟩,by rw[e',h1,k2];rfl⟩
theorem qJ {ax:Rd}{w w':World}:∀{ts:List Ty}{x:(oW (mT ts)).den}{y:(bO (mT ts)).den}{us:List Value},uY ts y us→iO ax w w' (mT ts) x us []
 |[],_,_,_,h=>⟨h,rfl⟩
 |_::_,_,_,_,⟨u,v,e,_,h⟩=>⟨u,v,[],[],e,rfl,rfl,qJ h⟩
theorem HN {P:Program}{cd:Nat→Option (List Cell)}{f:FuncId}{ts:List Ty}{τ:Ty}(TN:ts.all simple=true)(hτ:simple τ=true){F:(bO (mT ts)).den→Option (Ty.pr τ (oW (mT ts))).den}
  (h:∀x y,F x=some y→∀w us,uY ts x us→eS P f us.toArray w fun v w'=>Same w w'∧Is τ y.1 v):jC P cd f ⟨⟨mT ts, .val (.one (.cf τ))⟩,F⟩:=by
 intro x y hF ax w args nb hG fQ hP kY o9;obtain⟨hA,rfl⟩:=qG TN hP;refine eS.mono (fun v w' hk=> ?_) (h x y hF w args hA);obtain⟨hs,hv⟩:=hk;obtain⟨k1,k2,k3⟩:=Ep (r:=ax) hτ hv;exact⟨ax,[],[],hs.after fQ,⟨k2,rfl,k3,v,rfl,k1⟩,qJ hA⟩
theorem uY.map {ax:Rd}{w:World}:∀{ts:List Ty}{x:(bO (mT ts)).den}{us:List Value},(ts.all simple)=true→uY ts x us→rq ax w (mT ts) x us []
 |[],_,_,_,h=>⟨h,rfl⟩
 |τ::r,x,us,hs,⟨u,v,e,h1,h2⟩=>by
  simp only[List.all_cons,V6]at hs;obtain⟨k1,k2,k3⟩:=Ep (r:=ax) hs.1 h1;exact⟨u,v,[],[],e,rfl,⟨k2,rfl,k3,u,rfl,k1⟩,uY.map hs.2 h2⟩
end Go.Abs
end

section
namespace Go.Abs
theorem Aq {P:Program}{W:World}{n:String}{g:Nat}{cs:Array Value}(hg:P.globalNamed n=some g)(h:W.var? P n=some cs):snap W g=some cs.toList:=by
 unfold World.var? at h;rw[hg,VX]at h;unfold snap;split at h
 ·rename_i arr a b e;rw[e]
  injection h with h
  rw[h]
 ·cases h
theorem AE {H:Type}{enc:TypeId×Value→H}{P:Program}{W:World}{n:String}{g g' t:Nat}{cs:Array Value}{fuel:Nat}{d:DataW H}{p:List MemPlace}{τ:Ty}{x:τ.den}{sp:Nat→Bool}{held:Bool}{k:Nat}
  (hg:P.globalNamed n=some g) (ht:(P.globals[g]?).map (·.type)=some t) (hv:W.var? P n=some cs) (hd:DataW.trod enc P W 0 sp held fuel t cs.toList=some (d,p))
  (eg:P.globalNamed n=some g') (ef:((P.globals[g']?).map (·.type)).all (fun t=>A1 P k t τ)=true) (ho:τ.one=true) (hs:∀us,Rc (snap W) τ x us→us.length=1) (ex:ofD τ d=x):
  ∃us,snap W g'=some us∧∀gh:Gh,(∀b L,snap W b=some L→gh.ax b=some L)→aA gh [.v τ x] us:=by
 obtain rfl:=Option.some.inj (hg.symm.trans eg);rw[ht]at ef;have h:=(yN k fuel t τ cs.toList (d,p) ef hd).1;rw[ex]at h;have hl:=hs _ h;refine⟨cs.toList,Aq hg hv,fun gh hi=> ?_⟩
 match hc:cs.toList,hl with
 |[u],_=>
  rw[hc]at h;exact⟨u,[],rfl,⟨ho,h.mono hi⟩,rfl⟩
theorem Gf {r:Rd}{e:Ty}{xs:List e.den}:∀us,Rc r (.sl e) xs us→us.length=1:=by
 rintro us ⟨A,c,rfl,_⟩;rfl
theorem IQ {H:Type}{enc:TypeId×Value→H}{P:Program}{W:World}{n:String}{g g' t:Nat}{cs:Array Value}{fuel:Nat}{d:DataW H}{p:List MemPlace}{sp:Nat→Bool}{nm:String}
  (hg:P.globalNamed n=some g) (ht:(P.globals[g]?).map (·.type)=some t) (hv:W.var? P n=some cs) (hd:DataW.trod enc P W 0 sp false fuel t cs.toList=some (.iface nm d,p))
  (eg:P.globalNamed n=some g') (ef:((P.globals[g']?).map (·.type)).all (fun t=>match P.underlying t with|some (.interface _)=>true|_=>false)=true):
  ∃us,snap W g'=some us∧∀gh:Gh,(∀b L,snap W b=some L→gh.ax b=some L)→aA gh [.err false] us:=by
 obtain rfl:=Option.some.inj (hg.symm.trans eg);rw[ht]at ef;refine⟨cs.toList,Aq hg hv,fun gh hi=> ?_⟩;have ef:(match P.underlying t with|some (.interface _)=>true|_=>false)=true:=ef
 cases hu:P.underlying t with
 |none=>rw[hu]at ef;cases ef
 |some k=>
  cases k with
  |interface ms=>
   cases fuel with
   |zero=>simp[DataW.trod]at hd
   |succ m=>
    unfold DataW.trod at hd;rw[hu]at hd;simp only at hd;split at hd<;>simp_all;rename_i u v hc _;exact⟨_,_,rfl, .inr ⟨rfl,_,_,rfl⟩,rfl⟩
  |_=>rw[hu]at ef;cases ef
theorem z6 {gh:Gh}{k:IntKind}:∀zs:List Int,aA gh (zs.map fun z=> .v (.int k) z) (zs.map fun z=> .int k z)
 |[]=>rfl
 |z::zs=>⟨_,_,rfl,⟨rfl,rfl⟩,z6 zs⟩
theorem BV {H:Type}{enc:TypeId×Value→H}{P:Program}{W:World}{n:String}{g g' t m e:Nat}{cs:Array Value}{fuel:Nat}{ds:List (DataW H)}{p:List MemPlace}{sp:Nat→Bool}{held:Bool}{k:IntKind}
  (hg:P.globalNamed n=some g) (ht:(P.globals[g]?).map (·.type)=some t) (hv:W.var? P n=some cs) (hd:DataW.trod enc P W 0 sp held fuel t cs.toList=some (.agg ds,p))
  (eg:P.globalNamed n=some g') (zs:List Int) (ez:ds.map (ofD (.int k))=zs)
  (et:((P.globals[g']?).bind fun gl=>P.underlying gl.type)=some (.array m e)) (ee:P.underlying e=some (.int k)) (e1:P.cellsOf e=1) (en:((P.globals[g']?).map fun gl=>P.cellsOf gl.type)=some m):
  ∃us,snap W g'=some us∧∀gh:Gh,(∀b L,snap W b=some L→gh.ax b=some L)→aA gh (zs.map fun z=> .v (.int k) z) us:=by
 obtain rfl:=Option.some.inj (hg.symm.trans eg);refine⟨cs.toList,Aq hg hv,fun gh hi=> ?_⟩;obtain⟨gl,Vm,rfl⟩:=Ww.1 ht;rw[Vm]at et en;have et:P.underlying gl.type=some (.array m e):=et;have en:some (P.cellsOf gl.type)=some m:=en
 injection en with en
 obtain⟨xs,q,_,ex,hl,hx,K4⟩:=DataW.trod_array et hd;rw[en]at hl;simp only[WU,DataW.agg.injEq]at ex
 have:cs.toList=zs.map fun z=> .int k z:=by
  refine List.ext_getElem? fun i=> ?_
  by_cases hi:i<m
  ·have h:=K4 i hi;rw[e1,Nat.mul_one,Wl (show i<xs.length by omega)]at h;obtain⟨z,h1,h2,_⟩:=DataW.trod_int ee h
   have h3:cs.toList[i]?=some (.int k z):=by
    have:((cs.toList.drop i).take 1)[0]?=some (.int k z):=by rw[h1];rfl
    simpa using this
   rw[h3,←ez,ex.1,List.map_map,List.map_map,List.getElem?_map,Wl (show i<xs.length by omega)];simp only[Option.map_some,Function.comp,h2];rfl
  ·rw[List.getElem?_eq_none (by omega),List.getElem?_eq_none (by rw[←ez,ex.1];simp;omega)]
 rw[this];exact z6 zs
end Go.Abs
end
