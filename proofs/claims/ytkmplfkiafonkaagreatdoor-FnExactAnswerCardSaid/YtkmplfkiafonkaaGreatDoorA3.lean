/- What is here: a function that only reads its slices, and gives back nothing that leads to them, may be lent what its caller owns. -/
import Derived.Test.YtkmplfkiafonkaaGreatDoorA2
import Derived.KernelRfl
import Derived.Below
import Derived.Laws.BitsLemmas
import Derived.OpenShut
import Derived.OpenVars
import Derived.Laws.Externs
import Derived.LaidMore
import Derived.LaidHandle
set_option linter.unusedVariables false
set_option linter.unusedSimpArgs false
set_option maxRecDepth 100000
open Go.IntKind (i64 u64 u8)
section
namespace Go.Abs
@[reducible] def zx:Sp->Sp
 | .pr a b=> .pr (zx a) (zx b)
 | .cH (.sl τ)=> .lnd τ true
 |s=>s
def pd:Sp->Bool
 | .un=>true
 | .pr a b=>pd a&&pd b
 | .cH _=>true
 | .err=>true
 | .np=>true
 |_=>false
def xm:Sp->Bool
 | .un=>true
 | .pr a b=>xm a&&xm b
 | .cH τ=>τ.flat
 | .own τ dp=>τ.flat||dp
 | .err=>true
 | .np=>true
 |_=>false
def Kz:(s:Sp)->(zx s).ty.den->s.ty.den
 | .un,x=>x
 | .pr a b,x=>(Kz a x.1,Kz b x.2)
 | .cH (.sl _),x=>x
 | .cH (.int _),x=>x
 | .cH .bool,x=>x
 | .cH .str,x=>x
 | .cH .un,x=>x
 | .cH (.pr _ _),x=>x
 | .cH .cl,x=>x
 | .own _ _,x=>x
 | .lnd _ _,x=>x
 | .ptr _ _ _,x=>x
 | .yK _,x=>x
 | .sA,x=>x
 | .err,x=>x
 | .np,x=>x
 | .slf _ _,x=>x
def Q2:(s:Sp)->(zx s).ty.den->(zx s).oQ.den
 | .un,_=>()
 | .pr a b,x=>(Q2 a x.1,Q2 b x.2)
 | .cH (.sl _),x=>x
 | .cH (.int _),_=>()
 | .cH .bool,_=>()
 | .cH .str,_=>()
 | .cH .un,_=>()
 | .cH (.pr _ _),_=>()
 | .cH .cl,_=>()
 | .own _ _,_=>()
 | .lnd _ _,x=>x
 | .ptr _ _ _,x=>x
 | .yK _,_=>()
 | .sA,_=>()
 | .err,_=>()
 | .np,_=>()
 | .slf _ _,_=>()
@[reducible] def OI:VSp->VSp
 | .one s=> .one (zx s)
 | .agg s=> .agg (zx s)
def QQ:(a:VSp)->(OI a).sp.ty.den->a.sp.ty.den
 | .one s,x=>Kz s x
 | .agg s,x=>Kz s x
def X9:(a:VSp)->(OI a).sp.ty.den->(OI a).sp.oQ.den
 | .one s,x=>Q2 s x
 | .agg s,x=>Q2 s x
@[reducible] def xr:List VSp->List VSp
 |[]=>[]
 |a::r=>OI a::xr r
def Dh:(as:List VSp)->(cf (xr as)).den->(cf as).den
 |[],_=>()
 |a::r,x=>(QQ a x.1,Dh r x.2)
def Ik:(as:List VSp)->(cf (xr as)).den->(pf (xr as)).den
 |[],_=>()
 |a::r,x=>(X9 a x.1,Ik r x.2)
def BA (c:Callee):Callee:=⟨⟨xr c.sig.args,c.sig.res⟩,λx=>(c.F (Dh c.sig.args x)).map λy=>(y.1,Ik c.sig.args x)⟩
def pC (as:List VSp):Bool:=as.all λa=>pd a.sp
def Me:RSp->Bool
 | .val v=>xm v.sp
 | .tb vs=>vs.all λv=>xm v.sp
 | .none=>true
open Classical in
noncomputable def II (aD:Rd)(w:World)(nb:List Nat):Rd:=λb=>if b∈nb then rdW w b else aD b
theorem Mh {w:World}{b:Nat}{arr:Array Value}{ty:TypeId}(h:w.heap[b]?=some (.cells arr ty (0,0))):rdW w b=some arr.toList:=by
 unfold rdW;rw[h];rfl
def S9 (w:World)(nb:List Nat):Prop:=∀b∈nb,∃arr ty,w.heap[b]?=some (.cells arr ty (0,0))
theorem P6 {w:World}{b:Nat}(h:rdW w b≠none):∃arr ty,w.heap[b]?=some (.cells arr ty (0,0)):=by
 unfold rdW at h;split at h
 ·rename_i arr ty e;exact⟨arr,ty,e⟩
 ·exact absurd rfl h
theorem OwnAt.here {aD:Rd}{w:World}{mv:Bool}{τ:Ty}{xs:List τ.den}{us:List Value}{nb:List Nat}(h:OwnAt aD w mv τ xs us nb):S9 w nb:=by
 rcases h with⟨_,_,rfl⟩|⟨b,cap,arr,ty,jd,_,rfl,ha,_,_,hE⟩
 ·exact λb hb=>by simp at hb
 ·intro x hx
  rcases aF8.1 hx with rfl|hx
  ·exact⟨arr,ty,ha⟩
  ·unfold jI at hE;split at hE
   ·exact P6 (hE.nv x hx)
   ·rw[hE.2]at hx;simp at hx
theorem OwnAt.rc {aD imm1:Rd}{w:World}{τ:Ty}{xs:List τ.den}{us:List Value}{nb:List Nat}(h1:∀b∈nb,imm1 b=rdW w b)(h:OwnAt aD w (true&& !τ.flat) τ xs us nb):Rc imm1 (.sl τ) xs us:=by
 rcases h with⟨rfl,rfl,rfl⟩|⟨b,cap,arr,ty,jd,rfl,rfl,ha,hl,_,hE⟩
 ·exact⟨none,0,rfl,aE5 _, .inl rfl⟩
 ·refine⟨some ⟨b,0,none⟩,cap,rfl,hl, .inr ⟨b,0,arr.toList,rfl, ?_, ?_⟩⟩
  ·rw[h1 b (aE0 ..),Mh ha]
  ·show Els imm1 τ xs arr.toList 0;unfold jI at hE;split at hE
   ·exact(fk.mono (r':=imm1) (λx hx L hL=>by rw[h1 x (aD9 _ hx)];exact hL) hE).els
   ·rename_i hf;have hf:τ.flat=true:=(by simpa using hf);exact hE.1.flat hf
theorem Kh {aD imm1:Rd}{w:World}(hm:∀b L,aD b=some L->imm1 b=some L):∀{s:Sp}{x:(zx s).ty.den}{pl:Nat×Nat}{us:List Value}{nb:List Nat},pd s=true->(∀b∈nb,imm1 b=rdW w b)->Pass aD w (zx s) x pl us nb->
  Pass imm1 w s (Kz s x) pl us []/\S9 w nb:=by
 intro s
 induction s with
 |un=>intro x pl us nb _ _ h;exact⟨⟨h.1,rfl⟩,by rw[h.2];exact λb hb=>by simp at hb⟩
 |pr a b vW vY=>
  intro x pl us nb hp h1 h;simp only[pd,aC6]at hp;obtain⟨u1,u2,n1,n2,rfl,rfl,k1,k2⟩:=h;obtain⟨a1,a2⟩:=vW hp.1 (λb hb=>h1 b (aF6 _ hb)) k1;obtain⟨b1,b2⟩:=vY hp.2 (λb hb=>h1 b (aF3 _ hb)) k2;refine⟨⟨u1,u2,[],[],rfl,rfl,a1, ?_⟩,λb hb=> ?_⟩
  ·have lh:∀s,pd s=true->(zx s).size=s.size:=by
    intro s
    induction s with
    |pr a b vW vY=>intro h;simp only[pd,aC6]at h;show(zx a).size+(zx b).size=a.size+b.size;rw[vW h.1,vY h.2]
    |cH τ=>intro _;cases τ<;>rfl
    |_=>intro _;rfl
   rw[lh a hp.1]at b1;exact b1
  ·rcases aE9.1 hb with hb|hb
   ·exact a2 b hb
   ·exact b2 b hb
 |cH τ=>
  intro x pl us nb _ h1 h
  cases τ with
  |sl e=>
   have h:OwnAt aD w (true&& !e.flat) e x us nb:=h;refine⟨⟨rfl,rfl, ?_⟩,h.here⟩;have hr:=h.rc h1;obtain⟨A,c,e',_⟩:=id hr;exact⟨_,e',by rw[<-e'];exact hr⟩
  |_=>
   obtain⟨rfl,h2,u,rfl,h3⟩:=h;exact⟨⟨rfl,h2,u,rfl,h3.mono hm⟩,λb hb=>by simp at hb⟩
 |err=>
  intro x pl us nb _ _ h;obtain⟨rfl,h⟩:=h;exact⟨⟨rfl,h⟩,λb hb=>by simp at hb⟩
 |np=>
  intro x pl us nb _ _ h;obtain⟨rfl,h⟩:=h;exact⟨⟨rfl,h⟩,λb hb=>by simp at hb⟩
 |_=>intro x pl us nb hp;cases hp
theorem OC {aD imm1:Rd}{w:World}(hm:∀b L,aD b=some L->imm1 b=some L){a:VSp}{x:(OI a).sp.ty.den}{u:Value}{nb:List Nat}(hp:pd a.sp=true)(h1:∀b∈nb,imm1 b=rdW w b)(h:qV aD w (OI a) x u nb):
  qV imm1 w a (QQ a x) u []/\S9 w nb:=by
 cases a with
 |one s=>obtain⟨ho,h⟩:=h;obtain⟨k1,k2⟩:=Kh hm hp h1 h;exact⟨⟨ho,k1⟩,k2⟩
 |agg s=>obtain⟨us,e,h⟩:=h;obtain⟨k1,k2⟩:=Kh hm hp h1 h;exact⟨⟨us,e,k1⟩,k2⟩
theorem Et {aD imm1:Rd}{w:World}(hm:∀b L,aD b=some L->imm1 b=some L):∀{as:List VSp}{x:(cf (xr as)).den}{us:List Value}{nb:List Nat},pC as=true->(∀b∈nb,imm1 b=rdW w b)->gw aD w (xr as) x us nb->
  gw imm1 w as (Dh as x) us []/\S9 w nb
 |[],x,us,nb,_,_,h=>⟨⟨h.1,rfl⟩,by rw[h.2];exact λb hb=>by simp at hb⟩
 |a::r,x,us,nb,hp,h1,⟨u,q,n1,n2,e,e',k1,k2⟩=>by
  subst e;subst e';simp only[pC,List.all_cons,aC6]at hp;obtain⟨a1,a2⟩:=OC hm hp.1 (λb hb=>h1 b (aF6 _ hb)) k1;obtain⟨b1,b2⟩:=Et hm hp.2 (λb hb=>h1 b (aF3 _ hb)) k2;refine⟨⟨u,q,[],[],rfl,rfl,a1,b1⟩,λb hb=> ?_⟩
  rcases aE9.1 hb with hb|hb
  ·exact a2 b hb
  ·exact b2 b hb
theorem OwnAt.still {aD cQ:Rd}{w w':World}{τ:Ty}{xs:List τ.den}{us:List Value}{nb:List Nat}(hs:∀b∈nb,w'.heap[b]?=w.heap[b]?)(h:OwnAt aD w (true&& !τ.flat) τ xs us nb):OwnAt cQ w' (true&& !τ.flat) τ xs us nb:=by
 rcases h with h|⟨b,cap,arr,ty,jd,e,rfl,ha,hl,hz,hE⟩
 ·exact .inl h
 ·refine .inr ⟨b,cap,arr,ty,jd,e,rfl,(hs b (aE0 ..)).trans ha,hl,hz, ?_⟩;unfold jI at hE⊢;split
  ·rename_i hc;rw[aG3 hc]at hE;refine fk.mono (λx hx L hL=> ?_) hE;have:=hs x (aD9 _ hx);unfold rdW at hL⊢;rw[this];exact hL
  ·rename_i hc;rw[aF4 hc]at hE;have hf:τ.flat=true:=(by simpa using hc);exact⟨hE.1.flat hf,hE.2⟩
theorem Ka {aD cQ:Rd}{w w':World}:∀{s:Sp}{x:(zx s).ty.den}{pl:Nat×Nat}{us:List Value}{nb:List Nat},pd s=true->(∀b∈nb,w'.heap[b]?=w.heap[b]?)->Pass aD w (zx s) x pl us nb->AE cQ w w' (zx s) (Q2 s x) us nb:=by
 intro s
 induction s with
 |un=>intro x pl us nb _ _ h;exact h.2
 |pr a b vW vY=>
  intro x pl us nb hp h1 h;simp only[pd,aC6]at hp;obtain⟨u1,u2,n1,n2,rfl,rfl,k1,k2⟩:=h;have hl:=k1.length;refine⟨n1,n2,rfl, ?_, ?_⟩
  ·rw[<-hl,List.take_left];exact vW hp.1 (λb hb=>h1 b (aF6 _ hb)) k1
  ·rw[<-hl,List.drop_left];exact vY hp.2 (λb hb=>h1 b (aF3 _ hb)) k2
 |cH τ=>
  intro x pl us nb _ h1 h
  cases τ with
  |sl e=>
   have h:OwnAt aD w (true&& !e.flat) e x us nb:=h;exact⟨rfl,h.still h1⟩
  |_=>exact h.1
 |err=>intro x pl us nb _ _ h;exact h.1
 |np=>intro x pl us nb _ _ h;exact h.1
 |_=>intro x pl us nb hp;cases hp
theorem Ef {aD cQ:Rd}{w w':World}:∀{as:List VSp}{x:(cf (xr as)).den}{us:List Value}{nb:List Nat},pC as=true->(∀b∈nb,w'.heap[b]?=w.heap[b]?)->gw aD w (xr as) x us nb->j7 cQ w w' (xr as) (Ik as x) us nb
 |[],x,us,nb,_,_,h=>h
 |a::r,x,us,nb,hp,h1,⟨u,q,n1,n2,e,e',k1,k2⟩=>by
  subst e;subst e';simp only[pC,List.all_cons,aC6]at hp;refine⟨u,q,n1,n2,rfl,rfl, ?_,Ef hp.2 (λb hb=>h1 b (aF3 _ hb)) k2⟩
  have K9:=λb hb=>h1 b (aF6 n2 hb)
  cases a with
  |one s=>obtain⟨ho,k1⟩:=k1;rw[Bq ho];exact Ka hp.1 K9 k1
  |agg s=>obtain⟨us,e,k1⟩:=k1;subst e;exact Ka hp.1 K9 k1
theorem nA.indep {aD cQ:Rd}{w:World}:∀{s:Sp}{x:s.ty.den}{pl:Nat×Nat}{old us:List Value}{nb:List Nat},xm s=true->nA aD w w s x pl old us nb->nA cQ w w s x pl old us nb:=by
 intro s
 induction s with
 |un=>intro x pl old us nb _ h;exact h
 |pr a b vW vY=>
  intro x pl old us nb hp h;simp only[xm,aC6]at hp;obtain⟨u1,u2,n1,n2,e,e',k1,k2⟩:=h;exact⟨u1,u2,n1,n2,e,e',vW hp.1 k1,vY hp.2 k2⟩
 |cH τ=>
  intro x pl old us nb hp h;obtain⟨h1,h2,u,h3,h4⟩:=h;exact⟨h1,h2,u,h3,h4.flat hp⟩
 |own τ dp=>
  intro x pl old us nb hp h;have hp:(τ.flat||dp)=true:=hp;have h:OwnAt aD w (dp&& !τ.flat) τ x us nb:=h;show OwnAt cQ w (dp&& !τ.flat) τ x us nb
  rcases h with h|⟨b,cap,arr,ty,jd,e,e',ha,hl,hs,hE⟩
  ·exact .inl h
  ·refine .inr ⟨b,cap,arr,ty,jd,e,e',ha,hl,hs, ?_⟩;unfold jI at hE⊢;split
   ·rename_i hc;rw[aG3 hc]at hE;exact hE
   ·rename_i hc;rw[aF4 hc]at hE
    have hf:τ.flat=true:=by
     revert hp hc
     cases τ.flat<;>cases dp<;>simp
    exact⟨hE.1.flat hf,hE.2⟩
 |err=>intro x pl old us nb _ h;exact h
 |np=>intro x pl old us nb _ h;exact h
 |_=>intro x pl old us nb hp;cases hp
theorem EC {aD cQ:Rd}{w:World}{a:VSp}{x:a.sp.ty.den}{u:Value}{nb:List Nat}(hp:xm a.sp=true)(h:xn aD w a x u nb):xn cQ w a x u nb:=by
 cases a with
 |one s=>exact⟨h.1,h.2.indep hp⟩
 |agg s=>obtain⟨us,e,h⟩:=h;exact⟨us,e,h.indep hp⟩
theorem Ck {aD cQ:Rd}{w:World}:∀{as:List VSp}{x:(cf as).den}{us:List Value}{nb:List Nat},(as.all λv=>xm v.sp)=true->qT aD w as x us nb->qT cQ w as x us nb
 |[],_,_,_,_,h=>h
 |a::r,x,us,nb,hp,⟨u,q,n1,n2,e,e',k1,k2⟩=>by
  simp only[List.all_cons,aC6]at hp;exact⟨u,q,n1,n2,e,e',EC hp.1 k1,Ck hp.2 k2⟩
theorem NZ {aD cQ:Rd}{w:World}{r:RSp}{x:r.ty.den}{u:Value}{nb:List Nat}(hp:Me r=true)(h:vE aD w r x u nb):vE cQ w r x u nb:=by
 cases r with
 |val a=>exact EC hp h
 |tb as=>obtain⟨vs,e,h⟩:=h;exact⟨vs,e,Ck hp h⟩
 |none=>exact h
theorem Ll {aD:Rd}{w w':World}:∀{s:Sp}{x:s.oQ.den}{us:List Value}{nb:List Nat},pd s=true->AE aD w w' s x us nb->nb=[]:=by
 intro s
 induction s with
 |pr a b vW vY=>
  intro x us nb hp ⟨n1,n2,e,h1,h2⟩;simp only[pd,aC6]at hp;rw[e,vW hp.1 h1,vY hp.2 h2];rfl
 |un=>intro x us nb _ h;exact h
 |cH τ=>intro x us nb _ h;exact h
 |err=>intro x us nb _ h;exact h
 |np=>intro x us nb _ h;exact h
 |_=>intro x us nb hp;cases hp
theorem zU {aD:Rd}{w w':World}:∀{as:List VSp}{x:(pf as).den}{us:List Value}{nb:List Nat},pC as=true->j7 aD w w' as x us nb->nb=[]
 |[],_,_,_,_,h=>h.2
 |a::r,x,us,nb,hp,⟨u,q,n1,n2,e,e',k1,k2⟩=>by
  simp only[pC,List.all_cons,aC6]at hp;rw[e',Ll hp.1 k1,zU hp.2 k2];rfl
theorem U5 {P:Program}{df:Nat->Option (List Cell)}{f:FuncId}{c:Callee}(hp:pC c.sig.args=true)(hr:Me c.sig.res=true)(H:lP P df f c):lP P df f (BA c):=by
 intro x y hF aD w args nb hG iG hP mR oS;have hF:(c.F (Dh c.sig.args x)).map (λy=>(y.1,Ik c.sig.args x))=some y:=hF;obtain⟨z,hz,rfl⟩:=aF1.1 hF;have hP:gw aD w (xr c.sig.args) x args nb:=hP
 have hm:∀b L,aD b=some L->II aD w nb b=some L:=λb L h=>by
  unfold II;rw[aF4]
  ·exact h
  ·intro hb;rw[(oS b hb).1]at h;cases h
 obtain⟨P1,here⟩:=Et (imm1:=II aD w nb) hm hp (λb hb=>by unfold II;rw[aG3 hb]) hP;refine(H _ _ hz (II aD w nb) w args [] (hG.mono hm) (λb L h=> ?_) P1 aG5 (λb hb=>by simp at hb)).mono ?_
 ·unfold II at h;split at h
  ·rename_i hb;obtain⟨arr,ty,ha⟩:=here b hb;rw[Mh ha]at h
   injection h with h
   exact⟨arr,ty,_,ha,h⟩
  ·exact iG b L h
 ·rintro v w' ⟨cQ,n1,n2,A,hR,hO⟩;have Gw:=zU hp hO;subst Gw;rw[aF0]at A
  have mB:∀b∈nb,w'.heap[b]?=w.heap[b]?:=λb hb=>by
   obtain⟨arr,ty,ha⟩:=here b hb;exact A.fix b arr.toList (by unfold II;rw[aG3 hb,Mh ha])
  refine⟨λb=>open Classical in if b∈nb then none else cQ b,n1,nb,⟨λb L h=> ?_,λb L h=> ?_,λb h1 h2 h3=> ?_, ?_,λb hb=> ?_,A.size,A.os,A.tape,A.output,λb L h=>A.fix b L (hm b L h)⟩,NZ hr hR,Ef hp mB hP⟩
  ·rw[aF4 (λhb=>by rw[(oS b hb).1]at h;cases h)];exact A.mono b L (hm b L h)
  ·have h:(if b∈nb then none else cQ b)=some L:=h;split at h
   ·cases h
   ·exact A.cells b L h
  ·have e:II aD w nb b=none:=by unfold II;rw[aF4 h2];exact h3
   obtain⟨a1,a2⟩:=A.same b h1 (by simp) e;exact⟨a1,by rw[aF4 h2];exact a2⟩
  ·rw[aH0];refine⟨A.nodup,mR,λa ha b hb e=> ?_⟩;subst e;have h1:=(oS a hb).2
   rcases(A.Up a ha).2.1 with h|h
   ·simp at h
   ·omega
  ·rcases aE9.1 hb with hb|hb
   ·obtain⟨a1,a2,a3⟩:=A.Up b hb;refine⟨?_, ?_,a3⟩
    ·split
     ·rfl
     ·exact a1
    ·rcases a2 with h|h
     ·simp at h
     ·exact .inr h
   ·refine⟨by rw[aG3 hb], .inl hb, ?_⟩;have:=(oS b hb).2;have:=A.size;omega
end Go.Abs
end

section
namespace Go.Abs
def bF:Code->List (Bool×Code)
 | .seq a b=>(false,b)::(bF a++bF b)
 | .cond _ a b=>bF a++bF b
 | .block _ c=>bF c
 | .loop c=>(true,c)::bF c
 | .scope c=>bF c
 |_=>[]
def ld (k:Bool)(r:Nat):List (Bool×Code)->Code
 |[]=> .skip
 |p::q=>bif(p.1==k)&&(match first p.2 with|some n=>Nat.beq n r|none=>false)then p.2 else ld k r q
theorem Ln:∀(c:Code),∀p∈pieces c,p∈bF c:=by
 intro c
 induction c with
 |seq a b vW vY=>
  intro p hp;simp only[pieces,bF,aF8,aE9]at hp⊢
  rcases hp with h|h|h
  ·exact .inl h
  ·exact .inr (.inl (vW p h))
  ·exact .inr (.inr (vY p h))
 |cond c a b vW vY=>
  intro p hp;simp only[pieces,bF,aE9]at hp⊢;exact hp.imp (vW p) (vY p)
 |block id c ih=>exact ih
 |loop c ih=>intro p hp;simp only[pieces,bF,aF8,List.not_mem_nil,or_false]at hp⊢;exact .inl hp
 |scope c ih=>exact ih
 |_=>intro p hp;cases hp
theorem CO:∀(c:Code),∀p∈bF c,∀q∈bF p.2,q∈bF c:=by
 intro c
 induction c with
 |seq a b vW vY=>
  intro p hp q hq;simp only[bF,aF8,aE9]at hp⊢
  rcases hp with rfl|h|h
  ·exact .inr (.inr hq)
  ·exact .inr (.inl (vW p h q hq))
  ·exact .inr (.inr (vY p h q hq))
 |cond c a b vW vY=>
  intro p hp q hq;simp only[bF,aE9]at hp⊢
  rcases hp with h|h
  ·exact .inl (vW p h q hq)
  ·exact .inr (vY p h q hq)
 |block id c ih=>exact ih
 |loop c ih=>
  intro p hp q hq;simp only[bF,aF8]at hp⊢
  rcases hp with rfl|h
  ·exact .inr hq
  ·exact .inr (ih p h q hq)
 |scope c ih=>exact ih
 |_=>intro p hp;cases hp
theorem Ee {k:Bool}{b:Code}{r:Nat}:∀{l:List (Bool×Code)},(∀p∈l,first p.2=some r->p.1=k->p=(k,b))->(k,b)∈l->first b=some r->ld k r l=b
 |[],_,h,_=>by simp at h
 |p::q,hu,h,hf=>by
  simp only[ld]
  cases hc:((p.1==k)&&(match first p.2 with|some n=>Nat.beq n r|none=>false))with
  |true=>
   simp only[aC6,beq_iff_eq]at hc
   have h2:first p.2=some r:=by
    cases hp:first p.2 with
    |none=>rw[hp]at hc;cases hc.2
    |some n=>rw[hp]at hc;rw[beq_eq hc.2]
   rw[hu p (aE0 ..) h2 hc.1];rfl
  |false=>
   simp only[aD1];refine Ee (λp' BZ=>hu p' (aD9 _ BZ)) ?_ hf
   rcases aF8.1 h with h|h
   ·exfalso
    subst h;simp[hf]at hc
   ·exact h
def HR (yJ:Bool->Nat->Bool)(c:Code):List (Bool×Nat):=(bF c).filterMap λp=>match first p.2 with
 |some r=>bif yJ p.1 r then some (p.1,r)else none
 |none=>none
theorem Eo {yJ:Bool->Nat->Bool}:∀{l:List (Bool×Code)},(l.filterMap λp=>match first p.2 with|some r=>bif yJ p.1 r then some (p.1,r)else none|none=>none).Nodup->∀{p q:Bool×Code}{r:Nat},p∈l->q∈l->first p.2=some r->first q.2=some r->p.1=q.1->yJ p.1 r=true->p=q
 |[],_,p,q,r,hp,_,_,_,_,_=>by simp at hp
 |x::l,h,p,q,r,hp,hq,h1,h2,h3,h4=>by
  have mem:∀y∈l,first y.2=some r->y.1=p.1->(p.1,r)∈(l.filterMap λp=>match first p.2 with|some r=>bif yJ p.1 r then some (p.1,r)else none|none=>none):=λy hy hf hk=>
   List.mem_filterMap.2 ⟨y,hy,by rw[hf];simp[hk,h4]⟩
  rcases aF8.1 hp with rfl|BZ<;>rcases aF8.1 hq with rfl|Pd
  ·rfl
  ·exfalso
   rw[List.filterMap_cons]at h;simp only[h1,h4,aD6,List.nodup_cons]at h;exact h.1 (mem q Pd h2 h3.symm)
  ·exfalso
   rw[List.filterMap_cons]at h;simp only[h2,<-h3,h4,aD6,List.nodup_cons]at h;exact h.1 (mem p BZ h1 rfl)
  ·refine Eo (l:=l) ?_ BZ Pd h1 h2 h3 h4;rw[List.filterMap_cons]at h;split at h
   ·exact h
   ·exact(List.nodup_cons.1 h).2
structure Sys where
 P:Program
 df:Nat->Option (List Cell)
 cl:TypeId
 sig:FuncId->Sig
 known:FuncId->Bool
 lZ:FuncId->List Nat
 yJ:FuncId->Bool->Nat->Bool
 cut:FuncId->Bool->Nat->Cut
 lib:FuncId->Option Callee
 bors:List (FuncId×FuncId):=[]
 nest:FuncId->Bool:=λ_=>false
 trim:FuncId->Bool:=λ_=>false
namespace Sys
variable(S:Sys)
structure Tab where
 fn:(f:FuncId)->(S.sig f).dom.den->Option (S.sig f).cod.den
 pc:(f:FuncId)->(k:Bool)->(r:Nat)->(cf (S.cut f k r).as).den->Option (n8 (S.cut f k r).ws)
def ND (c f:FuncId):Bool:=S.bors.any λp=>Nat.beq p.1 c&&Nat.beq p.2 f
def Qp:Bool:=S.bors.all λp=>pC (S.sig p.2).args&&Me (S.sig p.2).res
def callee (T:S.Tab)(c f:FuncId):Option Callee:=bif S.known f then(bif S.ND c f then some (BA ⟨S.sig f,T.fn f⟩)else some ⟨S.sig f,T.fn f⟩)else S.lib f
def XY:Sp->Bool
 | .ptr _ _ (.ptr _ _ _)=>true
 |_=>false
def ini (f:FuncId):Bool:=(S.sig f).args.any λa=>XY a.sp
def cutAt (f:FuncId)(k:Bool)(r:Nat):Bool:=S.yJ f k r&& !S.ini f
def env (T:S.Tab)(f:FuncId)(nt:Nat):Env:={P:=S.P,callee:=S.callee T f,df:=S.df,cl:=S.cl,nt:=nt,lZ:=S.lZ f,nest:=S.nest f,trim:=S.trim f,slf:=EU (S.sig f).args,ini:=S.ini f}
def AG (T:S.Tab)(f:FuncId):Cuts:=
  ⟨λr=>bif S.cutAt f true r then some ((S.cut f true r).xS (T.pc f true r))else none,
   λr=>bif S.cutAt f false r then some ((S.cut f false r).xS (T.pc f false r))else none⟩
def Fe (T:S.Tab)(f:FuncId)(x:(S.sig f).dom.den):Option (S.sig f).cod.den:=match S.P.funcs[f]? with
 |some fn=>Fq (S.env T f fn.ntmps) fn (S.sig f) (S.AG T f) x
 |none=>none
def zo (T:S.Tab)(f:FuncId)(k:Bool)(r:Nat)(x:(cf (S.cut f k r).as).den):Option (n8 (S.cut f k r).ws):=match S.P.funcs[f]? with
 |some fn=>match fn.body with
  |some c=>bif k then(S.cut f k r).round (S.env T f fn.ntmps) (S.AG T f) (ld k r (bF c)) (T.pc f k r) x
    else(S.cut f k r).tail (S.env T f fn.ntmps) (S.AG T f) (ld k r (bF c)) x
  |none=>none
 |none=>none
def step (T:S.Tab):S.Tab:=⟨S.Fe T,S.zo T⟩
@[reducible] def tab:Nat->S.Tab
 |0=>⟨λ_ _=>none,λ_ _ _ _=>none⟩
 |n+1=>S.step (tab n)
def Mm (f:FuncId):Bool:=match S.P.funcs[f]? with
 |some fn=>match fn.body with
  |some c=>(fn.name != "runtime.NumGoroutine")&&Nat.ble (S.sig f).args.length fn.ntmps&&((S.lZ f).all λt=>Nat.blt t (S.sig f).args.length)&&mM (S.sig f).args&&
    decide (HR (S.cutAt f) c).Nodup
  |none=>false
 |none=>false
end Sys
end Go.Abs
end

section
namespace Go.Abs
theorem ActRel.callee {E E':Env}(hn:E'.nt=E.nt)(hk:E'.lZ=E.lZ)(hs:E'.slf=E.slf)(hi:E'.ini=E.ini){B:Base}{g:Gh}{env:List (Nat×Slot)}{a:Act}(H:ActRel E B g env a):ActRel E' B g env a:=
 ⟨H.env,H.size.trans hn.symm,H.defers,by rw[hk];exact H.kept,λf ts h h2=>H.slf f ts (by rw[<-hs];exact h) h2,λe=>H.ini (hi.symm.trans e)⟩
theorem KOk.callee {ρ:Type}{E E':Env}(hg:E'.df=E.df)(hn:E'.nt=E.nt)(hk:E'.lZ=E.lZ)(hs:E'.slf=E.slf)(hi:E'.ini=E.ini){B:Base}{K:St->Option ρ}{x:ρ}{Q:Act->World->Prop}(h:KOk E' B K x Q):KOk E B K x Q:=
 λs g a w h1 h2 h3 h4=>h s g a w h1 (by rw[hg];exact h2) h3 (h4.callee hn hk hs hi)
theorem s8.callee {E E':Env}(hg:E'.df=E.df)(hn:E'.nt=E.nt)(hk:E'.lZ=E.lZ)(hs:E'.slf=E.slf)(hi:E'.ini=E.ini){c:Cut}{W:(Exit->Act->World->Prop)->Act->World->Prop}{L:(cf c.as).den->Option (n8 c.ws)}(h:s8 E c W L):s8 E' c W L:=
 λx y at2 _ B K z Q ax5 hK g a w h1 h2 h3=>h x y at2 B K z Q ax5 (λe=>(hK e).callee hg hn hk hs hi) g a w (by rw[<-hg];exact h1) h2 (h3.callee hn.symm hk.symm hs.symm hi.symm)
namespace Sys
variable{S:Sys}
theorem Ir {f:FuncId}{k:Bool}{r:Nat}(h:S.cutAt f k r=true):S.ini f=false:=by
 unfold cutAt at h;rw[aC6]at h;simpa using h.2
theorem Es {f:FuncId}(h:S.Mm f=true):∃fn c,S.P.funcs[f]?=some fn/\fn.body=some c/\(fn.name== "runtime.NumGoroutine")=false/\(S.sig f).args.length<=fn.ntmps/\((S.lZ f).all λt=>Nat.blt t (S.sig f).args.length)=true/\mM (S.sig f).args=true/\
  (HR (S.cutAt f) c).Nodup:=by
 unfold Mm at h;split at h
 ·rename_i fn hf;split at h
  ·rename_i c hc;simp only[aC6,aC4]at h;exact⟨fn,c,hf,hc,by have:=h.1.1.1.1;simpa[bne]using this,aE7 h.1.1.1.2,h.1.1.2,h.1.2,h.2⟩
  ·cases h
 ·cases h
def W1 (P:Program)(k:Bool)(b:Code):(Exit->Act->World->Prop)->Act->World->Prop:=if k then pZ P b else λQ=>b.wp P Q
structure TabOk (S:Sys)(T:S.Tab):Prop where
 fn:∀f,S.known f=true->vf S.P S.df f ⟨S.sig f,T.fn f⟩
 pc:∀f,S.known f=true->∀fn c,S.P.funcs[f]?=some fn->fn.body=some c->∀k r,S.cutAt f k r=true->(k,ld k r (bF c))∈bF c->∀T':S.Tab,
  s8 (S.env T' f fn.ntmps) (S.cut f k r) (W1 S.P k (ld k r (bF c))) (T.pc f k r)
theorem QE {T:S.Tab}(hT:TabOk S T){f:FuncId}(hk:S.known f=true){fn:Func}{c:Code}(hf:S.P.funcs[f]?=some fn)(hb:fn.body=some c)(mR:(HR (S.cutAt f) c).Nodup){d:Code}(hd:∀p∈bF d,p∈bF c):
  CutsOk (S.env T f fn.ntmps) (S.AG T f) d:=by
 have found:∀k b r,(k,b)∈pieces d->first b=some r->S.cutAt f k r=true->ld k r (bF c)=b/\(k,b)∈bF c:=by
  intro k b r hp hr IW;have hm:=hd _ (Ln d _ hp);refine⟨Ee (λp BZ h1 h2=> ?_) hm hr,hm⟩;exact Eo mR BZ hm h1 hr h2 (by rw[h2];exact IW)
 refine⟨λb hp h hh=> ?_,λb hp h hh=> ?_⟩
 ·cases hr:first b with
  |none=>rw[hr]at hh;cases hh
  |some r=>
   rw[hr]at hh;have hh:(bif S.cutAt f true r then some ((S.cut f true r).xS (T.pc f true r))else none)=some h:=hh
   cases hc:S.cutAt f true r with
   |false=>rw[hc]at hh;cases hh
   |true=>
    rw[hc]at hh
    injection hh with hh
    subst hh;obtain⟨e,hm⟩:=found true b r hp hr hc;have:=hT.pc f hk fn c hf hb true r hc (by rw[e];exact hm) T;rw[e]at this;exact HK (Ir hc) (body:=b) this
 ·cases hr:first b with
  |none=>rw[hr]at hh;cases hh
  |some r=>
   rw[hr]at hh;have hh:(bif S.cutAt f false r then some ((S.cut f false r).xS (T.pc f false r))else none)=some h:=hh
   cases hc:S.cutAt f false r with
   |false=>rw[hc]at hh;cases hh
   |true=>
    rw[hc]at hh
    injection hh with hh
    subst hh;obtain⟨e,hm⟩:=found false b r hp hr hc;have:=hT.pc f hk fn c hf hb false r hc (by rw[e];exact hm) T;rw[e]at this;exact Hk (Ir hc) (body:=b) this
theorem GW:∀{as:List VSp},pC as=true->vF as=none
 |[],_=>rfl
 |[.one s],h=>by
  cases s with
  |slf f m=>cases h
  |_=>rfl
 |[.agg s],_=>rfl
 |x::a::r,h=>by
  have h:(pd x.sp&&pC (a::r))=true:=h;rw[aC6]at h;have ih:=GW h.2
  have e:vF (x::a::r)=vF (a::r):=by
   cases x with
   |one s=>cases s<;>rfl
   |agg s=>rfl
  rw[e];exact ih
theorem Dq (hm:S.P.follows .mixedOrders=true)(hk:∀f,S.known f=true->S.Mm f=true)(hl:∀f c,S.known f=false->S.lib f=some c->lP S.P S.df f c)(R9:S.Qp=true){T:S.Tab}(hT:TabOk S T):TabOk S (S.step T):=by
 have hE:∀f nt,EnvOk (S.env T f nt):=λf nt=>⟨λg c hc=>by
  have hc:(bif S.known g then(bif S.ND f g then some (BA ⟨S.sig g,T.fn g⟩)else some ⟨S.sig g,T.fn g⟩)else S.lib g)=some c:=hc
  cases hg:S.known g with
  |true=>
   rw[hg]at hc
   cases NQ:S.ND f g with
   |false=>rw[NQ]at hc;injection hc with hc;subst hc;exact hT.fn g hg
   |true=>
    rw[NQ]at hc;injection hc with hc;subst hc
    unfold ND at NQ;obtain⟨q,hq,am9⟩:=List.any_eq_true.1 NQ;simp only[aC6]at am9;obtain rfl:=beq_eq am9.2;have:=List.all_eq_true.1 R9 q hq;simp only[aC6]at this;exact(U5 this.1 this.2 ((hT.fn _ hg).plain (GW this.1))).slf
  |false=>rw[hg]at hc;exact(hl g c hg hc).slf⟩
 refine⟨λf hf=> ?_,λf hf fn c Xn hb k r IW Tz T'=> ?_⟩
 ·obtain⟨fn,c,h1,h2,h3,h4,h5,h6,h7⟩:=Es (hk f hf);have Zl:=SS (hE f fn.ntmps) hm (f:=f) (fn:=fn) (c:=c) (sg:=S.sig f) (H:=S.AG T f) h1 h2 h3 rfl h4 h5 h6 rfl (QE hT hf h1 h2 h7 λp hp=>hp)
  have e:(S.step T).fn f=Fq (S.env T f fn.ntmps) fn (S.sig f) (S.AG T f):=by
   funext x
   show S.Fe T f x=_;unfold Fe;rw[h1]
  rw[e];exact Zl
 ·obtain⟨fn',c',h1,h2,h3,h4,h5,h6,h7⟩:=Es (hk f hf);rw[Xn]at h1
  injection h1 with h1
  subst h1;rw[hb]at h2
  injection h2 with h2
  subst h2
  have Gs:∀p∈bF (ld k r (bF c)),p∈bF c:=λp hp=>CO c _ Tz p hp
  have hC:=QE hT hf Xn hb h7 Gs
  have e:(S.step T).pc f k r=λx=>bif k then(S.cut f k r).round (S.env T f fn.ntmps) (S.AG T f) (ld k r (bF c)) (T.pc f k r) x
    else(S.cut f k r).tail (S.env T f fn.ntmps) (S.AG T f) (ld k r (bF c)) x:=by
   funext x
   show S.zo T f k r x=_;unfold zo;rw[Xn]
   show(match fn.body with
    |some c=>_
    |none=>none)=_
   rw[hb]
  rw[e]
  cases k with
  |true=>exact s8.callee (E:=S.env T f fn.ntmps) (E':=S.env T' f fn.ntmps) rfl rfl rfl rfl rfl (PG (Ir IW) (hE f fn.ntmps) hm hC (hT.pc f hf fn c Xn hb true r IW Tz T))
  |false=>exact s8.callee (E:=S.env T f fn.ntmps) (E':=S.env T' f fn.ntmps) rfl rfl rfl rfl rfl (ve (Ir IW) (hE f fn.ntmps) hm hC)
theorem ok (hm:S.P.follows .mixedOrders=true)(hk:∀f,S.known f=true->S.Mm f=true)(hl:∀f c,S.known f=false->S.lib f=some c->lP S.P S.df f c)(R9:S.Qp=true:=by rfl):∀n,TabOk S (S.tab n)
 |0=>⟨(λf _ x y h=>by cases h),(λf _ fn c _ _ k r _ _ T' x y h=>by cases h)⟩
 |n+1=>Dq hm hk hl R9 (ok hm hk hl R9 n)
end Sys
end Go.Abs
end

section
namespace Go.Abs
def aO {A ρ:Type}(f:A->Option ρ):A⊕Empty->Option ρ:=Sum.elim f Empty.elim
def bB {A B ρ:Type}(f:A->Option ρ)(g:B->Option ρ):A⊕(B⊕Empty)->Option ρ:=Sum.elim f (Sum.elim g Empty.elim)
def OH {A B C ρ:Type}(f:A->Option ρ)(g:B->Option ρ)(h:C->Option ρ):A⊕(B⊕(C⊕Empty))->Option ρ:=Sum.elim f (Sum.elim g (Sum.elim h Empty.elim))
namespace Sys
variable{S:Sys}
theorem Sv {f:FuncId}{fn:Func}(h:S.P.funcs[f]?=some fn)(T:S.Tab)(x:(S.sig f).dom.den):(S.step T).fn f x=Fq (S.env T f fn.ntmps) fn (S.sig f) (S.AG T f) x:=by
 show S.Fe T f x=_;unfold Fe;rw[h]
theorem PY {f:FuncId}{fn:Func}{c:Code}(h:S.P.funcs[f]?=some fn)(hb:fn.body=some c)(T:S.Tab){r:Nat}(x:(cf (S.cut f true r).as).den):
  (S.step T).pc f true r x=(S.cut f true r).round (S.env T f fn.ntmps) (S.AG T f) (ld true r (bF c)) (T.pc f true r) x:=by
 show S.zo T f true r x=_;unfold zo;rw[h]
 show(match fn.body with
    |some c=>_
    |none=>none)=_
 rw[hb];rfl
theorem PO {f:FuncId}{fn:Func}{c:Code}(h:S.P.funcs[f]?=some fn)(hb:fn.body=some c)(T:S.Tab){r:Nat}(x:(cf (S.cut f false r).as).den):
  (S.step T).pc f false r x=(S.cut f false r).tail (S.env T f fn.ntmps) (S.AG T f) (ld false r (bF c)) x:=by
 show S.zo T f false r x=_;unfold zo;rw[h]
 show(match fn.body with
    |some c=>_
    |none=>none)=_
 rw[hb];rfl
theorem SG {fns:List Nat}(h:(fns.all S.Mm)=true){f:FuncId}(hf:(fns.any (Nat.beq f))=true):S.Mm f=true:=by
 obtain⟨g,hg,e⟩:=List.any_eq_true.1 hf;have:=Nat.eq_of_beq_eq_true e;subst this;exact List.all_eq_true.1 h _ hg
end Sys
theorem A4 {P:Program}{f:FuncId}{fn:Func}{c:Code}{args:Array Value}{w:World}{R:Value->World->Prop}(hf:P.funcs[f]?=some fn)(hb:fn.body=some c)(KU:(fn.name== "runtime.NumGoroutine")=false)
  (h:gY P f args w R):Calls P f args w λe w'=>∃v,e= .returned v/\R v w':=by
 have KZ:(callFunc f args).run P w= .ok (.enter f args) w:=by
  have h1:fn.name≠ "runtime.NumGoroutine" :=(by simpa using KU)
  simp[callFunc,hf,h1,hb]
 unfold gY at h;rw[KZ]at h;exact h
theorem After.below {aD cQ:Rd}{w w':World}{jd:List Nat}(h:After aD w [] cQ w' jd):RowKit.Below w.heap.size w w':=
 ⟨h.os,h.tape,h.output,h.size,λk hk=>by
  cases e:aD k with
  |none=>exact(h.same k hk (by simp) e).1
  |some L=>exact h.fix k L e⟩
def Evt (p:Nat->Prop):Prop:=∃N,∀n,N<=n->p n
theorem Evt.of {p:Nat->Prop}(h:∀n,p n):Evt p:=⟨0,λn _=>h n⟩
theorem Evt.and {p q:Nat->Prop}(h:Evt p)(k:Evt q):Evt λn=>p n/\q n:=by
 obtain⟨N,h⟩:=h;obtain⟨M,k⟩:=k;exact⟨max N M,λn hn=>⟨h n (by omega),k n (by omega)⟩⟩
theorem Evt.mono {p q:Nat->Prop}(h:Evt p)(k:∀n,p n->q n):Evt q:=by
 obtain⟨N,h⟩:=h;exact⟨N,λn hn=>k n (h n hn)⟩
theorem Evt.up {p q:Nat->Prop}(h:Evt p)(k:∀n,p n->q (n+1)):Evt q:=by
 obtain⟨N,h⟩:=h;refine⟨N+1,λn hn=> ?_⟩;obtain⟨m,rfl⟩:∃m,n=m+1:=⟨n - 1,by omega⟩;exact k m (h m (by omega))
end Go.Abs
end

section
namespace Go.Abs
def isByte (c:Int):Prop:=0<=c/\c<256
theorem T1:∀c:Int,isByte c->intBits .and .u8 c 15=c % 16:=by
 have h:∀n:Fin 256,intBits .and .u8 (n.val:Int) 15=(n.val:Int) % 16:=by decide+kernel
 intro c hc;have:=h ⟨c.toNat,by have:=hc.1;have:=hc.2;omega⟩;simpa[Int.toNat_of_nonneg hc.1]using this
theorem Yk (c:Int)(h:isByte c):c.fdiv (2^min (Int.toNat 4) u8.bits)=c/16:=by
 have e:(2:Int)^min (Int.toNat 4) u8.bits=16:=(by decide);rw[e,Int.fdiv_eq_ediv_of_nonneg _ (by decide)]
theorem vI (x:Int)(h0:0<=x)(h1:x<256):u8.wrap x=x:=by
 have:u8.wrap x=x % 256:=rfl;rw[this];omega
theorem wrap64 (x:Int)(h0: -9223372036854775808<=x)(h1:x<9223372036854775808):i64.wrap x=x:=by
 rw[IntKind.wrap_i64];omega
theorem bc {n:Nat}(h:n<=lim):fits n=true:=Nat.ble_eq_true_of_le h
theorem wP (s:ByteArray):∀c∈bytesOf s,isByte c:=by
 intro c hc;unfold bytesOf at hc;obtain⟨b,_,rfl⟩:=List.mem_map.1 hc;have:=b.toNat_lt;exact⟨by omega,by omega⟩
theorem Ie {c:Int}(h:isByte c):byte c=c:=by
 unfold byte;obtain⟨h0,h1⟩:=h;omega
theorem xi {l:List Int}(h:∀c∈l,isByte c):l.map byte=l:=by
 induction l with
 |nil=>rfl
 |cons x r ih=>
  rw[List.map_cons,Ie (h x (aE0 ..)),ih λc hc=>h c (aD9 _ hc)]
theorem my {α:Type}(pre:List α)(x:α)(r:List α)(d:α):(pre++x::r).getD pre.length d=x:=by
 rw[aE2,List.getElem?_append_right (aE5 _),Nat.sub_self];rfl
def stop (q:Nat->Bool):Nat->Nat->Nat
 |0,j=>j
 |k+1,j=>bif q j then stop q k (j+1)else j
theorem qU {q:Nat->Bool}:∀(k j:Nat),j<=stop q k j
 |0,j=>aE5 _
 |k+1,j=>by
  unfold stop;cases q j
  ·exact aE5 _
  ·have:=qU (q:=q) k (j+1);simp only[aD6];omega
theorem pY {q:Nat->Bool}{N:Nat}(h:∀j,N<=j->q j=false):∀(k j:Nat),N<=j+k->q (stop q k j)=false
 |0,j,hk=>h j (by omega)
 |k+1,j,hk=>by
  unfold stop;cases hq:q j
  ·exact hq
  ·exact pY h k (j+1) (by omega)
theorem nx {q:Nat->Bool}:∀(k j i:Nat),j<=i->i<stop q k j->q i=true
 |0,j,i,h1,h2=>by simp only[stop]at h2;omega
 |k+1,j,i,h1,h2=>by
  unfold stop at h2;cases hq:q j
  ·rw[hq]at h2;simp only[aD1]at h2;omega
  ·rw[hq]at h2
   rcases Nat.lt_or_ge j i with h|h
   ·exact nx k (j+1) i h h2
   ·have:i=j:=(by omega);subst this;exact hq
theorem JQ {q:Nat->Bool}{N:Nat}(h:∀j,N<=j->q j=false):∀(k k' j:Nat),N<=j+k->N<=j+k'->stop q k j=stop q k' j
 |0,0,j,_,_=>rfl
 |0,k'+1,j,h1,_=>by unfold stop;rw[h j (by omega)];rfl
 |k+1,0,j,_,h2=>by unfold stop;rw[h j (by omega)];rfl
 |k+1,k'+1,j,h1,h2=>by
  unfold stop;cases q j
  ·rfl
  ·exact JQ h k k' (j+1) (by omega) (by omega)
theorem G0 {q:Nat->Bool}{N:Nat}(h:∀j,N<=j->q j=false){k j:Nat}(hk:N<=j+k)(hq:q j=true):stop q k j=stop q k (j+1):=by
 have hj:j<N:=by
  rcases Nat.lt_or_ge j N with h'|h'
  ·exact h'
  ·rw[h j h']at hq;cases hq
 obtain⟨k,rfl⟩:∃m,k=m+1:=⟨k - 1,by omega⟩;rw[JQ h (k+1) k (j+1) (by omega) (by omega)];show(bif q j then stop q k (j+1)else j)=_;rw[hq];rfl
theorem xN {q:Nat->Bool}{k j:Nat}(hq:q j=false):stop q k j=j:=by
 cases k with
 |zero=>rfl
 |succ k=>unfold stop;rw[hq];rfl
theorem adv {S:Sys}{R:Type}{F:S.Tab->Nat->Option R}{q:Nat->Bool}{out:Nat->R}{N:Nat}{p:S.Tab->Prop}(hp:Evt λn=>p (S.tab n))(hN:∀j,N<=j->q j=false)
  (h1:∀T j,p T->q j=true->F (S.step T) j=F T (j+1)) (h2:∀T j,p T->q j=false->F (S.step T) j=some (out j)):
  ∀(k j:Nat),N<=j+k->Evt λn=>F (S.tab n) j=some (out (stop q k j))
 |0,j,hk=>hp.up λn h=>by
  show F (S.step (S.tab n)) j=_;rw[h2 _ _ h (hN j (by omega))];rfl
 |k+1,j,hk=>by
  cases hq:q j with
  |false=>
   refine hp.up λn h=> ?_
   show F (S.step (S.tab n)) j=_;rw[h2 _ _ h hq,xN hq]
  |true=>
   refine((adv hp hN h1 h2 k (j+1) (by omega)).and hp).up λn h=> ?_
   show F (S.step (S.tab n)) j=_;rw[h1 _ _ h.2 hq,h.1];show some (out (stop q k (j+1)))=some (out (bif q j then _ else _));rw[hq];rfl
theorem ad {ρ:Type}{b:Bool}{x y:Option ρ}(h:b=true):brk b x y=x:=by rw[dO,h];rfl
theorem aB {ρ:Type}{b:Bool}{x y:Option ρ}(h:b=false):brk b x y=y:=by rw[dO,h];rfl
theorem aN {ρ:Type}{p:Prop} [Decidable p] {x y:Option ρ}(h:p):brk (decide p) x y=x:=ad (aC1 h)
theorem aM {ρ:Type}{p:Prop} [Decidable p] {x y:Option ρ}(h:¬p):brk (decide p) x y=y:=aB (aB9 h)
end Go.Abs
end

section
namespace Go.Abs
def snap (W:World):Rd:=λb=>match W.heap[b]? with|some (.cells arr _ _)=>some arr.toList|_=>none
theorem Oq {W:World}{b:Nat}{L:List Value}(h:snap W b=some L):∃arr ty fr,W.heap[b]?=some (.cells arr ty fr)/\arr.toList=L:=by
 unfold snap at h;split at h
 ·rename_i arr ty fr e;injection h with h;exact⟨arr,ty,fr,e,h⟩
 ·cases h
def ofD {H:Type}:(τ:Ty)->DataW H->τ.den
 | .int _,d=>match d with| .lit (.int _ z)=>z|_=>(0:Int)
 | .bool,d=>match d with| .lit (.bool b)=>b|_=>false
 | .str,d=>match d with| .lit (.string bs)=>bs.map λb=>(b.toNat:Int)|_=>([]:List Int)
 | .sl e,d=>match d with| .slice ds _=>ds.map (ofD e)|_=>[]
 | .un,_=>()
 | .pr a b,d=>match d with| .agg (x::r)=>(ofD a x,ofD b (.agg r))|_=>(ofD a (DataW.nil (H:=H)),ofD b (DataW.nil (H:=H)))
 | .cl,_=>([]:List Int)
def Good:(τ:Ty)->τ.den->Prop
 | .int k,x=>k.min<=x/\x<=k.max
 | .str,l=>(∀c∈l,isByte c)/\l.length<=maxLen
 | .sl e,xs=>(∀x∈xs,Good e x)/\xs.length<=maxLen
 | .pr a b,x=>Good a x.1/\Good b x.2
 |_,_=>True
def Ky (P:Program)(g:TypeId->Ty->Bool):List Field->Nat->Ty->Bool
 |[],_, .un=>true
 |f::r,off, .pr a b=>Nat.beq f.offset off&&g f.type a&&Nat.beq (P.cellsOf f.type) a.size&&Ky P g r (off+a.size) b
 |_,_,_=>false
def Fp (P:Program):Nat->TypeId->Ty->Bool
 |0,_,_=>false
 |n+1,t,τ=>match P.underlying t with
  |some .bool=>(match τ with| .bool=>true|_=>false)
  |some (.int k)=>(match τ with| .int k'=>decide (k=k')|_=>false)
  |some .string=>(match τ with| .str=>true|_=>false)
  |some (.slice e)=>(match τ with| .sl τ'=>Fp P n e τ'&&Nat.beq (P.cellsOf e) τ'.size&&Nat.blt 0 τ'.size|_=>false)
  |some (.struct fs)=>Ky P (Fp P n) fs.toList 0 τ&&Nat.beq (P.cellsOf t) τ.size
  |_=>false
theorem yy {α β:Type}{f:α->Option β}:∀{l:List α}{r:List β},l.mapM f=some r->r.length=l.length/\∀i (h:i<l.length),f l[i]=r[i]?
 |[],r,h=>by
  simp at h;subst h;exact⟨rfl,λi h=>absurd h (by simp)⟩
 |x::l,r,h=>by
  rw[List.mapM_cons]at h;obtain⟨y,h1,h2⟩:=aH1.1 h;obtain⟨ys,h3,h4⟩:=aH1.1 h2;have h4:some (y::ys)=some r:=h4
  injection h4 with h4
  subst h4;obtain⟨hl,hx⟩:=yy h3;refine⟨by simp[hl],λi hi=> ?_⟩
  cases i with
  |zero=>exact h1
  |succ i=>exact hx i (by simpa using hi)
theorem GD (a:Addr)(n:Nat):(a.add n).block=a.block:=by unfold Addr.add;split<;>rfl
theorem Nc (a:Addr)(n:Nat):(a.add n).off=a.off+n:=by
 unfold Addr.add;split
 ·rename_i h;rw[h];rfl
 ·rfl
theorem Qc {a:Addr}(h:a.spot=none)(n:Nat):(a.add n).spot=none:=by unfold Addr.add;split<;>simp[h]
theorem add_zero' (a:Addr):a.add 0=a:=by unfold Addr.add;rw[aG3 rfl]
theorem EF {W:World}{base:Nat}{a:Addr}{n:Nat}{cs:List Value}(h:W.cells? base a n=some cs)(hn:0<n):a.spot=none/\∃L,snap W a.block=some L/\(L.drop a.off).take n=cs:=by
 unfold World.cells? at h;split at h
 ·obtain⟨hl,hx⟩:=yy h;rw[List.length_range]at hl;have h0:=hx 0 (by simpa using hn)
  have hc:∀i,i<n->W.cell? (a.add i)=cs[i]?:=λi hi=>by
   have:=hx i (by simpa using hi);simpa using this
  have e0:=hc 0 hn;rw[aE1 (show 0<cs.length by omega)]at e0;rw[add_zero']at e0;unfold World.cell? at e0
  cases hh:W.heap[a.block]? with
  |none=>rw[hh]at e0;cases e0
  |some o=>
   cases o with
   |cells arr ty fr=>
    rw[hh]at e0
    have K2:a.spot=none:=by
     cases hs:a.spot with
     |none=>rfl
     |some v=>simp[hs]at e0
    refine⟨K2,arr.toList, ?_, ?_⟩
    ·unfold snap;rw[hh]
    ·refine List.ext_getElem? λi=> ?_
     rw[List.getElem?_take]
     by_cases hi:i<n
     ·rw[aG3 hi,List.getElem?_drop,<-hc i hi];unfold World.cell?;rw[GD,hh];simp[Qc K2,Nc]
     ·rw[aF4 hi,List.getElem?_eq_none (by omega)]
   |_=>rw[hh]at e0;cases e0
 ·cases h
theorem Kf {H:Type}{enc:TypeId×Value->H}{P:Program}{W:World}{sp:Nat->Bool}{held:Bool}{n:Nat}{g:TypeId->Ty->Bool}
  (hg:∀t τ cs (x:DataW H×List MemPlace),g t τ=true->DataW.trod enc P W 0 sp held n t cs=some x->Rc (snap W) τ (ofD τ x.1) cs/\Good τ (ofD τ x.1)):
  ∀(fs:List Field) (off:Nat) (τ:Ty) (cs:List Value) (xs:List (DataW H×List MemPlace)),Ky P g fs off τ=true->(fs.mapM λf=>DataW.trod enc P W 0 sp held n f.type ((cs.drop f.offset).take (P.cellsOf f.type)))=some xs->off+τ.size<=cs.length->
   Rc (snap W) τ (ofD τ (.agg (xs.map (·.1)))) ((cs.drop off).take τ.size)/\Good τ (ofD τ (.agg (xs.map (·.1))))
 |[],off,τ,cs,xs,hf,hm,hl=>by
  cases τ with
  |un=>exact⟨by show List.take 0 _=[];rfl,trivial⟩
  |_=>cases hf
 |f::fs,off,τ,cs,xs,hf,hm,hl=>by
  cases τ with
  |pr a b=>
   unfold Ky at hf;simp only[aC6]at hf;obtain⟨⟨⟨h1,h2⟩,h3⟩,h4⟩:=hf;have h1:=Nat.eq_of_beq_eq_true h1;have h3:=Nat.eq_of_beq_eq_true h3;rw[List.mapM_cons]at hm;obtain⟨y,hy,hm⟩:=aH1.1 hm;obtain⟨ys,aA8,hm⟩:=aH1.1 hm;have hm:some (y::ys)=some xs:=hm
   injection hm with hm
   subst hm;have lh:(Ty.pr a b).size=a.size+b.size:=rfl;rw[lh]at hl;rw[h1,h3]at hy;obtain⟨r1,g1⟩:=hg _ _ _ _ h2 hy;obtain⟨r2,g2⟩:=Kf hg fs (off+a.size) b cs ys h4 aA8 (by omega);refine⟨⟨(cs.drop off).take a.size,(cs.drop (off+a.size)).take b.size, ?_,r1,r2⟩,g1,g2⟩;rw[lh,List.take_add,List.drop_drop]
  |_=>cases hf
theorem Ih {H:Type}{enc:TypeId×Value->H}{P:Program}{W:World}{sp:Nat->Bool}{held:Bool}:∀(k n:Nat)(t:TypeId)(τ:Ty)(cs:List Value)(x:DataW H×List MemPlace),Fp P k t τ=true->DataW.trod enc P W 0 sp held n t cs=some x->
  Rc (snap W) τ (ofD τ x.1) cs/\Good τ (ofD τ x.1)
 |0,_,_,_,_,_,h,_=>by cases h
 |k+1,n,t,τ,cs,x,h,hx=>by
  unfold Fp at h
  cases hu:P.underlying t with
  |none=>rw[hu]at h;cases h
  |some d=>
  rw[hu]at h
  cases d with
  |bool=>
   cases τ with
   |bool=>
    obtain⟨b,rfl,rfl⟩:=DataW.trod_bool hu hx;exact⟨rfl,trivial⟩
   |_=>cases h
  |int j=>
   cases τ with
   |int j'=>
    have h:decide (j=j')=true:=h;have h:=of_decide_eq_true h;subst h;obtain⟨z,rfl,rfl,hw⟩:=DataW.trod_int hu hx;refine⟨rfl, ?_⟩;simp only[Lit.wf,aC6,aC4]at hw;exact hw
   |_=>cases h
  |string=>
   cases τ with
   |str=>
    obtain⟨s,rfl,rfl,hs⟩:=DataW.trod_string hu hx;refine⟨⟨s,rfl,rfl⟩,wP s, ?_⟩;show(List.map _ s.data.toList).length<=maxLen;rw[List.length_map,Array.length_toList];exact hs
   |_=>cases h
  |slice e=>
   cases τ with
   |sl τ'=>
    have h:(Fp P k e τ'&&Nat.beq (P.cellsOf e) τ'.size&&Nat.blt 0 τ'.size)=true:=h;rw[aC6,aC6]at h;obtain⟨h,qf⟩:=h
    have qf:0<τ'.size:=by unfold Nat.blt at qf;exact aE7 qf
    have hz:=Nat.eq_of_beq_eq_true h.2
    rcases DataW.trod_slice hu hx with⟨rfl,rfl⟩|⟨a,len,cap,elems,rest,m,rfl,rfl,rfl,_,hle,Tp,hlen,IU,_,_⟩
    ·refine⟨⟨none,0,rfl,aE5 _, .inl rfl⟩, ?_⟩;show(∀x∈([]:List τ'.den),Good τ' x)/\0<=maxLen;exact⟨(λx hx=>by cases hx),aG8 _⟩
    ·have hL:((elems.map (·.1)).map (ofD τ')).length=len:=(by simp[hlen])
     have one:∀i (hi:i<len),∃BP,W.cells? 0 (a.add (i*τ'.size)) τ'.size=some BP/\Rc (snap W) τ' (ofD τ' (elems[i]'(by omega)).1) BP/\Good τ' (ofD τ' (elems[i]'(by omega)).1):=λi hi=>by
      have qX:=IU i hi;rw[aE1 (show i<elems.length by omega),hz]at qX;obtain⟨BP,h1,h2⟩:=aH1.1 qX;obtain⟨h3,h4⟩:=Ih k _ _ _ _ _ h.1 h2;exact⟨BP,h1,h3,h4⟩
     refine⟨?_, ?_⟩
     ·show Rc (snap W) (.sl τ') ((elems.map (·.1)).map (ofD τ')) _
      by_cases h0:len=0
      ·subst h0;refine⟨some a,cap,by rw[hL],by rw[hL];exact hle, .inl ?_⟩;exact aG4 hL
      ·obtain⟨aj9,c1,c2,c3⟩:=one 0 (by omega);obtain⟨K2,L,hb,_⟩:=EF c1 (by omega);rw[Nat.zero_mul,add_zero']at K2 hb;obtain⟨b,o,ay8⟩:=a;have K2:ay8=none:=K2;subst K2;refine⟨some ⟨b,o,none⟩,cap,by rw[hL],by rw[hL];exact hle, .inr ⟨b,o,L,rfl,hb,λi hi=> ?_⟩⟩;rw[hL]at hi;obtain⟨BP,d1,d2,d3⟩:=one i hi;obtain⟨_,L',FJ,e'⟩:=EF d1 (by omega);rw[GD]at FJ;have FJ:snap W b=some L':=FJ;rw[hb]at FJ
       injection FJ with FJ
       subst FJ;rw[Nc]at e';have e':(L.drop (o+i*τ'.size)).take τ'.size=BP:=e';rw[e'];simpa using d2
     ·refine⟨λy hy=> ?_, ?_⟩
      ·have hy:y∈(elems.map (·.1)).map (ofD τ'):=hy;obtain⟨i,hi,rfl⟩:=List.getElem_of_mem hy;rw[hL]at hi;obtain⟨_,_,_,d3⟩:=one i hi;simpa using d3
      ·show((elems.map (·.1)).map (ofD τ')).length<=maxLen;omega
   |_=>cases h
  |struct fs=>
   have h:(Ky P (Fp P k) fs.toList 0 τ&&Nat.beq (P.cellsOf t) τ.size)=true:=h;rw[aC6]at h;have hz:=Nat.eq_of_beq_eq_true h.2
   cases n with
   |zero=>simp[DataW.trod]at hx
   |succ n=>
    unfold DataW.trod at hx;rw[hu]at hx;simp only at hx;split at hx
    ·rename_i hl;obtain⟨xs,h1,rfl⟩:=aF1.1 hx;have:=Kf (λt τ cs x h1 h2=>Ih k n t τ cs x h1 h2) fs.toList 0 τ cs xs h.1 h1 (by omega);rw[List.drop_zero,List.take_of_length_le (by omega)]at this;exact this
    ·cases hx
  |_=>cases h
end Go.Abs
end

section
namespace Go.Abs
theorem Ow (w:World)(o:Go.Obj):(w.drew.alloc o).heap[w.heap.size]?=some o:=by
 show(w.heap.push _)[w.heap.size]?=_;rw[Array.getElem?_push,aG3 rfl]
theorem Oy {P:Program}{aD:Rd}{w:World}{t tx ty e:TypeId}{i:TypeInfo}{z:Value}(ht:P.underlying t=some (.slice e))(hi:P.info? e=some i)(hz:i.zero=some z)
  (lh:i.size=1) (IQ:i.bytes<=128) {xs ys:List Int} {u x:Value} {nb:List Nat} (hT:OwnAt aD w false (.int .u8) xs [u] nb) (Mv:∀b∈nb,∃arr,w.heap[b]?=some (.cells arr e (0,0))) (hS:Src P 1 tx x ys.length (ys.map (Value.int .u8)) w)
  (pk:xs.length+ys.length<=1099511627776) {v:Value} {w':World} (hr:(Builtin.append_ #[t,tx] ty #[u,x]).run P w= .ok v w') {b n cap:Nat} (hv:v= .slice (some ⟨b,0,none⟩) n cap):
  ∃arr,w'.heap[b]?=some (.cells arr e (0,0)):=by
 have W7:=hS;rw[<-lh]at W7
 have grow:∀{base:Option Addr} {sCap:Nat} {olds:List Value},u= .slice base xs.length sCap->(Builtin.firstCells i.size xs.length (.slice base xs.length sCap)).run P w.drew= .ok olds.toArray w.drew->sCap<xs.length+ys.length->
   ∃arr,w'.heap[b]?=some (.cells arr e (0,0)):=by
  intro base sCap olds hu hold hg
  have hb:(xs.length+ys.length)*i.bytes<=140737488355328:=by
   have:(xs.length+ys.length)*i.bytes<=1099511627776*128:=Nat.mul_le_mul pk IQ;omega
  have UB:=run_append_grow_src (P:=P) w t tx ty e i z ht hi hz base xs.length sCap olds hold x ys.length _ W7 hg (by omega) (growslice_fits hg hb);rw[hu,UB]at hr
  injection hr with h1 h2
  rw[hv]at h1
  injection h1 with h1 _
  injection h1 with h1;injection h1 with h1
  subst h2;rw[<-h1];exact⟨_,Ow w _⟩
 rcases hT with⟨h1,rfl,_⟩|⟨b',Gx,arr,zD,jd,h1,h2,h3,h4,h5,h6⟩
 ·injection h1 with h1 _
  subst h1
  by_cases h0:ys=[]
  ·subst h0;have UB:=run_append_nothing w t tx ty e i ht hi none 0 0 (aE5 _) x W7;rw[UB]at hr
   injection hr with h1 h2
   rw[hv]at h1;cases h1
  ·have qf:0<ys.length:=List.length_pos_iff.2 h0;exact grow rfl (olds:=[]) (by simp[run_firstCells_none]) (by simpa using qf)
 ·injection h1 with h1 _
  subst h1;obtain⟨af9,k1⟩:=Mv b' (by rw[h2];simp);rw[h3]at k1
  injection k1 with k1;injection k1 with _ k2
  subst k2
  have VV:arr.size=Gx:=by simpa[Ty.size]using h5
  by_cases hroom:xs.length+ys.length<=Gx
  ·obtain⟨a1,a2,a3⟩:=Cr (P:=P) (us:=ys.map (Value.int .u8)) (o:=xs.length) h3 (by simp;omega) hS.one;have UB:=run_append_room_src (P:=P) w t tx ty zD i ht hi b' 0 xs.length Gx x ys.length _ W7 hroom (by simpa[lh]using a1) (by simpa[lh]using a2);rw[lh,Nat.zero_add,Nat.mul_one,a3]at UB;rw[UB]at hr
   injection hr with h1 h2
   rw[hv]at h1
   injection h1 with h1 _
   injection h1 with h1;injection h1 with h1
   subst h2;rw[<-h1];exact⟨_,setRow_heap w b' arr _ zD (0,0) h3⟩
  ·have hE:Els aD (.int .u8) xs arr.toList 0:=h6.1;obtain⟨AO,My⟩:=HU hE;refine grow (olds:=arr.toList.take (xs.length*1)) rfl ?_ (by omega);rw[lh];refine run_firstCells_some (P:=P) w.drew 1 xs.length _ xs.length Gx _ (by simpa[Ty.size]using My) (λj v hj=> ?_);rw[Addr.add_lit,World.cell?_drew];exact ia h3 (o:=0) _ j v (by simpa using hj)
open Classical in
theorem GR {P:Program}{aD:Rd}{w:World}{t tx ty e:TypeId}{i:TypeInfo}{z:Value}(ht:P.underlying t=some (.slice e))(hi:P.info? e=some i)(hz:i.zero=some z)
  (lh:i.size=1) (IQ:i.bytes<=128) (ME:z.cells.size=1) {xs ys:List Int} {u x:Value} {nb:List Nat} (hT:OwnAt aD w false (.int .u8) xs [u] nb) (hS:Src P 1 tx x ys.length (ys.map (Value.int .u8)) w)
  (pk:xs.length+ys.length<=1099511627776) (hc:∀b L,aD b=some L->∃arr ty fr,w.heap[b]?=some (.cells arr ty fr)/\arr.toList=L) (hn:∀b∈nb,aD b=none/\b<w.heap.size) (Mv:∀b∈nb,∃arr,w.heap[b]?=some (.cells arr e (0,0))):
  ∃v w' jd,(Builtin.append_ #[t,tx] ty #[u,x]).run P w= .ok v w'/\After aD w nb aD w' jd/\OwnAt aD w' false (.int .u8) (xs++ys) [v] jd/\∀b∈jd,∃arr,w'.heap[b]?=some (.cells arr e (0,0)):=by
 let g:Gh:={aD:=aD,top:=λ_=>0,cv:=λ_ _=> .nilIface,dj:=λy=>if y∈nb then some 1 else none,ep:=λ_=>none,outer:=λ_=>[]}
 let B:Base:={aD:=aD,dj:=g.dj,w:=w,arg:=λ_=> .nilIface}
 have R:HRel B g [] w:=by
  refine⟨λid=>rfl,λid o h=>(by cases h),λb L h=> ?_,λb L h=>(by cases h),λb h=> ?_,λb L h=>h,λb _ h1 h2=>⟨h1,h2,rfl⟩,aE5 _,rfl,rfl,rfl,λ_ _ _=>rfl⟩
  ·obtain⟨arr,ty,fr,h1,h2⟩:=hc b L h;refine⟨?_,rfl,arr,ty,fr,h1,h2⟩;show(if b∈nb then some 1 else none)=none;rw[aF4];intro hm;have h':aD b=some L:=h;rw[(hn b hm).1]at h';cases h'
  ·by_cases hm:b∈nb
   ·exact(hn b hm).2
   ·exact absurd (aF4 hm) h
 have ez:(Value.cells z).size=(Ty.int .u8).size:=ME
 have ax4:Tgt g [] w (false&& !(Ty.int u8).flat) (.int .u8) xs u []:=by
  rcases hT with⟨h1,h2,h3⟩|⟨b,cap,arr,zD,jd,h1,h2,h3,h4,h5,h6⟩
  ·injection h1 with h1 _
   exact .inl ⟨h1,h2,rfl⟩
  ·injection h1 with h1 _
   obtain⟨h6,h7⟩:=h6;subst h7
   have hb:b∈nb:=by rw[h2];simp
   refine .inr ⟨b,cap,arr,zD,h1,⟨λ_ _ _ h=>(by cases h), ?_,(hn b hb).1,rfl,λh=> ?_⟩,by simp,(hn b hb).2,h3,h4,h5,h6,rfl⟩
   ·show(if b∈nb then some 1 else none)≠some 0;rw[aG3 hb];simp
   ·have h:(if b∈nb then some 1 else none)=none:=h;rw[aG3 hb]at h;cases h
 have hQ:fQ g (false&& !(Ty.int u8).flat) (.int .u8) ys (ys.map (Value.int .u8)) []:=by
  refine⟨λj hj=> ?_,rfl⟩;show List.take 1 (List.drop (0+j*1) (ys.map (Value.int .u8)))=[Value.int .u8 ys[j]];rw[Nat.zero_add,Nat.mul_one];have:j<(ys.map (Value.int .u8)).length:=(by simpa using hj);rw[List.drop_eq_getElem_cons this];simp
 obtain⟨v,w',g',hr,l,R',oF⟩:=EG (τ:= .int .u8) (ty:=ty) ht hi hz lh IQ ez R ax4 hS hQ (λ_ h=>by simp at h) pk (λ_ _ h=>by simp at h) 7;have kM:v=g'.cv 7 0:=oF.2.1
 have lZ:∀b,b<w.heap.size->b∉nb->aD b=none->w'.heap[b]?=w.heap[b]?/\g'.dj b=none:=λb h1 h2 h3=>by
  obtain⟨a1,_,a3⟩:=R'.frame b h1 (aF4 h2) h3;exact⟨a3,a1⟩
 have VG:∀b L,aD b=some L->g'.dj b=none/\∃arr ty fr,w'.heap[b]?=some (.cells arr ty fr)/\arr.toList=L:=λb L h=>by
  obtain⟨a1,_,a3⟩:=R'.aD b L (R'.jo b L h);exact⟨a1,a3⟩
 have hO:=R'.eD 7 _ (aE _ _ _)
 rcases hO with⟨h1,h2⟩|⟨b,cap,arr,zD,h1,h2,h3,h4,h5,h6,h7⟩
 ·refine⟨v,w',[],hr,⟨λ_ _ h=>h,λb L h=>(VG b L h).2,λb h1 h2 h3=>⟨(lZ b h1 h2 h3).1,h3⟩,aG5,λb h=>by simp at h,R'.size,R'.os,R'.tape,R'.output,λb L h=>R'.fix b L h⟩, .inl ⟨by rw[kM];exact congrArg (λv=>[v]) h1,h2,rfl⟩,λb hb=>by simp at hb⟩
 ·have Ur:aD b=none:=by
   cases e:aD b with
   |none=>rfl
   |some L=>
    have:=(VG b L e).1;rw[h2]at this;cases this
  refine⟨v,w',[b],hr,⟨λ_ _ h=>h,λb L h=>(VG b L h).2,λb h1 h2 h3=>⟨(lZ b h1 h2 h3).1,h3⟩,by simp,λy hy=> ?_,R'.size,R'.os,R'.tape,R'.output,λb L h=>R'.fix b L h⟩, .inr ⟨b,cap,arr,zD,[],by rw[kM];exact congrArg (λv=>[v]) h1,rfl,h4,h5,h6, ?_,rfl⟩,λy hy=> ?_⟩
  ·have hy:y=b:=(by simpa using hy);subst hy;refine⟨Ur, ?_,R'.dQ _ (by rw[h2];simp)⟩
   by_cases hm:y∈nb
   ·exact .inl hm
   ·refine .inr (Nat.le_of_not_lt λgX=> ?_);have:=(lZ y gX hm Ur).2;rw[h2]at this;cases this
  ·exact Els.flat rfl h7
  ·have hy:y=b:=(by simpa using hy);subst hy;exact Oy ht hi hz lh IQ hT Mv hS pk hr (kM.trans h1)
theorem nY {w:World}{b k:Nat}{arr:Array Value}{ty:TypeId}(h:w.heap[b]?=some (.cells arr ty (0,0)))(v:Value):
  (w.setCell ⟨b,k,none⟩ v).heap[b]?=some (.cells (arr.setIfInBounds k v) ty (0,0))/\(∀x,x≠b->(w.setCell ⟨b,k,none⟩ v).heap[x]?=w.heap[x]?)/\(w.setCell ⟨b,k,none⟩ v).heap.size=w.heap.size:=
 ⟨heap_setCell_same w b k arr ty v h,λx hx=>heap_setCell_other w _ x v hx,by simp[World.setCell]⟩
theorem lt_of_heap {w:World}{b:Nat}{o:Go.Obj}(h:w.heap[b]?=some o):b<w.heap.size:=by
 rcases Nat.lt_or_ge b w.heap.size with h'|h'
 ·exact h'
 ·rw[Array.getElem?_eq_none h']at h;cases h
theorem OwnAt.other {aD:Rd}{w w':World}{xs:List Int}{us:List Value}{nb:List Nat}(h:OwnAt aD w false (.int .u8) xs us nb)(k:∀b∈nb,w'.heap[b]?=w.heap[b]?):OwnAt aD w' false (.int .u8) xs us nb:=by
 rcases h with h|⟨b,cap,arr,ty,jd,h1,h2,h3,h4,h5,h6,h7⟩
 ·exact .inl h
 ·exact .inr ⟨b,cap,arr,ty,jd,h1,h2,by rw[k b (by rw[h2];simp)];exact h3,h4,h5,h6,h7⟩
theorem GM {aD:Rd}{w w1 w2:World}{b o:Nat}{arr:Array Value}{ty:TypeId}{xs:List Int}{v:Value}{self:Value}{K6 O9:List Nat}
  (ha:w.heap[b]?=some (.cells arr ty (0,0))) (hle:o+2<=arr.size) (hn:(b::K6).Nodup) (hi:∀y∈b::K6,aD y=none/\y<w.heap.size)
  (hc:∀b L,aD b=some L->∃arr ty fr,w.heap[b]?=some (.cells arr ty fr)/\arr.toList=L)
  (e1:w1=w.setCell ⟨b,o,none⟩ self) (A:After aD w1 K6 aD w2 O9) (hO:OwnAt aD w2 false (.int .u8) xs [v] O9):
  After aD w (b::K6) aD (w2.setCell ⟨b,o+1,none⟩ v) (b::O9)/\b∉O9/\∃lD,(w2.setCell ⟨b,o+1,none⟩ v).heap[b]?=some (.cells lD ty (0,0))/\
   lD.toList=arr.toList.take o++[self,v]++arr.toList.drop (o+2)/\OwnAt aD (w2.setCell ⟨b,o+1,none⟩ v) false (.int .u8) xs [v] O9/\w2.heap[b]?=some (.cells (arr.setIfInBounds o self) ty (0,0)):=by
 obtain⟨s1,s2,s3⟩:=nY (k:=o) ha self;rw[<-e1]at s1 s2 s3;have Wi:b<w1.heap.size:=lt_of_heap s1;have oS:=List.nodup_cons.1 hn;have NQ:=(hi b (aE0 ..)).1
 have h2:w2.heap[b]?=some (.cells (arr.setIfInBounds o self) ty (0,0)):=by rw[(A.same b Wi oS.1 NQ).1];exact s1
 have BQ:b∉O9:=λhm=>by
  rcases(A.Up b hm).2.1 with h|h
  ·exact oS.1 h
  ·omega
 obtain⟨t1,t2,t3⟩:=nY (k:=o+1) h2 v;refine⟨⟨λ_ _ h=>h,λy L h=> ?_,λy h1 hm h3=> ?_,List.nodup_cons.2 ⟨BQ,A.nodup⟩,λy hy=> ?_, ?_, ?_, ?_, ?_,λy L h=> ?_⟩,BQ,_,t1, ?_,hO.other λy hy=>t2 y (λe=>BQ (e ▸ hy)),h2⟩
 ·have WR:y≠b:=λe=>by subst e;rw[NQ]at h;cases h
  obtain⟨a,t,f,k1,k2⟩:=A.cells y L h;exact⟨a,t,f,by rw[t2 y WR];exact k1,k2⟩
 ·have WR:y≠b:=λe=>hm (e ▸ aE0 ..)
  have av7:y∉K6:=λe=>hm (aD9 _ e)
  rw[t2 y WR,(A.same y (by rw[s3];exact h1) av7 h3).1,s2 y WR];exact⟨rfl,h3⟩
 ·rcases aF8.1 hy with rfl|hy
  ·exact⟨NQ, .inl (aE0 ..),by rw[t3];exact lt_of_heap h2⟩
  ·obtain⟨k1,k2,k3⟩:=A.Up y hy;refine⟨k1, ?_,by rw[t3];exact k3⟩
   rcases k2 with k2|k2
   ·exact .inl (aD9 _ k2)
   ·exact .inr (by rw[<-s3];exact k2)
 ·rw[t3,<-s3];exact A.size
 ·show w2.os=w.os;rw[A.os,e1];rfl
 ·show w2.tape=w.tape;rw[A.tape,e1];rfl
 ·show w2.output=w.output;rw[A.output,e1];rfl
 ·have WR:y≠b:=λe=>by subst e;rw[NQ]at h;cases h
  rw[t2 y WR,A.fix y L h,s2 y WR]
 ·simp only[Array.toList_setIfInBounds]
  apply List.ext_getElem?
  intro j;have hl:arr.toList.length=arr.size:=rfl;simp only[List.getElem?_set,List.length_set,aC7,List.getElem?_append,aF5,List.getElem?_take,aC3,aC5,List.getElem?_drop]
  rcases Nat.lt_trichotomy j o with h|h|h
  ·rw[aF4 (by omega),aF4 (by omega),aG3 (by omega),aG3 h]
  ·subst h;rw[aF4 (by omega),aG3 rfl,aG3 (by omega),aF4 (by omega),aG3 (by omega)];rw[show j - min j arr.toList.length=0 by omega];rfl
  ·by_cases h2:j=o+1
   ·subst h2;rw[aG3 rfl,aG3 (by omega),aF4 (by omega),aG3 (by omega),show o+1 - min o arr.toList.length=1 by omega];rfl
   ·rw[aF4 (by omega),aF4 (by omega),aF4 (by omega),aF4 (by omega)]
    congr 1
    omega
theorem sI {P:Program}{w:World}{ops:Array Oper}{rest:List Oper}{o:Oper}{a:Act}{Q:Exit->Act->World->Prop}(YP:o.guard=none)(s x:Operand)(t u:TypeId)
  (ho:o.op= .call {callee:= .builtin .append,args:=#[s,x],argTypes:=#[t,u]}) (vs vx:Value) (hs:a.eval s=vs) (hx:a.eval x=vx) (R:Value->World->Prop)
  (hr:∃v w',(Builtin.append_ #[t,u] o.type #[vs,vx]).run P w= .ok v w'/\R v w') (h:∀v w',R v w'->wpList P ops Q rest (a.put o.dst v) w'):wpList P ops Q (o::rest) a w:=by
 obtain⟨v,w',hr,hR⟩:=hr
 refine wpList_plain YP λK hK=> ?_
 unfold Oper.wp execOp;simp only[ho,resolve,invoke,builtin,Sem.run_bind,Sem.run_pure,Result.andThen_ok,List.map_toArray,List.map_cons,List.map_nil,hs,hx,hr];exact hK _ _ (h v w' hR)
theorem After.SH {aD:Rd}{w w':World}{nb jd:List Nat}{o:Go.Obj}(hc:∀b L,aD b=some L->b<w.heap.size)(h:After aD (w.alloc o) nb aD w' jd):After aD w nb aD w' jd:=by
 have hs:(w.alloc o).heap.size=w.heap.size+1:=by show(w.heap.push _).size=_;simp
 refine⟨h.mono,h.cells,λb h1 h2 h3=> ?_,h.nodup,λb hb=> ?_, ?_,h.os,h.tape,h.output,λb L hb=> ?_⟩
 ·rw[(h.same b (by omega) h2 h3).1];refine⟨?_,h3⟩;show(w.heap.push _)[b]?=_;rw[Array.getElem?_push,aF4 (by omega)]
 ·obtain⟨a1,a2,a3⟩:=h.Up b hb;refine⟨a1,a2.imp id λk=> ?_,a3⟩;omega
 ·have:=h.size;omega
 ·rw[h.fix b L hb];have:=hc b L hb;show(w.heap.push _)[b]?=_;rw[Array.getElem?_push,aF4 (by omega)]
theorem OwnAt.alloc {aD:Rd}{w:World}{xs:List Int}{us:List Value}{nb:List Nat}(h:OwnAt aD w false (.int .u8) xs us nb)(k:∀b∈nb,b<w.heap.size)(o:Go.Obj):OwnAt aD (w.alloc o) false (.int .u8) xs us nb:=
 h.other λb hb=>by
  have:=k b hb;show(w.heap.push _)[b]?=_;rw[Array.getElem?_push,aF4 (by omega)]
end Go.Abs
end

section
namespace Go.Abs
theorem eZ {P:Program}{f:FuncId}{fn:Func}{c:Code}{args:Array Value}{w:World}{R:Value->World->Prop}(hf:P.funcs[f]?=some fn)(hb:fn.body=some c)(KU:(fn.name== "runtime.NumGoroutine")=false)
  (h:Calls P f args w λe w'=>∃v,e= .returned v/\R v w'):gY P f args w R:=by
 have KZ:(callFunc f args).run P w= .ok (.enter f args) w:=by
  have h1:fn.name≠ "runtime.NumGoroutine" :=(by simpa using KU)
  simp[callFunc,hf,h1,hb]
 unfold gY;rw[KZ];exact h
structure Same (w w':World):Prop where
 other:∀b,b<w.heap.size->w'.heap[b]?=w.heap[b]?
 size:w.heap.size<=w'.heap.size
 os:w'.os=w.os
 tape:w'.tape=w.tape
 output:w'.output=w.output
theorem Same.refl (w:World):Same w w:=⟨λ_ _=>rfl,aE5 _,rfl,rfl,rfl⟩
theorem Same.after {aD:Rd}{w w':World}(h:Same w w')(hc:∀b L,aD b=some L->∃arr ty fr,w.heap[b]?=some (.cells arr ty fr)/\arr.toList=L):After aD w [] aD w' []:=
 ⟨λ_ _ h=>h,λb L k=>by
  obtain⟨a,t,f,k1,k2⟩:=hc b L k
  exact⟨a,t,f,by rw[h.other b (lt_of_heap k1)];exact k1,k2⟩,λb h1 _ h3=>⟨h.other b h1,h3⟩,aG5,(λb hb=>by simp at hb),h.size,h.os,h.tape,h.output,λb L k=>by
  obtain⟨a,t,f,k1,k2⟩:=hc b L k
  exact h.other b (lt_of_heap k1)⟩
def Is:(τ:Ty)->τ.den->Value->Prop
 | .int k,x,u=>u= .int k x
 | .bool,b,u=>u= .bool b
 | .str,l,u=>∃s,u= .string s/\l=bytesOf s
 |_,_,_=>False
def qp:List Ty->List VSp
 |[]=>[]
 |τ::r=> .one (.cH τ)::qp r
def zu:(ts:List Ty)->(cf (qp ts)).den->List Value->Prop
 |[],_,us=>us=[]
 |τ::r,x,us=>∃u v,us=u::v/\Is τ x.1 u/\zu r x.2 v
def simple:Ty->Bool
 | .int _=>true
 | .bool=>true
 | .str=>true
 |_=>false
theorem Pu {r:Rd}{τ:Ty}{x:τ.den}{u:Value}(hs:simple τ=true)(h:Rc r τ x [u]):Is τ x u:=by
 cases τ with
 |int k=>have h:_=_:=h;injection h
 |bool=>have h:_=_:=h;injection h
 |str=>obtain⟨s,e,h⟩:=h;injection e with e;exact⟨s,e,h⟩
 |_=>cases hs
theorem Kb {r:Rd}{τ:Ty}{x:τ.den}{u:Value}(hs:simple τ=true)(h:Is τ x u):Rc r τ x [u]/\oc u=true/\τ.one=true:=by
 cases τ with
 |int k=>have h:_=_:=h;subst h;exact⟨rfl,rfl,rfl⟩
 |bool=>have h:_=_:=h;subst h;exact⟨rfl,rfl,rfl⟩
 |str=>obtain⟨s,e,h⟩:=h;subst e;exact⟨⟨s,rfl,h⟩,rfl,rfl⟩
 |_=>cases hs
theorem uv {aD:Rd}{w:World}:∀{ts:List Ty}{x:(cf (qp ts)).den}{us:List Value}{nb:List Nat},(ts.all simple)=true->gw aD w (qp ts) x us nb->zu ts x us/\nb=[]
 |[],_,_,_,_,h=>h
 |τ::r,x,us,nb,hs,⟨u,v,n1,n2,e,e',⟨_,h1,_,u',e2,h2⟩,h3⟩=>by
  simp only[List.all_cons,aC6]at hs
  injection e2 with e2
  subst e2;obtain⟨k1,k2⟩:=uv hs.2 h3;exact⟨⟨u,v,e,Pu hs.1 h2,k1⟩,by rw[e',h1,k2];rfl⟩
theorem uw {aD:Rd}{w w':World}:∀{ts:List Ty}{x:(pf (qp ts)).den}{y:(cf (qp ts)).den}{us:List Value},zu ts y us->j7 aD w w' (qp ts) x us []
 |[],_,_,_,h=>⟨h,rfl⟩
 |_::_,_,_,_,⟨u,v,e,_,h⟩=>⟨u,v,[],[],e,rfl,rfl,uw h⟩
theorem ur {P:Program}{df:Nat->Option (List Cell)}{f:FuncId}{ts:List Ty}{τ:Ty}(ak6:ts.all simple=true)(hτ:simple τ=true){F:(cf (qp ts)).den->Option (Ty.pr τ (pf (qp ts))).den}
  (h:∀x y,F x=some y->∀w us,zu ts x us->gY P f us.toArray w λv w'=>Same w w'/\Is τ y.1 v):lP P df f ⟨⟨qp ts, .val (.one (.cH τ))⟩,F⟩:=by
 intro x y hF aD w args nb hG iG hP mR oS;obtain⟨hA,rfl⟩:=uv ak6 hP;refine gY.mono (λv w' hk=> ?_) (h x y hF w args hA);obtain⟨hs,hv⟩:=hk;obtain⟨k1,k2,k3⟩:=Kb (r:=aD) hτ hv;exact⟨aD,[],[],hs.after iG,⟨k2,rfl,k3,v,rfl,k1⟩,uw hA⟩
theorem zu.map {aD:Rd}{w:World}:∀{ts:List Ty}{x:(cf (qp ts)).den}{us:List Value},(ts.all simple)=true->zu ts x us->qT aD w (qp ts) x us []
 |[],_,_,_,h=>⟨h,rfl⟩
 |τ::r,x,us,hs,⟨u,v,e,h1,h2⟩=>by
  simp only[List.all_cons,aC6]at hs;obtain⟨k1,k2,k3⟩:=Kb (r:=aD) hs.1 h1;exact⟨u,v,[],[],e,rfl,⟨k2,rfl,k3,u,rfl,k1⟩,zu.map hs.2 h2⟩
end Go.Abs
end

section
namespace Go.Abs
theorem E3 {P:Program}{W:World}{n:String}{g:Nat}{cs:Array Value}(hg:P.globalNamed n=some g)(h:W.var? P n=some cs):snap W g=some cs.toList:=by
 unfold World.var? at h;rw[hg,aC0]at h;unfold snap;split at h
 ·rename_i arr a b e;rw[e]
  injection h with h
  rw[h]
 ·cases h
theorem E0 {H:Type}{enc:TypeId×Value->H}{P:Program}{W:World}{n:String}{g g' t:Nat}{cs:Array Value}{fuel:Nat}{d:DataW H}{p:List MemPlace}{τ:Ty}{x:τ.den}{sp:Nat->Bool}{held:Bool}{k:Nat}
  (hg:P.globalNamed n=some g) (ht:(P.globals[g]?).map (·.type)=some t) (hv:W.var? P n=some cs) (hd:DataW.trod enc P W 0 sp held fuel t cs.toList=some (d,p))
  (eg:P.globalNamed n=some g') (ef:((P.globals[g']?).map (·.type)).all (λt=>Fp P k t τ)=true) (ho:τ.one=true) (hs:∀us,Rc (snap W) τ x us->us.length=1) (ex:ofD τ d=x):
  ∃us,snap W g'=some us/\∀gh:Gh,(∀b L,snap W b=some L->gh.aD b=some L)->aF gh [.v τ x] us:=by
 obtain rfl:=Option.some.inj (hg.symm.trans eg);rw[ht]at ef;have h:=(Ih k fuel t τ cs.toList (d,p) ef hd).1;rw[ex]at h;have hl:=hs _ h;refine⟨cs.toList,E3 hg hv,λgh hi=> ?_⟩
 match hc:cs.toList,hl with
 |[u],_=>
  rw[hc]at h;exact⟨u,[],rfl,⟨ho,h.mono hi⟩,rfl⟩
theorem LU {r:Rd}{e:Ty}{xs:List e.den}:∀us,Rc r (.sl e) xs us->us.length=1:=by
 rintro us ⟨A,c,rfl,_⟩;rfl
theorem PA {H:Type}{enc:TypeId×Value->H}{P:Program}{W:World}{n:String}{g g' t:Nat}{cs:Array Value}{fuel:Nat}{d:DataW H}{p:List MemPlace}{sp:Nat->Bool}{nm:String}
  (hg:P.globalNamed n=some g) (ht:(P.globals[g]?).map (·.type)=some t) (hv:W.var? P n=some cs) (hd:DataW.trod enc P W 0 sp false fuel t cs.toList=some (.iface nm d,p))
  (eg:P.globalNamed n=some g') (ef:((P.globals[g']?).map (·.type)).all (λt=>match P.underlying t with|some (.interface _)=>true|_=>false)=true):
  ∃us,snap W g'=some us/\∀gh:Gh,(∀b L,snap W b=some L->gh.aD b=some L)->aF gh [.err false] us:=by
 obtain rfl:=Option.some.inj (hg.symm.trans eg);rw[ht]at ef;refine⟨cs.toList,E3 hg hv,λgh hi=> ?_⟩;have ef:(match P.underlying t with|some (.interface _)=>true|_=>false)=true:=ef
 cases hu:P.underlying t with
 |none=>rw[hu]at ef;cases ef
 |some k=>
  cases k with
  |interface ms=>
   cases fuel with
   |zero=>simp[DataW.trod]at hd
   |succ m=>
    unfold DataW.trod at hd;rw[hu]at hd;simp only at hd;split at hd<;>simp_all;rename_i u v hc _;exact⟨_,_,rfl, .inr ⟨rfl,_,_,rfl⟩,rfl⟩
  |_=>rw[hu]at ef;cases ef
theorem El {gh:Gh}{k:IntKind}:∀zs:List Int,aF gh (zs.map λz=> .v (.int k) z) (zs.map λz=> .int k z)
 |[]=>rfl
 |z::zs=>⟨_,_,rfl,⟨rfl,rfl⟩,El zs⟩
theorem Og {H:Type}{enc:TypeId×Value->H}{P:Program}{W:World}{n:String}{g g' t m e:Nat}{cs:Array Value}{fuel:Nat}{ds:List (DataW H)}{p:List MemPlace}{sp:Nat->Bool}{held:Bool}{k:IntKind}
  (hg:P.globalNamed n=some g) (ht:(P.globals[g]?).map (·.type)=some t) (hv:W.var? P n=some cs) (hd:DataW.trod enc P W 0 sp held fuel t cs.toList=some (.agg ds,p))
  (eg:P.globalNamed n=some g') (zs:List Int) (ez:ds.map (ofD (.int k))=zs)
  (et:((P.globals[g']?).bind λgl=>P.underlying gl.type)=some (.array m e)) (ee:P.underlying e=some (.int k)) (e1:P.cellsOf e=1) (en:((P.globals[g']?).map λgl=>P.cellsOf gl.type)=some m):
  ∃us,snap W g'=some us/\∀gh:Gh,(∀b L,snap W b=some L->gh.aD b=some L)->aF gh (zs.map λz=> .v (.int k) z) us:=by
 obtain rfl:=Option.some.inj (hg.symm.trans eg);refine⟨cs.toList,E3 hg hv,λgh hi=> ?_⟩;obtain⟨gl,ay5,rfl⟩:=aF1.1 ht;rw[ay5]at et en;have et:P.underlying gl.type=some (.array m e):=et;have en:some (P.cellsOf gl.type)=some m:=en
 injection en with en
 obtain⟨xs,q,_,ex,hl,hx,IU⟩:=DataW.trod_array et hd;rw[en]at hl;simp only[aH2,DataW.agg.injEq]at ex
 have:cs.toList=zs.map λz=> .int k z:=by
  refine List.ext_getElem? λi=> ?_
  by_cases hi:i<m
  ·have h:=IU i hi;rw[e1,Nat.mul_one,aE1 (show i<xs.length by omega)]at h;obtain⟨z,h1,h2,_⟩:=DataW.trod_int ee h
   have h3:cs.toList[i]?=some (.int k z):=by
    have:((cs.toList.drop i).take 1)[0]?=some (.int k z):=by rw[h1];rfl
    simpa using this
   rw[h3,<-ez,ex.1,List.map_map,List.map_map,List.getElem?_map,aE1 (show i<xs.length by omega)];simp only[Option.map_some,Function.comp,h2];rfl
  ·rw[List.getElem?_eq_none (by omega),List.getElem?_eq_none (by rw[<-ez,ex.1];simp;omega)]
 rw[this];exact El zs
end Go.Abs
end
