/- What is here: a function that only reads its slices, and gives back nothing that leads to them, may be lent what its caller owns. -/
import Derived.Test.YtkmplfkiafonkaaGreatDoorX2
import Derived.KernelRfl
import Derived.Below
import Derived.Laws.BitsLemmas
import Derived.OpenShut
import Derived.OpenVars
import Derived.Laws.Externs
import Derived.LaidMore
import Derived.LaidHandle
set_option linter.unusedVariables false
set_option linter.unusedSimpArgs false
set_option maxRecDepth 100000
open Go.IntKind (i64 u64 u8)
section
namespace Go.Abs
@[reducible] def yF:Sp→Sp
 | .pr a b=> .pr (yF a) (yF b)
 | .dC (.sl τ)=> .lnd τ true
 |s=>s
def oP:Sp→Bool
 | .un=>true
 | .pr a b=>oP a&&oP b
 | .dC _=>true
 | .err=>true
 | .np=>true
 |_=>false
def wD:Sp→Bool
 | .un=>true
 | .pr a b=>wD a&&wD b
 | .dC τ=>τ.flat
 | .own τ dp=>τ.flat||dp
 | .err=>true
 | .np=>true
 |_=>false
def I2:(s:Sp)→(yF s).ty.den→s.ty.den
 | .un,x=>x
 | .pr a b,x=>(I2 a x.1,I2 b x.2)
 | .dC (.sl _),x=>x
 | .dC (.int _),x=>x
 | .dC .bool,x=>x
 | .dC .str,x=>x
 | .dC .un,x=>x
 | .dC (.pr _ _),x=>x
 | .dC .cl,x=>x
 | .own _ _,x=>x
 | .lnd _ _,x=>x
 | .ptr _ _ _,x=>x
 | .yK _,x=>x
 | .s8,x=>x
 | .err,x=>x
 | .np,x=>x
 | .slf _ _,x=>x
def Pr:(s:Sp)→(yF s).ty.den→(yF s).oA.den
 | .un,_=>()
 | .pr a b,x=>(Pr a x.1,Pr b x.2)
 | .dC (.sl _),x=>x
 | .dC (.int _),_=>()
 | .dC .bool,_=>()
 | .dC .str,_=>()
 | .dC .un,_=>()
 | .dC (.pr _ _),_=>()
 | .dC .cl,_=>()
 | .own _ _,_=>()
 | .lnd _ _,x=>x
 | .ptr _ _ _,x=>x
 | .yK _,_=>()
 | .s8,_=>()
 | .err,_=>()
 | .np,_=>()
 | .slf _ _,_=>()
@[reducible] def M0:VSp→VSp
 | .one s=> .one (yF s)
 | .agg s=> .agg (yF s)
def OO:(a:VSp)→(M0 a).sp.ty.den→a.sp.ty.den
 | .one s,x=>I2 s x
 | .agg s,x=>I2 s x
def V0:(a:VSp)→(M0 a).sp.ty.den→(M0 a).sp.oA.den
 | .one s,x=>Pr s x
 | .agg s,x=>Pr s x
@[reducible] def wE:List VSp→List VSp
 |[]=>[]
 |a::r=>M0 a::wE r
def CB:(as:List VSp)→(b9 (wE as)).den→(b9 as).den
 |[],_=>()
 |a::r,x=>(OO a x.1,CB r x.2)
def G3:(as:List VSp)→(b9 (wE as)).den→(oN (wE as)).den
 |[],_=>()
 |a::r,x=>(V0 a x.1,G3 r x.2)
def AL (c:Callee):Callee:=⟨⟨wE c.sig.args,c.sig.res⟩,fun x=>(c.F (CB c.sig.args x)).map fun y=>(y.1,G3 c.sig.args x)⟩
def pd (as:List VSp):Bool:=as.all fun a=>oP a.sp
def KJ:RSp→Bool
 | .val v=>wD v.sp
 | .ta vs=>vs.all fun v=>wD v.sp
 | .none=>true
open Classical in
noncomputable def He (aK:Rd)(w:World)(nb:List Nat):Rd:=fun b=>if b∈nb then rdW w b else aK b
theorem Kv {w:World}{b:Nat}{arr:Array Value}{ty:TypeId}(h:w.heap[b]?=some (.cells arr ty (0,0))):rdW w b=some arr.toList:=by
 unfold rdW;rw[h];rfl
def Rj (w:World)(nb:List Nat):Prop:=∀b∈nb,∃arr ty,w.heap[b]?=some (.cells arr ty (0,0))
theorem NR {w:World}{b:Nat}(h:rdW w b≠none):∃arr ty,w.heap[b]?=some (.cells arr ty (0,0)):=by
 unfold rdW at h;split at h
 ·rename_i arr ty e;exact⟨arr,ty,e⟩
 ·exact absurd rfl h
theorem OwnAt.here {aK:Rd}{w:World}{mv:Bool}{τ:Ty}{xs:List τ.den}{us:List Value}{nb:List Nat}(h:OwnAt aK w mv τ xs us nb):Rj w nb:=by
 rcases h with⟨_,_,rfl⟩|⟨b,cap,arr,ty,mc,_,rfl,ha,_,_,hE⟩
 ·exact fun b hb=>by simp at hb
 ·intro x hx
  rcases ar5.1 hx with rfl|hx
  ·exact⟨arr,ty,ha⟩
  ·unfold jq at hE;split at hE
   ·exact NR (hE.mQ x hx)
   ·rw[hE.2]at hx;simp at hx
theorem OwnAt.rc {aK imm1:Rd}{w:World}{τ:Ty}{xs:List τ.den}{us:List Value}{nb:List Nat}(h1:∀b∈nb,imm1 b=rdW w b)(h:OwnAt aK w (true&& !τ.flat) τ xs us nb):Rc imm1 (.sl τ) xs us:=by
 rcases h with⟨rfl,rfl,rfl⟩|⟨b,cap,arr,ty,mc,rfl,rfl,ha,hl,_,hE⟩
 ·exact⟨none,0,rfl,aq2 _, .inl rfl⟩
 ·refine⟨some ⟨b,0,none⟩,cap,rfl,hl, .inr ⟨b,0,arr.toList,rfl, ?_, ?_⟩⟩
  ·rw[h1 b (ap7 ..),Kv ha]
  ·show Els imm1 τ xs arr.toList 0;unfold jq at hE;split at hE
   ·exact(fe.mono (r':=imm1) (fun x hx L hL=>by rw[h1 x (ap6 _ hx)];exact hL) hE).els
   ·rename_i hf;have hf:τ.flat=true:=(by simpa using hf);exact hE.1.flat hf
theorem H7 {aK imm1:Rd}{w:World}(hm:∀b L,aK b=some L→imm1 b=some L):∀{s:Sp}{x:(yF s).ty.den}{pl:Nat×Nat}{us:List Value}{nb:List Nat},oP s=true→(∀b∈nb,imm1 b=rdW w b)→Pass aK w (yF s) x pl us nb→
  Pass imm1 w s (I2 s x) pl us []∧Rj w nb:=by
 intro s
 induction s with
 |un=>intro x pl us nb _ _ h;exact⟨⟨h.1,rfl⟩,by rw[h.2];exact fun b hb=>by simp at hb⟩
 |pr a b vo vn=>
  intro x pl us nb hp h1 h;simp only[oP,ao3]at hp;obtain⟨u1,u2,n1,n2,rfl,rfl,k1,k2⟩:=h;obtain⟨a1,a2⟩:=vo hp.1 (fun b hb=>h1 b (ar3 _ hb)) k1;obtain⟨b1,b2⟩:=vn hp.2 (fun b hb=>h1 b (ar0 _ hb)) k2;refine⟨⟨u1,u2,[],[],rfl,rfl,a1, ?_⟩,fun b hb=> ?_⟩
  ·have mu:∀s,oP s=true→(yF s).size=s.size:=by
    intro s
    induction s with
    |pr a b vo vn=>intro h;simp only[oP,ao3]at h;show(yF a).size+(yF b).size=a.size+b.size;rw[vo h.1,vn h.2]
    |dC τ=>intro _;cases τ<;>rfl
    |_=>intro _;rfl
   rw[mu a hp.1]at b1;exact b1
  ·rcases aq6.1 hb with hb|hb
   ·exact a2 b hb
   ·exact b2 b hb
 |dC τ=>
  intro x pl us nb _ h1 h
  cases τ with
  |sl e=>
   have h:OwnAt aK w (true&& !e.flat) e x us nb:=h;refine⟨⟨rfl,rfl, ?_⟩,h.here⟩;have hr:=h.rc h1;obtain⟨A,c,e',_⟩:=id hr;exact⟨_,e',by rw[←e'];exact hr⟩
  |_=>
   obtain⟨rfl,h2,u,rfl,h3⟩:=h;exact⟨⟨rfl,h2,u,rfl,h3.mono hm⟩,fun b hb=>by simp at hb⟩
 |err=>
  intro x pl us nb _ _ h;obtain⟨rfl,h⟩:=h;exact⟨⟨rfl,h⟩,fun b hb=>by simp at hb⟩
 |np=>
  intro x pl us nb _ _ h;obtain⟨rfl,h⟩:=h;exact⟨⟨rfl,h⟩,fun b hb=>by simp at hb⟩
 |_=>intro x pl us nb hp;cases hp
theorem ME {aK imm1:Rd}{w:World}(hm:∀b L,aK b=some L→imm1 b=some L){a:VSp}{x:(M0 a).sp.ty.den}{u:Value}{nb:List Nat}(hp:oP a.sp=true)(h1:∀b∈nb,imm1 b=rdW w b)(h:qC aK w (M0 a) x u nb):
  qC imm1 w a (OO a x) u []∧Rj w nb:=by
 cases a with
 |one s=>obtain⟨ho,h⟩:=h;obtain⟨k1,k2⟩:=H7 hm hp h1 h;exact⟨⟨ho,k1⟩,k2⟩
 |agg s=>obtain⟨us,e,h⟩:=h;obtain⟨k1,k2⟩:=H7 hm hp h1 h;exact⟨⟨us,e,k1⟩,k2⟩
theorem DC {aK imm1:Rd}{w:World}(hm:∀b L,aK b=some L→imm1 b=some L):∀{as:List VSp}{x:(b9 (wE as)).den}{us:List Value}{nb:List Nat},pd as=true→(∀b∈nb,imm1 b=rdW w b)→gg aK w (wE as) x us nb→
  gg imm1 w as (CB as x) us []∧Rj w nb
 |[],x,us,nb,_,_,h=>⟨⟨h.1,rfl⟩,by rw[h.2];exact fun b hb=>by simp at hb⟩
 |a::r,x,us,nb,hp,h1,⟨u,q,n1,n2,e,e',k1,k2⟩=>by
  subst e;subst e';simp only[pd,List.all_cons,ao3]at hp;obtain⟨a1,a2⟩:=ME hm hp.1 (fun b hb=>h1 b (ar3 _ hb)) k1;obtain⟨b1,b2⟩:=DC hm hp.2 (fun b hb=>h1 b (ar0 _ hb)) k2;refine⟨⟨u,q,[],[],rfl,rfl,a1,b1⟩,fun b hb=> ?_⟩
  rcases aq6.1 hb with hb|hb
  ·exact a2 b hb
  ·exact b2 b hb
theorem OwnAt.still {aK cZ:Rd}{w w':World}{τ:Ty}{xs:List τ.den}{us:List Value}{nb:List Nat}(hs:∀b∈nb,w'.heap[b]?=w.heap[b]?)(h:OwnAt aK w (true&& !τ.flat) τ xs us nb):OwnAt cZ w' (true&& !τ.flat) τ xs us nb:=by
 rcases h with h|⟨b,cap,arr,ty,mc,e,rfl,ha,hl,hz,hE⟩
 ·exact .inl h
 ·refine .inr ⟨b,cap,arr,ty,mc,e,rfl,(hs b (ap7 ..)).trans ha,hl,hz, ?_⟩;unfold jq at hE⊢;split
  ·rename_i hc;rw[as0 hc]at hE;refine fe.mono (fun x hx L hL=> ?_) hE;have:=hs x (ap6 _ hx);unfold rdW at hL⊢;rw[this];exact hL
  ·rename_i hc;rw[ar1 hc]at hE;have hf:τ.flat=true:=(by simpa using hc);exact⟨hE.1.flat hf,hE.2⟩
theorem Ie {aK cZ:Rd}{w w':World}:∀{s:Sp}{x:(yF s).ty.den}{pl:Nat×Nat}{us:List Value}{nb:List Nat},oP s=true→(∀b∈nb,w'.heap[b]?=w.heap[b]?)→Pass aK w (yF s) x pl us nb→zO cZ w w' (yF s) (Pr s x) us nb:=by
 intro s
 induction s with
 |un=>intro x pl us nb _ _ h;exact h.2
 |pr a b vo vn=>
  intro x pl us nb hp h1 h;simp only[oP,ao3]at hp;obtain⟨u1,u2,n1,n2,rfl,rfl,k1,k2⟩:=h;have hl:=k1.length;refine⟨n1,n2,rfl, ?_, ?_⟩
  ·rw[←hl,List.take_left];exact vo hp.1 (fun b hb=>h1 b (ar3 _ hb)) k1
  ·rw[←hl,List.drop_left];exact vn hp.2 (fun b hb=>h1 b (ar0 _ hb)) k2
 |dC τ=>
  intro x pl us nb _ h1 h
  cases τ with
  |sl e=>
   have h:OwnAt aK w (true&& !e.flat) e x us nb:=h;exact⟨rfl,h.still h1⟩
  |_=>exact h.1
 |err=>intro x pl us nb _ _ h;exact h.1
 |np=>intro x pl us nb _ _ h;exact h.1
 |_=>intro x pl us nb hp;cases hp
theorem DL {aK cZ:Rd}{w w':World}:∀{as:List VSp}{x:(b9 (wE as)).den}{us:List Value}{nb:List Nat},pd as=true→(∀b∈nb,w'.heap[b]?=w.heap[b]?)→gg aK w (wE as) x us nb→kn cZ w w' (wE as) (G3 as x) us nb
 |[],x,us,nb,_,_,h=>h
 |a::r,x,us,nb,hp,h1,⟨u,q,n1,n2,e,e',k1,k2⟩=>by
  subst e;subst e';simp only[pd,List.all_cons,ao3]at hp;refine⟨u,q,n1,n2,rfl,rfl, ?_,DL hp.2 (fun b hb=>h1 b (ar0 _ hb)) k2⟩
  have Jz:=fun b hb=>h1 b (ar3 n2 hb)
  cases a with
  |one s=>obtain⟨ho,k1⟩:=k1;rw[AO ho];exact Ie hp.1 Jz k1
  |agg s=>obtain⟨us,e,k1⟩:=k1;subst e;exact Ie hp.1 Jz k1
theorem nr.indep {aK cZ:Rd}{w:World}:∀{s:Sp}{x:s.ty.den}{pl:Nat×Nat}{old us:List Value}{nb:List Nat},wD s=true→nr aK w w s x pl old us nb→nr cZ w w s x pl old us nb:=by
 intro s
 induction s with
 |un=>intro x pl old us nb _ h;exact h
 |pr a b vo vn=>
  intro x pl old us nb hp h;simp only[wD,ao3]at hp;obtain⟨u1,u2,n1,n2,e,e',k1,k2⟩:=h;exact⟨u1,u2,n1,n2,e,e',vo hp.1 k1,vn hp.2 k2⟩
 |dC τ=>
  intro x pl old us nb hp h;obtain⟨h1,h2,u,h3,h4⟩:=h;exact⟨h1,h2,u,h3,h4.flat hp⟩
 |own τ dp=>
  intro x pl old us nb hp h;have hp:(τ.flat||dp)=true:=hp;have h:OwnAt aK w (dp&& !τ.flat) τ x us nb:=h;show OwnAt cZ w (dp&& !τ.flat) τ x us nb
  rcases h with h|⟨b,cap,arr,ty,mc,e,e',ha,hl,hs,hE⟩
  ·exact .inl h
  ·refine .inr ⟨b,cap,arr,ty,mc,e,e',ha,hl,hs, ?_⟩;unfold jq at hE⊢;split
   ·rename_i hc;rw[as0 hc]at hE;exact hE
   ·rename_i hc;rw[ar1 hc]at hE
    have hf:τ.flat=true:=by
     revert hp hc
     cases τ.flat<;>cases dp<;>simp
    exact⟨hE.1.flat hf,hE.2⟩
 |err=>intro x pl old us nb _ h;exact h
 |np=>intro x pl old us nb _ h;exact h
 |_=>intro x pl old us nb hp;cases hp
theorem DN {aK cZ:Rd}{w:World}{a:VSp}{x:a.sp.ty.den}{u:Value}{nb:List Nat}(hp:wD a.sp=true)(h:wB aK w a x u nb):wB cZ w a x u nb:=by
 cases a with
 |one s=>exact⟨h.1,h.2.indep hp⟩
 |agg s=>obtain⟨us,e,h⟩:=h;exact⟨us,e,h.indep hp⟩
theorem Bm {aK cZ:Rd}{w:World}:∀{as:List VSp}{x:(b9 as).den}{us:List Value}{nb:List Nat},(as.all fun v=>wD v.sp)=true→qz aK w as x us nb→qz cZ w as x us nb
 |[],_,_,_,_,h=>h
 |a::r,x,us,nb,hp,⟨u,q,n1,n2,e,e',k1,k2⟩=>by
  simp only[List.all_cons,ao3]at hp;exact⟨u,q,n1,n2,e,e',DN hp.1 k1,Bm hp.2 k2⟩
theorem MA {aK cZ:Rd}{w:World}{r:RSp}{x:r.ty.den}{u:Value}{nb:List Nat}(hp:KJ r=true)(h:wG aK w r x u nb):wG cZ w r x u nb:=by
 cases r with
 |val a=>exact DN hp h
 |ta as=>obtain⟨vs,e,h⟩:=h;exact⟨vs,e,Bm hp h⟩
 |none=>exact h
theorem J5 {aK:Rd}{w w':World}:∀{s:Sp}{x:s.oA.den}{us:List Value}{nb:List Nat},oP s=true→zO aK w w' s x us nb→nb=[]:=by
 intro s
 induction s with
 |pr a b vo vn=>
  intro x us nb hp ⟨n1,n2,e,h1,h2⟩;simp only[oP,ao3]at hp;rw[e,vo hp.1 h1,vn hp.2 h2];rfl
 |un=>intro x us nb _ h;exact h
 |dC τ=>intro x us nb _ h;exact h
 |err=>intro x us nb _ h;exact h
 |np=>intro x us nb _ h;exact h
 |_=>intro x us nb hp;cases hp
theorem zu {aK:Rd}{w w':World}:∀{as:List VSp}{x:(oN as).den}{us:List Value}{nb:List Nat},pd as=true→kn aK w w' as x us nb→nb=[]
 |[],_,_,_,_,h=>h.2
 |a::r,x,us,nb,hp,⟨u,q,n1,n2,e,e',k1,k2⟩=>by
  simp only[pd,List.all_cons,ao3]at hp;rw[e',J5 hp.1 k1,zu hp.2 k2];rfl
theorem Tg {P:Program}{fb:Nat→Option (List Cell)}{f:FuncId}{c:Callee}(hp:pd c.sig.args=true)(hr:KJ c.sig.res=true)(H:rM P fb f c):rM P fb f (AL c):=by
 intro x y hF aK w args nb hG nu hP mG sG;have hF:(c.F (CB c.sig.args x)).map (fun y=>(y.1,G3 c.sig.args x))=some y:=hF;obtain⟨z,hz,rfl⟩:=aq8.1 hF;have hP:gg aK w (wE c.sig.args) x args nb:=hP
 have hm:∀b L,aK b=some L→He aK w nb b=some L:=fun b L h=>by
  unfold He;rw[ar1]
  ·exact h
  ·intro hb;rw[(sG b hb).1]at h;cases h
 obtain⟨P1,here⟩:=DC (imm1:=He aK w nb) hm hp (fun b hb=>by unfold He;rw[as0 hb]) hP;refine(H _ _ hz (He aK w nb) w args [] (hG.mono hm) (fun b L h=> ?_) P1 as2 (fun b hb=>by simp at hb)).mono ?_
 ·unfold He at h;split at h
  ·rename_i hb;obtain⟨arr,ty,ha⟩:=here b hb;rw[Kv ha]at h
   injection h with h
   exact⟨arr,ty,_,ha,h⟩
  ·exact nu b L h
 ·rintro v w' ⟨cZ,n1,n2,A,hR,hO⟩;have Fi:=zu hp hO;subst Fi;rw[aq7]at A
  have mZ:∀b∈nb,w'.heap[b]?=w.heap[b]?:=fun b hb=>by
   obtain⟨arr,ty,ha⟩:=here b hb;exact A.fix b arr.toList (by unfold He;rw[as0 hb,Kv ha])
  refine⟨fun b=>open Classical in if b∈nb then none else cZ b,n1,nb,⟨fun b L h=> ?_,fun b L h=> ?_,fun b h1 h2 h3=> ?_, ?_,fun b hb=> ?_,A.size,A.os,A.tape,A.output,fun b L h=>A.fix b L (hm b L h)⟩,MA hr hR,DL hp mZ hP⟩
  ·rw[ar1 (fun hb=>by rw[(sG b hb).1]at h;cases h)];exact A.mono b L (hm b L h)
  ·have h:(if b∈nb then none else cZ b)=some L:=h;split at h
   ·cases h
   ·exact A.cells b L h
  ·have e:He aK w nb b=none:=by unfold He;rw[ar1 h2];exact h3
   obtain⟨a1,a2⟩:=A.same b h1 (by simp) e;exact⟨a1,by rw[ar1 h2];exact a2⟩
  ·rw[as7];refine⟨A.nodup,mG,fun a ha b hb e=> ?_⟩;subst e;have h1:=(sG a hb).2
   rcases(A.W7 a ha).2.1 with h|h
   ·simp at h
   ·omega
  ·rcases aq6.1 hb with hb|hb
   ·obtain⟨a1,a2,a3⟩:=A.W7 b hb;refine⟨?_, ?_,a3⟩
    ·split
     ·rfl
     ·exact a1
    ·rcases a2 with h|h
     ·simp at h
     ·exact .inr h
   ·refine⟨by rw[as0 hb], .inl hb, ?_⟩;have:=(sG b hb).2;have:=A.size;omega
end Go.Abs
end

section
namespace Go.Abs
def bC:Code→List (Bool×Code)
 | .seq a b=>(false,b)::(bC a++bC b)
 | .cond _ a b=>bC a++bC b
 | .block _ c=>bC c
 | .loop c=>(true,c)::bC c
 | .scope c=>bC c
 |_=>[]
def kJ (k:Bool)(r:Nat):List (Bool×Code)→Code
 |[]=> .skip
 |p::q=>bif(p.1==k)&&(match first p.2 with|some n=>Nat.beq n r|none=>false)then p.2 else kJ k r q
theorem Kh:∀(c:Code),∀p∈pieces c,p∈bC c:=by
 intro c
 induction c with
 |seq a b vo vn=>
  intro p hp;simp only[pieces,bC,ar5,aq6]at hp⊢
  rcases hp with h|h|h
  ·exact .inl h
  ·exact .inr (.inl (vo p h))
  ·exact .inr (.inr (vn p h))
 |cond c a b vo vn=>
  intro p hp;simp only[pieces,bC,aq6]at hp⊢;exact hp.imp (vo p) (vn p)
 |block id c ih=>exact ih
 |loop c ih=>intro p hp;simp only[pieces,bC,ar5,List.not_mem_nil,or_false]at hp⊢;exact .inl hp
 |scope c ih=>exact ih
 |_=>intro p hp;cases hp
theorem B7:∀(c:Code),∀p∈bC c,∀q∈bC p.2,q∈bC c:=by
 intro c
 induction c with
 |seq a b vo vn=>
  intro p hp q hq;simp only[bC,ar5,aq6]at hp⊢
  rcases hp with rfl|h|h
  ·exact .inr (.inr hq)
  ·exact .inr (.inl (vo p h q hq))
  ·exact .inr (.inr (vn p h q hq))
 |cond c a b vo vn=>
  intro p hp q hq;simp only[bC,aq6]at hp⊢
  rcases hp with h|h
  ·exact .inl (vo p h q hq)
  ·exact .inr (vn p h q hq)
 |block id c ih=>exact ih
 |loop c ih=>
  intro p hp q hq;simp only[bC,ar5]at hp⊢
  rcases hp with rfl|h
  ·exact .inr hq
  ·exact .inr (ih p h q hq)
 |scope c ih=>exact ih
 |_=>intro p hp;cases hp
theorem DM {k:Bool}{b:Code}{r:Nat}:∀{l:List (Bool×Code)},(∀p∈l,first p.2=some r→p.1=k→p=(k,b))→(k,b)∈l→first b=some r→kJ k r l=b
 |[],_,h,_=>by simp at h
 |p::q,hu,h,hf=>by
  simp only[kJ]
  cases hc:((p.1==k)&&(match first p.2 with|some n=>Nat.beq n r|none=>false))with
  |true=>
   simp only[ao3,beq_iff_eq]at hc
   have h2:first p.2=some r:=by
    cases hp:first p.2 with
    |none=>rw[hp]at hc;cases hc.2
    |some n=>rw[hp]at hc;rw[beq_eq hc.2]
   rw[hu p (ap7 ..) h2 hc.1];rfl
  |false=>
   simp only[ao8];refine DM (fun p' Bb=>hu p' (ap6 _ Bb)) ?_ hf
   rcases ar5.1 h with h|h
   ·exfalso
    subst h;simp[hf]at hc
   ·exact h
def GK (xU:Bool→Nat→Bool)(c:Code):List (Bool×Nat):=(bC c).filterMap fun p=>match first p.2 with
 |some r=>bif xU p.1 r then some (p.1,r)else none
 |none=>none
theorem DF {xU:Bool→Nat→Bool}:∀{l:List (Bool×Code)},(l.filterMap fun p=>match first p.2 with|some r=>bif xU p.1 r then some (p.1,r)else none|none=>none).Nodup→∀{p q:Bool×Code}{r:Nat},p∈l→q∈l→first p.2=some r→first q.2=some r→p.1=q.1→xU p.1 r=true→p=q
 |[],_,p,q,r,hp,_,_,_,_,_=>by simp at hp
 |x::l,h,p,q,r,hp,hq,h1,h2,h3,h4=>by
  have mem:∀y∈l,first y.2=some r→y.1=p.1→(p.1,r)∈(l.filterMap fun p=>match first p.2 with|some r=>bif xU p.1 r then some (p.1,r)else none|none=>none):=fun y hy hf hk=>
   List.mem_filterMap.2 ⟨y,hy,by rw[hf];simp[hk,h4]⟩
  rcases ar5.1 hp with rfl|Bb<;>rcases ar5.1 hq with rfl|Nt
  ·rfl
  ·exfalso
   rw[List.filterMap_cons]at h;simp only[h1,h4,ap3,List.nodup_cons]at h;exact h.1 (mem q Nt h2 h3.symm)
  ·exfalso
   rw[List.filterMap_cons]at h;simp only[h2,←h3,h4,ap3,List.nodup_cons]at h;exact h.1 (mem p Bb h1 rfl)
  ·refine DF (l:=l) ?_ Bb Nt h1 h2 h3 h4;rw[List.filterMap_cons]at h;split at h
   ·exact h
   ·exact(List.nodup_cons.1 h).2
structure Sys where
 P:Program
 fb:Nat→Option (List Cell)
 cl:TypeId
 sig:FuncId→Sig
 known:FuncId→Bool
 mS:FuncId→List Nat
 xU:FuncId→Bool→Nat→Bool
 cut:FuncId→Bool→Nat→Cut
 lib:FuncId→Option Callee
 bors:List (FuncId×FuncId):=[]
 nest:FuncId→Bool:=fun _=>false
 trim:FuncId→Bool:=fun _=>false
namespace Sys
variable(S:Sys)
structure Tab where
 fn:(f:FuncId)→(S.sig f).dom.den→Option (S.sig f).cod.den
 pc:(f:FuncId)→(k:Bool)→(r:Nat)→(b9 (S.cut f k r).as).den→Option (nK (S.cut f k r).ws)
def L6 (c f:FuncId):Bool:=S.bors.any fun p=>Nat.beq p.1 c&&Nat.beq p.2 f
def OI:Bool:=S.bors.all fun p=>pd (S.sig p.2).args&&KJ (S.sig p.2).res
def callee (T:S.Tab)(c f:FuncId):Option Callee:=bif S.known f then(bif S.L6 c f then some (AL ⟨S.sig f,T.fn f⟩)else some ⟨S.sig f,T.fn f⟩)else S.lib f
def VF:Sp→Bool
 | .ptr _ _ (.ptr _ _ _)=>true
 |_=>false
def ini (f:FuncId):Bool:=(S.sig f).args.any fun a=>VF a.sp
def cutAt (f:FuncId)(k:Bool)(r:Nat):Bool:=S.xU f k r&& !S.ini f
def env (T:S.Tab)(f:FuncId)(nt:Nat):Env:={P:=S.P,callee:=S.callee T f,fb:=S.fb,cl:=S.cl,nt:=nt,mS:=S.mS f,nest:=S.nest f,trim:=S.trim f,slf:=DV (S.sig f).args,ini:=S.ini f}
def zP (T:S.Tab)(f:FuncId):Cuts:=
  ⟨fun r=>bif S.cutAt f true r then some ((S.cut f true r).xh (T.pc f true r))else none,
   fun r=>bif S.cutAt f false r then some ((S.cut f false r).xh (T.pc f false r))else none⟩
def Eb (T:S.Tab)(f:FuncId)(x:(S.sig f).dom.den):Option (S.sig f).cod.den:=match S.P.funcs[f]? with
 |some fn=>En (S.env T f fn.ntmps) fn (S.sig f) (S.zP T f) x
 |none=>none
def yB (T:S.Tab)(f:FuncId)(k:Bool)(r:Nat)(x:(b9 (S.cut f k r).as).den):Option (nK (S.cut f k r).ws):=match S.P.funcs[f]? with
 |some fn=>match fn.body with
  |some c=>bif k then(S.cut f k r).round (S.env T f fn.ntmps) (S.zP T f) (kJ k r (bC c)) (T.pc f k r) x
    else(S.cut f k r).tail (S.env T f fn.ntmps) (S.zP T f) (kJ k r (bC c)) x
  |none=>none
 |none=>none
def step (T:S.Tab):S.Tab:=⟨S.Eb T,S.yB T⟩
@[reducible] def tab:Nat→S.Tab
 |0=>⟨fun _ _=>none,fun _ _ _ _=>none⟩
 |n+1=>S.step (tab n)
def KO (f:FuncId):Bool:=match S.P.funcs[f]? with
 |some fn=>match fn.body with
  |some c=>(fn.name != "runtime.NumGoroutine")&&Nat.ble (S.sig f).args.length fn.ntmps&&((S.mS f).all fun t=>Nat.blt t (S.sig f).args.length)&&mo (S.sig f).args&&
    decide (GK (S.cutAt f) c).Nodup
  |none=>false
 |none=>false
end Sys
end Go.Abs
end

section
namespace Go.Abs
theorem ActRel.callee {E E':Env}(hn:E'.nt=E.nt)(hk:E'.mS=E.mS)(hs:E'.slf=E.slf)(hi:E'.ini=E.ini){B:Base}{g:Gh}{env:List (Nat×Slot)}{a:Act}(H:ActRel E B g env a):ActRel E' B g env a:=
 ⟨H.env,H.size.trans hn.symm,H.defers,by rw[hk];exact H.kept,fun f ts h h2=>H.slf f ts (by rw[←hs];exact h) h2,fun e=>H.ini (hi.symm.trans e)⟩
theorem KOk.callee {ρ:Type}{E E':Env}(hg:E'.fb=E.fb)(hn:E'.nt=E.nt)(hk:E'.mS=E.mS)(hs:E'.slf=E.slf)(hi:E'.ini=E.ini){B:Base}{K:St→Option ρ}{x:ρ}{Q:Act→World→Prop}(h:KOk E' B K x Q):KOk E B K x Q:=
 fun s g a w h1 h2 h3 h4=>h s g a w h1 (by rw[hg];exact h2) h3 (h4.callee hn hk hs hi)
theorem sD.callee {E E':Env}(hg:E'.fb=E.fb)(hn:E'.nt=E.nt)(hk:E'.mS=E.mS)(hs:E'.slf=E.slf)(hi:E'.ini=E.ini){c:Cut}{W:(Exit→Act→World→Prop)→Act→World→Prop}{L:(b9 c.as).den→Option (nK c.ws)}(h:sD E c W L):sD E' c W L:=
 fun x y ae3 _ B K z Q an4 hK g a w h1 h2 h3=>h x y ae3 B K z Q an4 (fun e=>(hK e).callee hg hn hk hs hi) g a w (by rw[←hg];exact h1) h2 (h3.callee hn.symm hk.symm hs.symm hi.symm)
namespace Sys
variable{S:Sys}
theorem GW {f:FuncId}{k:Bool}{r:Nat}(h:S.cutAt f k r=true):S.ini f=false:=by
 unfold cutAt at h;rw[ao3]at h;simpa using h.2
theorem DK {f:FuncId}(h:S.KO f=true):∃fn c,S.P.funcs[f]?=some fn∧fn.body=some c∧(fn.name== "runtime.NumGoroutine")=false∧(S.sig f).args.length≤fn.ntmps∧((S.mS f).all fun t=>Nat.blt t (S.sig f).args.length)=true∧mo (S.sig f).args=true∧
  (GK (S.cutAt f) c).Nodup:=by
 unfold KO at h;split at h
 ·rename_i fn hf;split at h
  ·rename_i c hc;simp only[ao3,ao1]at h;exact⟨fn,c,hf,hc,by have:=h.1.1.1.1;simpa[bne]using this,aq4 h.1.1.1.2,h.1.1.2,h.1.2,h.2⟩
  ·cases h
 ·cases h
def W1 (P:Program)(k:Bool)(b:Code):(Exit→Act→World→Prop)→Act→World→Prop:=if k then pK P b else fun Q=>b.wp P Q
structure TabOk (S:Sys)(T:S.Tab):Prop where
 fn:∀f,S.known f=true→uB S.P S.fb f ⟨S.sig f,T.fn f⟩
 pc:∀f,S.known f=true→∀fn c,S.P.funcs[f]?=some fn→fn.body=some c→∀k r,S.cutAt f k r=true→(k,kJ k r (bC c))∈bC c→∀T':S.Tab,
  sD (S.env T' f fn.ntmps) (S.cut f k r) (W1 S.P k (kJ k r (bC c))) (T.pc f k r)
theorem OZ {T:S.Tab}(hT:TabOk S T){f:FuncId}(hk:S.known f=true){fn:Func}{c:Code}(hf:S.P.funcs[f]?=some fn)(hb:fn.body=some c)(mG:(GK (S.cutAt f) c).Nodup){d:Code}(hd:∀p∈bC d,p∈bC c):
  CutsOk (S.env T f fn.ntmps) (S.zP T f) d:=by
 have found:∀k b r,(k,b)∈pieces d→first b=some r→S.cutAt f k r=true→kJ k r (bC c)=b∧(k,b)∈bC c:=by
  intro k b r hp hr Hn;have hm:=hd _ (Kh d _ hp);refine⟨DM (fun p Bb h1 h2=> ?_) hm hr,hm⟩;exact DF mG Bb hm h1 hr h2 (by rw[h2];exact Hn)
 refine⟨fun b hp h hh=> ?_,fun b hp h hh=> ?_⟩
 ·cases hr:first b with
  |none=>rw[hr]at hh;cases hh
  |some r=>
   rw[hr]at hh;have hh:(bif S.cutAt f true r then some ((S.cut f true r).xh (T.pc f true r))else none)=some h:=hh
   cases hc:S.cutAt f true r with
   |false=>rw[hc]at hh;cases hh
   |true=>
    rw[hc]at hh
    injection hh with hh
    subst hh;obtain⟨e,hm⟩:=found true b r hp hr hc;have:=hT.pc f hk fn c hf hb true r hc (by rw[e];exact hm) T;rw[e]at this;exact Gt (GW hc) (body:=b) this
 ·cases hr:first b with
  |none=>rw[hr]at hh;cases hh
  |some r=>
   rw[hr]at hh;have hh:(bif S.cutAt f false r then some ((S.cut f false r).xh (T.pc f false r))else none)=some h:=hh
   cases hc:S.cutAt f false r with
   |false=>rw[hc]at hh;cases hh
   |true=>
    rw[hc]at hh
    injection hh with hh
    subst hh;obtain⟨e,hm⟩:=found false b r hp hr hc;have:=hT.pc f hk fn c hf hb false r hc (by rw[e];exact hm) T;rw[e]at this;exact F3 (GW hc) (body:=b) this
theorem FB:∀{as:List VSp},pd as=true→uZ as=none
 |[],_=>rfl
 |[.one s],h=>by
  cases s with
  |slf f m=>cases h
  |_=>rfl
 |[.agg s],_=>rfl
 |x::a::r,h=>by
  have h:(oP x.sp&&pd (a::r))=true:=h;rw[ao3]at h;have ih:=FB h.2
  have e:uZ (x::a::r)=uZ (a::r):=by
   cases x with
   |one s=>cases s<;>rfl
   |agg s=>rfl
  rw[e];exact ih
theorem Cw (hm:S.P.follows .mixedOrders=true)(hk:∀f,S.known f=true→S.KO f=true)(hl:∀f c,S.known f=false→S.lib f=some c→rM S.P S.fb f c)(Qs:S.OI=true){T:S.Tab}(hT:TabOk S T):TabOk S (S.step T):=by
 have hE:∀f nt,EnvOk (S.env T f nt):=fun f nt=>⟨fun g c hc=>by
  have hc:(bif S.known g then(bif S.L6 f g then some (AL ⟨S.sig g,T.fn g⟩)else some ⟨S.sig g,T.fn g⟩)else S.lib g)=some c:=hc
  cases hg:S.known g with
  |true=>
   rw[hg]at hc
   cases RQ:S.L6 f g with
   |false=>rw[RQ]at hc;injection hc with hc;subst hc;exact hT.fn g hg
   |true=>
    rw[RQ]at hc;injection hc with hc;subst hc
    unfold L6 at RQ;obtain⟨q,hq,ab2⟩:=List.any_eq_true.1 RQ;simp only[ao3]at ab2;obtain rfl:=beq_eq ab2.2;have:=List.all_eq_true.1 Qs q hq;simp only[ao3]at this;exact(Tg this.1 this.2 ((hT.fn _ hg).plain (FB this.1))).slf
  |false=>rw[hg]at hc;exact(hl g c hg hc).slf⟩
 refine⟨fun f hf=> ?_,fun f hf fn c Vj hb k r Hn RG T'=> ?_⟩
 ·obtain⟨fn,c,h1,h2,h3,h4,h5,h6,h7⟩:=DK (hk f hf);have WZ:=QI (hE f fn.ntmps) hm (f:=f) (fn:=fn) (c:=c) (sg:=S.sig f) (H:=S.zP T f) h1 h2 h3 rfl h4 h5 h6 rfl (OZ hT hf h1 h2 h7 fun p hp=>hp)
  have e:(S.step T).fn f=En (S.env T f fn.ntmps) fn (S.sig f) (S.zP T f):=by
   funext x
   show S.Eb T f x=_;unfold Eb;rw[h1]
  rw[e];exact WZ
 ·obtain⟨fn',c',h1,h2,h3,h4,h5,h6,h7⟩:=DK (hk f hf);rw[Vj]at h1
  injection h1 with h1
  subst h1;rw[hb]at h2
  injection h2 with h2
  subst h2
  have Jt:∀p∈bC (kJ k r (bC c)),p∈bC c:=fun p hp=>B7 c _ RG p hp
  have hC:=OZ hT hf Vj hb h7 Jt
  have e:(S.step T).pc f k r=fun x=>bif k then(S.cut f k r).round (S.env T f fn.ntmps) (S.zP T f) (kJ k r (bC c)) (T.pc f k r) x
    else(S.cut f k r).tail (S.env T f fn.ntmps) (S.zP T f) (kJ k r (bC c)) x:=by
   funext x
   show S.yB T f k r x=_;unfold yB;rw[Vj]
   show(match fn.body with
    |some c=>_
    |none=>none)=_
   rw[hb]
  rw[e]
  cases k with
  |true=>exact sD.callee (E:=S.env T f fn.ntmps) (E':=S.env T' f fn.ntmps) rfl rfl rfl rfl rfl (NB (GW Hn) (hE f fn.ntmps) hm hC (hT.pc f hf fn c Vj hb true r Hn RG T))
  |false=>exact sD.callee (E:=S.env T f fn.ntmps) (E':=S.env T' f fn.ntmps) rfl rfl rfl rfl rfl (uD (GW Hn) (hE f fn.ntmps) hm hC)
theorem ok (hm:S.P.follows .mixedOrders=true)(hk:∀f,S.known f=true→S.KO f=true)(hl:∀f c,S.known f=false→S.lib f=some c→rM S.P S.fb f c)(Qs:S.OI=true:=by rfl):∀n,TabOk S (S.tab n)
 |0=>⟨(fun f _ x y h=>by cases h),(fun f _ fn c _ _ k r _ _ T' x y h=>by cases h)⟩
 |n+1=>Cw hm hk hl Qs (ok hm hk hl Qs n)
end Sys
end Go.Abs
end

section
namespace Go.Abs
def aN {A ρ:Type}(f:A→Option ρ):A⊕Empty→Option ρ:=Sum.elim f Empty.elim
def bw {A B ρ:Type}(f:A→Option ρ)(g:B→Option ρ):A⊕(B⊕Empty)→Option ρ:=Sum.elim f (Sum.elim g Empty.elim)
def MY {A B C ρ:Type}(f:A→Option ρ)(g:B→Option ρ)(h:C→Option ρ):A⊕(B⊕(C⊕Empty))→Option ρ:=Sum.elim f (Sum.elim g (Sum.elim h Empty.elim))
def cH {τ:Ty}(xs:List τ.den)(i:Int)(f:τ.den→τ.den):List τ.den:=xs.set i.toNat (f (at_ xs i))
namespace Sys
variable{S:Sys}
theorem QR {f:FuncId}{fn:Func}(h:S.P.funcs[f]?=some fn)(T:S.Tab)(x:(S.sig f).dom.den):(S.step T).fn f x=En (S.env T f fn.ntmps) fn (S.sig f) (S.zP T f) x:=by
 show S.Eb T f x=_;unfold Eb;rw[h]
theorem N2 {f:FuncId}{fn:Func}{c:Code}(h:S.P.funcs[f]?=some fn)(hb:fn.body=some c)(T:S.Tab){r:Nat}(x:(b9 (S.cut f true r).as).den):
  (S.step T).pc f true r x=(S.cut f true r).round (S.env T f fn.ntmps) (S.zP T f) (kJ true r (bC c)) (T.pc f true r) x:=by
 show S.yB T f true r x=_;unfold yB;rw[h]
 show(match fn.body with
    |some c=>_
    |none=>none)=_
 rw[hb];rfl
theorem Oe {f:FuncId}{fn:Func}{c:Code}(h:S.P.funcs[f]?=some fn)(hb:fn.body=some c)(T:S.Tab){r:Nat}(x:(b9 (S.cut f false r).as).den):
  (S.step T).pc f false r x=(S.cut f false r).tail (S.env T f fn.ntmps) (S.zP T f) (kJ false r (bC c)) x:=by
 show S.yB T f false r x=_;unfold yB;rw[h]
 show(match fn.body with
    |some c=>_
    |none=>none)=_
 rw[hb];rfl
theorem Q4 {fns:List Nat}(h:(fns.all S.KO)=true){f:FuncId}(hf:(fns.any (Nat.beq f))=true):S.KO f=true:=by
 obtain⟨g,hg,e⟩:=List.any_eq_true.1 hf;have:=Nat.eq_of_beq_eq_true e;subst this;exact List.all_eq_true.1 h _ hg
end Sys
theorem Ax {P:Program}{f:FuncId}{fn:Func}{c:Code}{args:Array Value}{w:World}{R:Value→World→Prop}(hf:P.funcs[f]?=some fn)(hb:fn.body=some c)(Jj:(fn.name== "runtime.NumGoroutine")=false)
  (h:iE P f args w R):Calls P f args w fun e w'=>∃v,e= .returned v∧R v w':=by
 have Jp:(callFunc f args).run P w= .ok (.enter f args) w:=by
  have h1:fn.name≠ "runtime.NumGoroutine" :=(by simpa using Jj)
  simp[callFunc,hf,h1,hb]
 unfold iE at h;rw[Jp]at h;exact h
theorem After.below {aK cZ:Rd}{w w':World}{mc:List Nat}(h:After aK w [] cZ w' mc):RowKit.Below w.heap.size w w':=
 ⟨h.os,h.tape,h.output,h.size,fun k hk=>by
  cases e:aK k with
  |none=>exact(h.same k hk (by simp) e).1
  |some L=>exact h.fix k L e⟩
def Evt (p:Nat→Prop):Prop:=∃N,∀n,N≤n→p n
theorem Evt.of {p:Nat→Prop}(h:∀n,p n):Evt p:=⟨0,fun n _=>h n⟩
theorem Evt.and {p q:Nat→Prop}(h:Evt p)(k:Evt q):Evt fun n=>p n∧q n:=by
 obtain⟨N,h⟩:=h;obtain⟨M,k⟩:=k;exact⟨max N M,fun n hn=>⟨h n (by omega),k n (by omega)⟩⟩
theorem Evt.mono {p q:Nat→Prop}(h:Evt p)(k:∀n,p n→q n):Evt q:=by
 obtain⟨N,h⟩:=h;exact⟨N,fun n hn=>k n (h n hn)⟩
theorem Evt.up {p q:Nat→Prop}(h:Evt p)(k:∀n,p n→q (n+1)):Evt q:=by
 obtain⟨N,h⟩:=h;refine⟨N+1,fun n hn=> ?_⟩;obtain⟨m,rfl⟩:∃m,n=m+1:=⟨n - 1,by omega⟩;exact k m (h m (by omega))
end Go.Abs
end

section
namespace Go.Abs
def isByte (c:Int):Prop:=0≤c∧c<256
theorem zL (x:Int)(h0:0≤x)(h1:x<256):u8.wrap x=x:=by
 have:u8.wrap x=x % 256:=rfl;rw[this];omega
theorem wrap64 (x:Int)(h0: -9223372036854775808≤x)(h1:x<9223372036854775808):i64.wrap x=x:=by
 rw[IntKind.wrap_i64];omega
theorem dY {n:Nat}(h:n≤lim):fits n=true:=Nat.ble_eq_true_of_le h
theorem vN (s:ByteArray):∀c∈bytesOf s,isByte c:=by
 intro c hc;unfold bytesOf at hc;obtain⟨b,_,rfl⟩:=List.mem_map.1 hc;have:=b.toNat_lt;exact⟨by omega,by omega⟩
theorem LL {c:Int}(h:isByte c):byte c=c:=by
 unfold byte;obtain⟨h0,h1⟩:=h;omega
theorem Ob {l:List Int}(h:∀c∈l,isByte c):l.map byte=l:=by
 induction l with
 |nil=>rfl
 |cons x r ih=>
  rw[List.map_cons,LL (h x (ap7 ..)),ih fun c hc=>h c (ap6 _ hc)]
theorem pG {α:Type}(pre:List α)(x:α)(r:List α)(d:α):(pre++x::r).getD pre.length d=x:=by
 rw[ap9,List.getElem?_append_right (aq2 _),Nat.sub_self];rfl
def stop (q:Nat→Bool):Nat→Nat→Nat
 |0,j=>j
 |k+1,j=>bif q j then stop q k (j+1)else j
theorem qB {q:Nat→Bool}:∀(k j:Nat),j≤stop q k j
 |0,j=>aq2 _
 |k+1,j=>by
  unfold stop;cases q j
  ·exact aq2 _
  ·have:=qB (q:=q) k (j+1);simp only[ap3];omega
theorem pH {q:Nat→Bool}{N:Nat}(h:∀j,N≤j→q j=false):∀(k j:Nat),N≤j+k→q (stop q k j)=false
 |0,j,hk=>h j (by omega)
 |k+1,j,hk=>by
  unfold stop;cases hq:q j
  ·exact hq
  ·exact pH h k (j+1) (by omega)
theorem n9 {q:Nat→Bool}:∀(k j i:Nat),j≤i→i<stop q k j→q i=true
 |0,j,i,h1,h2=>by simp only[stop]at h2;omega
 |k+1,j,i,h1,h2=>by
  unfold stop at h2;cases hq:q j
  ·rw[hq]at h2;simp only[ao8]at h2;omega
  ·rw[hq]at h2
   rcases Nat.lt_or_ge j i with h|h
   ·exact n9 k (j+1) i h h2
   ·have:i=j:=(by omega);subst this;exact hq
theorem IJ {q:Nat→Bool}{N:Nat}(h:∀j,N≤j→q j=false):∀(k k' j:Nat),N≤j+k→N≤j+k'→stop q k j=stop q k' j
 |0,0,j,_,_=>rfl
 |0,k'+1,j,h1,_=>by unfold stop;rw[h j (by omega)];rfl
 |k+1,0,j,_,h2=>by unfold stop;rw[h j (by omega)];rfl
 |k+1,k'+1,j,h1,h2=>by
  unfold stop;cases q j
  ·rfl
  ·exact IJ h k k' (j+1) (by omega) (by omega)
theorem FD {q:Nat→Bool}{N:Nat}(h:∀j,N≤j→q j=false){k j:Nat}(hk:N≤j+k)(hq:q j=true):stop q k j=stop q k (j+1):=by
 have hj:j<N:=by
  rcases Nat.lt_or_ge j N with h'|h'
  ·exact h'
  ·rw[h j h']at hq;cases hq
 obtain⟨k,rfl⟩:∃m,k=m+1:=⟨k - 1,by omega⟩;rw[IJ h (k+1) k (j+1) (by omega) (by omega)];show(bif q j then stop q k (j+1)else j)=_;rw[hq];rfl
theorem wZ {q:Nat→Bool}{k j:Nat}(hq:q j=false):stop q k j=j:=by
 cases k with
 |zero=>rfl
 |succ k=>unfold stop;rw[hq];rfl
theorem adv {S:Sys}{R:Type}{F:S.Tab→Nat→Option R}{q:Nat→Bool}{out:Nat→R}{N:Nat}{p:S.Tab→Prop}(hp:Evt fun n=>p (S.tab n))(hN:∀j,N≤j→q j=false)
  (h1:∀T j,p T→q j=true→F (S.step T) j=F T (j+1)) (h2:∀T j,p T→q j=false→F (S.step T) j=some (out j)):
  ∀(k j:Nat),N≤j+k→Evt fun n=>F (S.tab n) j=some (out (stop q k j))
 |0,j,hk=>hp.up fun n h=>by
  show F (S.step (S.tab n)) j=_;rw[h2 _ _ h (hN j (by omega))];rfl
 |k+1,j,hk=>by
  cases hq:q j with
  |false=>
   refine hp.up fun n h=> ?_
   show F (S.step (S.tab n)) j=_;rw[h2 _ _ h hq,wZ hq]
  |true=>
   refine((adv hp hN h1 h2 k (j+1) (by omega)).and hp).up fun n h=> ?_
   show F (S.step (S.tab n)) j=_;rw[h1 _ _ h.2 hq,h.1];show some (out (stop q k (j+1)))=some (out (bif q j then _ else _));rw[hq];rfl
theorem ad {ρ:Type}{b:Bool}{x y:Option ρ}(h:b=true):brk b x y=x:=by rw[dX,h];rfl
theorem az {ρ:Type}{b:Bool}{x y:Option ρ}(h:b=false):brk b x y=y:=by rw[dX,h];rfl
theorem aL {ρ:Type}{p:Prop} [Decidable p] {x y:Option ρ}(h:p):brk (decide p) x y=x:=ad (an8 h)
theorem aH {ρ:Type}{p:Prop} [Decidable p] {x y:Option ρ}(h:¬p):brk (decide p) x y=y:=az (an6 h)
end Go.Abs
end

section
namespace Go.Abs
def snap (W:World):Rd:=fun b=>match W.heap[b]? with|some (.cells arr _ _)=>some arr.toList|_=>none
theorem Mx {W:World}{b:Nat}{L:List Value}(h:snap W b=some L):∃arr ty fr,W.heap[b]?=some (.cells arr ty fr)∧arr.toList=L:=by
 unfold snap at h;split at h
 ·rename_i arr ty fr e;injection h with h;exact⟨arr,ty,fr,e,h⟩
 ·cases h
def ofD {H:Type}:(τ:Ty)→DataW H→τ.den
 | .int _,d=>match d with| .lit (.int _ z)=>z|_=>(0:Int)
 | .bool,d=>match d with| .lit (.bool b)=>b|_=>false
 | .str,d=>match d with| .lit (.string bs)=>bs.map fun b=>(b.toNat:Int)|_=>([]:List Int)
 | .sl e,d=>match d with| .slice ds _=>ds.map (ofD e)|_=>[]
 | .un,_=>()
 | .pr a b,d=>match d with| .agg (x::r)=>(ofD a x,ofD b (.agg r))|_=>(ofD a (DataW.nil (H:=H)),ofD b (DataW.nil (H:=H)))
 | .cl,_=>([]:List Int)
def Good:(τ:Ty)→τ.den→Prop
 | .int k,x=>k.min≤x∧x≤k.max
 | .str,l=>(∀c∈l,isByte c)∧l.length≤maxLen
 | .sl e,xs=>(∀x∈xs,Good e x)∧xs.length≤maxLen
 | .pr a b,x=>Good a x.1∧Good b x.2
 |_,_=>True
def I0 (P:Program)(g:TypeId→Ty→Bool):List Field→Nat→Ty→Bool
 |[],_, .un=>true
 |f::r,off, .pr a b=>Nat.beq f.offset off&&g f.type a&&Nat.beq (P.cellsOf f.type) a.size&&I0 P g r (off+a.size) b
 |_,_,_=>false
def El (P:Program):Nat→TypeId→Ty→Bool
 |0,_,_=>false
 |n+1,t,τ=>match P.underlying t with
  |some .bool=>(match τ with| .bool=>true|_=>false)
  |some (.int k)=>(match τ with| .int k'=>decide (k=k')|_=>false)
  |some .string=>(match τ with| .str=>true|_=>false)
  |some (.slice e)=>(match τ with| .sl τ'=>El P n e τ'&&Nat.beq (P.cellsOf e) τ'.size&&Nat.blt 0 τ'.size|_=>false)
  |some (.struct fs)=>I0 P (El P n) fs.toList 0 τ&&Nat.beq (P.cellsOf t) τ.size
  |_=>false
theorem xJ {α β:Type}{f:α→Option β}:∀{l:List α}{r:List β},l.mapM f=some r→r.length=l.length∧∀i (h:i<l.length),f l[i]=r[i]?
 |[],r,h=>by
  simp at h;subst h;exact⟨rfl,fun i h=>absurd h (by simp)⟩
 |x::l,r,h=>by
  rw[List.mapM_cons]at h;obtain⟨y,h1,h2⟩:=as8.1 h;obtain⟨ys,h3,h4⟩:=as8.1 h2;have h4:some (y::ys)=some r:=h4
  injection h4 with h4
  subst h4;obtain⟨hl,hx⟩:=xJ h3;refine⟨by simp[hl],fun i hi=> ?_⟩
  cases i with
  |zero=>exact h1
  |succ i=>exact hx i (by simpa using hi)
theorem FA (a:Addr)(n:Nat):(a.add n).block=a.block:=by unfold Addr.add;split<;>rfl
theorem Lc (a:Addr)(n:Nat):(a.add n).off=a.off+n:=by
 unfold Addr.add;split
 ·rename_i h;rw[h];rfl
 ·rfl
theorem Ny {a:Addr}(h:a.spot=none)(n:Nat):(a.add n).spot=none:=by unfold Addr.add;split<;>simp[h]
theorem add_zero' (a:Addr):a.add 0=a:=by unfold Addr.add;rw[as0 rfl]
theorem Dy {W:World}{base:Nat}{a:Addr}{n:Nat}{cs:List Value}(h:W.cells? base a n=some cs)(hn:0<n):a.spot=none∧∃L,snap W a.block=some L∧(L.drop a.off).take n=cs:=by
 unfold World.cells? at h;split at h
 ·obtain⟨hl,hx⟩:=xJ h;rw[List.length_range]at hl;have h0:=hx 0 (by simpa using hn)
  have hc:∀i,i<n→W.cell? (a.add i)=cs[i]?:=fun i hi=>by
   have:=hx i (by simpa using hi);simpa using this
  have e0:=hc 0 hn;rw[ap8 (show 0<cs.length by omega)]at e0;rw[add_zero']at e0;unfold World.cell? at e0
  cases hh:W.heap[a.block]? with
  |none=>rw[hh]at e0;cases e0
  |some o=>
   cases o with
   |cells arr ty fr=>
    rw[hh]at e0
    have Jw:a.spot=none:=by
     cases hs:a.spot with
     |none=>rfl
     |some v=>simp[hs]at e0
    refine⟨Jw,arr.toList, ?_, ?_⟩
    ·unfold snap;rw[hh]
    ·refine List.ext_getElem? fun i=> ?_
     rw[List.getElem?_take]
     by_cases hi:i<n
     ·rw[as0 hi,List.getElem?_drop,←hc i hi];unfold World.cell?;rw[FA,hh];simp[Ny Jw,Lc]
     ·rw[ar1 hi,List.getElem?_eq_none (by omega)]
   |_=>rw[hh]at e0;cases e0
 ·cases h
theorem H8 {H:Type}{enc:TypeId×Value→H}{P:Program}{W:World}{sp:Nat→Bool}{held:Bool}{n:Nat}{g:TypeId→Ty→Bool}
  (hg:∀t τ cs (x:DataW H×List MemPlace),g t τ=true→DataW.trod enc P W 0 sp held n t cs=some x→Rc (snap W) τ (ofD τ x.1) cs∧Good τ (ofD τ x.1)):
  ∀(fs:List Field) (off:Nat) (τ:Ty) (cs:List Value) (xs:List (DataW H×List MemPlace)),I0 P g fs off τ=true→(fs.mapM fun f=>DataW.trod enc P W 0 sp held n f.type ((cs.drop f.offset).take (P.cellsOf f.type)))=some xs→off+τ.size≤cs.length→
   Rc (snap W) τ (ofD τ (.agg (xs.map (·.1)))) ((cs.drop off).take τ.size)∧Good τ (ofD τ (.agg (xs.map (·.1))))
 |[],off,τ,cs,xs,hf,hm,hl=>by
  cases τ with
  |un=>exact⟨by show List.take 0 _=[];rfl,trivial⟩
  |_=>cases hf
 |f::fs,off,τ,cs,xs,hf,hm,hl=>by
  cases τ with
  |pr a b=>
   unfold I0 at hf;simp only[ao3]at hf;obtain⟨⟨⟨h1,h2⟩,h3⟩,h4⟩:=hf;have h1:=Nat.eq_of_beq_eq_true h1;have h3:=Nat.eq_of_beq_eq_true h3;rw[List.mapM_cons]at hm;obtain⟨y,hy,hm⟩:=as8.1 hm;obtain⟨ys,af6,hm⟩:=as8.1 hm;have hm:some (y::ys)=some xs:=hm
   injection hm with hm
   subst hm;have mu:(Ty.pr a b).size=a.size+b.size:=rfl;rw[mu]at hl;rw[h1,h3]at hy;obtain⟨r1,g1⟩:=hg _ _ _ _ h2 hy;obtain⟨r2,g2⟩:=H8 hg fs (off+a.size) b cs ys h4 af6 (by omega);refine⟨⟨(cs.drop off).take a.size,(cs.drop (off+a.size)).take b.size, ?_,r1,r2⟩,g1,g2⟩;rw[mu,List.take_add,List.drop_drop]
  |_=>cases hf
theorem Gz {H:Type}{enc:TypeId×Value→H}{P:Program}{W:World}{sp:Nat→Bool}{held:Bool}:∀(k n:Nat)(t:TypeId)(τ:Ty)(cs:List Value)(x:DataW H×List MemPlace),El P k t τ=true→DataW.trod enc P W 0 sp held n t cs=some x→
  Rc (snap W) τ (ofD τ x.1) cs∧Good τ (ofD τ x.1)
 |0,_,_,_,_,_,h,_=>by cases h
 |k+1,n,t,τ,cs,x,h,hx=>by
  unfold El at h
  cases hu:P.underlying t with
  |none=>rw[hu]at h;cases h
  |some d=>
  rw[hu]at h
  cases d with
  |bool=>
   cases τ with
   |bool=>
    obtain⟨b,rfl,rfl⟩:=DataW.trod_bool hu hx;exact⟨rfl,trivial⟩
   |_=>cases h
  |int j=>
   cases τ with
   |int j'=>
    have h:decide (j=j')=true:=h;have h:=of_decide_eq_true h;subst h;obtain⟨z,rfl,rfl,hw⟩:=DataW.trod_int hu hx;refine⟨rfl, ?_⟩;simp only[Lit.wf,ao3,ao1]at hw;exact hw
   |_=>cases h
  |string=>
   cases τ with
   |str=>
    obtain⟨s,rfl,rfl,hs⟩:=DataW.trod_string hu hx;refine⟨⟨s,rfl,rfl⟩,vN s, ?_⟩;show(List.map _ s.data.toList).length≤maxLen;rw[List.length_map,Array.length_toList];exact hs
   |_=>cases h
  |slice e=>
   cases τ with
   |sl τ'=>
    have h:(El P k e τ'&&Nat.beq (P.cellsOf e) τ'.size&&Nat.blt 0 τ'.size)=true:=h;rw[ao3,ao3]at h;obtain⟨h,rU⟩:=h
    have rU:0<τ'.size:=by unfold Nat.blt at rU;exact aq4 rU
    have hz:=Nat.eq_of_beq_eq_true h.2
    rcases DataW.trod_slice hu hx with⟨rfl,rfl⟩|⟨a,len,cap,elems,rest,m,rfl,rfl,rfl,_,hle,Rs,hlen,Nb,_,_⟩
    ·refine⟨⟨none,0,rfl,aq2 _, .inl rfl⟩, ?_⟩;show(∀x∈([]:List τ'.den),Good τ' x)∧0≤maxLen;exact⟨(fun x hx=>by cases hx),as5 _⟩
    ·have hL:((elems.map (·.1)).map (ofD τ')).length=len:=(by simp[hlen])
     have one:∀i (hi:i<len),∃A9,W.cells? 0 (a.add (i*τ'.size)) τ'.size=some A9∧Rc (snap W) τ' (ofD τ' (elems[i]'(by omega)).1) A9∧Good τ' (ofD τ' (elems[i]'(by omega)).1):=fun i hi=>by
      have qE:=Nb i hi;rw[ap8 (show i<elems.length by omega),hz]at qE;obtain⟨A9,h1,h2⟩:=as8.1 qE;obtain⟨h3,h4⟩:=Gz k _ _ _ _ _ h.1 h2;exact⟨A9,h1,h3,h4⟩
     refine⟨?_, ?_⟩
     ·show Rc (snap W) (.sl τ') ((elems.map (·.1)).map (ofD τ')) _
      by_cases h0:len=0
      ·subst h0;refine⟨some a,cap,by rw[hL],by rw[hL];exact hle, .inl ?_⟩;exact as1 hL
      ·obtain⟨YI,c1,c2,c3⟩:=one 0 (by omega);obtain⟨Jw,L,hb,_⟩:=Dy c1 (by omega);rw[Nat.zero_mul,add_zero']at Jw hb;obtain⟨b,o,an0⟩:=a;have Jw:an0=none:=Jw;subst Jw;refine⟨some ⟨b,o,none⟩,cap,by rw[hL],by rw[hL];exact hle, .inr ⟨b,o,L,rfl,hb,fun i hi=> ?_⟩⟩;rw[hL]at hi;obtain⟨A9,d1,d2,d3⟩:=one i hi;obtain⟨_,L',EC,e'⟩:=Dy d1 (by omega);rw[FA]at EC;have EC:snap W b=some L':=EC;rw[hb]at EC
       injection EC with EC
       subst EC;rw[Lc]at e';have e':(L.drop (o+i*τ'.size)).take τ'.size=A9:=e';rw[e'];simpa using d2
     ·refine⟨fun y hy=> ?_, ?_⟩
      ·have hy:y∈(elems.map (·.1)).map (ofD τ'):=hy;obtain⟨i,hi,rfl⟩:=List.getElem_of_mem hy;rw[hL]at hi;obtain⟨_,_,_,d3⟩:=one i hi;simpa using d3
      ·show((elems.map (·.1)).map (ofD τ')).length≤maxLen;omega
   |_=>cases h
  |struct fs=>
   have h:(I0 P (El P k) fs.toList 0 τ&&Nat.beq (P.cellsOf t) τ.size)=true:=h;rw[ao3]at h;have hz:=Nat.eq_of_beq_eq_true h.2
   cases n with
   |zero=>simp[DataW.trod]at hx
   |succ n=>
    unfold DataW.trod at hx;rw[hu]at hx;simp only at hx;split at hx
    ·rename_i hl;obtain⟨xs,h1,rfl⟩:=aq8.1 hx;have:=H8 (fun t τ cs x h1 h2=>Gz k n t τ cs x h1 h2) fs.toList 0 τ cs xs h.1 h1 (by omega);rw[List.drop_zero,List.take_of_length_le (by omega)]at this;exact this
    ·cases hx
  |_=>cases h
end Go.Abs
end

section
namespace Go.Abs
theorem lt_of_heap {w:World}{b:Nat}{o:Go.Obj}(h:w.heap[b]?=some o):b<w.heap.size:=by
 rcases Nat.lt_or_ge b w.heap.size with h'|h'
 ·exact h'
 ·rw[Array.getElem?_eq_none h']at h;cases h
theorem OwnAt.other {aK:Rd}{w w':World}{xs:List Int}{us:List Value}{nb:List Nat}(h:OwnAt aK w false (.int .u8) xs us nb)(k:∀b∈nb,w'.heap[b]?=w.heap[b]?):OwnAt aK w' false (.int .u8) xs us nb:=by
 rcases h with h|⟨b,cap,arr,ty,mc,h1,h2,h3,h4,h5,h6,h7⟩
 ·exact .inl h
 ·exact .inr ⟨b,cap,arr,ty,mc,h1,h2,by rw[k b (by rw[h2];simp)];exact h3,h4,h5,h6,h7⟩
theorem OwnAt.alloc {aK:Rd}{w:World}{xs:List Int}{us:List Value}{nb:List Nat}(h:OwnAt aK w false (.int .u8) xs us nb)(k:∀b∈nb,b<w.heap.size)(o:Go.Obj):OwnAt aK (w.alloc o) false (.int .u8) xs us nb:=
 h.other fun b hb=>by
  have:=k b hb;show(w.heap.push _)[b]?=_;rw[Array.getElem?_push,ar1 (by omega)]
end Go.Abs
end

section
namespace Go.Abs
theorem tz {P:Program}{f:FuncId}{fn:Func}{c:Code}{args:Array Value}{w:World}{R:Value→World→Prop}(hf:P.funcs[f]?=some fn)(hb:fn.body=some c)(Jj:(fn.name== "runtime.NumGoroutine")=false)
  (h:Calls P f args w fun e w'=>∃v,e= .returned v∧R v w'):iE P f args w R:=by
 have Jp:(callFunc f args).run P w= .ok (.enter f args) w:=by
  have h1:fn.name≠ "runtime.NumGoroutine" :=(by simpa using Jj)
  simp[callFunc,hf,h1,hb]
 unfold iE;rw[Jp];exact h
structure Same (w w':World):Prop where
 other:∀b,b<w.heap.size→w'.heap[b]?=w.heap[b]?
 size:w.heap.size≤w'.heap.size
 os:w'.os=w.os
 tape:w'.tape=w.tape
 output:w'.output=w.output
theorem Same.refl (w:World):Same w w:=⟨fun _ _=>rfl,aq2 _,rfl,rfl,rfl⟩
theorem Same.after {aK:Rd}{w w':World}(h:Same w w')(hc:∀b L,aK b=some L→∃arr ty fr,w.heap[b]?=some (.cells arr ty fr)∧arr.toList=L):After aK w [] aK w' []:=
 ⟨fun _ _ h=>h,fun b L k=>by
  obtain⟨a,t,f,k1,k2⟩:=hc b L k
  exact⟨a,t,f,by rw[h.other b (lt_of_heap k1)];exact k1,k2⟩,fun b h1 _ h3=>⟨h.other b h1,h3⟩,as2,(fun b hb=>by simp at hb),h.size,h.os,h.tape,h.output,fun b L k=>by
  obtain⟨a,t,f,k1,k2⟩:=hc b L k
  exact h.other b (lt_of_heap k1)⟩
def Is:(τ:Ty)→τ.den→Value→Prop
 | .int k,x,u=>u= .int k x
 | .bool,b,u=>u= .bool b
 | .str,l,u=>∃s,u= .string s∧l=bytesOf s
 |_,_,_=>False
def pX:List Ty→List VSp
 |[]=>[]
 |τ::r=> .one (.dC τ)::pX r
def yC:(ts:List Ty)→(b9 (pX ts)).den→List Value→Prop
 |[],_,us=>us=[]
 |τ::r,x,us=>∃u v,us=u::v∧Is τ x.1 u∧yC r x.2 v
def simple:Ty→Bool
 | .int _=>true
 | .bool=>true
 | .str=>true
 |_=>false
theorem NH {r:Rd}{τ:Ty}{x:τ.den}{u:Value}(hs:simple τ=true)(h:Rc r τ x [u]):Is τ x u:=by
 cases τ with
 |int k=>have h:_=_:=h;injection h
 |bool=>have h:_=_:=h;injection h
 |str=>obtain⟨s,e,h⟩:=h;injection e with e;exact⟨s,e,h⟩
 |_=>cases hs
theorem Io {r:Rd}{τ:Ty}{x:τ.den}{u:Value}(hs:simple τ=true)(h:Is τ x u):Rc r τ x [u]∧oc u=true∧τ.one=true:=by
 cases τ with
 |int k=>have h:_=_:=h;subst h;exact⟨rfl,rfl,rfl⟩
 |bool=>have h:_=_:=h;subst h;exact⟨rfl,rfl,rfl⟩
 |str=>obtain⟨s,e,h⟩:=h;subst e;exact⟨⟨s,rfl,h⟩,rfl,rfl⟩
 |_=>cases hs
theorem AJ {aK:Rd}{w:World}:∀{ts:List Ty}{x:(b9 (pX ts)).den}{us:List Value}{nb:List Nat},(ts.all simple)=true→gg aK w (pX ts) x us nb→yC ts x us∧nb=[]
 |[],_,_,_,_,h=>h
 |τ::r,x,us,nb,hs,⟨u,v,n1,n2,e,e',⟨_,h1,_,u',e2,h2⟩,h3⟩=>by
  simp only[List.all_cons,ao3]at hs
  injection e2 with e2
  subst e2;obtain⟨k1,k2⟩:=AJ hs.2 h3;exact⟨⟨u,v,e,NH hs.1 h2,k1⟩,by rw[e',h1,k2];rfl⟩
theorem AH {aK:Rd}{w w':World}:∀{ts:List Ty}{x:(oN (pX ts)).den}{y:(b9 (pX ts)).den}{us:List Value},yC ts y us→kn aK w w' (pX ts) x us []
 |[],_,_,_,h=>⟨h,rfl⟩
 |_::_,_,_,_,⟨u,v,e,_,h⟩=>⟨u,v,[],[],e,rfl,rfl,AH h⟩
theorem xe {P:Program}{fb:Nat→Option (List Cell)}{f:FuncId}{ts:List Ty}{τ:Ty}(YZ:ts.all simple=true)(hτ:simple τ=true){F:(b9 (pX ts)).den→Option (Ty.pr τ (oN (pX ts))).den}
  (h:∀x y,F x=some y→∀w us,yC ts x us→iE P f us.toArray w fun v w'=>Same w w'∧Is τ y.1 v):rM P fb f ⟨⟨pX ts, .val (.one (.dC τ))⟩,F⟩:=by
 intro x y hF aK w args nb hG nu hP mG sG;obtain⟨hA,rfl⟩:=AJ YZ hP;refine iE.mono (fun v w' hk=> ?_) (h x y hF w args hA);obtain⟨hs,hv⟩:=hk;obtain⟨k1,k2,k3⟩:=Io (r:=aK) hτ hv;exact⟨aK,[],[],hs.after nu,⟨k2,rfl,k3,v,rfl,k1⟩,AH hA⟩
theorem yC.map {aK:Rd}{w:World}:∀{ts:List Ty}{x:(b9 (pX ts)).den}{us:List Value},(ts.all simple)=true→yC ts x us→qz aK w (pX ts) x us []
 |[],_,_,_,h=>⟨h,rfl⟩
 |τ::r,x,us,hs,⟨u,v,e,h1,h2⟩=>by
  simp only[List.all_cons,ao3]at hs;obtain⟨k1,k2,k3⟩:=Io (r:=aK) hs.1 h1;exact⟨u,v,[],[],e,rfl,⟨k2,rfl,k3,u,rfl,k1⟩,yC.map hs.2 h2⟩
end Go.Abs
end

section
namespace Go.Abs
theorem D6 {P:Program}{W:World}{n:String}{g:Nat}{cs:Array Value}(hg:P.globalNamed n=some g)(h:W.var? P n=some cs):snap W g=some cs.toList:=by
 unfold World.var? at h;rw[hg,an7]at h;unfold snap;split at h
 ·rename_i arr a b e;rw[e]
  injection h with h
  rw[h]
 ·cases h
theorem D1 {H:Type}{enc:TypeId×Value→H}{P:Program}{W:World}{n:String}{g g' t:Nat}{cs:Array Value}{fuel:Nat}{d:DataW H}{p:List MemPlace}{τ:Ty}{x:τ.den}{sp:Nat→Bool}{held:Bool}{k:Nat}
  (hg:P.globalNamed n=some g) (ht:(P.globals[g]?).map (·.type)=some t) (hv:W.var? P n=some cs) (hd:DataW.trod enc P W 0 sp held fuel t cs.toList=some (d,p))
  (eg:P.globalNamed n=some g') (ef:((P.globals[g']?).map (·.type)).all (fun t=>El P k t τ)=true) (ho:τ.one=true) (hs:∀us,Rc (snap W) τ x us→us.length=1) (ex:ofD τ d=x):
  ∃us,snap W g'=some us∧∀gh:Gh,(∀b L,snap W b=some L→gh.aK b=some L)→aG gh [.v τ x] us:=by
 obtain rfl:=Option.some.inj (hg.symm.trans eg);rw[ht]at ef;have h:=(Gz k fuel t τ cs.toList (d,p) ef hd).1;rw[ex]at h;have hl:=hs _ h;refine⟨cs.toList,D6 hg hv,fun gh hi=> ?_⟩
 match hc:cs.toList,hl with
 |[u],_=>
  rw[hc]at h;exact⟨u,[],rfl,⟨ho,h.mono hi⟩,rfl⟩
theorem Ko {r:Rd}{e:Ty}{xs:List e.den}:∀us,Rc r (.sl e) xs us→us.length=1:=by
 rintro us ⟨A,c,rfl,_⟩;rfl
theorem ND {H:Type}{enc:TypeId×Value→H}{P:Program}{W:World}{n:String}{g g' t:Nat}{cs:Array Value}{fuel:Nat}{d:DataW H}{p:List MemPlace}{sp:Nat→Bool}{nm:String}
  (hg:P.globalNamed n=some g) (ht:(P.globals[g]?).map (·.type)=some t) (hv:W.var? P n=some cs) (hd:DataW.trod enc P W 0 sp false fuel t cs.toList=some (.iface nm d,p))
  (eg:P.globalNamed n=some g') (ef:((P.globals[g']?).map (·.type)).all (fun t=>match P.underlying t with|some (.interface _)=>true|_=>false)=true):
  ∃us,snap W g'=some us∧∀gh:Gh,(∀b L,snap W b=some L→gh.aK b=some L)→aG gh [.err false] us:=by
 obtain rfl:=Option.some.inj (hg.symm.trans eg);rw[ht]at ef;refine⟨cs.toList,D6 hg hv,fun gh hi=> ?_⟩;have ef:(match P.underlying t with|some (.interface _)=>true|_=>false)=true:=ef
 cases hu:P.underlying t with
 |none=>rw[hu]at ef;cases ef
 |some k=>
  cases k with
  |interface ms=>
   cases fuel with
   |zero=>simp[DataW.trod]at hd
   |succ m=>
    unfold DataW.trod at hd;rw[hu]at hd;simp only at hd;split at hd<;>simp_all;rename_i u v hc _;exact⟨_,_,rfl, .inr ⟨rfl,_,_,rfl⟩,rfl⟩
  |_=>rw[hu]at ef;cases ef
theorem Dv {gh:Gh}{k:IntKind}:∀zs:List Int,aG gh (zs.map fun z=> .v (.int k) z) (zs.map fun z=> .int k z)
 |[]=>rfl
 |z::zs=>⟨_,_,rfl,⟨rfl,rfl⟩,Dv zs⟩
theorem MR {H:Type}{enc:TypeId×Value→H}{P:Program}{W:World}{n:String}{g g' t m e:Nat}{cs:Array Value}{fuel:Nat}{ds:List (DataW H)}{p:List MemPlace}{sp:Nat→Bool}{held:Bool}{k:IntKind}
  (hg:P.globalNamed n=some g) (ht:(P.globals[g]?).map (·.type)=some t) (hv:W.var? P n=some cs) (hd:DataW.trod enc P W 0 sp held fuel t cs.toList=some (.agg ds,p))
  (eg:P.globalNamed n=some g') (zs:List Int) (ez:ds.map (ofD (.int k))=zs)
  (et:((P.globals[g']?).bind fun gl=>P.underlying gl.type)=some (.array m e)) (ee:P.underlying e=some (.int k)) (e1:P.cellsOf e=1) (en:((P.globals[g']?).map fun gl=>P.cellsOf gl.type)=some m):
  ∃us,snap W g'=some us∧∀gh:Gh,(∀b L,snap W b=some L→gh.aK b=some L)→aG gh (zs.map fun z=> .v (.int k) z) us:=by
 obtain rfl:=Option.some.inj (hg.symm.trans eg);refine⟨cs.toList,D6 hg hv,fun gh hi=> ?_⟩;obtain⟨gl,aj4,rfl⟩:=aq8.1 ht;rw[aj4]at et en;have et:P.underlying gl.type=some (.array m e):=et;have en:some (P.cellsOf gl.type)=some m:=en
 injection en with en
 obtain⟨xs,q,_,ex,hl,hx,Nb⟩:=DataW.trod_array et hd;rw[en]at hl;simp only[as9,DataW.agg.injEq]at ex
 have:cs.toList=zs.map fun z=> .int k z:=by
  refine List.ext_getElem? fun i=> ?_
  by_cases hi:i<m
  ·have h:=Nb i hi;rw[e1,Nat.mul_one,ap8 (show i<xs.length by omega)]at h;obtain⟨z,h1,h2,_⟩:=DataW.trod_int ee h
   have h3:cs.toList[i]?=some (.int k z):=by
    have:((cs.toList.drop i).take 1)[0]?=some (.int k z):=by rw[h1];rfl
    simpa using this
   rw[h3,←ez,ex.1,List.map_map,List.map_map,List.getElem?_map,ap8 (show i<xs.length by omega)];simp only[Option.map_some,Function.comp,h2];rfl
  ·rw[List.getElem?_eq_none (by omega),List.getElem?_eq_none (by rw[←ez,ex.1];simp;omega)]
 rw[this];exact Dv zs
end Go.Abs
end
