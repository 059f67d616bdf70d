/- What is here: append. -/
import Derived.Test.YtkmplfkiafonkaaGreatDoorA1
import Derived.Deep.Upon
import Derived.MapKept
import Derived.Scope
set_option linter.unusedVariables false
set_option linter.unusedSimpArgs false
set_option maxRecDepth 100000
open Go.IntKind (i64 u64 u8)
section
namespace Go.Abs
theorem HRel.Qf {B:Base}{g:Gh}{hp:List (Nat×Obj)}{w:World}(R:HRel B g hp w){id gen:Nat}{τ:Ty}{deep:Bool}{xs:List τ.den}
  (h:look hp id=some (.own gen τ deep xs)):∃g' nb,Lk g g'/\HRel B g' ((id, .dead gen)::hp) w/\(∀b∈nb,g.dj b≠some 0)/\
   ((g'.cv id gen= .slice none 0 0/\xs=[]/\nb=[])\/∃b cap arr ty,g'.cv id gen= .slice (some ⟨b,0,none⟩) xs.length cap/\Free g' ((id, .dead gen)::hp) w b/\b∉nb/\b<w.heap.size/\w.heap[b]?=some (.cells arr ty (0,0))/\
    xs.length<=cap/\arr.size=cap*τ.size/\fQ g' (deep&& !τ.flat) τ xs arr.toList nb):=by
 have Ux:∀i,i=id->∀o,look ((id,Obj.dead gen)::hp) i=some o->∃gn,o= .dead gn:=by
  rintro i rfl o ho;rw[aE]at ho
  injection ho with ho
  exact⟨gen,ho.symm⟩
 rcases R.eD _ _ h with⟨h1,h2⟩|⟨b,cap,arr,ty,h1,h2,h3,h4,h5,h6,h7⟩
 ·exact⟨g,[],Lk.refl g,R.put h rfl trivial,λb hb=>by simp at hb, .inl ⟨h1,h2,rfl⟩⟩
 ·have K7:b<w.heap.size:=R.dQ b (by rw[h2];simp)
  have Ur:g.aD b=none:=by
   cases hi:g.aD b with
   |none=>rfl
   |some L=>have:=(R.aD b L hi).1;rw[h2]at this;cases this
  unfold dJ at h7;split at h7
  ·rename_i hd;obtain⟨nb,k1,k2,k3⟩:=h7
   have BQ:b∉nb:=λhm=>k1.nv b hm h3
   let g':Gh:={g with dj:=open Classical in λx=>if x∈nb then some 0 else g.dj x}
   have hle:Le g g':=⟨λ_ _ h=>h,λ_=>aE5 _,λ_ _ _=>rfl⟩
   have hR:HRel B g' ((id, .dead gen)::hp) w:=by
    refine⟨λi=> ?_,λi oi hi=> ?_,λx L hx=> ?_,λx L hx=> ?_,λx hx=> ?_,R.jo,λx hx hl hi=> ?_,R.size,R.os,R.tape,R.output,R.fix⟩
    ·show g.top i=_;rw[R.top i]
     by_cases e:id=i
     ·subst e;rw[aE,h];rfl
     ·rw[ay _ _ e]
    ·by_cases e:id=i
     ·subst e;rw[aE]at hi;injection hi with hi;subst hi;trivial
     ·rw[ay _ _ e]at hi;refine(R.eD i oi hi).tr hle (λx hx=> ?_) rfl (by rw[R.top i,hi];exact Nat.lt_succ_self _)
      have kx:x∉nb:=λhm=>by rw[k3 x hm]at hx;simp at hx;exact e hx
      simp[g',kx,hx]
    ·obtain⟨a1,a2,a3⟩:=R.aD x L hx
     have kx:x∉nb:=λhm=>by rw[k3 x hm]at a1;cases a1
     exact⟨by simp[g',kx,a1],a2,a3⟩
    ·obtain⟨a1,a2⟩:=R.ep x L hx;refine⟨?_,a2⟩
     by_cases kx:x∈nb
     ·simp[g',kx]
     ·simpa[g',kx]using a1
    ·by_cases kx:x∈nb
     ·exact R.dQ x (by rw[k3 x kx];simp)
     ·exact R.dQ x (by simpa[g',kx]using hx)
    ·obtain⟨f1,f2,f3⟩:=R.frame x hx hl hi
     have kx:x∉nb:=λhm=>by rw[k3 x hm]at f1;cases f1
     exact⟨by simp[g',kx,f1],f2,f3⟩
   refine⟨g',nb,⟨hle,λx hx=> ?_,rfl⟩,hR,λx hx=>by rw[k3 x hx];simp, .inr ⟨b,cap,arr,ty,h1,⟨λi hi o ho=> ?_, ?_,Ur,h3,λhn=> ?_⟩,BQ,K7,h4,h5,h6, ?_⟩⟩
   ·have kx:x∉nb:=λhm=>by rw[k3 x hm]at hx;simp at hx
    simp[g',kx,hx]
   ·have qX:g.dj b=some (i+1):=by simpa[g',BQ]using hi
    rw[h2]at qX;simp at qX;exact Ux i qX.symm o ho
   ·simp[g',BQ,h2]
   ·simp[g',BQ,h2]at hn
   ·unfold fQ;rw[aG3 hd];exact⟨k1,k2,λx hx=>by simp[g',hx]⟩
  ·rename_i hd;refine⟨g,[],Lk.refl g,R.put h rfl trivial,λx hx=>by simp at hx, .inr ⟨b,cap,arr,ty,h1,⟨λi hi o ho=> ?_,by rw[h2];simp,Ur,h3,λhn=>by rw[h2]at hn;cases hn⟩,by simp,K7,h4,h5,h6, ?_⟩⟩
   ·rw[h2]at hi;simp at hi;exact Ux i hi.symm o ho
   ·unfold fQ;rw[aF4 hd];exact⟨h7,rfl⟩
theorem HRel.settle {B:Base}{g:Gh}{hp:List (Nat×Obj)}{w:World}(R:HRel B g hp w){nb:List Nat}(h0:∀x∈nb,g.dj x=some 0):Le g (g.nB (nbS g nb))/\HRel B (g.nB (nbS g nb)) hp w:=by
 have hS:∀x L,nbS g nb x=some L->g.dj x=some 0/\∃arr ty fr,w.heap[x]?=some (.cells arr ty fr)/\arr.toList=L:=by
  intro x L hx;unfold nbS at hx;split at hx
  ·rename_i hm;obtain⟨_,arr,ty,a,b⟩:=R.ep x L hx;exact⟨h0 x hm,arr,ty,(0,0),a,b⟩
  ·cases hx
 have hle:Le g (g.nB (nbS g nb)):=by
  refine⟨λb L h=> ?_,λ_=>aE5 _,λ_ _ _=>rfl⟩;show(match nbS g nb b with|some L=>some L|none=>g.aD b)=some L
  cases hs:nbS g nb b with
  |none=>exact h
  |some L'=>exact absurd (hS b L' hs).1 (by rw[(R.aD b L h).1];simp)
 refine⟨hle,λi=>R.top i,λi oi hi=> ?_,λb L h=> ?_,λb L h=> ?_,λb h=> ?_,λb L h=>hle.aD _ _ (R.jo b L h),λb hb hl hi=> ?_,R.size,R.os,R.tape,R.output,R.fix⟩
 ·refine(R.eD i oi hi).tr hle (λb hb=> ?_) rfl (by rw[R.top i,hi];exact Nat.lt_succ_self _)
  have hn:nbS g nb b=none:=by
   cases hs:nbS g nb b with
   |none=>rfl
   |some L=>exact absurd ((hS b L hs).1.symm.trans hb) (by simp)
  simp[Gh.nB,hn,hb]
 ·simp only[Gh.nB]at h⊢
  cases hs:nbS g nb b with
  |some L'=>
   rw[hs]at h
   injection h with h;subst h
   obtain⟨arr,ty,fr,h1,h2⟩:=(hS b L' hs).2;exact⟨rfl,rfl,arr,ty,fr,h1,h2⟩
  |none=>rw[hs]at h;exact R.aD b L h
 ·simp only[Gh.nB]at h⊢
  cases hs:nbS g nb b with
  |some L'=>rw[hs]at h;cases h
  |none=>rw[hs]at h;exact R.ep b L h
 ·simp only[Gh.nB]at h
  cases hs:nbS g nb b with
  |some L'=>rw[hs]at h;exact absurd rfl h
  |none=>rw[hs]at h;exact R.dQ b h
 ·obtain⟨f1,f2,f3⟩:=R.frame b hb hl hi
  have hn:nbS g nb b=none:=by
   cases hs:nbS g nb b with
   |none=>rfl
   |some L=>exact absurd (hS b L hs).1 (by rw[f1];simp)
  simp[Gh.nB,hn,f1,f2,f3]
theorem fQ.loose {B:Base}{g:Gh}{hp:List (Nat×Obj)}{w:World}(R:HRel B g hp w){mv:Bool}{τ:Ty}{xs:List τ.den}{L:List Value}{nb:List Nat}(h:fQ g mv τ xs L nb):
  ∃g',Le g g'/\HRel B g' hp w/\fQ g' false τ xs L []/\(∀b,b∉nb->Free g hp w b->Free g' hp w b):=by
 cases mv with
 |false=>
  unfold fQ at h;simp only[aG2,aH6]at h;refine⟨g,Le.refl g,R, ?_,λ_ _ h=>h⟩;unfold fQ;simp only[aG2,aH6];exact⟨h.1,trivial⟩
 |true=>
  unfold fQ at h;simp only[if_true]at h;obtain⟨hle,R'⟩:=R.settle h.2.2;refine⟨_,hle,R', ?_,λb hb hf=> ?_⟩
  ·unfold fQ;simp only[aG2,aH6];exact⟨fk.els (nb:=nb) (h.1.mono λx hx L hL=>by simp[Gh.nB,nbS,hx,hL]),trivial⟩
  ·have hn:nbS g nb b=none:=(by simp[nbS,hb]);exact⟨λi hi=>hf.obj i (by simpa[Gh.nB,hn]using hi),by simpa[Gh.nB,hn]using hf.Q9,by simpa[Gh.nB,hn]using hf.aD,by simpa[Gh.nB,hn]using hf.ep,λh=>hf.new (by simpa[Gh.nB,hn]using h)⟩
theorem fQ.Eg {g g':Gh}(l:Le g g'){τ:Ty}{xs:List τ.den}{L:List Value}{nb:List Nat}(h:fQ g false τ xs L nb):fQ g' false τ xs L nb:=by
 unfold fQ at h⊢;simp only[aG2,aH6]at h⊢;exact⟨h.1.mono l.aD,h.2⟩
theorem Sa {r:Rd}{τ:Ty}{x:τ.den}{us:List Value}(h:Rc r τ x us):∀u∈us,u.oneCell'=true:=
 (mr (g:={aD:=r,top:=λ_=>0,cv:=λ_ _=> .tuple #[],dj:=λ_=>none,ep:=λ_=>none,outer:=λ_=>[]}) h).VE
theorem At {r:Rd}{τ:Ty}:∀{xs:List τ.den}{L:List Value},Els r τ xs L 0->L.length=xs.length*τ.size->∀u∈L,u.oneCell'=true
 |[],L,_,hl,u,hu=>by
  have:L=[]:=aG4 (by simpa using hl);subst this;simp at hu
 |x::xs,L,h,hl,u,hu=>by
  obtain⟨h1,h2⟩:=Els.head.1 h;rw[<-List.take_append_drop τ.size L]at hu
  rcases aE9.1 hu with hu|hu
  ·exact Sa h1 u hu
  ·exact At h2 (by simp only[aG6,hl,aC3,Nat.add_mul];omega) u hu
theorem fQ.els {g:Gh}{mv:Bool}{τ:Ty}{xs:List τ.den}{L:List Value}{nb:List Nat}(h:fQ g mv τ xs L nb):∃r,Els r τ xs L 0:=by
 unfold fQ at h;split at h
 ·exact⟨_,h.1.els⟩
 ·exact⟨_,h.1⟩
theorem fQ.pre {g:Gh}{mv:Bool}{τ:Ty}{xs:List τ.den}{L M:List Value}{nb:List Nat}(hp:L.take (xs.length*τ.size)=M.take (xs.length*τ.size))(h:fQ g mv τ xs L nb):fQ g mv τ xs M nb:=by
 unfold fQ at h⊢;split
 ·rename_i e;rw[aG3 e]at h;exact⟨h.1.pre (λk hk=>by subst hk;exact hp),h.2⟩
 ·rename_i e;rw[aF4 e]at h;exact⟨h.1.pre (λk hk=>by subst hk;exact hp),h.2⟩
theorem fQ.append {g:Gh}{mv:Bool}{τ:Ty}{xs ys:List τ.den}{L M:List Value}{n m:List Nat}(h:fQ g mv τ xs L n)(k:fQ g mv τ ys M m)(hl:L.length=xs.length*τ.size)(hd:∀x∈n,x∉m):
  fQ g mv τ (xs++ys) (L++M) (n++m):=by
 unfold fQ at h k⊢;split
 ·rename_i e;rw[aG3 e]at h k;refine⟨h.1.append k.1 hl, ?_,λb hb=> ?_⟩
  ·rw[aH0];exact⟨h.2.1,k.2.1,λx hx y hy e=>hd x hx (e ▸ hy)⟩
  ·rcases aE9.1 hb with hb|hb
   ·exact h.2.2 b hb
   ·exact k.2.2 b hb
 ·rename_i e;rw[aF4 e]at h k;exact⟨h.1.append k.1 hl,by rw[h.2,k.2];rfl⟩
end Go.Abs
end

section
namespace Go.Abs
theorem SK {r:Rd}{e:Ty}{xs:List e.den}{L:List Value}{o:Nat}(h:Els r e xs L o):Els r e xs (L.drop o) 0:=by
 intro i hi;have:=h i hi;rw[Nat.zero_add,List.drop_drop];exact this
theorem HU {r:Rd}{e:Ty}{xs:List e.den}{L:List Value}{o:Nat}(h:Els r e xs L o):Els r e xs ((L.drop o).take (xs.length*e.size)) 0/\((L.drop o).take (xs.length*e.size)).length=xs.length*e.size:=by
 have h':=SK h;refine⟨h'.pre (λk hk=>by subst hk;rw[List.take_take,Nat.min_self]), ?_⟩;have:=h'.len;rw[aF5];omega
theorem fQ.cut {g:Gh}{mv:Bool}{τ:Ty}{xs:List τ.den}{L:List Value}{nb:List Nat}(h:fQ g mv τ xs L nb):fQ g mv τ xs (L.take (xs.length*τ.size)) nb/\(L.take (xs.length*τ.size)).length=xs.length*τ.size:=by
 obtain⟨r,he⟩:=h.els;refine⟨h.pre (by rw[List.take_take,Nat.min_self]), ?_⟩;have:=he.len;rw[aF5];omega
theorem fQ.nil {g:Gh}{mv:Bool}{τ:Ty}{L:List Value}:fQ g mv τ [] L []:=by
 unfold fQ;split
 ·exact⟨rfl,aG5,λb hb=>by simp at hb⟩
 ·exact⟨Els.nil,rfl⟩
theorem Vl {P:Program}{B:Base}{g:Gh}{hp:List (Nat×Obj)}{w:World}(R:HRel B g hp w){e:Ty}{xs:List e.den}{u:Value}{tx e':TypeId}(hk:P.underlying tx=some (.slice e'))(h:Rc g.aD (.sl e) xs [u]):
  ∃news,Src P e.size tx u xs.length news w/\fQ g false e xs news []:=by
 obtain⟨A,c,eu,hc,he⟩:=h
 injection eu with eu
 subst eu
 by_cases hx:xs=[]
 ·subst hx;refine⟨[], ?_,fQ.nil⟩
  cases A with
  |none=>exact Src.ofNil w hk c
  |some a=>exact Src.ofSlice w hk a 0 c [] (by simp) (λj u hj=>by simp at hj) (λu hu=>by simp at hu)
 ·rcases he with he|⟨b,o,L,rfl,hL,hi⟩
  ·exact absurd he hx
  ·obtain⟨_,_,arr,ty,fr,k1,k2⟩:=R.aD _ _ hL;subst k2;have hE:Els g.aD e xs arr.toList o:=hi;obtain⟨AO,My⟩:=HU hE;refine⟨_,Src.ofSlice w hk _ _ c _ My (λj u hj=> ?_) (At AO My), ?_⟩
   ·rw[Addr.add_lit];exact ia k1 _ j u hj
   ·unfold fQ;simp only[aG2,aH6];exact⟨AO,trivial⟩
theorem xI {E:Env}{t:TypeId}{c:Cell}(h:E.fit t c=true)(hs:c.isStr=false):∃e,E.P.underlying t=some (.slice e):=by
 unfold Env.fit at h;split at h
 ·rw[hs]at h;cases h
 ·exact⟨_,by assumption⟩
 ·cases h
theorem HG {E:Env}{e:Ty}{c:Cell}{tx:TypeId}{s s':St}{dq:Bool}{ys:List e.den}(h:(source e c).run s=some ((dq,ys),s'))(hf:E.fit tx c=true):
  s'.env=s.env/\∀B g w,HRel B g s.hp w->∃g1,Lk g g1/\HRel B g1 s'.hp w/\∀u,bu g c u->
   ∃news nb,Src E.P e.size tx u ys.length news w/\fQ g1 (dq&& !e.flat) e ys news nb/\∀b∈nb,g.dj b≠some 0:=by
 have shared:∀{B:Base} {g:Gh} {hp:List (Nat×Obj)} {w:World} {u:Value} {dq:Bool},HRel B g hp w->c.isStr=false->(dq&& !e.flat)=false->Rc g.aD (.sl e) ys [u]->
   ∃news nb,Src E.P e.size tx u ys.length news w/\fQ g (dq&& !e.flat) e ys news nb/\∀b∈nb,g.dj b≠some 0:=by
  intro B g hp w u dq R hs hd hr;obtain⟨e',hk⟩:=xI hf hs;obtain⟨news,k1,k2⟩:=Vl R hk hr;exact⟨news,[],k1,by rw[hd];exact k2,λb hb=>by simp at hb⟩
 unfold source at h;split at h
 ·obtain⟨h1,rfl⟩:=ah h
  injection h1 with h1 h2
  subst h1;subst h2;refine⟨rfl,λB g w R=>⟨g,Lk.refl g,R,λu hu=> ?_⟩⟩;have hu:_=_:=hu;subst hu;obtain⟨e',hk⟩:=xI hf rfl;exact⟨[],[],Src.ofNil w hk 0,fQ.nil,λb hb=>by simp at hb⟩
 ·rename_i τ xs;obtain⟨zs,t,h1,h2⟩:=AM.af h;obtain⟨h3,rfl⟩:=ah h2
  injection h3 with h3 h4
  subst h3;subst h4;obtain⟨ee,hx,rfl⟩:=j6 h1;subst ee;subst hx;refine⟨rfl,λB g w R=>⟨g,Lk.refl g,R,λu hu=> ?_⟩⟩;exact shared R rfl (by simp) hu.2
 ·rename_i l;split at h
  ·obtain⟨h1,rfl⟩:=ah h
   injection h1 with h1 h2
   subst h1;subst h2;refine⟨rfl,λB g w R=>⟨g,Lk.refl g,R,λu hu=> ?_⟩⟩;obtain⟨st,rfl,mB⟩:=ox hu
   have hk:E.P.underlying tx=some .string:=by
    unfold Env.fit at hf;split at hf
    ·assumption
    ·simp[Cell.isStr]at hf
    ·cases hf
   have hl:List.length ys=st.size:=by rw[mB];exact eN st
   have hb:byteCells st=ys.map (Value.int .u8):=by
    rw[mB];unfold byteCells bytesOf;rw[List.map_map];rfl
   refine⟨byteCells st,[],by rw[hl];exact Src.ofString w hk st, ?_,λb hb=>by simp at hb⟩;unfold fQ;simp only[Ty.flat,aE6,aD0,aG2,aH6];refine⟨λi hi=> ?_,trivial⟩;show List.take 1 (List.drop (0+i*1) (byteCells st))=[Value.int .u8 ys[i]];rw[hb,Nat.zero_add,Nat.mul_one];have:i<(ys.map (Value.int .u8)).length:=(by simpa using hi);rw[List.drop_eq_getElem_cons this];simp
  ·cases h
 ·rename_i id gen;simp only[AM.run]at h;split at h
  ·rename_i g0 τ deep xs heq;obtain⟨hb,h'⟩:=bm h;obtain rfl:=beq_eq hb
   cases Xr:τ.flat with
   |true=>
    rw[Xr]at h';obtain⟨zs,t,h1,h2⟩:=AM.af h';obtain⟨h3,rfl⟩:=ah h2
    injection h3 with h3 h4
    subst h3;subst h4;obtain⟨ee,hx,rfl⟩:=j6 h1;subst ee;subst hx;refine⟨rfl,λB g w R=>⟨g,Lk.refl g,R,λu hu=> ?_⟩⟩;obtain⟨e',hk⟩:=xI hf rfl
    rcases R.eD _ _ heq with⟨k1,k2⟩|⟨b,cap,arr,ty,k1,k2,k3,k4,k5,k6,k7⟩
    ·have k2:ys=[]:=k2;subst k2;rw[hu.2.1,k1];exact⟨[],[],Src.ofNil w hk 0,fQ.nil,λb hb=>by simp at hb⟩
    ·rw[hu.2.1,k1];unfold dJ at k7;rw[aF4 (by simp[Xr])]at k7;obtain⟨AO,My⟩:=HU k7;refine⟨_,[],Src.ofSlice w hk _ _ cap _ My (λj u hj=> ?_) (At AO My), ?_,λb hb=>by simp at hb⟩
     ·rw[Addr.add_lit];exact ia k4 _ j u hj
     ·unfold fQ;simp only[Xr,aE6,aD0,aG2,aH6];exact⟨AO,trivial⟩
   |false=>
    rw[Xr]at h';simp only[aD1,AM.run]at h';obtain⟨zs,t,h1,h2⟩:=AM.af h';obtain⟨h3,rfl⟩:=ah h2
    injection h3 with h3 h4
    subst h3;subst h4;obtain⟨ee,hx,rfl⟩:=j6 h1;subst ee;subst hx;refine⟨rfl,λB g w R=> ?_⟩
    cases dq with
    |true=>
     obtain⟨g1,nb,l,R1,hn,hO⟩:=R.Qf heq;refine⟨g1,l,R1,λu hu=> ?_⟩;obtain⟨e',hk⟩:=xI hf rfl;have kM:g1.cv id g0=g.cv id g0:=l.le.cv _ _ (gN R heq);rw[kM,<-hu.2.1]at hO
     rcases hO with⟨k1,k2,k3⟩|⟨b,cap,arr,ty,k1,k2,k3,ai1,k4,k5,k6,k7⟩
     ·have k2:ys=[]:=k2;subst k2;subst k3;rw[k1];exact⟨[],[],Src.ofNil w hk 0,fQ.nil,λb hb=>by simp at hb⟩
     ·rw[k1];obtain⟨AO,My⟩:=k7.cut;obtain⟨r,he⟩:=AO.els;refine⟨_,nb,Src.ofSlice w hk _ _ cap _ My (λj u hj=> ?_) (At he My),AO,hn⟩;rw[Addr.add_lit];exact ia k4 (o:=0) _ j u (by simpa using hj)
    |false=>
     obtain⟨g1,l,R1⟩:=R.EZ heq;refine⟨g1,l,R1,λu hu=> ?_⟩;have hP:Rc _ _ _ _:=R1.eD _ _ (aE _ _ _);rw[show g1.cv id g0=g.cv id g0 from l.le.cv _ _ (gN R heq),<-hu.2.1]at hP;obtain⟨news,nb,a1,a2,a3⟩:=shared (dq:=false) R1 rfl (by simp) hP;refine⟨news,[],a1, ?_,λb hb=>by simp at hb⟩;unfold fQ at a2⊢;simp only[aD2,aG2,aH6]at a2⊢;exact⟨a2.1,trivial⟩
  ·rename_i g0 τ xs heq;obtain⟨hb,h'⟩:=bm h;obtain rfl:=beq_eq hb;obtain⟨zs,t,h1,h2⟩:=AM.af h';obtain⟨h3,rfl⟩:=ah h2
   injection h3 with h3 h4
   subst h3;subst h4;obtain⟨ee,hx,rfl⟩:=j6 h1;subst ee;subst hx;refine⟨rfl,λB g w R=>⟨g,Lk.refl g,R,λu hu=> ?_⟩⟩;have hP:Rc _ _ _ _:=R.eD _ _ heq;rw[<-hu.2.1]at hP;exact shared R rfl (by simp) hP
  ·cases h
 ·cases h
def Tgt (g:Gh)(hp:List (Nat×Obj))(w:World)(mv:Bool)(e:Ty)(xs:List e.den)(u:Value)(nb:List Nat):Prop:=
 (u= .slice none 0 0/\xs=[]/\nb=[])\/∃b cap arr ty,u= .slice (some ⟨b,0,none⟩) xs.length cap/\Free g hp w b/\b∉nb/\b<w.heap.size/\w.heap[b]?=some (.cells arr ty (0,0))/\
  xs.length<=cap/\arr.size=cap*e.size/\fQ g mv e xs arr.toList nb
theorem Hn {e:Ty}{c:Cell}{s s':St}{dp:Bool}{xs:List e.den}(h:(target e c).run s=some ((dp,xs),s')):
  s'.env=s.env/\∀B g w,HRel B g s.hp w->∃g1,Lk g g1/\HRel B g1 s'.hp w/\∀u,bu g c u->∃nb,Tgt g1 s'.hp w (dp&& !e.flat) e xs u nb/\∀b∈nb,g.dj b≠some 0:=by
 unfold target at h;split at h
 ·obtain⟨h1,rfl⟩:=ah h
  injection h1 with h1 h2
  subst h1;subst h2;refine⟨rfl,λB g w R=>⟨g,Lk.refl g,R,λu hu=>⟨[], .inl ⟨hu,rfl,rfl⟩,λb hb=>by simp at hb⟩⟩⟩
 ·rename_i id gen;simp only[AM.run]at h;split at h
  ·rename_i g0 τ deep zs heq;obtain⟨hb,h'⟩:=bm h;obtain rfl:=beq_eq hb;simp only[AM.run]at h';obtain⟨ys,t,h1,h2⟩:=AM.af h';obtain⟨h3,rfl⟩:=ah h2
   injection h3 with h3 h4
   subst h3;subst h4;obtain⟨ee,hx,rfl⟩:=j6 h1;subst ee;subst hx;refine⟨rfl,λB g w R=> ?_⟩;obtain⟨g1,nb,l,R1,hn,hO⟩:=R.Qf heq;refine⟨g1,l,R1,λu hu=>⟨nb, ?_,hn⟩⟩;rw[show g1.cv id g0=g.cv id g0 from l.le.cv _ _ (gN R heq),<-hu.2.1]at hO;exact hO
  ·cases h
 ·cases h
end Go.Abs
end

section
namespace Go.Abs
theorem J8 {α:Type}(A R:List α){k:Nat}(h:A.length=k):A.take k=(A++R).take k:=by subst h;simp
theorem ED {P:Program}{B:Base}{g:Gh}{hp:List (Nat×Obj)}{w:World}{t tx ty e:TypeId}{i:TypeInfo}{z:Value}{τ:Ty}(ht:P.underlying t=some (.slice e))(hi:P.info? e=some i)(hz:i.zero=some z)
  (lh:i.size=τ.size) (IQ:i.bytes<=128) (ME:z.cells.size=τ.size) (R:HRel B g hp w) {deep:Bool} {xs ys:List τ.den} {base:Option Addr} {sCap:Nat} {olds news:List Value} {u:Value} {RH Pa:List Nat}
  (hold:(Builtin.firstCells i.size xs.length (.slice base xs.length sCap)).run P w.drew= .ok olds.toArray w.drew) (Tu:olds.length=xs.length*τ.size) (hP:fQ g (deep&& !τ.flat) τ xs olds RH)
  (hS:Src P τ.size tx u ys.length news w) (hQ:fQ g (deep&& !τ.flat) τ ys news Pa) (hd:∀x∈RH,x∉Pa) (hg:sCap<xs.length+ys.length) (pk:xs.length+ys.length<=1099511627776) (id:Nat):
  ∃v w' g',(Builtin.append_ #[t,tx] ty #[.slice base xs.length sCap,u]).run P w= .ok v w'/\Le g g'/\HRel B g' ((id, .own (g.top id) τ deep (xs++ys))::hp) w'/\bu g' (.own id (g.top id)) v:=by
 rw[<-lh]at hS
 have hb:(xs.length+ys.length)*i.bytes<=140737488355328:=by
  have:(xs.length+ys.length)*i.bytes<=1099511627776*128:=Nat.mul_le_mul pk IQ;omega
 have hr:=run_append_grow_src (P:=P) w t tx ty e i z ht hi hz base xs.length sCap olds hold u ys.length news hS hg (by omega) (growslice_fits hg hb);have KR:=hS.newsLen;have FQ:=grownCap_ge w (xs.length+ys.length) sCap e
 generalize hc:grownCap w (xs.length+ys.length) sCap e=c at hr FQ
 have Zn:Turned w (w.drew.alloc (.cells ((olds++news).toArray++Builtin.zeroCells z.cells (c - (xs.length+ys.length))) e)) w.heap.size:=by
  refine⟨λx hx=> ?_, ?_, ?_,rfl,rfl,rfl⟩
  ·show(w.heap.push _)[x]?=_;rw[Array.getElem?_push,aF4 hx]
  ·show _<=(w.heap.push _).size;simp
  ·show _ <(w.heap.push _).size;simp
 obtain⟨g',l,R',oF⟩:=R.own (id:=id) (cap:=c) (ty:=e) (τ:=τ) (deep:=deep) (xs:=xs++ys) (nb:=RH++Pa) R.qa Zn (by show(w.heap.push _)[w.heap.size]?=_;rw[Array.getElem?_push,aG3 rfl]) (by
   have hA:=hP.append hQ Tu hd;refine hA.pre ?_;rw[Array.toList_append]
   exact J8 _ _ (by simp[Tu,KR,lh,Nat.add_mul])) (by simpa using FQ) (by
   simp only[Array.size_append,List.size_toArray,size_zeroCells,aC2,Tu,KR,ME,lh,<-Nat.add_mul]
   congr 1
   omega)
 refine⟨_,_,g',hr,l,R', ?_⟩;rw[aC2]at oF;exact oF
theorem Cr {P:Program}{w:World}{b o:Nat}{arr:Array Value}{ty:TypeId}{us:List Value}(h:w.heap[b]?=some (.cells arr ty (0,0)))(hle:o+us.length<=arr.size)(h1:∀u∈us,u.oneCell'=true):
  (∀j,j<us.length->(w.cell? ⟨b,o+j,none⟩).isSome=true)/\(∀j,j<us.length->w.frozen? ⟨b,o+j,none⟩=false)/\w.setCells b o us=w.setRow b (kK arr o us):=by
 have a1:∀j,j<us.length->(w.cell? ⟨b,o+j,none⟩).isSome=true:=by
  intro j hj;have:o+j<arr.size:=(by omega);simp[World.cell?,h,this]
 have a2:∀j,j<us.length->w.frozen? ⟨b,o+j,none⟩=false:=by
  intro j hj;simp[World.frozen?,h]
 have r1:=run_storeCells_cells (P:=P) b o us 0 w (by simpa using a1) (by simpa using a2) h1;have r2:=run_storeCells_at (P:=P) b o ty us 0 arr w h (by simpa using hle) h1;rw[r1]at r2
 injection r2 with _ r2
 exact⟨a1,a2,by simpa[kK]using r2⟩
theorem EG {P:Program}{B:Base}{g:Gh}{hp:List (Nat×Obj)}{w:World}{t tx ty e:TypeId}{i:TypeInfo}{z:Value}{τ:Ty}(ht:P.underlying t=some (.slice e))(hi:P.info? e=some i)(hz:i.zero=some z)
  (lh:i.size=τ.size) (IQ:i.bytes<=128) (ME:z.cells.size=τ.size) (R:HRel B g hp w) {deep:Bool} {xs ys:List τ.den} {us u:Value} {news:List Value} {RH Pa:List Nat}
  (hT:Tgt g hp w (deep&& !τ.flat) τ xs us RH) (hS:Src P τ.size tx u ys.length news w) (hQ:fQ g (deep&& !τ.flat) τ ys news Pa) (hd:∀x∈RH,x∉Pa) (pk:xs.length+ys.length<=1099511627776) (hbq:∀b,Free g hp w b->b∉Pa) (id:Nat):
  ∃v w' g',(Builtin.append_ #[t,tx] ty #[us,u]).run P w= .ok v w'/\Le g g'/\HRel B g' ((id, .own (g.top id) τ deep (xs++ys))::hp) w'/\bu g' (.own id (g.top id)) v:=by
 rcases hT with⟨rfl,rfl,rfl⟩|⟨b,cap,arr,zD,rfl,hf,BQ,K7,ha,Tp,UA,hP⟩
 ·by_cases h0:ys=[]
  ·subst h0;have hn:news=[]:=aG4 (by simpa using hS.newsLen);subst hn;rw[<-lh]at hS;obtain⟨g',l,R',hc⟩:=R.U7 id τ deep;exact⟨_,w,g',run_append_nothing w t tx ty e i ht hi none 0 0 (aE5 _) u hS,l.le,R',hc⟩
  ·have qf:0<ys.length:=List.length_pos_iff.2 h0;exact ED ht hi hz lh IQ ME R (xs:=[]) (sCap:=0) (olds:=[]) (by simp[run_firstCells_none]) (by simp) fQ.nil hS hQ hd (by simpa using qf) (by simpa using pk) id
 ·by_cases hroom:xs.length+ys.length<=cap
  ·have KR:=hS.newsLen
   have hle:xs.length*τ.size+news.length<=arr.size:=by
    rw[KR,<-Nat.add_mul,UA];exact Nat.mul_le_mul_right _ hroom
   obtain⟨a1,a2,a3⟩:=Cr (P:=P) ha hle hS.one;have W7:=hS;rw[<-lh]at W7;have hr:=run_append_room_src (P:=P) w t tx ty e i ht hi b 0 xs.length cap u ys.length news W7 hroom (by simpa[lh]using a1) (by simpa[lh]using a2);rw[lh,Nat.zero_add,a3]at hr;have IY:=setRow_heap w b arr (kK arr (xs.length*τ.size) news) zD (0,0) ha
   obtain⟨g',l,R',oF⟩:=R.own (id:=id) (cap:=cap) (ty:=zD) (τ:=τ) (deep:=deep) (xs:=xs++ys) (nb:=RH++Pa) hf (pB ha _) IY (by
     obtain⟨AO,My⟩:=hP.cut;have hA:=AO.append (M:=news++arr.toList.drop (xs.length*τ.size+news.length)) (hQ.pre (J8 _ _ (by rw[KR]))) My hd
     have e:(kK arr (xs.length*τ.size) news).toList=List.take (xs.length*τ.size) arr.toList++(news++List.drop (xs.length*τ.size+news.length) arr.toList):=by
      simp[kK]
     rw[e]
     exact hA) (by simpa using hroom) (by
     have oI:(kK arr (xs.length*τ.size) news).size=arr.size:=by
      simp[kK];omega
     rw[oI,UA])
   refine⟨_,_,g',hr,l,R', ?_⟩;rw[aC2]at oF;exact oF
  ·obtain⟨AO,My⟩:=hP.cut;refine ED ht hi hz lh IQ ME R (sCap:=cap) ?_ My AO hS hQ hd (by omega) pk id;rw[lh];refine run_firstCells_some (P:=P) w.drew τ.size xs.length _ xs.length cap _ My (λj v hj=> ?_);rw[Addr.add_lit,World.cell?_drew];exact ia ha (o:=0) _ j v (by simpa using hj)
theorem HA {E:Env}{c:Call}(hc:c.callee= .builtin .append){s s':St}{sl:Slot}{d:Nat}(h:(eC E d (.call c)).run s=some (sl,s')):Yld E (.call c) s sl s':=by
 unfold eC at h;simp only[hc]at h;split at h
 ·rename_i t tx ak6;obtain⟨e,t1,h1,h2⟩:=AM.af h;obtain⟨τ,t2,h3,h4⟩:=AM.af h2;obtain⟨vs,t3,h5,h6⟩:=AM.af h4;obtain⟨he,rfl⟩:=ct h1;obtain rfl:=xj h3;obtain⟨rfl,r1⟩:=mG h5;split at h6
  ·rename_i sc xc;obtain⟨hb,h7⟩:=bm h6;simp only[aC6]at hb;obtain⟨i,z,hi,hz,lh,IQ,_,ME⟩:=w7 hb.1;unfold append at h7;obtain⟨⟨dq,ys⟩,t4,h8,h9⟩:=AM.af h7;obtain⟨⟨dp,xs⟩,t5,yg,BW⟩:=AM.af h9;obtain⟨pk,sB⟩:=lV BW;obtain⟨cell,t6,Hh,Rv⟩:=AM.af sB;obtain⟨rfl,rfl⟩:=ah Rv;obtain⟨e1,k1⟩:=HG h8 hb.2;obtain⟨e2,k2⟩:=Hn yg;obtain⟨gen,Zh,rfl,rfl⟩:=uX Hh;refine⟨e2.trans e1,λo ho B g a w R V=> ?_⟩;obtain⟨u1,u2,ea,nN,yi⟩:=Kc (r1 V) rfl;obtain⟨g1,l1,R1,c1⟩:=k1 B g w R;obtain⟨news,Pa,hS,hQ,fq⟩:=c1 u2 yi;obtain⟨g2,l2,R2,c2⟩:=k2 B g1 w R1;obtain⟨RH,hT,fp⟩:=c2 u1 (bu.mono l1.le nN);have V9:=hQ.mono l2;have hn:xs.length+ys.length<=1099511627776:=aE7 pk
   have TA:∀x∈RH,x∉Pa:=by
    intro x hx hy;unfold fQ at hQ;split at hQ
    ·exact fp x hx (hQ.2.2 x hy)
    ·rw[hQ.2]at hy;simp at hy
   have ao8:∀{g:Gh} {mv:Bool} {zs:List τ.den} {L:List Value} {nb:List Nat} {b:Nat} {hp:List (Nat×Obj)},fQ g mv τ zs L nb->Free g hp w b->b∉nb:=by
    intro g mv zs L nb b hp hh hf hm;unfold fQ at hh;split at hh
    ·exact hf.Q9 (hh.2.2 b hm)
    ·rw[hh.2]at hm;simp at hm
   have main:∃g3 Wh Wk,Le g2 g3/\HRel B g3 t5.hp w/\Tgt g3 t5.hp w ((dp&&dq)&& !τ.flat) τ xs u1 Wh/\fQ g3 ((dp&&dq)&& !τ.flat) τ ys news Wk/\∀x∈Wh,x∉Wk:=by
    by_cases hm:((dp&&dq)&& !τ.flat)=true
    ·simp only[aC6]at hm;obtain⟨⟨rfl,rfl⟩,Xr⟩:=hm;exact⟨g2,RH,Pa,Le.refl g2,R2,hT,V9,TA⟩
    ·have ao6:((dp&&dq)&& !τ.flat)=false:=(by simpa using hm);rw[ao6]
     by_cases hq:(dq&& !τ.flat)=true
     ·have vr:(dp&& !τ.flat)=false:=by
       revert ao6 hq
       cases dp<;>cases dq<;>cases τ.flat<;>simp
      rw[vr]at hT;obtain⟨g3,l3,R3,q3,f3⟩:=V9.loose R2;refine⟨g3,RH,[],l3,R3, ?_,q3,λx _ hx=>by simp at hx⟩
      rcases hT with⟨a1,a2,a3⟩|⟨b,cap,arr,zD,a1,a2,a3,a4,a5,a6,a7,a8⟩
      ·exact .inl ⟨a1,a2,a3⟩
      ·exact .inr ⟨b,cap,arr,zD,a1,f3 b (ao8 V9 a2) a2,a3,a4,a5,a6,a7,a8.Eg l3⟩
     ·have TB:(dq&& !τ.flat)=false:=(by simpa using hq);rw[TB]at V9;have au2:Pa=[]:=V9.2;subst au2
      rcases hT with⟨a1,a2,a3⟩|⟨b,cap,arr,zD,a1,a2,a3,a4,a5,a6,a7,a8⟩
      ·exact⟨g2,[],[],Le.refl g2,R2, .inl ⟨a1,a2,rfl⟩,V9,λx hx=>by simp at hx⟩
      ·obtain⟨g3,l3,R3,q3,f3⟩:=a8.loose R2;exact⟨g3,[],[],l3,R3, .inr ⟨b,cap,arr,zD,a1,f3 b a3 a2,by simp,a4,a5,a6,a7,q3⟩,V9.Eg l3,λx hx=>by simp at hx⟩
   obtain⟨g3,Wh,Wk,l3,R3,T3,Q3,d3⟩:=main;obtain⟨rfl,_⟩:=j1 R3 Zh;obtain⟨v,w',g4,k5,l4,R4,k6⟩:=EG (ty:=o.type) (zj he) hi hz lh IQ ME R3 (deep:=dp&&dq) T3 hS Q3 d3 hn (λb hf=>ao8 Q3 hf) d;refine⟨v,w',g4, ?_,((l1.le.trans l2.le).trans l3).trans l4,R4,k6⟩;unfold execOp;rw[ho]
   have e3:c.args.map a.eval=#[u1,u2]:=by
    apply Array.ext'
    simpa using ea
   have e4:c.argTypes=#[t,tx]:=by
    apply Array.ext'
    simpa using ak6
   simp[resolve,hc,invoke,builtin,e3,e4,k5]
  ·cases h6
 ·cases h
end Go.Abs
end

section
namespace Go.Abs
def rdW (w:World):Rd:=λb=>match w.heap[b]? with
 |some (.cells arr _ (0,0))=>some arr.toList
 |_=>none
def jI (aD:Rd)(w:World)(mv:Bool)(τ:Ty)(xs:List τ.den)(L:List Value)(nb:List Nat):Prop:=
 if mv then fk (rdW w) τ xs L nb else Els aD τ xs L 0/\nb=[]
def OwnAt (aD:Rd)(w:World)(mv:Bool)(τ:Ty)(xs:List τ.den)(us:List Value)(nb:List Nat):Prop:=
 (us=[.slice none 0 0]/\xs=[]/\nb=[])\/∃b cap arr ty jd,us=[.slice (some ⟨b,0,none⟩) xs.length cap]/\nb=b::jd/\w.heap[b]?=some (.cells arr ty (0,0))/\
   xs.length<=cap/\arr.size=cap*τ.size/\jI aD w mv τ xs arr.toList jd
def qd (aD:Rd)(w:World)(pl:Nat×Nat)(xs:List Int)(us:List Value)(nb:List Nat):Prop:=
 (us=[.pointer none, .slice none 0 0]/\xs=[]/\nb=[])\/∃u2,us=[.pointer (some ⟨pl.1,pl.2,none⟩),u2]/\OwnAt aD w false (.int .u8) xs [u2] nb/\∀b∈nb,∃arr,w.heap[b]?=some (.cells arr lQ (0,0))
def Pass (aD:Rd)(w:World):(s:Sp)->s.ty.den->Nat×Nat->List Value->List Nat->Prop
 | .un,_,_,us,nb=>us=[]/\nb=[]
 | .pr a b,x,pl,us,nb=>∃u1 u2 n1 n2,us=u1++u2/\nb=n1++n2/\Pass aD w a x.1 pl u1 n1/\Pass aD w b x.2 (pl.1,pl.2+a.size) u2 n2
 | .cH τ,x,_,us,nb=>nb=[]/\τ.one=true/\∃u,us=[u]/\Rc aD τ x [u]
 | .own τ dp,xs,_,us,nb=>OwnAt aD w (dp&& !τ.flat) τ xs us nb
 | .lnd τ dp,xs,_,us,nb=>OwnAt aD w (dp&& !τ.flat) τ xs us nb
 | .ptr wh st s,x,_,us,nb=>∃b o arr ty jd,us=[.pointer (some ⟨b,o,none⟩)]/\nb=b::jd/\w.heap[b]?=some (.cells arr ty (0,0))/\((wh=true->o=0/\arr.size=s.size/\ty=st.1)/\(wh=false->Fw st.2 ty o arr.size=true))/\o+s.size<=arr.size/\
   Pass aD w s x (b,o) ((arr.toList.drop o).take s.size) jd
 | .yK ok,x,_,us,nb=>∃b o arr ty,us=[.pointer (some ⟨b,o,none⟩)]/\w.heap[b]?=some (.cells arr ty (0,0))/\Fw ok ty o arr.size=true/\o+2<=arr.size/\qd aD w (b,o) x ((arr.toList.drop o).take 2) nb
 | .sA,x,pl,us,nb=>qd aD w pl x us nb
 | .err,b,_,us,nb=>nb=[]/\∃u,us=[u]/\((b=true/\u= .nilIface)\/(b=false/\∃t v,u= .iface t v))
 | .np,_,_,us,nb=>nb=[]/\us=[.pointer none]
 | .slf _ _,_,_,us,nb=>nb=[]/\∃b o,us=[.pointer (some ⟨b,o,none⟩)]
theorem jI.mono {aD cQ:Rd}(h:∀b L,aD b=some L->cQ b=some L){w:World}{mv:Bool}{τ:Ty}{xs:List τ.den}{L:List Value}{nb:List Nat}(k:jI aD w mv τ xs L nb):jI cQ w mv τ xs L nb:=by
 unfold jI at k⊢;split
 ·rename_i e;rw[aG3 e]at k;exact k
 ·rename_i e;rw[aF4 e]at k;exact⟨k.1.mono h,k.2⟩
theorem OwnAt.mono {aD cQ:Rd}(h:∀b L,aD b=some L->cQ b=some L){w:World}{mv:Bool}{τ:Ty}{xs:List τ.den}{us:List Value}{nb:List Nat}(k:OwnAt aD w mv τ xs us nb):OwnAt cQ w mv τ xs us nb:=by
 rcases k with k|⟨b,cap,arr,ty,jd,e,e',ha,hl,hs,k⟩
 ·exact .inl k
 ·exact .inr ⟨b,cap,arr,ty,jd,e,e',ha,hl,hs,k.mono h⟩
theorem OwnAt.length {aD:Rd}{w:World}{mv:Bool}{τ:Ty}{xs:List τ.den}{us:List Value}{nb:List Nat}(k:OwnAt aD w mv τ xs us nb):us.length=1:=by
 rcases k with k|⟨b,cap,arr,ty,jd,e,_⟩
 ·rw[k.1];rfl
 ·rw[e];rfl
theorem qd.mono {aD cQ:Rd}(h:∀b L,aD b=some L->cQ b=some L){w:World}{pl:Nat×Nat}{xs:List Int}{us:List Value}{nb:List Nat}(k:qd aD w pl xs us nb):qd cQ w pl xs us nb:=by
 rcases k with k|⟨u2,e,k⟩
 ·exact .inl k
 ·exact .inr ⟨u2,e,k.1.mono h,k.2⟩
theorem qd.length {aD:Rd}{w:World}{pl:Nat×Nat}{xs:List Int}{us:List Value}{nb:List Nat}(k:qd aD w pl xs us nb):us.length=2:=by
 rcases k with k|⟨u2,e,_⟩
 ·rw[k.1];rfl
 ·rw[e];rfl
theorem Pass.mono {aD cQ:Rd}(h:∀b L,aD b=some L->cQ b=some L){w:World}:∀{s:Sp}{x:s.ty.den}{pl:Nat×Nat}{us:List Value}{nb:List Nat},Pass aD w s x pl us nb->Pass cQ w s x pl us nb
 | .un,_,_,_,_,k=>k
 | .pr _ _,_,_,_,_,⟨u1,u2,n1,n2,e,e',k1,k2⟩=>⟨u1,u2,n1,n2,e,e',Pass.mono h k1,Pass.mono h k2⟩
 | .cH _,_,_,_,_,⟨e,h1,u,e',k⟩=>⟨e,h1,u,e',k.mono h⟩
 | .own _ _,_,_,_,_,k=>OwnAt.mono h k
 | .lnd _ _,_,_,_,_,k=>OwnAt.mono h k
 | .ptr _ _ _,_,_,_,_,⟨b,o,arr,ty,jd,e,e',ha,hw,hl,k⟩=>⟨b,o,arr,ty,jd,e,e',ha,hw,hl,Pass.mono h k⟩
 | .yK _,_,_,_,_,⟨b,o,arr,ty,e,ha,hk,hl,k⟩=>⟨b,o,arr,ty,e,ha,hk,hl,qd.mono h k⟩
 | .sA,_,_,_,_,k=>qd.mono h k
 | .err,_,_,_,_,k=>k
 | .np,_,_,_,_,k=>k
 | .slf _ _,_,_,_,_,k=>k
theorem Pass.length {aD:Rd}{w:World}:∀{s:Sp}{x:s.ty.den}{pl:Nat×Nat}{us:List Value}{nb:List Nat},Pass aD w s x pl us nb->us.length=s.size
 | .un,_,_,_,_,k=>by rw[k.1];rfl
 | .pr _ _,_,_,_,_,⟨u1,u2,n1,n2,e,e',k1,k2⟩=>by subst e;simp[Sp.size,k1.length,k2.length]
 | .cH _,_,_,_,_,⟨e,h1,u,e',k⟩=>by subst e';rfl
 | .own _ _,_,_,_,_,k=>OwnAt.length k
 | .lnd _ _,_,_,_,_,k=>OwnAt.length k
 | .ptr _ _ _,_,_,_,_,⟨b,o,arr,ty,jd,e,_⟩=>by rw[e];rfl
 | .yK _,_,_,_,_,⟨b,o,arr,ty,e,_⟩=>by rw[e];rfl
 | .sA,_,_,_,_,k=>qd.length k
 | .err,_,_,_,_,⟨_,u,e,_⟩=>by rw[e];rfl
 | .np,_,_,_,_,k=>by rw[k.2];rfl
 | .slf _ _,_,_,_,_,⟨_,b,o,e⟩=>by rw[e];rfl
theorem HRel.congr {B:Base}{g:Gh}{hp BZ:List (Nat×Obj)}{w:World}(e:∀i,look BZ i=look hp i)(R:HRel B g hp w):HRel B g BZ w:=
 ⟨λi=>by rw[e i];exact R.top i,λi o h=>R.eD i o (by rw[<-e i];exact h),R.aD,R.ep,R.dQ,R.jo,R.frame,R.size,R.os,R.tape,R.output,R.fix⟩
theorem EE {β:Type}(l:List (Nat×β))(n:Nat)(a b:β)(i:Nat):look ((n,a)::l) i=look ((n,a)::(n,b)::l) i:=by
 by_cases e:n=i
 ·subst e;rw[aE,aE]
 ·rw[ay _ _ e,ay _ _ e,ay _ _ e]
theorem HRel.QV {B:Base}{g:Gh}{hp:List (Nat×Obj)}{w:World}(R:HRel B g hp w){id b:Nat}(hl:g.dj b=some (id+1))(hn:g.ep b=none)
  (ho:∀o,look hp id=some o->(∃gn,o= .dead gn)\/∃gn cs,o= .iH gn cs):
  ∃g',Lk g g'/\g'.outer=g.outer/\g'.aD=g.aD/\g'.ep=g.ep/\(∀x,x≠b->g'.dj x=g.dj x)/\g'.dj b=some 0/\HRel B g' hp w:=by
 let g':Gh:={g with dj:=λx=>if x=b then some 0 else g.dj x}
 have hle:Le g g':=⟨λ_ _ h=>h,λ_=>aE5 _,λ_ _ _=>rfl⟩;refine⟨g',⟨hle,λx hx=> ?_,rfl⟩,rfl,rfl,rfl,λx hx=>by simp[g',hx],by simp[g'], ?_⟩
 ·have:x≠b:=λe=>by subst e;rw[hl]at hx;simp at hx
  simp[g',this,hx]
 ·refine⟨R.top,λi oi hi=> ?_,λx L hx=> ?_,λx L hx=> ?_,λx hx=> ?_,R.jo,λx hx tL hi=> ?_,R.size,R.os,R.tape,R.output,R.fix⟩
  ·by_cases e:i=id
   ·subst e
    rcases ho oi hi with⟨gn,rfl⟩|⟨gn,cs,rfl⟩<;>trivial
   ·refine(R.eD i oi hi).tr hle (λx hx=> ?_) rfl (gN R hi)
    have kn:x≠b:=λe'=>by subst e';rw[hl]at hx;simp at hx;exact e hx.symm
    exact⟨by simp[g',kn,hx],rfl,rfl⟩
  ·obtain⟨a1,a2,a3⟩:=R.aD x L hx
   have kn:x≠b:=λe'=>by subst e';rw[hl]at a1;cases a1
   exact⟨by simp[g',kn,a1],a2,a3⟩
  ·obtain⟨a1,a2⟩:=R.ep x L hx;refine⟨?_,a2⟩
   by_cases kn:x=b
   ·simp[g',kn]
   ·simpa[g',kn]using a1
  ·by_cases kn:x=b
   ·subst kn;exact R.dQ x (by rw[hl];simp)
   ·exact R.dQ x (by simpa[g',kn]using hx)
  ·obtain⟨f1,f2,f3⟩:=R.frame x hx tL hi
   have kn:x≠b:=λe'=>by subst e';rw[hl]at f1;cases f1
   exact⟨by simp[g',kn,f1],f2,f3⟩
theorem HRel.SX {B:Base}{g:Gh}{hp:List (Nat×Obj)}{w:World}(R:HRel B g hp w){b:Nat}{L:List Value}(h:g.ep b=some L):rdW w b=some L:=by
 obtain⟨_,arr,ty,a,e⟩:=R.ep b L h;unfold rdW;rw[a];simpa using e
theorem HRel.Ye {B:Base}{g:Gh}{hp:List (Nat×Obj)}{w:World}(R:HRel B g hp w){id gen:Nat}{τ:Ty}{deep dp:Bool}{xs:List τ.den}
  (h:look hp id=some (.own gen τ deep xs)) (hd:(deep|| !dp||τ.flat)=true):∃g' nb,Lk g g'/\g'.outer=g.outer/\HRel B g' ((id, .dead gen)::hp) w/\nb.Nodup/\(∀b∈nb,g'.dj b=some 0/\g.dj b≠some 0)/\
   OwnAt g'.aD w (dp&& !τ.flat) τ xs [g.cv id gen] nb:=by
 have step1:∃g1,Lk g g1/\g1.outer=g.outer/\HRel B g1 ((id, .own gen τ (deep&&dp) xs)::hp) w:=by
  by_cases e:(deep&&dp)=deep
  ·rw[e];exact⟨g,Lk.refl g,rfl,R.put h rfl (R.eD _ _ h)⟩
  ·have e':(deep&&dp)=false:=by cases deep<;>cases dp<;>simp_all
   rw[e']
   have:∃g',Lk g g'/\g'.outer=g.outer/\HRel B g' ((id, .own gen τ false xs)::hp) w:=by
    have hO:=R.eD _ _ h
    rcases hO with⟨h1,h2⟩|⟨b,cap,arr,ty,h1,h2,h3,h4,h5,h6,h7⟩
    ·exact⟨g,Lk.refl g,rfl,R.put h rfl (.inl ⟨h1,h2⟩)⟩
    ·by_cases hd:(deep&& !τ.flat)=true
     ·unfold dJ at h7;rw[aG3 hd]at h7;obtain⟨nb,k1,k2,k3⟩:=h7
      have hS:∀x L,nbS g nb x=some L->g.dj x=some (id+1)/\∃arr ty fr,w.heap[x]?=some (.cells arr ty fr)/\arr.toList=L:=by
       intro x L hx;unfold nbS at hx;split at hx
       ·rename_i hm;obtain⟨_,arr,ty,a,b⟩:=R.ep x L hx;exact⟨k3 x hm,arr,ty,(0,0),a,b⟩
       ·cases hx
      have BQ:b∉nb:=λhm=>k1.nv b hm h3
      have oS:nbS g nb b=none:=(by simp[nbS,BQ]);refine⟨_,R.Di (λx L hx=>(hS x L hx).1),rfl,R.Iz hS h rfl (.inr ⟨b,cap,arr,ty,h1,by simp[Gh.nB,oS,h2],by simp[Gh.nB,oS,h3],h4,h5,h6, ?_⟩)⟩;show dJ _ _ _ false _ _;unfold dJ;simp only[aD2,aG2,aH6];refine fk.els (nb:=nb) (k1.mono λx hx L hL=> ?_);simp[Gh.nB,nbS,hx,hL]
     ·refine⟨g,Lk.refl g,rfl,R.put h rfl (.inr ⟨b,cap,arr,ty,h1,h2,h3,h4,h5,h6, ?_⟩)⟩;unfold dJ at h7⊢;rw[aF4 hd]at h7;simpa using h7
   exact this
 obtain⟨g1,l1,o1,R1⟩:=step1;have ht:=gN R h;have hO:=R1.eD _ _ (aE _ _ _);have xA:g1.cv id gen=g.cv id gen:=l1.le.cv _ _ ht
 have Rd:HRel B g1 ((id, .dead gen)::hp) w:=(R1.put (aE _ _ _) (o':= .dead gen) rfl trivial).congr λi=>EE _ _ _ _ i
 rcases hO with⟨h1,h2⟩|⟨b,cap,arr,ty,h1,h2,h3,h4,h5,h6,h7⟩
 ·refine⟨g1,[],l1,o1,Rd,aG5,λb hb=>by simp at hb, .inl ⟨?_,h2,rfl⟩⟩;rw[<-xA,h1]
 ·rw[xA]at h1
  have nest:∃g2 jd,Lk g1 g2/\g2.outer=g1.outer/\g2.aD=g1.aD/\HRel B g2 ((id, .dead gen)::hp) w/\jd.Nodup/\(∀x∈jd,g2.dj x=some 0/\g1.dj x≠some 0)/\b∉jd/\g2.dj b=some (id+1)/\g2.ep b=none/\
    jI g2.aD w (dp&& !τ.flat) τ xs arr.toList jd:=by
   unfold dJ at h7
   by_cases hc:((deep&&dp)&& !τ.flat)=true
   ·rw[aG3 hc]at h7;obtain⟨nb,k1,k2,k3⟩:=h7
    have BQ:b∉nb:=λhm=>k1.nv b hm h3
    let g':Gh:={g1 with dj:=open Classical in λx=>if x∈nb then some 0 else g1.dj x}
    have hle:Le g1 g':=⟨λ_ _ h=>h,λ_=>aE5 _,λ_ _ _=>rfl⟩
    have hR:HRel B g' ((id, .dead gen)::hp) w:=by
     refine⟨Rd.top,λi oi hi=> ?_,λx L hx=> ?_,λx L hx=> ?_,λx hx=> ?_,Rd.jo,λx hx hl hi=> ?_,Rd.size,Rd.os,Rd.tape,Rd.output,Rd.fix⟩
     ·by_cases e:id=i
      ·subst e;rw[aE]at hi;injection hi with hi;subst hi;trivial
      ·refine(Rd.eD i oi hi).tr hle (λx hx=> ?_) rfl (gN Rd hi)
       have kx:x∉nb:=λhm=>by rw[k3 x hm]at hx;simp at hx;exact e hx
       simp[g',kx,hx]
     ·obtain⟨a1,a2,a3⟩:=Rd.aD x L hx
      have kx:x∉nb:=λhm=>by rw[k3 x hm]at a1;cases a1
      exact⟨by simp[g',kx,a1],a2,a3⟩
     ·obtain⟨a1,a2⟩:=Rd.ep x L hx;refine⟨?_,a2⟩
      by_cases kx:x∈nb
      ·simp[g',kx]
      ·simpa[g',kx]using a1
     ·by_cases kx:x∈nb
      ·exact Rd.dQ x (by rw[k3 x kx];simp)
      ·exact Rd.dQ x (by simpa[g',kx]using hx)
     ·obtain⟨f1,f2,f3⟩:=Rd.frame x hx hl hi
      have kx:x∉nb:=λhm=>by rw[k3 x hm]at f1;cases f1
      exact⟨by simp[g',kx,f1],f2,f3⟩
    refine⟨g',nb,⟨hle,λx hx=> ?_,rfl⟩,rfl,rfl,hR,k2,λx hx=>⟨by simp[g',hx],by rw[k3 x hx];simp⟩,BQ,by simp[g',BQ,h2],h3, ?_⟩
    ·have kx:x∉nb:=λhm=>by rw[k3 x hm]at hx;simp at hx
     simp[g',kx,hx]
    ·have MD:(dp&& !τ.flat)=true:=by
      simp only[aC6]at hc⊢;exact⟨hc.1.2,hc.2⟩
     unfold jI;rw[aG3 MD]
     exact k1.mono λx hx L hL=>Rd.SX hL
   ·rw[aF4 hc]at h7
    have MD:(dp&& !τ.flat)=false:=by
     revert hc hd
     cases deep<;>cases dp<;>cases τ.flat<;>simp
    refine⟨g1,[],Lk.refl g1,rfl,rfl,Rd,aG5,λx hx=>by simp at hx,by simp,h2,h3, ?_⟩;unfold jI;rw[MD];simp only[aG2,aH6];exact⟨h7,trivial⟩
  obtain⟨g2,jd,l2,o2,i2,R2,n1,n2,n3,n4,n5,n6⟩:=nest;obtain⟨g3,l3,o3,i3,s3,f3,z3,R3⟩:=R2.QV n4 n5 (λo ho=>by rw[aE]at ho;injection ho with ho;exact .inl ⟨gen,ho.symm⟩);refine⟨g3,b::jd,(l1.trans l2).trans l3,(o3.trans o2).trans o1,R3,List.nodup_cons.2 ⟨n3,n1⟩,λx hx=> ?_, .inr ⟨b,cap,arr,ty,jd,by rw[h1],rfl,h4,h5,h6,by rw[i3];exact n6⟩⟩
  rcases aF8.1 hx with rfl|hy
  ·refine⟨z3,λe=> ?_⟩;have:=(l1.kp x e).1;rw[h2]at this;simp at this
  ·have kn:x≠b:=λe=>n3 (e ▸ hy)
   refine⟨by rw[f3 x kn];exact(n2 x hy).1,λe=>(n2 x hy).2 (l1.kp x e).1⟩
def mP (hp:List (Nat×Obj))(g:Gh)(w:World):(s:Sp)->List Cell->List Value->Prop
 | .pr a b,cs,us=>mP hp g w a (cs.take a.size) (us.take a.size)/\mP hp g w b (cs.drop a.size) (us.drop a.size)
 | .lnd _ _,cs,us=>(cs=[.nil]/\us=[.slice none 0 0])\/∃id gen,cs=[.own id gen]/\us=[g.cv id gen]/\gen<g.top id/\oc (g.cv id gen)=true
 | .ptr _ _ s,cs,us=>∃id gen off bs b o arr ty L,cs=[.ptr id gen off]/\us=[.pointer (some ⟨b,o+off,none⟩)]/\look hp id=some (.iH gen (ty,bs))/\g.cv id gen= .pointer (some ⟨b,o,none⟩)/\
   w.heap[b]?=some (.cells arr ty (0,0))/\arr.toList=(g.outer id).take o++L++(g.outer id).drop (o+L.length)/\o+L.length<=(g.outer id).length/\(o=0/\(g.outer id).length=bs.length)/\
   off+s.size<=bs.length/\aF g bs L/\mP hp g w s (cut off s.size bs) ((L.drop off).take s.size)
 |_,_,_=>True
theorem mP.mono {hp BZ:List (Nat×Obj)}{g g':Gh}{w:World}(l:Le g g')(ho:∀id gn cs,look hp id=some (.iH gn cs)->look BZ id=some (.iH gn cs)/\g'.outer id=g.outer id)(ht:∀id gn cs,look hp id=some (.iH gn cs)->gn<g.top id):
  ∀{s:Sp} {cs:List Cell} {us:List Value},mP hp g w s cs us->mP BZ g' w s cs us
 | .un,_,_,_=>trivial
 | .cH _,_,_,_=>trivial
 | .own _ _,_,_,_=>trivial
 | .sA,_,_,_=>trivial
 | .yK _,_,_,_=>trivial
 | .err,_,_,_=>trivial
 | .np,_,_,_=>trivial
 | .slf _ _,_,_,_=>trivial
 | .lnd _ _,_,_, .inl h=> .inl h
 | .lnd _ _,_,_, .inr ⟨id,gen,e,e',h,OZ⟩=> .inr ⟨id,gen,e,by rw[l.cv _ _ h];exact e',aF7 h (l.top _),by rw[l.cv _ _ h];exact OZ⟩
 | .pr _ _,_,_,⟨h1,h2⟩=>⟨mP.mono l ho ht h1,mP.mono l ho ht h2⟩
 | .ptr _ _ _,_,_,⟨id,gen,off,bs,b,o,arr,ty,L,e1,e2,hl,kM,ha,hL,hle,hid,zA,hc,hr⟩=>by
  obtain⟨k1,k2⟩:=ho _ _ _ hl;exact⟨id,gen,off,bs,b,o,arr,ty,L,e1,e2,k1,(l.cv _ _ (ht _ _ _ hl)).trans kM,ha,by rw[k2];exact hL,by rw[k2];exact hle,by rw[k2];exact hid,zA,hc.mono l,mP.mono l ho ht hr⟩
def dP (g:Gh)(nb:List Nat):Prop:=nb.Nodup/\∀b∈nb,g.dj b=some 0
theorem dP.mono {g g':Gh}(l:Lk g g'){nb:List Nat}(h:dP g nb):dP g' nb:=⟨h.1,λb hb=>(l.kp b (h.2 b hb)).1⟩
theorem dP.append {g g':Gh}{n1 n2:List Nat}(l:Lk g g')(h1:dP g n1)(h2:dP g' n2)(hf:∀b∈n2,g.dj b≠some 0):dP g' (n1++n2):=by
 refine⟨?_,λb hb=> ?_⟩
 ·rw[aH0];exact⟨h1.1,h2.1,λx hx y hy e=>by subst e;exact hf x hy (h1.2 x hx)⟩
 ·rcases aE9.1 hb with hb|hb
  ·exact(h1.mono l).2 b hb
  ·exact h2.2 b hb
def jg (s s':St):Prop:=s'.env=s.env/\∀id gn cs,look s.hp id=some (.iH gn cs)->look s'.hp id=some (.iH gn cs)
theorem jg.refl (s:St):jg s s:=⟨rfl,λ_ _ _ h=>h⟩
theorem jg.trans {a b c:St}(h:jg a b)(k:jg b c):jg a c:=⟨k.1.trans h.1,λi g cs hl=>k.2 i g cs (h.2 i g cs hl)⟩
theorem oZ {s:St}{id:Nat}{o:Obj}(h:∀gn cs,look s.hp id≠some (.iH gn cs)):jg s {s with hp:=(id,o)::s.hp}:=
 ⟨rfl,λi gn cs hl=>by
  by_cases e:id=i
  ·subst e;exact absurd hl (h gn cs)
  ·show look ((id,o)::s.hp) i=_
   rw[ay _ _ e];exact hl⟩
end Go.Abs
end

section
namespace Go.Abs
theorem LP:∀(k:Nat)(c:Cell)(s:St)(xs:List Int)(s':St),(ON k c).run s=some (xs,s')->jg s s':=by
 intro k
 induction k with
 |zero=>
  intro c s xs s' h
  cases c with
  |v τ x=>cases τ<;>first|(obtain⟨rfl,rfl⟩:=ah h;exact jg.refl _)|exact nomatch h
  |np=>obtain⟨rfl,rfl⟩:=ah h;exact jg.refl _
  |nf=>exact nomatch h
  |nil=>exact nomatch h
  |own _ _=>exact nomatch h
  |ptr _ _ off=>cases off<;>exact nomatch h
  |fn _ _=>exact nomatch h
  |err _=>exact nomatch h
 |succ k ih=>
  intro c s xs s' h
  cases c with
  |v τ x=>cases τ<;>first|(obtain⟨rfl,rfl⟩:=ah h;exact jg.refl _)|exact nomatch h
  |np=>obtain⟨rfl,rfl⟩:=ah h;exact jg.refl _
  |nf=>exact nomatch h
  |nil=>exact nomatch h
  |own _ _=>exact nomatch h
  |fn _ _=>exact nomatch h
  |err _=>exact nomatch h
  |ptr id gen off=>
   cases off with
   |succ n=>exact nomatch h
   |zero=>
    simp only[ON,AM.run]at h;split at h
    ·obtain⟨hb,h'⟩:=bm h;obtain⟨ys,t,h1,h2⟩:=AM.af h';have k1:=ih _ _ _ _ h1;simp only[AM.run]at h2;split at h2
     ·rename_i heq;simp only[AM.run,aG1,aH2]at h2;obtain⟨rfl,rfl⟩:=h2;exact k1.trans (oZ λgn cs hl=>by rw[heq]at hl;cases hl)
     ·exact nomatch h2
    ·obtain⟨hb,h'⟩:=bm h;obtain⟨rfl,rfl⟩:=ah h';exact jg.refl _
    ·exact nomatch h
theorem Ja {τ:Ty}{c:Cell}{s s':St}{x:τ.den}(h:(datum τ c).run s=some (x,s')):jg s s':=by
 cases τ with
 |int k=>
  cases c with
  |v τ' x'=>
   cases τ' with
   |int k'=>
    simp only[datum]at h;split at h
    ·obtain⟨rfl,rfl⟩:=ah h;exact jg.refl _
    ·exact nomatch h
   |_=>exact nomatch h
  |_=>exact nomatch h
 |bool=>
  cases c with
  |v τ' x'=>cases τ'<;>first|(obtain⟨rfl,rfl⟩:=ah h;exact jg.refl _)|exact nomatch h
  |_=>exact nomatch h
 |str=>
  cases c with
  |v τ' x'=>cases τ'<;>first|(obtain⟨rfl,rfl⟩:=ah h;exact jg.refl _)|exact nomatch h
  |_=>exact nomatch h
 |un=>cases c<;>exact nomatch h
 |pr a b=>cases c<;>exact nomatch h
 |cl=>exact LP 4 c s x s' h
 |sl e=>
  cases c with
  |v τ' x'=>
   cases τ' with
   |sl e'=>
    simp only[datum]at h;obtain⟨_,_,rfl⟩:=j6 h;exact jg.refl _
   |_=>exact nomatch h
  |nil=>obtain⟨rfl,rfl⟩:=ah h;exact jg.refl _
  |own id gen=>
   simp only[datum,AM.run]at h;split at h
   ·rename_i heq;obtain⟨hb,h'⟩:=bm h;simp only[AM.run]at h';obtain⟨_,_,rfl⟩:=j6 h'
    exact oZ λgn cs hl=>by rw[heq]at hl;cases hl
   ·obtain⟨hb,h'⟩:=bm h;obtain⟨_,_,rfl⟩:=j6 h';exact jg.refl _
   ·exact nomatch h
  |ptr _ _ _=>exact nomatch h
  |np=>exact nomatch h
  |nf=>exact nomatch h
  |fn _ _=>exact nomatch h
  |err _=>exact nomatch h
def iR (g:Gh)(pl:Plc)(rp:Nat×Nat):Prop:=∀id gen off,pl=some (id,gen,off)->gen<g.top id/\∃b o,g.cv id gen= .pointer (some ⟨b,o,none⟩)/\rp=(b,o+off)
theorem iR.mono {g g':Gh}(l:Le g g'){pl:Plc}{rp:Nat×Nat}(h:iR g pl rp):iR g' pl rp:=λid gen off e=>by
 obtain⟨h1,b,o,h2,h3⟩:=h id gen off e;exact⟨aF7 h1 (l.top _),b,o,(l.cv _ _ h1).trans h2,h3⟩
theorem iR.on {g:Gh}{pl:Plc}{rp:Nat×Nat}(h:iR g pl rp)(n:Nat):iR g (pl.on n) (rp.1,rp.2+n):=λid gen off e=>by
 unfold Plc.on at e;split at e
 ·rename_i Uf g' o'
  injection e with e;injection e with e1 e;injection e with e2 e3
  subst e1;subst e2;subst e3;obtain⟨h1,b,o,h2,h3⟩:=h _ _ _ rfl;refine⟨h1,b,o,h2, ?_⟩;rw[h3];simp[Nat.add_assoc]
 ·cases e
theorem iR.none (g:Gh)(rp:Nat×Nat):iR g none rp:=λid gen off e=>by cases e
def BL (sp:Sp)(pl:Plc)(cells:List Cell)(s:St)(x:sp.ty.den)(rest:List Cell)(s':St):Prop:=
 jg s s'/\(∃used,cells=used++rest/\used.length=sp.size)/\∀B g w,HRel B g s.hp w->∃g',Lk g g'/\HRel B g' s'.hp w/\∀us rp,aF g cells us->iR g pl rp->
  ∃NW R7 nb,us=NW++R7/\Pass g'.aD w sp x rp NW nb/\dP g' nb/\aF g' rest R7/\(∀b∈nb,g.dj b≠some 0)/\mP s'.hp g' w sp (cells.take sp.size) NW
theorem HRel.Nj {B:Base}{g:Gh}{hp:List (Nat×Obj)}{w:World}(R:HRel B g hp w){id gen:Nat}{xs:List Int}{a ag bid bg off:Nat}(h:look hp id=some (.sA gen xs a ag bid bg off)):
  ∃g' nb,Lk g g'/\HRel B g' ((id, .dead gen)::hp) w/\nb.Nodup/\(∀b∈nb,g'.dj b=some 0/\g.dj b≠some 0)/\
   ((g.cv a ag= .pointer none/\g.cv id gen= .slice none 0 0/\xs=[]/\nb=[])\/∃bb oo,g.cv bid bg= .pointer (some ⟨bb,oo,none⟩)/\g.cv a ag= .pointer (some ⟨bb,oo+off,none⟩)/\OwnAt g'.aD w false (.int .u8) xs [g.cv id gen] nb/\∀b∈nb,∃arr,w.heap[b]?=some (.cells arr lQ (0,0))):=by
 obtain⟨h1,h2,h3,h4⟩:=R.eD _ _ h;have R1:HRel B g ((id, .dead gen)::hp) w:=R.put h rfl trivial
 rcases h4 with⟨k1,k2,k3⟩|⟨bb,oo,k1,k2,⟨k3,k4⟩|⟨b,cap,arr,ty,e1,e2,e3,e4,e5,e6,e7,rfl⟩⟩
 ·exact⟨g,[],Lk.refl g,R1,aG5,λb hb=>by simp at hb, .inl ⟨k1,k2,k3,rfl⟩⟩
 ·exact⟨g,[],Lk.refl g,R1,aG5,λb hb=>by simp at hb, .inr ⟨bb,oo,k1,k2, .inl ⟨by rw[k3],k4,rfl⟩,λb hb=>by simp at hb⟩⟩
 ·obtain⟨g2,l2,o2,i2,s2,f2,z2,R2⟩:=R1.QV e2 e3 (λo ho=>by rw[aE]at ho;injection ho with ho;exact .inl ⟨gen,ho.symm⟩);refine⟨g2,[b],l2,R2,by simp,λx hx=> ?_, .inr ⟨bb,oo,k1,k2, .inr ⟨b,cap,arr,lQ,[],by rw[e1],rfl,e4,e5,by simpa[Ty.size]using e6, ?_⟩,λx hx=> ?_⟩⟩
  ·simp only[List.mem_singleton]at hx;subst hx;exact⟨z2,by rw[e2];simp⟩
  ·unfold jI;simp only[aG2,aH6];exact⟨e7.flat rfl,trivial⟩
  ·simp only[List.mem_singleton]at hx;subst hx;exact⟨arr,e4⟩
theorem HRel.tE {B:Base}{g:Gh}{hp:List (Nat×Obj)}{w:World}(R:HRel B g hp w):∀id gn cs,look hp id=some (.iH gn cs)->gn<g.top id:=λ_ _ _ h=>gN R h
theorem LW {α:Type}{arr O L:List α}{o off n:Nat}(h:arr=O.take o++L++O.drop (o+L.length))(ho:o+L.length<=O.length)(hn:off+n<=L.length):(L.drop off).take n=(arr.drop (o+off)).take n:=by
 subst h
 apply List.ext_getElem?
 intro j;simp only[List.getElem?_take,List.getElem?_drop];split
 ·rw[aC7,List.getElem?_append_right (by simp;omega),List.getElem?_append_left (by simp;omega)]
  congr 1
  simp;omega
 ·rfl
theorem BL.close {sp:Sp}{pl:Plc}{cells:List Cell}{s t:St}{x:sp.ty.den}{rest:List Cell}{s':St}{id gen:Nat}(h:(pX id gen).run s=some ((),t))(k:BL sp pl cells t x rest s'):BL sp pl cells s x rest s':=by
 obtain⟨e1,e2,e3⟩:=wO h;obtain⟨k1,k2,k3⟩:=k;refine⟨⟨k1.1.trans e1,λi gn cs hl=>k1.2 i gn cs (e2 i gn cs hl)⟩,k2,λB g w R=> ?_⟩;obtain⟨g1,l1,R1⟩:=e3 R;obtain⟨g2,l2,R2,c⟩:=k3 B g1 w R1;refine⟨g2,l1.trans l2,R2,λus rp hu xF=> ?_⟩;obtain⟨u1,u2,nb,a1,a2,a3,a4,a5,a6⟩:=c us rp (hu.mono l1.le) (xF.mono l1.le);exact⟨u1,u2,nb,a1,a2,a3,a4,λb hb e=>a5 b hb (l1.kp b e).1,a6⟩
theorem uZ:∀(sp:Sp)(pl:Plc)(cells:List Cell)(s:St)(x:sp.ty.den)(rest:List Cell)(s':St),(zz sp pl cells).run s=some ((x,rest),s')->BL sp pl cells s x rest s':=by
 intro sp
 induction sp with
 |un=>
  intro pl cells s x rest s' h;obtain⟨h1,rfl⟩:=ah h
  injection h1 with h1 h2
  subst h2;exact⟨jg.refl _,⟨[],rfl,rfl⟩,λB g w R=>⟨g,Lk.refl g,R,λus rp hu _=>⟨[],us,[],rfl,⟨rfl,rfl⟩,⟨aG5,λb hb=>by simp at hb⟩,hu,λb hb=>by simp at hb,trivial⟩⟩⟩
 |pr a b vW vY=>
  intro pl cells s x rest s' h;obtain⟨⟨p1,p2⟩,t,h1,h2⟩:=AM.af h;obtain⟨⟨q1,q2⟩,t2,h3,h4⟩:=AM.af h2;obtain⟨h5,rfl⟩:=ah h4
  injection h5 with h5 h6
  subst h5;subst h6;obtain⟨ka,⟨ca,ea,la⟩,sa⟩:=vW _ _ _ _ _ _ h1;obtain⟨kb,⟨cb,eb,lb⟩,sb⟩:=vY _ _ _ _ _ _ h3;have eb:p2=cb++rest:=eb;refine⟨ka.trans kb,⟨ca++cb,by rw[ea,eb,aC7],by simp[la,lb,Sp.size]⟩,λB g w R=> ?_⟩;obtain⟨g1,l1,R1,c1⟩:=sa B g w R;obtain⟨g2,l2,R2,c2⟩:=sb B g1 w R1;refine⟨g2,l1.trans l2,R2,λus rp hu xF=> ?_⟩;obtain⟨u1,u2,n1,rfl,P1,O1,r1,f1,L1⟩:=c1 us rp hu xF;obtain⟨u3,u4,n2,rfl,P2,O2,r2,f2,L2⟩:=c2 u2 (rp.1,rp.2+a.size) r1 ((xF.mono l1.le).on a.size);have oR:=P1.length;have oI:=P2.length;refine⟨u1++u3,u4,n1++n2,by simp,⟨u1,u3,n1,n2,rfl,rfl,P1.mono l2.le.aD,P2⟩,dP.append l2 O1 O2 f2,r2,λb hb=> ?_, ?_⟩
  ·rcases aE9.1 hb with hb|hb
   ·exact f1 b hb
   ·exact λe=>f2 b hb (l1.kp b e).1
  ·have e1:((cells.take (a.size+b.size)).take a.size)=cells.take a.size:=by rw[List.take_take];congr 1;omega
   have e2:((cells.take (a.size+b.size)).drop a.size)=p2.take b.size:=by
    rw[ea,<-la,List.drop_take,List.drop_left]
    congr 1
    omega
   have e3:(u1++u3).take a.size=u1:=by rw[<-oR];simp
   have e4:(u1++u3).drop a.size=u3:=by rw[<-oR];simp
   show mP _ _ _ a ((cells.take (a.size+b.size)).take a.size) ((u1++u3).take a.size)/\mP _ _ _ b ((cells.take (a.size+b.size)).drop a.size) ((u1++u3).drop a.size);rw[e1,e2,e3,e4];exact⟨L1.mono l2.le (λid gn cs hl=>⟨kb.2 id gn cs hl,by rw[l2.out]⟩) R1.tE,L2⟩
 |cH τ=>
  intro pl cells s x rest s' h
  cases cells with
  |nil=>exact nomatch h
  |cons c cs=>
   obtain⟨y,t,h1,h2⟩:=AM.af h;obtain⟨h3,rfl⟩:=ah h2
   injection h3 with h3 h4
   subst h3;subst h4;refine⟨Ja h1,⟨[c],rfl,rfl⟩,λB g w R=> ?_⟩;obtain⟨g',l,R',hd⟩:=(B8 τ c _ _ _ h1).2 B g w R;refine⟨g',l,R',λus rp hu _=> ?_⟩;obtain⟨u,r,rfl,nN,hr⟩:=hu;obtain⟨o1,o2⟩:=hd u nN;exact⟨[u],r,[],rfl,⟨rfl,o1,u,rfl,o2⟩,⟨aG5,λb hb=>by simp at hb⟩,hr.mono l.le,λb hb=>by simp at hb,trivial⟩
 |own τ dp=>
  intro pl cells s x rest s' h
  cases cells with
  |nil=>exact nomatch h
  |cons c cs=>
   cases c with
   |nil=>
    obtain⟨h3,rfl⟩:=ah h
    injection h3 with h3 h4
    subst h3;subst h4;refine⟨jg.refl _,⟨[.nil],rfl,rfl⟩,λB g w R=>⟨g,Lk.refl g,R,λus rp hu _=> ?_⟩⟩;obtain⟨u,r,rfl,nN,hr⟩:=hu;have nN:_=_:=nN;subst nN;exact⟨_,r,[],rfl, .inl ⟨rfl,rfl,rfl⟩,⟨aG5,λb hb=>by simp at hb⟩,hr,λb hb=>by simp at hb,trivial⟩
   |own id gen=>
    obtain⟨u0,s0,zB,h⟩:=AM.af h;refine BL.close zB ?_;simp only[AM.run]at h;split at h
    ·rename_i g0 τ' deep xs heq;obtain⟨hb,h'⟩:=bm h;simp only[aC6]at hb;obtain rfl:=beq_eq hb.1;simp only[AM.run]at h';obtain⟨ys,t,h1,h2⟩:=AM.af h';obtain⟨h3,rfl⟩:=ah h2
     injection h3 with h3 h4
     subst h3;subst h4;obtain⟨ee,hx,rfl⟩:=j6 h1;subst ee;subst hx;refine⟨oZ (λgn cs hl=>by rw[heq]at hl;cases hl),⟨[.own id g0],rfl,rfl⟩,λB g w R=> ?_⟩;obtain⟨g',nb,l,_,R',hn,hp,hP⟩:=R.Ye heq hb.2;refine⟨g',l,R',λus rp hu _=> ?_⟩;obtain⟨u,r,rfl,nN,hr⟩:=hu;exact⟨[u],r,nb,rfl,by rw[nN.2.1];exact hP,⟨hn,λb hb=>(hp b hb).1⟩,hr.mono l.le,λb hb=>(hp b hb).2,trivial⟩
    ·cases h
   |_=>exact nomatch h
 |lnd τ dp=>
  intro pl cells s x rest s' h
  cases cells with
  |nil=>exact nomatch h
  |cons c cs=>
   cases c with
   |nil=>
    obtain⟨h3,rfl⟩:=ah h
    injection h3 with h3 h4
    subst h3;subst h4;refine⟨jg.refl _,⟨[.nil],rfl,rfl⟩,λB g w R=>⟨g,Lk.refl g,R,λus rp hu _=> ?_⟩⟩;obtain⟨u,r,rfl,nN,hr⟩:=hu;have nN:_=_:=nN;subst nN;exact⟨_,r,[],rfl, .inl ⟨rfl,rfl,rfl⟩,⟨aG5,λb hb=>by simp at hb⟩,hr,λb hb=>by simp at hb, .inl ⟨rfl,rfl⟩⟩
   |own id gen=>
    obtain⟨u0,s0,zB,h⟩:=AM.af h;refine BL.close zB ?_;simp only[AM.run]at h;split at h
    ·rename_i g0 τ' deep xs heq;obtain⟨hb,h'⟩:=bm h;simp only[aC6]at hb;obtain rfl:=beq_eq hb.1;simp only[AM.run]at h';obtain⟨ys,t,h1,h2⟩:=AM.af h';obtain⟨h3,rfl⟩:=ah h2
     injection h3 with h3 h4
     subst h3;subst h4;obtain⟨ee,hx,rfl⟩:=j6 h1;subst ee;subst hx;refine⟨oZ (λgn cs hl=>by rw[heq]at hl;cases hl),⟨[.own id g0],rfl,rfl⟩,λB g w R=> ?_⟩;obtain⟨g',nb,l,_,R',hn,hp,hP⟩:=R.Ye heq hb.2
     have R2:HRel B g' ((id, .iH g0 (0,[]))::s0.hp) w:=(R'.put (aE _ _ _) (o':= .iH g0 (0,[])) rfl trivial).congr λi=>EE _ _ _ _ i
     refine⟨g',l,R2,λus rp hu _=> ?_⟩;obtain⟨u,r,rfl,nN,hr⟩:=hu;refine⟨[u],r,nb,rfl,by rw[nN.2.1];exact hP,⟨hn,λb hb=>(hp b hb).1⟩,hr.mono l.le,λb hb=>(hp b hb).2, .inr ⟨id,g0,rfl, ?_,aF7 nN.1 (l.le.top _), ?_⟩⟩
     ·rw[nN.2.1,show g'.cv id g0=g.cv id g0 from l.le.cv _ _ nN.1]
     ·rw[show g'.cv id g0=g.cv id g0 from l.le.cv _ _ nN.1,<-nN.2.1];exact nN.2.2
    ·cases h
   |_=>exact nomatch h
 |ptr wh st sp ih=>
  intro pl cells s x rest s' h
  cases cells with
  |nil=>exact nomatch h
  |cons c cs=>
   cases c with
   |ptr id gen off=>
    simp only[zz,AM.run]at h;split at h
    ·rename_i g0 bt bs heq;obtain⟨hb,h'⟩:=bm h;simp only[aC6]at hb;obtain rfl:=beq_eq hb.1.1;have zA:=aE7 hb.2;simp only[AM.run]at h';obtain⟨⟨y,rst⟩,t,h1,h2⟩:=AM.af h';obtain⟨h3,rfl⟩:=ah h2
     injection h3 with h3 h4
     subst h3;subst h4;obtain⟨k1,⟨used,eu,lu⟩,hs⟩:=ih _ _ _ _ _ _ h1
     have ZF:jg s {s with hp:=(id, .iH g0 (bt,bs))::s.hp}:=oZ λgn cs hl=>by rw[heq]at hl;cases hl
     refine⟨ZF.trans k1,⟨[.ptr id g0 off],rfl,rfl⟩,λB g w R=> ?_⟩;have hO:=R.eD _ _ heq;obtain⟨b,o,arr,ty,L,K9,WJ,Xu,RZ,VV,af7,ab9,ZV,Tg⟩:=hO;have Tg:ty=bt:=Tg;subst Tg;have ht:=gN R heq;have R1:HRel B g ((id, .iH g0 (ty,bs))::s.hp) w:=R.put heq rfl trivial;obtain⟨g2,l2,o2,i2,s2,f2,z2,R2⟩:=R1.QV WJ.1 WJ.2 (λo ho=>by rw[aE]at ho;injection ho with ho;exact .inr ⟨g0,(ty,bs),ho.symm⟩);obtain⟨g3,l3,R3,c3⟩:=hs B g2 w R2;have WL:=l2.trans l3;refine⟨g3,WL,R3,λus rp hu _=> ?_⟩;obtain⟨u,r,rfl,nN,hr⟩:=hu;obtain⟨_,b1,o1,e1,rfl⟩:=nN;rw[K9]at e1
     injection e1 with e1;injection e1 with e1;injection e1 with e1 e2
     subst e1;subst e2;have am6:L.length=bs.length:=RZ.length;have IW:aF g2 (cut off sp.size bs) ((L.drop off).take sp.size):=((RZ.mono l2.le).drop off).take sp.size
     have W3:iR g2 (some (id,g0,off)) (b,o+off):=λUf RU Ro e=>by
      injection e with e;injection e with e1 e;injection e with e2 e3
      subst e1;subst e2;subst e3;exact⟨aF7 ht (l2.le.top _),b,o,(l2.le.cv _ _ ht).trans K9,rfl⟩
     obtain⟨u1,u2,n1,Xs,P1,O1,r1,f1,aA4⟩:=c3 _ (b,o+off) IW W3;have ZD:=P1.length
     have yi:u2=[]:=by
      have:=congrArg List.length Xs;simp only[aF5,aG6,aC2,ZD]at this;exact aG4 (by omega)
     subst yi;rw[aF0]at Xs;have Ru:(L.drop off).take sp.size=(arr.toList.drop (o+off)).take sp.size:=LW VV af7 (by omega);have K7:g3.dj b=some 0:=(l3.kp b z2).1
     have al8:arr.size=(g.outer id).length:=by
      have:arr.toList.length=(g.outer id).length:=by
       rw[VV];simp only[aC2,aF5,aG6];omega
      simpa using this
     have as0:=ab9;have az9:(g.outer id).length=bs.length:=ZV;refine⟨[_],r,b::n1,rfl,⟨b,o+off,arr,ty,n1,rfl,rfl,Xu,⟨λhw=> ?_,λhw=> ?_⟩, ?_, ?_⟩,⟨List.nodup_cons.2 ⟨λhm=>f1 b hm z2,O1.1⟩,λx hx=> ?_⟩,hr.mono WL.le,λx hx=> ?_, ?_⟩
     ·subst hw;have:=hb.1.2.1;simp only[aE6,aD3,aC6]at this;have a1:=beq_eq this.1.1;have a2:=beq_eq this.1.2;have a3:=beq_eq this.2;exact⟨by omega,by omega,a3⟩
     ·subst hw;have:=hb.1.2.2;rw[aD3]at this;rw[show o+off=off by omega,show arr.size=bs.length by omega];exact this
     ·omega
     ·rw[<-Ru,Xs];exact P1
     ·rcases aF8.1 hx with rfl|hy
      ·exact K7
      ·exact O1.2 x hy
     ·rcases aF8.1 hx with rfl|hy
      ·rw[WJ.1];simp
      ·exact λe=>f1 x hy (l2.kp x e).1
     ·refine⟨id,g0,off,bs,b,o,arr,ty,L,rfl,rfl,k1.2 id g0 (ty,bs) (aE _ _ _),(WL.le.cv _ _ ht).trans K9,Xu,by rw[WL.out];exact VV,by rw[WL.out];exact af7,by rw[WL.out];exact⟨as0,az9⟩,zA,RZ.mono WL.le, ?_⟩
      have zB:cut off sp.size bs=(cut off sp.size bs).take sp.size:=by unfold cut;rw[List.take_take,Nat.min_self]
      rw[zB,Xs];exact aA4
    ·cases h
   |_=>exact nomatch h
 |yK ok=>
  intro pl cells s x rest s' h
  cases cells with
  |nil=>exact nomatch h
  |cons c cs=>
   cases c with
   |ptr id gen off=>
    simp only[zz,AM.run]at h;split at h
    ·rename_i g0 bt bs heq;obtain⟨hb,h'⟩:=bm h;simp only[aC6]at hb;obtain rfl:=beq_eq hb.1.1;have zA:=aE7 hb.2;have IT:=hb.1.2
     have place:∀{B g w},HRel B g s.hp w->∀{u},bu g (.ptr id g0 off) u->∃b arr,u= .pointer (some ⟨b,off,none⟩)/\g.cv id g0= .pointer (some ⟨b,0,none⟩)/\w.heap[b]?=some (.cells arr bt (0,0))/\arr.size=bs.length/\
       aF g (cut off 2 bs) ((arr.toList.drop off).take 2):=by
      intro B g w R u hu;obtain⟨b,o,arr,ty,L,K9,WJ,Xu,RZ,VV,af7,ab9,ZV,Tg⟩:=R.eD _ _ heq;have Tg:ty=bt:=Tg;subst Tg;have ZV:(g.outer id).length=bs.length:=ZV;subst ab9;have am6:L.length=bs.length:=RZ.length
      have e5:arr.toList=L:=by
       rw[VV,List.take_zero,List.nil_append,List.drop_eq_nil_of_le (by omega),aF0]
      obtain⟨_,b1,o1,e1,rfl⟩:=hu;rw[K9]at e1
      injection e1 with e1;injection e1 with e1;injection e1 with e1 e2
      subst e1;subst e2;refine⟨b,arr,by rw[Nat.zero_add],K9,Xu,by rw[<-Array.length_toList,e5,am6], ?_⟩;rw[e5];exact(RZ.drop off).take 2
     split at h'
     ·rename_i hc;obtain⟨h3,rfl⟩:=ah h'
      injection h3 with h3 h4
      subst h3;subst h4;refine⟨jg.refl _,⟨[_],rfl,rfl⟩,λB g w R=>⟨g,Lk.refl g,R,λus rp hu _=> ?_⟩⟩;obtain⟨u,r,rfl,nN,hr⟩:=hu;obtain⟨b,arr,rfl,kM,ha,hs,KY⟩:=place R nN;rw[hc]at KY;obtain⟨u1,r1,e1,k1,u2,r2,e2,k2,e3⟩:=KY;have k1:_=_:=k1;have k2:_=_:=k2;have e3:_=_:=e3;subst k1;subst k2;subst e3;subst e2;refine⟨[_],r,[],rfl,⟨b,off,arr,bt,rfl,ha,by rw[hs];exact IT,by omega, ?_⟩,⟨aG5,λb hb=>by simp at hb⟩,hr,λb hb=>by simp at hb,trivial⟩;rw[e1];exact .inl ⟨rfl,rfl,rfl⟩
     ·rename_i a ag ai8 Yw hc;simp only[AM.run]at h';split at h'
      ·rename_i g2 xs a' YM bid bg off2 Rz;obtain⟨AP,an5⟩:=bm h';simp only[aC6]at AP;obtain rfl:=beq_eq AP.1.1.1;obtain rfl:=beq_eq AP.1.1.2;obtain rfl:=beq_eq AP.1.2;obtain rfl:=beq_eq AP.2.1.1;obtain rfl:=beq_eq AP.2.1.2;obtain rfl:=beq_eq AP.2.2;simp only[AM.run,aG1,aH2]at an5;obtain⟨⟨rfl,rfl⟩,rfl⟩:=an5;refine⟨oZ (λgn cs hl=>by rw[Rz]at hl;cases hl),⟨[_],rfl,rfl⟩,λB g w R=> ?_⟩;obtain⟨g',nb,l,R',hn,hp,hP⟩:=R.Nj Rz;refine⟨g',l,R',λus rp hu xF=> ?_⟩;obtain⟨u,r,rfl,nN,hr⟩:=hu;obtain⟨b,arr,rfl,kM,ha,hs,KY⟩:=place R nN;rw[hc]at KY;obtain⟨u1,r1,e1,k1,u2,r2,e2,k2,e3⟩:=KY;have e3:_=_:=e3;subst e3;subst e2;refine⟨[_],r,nb,rfl,⟨b,_,arr,bt,rfl,ha,by rw[hs];exact IT,by omega, ?_⟩,⟨hn,λb hb=>(hp b hb).1⟩,hr.mono l.le,λb hb=>(hp b hb).2,trivial⟩;rw[e1]
       rcases hP with⟨q1,q2,q3,q4⟩|⟨bb,oo,q1,q2,q3⟩
       ·exact .inl ⟨by rw[k1.2.1,k2.2.1,q1,q2],q3,q4⟩
       ·rw[kM]at q1
        injection q1 with q1;injection q1 with q1;injection q1 with q1 q4
        subst q1;subst q4;exact .inr ⟨u2,by rw[k1.2.1,q2,Nat.zero_add],by rw[k2.2.1];exact q3⟩
      ·cases h'
     ·cases h'
    ·cases h
   |_=>exact nomatch h
 |sA=>
  intro pl cells s x rest s' h
  cases cells with
  |nil=>exact nomatch h
  |cons c cs=>
   cases cs with
   |nil=>cases c<;>exact nomatch h
   |cons c2 cs=>
    cases c with
    |np=>
     cases c2 with
     |nil=>
      obtain⟨h3,rfl⟩:=ah h
      injection h3 with h3 h4
      subst h3;subst h4;refine⟨jg.refl _,⟨[.np, .nil],rfl,rfl⟩,λB g w R=>⟨g,Lk.refl g,R,λus rp hu _=> ?_⟩⟩;obtain⟨u,r,rfl,nN,u',r',rfl,yi,hr⟩:=hu;have nN:_=_:=nN;have yi:_=_:=yi;subst nN;subst yi;exact⟨[_,_],r',[],rfl, .inl ⟨rfl,rfl,rfl⟩,⟨aG5,λb hb=>by simp at hb⟩,hr,λb hb=>by simp at hb,trivial⟩
     |_=>exact nomatch h
    |own a ag=>
     cases c2 with
     |own id gen=>
      simp only[zz,AM.run]at h;split at h
      ·rename_i g0 xs a' YM bid bg off heq;obtain⟨hb,h'⟩:=bm h;simp only[aC6]at hb;obtain rfl:=beq_eq hb.1.1.1;obtain rfl:=beq_eq hb.1.1.2;obtain rfl:=beq_eq hb.1.2;simp only[AM.run,aG1,aH2]at h';obtain⟨⟨rfl,rfl⟩,rfl⟩:=h';refine⟨oZ (λgn cs hl=>by rw[heq]at hl;cases hl),⟨[_,_],rfl,rfl⟩,λB g w R=> ?_⟩;obtain⟨g',nb,l,R',hn,hp,hP⟩:=R.Nj heq;refine⟨g',l,R',λus rp hu xF=> ?_⟩;obtain⟨u,r,rfl,nN,u',r',rfl,yi,hr⟩:=hu;refine⟨[u,u'],r',nb,rfl, ?_,⟨hn,λb hb=>(hp b hb).1⟩,hr.mono l.le,λb hb=>(hp b hb).2,trivial⟩
       rcases hP with⟨k1,k2,k3,k4⟩|⟨bb,oo,k1,k2,k3⟩
       ·exact .inl ⟨by rw[nN.2.1,yi.2.1,k1,k2],k3,k4⟩
       ·have av4:pl=some (bid,bg,off):=by
         have:=hb.2;unfold Plc.is at this;split at this
         ·simp only[aC6]at this;rw[beq_eq this.1.1,beq_eq this.1.2,beq_eq this.2]
         ·cases this
        obtain⟨_,b',o',q1,q2⟩:=xF _ _ _ av4;rw[k1]at q1
        injection q1 with q1;injection q1 with q1;injection q1 with q1 q3
        subst q1;subst q3;refine .inr ⟨u', ?_,by rw[yi.2.1];exact k3⟩;rw[nN.2.1,k2,q2]
      ·cases h
     |_=>exact nomatch h
    |_=>exact nomatch h
 |err=>
  intro pl cells s x rest s' h
  cases cells with
  |nil=>exact nomatch h
  |cons c cs=>
   cases c with
   |err b=>
    obtain⟨h3,rfl⟩:=ah h
    injection h3 with h3 h4
    subst h3;subst h4;refine⟨jg.refl _,⟨[_],rfl,rfl⟩,λB g w R=>⟨g,Lk.refl g,R,λus rp hu _=> ?_⟩⟩;obtain⟨u,r,rfl,nN,hr⟩:=hu;exact⟨[u],r,[],rfl,⟨rfl,u,rfl,nN⟩,⟨aG5,λb hb=>by simp at hb⟩,hr,λb hb=>by simp at hb,trivial⟩
   |_=>exact nomatch h
 |np=>
  intro pl cells s x rest s' h
  cases cells with
  |nil=>exact nomatch h
  |cons c cs=>
   cases c with
   |np=>
    obtain⟨h3,rfl⟩:=ah h
    injection h3 with h3 h4
    subst h4;refine⟨jg.refl _,⟨[_],rfl,rfl⟩,λB g w R=>⟨g,Lk.refl g,R,λus rp hu _=> ?_⟩⟩;obtain⟨u,r,rfl,nN,hr⟩:=hu;have nN:_=_:=nN;subst nN;exact⟨_,r,[],rfl,⟨rfl,rfl⟩,⟨aG5,λb hb=>by simp at hb⟩,hr,λb hb=>by simp at hb,trivial⟩
   |_=>exact nomatch h
 |slf f m=>
  intro pl cells s x rest s' h
  cases cells with
  |nil=>exact nomatch h
  |cons c cs=>
   cases c with
   |ptr id gen off=>
    obtain⟨_,h⟩:=bm h;obtain⟨h3,rfl⟩:=ah h
    injection h3 with h3 h4
    subst h4;refine⟨jg.refl _,⟨[_],rfl,rfl⟩,λB g w R=>⟨g,Lk.refl g,R,λus rp hu _=> ?_⟩⟩;obtain⟨u,r,rfl,nN,hr⟩:=hu;obtain⟨_,b,o,_,rfl⟩:=nN;exact⟨_,r,[],rfl,⟨rfl,_,_,rfl⟩,⟨aG5,λb hb=>by simp at hb⟩,hr,λb hb=>by simp at hb,trivial⟩
   |_=>exact nomatch h
end Go.Abs
end

section
namespace Go.Abs
def nA (aD:Rd)(w0 w:World):(s:Sp)->s.ty.den->Nat×Nat->List Value->List Value->List Nat->Prop
 | .pr a b,x,pl,old,new,nb=>∃u1 u2 n1 n2,new=u1++u2/\nb=n1++n2/\nA aD w0 w a x.1 pl (old.take a.size) u1 n1/\nA aD w0 w b x.2 (pl.1,pl.2+a.size) (old.drop a.size) u2 n2
 | .lnd τ dp,xs,_,old,new,nb=>new=old/\OwnAt aD w (dp&& !τ.flat) τ xs new nb
 | .ptr _ _ s,x,_,old,new,nb=>∃b o kN FP arr L jd,old=[.pointer (some ⟨b,o,none⟩)]/\new=old/\nb=b::jd/\w0.heap[b]?=some (.cells kN FP (0,0))/\w.heap[b]?=some (.cells arr FP (0,0))/\
   arr.toList=kN.toList.take o++L++kN.toList.drop (o+L.length)/\o+L.length<=kN.toList.length/\L.length=s.size/\nA aD w0 w s x (b,o) ((kN.toList.drop o).take s.size) L jd
 |s,x,pl,_,new,nb=>Pass aD w s x pl new nb
theorem nA.length {aD:Rd}{w0 w:World}:∀{s:Sp}{x:s.ty.den}{pl:Nat×Nat}{old new:List Value}{nb:List Nat},nA aD w0 w s x pl old new nb->new.length=s.size
 | .un,_,pl,_,_,_,k=>Pass.length (s:= .un) (x:=()) (pl:=pl) k
 | .pr _ _,_,_,_,_,_,⟨u1,u2,n1,n2,e,_,k1,k2⟩=>by subst e;simp[Sp.size,nA.length k1,nA.length k2]
 | .cH _,x,pl,_,_,_,k=>Pass.length (s:= .cH _) (x:=x) (pl:=pl) k
 | .own _ _,x,pl,_,_,_,k=>Pass.length (s:= .own _ _) (x:=x) (pl:=pl) k
 | .lnd _ _,x,_,_,_,_,k=>OwnAt.length k.2
 | .sA,x,pl,_,_,_,k=>Pass.length (s:= .sA) (x:=x) (pl:=pl) k
 | .yK _,x,pl,_,_,_,k=>Pass.length (s:= .yK _) (x:=x) (pl:=pl) k
 | .ptr _ _ _,_,_,_,_,_,⟨b,o,kN,FP,arr,L,jd,e,e',_⟩=>by rw[e',e];rfl
 | .err,x,pl,_,_,_,k=>Pass.length (s:= .err) (x:=x) (pl:=pl) k
 | .np,_,pl,_,_,_,k=>Pass.length (s:= .np) (x:=()) (pl:=pl) k
 | .slf f m,_,pl,_,_,_,k=>Pass.length (s:= .slf f m) (x:=()) (pl:=pl) k
theorem nA.mono {aD cQ:Rd}(h:∀b L,aD b=some L->cQ b=some L){w0 w:World}:∀{s:Sp}{x:s.ty.den}{pl:Nat×Nat}{old new:List Value}{nb:List Nat},nA aD w0 w s x pl old new nb->nA cQ w0 w s x pl old new nb
 | .un,_,_,_,_,_,k=>k
 | .pr _ _,_,_,_,_,_,⟨u1,u2,n1,n2,e,e',k1,k2⟩=>⟨u1,u2,n1,n2,e,e',nA.mono h k1,nA.mono h k2⟩
 | .cH _,x,pl,_,_,_,k=>Pass.mono h (s:= .cH _) (x:=x) (pl:=pl) k
 | .own _ _,x,pl,_,_,_,k=>Pass.mono h (s:= .own _ _) (x:=x) (pl:=pl) k
 | .lnd _ _,_,_,_,_,_,k=>⟨k.1,OwnAt.mono h k.2⟩
 | .sA,x,pl,_,_,_,k=>Pass.mono h (s:= .sA) (x:=x) (pl:=pl) k
 | .yK _,x,pl,_,_,_,k=>Pass.mono h (s:= .yK _) (x:=x) (pl:=pl) k
 | .ptr _ _ _,_,_,_,_,_,⟨b,o,kN,FP,arr,L,jd,e,e',e2,a0,a1,hL,hl,hs,k⟩=>⟨b,o,kN,FP,arr,L,jd,e,e',e2,a0,a1,hL,hl,hs,nA.mono h k⟩
 | .err,_,_,_,_,_,k=>k
 | .np,_,_,_,_,_,k=>k
 | .slf _ _,_,_,_,_,_,k=>k
structure After (aD:Rd)(w:World)(nb:List Nat)(cQ:Rd)(w':World)(jd:List Nat):Prop where
 mono:∀b L,aD b=some L->cQ b=some L
 cells:∀b L,cQ b=some L->∃arr ty fr,w'.heap[b]?=some (.cells arr ty fr)/\arr.toList=L
 same:∀b,b<w.heap.size->b∉nb->aD b=none->w'.heap[b]?=w.heap[b]?/\cQ b=none
 nodup:jd.Nodup
 Up:∀b∈jd,cQ b=none/\(b∈nb\/w.heap.size<=b)/\b<w'.heap.size
 size:w.heap.size<=w'.heap.size
 os:w'.os=w.os
 tape:w'.tape=w.tape
 output:w'.output=w.output
 fix:∀b L,aD b=some L->w'.heap[b]?=w.heap[b]?
open Classical in
noncomputable def Gh.after (g:Gh)(nb:List Nat)(cQ:Rd)(jd:List Nat):Gh:=
 {g with aD:=cQ,dj:=λx=>if x∈jd then some 0 else if x∈nb then none else g.dj x,ep:=λx=>if x∈jd\/x∈nb then none else g.ep x}
theorem HRel.after {B:Base}{g:Gh}{hp:List (Nat×Obj)}{w w':World}(R:HRel B g hp w){nb jd:List Nat}{cQ:Rd}(vr:dP g nb)(A:After g.aD w nb cQ w' jd):
  Le g (g.after nb cQ jd)/\HRel B (g.after nb cQ jd) hp w'/\dP (g.after nb cQ jd) jd/\∀b∈jd,(g.after nb cQ jd).ep b=none:=by
 have hle:Le g (g.after nb cQ jd):=⟨A.mono,λ_=>aE5 _,λ_ _ _=>rfl⟩
 have old:∀b,b<w.heap.size->b∉nb->b∉jd:=λb h1 h2 h3=>by
  rcases(A.Up b h3).2.1 with h|h
  ·exact h2 h
  ·omega
 refine⟨hle,⟨R.top,λi o hi=> ?_,λb L h=> ?_,λb L h=> ?_,λb h=> ?_,λb L h=>A.mono _ _ (R.jo b L h),λb hb hl hi=> ?_,Nat.le_trans R.size A.size,A.os.trans R.os,A.tape.trans R.tape,A.output.trans R.output,λb L h=>(A.fix b L (R.jo b L h)).trans (R.fix b L h)⟩,⟨A.nodup,λb hb=>by simp[Gh.after,hb]⟩,λb hb=>by simp[Gh.after,hb]⟩
 ·refine(R.eD i o hi).tr hle (λb hb=> ?_) rfl (gN R hi);have h1:=R.dQ b (by rw[hb];simp)
  have h2:b∉nb:=λhm=>by rw[vr.2 b hm]at hb;simp at hb
  have h3:=old b h1 h2
  have h4:g.aD b=none:=by
   cases hi:g.aD b with
   |none=>rfl
   |some L=>have:=(R.aD b L hi).1;rw[hb]at this;cases this
  exact⟨by simp[Gh.after,h2,h3,hb],by simp[Gh.after,h2,h3],(A.same b h1 h2 h4).1⟩
 ·have h':cQ b=some L:=h
  have h3:b∉jd:=λhm=>by rw[(A.Up b hm).1]at h';cases h'
  refine⟨?_, ?_,A.cells b L h'⟩
  ·by_cases h2:b∈nb
   ·simp[Gh.after,h3,h2]
   ·simp only[Gh.after,h3,h2,aH6]
    by_cases h1:b<w.heap.size
    ·cases hi:g.aD b with
     |none=>rw[(A.same b h1 h2 hi).2]at h';cases h'
     |some L'=>exact(R.aD b L' hi).1
    ·cases hl:g.dj b with
     |none=>rfl
     |some x=>exact absurd (R.dQ b (by rw[hl];simp)) h1
  ·by_cases h2:b∈nb
   ·simp[Gh.after,h2]
   ·simp only[Gh.after,h3,h2,or_self,aH6]
    by_cases h1:b<w.heap.size
    ·cases hi:g.aD b with
     |none=>rw[(A.same b h1 h2 hi).2]at h';cases h'
     |some L'=>exact(R.aD b L' hi).2.1
    ·cases hl:g.ep b with
     |none=>rfl
     |some x=>exact absurd (R.dQ b (R.ep b x hl).1) h1
 ·by_cases IV:b∈jd\/b∈nb
  ·simp[Gh.after,IV]at h
  ·have hn:g.ep b=some L:=by simpa[Gh.after,IV]using h
   rw[not_or]at IV;obtain⟨a1,arr,ty,a2,a3⟩:=R.ep b L hn
   have h4:g.aD b=none:=by
    cases hi:g.aD b with
    |none=>rfl
    |some L=>exact absurd (R.aD b L hi).1 a1
   exact⟨by simp[Gh.after,IV.1,IV.2,a1],arr,ty,((A.same b (R.dQ b a1) IV.2 h4).1).trans a2,a3⟩
 ·by_cases h3:b∈jd
  ·exact(A.Up b h3).2.2
  ·by_cases h2:b∈nb
   ·simp[Gh.after,h3,h2]at h
   ·exact aF7 (R.dQ b (by simpa[Gh.after,h3,h2]using h)) A.size
 ·obtain⟨f1,f2,f3⟩:=R.frame b hb hl hi
  have h2:b∉nb:=λhm=>by rw[vr.2 b hm]at f1;cases f1
  have h1:b<w.heap.size:=aF7 hb R.size;have h3:=old b h1 h2;obtain⟨s1,s2⟩:=A.same b h1 h2 f2;exact⟨by simp[Gh.after,h2,h3,f1],s2,s1.trans f3⟩
theorem HRel.Qx {B:Base}{g:Gh}{hp:List (Nat×Obj)}{w:World}(R:HRel B g hp w){id gen b:Nat}{bs:Nat×List Cell}(hb:g.dj b=some 0)(hn:g.ep b=none)(hl:look hp id=some (.iH gen bs))
  {ob:Obj} (xG:ob.gen=gen) (Fz:mZ {g with dj:=open Classical in λx=>if x=b then some (id+1)else g.dj x} w id ob):
  HRel B {g with dj:=open Classical in λx=>if x=b then some (id+1)else g.dj x} ((id,ob)::hp) w:=by
 have hle:Le g {g with dj:=open Classical in λx=>if x=b then some (id+1)else g.dj x}:=⟨λ_ _ h=>h,λ_=>aE5 _,λ_ _ _=>rfl⟩;refine⟨λi=> ?_,λi oi hi=> ?_,λx L hx=> ?_,λx L hx=> ?_,λx hx=> ?_,R.jo,λx hx tL hi=> ?_,R.size,R.os,R.tape,R.output,R.fix⟩
 ·show g.top i=_;rw[R.top i]
  by_cases e:id=i
  ·subst e;rw[aE,hl];show(Obj.iH gen bs).gen+1=ob.gen+1;rw[xG];rfl
  ·rw[ay _ _ e]
 ·by_cases e:id=i
  ·subst e;rw[aE]at hi;injection hi with hi;subst hi;exact Fz
  ·rw[ay _ _ e]at hi;refine(R.eD i oi hi).tr hle (λx hx=> ?_) rfl (gN R hi)
   have kn:x≠b:=λe'=>by subst e';rw[hb]at hx;simp at hx
   exact⟨by simp[kn,hx],rfl,rfl⟩
 ·obtain⟨a1,a2,a3⟩:=R.aD x L hx
  have kn:x≠b:=λe'=>by subst e';rw[hb]at a1;cases a1
  exact⟨by simp[kn,a1],a2,a3⟩
 ·obtain⟨a1,a2⟩:=R.ep x L hx;refine⟨?_,a2⟩
  by_cases kn:x=b
  ·simp[kn]
  ·simpa[kn]using a1
 ·by_cases kn:x=b
  ·subst kn;exact R.dQ x (by rw[hb];simp)
  ·exact R.dQ x (by simpa[kn]using hx)
 ·obtain⟨f1,f2,f3⟩:=R.frame x hx tL hi
  have kn:x≠b:=λe'=>by subst e';rw[hb]at f1;cases f1
  exact⟨by simp[kn,f1],f2,f3⟩
open Classical in
noncomputable def Gh.ly (g:Gh)(w:World)(id gen b:Nat)(u:Value)(nb:List Nat):Gh:=
  { g with top := fun i => if i = id then gen + 1 else g.top i
           cv:=λi k=>if i=id/\k=gen then u else g.cv i k
           dj:=λx=>if x=b\/x∈nb then some (id+1)else g.dj x
           ep:=λx=>if x∈nb then rdW w x else g.ep x
           outer:=λi=>if i=id then []else g.outer i}
theorem HRel.ly {B:Base}{g:Gh}{hp:List (Nat×Obj)}{w:World}(R:HRel B g hp w){id b cap:Nat}{arr:Array Value}{ty:TypeId}{τ:Ty}{deep:Bool}{xs:List τ.den}{nb:List Nat}
  (hb:g.dj b=some 0) (hn:g.ep b=none) (BQ:b∉nb) (ha:w.heap[b]?=some (.cells arr ty (0,0))) (hl:xs.length<=cap) (hs:arr.size=cap*τ.size) (mR:nb.Nodup) (oS:∀x∈nb,g.dj x=some 0/\rdW w x≠none)
  (hh:jI g.aD w (deep&& !τ.flat) τ xs arr.toList nb):
  ∃g',Le g g'/\(∀x,x≠b->x∉nb->g'.dj x=g.dj x/\g'.ep x=g.ep x)/\(∀i,i≠id->g'.outer i=g.outer i)/\HRel B g' ((id, .own (g.top id) τ deep xs)::hp) w/\bu g' (.own id (g.top id)) (.slice (some ⟨b,0,none⟩) xs.length cap):=by
 have hle:Le g (g.ly w id (g.top id) b (.slice (some ⟨b,0,none⟩) xs.length cap) nb):=by
  refine⟨λ_ _ h=>h,λi=> ?_,λi k hk=> ?_⟩
  ·show g.top i<=if i=id then g.top id+1 else g.top i
   split
   ·rename_i e;subst e;omega
   ·exact aE5 _
  ·show(if i=id/\k=g.top id then _ else g.cv i k)=g.cv i k;rw[aF4];rintro⟨rfl,rfl⟩;omega
 refine⟨_,hle,λx h1 h2=>⟨by simp[Gh.ly,h1,h2],by simp[Gh.ly,h2]⟩,λi hi=>by simp[Gh.ly,hi],⟨λi=> ?_,λi oi hi=> ?_,λx L hx=> ?_,λx L hx=> ?_,λx hx=> ?_,R.jo,λx hx tL hi=> ?_,R.size,R.os,R.tape,R.output,R.fix⟩,
  ⟨by simp[Gh.ly],by simp[Gh.ly],rfl⟩⟩
 ·show(if i=id then g.top id+1 else g.top i)=_
  by_cases e:id=i
  ·subst e;rw[aE,aG3 rfl];rfl
  ·rw[ay _ _ e,aF4 (λh=>e h.symm)];exact R.top i
 ·by_cases e:id=i
  ·subst e;rw[aE]at hi;injection hi with hi;subst hi
   refine .inr ⟨b,cap,arr,ty,by simp[Gh.ly],by simp[Gh.ly],by simp[Gh.ly,BQ,hn],ha,hl,hs, ?_⟩;unfold jI at hh;unfold dJ;split
   ·rename_i ec;rw[aG3 ec]at hh;exact⟨nb,hh.mono (λx hx L hL=>by simp[Gh.ly,hx,hL]),mR,λx hx=>by simp[Gh.ly,hx]⟩
   ·rename_i ec;rw[aF4 ec]at hh;exact hh.1
  ·rw[ay _ _ e]at hi;refine(R.eD i oi hi).tr hle (λx hx=> ?_) (by simp only[Gh.ly];rw[aF4 (λh=>e h.symm)]) (gN R hi)
   have kn:x≠b:=λe'=>by subst e';rw[hb]at hx;simp at hx
   have kx:x∉nb:=λhm=>by rw[(oS x hm).1]at hx;simp at hx
   exact⟨by simp[Gh.ly,kn,kx,hx],by simp[Gh.ly,kx],rfl⟩
 ·have hy:g.aD x=some L:=hx;obtain⟨a1,a2,a3⟩:=R.aD x L hy
  have kn:x≠b:=λe'=>by subst e';rw[hb]at a1;cases a1
  have kx:x∉nb:=λhm=>by rw[(oS x hm).1]at a1;cases a1
  exact⟨by simp[Gh.ly,kn,kx,a1],by simp[Gh.ly,kx,a2],a3⟩
 ·by_cases kx:x∈nb
  ·have hy:rdW w x=some L:=by simpa[Gh.ly,kx]using hx
   refine⟨by simp[Gh.ly,kx], ?_⟩;unfold rdW at hy;split at hy
   ·rename_i lD zD ai3
    injection hy with hy
    exact⟨lD,zD,ai3,hy⟩
   ·cases hy
  ·have hy:g.ep x=some L:=by simpa[Gh.ly,kx]using hx
   obtain⟨a1,a2⟩:=R.ep x L hy;refine⟨?_,a2⟩
   have kn:x≠b:=λe'=>by subst e';rw[hn]at hy;cases hy
   simp[Gh.ly,kn,kx,a1]
 ·by_cases kn:x=b
  ·subst kn;exact R.dQ x (by rw[hb];simp)
  ·by_cases kx:x∈nb
   ·exact R.dQ x (by rw[(oS x kx).1];simp)
   ·exact R.dQ x (by simpa[Gh.ly,kn,kx]using hx)
 ·obtain⟨f1,f2,f3⟩:=R.frame x hx tL hi
  have kn:x≠b:=λe'=>by subst e';rw[hb]at f1;cases f1
  have kx:x∉nb:=λhm=>by rw[(oS x hm).1]at f1;cases f1
  exact⟨by simp[Gh.ly,kn,kx,f1],f2,f3⟩
open Classical in
noncomputable def Gh.jm (g:Gh)(w:World)(id b:Nat)(nb:List Nat):Gh:=
  { g with dj := fun x => if x = b ∨ x ∈ nb then some (id + 1) else g.dj x
           ep:=λx=>if x∈nb then rdW w x else g.ep x}
theorem HRel.jm {B:Base}{g:Gh}{hp:List (Nat×Obj)}{w:World}(R:HRel B g hp w){id gen b cap:Nat}{arr:Array Value}{ty:TypeId}{τ:Ty}{deep:Bool}{xs:List τ.den}{nb:List Nat}{bs:Nat×List Cell}
  (K8:look hp id=some (.iH gen bs)) (kM:g.cv id gen= .slice (some ⟨b,0,none⟩) xs.length cap)
  (hb:g.dj b=some 0) (hn:g.ep b=none) (BQ:b∉nb) (ha:w.heap[b]?=some (.cells arr ty (0,0))) (hl:xs.length<=cap) (hs:arr.size=cap*τ.size) (mR:nb.Nodup) (oS:∀x∈nb,g.dj x=some 0/\rdW w x≠none)
  (hh:jI g.aD w (deep&& !τ.flat) τ xs arr.toList nb):
  ∃g',Le g g'/\(∀x,x≠b->x∉nb->g'.dj x=g.dj x/\g'.ep x=g.ep x)/\g'.outer=g.outer/\HRel B g' ((id, .own gen τ deep xs)::hp) w:=by
 have hle:Le g (g.jm w id b nb):=⟨λ_ _ h=>h,λ_=>aE5 _,λ_ _ _=>rfl⟩;refine⟨_,hle,λx h1 h2=>⟨by simp[Gh.jm,h1,h2],by simp[Gh.jm,h2]⟩,rfl,⟨λi=> ?_,λi oi hi=> ?_,λx L hx=> ?_,λx L hx=> ?_,λx hx=> ?_,R.jo,λx hx tL hi=> ?_,R.size,R.os,R.tape,R.output,R.fix⟩⟩
 ·show g.top i=_;rw[R.top i]
  by_cases e:id=i
  ·subst e;rw[aE,K8];rfl
  ·rw[ay _ _ e]
 ·by_cases e:id=i
  ·subst e;rw[aE]at hi;injection hi with hi;subst hi
   refine .inr ⟨b,cap,arr,ty,kM,by simp[Gh.jm],by simp[Gh.jm,BQ,hn],ha,hl,hs, ?_⟩;unfold jI at hh;unfold dJ;split
   ·rename_i ec;rw[aG3 ec]at hh;exact⟨nb,hh.mono (λx hx L hL=>by simp[Gh.jm,hx,hL]),mR,λx hx=>by simp[Gh.jm,hx]⟩
   ·rename_i ec;rw[aF4 ec]at hh;exact hh.1
  ·rw[ay _ _ e]at hi;refine(R.eD i oi hi).tr hle (λx hx=> ?_) rfl (gN R hi)
   have kn:x≠b:=λe'=>by subst e';rw[hb]at hx;simp at hx
   have kx:x∉nb:=λhm=>by rw[(oS x hm).1]at hx;simp at hx
   exact⟨by simp[Gh.jm,kn,kx,hx],by simp[Gh.jm,kx],rfl⟩
 ·have hy:g.aD x=some L:=hx;obtain⟨a1,a2,a3⟩:=R.aD x L hy
  have kn:x≠b:=λe'=>by subst e';rw[hb]at a1;cases a1
  have kx:x∉nb:=λhm=>by rw[(oS x hm).1]at a1;cases a1
  exact⟨by simp[Gh.jm,kn,kx,a1],by simp[Gh.jm,kx,a2],a3⟩
 ·by_cases kx:x∈nb
  ·have hy:rdW w x=some L:=by simpa[Gh.jm,kx]using hx
   refine⟨by simp[Gh.jm,kx], ?_⟩;unfold rdW at hy;split at hy
   ·rename_i lD zD ai3
    injection hy with hy
    exact⟨lD,zD,ai3,hy⟩
   ·cases hy
  ·have hy:g.ep x=some L:=by simpa[Gh.jm,kx]using hx
   obtain⟨a1,a2⟩:=R.ep x L hy;refine⟨?_,a2⟩
   have kn:x≠b:=λe'=>by subst e';rw[hn]at hy;cases hy
   simp[Gh.jm,kn,kx,a1]
 ·by_cases kn:x=b
  ·subst kn;exact R.dQ x (by rw[hb];simp)
  ·by_cases kx:x∈nb
   ·exact R.dQ x (by rw[(oS x kx).1];simp)
   ·exact R.dQ x (by simpa[Gh.jm,kn,kx]using hx)
 ·obtain⟨f1,f2,f3⟩:=R.frame x hx tL hi
  have kn:x≠b:=λe'=>by subst e';rw[hb]at f1;cases f1
  have kx:x∉nb:=λhm=>by rw[(oS x hm).1]at f1;cases f1
  exact⟨by simp[Gh.jm,kn,kx,f1],f2,f3⟩
open Classical in
noncomputable def Gh.qo (g:Gh)(id gen:Nat)(u:Value)(bo:Option Nat):Gh:=
  { g with top := fun i => if i = id then gen + 1 else g.top i
           cv:=λi k=>if i=id/\k=gen then u else g.cv i k
           dj:=λx=>if bo=some x then some (id+1)else g.dj x}
theorem HRel.JU {B:Base}{g:Gh}{hp:List (Nat×Obj)}{w:World}(R:HRel B g hp w){id a ag bid bg off:Nat}{xs:List Int}{u2:Value}{nb:List Nat}{bb oo:Nat}
  (Mt:ag<g.top a) (I1:bg<g.top bid) (jy:a≠id) (hO:dP g nb) (hn:∀b∈nb,g.ep b=none) (kM:g.cv bid bg= .pointer (some ⟨bb,oo,none⟩)) (hb:qd g.aD w (bb,oo+off) xs [g.cv a ag,u2] nb):
  ∃g',Le g g'/\(∀x,x∉nb->g'.dj x=g.dj x/\g'.ep x=g.ep x)/\g'.outer=g.outer/\HRel B g' ((id, .sA (g.top id) xs a ag bid bg off)::hp) w/\bu g' (.own id (g.top id)) u2:=by
 have aA6:oc (g.cv a ag)=true:=by
  rcases hb with⟨e,_⟩|⟨v,e,_⟩
  ·injection e with e;rw[e];rfl
  ·injection e with e;rw[e];rfl
 have key:∀bo:Option Nat,(∀x,bo=some x->x∈nb)->(∀x∈nb,bo=some x)->oc u2=true->
   ((g.cv a ag= .pointer none/\u2= .slice none 0 0/\xs=[])\/(g.cv a ag= .pointer (some ⟨bb,oo+off,none⟩)/\((u2= .slice none 0 0/\xs=[])\/
    ∃b cap arr ty,bo=some b/\u2= .slice (some ⟨b,0,none⟩) xs.length cap/\w.heap[b]?=some (.cells arr ty (0,0))/\xs.length<=cap/\arr.size=cap/\Els g.aD (.int .u8) xs arr.toList 0/\ty=lQ)))->
   ∃g',Le g g'/\(∀x,x∉nb->g'.dj x=g.dj x/\g'.ep x=g.ep x)/\g'.outer=g.outer/\HRel B g' ((id, .sA (g.top id) xs a ag bid bg off)::hp) w/\bu g' (.own id (g.top id)) u2:=by
  intro bo Un hbo' OZ hd
  have hle:Le g (g.qo id (g.top id) u2 bo):=by
   refine⟨λ_ _ h=>h,λi=> ?_,λi k hk=> ?_⟩
   ·show g.top i<=if i=id then g.top id+1 else g.top i
    split
    ·rename_i e;subst e;omega
    ·exact aE5 _
   ·show(if i=id/\k=g.top id then _ else g.cv i k)=g.cv i k;rw[aF4];rintro⟨rfl,rfl⟩;omega
  have l6:∀x,bo=some x->g.dj x=some 0:=λx hx=>hO.2 x (Un x hx)
  have YG:(g.qo id (g.top id) u2 bo).cv id (g.top id)=u2:=(by simp[Gh.qo]);refine⟨_,hle,λx hx=>⟨?_,rfl⟩,rfl,⟨λi=> ?_,λi oi hi=> ?_,λx L hx=> ?_,λx L hx=> ?_,λx hx=> ?_,R.jo,λx hx tL hi=> ?_,R.size,R.os,R.tape,R.output,R.fix⟩,⟨by simp[Gh.qo],YG.symm,OZ⟩⟩
  ·have:bo≠some x:=λe=>hx (Un x e)
   simp[Gh.qo,this]
  ·show(if i=id then g.top id+1 else g.top i)=_
   by_cases e:id=i
   ·subst e;rw[aE,aG3 rfl];rfl
   ·rw[ay _ _ e,aF4 (λh=>e h.symm)];exact R.top i
  ·by_cases e:id=i
   ·subst e;rw[aE]at hi;injection hi with hi;subst hi
    refine⟨aF7 Mt (hle.top _),aF7 I1 (hle.top _),by rw[hle.cv _ _ Mt];exact aA6, ?_⟩;rw[hle.cv _ _ Mt,hle.cv _ _ I1,YG]
    rcases hd with hd|⟨d1,d2⟩
    ·exact .inl hd
    ·refine .inr ⟨bb,oo,kM,d1, ?_⟩
     rcases d2 with d2|⟨b,cap,arr,ty,e0,e1,e2,e3,e4,e5⟩
     ·exact .inl d2
     ·exact .inr ⟨b,cap,arr,ty,e1,by simp[Gh.qo,e0],hn b (Un b e0),e2,e3,e4,e5⟩
   ·rw[ay _ _ e]at hi;refine(R.eD i oi hi).tr hle (λx hx=> ?_) rfl (gN R hi)
    have:bo≠some x:=λe'=>by rw[l6 x e']at hx;simp at hx
    exact⟨by simp[Gh.qo,this,hx],rfl,rfl⟩
  ·have hy:g.aD x=some L:=hx;obtain⟨a1,a2,a3⟩:=R.aD x L hy
   have:bo≠some x:=λe'=>by rw[l6 x e']at a1;cases a1
   exact⟨by simp[Gh.qo,this,a1],a2,a3⟩
  ·have hy:g.ep x=some L:=hx;obtain⟨a1,a2⟩:=R.ep x L hy;refine⟨?_,a2⟩
   by_cases e:bo=some x
   ·simp[Gh.qo,e]
   ·simp[Gh.qo,e,a1]
  ·by_cases e:bo=some x
   ·exact R.dQ x (by rw[l6 x e];simp)
   ·exact R.dQ x (by simpa[Gh.qo,e]using hx)
  ·obtain⟨f1,f2,f3⟩:=R.frame x hx tL hi
   have:bo≠some x:=λe'=>by rw[l6 x e']at f1;cases f1
   exact⟨by simp[Gh.qo,this,f1],f2,f3⟩
 rcases hb with⟨e,hx,rfl⟩|⟨v,e,hr,Mv⟩
 ·injection e with e1 e2;injection e2 with e2 _
  refine key none (λx h=>by cases h) (λx h=>by simp at h) (by rw[e2];rfl) (.inl ⟨e1,e2,hx⟩)
 ·injection e with e1 e2;injection e2 with e2 _
  subst e2
  rcases hr with⟨k1,k2,rfl⟩|⟨b,cap,arr,ty,jd,k1,rfl,ha,hl,hs,hE⟩
  ·injection k1 with k1 _
   exact key none (λx h=>by cases h) (λx h=>by simp at h) (by rw[k1];rfl) (.inr ⟨e1, .inl ⟨k1,k2⟩⟩)
  ·injection k1 with k1 _
   have oS:jd=[]:=by
    unfold jI at hE;simpa using hE.2
   subst oS;unfold jI at hE
   have ae7:ty=lQ:=by
    obtain⟨lD,h'⟩:=Mv b (by simp);rw[ha]at h'
    injection h' with h';injection h' with _ h'
   exact key (some b) (λx h=>by injection h with h;subst h;simp) (λx h=>by simp only[List.mem_singleton]at h;rw[h]) (by rw[k1];rfl) (.inr ⟨e1, .inr ⟨b,cap,arr,ty,rfl,k1,ha,hl,by simpa[Ty.size]using hs,by simpa using hE.1,ae7⟩⟩)
end Go.Abs
end

section
namespace Go.Abs
theorem mP.G9 {hp BZ:List (Nat×Obj)}{g g':Gh}{aD:Rd}{w0 w:World}(l:Le g g')(ht:∀id gn cs,look hp id=some (.iH gn cs)->gn<g.top id):
  ∀{s:Sp} {x:s.ty.den} {pl:Nat×Nat} {cs:List Cell} {us news:List Value} {nb:List Nat},(∀i gn cs b o,look hp i=some (.iH gn cs)->g.cv i gn= .pointer (some ⟨b,o,none⟩)->b∈nb->look BZ i=some (.iH gn cs)/\g'.outer i=g.outer i)->
   nA aD w0 w s x pl us news nb->mP hp g w0 s cs us->mP BZ g' w0 s cs us
 | .un,_,_,_,_,_,_,_,_,_=>trivial
 | .cH _,_,_,_,_,_,_,_,_,_=>trivial
 | .own _ _,_,_,_,_,_,_,_,_,_=>trivial
 | .sA,_,_,_,_,_,_,_,_,_=>trivial
 | .yK _,_,_,_,_,_,_,_,_,_=>trivial
 | .err,_,_,_,_,_,_,_,_,_=>trivial
 | .np,_,_,_,_,_,_,_,_,_=>trivial
 | .slf _ _,_,_,_,_,_,_,_,_,_=>trivial
 | .lnd _ _,_,_,_,_,_,_,_,_, .inl h=> .inl h
 | .lnd _ _,_,_,_,_,_,_,_,_, .inr ⟨id,gen,e,e',h,OZ⟩=> .inr ⟨id,gen,e,by rw[l.cv _ _ h];exact e',aF7 h (l.top _),by rw[l.cv _ _ h];exact OZ⟩
 | .pr _ _,_,_,_,_,_,_,ho,⟨u1,u2,n1,n2,e,e',k1,k2⟩,⟨h1,h2⟩=>by
  subst e';exact⟨mP.G9 l ht (λi gn cs b o a1 a2 a3=>ho i gn cs b o a1 a2 (aF6 _ a3)) k1 h1,mP.G9 l ht (λi gn cs b o a1 a2 a3=>ho i gn cs b o a1 a2 (aF3 _ a3)) k2 h2⟩
 | .ptr _ _ _,_,_,_,_,_,_,ho,⟨b1,o1,kN,FP,lD,L',jd,e,e',e2,a0,a1,Xp,tL,hs,k⟩,⟨id,gen,off,bs,b,o,arr,ty,L,e1,e3,hl,kM,ha,hL,hle,hid,zA,hc,hr⟩=>by
  subst e2;rw[e]at e3
  injection e3 with e3;injection e3 with e3;injection e3 with e3;injection e3 with e3 e4
  subst e3;subst e4;obtain⟨k1,k2⟩:=ho _ _ _ _ _ hl kM (aE0 ..);rw[ha]at a0
  injection a0 with a0;injection a0 with a0
  subst a0;have Ru:=LW (n:=_) hL hle (show off+_<=L.length by rw[hc.length];exact zA);rw[<-Ru]at k
  exact⟨id,gen,off,bs,b1,o,arr,ty,L,e1,e,k1,(l.cv _ _ (ht _ _ _ hl)).trans kM,ha,by rw[k2];exact hL,by rw[k2];exact hle,by rw[k2];exact hid,zA,hc.mono l,
   mP.G9 l ht (λi gn cs b o a1 a2 a3=>ho i gn cs b o a1 a2 (aD9 _ a3)) k hr⟩
theorem Lu {α:Type}{O L N kN arr:List α}{o off:Nat}(h0:kN=O.take o++L++O.drop (o+L.length))(ho:o+L.length<=O.length)(hn:off+N.length<=L.length)
  (h1:arr=kN.take (o+off)++N++kN.drop (o+off+N.length)):
  arr=O.take o++(L.take off++N++L.drop (off+N.length))++O.drop (o+(L.take off++N++L.drop (off+N.length)).length):=by
 have hlen:(L.take off++N++L.drop (off+N.length)).length=L.length:=by simp;omega
 have ao7:(O.take o).length=o:=by simp;omega
 rw[hlen];subst h1;subst h0
 have e1:(O.take o++L++O.drop (o+L.length)).take (o+off)=O.take o++L.take off:=by
  rw[aC7,List.take_append,ao7,List.take_of_length_le (by omega),List.take_append];rw[show o+off - o - L.length=0 by omega,List.take_zero,aF0]
  congr 2
  omega
 have e2:(O.take o++L++O.drop (o+L.length)).drop (o+off+N.length)=L.drop (off+N.length)++O.drop (o+L.length):=by
  rw[aC7,List.drop_append,ao7,List.drop_of_length_le (by omega),List.nil_append,List.drop_append];rw[show o+off+N.length - o=off+N.length by omega,show off+N.length - L.length=0 by omega,List.drop_zero]
 rw[e1,e2];simp[aC7]
def Yb (sp:Sp)(x:sp.ty.den)(pl:Plc)(old:List Cell)(s:St)(cells rest:List Cell)(s':St):Prop:=
 s'.env=s.env/\rest=old.drop sp.size/\∀B g w0 w,HRel B g s.hp w->∀rp olds news nb,iR g pl rp->mP s.hp g w0 sp (old.take sp.size) olds->nA g.aD w0 w sp x rp olds news nb->dP g nb->(∀b∈nb,g.ep b=none)->
  ∃g',Le g g'/\(∀x,x∉nb->g'.dj x=g.dj x/\g'.ep x=g.ep x)/\HRel B g' s'.hp w/\aF g' cells news/\
   ∀i gn cs b o,look s.hp i=some (.iH gn cs)->g.cv i gn= .pointer (some ⟨b,o,none⟩)->b∉nb->look s'.hp i=some (.iH gn cs)/\g'.outer i=g.outer i
theorem sZ:∀(sp:Sp)(x:sp.ty.den)(pl:Plc)(old:List Cell)(n:Nat)(s:St)(cells rest:List Cell)(n':Nat)(s':St),(yH sp x pl old n).run s=some ((cells,rest,n'),s')->Yb sp x pl old s cells rest s':=by
 intro sp
 induction sp with
 |un=>
  intro x pl old n s cells rest n' s' h;obtain⟨h1,rfl⟩:=ah h
  injection h1 with h1 h2;injection h2 with h2 h3
  subst h1;subst h2;exact⟨rfl,rfl,λB g w0 w R rp olds news nb xF hL hB hp hn=>⟨g,Le.refl g,λ_ _=>⟨rfl,rfl⟩,R,hB.1,λi gn cs b o h _ _=>⟨h,rfl⟩⟩⟩
 |cH τ=>
  intro x pl old n s cells rest n' s' h;obtain⟨h1,rfl⟩:=ah h
  injection h1 with h1 h2;injection h2 with h2 h3
  subst h1;subst h2;refine⟨rfl,by simp[Sp.size],λB g w0 w R rp olds news nb xF hL hB hp hn=>⟨g,Le.refl g,λ_ _=>⟨rfl,rfl⟩,R, ?_,λi gn cs b o h _ _=>⟨h,rfl⟩⟩⟩;obtain⟨_,h1,u,rfl,hr⟩:=hB;exact⟨u,[],rfl,⟨h1,hr⟩,rfl⟩
 |err=>
  intro x pl old n s cells rest n' s' h;obtain⟨h1,rfl⟩:=ah h
  injection h1 with h1 h2;injection h2 with h2 h3
  subst h1;subst h2;refine⟨rfl,by simp[Sp.size],λB g w0 w R rp olds news nb xF hL hB hp hn=>⟨g,Le.refl g,λ_ _=>⟨rfl,rfl⟩,R, ?_,λi gn cs b o h _ _=>⟨h,rfl⟩⟩⟩;obtain⟨_,u,rfl,hr⟩:=hB;exact⟨u,[],rfl,hr,rfl⟩
 |np=>
  intro x pl old n s cells rest n' s' h;obtain⟨h1,rfl⟩:=ah h
  injection h1 with h1 h2;injection h2 with h2 h3
  subst h1;subst h2;refine⟨rfl,by simp[Sp.size],λB g w0 w R rp olds news nb xF hL hB hp hn=>⟨g,Le.refl g,λ_ _=>⟨rfl,rfl⟩,R, ?_,λi gn cs b o h _ _=>⟨h,rfl⟩⟩⟩;obtain⟨_,rfl⟩:=hB;exact⟨_,[],rfl,rfl,rfl⟩
 |slf f m=>intro x pl old n s cells rest n' s' h;exact nomatch h
 |own τ dp=>
  intro x pl old n s cells rest n' s' h;obtain⟨c,t,h1,h2⟩:=AM.af h;obtain⟨h3,rfl⟩:=ah h2
  injection h3 with h3 h4;injection h4 with h4 h5
  subst h3;subst h4;obtain⟨gen,hg,rfl,rfl⟩:=uX h1;have KR:=(nZ hg).2
  have K8:∀i gn cs,look s.hp i=some (.iH gn cs)->i≠n:=λi gn cs hi e=>by subst e;exact KR gn cs hi
  refine⟨rfl,by simp[Sp.size],λB g w0 w R rp olds news nb xF hL hB hp hn=> ?_⟩;obtain⟨rfl,_⟩:=j1 R hg
  rcases hB with⟨rfl,hx,rfl⟩|⟨b,cap,arr,ty,jd,rfl,rfl,ha,hl,hs,hE⟩
  ·have hx:x=[]:=hx;subst hx;obtain⟨l,R'⟩:=R.named (id:=n) (u:= .slice none 0 0) (o':= .own (g.top n) τ (dp||τ.flat) []) rfl (.inl ⟨by simp[Gh.name],rfl⟩);refine⟨_,l.le,λx _=>⟨rfl,rfl⟩,R',⟨_,[],rfl,⟨by simp[Gh.name],by simp[Gh.name],rfl⟩,rfl⟩,λi gn cs b o hi _ _=>⟨?_,by rw[l.out]⟩⟩
   ·show look ((n,_)::s.hp) i=_;rw[ay _ _ (Ne.symm (K8 i gn cs hi))];exact hi
  ·have Hg:=hp.2 b (aE0 ..);have mR:=List.nodup_cons.1 hp.1
   have KO:((dp||τ.flat)&& !τ.flat)=(dp&& !τ.flat):=by cases dp<;>cases τ.flat<;>rfl
   obtain⟨g',l,hk,ho,R',hc⟩:=R.ly (id:=n) (deep:=dp||τ.flat) (τ:=τ) (xs:=x) (nb:=jd) Hg (hn b (aE0 ..)) mR.1 ha hl hs mR.2 (λy hy=>⟨hp.2 y (aD9 _ hy),by
    unfold jI at hE;split at hE
    ·exact hE.nv y hy
    ·rw[hE.2]at hy;simp at hy⟩) (by rw[KO];exact hE)
   refine⟨g',l,λy hy=> ?_,R',⟨_,[],rfl,hc,rfl⟩,λi gn cs b o hi _ _=>⟨?_,ho i (K8 i gn cs hi)⟩⟩
   ·rw[aF8,not_or]at hy;exact hk y hy.1 hy.2
   ·show look ((n,_)::s.hp) i=_;rw[ay _ _ (Ne.symm (K8 i gn cs hi))];exact hi
 |lnd τ dp=>
  intro x pl old n s cells rest n' s' h
  cases old with
  |nil=>exact nomatch h
  |cons c cs=>
   cases c with
   |nil=>
    obtain⟨h1,rfl⟩:=ah h
    injection h1 with h1 h2;injection h2 with h2 h3
    subst h1;subst h2;refine⟨rfl,by simp[Sp.size],λB g w0 w R rp olds news nb xF hL hB hp hn=> ?_⟩;obtain⟨rfl,hO⟩:=hB
    rcases hL with⟨_,rfl⟩|⟨id,gen,e,_⟩
    ·have oS:nb=[]:=by
      rcases hO with⟨_,_,h⟩|⟨b,cap,arr,ty,jd,e,_⟩
      ·exact h
      ·cases e
     subst oS;exact⟨g,Le.refl g,λ_ _=>⟨rfl,rfl⟩,R,⟨_,[],rfl,rfl,rfl⟩,λi gn cs b o h _ _=>⟨h,rfl⟩⟩
    ·simp[Sp.size]at e
   |own id gen=>
    simp only[yH,AM.run]at h;split at h
    ·rename_i g0 bs heq;obtain⟨hb,h'⟩:=bm h;obtain rfl:=beq_eq hb;simp only[AM.run,aG1,aH2]at h';obtain⟨⟨rfl,rfl,rfl⟩,rfl⟩:=h';refine⟨rfl,by simp[Sp.size],λB g w0 w R rp olds news nb xF hL hB hp hn=> ?_⟩;obtain⟨rfl,hO⟩:=hB
     rcases hL with⟨e,_⟩|⟨Uf,RU,e,rfl,ht,OZ⟩
     ·simp[Sp.size]at e
     ·have e:[Cell.own id g0]=[Cell.own Uf RU]:=by simpa[Sp.size]using e
      injection e with e _;injection e with e1 e2
      subst e1;subst e2
      have KO:((dp||τ.flat)&& !τ.flat)=(dp&& !τ.flat):=by cases dp<;>cases τ.flat<;>rfl
      rcases hO with⟨k1,k2,rfl⟩|⟨b,cap,arr,ty,jd,k1,rfl,ha,hl,hs,hE⟩
      ·have k2:x=[]:=k2;subst k2
       injection k1 with k1 _
       have R':HRel B g ((id, .own g0 τ (dp||τ.flat) [])::s.hp) w:=R.put heq rfl (.inl ⟨k1,rfl⟩);refine⟨g,Le.refl g,λ_ _=>⟨rfl,rfl⟩,R',⟨_,[],rfl,⟨ht,rfl,OZ⟩,rfl⟩,λi gn cs b o hi kM _=>⟨?_,rfl⟩⟩
       have jy:id≠i:=λe=>by
        subst e;rw[heq]at hi
        injection hi with hi;injection hi with hi _
        subst hi;rw[k1]at kM;cases kM
       show look ((id,_)::s.hp) i=_;rw[ay _ _ jy];exact hi
      ·injection k1 with k1 _
       have mR:=List.nodup_cons.1 hp.1
       obtain⟨g',l,hk,ho,R'⟩:=R.jm (deep:=dp||τ.flat) (τ:=τ) (xs:=x) (nb:=jd) heq k1 (hp.2 b (aE0 ..)) (hn b (aE0 ..)) mR.1 ha hl hs mR.2 (λy hy=>⟨hp.2 y (aD9 _ hy),by
        unfold jI at hE;split at hE
        ·exact hE.nv y hy
        ·rw[hE.2]at hy;simp at hy⟩) (by rw[KO];exact hE)
       refine⟨g',l,λy hy=> ?_,R',⟨_,[],rfl,⟨aF7 ht (l.top _),(l.cv _ _ ht).symm,OZ⟩,rfl⟩,λi gn cs b' o hi kM _=>⟨?_,by rw[ho]⟩⟩
       ·rw[aF8,not_or]at hy;exact hk y hy.1 hy.2
       ·have jy:id≠i:=λe=>by
         subst e;rw[heq]at hi
         injection hi with hi;injection hi with hi _
         subst hi;rw[k1]at kM;cases kM
        show look ((id,_)::s.hp) i=_;rw[ay _ _ jy];exact hi
    ·cases h
   |_=>exact nomatch h
 |yK ok=>intro x pl old n s cells rest n' s' h;exact nomatch h
 |sA=>
  intro x pl old n s cells rest n' s' h;obtain⟨c,t,h1,h2⟩:=AM.af h;obtain⟨h3,rfl⟩:=ah h2
  injection h3 with h3 h4;injection h4 with h4 h5
  subst h3;subst h4
  cases pl with
  |none=>cases h1
  |some q=>
   obtain⟨id,bg,off⟩:=q;obtain⟨gn1,t1,h6,h7⟩:=AM.af h1;obtain⟨rfl,Rs⟩:=nZ h6;simp only[AM.run]at h7;obtain⟨gn2,t2,h8,h9⟩:=AM.af h7;obtain⟨rfl,ab2⟩:=nZ h8;simp only[AM.run,aG1,aH2]at h9;obtain⟨rfl,rfl⟩:=h9;refine⟨rfl,by simp[Sp.size],λB g w0 w R rp olds news nb xF hL hB hp hn=> ?_⟩;have hB:qd g.aD w rp x news nb:=hB;obtain⟨I1,bb,oo,kM,rfl⟩:=xF id bg off rfl;obtain⟨rfl,_⟩:=j1 R h6
   have two:∃u1 u2,news=[u1,u2]/\oc u1=true:=by
    rcases hB with⟨e,_⟩|⟨u2,e,_⟩
    ·exact⟨_,_,e,rfl⟩
    ·exact⟨_,_,e,rfl⟩
   obtain⟨u1,u2,rfl,ah5⟩:=two;obtain⟨l1,R1⟩:=R.named (id:=n) (u:=u1) (o':= .dead (g.top n)) rfl trivial;have xA:(g.name n (g.top n) u1).cv n (g.top n)=u1:=(by simp[Gh.name]);have R5:g.top n<(g.name n (g.top n) u1).top n:=(by simp[Gh.name]);obtain⟨rfl,_⟩:=j1 (s:=⟨t1.env,(n, .dead (g.top n))::t1.hp⟩) R1 h8;obtain⟨g2,l2,k2,o2,R2,c2⟩:=R1.JU (id:=n+1) (a:=n) (ag:=g.top n) (bid:=id) (bg:=bg) (off:=off) (xs:=x) (u2:=u2) (nb:=nb) R5 (aF7 I1 (l1.le.top _)) (by omega) (hp.mono l1) hn ((l1.le.cv _ _ I1).trans kM) (by rw[xA];exact hB);refine⟨g2,l1.le.trans l2,k2,R2,⟨u1,[u2],rfl,⟨aF7 R5 (l2.top _), ?_,ah5⟩,u2,[],rfl,c2,rfl⟩,λi gn cs b o hi _ _=>⟨?_,by rw[o2,l1.out]⟩⟩
   ·rw[l2.cv _ _ R5,xA]
   ·have e1:n≠i:=λe=>by subst e;exact Rs gn cs hi
    have e2:n+1≠i:=λe=>by
     subst e;exact ab2 gn cs (by show look ((n,_)::t1.hp) (n+1)=_;rw[ay _ _ e1];exact hi)
    show look ((n+1,_)::(n,_)::t1.hp) i=_;rw[ay _ _ e2,ay _ _ e1];exact hi
 |pr a b vW vY=>
  intro x pl old n s cells rest n' s' h;obtain⟨⟨p1,p2,p3⟩,t,h1,h2⟩:=AM.af h;obtain⟨⟨q1,q2,q3⟩,t2,h3,h4⟩:=AM.af h2;obtain⟨h5,rfl⟩:=ah h4
  injection h5 with h5 h6;injection h6 with h6 h7
  subst h5;subst h6;obtain⟨ea,ra,sa⟩:=vW _ _ _ _ _ _ _ _ _ h1;obtain⟨eb,rb,sb⟩:=vY _ _ _ _ _ _ _ _ _ h3;have ra:p2=old.drop a.size:=ra;have rb:rest=p2.drop b.size:=rb;refine⟨eb.trans ea,by rw[rb,ra,List.drop_drop],λB g w0 w R rp olds news nb xF hL hB hp hn=> ?_⟩;obtain⟨u1,u2,n1,n2,rfl,rfl,B1,B2⟩:=hB;obtain⟨L1,L2⟩:=hL;have mR:=aH0.1 hp.1
  have hd:∀y∈n2,y∉n1:=λy h2 h1=>mR.2.2 y h1 y h2 rfl
  have e1:((old.take (a.size+b.size)).take a.size)=old.take a.size:=by rw[List.take_take];congr 1;omega
  have e2:((old.take (a.size+b.size)).drop a.size)=p2.take b.size:=by rw[ra,List.drop_take];congr 1;omega
  have ak4:mP s.hp g w0 a (old.take a.size) (olds.take a.size):=by rw[<-e1];exact L1
  have ai0:mP s.hp g w0 b (p2.take b.size) (olds.drop a.size):=by rw[<-e2];exact L2
  obtain⟨g1,l1,k1,R1,c1,t1⟩:=sa B g w0 w R rp _ _ _ xF ak4 B1 ⟨mR.1,λy hy=>hp.2 y (aF6 _ hy)⟩ (λy hy=>hn y (aF6 _ hy));have L3:mP t.hp g1 w0 b (p2.take b.size) (olds.drop a.size):=mP.G9 l1 R.tE (λi gn cs b' o a1 a2 a3=>t1 i gn cs b' o a1 a2 (hd b' a3)) B2 ai0
  obtain⟨g2,l2,k2,R2,c2,ab3⟩:=sb B g1 w0 w R1 (rp.1,rp.2+a.size) _ _ _ ((xF.mono l1).on a.size) L3 (B2.mono l1.aD) ⟨mR.2.1,λy hy=>by rw[(k1 y (hd y hy)).1];exact hp.2 y (aF3 _ hy)⟩
   (λy hy=>by rw[(k1 y (hd y hy)).2];exact hn y (aF3 _ hy))
  refine⟨g2,l1.trans l2,λy hy=> ?_,R2,(c1.mono l2).append c2,λi gn cs b' o hi kM hb=> ?_⟩
  ·rw[aE9,not_or]at hy;obtain⟨a1,a2⟩:=k1 y hy.1;obtain⟨b1,b2⟩:=k2 y hy.2;exact⟨b1.trans a1,b2.trans a2⟩
  ·rw[aE9,not_or]at hb;obtain⟨a1,a2⟩:=t1 i gn cs b' o hi kM hb.1;obtain⟨b1,b2⟩:=ab3 i gn cs b' o a1 ((l1.cv _ _ (R.tE _ _ _ hi)).trans kM) hb.2;exact⟨b1,b2.trans a2⟩
 |ptr wh st sp ih=>
  intro x pl old n s cells rest n' s' h
  cases old with
  |nil=>exact nomatch h
  |cons c cs=>
   cases c with
   |ptr id gen off=>
    simp only[yH,AM.run]at h;split at h
    ·rename_i g0 bt bs heq;obtain⟨hb,h'⟩:=bm h;obtain rfl:=beq_eq hb;obtain⟨⟨p1,p2,p3⟩,t,h1,h2⟩:=AM.af h';simp only[AM.run,aG1,aH2]at h2;obtain⟨⟨rfl,rfl,rfl⟩,rfl⟩:=h2;obtain⟨e1,r1,s1⟩:=ih _ _ _ _ _ _ _ _ _ h1;refine⟨e1,by simp[Sp.size],λB g w0 w R rp olds news nb xF hL hB hp hn=> ?_⟩;obtain⟨Uf,RU,Ro,bs',b,o,kN,FP,L,ec,eo,K8,kM,O8,Uj,hle,hid,zA,R9,ay3⟩:=hL
     have ec:[Cell.ptr id g0 off]=[Cell.ptr Uf RU Ro]:=by simpa[Sp.size]using ec
     injection ec with ec _;injection ec with ax3 as2 az8
     subst ax3;subst as2;subst az8;rw[heq]at K8
     injection K8 with K8;injection K8 with _ K8;injection K8 with ad1 K8
     subst K8;subst ad1;obtain⟨b1,o1,arr1,ty1,arr,N,jd,f1,f2,f3,f4,f5,f6,f7,f8,f9⟩:=hB;rw[f1]at eo
     injection eo with eo;injection eo with eo;injection eo with eo;injection eo with as8 av8
     subst as8;subst av8;rw[O8]at f4
     injection f4 with f4;injection f4 with f4 aB6
     subst f4;subst aB6;subst f3;have mR:=List.nodup_cons.1 hp.1;have K7:=R9.length;have Ru:=LW (n:=sp.size) Uj hle (show off+sp.size<=L.length by rw[K7];exact zA);rw[<-Ru]at f9
     have zB:(cut off sp.size bs).take sp.size=cut off sp.size bs:=by unfold cut;rw[List.take_take,Nat.min_self]
     obtain⟨g1,l1,k1,R1,c1,t1⟩:=s1 B g w0 w R (b1,o+off) _ _ _ (λUf RU Ro e=>by
      injection e with e;injection e with e1 e;injection e with e2 e3
      subst e1;subst e2;subst e3
      exact⟨R.tE _ _ _ heq,b1,o,kM,rfl⟩) (by rw[zB];exact ay3) f9 ⟨mR.2,λy hy=>hp.2 y (aD9 _ hy)⟩ (λy hy=>hn y (aD9 _ hy))
     obtain⟨q1,q2⟩:=k1 b1 mR.1;obtain⟨w1,w2⟩:=t1 id g0 (_,bs) b1 o heq kM mR.1;have xA:g1.cv id g0= .pointer (some ⟨b1,o,none⟩):=(l1.cv _ _ (R.tE _ _ _ heq)).trans kM;have hN:=c1.length
     let g2:Gh:={g1 with dj:=open Classical in λx=>if x=b1 then some (id+1)else g1.dj x}
     have O7:Le g1 g2:=⟨λ_ _ h=>h,λ_=>aE5 _,λ_ _ _=>rfl⟩;have K2:=Lu (off:=off) Uj hle (by rw[f8,K7];exact zA) f6
     have hlen:(L.take off++N++L.drop (off+N.length)).length=L.length:=by simp;omega
     have yj:aF g2 (setCells off p1 bs) (L.take off++N++L.drop (off+N.length)):=aF.set (c1.mono O7) off (R9.mono (l1.trans O7))
     have R2:HRel B g2 ((id, .box g0 (bt,setCells off p1 bs))::t.hp) w:=by
      refine R1.Qx (q1.trans (hp.2 b1 (aE0 ..))) (q2.trans (hn b1 (aE0 ..))) w1 rfl ?_;refine⟨b1,o,arr,_,_,xA,⟨by simp,q2.trans (hn b1 (aE0 ..))⟩,f5,yj, ?_, ?_, ?_⟩
      ·show arr.toList=(g1.outer id).take o++_++(g1.outer id).drop _;rw[w2];exact K2
      ·show _<=(g1.outer id).length;rw[w2,hlen];exact hle
      ·refine⟨hid.1, ?_,rfl⟩;show(g1.outer id).length=(setCells off p1 bs).length;rw[w2,<-yj.length,hlen,K7];exact hid.2
     refine⟨g2,l1.trans O7,λy hy=> ?_,R2,⟨_,[],by rw[f2,f1],⟨R2.top id ▸ by rw[aE];exact Nat.lt_succ_self _,b1,o,xA,rfl⟩,rfl⟩,λi gn cs b' o' hi FE FJ=> ?_⟩
     ·rw[aF8,not_or]at hy;obtain⟨a1,a2⟩:=k1 y hy.2;exact⟨by simp[g2,hy.1,a1],a2⟩
     ·rw[aF8,not_or]at FJ;obtain⟨a1,a2⟩:=t1 i gn cs b' o' hi FE FJ.2;refine⟨?_,a2⟩
      have jy:id≠i:=λe=>by
       subst e;rw[heq]at hi
       injection hi with hi;injection hi with hi _
       subst hi;rw[kM]at FE
       injection FE with FE;injection FE with FE;injection FE with FE _
       exact FJ.1 FE.symm
      show look ((id,_)::t.hp) i=_;rw[ay _ _ jy];exact a1
    ·cases h
   |_=>exact nomatch h
end Go.Abs
end

section
namespace Go.Abs
def qV (aD:Rd)(w:World):(a:VSp)->a.sp.ty.den->Value->List Nat->Prop
 | .one s,x,u,nb=>oc u=true/\Pass aD w s x (0,0) [u] nb
 | .agg s,x,u,nb=>∃us:List Value,u= .agg us.toArray/\Pass aD w s x (0,0) us nb
def gw (aD:Rd)(w:World):(as:List VSp)->(cf as).den->List Value->List Nat->Prop
 |[],_,us,nb=>us=[]/\nb=[]
 |a::as,x,us,nb=>∃u r n1 n2,us=u::r/\nb=n1++n2/\qV aD w a x.1 u n1/\gw aD w as x.2 r n2
def AE (aD:Rd)(w0 w:World):(s:Sp)->s.oQ.den->List Value->List Nat->Prop
 | .pr a b,x,us,nb=>∃n1 n2,nb=n1++n2/\AE aD w0 w a x.1 (us.take a.size) n1/\AE aD w0 w b x.2 (us.drop a.size) n2
 | .ptr wh st s,x,us,nb=>nA aD w0 w (.ptr wh st s) x (0,0) us us nb
 | .lnd τ dp,x,us,nb=>nA aD w0 w (.lnd τ dp) x (0,0) us us nb
 |_,_,_,nb=>nb=[]
def j7 (aD:Rd)(w0 w:World):(as:List VSp)->(pf as).den->List Value->List Nat->Prop
 |[],_,us,nb=>us=[]/\nb=[]
 |a::as,x,us,nb=>∃u r n1 n2,us=u::r/\nb=n1++n2/\AE aD w0 w a.sp x.1 u.cells.toList n1/\j7 aD w0 w as x.2 r n2
def xn (aD:Rd)(w:World):(a:VSp)->a.sp.ty.den->Value->List Nat->Prop
 | .one s,x,u,nb=>oc u=true/\nA aD w w s x (0,0) [] [u] nb
 | .agg s,x,u,nb=>∃us:List Value,u= .agg us.toArray/\nA aD w w s x (0,0) [] us nb
def qT (aD:Rd)(w:World):(as:List VSp)->(cf as).den->List Value->List Nat->Prop
 |[],_,us,nb=>us=[]/\nb=[]
 |a::as,x,us,nb=>∃u r n1 n2,us=u::r/\nb=n1++n2/\xn aD w a x.1 u n1/\qT aD w as x.2 r n2
def vE (aD:Rd)(w:World):(r:RSp)->r.ty.den->Value->List Nat->Prop
 | .val a,x,v,nb=>xn aD w a x v nb
 | .tb as,x,v,nb=>∃vs:List Value,v= .tuple vs.toArray/\qT aD w as x vs nb
 | .none,_,v,nb=>v= .tuple #[]/\nb=[]
def ie (df:Nat->Option (List Cell))(aD:Rd):Prop:=∀k cs,df k=some cs->∃us,aD k=some us/\∀g:Gh,(∀b L,aD b=some L->g.aD b=some L)->aF g cs us
theorem ie.mono {df:Nat->Option (List Cell)}{aD cQ:Rd}(h:∀b L,aD b=some L->cQ b=some L)(k:ie df aD):ie df cQ:=λi c hi=>by
 obtain⟨u,h1,h2⟩:=k i c hi;exact⟨u,h _ _ h1,λg hg=>h2 g λb L hb=>hg b L (h b L hb)⟩
theorem ie.one {df:Nat->Option (List Cell)}{g:Gh}(h:ie df g.aD):∀k c,df k=some [c]->∃u,g.aD k=some [u]/\bu g c u:=λk c hk=>by
 obtain⟨us,h1,h2⟩:=h k [c] hk
 obtain⟨u,r,rfl,hu,hr⟩:=h2 g λ_ _ hb=>hb
 have hr:r=[]:=hr;subst hr;exact⟨u,h1,hu⟩
def gY (P:Program)(f:FuncId)(args:Array Value)(w:World)(R:Value->World->Prop):Prop:=
 match(callFunc f args).run P w with
 | .ok (.enter f' a') w1=>Calls P f' a' w1 λe w'=>∃v,e= .returned v/\R v w'
 | .ok (.value v) w1=>R v w1
 |_=>False
def lP (P:Program)(df:Nat->Option (List Cell))(f:FuncId)(c:Callee):Prop:=
 ∀x y,c.F x=some y->∀(aD:Rd) (w:World) (args:List Value) (nb:List Nat),ie df aD->(∀b L,aD b=some L->∃arr ty fr,w.heap[b]?=some (.cells arr ty fr)/\arr.toList=L)->
  gw aD w c.sig.args x args nb->nb.Nodup->(∀b∈nb,aD b=none/\b<w.heap.size)->
  gY P f args.toArray w λv w'=>∃cQ n1 n2,After aD w nb cQ w' (n1++n2)/\vE cQ w' c.sig.res y.1 v n1/\j7 cQ w w' c.sig.args y.2 args n2
def Cx (as:List VSp)(aD:Rd)(w:World)(nb:List Nat)(args:List Value):Prop:=∀f m,vF as=some (f,m)->
 ∃b ty,args.getLast?=some (.pointer (some ⟨b,0,none⟩))/\w.heap[b]?=some (.cells #[.func (.func f) #[] (args.drop m).toArray] ty (0,0))/\b∉nb/\aD b=none
def vf (P:Program)(df:Nat->Option (List Cell))(f:FuncId)(c:Callee):Prop:=
 ∀x y,c.F x=some y->∀(aD:Rd) (w:World) (args:List Value) (nb:List Nat),ie df aD->(∀b L,aD b=some L->∃arr ty fr,w.heap[b]?=some (.cells arr ty fr)/\arr.toList=L)->
  gw aD w c.sig.args x args nb->nb.Nodup->(∀b∈nb,aD b=none/\b<w.heap.size)->Cx c.sig.args aD w nb args->
  gY P f args.toArray w λv w'=>∃cQ n1 n2,After aD w nb cQ w' (n1++n2)/\vE cQ w' c.sig.res y.1 v n1/\j7 cQ w w' c.sig.args y.2 args n2
theorem lP.slf {P:Program}{df:Nat->Option (List Cell)}{f:FuncId}{c:Callee}(h:lP P df f c):vf P df f c:=λx y k aD w args nb a b c d e _=>h x y k aD w args nb a b c d e
theorem Cx.none {as:List VSp}(h:vF as=none){aD:Rd}{w:World}{nb:List Nat}{args:List Value}:Cx as aD w nb args:=λf m k=>by rw[h]at k;cases k
theorem vf.plain {P:Program}{df:Nat->Option (List Cell)}{f:FuncId}{c:Callee}(hn:vF c.sig.args= .none)(h:vf P df f c):lP P df f c:=λx y k aD w args nb a b c d e=>h x y k aD w args nb a b c d e (Cx.none hn)
theorem Bq {u:Value}(h:oc u=true):u.cells.toList=[u]:=by rw[Ab h]
def ny (hp:List (Nat×Obj))(g:Gh)(w:World):List VSp->List Val->List Value->Prop
 |[],vs,us=>vs=[]/\us=[]
 |a::as,vs,us=>∃v r u q,vs=v::r/\us=u::q/\v.cells.length=a.sp.size/\mP hp g w a.sp v.cells u.cells.toList/\ny hp g w as r q
theorem ny.mono {hp BZ:List (Nat×Obj)}{g g':Gh}{w:World}(l:Le g g')(ho:∀id gn cs,look hp id=some (.iH gn cs)->look BZ id=some (.iH gn cs)/\g'.outer id=g.outer id)(ht:∀id gn cs,look hp id=some (.iH gn cs)->gn<g.top id):
  ∀{as:List VSp} {vs:List Val} {us:List Value},ny hp g w as vs us->ny BZ g' w as vs us
 |[],_,_,h=>h
 |_::_,_,_,⟨v,r,u,q,e,e',hl,h1,h2⟩=>⟨v,r,u,q,e,e',hl,h1.mono l ho ht,ny.mono l ho ht h2⟩
theorem Cg {a:VSp}{v:Val}{s s':St}{x:a.sp.ty.den}(h:(QY a v).run s=some (x,s')):jg s s'/\∀B g w,HRel B g s.hp w->∃g',Lk g g'/\HRel B g' s'.hp w/\∀u,ed g v u->
  ∃nb,qV g'.aD w a x u nb/\dP g' nb/\(∀b∈nb,g.dj b≠some 0)/\v.cells.length=a.sp.size/\mP s'.hp g' w a.sp v.cells u.cells.toList:=by
 cases a with
 |one sp=>
  cases v with
  |agg cs=>exact nomatch h
  |one c=>
   obtain⟨⟨p1,p2⟩,t,h1,h2⟩:=AM.af h;simp only at h2;split at h2
   ·obtain⟨rfl,rfl⟩:=ah h2;obtain⟨k,⟨used,eu,lu⟩,hs⟩:=uZ _ _ _ _ _ _ _ h1
    have lh:sp.size=1:=by rw[<-lu,<-aF0 used,<-eu];rfl
    refine⟨k,λB g w R=> ?_⟩;obtain⟨g',l,R',hc⟩:=hs B g w R;refine⟨g',l,R',λu hu=> ?_⟩;have hu:bu g c u:=hu;have OZ:=hu.Dd;obtain⟨u1,u2,nb,e,hP,hO,hr,hf,hL⟩:=hc [u] (0,0) ⟨u,[],rfl,hu,rfl⟩ (iR.none _ _);have yi:u2=[]:=hr;subst yi;rw[aF0]at e;subst e;refine⟨nb,⟨OZ,hP⟩,hO,hf,lh.symm, ?_⟩;rw[Bq OZ];rw[lh]at hL;exact hL
   ·cases h2
 |agg sp=>
  cases v with
  |one c=>exact nomatch h
  |agg cs=>
   obtain⟨⟨p1,p2⟩,t,h1,h2⟩:=AM.af h;simp only at h2;split at h2
   ·obtain⟨rfl,rfl⟩:=ah h2;obtain⟨k,⟨used,eu,lu⟩,hs⟩:=uZ _ _ _ _ _ _ _ h1;rw[aF0]at eu;subst eu;refine⟨k,λB g w R=> ?_⟩;obtain⟨g',l,R',hc⟩:=hs B g w R;refine⟨g',l,R',λu hu=> ?_⟩;obtain⟨us,rfl,hu⟩:=hu;obtain⟨u1,u2,nb,e,hP,hO,hr,hf,hL⟩:=hc us (0,0) hu (iR.none _ _);have yi:u2=[]:=hr;subst yi;rw[aF0]at e;subst e;refine⟨nb,⟨us,rfl,hP⟩,hO,hf,lu, ?_⟩;have:cs.take sp.size=cs:=(by rw[<-lu,List.take_length]);rw[this]at hL;exact hL
   ·cases h2
theorem qV.mono {aD cQ:Rd}(h:∀b L,aD b=some L->cQ b=some L){w:World}{a:VSp}{x:a.sp.ty.den}{u:Value}{nb:List Nat}(k:qV aD w a x u nb):qV cQ w a x u nb:=by
 cases a with
 |one s=>exact⟨k.1,Pass.mono h k.2⟩
 |agg s=>obtain⟨us,e,k⟩:=k;exact⟨us,e,Pass.mono h k⟩
theorem qK:∀{as:List VSp}{vs:List Val}{s s':St}{x:(cf as).den},(BD as vs).run s=some (x,s')->jg s s'/\∀B g w,HRel B g s.hp w->∃g',Lk g g'/\HRel B g' s'.hp w/\∀us,fj g vs us->
  ∃nb,gw g'.aD w as x us nb/\dP g' nb/\(∀b∈nb,g.dj b≠some 0)/\ny s'.hp g' w as vs us
 |[],vs,s,s',x,h=>by
  cases vs with
  |nil=>
   obtain⟨rfl,rfl⟩:=ah h;exact⟨jg.refl _,λB g w R=>⟨g,Lk.refl g,R,λus hu=>⟨[],⟨hu,rfl⟩,⟨aG5,λb hb=>by simp at hb⟩,λb hb=>by simp at hb,rfl,hu⟩⟩⟩
  |cons v r=>exact nomatch h
 |a::as,vs,s,s',x,h=>by
  cases vs with
  |nil=>exact nomatch h
  |cons v r=>
   obtain⟨p,t,h1,h2⟩:=AM.af h;obtain⟨q,t2,h3,h4⟩:=AM.af h2;obtain⟨rfl,rfl⟩:=ah h4;obtain⟨k1,s1⟩:=Cg h1;obtain⟨k2,s2⟩:=qK h3;refine⟨k1.trans k2,λB g w R=> ?_⟩;obtain⟨g1,l1,R1,c1⟩:=s1 B g w R;obtain⟨g2,l2,R2,c2⟩:=s2 B g1 w R1;refine⟨g2,l1.trans l2,R2,λus hu=> ?_⟩;obtain⟨u,K4,rfl,nN,yi⟩:=hu;obtain⟨n1,P1,O1,f1,z1,L1⟩:=c1 u nN;obtain⟨n2,P2,O2,f2,L2⟩:=c2 K4 (yi.mono l1.le);refine⟨n1++n2,⟨u,K4,n1,n2,rfl,rfl,P1.mono l2.le.aD,P2⟩,dP.append l2 O1 O2 f2,λb hb=> ?_,v,r,u,K4,rfl,rfl,z1,L1.mono l2.le (λid gn cs hl=>⟨k2.2 id gn cs hl,by rw[l2.out]⟩) R1.tE,L2⟩
   rcases aE9.1 hb with hb|hb
   ·exact f1 b hb
   ·exact λe=>f2 b hb (l1.kp b e).1
def TF (sp:Sp)(x:sp.oQ.den)(cells:List Cell)(s:St)(rest:List Cell)(s':St):Prop:=
 s'.env=s.env/\rest=cells.drop sp.size/\∀B g w0 w,HRel B g s.hp w->∀us nb,mP s.hp g w0 sp (cells.take sp.size) us->AE g.aD w0 w sp x us nb->dP g nb->(∀b∈nb,g.ep b=none)->
  ∃g',Le g g'/\(∀x,x∉nb->g'.dj x=g.dj x/\g'.ep x=g.ep x)/\HRel B g' s'.hp w/\
   ∀i gn cs b o,look s.hp i=some (.iH gn cs)->g.cv i gn= .pointer (some ⟨b,o,none⟩)->b∉nb->look s'.hp i=some (.iH gn cs)/\g'.outer i=g.outer i
theorem qY {aD cQ:Rd}(h:∀b L,aD b=some L->cQ b=some L){w0 w:World}:∀{s:Sp}{x:s.oQ.den}{us:List Value}{nb:List Nat},AE aD w0 w s x us nb->AE cQ w0 w s x us nb
 | .un,_,_,_,k=>k
 | .pr _ _,_,_,_,⟨n1,n2,e,k1,k2⟩=>⟨n1,n2,e,qY h k1,qY h k2⟩
 | .cH _,_,_,_,k=>k
 | .own _ _,_,_,_,k=>k
 | .ptr _ _ _,x,_,_,k=>nA.mono h (s:= .ptr _ _ _) (x:=x) k
 | .lnd _ _,x,_,_,k=>nA.mono h (s:= .lnd _ _) (x:=x) (pl:=(0,0)) k
 | .sA,_,_,_,k=>k
 | .yK _,_,_,_,k=>k
 | .err,_,_,_,k=>k
 | .np,_,_,_,k=>k
 | .slf _ _,_,_,_,k=>k
theorem xM {hp BZ:List (Nat×Obj)}{g g':Gh}{aD:Rd}{w0 w:World}(l:Le g g')(ht:∀id gn cs,look hp id=some (.iH gn cs)->gn<g.top id):
  ∀{s:Sp} {x:s.oQ.den} {cs:List Cell} {us:List Value} {nb:List Nat},(∀i gn cs b o,look hp i=some (.iH gn cs)->g.cv i gn= .pointer (some ⟨b,o,none⟩)->b∈nb->look BZ i=some (.iH gn cs)/\g'.outer i=g.outer i)->
   AE aD w0 w s x us nb->mP hp g w0 s cs us->mP BZ g' w0 s cs us
 | .un,_,_,_,_,_,_,_=>trivial
 | .cH _,_,_,_,_,_,_,_=>trivial
 | .own _ _,_,_,_,_,_,_,_=>trivial
 | .err,_,_,_,_,_,_,_=>trivial
 | .np,_,_,_,_,_,_,_=>trivial
 | .slf _ _,_,_,_,_,_,_,_=>trivial
 | .pr _ _,_,_,_,_,ho,⟨n1,n2,e',k1,k2⟩,⟨h1,h2⟩=>by
  subst e';exact⟨xM l ht (λi gn cs b o a1 a2 a3=>ho i gn cs b o a1 a2 (aF6 _ a3)) k1 h1,xM l ht (λi gn cs b o a1 a2 a3=>ho i gn cs b o a1 a2 (aF3 _ a3)) k2 h2⟩
 | .sA,_,_,_,_,_,_,_=>trivial
 | .yK _,_,_,_,_,_,_,_=>trivial
 | .ptr _ _ _,x,_,_,_,ho,k,h=>mP.G9 (s:= .ptr _ _ _) (x:=x) l ht ho k h
 | .lnd _ _,x,_,_,_,ho,k,h=>mP.G9 (s:= .lnd _ _) (x:=x) (pl:=(0,0)) l ht ho k h
theorem Jm:∀(sp:Sp)(x:sp.oQ.den)(cells:List Cell)(s:St)(rest:List Cell)(s':St),(NB sp x cells).run s=some (rest,s')->TF sp x cells s rest s':=by
 intro sp
 have one:∀(sp:Sp) (x:sp.oQ.den) (c:Cell) (cs:List Cell) (s:St) (rest:List Cell) (s':St),sp.size=1->(∀aD w0 w us nb,AE aD w0 w sp x us nb->nb=[])->(AM.ret cs).run s=some (rest,s')->TF sp x (c::cs) s rest s':=by
  intro sp x c cs s rest s' hs ho h;obtain⟨rfl,rfl⟩:=ah h;refine⟨rfl,by rw[hs];rfl,λB g w0 w R us nb hL hO hp hn=> ?_⟩;obtain rfl:=ho _ _ _ _ _ hO;exact⟨g,Le.refl g,λ_ _=>⟨rfl,rfl⟩,R,λi gn cs b o h _ _=>⟨h,rfl⟩⟩
 induction sp with
 |un=>
  intro x cells s rest s' h;obtain⟨rfl,rfl⟩:=ah h;refine⟨rfl,rfl,λB g w0 w R us nb hL hO hp hn=> ?_⟩;have hO:nb=[]:=hO;subst hO;exact⟨g,Le.refl g,λ_ _=>⟨rfl,rfl⟩,R,λi gn cs b o h _ _=>⟨h,rfl⟩⟩
 |cH τ=>intro x cells s rest s' h;cases cells with|nil=>exact nomatch h|cons c cs=>exact one _ x c cs s rest s' rfl (λ_ _ _ _ _ h=>h) h
 |own τ dp=>intro x cells s rest s' h;cases cells with|nil=>exact nomatch h|cons c cs=>exact one _ x c cs s rest s' rfl (λ_ _ _ _ _ h=>h) h
 |err=>intro x cells s rest s' h;cases cells with|nil=>exact nomatch h|cons c cs=>exact one _ x c cs s rest s' rfl (λ_ _ _ _ _ h=>h) h
 |np=>intro x cells s rest s' h;cases cells with|nil=>exact nomatch h|cons c cs=>exact one _ x c cs s rest s' rfl (λ_ _ _ _ _ h=>h) h
 |slf f m=>intro x cells s rest s' h;cases cells with|nil=>exact nomatch h|cons c cs=>exact one _ x c cs s rest s' rfl (λ_ _ _ _ _ h=>h) h
 |pr a b vW vY=>
  intro x cells s rest s' h;obtain⟨r,t,h1,h2⟩:=AM.af h;obtain⟨ea,ra,sa⟩:=vW _ _ _ _ _ h1;obtain⟨eb,rb,sb⟩:=vY _ _ _ _ _ h2;refine⟨eb.trans ea,by rw[rb,ra,List.drop_drop],λB g w0 w R us nb hL hO hp hn=> ?_⟩;obtain⟨n1,n2,rfl,B1,B2⟩:=hO;obtain⟨L1,L2⟩:=hL;have mR:=aH0.1 hp.1
  have hd:∀y∈n2,y∉n1:=λy h2 h1=>mR.2.2 y h1 y h2 rfl
  have e1:((cells.take (a.size+b.size)).take a.size)=cells.take a.size:=by rw[List.take_take];congr 1;omega
  have e2:((cells.take (a.size+b.size)).drop a.size)=r.take b.size:=by rw[ra,List.drop_take];congr 1;omega
  have ak4:mP s.hp g w0 a (cells.take a.size) (us.take a.size):=by rw[<-e1];exact L1
  have ai0:mP s.hp g w0 b (r.take b.size) (us.drop a.size):=by rw[<-e2];exact L2
  obtain⟨g1,l1,k1,R1,t1⟩:=sa B g w0 w R _ _ ak4 B1 ⟨mR.1,λy hy=>hp.2 y (aF6 _ hy)⟩ (λy hy=>hn y (aF6 _ hy));have L3:mP t.hp g1 w0 b (r.take b.size) (us.drop a.size):=xM l1 R.tE (λi gn cs b' o a1 a2 a3=>t1 i gn cs b' o a1 a2 (hd b' a3)) B2 ai0
  obtain⟨g2,l2,k2,R2,ab3⟩:=sb B g1 w0 w R1 _ _ L3 (qY l1.aD B2) ⟨mR.2.1,λy hy=>by rw[(k1 y (hd y hy)).1];exact hp.2 y (aF3 _ hy)⟩
   (λy hy=>by rw[(k1 y (hd y hy)).2];exact hn y (aF3 _ hy))
  refine⟨g2,l1.trans l2,λy hy=> ?_,R2,λi gn cs b' o hi kM hb=> ?_⟩
  ·rw[aE9,not_or]at hy;obtain⟨a1,a2⟩:=k1 y hy.1;obtain⟨b1,b2⟩:=k2 y hy.2;exact⟨b1.trans a1,b2.trans a2⟩
  ·rw[aE9,not_or]at hb;obtain⟨a1,a2⟩:=t1 i gn cs b' o hi kM hb.1;obtain⟨b1,b2⟩:=ab3 i gn cs b' o a1 ((l1.cv _ _ (R.tE _ _ _ hi)).trans kM) hb.2;exact⟨b1,b2.trans a2⟩
 |yK ok=>
  intro x cells s rest s' h
  cases cells with
  |nil=>exact nomatch h
  |cons c cs=>exact one (.yK ok) x c cs s rest s' rfl (λ_ _ _ _ _ k=>k) h
 |sA=>
  intro x cells s rest s' h
  cases cells with
  |nil=>exact nomatch h
  |cons c cs=>
   cases cs with
   |nil=>exact nomatch h
   |cons c2 cs=>
    obtain⟨rfl,rfl⟩:=ah h;refine⟨rfl,rfl,λB g w0 w R us nb hL hO hp hn=> ?_⟩;have hO:nb=[]:=hO;subst hO;exact⟨g,Le.refl g,λ_ _=>⟨rfl,rfl⟩,R,λi gn cs b o h _ _=>⟨h,rfl⟩⟩
 |ptr wh st sp _=>
  intro x cells s rest s' h
  cases cells with
  |nil=>exact nomatch h
  |cons c cs=>
   obtain⟨⟨p1,p2,p3⟩,t,h1,h2⟩:=AM.af h;obtain⟨rfl,rfl⟩:=ah h2;obtain⟨e1,_,s1⟩:=sZ (.ptr wh st sp) x _ _ _ _ _ _ _ _ h1;refine⟨e1,rfl,λB g w0 w R us nb hL hO hp hn=> ?_⟩;obtain⟨g',l,k,R',_,t'⟩:=s1 B g w0 w R (0,0) us us nb (iR.none _ _) hL hO hp hn;exact⟨g',l,k,R',t'⟩
 |lnd τ dp=>
  intro x cells s rest s' h
  cases cells with
  |nil=>exact nomatch h
  |cons c cs=>
   obtain⟨⟨p1,p2,p3⟩,t,h1,h2⟩:=AM.af h;obtain⟨rfl,rfl⟩:=ah h2;obtain⟨e1,_,s1⟩:=sZ (.lnd τ dp) x _ _ _ _ _ _ _ _ h1;refine⟨e1,rfl,λB g w0 w R us nb hL hO hp hn=> ?_⟩;obtain⟨g',l,k,R',_,t'⟩:=s1 B g w0 w R (0,0) us us nb (iR.none _ _) hL hO hp hn;exact⟨g',l,k,R',t'⟩
end Go.Abs
end

section
namespace Go.Abs
theorem yA {hp BZ:List (Nat×Obj)}{g g':Gh}{aD:Rd}{w0 w:World}(l:Le g g')(ht:∀id gn cs,look hp id=some (.iH gn cs)->gn<g.top id):
  ∀{as:List VSp} {x:(pf as).den} {vs:List Val} {us:List Value} {nb:List Nat},(∀i gn cs b o,look hp i=some (.iH gn cs)->g.cv i gn= .pointer (some ⟨b,o,none⟩)->b∈nb->look BZ i=some (.iH gn cs)/\g'.outer i=g.outer i)->
   j7 aD w0 w as x us nb->ny hp g w0 as vs us->ny BZ g' w0 as vs us
 |[],_,_,_,_,_,_,h=>h
 |_::_,x,_,_,_,ho,⟨u,r,n1,n2,e,e',k1,k2⟩,⟨v,q,u',r',e1,e2,hl,h1,h2⟩=>by
  subst e';rw[e]at e2
  injection e2 with e2 e3
  subst e2;subst e3;exact⟨v,q,u,r,e1,e,hl,xM l ht (λi gn cs b o a1 a2 a3=>ho i gn cs b o a1 a2 (aF6 _ a3)) k1 h1,yA l ht (λi gn cs b o a1 a2 a3=>ho i gn cs b o a1 a2 (aF3 _ a3)) k2 h2⟩
theorem yn {aD cQ:Rd}(h:∀b L,aD b=some L->cQ b=some L){w0 w:World}:∀{as:List VSp}{x:(pf as).den}{us:List Value}{nb:List Nat},j7 aD w0 w as x us nb->j7 cQ w0 w as x us nb
 |[],_,_,_,k=>k
 |_::_,_,_,_,⟨u,r,n1,n2,e,e',k1,k2⟩=>⟨u,r,n1,n2,e,e',qY h k1,yn h k2⟩
theorem yw:∀{as:List VSp}{x:(pf as).den}{vs:List Val}{s s':St},(Dk as x vs).run s=some ((),s')->s'.env=s.env/\∀B g w0 w,HRel B g s.hp w->∀us nb,ny s.hp g w0 as vs us->j7 g.aD w0 w as x us nb->dP g nb->(∀b∈nb,g.ep b=none)->
  ∃g',Le g g'/\(∀x,x∉nb->g'.dj x=g.dj x/\g'.ep x=g.ep x)/\HRel B g' s'.hp w
 |[],x,vs,s,s',h=>by
  cases vs with
  |nil=>
   obtain⟨_,rfl⟩:=ah h;exact⟨rfl,λB g w0 w R us nb _ _ _ _=>⟨g,Le.refl g,λ_ _=>⟨rfl,rfl⟩,R⟩⟩
  |cons v r=>exact nomatch h
 |a::as,x,vs,s,s',h=>by
  cases vs with
  |nil=>exact nomatch h
  |cons v r=>
   obtain⟨rest,t,h1,h2⟩:=AM.af h;obtain⟨e1,_,s1⟩:=Jm _ _ _ _ _ _ h1;obtain⟨e2,s2⟩:=yw h2;refine⟨e2.trans e1,λB g w0 w R us nb hL hO hp hn=> ?_⟩;obtain⟨v',r',u,q,ev,eu,hl,L1,L2⟩:=hL
   injection ev with aw1 aq9
   subst aw1;subst aq9;obtain⟨u',q',n1,n2,aq0,rfl,O1,O2⟩:=hO;rw[eu]at aq0
   injection aq0 with Xs ax8
   subst Xs;subst ax8;have mR:=aH0.1 hp.1
   have hd:∀y∈n2,y∉n1:=λy h2 h1=>mR.2.2 y h1 y h2 rfl
   have ht:v.cells.take a.sp.size=v.cells:=(by rw[<-hl,List.take_length]);obtain⟨g1,l1,k1,R1,t1⟩:=s1 B g w0 w R _ n1 (by rw[ht];exact L1) O1 ⟨mR.1,λy hy=>hp.2 y (aF6 _ hy)⟩ (λy hy=>hn y (aF6 _ hy));have L3:=yA l1 R.tE (λi gn cs b' o a1 a2 a3=>t1 i gn cs b' o a1 a2 (hd b' a3)) O2 L2
   obtain⟨g2,l2,k2,R2⟩:=s2 B g1 w0 w R1 _ n2 L3 (yn l1.aD O2) ⟨mR.2.1,λy hy=>by rw[(k1 y (hd y hy)).1];exact hp.2 y (aF3 _ hy)⟩
    (λy hy=>by rw[(k1 y (hd y hy)).2];exact hn y (aF3 _ hy))
   refine⟨g2,l1.trans l2,λy hy=> ?_,R2⟩;rw[aE9,not_or]at hy;obtain⟨a1,a2⟩:=k1 y hy.1;obtain⟨b1,b2⟩:=k2 y hy.2;exact⟨b1.trans a1,b2.trans a2⟩
theorem xP {aD:Rd}{hp:List (Nat×Obj)}{g:Gh}{w0 w1 w:World}:∀{s:Sp}{x:s.ty.den}{pl:Nat×Nat}{new:List Value}{nb:List Nat},nA aD w0 w s x pl [] new nb->mP hp g w1 s [] []
 | .un,_,_,_,_,_=>trivial
 | .cH _,_,_,_,_,_=>trivial
 | .own _ _,_,_,_,_,_=>trivial
 | .sA,_,_,_,_,_=>trivial
 | .yK _,_,_,_,_,_=>trivial
 | .err,_,_,_,_,_=>trivial
 | .np,_,_,_,_,_=>trivial
 | .slf _ _,_,_,_,_,_=>trivial
 | .lnd _ _,_,_,_,_,k=>by
  obtain⟨rfl,k⟩:=k;have:=k.length;simp at this
 | .pr _ _,_,_,_,_,⟨u1,u2,n1,n2,e,e',k1,k2⟩=>by
  rw[List.take_nil]at k1;rw[List.drop_nil]at k2;refine⟨?_, ?_⟩
  ·rw[List.take_nil,List.take_nil];exact xP k1
  ·rw[List.drop_nil,List.drop_nil];exact xP k2
 | .ptr _ _ _,_,_,_,_,⟨b,o,kN,FP,arr,L,jd,e,_⟩=>by cases e
theorem Ai {a:VSp}{x:a.sp.ty.den}{n n':Nat}{v:Val}{s s':St}(h:(Ma a x n).run s=some ((v,n'),s')):s'.env=s.env/\∀B g w,HRel B g s.hp w->∀u nb,xn g.aD w a x u nb->dP g nb->(∀b∈nb,g.ep b=none)->
  ∃g',Le g g'/\(∀x,x∉nb->g'.dj x=g.dj x/\g'.ep x=g.ep x)/\HRel B g' s'.hp w/\ed g' v u:=by
 cases a with
 |one sp=>
  obtain⟨⟨p1,p2,p3⟩,t,h1,h2⟩:=AM.af h;simp only at h2;split at h2
  ·obtain⟨h3,rfl⟩:=ah h2
   injection h3 with h3 h4
   subst h3;obtain⟨e1,_,s1⟩:=sZ sp x _ _ _ _ _ _ _ _ h1;refine⟨e1,λB g w R u nb hR hp hn=> ?_⟩;obtain⟨g',l,k,R',hc,_⟩:=s1 B g w w R (0,0) [] [u] nb (iR.none _ _) (by rw[List.take_nil];exact xP hR.2) hR.2 hp hn;obtain⟨u',r,e,hu,hr⟩:=hc
   injection e with e _
   subst e;exact⟨g',l,k,R',hu⟩
  ·cases h2
 |agg sp=>
  obtain⟨⟨p1,p2,p3⟩,t,h1,h2⟩:=AM.af h;obtain⟨h3,rfl⟩:=ah h2
  injection h3 with h3 h4
  subst h3;obtain⟨e1,_,s1⟩:=sZ sp x _ _ _ _ _ _ _ _ h1;refine⟨e1,λB g w R u nb hR hp hn=> ?_⟩;obtain⟨us,rfl,hB⟩:=hR;obtain⟨g',l,k,R',hc,_⟩:=s1 B g w w R (0,0) [] us nb (iR.none _ _) (by rw[List.take_nil];exact xP hB) hB hp hn;exact⟨g',l,k,R',us,rfl,hc⟩
theorem Cp {aD cQ:Rd}(h:∀b L,aD b=some L->cQ b=some L){w:World}{a:VSp}{x:a.sp.ty.den}{u:Value}{nb:List Nat}(k:xn aD w a x u nb):xn cQ w a x u nb:=by
 cases a with
 |one s=>exact⟨k.1,nA.mono h k.2⟩
 |agg s=>obtain⟨us,e,k⟩:=k;exact⟨us,e,nA.mono h k⟩
theorem uT {aD cQ:Rd}(h:∀b L,aD b=some L->cQ b=some L){w:World}:∀{as:List VSp}{x:(cf as).den}{us:List Value}{nb:List Nat},qT aD w as x us nb->qT cQ w as x us nb
 |[],_,_,_,k=>k
 |_::_,_,_,_,⟨u,r,n1,n2,e,e',k1,k2⟩=>⟨u,r,n1,n2,e,e',Cp h k1,uT h k2⟩
theorem yB:∀{as:List VSp}{x:(cf as).den}{n:Nat}{vs:List Val}{s s':St},(H5 as x n).run s=some (vs,s')->s'.env=s.env/\∀B g w,HRel B g s.hp w->∀us nb,qT g.aD w as x us nb->dP g nb->(∀b∈nb,g.ep b=none)->
  ∃g',Le g g'/\HRel B g' s'.hp w/\fj g' vs us
 |[],x,n,vs,s,s',h=>by
  obtain⟨rfl,rfl⟩:=ah h;exact⟨rfl,λB g w R us nb hR _ _=>⟨g,Le.refl g,R,hR.1⟩⟩
 |a::as,x,n,vs,s,s',h=>by
  obtain⟨⟨p1,p2⟩,t,h1,h2⟩:=AM.af h;obtain⟨q,t2,h3,h4⟩:=AM.af h2;obtain⟨rfl,rfl⟩:=ah h4;obtain⟨e1,s1⟩:=Ai h1;obtain⟨e2,s2⟩:=yB h3;refine⟨e2.trans e1,λB g w R us nb hR hp hn=> ?_⟩;obtain⟨u,r,n1,n2,rfl,rfl,k1,k2⟩:=hR;have mR:=aH0.1 hp.1
  have hd:∀y∈n2,y∉n1:=λy h2 h1=>mR.2.2 y h1 y h2 rfl
  obtain⟨g1,l1,t1,R1,c1⟩:=s1 B g w R u n1 k1 ⟨mR.1,λy hy=>hp.2 y (aF6 _ hy)⟩ (λy hy=>hn y (aF6 _ hy))
  obtain⟨g2,l2,R2,c2⟩:=s2 B g1 w R1 r n2 (uT l1.aD k2) ⟨mR.2.1,λy hy=>by rw[(t1 y (hd y hy)).1];exact hp.2 y (aF3 _ hy)⟩
   (λy hy=>by rw[(t1 y (hd y hy)).2];exact hn y (aF3 _ hy))
  exact⟨g2,l1.trans l2,R2,u,r,rfl,c1.mono l2,c2⟩
theorem Ej {aD cQ:Rd}(h:∀b L,aD b=some L->cQ b=some L){w:World}{r:RSp}{x:r.ty.den}{v:Value}{nb:List Nat}(k:vE aD w r x v nb):vE cQ w r x v nb:=by
 cases r with
 |val a=>exact Cp h k
 |tb as=>obtain⟨us,e,k⟩:=k;exact⟨us,e,uT h k⟩
 |none=>exact k
theorem Gd {r:RSp}{x:r.ty.den}{n:Nat}{sl:Slot}{s s':St}(h:(Ic r x n).run s=some (sl,s')):s'.env=s.env/\∀B g w,HRel B g s.hp w->∀v nb,vE g.aD w r x v nb->dP g nb->(∀b∈nb,g.ep b=none)->
  ∃g',Le g g'/\HRel B g' s'.hp w/\di g' sl v:=by
 cases r with
 |val a=>
  obtain⟨⟨p1,p2⟩,t,h1,h2⟩:=AM.af h;obtain⟨rfl,rfl⟩:=ah h2;obtain⟨e1,s1⟩:=Ai h1;refine⟨e1,λB g w R v nb hR hp hn=> ?_⟩;obtain⟨g',l,_,R',hv⟩:=s1 B g w R v nb hR hp hn;exact⟨g',l,R',hv⟩
 |tb as=>
  obtain⟨p,t,h1,h2⟩:=AM.af h;obtain⟨rfl,rfl⟩:=ah h2;obtain⟨e1,s1⟩:=yB h1;refine⟨e1,λB g w R v nb hR hp hn=> ?_⟩;obtain⟨us,rfl,hR⟩:=hR;obtain⟨g',l,R',hv⟩:=s1 B g w R us nb hR hp hn;exact⟨g',l,R',us,rfl,hv⟩
 |none=>
  obtain⟨rfl,rfl⟩:=ah h;exact⟨rfl,λB g w R v nb hR hp hn=>⟨g,Le.refl g,R,[],by rw[hR.1],rfl⟩⟩
theorem gY.mono {P:Program}{f:FuncId}{args:Array Value}{w:World}{R R':Value->World->Prop}(h:∀v w',R v w'->R' v w')(k:gY P f args w R):gY P f args w R':=by
 unfold gY at k⊢;split
 ·rename_i he;rw[he]at k
  exact Calls.mono k λe w' ⟨v,e1,hr⟩=>⟨v,e1,h _ _ hr⟩
 ·rename_i he;rw[he]at k;exact h _ _ k
 ·rename_i h1 h2;split at k
  ·rename_i he;exact h1 _ _ _ he
  ·rename_i he;exact h2 _ _ he
  ·exact k
theorem Si {α:Type}(c:Ty)(x:Option c.den)(k:c.den->AM α)(s:St):(AM.opt c x k).run s=x.bind λd=>(k d).run s:=by cases x<;>rfl
theorem Ct {P:Program}{df:Nat->Option (List Cell)}{f:FuncId}{c:Callee}{dd:Nat}{vs:List Val}{s s':St}{sl:Slot}{chk:AM Unit}(Wy:∀t t',chk.run t=some ((),t')->t'=t)(hc:vf P df f c)(h:(TL chk c dd vs).run s=some (sl,s')):
  s'.env=s.env/\∃t1:St,t1.env=s.env/\chk.run t1=some ((),t1)/\∀B g w,ie df g.aD->HRel B g s.hp w->∀us,fj g vs us->(∀g1 nb,Le g g1->HRel B g1 t1.hp w->dP g1 nb->Cx c.sig.args g1.aD w nb us)->gY P f us.toArray w λv w'=>∃g',Le g g'/\HRel B g' s'.hp w'/\di g' sl v:=by
 obtain⟨x,t1,h1,h2⟩:=AM.af h;obtain⟨⟨⟩,t1',am8,h2a⟩:=AM.af h2;obtain rfl:=Wy _ _ am8;have h2:=(Si _ _ _ _).symm.trans h2a
 cases hF:c.F x with
 |none=>rw[hF]at h2;cases h2
 |some y=>
  rw[hF]at h2;obtain⟨⟨⟩,t2,h3,h4⟩:=AM.af h2;obtain⟨k1,s1⟩:=qK h1;obtain⟨e2,s2⟩:=yw h3;obtain⟨e3,s3⟩:=Gd h4;refine⟨(e3.trans e2).trans k1.1,_,k1.1,am8,λB g w hG R us hu hS=> ?_⟩;obtain⟨g1,l1,R1,c1⟩:=s1 B g w R;obtain⟨nb,hP,hO,hf,hL⟩:=c1 us hu
  have iG:∀b L,g1.aD b=some L->∃arr ty fr,w.heap[b]?=some (.cells arr ty fr)/\arr.toList=L:=λb L hb=>(R1.aD b L hb).2.2
  have oS:∀b∈nb,g1.aD b=none/\b<w.heap.size:=λb hb=>by
   have hl:=hO.2 b hb;refine⟨?_,R1.dQ b (by rw[hl];simp)⟩
   cases hi:g1.aD b with
   |none=>rfl
   |some L=>have:=(R1.aD b L hi).1;rw[hl]at this;cases this
  refine gY.mono ?_ (hc x y hF g1.aD w us nb (hG.mono l1.le.aD) iG hP hO.1 oS (hS g1 nb l1.le R1 hO));rintro v w' ⟨cQ,n1,n2,A,hR,hOut⟩;obtain⟨l2,R2,Mz,Gw⟩:=R1.after hO A;have ay4:ny t1'.hp (g1.after nb cQ (n1++n2)) w c.sig.args vs us:=hL.mono l2 (λid gn cs hl=>⟨hl,rfl⟩) R1.tE;have mR:=aH0.1 Mz.1
  have hd:∀y∈n1,y∉n2:=λy h1 h2=>mR.2.2 y h1 y h2 rfl
  obtain⟨g3,l3,k3,R3⟩:=s2 B _ w w' R2 us n2 ay4 hOut ⟨mR.2.1,λy hy=>Mz.2 y (aF3 _ hy)⟩ (λy hy=>Gw y (aF3 _ hy));have au7:vE g3.aD w' c.sig.res y.1 v n1:=Ej l3.aD hR;obtain⟨g4,l4,R4,hs⟩:=s3 B g3 w' R3 v n1 au7 ⟨mR.1,λy hy=>by rw[(k3 y (hd y hy)).1];exact Mz.2 y (aF6 _ hy)⟩ (λy hy=>by rw[(k3 y (hd y hy)).2];exact Gw y (aF6 _ hy));exact⟨g4,((l1.le.trans l2).trans l3).trans l4,R4,hs⟩
theorem LO {P:Program}{df:Nat->Option (List Cell)}{f:FuncId}{c:Callee}{dd:Nat}{vs:List Val}{s s':St}{sl:Slot}(hc:lP P df f c)(hn:vF c.sig.args=none)(h:(call c dd vs).run s=some (sl,s')):
  s'.env=s.env/\∀B g w,ie df g.aD->HRel B g s.hp w->∀us,fj g vs us->gY P f us.toArray w λv w'=>∃g',Le g g'/\HRel B g' s'.hp w'/\di g' sl v:=by
 obtain⟨e,t1,_,_,hs⟩:=Ct (chk:= .ret ()) (λt t' k=>(ah k).2) hc.slf h;exact⟨e,λB g w hG R us hu=>hs B g w hG R us hu λ_ _ _ _ _=>Cx.none hn⟩
end Go.Abs
end

section
namespace Go.Abs
theorem pa.snoc {r:Rd}{τ:Ty}{p:Int×τ.den}{e:MapEntry}(hk:e.key= .int .i64 p.1)(hv:Rc r τ p.2 [e.val]):∀{xs:List (Int×τ.den)}{es:List MapEntry},pa r τ xs es->pa r τ (xs++[p]) (es++[e])
 |[],es,h=>by
  have h:es=[]:=h;subst h;exact⟨e,[],rfl,hk,hv,rfl⟩
 |_::_,_,⟨e',r',h1,h2,h3,h4⟩=>⟨e',r'++[e],by rw[h1];rfl,h2,h3,pa.snoc hk hv h4⟩
theorem zZ {r:Rd}{τ:Ty}{K:IntKind}{n:Int}:∀{xs:List (Int×τ.den)}{es:List MapEntry}(i:Nat),pa r τ xs es->(xs.any λp=>decide (p.1=n))=false->Instr.findNow (.int K) (.int .i64 n) es i=some none
 |[],es,i,h,_=>by
  have h:es=[]:=h;subst h;rfl
 |p::xs,es,i,⟨e,r',h1,h2,h3,h4⟩,hn=>by
  subst h1;simp only[List.any_cons,Bool.or_eq_false_iff,aC8]at hn
  have hb:(n==p.1)=false:=by simpa using λe:n=p.1=>hn.1 e.symm
  have ih:=zZ (K:=K) (i+1) h4 hn.2;simp[Instr.findNow,Instr.sameNow,h2,hb,ih]
theorem Cs {r:Rd}{τ:Ty}{K:IntKind}{n:Int}(z:τ.den):∀{xs:List (Int×τ.den)}{es:List MapEntry}(i:Nat),pa r τ xs es->
  (Instr.findNow (.int K) (.int .i64 n) es i=some none/\KJ z xs n=z)\/∃j v,Instr.findNow (.int K) (.int .i64 n) es i=some (some (j,v))/\Rc r τ (KJ z xs n) [v]
 |[],es,i,h=>by
  have h:es=[]:=h;subst h;exact .inl ⟨rfl,rfl⟩
 |p::xs,es,i,⟨e,r',h1,h2,h3,h4⟩=>by
  subst h1;unfold KJ
  by_cases hb:n=p.1
  ·rw[aC1 hb];have FJ:(n==p.1)=true:=(by simpa using hb);exact .inr ⟨i,e.val,by simp[Instr.findNow,Instr.sameNow,h2,FJ],h3⟩
  ·rw[aB9 hb];have FJ:(n==p.1)=false:=(by simpa using hb)
   rcases Cs (K:=K) z (i+1) h4 with⟨k1,k2⟩|⟨j,v,k1,k2⟩
   ·exact .inl ⟨by simp[Instr.findNow,Instr.sameNow,h2,FJ,k1],k2⟩
   ·exact .inr ⟨j,v,by simp[Instr.findNow,Instr.sameNow,h2,FJ,k1],k2⟩
theorem BC {E:Env}{t e:TypeId}(h:mapKey E t=some e):∃k,E.P.underlying t=some (.map k e)/\E.P.underlying k=some (.int .i64):=by
 unfold mapKey at h;split at h
 ·rename_i k e' hu;split at h
  ·rename_i hk
   injection h with h
   subst h;exact⟨k,hu,hk⟩
  ·cases h
 ·cases h
theorem HRel.UH {B:Base}{g:Gh}{hp:List (Nat×Obj)}{w:World}(R:HRel B g hp w){id:Nat}{τ:Ty}(h1:τ.one=true):
  ∃g',Le g g'/\HRel B g' ((id, .mp (g.top id) τ [])::hp) (World.more w (.map #[] 0))/\di g' (.val (.one (.own id (g.top id)))) (.map (some w.heap.size)):=by
 have hle:=R.Dm (id:=id) (b:=w.heap.size) (u:= .map (some w.heap.size)) (nb:=[]) (out:=[]) rfl;refine⟨_,hle,R.install rfl R.qa (u5 w _) (λx hx=>by simp at hx) rfl ?_, ?_⟩
 ·exact⟨h1,w.heap.size,#[],0,by simp[Gh.inst],by simp[Gh.inst],R.qa.ep,As w _,rfl⟩
 ·exact⟨by simp[Gh.inst],by simp[Gh.inst],rfl⟩
theorem z8 {d:Nat}{τ:Ty}{s s':St}{sl:Slot}(h:(bif τ.one then(hJ d).bind λg=>AM.kr d (.mp g τ []) (.ret (Slot.val (.one (.own d g))))else .fail).run s=some (sl,s')):
  s'.env=s.env/\∀{B:Base} {g:Gh} {w:World},HRel B g s.hp w->∃g',Le g g'/\HRel B g' s'.hp (World.more w (.map #[] 0))/\di g' sl (.map (some w.heap.size)):=by
 obtain⟨h1,h⟩:=bm h;obtain⟨gen,t,h2,h3⟩:=AM.af h;have mB:t=s:=(nZ h2).1;subst mB;simp only[AM.run,aG1,aH2]at h3;obtain⟨rfl,rfl⟩:=h3;refine⟨rfl,λ{B g w} R=> ?_⟩;obtain⟨rfl,_⟩:=j1 R h2;exact R.UH h1
theorem F7 {E:Env}{t:TypeId}{r:Option Operand}{s s':St}{sl:Slot}{d:Nat}(h:(eC E d (.makeMap t r)).run s=some (sl,s')):Yld E (.makeMap t r) s sl s':=by
 cases r with
 |none=>
  obtain⟨e,t1,h1,h2⟩:=AM.af h;obtain⟨hm,rfl⟩:=ct h1;obtain⟨τ,t2,h3,h4⟩:=AM.af h2;obtain rfl:=xj h3;obtain⟨he,hb⟩:=z8 h4;refine⟨he,λo ho B g a w R V=> ?_⟩;obtain⟨g',l,R',hs⟩:=hb R;refine⟨_,_,g', ?_,l,R',hs⟩;unfold execOp;rw[ho]
  apply dh
  simp[Instr.makeMap,World.more,newObj,Sem.run,Result.andThen]
 |some x=>
  obtain⟨v,t0,k1,k2⟩:=AM.af h;obtain⟨e0,r1⟩:=cD k1;obtain⟨n,t1,k3,k4⟩:=AM.af k2;obtain⟨⟨k,e2⟩,e1⟩:=kP k3;obtain⟨e,t2,k5,k6⟩:=AM.af k4;obtain⟨hm,e3⟩:=ct k5;obtain⟨τ,t3,k7,k8⟩:=AM.af k6;have e4:=xj k7;subst e4;subst e3;subst e1;subst e0;subst e2;obtain⟨he,hb⟩:=z8 k8;refine⟨he,λo ho B g a w R V=> ?_⟩;obtain⟨g',l,R',hs⟩:=hb R;have hx:a.eval x= .int k n:=gZ (r1 V);obtain⟨kt,hu,_⟩:=BC hm;refine⟨_,_,g', ?_,l,R',hs⟩;unfold execOp;rw[ho]
  apply dh
  simp[Instr.makeMap,hx,run_underlying hu,Go.asInt,asIntOf,World.more,newObj,Sem.run,Result.andThen]
theorem FV {w:World}{b:Nat}{o o':Go.Obj}(h:w.heap[b]?=some o):Turned w {w with heap:=w.heap.setIfInBounds b o'} b:=
 ⟨λx hx=>(MapKept.heap_set h).2 x hx,by simp,by
  have:=(Array.getElem?_eq_some_iff.1 h).1
  simpa using this,rfl,rfl,rfl⟩
theorem Hq {E:Env}{t:TypeId}{m k x:Operand}{s s':St}{sl:Slot}{d:Nat}(h:(eC E d (.insert t m k x)).run s=some (sl,s')):
  s'.env=s.env/\sl= .un/\∀(o:Oper),o.op= .insert t m k x->∀B g a w,HRel B g s.hp w->iC g s.env a->
  ∃w' g',(execOp a.eval o).run E.P w= .ok .skip w'/\Le g g'/\HRel B g' s'.hp w':=by
 obtain⟨vm,t1,a1,a2⟩:=AM.af h;obtain⟨e1,r1⟩:=cD a1;obtain⟨cm,t2,a3,a4⟩:=AM.af a2;obtain⟨e2,e3⟩:=uy a3;obtain⟨vk,t3,a5,a6⟩:=AM.af a4;obtain⟨e4,r2⟩:=cD a5;obtain⟨vx,t4,a7,a8⟩:=AM.af a6;obtain⟨e5,r3⟩:=cD a7;subst e5;subst e4;subst e3;subst e1;subst e2;clear a1 a2 a3 a4 a5 a6 a7 h;have h:=a8;clear a8;split at h
 ·rename_i n τ y;unfold QA at h;split at h
  ·rename_i id gen;obtain⟨e,t5,b1,b2⟩:=AM.af h;obtain⟨hm,e6⟩:=ct b1;subst e6;clear b1 h;have h:=b2;clear b2;simp only[AM.run]at h;split at h
   ·rename_i g0 τ' xs heq;obtain⟨hb,k0⟩:=bm h;clear h;simp only[aC6]at hb;have xG:=beq_eq hb.1;subst xG
    by_cases hτ:τ=τ'
    ·subst hτ;rw[dif_pos rfl]at k0;simp only[AM.run,aG1,aH2]at k0;obtain⟨rfl,rfl⟩:=k0;refine⟨rfl,rfl,λo ho B g a w R V=> ?_⟩;obtain⟨h1,b,es,Td,k1,k2,k3,k4,k5⟩:=R.eD _ _ heq
     have ZC:a.eval m= .map (some b):=by
      obtain⟨_,e1,_⟩:bu g (.own id g0) (a.eval m):=r1 V;rw[e1,k1]
     have ZQ:a.eval k= .int .i64 n:=gZ (r2 V);obtain⟨_,hx⟩:bu g (.v τ y) (a.eval x):=r3 V;obtain⟨kt,hu,Xc⟩:=BC hm;have Yv:Instr.findNow (.int .i64) (.int .i64 n) es.toList 0=some none:=zZ 0 k5 (by simpa using hb.2);refine⟨_,g.take id [], ?_,Le.take g id [],R.write heq rfl k2 k3 (FV (o':= .map (es.push {key:= .int .i64 n,val:=a.eval x,born:=Td}) (Td+1)) k4) (λx hx=>by simp at hx) ?_⟩
     ·unfold execOp;rw[ho];simp only[ZC,ZQ,Instr.mapUpdate,Sem.run_bind,run_underlying hu,Result.andThen_ok,MapKept.run_getObj_map k4];rw[show(10000:Nat)=9999+1 from rfl,MapKept.run_checkKey Xc (show MapKept.IsKey (.int .i64) (.int .i64 n)from rfl)];simp only[Result.andThen_ok,MapKept.run_findKey Xc Yv,MapKept.run_setObj_map _ k4];rfl
     ·refine⟨h1,b,es.push {key:= .int .i64 n,val:=a.eval x,born:=Td},Td+1,k1, ?_,k3,(MapKept.heap_set k4).1, ?_⟩
      ·simpa[Gh.take]using k2
      ·rw[Array.toList_push];exact pa.snoc rfl hx k5
    ·rw[dif_neg hτ]at k0;cases k0
   ·cases h
  ·cases h
 ·cases h
theorem HP {E:Env}{t:TypeId}{m k:Operand}{s s':St}{sl:Slot}{d:Nat}(h:(eC E d (.lookup t m k false)).run s=some (sl,s')):Yld E (.lookup t m k false) s sl s':=by
 obtain⟨vm,t1,a1,a2⟩:=AM.af h;obtain⟨e1,r1⟩:=cD a1;obtain⟨cm,t2,a3,a4⟩:=AM.af a2;obtain⟨e2,e3⟩:=uy a3;obtain⟨vk,t3,a5,a6⟩:=AM.af a4;obtain⟨e4,r2⟩:=cD a5;subst e4;subst e3;subst e1;subst e2;clear a1 a2 a3 a4 a5 h;have h:=a6;clear a6;split at h
 ·rename_i n;unfold Qh at h;split at h
  ·rename_i id gen;obtain⟨e,t5,b1,b2⟩:=AM.af h;obtain⟨hm,e6⟩:=ct b1;subst e6;clear b1 h;have h:=b2;clear b2;split at h
   ·rename_i τ0 z hz;simp only[AM.run]at h;split at h
    ·rename_i g0 τ' xs heq;obtain⟨hb,k0⟩:=bm h;clear h;have xG:=beq_eq hb;subst xG
     by_cases hτ:τ0=τ'
     ·subst hτ;rw[dif_pos rfl]at k0;obtain⟨rfl,rfl⟩:=ah k0
      refine Yld.still λo ho B g a w R V=> ?_
      obtain⟨h1,b,es,Td,k1,k2,k3,k4,k5⟩:=R.eD _ _ heq
      have ZC:a.eval m= .map (some b):=by
       obtain⟨_,e1,_⟩:bu g (.own id g0) (a.eval m):=r1 V;rw[e1,k1]
      have ZQ:a.eval k= .int .i64 n:=gZ (r2 V);obtain⟨kt,hu,Xc⟩:=BC hm;unfold MU at hz;simp only[aH1]at hz;obtain⟨zv,⟨i,hi,Wo⟩,hz⟩:=hz;obtain⟨_,Uk⟩:bu g (.v τ0 z) zv:=z7 hz g
      rcases Cs (K:= .i64) (n:=n) z 0 k5 with⟨f1,f2⟩|⟨j,v,f1,f2⟩
      ·refine⟨zv, ?_,h1, ?_⟩
       ·unfold execOp;rw[ho]
        apply dh
        simp only[ZC,ZQ,Instr.lookup,Sem.run_bind,run_underlying hu,Result.andThen_ok,MapKept.run_getObj_map k4,Sem.run_pure];rw[show(10000:Nat)=9999+1 from rfl,MapKept.run_checkKey Xc (show MapKept.IsKey (.int .i64) (.int .i64 n)from rfl)];simp only[Result.andThen_ok,MapKept.run_findKey Xc f1];simp[zeroValue,typeInfo,hi,Wo]
       ·rw[f2];exact Uk
      ·refine⟨v, ?_,h1,f2⟩;unfold execOp;rw[ho]
       apply dh
       simp only[ZC,ZQ,Instr.lookup,Sem.run_bind,run_underlying hu,Result.andThen_ok,MapKept.run_getObj_map k4,Sem.run_pure];rw[show(10000:Nat)=9999+1 from rfl,MapKept.run_checkKey Xc (show MapKept.IsKey (.int .i64) (.int .i64 n)from rfl)];simp only[Result.andThen_ok,MapKept.run_findKey Xc f1];simp
     ·rw[dif_neg hτ]at k0;cases k0
    ·cases h
   ·cases h
  ·cases h
 ·cases h
end Go.Abs
end

section
namespace Go.Abs
structure EnvOk (E:Env):Prop where
 calls:∀f c,E.callee f=some c->vf E.P E.df f c
def VC (E:Env)(B:Base):Prop:=∀f ts,E.slf=some (f,ts)->ts≠[]->
 ∃b ty,B.arg (ts.getLastD 0)= .pointer (some ⟨b,0,none⟩)/\B.w.heap[b]?=some (.cells #[.func (.func f) #[] (ts.map B.arg).toArray] ty (0,0))/\B.dj b=none/\B.aD b=none
structure ActRel (E:Env)(B:Base)(g:Gh)(env:List (Nat×Slot))(a:Act):Prop where
 env:iC g env a
 size:a.tmps.size=E.nt
 defers:a.defers=[]
 kept:∀t∈E.lZ,a.tmps.getD t undef=B.arg t
 slf:VC E B
 ini:E.ini=true->Le B.g0 g
theorem ActRel.mono {E:Env}{B:Base}{g g':Gh}(h:Le g g'){env:List (Nat×Slot)}{a:Act}(H:ActRel E B g env a):ActRel E B g' env a:=⟨H.env.mono h,H.size,H.defers,H.kept,H.slf,λe=>(H.ini e).trans h⟩
def Vt (E:Env)(op:Op)(s:St)(sl:Slot)(s':St):Prop:=
 s'.env=s.env/\∀(o:Oper),o.op=op->∀B g a w,ie E.df g.aD->HRel B g s.hp w->ActRel E B g s.env a->∀(next:Act->World->Prop) (Q:Exit->Act->World->Prop),
  (∀v w' g',Le g g'->HRel B g' s'.hp w'->di g' sl v->next (a.put o.dst v) w')->o.wp E.P a w next Q
theorem Yld.ok {E:Env}{op:Op}{s s':St}{sl:Slot}(h:Yld E op s sl s'):Vt E op s sl s':=by
 refine⟨h.1,λo ho B g a w _ R V next Q hn=> ?_⟩;obtain⟨v,w',g',e,l,R',hs⟩:=h.2 o ho B g a w R V.env;unfold Oper.wp;rw[e];exact hn v w' g' l R' hs
theorem wY {g:Gh}:∀{jJ:List (Nat×Nat)}{us:List Value},sx g jJ us->fj g (jJ.map λp=> .one (.ptr p.1 p.2 0)) us
 |[],_,h=>h
 |p::r,us,⟨b,o,v,e,h1,h2,h3⟩=>⟨_,_,e,⟨h1,b,o,h2,rfl⟩,wY h3⟩
theorem fj.append {g:Gh}:∀{a b:List Val}{us vs:List Value},fj g a us->fj g b vs->fj g (a++b) (us++vs)
 |[],_,_,_,h,k=>by have h:_=_:=h;subst h;exact k
 |_::_,_,_,_,⟨u,r,e,hu,hr⟩,k=>by subst e;exact⟨u,_,rfl,hu,hr.append k⟩
theorem sx.eq {g:Gh}:∀{jJ:List (Nat×Nat)}{us vs:List Value},sx g jJ us->sx g jJ vs->us=vs
 |[],_,_,h,k=>by have h:_=_:=h;have k:_=_:=k;rw[h,k]
 |_::_,_,_,⟨b,o,v,e,_,h2,h3⟩,⟨b',o',v',e',_,WJ,Xu⟩=>by
  rw[h2]at WJ;rw[e,e',WJ,sx.eq h3 Xu]
theorem sx.last {g:Gh}:∀{jJ:List (Nat×Nat)}{us:List Value}{p:Nat×Nat},sx g jJ us->jJ.getLast?=some p->us.getLast?=some (g.cv p.1 p.2)
 |[],_,_,_,h=>by cases h
 |[q],_,p,⟨b,o,v,e,h1,h2,h3⟩,h=>by
  have h3:v=[]:=h3;have h:some q=some p:=h
  injection h with h
  subst h;subst h3;subst e;rw[h2];rfl
 |q::q'::r,_,p,⟨b,o,v,e,h1,h2,h3⟩,h=>by
  have ih:=sx.last h3 (p:=p) (by simpa using h);obtain⟨b',o',v',e',_⟩:=h3;subst e;subst e';simpa using ih
theorem po:∀{ts:List Nat}{cs:List (Nat×Nat)}{s s':St},(xV ts).run s=some (cs,s')->s'=s/\∀g a,iC g s.env a->sx g cs (ts.map λt=>a.tmps.getD t undef)
 |[],cs,s,s',h=>by
  obtain⟨rfl,rfl⟩:=ah h;exact⟨rfl,λg a V=>rfl⟩
 |t::ts,cs,s,s',h=>by
  simp only[xV,AM.run]at h;split at h
  ·rename_i x hx;split at h
   ·rename_i id gen;obtain⟨c2,t2,h1,h2⟩:=AM.af h;obtain⟨rfl,rfl⟩:=ah h2;obtain⟨rfl,k⟩:=po h1;refine⟨rfl,λg a V=> ?_⟩;have hc:bu g (.ptr id gen 0) (a.tmps.getD t undef):=V t _ hx;obtain⟨h1,b,o,h2,h3⟩:=hc;exact⟨b,o,_,by rw[List.map_cons,h3];rfl,h1,h2,k g a V⟩
   ·cases h
  ·cases h
theorem MR {w:World}{b:Nat}{o:Go.Obj}(h:w.heap[b]?=some o):b<w.heap.size:=(Array.getElem?_eq_some_iff.1 h).1
theorem fj.length {g:Gh}:∀{vs:List Val}{us:List Value},fj g vs us->vs.length=us.length
 |[],_,h=>by have h:_=_:=h;rw[h];rfl
 |_::_,_,⟨_,_,e,_,hr⟩=>by rw[e,aC3,aC3,fj.length hr]
theorem uE {E:Env}{ts:List Nat}(h:kept E ts=true):ts≠[]/\∀t∈ts,t∈E.lZ:=by
 have h:(!ts.isEmpty&&ts.all λt=>E.lZ.any (Nat.beq t))=true:=h;rw[aC6]at h;refine⟨λe=>by subst e;exact absurd h.1 (by decide),λt ht=> ?_⟩;obtain⟨u,hu,he⟩:=List.any_eq_true.1 (List.all_eq_true.1 h.2 t ht);rw[beq_eq he];exact hu
theorem JA {E:Env}{B:Base}{g:Gh}{env:List (Nat×Slot)}{a:Act}(V:ActRel E B g env a){ts:List Nat}(h:kept E ts=true):(ts.map λt=>a.tmps.getD t undef)=ts.map B.arg:=
 List.map_congr_left λt ht=>V.kept t ((uE h).2 t ht)
theorem sX:∀{a b:List (Nat×Nat)},uF a b=true->a=b
 |[],[],_=>rfl
 |x::a,y::b,h=>by
  simp only[uF,aC6]at h;rw[sX h.2]
  congr 1
  exact Prod.ext (beq_eq h.1.1) (beq_eq h.1.2)
 |[],_::_,h=>by cases h
 |_::_,[],h=>by cases h
theorem Oz {E:Env}{f:FuncId}{jJ:List (Nat×Nat)}(t t':St)(h:(Fg E f jJ).run t=some ((),t')):t'=t:=by
 unfold Fg at h;split at h
 ·obtain⟨_,h⟩:=bm h;obtain⟨cs,t2,h1,h2⟩:=AM.af h;obtain⟨rfl,_⟩:=po h1;obtain⟨_,h2⟩:=bm h2;exact(ah h2).2
 ·unfold QW at h;split at h
  ·simp only[AM.run]at h;split at h
   ·obtain⟨_,h⟩:=bm h;exact(ah h).2
   ·cases h
  ·cases h
theorem U4 {E:Env}{f:FuncId}{jJ:List (Nat×Nat)}{t:St}(h:(Fg E f jJ).run t=some ((),t)){B:Base}{g g1:Gh}{env:List (Nat×Slot)}{a:Act}{w:World}(V:ActRel E B g env a)(he:t.env=env)(l:Le g g1)(R1:HRel B g1 t.hp w){nb:List Nat}(hO:dP g1 nb)
  {as:List VSp} {args vs:List Value} (hs:vF as=some (f,args.length)) (hc:sx g jJ vs):Cx as g1.aD w nb (args++vs):=by
 intro f' m hm;rw[hs]at hm
 injection hm with hm;injection hm with ax0 ay7
 subst ax0;subst ay7;rw[List.drop_left];have AO:=hc.mono l
 have Uh:∀{x:Value},vs.getLast?=some x->(args++vs).getLast?=some x:=λ{x} hx=>by
  rw[List.getLast?_append,hx];rfl
 unfold Fg at h;split at h
 ·rename_i f' ts hE;obtain⟨hb,h0⟩:=bm h;simp only[aC6]at hb;obtain rfl:=beq_eq hb.1;obtain⟨cs,t2,h1,h2⟩:=AM.af h0;obtain⟨e2,k⟩:=po h1;subst e2;obtain⟨h3,_⟩:=bm h2;obtain rfl:=sX h3;subst he;have k2:=k g a V.env;rw[JA V hb.2]at k2;have hv:vs=ts.map B.arg:=hc.eq k2;obtain⟨b,ty,q1,q2,q3,q4⟩:=V.slf _ ts hE (uE hb.2).1;obtain⟨f1,f2,f3⟩:=R1.frame b (MR q2) q3 q4;refine⟨b,ty, ?_,by rw[f3,q2,hv],λhb=> ?_,f2⟩
  ·apply Uh
   rw[hv,<-q1,List.getLast?_map];have jy:=(uE hb.2).1;rw[List.getLast?_eq_some_getLast jy,List.getLastD_eq_getLast?,List.getLast?_eq_some_getLast jy];rfl
  ·have:=hO.2 b hb;rw[f1]at this;cases this
 ·unfold QW at h;split at h
  ·rename_i p hp;simp only[AM.run]at h;split at h
   ·rename_i g0 bt f2 cs heq;obtain⟨hb,_⟩:=bm h;simp only[aC6]at hb;obtain rfl:=beq_eq hb.1.1;obtain rfl:=beq_eq hb.1.2;obtain rfl:=sX hb.2;obtain⟨b,o,arr,ty,L,k1,k2,k3,k4,k5,k6,k7,k8,k9⟩:=R1.eD _ _ heq;subst k7;obtain⟨u,r,e,hu,hr⟩:=k4;have hr:r=[]:=hr;subst hr;subst e;obtain⟨ZT,e,hv⟩:=hu;have aB3:vs=ZT:=AO.eq hv;subst aB3;subst e;have hlen:(g1.outer p.1).length=1:=k8
    have AJ:arr=#[.func (.func f2) #[] vs.toArray]:=by
     apply Array.ext'
     rw[k5,List.take_zero,List.nil_append,List.drop_eq_nil_of_le (by simp[hlen]),aF0]
    refine⟨b,ty,Uh (by rw[sx.last AO hp];exact congrArg some k1),by rw[k3,AJ],λhb=> ?_, ?_⟩
    ·have:=hO.2 b hb;rw[k2.1]at this;injection this with this;cases this
    ·cases hi:g1.aD b with
     |none=>rfl
     |some L=>have:=(R1.aD b L hi).1;rw[k2.1]at this;cases this
   ·cases h
  ·cases h
theorem HJ {E:Env}(hE:EnvOk E){c:Call}{f:Operand}(hc:c.callee= .value f){d:Nat}{s s':St}{sl:Slot}(h:(eC E d (.call c)).run s=some (sl,s')):Vt E (.call c) s sl s':=by
 unfold eC at h;simp only[hc]at h;obtain⟨vs,t1,h1,h2⟩:=AM.af h;obtain⟨v,t2,h3,h4⟩:=AM.af h2;obtain⟨cl,t3,h5,h6⟩:=AM.af h4;obtain⟨rfl,r1⟩:=mG h1;obtain⟨rfl,r2⟩:=cD h3;obtain⟨rfl,rfl⟩:=uy h5;unfold QL at h6;split at h6
 ·rename_i Zy jJ
  cases zB:E.callee Zy with
  |none=>rw[zB]at h6;cases h6
  |some al7=>
   rw[zB]at h6;simp only at h6
   have key:s'.env=t3.env/\∀B g a w,ie E.df g.aD->HRel B g t3.hp w->ActRel E B g t3.env a->∀us,sx g jJ us->gY E.P Zy ((c.args.toList.map a.eval)++us).toArray w λv w'=>∃g',Le g g'/\HRel B g' s'.hp w'/\di g' sl v:=by
    split at h6
    ·rename_i am4;obtain⟨e1,hs⟩:=LO ((hE.calls Zy al7 zB).plain am4) am4 h6;exact⟨e1,λB g a w hG R V us Hd=>hs B g w hG R _ ((r1 V.env).append (wY Hd))⟩
    ·rename_i sf YK;obtain⟨hb,h6⟩:=bm h6;simp only[aC6]at hb;obtain rfl:=beq_eq hb.1;obtain⟨e1,t1,e2,Wy,hs⟩:=Ct (Oz) (hE.calls _ al7 zB) h6;refine⟨e1,λB g a w hG R V us Hd=>hs B g w hG R _ ((r1 V.env).append (wY Hd)) λg1 nb l R1 hO=> ?_⟩
     have hlen:sf.2=(c.args.toList.map a.eval).length:=by
      rw[beq_eq hb.2];exact(fj.length (r1 V.env))
     exact U4 Wy V e2 l R1 hO (by rw[YK,<-hlen]) Hd
   obtain⟨e1,hs⟩:=key;refine⟨e1,λo ho B g a w hG R V next Q hn=> ?_⟩;obtain⟨us,eu,Hd⟩:=r2 V.env;have hI:=hs B g a w hG R V us Hd;unfold Oper.wp
   have YU:(execOp a.eval o).run E.P w=(callFunc Zy ((c.args.toList.map a.eval)++us).toArray).run E.P w:=by
    unfold execOp;rw[ho]
    have ea:(List.map a.eval c.args.toList++us).toArray=c.args.map a.eval++us.toArray:=by
     apply Array.ext'
     simp
    rw[ea];simp only[resolve,hc];rw[show a.eval f=_ from eu];simp[Deferred.ofValue,invoke]
   rw[YU];unfold gY at hI;split at hI
   ·rename_i f' a' w1 AL;rw[AL]
    refine Calls.mono hI λe w' ⟨v,ee,hv⟩=> ?_
    subst ee;obtain⟨g',l,R',CB⟩:=hv;exact hn v w' g' l R' CB
   ·rename_i v w1 AL;rw[AL];obtain⟨g',l,R',CB⟩:=hI;exact hn v w1 g' l R' CB
   ·exact hI.elim
 ·cases h6
theorem Ad {E:Env}(hE:EnvOk E){op:Op}{d:Nat}{s s':St}{sl:Slot}(h:(eC E d op).run s=some (sl,s')):Vt E op s sl s':=by
 cases op with
 |move x=>exact(Ex h).1.ok
 |assign x=>exact(Ex h).2.ok
 |pick c a b=>exact(LH h).ok
 |alloc t=>exact(Je h).ok
 |box t x=>exact(OA h).ok
 |build t ps=>exact(Jb h).ok
 |buildSlice t n ps=>exact(A3 h).ok
 |load t x=>
  have h:(match HT E t x with
   |some p=>(xV p.2).bind λcs=>AM.ret (Slot.val (Val.one (Cell.fn p.1 cs)))
   |none=>Md E d t x).run s=some (sl,s'):=h
  split at h
  ·rename_i p hp;obtain⟨cs,t2,h1,h2⟩:=AM.af h;obtain⟨e1,k⟩:=po h1;obtain⟨rfl,rfl⟩:=ah h2;subst e1;refine⟨rfl,λo ho B g a w hG R V next Q hn=> ?_⟩;unfold HT at hp;split at hp
   ·rename_i f ts k' hE
    cases hc:(Nat.beq k' (ts.getLastD 0)&&kept E ts&&QF (E.isAgg t))with
    |false=>rw[hc]at hp;cases hp
    |true=>
     rw[hc]at hp
     injection hp with hp
     subst hp;simp only[aC6]at hc;obtain rfl:=beq_eq hc.1.1
     have Mt:E.isAgg t=some false:=by
      have:=hc.2
      revert this
      cases E.isAgg t with
      |none=>exact λh=>by cases h
      |some b=>cases b<;>intro h<;>first|rfl|cases h
     obtain⟨b,ty,q1,q2,q3,q4⟩:=V.slf _ ts hE (uE hc.1.2).1;obtain⟨f1,f2,f3⟩:=R.frame b (MR q2) q3 q4;have jy:=(uE hc.1.2).1
     have Tz:ts.getLastD 0∈ts:=by rw[List.getLastD_eq_getLast?,List.getLast?_eq_some_getLast jy];exact List.getLast_mem jy
     have ha:a.tmps.getD (ts.getLastD 0) undef= .pointer (some ⟨b,0,none⟩):=(V.kept _ ((uE hc.1.2).2 _ Tz)).trans q1;have k2:=k g a V.env;rw[JA V hc.1.2]at k2
     have oF:w.cell? ⟨b,0,none⟩=some (.func (.func f) #[] (ts.map B.arg).toArray):=by
      have hw:=f3.trans q2;simp[World.cell?,hw]
     have AL:(execOp a.eval o).run E.P w= .ok (.value (.func (.func f) #[] (ts.map B.arg).toArray)) w:=by
      unfold execOp;rw[ho]
      apply dh
      show(Instr.loadAt t (a.tmps.getD (ts.getLastD 0) undef)).run E.P w=_;rw[ha];simp only[Instr.loadAt,Instr.sureAddr,loadVar,Sem.run_bind,Sem.run_pure,Result.andThen_ok,uz Mt,Sem.run_ite];simp[oF]
     unfold Oper.wp;rw[AL];exact hn _ w g (Le.refl g) R ⟨_,rfl,k2⟩
   ·cases hp
  obtain⟨e,hs⟩:=Lw h;refine⟨e,λo ho B g a w hG R V next Q hn=> ?_⟩;obtain⟨v,w',g',e',l,R',CB⟩:=hs o ho B g a w hG.one R V.env;unfold Oper.wp;rw[e'];exact hn v w' g' l R' CB
 |store t x y=>
  obtain⟨e,rfl,hs⟩:=Jg h;refine⟨e,λo ho B g a w hG R V next Q hn=> ?_⟩;obtain⟨w',g',e',l,R'⟩:=hs o ho B g a w R V.env;unfold Oper.wp;rw[e'];exact hn undef w' g' l R' trivial
 |nilCheck x=>exact(D6 h).ok
 |binOp op t x y ty=>exact(N0 h).ok
 |unOp op t x=>
  cases op with
  |not=>exact(Oa h).ok
  |neg=>exact(N7 h).ok
  |_=>cases h
 |convert a b x=>exact(FY h).ok
 |makeMap t r=>exact(F7 h).ok
 |insert t m k x=>
  obtain⟨e,rfl,hs⟩:=Hq h;refine⟨e,λo ho B g a w hG R V next Q hn=> ?_⟩;obtain⟨w',g',e',l,R'⟩:=hs o ho B g a w R V.env;unfold Oper.wp;rw[e'];exact hn undef w' g' l R' trivial
 |lookup t m k ok=>
  cases ok with
  |false=>exact(HP h).ok
  |true=>cases h
 |makeInterface t x=>exact(xY h).ok
 |makeFunc f a b=>exact(DT h).ok
 |makeSlice t l c=>exact(CW h).ok
 |slice t x lo hi mx=>
  cases mx with
  |none=>exact(I3 h).ok
  |some m=>cases h
 |fieldAddr t x i=>exact(CM h).ok
 |field t x i=>exact(Jr h).ok
 |indexAddr t x i=>exact(CH h).ok
 |index t x i=>exact(Ji h).ok
 |extract t i=>exact(F2 h).ok
 |call c=>
  cases hc:c.callee with
  |value f=>exact HJ hE hc h
  |builtin b=>
   cases b with
   |len=>exact(NY hc h).ok
   |max=>exact(Ox hc h).ok
   |append=>exact(HA hc h).ok
   |_=>unfold eC at h;simp only[hc]at h;cases h
  |invoke r m=>unfold eC at h;simp only[hc]at h;cases h
 |_=>cases h
theorem PI (a:Act){d t:Nat}(v:Value)(e:d≠t):(a.put (some d) v).tmps.getD t undef=a.tmps.getD t undef:=by
 simp[Act.put,Array.getD_eq_getD_getElem?,Array.getElem?_setIfInBounds_ne e]
theorem MJ {E:Env}{d:Nat}(h:(!E.lZ.any (Nat.beq d))=true):∀t∈E.lZ,d≠t:=by
 intro t ht e;subst e;have:E.lZ.any (Nat.beq d)=true:=List.any_eq_true.2 ⟨d,ht,Nat.beq_refl d⟩;rw[this]at h;cases h
theorem M8 {E:Env}{B:Base}{g:Gh}{env:List (Nat×Slot)}{a:Act}(H:ActRel E B g env a){d:Nat}{sl:Slot}{v:Value}(hd:d<E.nt)(hk:∀t∈E.lZ,d≠t)(hs:di g sl v):ActRel E B g ((d,sl)::env) (a.put (some d) v):=by
 refine⟨λt s ht=> ?_,by simpa[Act.put]using H.size,H.defers,λt ht=>by rw[PI a v (hk t ht)];exact H.kept t ht,H.slf,H.ini⟩
 by_cases e:d=t
 ·subst e;rw[aE]at ht
  injection ht with ht
  subst ht
  have:(a.put (some d) v).tmps.getD d undef=v:=by
   have gX:d<a.tmps.size:=by rw[H.size];exact hd
   simp[Act.put,Array.getD,gX]
  rw[this];exact hs
 ·rw[ay _ _ e]at ht
  have:(a.put (some d) v).tmps.getD t undef=a.tmps.getD t undef:=by
   simp[Act.put,Array.getD_eq_getD_getElem?,Array.getElem?_setIfInBounds_ne e]
  rw[this];exact H.env t s ht
theorem ActRel.Ix {E:Env}{B:Base}{g:Gh}{env YN:List (Nat×Slot)}{a:Act}(H:ActRel E B g env a)(e:YN=env):ActRel E B g YN a:=by subst e;exact H
def Vk (E:Env)(o:Oper)(s s':St):Prop:=
 ∀B g a w,ie E.df g.aD->HRel B g s.hp w->ActRel E B g s.env a->∀(next:Act->World->Prop) (Q:Exit->Act->World->Prop),
  (∀a' w' g',Le g g'->HRel B g' s'.hp w'->ActRel E B g' s'.env a'->next a' w')->o.wp E.P a w next Q
theorem Eu {E:Env}(hE:EnvOk E){n:Nat}{o:Oper}{s s':St}(h:(step E n o).run s=some ((),s')):Vk E o s s':=by
 intro B g a w hG R V next Q hn;unfold step at h;split at h
 ·rename_i d hd;obtain⟨hb,h1⟩:=bm h;obtain⟨sl,t,h2,h3⟩:=AM.af h1;simp only[AM.run,aG1,aH2]at h3;obtain⟨_,rfl⟩:=h3;obtain⟨e,hs⟩:=Ad hE h2
  refine hs o rfl B g a w hG R V next Q λv w' g' l R' CB=>hn _ w' g' l R' ?_
  rw[hd];simp only[aC6]at hb;refine M8 ?_ (aE7 hb.1) (MJ hb.2) CB;exact(V.mono l).Ix e
 ·rename_i hd;obtain⟨sl,t,h2,h3⟩:=AM.af h;obtain⟨_,rfl⟩:=ah h3;obtain⟨e,hs⟩:=Ad hE h2
  refine hs o rfl B g a w hG R V next Q λv w' g' l R' CB=>hn _ w' g' l R' ?_
  rw[hd];exact(V.mono l).Ix e
end Go.Abs
end

section
namespace Go.Abs
def St.Eqv (s t:St):Prop:=(∀i,look s.env i=look t.env i)/\∀i,look s.hp i=look t.hp i
theorem St.Eqv.refl (s:St):St.Eqv s s:=⟨λ_=>rfl,λ_=>rfl⟩
theorem St.Eqv.symm {s t:St}(h:St.Eqv s t):St.Eqv t s:=⟨λi=>(h.1 i).symm,λi=>(h.2 i).symm⟩
theorem St.Eqv.trans {s t u:St}(h:St.Eqv s t)(k:St.Eqv t u):St.Eqv s u:=⟨λi=>(h.1 i).trans (k.1 i),λi=>(h.2 i).trans (k.2 i)⟩
theorem ActRel.congr {E:Env}{B:Base}{g:Gh}{e e':List (Nat×Slot)}{a:Act}(h:∀i,look e' i=look e i)(H:ActRel E B g e a):ActRel E B g e' a:=⟨λt s hs=>H.env t s (by rw[<-h t];exact hs),H.size,H.defers,H.kept,H.slf,H.ini⟩
theorem M7 {E:Env}{o:Oper}{s s':St}(h:(skip E o).run s=some ((),s')):s'.hp=s.hp/\∀B g a,ActRel E B g s.env a->ActRel E B g s'.env (a.put o.dst undef):=by
 unfold skip at h;split at h
 ·rename_i d VK;obtain⟨hb,h1⟩:=bm h;simp only[AM.run,aG1,aH2]at h1;obtain⟨_,rfl⟩:=h1;simp only[aC6]at hb;exact⟨rfl,λB g a V=>by rw[VK];exact M8 V (aE7 hb.1) (MJ hb.2) rfl⟩
 ·rename_i VK;obtain⟨_,rfl⟩:=ah h;exact⟨rfl,λB g a V=>by rw[VK];exact V⟩
theorem Jv:∀(ops:List Oper)(j:Nat),KB ops j=ops[j]?
 |[],_=>by simp[KB]
 |_::_,0=>rfl
 |_::r,j+1=>by simp[KB,Jv r j]
theorem G4 (ops:List Oper)(j:Nat):vn ops j=(ops.toArray[j]?).bind (·.dst):=by simp[vn,Jv]
theorem Cm {E:Env}(hE:EnvOk E){ops:List Oper}{n i:Nat}{o:Oper}{s s':St}(ho:ops[i]?=some o)(h:(stepG E ops n o).run s=some ((),s')){B:Base}{g:Gh}{a:Act}{w:World}(hG:ie E.df g.aD)(R:HRel B g s.hp w)(V:ActRel E B g s.env a)
  {K:Act->World->Prop} {Q:Exit->Act->World->Prop} (hK:∀a' w' g',Le g g'->HRel B g' s'.hp w'->ActRel E B g' s'.env a'->K a' w'):wpOp E.P ops.toArray Q i K a w:=by
 unfold wpOp;have NL:ops.toArray[i]?=some o:=(by simpa using ho);rw[NL];simp only;unfold stepG at h;split at h
 ·rename_i hg;have hw:Region.wanted o (yielded ops.toArray a.tmps)=true:=(by simp[Region.wanted,hg]);rw[aG3 hw];exact .inl (Eu hE h B g a w hG R V K Q hK)
 ·rename_i j want hg;obtain⟨d,t,h1,h2⟩:=AM.af h;obtain⟨hd,rfl⟩:=ct h1;simp only[AM.run]at h2;split at h2
  ·rename_i sl CB;split at h2
   ·rename_i gv;have hv:a.tmps.getD d undef= .bool gv:=mA (V.env d _ CB)
    have hy:yielded ops.toArray a.tmps j=some gv:=by
     unfold yielded;rw[<-G4,hd]
     have:a.tmps[d]?=some (.bool gv):=by
      rw[Array.getD_eq_getD_getElem?]at hv
      cases hx:a.tmps[d]? with
      |none=>rw[hx]at hv;simp[undef]at hv
      |some u=>rw[hx]at hv;simpa using hv
     simp[this]
    rcases Mk h2 with⟨hb,h3⟩|⟨hb,h3⟩
    ·have hw:Region.wanted o (yielded ops.toArray a.tmps)=true:=by
      simp only[Region.wanted,hg,hy];simpa using hb
     rw[aG3 hw];exact .inl (Eu hE h3 B g a w hG R V K Q hK)
    ·have hw:Region.wanted o (yielded ops.toArray a.tmps)≠true:=by
      simp only[Region.wanted,hg,hy];simpa using hb
     rw[aF4 hw];obtain⟨e,k⟩:=M7 h3;exact hK _ _ g (Le.refl g) (by rw[e];exact R) (k B g a V)
   ·have hv:a.tmps.getD d undef=undef:=V.env d _ CB
    have hy:yielded ops.toArray a.tmps j=none:=by
     unfold yielded;rw[<-G4,hd];rw[Array.getD_eq_getD_getElem?]at hv
     cases hx:a.tmps[d]? with
     |none=>simp[hx]
     |some u=>rw[hx]at hv;simp only[Option.getD_some]at hv;subst hv;simp[hx,undef]
    have hw:Region.wanted o (yielded ops.toArray a.tmps)≠true:=by
     simp[Region.wanted,hg,hy]
    rw[aF4 hw];obtain⟨e,k⟩:=M7 h2;exact hK _ _ g (Le.refl g) (by rw[e];exact R) (k B g a V)
   ·cases h2
  ·cases h2
theorem Ei {E:Env}{ops:List Oper}{n j d:Nat}{o:Oper}{want gv:Bool}{s:St}(hg:o.guard=some (j,want))(hd:vn ops j=some d)(hs:look s.env d=some (.val (.one (.v .bool gv)))):
  (stepG E ops n o).run s=(bif gv==want then step E (alt n) o else skip E o).run s:=by
 unfold stepG;rw[hg];simp only[hd,iD,AM.run_bind,AM.run,aC0,hs];cases gv==want<;>rfl
theorem P9 {E:Env}{ops:List Oper}{n j d:Nat}{o:Oper}{want:Bool}{s:St}(hg:o.guard=some (j,want))(hd:vn ops j=some d)(hs:look s.env d=some .sk):
  (stepG E ops n o).run s=(skip E o).run s:=by
 unfold stepG;rw[hg];simp only[hd,iD,AM.run_bind,AM.run,aC0,hs]
theorem EJ {ρ:Type}{b:Bool}{t e:Option ρ}{r:ρ}(h:brk b t e=some r):(b=true/\t=some r)\/(b=false/\e=some r):=by
 rw[dO]at h;cases b
 ·exact .inr ⟨rfl,h⟩
 ·exact .inl ⟨rfl,h⟩
theorem mN {α ρ:Type}{m:AM α}{s:St}{K:α->St->Option ρ}{r:ρ}(h:m.exec s K=some r):∃a t,m.run s=some (a,t)/\K a t=some r:=by
 rw[AM.PE]at h
 cases hm:m.run s with
 |none=>rw[hm]at h;cases h
 |some p=>rw[hm]at h;exact⟨p.1,p.2,rfl,h⟩
theorem Dn {s:St}{d:Nat}{x:Slot}(h:look s.env d=some x):St.Eqv {s with env:=(d,x)::s.env} s:=by
 refine⟨λi=> ?_,λ_=>rfl⟩
 by_cases e:d=i
 ·subst e;show look ((d,x)::s.env) d=_;rw[aE,h]
 ·exact ay _ _ e
theorem HM {ρ:Type}{E:Env}{ops:List Oper}{o:Oper}{r:List Oper}{n:Nat}{s:St}{K:St->Option ρ}{x:ρ}(h:pF E ops (o::r) n s K=some x):
  ∃s0 t,St.Eqv s0 s/\(stepG E ops n o).run s0=some ((),t)/\pF E ops r (n+1) t K=some x:=by
 unfold pF at h;split at h
 ·rename_i hg;obtain⟨⟨⟩,t,h1,h2⟩:=mN h;exact⟨s,t,St.Eqv.refl s,by unfold stepG;rw[hg];exact h1,h2⟩
 ·rename_i j want hg;split at h
  ·rename_i d hd;split at h
   ·rename_i gv hs
    rcases EJ h with⟨rfl,h'⟩|⟨rfl,h'⟩
    ·obtain⟨⟨⟩,t,h1,h2⟩:=mN h';refine⟨_,t,Dn hs, ?_,h2⟩;rw[Ei hg hd (aE _ _ _)];cases want<;>exact h1
    ·obtain⟨⟨⟩,t,h1,h2⟩:=mN h';refine⟨_,t,Dn hs, ?_,h2⟩;rw[Ei hg hd (aE _ _ _)];cases want<;>exact h1
   ·rename_i hs;obtain⟨⟨⟩,t,h1,h2⟩:=mN h;exact⟨s,t,St.Eqv.refl s,by rw[P9 hg hd hs];exact h1,h2⟩
   ·cases h
  ·cases h
def KOk {ρ:Type}(E:Env)(B:Base)(K:St->Option ρ)(x:ρ)(Q:Act->World->Prop):Prop:=
 ∀s g a w,K s=some x->ie E.df g.aD->HRel B g s.hp w->ActRel E B g s.env a->Q a w
theorem yD {ρ:Type}{E:Env}(hE:EnvOk E){B:Base}{ops:List Oper}{K:St->Option ρ}{x:ρ}{Q:Exit->Act->World->Prop}(hK:KOk E B K x (Q .normal)):
  ∀(r:List Oper) (n:Nat) (s:St),ops.drop n=r->pF E ops r n s K=some x->∀g a w,ie E.df g.aD->HRel B g s.hp w->ActRel E B g s.env a->wpOps E.P ops.toArray Q (List.range' n r.length) a w
 |[],n,s,hr,h,g,a,w,hG,R,V=>hK s g a w h hG R V
 |o::r,n,s,hr,h,g,a,w,hG,R,V=>by
  obtain⟨s0,t,e,h1,h2⟩:=HM h;rw[aC3,List.range'_succ,wpOps_cons]
  have ho:ops[n]?=some o:=by
   have:=congrArg (·[0]?) hr;simpa[List.getElem?_drop]using this
  have O5:ops.drop (n+1)=r:=by
   rw[<-List.drop_drop,hr];rfl
  exact Cm hE ho h1 hG (R.congr e.2) (V.congr e.1) λa' w' g' l R' V'=>yD hE hK r (n+1) t O5 h2 g' a' w' (hG.mono l.aD) R' V'
end Go.Abs
end

section
namespace Go.Abs
def AM.kj {α:Type}:AM α->St->List Nat->List Nat->Option (α×St×List Nat×List Nat)
 | .ret a,s,r,w=>some (a,s,r,w)
 | .br b t e,s,r,w=>bif b then t.kj s r w else e.kj s r w
 | .fail,_,_,_=>none
 | .vq t k,s,r,w=>match look s.env t with
  |some x=>(k x).kj s ((2*t)::r) w
  |none=>none
 | .AK t x k,s,r,w=>k.kj {s with env:=(t,x)::s.env} r ((2*t)::w)
 | .ke i k,s,r,w=>(k (look s.hp i)).kj s ((2*i+1)::r) w
 | .kr i o k,s,r,w=>k.kj {s with hp:=(i,o)::s.hp} r ((2*i+1)::w)
 | .opt _ x k,s,r,w=>match x with
  |some d=>(k d).kj s r w
  |none=>none
theorem AM.Lm {α ρ:Type}(m:AM α):∀(s:St)(r w:List Nat)(K:α->St->List Nat->List Nat->Option ρ),m.oA s r w K=(m.kj s r w).bind λp=>K p.1 p.2.1 p.2.2.1 p.2.2.2:=by
 induction m with
 |ret a=>intro s r w K;rfl
 |br b t e Rf Rn=>intro s r w K;cases b<;>simp[oA,kj,Rf,Rn,dO]
 |fail=>intro s r w K;rfl
 |vq t k ih=>intro s r w K;simp only[oA,kj];cases look s.env t<;>simp[ih]
 |AK t x k ih=>intro s r w K;simp[oA,kj,ih]
 |ke i k ih=>intro s r w K;simp[oA,kj,ih]
 |kr i o k ih=>intro s r w K;simp[oA,kj,ih]
 |opt c x k ih=>intro s r w K;cases x<;>simp[oA,kj,ih]
theorem AM.PH {α:Type}(m:AM α):∀{s s':St}{r w r' w':List Nat}{a:α},m.kj s r w=some (a,s',r',w')->m.run s=some (a,s'):=by
 induction m with
 |ret a=>intro s s' r w r' w' x h;simp only[kj,aG1,aH2]at h;simp[run,h.1,h.2.1]
 |br b t e Rf Rn=>intro s s' r w r' w' x h;cases b<;>simp only[kj,run,aD6,aD1]at h⊢<;>first|exact Rf h|exact Rn h
 |fail=>intro s s' r w r' w' x h;cases h
 |vq t k ih=>
  intro s s' r w r' w' x h;simp only[kj,run]at h⊢
  cases hl:look s.env t with
  |none=>rw[hl]at h;cases h
  |some y=>rw[hl]at h;exact ih _ h
 |AK t x k ih=>intro s s' r w r' w' x h;exact ih h
 |ke i k ih=>intro s s' r w r' w' x h;exact ih _ h
 |kr i o k ih=>intro s s' r w r' w' x h;exact ih h
 |opt c x k ih=>
  intro s s' r w r' w' y h
  cases x with
  |none=>cases h
  |some d=>exact ih d h
def St.get (s:St)(p:Nat):Option Slot⊕Option Obj:=if p % 2=0 then .inl (look s.env (p/2))else .inr (look s.hp (p/2))
theorem Av (s:St)(t:Nat):s.get (2*t)= .inl (look s.env t):=by unfold St.get;rw[aG3 (by omega),show 2*t/2=t by omega]
theorem De (s:St)(i:Nat):s.get (2*i+1)= .inr (look s.hp i):=by unfold St.get;rw[aF4 (by omega),show(2*i+1)/2=i by omega]
theorem p8 (s:St)(t:Nat)(x:Slot)(p:Nat):St.get {s with env:=(t,x)::s.env} p=if p=2*t then .inl (some x)else s.get p:=by
 unfold St.get
 by_cases hp:p % 2=0
 ·simp only[hp,if_true]
  by_cases e:p=2*t
  ·subst e;rw[aG3 rfl,show 2*t/2=t by omega,aE]
  ·rw[aF4 e,ay _ _ (by omega)]
 ·simp only[hp,aH6];rw[aF4 (by omega)]
theorem p9 (s:St)(i:Nat)(o:Obj)(p:Nat):St.get {s with hp:=(i,o)::s.hp} p=if p=2*i+1 then .inr (some o)else s.get p:=by
 unfold St.get
 by_cases hp:p % 2=0
 ·simp only[hp,if_true];rw[aF4 (by omega)]
 ·simp only[hp,aH6]
  by_cases e:p=2*i+1
  ·subst e;rw[aG3 rfl,show(2*i+1)/2=i by omega,aE]
  ·rw[aF4 e,ay _ _ (by omega)]
theorem H4 {s t:St}:St.Eqv s t↔∀p,s.get p=t.get p:=by
 constructor
 ·intro h p;unfold St.get;rw[h.1,h.2]
 ·intro h;refine⟨λi=> ?_,λi=> ?_⟩
  ·have:=h (2*i);rw[Av,Av]at this;injection this
  ·have:=h (2*i+1);rw[De,De]at this;injection this
theorem AM.Er {α:Type}(m:AM α):∀{s s':St}{r0 w0 r w:List Nat}{a:α},m.kj s r0 w0=some (a,s',r,w)->
  (∀p∈r0,p∈r)/\(∀p∈w0,p∈w)/\(∀p,p∉w->s'.get p=s.get p)/\∀t:St,(∀p∈r,t.get p=s.get p)->
   ∃t',m.kj t r0 w0=some (a,t',r,w)/\(∀p,p∉w->t'.get p=t.get p)/\(∀p,t.get p=s.get p->t'.get p=s'.get p)/\∀p∈w,p∉w0->t'.get p=s'.get p:=by
 induction m with
 |ret a=>
  intro s s' r0 w0 r w x h;simp only[kj,aG1,aH2]at h;obtain⟨rfl,rfl,rfl,rfl⟩:=h;exact⟨λ_ h=>h,λ_ h=>h,λ_ _=>rfl,λt ht=>⟨t,rfl,λ_ _=>rfl,λ_ h=>h,λp h1 h2=>absurd h1 h2⟩⟩
 |br b t e Rf Rn=>
  intro s s' r0 w0 r w x h;cases b
  ·exact Rn h
  ·exact Rf h
 |fail=>intro s s' r0 w0 r w x h;cases h
 |vq t k ih=>
  intro s s' r0 w0 r w x h;simp only[kj]at h;split at h
  ·rename_i sl CB;obtain⟨h1,h2,h3,h4⟩:=ih _ h;refine⟨λp hp=>h1 p (aD9 _ hp),h2,h3,λu hu=> ?_⟩;have hx:=hu (2*t) (h1 _ (aE0 ..));rw[Av,Av]at hx
   injection hx with hx
   obtain⟨t',a1,a2⟩:=h4 u hu;refine⟨t', ?_,a2⟩;simp only[kj,hx,CB];exact a1
  ·cases h
 |AK t x k ih=>
  intro s s' r0 w0 r w y h;obtain⟨h1,h2,h3,h4⟩:=ih h;have hm:2*t∈w:=h2 _ (aE0 ..);refine⟨h1,λp hp=>h2 p (aD9 _ hp),λp hp=> ?_,λu hu=> ?_⟩
  ·rw[h3 p hp,p8,aF4 (show p≠2*t from λe=>hp (by rw[e];exact hm))]
  ·obtain⟨t',a1,a2,a3,a4⟩:=h4 {u with env:=(t,x)::u.env} (λp hp=>by rw[p8,p8,hu p hp]);refine⟨t',a1,λp hp=> ?_,λp hp=>a3 p (by rw[p8,p8,hp]),λp hp vr=> ?_⟩
   ·rw[a2 p hp,p8,aF4 (show p≠2*t from λe=>hp (by rw[e];exact hm))]
   ·by_cases e:p=2*t
    ·exact a3 p (by rw[p8,p8,aG3 e,aG3 e])
    ·exact a4 p hp (λhm=>by rcases aF8.1 hm with h|h;exact e h;exact vr h)
 |ke i k ih=>
  intro s s' r0 w0 r w x h;obtain⟨h1,h2,h3,h4⟩:=ih _ h;refine⟨λp hp=>h1 p (aD9 _ hp),h2,h3,λu hu=> ?_⟩;have hx:=hu (2*i+1) (h1 _ (aE0 ..));rw[De,De]at hx
  injection hx with hx
  obtain⟨t',a1,a2⟩:=h4 u hu;refine⟨t', ?_,a2⟩;simp only[kj,hx];exact a1
 |kr i o k ih=>
  intro s s' r0 w0 r w y h;obtain⟨h1,h2,h3,h4⟩:=ih h;have hm:2*i+1∈w:=h2 _ (aE0 ..);refine⟨h1,λp hp=>h2 p (aD9 _ hp),λp hp=> ?_,λu hu=> ?_⟩
  ·rw[h3 p hp,p9,aF4 (show p≠2*i+1 from λe=>hp (by rw[e];exact hm))]
  ·obtain⟨t',a1,a2,a3,a4⟩:=h4 {u with hp:=(i,o)::u.hp} (λp hp=>by rw[p9,p9,hu p hp]);refine⟨t',a1,λp hp=> ?_,λp hp=>a3 p (by rw[p9,p9,hp]),λp hp vr=> ?_⟩
   ·rw[a2 p hp,p9,aF4 (show p≠2*i+1 from λe=>hp (by rw[e];exact hm))]
   ·by_cases e:p=2*i+1
    ·exact a3 p (by rw[p9,p9,aG3 e,aG3 e])
    ·exact a4 p hp (λhm=>by rcases aF8.1 hm with h|h;exact e h;exact vr h)
 |opt c x k ih=>
  intro s s' r0 w0 r w y h
  cases x with
  |none=>cases h
  |some d=>exact ih d h
theorem u6 {α ρ:Type}{m:AM α}{s:St}{r w:List Nat}{K:α->St->List Nat->List Nat->Option ρ}{x:ρ}(h:m.oA s r w K=some x):∃a t rd wr,m.kj s r w=some (a,t,rd,wr)/\K a t rd wr=some x:=by
 rw[AM.Lm]at h
 cases hm:m.kj s r w with
 |none=>rw[hm]at h;cases h
 |some p=>rw[hm]at h;exact⟨p.1,p.2.1,p.2.2.1,p.2.2.2,rfl,h⟩
theorem AM.GC {α β:Type}(m:AM α)(f:α->AM β):∀s r w,(m.bind f).kj s r w=(m.kj s r w).bind λp=>(f p.1).kj p.2.1 p.2.2.1 p.2.2.2:=by
 induction m with
 |ret a=>intro s r w;rfl
 |br b t e Rf Rn=>intro s r w;cases b<;>simp[AM.bind,AM.kj,Rf,Rn]
 |fail=>intro s r w;rfl
 |vq t k ih=>intro s r w;simp only[AM.bind,AM.kj];cases look s.env t<;>simp[ih]
 |AK t x k ih=>intro s r w;simp[AM.bind,AM.kj,ih]
 |ke i k ih=>intro s r w;simp[AM.bind,AM.kj,ih]
 |kr i o k ih=>intro s r w;simp[AM.bind,AM.kj,ih]
 |opt c x k ih=>intro s r w;cases x<;>simp[AM.bind,AM.kj,ih]
theorem Ci {E:Env}{ops:List Oper}{n j d:Nat}{o:Oper}{want gv:Bool}{s:St}(hg:o.guard=some (j,want))(hd:vn ops j=some d)(hs:look s.env d=some (.val (.one (.v .bool gv)))):
  (stepG E ops n o).kj s [] []=(bif gv==want then step E (alt n) o else skip E o).kj s [2*d] []:=by
 unfold stepG;rw[hg];simp only[hd,iD,AM.GC,AM.kj,aC0,hs];cases gv==want<;>rfl
theorem N5 {E:Env}{ops:List Oper}{n j d:Nat}{o:Oper}{want:Bool}{s:St}(hg:o.guard=some (j,want))(hd:vn ops j=some d)(hs:look s.env d=some .sk):
  (stepG E ops n o).kj s [] []=(skip E o).kj s [2*d] []:=by
 unfold stepG;rw[hg];simp only[hd,iD,AM.GC,AM.kj,aC0,hs]
theorem FZ {ρ:Type}{E:Env}{ops:List Oper}{o:Oper}{r:List Oper}{n:Nat}{s:St}{L:Log}{K:St->Log->Option ρ}{x:ρ}(h:nw E ops (o::r) n s L K=some x):
  ∃s0 t rd wr,St.Eqv s0 s/\(stepG E ops n o).kj s0 [] []=some ((),t,rd,wr)/\nw E ops r (n+1) t ((rd,wr)::L) K=some x:=by
 unfold nw at h;split at h
 ·rename_i hg;obtain⟨⟨⟩,t,rd,wr,h1,h2⟩:=u6 h;exact⟨s,t,rd,wr,St.Eqv.refl s,by unfold stepG;rw[hg];exact h1,h2⟩
 ·rename_i j want hg;split at h
  ·rename_i d hd;split at h
   ·rename_i gv hs
    rcases EJ h with⟨rfl,h'⟩|⟨rfl,h'⟩
    ·obtain⟨⟨⟩,t,rd,wr,h1,h2⟩:=u6 h';refine⟨_,t,rd,wr,Dn hs, ?_,h2⟩;rw[Ci hg hd (aE _ _ _)];cases want<;>exact h1
    ·obtain⟨⟨⟩,t,rd,wr,h1,h2⟩:=u6 h';refine⟨_,t,rd,wr,Dn hs, ?_,h2⟩;rw[Ci hg hd (aE _ _ _)];cases want<;>exact h1
   ·rename_i hs;obtain⟨⟨⟩,t,rd,wr,h1,h2⟩:=u6 h;exact⟨s,t,rd,wr,St.Eqv.refl s,by rw[N5 hg hd hs];exact h1,h2⟩
   ·cases h
  ·cases h
structure Way (E:Env)(ops:List Oper)(n:Nat)(st:Nat->St)(To:Nat->List Nat×List Nat):Prop where
 step:∀i o,n<=i->ops[i]?=some o->∃pre,St.Eqv pre (st i)/\(stepG E ops i o).kj pre [] []=some ((),st (i+1),(To i).1,(To i).2)
theorem QO {ρ:Type}{E:Env}{ops:List Oper}{K:St->Log->Option ρ}{x:ρ}:∀(r:List Oper)(n:Nat)(s:St)(L:Log),ops.drop n=r->nw E ops r n s L K=some x->
  ∃st To,st n=s/\Way E ops n st To/\K (st (n+r.length)) (((List.range' n r.length).map To).reverse++L)=some x
 |[],n,s,L,hr,h=>by
  refine⟨λ_=>s,λ_=>([],[]),rfl,⟨λi o hi ho=> ?_⟩,h⟩;have:ops.length<=n:=List.drop_eq_nil_iff.1 hr;rw[List.getElem?_eq_none (by omega)]at ho;cases ho
 |o::r,n,s,L,hr,h=>by
  obtain⟨s0,t,rd,wr,e,h1,h2⟩:=FZ h
  have ho:ops[n]?=some o:=by
   have:=congrArg (·[0]?) hr;simpa[List.getElem?_drop]using this
  have O5:ops.drop (n+1)=r:=by rw[<-List.drop_drop,hr];rfl
  obtain⟨st,To,k1,k2,k3⟩:=QO r (n+1) t _ O5 h2;refine⟨λi=>if i=n then s else st i,λi=>if i=n then(rd,wr)else To i,by simp,⟨λi o' hi NL=> ?_⟩, ?_⟩
  ·by_cases e':i=n
   ·subst e';rw[ho]at NL
    injection NL with NL
    subst NL;refine⟨s0,by simpa using e, ?_⟩;rw[aF4 (by omega),aG3 rfl,k1];exact h1
   ·obtain⟨pre,a1,a2⟩:=k2.step i o' (by omega) NL;refine⟨pre,by simpa[e']using a1, ?_⟩;simp only[e',aH6];rw[aF4 (by omega)];exact a2
  ·rw[aC3,List.range'_succ,List.map_cons,List.reverse_cons,aC7,aG3 rfl]
   have em:(List.range' (n+1) r.length).map (λi=>if i=n then(rd,wr)else To i)=(List.range' (n+1) r.length).map To:=by
    apply List.map_congr_left
    intro i hi;have:=(List.mem_range'_1.1 hi).1;rw[aF4 (by omega)]
   rw[em]
   have es:(λi=>if i=n then s else st i) (n+(r.length+1))=st (n+1+r.length):=by
    show(if n+(r.length+1)=n then s else st (n+(r.length+1)))=_;rw[aF4 (by omega),show n+(r.length+1)=n+1+r.length by omega]
   rw[es];exact k3
end Go.Abs
end

section
namespace Go.Abs
theorem Mf (n:Nat):∀l:List Nat,mem n l=true↔n∈l
 |[]=>by simp[mem]
 |m::r=>by
  simp only[mem,aG0,Mf n r,aF8];constructor
  ·rintro(h|h)
   ·exact .inl (beq_eq h).symm
   ·exact .inr h
  ·rintro(h|h)
   ·exact .inl (by rw[h];exact Nat.beq_refl m)
   ·exact .inr h
theorem ze {a b:List Nat}(h:meet a b=false):∀p∈a,p∉b:=by
 induction a with
 |nil=>intro p hp;simp at hp
 |cons x r ih=>
  simp only[meet,Bool.or_eq_false_iff]at h;intro p hp hb
  rcases aF8.1 hp with rfl|hp
  ·have:=(Mf p b).2 hb;rw[this]at h;cases h.1
  ·exact ih h.2 p hp hb
def Nw (x y:List Nat×List Nat):Prop:=(∀p∈x.2,p∉y.2)/\(∀p∈x.2,p∉y.1)/\∀p∈x.1,p∉y.2
theorem wJ {x:List Nat×List Nat}{bx:List Nat}:∀{L:Log}{n:Nat},Ay x bx L n=true->∀k y,L[k]?=some y->(n - 1 - k)∈bx\/Nw x y
 |[],_,_,k,y,hy=>by simp at hy
 |z::r,n,h,k,y,hy=>by
  simp only[Ay,aC6,aG0,aH3,Bool.or_eq_false_iff]at h
  cases k with
  |zero=>
   have hz:z=y:=(by simpa using hy);subst hz
   rcases h.1 with h1|h1
   ·exact .inl (by simpa using(Mf _ _).1 h1)
   ·exact .inr ⟨ze h1.1.1,ze h1.1.2,ze h1.2⟩
  |succ k=>
   have:=wJ h.2 k y (by simpa using hy);rw[show n - 1 - (k+1)=n - 1 - 1 - k by omega];exact this
theorem B9:∀{L:Log}{bs:List (List Nat)}{n:Nat},apart L bs n=true->∀k x,L[k]?=some x->∃bx,bs[k]?=some bx/\∀k' y,k<k'->L[k']?=some y->(n - 1 - k')∈bx\/Nw x y
 |[],_,_,_,k,x,hx=>by simp at hx
 |z::r,[],_,h,_,_,_=>by cases h
 |z::r,bz::bs,n,h,k,x,hx=>by
  simp only[apart,aC6]at h
  cases k with
  |zero=>
   have hz:z=x:=(by simpa using hx);subst hz;refine⟨bz,rfl,λk' y hk hy=> ?_⟩
   cases k' with
   |zero=>omega
   |succ k'=>
    have:=wJ h.1 k' y (by simpa using hy);rw[show n - 1 - (k'+1)=n - 1 - 1 - k' by omega];exact this
  |succ k=>
   obtain⟨bx,h1,h2⟩:=B9 h.2 k x (by simpa using hx);refine⟨bx,by simpa using h1,λk' y hk hy=> ?_⟩
   cases k' with
   |zero=>omega
   |succ k'=>
    have:=h2 k' y (by omega) (by simpa using hy);rw[show n - 1 - (k'+1)=n - 1 - 1 - k' by omega];exact this
theorem PQ:∀(es acc:List (List Nat)),∀j,acc.length<=j->∀e,es[j - acc.length]?=some e->∃b,(vU es acc)[j]?=some b/\∀i,i∈b->i∈e\/∃k∈e,k<j/\∃bk,(vU es acc)[k]?=some bk/\i∈bk:=by
 have pre:∀(es acc:List (List Nat)),∃tl,vU es acc=acc++tl:=by
  intro es
  induction es with
  |nil=>intro acc;exact⟨[],by simp[vU]⟩
  |cons e es ih=>
   intro acc;obtain⟨tl,h⟩:=ih (acc++[e.flatMap λi=>i::acc.getD i []]);exact⟨_,by rw[vU,h,aC7]⟩
 intro es
 induction es with
 |nil=>intro acc j hj e he;simp at he
 |cons e0 es ih=>
  intro acc j hj e he
  by_cases WZ:j=acc.length
  ·subst WZ;have:e0=e:=(by simpa using he);subst this;obtain⟨tl,h⟩:=pre es (acc++[e0.flatMap λi=>i::acc.getD i []]);refine⟨e0.flatMap λi=>i::acc.getD i [],by rw[vU,h];simp,λi hi=> ?_⟩;obtain⟨k,hk,hi⟩:=List.mem_flatMap.1 hi
   rcases aF8.1 hi with rfl|hi
   ·exact .inl hk
   ·right
    rw[aE2]at hi
    cases ZH:acc[k]? with
    |none=>rw[ZH]at hi;simp at hi
    |some bk=>
     have gX:=(List.getElem?_eq_some_iff.1 ZH).1;rw[ZH]at hi;refine⟨k,hk,gX,bk, ?_,by simpa using hi⟩;rw[vU,h,aC7,List.getElem?_append_left gX,ZH]
  ·rw[vU]
   exact ih _ j (by simp;omega) e (by
    have:j - acc.length=(j - (acc++[e0.flatMap λi=>i::acc.getD i []]).length)+1:=by simp;omega
    rw[this]at he
    simpa using he)
theorem yq:∀{es:List (List Nat)}{n:Nat},vi es n=true->∀j e,es[j]?=some e->∀i∈e,i<n+j
 |[],_,_,j,e,he=>by simp at he
 |e0::es,n,h,j,e,he=>by
  simp only[vi,aC6,List.all_eq_true]at h
  cases j with
  |zero=>
   have:e0=e:=(by simpa using he);subst this;intro i hi;exact aE7 (h.1 i hi)
  |succ j=>
   intro i hi;have:=yq h.2 j e (by simpa using he) i hi;omega
section
variable{E:Env}{ops:List Oper}{st:Nat->St}{lg:Nat->List Nat×List Nat}
def held (st:Nat->St)(lg:Nat->List Nat×List Nat)(D:Nat->Bool)(p:Nat):Nat->Option Slot⊕Option Obj
 |0=>(st 0).get p
 |k+1=>open Classical in if D k=true/\p∈(lg k).2 then(st (k+1)).get p else held st lg D p k
theorem xO {D:Nat->Bool}{p:Nat}{i:Nat}:∀{n:Nat},i<=n->(∀k,i<=k->k<n->D k=true->p∉(lg k).2)->held st lg D p n=held st lg D p i
  | 0, hi, _ => by have:i=0:=by omega
                   subst this;rfl
  |n+1,hi,h=>by
    by_cases e:i=n+1
    · subst e;rfl
    · rw[held,aF4 (λhc=>h n (by omega) (by omega) hc.1 hc.2)]
      exact xO (by omega) λk h1 h2=>h k h1 (by omega)
theorem EI (W:Way E ops 0 st lg){D:Nat->Bool}{p:Nat}:∀{i:Nat},i<=ops.length->(∀k,k<i->p∈(lg k).2->D k=true)->held st lg D p i=(st i).get p
 |0,_,_=>rfl
 |i+1,hi,h=>by
  rw[held];split
  ·rfl
  ·rename_i hc
   have hp:p∉(lg i).2:=λhm=>hc ⟨h i (by omega) hm,hm⟩
   rw[EI W (by omega) λk hk=>h k (by omega)];have ho:ops[i]?=some (ops[i]'(by omega)):=aE1 _;obtain⟨pre,a1,a2⟩:=W.step i _ (aG8 _) ho;have:=(AM.Er _ a2).2.2.1 p hp;rw[this,(H4.1 a1 p)]
structure Order (ops:List Oper)(lg:Nat->List Nat×List Nat)(b:Nat->List Nat):Prop where
 direct:∀j o,ops[j]?=some o->∀e∈o.after,Region.binds .any e=true->e.on<j
 closed:∀j o,ops[j]?=some o->∀i∈b j,(∃e∈o.after,Region.binds .any e=true/\e.on=i)\/∃e∈o.after,Region.binds .any e=true/\i∈b e.on
 apart:∀i j,i<j->j<ops.length->i∈b j\/Nw (lg j) (lg i)
theorem Pl (he:vi (ta ops) 0=true)(ha:apart ((List.range' 0 ops.length).map lg).reverse (vU (ta ops) []).reverse ops.length=true):
  ∃b,Order ops lg b:=by
 have Uv:∀(j:Nat) (o:Oper),ops[j]?=some o->(ta ops)[j]?=some (o.after.toList.filterMap λe=>bif Region.binds .any e then some e.on else none):=by
  intro j o ho;unfold ta;rw[List.getElem?_map,ho];rfl
 have Rm:∀(o:Oper) (i:Nat),i∈(o.after.toList.filterMap λe=>bif Region.binds .any e then some e.on else none)↔∃e∈o.after,Region.binds .any e=true/\e.on=i:=by
  intro o i;rw[List.mem_filterMap];constructor
  ·rintro⟨e,h1,h2⟩
   cases hb:Region.binds .any e with
   |false=>rw[hb]at h2;cases h2
   |true=>rw[hb]at h2;injection h2 with h2;exact⟨e,by simpa using h1,hb,h2⟩
  ·rintro⟨e,h1,h2,h3⟩;exact⟨e,by simpa using h1,by rw[h2];simp[h3]⟩
 refine⟨λj=>((vU (ta ops) [])[j]?).getD [],⟨λj o ho e hm hb=> ?_,λj o ho i hi=> ?_,λi j OX hj=> ?_⟩⟩
 ·have:=yq he j _ (Uv j o ho) e.on ((Rm o _).2 ⟨e,hm,hb,rfl⟩);omega
 ·obtain⟨b,h1,h2⟩:=PQ (ta ops) [] j (aG8 _) _ (by simpa using Uv j o ho);rw[h1]at hi
  rcases h2 i (by simpa using hi)with h|⟨k,hk,_,bk,He,af3⟩
  ·exact .inl ((Rm o i).1 h)
  ·obtain⟨e,a1,a2,a3⟩:=(Rm o k).1 hk;refine .inr ⟨e,a1,a2, ?_⟩;rw[a3,He];simpa using af3
 ·have hx:(((List.range' 0 ops.length).map lg).reverse)[ops.length - 1 - j]?=some (lg j):=by
   rw[List.getElem?_reverse (by simp;omega)];simp only[List.length_map,List.length_range'];rw[show ops.length - 1 - (ops.length - 1 - j)=j by omega,List.getElem?_map,List.getElem?_range' (by omega)];simp
  have hy:(((List.range' 0 ops.length).map lg).reverse)[ops.length - 1 - i]?=some (lg i):=by
   rw[List.getElem?_reverse (by simp;omega)];simp only[List.length_map,List.length_range'];rw[show ops.length - 1 - (ops.length - 1 - i)=i by omega,List.getElem?_map,List.getElem?_range' (by omega)];simp
  obtain⟨bx,h1,h2⟩:=B9 ha _ _ hx
  rcases h2 _ _ (by omega) hy with h|h
  ·left
   rw[show ops.length - 1 - (ops.length - 1 - i)=i by omega]at h
   have hlen:(vU (ta ops) []).length=ops.length:=by
    have:∀(es acc:List (List Nat)),(vU es acc).length=acc.length+es.length:=by
     intro es
     induction es with
     |nil=>intro acc;simp[vU]
     |cons e es ih=>intro acc;rw[vU,ih];simp;omega
    rw[this];simp[ta]
   rw[List.getElem?_reverse (by omega),hlen,show ops.length - 1 - (ops.length - 1 - j)=j by omega]at h1;rw[h1];exact h
  ·exact .inr h
def done (listed:Array Bool)(i:Nat):Bool:=listed.getD i false
theorem I5 {ρ:Type}(hE:EnvOk E){B:Base}{K:St->Option ρ}{x:ρ}{Q:Exit->Act->World->Prop}(hK:KOk E B K x (Q .normal))(W:Way E ops 0 st lg){b:Nat->List Nat}(O:Order ops lg b)(Yp:K (st ops.length)=some x)
  (Ry:∀s t,St.Eqv s t->K s=some x->∀g a w,ie E.df g.aD->HRel B g t.hp w->ActRel E B g t.env a->Q .normal a w):
  ∀(fuel:Nat) (listed:Array Bool) (t:St),listed.size=ops.length->((List.range ops.length).filter λi=> !done listed i).length=fuel->
   (∀j,j<ops.length->done listed j=true->∀i∈b j,done listed i=true)->(∀p,t.get p=held st lg (done listed) p ops.length)->
   ∀g a w,ie E.df g.aD->HRel B g t.hp w->ActRel E B g t.env a->wpAny E.P .any ops.toArray Q fuel listed a w:=by
 have full:∀(listed:Array Bool) (t:St),(∀i,i<ops.length->done listed i=true)->(∀p,t.get p=held st lg (done listed) p ops.length)->St.Eqv (st ops.length) t:=by
  intro listed t sy ht;rw[H4];intro p;rw[ht p,EI W (aE5 _) λk hk _=>sy k hk]
 have empty:∀(listed:Array Bool),listed.size=ops.length->Region.ready .any ops.toArray listed=[]->∀i,i<ops.length->done listed i=true:=by
  intro listed lh hr i
  induction i using Nat.strongRecOn with
  |_ i ih=>
   intro hi
   cases hd:done listed i with
   |true=>rfl
   |false=>
    exfalso
    have hm:i∈Region.ready .any ops.toArray listed:=by
     rw[mem_ready];refine⟨?_,ops[i],by simp[hi],λe he hb=> ?_⟩
     ·unfold done at hd;have gX:i<listed.size:=(by omega);simp[Array.getD,gX]at hd⊢;exact hd
     ·have:=O.direct i ops[i] (aE1 hi) e he hb;exact ih e.on this (by omega)
    rw[hr]at hm;simp at hm
 intro fuel
 induction fuel with
 |zero=>
  intro listed t lh RT Du ht g a w hG R V
  have sy:∀i,i<ops.length->done listed i=true:=by
   intro i hi;have h0:=aG4 RT;rw[List.filter_eq_nil_iff]at h0;have:=h0 i (List.mem_range.2 hi);simpa using this
  refine⟨?_,Ry _ _ (full listed t sy ht) Yp g a w hG R V⟩;rw[List.eq_nil_iff_forall_not_mem];intro i hm;obtain⟨h1,o,h2,_⟩:=mem_ready.1 hm
  have hi:i<ops.length:=by
   rcases Nat.lt_or_ge i ops.length with h|h
   ·exact h
   ·simp[h]at h2
  have:=sy i hi;have gX:i<listed.size:=(by omega);unfold done at this;simp[Array.getD,gX]at this h1;rw[this]at h1;cases h1
 |succ fuel ih=>
  intro listed t lh RT Du ht g a w hG R V;refine⟨λhr=>Ry _ _ (full listed t (empty listed lh hr) ht) Yp g a w hG R V,λi hi=> ?_⟩;obtain⟨h1,o,h2,h3⟩:=mem_ready.1 hi
  have al1:i<ops.length:=by
   rcases Nat.lt_or_ge i ops.length with h|h
   ·exact h
   ·simp[h]at h2
  have ho:ops[i]?=some o:=(by simpa using h2)
  have mR:done listed i=false:=by
   have gX:i<listed.size:=(by omega);unfold done;simp[Array.getD,gX]at h1⊢;exact h1
  obtain⟨pre,a1,a2⟩:=W.step i o (aG8 _) ho
  have Ur:∀k∈b i,done listed k=true:=by
   intro k hk
   rcases O.closed i o ho k hk with⟨e,e1,e2,e3⟩|⟨e,e1,e2,e3⟩
   ·rw[<-e3];exact h3 e e1 e2
   ·have gX:=O.direct i o ho e e1 e2;exact Du e.on (by omega) (h3 e e1 e2) k e3
  have later:∀k,i<k->k<ops.length->done listed k=true->Nw (lg k) (lg i):=by
   intro k af3 hk OY
   rcases O.apart i k af3 hk with h|h
   ·have:=Du k hk OY i h;rw[mR]at this;cases this
   ·exact h
  have agree:∀p∈(lg i).1,t.get p=pre.get p:=by
   intro p hp;rw[ht p,H4.1 a1 p]
   rw[xO (i:=i) (by omega) (λk h1 h2 OY hm=>by
    by_cases e:k=i
    ·subst e;rw[mR]at OY;cases OY
    ·exact(later k (by omega) h2 OY).2.1 p hm hp)]
   exact EI W (by omega) λk hk hm=>by
    rcases O.apart k i hk al1 with h|h
    ·exact Ur k h
    ·exact absurd hm (h.2.2 p hp)
  obtain⟨_,_,_,ak7⟩:=AM.Er _ a2;obtain⟨t',b1,b2,b3,b4⟩:=ak7 t agree;have AL:=AM.PH _ b1
  refine Cm hE ho AL hG R V λa' w' g' l R' V'=> ?_
  have yj:∀k,done (listed.setIfInBounds i true) k=(done listed k||decide (k=i)):=by
   intro k;unfold done
   by_cases e:k=i
   ·subst e;have gX:k<listed.size:=(by omega);simp[Array.getD,gX]
   ·have:(listed.setIfInBounds i true).getD k false=listed.getD k false:=getD_set_ne false (Ne.symm e);rw[this];simp[e]
  refine ih (listed.setIfInBounds i true) t' (by simpa using lh) ?_ ?_ ?_ g' a' w' (hG.mono l.aD) R' V'
  ·have key:∀(l:List Nat),l.Nodup->i∈l->(l.filter λk=> !done listed k).length=(l.filter λk=> !done (listed.setIfInBounds i true) k).length+1:=by
    intro l
    induction l with
    |nil=>intro _ h;simp at h
    |cons y r ay6=>
     intro hn hm;rw[List.nodup_cons]at hn
     by_cases e:y=i
     ·subst e
      have hr:(r.filter λk=> !done (listed.setIfInBounds y true) k)=(r.filter λk=> !done listed k):=by
       apply List.filter_congr
       intro k hk
       have:k≠y:=λe=>hn.1 (e ▸ hk)
       rw[yj k];simp[this]
      rw[List.filter_cons_of_pos (by simp[mR]),List.filter_cons_of_neg (by simp[yj]),hr];rfl
     ·have az7:i∈r:=by
       rcases aF8.1 hm with h|h
       ·exact absurd h.symm e
       ·exact h
      have he:(!done (listed.setIfInBounds i true) y)=(!done listed y):=by rw[yj y];simp[e]
      have:=ay6 hn.2 az7
      cases hd:done listed y with
      |true=>rw[List.filter_cons_of_neg (by simp[hd]),List.filter_cons_of_neg (by simp[yj,hd])];exact this
      |false=>rw[List.filter_cons_of_pos (by simp[hd]),List.filter_cons_of_pos (by simp[yj,hd,e])];simp[this]
   have:=key (List.range ops.length) List.nodup_range (List.mem_range.2 al1);omega
  ·intro j hj ak1 k hk;rw[yj]at ak1⊢;simp only[aG0,aC4]at ak1⊢
   rcases ak1 with h|h
   ·exact .inl (Du j hj h k hk)
   ·subst h;exact .inl (Ur k hk)
  ·intro p
   by_cases hp:p∈(lg i).2
   ·rw[b4 p hp (by simp)]
    rw[xO (i:=i+1) (by omega) (λk h1 h2 OY hm=>by
     rw[yj]at OY;simp only[aG0,aC4]at OY
     rcases OY with h|h
     ·exact(later k (by omega) h2 h).1 p hm hp
     ·omega)]
    rw[held,aG3 ⟨by rw[yj];simp,hp⟩]
   ·rw[b2 p hp,ht p]
    have:∀n,held st lg (done listed) p n=held st lg (done (listed.setIfInBounds i true)) p n:=by
     intro n
     induction n with
     |zero=>rfl
     |succ n aq8=>
      rw[held,held,aq8]
      by_cases e:n=i
      ·subst e;rw[aF4 (λh=>hp h.2),aF4 (λh=>hp h.2)]
      ·have:done (listed.setIfInBounds i true) n=done listed n:=by rw[yj];simp[e]
       rw[this]
    exact this _
end
theorem HRel.drew {B:Base}{g:Gh}{hp:List (Nat×Obj)}{w:World}(R:HRel B g hp w)(n:Nat):HRel B g hp {w with drawn:=n}:=
 ⟨R.top,R.eD,R.aD,R.ep,R.dQ,R.jo,R.frame,R.size,R.os,R.tape,R.output,R.fix⟩
theorem A0 {ρ:Type}{E:Env}(hE:EnvOk E)(hm:E.P.follows .mixedOrders=true){B:Base}{id:Nat}{ops:Array Oper}{draw:Bool}{K:St->Option ρ}{x:ρ}{Q:Exit->Act->World->Prop}(hK:KOk E B K x (Q .normal))
  {s:St} (h:Ed E ops.toList draw s K=some x) {g:Gh} {a:Act} {w:World} (hG:ie E.df g.aD) (R:HRel B g s.hp w) (V:ActRel E B g s.env a):(Code.region id ops draw).wp E.P Q a w:=by
 cases draw with
 |false=>
  have h:pF E ops.toList ops.toList 0 s K=some x:=h
  apply wp_region
  have:=yD hE hK ops.toList 0 s rfl h g a w hG R V;rw[List.range_eq_range'];simpa using this
 |true=>
  have h:nw E ops.toList ops.toList 0 s [] (λs' L=>bif vi (ta ops.toList) 0&&apart L (vU (ta ops.toList) []).reverse ops.toList.length then K s' else none)=some x:=h;obtain⟨st,lg,k1,W,k3⟩:=QO ops.toList 0 s [] rfl h
  cases hc:(vi (ta ops.toList) 0&&apart (((List.range' 0 ops.toList.length).map lg).reverse++[]) (vU (ta ops.toList) []).reverse ops.toList.length)with
  |false=>rw[hc]at k3;cases k3
  |true=>
   rw[hc]at k3;simp only[aC6,aF0]at hc;obtain⟨b,O⟩:=Pl hc.1 hc.2
   apply wp_region_any hm
   have:=I5 hE (Q:=Q) hK W O (by simpa using k3) (λs t e hs g a w hG R V=>hK s g a w hs hG (R.congr e.2) (V.congr e.1)) ops.toList.length (Array.replicate ops.toList.length false) s (by simp) (by
     have:∀i,done (Array.replicate ops.toList.length false) i=false:=by
      intro i;unfold done;simp[Array.getD_eq_getD_getElem?,Array.getElem?_replicate];split<;>rfl
     rw[List.filter_eq_self.2 (λi _=>by rw[this];rfl),List.length_range]) (λj _ hd=>by
     exfalso
     unfold done at hd;simp[Array.getD_eq_getD_getElem?,Array.getElem?_replicate]at hd
     split at hd<;>cases hd) (λp=>by
     rw[xO (i:=0) (aG8 _) (λk _ _ hd=>by
      exfalso
      unfold done at hd;simp[Array.getD_eq_getD_getElem?,Array.getElem?_replicate]at hd
      split at hd<;>cases hd)]
     show _=(st 0).get p
     rw[k1]) g a {w with drawn:=w.drawn+1} hG (R.drew _) V
   simpa using this
end Go.Abs
end

section
namespace Go.Abs
noncomputable def Gh.kz (g:Gh)(id gen:Nat)(u:Value)(L:List Value):Gh:=
  open Classical in
  { g with top := fun i => if i = id then gen + 1 else g.top i
           cv:=λi k=>if i=id/\k=gen then u else g.cv i k
           outer:=λi=>if i=id then L else g.outer i}
theorem HRel.PB {B:Base}{g:Gh}{hp:List (Nat×Obj)}{w:World}(R:HRel B g hp w)(id:Nat)(u:Value)(L:List Value):
  Le g (g.kz id (g.top id) u L)/\HRel B (g.kz id (g.top id) u L) ((id, .iH (g.top id) (0,[]))::hp) w:=by
 have hle:Le g (g.kz id (g.top id) u L):=by
  refine⟨λ_ _ h=>h,λi=> ?_,λi k hk=> ?_⟩
  ·show g.top i<=if i=id then g.top id+1 else g.top i
   split
   ·rename_i e;subst e;omega
   ·exact aE5 _
  ·show(if i=id/\k=g.top id then u else g.cv i k)=g.cv i k;rw[aF4];rintro⟨rfl,rfl⟩;omega
 refine⟨hle,λi=> ?_,λi oi hi=> ?_,R.aD,R.ep,R.dQ,R.jo,R.frame,R.size,R.os,R.tape,R.output,R.fix⟩
 ·show(if i=id then g.top id+1 else g.top i)=_
  by_cases e:id=i
  ·subst e;rw[aE,aG3 rfl];rfl
  ·rw[ay _ _ e,aF4 (λh=>e h.symm)];exact R.top i
 ·by_cases e:id=i
  ·subst e;rw[aE]at hi;injection hi with hi;subst hi;trivial
  ·rw[ay _ _ e]at hi;exact(R.eD i oi hi).tr hle (λb hb=>⟨hb,rfl,rfl⟩) (by simp only[Gh.kz];rw[aF4 (λh=>e h.symm)]) (gN R hi)
def r9 (hp:List (Nat×Obj))(n:Nat):Prop:=∀i,n<=i->look hp i=none
theorem HRel.uC {B:Base}{g:Gh}{hp:List (Nat×Obj)}{w:World}(R:HRel B g hp w){i:Nat}(h:look hp i=none):g.top i=0:=by rw[R.top i,h]
def Yo (cells:List Cell)(eD:List (Nat×Obj))(n n':Nat)(B:Base)(g:Gh)(hp:List (Nat×Obj))(w:World)(us:List Value)(nb:List Nat):Prop:=
 n<=n'/\r9 (eD++hp) n'/\(∀i,i<n->look (eD++hp) i=look hp i)/\∃g',Le g g'/\(∀y,y∉nb->g'.dj y=g.dj y/\g'.ep y=g.ep y)/\(∀i,i<n->g'.outer i=g.outer i)/\HRel B g' (eD++hp) w/\aF g' cells us
theorem Ns {τ:Ty}{dp:Bool}{x:List τ.den}{n:Nat}{B:Base}{g:Gh}{hp:List (Nat×Obj)}{w:World}{us:List Value}{nb:List Nat}(R:HRel B g hp w)(hP:OwnAt g.aD w (dp&& !τ.flat) τ x us nb)(hO:dP g nb)(hn:∀b∈nb,g.ep b=none)(hf:r9 hp n):
  Yo [.own n 0] [(n, .own 0 τ (dp||τ.flat) x)] n (n+1) B g hp w us nb:=by
 have ht:=R.uC (hf n (aE5 _))
 have UC:∀o:Obj,r9 ([(n,o)]++hp) (n+1):=λo i hi=>by
  show look ((n,o)::hp) i=none;rw[ay _ _ (by omega)];exact hf i (by omega)
 have hold:∀o:Obj,∀i,i<n->look ([(n,o)]++hp) i=look hp i:=λo i hi=>ay _ _ (by omega)
 rcases hP with⟨rfl,hx,rfl⟩|⟨b,cap,arr,ty,jd,rfl,rfl,ha,hl,hs,hE⟩
 ·subst hx;obtain⟨l,R'⟩:=R.named (id:=n) (u:= .slice none 0 0) (o':= .own (g.top n) τ (dp||τ.flat) []) rfl (.inl ⟨by simp[Gh.name],rfl⟩);refine⟨Nat.le_succ _,UC _,hold _,_,l.le,λx _=>⟨rfl,rfl⟩,λ_ _=>rfl, ?_,⟨_,[],rfl,⟨?_, ?_,rfl⟩,rfl⟩⟩
  ·rw[ht]at R';rw[ht];exact R'
  ·simp[Gh.name]
  ·simp[Gh.name,ht]
 ·have Hg:=hO.2 b (aE0 ..);have mR:=List.nodup_cons.1 hO.1
  have KO:((dp||τ.flat)&& !τ.flat)=(dp&& !τ.flat):=by cases dp<;>cases τ.flat<;>rfl
  obtain⟨g',l,hk,ho,R',hc⟩:=R.ly (id:=n) (deep:=dp||τ.flat) (τ:=τ) (xs:=x) (nb:=jd) Hg (hn b (aE0 ..)) mR.1 ha hl hs mR.2 (λy hy=>⟨hO.2 y (aD9 _ hy),by
   unfold jI at hE;split at hE
   ·exact hE.nv y hy
   ·rw[hE.2]at hy;simp at hy⟩) (by rw[KO];exact hE)
  rw[ht]at R' hc;refine⟨Nat.le_succ _,UC _,hold _,g',l,λy hy=> ?_,λi hi=>ho i (by omega),R',⟨_,[],rfl,hc,rfl⟩⟩;rw[aF8,not_or]at hy;exact hk y hy.1 hy.2
theorem G5:∀(sp:Sp)(x:sp.ty.den)(pl:Nat×Nat)(n:Nat)(ib:Bool){B:Base}{g:Gh}{hp:List (Nat×Obj)}{w:World}{rp:Nat×Nat}{us:List Value}{nb:List Nat},sp.whole ib=true->(ib=true->iR g (some (pl.1,0,pl.2)) rp)->HRel B g hp w->Pass g.aD w sp x rp us nb->dP g nb->(∀b∈nb,g.ep b=none)->r9 hp n->
  Yo (mk0 sp x pl n).1 (mk0 sp x pl n).2.1 n (mk0 sp x pl n).2.2 B g hp w us nb:=by
 intro sp
 induction sp with
 |un=>intro x pl n ib B g hp w rp us nb hw xF R hP hO hn hf;exact⟨aE5 _,hf,λ_ _=>rfl,g,Le.refl g,λ_ _=>⟨rfl,rfl⟩,λ_ _=>rfl,R,hP.1⟩
 |cH τ=>
  intro x pl n ib B g hp w rp us nb hw xF R hP hO hn hf;obtain⟨_,h1,u,rfl,hr⟩:=hP;exact⟨aE5 _,hf,λ_ _=>rfl,g,Le.refl g,λ_ _=>⟨rfl,rfl⟩,λ_ _=>rfl,R,u,[],rfl,⟨h1,hr⟩,rfl⟩
 |err=>
  intro x pl n ib B g hp w rp us nb hw xF R hP hO hn hf;obtain⟨_,u,rfl,hr⟩:=hP;exact⟨aE5 _,hf,λ_ _=>rfl,g,Le.refl g,λ_ _=>⟨rfl,rfl⟩,λ_ _=>rfl,R,u,[],rfl,hr,rfl⟩
 |np=>
  intro x pl n ib B g hp w rp us nb hw xF R hP hO hn hf;obtain⟨_,rfl⟩:=hP;exact⟨aE5 _,hf,λ_ _=>rfl,g,Le.refl g,λ_ _=>⟨rfl,rfl⟩,λ_ _=>rfl,R,_,[],rfl,rfl,rfl⟩
 |slf f m=>
  intro x pl n ib B g hp w rp us nb hw xF R hP hO hn hf;obtain⟨_,b,o,rfl⟩:=hP;have ht:=R.uC (hf n (aE5 _));obtain⟨l1,R1⟩:=R.named (id:=n) (u:= .pointer (some ⟨b,o,none⟩)) (o':= .dead (g.top n)) rfl trivial;have xA:(g.name n (g.top n) (.pointer (some ⟨b,o,none⟩))).cv n (g.top n)= .pointer (some ⟨b,o,none⟩):=(by simp[Gh.name]);have R5:g.top n<(g.name n (g.top n) (.pointer (some ⟨b,o,none⟩))).top n:=(by simp[Gh.name]);rw[ht]at R1 xA R5;rw[ht]at l1;refine⟨Nat.le_succ n,λi hi=> ?_,λi hi=> ?_,g.name n 0 (.pointer (some ⟨b,o,none⟩)),l1.le,λ_ _=>⟨rfl,rfl⟩,λ_ _=>rfl,R1,⟨_,[],rfl,⟨R5,b,o,xA,rfl⟩,rfl⟩⟩
  ·have hi:n+1<=i:=hi;show look ((n,_)::hp) i=none;rw[ay _ _ (by omega)];exact hf i (by omega)
  ·show look ((n,_)::hp) i=_;rw[ay _ _ (by omega)]
 |own τ dp=>intro x pl n ib B g hp w rp us nb hw xF R hP hO hn hf;exact Ns R hP hO hn hf
 |lnd τ dp=>intro x pl n ib B g hp w rp us nb hw xF R hP hO hn hf;exact Ns R hP hO hn hf
 |yK ok=>intro x pl n ib B g hp w rp us nb hw;cases hw
 |sA=>
  intro x pl n ib B g hp w rp us nb hw xF R hP hO hn hf;have NQ:ib=true:=hw;obtain⟨I1,bb,oo,kM,rfl⟩:=xF NQ _ _ _ rfl;have hB:qd g.aD w (bb,oo+pl.2) x us nb:=hP
  have gX:pl.1<n:=by
   rcases Nat.lt_or_ge pl.1 n with h|h
   ·exact h
   ·have:=R.uC (hf pl.1 h);omega
  have two:∃u1 u2,us=[u1,u2]/\oc u1=true:=by
   rcases hB with⟨e,_⟩|⟨u2,e,_⟩
   ·exact⟨_,_,e,rfl⟩
   ·exact⟨_,_,e,rfl⟩
  obtain⟨u1,u2,rfl,ah5⟩:=two;have ht:=R.uC (hf n (aE5 _));have Xy:=R.uC (hf (n+1) (by omega));obtain⟨l1,R1⟩:=R.named (id:=n) (u:=u1) (o':= .dead (g.top n)) rfl trivial;have xA:(g.name n (g.top n) u1).cv n (g.top n)=u1:=(by simp[Gh.name]);have R5:g.top n<(g.name n (g.top n) u1).top n:=(by simp[Gh.name]);have ar4:(g.name n (g.top n) u1).top (n+1)=0:=(by simp[Gh.name,Xy]);obtain⟨g2,l2,k2,o2,R2,c2⟩:=R1.JU (id:=n+1) (a:=n) (ag:=g.top n) (bid:=pl.1) (bg:=0) (off:=pl.2) (xs:=x) (u2:=u2) (nb:=nb) R5 (aF7 I1 (l1.le.top _)) (by omega) (hO.mono l1) hn ((l1.le.cv _ _ I1).trans kM) (by rw[xA];exact hB);have AO:bu g2 (.own n (g.top n)) u1:=⟨aF7 R5 (l2.top _),by rw[l2.cv _ _ R5,xA],ah5⟩;rw[ar4]at R2 c2;rw[ht]at R2 AO;refine⟨Nat.le_add_right n 2,λi hi=> ?_,λi hi=> ?_,g2,l1.le.trans l2,k2,λi hi=>by rw[o2,l1.out],R2,⟨u1,[u2],rfl,AO,u2,[],rfl,c2,rfl⟩⟩
  ·have hi:n+2<=i:=hi;show look ((n+1,_)::(n,_)::hp) i=none;rw[ay _ _ (by omega),ay _ _ (by omega)];exact hf i (by omega)
  ·show look ((n+1,_)::(n,_)::hp) i=_;rw[ay _ _ (by omega),ay _ _ (by omega)]
 |pr a b vW vY=>
  intro x pl n ib B g hp w rp us nb hw xF R hP hO hn hf;simp only[Sp.whole,aC6]at hw;obtain⟨u1,u2,n1,n2,rfl,rfl,P1,P2⟩:=hP;have mR:=aH0.1 hO.1
  have hd:∀y∈n2,y∉n1:=λy h2 h1=>mR.2.2 y h1 y h2 rfl
  obtain⟨m1,f1,i1,g1,l1,k1,o1,R1,c1⟩:=vW x.1 pl n ib hw.1 xF R P1 ⟨mR.1,λy hy=>hO.2 y (aF6 _ hy)⟩ (λy hy=>hn y (aF6 _ hy)) hf
  obtain⟨m2,f2,i2,g2,l2,k2,o2,R2,c2⟩:=vY x.2 (pl.1,pl.2+a.size) _ ib hw.2 (λe=>(((xF e).mono l1).on a.size)) R1 (P2.mono l1.aD) ⟨mR.2.1,λy hy=>by rw[(k1 y (hd y hy)).1];exact hO.2 y (aF3 _ hy)⟩
   (λy hy=>by rw[(k1 y (hd y hy)).2];exact hn y (aF3 _ hy)) f1
  refine⟨Nat.le_trans m1 m2, ?_,λi hi=> ?_,g2,l1.trans l2,λy hy=> ?_,λi hi=>(o2 i (by omega)).trans (o1 i hi), ?_,(c1.mono l2).append c2⟩
  ·show r9 ((_++_)++hp) _;rw[aC7];exact f2
  ·show look ((_++_)++hp) i=_;rw[aC7,i2 i (by omega),i1 i hi]
  ·rw[aE9,not_or]at hy;obtain⟨a1,a2⟩:=k1 y hy.1;obtain⟨b1,b2⟩:=k2 y hy.2;exact⟨b1.trans a1,b2.trans a2⟩
  ·show HRel B g2 ((_++_)++hp) w;rw[aC7];exact R2
 |ptr wh st sp ih=>
  intro x pl n ib B g hp w rp us nb hw xF R hP hO hn hf;simp only[Sp.whole,aC6]at hw;obtain⟨b,o,arr,ty,jd,rfl,rfl,ha,ad0,hle0,P⟩:=hP;obtain⟨rfl,lh,rfl⟩:=ad0.1 hw.1;have mR:=List.nodup_cons.1 hO.1;have ht:=R.uC (hf n (aE5 _));obtain⟨l0,R0⟩:=R.PB n (.pointer (some ⟨b,0,none⟩)) arr.toList;have W2:(g.kz n (g.top n) (.pointer (some ⟨b,0,none⟩)) arr.toList).cv n 0= .pointer (some ⟨b,0,none⟩):=(by simp[Gh.kz,ht]);have NV:0<(g.kz n (g.top n) (.pointer (some ⟨b,0,none⟩)) arr.toList).top n:=(by simp[Gh.kz]);have Ug:(g.kz n (g.top n) (.pointer (some ⟨b,0,none⟩)) arr.toList).outer n=arr.toList:=(by simp[Gh.kz])
  have Uu:∀i,i<n->(g.kz n (g.top n) (.pointer (some ⟨b,0,none⟩)) arr.toList).outer i=g.outer i:=λi hi=>by
   simp only[Gh.kz];rw[aF4 (by omega)]
  have NN:(g.kz n (g.top n) (.pointer (some ⟨b,0,none⟩)) arr.toList).dj=g.dj:=rfl;have NO:(g.kz n (g.top n) (.pointer (some ⟨b,0,none⟩)) arr.toList).ep=g.ep:=rfl;have P0:Pass (g.kz n (g.top n) (.pointer (some ⟨b,0,none⟩)) arr.toList).aD w sp x (b,0) ((arr.toList.drop 0).take sp.size) jd:=P
  generalize g.kz n (g.top n) (.pointer (some ⟨b,0,none⟩)) arr.toList=g0 at l0 R0 W2 NV Ug Uu NN NO P0
  rw[ht]at R0
  obtain⟨m1,f1,i1,g1,l1,k1,o1,R1,c1⟩:=ih x (n,0) (n+1) true hw.2 (λ_ id gen off e=>by
    injection e with e;injection e with e1 e;injection e with e2 e3
    subst e1;subst e2;subst e3
    exact⟨NV,b,0,W2,rfl⟩) R0 P0 ⟨mR.2,λy hy=>by rw[NN];exact hO.2 y (aD9 _ hy)⟩ (λy hy=>by rw[NO];exact hn y (aD9 _ hy)) (λi hi=>by rw[ay _ _ (by omega)];exact hf i (by omega))
  obtain⟨q1,q2⟩:=k1 b mR.1;rw[NN]at q1;rw[NO]at q2
  have sy:(arr.toList.drop 0).take sp.size=arr.toList:=by
   rw[List.drop_zero];exact List.take_of_length_le (by simp[lh])
  rw[sy]at c1;have K8:look ((mk0 sp x (n,0) (n+1)).2.1++((n,Obj.iH 0 (0,[]))::hp)) n=some (.iH 0 (0,[])):=(by rw[i1 n (by omega),aE]);have Hg:g1.dj b=some 0:=q1.trans (hO.2 b (aE0 ..));have BQ:g1.ep b=none:=q2.trans (hn b (aE0 ..));have xA:g1.cv n 0= .pointer (some ⟨b,0,none⟩):=(l1.cv _ _ NV).trans W2;have RR:g1.outer n=arr.toList:=(o1 n (by omega)).trans Ug
  let g2:Gh:={g1 with dj:=open Classical in λx=>if x=b then some (n+1)else g1.dj x}
  have O7:Le g1 g2:=⟨λ_ _ h=>h,λ_=>aE5 _,λ_ _ _=>rfl⟩
  have R2:HRel B g2 ((n, .box 0 (st.1,(mk0 sp x (n,0) (n+1)).1))::((mk0 sp x (n,0) (n+1)).2.1++((n,Obj.iH 0 (0,[]))::hp))) w:=by
   refine R1.Qx Hg BQ K8 rfl ⟨b,0,arr,st.1,arr.toList,xA,⟨by simp,BQ⟩,ha,c1.mono O7, ?_, ?_,rfl, ?_,rfl⟩
   ·show arr.toList=(g1.outer n).take 0++arr.toList++(g1.outer n).drop (0+arr.toList.length);rw[RR];simp
   ·show 0+arr.toList.length<=(g1.outer n).length;rw[RR];simp
   ·show(g1.outer n).length=(mk0 sp x (n,0) (n+1)).1.length;rw[RR];exact c1.length
  have RP:∀i,look ((n,Obj.box 0 (st.1,(mk0 sp x (n,0) (n+1)).1))::((mk0 sp x (n,0) (n+1)).2.1++hp)) i=look ((n,Obj.box 0 (st.1,(mk0 sp x (n,0) (n+1)).1))::((mk0 sp x (n,0) (n+1)).2.1++((n,Obj.iH 0 (0,[]))::hp))) i:=by
   intro i
   by_cases e:n=i
   ·subst e;rw[aE,aE]
   ·rw[ay _ _ e,ay _ _ e]
    have app:∀(l:List (Nat×Obj)),look (l++hp) i=look (l++((n,Obj.iH 0 (0,[]))::hp)) i:=by
     intro l
     induction l with
     |nil=>exact(ay _ _ e).symm
     |cons p l ih=>
      show(bif Nat.beq p.1 i then some p.2 else look (l++hp) i)=(bif Nat.beq p.1 i then some p.2 else look (l++((n,Obj.iH 0 (0,[]))::hp)) i);rw[ih]
    exact app _
  refine⟨by show n<=(mk0 sp x (n,0) (n+1)).2.2;omega,λi hi=> ?_,λi hi=> ?_,g2,(l0.trans l1).trans O7,λy hy=> ?_,λi hi=>(o1 i (by omega)).trans (Uu i hi),R2.congr RP,⟨_,[],rfl,⟨aF7 NV (l1.top n),b,0,xA,rfl⟩,rfl⟩⟩
  ·have hi:(mk0 sp x (n,0) (n+1)).2.2<=i:=hi;have:=f1 i hi;have h2:=RP i;rw[ay _ _ (by omega),ay _ _ (by omega)]at h2;show look ((n,_)::((mk0 sp x (n,0) (n+1)).2.1++hp)) i=none;rw[ay _ _ (by omega),h2];exact this
  ·have h2:=RP i;rw[ay _ _ (by omega),ay _ _ (by omega)]at h2;show look ((n,_)::((mk0 sp x (n,0) (n+1)).2.1++hp)) i=_;rw[ay _ _ (by omega),h2,i1 i (by omega),ay _ _ (by omega)]
  ·rw[aF8,not_or]at hy;obtain⟨a1,a2⟩:=k1 y hy.2;exact⟨by simp[g2,hy.1,a1,NN],by rw[show g2.ep=g1.ep from rfl,a2,NO]⟩
def uA (a:Act):List Nat->List Value->Prop
 |[],us=>us=[]
 |t::ts,us=>∃u r,us=u::r/\a.tmps.getD t undef=u/\uA a ts r
theorem ti {a:Act}:∀(as:List VSp)(ts:List Nat)(x:(cf as).den)(n:Nat){B:Base}{g:Gh}{hp:List (Nat×Obj)}{w:World}{us:List Value}{nb:List Nat},mM as=true->HRel B g hp w->gw g.aD w as x us nb->dP g nb->(∀b∈nb,g.ep b=none)->r9 hp n->
  uA a ts us->∃g',Le g g'/\HRel B g' ((vg as ts x n).2++hp) w/\∀t s,(t,s)∈(vg as ts x n).1->di g' s (a.tmps.getD t undef)
 |[],ts,x,n,B,g,hp,w,us,nb,NK,R,hP,hO,hn,hf,hs=>⟨g,Le.refl g,R,λt s h=>by simp[vg]at h⟩
 |sp::as,[],x,n,B,g,hp,w,us,nb,NK,R,hP,hO,hn,hf,hs=>⟨g,Le.refl g,R,λt s h=>by simp[vg]at h⟩
 |sp::as,t::ts,x,n,B,g,hp,w,us,nb,NK,R,hP,hO,hn,hf,hs=>by
  simp only[mM,aC6]at NK;obtain⟨u,r,n1,n2,rfl,rfl,P1,P2⟩:=hP;obtain⟨u',r',e,hu,Um⟩:=hs
  injection e with e1 e2
  subst e1;subst e2;have mR:=aH0.1 hO.1
  have hd:∀y∈n2,y∉n1:=λy h2 h1=>mR.2.2 y h1 y h2 rfl
  have Ub:dP g n1:=⟨mR.1,λy hy=>hO.2 y (aF6 _ hy)⟩
  have IM:∀y∈n1,g.ep y=none:=λy hy=>hn y (aF6 _ hy)
  have one:∃m g1,n<=m/\m=(zw sp x.1 n).2.2/\r9 ((zw sp x.1 n).2.1++hp) m/\Le g g1/\(∀y,y∉n1->g1.dj y=g.dj y/\g1.ep y=g.ep y)/\HRel B g1 ((zw sp x.1 n).2.1++hp) w/\∀v,(zw sp x.1 n).1=some v->ed g1 v u:=by
   cases sp with
   |one s=>
    obtain⟨m1,f1,_,g1,l1,k1,_,R1,c1⟩:=G5 s x.1 (0,0) n false NK.1 (λe=>by cases e) R P1.2 Ub IM hf;refine⟨_,g1,m1,rfl,f1,l1,k1,R1,λv hv=> ?_⟩;simp only[zw]at hv;split at hv
    ·rename_i c hc
     injection hv with hv
     subst hv;rw[hc]at c1;obtain⟨u'',r'',aj4,ag5,_⟩:=c1
     injection aj4 with aj4
     subst aj4;exact ag5
    ·cases hv
   |agg s=>
    obtain⟨K4,rfl,P1⟩:=P1;obtain⟨m1,f1,_,g1,l1,k1,_,R1,c1⟩:=G5 s x.1 (0,0) n false NK.1 (λe=>by cases e) R P1 Ub IM hf;refine⟨_,g1,m1,rfl,f1,l1,k1,R1,λv hv=> ?_⟩
    injection hv with hv
    subst hv;exact⟨K4,rfl,c1⟩
  obtain⟨m,g1,m1,em,f1,l1,k1,R1,c1⟩:=one;subst em
  have aA5:gw g1.aD w as x.2 r n2:=by
   have:∀(as:List VSp) (x:(cf as).den) (us:List Value) (nb:List Nat),gw g.aD w as x us nb->gw g1.aD w as x us nb:=by
    intro as
    induction as with
    |nil=>intro x us nb h;exact h
    |cons a as ih=>intro x us nb h;obtain⟨u,r,n1,n2,e,e',h1,h2⟩:=h;exact⟨u,r,n1,n2,e,e',h1.mono l1.aD,ih _ _ _ h2⟩
   exact this _ _ _ _ P2
  obtain⟨g2,l2,R2,c2⟩:=ti as ts x.2 (zw sp x.1 n).2.2 NK.2 R1 aA5 ⟨mR.2.1,λy hy=>by rw[(k1 y (hd y hy)).1];exact hO.2 y (aF3 _ hy)⟩
   (λy hy=>by rw[(k1 y (hd y hy)).2];exact hn y (aF3 _ hy)) f1 Um
  refine⟨g2,l1.trans l2, ?_,λt' s ht=> ?_⟩
  ·show HRel B g2 ((_++_)++hp) w;rw[aC7];exact R2
  ·simp only[vg]at ht;split at ht
   ·rename_i v hv
    rcases aF8.1 ht with ht|ht
    ·injection ht with h1 h2
     subst h1;subst h2;show ed g2 v _;rw[hu];exact ed.mono l2 (c1 v hv)
    ·exact c2 t' s ht
   ·exact c2 t' s ht
theorem EN {β:Type}:∀{l:List (Nat×β)}{n:Nat}{b:β},look l n=some b->(n,b)∈l
 |[],_,_,h=>by cases h
 |(m,c)::r,n,b,h=>by
  simp only[look]at h
  cases e:Nat.beq m n with
  |true=>rw[e]at h;injection h with h;subst h;rw[beq_eq e];exact aE0 ..
  |false=>rw[e]at h;exact aD9 _ (EN h)
theorem Ov {E:Env}{B:Base}{g:Gh}{w:World}{as:List VSp}{ts:List Nat}{x:(cf as).den}{us:List Value}{nb:List Nat}{a:Act}(NK:mM as=true)(R:HRel B g [] w)(hP:gw g.aD w as x us nb)(hO:dP g nb)(hn:∀b∈nb,g.ep b=none)
  (hs:uA a ts us) (lh:a.tmps.size=E.nt) (Uq:a.defers=[]) (hk:∀t∈E.lZ,a.tmps.getD t undef=B.arg t) (YK:VC E B) (hI:E.ini=false):
  ∃g',Le g g'/\HRel B g' (dec ts as x).hp w/\ActRel E B g' (dec ts as x).env a:=by
 obtain⟨g',l,R',hc⟩:=ti as ts x G8 NK R hP hO hn (λi _=>rfl) hs;rw[aF0]at R';exact⟨g',l,R',⟨λt s ht=>hc t s (EN ht),lh,Uq,hk,YK,λe=>by rw[hI]at e;cases e⟩⟩
theorem HRel.at {B:Base}{g:Gh}{hp:List (Nat×Obj)}{w:World}(R:HRel B g hp w)(g1:Gh):HRel {B with g0:=g1} g hp w:=
 ⟨R.top,R.eD,R.aD,R.ep,R.dQ,R.jo,R.frame,R.size,R.os,R.tape,R.output,R.fix⟩
theorem Ol {E:Env}{B:Base}{g:Gh}{w:World}{as:List VSp}{ts:List Nat}{x:(cf as).den}{us:List Value}{nb:List Nat}{a:Act}(NK:mM as=true)(R:HRel B g [] w)(hP:gw g.aD w as x us nb)(hO:dP g nb)(hn:∀b∈nb,g.ep b=none)
  (hs:uA a ts us) (lh:a.tmps.size=E.nt) (Uq:a.defers=[]) (hk:∀t∈E.lZ,a.tmps.getD t undef=B.arg t) (YK:VC E B):
  ∃g',Le g g'/\HRel {B with g0:=g'} g' (dec ts as x).hp w/\ActRel E {B with g0:=g'} g' (dec ts as x).env a:=by
 obtain⟨g',l,R',hc⟩:=ti as ts x G8 NK R hP hO hn (λi _=>rfl) hs;rw[aF0]at R';exact⟨g',l,R'.at g',⟨λt s ht=>hc t s (EN ht),lh,Uq,hk,YK,λ_=>Le.refl _⟩⟩
open Classical in
theorem HRel.fresh {B:Base}{g:Gh}{hp:List (Nat×Obj)}{w:World}(R:HRel B g hp w){nb:List Nat}(hO:dP g nb):
  ∃g',g'.aD=g.aD/\HRel B g' [] w/\dP g' nb/\∀b∈nb,g'.ep b=none:=by
 refine⟨{aD:=g.aD,top:=λ_=>0,cv:=λ_ _=> .tuple #[],dj:=λx=>if x∈nb then some 0 else none,ep:=λ_=>none,outer:=λ_=>[]},rfl,⟨λ_=>rfl,(λi o h=>by cases h),λb L h=> ?_,(λb L h=>by cases h),λb h=> ?_,R.jo,λb hb hl hi=> ?_,R.size,R.os,R.tape,R.output,R.fix⟩,
  ⟨hO.1,λb hb=>by simp[hb]⟩,λ_ _=>rfl⟩
 ·obtain⟨a1,a2,a3⟩:=R.aD b L h
  have:b∉nb:=λhm=>by rw[hO.2 b hm]at a1;cases a1
  exact⟨by simp[this],rfl,a3⟩
 ·by_cases hm:b∈nb
  ·exact R.dQ b (by rw[hO.2 b hm];simp)
  ·simp[hm]at h
 ·obtain⟨f1,f2,f3⟩:=R.frame b hb hl hi
  have:b∉nb:=λhm=>by rw[hO.2 b hm]at f1;cases f1
  exact⟨by simp[this],f2,f3⟩
theorem wH:∀{ts:List Nat}{s s':St}{vs:List Val},(EP ts).run s=some (vs,s')->s'=s/\∀{g:Gh}{a:Act},iC g s.env a->∃us,uA a ts us/\fj g vs us
 |[],_,_,_,h=>by obtain⟨rfl,rfl⟩:=ah h;exact⟨rfl,λ_=>⟨[],rfl,rfl⟩⟩
 |t::ts,s,s',vs,h=>by
  obtain⟨v,t1,h1,h2⟩:=AM.af h;obtain⟨ZT,t2,h3,h4⟩:=AM.af h2;obtain⟨rfl,rfl⟩:=ah h4;simp only[AM.run]at h1;split at h1
  ·rename_i sl CB;obtain⟨rfl,rfl⟩:=s4 h1;obtain⟨rfl,hr⟩:=wH h3;refine⟨rfl,λV=> ?_⟩;obtain⟨us,hs,hv⟩:=hr V;exact⟨_::us,⟨_,us,rfl,rfl,hs⟩,⟨_,us,rfl,V t _ CB,hv⟩⟩
  ·cases h1
theorem Sd {E:Env}(hI:E.ini=false){B:Base}{ts ts':List Nat}{as:List VSp}{s s':St}{x:(cf as).den}(h:(enc ts as).run s=some (x,s')){g:Gh}{a:Act}{w:World}(R:HRel B g s.hp w)(V:ActRel E B g s.env a):
  ∃g',(∀b L,g.aD b=some L->g'.aD b=some L)/\HRel B g' (dec ts as x).hp w/\ActRel E B g' (dec ts as x).env a:=by
 obtain⟨NK,h⟩:=bm h;obtain⟨vs,t,h1,h2⟩:=AM.af h;obtain⟨rfl,hv⟩:=wH h1;obtain⟨us,hs,hr⟩:=hv V.env;obtain⟨_,C4⟩:=qK h2;obtain⟨g1,l1,R1,c1⟩:=C4 B g w R;obtain⟨nb,hP,hO,_,_⟩:=c1 us hr;obtain⟨g2,e2,R2,Mz,Gw⟩:=R1.fresh hO;obtain⟨g3,l3,R3,V3⟩:=Ov (E:=E) (ts:=ts) NK R2 (by rw[e2];exact hP) Mz Gw hs V.size V.defers V.kept V.slf hI;exact⟨g3,λb L hb=>l3.aD b L (by rw[e2];exact l1.le.aD b L hb),R3,V3⟩
def Db (a:Act):List Nat->List Value->Prop
 |[],us=>us=[]
 |t::r,us=>∃b o v,us= .pointer (some ⟨b,o,none⟩)::v/\a.tmps.getD t undef= .pointer (some ⟨b,o,none⟩)/\Db a r v
def QT (a:Act):Der->Prop
 |[]=>True
 |d::r=>(∃vs:List Value,a.tmps.getD d.1 undef= .func (.func d.2.1) #[] vs.toArray/\Db a d.2.2 vs)/\QT a r
theorem GQ {g:Gh}{a:Act}{env:List (Nat×Slot)}(V:iC g env a):∀{ts:List Nat}{cs:List (Nat×Nat)}{us:List Value},zp env ts=some cs->sx g cs us->Db a ts us
 |[],cs,us,h,k=>by
  injection h with h
  subst h;exact k
 |t::ts,cs,us,h,k=>by
  simp only[zp]at h;split at h
  ·rename_i id gen hl;simp only[aF1]at h;obtain⟨BP,h1,rfl⟩:=h;obtain⟨b,o,v,rfl,ht,kM,hr⟩:=k;have hs:bu g (.ptr id gen 0) (a.tmps.getD t undef):=V t _ hl;obtain⟨_,b',o',e1,e2⟩:=hs;have kM:g.cv id gen= .pointer (some ⟨b,o,none⟩):=kM;rw[kM]at e1
   injection e1 with e1;injection e1 with e1;injection e1 with e1 e3
   subst e1;subst e3;exact⟨b,o,v,rfl,e2,GQ V h1 hr⟩
  ·cases h
theorem GF {g:Gh}{a:Act}{env:List (Nat×Slot)}(V:iC g env a):∀{ts:List Nat}{cs:List (Nat×Nat)}{us:List Value},zp env ts=some cs->Db a ts us->sx g cs us
 |[],cs,us,h,k=>by
  injection h with h
  subst h;exact k
 |t::ts,cs,us,h,k=>by
  simp only[zp]at h;split at h
  ·rename_i id gen hl;simp only[aF1]at h;obtain⟨BP,h1,rfl⟩:=h;obtain⟨b,o,v,rfl,hu,hr⟩:=k;have hs:bu g (.ptr id gen 0) (a.tmps.getD t undef):=V t _ hl;obtain⟨ht,b',o',e1,e2⟩:=hs;rw[hu]at e2
   injection e2 with e2;injection e2 with e2;injection e2 with e2 e3
   subst e2;refine⟨b,o,v,rfl,ht, ?_,GF V h1 hr⟩;rw[e1,e3];rfl
  ·cases h
theorem JY {g:Gh}{a:Act}{env:List (Nat×Slot)}(V:iC g env a):∀{yl:Der},si env yl=true->QT a yl
 |[],_=>trivial
 |d::r,h=>by
  simp only[si,aC6]at h;refine⟨?_,JY V h.2⟩;have h1:=h.1;split at h1
  ·rename_i f jJ cs hl hc;simp only[aC6]at h1;obtain rfl:=beq_eq h1.1;obtain rfl:=sX h1.2;have hs:bu g (.fn d.2.1 jJ) (a.tmps.getD d.1 undef):=V d.1 _ hl;obtain⟨vs,e,hv⟩:=hs;exact⟨vs,e,GQ V hc hv⟩
  ·cases h1
theorem zl {g:Gh}{a:Act}{env:List (Nat×Slot)}(V:iC g env a):∀{yl:Der},QT a yl->iC g (derive env yl) a
 |[],_=>V
 |d::r,⟨⟨vs,e,hv⟩,hr⟩=>by
  simp only[derive];split
  ·rename_i cs hc;intro t s hl
   by_cases et:d.1=t
   ·subst et;rw[aE]at hl
    injection hl with hl
    subst hl;exact⟨vs,e,GF V hc hv⟩
   ·rw[ay _ _ et]at hl;exact zl V hr t s hl
  ·exact zl V hr
theorem Aq {E:Env}(hI:E.ini=false){B:Base}{ts:List Nat}{as:List VSp}{yl:Der}{s s':St}{x:(cf as).den}(hd:si s.env yl=true)(h:(enc ts as).run s=some (x,s')){g:Gh}{a:Act}{w:World}(R:HRel B g s.hp w)(V:ActRel E B g s.env a):
  ∃g',(∀b L,g.aD b=some L->g'.aD b=some L)/\HRel B g' (IK ts as yl x).hp w/\ActRel E B g' (IK ts as yl x).env a:=by
 obtain⟨g',hi,R',V'⟩:=Sd hI (ts':=ts) h R V;exact⟨g',hi,R',⟨zl V'.env (JY V.env hd),V'.size,V'.defers,V'.kept,V'.slf,V'.ini⟩⟩
end Go.Abs
end

section
namespace Go.Abs
def xK (E:Env)(c:Code)(h:Handler):Prop:=
 ∀(ρ:Type) (B:Base) (s:St) (K:Exit->St->Option ρ) (x:ρ) (Q:Exit->Act->World->Prop),h ρ s K=some x->(∀e,KOk E B (K e) x (Q e))->
  ∀g a w,ie E.df g.aD->HRel B g s.hp w->ActRel E B g s.env a->c.wp E.P Q a w
def pieces:Code->List (Bool×Code)
 | .seq a b=>(false,b)::(pieces a++pieces b)
 | .cond _ a b=>pieces a++pieces b
 | .block _ c=>pieces c
 | .loop c=>[(true,c)]
 | .scope c=>pieces c
 |_=>[]
structure CutsOk (E:Env)(H:Cuts)(c:Code):Prop where
 loop:∀b,(true,b)∈pieces c->∀h:Handler,(first b).bind H.loop=some h->xK E (.loop b) h
 join:∀b,(false,b)∈pieces c->∀h:Handler,(first b).bind H.join=some h->xK E b h
theorem CutsOk.sub {E:Env}{H:Cuts}{c d:Code}(h:CutsOk E H c)(hs:∀p∈pieces d,p∈pieces c):CutsOk E H d:=
 ⟨λb hb=>h.loop b (hs _ hb),λb hb=>h.join b (hs _ hb)⟩
theorem DN {s:St}{c:Operand}{t:Bool}{g:Gh}{a:Act}(h:Ar s c=some t)(V:iC g s.env a):a.eval c= .bool t:=by
 unfold Ar at h;split at h
 ·rename_i t';split at h
  ·rename_i b hb
   injection h with h
   subst h;exact mA (V t' _ hb)
  ·cases h
 ·injection h with h;subst h;rfl
 ·cases h
theorem zm {E:Env}(hE:EnvOk E)(hm:E.P.follows .mixedOrders=true){ρ:Type}{B:Base}{H:Cuts}:∀(c:Code)(s:St)(K:Exit->St->Option ρ)(x:ρ)(Q:Exit->Act->World->Prop),CutsOk E H c->exec E H c s K=some x->(∀e,KOk E B (K e) x (Q e))->
  ∀g a w,ie E.df g.aD->HRel B g s.hp w->ActRel E B g s.env a->c.wp E.P Q a w:=by
 intro c
 induction c with
 |skip=>intro s K x Q _ h hK g a w hG R V;exact wp_skip (hK .normal s g a w h hG R V)
 |region id ops draw=>
  intro s K x Q _ h hK g a w hG R V;exact A0 hE hm (hK .normal) h hG R V
 |seq c1 c2 Pc MC=>
  intro s K x Q hH h hK g a w hG R V
  have h1:CutsOk E H c1:=hH.sub λp hp=>aD9 _ (aF6 _ hp)
  have h2:CutsOk E H c2:=hH.sub λp hp=>aD9 _ (aF3 _ hp)
  refine wp_seq (Pc s _ x _ h1 h (λe=> ?_) g a w hG R V)
  cases e with
  |normal=>
   intro s' g' a' w' hk IX R' V';simp only at hk
   cases hj:(first c2).bind H.join with
   |none=>
    rw[hj]at hk;exact MC s' K x Q h2 hk hK g' a' w' IX R' V'
   |some hh=>
    rw[hj]at hk;exact hH.join c2 (aE0 ..) hh hj ρ B s' K x Q hk hK g' a' w' IX R' V'
  |_=>intro s' g' a' w' hk IX R' V';exact hK _ s' g' a' w' hk IX R' V'
 |cond c c1 c2 Pc MC=>
  intro s K x Q hH h hK g a w hG R V;simp only[exec]at h
  cases hb:Ar s c with
  |none=>rw[hb]at h;cases h
  |some t=>
   rw[hb]at h;refine wp_cond (DN hb V.env) ?_;have h:brk t (exec E H c1 s K) (exec E H c2 s K)=some x:=h
   rcases EJ h with⟨rfl,h'⟩|⟨rfl,h'⟩
   ·exact Pc s K x Q (hH.sub λp hp=>aF6 _ hp) h' hK g a w hG R V
   ·exact MC s K x Q (hH.sub λp hp=>aF3 _ hp) h' hK g a w hG R V
 |block id c ih=>
  intro s K x Q hH h hK g a w hG R V;refine wp_block (ih s _ x _ (hH.sub λp hp=>hp) h (λe=> ?_) g a w hG R V)
  cases e with
  |exit i=>
   intro s' g' a' w' hk IX R' V';simp only at hk;simp only[Exit.inBlock]
   by_cases e:i=id
   ·rw[aG3 e];subst e;rw[Nat.beq_refl]at hk;exact hK .normal s' g' a' w' hk IX R' V'
   ·rw[aF4 e]
    have:Nat.beq i id=false:=by rw[Bool.eq_false_iff];intro he;exact e (beq_eq he)
    rw[this]at hk;exact hK (.exit i) s' g' a' w' hk IX R' V'
  |_=>intro s' g' a' w' hk IX R' V';exact hK _ s' g' a' w' hk IX R' V'
 |loop c ih=>
  intro s K x Q hH h hK g a w hG R V;simp only[exec]at h
  cases hj:(first c).bind H.loop with
  |none=>rw[hj]at h;cases h
  |some hh=>
   rw[hj]at h;exact hH.loop c (aE0 ..) hh hj ρ B s K x Q h hK g a w hG R V
 |exit i=>intro s K x Q _ h hK g a w hG R V;exact wp_exit (hK (.exit i) s g a w h hG R V)
 |ret=>intro s K x Q _ h hK g a w hG R V;exact wp_ret (hK .ret s g a w h hG R V)
 |label l=>intro s K x Q _ h hK g a w hG R V;exact wp_label (hK .normal s g a w h hG R V)
 |scope c ih=>
  intro s K x Q hH h hK g a w hG R V;refine wp_scope_straight (ih s _ x _ (hH.sub λp hp=>hp) h (λe=> ?_) g a w hG R V)
  cases e with
  |goto l=>intro s' g' a' w' hk;cases hk
  |_=>intro s' g' a' w' hk IX R' V';exact hK _ s' g' a' w' hk IX R' V'
 |_=>intro s K x Q _ h;cases h
theorem Jt {e e':Exit}(h:ER e e'=true):e=e':=by
 cases e<;>cases e'<;>first|rfl|(cases h;done)|skip
 rw[beq_eq h]
theorem Ak {ρ:Type}:∀{ws:List Way1}{e:Exit}{s:St}{y:n8 ws}{K:Exit->St->Option ρ}{z:ρ},BK ws e s=some y->Fs ws y K=some z->
  ∃ts as yl x s',si s.env yl=true/\(enc ts as).run s=some (x,s')/\K e (IK ts as yl x)=some z
 |[],_,_,_,_,_,h,_=>by cases h
 |w::r,e,s,y,K,z,h,hg=>by
  simp only[BK]at h
  cases hs:ER w.e e with
  |true=>
   rw[hs]at h;simp only[aD6]at h
   cases hd:si s.env w.yl with
   |false=>rw[hd]at h;cases h
   |true=>
    rw[hd]at h;obtain⟨x,s',h1,h2⟩:=mN h
    injection h2 with h2
    subst h2;have hg:K w.e (IK w.ts w.as w.yl x)=some z:=hg;rw[Jt hs]at hg;exact⟨_,_,_,x,s',hd,h1,hg⟩
  |false=>
   rw[hs]at h;simp only[aD1,aH1]at h;obtain⟨y',h1,h2⟩:=h
   injection h2 with h2
   subst h2;exact Ak h1 hg
def pZ (P:Program)(c:Code)(Q:Exit->Act->World->Prop)(a:Act)(w:World):Prop:=
 ∀(b:Frame) (k:List Item) (cs:List Frame),∃e a' w',Q e a' w'/\Arrives P (lone (b.at a (.code c:: .inLoop c::k)) cs w) b k cs e a' w'
theorem pZ.wp {P:Program}{c:Code}{Q:Exit->Act->World->Prop}{a:Act}{w:World}(h:pZ P c Q a w):(Code.loop c).wp P Q a w:=by
 intro b k cs;obtain⟨e,a',w',hq,AJ⟩:=h b k cs;exact⟨e,a',w',hq, .of_steps (.one step_loop) AJ⟩
theorem pZ.round {P:Program}{c:Code}{Q:Exit->Act->World->Prop}{a:Act}{w:World}(h:c.wp P (Exit.then (pZ P c Q) Q) a w):pZ P c Q a w:=by
 intro b k cs;obtain⟨e,a₁,w₁,hq,AJ⟩:=h b (.inLoop c::k) cs
 cases e with
 |normal=>
  obtain⟨e₂,a₂,w₂,aA1,Zc⟩:=hq b k cs;exact⟨e₂,a₂,w₂,aA1, .of_steps (Steps.trans AJ (.one step_inLoop)) Zc⟩
 |exit id=>exact⟨_,a₁,w₁,hq, .pass (x:= .inLoop c) rfl (λ_ _=> .inl (by simp)) AJ⟩
 |goto l=>exact⟨_,a₁,w₁,hq, .pass (x:= .inLoop c) rfl (λ_ _=> .inl (by simp)) AJ⟩
 |ret=>exact⟨_,a₁,w₁,hq, .pass (x:= .inLoop c) rfl (λ_ _=> .inl (by simp)) AJ⟩
 |panic ch=>exact⟨_,a₁,w₁,hq, .pass (x:= .inLoop c) rfl (λ_ _=> .inl (by simp)) AJ⟩
 |outgrown=>exact⟨_,a₁,w₁,hq, .pass (x:= .inLoop c) rfl (λ_ _=> .inl (by simp)) AJ⟩
def s8 (E:Env)(c:Cut)(W:(Exit->Act->World->Prop)->Act->World->Prop)(L:(cf c.as).den->Option (n8 c.ws)):Prop:=
 ∀x y,L x=some y->∀{ρ:Type} (B:Base) (K:Exit->St->Option ρ) (z:ρ) (Q:Exit->Act->World->Prop),Fs c.ws y K=some z->(∀e,KOk E B (K e) z (Q e))->
  ∀g a w,ie E.df g.aD->HRel B g (IK c.ts c.as c.yl x).hp w->ActRel E B g (IK c.ts c.as c.yl x).env a->W Q a w
def Fk (E:Env)(c:Cut)(body:Code)(L:(cf c.as).den->Option (n8 c.ws)):Prop:=s8 E c (pZ E.P body) L
def IC (E:Env)(c:Cut)(body:Code)(L:(cf c.as).den->Option (n8 c.ws)):Prop:=s8 E c (λQ=>body.wp E.P Q) L
theorem Fk.none {E:Env}{c:Cut}{body:Code}:Fk E c body (λ_=> .none):=λx y h=>by cases h
theorem IC.none {E:Env}{c:Cut}{body:Code}:IC E c body (λ_=> .none):=λx y h=>by cases h
theorem QP {E:Env}(hI:E.ini=false){B:Base}{ρ:Type}{ws:List Way1}{y:n8 ws}{K:Exit->St->Option ρ}{z:ρ}{Q:Exit->Act->World->Prop}(hg:Fs ws y K=some z)(hK:∀e,KOk E B (K e) z (Q e))(e:Exit):KOk E B (BK ws e) y (Q e):=by
 intro s g a w hk hG R V;obtain⟨ts,as,yl,x,s',hd,h1,h2⟩:=Ak hk hg;obtain⟨g',hi,R',V'⟩:=Aq hI hd h1 R V;exact hK e _ g' a w h2 (hG.mono hi) R' V'
theorem PG {E:Env}(hI:E.ini=false)(hE:EnvOk E)(hm:E.P.follows .mixedOrders=true){H:Cuts}{c:Cut}{body:Code}(hH:CutsOk E H body){L:(cf c.as).den->Option (n8 c.ws)}(hL:Fk E c body L):Fk E c body (c.round E H body L):=by
 intro x y h ρ B K z Q hg hK g a w hG R V
 apply pZ.round
 refine zm hE hm body _ _ y _ hH h (λe=> ?_) g a w hG R V
 cases e with
 |normal=>
  intro s' g' a' w' hk IX R' V';have hk:(bif si s'.env c.yl then(enc c.ts c.as).exec s' λx' _=>L x' else none)=some y:=hk
  cases hd:si s'.env c.yl with
  |false=>rw[hd]at hk;cases hk
  |true=>
   rw[hd]at hk;obtain⟨x',s'',h1,h2⟩:=mN hk;obtain⟨g2,hi,R2,V2⟩:=Aq hI hd h1 R' V';exact hL x' y h2 B K z Q hg hK g2 a' w' (IX.mono hi) R2 V2
 |_=>exact QP hI hg hK _
theorem ve {E:Env}(hI:E.ini=false)(hE:EnvOk E)(hm:E.P.follows .mixedOrders=true){H:Cuts}{c:Cut}{body:Code}(hH:CutsOk E H body):IC E c body (c.tail E H body):=by
 intro x y h ρ B K z Q hg hK g a w hG R V;exact zm hE hm body _ _ y _ hH h (λe=>QP hI hg hK e) g a w hG R V
theorem HK {E:Env}(hI:E.ini=false){c:Cut}{body:Code}{L:(cf c.as).den->Option (n8 c.ws)}(hL:Fk E c body L):xK E (.loop body) (c.xS L):=by
 intro ρ B s K x Q h hK g a w hG R V;have h:(bif si s.env c.yl then(enc c.ts c.as).exec s λx _=>(L x).bind λy=>Fs c.ws y K else none)=some x:=h
 cases hd:si s.env c.yl with
 |false=>rw[hd]at h;cases h
 |true=>
  rw[hd]at h;obtain⟨x0,s',h1,h2⟩:=mN h;simp only[aH1]at h2;obtain⟨y,h3,h4⟩:=h2;obtain⟨g2,hi,R2,V2⟩:=Aq hI hd h1 R V;exact(hL x0 y h3 B K x Q h4 hK g2 a w (hG.mono hi) R2 V2).wp
theorem Hk {E:Env}(hI:E.ini=false){c:Cut}{body:Code}{L:(cf c.as).den->Option (n8 c.ws)}(hL:IC E c body L):xK E body (c.xS L):=by
 intro ρ B s K x Q h hK g a w hG R V;have h:(bif si s.env c.yl then(enc c.ts c.as).exec s λx _=>(L x).bind λy=>Fs c.ws y K else none)=some x:=h
 cases hd:si s.env c.yl with
 |false=>rw[hd]at h;cases h
 |true=>
  rw[hd]at h;obtain⟨x0,s',h1,h2⟩:=mN h;simp only[aH1]at h2;obtain⟨y,h3,h4⟩:=h2;obtain⟨g2,hi,R2,V2⟩:=Aq hI hd h1 R V;exact hL x0 y h3 B K x Q h4 hK g2 a w (hG.mono hi) R2 V2
end Go.Abs
end

section
namespace Go.Abs
theorem Pass.back {aD:Rd}{w0 w:World}:∀{s:Sp}{x:s.ty.den}{pl:Nat×Nat}{old us:List Value}{nb:List Nat},s.plain=true->Pass aD w s x pl us nb->nA aD w0 w s x pl old us nb
 | .un,_,_,_,_,_,_,k=>k
 | .pr _ _,_,_,_,_,_,hp,⟨u1,u2,n1,n2,e,e',k1,k2⟩=>by
  simp only[Sp.plain,aC6]at hp;exact⟨u1,u2,n1,n2,e,e',Pass.back hp.1 k1,Pass.back hp.2 k2⟩
 | .cH _,_,_,_,_,_,_,k=>k
 | .own _ _,_,_,_,_,_,_,k=>k
 | .sA,_,_,_,_,_,_,k=>k
 | .yK _,_,_,_,_,_,hp,_=>by cases hp
 | .err,_,_,_,_,_,_,k=>k
 | .np,_,_,_,_,_,_,k=>k
 | .slf _ _,_,_,_,_,_,hp,_=>by cases hp
 | .ptr _ _ _,_,_,_,_,_,hp,_=>by cases hp
 | .lnd _ _,_,_,_,_,_,hp,_=>by cases hp
theorem qV.res {aD:Rd}{w:World}{a:VSp}{x:a.sp.ty.den}{u:Value}{nb:List Nat}(hp:a.sp.plain=true)(h:qV aD w a x u nb):xn aD w a x u nb:=by
 cases a with
 |one s=>exact⟨h.1,Pass.back hp h.2⟩
 |agg s=>obtain⟨us,e,h⟩:=h;exact⟨us,e,Pass.back hp h⟩
theorem gw.res {aD:Rd}{w:World}:∀{as:List VSp}{x:(cf as).den}{us:List Value}{nb:List Nat},xQ as=true->gw aD w as x us nb->qT aD w as x us nb
 |[],_,_,_,_,h=>h
 |_::_,_,_,_,hp,⟨u,r,n1,n2,e,e',h1,h2⟩=>by
  simp only[xQ,aC6]at hp;exact⟨u,r,n1,n2,e,e',h1.res hp.1,gw.res hp.2 h2⟩
def Fl (tmps:Array Value):ResultVar->Sem Value
 | .tmp t=>pure (tmps.getD t undef)
 | .cell c t=>do loadVar t (<-asAddr (tmps.getD c undef))
theorem Hz {E:Env}{r:ResultVar}{s s':St}{v:Val}(h:(Iy E r).run s=some (v,s')):s'.env=s.env/\∀{B:Base}{g:Gh}{a:Act}{w:World},ie E.df g.aD->HRel B g s.hp w->iC g s.env a->
  ∃u g',(Fl a.tmps r).run E.P w= .ok u w/\Le g g'/\HRel B g' s'.hp w/\ed g' v u:=by
 cases r with
 |tmp t=>
  simp only[Iy,AM.run]at h;split at h
  ·rename_i sl CB;obtain⟨rfl,rfl⟩:=s4 h;exact⟨rfl,λ_ R V=>⟨_,_,rfl,Le.refl _,R,V t _ CB⟩⟩
  ·cases h
 |cell c t=>
  simp only[Iy,AM.run]at h;split at h
  ·rename_i sl CB;obtain⟨ag,t2,h3,h4⟩:=AM.af h;obtain⟨n,t3,h5,h6⟩:=AM.af h4;obtain⟨cs,t4,h7,h9⟩:=AM.af h6;obtain⟨Mt,rfl⟩:=ct h3;obtain⟨hn,rfl⟩:=ct h5;obtain rfl:=EY h9;obtain⟨he,hr⟩:=EB h7;refine⟨he,λ{B g a w} hG R V=> ?_⟩;obtain⟨b,o',us,g',e,Hf,hlen,l,R',hc⟩:=hr hG.one R (V c _ CB);obtain⟨_,hv⟩:=xe h9 hc;have AL:=Em (E:=E) (w:=w) Mt hn hlen Hf
   have Y3:(loadVar t ⟨b,o',none⟩).run E.P w= .ok (if ag then .agg us.toArray else us.getD 0 undef) w:=by simpa[Instr.loadAt,Instr.sureAddr]using AL
   refine⟨if ag then .agg us.toArray else us.getD 0 undef,g', ?_,l,R', ?_⟩
   ·show(do loadVar t (<-asAddr (a.tmps.getD c undef)):Sem Value).run E.P w=_;rw[e];simpa[asAddr]using Y3
   ·rcases hv with⟨rfl,hv⟩|⟨rfl,u,rfl,hv⟩
    ·exact hv
    ·exact hv
  ·cases h
theorem px {E:Env}:∀{rs:List ResultVar}{s s':St}{vs:List Val},(AB E rs).run s=some (vs,s')->s'.env=s.env/\∀{B:Base}{g:Gh}{a:Act}{w:World},ie E.df g.aD->HRel B g s.hp w->iC g s.env a->
  ∃us g',(rs.mapM (Fl a.tmps)).run E.P w= .ok us w/\Le g g'/\HRel B g' s'.hp w/\fj g' vs us
 |[],s,s',vs,h=>by
  obtain⟨rfl,rfl⟩:=ah h;exact⟨rfl,λ_ R _=>⟨[],_,by simp,Le.refl _,R,rfl⟩⟩
 |r::rs,s,s',vs,h=>by
  obtain⟨v,t,h1,h2⟩:=AM.af h;obtain⟨ZT,t2,h3,h4⟩:=AM.af h2;obtain⟨rfl,rfl⟩:=ah h4;obtain⟨e1,k1⟩:=Hz h1;obtain⟨e2,k2⟩:=px h3;refine⟨e2.trans e1,λ{B g a w} hG R V=> ?_⟩;obtain⟨u,g1,a1,l1,R1,v1⟩:=k1 hG R V;obtain⟨us,g2,a2,l2,R2,v2⟩:=k2 (hG.mono l1.aD) R1 (by rw[e1];exact V.mono l1);refine⟨u::us,g2, ?_,l1.trans l2,R2,⟨u,us,rfl,v1.mono l2,v2⟩⟩;rw[List.mapM_cons];simp only[Sem.run_bind,a1,Result.andThen_ok,a2];rfl
theorem w8:∀{sp:Sp}{p:sp.oQ.den}{s s':St},(NG sp).run s=some (p,s')->s'=s/\∀aD w0 w us,AE aD w0 w sp p us []
 | .un,_,_,_,h=>by obtain⟨rfl,rfl⟩:=ah h;exact⟨rfl,λ_ _ _ _=>rfl⟩
 | .cH _,_,_,_,h=>by obtain⟨rfl,rfl⟩:=ah h;exact⟨rfl,λ_ _ _ _=>rfl⟩
 | .own _ _,_,_,_,h=>by obtain⟨rfl,rfl⟩:=ah h;exact⟨rfl,λ_ _ _ _=>rfl⟩
 | .yK _,_,_,_,h=>by obtain⟨rfl,rfl⟩:=ah h;exact⟨rfl,λ_ _ _ _=>rfl⟩
 | .sA,_,_,_,h=>by obtain⟨rfl,rfl⟩:=ah h;exact⟨rfl,λ_ _ _ _=>rfl⟩
 | .err,_,_,_,h=>by obtain⟨rfl,rfl⟩:=ah h;exact⟨rfl,λ_ _ _ _=>rfl⟩
 | .np,_,_,_,h=>by obtain⟨rfl,rfl⟩:=ah h;exact⟨rfl,λ_ _ _ _=>rfl⟩
 | .slf _ _,_,_,_,h=>by obtain⟨rfl,rfl⟩:=ah h;exact⟨rfl,λ_ _ _ _=>rfl⟩
 | .ptr _ _ _,_,_,_,h=>by cases h
 | .lnd _ _,_,_,_,h=>by cases h
 | .pr a b,p,s,s',h=>by
  obtain⟨x,t,h1,h2⟩:=AM.af h;obtain⟨y,t2,h3,h4⟩:=AM.af h2;obtain⟨rfl,rfl⟩:=ah h4;obtain⟨rfl,k1⟩:=w8 h1;obtain⟨rfl,k2⟩:=w8 h3;exact⟨rfl,λaD w0 w us=>⟨[],[],rfl,k1 _ _ _ _,k2 _ _ _ _⟩⟩
theorem aF.head {g:Gh}{c:Cell}{cs:List Cell}{us:List Value}(h:aF g (c::cs) us){n:Nat}{NW:List Value}(e:NW=us.take (n+1)):∃u,bu g c u/\NW=u::(us.drop 1).take n:=by
 obtain⟨u,r,e',hu,_⟩:=h;subst e';exact⟨u,hu,by rw[e];rfl⟩
theorem JW {aD jo:Rd}{w0 w:World}{st:PT}{s:Sp}{x x0:s.ty.den}{pl ay2:Nat×Nat}{us:List Value}{nb K6:List Nat}(P1:Pass aD w (.ptr true st s) x pl us nb)(P0:Pass jo w0 (.ptr true st s) x0 ay2 us K6)
  (k:∀b arr kN ty FP n1 n0,us=[.pointer (some ⟨b,0,none⟩)]->w.heap[b]?=some (.cells arr ty (0,0))->w0.heap[b]?=some (.cells kN FP (0,0))->Pass aD w s x (b,0) arr.toList n1->Pass jo w0 s x0 (b,0) kN.toList n0->nA aD w0 w s x (b,0) kN.toList arr.toList n1):nA aD w0 w (.ptr true st s) x pl us us nb:=by
 obtain⟨b,o,arr,ty,jd,e,rfl,ha,ad0,_,ZD⟩:=P1;obtain⟨rfl,lh,rfl⟩:=ad0.1 rfl;obtain⟨b0,o0,kN,FP,nb0',e0,_,O8,ae8,_,al6⟩:=P0;obtain⟨rfl,W9,rfl⟩:=ae8.1 rfl;rw[e]at e0
 injection e0 with e0 _;injection e0 with e0;injection e0 with e0;injection e0 with e0 _
 subst e0
 have sy:(arr.toList.drop 0).take s.size=arr.toList:=by
  rw[List.drop_zero];exact List.take_of_length_le (by simp[lh])
 have Uw:(kN.toList.drop 0).take s.size=kN.toList:=by
  rw[List.drop_zero];exact List.take_of_length_le (by simp[W9])
 rw[sy]at ZD;rw[Uw]at al6;have hd:kN.toList.drop (0+arr.toList.length)=[]:=List.drop_eq_nil_of_le (by simp[lh,W9]);refine⟨b,0,kN,_,arr,arr.toList,jd,e,rfl,rfl,O8,ha, ?_,by simp[lh,W9],by simpa using lh, ?_⟩
 ·rw[hd];simp
 ·rw[Uw];exact k b arr kN _ _ _ _ e ha O8 ZD al6
theorem Jo {vr:List (Nat×Obj)}{c:Cell}{s s':St}(h:(stays vr c).run s=some ((),s')):s'=s/\∀{B:Base}{g0 g:Gh}{w0 w:World}{us:List Value},HRel B g0 vr w0->Le g0 g->HRel B g s.hp w->aF g [c] us->
  ∃b arr ty kN FP,us=[.pointer (some ⟨b,0,none⟩)]/\w.heap[b]?=some (.cells arr ty (0,0))/\w0.heap[b]?=some (.cells kN FP (0,0))/\arr.toList=kN.toList:=by
 have box:∀{B:Base} {g:Gh} {hp:List (Nat×Obj)} {w:World} {n t:Nat},HRel B g hp w->look hp n=some (.box 0 (t,[.ptr (n+1) 0 0]))->∃b arr ty b1 o1,g.cv n 0= .pointer (some ⟨b,0,none⟩)/\w.heap[b]?=some (.cells arr ty (0,0))/\g.cv (n+1) 0= .pointer (some ⟨b1,o1,none⟩)/\arr.toList=[.pointer (some ⟨b1,o1,none⟩)]:=by
  intro B g hp w n t R hl;obtain⟨b,o,arr,ty,L,e1,_,e2,hc,e3,_,rfl,e4,_⟩:=R.eD n _ hl;obtain⟨u,r,rfl,⟨_,b1,o1,e5,rfl⟩,hr⟩:=hc;have hr:r=[]:=hr;subst hr;refine⟨b,arr,ty,b1,o1,e1,e2,e5, ?_⟩;rw[e3,List.drop_eq_nil_of_le (by simp only[aC3,aC5]at e4⊢;omega)];simp
 unfold stays at h;split at h
 ·rename_i n;obtain⟨hb,h⟩:=bm h;simp only[AM.run]at h;split at h
  ·rename_i t m hl;obtain⟨hm,h⟩:=bm h;obtain⟨_,rfl⟩:=ah h;obtain rfl:=beq_eq hm;refine⟨rfl,λ{B g0 g w0 w us} R0 l R hc=> ?_⟩;unfold TS at hb;split at hb
   ·rename_i t0 m0 am3;simp only[aC6]at hb;obtain rfl:=beq_eq hb.1;obtain⟨b,arr,ty,b1,o1,e1,e2,e3,e4⟩:=box R hl;obtain⟨b',kN,FP,b1',o1',f1,f2,f3,f4⟩:=box R0 am3
    have t1:0<g0.top n:=by rw[R0.top,am3];exact Nat.succ_pos _
    have t2:0<g0.top (n+1):=by
     rw[R0.top]
     cases hq:look vr (n+1)with
     |none=>rw[hq]at hb;cases hb.2
     |some o=>exact Nat.succ_pos _
    rw[l.cv n 0 t1,f1]at e1;rw[l.cv (n+1) 0 t2,f3]at e3
    injection e1 with e1;injection e1 with e1;injection e1 with e1 _
    subst e1
    injection e3 with e3;injection e3 with e3;injection e3 with e3 e5
    subst e3;subst e5;obtain⟨u,r,rfl,⟨_,bb,oo,q1,rfl⟩,hr⟩:=hc;have hr:r=[]:=hr;subst hr;rw[l.cv n 0 t1,f1]at q1
    injection q1 with q1;injection q1 with q1;injection q1 with q1 q2
    subst q1;subst q2;exact⟨b',arr,ty,kN,FP,rfl,e2,f2,by rw[e4,f4]⟩
   ·cases hb
  ·cases h
 ·cases h
theorem HI {ini:Bool}{vr:List (Nat×Obj)}:∀{sp:Sp}{cells:List Cell}{s s':St}{p:sp.oQ.den}{rest:List Cell},(IB ini vr sp cells).run s=some ((p,rest),s')->s'.env=s.env/\rest=cells.drop sp.size/\
  ∀{B:Base} {g:Gh} {w0 w:World} {jo:Rd} {x0:sp.ty.den} {rp:Nat×Nat} {us:List Value} {K6:List Nat},(ini=true->∃g0,HRel B g0 vr w0/\Le g0 g)->HRel B g s.hp w->aF g (cells.take sp.size) us->Pass jo w0 sp x0 rp us K6->
   ∃g' nb,Lk g g'/\HRel B g' s'.hp w/\dP g' nb/\(∀b∈nb,g.dj b≠some 0)/\AE g'.aD w0 w sp p us nb:=by
 intro sp
 have nil:∀{sp:Sp} {p:sp.oQ.den} {B:Base} {g:Gh} {hp:List (Nat×Obj)} {w0 w:World} {us:List Value},HRel B g hp w->(∀aD,AE aD w0 w sp p us [])->
   ∃g' nb,Lk g g'/\HRel B g' hp w/\dP g' nb/\(∀b∈nb,g.dj b≠some 0)/\AE g'.aD w0 w sp p us nb:=λ{sp p B g hp w0 w us} R h=>
  ⟨g,[],Lk.refl g,R,⟨aG5,λb hb=>by simp at hb⟩,λb hb=>by simp at hb,h _⟩
 induction sp with
 |un=>intro cells s s' p rest h;obtain⟨h1,rfl⟩:=ah h;injection h1 with h1 h2;subst h2;exact⟨rfl,rfl,λ_ R _ _=>nil R λ_=>rfl⟩
 |cH τ=>intro cells s s' p rest h;cases cells with|nil=>exact nomatch h|cons c cs=>obtain⟨h1,rfl⟩:=ah h;injection h1 with h1 h2;subst h2;exact⟨rfl,rfl,λ_ R _ _=>nil R λ_=>rfl⟩
 |own τ dp=>intro cells s s' p rest h;cases cells with|nil=>exact nomatch h|cons c cs=>obtain⟨h1,rfl⟩:=ah h;injection h1 with h1 h2;subst h2;exact⟨rfl,rfl,λ_ R _ _=>nil R λ_=>rfl⟩
 |err=>intro cells s s' p rest h;cases cells with|nil=>exact nomatch h|cons c cs=>obtain⟨h1,rfl⟩:=ah h;injection h1 with h1 h2;subst h2;exact⟨rfl,rfl,λ_ R _ _=>nil R λ_=>rfl⟩
 |np=>intro cells s s' p rest h;cases cells with|nil=>exact nomatch h|cons c cs=>obtain⟨h1,rfl⟩:=ah h;injection h1 with h1 h2;subst h2;exact⟨rfl,rfl,λ_ R _ _=>nil R λ_=>rfl⟩
 |slf f m=>intro cells s s' p rest h;cases cells with|nil=>exact nomatch h|cons c cs=>obtain⟨h1,rfl⟩:=ah h;injection h1 with h1 h2;subst h2;exact⟨rfl,rfl,λ_ R _ _=>nil R λ_=>rfl⟩
 |sA=>intro cells s s' p rest h;cases cells<;>exact nomatch h
 |yK ok=>intro cells s s' p rest h;cases cells with|nil=>exact nomatch h|cons c cs=>obtain⟨h1,rfl⟩:=ah h;injection h1 with h1 h2;subst h2;exact⟨rfl,rfl,λ_ R _ _=>nil R λ_=>rfl⟩
 |pr a b vW vY=>
  intro cells s s' p rest h;obtain⟨⟨p1,r1⟩,t,h1,h2⟩:=AM.af h;obtain⟨⟨q1,q2⟩,t2,h3,h4⟩:=AM.af h2;obtain⟨h5,rfl⟩:=ah h4
  injection h5 with h5 h6
  subst h5;subst h6;obtain⟨ea,ra,sa⟩:=vW h1;obtain⟨eb,rb,sb⟩:=vY h3;have ra:r1=cells.drop a.size:=ra;have rb:rest=r1.drop b.size:=rb;refine⟨eb.trans ea,by rw[rb,ra,List.drop_drop],λ{B g w0 w jo x0 rp us K6} hI R hc hP=> ?_⟩;obtain⟨u1,u2,m1,m2,rfl,rfl,P1,P2⟩:=hP;have oR:=P1.length
  have c1:aF g (cells.take a.size) u1:=by
   have:=hc.take a.size;rw[List.take_take,Nat.min_eq_left (by show a.size<=a.size+b.size;omega),<-oR,List.take_left,oR]at this;exact this
  have c2:aF g (r1.take b.size) u2:=by
   have:=hc.drop a.size;rw[show(Sp.pr a b).size=a.size+b.size from rfl,List.drop_take,show a.size+b.size - a.size=b.size by omega,<-ra,<-oR,List.drop_left]at this;exact this
  obtain⟨g1,n1,l1,R1,O1,f1,X1⟩:=sa hI R c1 P1;obtain⟨g2,n2,l2,R2,O2,f2,X2⟩:=sb (λe=>(hI e).imp λ_ q=>⟨q.1,q.2.trans l1.le⟩) R1 (c2.mono l1.le) P2;refine⟨g2,n1++n2,l1.trans l2,R2,dP.append l2 O1 O2 f2,λb hb=> ?_,n1,n2,rfl, ?_, ?_⟩
  ·rcases aE9.1 hb with hb|hb
   ·exact f1 b hb
   ·exact λe=>f2 b hb (l1.kp b e).1
  ·rw[<-oR,List.take_left];exact qY l2.le.aD X1
  ·rw[<-oR,List.drop_left];exact X2
 |lnd τ dp=>
  intro cells s s' p rest h
  cases cells with
  |nil=>exact nomatch h
  |cons c cs=>
   obtain⟨⟨x,r⟩,t,h1,h2⟩:=AM.af h;obtain⟨h3,rfl⟩:=ah h2
   injection h3 with h3 h4
   subst h3;subst h4;obtain⟨k,_,hs⟩:=uZ (.own τ dp) _ _ _ _ _ _ h1;refine⟨k.1,rfl,λ{B g w0 w jo x0 rp us K6} hI R hc hP=> ?_⟩;obtain⟨g',l,R',MD⟩:=hs B g w R;obtain⟨u1,u2,nb,e,P1,O1,r1,f1,_⟩:=MD us (0,0) hc (iR.none _ _);have hl:us.length=1:=hP.length;have oR:u1.length=1:=P1.length;have yi:u2=[]:=aG4 (by have:=congrArg List.length e;simp at this;omega);subst yi;rw[aF0]at e;subst e;exact⟨g',nb,l,R',O1,f1,rfl,P1⟩
 |ptr wh st sr ih=>
  intro cells s s' p rest h
  cases cells with
  |nil=>exact nomatch h
  |cons c cs=>
   have fin:wh=true/\((zz (.ptr wh st sr) none [c]).bind λp=>AM.ret (p.1,cs)).run s=some ((p,rest),s')/\(∀{B:Base} {g g':Gh} {w0 w:World} {jo:Rd} {x0:sr.ty.den} {us:List Value},(ini=true->∃g0,HRel B g0 vr w0/\Le g0 g)->HRel B g s.hp w->aF g [c] us->∀b arr kN ty FP n1 n0,us=[.pointer (some ⟨b,0,none⟩)]->w.heap[b]?=some (.cells arr ty (0,0))->w0.heap[b]?=some (.cells kN FP (0,0))->Pass g'.aD w sr p (b,0) arr.toList n1->Pass jo w0 sr x0 (b,0) kN.toList n0->nA g'.aD w0 w sr p (b,0) kN.toList arr.toList n1):=by
    have h0:(bif sr.plain&&wh then(zz (.ptr wh st sr) none [c]).bind λp=>AM.ret (p.1,cs)else bif ini&&(sr.inner&&wh)then(stays vr c).bind λ_=>(zz (.ptr wh st sr) none [c]).bind λp=> .ret (p.1,cs)else .fail).run s=some ((p,rest),s'):=h
    cases hb:(sr.plain&&wh)with
    |true=>
     rw[hb]at h0;rw[aC6]at hb;exact⟨hb.2,h0,λ_ _ _ b arr kN ty FP n1 n0 _ _ _ q _=>q.back hb.1⟩
    |false=>
     rw[hb]at h0;obtain⟨AP,h0⟩:=bm (b:=ini&&(sr.inner&&wh)) h0;rw[aC6,aC6]at AP;obtain⟨⟨⟩,t,h1,h2⟩:=AM.af h0;obtain⟨rfl,mB⟩:=Jo h1;refine⟨AP.2.2,h2,λ{B g g' w0 w jo x0 us} hI R hc b arr kN ty FP n1 n0 e ha O8 q q0=> ?_⟩;obtain⟨g0,R0,l0⟩:=hI AP.1;obtain⟨b',a1,t1,a2,t2,e',f1,f2,f3⟩:=mB R0 l0 R hc;rw[e]at e'
     injection e' with e' _;injection e' with e';injection e' with e';injection e' with e' _
     subst e';rw[ha]at f1
     injection f1 with f1;injection f1 with f1 _
     subst f1;rw[O8]at f2
     injection f2 with f2;injection f2 with f2 _
     subst f2
     cases sr with
     |ptr as6 RY s2=>
      have an8:(s2.plain&&as6)=true:=AP.2.1;rw[aC6]at an8;obtain⟨xF,rfl⟩:=an8;rw[f3]at q⊢
      exact JW q q0 λb arr kN ty FP n1 n0 _ _ _ q _=>q.back xF
     |_=>exact absurd AP.2.1 (by simp[Sp.inner])
   obtain⟨rfl,h0,key⟩:=fin;obtain⟨⟨x,r⟩,t,h1,h2⟩:=AM.af h0;obtain⟨h3,rfl⟩:=ah h2
   injection h3 with h3 h4
   subst h3;subst h4;obtain⟨k,_,hs⟩:=uZ (.ptr true st sr) _ _ _ _ _ _ h1;refine⟨k.1,rfl,λ{B g w0 w jo x0 rp us K6} hI R hc hP=> ?_⟩;obtain⟨g',l,R',MD⟩:=hs B g w R;obtain⟨u1,u2,nb,e,P1,O1,r1,f1,_⟩:=MD us (0,0) hc (iR.none _ _);have hl:us.length=1:=hP.length;have oR:u1.length=1:=P1.length;have yi:u2=[]:=aG4 (by have:=congrArg List.length e;simp at this;omega);subst yi;rw[aF0]at e;subst e;exact⟨g',nb,l,R',O1,f1,JW P1 hP (key hI R hc)⟩
theorem Gc {E:Env}{vr:List (Nat×Obj)}:∀{as:List VSp}{n:Nat}{s s':St}{y:(pf as).den},(H3 E.ini vr E.lZ as n).run s=some (y,s')->
  ∀{B:Base} {g:Gh} {a:Act} {w0 w:World} {jo:Rd} {x0:(cf as).den} {args:List Value} {K6:List Nat},(E.ini=true->∃g0,HRel B g0 vr w0/\Le g0 g)->HRel B g s.hp w->ActRel E B g s.env a->gw jo w0 as x0 args K6->(∀k u,args[k]?=some u->B.arg (n+k)=u)->
   ∃g' nb,Lk g g'/\HRel B g' s'.hp w/\dP g' nb/\(∀b∈nb,g.dj b≠some 0)/\j7 g'.aD w0 w as y args nb:=by
 intro as
 induction as with
 |nil=>
  intro n s s' y h B g a w0 w jo x0 args K6 hI R V hP hA;obtain⟨_,rfl⟩:=ah h;exact⟨g,[],Lk.refl g,R,⟨aG5,λb hb=>by simp at hb⟩,λb hb=>by simp at hb,hP.1,rfl⟩
 |cons sp as ih=>
  intro n s s' y h B g a w0 w jo x0 args K6 hI R V hP hA;obtain⟨u,r,m1,m2,rfl,rfl,P1,P2⟩:=hP
  have K5:∀k v,r[k]?=some v->B.arg (n+1+k)=v:=λk v hk=>by
   have:=hA (k+1) v (by simpa using hk);rw[show n+1+k=n+(k+1)by omega];exact this
  obtain⟨p,t,h1,h2⟩:=AM.af h;obtain⟨q,t2,h3,h4⟩:=AM.af h2;obtain⟨rfl,rfl⟩:=ah h4
  cases ho:sp.sp.Iw with
  |false=>
   rw[ho]at h1;obtain⟨rfl,k⟩:=w8 h1;obtain⟨g',nb,l,R',hO,hf,hX⟩:=ih h3 hI R V P2 K5;exact⟨g',nb,l,R',hO,hf,u,r,[],nb,rfl,rfl,k _ _ _ _,hX⟩
  |true=>
   rw[ho]at h1;obtain⟨hb,h0⟩:=bm h1;obtain⟨v,t0,h5,h6⟩:=AM.af h0;obtain⟨⟨p',rest⟩,t1,h7,h8⟩:=AM.af h6;obtain⟨rfl,rfl⟩:=ah h8;simp only[AM.run]at h5;split at h5
   ·rename_i sl CB;obtain⟨rfl,rfl⟩:=s4 h5;obtain⟨e1,_,hs⟩:=HI h7
    have O3:ed g v u:=by
     have h1:di g (.val v) (a.tmps.getD n undef):=V.env n _ CB;obtain⟨k,hk,au0⟩:=List.any_eq_true.1 hb;rw[V.kept n (by rw[beq_eq au0];exact hk),show B.arg n=u from hA 0 u rfl]at h1;exact h1
    have iG:=O3.cells
    have ZP:∃rp,Pass jo w0 sp.sp x0.1 rp u.cells.toList m1:=by
     cases sp with
     |one sq=>exact⟨(0,0),by rw[Bq P1.1];exact P1.2⟩
     |agg sq=>obtain⟨us,rfl,P1⟩:=P1;exact⟨(0,0),P1⟩
    obtain⟨rp,ZP⟩:=ZP;have hlen:=iG.length;rw[ZP.length]at hlen;have YJ:v.cells.take sp.sp.size=v.cells:=(by rw[hlen,List.take_length]);obtain⟨g1,n1,l1,R1,Ub,ZI,X1⟩:=hs hI R (by rw[YJ];exact iG) ZP;obtain⟨g2,n2,l2,R2,Mz,aq3,hX⟩:=ih h3 (λe=>(hI e).imp λ_ q=>⟨q.1,q.2.trans l1.le⟩) R1 ((V.mono l1.le).Ix e1) P2 K5;refine⟨g2,n1++n2,l1.trans l2,R2,dP.append l2 Ub Mz aq3,λb hb=> ?_,u,r,n1,n2,rfl,rfl,qY l2.le.aD X1,hX⟩
    rcases aE9.1 hb with hb|hb
    ·exact ZI b hb
    ·exact λe=>aq3 b hb (l1.kp b e).1
   ·cases h5
theorem w9 {P:Program}{fn:Func}{tmps:Array Value}{w:World}{us:List Value}(h:(fn.results.toList.mapM (Fl tmps)).run P w= .ok us w):
  (results fn tmps).run P w= .ok (match us with|[u]=>u|us=> .tuple us.toArray) w:=by
 have e:(fn.results.mapM (Fl tmps)).run P w= .ok us.toArray w:=by
  rw[Array.mapM_eq_mapM_toList];simp[h]
 have hr:results fn tmps=(do
  let vs<-fn.results.mapM (Fl tmps)
  pure (if h:vs.size=1 then vs[0]else .tuple vs)):=rfl
 rw[hr];simp only[Sem.run_bind,e,Result.andThen_ok,Sem.run_pure]
 match us with
 |[]=>rfl
 |[u]=>rfl
 |u::v::r=>rfl
theorem wR {g:Gh}:∀{vs:List Val}{us:List Value},fj g vs us->us.length=vs.length
 |[],_,h=>by have h:_=_:=h;subst h;rfl
 |_::_,_,⟨_,_,e,_,hr⟩=>by subst e;simp[wR hr]
theorem Ht {E:Env}{fn:Func}{r:RSp}{s s':St}{y:r.ty.den}(h:(Qk E fn.results.toList r).run s=some (y,s')):s'.env=s.env/\∀{B:Base}{g:Gh}{a:Act}{w:World},ie E.df g.aD->HRel B g s.hp w->iC g s.env a->
  ∃v g' nb,(results fn a.tmps).run E.P w= .ok v w/\Le g g'/\HRel B g' s'.hp w/\dP g' nb/\vE g'.aD w r y v nb:=by
 cases r with
 |none=>
  obtain⟨vs,t,h1,h2⟩:=AM.af h;split at h2
  ·obtain⟨_,rfl⟩:=ah h2;obtain⟨e1,k1⟩:=px h1;refine⟨e1,λ{B g a w} hG R V=> ?_⟩;obtain⟨us,g1,a1,l1,R1,v1⟩:=k1 hG R V;have v1:us=[]:=v1;subst v1;exact⟨_,g1,[],w9 a1,l1,R1,⟨aG5,λb hb=>by simp at hb⟩,rfl,rfl⟩
  ·cases h2
 |val sp=>
  obtain⟨vs,t,h1,h2⟩:=AM.af h;obtain⟨hp,h3⟩:=bm h2;split at h3
  ·rename_i v;obtain⟨e1,k1⟩:=px h1;obtain⟨e2,k2⟩:=Cg h3;refine⟨e2.1.trans e1,λ{B g a w} hG R V=> ?_⟩;obtain⟨us,g1,a1,l1,R1,v1⟩:=k1 hG R V;obtain⟨u,rfl,hv⟩:=Jz v1 rfl;obtain⟨g2,l2,R2,c2⟩:=k2 B g1 w R1;obtain⟨nb,hP,hO,_⟩:=c2 u hv;exact⟨u,g2,nb,w9 a1,l1.trans l2.le,R2,hO,hP.res hp⟩
  ·cases h3
 |tb as=>
  obtain⟨vs,t,h1,h2⟩:=AM.af h;obtain⟨hp,h3⟩:=bm h2;split at h3
  ·cases h3
  ·rename_i jy;obtain⟨e1,k1⟩:=px h1;obtain⟨e2,k2⟩:=qK h3;refine⟨e2.1.trans e1,λ{B g a w} hG R V=> ?_⟩;obtain⟨us,g1,a1,l1,R1,v1⟩:=k1 hG R V;obtain⟨g2,l2,R2,c2⟩:=k2 B g1 w R1;obtain⟨nb,hP,hO,_⟩:=c2 us v1;have hl:=wR v1;have hr:=w9 a1;refine⟨.tuple us.toArray,g2,nb, ?_,l1.trans l2.le,R2,hO,us,rfl,hP.res hp⟩;rw[hr]
   match us,hl with
   |[],_=>rfl
   |[u],hl=>
    exfalso
    match vs,hl with
    |[v],_=>exact jy v rfl
   |u::v::r,_=>rfl
theorem vw {aD:Rd}{w:World}:∀{as:List VSp}{x:(cf as).den}{us:List Value}{nb:List Nat},gw aD w as x us nb->us.length=as.length
 |[],_,_,_,h=>by rw[h.1];rfl
 |_::_,_,_,_,⟨u,r,n1,n2,e,_,_,h⟩=>by rw[e];simp[vw h]
theorem yp {a:Act}:∀(as:List VSp)(n:Nat)(us:List Value),us.length=as.length->(∀k u,us[k]?=some u->a.tmps.getD (n+k) undef=u)->uA a (upto as n) us
 |[],_,us,h,_=>aG4 h
 |_::as,n,[],h,_=>by simp at h
 |_::as,n,u::r,h,hk=>⟨u,r,rfl,hk 0 u rfl,yp as (n+1) r (by simpa using h) λk v hv=>by
   have:=hk (k+1) v (by simpa using hv)
   rw[show n+1+k=n+(k+1)by omega];exact this⟩
theorem SS {E:Env}(hE:EnvOk E)(hm:E.P.follows .mixedOrders=true){f:FuncId}{fn:Func}{c:Code}{sg:Sig}{H:Cuts}(hf:E.P.funcs[f]?=some fn)(hb:fn.body=some c)(KU:(fn.name== "runtime.NumGoroutine")=false)
  (aA3:fn.ntmps=E.nt) (NT:sg.args.length<=E.nt) (Zf:(E.lZ.all λt=>Nat.blt t sg.args.length)=true) (NK:mM sg.args=true) (CB:E.slf=EU sg.args) (hH:CutsOk E H c):vf E.P E.df f ⟨sg,Fq E fn sg H⟩:=by
 classical
 intro x y hF aD w args nb hG iG hP mR oS ar0;have hF:Fq E fn sg H x=some y:=hF;unfold Fq at hF;rw[hb]at hF
 have KZ:(callFunc f args.toArray).run E.P w= .ok (.enter f args.toArray) w:=by
  have h1:fn.name≠ "runtime.NumGoroutine" :=(by simpa using KU)
  simp[callFunc,hf,h1,hb]
 unfold gY;rw[KZ];simp only;have hlen:args.length=sg.args.length:=vw hP
 let B0:Base:={aD:=aD,dj:=λb=>if b∈nb then some 0 else none,w:=w,arg:=λt=>args.getD t undef}
 let g0:Gh:={aD:=aD,top:=λ_=>0,cv:=λ_ _=> .tuple #[],dj:=λb=>if b∈nb then some 0 else none,ep:=λ_=>none,outer:=λ_=>[]}
 have R0:HRel B0 g0 [] w:=by
  refine⟨λ_=>rfl,(λi o h=>by cases h),λb L h=> ?_,(λb L h=>by cases h),λb h=> ?_,λb L h=>h,λb hb hl hi=>⟨hl,hi,rfl⟩,aE5 _,rfl,rfl,rfl,λ_ _ _=>rfl⟩
  ·have:b∉nb:=λhm=>by
    have h1:=(oS b hm).1;have h:aD b=some L:=h;rw[h1]at h;cases h
   exact⟨by simp[g0,this],rfl,iG b L h⟩
  ·by_cases hm:b∈nb
   ·exact(oS b hm).2
   ·simp[g0,hm]at h
 refine calls_of_wp hf hb ?_
 let a0:Act:={tmps:=args.toArray++Array.replicate (fn.ntmps - args.toArray.size) undef,defers:=[]}
 have O0:∀k u,args[k]?=some u->a0.tmps.getD k undef=u:=by
  intro k u hk;have gX:=(List.getElem?_eq_some_iff.1 hk).1;simp only[a0,Array.getD_eq_getD_getElem?];rw[Array.getElem?_append_left (by simpa using gX)];simp[hk]
 have lh:a0.tmps.size=E.nt:=by
  simp only[a0,Array.size_append,Array.size_replicate,List.size_toArray,aA3];omega
 obtain⟨g1,l1,R1,V1⟩:=Ol (E:=E) (B:=B0) (ts:=upto sg.args 0) (x:=x) (a:=a0) NK R0 hP ⟨mR,λb hb=>by simp[g0,hb]⟩ (λ_ _=>rfl) (yp sg.args 0 args hlen λk u hk=>by rw[Nat.zero_add];exact O0 k u hk) lh rfl (λt ht=>by
  have:=aE7 (List.all_eq_true.1 Zf t ht);have gX:t<args.length:=(by omega);rw[O0 t args[t] (aE1 gX)]
  simp[B0,gX]) (λf ts hE jy=>by
  rw[CB]at hE;unfold EU at hE
  cases TD:vF sg.args with
  |none=>rw[TD]at hE;cases hE
  |some p=>
   rw[TD]at hE
   injection hE with hE;injection hE with ar2 aA0
   subst ar2;subst aA0;obtain⟨b,ty,q1,q2,q3,q4⟩:=ar0 p.1 p.2 TD
   have hm:p.2<args.length:=by
    rcases Nat.lt_or_ge p.2 args.length with h|h
    ·exact h
    ·exact absurd (List.drop_eq_nil_of_le (by rw[List.length_range,<-hlen];exact h)) jy
   have aj0:(List.range sg.args.length).map B0.arg=args:=by
    rw[<-hlen]
    apply List.ext_getElem (by simp)
    intro i h1 h2;simp[B0,h2]
   have YS:((List.range sg.args.length).drop p.2).map B0.arg=args.drop p.2:=(by rw[List.map_drop,aj0]);refine⟨b,ty, ?_,by rw[YS];exact q2,by simp[B0,q3],q4⟩
   have hl:((List.range sg.args.length).drop p.2).getLastD 0=args.length - 1:=by
    rw[List.getLastD_eq_getLast?,List.getLast?_drop,aF4 (by rw[List.length_range,<-hlen];omega),<-hlen,List.getLast?_range];simp only[show args.length≠0 by omega,aH6,Option.getD_some]
   rw[hl];have:args[args.length - 1]?=some (.pointer (some ⟨b,0,none⟩)):=(by rw[<-q1,List.getLast?_eq_getElem?])
   simp[B0,this])
 let B:Base:={B0 with g0:=g1}
 have ar3:HRel B g1 (dec (upto sg.args 0) sg.args x).hp w:=R1;refine zm hE hm c _ _ y _ hH hF (λe=> ?_) g1 a0 w (hG.mono l1.aD) R1 V1
 have fin:∀s g a w',(finish E (dec (upto sg.args 0) sg.args x).hp fn.results.toList sg).exec s (λr _=>some r)=some y->ie E.df g.aD->HRel B g s.hp w'->ActRel E B g s.env a->
   a.defers=[]/\∃v,(results fn a.tmps).run E.P w'= .ok v w'/\(∃v',Ending.returned v= .returned v'/\∃cQ n1 n2,After aD w nb cQ w' (n1++n2)/\vE cQ w' sg.res y.1 v' n1/\j7 cQ w w' sg.args y.2 args n2):=by
  intro s g a w' hk IX R V;obtain⟨y',s',h1,h2⟩:=mN hk
  injection h2 with h2
  subst h2;obtain⟨r,t,h3,h4⟩:=AM.af h1;obtain⟨o,t2,h5,h6⟩:=AM.af h4;obtain⟨h7,rfl⟩:=ah h6;obtain⟨e1,k1⟩:=Ht h3;obtain⟨v,g2,n1,hr,l2,R2,Mz,af8⟩:=k1 IX R V.env;obtain⟨g3,n2,l3,R3,at3,aB5,hOut⟩:=Gc h5 (λe=>⟨g1,ar3,(V.ini e).trans l2⟩) R2 ((V.mono l2).Ix e1) hP (λk u hk=>by simp[B,B0,hk]);have hO:=dP.append l3 Mz at3 aB5;refine⟨V.defers,v,hr,v,rfl,g3.aD,n1,n2,⟨λb L hb=>R3.jo b L hb,λb L hb=>(R3.aD b L hb).2.2,λb h1 h2 h3=> ?_,hO.1,λb hb=> ?_,R3.size,R3.os,R3.tape,R3.output,λb L hb=>R3.fix b L hb⟩, ?_, ?_⟩
  ·have hl:B.dj b=none:=(by simp[B,B0,h2]);obtain⟨_,f2,f3⟩:=R3.frame b h1 hl h3;exact⟨f3,f2⟩
  ·have OV:=hO.2 b hb
   have hi:g3.aD b=none:=by
    cases hi:g3.aD b with
    |none=>rfl
    |some L=>have:=(R3.aD b L hi).1;rw[OV]at this;cases this
   refine⟨hi, ?_,R3.dQ b (by rw[OV];simp)⟩
   rcases Nat.lt_or_ge b w.heap.size with h1|h1
   ·left
    apply Classical.byContradiction
    intro h2;have hl:B.dj b=none:=(by simp[B,B0,h2])
    have h3:aD b=none:=by
     cases h3:aD b with
     |none=>rfl
     |some L=>have:=R3.jo b L h3;rw[hi]at this;cases this
    obtain⟨f1,_⟩:=R3.frame b h1 hl h3;rw[f1]at OV;cases OV
   ·exact .inr h1
  ·rw[h7];exact Ej l3.le.aD af8
  ·rw[h7];exact hOut
 cases e with
 |normal=>intro s g a w' hk IX R V;exact fin s g a w' hk IX R V
 |ret=>intro s g a w' hk IX R V;exact fin s g a w' hk IX R V
 |_=>intro s g a w' hk;cases hk
end Go.Abs
end
