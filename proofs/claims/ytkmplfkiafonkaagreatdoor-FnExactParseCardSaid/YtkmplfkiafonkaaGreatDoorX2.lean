/- What is here: append. -/
import Derived.Test.YtkmplfkiafonkaaGreatDoorX1
import Derived.Deep.Upon
import Derived.MapKept
import Derived.Scope
set_option linter.unusedVariables false
set_option linter.unusedSimpArgs false
set_option maxRecDepth 100000
open Go.IntKind (i64 u64 u8)
section
namespace Go.Abs
theorem HRel.ON {B:Base}{g:Gh}{hp:List (Nat×Obj)}{w:World}(R:HRel B g hp w){id gen:Nat}{τ:Ty}{deep:Bool}{xs:List τ.den}
  (h:look hp id=some (.own gen τ deep xs)):∃g' nb,Lk g g'∧HRel B g' ((id, .dead gen)::hp) w∧(∀b∈nb,g.dn b≠some 0)∧
   ((g'.cv id gen= .slice none 0 0∧xs=[]∧nb=[])∨∃b cap arr ty,g'.cv id gen= .slice (some ⟨b,0,none⟩) xs.length cap∧Free g' ((id, .dead gen)::hp) w b∧b∉nb∧b<w.heap.size∧w.heap[b]?=some (.cells arr ty (0,0))∧
    xs.length≤cap∧arr.size=cap*τ.size∧fN g' (deep&& !τ.flat) τ xs arr.toList nb):=by
 have Sw:∀i,i=id→∀o,look ((id,Obj.dead gen)::hp) i=some o→∃gn,o= .dead gn:=by
  rintro i rfl o ho;rw[aC]at ho
  injection ho with ho
  exact⟨gen,ho.symm⟩
 rcases R.eG _ _ h with⟨h1,h2⟩|⟨b,cap,arr,ty,h1,h2,h3,h4,h5,h6,h7⟩
 ·exact⟨g,[],Lk.refl g,R.put h rfl trivial,fun b hb=>by simp at hb, .inl ⟨h1,h2,rfl⟩⟩
 ·have JH:b<w.heap.size:=R.dR b (by rw[h2];simp)
  have WT:g.aK b=none:=by
   cases hi:g.aK b with
   |none=>rfl
   |some L=>have:=(R.aK b L hi).1;rw[h2]at this;cases this
  unfold dE at h7;split at h7
  ·rename_i hd;obtain⟨nb,k1,k2,k3⟩:=h7
   have Ew:b∉nb:=fun hm=>k1.mQ b hm h3
   let g':Gh:={g with dn:=open Classical in fun x=>if x∈nb then some 0 else g.dn x}
   have hle:Le g g':=⟨fun _ _ h=>h,fun _=>aq2 _,fun _ _ _=>rfl⟩
   have hR:HRel B g' ((id, .dead gen)::hp) w:=by
    refine⟨fun i=> ?_,fun i oi hi=> ?_,fun x L hx=> ?_,fun x L hx=> ?_,fun x hx=> ?_,R.ji,fun x hx hl hi=> ?_,R.size,R.os,R.tape,R.output,R.fix⟩
    ·show g.top i=_;rw[R.top i]
     by_cases e:id=i
     ·subst e;rw[aC,h];rfl
     ·rw[ay _ _ e]
    ·by_cases e:id=i
     ·subst e;rw[aC]at hi;injection hi with hi;subst hi;trivial
     ·rw[ay _ _ e]at hi;refine(R.eG i oi hi).tr hle (fun x hx=> ?_) rfl (by rw[R.top i,hi];exact Nat.lt_succ_self _)
      have j0:x∉nb:=fun hm=>by rw[k3 x hm]at hx;simp at hx;exact e hx
      simp[g',j0,hx]
    ·obtain⟨a1,a2,a3⟩:=R.aK x L hx
     have j0:x∉nb:=fun hm=>by rw[k3 x hm]at a1;cases a1
     exact⟨by simp[g',j0,a1],a2,a3⟩
    ·obtain⟨a1,a2⟩:=R.dU x L hx;refine⟨?_,a2⟩
     by_cases j0:x∈nb
     ·simp[g',j0]
     ·simpa[g',j0]using a1
    ·by_cases j0:x∈nb
     ·exact R.dR x (by rw[k3 x j0];simp)
     ·exact R.dR x (by simpa[g',j0]using hx)
    ·obtain⟨f1,f2,f3⟩:=R.frame x hx hl hi
     have j0:x∉nb:=fun hm=>by rw[k3 x hm]at f1;cases f1
     exact⟨by simp[g',j0,f1],f2,f3⟩
   refine⟨g',nb,⟨hle,fun x hx=> ?_,rfl⟩,hR,fun x hx=>by rw[k3 x hx];simp, .inr ⟨b,cap,arr,ty,h1,⟨fun i hi o ho=> ?_, ?_,WT,h3,fun hn=> ?_⟩,Ew,JH,h4,h5,h6, ?_⟩⟩
   ·have j0:x∉nb:=fun hm=>by rw[k3 x hm]at hx;simp at hx
    simp[g',j0,hx]
   ·have qE:g.dn b=some (i+1):=by simpa[g',Ew]using hi
    rw[h2]at qE;simp at qE;exact Sw i qE.symm o ho
   ·simp[g',Ew,h2]
   ·simp[g',Ew,h2]at hn
   ·unfold fN;rw[as0 hd];exact⟨k1,k2,fun x hx=>by simp[g',hx]⟩
  ·rename_i hd;refine⟨g,[],Lk.refl g,R.put h rfl trivial,fun x hx=>by simp at hx, .inr ⟨b,cap,arr,ty,h1,⟨fun i hi o ho=> ?_,by rw[h2];simp,WT,h3,fun hn=>by rw[h2]at hn;cases hn⟩,by simp,JH,h4,h5,h6, ?_⟩⟩
   ·rw[h2]at hi;simp at hi;exact Sw i hi.symm o ho
   ·unfold fN;rw[ar1 hd];exact⟨h7,rfl⟩
theorem HRel.settle {B:Base}{g:Gh}{hp:List (Nat×Obj)}{w:World}(R:HRel B g hp w){nb:List Nat}(h0:∀x∈nb,g.dn x=some 0):Le g (g.mR (nbS g nb))∧HRel B (g.mR (nbS g nb)) hp w:=by
 have hS:∀x L,nbS g nb x=some L→g.dn x=some 0∧∃arr ty fr,w.heap[x]?=some (.cells arr ty fr)∧arr.toList=L:=by
  intro x L hx;unfold nbS at hx;split at hx
  ·rename_i hm;obtain⟨_,arr,ty,a,b⟩:=R.dU x L hx;exact⟨h0 x hm,arr,ty,(0,0),a,b⟩
  ·cases hx
 have hle:Le g (g.mR (nbS g nb)):=by
  refine⟨fun b L h=> ?_,fun _=>aq2 _,fun _ _ _=>rfl⟩;show(match nbS g nb b with|some L=>some L|none=>g.aK b)=some L
  cases hs:nbS g nb b with
  |none=>exact h
  |some L'=>exact absurd (hS b L' hs).1 (by rw[(R.aK b L h).1];simp)
 refine⟨hle,fun i=>R.top i,fun i oi hi=> ?_,fun b L h=> ?_,fun b L h=> ?_,fun b h=> ?_,fun b L h=>hle.aK _ _ (R.ji b L h),fun b hb hl hi=> ?_,R.size,R.os,R.tape,R.output,R.fix⟩
 ·refine(R.eG i oi hi).tr hle (fun b hb=> ?_) rfl (by rw[R.top i,hi];exact Nat.lt_succ_self _)
  have hn:nbS g nb b=none:=by
   cases hs:nbS g nb b with
   |none=>rfl
   |some L=>exact absurd ((hS b L hs).1.symm.trans hb) (by simp)
  simp[Gh.mR,hn,hb]
 ·simp only[Gh.mR]at h⊢
  cases hs:nbS g nb b with
  |some L'=>
   rw[hs]at h
   injection h with h;subst h
   obtain⟨arr,ty,fr,h1,h2⟩:=(hS b L' hs).2;exact⟨rfl,rfl,arr,ty,fr,h1,h2⟩
  |none=>rw[hs]at h;exact R.aK b L h
 ·simp only[Gh.mR]at h⊢
  cases hs:nbS g nb b with
  |some L'=>rw[hs]at h;cases h
  |none=>rw[hs]at h;exact R.dU b L h
 ·simp only[Gh.mR]at h
  cases hs:nbS g nb b with
  |some L'=>rw[hs]at h;exact absurd rfl h
  |none=>rw[hs]at h;exact R.dR b h
 ·obtain⟨f1,f2,f3⟩:=R.frame b hb hl hi
  have hn:nbS g nb b=none:=by
   cases hs:nbS g nb b with
   |none=>rfl
   |some L=>exact absurd (hS b L hs).1 (by rw[f1];simp)
  simp[Gh.mR,hn,f1,f2,f3]
theorem fN.loose {B:Base}{g:Gh}{hp:List (Nat×Obj)}{w:World}(R:HRel B g hp w){mv:Bool}{τ:Ty}{xs:List τ.den}{L:List Value}{nb:List Nat}(h:fN g mv τ xs L nb):
  ∃g',Le g g'∧HRel B g' hp w∧fN g' false τ xs L []∧(∀b,b∉nb→Free g hp w b→Free g' hp w b):=by
 cases mv with
 |false=>
  unfold fN at h;simp only[ar9,at3]at h;refine⟨g,Le.refl g,R, ?_,fun _ _ h=>h⟩;unfold fN;simp only[ar9,at3];exact⟨h.1,trivial⟩
 |true=>
  unfold fN at h;simp only[if_true]at h;obtain⟨hle,R'⟩:=R.settle h.2.2;refine⟨_,hle,R', ?_,fun b hb hf=> ?_⟩
  ·unfold fN;simp only[ar9,at3];exact⟨fe.els (nb:=nb) (h.1.mono fun x hx L hL=>by simp[Gh.mR,nbS,hx,hL]),trivial⟩
  ·have hn:nbS g nb b=none:=(by simp[nbS,hb]);exact⟨fun i hi=>hf.obj i (by simpa[Gh.mR,hn]using hi),by simpa[Gh.mR,hn]using hf.Pq,by simpa[Gh.mR,hn]using hf.aK,by simpa[Gh.mR,hn]using hf.dU,fun h=>hf.new (by simpa[Gh.mR,hn]using h)⟩
theorem fN.DH {g g':Gh}(l:Le g g'){τ:Ty}{xs:List τ.den}{L:List Value}{nb:List Nat}(h:fN g false τ xs L nb):fN g' false τ xs L nb:=by
 unfold fN at h⊢;simp only[ar9,at3]at h⊢;exact⟨h.1.mono l.aK,h.2⟩
theorem Qx {r:Rd}{τ:Ty}{x:τ.den}{us:List Value}(h:Rc r τ x us):∀u∈us,u.oneCell'=true:=
 (l6 (g:={aK:=r,top:=fun _=>0,cv:=fun _ _=> .tuple #[],dn:=fun _=>none,dU:=fun _=>none,outer:=fun _=>[]}) h).TP
theorem zG {r:Rd}{τ:Ty}:∀{xs:List τ.den}{L:List Value},Els r τ xs L 0→L.length=xs.length*τ.size→∀u∈L,u.oneCell'=true
 |[],L,_,hl,u,hu=>by
  have:L=[]:=as1 (by simpa using hl);subst this;simp at hu
 |x::xs,L,h,hl,u,hu=>by
  obtain⟨h1,h2⟩:=Els.head.1 h;rw[←List.take_append_drop τ.size L]at hu
  rcases aq6.1 hu with hu|hu
  ·exact Qx h1 u hu
  ·exact zG h2 (by simp only[as3,hl,ao0,Nat.add_mul];omega) u hu
theorem fN.els {g:Gh}{mv:Bool}{τ:Ty}{xs:List τ.den}{L:List Value}{nb:List Nat}(h:fN g mv τ xs L nb):∃r,Els r τ xs L 0:=by
 unfold fN at h;split at h
 ·exact⟨_,h.1.els⟩
 ·exact⟨_,h.1⟩
theorem fN.pre {g:Gh}{mv:Bool}{τ:Ty}{xs:List τ.den}{L M:List Value}{nb:List Nat}(hp:L.take (xs.length*τ.size)=M.take (xs.length*τ.size))(h:fN g mv τ xs L nb):fN g mv τ xs M nb:=by
 unfold fN at h⊢;split
 ·rename_i e;rw[as0 e]at h;exact⟨h.1.pre (fun k hk=>by subst hk;exact hp),h.2⟩
 ·rename_i e;rw[ar1 e]at h;exact⟨h.1.pre (fun k hk=>by subst hk;exact hp),h.2⟩
theorem fN.append {g:Gh}{mv:Bool}{τ:Ty}{xs ys:List τ.den}{L M:List Value}{n m:List Nat}(h:fN g mv τ xs L n)(k:fN g mv τ ys M m)(hl:L.length=xs.length*τ.size)(hd:∀x∈n,x∉m):
  fN g mv τ (xs++ys) (L++M) (n++m):=by
 unfold fN at h k⊢;split
 ·rename_i e;rw[as0 e]at h k;refine⟨h.1.append k.1 hl, ?_,fun b hb=> ?_⟩
  ·rw[as7];exact⟨h.2.1,k.2.1,fun x hx y hy e=>hd x hx (e ▸ hy)⟩
  ·rcases aq6.1 hb with hb|hb
   ·exact h.2.2 b hb
   ·exact k.2.2 b hb
 ·rename_i e;rw[ar1 e]at h k;exact⟨h.1.append k.1 hl,by rw[h.2,k.2];rfl⟩
end Go.Abs
end

section
namespace Go.Abs
theorem Q9 {r:Rd}{e:Ty}{xs:List e.den}{L:List Value}{o:Nat}(h:Els r e xs L o):Els r e xs (L.drop o) 0:=by
 intro i hi;have:=h i hi;rw[Nat.zero_add,List.drop_drop];exact this
theorem LH {r:Rd}{e:Ty}{xs:List e.den}{L:List Value}{o:Nat}(h:Els r e xs L o):Els r e xs ((L.drop o).take (xs.length*e.size)) 0∧((L.drop o).take (xs.length*e.size)).length=xs.length*e.size:=by
 have h':=Q9 h;refine⟨h'.pre (fun k hk=>by subst hk;rw[List.take_take,Nat.min_self]), ?_⟩;have:=h'.len;rw[ar2];omega
theorem fN.cut {g:Gh}{mv:Bool}{τ:Ty}{xs:List τ.den}{L:List Value}{nb:List Nat}(h:fN g mv τ xs L nb):fN g mv τ xs (L.take (xs.length*τ.size)) nb∧(L.take (xs.length*τ.size)).length=xs.length*τ.size:=by
 obtain⟨r,he⟩:=h.els;refine⟨h.pre (by rw[List.take_take,Nat.min_self]), ?_⟩;have:=he.len;rw[ar2];omega
theorem fN.nil {g:Gh}{mv:Bool}{τ:Ty}{L:List Value}:fN g mv τ [] L []:=by
 unfold fN;split
 ·exact⟨rfl,as2,fun b hb=>by simp at hb⟩
 ·exact⟨Els.nil,rfl⟩
theorem S5 {P:Program}{B:Base}{g:Gh}{hp:List (Nat×Obj)}{w:World}(R:HRel B g hp w){e:Ty}{xs:List e.den}{u:Value}{tx e':TypeId}(hk:P.underlying tx=some (.slice e'))(h:Rc g.aK (.sl e) xs [u]):
  ∃news,Src P e.size tx u xs.length news w∧fN g false e xs news []:=by
 obtain⟨A,c,eu,hc,he⟩:=h
 injection eu with eu
 subst eu
 by_cases hx:xs=[]
 ·subst hx;refine⟨[], ?_,fN.nil⟩
  cases A with
  |none=>exact Src.ofNil w hk c
  |some a=>exact Src.ofSlice w hk a 0 c [] (by simp) (fun j u hj=>by simp at hj) (fun u hu=>by simp at hu)
 ·rcases he with he|⟨b,o,L,rfl,hL,hi⟩
  ·exact absurd he hx
  ·obtain⟨_,_,arr,ty,fr,k1,k2⟩:=R.aK _ _ hL;subst k2;have hE:Els g.aK e xs arr.toList o:=hi;obtain⟨EO,M8⟩:=LH hE;refine⟨_,Src.ofSlice w hk _ _ c _ M8 (fun j u hj=> ?_) (zG EO M8), ?_⟩
   ·rw[Addr.add_lit];exact iK k1 _ j u hj
   ·unfold fN;simp only[ar9,at3];exact⟨EO,trivial⟩
theorem w8 {E:Env}{t:TypeId}{c:Cell}(h:E.fit t c=true)(hs:c.isStr=false):∃e,E.P.underlying t=some (.slice e):=by
 unfold Env.fit at h;split at h
 ·rw[hs]at h;cases h
 ·exact⟨_,by assumption⟩
 ·cases h
theorem F5 {E:Env}{e:Ty}{c:Cell}{tx:TypeId}{s s':St}{dq:Bool}{ys:List e.den}(h:(source e c).run s=some ((dq,ys),s'))(hf:E.fit tx c=true):
  s'.env=s.env∧∀B g w,HRel B g s.hp w→∃g1,Lk g g1∧HRel B g1 s'.hp w∧∀u,bl g c u→
   ∃news nb,Src E.P e.size tx u ys.length news w∧fN g1 (dq&& !e.flat) e ys news nb∧∀b∈nb,g.dn b≠some 0:=by
 have shared:∀{B:Base} {g:Gh} {hp:List (Nat×Obj)} {w:World} {u:Value} {dq:Bool},HRel B g hp w→c.isStr=false→(dq&& !e.flat)=false→Rc g.aK (.sl e) ys [u]→
   ∃news nb,Src E.P e.size tx u ys.length news w∧fN g (dq&& !e.flat) e ys news nb∧∀b∈nb,g.dn b≠some 0:=by
  intro B g hp w u dq R hs hd hr;obtain⟨e',hk⟩:=w8 hf hs;obtain⟨news,k1,k2⟩:=S5 R hk hr;exact⟨news,[],k1,by rw[hd];exact k2,fun b hb=>by simp at hb⟩
 unfold source at h;split at h
 ·obtain⟨h1,rfl⟩:=ai h
  injection h1 with h1 h2
  subst h1;subst h2;refine⟨rfl,fun B g w R=>⟨g,Lk.refl g,R,fun u hu=> ?_⟩⟩;have hu:_=_:=hu;subst hu;obtain⟨e',hk⟩:=w8 hf rfl;exact⟨[],[],Src.ofNil w hk 0,fN.nil,fun b hb=>by simp at hb⟩
 ·rename_i τ xs;obtain⟨zs,t,h1,h2⟩:=AM.ah h;obtain⟨h3,rfl⟩:=ai h2
  injection h3 with h3 h4
  subst h3;subst h4;obtain⟨ee,hx,rfl⟩:=jN h1;subst ee;subst hx;refine⟨rfl,fun B g w R=>⟨g,Lk.refl g,R,fun u hu=> ?_⟩⟩;exact shared R rfl (by simp) hu.2
 ·rename_i l;split at h
  ·obtain⟨h1,rfl⟩:=ai h
   injection h1 with h1 h2
   subst h1;subst h2;refine⟨rfl,fun B g w R=>⟨g,Lk.refl g,R,fun u hu=> ?_⟩⟩;obtain⟨st,rfl,mZ⟩:=oe hu
   have hk:E.P.underlying tx=some .string:=by
    unfold Env.fit at hf;split at hf
    ·assumption
    ·simp[Cell.isStr]at hf
    ·cases hf
   have hl:List.length ys=st.size:=by rw[mZ];exact gw st
   have hb:byteCells st=ys.map (Value.int .u8):=by
    rw[mZ];unfold byteCells bytesOf;rw[List.map_map];rfl
   refine⟨byteCells st,[],by rw[hl];exact Src.ofString w hk st, ?_,fun b hb=>by simp at hb⟩;unfold fN;simp only[Ty.flat,aq3,ao7,ar9,at3];refine⟨fun i hi=> ?_,trivial⟩;show List.take 1 (List.drop (0+i*1) (byteCells st))=[Value.int .u8 ys[i]];rw[hb,Nat.zero_add,Nat.mul_one];have:i<(ys.map (Value.int .u8)).length:=(by simpa using hi);rw[List.drop_eq_getElem_cons this];simp
  ·cases h
 ·rename_i id gen;simp only[AM.run]at h;split at h
  ·rename_i g0 τ deep xs heq;obtain⟨hb,h'⟩:=bh h;obtain rfl:=beq_eq hb
   cases Xq:τ.flat with
   |true=>
    rw[Xq]at h';obtain⟨zs,t,h1,h2⟩:=AM.ah h';obtain⟨h3,rfl⟩:=ai h2
    injection h3 with h3 h4
    subst h3;subst h4;obtain⟨ee,hx,rfl⟩:=jN h1;subst ee;subst hx;refine⟨rfl,fun B g w R=>⟨g,Lk.refl g,R,fun u hu=> ?_⟩⟩;obtain⟨e',hk⟩:=w8 hf rfl
    rcases R.eG _ _ heq with⟨k1,k2⟩|⟨b,cap,arr,ty,k1,k2,k3,k4,k5,k6,k7⟩
    ·have k2:ys=[]:=k2;subst k2;rw[hu.2.1,k1];exact⟨[],[],Src.ofNil w hk 0,fN.nil,fun b hb=>by simp at hb⟩
    ·rw[hu.2.1,k1];unfold dE at k7;rw[ar1 (by simp[Xq])]at k7;obtain⟨EO,M8⟩:=LH k7;refine⟨_,[],Src.ofSlice w hk _ _ cap _ M8 (fun j u hj=> ?_) (zG EO M8), ?_,fun b hb=>by simp at hb⟩
     ·rw[Addr.add_lit];exact iK k4 _ j u hj
     ·unfold fN;simp only[Xq,aq3,ao7,ar9,at3];exact⟨EO,trivial⟩
   |false=>
    rw[Xq]at h';simp only[ao8,AM.run]at h';obtain⟨zs,t,h1,h2⟩:=AM.ah h';obtain⟨h3,rfl⟩:=ai h2
    injection h3 with h3 h4
    subst h3;subst h4;obtain⟨ee,hx,rfl⟩:=jN h1;subst ee;subst hx;refine⟨rfl,fun B g w R=> ?_⟩
    cases dq with
    |true=>
     obtain⟨g1,nb,l,R1,hn,hO⟩:=R.ON heq;refine⟨g1,l,R1,fun u hu=> ?_⟩;obtain⟨e',hk⟩:=w8 hf rfl;have kX:g1.cv id g0=g.cv id g0:=l.le.cv _ _ (gB R heq);rw[kX,←hu.2.1]at hO
     rcases hO with⟨k1,k2,k3⟩|⟨b,cap,arr,ty,k1,k2,k3,Zm,k4,k5,k6,k7⟩
     ·have k2:ys=[]:=k2;subst k2;subst k3;rw[k1];exact⟨[],[],Src.ofNil w hk 0,fN.nil,fun b hb=>by simp at hb⟩
     ·rw[k1];obtain⟨EO,M8⟩:=k7.cut;obtain⟨r,he⟩:=EO.els;refine⟨_,nb,Src.ofSlice w hk _ _ cap _ M8 (fun j u hj=> ?_) (zG he M8),EO,hn⟩;rw[Addr.add_lit];exact iK k4 (o:=0) _ j u (by simpa using hj)
    |false=>
     obtain⟨g1,l,R1⟩:=R.DO heq;refine⟨g1,l,R1,fun u hu=> ?_⟩;have hP:Rc _ _ _ _:=R1.eG _ _ (aC _ _ _);rw[show g1.cv id g0=g.cv id g0 from l.le.cv _ _ (gB R heq),←hu.2.1]at hP;obtain⟨news,nb,a1,a2,a3⟩:=shared (dq:=false) R1 rfl (by simp) hP;refine⟨news,[],a1, ?_,fun b hb=>by simp at hb⟩;unfold fN at a2⊢;simp only[ao9,ar9,at3]at a2⊢;exact⟨a2.1,trivial⟩
  ·rename_i g0 τ xs heq;obtain⟨hb,h'⟩:=bh h;obtain rfl:=beq_eq hb;obtain⟨zs,t,h1,h2⟩:=AM.ah h';obtain⟨h3,rfl⟩:=ai h2
   injection h3 with h3 h4
   subst h3;subst h4;obtain⟨ee,hx,rfl⟩:=jN h1;subst ee;subst hx;refine⟨rfl,fun B g w R=>⟨g,Lk.refl g,R,fun u hu=> ?_⟩⟩;have hP:Rc _ _ _ _:=R.eG _ _ heq;rw[←hu.2.1]at hP;exact shared R rfl (by simp) hP
  ·cases h
 ·cases h
def Tgt (g:Gh)(hp:List (Nat×Obj))(w:World)(mv:Bool)(e:Ty)(xs:List e.den)(u:Value)(nb:List Nat):Prop:=
 (u= .slice none 0 0∧xs=[]∧nb=[])∨∃b cap arr ty,u= .slice (some ⟨b,0,none⟩) xs.length cap∧Free g hp w b∧b∉nb∧b<w.heap.size∧w.heap[b]?=some (.cells arr ty (0,0))∧
  xs.length≤cap∧arr.size=cap*e.size∧fN g mv e xs arr.toList nb
theorem Gm {e:Ty}{c:Cell}{s s':St}{dp:Bool}{xs:List e.den}(h:(target e c).run s=some ((dp,xs),s')):
  s'.env=s.env∧∀B g w,HRel B g s.hp w→∃g1,Lk g g1∧HRel B g1 s'.hp w∧∀u,bl g c u→∃nb,Tgt g1 s'.hp w (dp&& !e.flat) e xs u nb∧∀b∈nb,g.dn b≠some 0:=by
 unfold target at h;split at h
 ·obtain⟨h1,rfl⟩:=ai h
  injection h1 with h1 h2
  subst h1;subst h2;refine⟨rfl,fun B g w R=>⟨g,Lk.refl g,R,fun u hu=>⟨[], .inl ⟨hu,rfl,rfl⟩,fun b hb=>by simp at hb⟩⟩⟩
 ·rename_i id gen;simp only[AM.run]at h;split at h
  ·rename_i g0 τ deep zs heq;obtain⟨hb,h'⟩:=bh h;obtain rfl:=beq_eq hb;simp only[AM.run]at h';obtain⟨ys,t,h1,h2⟩:=AM.ah h';obtain⟨h3,rfl⟩:=ai h2
   injection h3 with h3 h4
   subst h3;subst h4;obtain⟨ee,hx,rfl⟩:=jN h1;subst ee;subst hx;refine⟨rfl,fun B g w R=> ?_⟩;obtain⟨g1,nb,l,R1,hn,hO⟩:=R.ON heq;refine⟨g1,l,R1,fun u hu=>⟨nb, ?_,hn⟩⟩;rw[show g1.cv id g0=g.cv id g0 from l.le.cv _ _ (gB R heq),←hu.2.1]at hO;exact hO
  ·cases h
 ·cases h
end Go.Abs
end

section
namespace Go.Abs
theorem Ix {α:Type}(A R:List α){k:Nat}(h:A.length=k):A.take k=(A++R).take k:=by subst h;simp
theorem Dl {P:Program}{B:Base}{g:Gh}{hp:List (Nat×Obj)}{w:World}{t tx ty e:TypeId}{i:TypeInfo}{z:Value}{τ:Ty}(ht:P.underlying t=some (.slice e))(hi:P.info? e=some i)(hz:i.zero=some z)
  (mu:i.size=τ.size) (Nq:i.bytes≤128) (M4:z.cells.size=τ.size) (R:HRel B g hp w) {deep:Bool} {xs ys:List τ.den} {base:Option Addr} {sCap:Nat} {olds news:List Value} {u:Value} {P5 Ns:List Nat}
  (hold:(Builtin.firstCells i.size xs.length (.slice base xs.length sCap)).run P w.drew= .ok olds.toArray w.drew) (RJ:olds.length=xs.length*τ.size) (hP:fN g (deep&& !τ.flat) τ xs olds P5)
  (hS:Src P τ.size tx u ys.length news w) (hQ:fN g (deep&& !τ.flat) τ ys news Ns) (hd:∀x∈P5,x∉Ns) (hg:sCap<xs.length+ys.length) (Ex:xs.length+ys.length≤1099511627776) (id:Nat):
  ∃v w' g',(Builtin.append_ #[t,tx] ty #[.slice base xs.length sCap,u]).run P w= .ok v w'∧Le g g'∧HRel B g' ((id, .own (g.top id) τ deep (xs++ys))::hp) w'∧bl g' (.own id (g.top id)) v:=by
 rw[←mu]at hS
 have hb:(xs.length+ys.length)*i.bytes≤140737488355328:=by
  have:(xs.length+ys.length)*i.bytes≤1099511627776*128:=Nat.mul_le_mul Ex Nq;omega
 have hr:=run_append_grow_src (P:=P) w t tx ty e i z ht hi hz base xs.length sCap olds hold u ys.length news hS hg (by omega) (growslice_fits hg hb);have JD:=hS.newsLen;have EM:=grownCap_ge w (xs.length+ys.length) sCap e
 generalize hc:grownCap w (xs.length+ys.length) sCap e=c at hr EM
 have Xd:Turned w (w.drew.alloc (.cells ((olds++news).toArray++Builtin.zeroCells z.cells (c - (xs.length+ys.length))) e)) w.heap.size:=by
  refine⟨fun x hx=> ?_, ?_, ?_,rfl,rfl,rfl⟩
  ·show(w.heap.push _)[x]?=_;rw[Array.getElem?_push,ar1 hx]
  ·show _≤(w.heap.push _).size;simp
  ·show _ <(w.heap.push _).size;simp
 obtain⟨g',l,R',tX⟩:=R.own (id:=id) (cap:=c) (ty:=e) (τ:=τ) (deep:=deep) (xs:=xs++ys) (nb:=P5++Ns) R.pF Xd (by show(w.heap.push _)[w.heap.size]?=_;rw[Array.getElem?_push,as0 rfl]) (by
   have hA:=hP.append hQ RJ hd;refine hA.pre ?_;rw[Array.toList_append]
   exact Ix _ _ (by simp[RJ,JD,mu,Nat.add_mul])) (by simpa using EM) (by
   simp only[Array.size_append,List.size_toArray,size_zeroCells,an9,RJ,JD,M4,mu,←Nat.add_mul]
   congr 1
   omega)
 refine⟨_,_,g',hr,l,R', ?_⟩;rw[an9]at tX;exact tX
theorem HY {P:Program}{w:World}{b o:Nat}{arr:Array Value}{ty:TypeId}{us:List Value}(h:w.heap[b]?=some (.cells arr ty (0,0)))(hle:o+us.length≤arr.size)(h1:∀u∈us,u.oneCell'=true):
  (∀j,j<us.length→(w.cell? ⟨b,o+j,none⟩).isSome=true)∧(∀j,j<us.length→w.frozen? ⟨b,o+j,none⟩=false)∧w.setCells b o us=w.setRow b (kr arr o us):=by
 have a1:∀j,j<us.length→(w.cell? ⟨b,o+j,none⟩).isSome=true:=by
  intro j hj;have:o+j<arr.size:=(by omega);simp[World.cell?,h,this]
 have a2:∀j,j<us.length→w.frozen? ⟨b,o+j,none⟩=false:=by
  intro j hj;simp[World.frozen?,h]
 have r1:=run_storeCells_cells (P:=P) b o us 0 w (by simpa using a1) (by simpa using a2) h1;have r2:=run_storeCells_at (P:=P) b o ty us 0 arr w h (by simpa using hle) h1;rw[r1]at r2
 injection r2 with _ r2
 exact⟨a1,a2,by simpa[kr]using r2⟩
theorem J3 {P:Program}{B:Base}{g:Gh}{hp:List (Nat×Obj)}{w:World}{t tx ty e:TypeId}{i:TypeInfo}{z:Value}{τ:Ty}(ht:P.underlying t=some (.slice e))(hi:P.info? e=some i)(hz:i.zero=some z)
  (mu:i.size=τ.size) (Nq:i.bytes≤128) (M4:z.cells.size=τ.size) (R:HRel B g hp w) {deep:Bool} {xs ys:List τ.den} {us u:Value} {news:List Value} {P5 Ns:List Nat}
  (hT:Tgt g hp w (deep&& !τ.flat) τ xs us P5) (hS:Src P τ.size tx u ys.length news w) (hQ:fN g (deep&& !τ.flat) τ ys news Ns) (hd:∀x∈P5,x∉Ns) (Ex:xs.length+ys.length≤1099511627776) (hbq:∀b,Free g hp w b→b∉Ns) (id:Nat):
  ∃v w' g',(Builtin.append_ #[t,tx] ty #[us,u]).run P w= .ok v w'∧Le g g'∧HRel B g' ((id, .own (g.top id) τ deep (xs++ys))::hp) w'∧bl g' (.own id (g.top id)) v:=by
 rcases hT with⟨rfl,rfl,rfl⟩|⟨b,cap,arr,FV,rfl,hf,Ew,JH,ha,Rs,Sj,hP⟩
 ·by_cases h0:ys=[]
  ·subst h0;have hn:news=[]:=as1 (by simpa using hS.newsLen);subst hn;rw[←mu]at hS;obtain⟨g',l,R',hc⟩:=R.Tx id τ deep;exact⟨_,w,g',run_append_nothing w t tx ty e i ht hi none 0 0 (aq2 _) u hS,l.le,R',hc⟩
  ·have rU:0<ys.length:=List.length_pos_iff.2 h0;exact Dl ht hi hz mu Nq M4 R (xs:=[]) (sCap:=0) (olds:=[]) (by simp[run_firstCells_none]) (by simp) fN.nil hS hQ hd (by simpa using rU) (by simpa using Ex) id
 ·by_cases hroom:xs.length+ys.length≤cap
  ·have JD:=hS.newsLen
   have hle:xs.length*τ.size+news.length≤arr.size:=by
    rw[JD,←Nat.add_mul,Sj];exact Nat.mul_le_mul_right _ hroom
   obtain⟨a1,a2,a3⟩:=HY (P:=P) ha hle hS.one;have ac1:=hS;rw[←mu]at ac1;have hr:=run_append_room_src (P:=P) w t tx ty e i ht hi b 0 xs.length cap u ys.length news ac1 hroom (by simpa[mu]using a1) (by simpa[mu]using a2);rw[mu,Nat.zero_add,a3]at hr;have Hq:=setRow_heap w b arr (kr arr (xs.length*τ.size) news) FV (0,0) ha
   obtain⟨g',l,R',tX⟩:=R.own (id:=id) (cap:=cap) (ty:=FV) (τ:=τ) (deep:=deep) (xs:=xs++ys) (nb:=P5++Ns) hf (oZ ha _) Hq (by
     obtain⟨EO,M8⟩:=hP.cut;have hA:=EO.append (M:=news++arr.toList.drop (xs.length*τ.size+news.length)) (hQ.pre (Ix _ _ (by rw[JD]))) M8 hd
     have e:(kr arr (xs.length*τ.size) news).toList=List.take (xs.length*τ.size) arr.toList++(news++List.drop (xs.length*τ.size+news.length) arr.toList):=by
      simp[kr]
     rw[e]
     exact hA) (by simpa using hroom) (by
     have ox:(kr arr (xs.length*τ.size) news).size=arr.size:=by
      simp[kr];omega
     rw[ox,Sj])
   refine⟨_,_,g',hr,l,R', ?_⟩;rw[an9]at tX;exact tX
  ·obtain⟨EO,M8⟩:=hP.cut;refine Dl ht hi hz mu Nq M4 R (sCap:=cap) ?_ M8 EO hS hQ hd (by omega) Ex id;rw[mu];refine run_firstCells_some (P:=P) w.drew τ.size xs.length _ xs.length cap _ M8 (fun j v hj=> ?_);rw[Addr.add_lit,World.cell?_drew];exact iK ha (o:=0) _ j v (by simpa using hj)
theorem Gd {E:Env}{c:Call}(hc:c.callee= .builtin .append){s s':St}{sl:Slot}{d:Nat}(h:(dW E d (.call c)).run s=some (sl,s')):Yld E (.call c) s sl s':=by
 unfold dW at h;simp only[hc]at h;split at h
 ·rename_i t tx YZ;obtain⟨e,t1,h1,h2⟩:=AM.ah h;obtain⟨τ,t2,h3,h4⟩:=AM.ah h2;obtain⟨vs,t3,h5,h6⟩:=AM.ah h4;obtain⟨he,rfl⟩:=cn h1;obtain rfl:=wy h3;obtain⟨rfl,r1⟩:=mj h5;split at h6
  ·rename_i sc xc;obtain⟨hb,h7⟩:=bh h6;simp only[ao3]at hb;obtain⟨i,z,hi,hz,mu,Nq,_,M4⟩:=wj hb.1;unfold append at h7;obtain⟨⟨dq,ys⟩,t4,h8,h9⟩:=AM.ah h7;obtain⟨⟨dp,xs⟩,t5,xD,Bg⟩:=AM.ah h9;obtain⟨Ex,tZ⟩:=lH Bg;obtain⟨cell,t6,F2,PR⟩:=AM.ah tZ;obtain⟨rfl,rfl⟩:=ai PR;obtain⟨e1,k1⟩:=F5 h8 hb.2;obtain⟨e2,k2⟩:=Gm xD;obtain⟨gen,WC,rfl,rfl⟩:=um F2;refine⟨e2.trans e1,fun o ho B g a w R V=> ?_⟩;obtain⟨u1,u2,ea,nw,xx⟩:=Iz (r1 V) rfl;obtain⟨g1,l1,R1,c1⟩:=k1 B g w R;obtain⟨news,Ns,hS,hQ,fq⟩:=c1 u2 xx;obtain⟨g2,l2,R2,c2⟩:=k2 B g1 w R1;obtain⟨P5,hT,fp⟩:=c2 u1 (bl.mono l1.le nw);have Ub:=hQ.mono l2;have hn:xs.length+ys.length≤1099511627776:=aq4 Ex
   have Rx:∀x∈P5,x∉Ns:=by
    intro x hx hy;unfold fN at hQ;split at hQ
    ·exact fp x hx (hQ.2.2 x hy)
    ·rw[hQ.2]at hy;simp at hy
   have Z1:∀{g:Gh} {mv:Bool} {zs:List τ.den} {L:List Value} {nb:List Nat} {b:Nat} {hp:List (Nat×Obj)},fN g mv τ zs L nb→Free g hp w b→b∉nb:=by
    intro g mv zs L nb b hp hh hf hm;unfold fN at hh;split at hh
    ·exact hf.Pq (hh.2.2 b hm)
    ·rw[hh.2]at hm;simp at hm
   have main:∃g3 UK U3,Le g2 g3∧HRel B g3 t5.hp w∧Tgt g3 t5.hp w ((dp&&dq)&& !τ.flat) τ xs u1 UK∧fN g3 ((dp&&dq)&& !τ.flat) τ ys news U3∧∀x∈UK,x∉U3:=by
    by_cases hm:((dp&&dq)&& !τ.flat)=true
    ·simp only[ao3]at hm;obtain⟨⟨rfl,rfl⟩,Xq⟩:=hm;exact⟨g2,P5,Ns,Le.refl g2,R2,hT,Ub,Rx⟩
    ·have ac0:((dp&&dq)&& !τ.flat)=false:=(by simpa using hm);rw[ac0]
     by_cases hq:(dq&& !τ.flat)=true
     ·have vp:(dp&& !τ.flat)=false:=by
       revert ac0 hq
       cases dp<;>cases dq<;>cases τ.flat<;>simp
      rw[vp]at hT;obtain⟨g3,l3,R3,q3,f3⟩:=Ub.loose R2;refine⟨g3,P5,[],l3,R3, ?_,q3,fun x _ hx=>by simp at hx⟩
      rcases hT with⟨a1,a2,a3⟩|⟨b,cap,arr,FV,a1,a2,a3,a4,a5,a6,a7,a8⟩
      ·exact .inl ⟨a1,a2,a3⟩
      ·exact .inr ⟨b,cap,arr,FV,a1,f3 b (Z1 Ub a2) a2,a3,a4,a5,a6,a7,a8.DH l3⟩
     ·have RM:(dq&& !τ.flat)=false:=(by simpa using hq);rw[RM]at Ub;have ag6:Ns=[]:=Ub.2;subst ag6
      rcases hT with⟨a1,a2,a3⟩|⟨b,cap,arr,FV,a1,a2,a3,a4,a5,a6,a7,a8⟩
      ·exact⟨g2,[],[],Le.refl g2,R2, .inl ⟨a1,a2,rfl⟩,Ub,fun x hx=>by simp at hx⟩
      ·obtain⟨g3,l3,R3,q3,f3⟩:=a8.loose R2;exact⟨g3,[],[],l3,R3, .inr ⟨b,cap,arr,FV,a1,f3 b a3 a2,by simp,a4,a5,a6,a7,q3⟩,Ub.DH l3,fun x hx=>by simp at hx⟩
   obtain⟨g3,UK,U3,l3,R3,T3,Q3,d3⟩:=main;obtain⟨rfl,_⟩:=jG R3 WC;obtain⟨v,w',g4,k5,l4,R4,k6⟩:=J3 (ty:=o.type) (yw he) hi hz mu Nq M4 R3 (deep:=dp&&dq) T3 hS Q3 d3 hn (fun b hf=>Z1 Q3 hf) d;refine⟨v,w',g4, ?_,((l1.le.trans l2.le).trans l3).trans l4,R4,k6⟩;unfold execOp;rw[ho]
   have e3:c.args.map a.eval=#[u1,u2]:=by
    apply Array.ext'
    simpa using ea
   have e4:c.argTypes=#[t,tx]:=by
    apply Array.ext'
    simpa using YZ
   simp[resolve,hc,invoke,builtin,e3,e4,k5]
  ·cases h6
 ·cases h
end Go.Abs
end

section
namespace Go.Abs
def rdW (w:World):Rd:=fun b=>match w.heap[b]? with
 |some (.cells arr _ (0,0))=>some arr.toList
 |_=>none
def jq (aK:Rd)(w:World)(mv:Bool)(τ:Ty)(xs:List τ.den)(L:List Value)(nb:List Nat):Prop:=
 if mv then fe (rdW w) τ xs L nb else Els aK τ xs L 0∧nb=[]
def OwnAt (aK:Rd)(w:World)(mv:Bool)(τ:Ty)(xs:List τ.den)(us:List Value)(nb:List Nat):Prop:=
 (us=[.slice none 0 0]∧xs=[]∧nb=[])∨∃b cap arr ty mc,us=[.slice (some ⟨b,0,none⟩) xs.length cap]∧nb=b::mc∧w.heap[b]?=some (.cells arr ty (0,0))∧
   xs.length≤cap∧arr.size=cap*τ.size∧jq aK w mv τ xs arr.toList mc
def tQ (aK:Rd)(w:World)(pl:Nat×Nat)(xs:List Int)(us:List Value)(nb:List Nat):Prop:=
 (us=[.pointer none, .slice none 0 0]∧xs=[]∧nb=[])∨∃u2,us=[.pointer (some ⟨pl.1,pl.2,none⟩),u2]∧OwnAt aK w false (.int .u8) xs [u2] nb∧∀b∈nb,∃arr,w.heap[b]?=some (.cells arr AX (0,0))
def Pass (aK:Rd)(w:World):(s:Sp)→s.ty.den→Nat×Nat→List Value→List Nat→Prop
 | .un,_,_,us,nb=>us=[]∧nb=[]
 | .pr a b,x,pl,us,nb=>∃u1 u2 n1 n2,us=u1++u2∧nb=n1++n2∧Pass aK w a x.1 pl u1 n1∧Pass aK w b x.2 (pl.1,pl.2+a.size) u2 n2
 | .dC τ,x,_,us,nb=>nb=[]∧τ.one=true∧∃u,us=[u]∧Rc aK τ x [u]
 | .own τ dp,xs,_,us,nb=>OwnAt aK w (dp&& !τ.flat) τ xs us nb
 | .lnd τ dp,xs,_,us,nb=>OwnAt aK w (dp&& !τ.flat) τ xs us nb
 | .ptr wh st s,x,_,us,nb=>∃b o arr ty mc,us=[.pointer (some ⟨b,o,none⟩)]∧nb=b::mc∧w.heap[b]?=some (.cells arr ty (0,0))∧((wh=true→o=0∧arr.size=s.size∧ty=st.1)∧(wh=false→Pp st.2 ty o arr.size=true))∧o+s.size≤arr.size∧
   Pass aK w s x (b,o) ((arr.toList.drop o).take s.size) mc
 | .yK ok,x,_,us,nb=>∃b o arr ty,us=[.pointer (some ⟨b,o,none⟩)]∧w.heap[b]?=some (.cells arr ty (0,0))∧Pp ok ty o arr.size=true∧o+2≤arr.size∧tQ aK w (b,o) x ((arr.toList.drop o).take 2) nb
 | .s8,x,pl,us,nb=>tQ aK w pl x us nb
 | .err,b,_,us,nb=>nb=[]∧∃u,us=[u]∧((b=true∧u= .nilIface)∨(b=false∧∃t v,u= .iface t v))
 | .np,_,_,us,nb=>nb=[]∧us=[.pointer none]
 | .slf _ _,_,_,us,nb=>nb=[]∧∃b o,us=[.pointer (some ⟨b,o,none⟩)]
theorem jq.mono {aK cZ:Rd}(h:∀b L,aK b=some L→cZ b=some L){w:World}{mv:Bool}{τ:Ty}{xs:List τ.den}{L:List Value}{nb:List Nat}(k:jq aK w mv τ xs L nb):jq cZ w mv τ xs L nb:=by
 unfold jq at k⊢;split
 ·rename_i e;rw[as0 e]at k;exact k
 ·rename_i e;rw[ar1 e]at k;exact⟨k.1.mono h,k.2⟩
theorem OwnAt.mono {aK cZ:Rd}(h:∀b L,aK b=some L→cZ b=some L){w:World}{mv:Bool}{τ:Ty}{xs:List τ.den}{us:List Value}{nb:List Nat}(k:OwnAt aK w mv τ xs us nb):OwnAt cZ w mv τ xs us nb:=by
 rcases k with k|⟨b,cap,arr,ty,mc,e,e',ha,hl,hs,k⟩
 ·exact .inl k
 ·exact .inr ⟨b,cap,arr,ty,mc,e,e',ha,hl,hs,k.mono h⟩
theorem OwnAt.length {aK:Rd}{w:World}{mv:Bool}{τ:Ty}{xs:List τ.den}{us:List Value}{nb:List Nat}(k:OwnAt aK w mv τ xs us nb):us.length=1:=by
 rcases k with k|⟨b,cap,arr,ty,mc,e,_⟩
 ·rw[k.1];rfl
 ·rw[e];rfl
theorem tQ.mono {aK cZ:Rd}(h:∀b L,aK b=some L→cZ b=some L){w:World}{pl:Nat×Nat}{xs:List Int}{us:List Value}{nb:List Nat}(k:tQ aK w pl xs us nb):tQ cZ w pl xs us nb:=by
 rcases k with k|⟨u2,e,k⟩
 ·exact .inl k
 ·exact .inr ⟨u2,e,k.1.mono h,k.2⟩
theorem tQ.length {aK:Rd}{w:World}{pl:Nat×Nat}{xs:List Int}{us:List Value}{nb:List Nat}(k:tQ aK w pl xs us nb):us.length=2:=by
 rcases k with k|⟨u2,e,_⟩
 ·rw[k.1];rfl
 ·rw[e];rfl
theorem Pass.mono {aK cZ:Rd}(h:∀b L,aK b=some L→cZ b=some L){w:World}:∀{s:Sp}{x:s.ty.den}{pl:Nat×Nat}{us:List Value}{nb:List Nat},Pass aK w s x pl us nb→Pass cZ w s x pl us nb
 | .un,_,_,_,_,k=>k
 | .pr _ _,_,_,_,_,⟨u1,u2,n1,n2,e,e',k1,k2⟩=>⟨u1,u2,n1,n2,e,e',Pass.mono h k1,Pass.mono h k2⟩
 | .dC _,_,_,_,_,⟨e,h1,u,e',k⟩=>⟨e,h1,u,e',k.mono h⟩
 | .own _ _,_,_,_,_,k=>OwnAt.mono h k
 | .lnd _ _,_,_,_,_,k=>OwnAt.mono h k
 | .ptr _ _ _,_,_,_,_,⟨b,o,arr,ty,mc,e,e',ha,hw,hl,k⟩=>⟨b,o,arr,ty,mc,e,e',ha,hw,hl,Pass.mono h k⟩
 | .yK _,_,_,_,_,⟨b,o,arr,ty,e,ha,hk,hl,k⟩=>⟨b,o,arr,ty,e,ha,hk,hl,tQ.mono h k⟩
 | .s8,_,_,_,_,k=>tQ.mono h k
 | .err,_,_,_,_,k=>k
 | .np,_,_,_,_,k=>k
 | .slf _ _,_,_,_,_,k=>k
theorem Pass.length {aK:Rd}{w:World}:∀{s:Sp}{x:s.ty.den}{pl:Nat×Nat}{us:List Value}{nb:List Nat},Pass aK w s x pl us nb→us.length=s.size
 | .un,_,_,_,_,k=>by rw[k.1];rfl
 | .pr _ _,_,_,_,_,⟨u1,u2,n1,n2,e,e',k1,k2⟩=>by subst e;simp[Sp.size,k1.length,k2.length]
 | .dC _,_,_,_,_,⟨e,h1,u,e',k⟩=>by subst e';rfl
 | .own _ _,_,_,_,_,k=>OwnAt.length k
 | .lnd _ _,_,_,_,_,k=>OwnAt.length k
 | .ptr _ _ _,_,_,_,_,⟨b,o,arr,ty,mc,e,_⟩=>by rw[e];rfl
 | .yK _,_,_,_,_,⟨b,o,arr,ty,e,_⟩=>by rw[e];rfl
 | .s8,_,_,_,_,k=>tQ.length k
 | .err,_,_,_,_,⟨_,u,e,_⟩=>by rw[e];rfl
 | .np,_,_,_,_,k=>by rw[k.2];rfl
 | .slf _ _,_,_,_,_,⟨_,b,o,e⟩=>by rw[e];rfl
theorem HRel.congr {B:Base}{g:Gh}{hp Bb:List (Nat×Obj)}{w:World}(e:∀i,look Bb i=look hp i)(R:HRel B g hp w):HRel B g Bb w:=
 ⟨fun i=>by rw[e i];exact R.top i,fun i o h=>R.eG i o (by rw[←e i];exact h),R.aK,R.dU,R.dR,R.ji,R.frame,R.size,R.os,R.tape,R.output,R.fix⟩
theorem Dj {β:Type}(l:List (Nat×β))(n:Nat)(a b:β)(i:Nat):look ((n,a)::l) i=look ((n,a)::(n,b)::l) i:=by
 by_cases e:n=i
 ·subst e;rw[aC,aC]
 ·rw[ay _ _ e,ay _ _ e,ay _ _ e]
theorem HRel.Pa {B:Base}{g:Gh}{hp:List (Nat×Obj)}{w:World}(R:HRel B g hp w){id b:Nat}(hl:g.dn b=some (id+1))(hn:g.dU b=none)
  (ho:∀o,look hp id=some o→(∃gn,o= .dead gn)∨∃gn cs,o= .iu gn cs):
  ∃g',Lk g g'∧g'.outer=g.outer∧g'.aK=g.aK∧g'.dU=g.dU∧(∀x,x≠b→g'.dn x=g.dn x)∧g'.dn b=some 0∧HRel B g' hp w:=by
 let g':Gh:={g with dn:=fun x=>if x=b then some 0 else g.dn x}
 have hle:Le g g':=⟨fun _ _ h=>h,fun _=>aq2 _,fun _ _ _=>rfl⟩;refine⟨g',⟨hle,fun x hx=> ?_,rfl⟩,rfl,rfl,rfl,fun x hx=>by simp[g',hx],by simp[g'], ?_⟩
 ·have:x≠b:=fun e=>by subst e;rw[hl]at hx;simp at hx
  simp[g',this,hx]
 ·refine⟨R.top,fun i oi hi=> ?_,fun x L hx=> ?_,fun x L hx=> ?_,fun x hx=> ?_,R.ji,fun x hx u5 hi=> ?_,R.size,R.os,R.tape,R.output,R.fix⟩
  ·by_cases e:i=id
   ·subst e
    rcases ho oi hi with⟨gn,rfl⟩|⟨gn,cs,rfl⟩<;>trivial
   ·refine(R.eG i oi hi).tr hle (fun x hx=> ?_) rfl (gB R hi)
    have jX:x≠b:=fun e'=>by subst e';rw[hl]at hx;simp at hx;exact e hx.symm
    exact⟨by simp[g',jX,hx],rfl,rfl⟩
  ·obtain⟨a1,a2,a3⟩:=R.aK x L hx
   have jX:x≠b:=fun e'=>by subst e';rw[hl]at a1;cases a1
   exact⟨by simp[g',jX,a1],a2,a3⟩
  ·obtain⟨a1,a2⟩:=R.dU x L hx;refine⟨?_,a2⟩
   by_cases jX:x=b
   ·simp[g',jX]
   ·simpa[g',jX]using a1
  ·by_cases jX:x=b
   ·subst jX;exact R.dR x (by rw[hl];simp)
   ·exact R.dR x (by simpa[g',jX]using hx)
  ·obtain⟨f1,f2,f3⟩:=R.frame x hx u5 hi
   have jX:x≠b:=fun e'=>by subst e';rw[hl]at f1;cases f1
   exact⟨by simp[g',jX,f1],f2,f3⟩
theorem HRel.QY {B:Base}{g:Gh}{hp:List (Nat×Obj)}{w:World}(R:HRel B g hp w){b:Nat}{L:List Value}(h:g.dU b=some L):rdW w b=some L:=by
 obtain⟨_,arr,ty,a,e⟩:=R.dU b L h;unfold rdW;rw[a];simpa using e
theorem HRel.Wj {B:Base}{g:Gh}{hp:List (Nat×Obj)}{w:World}(R:HRel B g hp w){id gen:Nat}{τ:Ty}{deep dp:Bool}{xs:List τ.den}
  (h:look hp id=some (.own gen τ deep xs)) (hd:(deep|| !dp||τ.flat)=true):∃g' nb,Lk g g'∧g'.outer=g.outer∧HRel B g' ((id, .dead gen)::hp) w∧nb.Nodup∧(∀b∈nb,g'.dn b=some 0∧g.dn b≠some 0)∧
   OwnAt g'.aK w (dp&& !τ.flat) τ xs [g.cv id gen] nb:=by
 have step1:∃g1,Lk g g1∧g1.outer=g.outer∧HRel B g1 ((id, .own gen τ (deep&&dp) xs)::hp) w:=by
  by_cases e:(deep&&dp)=deep
  ·rw[e];exact⟨g,Lk.refl g,rfl,R.put h rfl (R.eG _ _ h)⟩
  ·have e':(deep&&dp)=false:=by cases deep<;>cases dp<;>simp_all
   rw[e']
   have:∃g',Lk g g'∧g'.outer=g.outer∧HRel B g' ((id, .own gen τ false xs)::hp) w:=by
    have hO:=R.eG _ _ h
    rcases hO with⟨h1,h2⟩|⟨b,cap,arr,ty,h1,h2,h3,h4,h5,h6,h7⟩
    ·exact⟨g,Lk.refl g,rfl,R.put h rfl (.inl ⟨h1,h2⟩)⟩
    ·by_cases hd:(deep&& !τ.flat)=true
     ·unfold dE at h7;rw[as0 hd]at h7;obtain⟨nb,k1,k2,k3⟩:=h7
      have hS:∀x L,nbS g nb x=some L→g.dn x=some (id+1)∧∃arr ty fr,w.heap[x]?=some (.cells arr ty fr)∧arr.toList=L:=by
       intro x L hx;unfold nbS at hx;split at hx
       ·rename_i hm;obtain⟨_,arr,ty,a,b⟩:=R.dU x L hx;exact⟨k3 x hm,arr,ty,(0,0),a,b⟩
       ·cases hx
      have Ew:b∉nb:=fun hm=>k1.mQ b hm h3
      have sG:nbS g nb b=none:=(by simp[nbS,Ew]);refine⟨_,R.Ci (fun x L hx=>(hS x L hx).1),rfl,R.Hb hS h rfl (.inr ⟨b,cap,arr,ty,h1,by simp[Gh.mR,sG,h2],by simp[Gh.mR,sG,h3],h4,h5,h6, ?_⟩)⟩;show dE _ _ _ false _ _;unfold dE;simp only[ao9,ar9,at3];refine fe.els (nb:=nb) (k1.mono fun x hx L hL=> ?_);simp[Gh.mR,nbS,hx,hL]
     ·refine⟨g,Lk.refl g,rfl,R.put h rfl (.inr ⟨b,cap,arr,ty,h1,h2,h3,h4,h5,h6, ?_⟩)⟩;unfold dE at h7⊢;rw[ar1 hd]at h7;simpa using h7
   exact this
 obtain⟨g1,l1,o1,R1⟩:=step1;have ht:=gB R h;have hO:=R1.eG _ _ (aC _ _ _);have wR:g1.cv id gen=g.cv id gen:=l1.le.cv _ _ ht
 have Rd:HRel B g1 ((id, .dead gen)::hp) w:=(R1.put (aC _ _ _) (o':= .dead gen) rfl trivial).congr fun i=>Dj _ _ _ _ i
 rcases hO with⟨h1,h2⟩|⟨b,cap,arr,ty,h1,h2,h3,h4,h5,h6,h7⟩
 ·refine⟨g1,[],l1,o1,Rd,as2,fun b hb=>by simp at hb, .inl ⟨?_,h2,rfl⟩⟩;rw[←wR,h1]
 ·rw[wR]at h1
  have nest:∃g2 mc,Lk g1 g2∧g2.outer=g1.outer∧g2.aK=g1.aK∧HRel B g2 ((id, .dead gen)::hp) w∧mc.Nodup∧(∀x∈mc,g2.dn x=some 0∧g1.dn x≠some 0)∧b∉mc∧g2.dn b=some (id+1)∧g2.dU b=none∧
    jq g2.aK w (dp&& !τ.flat) τ xs arr.toList mc:=by
   unfold dE at h7
   by_cases hc:((deep&&dp)&& !τ.flat)=true
   ·rw[as0 hc]at h7;obtain⟨nb,k1,k2,k3⟩:=h7
    have Ew:b∉nb:=fun hm=>k1.mQ b hm h3
    let g':Gh:={g1 with dn:=open Classical in fun x=>if x∈nb then some 0 else g1.dn x}
    have hle:Le g1 g':=⟨fun _ _ h=>h,fun _=>aq2 _,fun _ _ _=>rfl⟩
    have hR:HRel B g' ((id, .dead gen)::hp) w:=by
     refine⟨Rd.top,fun i oi hi=> ?_,fun x L hx=> ?_,fun x L hx=> ?_,fun x hx=> ?_,Rd.ji,fun x hx hl hi=> ?_,Rd.size,Rd.os,Rd.tape,Rd.output,Rd.fix⟩
     ·by_cases e:id=i
      ·subst e;rw[aC]at hi;injection hi with hi;subst hi;trivial
      ·refine(Rd.eG i oi hi).tr hle (fun x hx=> ?_) rfl (gB Rd hi)
       have j0:x∉nb:=fun hm=>by rw[k3 x hm]at hx;simp at hx;exact e hx
       simp[g',j0,hx]
     ·obtain⟨a1,a2,a3⟩:=Rd.aK x L hx
      have j0:x∉nb:=fun hm=>by rw[k3 x hm]at a1;cases a1
      exact⟨by simp[g',j0,a1],a2,a3⟩
     ·obtain⟨a1,a2⟩:=Rd.dU x L hx;refine⟨?_,a2⟩
      by_cases j0:x∈nb
      ·simp[g',j0]
      ·simpa[g',j0]using a1
     ·by_cases j0:x∈nb
      ·exact Rd.dR x (by rw[k3 x j0];simp)
      ·exact Rd.dR x (by simpa[g',j0]using hx)
     ·obtain⟨f1,f2,f3⟩:=Rd.frame x hx hl hi
      have j0:x∉nb:=fun hm=>by rw[k3 x hm]at f1;cases f1
      exact⟨by simp[g',j0,f1],f2,f3⟩
    refine⟨g',nb,⟨hle,fun x hx=> ?_,rfl⟩,rfl,rfl,hR,k2,fun x hx=>⟨by simp[g',hx],by rw[k3 x hx];simp⟩,Ew,by simp[g',Ew,h2],h3, ?_⟩
    ·have j0:x∉nb:=fun hm=>by rw[k3 x hm]at hx;simp at hx
     simp[g',j0,hx]
    ·have KU:(dp&& !τ.flat)=true:=by
      simp only[ao3]at hc⊢;exact⟨hc.1.2,hc.2⟩
     unfold jq;rw[as0 KU]
     exact k1.mono fun x hx L hL=>Rd.QY hL
   ·rw[ar1 hc]at h7
    have KU:(dp&& !τ.flat)=false:=by
     revert hc hd
     cases deep<;>cases dp<;>cases τ.flat<;>simp
    refine⟨g1,[],Lk.refl g1,rfl,rfl,Rd,as2,fun x hx=>by simp at hx,by simp,h2,h3, ?_⟩;unfold jq;rw[KU];simp only[ar9,at3];exact⟨h7,trivial⟩
  obtain⟨g2,mc,l2,o2,i2,R2,n1,n2,n3,n4,n5,n6⟩:=nest;obtain⟨g3,l3,o3,i3,s3,f3,z3,R3⟩:=R2.Pa n4 n5 (fun o ho=>by rw[aC]at ho;injection ho with ho;exact .inl ⟨gen,ho.symm⟩);refine⟨g3,b::mc,(l1.trans l2).trans l3,(o3.trans o2).trans o1,R3,List.nodup_cons.2 ⟨n3,n1⟩,fun x hx=> ?_, .inr ⟨b,cap,arr,ty,mc,by rw[h1],rfl,h4,h5,h6,by rw[i3];exact n6⟩⟩
  rcases ar5.1 hx with rfl|hy
  ·refine⟨z3,fun e=> ?_⟩;have:=(l1.kp x e).1;rw[h2]at this;simp at this
  ·have jX:x≠b:=fun e=>n3 (e ▸ hy)
   refine⟨by rw[f3 x jX];exact(n2 x hy).1,fun e=>(n2 x hy).2 (l1.kp x e).1⟩
def mr (hp:List (Nat×Obj))(g:Gh)(w:World):(s:Sp)→List Cell→List Value→Prop
 | .pr a b,cs,us=>mr hp g w a (cs.take a.size) (us.take a.size)∧mr hp g w b (cs.drop a.size) (us.drop a.size)
 | .lnd _ _,cs,us=>(cs=[.nil]∧us=[.slice none 0 0])∨∃id gen,cs=[.own id gen]∧us=[g.cv id gen]∧gen<g.top id∧oc (g.cv id gen)=true
 | .ptr _ _ s,cs,us=>∃id gen off bs b o arr ty L,cs=[.ptr id gen off]∧us=[.pointer (some ⟨b,o+off,none⟩)]∧look hp id=some (.iu gen (ty,bs))∧g.cv id gen= .pointer (some ⟨b,o,none⟩)∧
   w.heap[b]?=some (.cells arr ty (0,0))∧arr.toList=(g.outer id).take o++L++(g.outer id).drop (o+L.length)∧o+L.length≤(g.outer id).length∧(o=0∧(g.outer id).length=bs.length)∧
   off+s.size≤bs.length∧aG g bs L∧mr hp g w s (cut off s.size bs) ((L.drop off).take s.size)
 |_,_,_=>True
theorem mr.mono {hp Bb:List (Nat×Obj)}{g g':Gh}{w:World}(l:Le g g')(ho:∀id gn cs,look hp id=some (.iu gn cs)→look Bb id=some (.iu gn cs)∧g'.outer id=g.outer id)(ht:∀id gn cs,look hp id=some (.iu gn cs)→gn<g.top id):
  ∀{s:Sp} {cs:List Cell} {us:List Value},mr hp g w s cs us→mr Bb g' w s cs us
 | .un,_,_,_=>trivial
 | .dC _,_,_,_=>trivial
 | .own _ _,_,_,_=>trivial
 | .s8,_,_,_=>trivial
 | .yK _,_,_,_=>trivial
 | .err,_,_,_=>trivial
 | .np,_,_,_=>trivial
 | .slf _ _,_,_,_=>trivial
 | .lnd _ _,_,_, .inl h=> .inl h
 | .lnd _ _,_,_, .inr ⟨id,gen,e,e',h,Nn⟩=> .inr ⟨id,gen,e,by rw[l.cv _ _ h];exact e',ar4 h (l.top _),by rw[l.cv _ _ h];exact Nn⟩
 | .pr _ _,_,_,⟨h1,h2⟩=>⟨mr.mono l ho ht h1,mr.mono l ho ht h2⟩
 | .ptr _ _ _,_,_,⟨id,gen,off,bs,b,o,arr,ty,L,e1,e2,hl,kX,ha,hL,hle,hid,yH,hc,hr⟩=>by
  obtain⟨k1,k2⟩:=ho _ _ _ hl;exact⟨id,gen,off,bs,b,o,arr,ty,L,e1,e2,k1,(l.cv _ _ (ht _ _ _ hl)).trans kX,ha,by rw[k2];exact hL,by rw[k2];exact hle,by rw[k2];exact hid,yH,hc.mono l,mr.mono l ho ht hr⟩
def dI (g:Gh)(nb:List Nat):Prop:=nb.Nodup∧∀b∈nb,g.dn b=some 0
theorem dI.mono {g g':Gh}(l:Lk g g'){nb:List Nat}(h:dI g nb):dI g' nb:=⟨h.1,fun b hb=>(l.kp b (h.2 b hb)).1⟩
theorem dI.append {g g':Gh}{n1 n2:List Nat}(l:Lk g g')(h1:dI g n1)(h2:dI g' n2)(hf:∀b∈n2,g.dn b≠some 0):dI g' (n1++n2):=by
 refine⟨?_,fun b hb=> ?_⟩
 ·rw[as7];exact⟨h1.1,h2.1,fun x hx y hy e=>by subst e;exact hf x hy (h1.2 x hx)⟩
 ·rcases aq6.1 hb with hb|hb
  ·exact(h1.mono l).2 b hb
  ·exact h2.2 b hb
def iU (s s':St):Prop:=s'.env=s.env∧∀id gn cs,look s.hp id=some (.iu gn cs)→look s'.hp id=some (.iu gn cs)
theorem iU.refl (s:St):iU s s:=⟨rfl,fun _ _ _ h=>h⟩
theorem iU.trans {a b c:St}(h:iU a b)(k:iU b c):iU a c:=⟨k.1.trans h.1,fun i g cs hl=>k.2 i g cs (h.2 i g cs hl)⟩
theorem oM {s:St}{id:Nat}{o:Obj}(h:∀gn cs,look s.hp id≠some (.iu gn cs)):iU s {s with hp:=(id,o)::s.hp}:=
 ⟨rfl,fun i gn cs hl=>by
  by_cases e:id=i
  ·subst e;exact absurd hl (h gn cs)
  ·show look ((id,o)::s.hp) i=_
   rw[ay _ _ e];exact hl⟩
end Go.Abs
end

section
namespace Go.Abs
theorem JJ:∀(k:Nat)(c:Cell)(s:St)(xs:List Int)(s':St),(MV k c).run s=some (xs,s')→iU s s':=by
 intro k
 induction k with
 |zero=>
  intro c s xs s' h
  cases c with
  |v τ x=>cases τ<;>first|(obtain⟨rfl,rfl⟩:=ai h;exact iU.refl _)|exact nomatch h
  |np=>obtain⟨rfl,rfl⟩:=ai h;exact iU.refl _
  |nf=>exact nomatch h
  |nil=>exact nomatch h
  |own _ _=>exact nomatch h
  |ptr _ _ off=>cases off<;>exact nomatch h
  |fn _ _=>exact nomatch h
  |err _=>exact nomatch h
 |succ k ih=>
  intro c s xs s' h
  cases c with
  |v τ x=>cases τ<;>first|(obtain⟨rfl,rfl⟩:=ai h;exact iU.refl _)|exact nomatch h
  |np=>obtain⟨rfl,rfl⟩:=ai h;exact iU.refl _
  |nf=>exact nomatch h
  |nil=>exact nomatch h
  |own _ _=>exact nomatch h
  |fn _ _=>exact nomatch h
  |err _=>exact nomatch h
  |ptr id gen off=>
   cases off with
   |succ n=>exact nomatch h
   |zero=>
    simp only[MV,AM.run]at h;split at h
    ·obtain⟨hb,h'⟩:=bh h;obtain⟨ys,t,h1,h2⟩:=AM.ah h';have k1:=ih _ _ _ _ h1;simp only[AM.run]at h2;split at h2
     ·rename_i heq;simp only[AM.run,ar8,as9]at h2;obtain⟨rfl,rfl⟩:=h2;exact k1.trans (oM fun gn cs hl=>by rw[heq]at hl;cases hl)
     ·exact nomatch h2
    ·obtain⟨hb,h'⟩:=bh h;obtain⟨rfl,rfl⟩:=ai h';exact iU.refl _
    ·exact nomatch h
theorem HM {τ:Ty}{c:Cell}{s s':St}{x:τ.den}(h:(datum τ c).run s=some (x,s')):iU s s':=by
 cases τ with
 |int k=>
  cases c with
  |v τ' x'=>
   cases τ' with
   |int k'=>
    simp only[datum]at h;split at h
    ·obtain⟨rfl,rfl⟩:=ai h;exact iU.refl _
    ·exact nomatch h
   |_=>exact nomatch h
  |_=>exact nomatch h
 |bool=>
  cases c with
  |v τ' x'=>cases τ'<;>first|(obtain⟨rfl,rfl⟩:=ai h;exact iU.refl _)|exact nomatch h
  |_=>exact nomatch h
 |str=>
  cases c with
  |v τ' x'=>cases τ'<;>first|(obtain⟨rfl,rfl⟩:=ai h;exact iU.refl _)|exact nomatch h
  |_=>exact nomatch h
 |un=>cases c<;>exact nomatch h
 |pr a b=>cases c<;>exact nomatch h
 |cl=>exact JJ 4 c s x s' h
 |sl e=>
  cases c with
  |v τ' x'=>
   cases τ' with
   |sl e'=>
    simp only[datum]at h;obtain⟨_,_,rfl⟩:=jN h;exact iU.refl _
   |_=>exact nomatch h
  |nil=>obtain⟨rfl,rfl⟩:=ai h;exact iU.refl _
  |own id gen=>
   simp only[datum,AM.run]at h;split at h
   ·rename_i heq;obtain⟨hb,h'⟩:=bh h;simp only[AM.run]at h';obtain⟨_,_,rfl⟩:=jN h'
    exact oM fun gn cs hl=>by rw[heq]at hl;cases hl
   ·obtain⟨hb,h'⟩:=bh h;obtain⟨_,_,rfl⟩:=jN h';exact iU.refl _
   ·exact nomatch h
  |ptr _ _ _=>exact nomatch h
  |np=>exact nomatch h
  |nf=>exact nomatch h
  |fn _ _=>exact nomatch h
  |err _=>exact nomatch h
def iD (g:Gh)(pl:Plc)(rp:Nat×Nat):Prop:=∀id gen off,pl=some (id,gen,off)→gen<g.top id∧∃b o,g.cv id gen= .pointer (some ⟨b,o,none⟩)∧rp=(b,o+off)
theorem iD.mono {g g':Gh}(l:Le g g'){pl:Plc}{rp:Nat×Nat}(h:iD g pl rp):iD g' pl rp:=fun id gen off e=>by
 obtain⟨h1,b,o,h2,h3⟩:=h id gen off e;exact⟨ar4 h1 (l.top _),b,o,(l.cv _ _ h1).trans h2,h3⟩
theorem iD.on {g:Gh}{pl:Plc}{rp:Nat×Nat}(h:iD g pl rp)(n:Nat):iD g (pl.on n) (rp.1,rp.2+n):=fun id gen off e=>by
 unfold Plc.on at e;split at e
 ·rename_i Sm g' o'
  injection e with e;injection e with e1 e;injection e with e2 e3
  subst e1;subst e2;subst e3;obtain⟨h1,b,o,h2,h3⟩:=h _ _ _ rfl;refine⟨h1,b,o,h2, ?_⟩;rw[h3];simp[Nat.add_assoc]
 ·cases e
theorem iD.none (g:Gh)(rp:Nat×Nat):iD g none rp:=fun id gen off e=>by cases e
def AZ (sp:Sp)(pl:Plc)(cells:List Cell)(s:St)(x:sp.ty.den)(rest:List Cell)(s':St):Prop:=
 iU s s'∧(∃used,cells=used++rest∧used.length=sp.size)∧∀B g w,HRel B g s.hp w→∃g',Lk g g'∧HRel B g' s'.hp w∧∀us rp,aG g cells us→iD g pl rp→
  ∃Mf Qv nb,us=Mf++Qv∧Pass g'.aK w sp x rp Mf nb∧dI g' nb∧aG g' rest Qv∧(∀b∈nb,g.dn b≠some 0)∧mr s'.hp g' w sp (cells.take sp.size) Mf
theorem HRel.K6 {B:Base}{g:Gh}{hp:List (Nat×Obj)}{w:World}(R:HRel B g hp w){id gen:Nat}{xs:List Int}{a ag bid bg off:Nat}(h:look hp id=some (.s8 gen xs a ag bid bg off)):
  ∃g' nb,Lk g g'∧HRel B g' ((id, .dead gen)::hp) w∧nb.Nodup∧(∀b∈nb,g'.dn b=some 0∧g.dn b≠some 0)∧
   ((g.cv a ag= .pointer none∧g.cv id gen= .slice none 0 0∧xs=[]∧nb=[])∨∃bb oo,g.cv bid bg= .pointer (some ⟨bb,oo,none⟩)∧g.cv a ag= .pointer (some ⟨bb,oo+off,none⟩)∧OwnAt g'.aK w false (.int .u8) xs [g.cv id gen] nb∧∀b∈nb,∃arr,w.heap[b]?=some (.cells arr AX (0,0))):=by
 obtain⟨h1,h2,h3,h4⟩:=R.eG _ _ h;have R1:HRel B g ((id, .dead gen)::hp) w:=R.put h rfl trivial
 rcases h4 with⟨k1,k2,k3⟩|⟨bb,oo,k1,k2,⟨k3,k4⟩|⟨b,cap,arr,ty,e1,e2,e3,e4,e5,e6,e7,rfl⟩⟩
 ·exact⟨g,[],Lk.refl g,R1,as2,fun b hb=>by simp at hb, .inl ⟨k1,k2,k3,rfl⟩⟩
 ·exact⟨g,[],Lk.refl g,R1,as2,fun b hb=>by simp at hb, .inr ⟨bb,oo,k1,k2, .inl ⟨by rw[k3],k4,rfl⟩,fun b hb=>by simp at hb⟩⟩
 ·obtain⟨g2,l2,o2,i2,s2,f2,z2,R2⟩:=R1.Pa e2 e3 (fun o ho=>by rw[aC]at ho;injection ho with ho;exact .inl ⟨gen,ho.symm⟩);refine⟨g2,[b],l2,R2,by simp,fun x hx=> ?_, .inr ⟨bb,oo,k1,k2, .inr ⟨b,cap,arr,AX,[],by rw[e1],rfl,e4,e5,by simpa[Ty.size]using e6, ?_⟩,fun x hx=> ?_⟩⟩
  ·simp only[List.mem_singleton]at hx;subst hx;exact⟨z2,by rw[e2];simp⟩
  ·unfold jq;simp only[ar9,at3];exact⟨e7.flat rfl,trivial⟩
  ·simp only[List.mem_singleton]at hx;subst hx;exact⟨arr,e4⟩
theorem HRel.sZ {B:Base}{g:Gh}{hp:List (Nat×Obj)}{w:World}(R:HRel B g hp w):∀id gn cs,look hp id=some (.iu gn cs)→gn<g.top id:=fun _ _ _ h=>gB R h
theorem Kr {α:Type}{arr O L:List α}{o off n:Nat}(h:arr=O.take o++L++O.drop (o+L.length))(ho:o+L.length≤O.length)(hn:off+n≤L.length):(L.drop off).take n=(arr.drop (o+off)).take n:=by
 subst h
 apply List.ext_getElem?
 intro j;simp only[List.getElem?_take,List.getElem?_drop];split
 ·rw[ao4,List.getElem?_append_right (by simp;omega),List.getElem?_append_left (by simp;omega)]
  congr 1
  simp;omega
 ·rfl
theorem AZ.close {sp:Sp}{pl:Plc}{cells:List Cell}{s t:St}{x:sp.ty.den}{rest:List Cell}{s':St}{id gen:Nat}(h:(pM id gen).run s=some ((),t))(k:AZ sp pl cells t x rest s'):AZ sp pl cells s x rest s':=by
 obtain⟨e1,e2,e3⟩:=vL h;obtain⟨k1,k2,k3⟩:=k;refine⟨⟨k1.1.trans e1,fun i gn cs hl=>k1.2 i gn cs (e2 i gn cs hl)⟩,k2,fun B g w R=> ?_⟩;obtain⟨g1,l1,R1⟩:=e3 R;obtain⟨g2,l2,R2,c⟩:=k3 B g1 w R1;refine⟨g2,l1.trans l2,R2,fun us rp hu wN=> ?_⟩;obtain⟨u1,u2,nb,a1,a2,a3,a4,a5,a6⟩:=c us rp (hu.mono l1.le) (wN.mono l1.le);exact⟨u1,u2,nb,a1,a2,a3,a4,fun b hb e=>a5 b hb (l1.kp b e).1,a6⟩
theorem uw:∀(sp:Sp)(pl:Plc)(cells:List Cell)(s:St)(x:sp.ty.den)(rest:List Cell)(s':St),(yD sp pl cells).run s=some ((x,rest),s')→AZ sp pl cells s x rest s':=by
 intro sp
 induction sp with
 |un=>
  intro pl cells s x rest s' h;obtain⟨h1,rfl⟩:=ai h
  injection h1 with h1 h2
  subst h2;exact⟨iU.refl _,⟨[],rfl,rfl⟩,fun B g w R=>⟨g,Lk.refl g,R,fun us rp hu _=>⟨[],us,[],rfl,⟨rfl,rfl⟩,⟨as2,fun b hb=>by simp at hb⟩,hu,fun b hb=>by simp at hb,trivial⟩⟩⟩
 |pr a b vo vn=>
  intro pl cells s x rest s' h;obtain⟨⟨p1,p2⟩,t,h1,h2⟩:=AM.ah h;obtain⟨⟨q1,q2⟩,t2,h3,h4⟩:=AM.ah h2;obtain⟨h5,rfl⟩:=ai h4
  injection h5 with h5 h6
  subst h5;subst h6;obtain⟨ka,⟨ca,ea,la⟩,sa⟩:=vo _ _ _ _ _ _ h1;obtain⟨kb,⟨cb,eb,lb⟩,sb⟩:=vn _ _ _ _ _ _ h3;have eb:p2=cb++rest:=eb;refine⟨ka.trans kb,⟨ca++cb,by rw[ea,eb,ao4],by simp[la,lb,Sp.size]⟩,fun B g w R=> ?_⟩;obtain⟨g1,l1,R1,c1⟩:=sa B g w R;obtain⟨g2,l2,R2,c2⟩:=sb B g1 w R1;refine⟨g2,l1.trans l2,R2,fun us rp hu wN=> ?_⟩;obtain⟨u1,u2,n1,rfl,P1,O1,r1,f1,L1⟩:=c1 us rp hu wN;obtain⟨u3,u4,n2,rfl,P2,O2,r2,f2,L2⟩:=c2 u2 (rp.1,rp.2+a.size) r1 ((wN.mono l1.le).on a.size);have oD:=P1.length;have ox:=P2.length;refine⟨u1++u3,u4,n1++n2,by simp,⟨u1,u3,n1,n2,rfl,rfl,P1.mono l2.le.aK,P2⟩,dI.append l2 O1 O2 f2,r2,fun b hb=> ?_, ?_⟩
  ·rcases aq6.1 hb with hb|hb
   ·exact f1 b hb
   ·exact fun e=>f2 b hb (l1.kp b e).1
  ·have e1:((cells.take (a.size+b.size)).take a.size)=cells.take a.size:=by rw[List.take_take];congr 1;omega
   have e2:((cells.take (a.size+b.size)).drop a.size)=p2.take b.size:=by
    rw[ea,←la,List.drop_take,List.drop_left]
    congr 1
    omega
   have e3:(u1++u3).take a.size=u1:=by rw[←oD];simp
   have e4:(u1++u3).drop a.size=u3:=by rw[←oD];simp
   show mr _ _ _ a ((cells.take (a.size+b.size)).take a.size) ((u1++u3).take a.size)∧mr _ _ _ b ((cells.take (a.size+b.size)).drop a.size) ((u1++u3).drop a.size);rw[e1,e2,e3,e4];exact⟨L1.mono l2.le (fun id gn cs hl=>⟨kb.2 id gn cs hl,by rw[l2.out]⟩) R1.sZ,L2⟩
 |dC τ=>
  intro pl cells s x rest s' h
  cases cells with
  |nil=>exact nomatch h
  |cons c cs=>
   obtain⟨y,t,h1,h2⟩:=AM.ah h;obtain⟨h3,rfl⟩:=ai h2
   injection h3 with h3 h4
   subst h3;subst h4;refine⟨HM h1,⟨[c],rfl,rfl⟩,fun B g w R=> ?_⟩;obtain⟨g',l,R',hd⟩:=(Bu τ c _ _ _ h1).2 B g w R;refine⟨g',l,R',fun us rp hu _=> ?_⟩;obtain⟨u,r,rfl,nw,hr⟩:=hu;obtain⟨o1,o2⟩:=hd u nw;exact⟨[u],r,[],rfl,⟨rfl,o1,u,rfl,o2⟩,⟨as2,fun b hb=>by simp at hb⟩,hr.mono l.le,fun b hb=>by simp at hb,trivial⟩
 |own τ dp=>
  intro pl cells s x rest s' h
  cases cells with
  |nil=>exact nomatch h
  |cons c cs=>
   cases c with
   |nil=>
    obtain⟨h3,rfl⟩:=ai h
    injection h3 with h3 h4
    subst h3;subst h4;refine⟨iU.refl _,⟨[.nil],rfl,rfl⟩,fun B g w R=>⟨g,Lk.refl g,R,fun us rp hu _=> ?_⟩⟩;obtain⟨u,r,rfl,nw,hr⟩:=hu;have nw:_=_:=nw;subst nw;exact⟨_,r,[],rfl, .inl ⟨rfl,rfl,rfl⟩,⟨as2,fun b hb=>by simp at hb⟩,hr,fun b hb=>by simp at hb,trivial⟩
   |own id gen=>
    obtain⟨u0,s0,yJ,h⟩:=AM.ah h;refine AZ.close yJ ?_;simp only[AM.run]at h;split at h
    ·rename_i g0 τ' deep xs heq;obtain⟨hb,h'⟩:=bh h;simp only[ao3]at hb;obtain rfl:=beq_eq hb.1;simp only[AM.run]at h';obtain⟨ys,t,h1,h2⟩:=AM.ah h';obtain⟨h3,rfl⟩:=ai h2
     injection h3 with h3 h4
     subst h3;subst h4;obtain⟨ee,hx,rfl⟩:=jN h1;subst ee;subst hx;refine⟨oM (fun gn cs hl=>by rw[heq]at hl;cases hl),⟨[.own id g0],rfl,rfl⟩,fun B g w R=> ?_⟩;obtain⟨g',nb,l,_,R',hn,hp,hP⟩:=R.Wj heq hb.2;refine⟨g',l,R',fun us rp hu _=> ?_⟩;obtain⟨u,r,rfl,nw,hr⟩:=hu;exact⟨[u],r,nb,rfl,by rw[nw.2.1];exact hP,⟨hn,fun b hb=>(hp b hb).1⟩,hr.mono l.le,fun b hb=>(hp b hb).2,trivial⟩
    ·cases h
   |_=>exact nomatch h
 |lnd τ dp=>
  intro pl cells s x rest s' h
  cases cells with
  |nil=>exact nomatch h
  |cons c cs=>
   cases c with
   |nil=>
    obtain⟨h3,rfl⟩:=ai h
    injection h3 with h3 h4
    subst h3;subst h4;refine⟨iU.refl _,⟨[.nil],rfl,rfl⟩,fun B g w R=>⟨g,Lk.refl g,R,fun us rp hu _=> ?_⟩⟩;obtain⟨u,r,rfl,nw,hr⟩:=hu;have nw:_=_:=nw;subst nw;exact⟨_,r,[],rfl, .inl ⟨rfl,rfl,rfl⟩,⟨as2,fun b hb=>by simp at hb⟩,hr,fun b hb=>by simp at hb, .inl ⟨rfl,rfl⟩⟩
   |own id gen=>
    obtain⟨u0,s0,yJ,h⟩:=AM.ah h;refine AZ.close yJ ?_;simp only[AM.run]at h;split at h
    ·rename_i g0 τ' deep xs heq;obtain⟨hb,h'⟩:=bh h;simp only[ao3]at hb;obtain rfl:=beq_eq hb.1;simp only[AM.run]at h';obtain⟨ys,t,h1,h2⟩:=AM.ah h';obtain⟨h3,rfl⟩:=ai h2
     injection h3 with h3 h4
     subst h3;subst h4;obtain⟨ee,hx,rfl⟩:=jN h1;subst ee;subst hx;refine⟨oM (fun gn cs hl=>by rw[heq]at hl;cases hl),⟨[.own id g0],rfl,rfl⟩,fun B g w R=> ?_⟩;obtain⟨g',nb,l,_,R',hn,hp,hP⟩:=R.Wj heq hb.2
     have R2:HRel B g' ((id, .iu g0 (0,[]))::s0.hp) w:=(R'.put (aC _ _ _) (o':= .iu g0 (0,[])) rfl trivial).congr fun i=>Dj _ _ _ _ i
     refine⟨g',l,R2,fun us rp hu _=> ?_⟩;obtain⟨u,r,rfl,nw,hr⟩:=hu;refine⟨[u],r,nb,rfl,by rw[nw.2.1];exact hP,⟨hn,fun b hb=>(hp b hb).1⟩,hr.mono l.le,fun b hb=>(hp b hb).2, .inr ⟨id,g0,rfl, ?_,ar4 nw.1 (l.le.top _), ?_⟩⟩
     ·rw[nw.2.1,show g'.cv id g0=g.cv id g0 from l.le.cv _ _ nw.1]
     ·rw[show g'.cv id g0=g.cv id g0 from l.le.cv _ _ nw.1,←nw.2.1];exact nw.2.2
    ·cases h
   |_=>exact nomatch h
 |ptr wh st sp ih=>
  intro pl cells s x rest s' h
  cases cells with
  |nil=>exact nomatch h
  |cons c cs=>
   cases c with
   |ptr id gen off=>
    simp only[yD,AM.run]at h;split at h
    ·rename_i g0 bt bs heq;obtain⟨hb,h'⟩:=bh h;simp only[ao3]at hb;obtain rfl:=beq_eq hb.1.1;have yH:=aq4 hb.2;simp only[AM.run]at h';obtain⟨⟨y,rst⟩,t,h1,h2⟩:=AM.ah h';obtain⟨h3,rfl⟩:=ai h2
     injection h3 with h3 h4
     subst h3;subst h4;obtain⟨k1,⟨used,eu,lu⟩,hs⟩:=ih _ _ _ _ _ _ h1
     have Wo:iU s {s with hp:=(id, .iu g0 (bt,bs))::s.hp}:=oM fun gn cs hl=>by rw[heq]at hl;cases hl
     refine⟨Wo.trans k1,⟨[.ptr id g0 off],rfl,rfl⟩,fun B g w R=> ?_⟩;have hO:=R.eG _ _ heq;obtain⟨b,o,arr,ty,L,Jz,UZ,Vk,Vx,WR,Y6,Zl,XG,RV⟩:=hO;have RV:ty=bt:=RV;subst RV;have ht:=gB R heq;have R1:HRel B g ((id, .iu g0 (ty,bs))::s.hp) w:=R.put heq rfl trivial;obtain⟨g2,l2,o2,i2,s2,f2,z2,R2⟩:=R1.Pa UZ.1 UZ.2 (fun o ho=>by rw[aC]at ho;injection ho with ho;exact .inr ⟨g0,(ty,bs),ho.symm⟩);obtain⟨g3,l3,R3,c3⟩:=hs B g2 w R2;have Vh:=l2.trans l3;refine⟨g3,Vh,R3,fun us rp hu _=> ?_⟩;obtain⟨u,r,rfl,nw,hr⟩:=hu;obtain⟨_,b1,o1,e1,rfl⟩:=nw;rw[Jz]at e1
     injection e1 with e1;injection e1 with e1;injection e1 with e1 e2
     subst e1;subst e2;have ab8:L.length=bs.length:=Vx.length;have Hn:aG g2 (cut off sp.size bs) ((L.drop off).take sp.size):=((Vx.mono l2.le).drop off).take sp.size
     have Vd:iD g2 (some (id,g0,off)) (b,o+off):=fun Sm P3 Pv e=>by
      injection e with e;injection e with e1 e;injection e with e2 e3
      subst e1;subst e2;subst e3;exact⟨ar4 ht (l2.le.top _),b,o,(l2.le.cv _ _ ht).trans Jz,rfl⟩
     obtain⟨u1,u2,n1,Vn,P1,O1,r1,f1,al6⟩:=c3 _ (b,o+off) Hn Vd;have XI:=P1.length
     have xx:u2=[]:=by
      have:=congrArg List.length Vn;simp only[ar2,as3,an9,XI]at this;exact as1 (by omega)
     subst xx;rw[aq7]at Vn;have Qf:(L.drop off).take sp.size=(arr.toList.drop (o+off)).take sp.size:=Kr WR Y6 (by omega);have JH:g3.dn b=some 0:=(l3.kp b z2).1
     have ZM:arr.size=(g.outer id).length:=by
      have:arr.toList.length=(g.outer id).length:=by
       rw[WR];simp only[an9,ar2,as3];omega
      simpa using this
     have ac8:=Zl;have am3:(g.outer id).length=bs.length:=XG;refine⟨[_],r,b::n1,rfl,⟨b,o+off,arr,ty,n1,rfl,rfl,Vk,⟨fun hw=> ?_,fun hw=> ?_⟩, ?_, ?_⟩,⟨List.nodup_cons.2 ⟨fun hm=>f1 b hm z2,O1.1⟩,fun x hx=> ?_⟩,hr.mono Vh.le,fun x hx=> ?_, ?_⟩
     ·subst hw;have:=hb.1.2.1;simp only[aq3,ap0,ao3]at this;have a1:=beq_eq this.1.1;have a2:=beq_eq this.1.2;have a3:=beq_eq this.2;exact⟨by omega,by omega,a3⟩
     ·subst hw;have:=hb.1.2.2;rw[ap0]at this;rw[show o+off=off by omega,show arr.size=bs.length by omega];exact this
     ·omega
     ·rw[←Qf,Vn];exact P1
     ·rcases ar5.1 hx with rfl|hy
      ·exact JH
      ·exact O1.2 x hy
     ·rcases ar5.1 hx with rfl|hy
      ·rw[UZ.1];simp
      ·exact fun e=>f1 x hy (l2.kp x e).1
     ·refine⟨id,g0,off,bs,b,o,arr,ty,L,rfl,rfl,k1.2 id g0 (ty,bs) (aC _ _ _),(Vh.le.cv _ _ ht).trans Jz,Vk,by rw[Vh.out];exact WR,by rw[Vh.out];exact Y6,by rw[Vh.out];exact⟨ac8,am3⟩,yH,Vx.mono Vh.le, ?_⟩
      have yJ:cut off sp.size bs=(cut off sp.size bs).take sp.size:=by unfold cut;rw[List.take_take,Nat.min_self]
      rw[yJ,Vn];exact al6
    ·cases h
   |_=>exact nomatch h
 |yK ok=>
  intro pl cells s x rest s' h
  cases cells with
  |nil=>exact nomatch h
  |cons c cs=>
   cases c with
   |ptr id gen off=>
    simp only[yD,AM.run]at h;split at h
    ·rename_i g0 bt bs heq;obtain⟨hb,h'⟩:=bh h;simp only[ao3]at hb;obtain rfl:=beq_eq hb.1.1;have yH:=aq4 hb.2;have Qk:=hb.1.2
     have place:∀{B g w},HRel B g s.hp w→∀{u},bl g (.ptr id g0 off) u→∃b arr,u= .pointer (some ⟨b,off,none⟩)∧g.cv id g0= .pointer (some ⟨b,0,none⟩)∧w.heap[b]?=some (.cells arr bt (0,0))∧arr.size=bs.length∧
       aG g (cut off 2 bs) ((arr.toList.drop off).take 2):=by
      intro B g w R u hu;obtain⟨b,o,arr,ty,L,Jz,UZ,Vk,Vx,WR,Y6,Zl,XG,RV⟩:=R.eG _ _ heq;have RV:ty=bt:=RV;subst RV;have XG:(g.outer id).length=bs.length:=XG;subst Zl;have ab8:L.length=bs.length:=Vx.length
      have e5:arr.toList=L:=by
       rw[WR,List.take_zero,List.nil_append,List.drop_eq_nil_of_le (by omega),aq7]
      obtain⟨_,b1,o1,e1,rfl⟩:=hu;rw[Jz]at e1
      injection e1 with e1;injection e1 with e1;injection e1 with e1 e2
      subst e1;subst e2;refine⟨b,arr,by rw[Nat.zero_add],Jz,Vk,by rw[←Array.length_toList,e5,ab8], ?_⟩;rw[e5];exact(Vx.drop off).take 2
     split at h'
     ·rename_i hc;obtain⟨h3,rfl⟩:=ai h'
      injection h3 with h3 h4
      subst h3;subst h4;refine⟨iU.refl _,⟨[_],rfl,rfl⟩,fun B g w R=>⟨g,Lk.refl g,R,fun us rp hu _=> ?_⟩⟩;obtain⟨u,r,rfl,nw,hr⟩:=hu;obtain⟨b,arr,rfl,kX,ha,hs,Nf⟩:=place R nw;rw[hc]at Nf;obtain⟨u1,r1,e1,k1,u2,r2,e2,k2,e3⟩:=Nf;have k1:_=_:=k1;have k2:_=_:=k2;have e3:_=_:=e3;subst k1;subst k2;subst e3;subst e2;refine⟨[_],r,[],rfl,⟨b,off,arr,bt,rfl,ha,by rw[hs];exact Qk,by omega, ?_⟩,⟨as2,fun b hb=>by simp at hb⟩,hr,fun b hb=>by simp at hb,trivial⟩;rw[e1];exact .inl ⟨rfl,rfl,rfl⟩
     ·rename_i a ag Zp Ww hc;simp only[AM.run]at h';split at h'
      ·rename_i g2 xs a' W8 bid bg off2 Qa;obtain⟨zW,Z6⟩:=bh h';simp only[ao3]at zW;obtain rfl:=beq_eq zW.1.1.1;obtain rfl:=beq_eq zW.1.1.2;obtain rfl:=beq_eq zW.1.2;obtain rfl:=beq_eq zW.2.1.1;obtain rfl:=beq_eq zW.2.1.2;obtain rfl:=beq_eq zW.2.2;simp only[AM.run,ar8,as9]at Z6;obtain⟨⟨rfl,rfl⟩,rfl⟩:=Z6;refine⟨oM (fun gn cs hl=>by rw[Qa]at hl;cases hl),⟨[_],rfl,rfl⟩,fun B g w R=> ?_⟩;obtain⟨g',nb,l,R',hn,hp,hP⟩:=R.K6 Qa;refine⟨g',l,R',fun us rp hu wN=> ?_⟩;obtain⟨u,r,rfl,nw,hr⟩:=hu;obtain⟨b,arr,rfl,kX,ha,hs,Nf⟩:=place R nw;rw[hc]at Nf;obtain⟨u1,r1,e1,k1,u2,r2,e2,k2,e3⟩:=Nf;have e3:_=_:=e3;subst e3;subst e2;refine⟨[_],r,nb,rfl,⟨b,_,arr,bt,rfl,ha,by rw[hs];exact Qk,by omega, ?_⟩,⟨hn,fun b hb=>(hp b hb).1⟩,hr.mono l.le,fun b hb=>(hp b hb).2,trivial⟩;rw[e1]
       rcases hP with⟨q1,q2,q3,q4⟩|⟨bb,oo,q1,q2,q3⟩
       ·exact .inl ⟨by rw[k1.2.1,k2.2.1,q1,q2],q3,q4⟩
       ·rw[kX]at q1
        injection q1 with q1;injection q1 with q1;injection q1 with q1 q4
        subst q1;subst q4;exact .inr ⟨u2,by rw[k1.2.1,q2,Nat.zero_add],by rw[k2.2.1];exact q3⟩
      ·cases h'
     ·cases h'
    ·cases h
   |_=>exact nomatch h
 |s8=>
  intro pl cells s x rest s' h
  cases cells with
  |nil=>exact nomatch h
  |cons c cs=>
   cases cs with
   |nil=>cases c<;>exact nomatch h
   |cons c2 cs=>
    cases c with
    |np=>
     cases c2 with
     |nil=>
      obtain⟨h3,rfl⟩:=ai h
      injection h3 with h3 h4
      subst h3;subst h4;refine⟨iU.refl _,⟨[.np, .nil],rfl,rfl⟩,fun B g w R=>⟨g,Lk.refl g,R,fun us rp hu _=> ?_⟩⟩;obtain⟨u,r,rfl,nw,u',r',rfl,xx,hr⟩:=hu;have nw:_=_:=nw;have xx:_=_:=xx;subst nw;subst xx;exact⟨[_,_],r',[],rfl, .inl ⟨rfl,rfl,rfl⟩,⟨as2,fun b hb=>by simp at hb⟩,hr,fun b hb=>by simp at hb,trivial⟩
     |_=>exact nomatch h
    |own a ag=>
     cases c2 with
     |own id gen=>
      simp only[yD,AM.run]at h;split at h
      ·rename_i g0 xs a' W8 bid bg off heq;obtain⟨hb,h'⟩:=bh h;simp only[ao3]at hb;obtain rfl:=beq_eq hb.1.1.1;obtain rfl:=beq_eq hb.1.1.2;obtain rfl:=beq_eq hb.1.2;simp only[AM.run,ar8,as9]at h';obtain⟨⟨rfl,rfl⟩,rfl⟩:=h';refine⟨oM (fun gn cs hl=>by rw[heq]at hl;cases hl),⟨[_,_],rfl,rfl⟩,fun B g w R=> ?_⟩;obtain⟨g',nb,l,R',hn,hp,hP⟩:=R.K6 heq;refine⟨g',l,R',fun us rp hu wN=> ?_⟩;obtain⟨u,r,rfl,nw,u',r',rfl,xx,hr⟩:=hu;refine⟨[u,u'],r',nb,rfl, ?_,⟨hn,fun b hb=>(hp b hb).1⟩,hr.mono l.le,fun b hb=>(hp b hb).2,trivial⟩
       rcases hP with⟨k1,k2,k3,k4⟩|⟨bb,oo,k1,k2,k3⟩
       ·exact .inl ⟨by rw[nw.2.1,xx.2.1,k1,k2],k3,k4⟩
       ·have ak4:pl=some (bid,bg,off):=by
         have:=hb.2;unfold Plc.is at this;split at this
         ·simp only[ao3]at this;rw[beq_eq this.1.1,beq_eq this.1.2,beq_eq this.2]
         ·cases this
        obtain⟨_,b',o',q1,q2⟩:=wN _ _ _ ak4;rw[k1]at q1
        injection q1 with q1;injection q1 with q1;injection q1 with q1 q3
        subst q1;subst q3;refine .inr ⟨u', ?_,by rw[xx.2.1];exact k3⟩;rw[nw.2.1,k2,q2]
      ·cases h
     |_=>exact nomatch h
    |_=>exact nomatch h
 |err=>
  intro pl cells s x rest s' h
  cases cells with
  |nil=>exact nomatch h
  |cons c cs=>
   cases c with
   |err b=>
    obtain⟨h3,rfl⟩:=ai h
    injection h3 with h3 h4
    subst h3;subst h4;refine⟨iU.refl _,⟨[_],rfl,rfl⟩,fun B g w R=>⟨g,Lk.refl g,R,fun us rp hu _=> ?_⟩⟩;obtain⟨u,r,rfl,nw,hr⟩:=hu;exact⟨[u],r,[],rfl,⟨rfl,u,rfl,nw⟩,⟨as2,fun b hb=>by simp at hb⟩,hr,fun b hb=>by simp at hb,trivial⟩
   |_=>exact nomatch h
 |np=>
  intro pl cells s x rest s' h
  cases cells with
  |nil=>exact nomatch h
  |cons c cs=>
   cases c with
   |np=>
    obtain⟨h3,rfl⟩:=ai h
    injection h3 with h3 h4
    subst h4;refine⟨iU.refl _,⟨[_],rfl,rfl⟩,fun B g w R=>⟨g,Lk.refl g,R,fun us rp hu _=> ?_⟩⟩;obtain⟨u,r,rfl,nw,hr⟩:=hu;have nw:_=_:=nw;subst nw;exact⟨_,r,[],rfl,⟨rfl,rfl⟩,⟨as2,fun b hb=>by simp at hb⟩,hr,fun b hb=>by simp at hb,trivial⟩
   |_=>exact nomatch h
 |slf f m=>
  intro pl cells s x rest s' h
  cases cells with
  |nil=>exact nomatch h
  |cons c cs=>
   cases c with
   |ptr id gen off=>
    obtain⟨_,h⟩:=bh h;obtain⟨h3,rfl⟩:=ai h
    injection h3 with h3 h4
    subst h4;refine⟨iU.refl _,⟨[_],rfl,rfl⟩,fun B g w R=>⟨g,Lk.refl g,R,fun us rp hu _=> ?_⟩⟩;obtain⟨u,r,rfl,nw,hr⟩:=hu;obtain⟨_,b,o,_,rfl⟩:=nw;exact⟨_,r,[],rfl,⟨rfl,_,_,rfl⟩,⟨as2,fun b hb=>by simp at hb⟩,hr,fun b hb=>by simp at hb,trivial⟩
   |_=>exact nomatch h
end Go.Abs
end

section
namespace Go.Abs
def nr (aK:Rd)(w0 w:World):(s:Sp)→s.ty.den→Nat×Nat→List Value→List Value→List Nat→Prop
 | .pr a b,x,pl,old,new,nb=>∃u1 u2 n1 n2,new=u1++u2∧nb=n1++n2∧nr aK w0 w a x.1 pl (old.take a.size) u1 n1∧nr aK w0 w b x.2 (pl.1,pl.2+a.size) (old.drop a.size) u2 n2
 | .lnd τ dp,xs,_,old,new,nb=>new=old∧OwnAt aK w (dp&& !τ.flat) τ xs new nb
 | .ptr _ _ s,x,_,old,new,nb=>∃b o ku EN arr L mc,old=[.pointer (some ⟨b,o,none⟩)]∧new=old∧nb=b::mc∧w0.heap[b]?=some (.cells ku EN (0,0))∧w.heap[b]?=some (.cells arr EN (0,0))∧
   arr.toList=ku.toList.take o++L++ku.toList.drop (o+L.length)∧o+L.length≤ku.toList.length∧L.length=s.size∧nr aK w0 w s x (b,o) ((ku.toList.drop o).take s.size) L mc
 |s,x,pl,_,new,nb=>Pass aK w s x pl new nb
theorem nr.length {aK:Rd}{w0 w:World}:∀{s:Sp}{x:s.ty.den}{pl:Nat×Nat}{old new:List Value}{nb:List Nat},nr aK w0 w s x pl old new nb→new.length=s.size
 | .un,_,pl,_,_,_,k=>Pass.length (s:= .un) (x:=()) (pl:=pl) k
 | .pr _ _,_,_,_,_,_,⟨u1,u2,n1,n2,e,_,k1,k2⟩=>by subst e;simp[Sp.size,nr.length k1,nr.length k2]
 | .dC _,x,pl,_,_,_,k=>Pass.length (s:= .dC _) (x:=x) (pl:=pl) k
 | .own _ _,x,pl,_,_,_,k=>Pass.length (s:= .own _ _) (x:=x) (pl:=pl) k
 | .lnd _ _,x,_,_,_,_,k=>OwnAt.length k.2
 | .s8,x,pl,_,_,_,k=>Pass.length (s:= .s8) (x:=x) (pl:=pl) k
 | .yK _,x,pl,_,_,_,k=>Pass.length (s:= .yK _) (x:=x) (pl:=pl) k
 | .ptr _ _ _,_,_,_,_,_,⟨b,o,ku,EN,arr,L,mc,e,e',_⟩=>by rw[e',e];rfl
 | .err,x,pl,_,_,_,k=>Pass.length (s:= .err) (x:=x) (pl:=pl) k
 | .np,_,pl,_,_,_,k=>Pass.length (s:= .np) (x:=()) (pl:=pl) k
 | .slf f m,_,pl,_,_,_,k=>Pass.length (s:= .slf f m) (x:=()) (pl:=pl) k
theorem nr.mono {aK cZ:Rd}(h:∀b L,aK b=some L→cZ b=some L){w0 w:World}:∀{s:Sp}{x:s.ty.den}{pl:Nat×Nat}{old new:List Value}{nb:List Nat},nr aK w0 w s x pl old new nb→nr cZ w0 w s x pl old new nb
 | .un,_,_,_,_,_,k=>k
 | .pr _ _,_,_,_,_,_,⟨u1,u2,n1,n2,e,e',k1,k2⟩=>⟨u1,u2,n1,n2,e,e',nr.mono h k1,nr.mono h k2⟩
 | .dC _,x,pl,_,_,_,k=>Pass.mono h (s:= .dC _) (x:=x) (pl:=pl) k
 | .own _ _,x,pl,_,_,_,k=>Pass.mono h (s:= .own _ _) (x:=x) (pl:=pl) k
 | .lnd _ _,_,_,_,_,_,k=>⟨k.1,OwnAt.mono h k.2⟩
 | .s8,x,pl,_,_,_,k=>Pass.mono h (s:= .s8) (x:=x) (pl:=pl) k
 | .yK _,x,pl,_,_,_,k=>Pass.mono h (s:= .yK _) (x:=x) (pl:=pl) k
 | .ptr _ _ _,_,_,_,_,_,⟨b,o,ku,EN,arr,L,mc,e,e',e2,a0,a1,hL,hl,hs,k⟩=>⟨b,o,ku,EN,arr,L,mc,e,e',e2,a0,a1,hL,hl,hs,nr.mono h k⟩
 | .err,_,_,_,_,_,k=>k
 | .np,_,_,_,_,_,k=>k
 | .slf _ _,_,_,_,_,_,k=>k
structure After (aK:Rd)(w:World)(nb:List Nat)(cZ:Rd)(w':World)(mc:List Nat):Prop where
 mono:∀b L,aK b=some L→cZ b=some L
 cells:∀b L,cZ b=some L→∃arr ty fr,w'.heap[b]?=some (.cells arr ty fr)∧arr.toList=L
 same:∀b,b<w.heap.size→b∉nb→aK b=none→w'.heap[b]?=w.heap[b]?∧cZ b=none
 nodup:mc.Nodup
 W7:∀b∈mc,cZ b=none∧(b∈nb∨w.heap.size≤b)∧b<w'.heap.size
 size:w.heap.size≤w'.heap.size
 os:w'.os=w.os
 tape:w'.tape=w.tape
 output:w'.output=w.output
 fix:∀b L,aK b=some L→w'.heap[b]?=w.heap[b]?
open Classical in
noncomputable def Gh.after (g:Gh)(nb:List Nat)(cZ:Rd)(mc:List Nat):Gh:=
 {g with aK:=cZ,dn:=fun x=>if x∈mc then some 0 else if x∈nb then none else g.dn x,dU:=fun x=>if x∈mc∨x∈nb then none else g.dU x}
theorem HRel.after {B:Base}{g:Gh}{hp:List (Nat×Obj)}{w w':World}(R:HRel B g hp w){nb mc:List Nat}{cZ:Rd}(vp:dI g nb)(A:After g.aK w nb cZ w' mc):
  Le g (g.after nb cZ mc)∧HRel B (g.after nb cZ mc) hp w'∧dI (g.after nb cZ mc) mc∧∀b∈mc,(g.after nb cZ mc).dU b=none:=by
 have hle:Le g (g.after nb cZ mc):=⟨A.mono,fun _=>aq2 _,fun _ _ _=>rfl⟩
 have old:∀b,b<w.heap.size→b∉nb→b∉mc:=fun b h1 h2 h3=>by
  rcases(A.W7 b h3).2.1 with h|h
  ·exact h2 h
  ·omega
 refine⟨hle,⟨R.top,fun i o hi=> ?_,fun b L h=> ?_,fun b L h=> ?_,fun b h=> ?_,fun b L h=>A.mono _ _ (R.ji b L h),fun b hb hl hi=> ?_,Nat.le_trans R.size A.size,A.os.trans R.os,A.tape.trans R.tape,A.output.trans R.output,fun b L h=>(A.fix b L (R.ji b L h)).trans (R.fix b L h)⟩,⟨A.nodup,fun b hb=>by simp[Gh.after,hb]⟩,fun b hb=>by simp[Gh.after,hb]⟩
 ·refine(R.eG i o hi).tr hle (fun b hb=> ?_) rfl (gB R hi);have h1:=R.dR b (by rw[hb];simp)
  have h2:b∉nb:=fun hm=>by rw[vp.2 b hm]at hb;simp at hb
  have h3:=old b h1 h2
  have h4:g.aK b=none:=by
   cases hi:g.aK b with
   |none=>rfl
   |some L=>have:=(R.aK b L hi).1;rw[hb]at this;cases this
  exact⟨by simp[Gh.after,h2,h3,hb],by simp[Gh.after,h2,h3],(A.same b h1 h2 h4).1⟩
 ·have h':cZ b=some L:=h
  have h3:b∉mc:=fun hm=>by rw[(A.W7 b hm).1]at h';cases h'
  refine⟨?_, ?_,A.cells b L h'⟩
  ·by_cases h2:b∈nb
   ·simp[Gh.after,h3,h2]
   ·simp only[Gh.after,h3,h2,at3]
    by_cases h1:b<w.heap.size
    ·cases hi:g.aK b with
     |none=>rw[(A.same b h1 h2 hi).2]at h';cases h'
     |some L'=>exact(R.aK b L' hi).1
    ·cases hl:g.dn b with
     |none=>rfl
     |some x=>exact absurd (R.dR b (by rw[hl];simp)) h1
  ·by_cases h2:b∈nb
   ·simp[Gh.after,h2]
   ·simp only[Gh.after,h3,h2,or_self,at3]
    by_cases h1:b<w.heap.size
    ·cases hi:g.aK b with
     |none=>rw[(A.same b h1 h2 hi).2]at h';cases h'
     |some L'=>exact(R.aK b L' hi).2.1
    ·cases hl:g.dU b with
     |none=>rfl
     |some x=>exact absurd (R.dR b (R.dU b x hl).1) h1
 ·by_cases Hm:b∈mc∨b∈nb
  ·simp[Gh.after,Hm]at h
  ·have hn:g.dU b=some L:=by simpa[Gh.after,Hm]using h
   rw[not_or]at Hm;obtain⟨a1,arr,ty,a2,a3⟩:=R.dU b L hn
   have h4:g.aK b=none:=by
    cases hi:g.aK b with
    |none=>rfl
    |some L=>exact absurd (R.aK b L hi).1 a1
   exact⟨by simp[Gh.after,Hm.1,Hm.2,a1],arr,ty,((A.same b (R.dR b a1) Hm.2 h4).1).trans a2,a3⟩
 ·by_cases h3:b∈mc
  ·exact(A.W7 b h3).2.2
  ·by_cases h2:b∈nb
   ·simp[Gh.after,h3,h2]at h
   ·exact ar4 (R.dR b (by simpa[Gh.after,h3,h2]using h)) A.size
 ·obtain⟨f1,f2,f3⟩:=R.frame b hb hl hi
  have h2:b∉nb:=fun hm=>by rw[vp.2 b hm]at f1;cases f1
  have h1:b<w.heap.size:=ar4 hb R.size;have h3:=old b h1 h2;obtain⟨s1,s2⟩:=A.same b h1 h2 f2;exact⟨by simp[Gh.after,h2,h3,f1],s2,s1.trans f3⟩
theorem HRel.OR {B:Base}{g:Gh}{hp:List (Nat×Obj)}{w:World}(R:HRel B g hp w){id gen b:Nat}{bs:Nat×List Cell}(hb:g.dn b=some 0)(hn:g.dU b=none)(hl:look hp id=some (.iu gen bs))
  {ob:Obj} (wO:ob.gen=gen) (Es:mF {g with dn:=open Classical in fun x=>if x=b then some (id+1)else g.dn x} w id ob):
  HRel B {g with dn:=open Classical in fun x=>if x=b then some (id+1)else g.dn x} ((id,ob)::hp) w:=by
 have hle:Le g {g with dn:=open Classical in fun x=>if x=b then some (id+1)else g.dn x}:=⟨fun _ _ h=>h,fun _=>aq2 _,fun _ _ _=>rfl⟩;refine⟨fun i=> ?_,fun i oi hi=> ?_,fun x L hx=> ?_,fun x L hx=> ?_,fun x hx=> ?_,R.ji,fun x hx u5 hi=> ?_,R.size,R.os,R.tape,R.output,R.fix⟩
 ·show g.top i=_;rw[R.top i]
  by_cases e:id=i
  ·subst e;rw[aC,hl];show(Obj.iu gen bs).gen+1=ob.gen+1;rw[wO];rfl
  ·rw[ay _ _ e]
 ·by_cases e:id=i
  ·subst e;rw[aC]at hi;injection hi with hi;subst hi;exact Es
  ·rw[ay _ _ e]at hi;refine(R.eG i oi hi).tr hle (fun x hx=> ?_) rfl (gB R hi)
   have jX:x≠b:=fun e'=>by subst e';rw[hb]at hx;simp at hx
   exact⟨by simp[jX,hx],rfl,rfl⟩
 ·obtain⟨a1,a2,a3⟩:=R.aK x L hx
  have jX:x≠b:=fun e'=>by subst e';rw[hb]at a1;cases a1
  exact⟨by simp[jX,a1],a2,a3⟩
 ·obtain⟨a1,a2⟩:=R.dU x L hx;refine⟨?_,a2⟩
  by_cases jX:x=b
  ·simp[jX]
  ·simpa[jX]using a1
 ·by_cases jX:x=b
  ·subst jX;exact R.dR x (by rw[hb];simp)
  ·exact R.dR x (by simpa[jX]using hx)
 ·obtain⟨f1,f2,f3⟩:=R.frame x hx u5 hi
  have jX:x≠b:=fun e'=>by subst e';rw[hb]at f1;cases f1
  exact⟨by simp[jX,f1],f2,f3⟩
open Classical in
noncomputable def Gh.kV (g:Gh)(w:World)(id gen b:Nat)(u:Value)(nb:List Nat):Gh:=
  { g with top := fun i => if i = id then gen + 1 else g.top i
           cv:=fun i k=>if i=id∧k=gen then u else g.cv i k
           dn:=fun x=>if x=b∨x∈nb then some (id+1)else g.dn x
           dU:=fun x=>if x∈nb then rdW w x else g.dU x
           outer:=fun i=>if i=id then []else g.outer i}
theorem HRel.kV {B:Base}{g:Gh}{hp:List (Nat×Obj)}{w:World}(R:HRel B g hp w){id b cap:Nat}{arr:Array Value}{ty:TypeId}{τ:Ty}{deep:Bool}{xs:List τ.den}{nb:List Nat}
  (hb:g.dn b=some 0) (hn:g.dU b=none) (Ew:b∉nb) (ha:w.heap[b]?=some (.cells arr ty (0,0))) (hl:xs.length≤cap) (hs:arr.size=cap*τ.size) (mG:nb.Nodup) (sG:∀x∈nb,g.dn x=some 0∧rdW w x≠none)
  (hh:jq g.aK w (deep&& !τ.flat) τ xs arr.toList nb):
  ∃g',Le g g'∧(∀x,x≠b→x∉nb→g'.dn x=g.dn x∧g'.dU x=g.dU x)∧(∀i,i≠id→g'.outer i=g.outer i)∧HRel B g' ((id, .own (g.top id) τ deep xs)::hp) w∧bl g' (.own id (g.top id)) (.slice (some ⟨b,0,none⟩) xs.length cap):=by
 have hle:Le g (g.kV w id (g.top id) b (.slice (some ⟨b,0,none⟩) xs.length cap) nb):=by
  refine⟨fun _ _ h=>h,fun i=> ?_,fun i k hk=> ?_⟩
  ·show g.top i≤if i=id then g.top id+1 else g.top i
   split
   ·rename_i e;subst e;omega
   ·exact aq2 _
  ·show(if i=id∧k=g.top id then _ else g.cv i k)=g.cv i k;rw[ar1];rintro⟨rfl,rfl⟩;omega
 refine⟨_,hle,fun x h1 h2=>⟨by simp[Gh.kV,h1,h2],by simp[Gh.kV,h2]⟩,fun i hi=>by simp[Gh.kV,hi],⟨fun i=> ?_,fun i oi hi=> ?_,fun x L hx=> ?_,fun x L hx=> ?_,fun x hx=> ?_,R.ji,fun x hx u5 hi=> ?_,R.size,R.os,R.tape,R.output,R.fix⟩,
  ⟨by simp[Gh.kV],by simp[Gh.kV],rfl⟩⟩
 ·show(if i=id then g.top id+1 else g.top i)=_
  by_cases e:id=i
  ·subst e;rw[aC,as0 rfl];rfl
  ·rw[ay _ _ e,ar1 (fun h=>e h.symm)];exact R.top i
 ·by_cases e:id=i
  ·subst e;rw[aC]at hi;injection hi with hi;subst hi
   refine .inr ⟨b,cap,arr,ty,by simp[Gh.kV],by simp[Gh.kV],by simp[Gh.kV,Ew,hn],ha,hl,hs, ?_⟩;unfold jq at hh;unfold dE;split
   ·rename_i ec;rw[as0 ec]at hh;exact⟨nb,hh.mono (fun x hx L hL=>by simp[Gh.kV,hx,hL]),mG,fun x hx=>by simp[Gh.kV,hx]⟩
   ·rename_i ec;rw[ar1 ec]at hh;exact hh.1
  ·rw[ay _ _ e]at hi;refine(R.eG i oi hi).tr hle (fun x hx=> ?_) (by simp only[Gh.kV];rw[ar1 (fun h=>e h.symm)]) (gB R hi)
   have jX:x≠b:=fun e'=>by subst e';rw[hb]at hx;simp at hx
   have j0:x∉nb:=fun hm=>by rw[(sG x hm).1]at hx;simp at hx
   exact⟨by simp[Gh.kV,jX,j0,hx],by simp[Gh.kV,j0],rfl⟩
 ·have hy:g.aK x=some L:=hx;obtain⟨a1,a2,a3⟩:=R.aK x L hy
  have jX:x≠b:=fun e'=>by subst e';rw[hb]at a1;cases a1
  have j0:x∉nb:=fun hm=>by rw[(sG x hm).1]at a1;cases a1
  exact⟨by simp[Gh.kV,jX,j0,a1],by simp[Gh.kV,j0,a2],a3⟩
 ·by_cases j0:x∈nb
  ·have hy:rdW w x=some L:=by simpa[Gh.kV,j0]using hx
   refine⟨by simp[Gh.kV,j0], ?_⟩;unfold rdW at hy;split at hy
   ·rename_i uP FV YG
    injection hy with hy
    exact⟨uP,FV,YG,hy⟩
   ·cases hy
  ·have hy:g.dU x=some L:=by simpa[Gh.kV,j0]using hx
   obtain⟨a1,a2⟩:=R.dU x L hy;refine⟨?_,a2⟩
   have jX:x≠b:=fun e'=>by subst e';rw[hn]at hy;cases hy
   simp[Gh.kV,jX,j0,a1]
 ·by_cases jX:x=b
  ·subst jX;exact R.dR x (by rw[hb];simp)
  ·by_cases j0:x∈nb
   ·exact R.dR x (by rw[(sG x j0).1];simp)
   ·exact R.dR x (by simpa[Gh.kV,jX,j0]using hx)
 ·obtain⟨f1,f2,f3⟩:=R.frame x hx u5 hi
  have jX:x≠b:=fun e'=>by subst e';rw[hb]at f1;cases f1
  have j0:x∉nb:=fun hm=>by rw[(sG x hm).1]at f1;cases f1
  exact⟨by simp[Gh.kV,jX,j0,f1],f2,f3⟩
open Classical in
noncomputable def Gh.iZ (g:Gh)(w:World)(id b:Nat)(nb:List Nat):Gh:=
  { g with dn := fun x => if x = b ∨ x ∈ nb then some (id + 1) else g.dn x
           dU:=fun x=>if x∈nb then rdW w x else g.dU x}
theorem HRel.iZ {B:Base}{g:Gh}{hp:List (Nat×Obj)}{w:World}(R:HRel B g hp w){id gen b cap:Nat}{arr:Array Value}{ty:TypeId}{τ:Ty}{deep:Bool}{xs:List τ.den}{nb:List Nat}{bs:Nat×List Cell}
  (JG:look hp id=some (.iu gen bs)) (kX:g.cv id gen= .slice (some ⟨b,0,none⟩) xs.length cap)
  (hb:g.dn b=some 0) (hn:g.dU b=none) (Ew:b∉nb) (ha:w.heap[b]?=some (.cells arr ty (0,0))) (hl:xs.length≤cap) (hs:arr.size=cap*τ.size) (mG:nb.Nodup) (sG:∀x∈nb,g.dn x=some 0∧rdW w x≠none)
  (hh:jq g.aK w (deep&& !τ.flat) τ xs arr.toList nb):
  ∃g',Le g g'∧(∀x,x≠b→x∉nb→g'.dn x=g.dn x∧g'.dU x=g.dU x)∧g'.outer=g.outer∧HRel B g' ((id, .own gen τ deep xs)::hp) w:=by
 have hle:Le g (g.iZ w id b nb):=⟨fun _ _ h=>h,fun _=>aq2 _,fun _ _ _=>rfl⟩;refine⟨_,hle,fun x h1 h2=>⟨by simp[Gh.iZ,h1,h2],by simp[Gh.iZ,h2]⟩,rfl,⟨fun i=> ?_,fun i oi hi=> ?_,fun x L hx=> ?_,fun x L hx=> ?_,fun x hx=> ?_,R.ji,fun x hx u5 hi=> ?_,R.size,R.os,R.tape,R.output,R.fix⟩⟩
 ·show g.top i=_;rw[R.top i]
  by_cases e:id=i
  ·subst e;rw[aC,JG];rfl
  ·rw[ay _ _ e]
 ·by_cases e:id=i
  ·subst e;rw[aC]at hi;injection hi with hi;subst hi
   refine .inr ⟨b,cap,arr,ty,kX,by simp[Gh.iZ],by simp[Gh.iZ,Ew,hn],ha,hl,hs, ?_⟩;unfold jq at hh;unfold dE;split
   ·rename_i ec;rw[as0 ec]at hh;exact⟨nb,hh.mono (fun x hx L hL=>by simp[Gh.iZ,hx,hL]),mG,fun x hx=>by simp[Gh.iZ,hx]⟩
   ·rename_i ec;rw[ar1 ec]at hh;exact hh.1
  ·rw[ay _ _ e]at hi;refine(R.eG i oi hi).tr hle (fun x hx=> ?_) rfl (gB R hi)
   have jX:x≠b:=fun e'=>by subst e';rw[hb]at hx;simp at hx
   have j0:x∉nb:=fun hm=>by rw[(sG x hm).1]at hx;simp at hx
   exact⟨by simp[Gh.iZ,jX,j0,hx],by simp[Gh.iZ,j0],rfl⟩
 ·have hy:g.aK x=some L:=hx;obtain⟨a1,a2,a3⟩:=R.aK x L hy
  have jX:x≠b:=fun e'=>by subst e';rw[hb]at a1;cases a1
  have j0:x∉nb:=fun hm=>by rw[(sG x hm).1]at a1;cases a1
  exact⟨by simp[Gh.iZ,jX,j0,a1],by simp[Gh.iZ,j0,a2],a3⟩
 ·by_cases j0:x∈nb
  ·have hy:rdW w x=some L:=by simpa[Gh.iZ,j0]using hx
   refine⟨by simp[Gh.iZ,j0], ?_⟩;unfold rdW at hy;split at hy
   ·rename_i uP FV YG
    injection hy with hy
    exact⟨uP,FV,YG,hy⟩
   ·cases hy
  ·have hy:g.dU x=some L:=by simpa[Gh.iZ,j0]using hx
   obtain⟨a1,a2⟩:=R.dU x L hy;refine⟨?_,a2⟩
   have jX:x≠b:=fun e'=>by subst e';rw[hn]at hy;cases hy
   simp[Gh.iZ,jX,j0,a1]
 ·by_cases jX:x=b
  ·subst jX;exact R.dR x (by rw[hb];simp)
  ·by_cases j0:x∈nb
   ·exact R.dR x (by rw[(sG x j0).1];simp)
   ·exact R.dR x (by simpa[Gh.iZ,jX,j0]using hx)
 ·obtain⟨f1,f2,f3⟩:=R.frame x hx u5 hi
  have jX:x≠b:=fun e'=>by subst e';rw[hb]at f1;cases f1
  have j0:x∉nb:=fun hm=>by rw[(sG x hm).1]at f1;cases f1
  exact⟨by simp[Gh.iZ,jX,j0,f1],f2,f3⟩
open Classical in
noncomputable def Gh.pZ (g:Gh)(id gen:Nat)(u:Value)(bo:Option Nat):Gh:=
  { g with top := fun i => if i = id then gen + 1 else g.top i
           cv:=fun i k=>if i=id∧k=gen then u else g.cv i k
           dn:=fun x=>if bo=some x then some (id+1)else g.dn x}
theorem HRel.Il {B:Base}{g:Gh}{hp:List (Nat×Obj)}{w:World}(R:HRel B g hp w){id a ag bid bg off:Nat}{xs:List Int}{u2:Value}{nb:List Nat}{bb oo:Nat}
  (KW:ag<g.top a) (Hv:bg<g.top bid) (jj:a≠id) (hO:dI g nb) (hn:∀b∈nb,g.dU b=none) (kX:g.cv bid bg= .pointer (some ⟨bb,oo,none⟩)) (hb:tQ g.aK w (bb,oo+off) xs [g.cv a ag,u2] nb):
  ∃g',Le g g'∧(∀x,x∉nb→g'.dn x=g.dn x∧g'.dU x=g.dU x)∧g'.outer=g.outer∧HRel B g' ((id, .s8 (g.top id) xs a ag bid bg off)::hp) w∧bl g' (.own id (g.top id)) u2:=by
 have an5:oc (g.cv a ag)=true:=by
  rcases hb with⟨e,_⟩|⟨v,e,_⟩
  ·injection e with e;rw[e];rfl
  ·injection e with e;rw[e];rfl
 have key:∀bo:Option Nat,(∀x,bo=some x→x∈nb)→(∀x∈nb,bo=some x)→oc u2=true→
   ((g.cv a ag= .pointer none∧u2= .slice none 0 0∧xs=[])∨(g.cv a ag= .pointer (some ⟨bb,oo+off,none⟩)∧((u2= .slice none 0 0∧xs=[])∨
    ∃b cap arr ty,bo=some b∧u2= .slice (some ⟨b,0,none⟩) xs.length cap∧w.heap[b]?=some (.cells arr ty (0,0))∧xs.length≤cap∧arr.size=cap∧Els g.aK (.int .u8) xs arr.toList 0∧ty=AX)))→
   ∃g',Le g g'∧(∀x,x∉nb→g'.dn x=g.dn x∧g'.dU x=g.dU x)∧g'.outer=g.outer∧HRel B g' ((id, .s8 (g.top id) xs a ag bid bg off)::hp) w∧bl g' (.own id (g.top id)) u2:=by
  intro bo Sk hbo' Nn hd
  have hle:Le g (g.pZ id (g.top id) u2 bo):=by
   refine⟨fun _ _ h=>h,fun i=> ?_,fun i k hk=> ?_⟩
   ·show g.top i≤if i=id then g.top id+1 else g.top i
    split
    ·rename_i e;subst e;omega
    ·exact aq2 _
   ·show(if i=id∧k=g.top id then _ else g.cv i k)=g.cv i k;rw[ar1];rintro⟨rfl,rfl⟩;omega
  have lK:∀x,bo=some x→g.dn x=some 0:=fun x hx=>hO.2 x (Sk x hx)
  have WL:(g.pZ id (g.top id) u2 bo).cv id (g.top id)=u2:=(by simp[Gh.pZ]);refine⟨_,hle,fun x hx=>⟨?_,rfl⟩,rfl,⟨fun i=> ?_,fun i oi hi=> ?_,fun x L hx=> ?_,fun x L hx=> ?_,fun x hx=> ?_,R.ji,fun x hx u5 hi=> ?_,R.size,R.os,R.tape,R.output,R.fix⟩,⟨by simp[Gh.pZ],WL.symm,Nn⟩⟩
  ·have:bo≠some x:=fun e=>hx (Sk x e)
   simp[Gh.pZ,this]
  ·show(if i=id then g.top id+1 else g.top i)=_
   by_cases e:id=i
   ·subst e;rw[aC,as0 rfl];rfl
   ·rw[ay _ _ e,ar1 (fun h=>e h.symm)];exact R.top i
  ·by_cases e:id=i
   ·subst e;rw[aC]at hi;injection hi with hi;subst hi
    refine⟨ar4 KW (hle.top _),ar4 Hv (hle.top _),by rw[hle.cv _ _ KW];exact an5, ?_⟩;rw[hle.cv _ _ KW,hle.cv _ _ Hv,WL]
    rcases hd with hd|⟨d1,d2⟩
    ·exact .inl hd
    ·refine .inr ⟨bb,oo,kX,d1, ?_⟩
     rcases d2 with d2|⟨b,cap,arr,ty,e0,e1,e2,e3,e4,e5⟩
     ·exact .inl d2
     ·exact .inr ⟨b,cap,arr,ty,e1,by simp[Gh.pZ,e0],hn b (Sk b e0),e2,e3,e4,e5⟩
   ·rw[ay _ _ e]at hi;refine(R.eG i oi hi).tr hle (fun x hx=> ?_) rfl (gB R hi)
    have:bo≠some x:=fun e'=>by rw[lK x e']at hx;simp at hx
    exact⟨by simp[Gh.pZ,this,hx],rfl,rfl⟩
  ·have hy:g.aK x=some L:=hx;obtain⟨a1,a2,a3⟩:=R.aK x L hy
   have:bo≠some x:=fun e'=>by rw[lK x e']at a1;cases a1
   exact⟨by simp[Gh.pZ,this,a1],a2,a3⟩
  ·have hy:g.dU x=some L:=hx;obtain⟨a1,a2⟩:=R.dU x L hy;refine⟨?_,a2⟩
   by_cases e:bo=some x
   ·simp[Gh.pZ,e]
   ·simp[Gh.pZ,e,a1]
  ·by_cases e:bo=some x
   ·exact R.dR x (by rw[lK x e];simp)
   ·exact R.dR x (by simpa[Gh.pZ,e]using hx)
  ·obtain⟨f1,f2,f3⟩:=R.frame x hx u5 hi
   have:bo≠some x:=fun e'=>by rw[lK x e']at f1;cases f1
   exact⟨by simp[Gh.pZ,this,f1],f2,f3⟩
 rcases hb with⟨e,hx,rfl⟩|⟨v,e,hr,ag7⟩
 ·injection e with e1 e2;injection e2 with e2 _
  refine key none (fun x h=>by cases h) (fun x h=>by simp at h) (by rw[e2];rfl) (.inl ⟨e1,e2,hx⟩)
 ·injection e with e1 e2;injection e2 with e2 _
  subst e2
  rcases hr with⟨k1,k2,rfl⟩|⟨b,cap,arr,ty,mc,k1,rfl,ha,hl,hs,hE⟩
  ·injection k1 with k1 _
   exact key none (fun x h=>by cases h) (fun x h=>by simp at h) (by rw[k1];rfl) (.inr ⟨e1, .inl ⟨k1,k2⟩⟩)
  ·injection k1 with k1 _
   have sG:mc=[]:=by
    unfold jq at hE;simpa using hE.2
   subst sG;unfold jq at hE
   have YT:ty=AX:=by
    obtain⟨uP,h'⟩:=ag7 b (by simp);rw[ha]at h'
    injection h' with h';injection h' with _ h'
   exact key (some b) (fun x h=>by injection h with h;subst h;simp) (fun x h=>by simp only[List.mem_singleton]at h;rw[h]) (by rw[k1];rfl) (.inr ⟨e1, .inr ⟨b,cap,arr,ty,rfl,k1,ha,hl,by simpa[Ty.size]using hs,by simpa using hE.1,YT⟩⟩)
end Go.Abs
end

section
namespace Go.Abs
theorem mr.FQ {hp Bb:List (Nat×Obj)}{g g':Gh}{aK:Rd}{w0 w:World}(l:Le g g')(ht:∀id gn cs,look hp id=some (.iu gn cs)→gn<g.top id):
  ∀{s:Sp} {x:s.ty.den} {pl:Nat×Nat} {cs:List Cell} {us news:List Value} {nb:List Nat},(∀i gn cs b o,look hp i=some (.iu gn cs)→g.cv i gn= .pointer (some ⟨b,o,none⟩)→b∈nb→look Bb i=some (.iu gn cs)∧g'.outer i=g.outer i)→
   nr aK w0 w s x pl us news nb→mr hp g w0 s cs us→mr Bb g' w0 s cs us
 | .un,_,_,_,_,_,_,_,_,_=>trivial
 | .dC _,_,_,_,_,_,_,_,_,_=>trivial
 | .own _ _,_,_,_,_,_,_,_,_,_=>trivial
 | .s8,_,_,_,_,_,_,_,_,_=>trivial
 | .yK _,_,_,_,_,_,_,_,_,_=>trivial
 | .err,_,_,_,_,_,_,_,_,_=>trivial
 | .np,_,_,_,_,_,_,_,_,_=>trivial
 | .slf _ _,_,_,_,_,_,_,_,_,_=>trivial
 | .lnd _ _,_,_,_,_,_,_,_,_, .inl h=> .inl h
 | .lnd _ _,_,_,_,_,_,_,_,_, .inr ⟨id,gen,e,e',h,Nn⟩=> .inr ⟨id,gen,e,by rw[l.cv _ _ h];exact e',ar4 h (l.top _),by rw[l.cv _ _ h];exact Nn⟩
 | .pr _ _,_,_,_,_,_,_,ho,⟨u1,u2,n1,n2,e,e',k1,k2⟩,⟨h1,h2⟩=>by
  subst e';exact⟨mr.FQ l ht (fun i gn cs b o a1 a2 a3=>ho i gn cs b o a1 a2 (ar3 _ a3)) k1 h1,mr.FQ l ht (fun i gn cs b o a1 a2 a3=>ho i gn cs b o a1 a2 (ar0 _ a3)) k2 h2⟩
 | .ptr _ _ _,_,_,_,_,_,_,ho,⟨b1,o1,ku,EN,uP,L',mc,e,e',e2,a0,a1,Vt,u5,hs,k⟩,⟨id,gen,off,bs,b,o,arr,ty,L,e1,e3,hl,kX,ha,hL,hle,hid,yH,hc,hr⟩=>by
  subst e2;rw[e]at e3
  injection e3 with e3;injection e3 with e3;injection e3 with e3;injection e3 with e3 e4
  subst e3;subst e4;obtain⟨k1,k2⟩:=ho _ _ _ _ _ hl kX (ap7 ..);rw[ha]at a0
  injection a0 with a0;injection a0 with a0
  subst a0;have Qf:=Kr (n:=_) hL hle (show off+_≤L.length by rw[hc.length];exact yH);rw[←Qf]at k
  exact⟨id,gen,off,bs,b1,o,arr,ty,L,e1,e,k1,(l.cv _ _ (ht _ _ _ hl)).trans kX,ha,by rw[k2];exact hL,by rw[k2];exact hle,by rw[k2];exact hid,yH,hc.mono l,
   mr.FQ l ht (fun i gn cs b o a1 a2 a3=>ho i gn cs b o a1 a2 (ap6 _ a3)) k hr⟩
theorem Ke {α:Type}{O L N ku arr:List α}{o off:Nat}(h0:ku=O.take o++L++O.drop (o+L.length))(ho:o+L.length≤O.length)(hn:off+N.length≤L.length)
  (h1:arr=ku.take (o+off)++N++ku.drop (o+off+N.length)):
  arr=O.take o++(L.take off++N++L.drop (off+N.length))++O.drop (o+(L.take off++N++L.drop (off+N.length)).length):=by
 have hlen:(L.take off++N++L.drop (off+N.length)).length=L.length:=by simp;omega
 have ab7:(O.take o).length=o:=by simp;omega
 rw[hlen];subst h1;subst h0
 have e1:(O.take o++L++O.drop (o+L.length)).take (o+off)=O.take o++L.take off:=by
  rw[ao4,List.take_append,ab7,List.take_of_length_le (by omega),List.take_append];rw[show o+off - o - L.length=0 by omega,List.take_zero,aq7]
  congr 2
  omega
 have e2:(O.take o++L++O.drop (o+L.length)).drop (o+off+N.length)=L.drop (off+N.length)++O.drop (o+L.length):=by
  rw[ao4,List.drop_append,ab7,List.drop_of_length_le (by omega),List.nil_append,List.drop_append];rw[show o+off+N.length - o=off+N.length by omega,show off+N.length - L.length=0 by omega,List.drop_zero]
 rw[e1,e2];simp[ao4]
def VY (sp:Sp)(x:sp.ty.den)(pl:Plc)(old:List Cell)(s:St)(cells rest:List Cell)(s':St):Prop:=
 s'.env=s.env∧rest=old.drop sp.size∧∀B g w0 w,HRel B g s.hp w→∀rp olds news nb,iD g pl rp→mr s.hp g w0 sp (old.take sp.size) olds→nr g.aK w0 w sp x rp olds news nb→dI g nb→(∀b∈nb,g.dU b=none)→
  ∃g',Le g g'∧(∀x,x∉nb→g'.dn x=g.dn x∧g'.dU x=g.dU x)∧HRel B g' s'.hp w∧aG g' cells news∧
   ∀i gn cs b o,look s.hp i=some (.iu gn cs)→g.cv i gn= .pointer (some ⟨b,o,none⟩)→b∉nb→look s'.hp i=some (.iu gn cs)∧g'.outer i=g.outer i
theorem ss:∀(sp:Sp)(x:sp.ty.den)(pl:Plc)(old:List Cell)(n:Nat)(s:St)(cells rest:List Cell)(n':Nat)(s':St),(xT sp x pl old n).run s=some ((cells,rest,n'),s')→VY sp x pl old s cells rest s':=by
 intro sp
 induction sp with
 |un=>
  intro x pl old n s cells rest n' s' h;obtain⟨h1,rfl⟩:=ai h
  injection h1 with h1 h2;injection h2 with h2 h3
  subst h1;subst h2;exact⟨rfl,rfl,fun B g w0 w R rp olds news nb wN hL hB hp hn=>⟨g,Le.refl g,fun _ _=>⟨rfl,rfl⟩,R,hB.1,fun i gn cs b o h _ _=>⟨h,rfl⟩⟩⟩
 |dC τ=>
  intro x pl old n s cells rest n' s' h;obtain⟨h1,rfl⟩:=ai h
  injection h1 with h1 h2;injection h2 with h2 h3
  subst h1;subst h2;refine⟨rfl,by simp[Sp.size],fun B g w0 w R rp olds news nb wN hL hB hp hn=>⟨g,Le.refl g,fun _ _=>⟨rfl,rfl⟩,R, ?_,fun i gn cs b o h _ _=>⟨h,rfl⟩⟩⟩;obtain⟨_,h1,u,rfl,hr⟩:=hB;exact⟨u,[],rfl,⟨h1,hr⟩,rfl⟩
 |err=>
  intro x pl old n s cells rest n' s' h;obtain⟨h1,rfl⟩:=ai h
  injection h1 with h1 h2;injection h2 with h2 h3
  subst h1;subst h2;refine⟨rfl,by simp[Sp.size],fun B g w0 w R rp olds news nb wN hL hB hp hn=>⟨g,Le.refl g,fun _ _=>⟨rfl,rfl⟩,R, ?_,fun i gn cs b o h _ _=>⟨h,rfl⟩⟩⟩;obtain⟨_,u,rfl,hr⟩:=hB;exact⟨u,[],rfl,hr,rfl⟩
 |np=>
  intro x pl old n s cells rest n' s' h;obtain⟨h1,rfl⟩:=ai h
  injection h1 with h1 h2;injection h2 with h2 h3
  subst h1;subst h2;refine⟨rfl,by simp[Sp.size],fun B g w0 w R rp olds news nb wN hL hB hp hn=>⟨g,Le.refl g,fun _ _=>⟨rfl,rfl⟩,R, ?_,fun i gn cs b o h _ _=>⟨h,rfl⟩⟩⟩;obtain⟨_,rfl⟩:=hB;exact⟨_,[],rfl,rfl,rfl⟩
 |slf f m=>intro x pl old n s cells rest n' s' h;exact nomatch h
 |own τ dp=>
  intro x pl old n s cells rest n' s' h;obtain⟨c,t,h1,h2⟩:=AM.ah h;obtain⟨h3,rfl⟩:=ai h2
  injection h3 with h3 h4;injection h4 with h4 h5
  subst h3;subst h4;obtain⟨gen,hg,rfl,rfl⟩:=um h1;have JD:=(nH hg).2
  have JG:∀i gn cs,look s.hp i=some (.iu gn cs)→i≠n:=fun i gn cs hi e=>by subst e;exact JD gn cs hi
  refine⟨rfl,by simp[Sp.size],fun B g w0 w R rp olds news nb wN hL hB hp hn=> ?_⟩;obtain⟨rfl,_⟩:=jG R hg
  rcases hB with⟨rfl,hx,rfl⟩|⟨b,cap,arr,ty,mc,rfl,rfl,ha,hl,hs,hE⟩
  ·have hx:x=[]:=hx;subst hx;obtain⟨l,R'⟩:=R.named (id:=n) (u:= .slice none 0 0) (o':= .own (g.top n) τ (dp||τ.flat) []) rfl (.inl ⟨by simp[Gh.name],rfl⟩);refine⟨_,l.le,fun x _=>⟨rfl,rfl⟩,R',⟨_,[],rfl,⟨by simp[Gh.name],by simp[Gh.name],rfl⟩,rfl⟩,fun i gn cs b o hi _ _=>⟨?_,by rw[l.out]⟩⟩
   ·show look ((n,_)::s.hp) i=_;rw[ay _ _ (Ne.symm (JG i gn cs hi))];exact hi
  ·have Mb:=hp.2 b (ap7 ..);have mG:=List.nodup_cons.1 hp.1
   have Jo:((dp||τ.flat)&& !τ.flat)=(dp&& !τ.flat):=by cases dp<;>cases τ.flat<;>rfl
   obtain⟨g',l,hk,ho,R',hc⟩:=R.kV (id:=n) (deep:=dp||τ.flat) (τ:=τ) (xs:=x) (nb:=mc) Mb (hn b (ap7 ..)) mG.1 ha hl hs mG.2 (fun y hy=>⟨hp.2 y (ap6 _ hy),by
    unfold jq at hE;split at hE
    ·exact hE.mQ y hy
    ·rw[hE.2]at hy;simp at hy⟩) (by rw[Jo];exact hE)
   refine⟨g',l,fun y hy=> ?_,R',⟨_,[],rfl,hc,rfl⟩,fun i gn cs b o hi _ _=>⟨?_,ho i (JG i gn cs hi)⟩⟩
   ·rw[ar5,not_or]at hy;exact hk y hy.1 hy.2
   ·show look ((n,_)::s.hp) i=_;rw[ay _ _ (Ne.symm (JG i gn cs hi))];exact hi
 |lnd τ dp=>
  intro x pl old n s cells rest n' s' h
  cases old with
  |nil=>exact nomatch h
  |cons c cs=>
   cases c with
   |nil=>
    obtain⟨h1,rfl⟩:=ai h
    injection h1 with h1 h2;injection h2 with h2 h3
    subst h1;subst h2;refine⟨rfl,by simp[Sp.size],fun B g w0 w R rp olds news nb wN hL hB hp hn=> ?_⟩;obtain⟨rfl,hO⟩:=hB
    rcases hL with⟨_,rfl⟩|⟨id,gen,e,_⟩
    ·have sG:nb=[]:=by
      rcases hO with⟨_,_,h⟩|⟨b,cap,arr,ty,mc,e,_⟩
      ·exact h
      ·cases e
     subst sG;exact⟨g,Le.refl g,fun _ _=>⟨rfl,rfl⟩,R,⟨_,[],rfl,rfl,rfl⟩,fun i gn cs b o h _ _=>⟨h,rfl⟩⟩
    ·simp[Sp.size]at e
   |own id gen=>
    simp only[xT,AM.run]at h;split at h
    ·rename_i g0 bs heq;obtain⟨hb,h'⟩:=bh h;obtain rfl:=beq_eq hb;simp only[AM.run,ar8,as9]at h';obtain⟨⟨rfl,rfl,rfl⟩,rfl⟩:=h';refine⟨rfl,by simp[Sp.size],fun B g w0 w R rp olds news nb wN hL hB hp hn=> ?_⟩;obtain⟨rfl,hO⟩:=hB
     rcases hL with⟨e,_⟩|⟨Sm,P3,e,rfl,ht,Nn⟩
     ·simp[Sp.size]at e
     ·have e:[Cell.own id g0]=[Cell.own Sm P3]:=by simpa[Sp.size]using e
      injection e with e _;injection e with e1 e2
      subst e1;subst e2
      have Jo:((dp||τ.flat)&& !τ.flat)=(dp&& !τ.flat):=by cases dp<;>cases τ.flat<;>rfl
      rcases hO with⟨k1,k2,rfl⟩|⟨b,cap,arr,ty,mc,k1,rfl,ha,hl,hs,hE⟩
      ·have k2:x=[]:=k2;subst k2
       injection k1 with k1 _
       have R':HRel B g ((id, .own g0 τ (dp||τ.flat) [])::s.hp) w:=R.put heq rfl (.inl ⟨k1,rfl⟩);refine⟨g,Le.refl g,fun _ _=>⟨rfl,rfl⟩,R',⟨_,[],rfl,⟨ht,rfl,Nn⟩,rfl⟩,fun i gn cs b o hi kX _=>⟨?_,rfl⟩⟩
       have jj:id≠i:=fun e=>by
        subst e;rw[heq]at hi
        injection hi with hi;injection hi with hi _
        subst hi;rw[k1]at kX;cases kX
       show look ((id,_)::s.hp) i=_;rw[ay _ _ jj];exact hi
      ·injection k1 with k1 _
       have mG:=List.nodup_cons.1 hp.1
       obtain⟨g',l,hk,ho,R'⟩:=R.iZ (deep:=dp||τ.flat) (τ:=τ) (xs:=x) (nb:=mc) heq k1 (hp.2 b (ap7 ..)) (hn b (ap7 ..)) mG.1 ha hl hs mG.2 (fun y hy=>⟨hp.2 y (ap6 _ hy),by
        unfold jq at hE;split at hE
        ·exact hE.mQ y hy
        ·rw[hE.2]at hy;simp at hy⟩) (by rw[Jo];exact hE)
       refine⟨g',l,fun y hy=> ?_,R',⟨_,[],rfl,⟨ar4 ht (l.top _),(l.cv _ _ ht).symm,Nn⟩,rfl⟩,fun i gn cs b' o hi kX _=>⟨?_,by rw[ho]⟩⟩
       ·rw[ar5,not_or]at hy;exact hk y hy.1 hy.2
       ·have jj:id≠i:=fun e=>by
         subst e;rw[heq]at hi
         injection hi with hi;injection hi with hi _
         subst hi;rw[k1]at kX;cases kX
        show look ((id,_)::s.hp) i=_;rw[ay _ _ jj];exact hi
    ·cases h
   |_=>exact nomatch h
 |yK ok=>intro x pl old n s cells rest n' s' h;exact nomatch h
 |s8=>
  intro x pl old n s cells rest n' s' h;obtain⟨c,t,h1,h2⟩:=AM.ah h;obtain⟨h3,rfl⟩:=ai h2
  injection h3 with h3 h4;injection h4 with h4 h5
  subst h3;subst h4
  cases pl with
  |none=>cases h1
  |some q=>
   obtain⟨id,bg,off⟩:=q;obtain⟨gn1,t1,h6,h7⟩:=AM.ah h1;obtain⟨rfl,Py⟩:=nH h6;simp only[AM.run]at h7;obtain⟨gn2,t2,h8,h9⟩:=AM.ah h7;obtain⟨rfl,Zc⟩:=nH h8;simp only[AM.run,ar8,as9]at h9;obtain⟨rfl,rfl⟩:=h9;refine⟨rfl,by simp[Sp.size],fun B g w0 w R rp olds news nb wN hL hB hp hn=> ?_⟩;have hB:tQ g.aK w rp x news nb:=hB;obtain⟨Hv,bb,oo,kX,rfl⟩:=wN id bg off rfl;obtain⟨rfl,_⟩:=jG R h6
   have two:∃u1 u2,news=[u1,u2]∧oc u1=true:=by
    rcases hB with⟨e,_⟩|⟨u2,e,_⟩
    ·exact⟨_,_,e,rfl⟩
    ·exact⟨_,_,e,rfl⟩
   obtain⟨u1,u2,rfl,YR⟩:=two;obtain⟨l1,R1⟩:=R.named (id:=n) (u:=u1) (o':= .dead (g.top n)) rfl trivial;have wR:(g.name n (g.top n) u1).cv n (g.top n)=u1:=(by simp[Gh.name]);have Qu:g.top n<(g.name n (g.top n) u1).top n:=(by simp[Gh.name]);obtain⟨rfl,_⟩:=jG (s:=⟨t1.env,(n, .dead (g.top n))::t1.hp⟩) R1 h8;obtain⟨g2,l2,k2,o2,R2,c2⟩:=R1.Il (id:=n+1) (a:=n) (ag:=g.top n) (bid:=id) (bg:=bg) (off:=off) (xs:=x) (u2:=u2) (nb:=nb) Qu (ar4 Hv (l1.le.top _)) (by omega) (hp.mono l1) hn ((l1.le.cv _ _ Hv).trans kX) (by rw[wR];exact hB);refine⟨g2,l1.le.trans l2,k2,R2,⟨u1,[u2],rfl,⟨ar4 Qu (l2.top _), ?_,YR⟩,u2,[],rfl,c2,rfl⟩,fun i gn cs b o hi _ _=>⟨?_,by rw[o2,l1.out]⟩⟩
   ·rw[l2.cv _ _ Qu,wR]
   ·have e1:n≠i:=fun e=>by subst e;exact Py gn cs hi
    have e2:n+1≠i:=fun e=>by
     subst e;exact Zc gn cs (by show look ((n,_)::t1.hp) (n+1)=_;rw[ay _ _ e1];exact hi)
    show look ((n+1,_)::(n,_)::t1.hp) i=_;rw[ay _ _ e2,ay _ _ e1];exact hi
 |pr a b vo vn=>
  intro x pl old n s cells rest n' s' h;obtain⟨⟨p1,p2,p3⟩,t,h1,h2⟩:=AM.ah h;obtain⟨⟨q1,q2,q3⟩,t2,h3,h4⟩:=AM.ah h2;obtain⟨h5,rfl⟩:=ai h4
  injection h5 with h5 h6;injection h6 with h6 h7
  subst h5;subst h6;obtain⟨ea,ra,sa⟩:=vo _ _ _ _ _ _ _ _ _ h1;obtain⟨eb,rb,sb⟩:=vn _ _ _ _ _ _ _ _ _ h3;have ra:p2=old.drop a.size:=ra;have rb:rest=p2.drop b.size:=rb;refine⟨eb.trans ea,by rw[rb,ra,List.drop_drop],fun B g w0 w R rp olds news nb wN hL hB hp hn=> ?_⟩;obtain⟨u1,u2,n1,n2,rfl,rfl,B1,B2⟩:=hB;obtain⟨L1,L2⟩:=hL;have mG:=as7.1 hp.1
  have hd:∀y∈n2,y∉n1:=fun y h2 h1=>mG.2.2 y h1 y h2 rfl
  have e1:((old.take (a.size+b.size)).take a.size)=old.take a.size:=by rw[List.take_take];congr 1;omega
  have e2:((old.take (a.size+b.size)).drop a.size)=p2.take b.size:=by rw[ra,List.drop_take];congr 1;omega
  have Zz:mr s.hp g w0 a (old.take a.size) (olds.take a.size):=by rw[←e1];exact L1
  have Yg:mr s.hp g w0 b (p2.take b.size) (olds.drop a.size):=by rw[←e2];exact L2
  obtain⟨g1,l1,k1,R1,c1,t1⟩:=sa B g w0 w R rp _ _ _ wN Zz B1 ⟨mG.1,fun y hy=>hp.2 y (ar3 _ hy)⟩ (fun y hy=>hn y (ar3 _ hy));have L3:mr t.hp g1 w0 b (p2.take b.size) (olds.drop a.size):=mr.FQ l1 R.sZ (fun i gn cs b' o a1 a2 a3=>t1 i gn cs b' o a1 a2 (hd b' a3)) B2 Yg
  obtain⟨g2,l2,k2,R2,c2,YY⟩:=sb B g1 w0 w R1 (rp.1,rp.2+a.size) _ _ _ ((wN.mono l1).on a.size) L3 (B2.mono l1.aK) ⟨mG.2.1,fun y hy=>by rw[(k1 y (hd y hy)).1];exact hp.2 y (ar0 _ hy)⟩
   (fun y hy=>by rw[(k1 y (hd y hy)).2];exact hn y (ar0 _ hy))
  refine⟨g2,l1.trans l2,fun y hy=> ?_,R2,(c1.mono l2).append c2,fun i gn cs b' o hi kX hb=> ?_⟩
  ·rw[aq6,not_or]at hy;obtain⟨a1,a2⟩:=k1 y hy.1;obtain⟨b1,b2⟩:=k2 y hy.2;exact⟨b1.trans a1,b2.trans a2⟩
  ·rw[aq6,not_or]at hb;obtain⟨a1,a2⟩:=t1 i gn cs b' o hi kX hb.1;obtain⟨b1,b2⟩:=YY i gn cs b' o a1 ((l1.cv _ _ (R.sZ _ _ _ hi)).trans kX) hb.2;exact⟨b1,b2.trans a2⟩
 |ptr wh st sp ih=>
  intro x pl old n s cells rest n' s' h
  cases old with
  |nil=>exact nomatch h
  |cons c cs=>
   cases c with
   |ptr id gen off=>
    simp only[xT,AM.run]at h;split at h
    ·rename_i g0 bt bs heq;obtain⟨hb,h'⟩:=bh h;obtain rfl:=beq_eq hb;obtain⟨⟨p1,p2,p3⟩,t,h1,h2⟩:=AM.ah h';simp only[AM.run,ar8,as9]at h2;obtain⟨⟨rfl,rfl,rfl⟩,rfl⟩:=h2;obtain⟨e1,r1,s1⟩:=ih _ _ _ _ _ _ _ _ _ h1;refine⟨e1,by simp[Sp.size],fun B g w0 w R rp olds news nb wN hL hB hp hn=> ?_⟩;obtain⟨Sm,P3,Pv,bs',b,o,ku,EN,L,ec,eo,JG,kX,Nc,Ss,hle,hid,yH,Qs,ai5⟩:=hL
     have ec:[Cell.ptr id g0 off]=[Cell.ptr Sm P3 Pv]:=by simpa[Sp.size]using ec
     injection ec with ec _;injection ec with an1 ad6 ad0
     subst an1;subst ad6;subst ad0;rw[heq]at JG
     injection JG with JG;injection JG with _ JG;injection JG with Zo JG
     subst JG;subst Zo;obtain⟨b1,o1,arr1,ty1,arr,N,mc,f1,f2,f3,f4,f5,f6,f7,f8,f9⟩:=hB;rw[f1]at eo
     injection eo with eo;injection eo with eo;injection eo with eo;injection eo with ak5 ad8
     subst ak5;subst ad8;rw[Nc]at f4
     injection f4 with f4;injection f4 with f4 aj7
     subst f4;subst aj7;subst f3;have mG:=List.nodup_cons.1 hp.1;have JH:=Qs.length;have Qf:=Kr (n:=sp.size) Ss hle (show off+sp.size≤L.length by rw[JH];exact yH);rw[←Qf]at f9
     have yJ:(cut off sp.size bs).take sp.size=cut off sp.size bs:=by unfold cut;rw[List.take_take,Nat.min_self]
     obtain⟨g1,l1,k1,R1,c1,t1⟩:=s1 B g w0 w R (b1,o+off) _ _ _ (fun Sm P3 Pv e=>by
      injection e with e;injection e with e1 e;injection e with e2 e3
      subst e1;subst e2;subst e3
      exact⟨R.sZ _ _ _ heq,b1,o,kX,rfl⟩) (by rw[yJ];exact ai5) f9 ⟨mG.2,fun y hy=>hp.2 y (ap6 _ hy)⟩ (fun y hy=>hn y (ap6 _ hy))
     obtain⟨q1,q2⟩:=k1 b1 mG.1;obtain⟨w1,w2⟩:=t1 id g0 (_,bs) b1 o heq kX mG.1;have wR:g1.cv id g0= .pointer (some ⟨b1,o,none⟩):=(l1.cv _ _ (R.sZ _ _ _ heq)).trans kX;have hN:=c1.length
     let g2:Gh:={g1 with dn:=open Classical in fun x=>if x=b1 then some (id+1)else g1.dn x}
     have No:Le g1 g2:=⟨fun _ _ h=>h,fun _=>aq2 _,fun _ _ _=>rfl⟩;have Jw:=Ke (off:=off) Ss hle (by rw[f8,JH];exact yH) f6
     have hlen:(L.take off++N++L.drop (off+N.length)).length=L.length:=by simp;omega
     have xz:aG g2 (setCells off p1 bs) (L.take off++N++L.drop (off+N.length)):=aG.set (c1.mono No) off (Qs.mono (l1.trans No))
     have R2:HRel B g2 ((id, .box g0 (bt,setCells off p1 bs))::t.hp) w:=by
      refine R1.OR (q1.trans (hp.2 b1 (ap7 ..))) (q2.trans (hn b1 (ap7 ..))) w1 rfl ?_;refine⟨b1,o,arr,_,_,wR,⟨by simp,q2.trans (hn b1 (ap7 ..))⟩,f5,xz, ?_, ?_, ?_⟩
      ·show arr.toList=(g1.outer id).take o++_++(g1.outer id).drop _;rw[w2];exact Jw
      ·show _≤(g1.outer id).length;rw[w2,hlen];exact hle
      ·refine⟨hid.1, ?_,rfl⟩;show(g1.outer id).length=(setCells off p1 bs).length;rw[w2,←xz.length,hlen,JH];exact hid.2
     refine⟨g2,l1.trans No,fun y hy=> ?_,R2,⟨_,[],by rw[f2,f1],⟨R2.top id ▸ by rw[aC];exact Nat.lt_succ_self _,b1,o,wR,rfl⟩,rfl⟩,fun i gn cs b' o' hi EF EC=> ?_⟩
     ·rw[ar5,not_or]at hy;obtain⟨a1,a2⟩:=k1 y hy.2;exact⟨by simp[g2,hy.1,a1],a2⟩
     ·rw[ar5,not_or]at EC;obtain⟨a1,a2⟩:=t1 i gn cs b' o' hi EF EC.2;refine⟨?_,a2⟩
      have jj:id≠i:=fun e=>by
       subst e;rw[heq]at hi
       injection hi with hi;injection hi with hi _
       subst hi;rw[kX]at EF
       injection EF with EF;injection EF with EF;injection EF with EF _
       exact EC.1 EF.symm
      show look ((id,_)::t.hp) i=_;rw[ay _ _ jj];exact a1
    ·cases h
   |_=>exact nomatch h
end Go.Abs
end

section
namespace Go.Abs
def qC (aK:Rd)(w:World):(a:VSp)→a.sp.ty.den→Value→List Nat→Prop
 | .one s,x,u,nb=>oc u=true∧Pass aK w s x (0,0) [u] nb
 | .agg s,x,u,nb=>∃us:List Value,u= .agg us.toArray∧Pass aK w s x (0,0) us nb
def gg (aK:Rd)(w:World):(as:List VSp)→(b9 as).den→List Value→List Nat→Prop
 |[],_,us,nb=>us=[]∧nb=[]
 |a::as,x,us,nb=>∃u r n1 n2,us=u::r∧nb=n1++n2∧qC aK w a x.1 u n1∧gg aK w as x.2 r n2
def zO (aK:Rd)(w0 w:World):(s:Sp)→s.oA.den→List Value→List Nat→Prop
 | .pr a b,x,us,nb=>∃n1 n2,nb=n1++n2∧zO aK w0 w a x.1 (us.take a.size) n1∧zO aK w0 w b x.2 (us.drop a.size) n2
 | .ptr wh st s,x,us,nb=>nr aK w0 w (.ptr wh st s) x (0,0) us us nb
 | .lnd τ dp,x,us,nb=>nr aK w0 w (.lnd τ dp) x (0,0) us us nb
 |_,_,_,nb=>nb=[]
def kn (aK:Rd)(w0 w:World):(as:List VSp)→(oN as).den→List Value→List Nat→Prop
 |[],_,us,nb=>us=[]∧nb=[]
 |a::as,x,us,nb=>∃u r n1 n2,us=u::r∧nb=n1++n2∧zO aK w0 w a.sp x.1 u.cells.toList n1∧kn aK w0 w as x.2 r n2
def wB (aK:Rd)(w:World):(a:VSp)→a.sp.ty.den→Value→List Nat→Prop
 | .one s,x,u,nb=>oc u=true∧nr aK w w s x (0,0) [] [u] nb
 | .agg s,x,u,nb=>∃us:List Value,u= .agg us.toArray∧nr aK w w s x (0,0) [] us nb
def qz (aK:Rd)(w:World):(as:List VSp)→(b9 as).den→List Value→List Nat→Prop
 |[],_,us,nb=>us=[]∧nb=[]
 |a::as,x,us,nb=>∃u r n1 n2,us=u::r∧nb=n1++n2∧wB aK w a x.1 u n1∧qz aK w as x.2 r n2
def wG (aK:Rd)(w:World):(r:RSp)→r.ty.den→Value→List Nat→Prop
 | .val a,x,v,nb=>wB aK w a x v nb
 | .ta as,x,v,nb=>∃vs:List Value,v= .tuple vs.toArray∧qz aK w as x vs nb
 | .none,_,v,nb=>v= .tuple #[]∧nb=[]
def ik (fb:Nat→Option (List Cell))(aK:Rd):Prop:=∀k cs,fb k=some cs→∃us,aK k=some us∧∀g:Gh,(∀b L,aK b=some L→g.aK b=some L)→aG g cs us
theorem ik.mono {fb:Nat→Option (List Cell)}{aK cZ:Rd}(h:∀b L,aK b=some L→cZ b=some L)(k:ik fb aK):ik fb cZ:=fun i c hi=>by
 obtain⟨u,h1,h2⟩:=k i c hi;exact⟨u,h _ _ h1,fun g hg=>h2 g fun b L hb=>hg b L (h b L hb)⟩
theorem ik.one {fb:Nat→Option (List Cell)}{g:Gh}(h:ik fb g.aK):∀k c,fb k=some [c]→∃u,g.aK k=some [u]∧bl g c u:=fun k c hk=>by
 obtain⟨us,h1,h2⟩:=h k [c] hk
 obtain⟨u,r,rfl,hu,hr⟩:=h2 g fun _ _ hb=>hb
 have hr:r=[]:=hr;subst hr;exact⟨u,h1,hu⟩
def iE (P:Program)(f:FuncId)(args:Array Value)(w:World)(R:Value→World→Prop):Prop:=
 match(callFunc f args).run P w with
 | .ok (.enter f' a') w1=>Calls P f' a' w1 fun e w'=>∃v,e= .returned v∧R v w'
 | .ok (.value v) w1=>R v w1
 |_=>False
def rM (P:Program)(fb:Nat→Option (List Cell))(f:FuncId)(c:Callee):Prop:=
 ∀x y,c.F x=some y→∀(aK:Rd) (w:World) (args:List Value) (nb:List Nat),ik fb aK→(∀b L,aK b=some L→∃arr ty fr,w.heap[b]?=some (.cells arr ty fr)∧arr.toList=L)→
  gg aK w c.sig.args x args nb→nb.Nodup→(∀b∈nb,aK b=none∧b<w.heap.size)→
  iE P f args.toArray w fun v w'=>∃cZ n1 n2,After aK w nb cZ w' (n1++n2)∧wG cZ w' c.sig.res y.1 v n1∧kn cZ w w' c.sig.args y.2 args n2
def BB (as:List VSp)(aK:Rd)(w:World)(nb:List Nat)(args:List Value):Prop:=∀f m,uZ as=some (f,m)→
 ∃b ty,args.getLast?=some (.pointer (some ⟨b,0,none⟩))∧w.heap[b]?=some (.cells #[.func (.func f) #[] (args.drop m).toArray] ty (0,0))∧b∉nb∧aK b=none
def uB (P:Program)(fb:Nat→Option (List Cell))(f:FuncId)(c:Callee):Prop:=
 ∀x y,c.F x=some y→∀(aK:Rd) (w:World) (args:List Value) (nb:List Nat),ik fb aK→(∀b L,aK b=some L→∃arr ty fr,w.heap[b]?=some (.cells arr ty fr)∧arr.toList=L)→
  gg aK w c.sig.args x args nb→nb.Nodup→(∀b∈nb,aK b=none∧b<w.heap.size)→BB c.sig.args aK w nb args→
  iE P f args.toArray w fun v w'=>∃cZ n1 n2,After aK w nb cZ w' (n1++n2)∧wG cZ w' c.sig.res y.1 v n1∧kn cZ w w' c.sig.args y.2 args n2
theorem rM.slf {P:Program}{fb:Nat→Option (List Cell)}{f:FuncId}{c:Callee}(h:rM P fb f c):uB P fb f c:=fun x y k aK w args nb a b c d e _=>h x y k aK w args nb a b c d e
theorem BB.none {as:List VSp}(h:uZ as=none){aK:Rd}{w:World}{nb:List Nat}{args:List Value}:BB as aK w nb args:=fun f m k=>by rw[h]at k;cases k
theorem uB.plain {P:Program}{fb:Nat→Option (List Cell)}{f:FuncId}{c:Callee}(hn:uZ c.sig.args= .none)(h:uB P fb f c):rM P fb f c:=fun x y k aK w args nb a b c d e=>h x y k aK w args nb a b c d e (BB.none hn)
theorem AO {u:Value}(h:oc u=true):u.cells.toList=[u]:=by rw[zr h]
def mP (hp:List (Nat×Obj))(g:Gh)(w:World):List VSp→List Val→List Value→Prop
 |[],vs,us=>vs=[]∧us=[]
 |a::as,vs,us=>∃v r u q,vs=v::r∧us=u::q∧v.cells.length=a.sp.size∧mr hp g w a.sp v.cells u.cells.toList∧mP hp g w as r q
theorem mP.mono {hp Bb:List (Nat×Obj)}{g g':Gh}{w:World}(l:Le g g')(ho:∀id gn cs,look hp id=some (.iu gn cs)→look Bb id=some (.iu gn cs)∧g'.outer id=g.outer id)(ht:∀id gn cs,look hp id=some (.iu gn cs)→gn<g.top id):
  ∀{as:List VSp} {vs:List Val} {us:List Value},mP hp g w as vs us→mP Bb g' w as vs us
 |[],_,_,h=>h
 |_::_,_,_,⟨v,r,u,q,e,e',hl,h1,h2⟩=>⟨v,r,u,q,e,e',hl,h1.mono l ho ht,mP.mono l ho ht h2⟩
theorem Bv {a:VSp}{v:Val}{s s':St}{x:a.sp.ty.den}(h:(Pk a v).run s=some (x,s')):iU s s'∧∀B g w,HRel B g s.hp w→∃g',Lk g g'∧HRel B g' s'.hp w∧∀u,dT g v u→
  ∃nb,qC g'.aK w a x u nb∧dI g' nb∧(∀b∈nb,g.dn b≠some 0)∧v.cells.length=a.sp.size∧mr s'.hp g' w a.sp v.cells u.cells.toList:=by
 cases a with
 |one sp=>
  cases v with
  |agg cs=>exact nomatch h
  |one c=>
   obtain⟨⟨p1,p2⟩,t,h1,h2⟩:=AM.ah h;simp only at h2;split at h2
   ·obtain⟨rfl,rfl⟩:=ai h2;obtain⟨k,⟨used,eu,lu⟩,hs⟩:=uw _ _ _ _ _ _ _ h1
    have mu:sp.size=1:=by rw[←lu,←aq7 used,←eu];rfl
    refine⟨k,fun B g w R=> ?_⟩;obtain⟨g',l,R',hc⟩:=hs B g w R;refine⟨g',l,R',fun u hu=> ?_⟩;have hu:bl g c u:=hu;have Nn:=hu.Cl;obtain⟨u1,u2,nb,e,hP,hO,hr,hf,hL⟩:=hc [u] (0,0) ⟨u,[],rfl,hu,rfl⟩ (iD.none _ _);have xx:u2=[]:=hr;subst xx;rw[aq7]at e;subst e;refine⟨nb,⟨Nn,hP⟩,hO,hf,mu.symm, ?_⟩;rw[AO Nn];rw[mu]at hL;exact hL
   ·cases h2
 |agg sp=>
  cases v with
  |one c=>exact nomatch h
  |agg cs=>
   obtain⟨⟨p1,p2⟩,t,h1,h2⟩:=AM.ah h;simp only at h2;split at h2
   ·obtain⟨rfl,rfl⟩:=ai h2;obtain⟨k,⟨used,eu,lu⟩,hs⟩:=uw _ _ _ _ _ _ _ h1;rw[aq7]at eu;subst eu;refine⟨k,fun B g w R=> ?_⟩;obtain⟨g',l,R',hc⟩:=hs B g w R;refine⟨g',l,R',fun u hu=> ?_⟩;obtain⟨us,rfl,hu⟩:=hu;obtain⟨u1,u2,nb,e,hP,hO,hr,hf,hL⟩:=hc us (0,0) hu (iD.none _ _);have xx:u2=[]:=hr;subst xx;rw[aq7]at e;subst e;refine⟨nb,⟨us,rfl,hP⟩,hO,hf,lu, ?_⟩;have:cs.take sp.size=cs:=(by rw[←lu,List.take_length]);rw[this]at hL;exact hL
   ·cases h2
theorem qC.mono {aK cZ:Rd}(h:∀b L,aK b=some L→cZ b=some L){w:World}{a:VSp}{x:a.sp.ty.den}{u:Value}{nb:List Nat}(k:qC aK w a x u nb):qC cZ w a x u nb:=by
 cases a with
 |one s=>exact⟨k.1,Pass.mono h k.2⟩
 |agg s=>obtain⟨us,e,k⟩:=k;exact⟨us,e,Pass.mono h k⟩
theorem ql:∀{as:List VSp}{vs:List Val}{s s':St}{x:(b9 as).den},(A0 as vs).run s=some (x,s')→iU s s'∧∀B g w,HRel B g s.hp w→∃g',Lk g g'∧HRel B g' s'.hp w∧∀us,eX g vs us→
  ∃nb,gg g'.aK w as x us nb∧dI g' nb∧(∀b∈nb,g.dn b≠some 0)∧mP s'.hp g' w as vs us
 |[],vs,s,s',x,h=>by
  cases vs with
  |nil=>
   obtain⟨rfl,rfl⟩:=ai h;exact⟨iU.refl _,fun B g w R=>⟨g,Lk.refl g,R,fun us hu=>⟨[],⟨hu,rfl⟩,⟨as2,fun b hb=>by simp at hb⟩,fun b hb=>by simp at hb,rfl,hu⟩⟩⟩
  |cons v r=>exact nomatch h
 |a::as,vs,s,s',x,h=>by
  cases vs with
  |nil=>exact nomatch h
  |cons v r=>
   obtain⟨p,t,h1,h2⟩:=AM.ah h;obtain⟨q,t2,h3,h4⟩:=AM.ah h2;obtain⟨rfl,rfl⟩:=ai h4;obtain⟨k1,s1⟩:=Bv h1;obtain⟨k2,s2⟩:=ql h3;refine⟨k1.trans k2,fun B g w R=> ?_⟩;obtain⟨g1,l1,R1,c1⟩:=s1 B g w R;obtain⟨g2,l2,R2,c2⟩:=s2 B g1 w R1;refine⟨g2,l1.trans l2,R2,fun us hu=> ?_⟩;obtain⟨u,Jy,rfl,nw,xx⟩:=hu;obtain⟨n1,P1,O1,f1,z1,L1⟩:=c1 u nw;obtain⟨n2,P2,O2,f2,L2⟩:=c2 Jy (xx.mono l1.le);refine⟨n1++n2,⟨u,Jy,n1,n2,rfl,rfl,P1.mono l2.le.aK,P2⟩,dI.append l2 O1 O2 f2,fun b hb=> ?_,v,r,u,Jy,rfl,rfl,z1,L1.mono l2.le (fun id gn cs hl=>⟨k2.2 id gn cs hl,by rw[l2.out]⟩) R1.sZ,L2⟩
   rcases aq6.1 hb with hb|hb
   ·exact f1 b hb
   ·exact fun e=>f2 b hb (l1.kp b e).1
def RW (sp:Sp)(x:sp.oA.den)(cells:List Cell)(s:St)(rest:List Cell)(s':St):Prop:=
 s'.env=s.env∧rest=cells.drop sp.size∧∀B g w0 w,HRel B g s.hp w→∀us nb,mr s.hp g w0 sp (cells.take sp.size) us→zO g.aK w0 w sp x us nb→dI g nb→(∀b∈nb,g.dU b=none)→
  ∃g',Le g g'∧(∀x,x∉nb→g'.dn x=g.dn x∧g'.dU x=g.dU x)∧HRel B g' s'.hp w∧
   ∀i gn cs b o,look s.hp i=some (.iu gn cs)→g.cv i gn= .pointer (some ⟨b,o,none⟩)→b∉nb→look s'.hp i=some (.iu gn cs)∧g'.outer i=g.outer i
theorem qG {aK cZ:Rd}(h:∀b L,aK b=some L→cZ b=some L){w0 w:World}:∀{s:Sp}{x:s.oA.den}{us:List Value}{nb:List Nat},zO aK w0 w s x us nb→zO cZ w0 w s x us nb
 | .un,_,_,_,k=>k
 | .pr _ _,_,_,_,⟨n1,n2,e,k1,k2⟩=>⟨n1,n2,e,qG h k1,qG h k2⟩
 | .dC _,_,_,_,k=>k
 | .own _ _,_,_,_,k=>k
 | .ptr _ _ _,x,_,_,k=>nr.mono h (s:= .ptr _ _ _) (x:=x) k
 | .lnd _ _,x,_,_,k=>nr.mono h (s:= .lnd _ _) (x:=x) (pl:=(0,0)) k
 | .s8,_,_,_,k=>k
 | .yK _,_,_,_,k=>k
 | .err,_,_,_,k=>k
 | .np,_,_,_,k=>k
 | .slf _ _,_,_,_,k=>k
theorem xg {hp Bb:List (Nat×Obj)}{g g':Gh}{aK:Rd}{w0 w:World}(l:Le g g')(ht:∀id gn cs,look hp id=some (.iu gn cs)→gn<g.top id):
  ∀{s:Sp} {x:s.oA.den} {cs:List Cell} {us:List Value} {nb:List Nat},(∀i gn cs b o,look hp i=some (.iu gn cs)→g.cv i gn= .pointer (some ⟨b,o,none⟩)→b∈nb→look Bb i=some (.iu gn cs)∧g'.outer i=g.outer i)→
   zO aK w0 w s x us nb→mr hp g w0 s cs us→mr Bb g' w0 s cs us
 | .un,_,_,_,_,_,_,_=>trivial
 | .dC _,_,_,_,_,_,_,_=>trivial
 | .own _ _,_,_,_,_,_,_,_=>trivial
 | .err,_,_,_,_,_,_,_=>trivial
 | .np,_,_,_,_,_,_,_=>trivial
 | .slf _ _,_,_,_,_,_,_,_=>trivial
 | .pr _ _,_,_,_,_,ho,⟨n1,n2,e',k1,k2⟩,⟨h1,h2⟩=>by
  subst e';exact⟨xg l ht (fun i gn cs b o a1 a2 a3=>ho i gn cs b o a1 a2 (ar3 _ a3)) k1 h1,xg l ht (fun i gn cs b o a1 a2 a3=>ho i gn cs b o a1 a2 (ar0 _ a3)) k2 h2⟩
 | .s8,_,_,_,_,_,_,_=>trivial
 | .yK _,_,_,_,_,_,_,_=>trivial
 | .ptr _ _ _,x,_,_,_,ho,k,h=>mr.FQ (s:= .ptr _ _ _) (x:=x) l ht ho k h
 | .lnd _ _,x,_,_,_,ho,k,h=>mr.FQ (s:= .lnd _ _) (x:=x) (pl:=(0,0)) l ht ho k h
theorem HN:∀(sp:Sp)(x:sp.oA.den)(cells:List Cell)(s:St)(rest:List Cell)(s':St),(L8 sp x cells).run s=some (rest,s')→RW sp x cells s rest s':=by
 intro sp
 have one:∀(sp:Sp) (x:sp.oA.den) (c:Cell) (cs:List Cell) (s:St) (rest:List Cell) (s':St),sp.size=1→(∀aK w0 w us nb,zO aK w0 w sp x us nb→nb=[])→(AM.ret cs).run s=some (rest,s')→RW sp x (c::cs) s rest s':=by
  intro sp x c cs s rest s' hs ho h;obtain⟨rfl,rfl⟩:=ai h;refine⟨rfl,by rw[hs];rfl,fun B g w0 w R us nb hL hO hp hn=> ?_⟩;obtain rfl:=ho _ _ _ _ _ hO;exact⟨g,Le.refl g,fun _ _=>⟨rfl,rfl⟩,R,fun i gn cs b o h _ _=>⟨h,rfl⟩⟩
 induction sp with
 |un=>
  intro x cells s rest s' h;obtain⟨rfl,rfl⟩:=ai h;refine⟨rfl,rfl,fun B g w0 w R us nb hL hO hp hn=> ?_⟩;have hO:nb=[]:=hO;subst hO;exact⟨g,Le.refl g,fun _ _=>⟨rfl,rfl⟩,R,fun i gn cs b o h _ _=>⟨h,rfl⟩⟩
 |dC τ=>intro x cells s rest s' h;cases cells with|nil=>exact nomatch h|cons c cs=>exact one _ x c cs s rest s' rfl (fun _ _ _ _ _ h=>h) h
 |own τ dp=>intro x cells s rest s' h;cases cells with|nil=>exact nomatch h|cons c cs=>exact one _ x c cs s rest s' rfl (fun _ _ _ _ _ h=>h) h
 |err=>intro x cells s rest s' h;cases cells with|nil=>exact nomatch h|cons c cs=>exact one _ x c cs s rest s' rfl (fun _ _ _ _ _ h=>h) h
 |np=>intro x cells s rest s' h;cases cells with|nil=>exact nomatch h|cons c cs=>exact one _ x c cs s rest s' rfl (fun _ _ _ _ _ h=>h) h
 |slf f m=>intro x cells s rest s' h;cases cells with|nil=>exact nomatch h|cons c cs=>exact one _ x c cs s rest s' rfl (fun _ _ _ _ _ h=>h) h
 |pr a b vo vn=>
  intro x cells s rest s' h;obtain⟨r,t,h1,h2⟩:=AM.ah h;obtain⟨ea,ra,sa⟩:=vo _ _ _ _ _ h1;obtain⟨eb,rb,sb⟩:=vn _ _ _ _ _ h2;refine⟨eb.trans ea,by rw[rb,ra,List.drop_drop],fun B g w0 w R us nb hL hO hp hn=> ?_⟩;obtain⟨n1,n2,rfl,B1,B2⟩:=hO;obtain⟨L1,L2⟩:=hL;have mG:=as7.1 hp.1
  have hd:∀y∈n2,y∉n1:=fun y h2 h1=>mG.2.2 y h1 y h2 rfl
  have e1:((cells.take (a.size+b.size)).take a.size)=cells.take a.size:=by rw[List.take_take];congr 1;omega
  have e2:((cells.take (a.size+b.size)).drop a.size)=r.take b.size:=by rw[ra,List.drop_take];congr 1;omega
  have Zz:mr s.hp g w0 a (cells.take a.size) (us.take a.size):=by rw[←e1];exact L1
  have Yg:mr s.hp g w0 b (r.take b.size) (us.drop a.size):=by rw[←e2];exact L2
  obtain⟨g1,l1,k1,R1,t1⟩:=sa B g w0 w R _ _ Zz B1 ⟨mG.1,fun y hy=>hp.2 y (ar3 _ hy)⟩ (fun y hy=>hn y (ar3 _ hy));have L3:mr t.hp g1 w0 b (r.take b.size) (us.drop a.size):=xg l1 R.sZ (fun i gn cs b' o a1 a2 a3=>t1 i gn cs b' o a1 a2 (hd b' a3)) B2 Yg
  obtain⟨g2,l2,k2,R2,YY⟩:=sb B g1 w0 w R1 _ _ L3 (qG l1.aK B2) ⟨mG.2.1,fun y hy=>by rw[(k1 y (hd y hy)).1];exact hp.2 y (ar0 _ hy)⟩
   (fun y hy=>by rw[(k1 y (hd y hy)).2];exact hn y (ar0 _ hy))
  refine⟨g2,l1.trans l2,fun y hy=> ?_,R2,fun i gn cs b' o hi kX hb=> ?_⟩
  ·rw[aq6,not_or]at hy;obtain⟨a1,a2⟩:=k1 y hy.1;obtain⟨b1,b2⟩:=k2 y hy.2;exact⟨b1.trans a1,b2.trans a2⟩
  ·rw[aq6,not_or]at hb;obtain⟨a1,a2⟩:=t1 i gn cs b' o hi kX hb.1;obtain⟨b1,b2⟩:=YY i gn cs b' o a1 ((l1.cv _ _ (R.sZ _ _ _ hi)).trans kX) hb.2;exact⟨b1,b2.trans a2⟩
 |yK ok=>
  intro x cells s rest s' h
  cases cells with
  |nil=>exact nomatch h
  |cons c cs=>exact one (.yK ok) x c cs s rest s' rfl (fun _ _ _ _ _ k=>k) h
 |s8=>
  intro x cells s rest s' h
  cases cells with
  |nil=>exact nomatch h
  |cons c cs=>
   cases cs with
   |nil=>exact nomatch h
   |cons c2 cs=>
    obtain⟨rfl,rfl⟩:=ai h;refine⟨rfl,rfl,fun B g w0 w R us nb hL hO hp hn=> ?_⟩;have hO:nb=[]:=hO;subst hO;exact⟨g,Le.refl g,fun _ _=>⟨rfl,rfl⟩,R,fun i gn cs b o h _ _=>⟨h,rfl⟩⟩
 |ptr wh st sp _=>
  intro x cells s rest s' h
  cases cells with
  |nil=>exact nomatch h
  |cons c cs=>
   obtain⟨⟨p1,p2,p3⟩,t,h1,h2⟩:=AM.ah h;obtain⟨rfl,rfl⟩:=ai h2;obtain⟨e1,_,s1⟩:=ss (.ptr wh st sp) x _ _ _ _ _ _ _ _ h1;refine⟨e1,rfl,fun B g w0 w R us nb hL hO hp hn=> ?_⟩;obtain⟨g',l,k,R',_,t'⟩:=s1 B g w0 w R (0,0) us us nb (iD.none _ _) hL hO hp hn;exact⟨g',l,k,R',t'⟩
 |lnd τ dp=>
  intro x cells s rest s' h
  cases cells with
  |nil=>exact nomatch h
  |cons c cs=>
   obtain⟨⟨p1,p2,p3⟩,t,h1,h2⟩:=AM.ah h;obtain⟨rfl,rfl⟩:=ai h2;obtain⟨e1,_,s1⟩:=ss (.lnd τ dp) x _ _ _ _ _ _ _ _ h1;refine⟨e1,rfl,fun B g w0 w R us nb hL hO hp hn=> ?_⟩;obtain⟨g',l,k,R',_,t'⟩:=s1 B g w0 w R (0,0) us us nb (iD.none _ _) hL hO hp hn;exact⟨g',l,k,R',t'⟩
end Go.Abs
end

section
namespace Go.Abs
theorem xI {hp Bb:List (Nat×Obj)}{g g':Gh}{aK:Rd}{w0 w:World}(l:Le g g')(ht:∀id gn cs,look hp id=some (.iu gn cs)→gn<g.top id):
  ∀{as:List VSp} {x:(oN as).den} {vs:List Val} {us:List Value} {nb:List Nat},(∀i gn cs b o,look hp i=some (.iu gn cs)→g.cv i gn= .pointer (some ⟨b,o,none⟩)→b∈nb→look Bb i=some (.iu gn cs)∧g'.outer i=g.outer i)→
   kn aK w0 w as x us nb→mP hp g w0 as vs us→mP Bb g' w0 as vs us
 |[],_,_,_,_,_,_,h=>h
 |_::_,x,_,_,_,ho,⟨u,r,n1,n2,e,e',k1,k2⟩,⟨v,q,u',r',e1,e2,hl,h1,h2⟩=>by
  subst e';rw[e]at e2
  injection e2 with e2 e3
  subst e2;subst e3;exact⟨v,q,u,r,e1,e,hl,xg l ht (fun i gn cs b o a1 a2 a3=>ho i gn cs b o a1 a2 (ar3 _ a3)) k1 h1,xI l ht (fun i gn cs b o a1 a2 a3=>ho i gn cs b o a1 a2 (ar0 _ a3)) k2 h2⟩
theorem xE {aK cZ:Rd}(h:∀b L,aK b=some L→cZ b=some L){w0 w:World}:∀{as:List VSp}{x:(oN as).den}{us:List Value}{nb:List Nat},kn aK w0 w as x us nb→kn cZ w0 w as x us nb
 |[],_,_,_,k=>k
 |_::_,_,_,_,⟨u,r,n1,n2,e,e',k1,k2⟩=>⟨u,r,n1,n2,e,e',qG h k1,xE h k2⟩
theorem xN:∀{as:List VSp}{x:(oN as).den}{vs:List Val}{s s':St},(Cn as x vs).run s=some ((),s')→s'.env=s.env∧∀B g w0 w,HRel B g s.hp w→∀us nb,mP s.hp g w0 as vs us→kn g.aK w0 w as x us nb→dI g nb→(∀b∈nb,g.dU b=none)→
  ∃g',Le g g'∧(∀x,x∉nb→g'.dn x=g.dn x∧g'.dU x=g.dU x)∧HRel B g' s'.hp w
 |[],x,vs,s,s',h=>by
  cases vs with
  |nil=>
   obtain⟨_,rfl⟩:=ai h;exact⟨rfl,fun B g w0 w R us nb _ _ _ _=>⟨g,Le.refl g,fun _ _=>⟨rfl,rfl⟩,R⟩⟩
  |cons v r=>exact nomatch h
 |a::as,x,vs,s,s',h=>by
  cases vs with
  |nil=>exact nomatch h
  |cons v r=>
   obtain⟨rest,t,h1,h2⟩:=AM.ah h;obtain⟨e1,_,s1⟩:=HN _ _ _ _ _ _ h1;obtain⟨e2,s2⟩:=xN h2;refine⟨e2.trans e1,fun B g w0 w R us nb hL hO hp hn=> ?_⟩;obtain⟨v',r',u,q,ev,eu,hl,L1,L2⟩:=hL
   injection ev with ag8 ad7
   subst ag8;subst ad7;obtain⟨u',q',n1,n2,ab3,rfl,O1,O2⟩:=hO;rw[eu]at ab3
   injection ab3 with Vn al2
   subst Vn;subst al2;have mG:=as7.1 hp.1
   have hd:∀y∈n2,y∉n1:=fun y h2 h1=>mG.2.2 y h1 y h2 rfl
   have ht:v.cells.take a.sp.size=v.cells:=(by rw[←hl,List.take_length]);obtain⟨g1,l1,k1,R1,t1⟩:=s1 B g w0 w R _ n1 (by rw[ht];exact L1) O1 ⟨mG.1,fun y hy=>hp.2 y (ar3 _ hy)⟩ (fun y hy=>hn y (ar3 _ hy));have L3:=xI l1 R.sZ (fun i gn cs b' o a1 a2 a3=>t1 i gn cs b' o a1 a2 (hd b' a3)) O2 L2
   obtain⟨g2,l2,k2,R2⟩:=s2 B g1 w0 w R1 _ n2 L3 (xE l1.aK O2) ⟨mG.2.1,fun y hy=>by rw[(k1 y (hd y hy)).1];exact hp.2 y (ar0 _ hy)⟩
    (fun y hy=>by rw[(k1 y (hd y hy)).2];exact hn y (ar0 _ hy))
   refine⟨g2,l1.trans l2,fun y hy=> ?_,R2⟩;rw[aq6,not_or]at hy;obtain⟨a1,a2⟩:=k1 y hy.1;obtain⟨b1,b2⟩:=k2 y hy.2;exact⟨b1.trans a1,b2.trans a2⟩
theorem xd {aK:Rd}{hp:List (Nat×Obj)}{g:Gh}{w0 w1 w:World}:∀{s:Sp}{x:s.ty.den}{pl:Nat×Nat}{new:List Value}{nb:List Nat},nr aK w0 w s x pl [] new nb→mr hp g w1 s [] []
 | .un,_,_,_,_,_=>trivial
 | .dC _,_,_,_,_,_=>trivial
 | .own _ _,_,_,_,_,_=>trivial
 | .s8,_,_,_,_,_=>trivial
 | .yK _,_,_,_,_,_=>trivial
 | .err,_,_,_,_,_=>trivial
 | .np,_,_,_,_,_=>trivial
 | .slf _ _,_,_,_,_,_=>trivial
 | .lnd _ _,_,_,_,_,k=>by
  obtain⟨rfl,k⟩:=k;have:=k.length;simp at this
 | .pr _ _,_,_,_,_,⟨u1,u2,n1,n2,e,e',k1,k2⟩=>by
  rw[List.take_nil]at k1;rw[List.drop_nil]at k2;refine⟨?_, ?_⟩
  ·rw[List.take_nil,List.take_nil];exact xd k1
  ·rw[List.drop_nil,List.drop_nil];exact xd k2
 | .ptr _ _ _,_,_,_,_,⟨b,o,ku,EN,arr,L,mc,e,_⟩=>by cases e
theorem zf {a:VSp}{x:a.sp.ty.den}{n n':Nat}{v:Val}{s s':St}(h:(KB a x n).run s=some ((v,n'),s')):s'.env=s.env∧∀B g w,HRel B g s.hp w→∀u nb,wB g.aK w a x u nb→dI g nb→(∀b∈nb,g.dU b=none)→
  ∃g',Le g g'∧(∀x,x∉nb→g'.dn x=g.dn x∧g'.dU x=g.dU x)∧HRel B g' s'.hp w∧dT g' v u:=by
 cases a with
 |one sp=>
  obtain⟨⟨p1,p2,p3⟩,t,h1,h2⟩:=AM.ah h;simp only at h2;split at h2
  ·obtain⟨h3,rfl⟩:=ai h2
   injection h3 with h3 h4
   subst h3;obtain⟨e1,_,s1⟩:=ss sp x _ _ _ _ _ _ _ _ h1;refine⟨e1,fun B g w R u nb hR hp hn=> ?_⟩;obtain⟨g',l,k,R',hc,_⟩:=s1 B g w w R (0,0) [] [u] nb (iD.none _ _) (by rw[List.take_nil];exact xd hR.2) hR.2 hp hn;obtain⟨u',r,e,hu,hr⟩:=hc
   injection e with e _
   subst e;exact⟨g',l,k,R',hu⟩
  ·cases h2
 |agg sp=>
  obtain⟨⟨p1,p2,p3⟩,t,h1,h2⟩:=AM.ah h;obtain⟨h3,rfl⟩:=ai h2
  injection h3 with h3 h4
  subst h3;obtain⟨e1,_,s1⟩:=ss sp x _ _ _ _ _ _ _ _ h1;refine⟨e1,fun B g w R u nb hR hp hn=> ?_⟩;obtain⟨us,rfl,hB⟩:=hR;obtain⟨g',l,k,R',hc,_⟩:=s1 B g w w R (0,0) [] us nb (iD.none _ _) (by rw[List.take_nil];exact xd hB) hB hp hn;exact⟨g',l,k,R',us,rfl,hc⟩
theorem Bl {aK cZ:Rd}(h:∀b L,aK b=some L→cZ b=some L){w:World}{a:VSp}{x:a.sp.ty.den}{u:Value}{nb:List Nat}(k:wB aK w a x u nb):wB cZ w a x u nb:=by
 cases a with
 |one s=>exact⟨k.1,nr.mono h k.2⟩
 |agg s=>obtain⟨us,e,k⟩:=k;exact⟨us,e,nr.mono h k⟩
theorem ui {aK cZ:Rd}(h:∀b L,aK b=some L→cZ b=some L){w:World}:∀{as:List VSp}{x:(b9 as).den}{us:List Value}{nb:List Nat},qz aK w as x us nb→qz cZ w as x us nb
 |[],_,_,_,k=>k
 |_::_,_,_,_,⟨u,r,n1,n2,e,e',k1,k2⟩=>⟨u,r,n1,n2,e,e',Bl h k1,ui h k2⟩
theorem xM:∀{as:List VSp}{x:(b9 as).den}{n:Nat}{vs:List Val}{s s':St},(GO as x n).run s=some (vs,s')→s'.env=s.env∧∀B g w,HRel B g s.hp w→∀us nb,qz g.aK w as x us nb→dI g nb→(∀b∈nb,g.dU b=none)→
  ∃g',Le g g'∧HRel B g' s'.hp w∧eX g' vs us
 |[],x,n,vs,s,s',h=>by
  obtain⟨rfl,rfl⟩:=ai h;exact⟨rfl,fun B g w R us nb hR _ _=>⟨g,Le.refl g,R,hR.1⟩⟩
 |a::as,x,n,vs,s,s',h=>by
  obtain⟨⟨p1,p2⟩,t,h1,h2⟩:=AM.ah h;obtain⟨q,t2,h3,h4⟩:=AM.ah h2;obtain⟨rfl,rfl⟩:=ai h4;obtain⟨e1,s1⟩:=zf h1;obtain⟨e2,s2⟩:=xM h3;refine⟨e2.trans e1,fun B g w R us nb hR hp hn=> ?_⟩;obtain⟨u,r,n1,n2,rfl,rfl,k1,k2⟩:=hR;have mG:=as7.1 hp.1
  have hd:∀y∈n2,y∉n1:=fun y h2 h1=>mG.2.2 y h1 y h2 rfl
  obtain⟨g1,l1,t1,R1,c1⟩:=s1 B g w R u n1 k1 ⟨mG.1,fun y hy=>hp.2 y (ar3 _ hy)⟩ (fun y hy=>hn y (ar3 _ hy))
  obtain⟨g2,l2,R2,c2⟩:=s2 B g1 w R1 r n2 (ui l1.aK k2) ⟨mG.2.1,fun y hy=>by rw[(t1 y (hd y hy)).1];exact hp.2 y (ar0 _ hy)⟩
   (fun y hy=>by rw[(t1 y (hd y hy)).2];exact hn y (ar0 _ hy))
  exact⟨g2,l1.trans l2,R2,u,r,rfl,c1.mono l2,c2⟩
theorem Dt {aK cZ:Rd}(h:∀b L,aK b=some L→cZ b=some L){w:World}{r:RSp}{x:r.ty.den}{v:Value}{nb:List Nat}(k:wG aK w r x v nb):wG cZ w r x v nb:=by
 cases r with
 |val a=>exact Bl h k
 |ta as=>obtain⟨us,e,k⟩:=k;exact⟨us,e,ui h k⟩
 |none=>exact k
theorem E1 {r:RSp}{x:r.ty.den}{n:Nat}{sl:Slot}{s s':St}(h:(GL r x n).run s=some (sl,s')):s'.env=s.env∧∀B g w,HRel B g s.hp w→∀v nb,wG g.aK w r x v nb→dI g nb→(∀b∈nb,g.dU b=none)→
  ∃g',Le g g'∧HRel B g' s'.hp w∧dc g' sl v:=by
 cases r with
 |val a=>
  obtain⟨⟨p1,p2⟩,t,h1,h2⟩:=AM.ah h;obtain⟨rfl,rfl⟩:=ai h2;obtain⟨e1,s1⟩:=zf h1;refine⟨e1,fun B g w R v nb hR hp hn=> ?_⟩;obtain⟨g',l,_,R',hv⟩:=s1 B g w R v nb hR hp hn;exact⟨g',l,R',hv⟩
 |ta as=>
  obtain⟨p,t,h1,h2⟩:=AM.ah h;obtain⟨rfl,rfl⟩:=ai h2;obtain⟨e1,s1⟩:=xM h1;refine⟨e1,fun B g w R v nb hR hp hn=> ?_⟩;obtain⟨us,rfl,hR⟩:=hR;obtain⟨g',l,R',hv⟩:=s1 B g w R us nb hR hp hn;exact⟨g',l,R',us,rfl,hv⟩
 |none=>
  obtain⟨rfl,rfl⟩:=ai h;exact⟨rfl,fun B g w R v nb hR hp hn=>⟨g,Le.refl g,R,[],by rw[hR.1],rfl⟩⟩
theorem iE.mono {P:Program}{f:FuncId}{args:Array Value}{w:World}{R R':Value→World→Prop}(h:∀v w',R v w'→R' v w')(k:iE P f args w R):iE P f args w R':=by
 unfold iE at k⊢;split
 ·rename_i he;rw[he]at k
  exact Calls.mono k fun e w' ⟨v,e1,hr⟩=>⟨v,e1,h _ _ hr⟩
 ·rename_i he;rw[he]at k;exact h _ _ k
 ·rename_i h1 h2;split at k
  ·rename_i he;exact h1 _ _ _ he
  ·rename_i he;exact h2 _ _ he
  ·exact k
theorem QX {α:Type}(c:Ty)(x:Option c.den)(k:c.den→AM α)(s:St):(AM.opt c x k).run s=x.bind fun d=>(k d).run s:=by cases x<;>rfl
theorem By {P:Program}{fb:Nat→Option (List Cell)}{f:FuncId}{c:Callee}{dd:Nat}{vs:List Val}{s s':St}{sl:Slot}{chk:AM Unit}(Uh:∀t t',chk.run t=some ((),t')→t'=t)(hc:uB P fb f c)(h:(R7 chk c dd vs).run s=some (sl,s')):
  s'.env=s.env∧∃t1:St,t1.env=s.env∧chk.run t1=some ((),t1)∧∀B g w,ik fb g.aK→HRel B g s.hp w→∀us,eX g vs us→(∀g1 nb,Le g g1→HRel B g1 t1.hp w→dI g1 nb→BB c.sig.args g1.aK w nb us)→iE P f us.toArray w fun v w'=>∃g',Le g g'∧HRel B g' s'.hp w'∧dc g' sl v:=by
 obtain⟨x,t1,h1,h2⟩:=AM.ah h;obtain⟨⟨⟩,t1',ZH,h2a⟩:=AM.ah h2;obtain rfl:=Uh _ _ ZH;have h2:=(QX _ _ _ _).symm.trans h2a
 cases hF:c.F x with
 |none=>rw[hF]at h2;cases h2
 |some y=>
  rw[hF]at h2;obtain⟨⟨⟩,t2,h3,h4⟩:=AM.ah h2;obtain⟨k1,s1⟩:=ql h1;obtain⟨e2,s2⟩:=xN h3;obtain⟨e3,s3⟩:=E1 h4;refine⟨(e3.trans e2).trans k1.1,_,k1.1,ZH,fun B g w hG R us hu hS=> ?_⟩;obtain⟨g1,l1,R1,c1⟩:=s1 B g w R;obtain⟨nb,hP,hO,hf,hL⟩:=c1 us hu
  have nu:∀b L,g1.aK b=some L→∃arr ty fr,w.heap[b]?=some (.cells arr ty fr)∧arr.toList=L:=fun b L hb=>(R1.aK b L hb).2.2
  have sG:∀b∈nb,g1.aK b=none∧b<w.heap.size:=fun b hb=>by
   have hl:=hO.2 b hb;refine⟨?_,R1.dR b (by rw[hl];simp)⟩
   cases hi:g1.aK b with
   |none=>rfl
   |some L=>have:=(R1.aK b L hi).1;rw[hl]at this;cases this
  refine iE.mono ?_ (hc x y hF g1.aK w us nb (hG.mono l1.le.aK) nu hP hO.1 sG (hS g1 nb l1.le R1 hO));rintro v w' ⟨cZ,n1,n2,A,hR,hOut⟩;obtain⟨l2,R2,RR,Fi⟩:=R1.after hO A;have al4:mP t1'.hp (g1.after nb cZ (n1++n2)) w c.sig.args vs us:=hL.mono l2 (fun id gn cs hl=>⟨hl,rfl⟩) R1.sZ;have mG:=as7.1 RR.1
  have hd:∀y∈n1,y∉n2:=fun y h1 h2=>mG.2.2 y h1 y h2 rfl
  obtain⟨g3,l3,k3,R3⟩:=s2 B _ w w' R2 us n2 al4 hOut ⟨mG.2.1,fun y hy=>RR.2 y (ar0 _ hy)⟩ (fun y hy=>Fi y (ar0 _ hy));have ak2:wG g3.aK w' c.sig.res y.1 v n1:=Dt l3.aK hR;obtain⟨g4,l4,R4,hs⟩:=s3 B g3 w' R3 v n1 ak2 ⟨mG.1,fun y hy=>by rw[(k3 y (hd y hy)).1];exact RR.2 y (ar3 _ hy)⟩ (fun y hy=>by rw[(k3 y (hd y hy)).2];exact Fi y (ar3 _ hy));exact⟨g4,((l1.le.trans l2).trans l3).trans l4,R4,hs⟩
theorem J7 {P:Program}{fb:Nat→Option (List Cell)}{f:FuncId}{c:Callee}{dd:Nat}{vs:List Val}{s s':St}{sl:Slot}(hc:rM P fb f c)(hn:uZ c.sig.args=none)(h:(call c dd vs).run s=some (sl,s')):
  s'.env=s.env∧∀B g w,ik fb g.aK→HRel B g s.hp w→∀us,eX g vs us→iE P f us.toArray w fun v w'=>∃g',Le g g'∧HRel B g' s'.hp w'∧dc g' sl v:=by
 obtain⟨e,t1,_,_,hs⟩:=By (chk:= .ret ()) (fun t t' k=>(ai k).2) hc.slf h;exact⟨e,fun B g w hG R us hu=>hs B g w hG R us hu fun _ _ _ _ _=>BB.none hn⟩
end Go.Abs
end

section
namespace Go.Abs
theorem oQ.snoc {r:Rd}{τ:Ty}{p:Int×τ.den}{e:MapEntry}(hk:e.key= .int .i64 p.1)(hv:Rc r τ p.2 [e.val]):∀{xs:List (Int×τ.den)}{es:List MapEntry},oQ r τ xs es→oQ r τ (xs++[p]) (es++[e])
 |[],es,h=>by
  have h:es=[]:=h;subst h;exact⟨e,[],rfl,hk,hv,rfl⟩
 |_::_,_,⟨e',r',h1,h2,h3,h4⟩=>⟨e',r'++[e],by rw[h1];rfl,h2,h3,oQ.snoc hk hv h4⟩
theorem zt {r:Rd}{τ:Ty}{K:IntKind}{n:Int}:∀{xs:List (Int×τ.den)}{es:List MapEntry}(i:Nat),oQ r τ xs es→(xs.any fun p=>decide (p.1=n))=false→Instr.findNow (.int K) (.int .i64 n) es i=some none
 |[],es,i,h,_=>by
  have h:es=[]:=h;subst h;rfl
 |p::xs,es,i,⟨e,r',h1,h2,h3,h4⟩,hn=>by
  subst h1;simp only[List.any_cons,Bool.or_eq_false_iff,ao5]at hn
  have hb:(n==p.1)=false:=by simpa using fun e:n=p.1=>hn.1 e.symm
  have ih:=zt (K:=K) (i+1) h4 hn.2;simp[Instr.findNow,Instr.sameNow,h2,hb,ih]
theorem Bw {r:Rd}{τ:Ty}{K:IntKind}{n:Int}(z:τ.den):∀{xs:List (Int×τ.den)}{es:List MapEntry}(i:Nat),oQ r τ xs es→
  (Instr.findNow (.int K) (.int .i64 n) es i=some none∧Jg z xs n=z)∨∃j v,Instr.findNow (.int K) (.int .i64 n) es i=some (some (j,v))∧Rc r τ (Jg z xs n) [v]
 |[],es,i,h=>by
  have h:es=[]:=h;subst h;exact .inl ⟨rfl,rfl⟩
 |p::xs,es,i,⟨e,r',h1,h2,h3,h4⟩=>by
  subst h1;unfold Jg
  by_cases hb:n=p.1
  ·rw[an8 hb];have EC:(n==p.1)=true:=(by simpa using hb);exact .inr ⟨i,e.val,by simp[Instr.findNow,Instr.sameNow,h2,EC],h3⟩
  ·rw[an6 hb];have EC:(n==p.1)=false:=(by simpa using hb)
   rcases Bw (K:=K) z (i+1) h4 with⟨k1,k2⟩|⟨j,v,k1,k2⟩
   ·exact .inl ⟨by simp[Instr.findNow,Instr.sameNow,h2,EC,k1],k2⟩
   ·exact .inr ⟨j,v,by simp[Instr.findNow,Instr.sameNow,h2,EC,k1],k2⟩
theorem AF {E:Env}{t e:TypeId}(h:mapKey E t=some e):∃k,E.P.underlying t=some (.map k e)∧E.P.underlying k=some (.int .i64):=by
 unfold mapKey at h;split at h
 ·rename_i k e' hu;split at h
  ·rename_i hk
   injection h with h
   subst h;exact⟨k,hu,hk⟩
  ·cases h
 ·cases h
theorem HRel.Tu {B:Base}{g:Gh}{hp:List (Nat×Obj)}{w:World}(R:HRel B g hp w){id:Nat}{τ:Ty}(h1:τ.one=true):
  ∃g',Le g g'∧HRel B g' ((id, .mp (g.top id) τ [])::hp) (World.more w (.map #[] 0))∧dc g' (.val (.one (.own id (g.top id)))) (.map (some w.heap.size)):=by
 have hle:=R.Cu (id:=id) (b:=w.heap.size) (u:= .map (some w.heap.size)) (nb:=[]) (out:=[]) rfl;refine⟨_,hle,R.install rfl R.pF (uA w _) (fun x hx=>by simp at hx) rfl ?_, ?_⟩
 ·exact⟨h1,w.heap.size,#[],0,by simp[Gh.inst],by simp[Gh.inst],R.pF.dU,zD w _,rfl⟩
 ·exact⟨by simp[Gh.inst],by simp[Gh.inst],rfl⟩
theorem zn {d:Nat}{τ:Ty}{s s':St}{sl:Slot}(h:(bif τ.one then(gR d).bind fun g=>AM.jY d (.mp g τ []) (.ret (Slot.val (.one (.own d g))))else .fail).run s=some (sl,s')):
  s'.env=s.env∧∀{B:Base} {g:Gh} {w:World},HRel B g s.hp w→∃g',Le g g'∧HRel B g' s'.hp (World.more w (.map #[] 0))∧dc g' sl (.map (some w.heap.size)):=by
 obtain⟨h1,h⟩:=bh h;obtain⟨gen,t,h2,h3⟩:=AM.ah h;have mZ:t=s:=(nH h2).1;subst mZ;simp only[AM.run,ar8,as9]at h3;obtain⟨rfl,rfl⟩:=h3;refine⟨rfl,fun{B g w} R=> ?_⟩;obtain⟨rfl,_⟩:=jG R h2;exact R.Tu h1
theorem Fb {E:Env}{t:TypeId}{r:Option Operand}{s s':St}{sl:Slot}{d:Nat}(h:(dW E d (.makeMap t r)).run s=some (sl,s')):Yld E (.makeMap t r) s sl s':=by
 cases r with
 |none=>
  obtain⟨e,t1,h1,h2⟩:=AM.ah h;obtain⟨hm,rfl⟩:=cn h1;obtain⟨τ,t2,h3,h4⟩:=AM.ah h2;obtain rfl:=wy h3;obtain⟨he,hb⟩:=zn h4;refine⟨he,fun o ho B g a w R V=> ?_⟩;obtain⟨g',l,R',hs⟩:=hb R;refine⟨_,_,g', ?_,l,R',hs⟩;unfold execOp;rw[ho]
  apply db
  simp[Instr.makeMap,World.more,newObj,Sem.run,Result.andThen]
 |some x=>
  obtain⟨v,t0,k1,k2⟩:=AM.ah h;obtain⟨e0,r1⟩:=cB k1;obtain⟨n,t1,k3,k4⟩:=AM.ah k2;obtain⟨⟨k,e2⟩,e1⟩:=kx k3;obtain⟨e,t2,k5,k6⟩:=AM.ah k4;obtain⟨hm,e3⟩:=cn k5;obtain⟨τ,t3,k7,k8⟩:=AM.ah k6;have e4:=wy k7;subst e4;subst e3;subst e1;subst e0;subst e2;obtain⟨he,hb⟩:=zn k8;refine⟨he,fun o ho B g a w R V=> ?_⟩;obtain⟨g',l,R',hs⟩:=hb R;have hx:a.eval x= .int k n:=gP (r1 V);obtain⟨kt,hu,_⟩:=AF hm;refine⟨_,_,g', ?_,l,R',hs⟩;unfold execOp;rw[ho]
  apply db
  simp[Instr.makeMap,hx,run_underlying hu,Go.asInt,asIntOf,World.more,newObj,Sem.run,Result.andThen]
theorem EV {w:World}{b:Nat}{o o':Go.Obj}(h:w.heap[b]?=some o):Turned w {w with heap:=w.heap.setIfInBounds b o'} b:=
 ⟨fun x hx=>(MapKept.heap_set h).2 x hx,by simp,by
  have:=(Array.getElem?_eq_some_iff.1 h).1
  simpa using this,rfl,rfl,rfl⟩
theorem Gq {E:Env}{t:TypeId}{m k x:Operand}{s s':St}{sl:Slot}{d:Nat}(h:(dW E d (.insert t m k x)).run s=some (sl,s')):
  s'.env=s.env∧sl= .un∧∀(o:Oper),o.op= .insert t m k x→∀B g a w,HRel B g s.hp w→il g s.env a→
  ∃w' g',(execOp a.eval o).run E.P w= .ok .skip w'∧Le g g'∧HRel B g' s'.hp w':=by
 obtain⟨vm,t1,a1,a2⟩:=AM.ah h;obtain⟨e1,r1⟩:=cB a1;obtain⟨cm,t2,a3,a4⟩:=AM.ah a2;obtain⟨e2,e3⟩:=tH a3;obtain⟨vk,t3,a5,a6⟩:=AM.ah a4;obtain⟨e4,r2⟩:=cB a5;obtain⟨vx,t4,a7,a8⟩:=AM.ah a6;obtain⟨e5,r3⟩:=cB a7;subst e5;subst e4;subst e3;subst e1;subst e2;clear a1 a2 a3 a4 a5 a6 a7 h;have h:=a8;clear a8;split at h
 ·rename_i n τ y;unfold O3 at h;split at h
  ·rename_i id gen;obtain⟨e,t5,b1,b2⟩:=AM.ah h;obtain⟨hm,e6⟩:=cn b1;subst e6;clear b1 h;have h:=b2;clear b2;simp only[AM.run]at h;split at h
   ·rename_i g0 τ' xs heq;obtain⟨hb,k0⟩:=bh h;clear h;simp only[ao3]at hb;have wO:=beq_eq hb.1;subst wO
    by_cases hτ:τ=τ'
    ·subst hτ;rw[dif_pos rfl]at k0;simp only[AM.run,ar8,as9]at k0;obtain⟨rfl,rfl⟩:=k0;refine⟨rfl,rfl,fun o ho B g a w R V=> ?_⟩;obtain⟨h1,b,es,RK,k1,k2,k3,k4,k5⟩:=R.eG _ _ heq
     have XP:a.eval m= .map (some b):=by
      obtain⟨_,e1,_⟩:bl g (.own id g0) (a.eval m):=r1 V;rw[e1,k1]
     have Xt:a.eval k= .int .i64 n:=gP (r2 V);obtain⟨_,hx⟩:bl g (.v τ y) (a.eval x):=r3 V;obtain⟨kt,hu,Uy⟩:=AF hm;have Wp:Instr.findNow (.int .i64) (.int .i64 n) es.toList 0=some none:=zt 0 k5 (by simpa using hb.2);refine⟨_,g.take id [], ?_,Le.take g id [],R.write heq rfl k2 k3 (EV (o':= .map (es.push {key:= .int .i64 n,val:=a.eval x,born:=RK}) (RK+1)) k4) (fun x hx=>by simp at hx) ?_⟩
     ·unfold execOp;rw[ho];simp only[XP,Xt,Instr.mapUpdate,Sem.run_bind,run_underlying hu,Result.andThen_ok,MapKept.run_getObj_map k4];rw[show(10000:Nat)=9999+1 from rfl,MapKept.run_checkKey Uy (show MapKept.IsKey (.int .i64) (.int .i64 n)from rfl)];simp only[Result.andThen_ok,MapKept.run_findKey Uy Wp,MapKept.run_setObj_map _ k4];rfl
     ·refine⟨h1,b,es.push {key:= .int .i64 n,val:=a.eval x,born:=RK},RK+1,k1, ?_,k3,(MapKept.heap_set k4).1, ?_⟩
      ·simpa[Gh.take]using k2
      ·rw[Array.toList_push];exact oQ.snoc rfl hx k5
    ·rw[dif_neg hτ]at k0;cases k0
   ·cases h
  ·cases h
 ·cases h
theorem Gw {E:Env}{t:TypeId}{m k:Operand}{s s':St}{sl:Slot}{d:Nat}(h:(dW E d (.lookup t m k false)).run s=some (sl,s')):Yld E (.lookup t m k false) s sl s':=by
 obtain⟨vm,t1,a1,a2⟩:=AM.ah h;obtain⟨e1,r1⟩:=cB a1;obtain⟨cm,t2,a3,a4⟩:=AM.ah a2;obtain⟨e2,e3⟩:=tH a3;obtain⟨vk,t3,a5,a6⟩:=AM.ah a4;obtain⟨e4,r2⟩:=cB a5;subst e4;subst e3;subst e1;subst e2;clear a1 a2 a3 a4 a5 h;have h:=a6;clear a6;split at h
 ·rename_i n;unfold OB at h;split at h
  ·rename_i id gen;obtain⟨e,t5,b1,b2⟩:=AM.ah h;obtain⟨hm,e6⟩:=cn b1;subst e6;clear b1 h;have h:=b2;clear b2;split at h
   ·rename_i τ0 z hz;simp only[AM.run]at h;split at h
    ·rename_i g0 τ' xs heq;obtain⟨hb,k0⟩:=bh h;clear h;have wO:=beq_eq hb;subst wO
     by_cases hτ:τ0=τ'
     ·subst hτ;rw[dif_pos rfl]at k0;obtain⟨rfl,rfl⟩:=ai k0
      refine Yld.still fun o ho B g a w R V=> ?_
      obtain⟨h1,b,es,RK,k1,k2,k3,k4,k5⟩:=R.eG _ _ heq
      have XP:a.eval m= .map (some b):=by
       obtain⟨_,e1,_⟩:bl g (.own id g0) (a.eval m):=r1 V;rw[e1,k1]
      have Xt:a.eval k= .int .i64 n:=gP (r2 V);obtain⟨kt,hu,Uy⟩:=AF hm;unfold Lq at hz;simp only[as8]at hz;obtain⟨zv,⟨i,hi,Uv⟩,hz⟩:=hz;obtain⟨_,SL⟩:bl g (.v τ0 z) zv:=zk hz g
      rcases Bw (K:= .i64) (n:=n) z 0 k5 with⟨f1,f2⟩|⟨j,v,f1,f2⟩
      ·refine⟨zv, ?_,h1, ?_⟩
       ·unfold execOp;rw[ho]
        apply db
        simp only[XP,Xt,Instr.lookup,Sem.run_bind,run_underlying hu,Result.andThen_ok,MapKept.run_getObj_map k4,Sem.run_pure];rw[show(10000:Nat)=9999+1 from rfl,MapKept.run_checkKey Uy (show MapKept.IsKey (.int .i64) (.int .i64 n)from rfl)];simp only[Result.andThen_ok,MapKept.run_findKey Uy f1];simp[zeroValue,typeInfo,hi,Uv]
       ·rw[f2];exact SL
      ·refine⟨v, ?_,h1,f2⟩;unfold execOp;rw[ho]
       apply db
       simp only[XP,Xt,Instr.lookup,Sem.run_bind,run_underlying hu,Result.andThen_ok,MapKept.run_getObj_map k4,Sem.run_pure];rw[show(10000:Nat)=9999+1 from rfl,MapKept.run_checkKey Uy (show MapKept.IsKey (.int .i64) (.int .i64 n)from rfl)];simp only[Result.andThen_ok,MapKept.run_findKey Uy f1];simp
     ·rw[dif_neg hτ]at k0;cases k0
    ·cases h
   ·cases h
  ·cases h
 ·cases h
end Go.Abs
end

section
namespace Go.Abs
structure EnvOk (E:Env):Prop where
 calls:∀f c,E.callee f=some c→uB E.P E.fb f c
def TO (E:Env)(B:Base):Prop:=∀f ts,E.slf=some (f,ts)→ts≠[]→
 ∃b ty,B.arg (ts.getLastD 0)= .pointer (some ⟨b,0,none⟩)∧B.w.heap[b]?=some (.cells #[.func (.func f) #[] (ts.map B.arg).toArray] ty (0,0))∧B.dn b=none∧B.aK b=none
structure ActRel (E:Env)(B:Base)(g:Gh)(env:List (Nat×Slot))(a:Act):Prop where
 env:il g env a
 size:a.tmps.size=E.nt
 defers:a.defers=[]
 kept:∀t∈E.mS,a.tmps.getD t undef=B.arg t
 slf:TO E B
 ini:E.ini=true→Le B.g0 g
theorem ActRel.mono {E:Env}{B:Base}{g g':Gh}(h:Le g g'){env:List (Nat×Slot)}{a:Act}(H:ActRel E B g env a):ActRel E B g' env a:=⟨H.env.mono h,H.size,H.defers,H.kept,H.slf,fun e=>(H.ini e).trans h⟩
def TF (E:Env)(op:Op)(s:St)(sl:Slot)(s':St):Prop:=
 s'.env=s.env∧∀(o:Oper),o.op=op→∀B g a w,ik E.fb g.aK→HRel B g s.hp w→ActRel E B g s.env a→∀(next:Act→World→Prop) (Q:Exit→Act→World→Prop),
  (∀v w' g',Le g g'→HRel B g' s'.hp w'→dc g' sl v→next (a.put o.dst v) w')→o.wp E.P a w next Q
theorem Yld.ok {E:Env}{op:Op}{s s':St}{sl:Slot}(h:Yld E op s sl s'):TF E op s sl s':=by
 refine⟨h.1,fun o ho B g a w _ R V next Q hn=> ?_⟩;obtain⟨v,w',g',e,l,R',hs⟩:=h.2 o ho B g a w R V.env;unfold Oper.wp;rw[e];exact hn v w' g' l R' hs
theorem wo {g:Gh}:∀{jr:List (Nat×Nat)}{us:List Value},rR g jr us→eX g (jr.map fun p=> .one (.ptr p.1 p.2 0)) us
 |[],_,h=>h
 |p::r,us,⟨b,o,v,e,h1,h2,h3⟩=>⟨_,_,e,⟨h1,b,o,h2,rfl⟩,wo h3⟩
theorem eX.append {g:Gh}:∀{a b:List Val}{us vs:List Value},eX g a us→eX g b vs→eX g (a++b) (us++vs)
 |[],_,_,_,h,k=>by have h:_=_:=h;subst h;exact k
 |_::_,_,_,_,⟨u,r,e,hu,hr⟩,k=>by subst e;exact⟨u,_,rfl,hu,hr.append k⟩
theorem rR.eq {g:Gh}:∀{jr:List (Nat×Nat)}{us vs:List Value},rR g jr us→rR g jr vs→us=vs
 |[],_,_,h,k=>by have h:_=_:=h;have k:_=_:=k;rw[h,k]
 |_::_,_,_,⟨b,o,v,e,_,h2,h3⟩,⟨b',o',v',e',_,UZ,Vk⟩=>by
  rw[h2]at UZ;rw[e,e',UZ,rR.eq h3 Vk]
theorem rR.last {g:Gh}:∀{jr:List (Nat×Nat)}{us:List Value}{p:Nat×Nat},rR g jr us→jr.getLast?=some p→us.getLast?=some (g.cv p.1 p.2)
 |[],_,_,_,h=>by cases h
 |[q],_,p,⟨b,o,v,e,h1,h2,h3⟩,h=>by
  have h3:v=[]:=h3;have h:some q=some p:=h
  injection h with h
  subst h;subst h3;subst e;rw[h2];rfl
 |q::q'::r,_,p,⟨b,o,v,e,h1,h2,h3⟩,h=>by
  have ih:=rR.last h3 (p:=p) (by simpa using h);obtain⟨b',o',v',e',_⟩:=h3;subst e;subst e';simpa using ih
theorem oX:∀{ts:List Nat}{cs:List (Nat×Nat)}{s s':St},(xi ts).run s=some (cs,s')→s'=s∧∀g a,il g s.env a→rR g cs (ts.map fun t=>a.tmps.getD t undef)
 |[],cs,s,s',h=>by
  obtain⟨rfl,rfl⟩:=ai h;exact⟨rfl,fun g a V=>rfl⟩
 |t::ts,cs,s,s',h=>by
  simp only[xi,AM.run]at h;split at h
  ·rename_i x hx;split at h
   ·rename_i id gen;obtain⟨c2,t2,h1,h2⟩:=AM.ah h;obtain⟨rfl,rfl⟩:=ai h2;obtain⟨rfl,k⟩:=oX h1;refine⟨rfl,fun g a V=> ?_⟩;have hc:bl g (.ptr id gen 0) (a.tmps.getD t undef):=V t _ hx;obtain⟨h1,b,o,h2,h3⟩:=hc;exact⟨b,o,_,by rw[List.map_cons,h3];rfl,h1,h2,k g a V⟩
   ·cases h
  ·cases h
theorem Ld {w:World}{b:Nat}{o:Go.Obj}(h:w.heap[b]?=some o):b<w.heap.size:=(Array.getElem?_eq_some_iff.1 h).1
theorem eX.length {g:Gh}:∀{vs:List Val}{us:List Value},eX g vs us→vs.length=us.length
 |[],_,h=>by have h:_=_:=h;rw[h];rfl
 |_::_,_,⟨_,_,e,_,hr⟩=>by rw[e,ao0,ao0,eX.length hr]
theorem tN {E:Env}{ts:List Nat}(h:kept E ts=true):ts≠[]∧∀t∈ts,t∈E.mS:=by
 have h:(!ts.isEmpty&&ts.all fun t=>E.mS.any (Nat.beq t))=true:=h;rw[ao3]at h;refine⟨fun e=>by subst e;exact absurd h.1 (by decide),fun t ht=> ?_⟩;obtain⟨u,hu,he⟩:=List.any_eq_true.1 (List.all_eq_true.1 h.2 t ht);rw[beq_eq he];exact hu
theorem Ii {E:Env}{B:Base}{g:Gh}{env:List (Nat×Slot)}{a:Act}(V:ActRel E B g env a){ts:List Nat}(h:kept E ts=true):(ts.map fun t=>a.tmps.getD t undef)=ts.map B.arg:=
 List.map_congr_left fun t ht=>V.kept t ((tN h).2 t ht)
theorem sy:∀{a b:List (Nat×Nat)},tM a b=true→a=b
 |[],[],_=>rfl
 |x::a,y::b,h=>by
  simp only[tM,ao3]at h;rw[sy h.2]
  congr 1
  exact Prod.ext (beq_eq h.1.1) (beq_eq h.1.2)
 |[],_::_,h=>by cases h
 |_::_,[],h=>by cases h
theorem MD {E:Env}{f:FuncId}{jr:List (Nat×Nat)}(t t':St)(h:(Eg E f jr).run t=some ((),t')):t'=t:=by
 unfold Eg at h;split at h
 ·obtain⟨_,h⟩:=bh h;obtain⟨cs,t2,h1,h2⟩:=AM.ah h;obtain⟨rfl,_⟩:=oX h1;obtain⟨_,h2⟩:=bh h2;exact(ai h2).2
 ·unfold Pb at h;split at h
  ·simp only[AM.run]at h;split at h
   ·obtain⟨_,h⟩:=bh h;exact(ai h).2
   ·cases h
  ·cases h
theorem Td {E:Env}{f:FuncId}{jr:List (Nat×Nat)}{t:St}(h:(Eg E f jr).run t=some ((),t)){B:Base}{g g1:Gh}{env:List (Nat×Slot)}{a:Act}{w:World}(V:ActRel E B g env a)(he:t.env=env)(l:Le g g1)(R1:HRel B g1 t.hp w){nb:List Nat}(hO:dI g1 nb)
  {as:List VSp} {args vs:List Value} (hs:uZ as=some (f,args.length)) (hc:rR g jr vs):BB as g1.aK w nb (args++vs):=by
 intro f' m hm;rw[hs]at hm
 injection hm with hm;injection hm with an2 al1
 subst an2;subst al1;rw[List.drop_left];have EO:=hc.mono l
 have Sx:∀{x:Value},vs.getLast?=some x→(args++vs).getLast?=some x:=fun{x} hx=>by
  rw[List.getLast?_append,hx];rfl
 unfold Eg at h;split at h
 ·rename_i f' ts hE;obtain⟨hb,h0⟩:=bh h;simp only[ao3]at hb;obtain rfl:=beq_eq hb.1;obtain⟨cs,t2,h1,h2⟩:=AM.ah h0;obtain⟨e2,k⟩:=oX h1;subst e2;obtain⟨h3,_⟩:=bh h2;obtain rfl:=sy h3;subst he;have k2:=k g a V.env;rw[Ii V hb.2]at k2;have hv:vs=ts.map B.arg:=hc.eq k2;obtain⟨b,ty,q1,q2,q3,q4⟩:=V.slf _ ts hE (tN hb.2).1;obtain⟨f1,f2,f3⟩:=R1.frame b (Ld q2) q3 q4;refine⟨b,ty, ?_,by rw[f3,q2,hv],fun hb=> ?_,f2⟩
  ·apply Sx
   rw[hv,←q1,List.getLast?_map];have jj:=(tN hb.2).1;rw[List.getLast?_eq_some_getLast jj,List.getLastD_eq_getLast?,List.getLast?_eq_some_getLast jj];rfl
  ·have:=hO.2 b hb;rw[f1]at this;cases this
 ·unfold Pb at h;split at h
  ·rename_i p hp;simp only[AM.run]at h;split at h
   ·rename_i g0 bt f2 cs heq;obtain⟨hb,_⟩:=bh h;simp only[ao3]at hb;obtain rfl:=beq_eq hb.1.1;obtain rfl:=beq_eq hb.1.2;obtain rfl:=sy hb.2;obtain⟨b,o,arr,ty,L,k1,k2,k3,k4,k5,k6,k7,k8,k9⟩:=R1.eG _ _ heq;subst k7;obtain⟨u,r,e,hu,hr⟩:=k4;have hr:r=[]:=hr;subst hr;subst e;obtain⟨XM,e,hv⟩:=hu;have af4:vs=XM:=EO.eq hv;subst af4;subst e;have hlen:(g1.outer p.1).length=1:=k8
    have zR:arr=#[.func (.func f2) #[] vs.toArray]:=by
     apply Array.ext'
     rw[k5,List.take_zero,List.nil_append,List.drop_eq_nil_of_le (by simp[hlen]),aq7]
    refine⟨b,ty,Sx (by rw[rR.last EO hp];exact congrArg some k1),by rw[k3,zR],fun hb=> ?_, ?_⟩
    ·have:=hO.2 b hb;rw[k2.1]at this;injection this with this;cases this
    ·cases hi:g1.aK b with
     |none=>rfl
     |some L=>have:=(R1.aK b L hi).1;rw[k2.1]at this;cases this
   ·cases h
  ·cases h
theorem Gf {E:Env}(hE:EnvOk E){c:Call}{f:Operand}(hc:c.callee= .value f){d:Nat}{s s':St}{sl:Slot}(h:(dW E d (.call c)).run s=some (sl,s')):TF E (.call c) s sl s':=by
 unfold dW at h;simp only[hc]at h;obtain⟨vs,t1,h1,h2⟩:=AM.ah h;obtain⟨v,t2,h3,h4⟩:=AM.ah h2;obtain⟨cl,t3,h5,h6⟩:=AM.ah h4;obtain⟨rfl,r1⟩:=mj h1;obtain⟨rfl,r2⟩:=cB h3;obtain⟨rfl,rfl⟩:=tH h5;unfold O7 at h6;split at h6
 ·rename_i Xv jr
  cases yJ:E.callee Xv with
  |none=>rw[yJ]at h6;cases h6
  |some Z2=>
   rw[yJ]at h6;simp only at h6
   have key:s'.env=t3.env∧∀B g a w,ik E.fb g.aK→HRel B g t3.hp w→ActRel E B g t3.env a→∀us,rR g jr us→iE E.P Xv ((c.args.toList.map a.eval)++us).toArray w fun v w'=>∃g',Le g g'∧HRel B g' s'.hp w'∧dc g' sl v:=by
    split at h6
    ·rename_i ac3;obtain⟨e1,hs⟩:=J7 ((hE.calls Xv Z2 yJ).plain ac3) ac3 h6;exact⟨e1,fun B g a w hG R V us F1=>hs B g w hG R _ ((r1 V.env).append (wo F1))⟩
    ·rename_i sf Wx;obtain⟨hb,h6⟩:=bh h6;simp only[ao3]at hb;obtain rfl:=beq_eq hb.1;obtain⟨e1,t1,e2,Uh,hs⟩:=By (MD) (hE.calls _ Z2 yJ) h6;refine⟨e1,fun B g a w hG R V us F1=>hs B g w hG R _ ((r1 V.env).append (wo F1)) fun g1 nb l R1 hO=> ?_⟩
     have hlen:sf.2=(c.args.toList.map a.eval).length:=by
      rw[beq_eq hb.2];exact(eX.length (r1 V.env))
     exact Td Uh V e2 l R1 hO (by rw[Wx,←hlen]) F1
   obtain⟨e1,hs⟩:=key;refine⟨e1,fun o ho B g a w hG R V next Q hn=> ?_⟩;obtain⟨us,eu,F1⟩:=r2 V.env;have hI:=hs B g a w hG R V us F1;unfold Oper.wp
   have WS:(execOp a.eval o).run E.P w=(callFunc Xv ((c.args.toList.map a.eval)++us).toArray).run E.P w:=by
    unfold execOp;rw[ho]
    have ea:(List.map a.eval c.args.toList++us).toArray=c.args.map a.eval++us.toArray:=by
     apply Array.ext'
     simp
    rw[ea];simp only[resolve,hc];rw[show a.eval f=_ from eu];simp[Deferred.ofValue,invoke]
   rw[WS];unfold iE at hI;split at hI
   ·rename_i f' a' w1 zT;rw[zT]
    refine Calls.mono hI fun e w' ⟨v,ee,hv⟩=> ?_
    subst ee;obtain⟨g',l,R',BC⟩:=hv;exact hn v w' g' l R' BC
   ·rename_i v w1 zT;rw[zT];obtain⟨g',l,R',BC⟩:=hI;exact hn v w1 g' l R' BC
   ·exact hI.elim
 ·cases h6
theorem za {E:Env}(hE:EnvOk E){op:Op}{d:Nat}{s s':St}{sl:Slot}(h:(dW E d op).run s=some (sl,s')):TF E op s sl s':=by
 cases op with
 |move x=>exact(Di h).1.ok
 |assign x=>exact(Di h).2.ok
 |pick c a b=>exact(JU h).ok
 |alloc t=>exact(H3 h).ok
 |box t x=>exact(MO h).ok
 |build t ps=>exact(HE h).ok
 |buildSlice t n ps=>exact(z6 h).ok
 |load t x=>
  have h:(match GQ E t x with
   |some p=>(xi p.2).bind fun cs=>AM.ret (Slot.val (Val.one (Cell.fn p.1 cs)))
   |none=>KG E d t x).run s=some (sl,s'):=h
  split at h
  ·rename_i p hp;obtain⟨cs,t2,h1,h2⟩:=AM.ah h;obtain⟨e1,k⟩:=oX h1;obtain⟨rfl,rfl⟩:=ai h2;subst e1;refine⟨rfl,fun o ho B g a w hG R V next Q hn=> ?_⟩;unfold GQ at hp;split at hp
   ·rename_i f ts k' hE
    cases hc:(Nat.beq k' (ts.getLastD 0)&&kept E ts&&OQ (E.isAgg t))with
    |false=>rw[hc]at hp;cases hp
    |true=>
     rw[hc]at hp
     injection hp with hp
     subst hp;simp only[ao3]at hc;obtain rfl:=beq_eq hc.1.1
     have KW:E.isAgg t=some false:=by
      have:=hc.2
      revert this
      cases E.isAgg t with
      |none=>exact fun h=>by cases h
      |some b=>cases b<;>intro h<;>first|rfl|cases h
     obtain⟨b,ty,q1,q2,q3,q4⟩:=V.slf _ ts hE (tN hc.1.2).1;obtain⟨f1,f2,f3⟩:=R.frame b (Ld q2) q3 q4;have jj:=(tN hc.1.2).1
     have RG:ts.getLastD 0∈ts:=by rw[List.getLastD_eq_getLast?,List.getLast?_eq_some_getLast jj];exact List.getLast_mem jj
     have ha:a.tmps.getD (ts.getLastD 0) undef= .pointer (some ⟨b,0,none⟩):=(V.kept _ ((tN hc.1.2).2 _ RG)).trans q1;have k2:=k g a V.env;rw[Ii V hc.1.2]at k2
     have tX:w.cell? ⟨b,0,none⟩=some (.func (.func f) #[] (ts.map B.arg).toArray):=by
      have hw:=f3.trans q2;simp[World.cell?,hw]
     have zT:(execOp a.eval o).run E.P w= .ok (.value (.func (.func f) #[] (ts.map B.arg).toArray)) w:=by
      unfold execOp;rw[ho]
      apply db
      show(Instr.loadAt t (a.tmps.getD (ts.getLastD 0) undef)).run E.P w=_;rw[ha];simp only[Instr.loadAt,Instr.sureAddr,loadVar,Sem.run_bind,Sem.run_pure,Result.andThen_ok,tF KW,Sem.run_ite];simp[tX]
     unfold Oper.wp;rw[zT];exact hn _ w g (Le.refl g) R ⟨_,rfl,k2⟩
   ·cases hp
  obtain⟨e,hs⟩:=Kk h;refine⟨e,fun o ho B g a w hG R V next Q hn=> ?_⟩;obtain⟨v,w',g',e',l,R',BC⟩:=hs o ho B g a w hG.one R V.env;unfold Oper.wp;rw[e'];exact hn v w' g' l R' BC
 |store t x y=>
  obtain⟨e,rfl,hs⟩:=HX h;refine⟨e,fun o ho B g a w hG R V next Q hn=> ?_⟩;obtain⟨w',g',e',l,R'⟩:=hs o ho B g a w R V.env;unfold Oper.wp;rw[e'];exact hn undef w' g' l R' trivial
 |nilCheck x=>exact(De h).ok
 |binOp op t x y ty=>exact(Mz h).ok
 |unOp op t x=>
  cases op with
  |not=>exact(MG h).ok
  |neg=>exact(MM h).ok
  |_=>cases h
 |convert a b x=>exact(ES h).ok
 |makeMap t r=>exact(Fb h).ok
 |insert t m k x=>
  obtain⟨e,rfl,hs⟩:=Gq h;refine⟨e,fun o ho B g a w hG R V next Q hn=> ?_⟩;obtain⟨w',g',e',l,R'⟩:=hs o ho B g a w R V.env;unfold Oper.wp;rw[e'];exact hn undef w' g' l R' trivial
 |lookup t m k ok=>
  cases ok with
  |false=>exact(Gw h).ok
  |true=>cases h
 |makeInterface t x=>exact(xq h).ok
 |makeFunc f a b=>exact(C3 h).ok
 |makeSlice t l c=>exact(BJ h).ok
 |slice t x lo hi mx=>
  cases mx with
  |none=>exact(HI h).ok
  |some m=>cases h
 |fieldAddr t x i=>exact(BQ h).ok
 |field t x i=>exact(HL h).ok
 |indexAddr t x i=>exact(BU h).ok
 |index t x i=>exact(Hy h).ok
 |extract t i=>exact(E5 h).ok
 |call c=>
  cases hc:c.callee with
  |value f=>exact Gf hE hc h
  |builtin b=>
   cases b with
   |len=>exact(MN hc h).ok
   |max=>exact(MK hc h).ok
   |append=>exact(Gd hc h).ok
   |_=>unfold dW at h;simp only[hc]at h;cases h
  |invoke r m=>unfold dW at h;simp only[hc]at h;cases h
 |_=>cases h
theorem Oa (a:Act){d t:Nat}(v:Value)(e:d≠t):(a.put (some d) v).tmps.getD t undef=a.tmps.getD t undef:=by
 simp[Act.put,Array.getD_eq_getD_getElem?,Array.getElem?_setIfInBounds_ne e]
theorem LJ {E:Env}{d:Nat}(h:(!E.mS.any (Nat.beq d))=true):∀t∈E.mS,d≠t:=by
 intro t ht e;subst e;have:E.mS.any (Nat.beq d)=true:=List.any_eq_true.2 ⟨d,ht,Nat.beq_refl d⟩;rw[this]at h;cases h
theorem Lf {E:Env}{B:Base}{g:Gh}{env:List (Nat×Slot)}{a:Act}(H:ActRel E B g env a){d:Nat}{sl:Slot}{v:Value}(hd:d<E.nt)(hk:∀t∈E.mS,d≠t)(hs:dc g sl v):ActRel E B g ((d,sl)::env) (a.put (some d) v):=by
 refine⟨fun t s ht=> ?_,by simpa[Act.put]using H.size,H.defers,fun t ht=>by rw[Oa a v (hk t ht)];exact H.kept t ht,H.slf,H.ini⟩
 by_cases e:d=t
 ·subst e;rw[aC]at ht
  injection ht with ht
  subst ht
  have:(a.put (some d) v).tmps.getD d undef=v:=by
   have iO:d<a.tmps.size:=by rw[H.size];exact hd
   simp[Act.put,Array.getD,iO]
  rw[this];exact hs
 ·rw[ay _ _ e]at ht
  have:(a.put (some d) v).tmps.getD t undef=a.tmps.getD t undef:=by
   simp[Act.put,Array.getD_eq_getD_getElem?,Array.getElem?_setIfInBounds_ne e]
  rw[this];exact H.env t s ht
theorem ActRel.GX {E:Env}{B:Base}{g:Gh}{env Wy:List (Nat×Slot)}{a:Act}(H:ActRel E B g env a)(e:Wy=env):ActRel E B g Wy a:=by subst e;exact H
def Tm (E:Env)(o:Oper)(s s':St):Prop:=
 ∀B g a w,ik E.fb g.aK→HRel B g s.hp w→ActRel E B g s.env a→∀(next:Act→World→Prop) (Q:Exit→Act→World→Prop),
  (∀a' w' g',Le g g'→HRel B g' s'.hp w'→ActRel E B g' s'.env a'→next a' w')→o.wp E.P a w next Q
theorem DD {E:Env}(hE:EnvOk E){n:Nat}{o:Oper}{s s':St}(h:(step E n o).run s=some ((),s')):Tm E o s s':=by
 intro B g a w hG R V next Q hn;unfold step at h;split at h
 ·rename_i d hd;obtain⟨hb,h1⟩:=bh h;obtain⟨sl,t,h2,h3⟩:=AM.ah h1;simp only[AM.run,ar8,as9]at h3;obtain⟨_,rfl⟩:=h3;obtain⟨e,hs⟩:=za hE h2
  refine hs o rfl B g a w hG R V next Q fun v w' g' l R' BC=>hn _ w' g' l R' ?_
  rw[hd];simp only[ao3]at hb;refine Lf ?_ (aq4 hb.1) (LJ hb.2) BC;exact(V.mono l).GX e
 ·rename_i hd;obtain⟨sl,t,h2,h3⟩:=AM.ah h;obtain⟨_,rfl⟩:=ai h3;obtain⟨e,hs⟩:=za hE h2
  refine hs o rfl B g a w hG R V next Q fun v w' g' l R' BC=>hn _ w' g' l R' ?_
  rw[hd];exact(V.mono l).GX e
end Go.Abs
end

section
namespace Go.Abs
def St.Eqv (s t:St):Prop:=(∀i,look s.env i=look t.env i)∧∀i,look s.hp i=look t.hp i
theorem St.Eqv.refl (s:St):St.Eqv s s:=⟨fun _=>rfl,fun _=>rfl⟩
theorem St.Eqv.symm {s t:St}(h:St.Eqv s t):St.Eqv t s:=⟨fun i=>(h.1 i).symm,fun i=>(h.2 i).symm⟩
theorem St.Eqv.trans {s t u:St}(h:St.Eqv s t)(k:St.Eqv t u):St.Eqv s u:=⟨fun i=>(h.1 i).trans (k.1 i),fun i=>(h.2 i).trans (k.2 i)⟩
theorem ActRel.congr {E:Env}{B:Base}{g:Gh}{e e':List (Nat×Slot)}{a:Act}(h:∀i,look e' i=look e i)(H:ActRel E B g e a):ActRel E B g e' a:=⟨fun t s hs=>H.env t s (by rw[←h t];exact hs),H.size,H.defers,H.kept,H.slf,H.ini⟩
theorem Lv {E:Env}{o:Oper}{s s':St}(h:(skip E o).run s=some ((),s')):s'.hp=s.hp∧∀B g a,ActRel E B g s.env a→ActRel E B g s'.env (a.put o.dst undef):=by
 unfold skip at h;split at h
 ·rename_i d T7;obtain⟨hb,h1⟩:=bh h;simp only[AM.run,ar8,as9]at h1;obtain⟨_,rfl⟩:=h1;simp only[ao3]at hb;exact⟨rfl,fun B g a V=>by rw[T7];exact Lf V (aq4 hb.1) (LJ hb.2) rfl⟩
 ·rename_i T7;obtain⟨_,rfl⟩:=ai h;exact⟨rfl,fun B g a V=>by rw[T7];exact V⟩
theorem Iw:∀(ops:List Oper)(j:Nat),IZ ops j=ops[j]?
 |[],_=>by simp[IZ]
 |_::_,0=>rfl
 |_::r,j+1=>by simp[IZ,Iw r j]
theorem FC (ops:List Oper)(j:Nat):uK ops j=(ops.toArray[j]?).bind (·.dst):=by simp[uK,Iw]
theorem Br {E:Env}(hE:EnvOk E){ops:List Oper}{n i:Nat}{o:Oper}{s s':St}(ho:ops[i]?=some o)(h:(stepG E ops n o).run s=some ((),s')){B:Base}{g:Gh}{a:Act}{w:World}(hG:ik E.fb g.aK)(R:HRel B g s.hp w)(V:ActRel E B g s.env a)
  {K:Act→World→Prop} {Q:Exit→Act→World→Prop} (hK:∀a' w' g',Le g g'→HRel B g' s'.hp w'→ActRel E B g' s'.env a'→K a' w'):wpOp E.P ops.toArray Q i K a w:=by
 unfold wpOp;have Mg:ops.toArray[i]?=some o:=(by simpa using ho);rw[Mg];simp only;unfold stepG at h;split at h
 ·rename_i hg;have hw:Region.wanted o (yielded ops.toArray a.tmps)=true:=(by simp[Region.wanted,hg]);rw[as0 hw];exact .inl (DD hE h B g a w hG R V K Q hK)
 ·rename_i j want hg;obtain⟨d,t,h1,h2⟩:=AM.ah h;obtain⟨hd,rfl⟩:=cn h1;simp only[AM.run]at h2;split at h2
  ·rename_i sl BC;split at h2
   ·rename_i gv;have hv:a.tmps.getD d undef= .bool gv:=l7 (V.env d _ BC)
    have hy:yielded ops.toArray a.tmps j=some gv:=by
     unfold yielded;rw[←FC,hd]
     have:a.tmps[d]?=some (.bool gv):=by
      rw[Array.getD_eq_getD_getElem?]at hv
      cases hx:a.tmps[d]? with
      |none=>rw[hx]at hv;simp[undef]at hv
      |some u=>rw[hx]at hv;simpa using hv
     simp[this]
    rcases Kz h2 with⟨hb,h3⟩|⟨hb,h3⟩
    ·have hw:Region.wanted o (yielded ops.toArray a.tmps)=true:=by
      simp only[Region.wanted,hg,hy];simpa using hb
     rw[as0 hw];exact .inl (DD hE h3 B g a w hG R V K Q hK)
    ·have hw:Region.wanted o (yielded ops.toArray a.tmps)≠true:=by
      simp only[Region.wanted,hg,hy];simpa using hb
     rw[ar1 hw];obtain⟨e,k⟩:=Lv h3;exact hK _ _ g (Le.refl g) (by rw[e];exact R) (k B g a V)
   ·have hv:a.tmps.getD d undef=undef:=V.env d _ BC
    have hy:yielded ops.toArray a.tmps j=none:=by
     unfold yielded;rw[←FC,hd];rw[Array.getD_eq_getD_getElem?]at hv
     cases hx:a.tmps[d]? with
     |none=>simp[hx]
     |some u=>rw[hx]at hv;simp only[Option.getD_some]at hv;subst hv;simp[hx,undef]
    have hw:Region.wanted o (yielded ops.toArray a.tmps)≠true:=by
     simp[Region.wanted,hg,hy]
    rw[ar1 hw];obtain⟨e,k⟩:=Lv h2;exact hK _ _ g (Le.refl g) (by rw[e];exact R) (k B g a V)
   ·cases h2
  ·cases h2
theorem Dn {E:Env}{ops:List Oper}{n j d:Nat}{o:Oper}{want gv:Bool}{s:St}(hg:o.guard=some (j,want))(hd:uK ops j=some d)(hs:look s.env d=some (.val (.one (.v .bool gv)))):
  (stepG E ops n o).run s=(bif gv==want then step E (alt n) o else skip E o).run s:=by
 unfold stepG;rw[hg];simp only[hd,im,AM.run_bind,AM.run,an7,hs];cases gv==want<;>rfl
theorem Oh {E:Env}{ops:List Oper}{n j d:Nat}{o:Oper}{want:Bool}{s:St}(hg:o.guard=some (j,want))(hd:uK ops j=some d)(hs:look s.env d=some .sk):
  (stepG E ops n o).run s=(skip E o).run s:=by
 unfold stepG;rw[hg];simp only[hd,im,AM.run_bind,AM.run,an7,hs]
theorem DP {ρ:Type}{b:Bool}{t e:Option ρ}{r:ρ}(h:brk b t e=some r):(b=true∧t=some r)∨(b=false∧e=some r):=by
 rw[dX]at h;cases b
 ·exact .inr ⟨rfl,h⟩
 ·exact .inl ⟨rfl,h⟩
theorem mn {α ρ:Type}{m:AM α}{s:St}{K:α→St→Option ρ}{r:ρ}(h:m.exec s K=some r):∃a t,m.run s=some (a,t)∧K a t=some r:=by
 rw[AM.N4]at h
 cases hm:m.run s with
 |none=>rw[hm]at h;cases h
 |some p=>rw[hm]at h;exact⟨p.1,p.2,rfl,h⟩
theorem Cq {s:St}{d:Nat}{x:Slot}(h:look s.env d=some x):St.Eqv {s with env:=(d,x)::s.env} s:=by
 refine⟨fun i=> ?_,fun _=>rfl⟩
 by_cases e:d=i
 ·subst e;show look ((d,x)::s.env) d=_;rw[aC,h]
 ·exact ay _ _ e
theorem Ge {ρ:Type}{E:Env}{ops:List Oper}{o:Oper}{r:List Oper}{n:Nat}{s:St}{K:St→Option ρ}{x:ρ}(h:o8 E ops (o::r) n s K=some x):
  ∃s0 t,St.Eqv s0 s∧(stepG E ops n o).run s0=some ((),t)∧o8 E ops r (n+1) t K=some x:=by
 unfold o8 at h;split at h
 ·rename_i hg;obtain⟨⟨⟩,t,h1,h2⟩:=mn h;exact⟨s,t,St.Eqv.refl s,by unfold stepG;rw[hg];exact h1,h2⟩
 ·rename_i j want hg;split at h
  ·rename_i d hd;split at h
   ·rename_i gv hs
    rcases DP h with⟨rfl,h'⟩|⟨rfl,h'⟩
    ·obtain⟨⟨⟩,t,h1,h2⟩:=mn h';refine⟨_,t,Cq hs, ?_,h2⟩;rw[Dn hg hd (aC _ _ _)];cases want<;>exact h1
    ·obtain⟨⟨⟩,t,h1,h2⟩:=mn h';refine⟨_,t,Cq hs, ?_,h2⟩;rw[Dn hg hd (aC _ _ _)];cases want<;>exact h1
   ·rename_i hs;obtain⟨⟨⟩,t,h1,h2⟩:=mn h;exact⟨s,t,St.Eqv.refl s,by rw[Oh hg hd hs];exact h1,h2⟩
   ·cases h
  ·cases h
def KOk {ρ:Type}(E:Env)(B:Base)(K:St→Option ρ)(x:ρ)(Q:Act→World→Prop):Prop:=
 ∀s g a w,K s=some x→ik E.fb g.aK→HRel B g s.hp w→ActRel E B g s.env a→Q a w
theorem xF {ρ:Type}{E:Env}(hE:EnvOk E){B:Base}{ops:List Oper}{K:St→Option ρ}{x:ρ}{Q:Exit→Act→World→Prop}(hK:KOk E B K x (Q .normal)):
  ∀(r:List Oper) (n:Nat) (s:St),ops.drop n=r→o8 E ops r n s K=some x→∀g a w,ik E.fb g.aK→HRel B g s.hp w→ActRel E B g s.env a→wpOps E.P ops.toArray Q (List.range' n r.length) a w
 |[],n,s,hr,h,g,a,w,hG,R,V=>hK s g a w h hG R V
 |o::r,n,s,hr,h,g,a,w,hG,R,V=>by
  obtain⟨s0,t,e,h1,h2⟩:=Ge h;rw[ao0,List.range'_succ,wpOps_cons]
  have ho:ops[n]?=some o:=by
   have:=congrArg (·[0]?) hr;simpa[List.getElem?_drop]using this
  have Ni:ops.drop (n+1)=r:=by
   rw[←List.drop_drop,hr];rfl
  exact Br hE ho h1 hG (R.congr e.2) (V.congr e.1) fun a' w' g' l R' V'=>xF hE hK r (n+1) t Ni h2 g' a' w' (hG.mono l.aK) R' V'
end Go.Abs
end

section
namespace Go.Abs
def AM.jV {α:Type}:AM α→St→List Nat→List Nat→Option (α×St×List Nat×List Nat)
 | .ret a,s,r,w=>some (a,s,r,w)
 | .br b t e,s,r,w=>bif b then t.jV s r w else e.jV s r w
 | .fail,_,_,_=>none
 | .uR t k,s,r,w=>match look s.env t with
  |some x=>(k x).jV s ((2*t)::r) w
  |none=>none
 | .zU t x k,s,r,w=>k.jV {s with env:=(t,x)::s.env} r ((2*t)::w)
 | .jQ i k,s,r,w=>(k (look s.hp i)).jV s ((2*i+1)::r) w
 | .jY i o k,s,r,w=>k.jV {s with hp:=(i,o)::s.hp} r ((2*i+1)::w)
 | .opt _ x k,s,r,w=>match x with
  |some d=>(k d).jV s r w
  |none=>none
theorem AM.J4 {α ρ:Type}(m:AM α):∀(s:St)(r w:List Nat)(K:α→St→List Nat→List Nat→Option ρ),m.om s r w K=(m.jV s r w).bind fun p=>K p.1 p.2.1 p.2.2.1 p.2.2.2:=by
 induction m with
 |ret a=>intro s r w K;rfl
 |br b t e Qb PO=>intro s r w K;cases b<;>simp[om,jV,Qb,PO,dX]
 |fail=>intro s r w K;rfl
 |uR t k ih=>intro s r w K;simp only[om,jV];cases look s.env t<;>simp[ih]
 |zU t x k ih=>intro s r w K;simp[om,jV,ih]
 |jQ i k ih=>intro s r w K;simp[om,jV,ih]
 |jY i o k ih=>intro s r w K;simp[om,jV,ih]
 |opt c x k ih=>intro s r w K;cases x<;>simp[om,jV,ih]
theorem AM.NF {α:Type}(m:AM α):∀{s s':St}{r w r' w':List Nat}{a:α},m.jV s r w=some (a,s',r',w')→m.run s=some (a,s'):=by
 induction m with
 |ret a=>intro s s' r w r' w' x h;simp only[jV,ar8,as9]at h;simp[run,h.1,h.2.1]
 |br b t e Qb PO=>intro s s' r w r' w' x h;cases b<;>simp only[jV,run,ap3,ao8]at h⊢<;>first|exact Qb h|exact PO h
 |fail=>intro s s' r w r' w' x h;cases h
 |uR t k ih=>
  intro s s' r w r' w' x h;simp only[jV,run]at h⊢
  cases hl:look s.env t with
  |none=>rw[hl]at h;cases h
  |some y=>rw[hl]at h;exact ih _ h
 |zU t x k ih=>intro s s' r w r' w' x h;exact ih h
 |jQ i k ih=>intro s s' r w r' w' x h;exact ih _ h
 |jY i o k ih=>intro s s' r w r' w' x h;exact ih h
 |opt c x k ih=>
  intro s s' r w r' w' y h
  cases x with
  |none=>cases h
  |some d=>exact ih d h
def St.get (s:St)(p:Nat):Option Slot⊕Option Obj:=if p % 2=0 then .inl (look s.env (p/2))else .inr (look s.hp (p/2))
theorem zw (s:St)(t:Nat):s.get (2*t)= .inl (look s.env t):=by unfold St.get;rw[as0 (by omega),show 2*t/2=t by omega]
theorem Ch (s:St)(i:Nat):s.get (2*i+1)= .inr (look s.hp i):=by unfold St.get;rw[ar1 (by omega),show(2*i+1)/2=i by omega]
theorem pL (s:St)(t:Nat)(x:Slot)(p:Nat):St.get {s with env:=(t,x)::s.env} p=if p=2*t then .inl (some x)else s.get p:=by
 unfold St.get
 by_cases hp:p % 2=0
 ·simp only[hp,if_true]
  by_cases e:p=2*t
  ·subst e;rw[as0 rfl,show 2*t/2=t by omega,aC]
  ·rw[ar1 e,ay _ _ (by omega)]
 ·simp only[hp,at3];rw[ar1 (by omega)]
theorem pJ (s:St)(i:Nat)(o:Obj)(p:Nat):St.get {s with hp:=(i,o)::s.hp} p=if p=2*i+1 then .inr (some o)else s.get p:=by
 unfold St.get
 by_cases hp:p % 2=0
 ·simp only[hp,if_true];rw[ar1 (by omega)]
 ·simp only[hp,at3]
  by_cases e:p=2*i+1
  ·subst e;rw[as0 rfl,show(2*i+1)/2=i by omega,aC]
  ·rw[ar1 e,ay _ _ (by omega)]
theorem GA {s t:St}:St.Eqv s t↔∀p,s.get p=t.get p:=by
 constructor
 ·intro h p;unfold St.get;rw[h.1,h.2]
 ·intro h;refine⟨fun i=> ?_,fun i=> ?_⟩
  ·have:=h (2*i);rw[zw,zw]at this;injection this
  ·have:=h (2*i+1);rw[Ch,Ch]at this;injection this
theorem AM.Du {α:Type}(m:AM α):∀{s s':St}{r0 w0 r w:List Nat}{a:α},m.jV s r0 w0=some (a,s',r,w)→
  (∀p∈r0,p∈r)∧(∀p∈w0,p∈w)∧(∀p,p∉w→s'.get p=s.get p)∧∀t:St,(∀p∈r,t.get p=s.get p)→
   ∃t',m.jV t r0 w0=some (a,t',r,w)∧(∀p,p∉w→t'.get p=t.get p)∧(∀p,t.get p=s.get p→t'.get p=s'.get p)∧∀p∈w,p∉w0→t'.get p=s'.get p:=by
 induction m with
 |ret a=>
  intro s s' r0 w0 r w x h;simp only[jV,ar8,as9]at h;obtain⟨rfl,rfl,rfl,rfl⟩:=h;exact⟨fun _ h=>h,fun _ h=>h,fun _ _=>rfl,fun t ht=>⟨t,rfl,fun _ _=>rfl,fun _ h=>h,fun p h1 h2=>absurd h1 h2⟩⟩
 |br b t e Qb PO=>
  intro s s' r0 w0 r w x h;cases b
  ·exact PO h
  ·exact Qb h
 |fail=>intro s s' r0 w0 r w x h;cases h
 |uR t k ih=>
  intro s s' r0 w0 r w x h;simp only[jV]at h;split at h
  ·rename_i sl BC;obtain⟨h1,h2,h3,h4⟩:=ih _ h;refine⟨fun p hp=>h1 p (ap6 _ hp),h2,h3,fun u hu=> ?_⟩;have hx:=hu (2*t) (h1 _ (ap7 ..));rw[zw,zw]at hx
   injection hx with hx
   obtain⟨t',a1,a2⟩:=h4 u hu;refine⟨t', ?_,a2⟩;simp only[jV,hx,BC];exact a1
  ·cases h
 |zU t x k ih=>
  intro s s' r0 w0 r w y h;obtain⟨h1,h2,h3,h4⟩:=ih h;have hm:2*t∈w:=h2 _ (ap7 ..);refine⟨h1,fun p hp=>h2 p (ap6 _ hp),fun p hp=> ?_,fun u hu=> ?_⟩
  ·rw[h3 p hp,pL,ar1 (show p≠2*t from fun e=>hp (by rw[e];exact hm))]
  ·obtain⟨t',a1,a2,a3,a4⟩:=h4 {u with env:=(t,x)::u.env} (fun p hp=>by rw[pL,pL,hu p hp]);refine⟨t',a1,fun p hp=> ?_,fun p hp=>a3 p (by rw[pL,pL,hp]),fun p hp vp=> ?_⟩
   ·rw[a2 p hp,pL,ar1 (show p≠2*t from fun e=>hp (by rw[e];exact hm))]
   ·by_cases e:p=2*t
    ·exact a3 p (by rw[pL,pL,as0 e,as0 e])
    ·exact a4 p hp (fun hm=>by rcases ar5.1 hm with h|h;exact e h;exact vp h)
 |jQ i k ih=>
  intro s s' r0 w0 r w x h;obtain⟨h1,h2,h3,h4⟩:=ih _ h;refine⟨fun p hp=>h1 p (ap6 _ hp),h2,h3,fun u hu=> ?_⟩;have hx:=hu (2*i+1) (h1 _ (ap7 ..));rw[Ch,Ch]at hx
  injection hx with hx
  obtain⟨t',a1,a2⟩:=h4 u hu;refine⟨t', ?_,a2⟩;simp only[jV,hx];exact a1
 |jY i o k ih=>
  intro s s' r0 w0 r w y h;obtain⟨h1,h2,h3,h4⟩:=ih h;have hm:2*i+1∈w:=h2 _ (ap7 ..);refine⟨h1,fun p hp=>h2 p (ap6 _ hp),fun p hp=> ?_,fun u hu=> ?_⟩
  ·rw[h3 p hp,pJ,ar1 (show p≠2*i+1 from fun e=>hp (by rw[e];exact hm))]
  ·obtain⟨t',a1,a2,a3,a4⟩:=h4 {u with hp:=(i,o)::u.hp} (fun p hp=>by rw[pJ,pJ,hu p hp]);refine⟨t',a1,fun p hp=> ?_,fun p hp=>a3 p (by rw[pJ,pJ,hp]),fun p hp vp=> ?_⟩
   ·rw[a2 p hp,pJ,ar1 (show p≠2*i+1 from fun e=>hp (by rw[e];exact hm))]
   ·by_cases e:p=2*i+1
    ·exact a3 p (by rw[pJ,pJ,as0 e,as0 e])
    ·exact a4 p hp (fun hm=>by rcases ar5.1 hm with h|h;exact e h;exact vp h)
 |opt c x k ih=>
  intro s s' r0 w0 r w y h
  cases x with
  |none=>cases h
  |some d=>exact ih d h
theorem uq {α ρ:Type}{m:AM α}{s:St}{r w:List Nat}{K:α→St→List Nat→List Nat→Option ρ}{x:ρ}(h:m.om s r w K=some x):∃a t rd wr,m.jV s r w=some (a,t,rd,wr)∧K a t rd wr=some x:=by
 rw[AM.J4]at h
 cases hm:m.jV s r w with
 |none=>rw[hm]at h;cases h
 |some p=>rw[hm]at h;exact⟨p.1,p.2.1,p.2.2.1,p.2.2.2,rfl,h⟩
theorem AM.FG {α β:Type}(m:AM α)(f:α→AM β):∀s r w,(m.bind f).jV s r w=(m.jV s r w).bind fun p=>(f p.1).jV p.2.1 p.2.2.1 p.2.2.2:=by
 induction m with
 |ret a=>intro s r w;rfl
 |br b t e Qb PO=>intro s r w;cases b<;>simp[AM.bind,AM.jV,Qb,PO]
 |fail=>intro s r w;rfl
 |uR t k ih=>intro s r w;simp only[AM.bind,AM.jV];cases look s.env t<;>simp[ih]
 |zU t x k ih=>intro s r w;simp[AM.bind,AM.jV,ih]
 |jQ i k ih=>intro s r w;simp[AM.bind,AM.jV,ih]
 |jY i o k ih=>intro s r w;simp[AM.bind,AM.jV,ih]
 |opt c x k ih=>intro s r w;cases x<;>simp[AM.bind,AM.jV,ih]
theorem Bk {E:Env}{ops:List Oper}{n j d:Nat}{o:Oper}{want gv:Bool}{s:St}(hg:o.guard=some (j,want))(hd:uK ops j=some d)(hs:look s.env d=some (.val (.one (.v .bool gv)))):
  (stepG E ops n o).jV s [] []=(bif gv==want then step E (alt n) o else skip E o).jV s [2*d] []:=by
 unfold stepG;rw[hg];simp only[hd,im,AM.FG,AM.jV,an7,hs];cases gv==want<;>rfl
theorem Mo {E:Env}{ops:List Oper}{n j d:Nat}{o:Oper}{want:Bool}{s:St}(hg:o.guard=some (j,want))(hd:uK ops j=some d)(hs:look s.env d=some .sk):
  (stepG E ops n o).jV s [] []=(skip E o).jV s [2*d] []:=by
 unfold stepG;rw[hg];simp only[hd,im,AM.FG,AM.jV,an7,hs]
theorem ET {ρ:Type}{E:Env}{ops:List Oper}{o:Oper}{r:List Oper}{n:Nat}{s:St}{L:Log}{K:St→Log→Option ρ}{x:ρ}(h:mO E ops (o::r) n s L K=some x):
  ∃s0 t rd wr,St.Eqv s0 s∧(stepG E ops n o).jV s0 [] []=some ((),t,rd,wr)∧mO E ops r (n+1) t ((rd,wr)::L) K=some x:=by
 unfold mO at h;split at h
 ·rename_i hg;obtain⟨⟨⟩,t,rd,wr,h1,h2⟩:=uq h;exact⟨s,t,rd,wr,St.Eqv.refl s,by unfold stepG;rw[hg];exact h1,h2⟩
 ·rename_i j want hg;split at h
  ·rename_i d hd;split at h
   ·rename_i gv hs
    rcases DP h with⟨rfl,h'⟩|⟨rfl,h'⟩
    ·obtain⟨⟨⟩,t,rd,wr,h1,h2⟩:=uq h';refine⟨_,t,rd,wr,Cq hs, ?_,h2⟩;rw[Bk hg hd (aC _ _ _)];cases want<;>exact h1
    ·obtain⟨⟨⟩,t,rd,wr,h1,h2⟩:=uq h';refine⟨_,t,rd,wr,Cq hs, ?_,h2⟩;rw[Bk hg hd (aC _ _ _)];cases want<;>exact h1
   ·rename_i hs;obtain⟨⟨⟩,t,rd,wr,h1,h2⟩:=uq h;exact⟨s,t,rd,wr,St.Eqv.refl s,by rw[Mo hg hd hs];exact h1,h2⟩
   ·cases h
  ·cases h
structure Way (E:Env)(ops:List Oper)(n:Nat)(st:Nat→St)(RN:Nat→List Nat×List Nat):Prop where
 step:∀i o,n≤i→ops[i]?=some o→∃pre,St.Eqv pre (st i)∧(stepG E ops i o).jV pre [] []=some ((),st (i+1),(RN i).1,(RN i).2)
theorem OD {ρ:Type}{E:Env}{ops:List Oper}{K:St→Log→Option ρ}{x:ρ}:∀(r:List Oper)(n:Nat)(s:St)(L:Log),ops.drop n=r→mO E ops r n s L K=some x→
  ∃st RN,st n=s∧Way E ops n st RN∧K (st (n+r.length)) (((List.range' n r.length).map RN).reverse++L)=some x
 |[],n,s,L,hr,h=>by
  refine⟨fun _=>s,fun _=>([],[]),rfl,⟨fun i o hi ho=> ?_⟩,h⟩;have:ops.length≤n:=List.drop_eq_nil_iff.1 hr;rw[List.getElem?_eq_none (by omega)]at ho;cases ho
 |o::r,n,s,L,hr,h=>by
  obtain⟨s0,t,rd,wr,e,h1,h2⟩:=ET h
  have ho:ops[n]?=some o:=by
   have:=congrArg (·[0]?) hr;simpa[List.getElem?_drop]using this
  have Ni:ops.drop (n+1)=r:=by rw[←List.drop_drop,hr];rfl
  obtain⟨st,RN,k1,k2,k3⟩:=OD r (n+1) t _ Ni h2;refine⟨fun i=>if i=n then s else st i,fun i=>if i=n then(rd,wr)else RN i,by simp,⟨fun i o' hi Mg=> ?_⟩, ?_⟩
  ·by_cases e':i=n
   ·subst e';rw[ho]at Mg
    injection Mg with Mg
    subst Mg;refine⟨s0,by simpa using e, ?_⟩;rw[ar1 (by omega),as0 rfl,k1];exact h1
   ·obtain⟨pre,a1,a2⟩:=k2.step i o' (by omega) Mg;refine⟨pre,by simpa[e']using a1, ?_⟩;simp only[e',at3];rw[ar1 (by omega)];exact a2
  ·rw[ao0,List.range'_succ,List.map_cons,List.reverse_cons,ao4,as0 rfl]
   have em:(List.range' (n+1) r.length).map (fun i=>if i=n then(rd,wr)else RN i)=(List.range' (n+1) r.length).map RN:=by
    apply List.map_congr_left
    intro i hi;have:=(List.mem_range'_1.1 hi).1;rw[ar1 (by omega)]
   rw[em]
   have es:(fun i=>if i=n then s else st i) (n+(r.length+1))=st (n+1+r.length):=by
    show(if n+(r.length+1)=n then s else st (n+(r.length+1)))=_;rw[ar1 (by omega),show n+(r.length+1)=n+1+r.length by omega]
   rw[es];exact k3
end Go.Abs
end

section
namespace Go.Abs
theorem Ks (n:Nat):∀l:List Nat,mem n l=true↔n∈l
 |[]=>by simp[mem]
 |m::r=>by
  simp only[mem,ar7,Ks n r,ar5];constructor
  ·rintro(h|h)
   ·exact .inl (beq_eq h).symm
   ·exact .inr h
  ·rintro(h|h)
   ·exact .inl (by rw[h];exact Nat.beq_refl m)
   ·exact .inr h
theorem yv {a b:List Nat}(h:meet a b=false):∀p∈a,p∉b:=by
 induction a with
 |nil=>intro p hp;simp at hp
 |cons x r ih=>
  simp only[meet,Bool.or_eq_false_iff]at h;intro p hp hb
  rcases ar5.1 hp with rfl|hp
  ·have:=(Ks p b).2 hb;rw[this]at h;cases h.1
  ·exact ih h.2 p hp hb
def LZ (x y:List Nat×List Nat):Prop:=(∀p∈x.2,p∉y.2)∧(∀p∈x.2,p∉y.1)∧∀p∈x.1,p∉y.2
theorem vK {x:List Nat×List Nat}{bx:List Nat}:∀{L:Log}{n:Nat},zz x bx L n=true→∀k y,L[k]?=some y→(n - 1 - k)∈bx∨LZ x y
 |[],_,_,k,y,hy=>by simp at hy
 |z::r,n,h,k,y,hy=>by
  simp only[zz,ao3,ar7,at0,Bool.or_eq_false_iff]at h
  cases k with
  |zero=>
   have hz:z=y:=(by simpa using hy);subst hz
   rcases h.1 with h1|h1
   ·exact .inl (by simpa using(Ks _ _).1 h1)
   ·exact .inr ⟨yv h1.1.1,yv h1.1.2,yv h1.2⟩
  |succ k=>
   have:=vK h.2 k y (by simpa using hy);rw[show n - 1 - (k+1)=n - 1 - 1 - k by omega];exact this
theorem Bj:∀{L:Log}{bs:List (List Nat)}{n:Nat},apart L bs n=true→∀k x,L[k]?=some x→∃bx,bs[k]?=some bx∧∀k' y,k<k'→L[k']?=some y→(n - 1 - k')∈bx∨LZ x y
 |[],_,_,_,k,x,hx=>by simp at hx
 |z::r,[],_,h,_,_,_=>by cases h
 |z::r,bz::bs,n,h,k,x,hx=>by
  simp only[apart,ao3]at h
  cases k with
  |zero=>
   have hz:z=x:=(by simpa using hx);subst hz;refine⟨bz,rfl,fun k' y hk hy=> ?_⟩
   cases k' with
   |zero=>omega
   |succ k'=>
    have:=vK h.1 k' y (by simpa using hy);rw[show n - 1 - (k'+1)=n - 1 - 1 - k' by omega];exact this
  |succ k=>
   obtain⟨bx,h1,h2⟩:=Bj h.2 k x (by simpa using hx);refine⟨bx,by simpa using h1,fun k' y hk hy=> ?_⟩
   cases k' with
   |zero=>omega
   |succ k'=>
    have:=h2 k' y (by omega) (by simpa using hy);rw[show n - 1 - (k'+1)=n - 1 - 1 - k' by omega];exact this
theorem Om:∀(es acc:List (List Nat)),∀j,acc.length≤j→∀e,es[j - acc.length]?=some e→∃b,(vj es acc)[j]?=some b∧∀i,i∈b→i∈e∨∃k∈e,k<j∧∃bk,(vj es acc)[k]?=some bk∧i∈bk:=by
 have pre:∀(es acc:List (List Nat)),∃tl,vj es acc=acc++tl:=by
  intro es
  induction es with
  |nil=>intro acc;exact⟨[],by simp[vj]⟩
  |cons e es ih=>
   intro acc;obtain⟨tl,h⟩:=ih (acc++[e.flatMap fun i=>i::acc.getD i []]);exact⟨_,by rw[vj,h,ao4]⟩
 intro es
 induction es with
 |nil=>intro acc j hj e he;simp at he
 |cons e0 es ih=>
  intro acc j hj e he
  by_cases WM:j=acc.length
  ·subst WM;have:e0=e:=(by simpa using he);subst this;obtain⟨tl,h⟩:=pre es (acc++[e0.flatMap fun i=>i::acc.getD i []]);refine⟨e0.flatMap fun i=>i::acc.getD i [],by rw[vj,h];simp,fun i hi=> ?_⟩;obtain⟨k,hk,hi⟩:=List.mem_flatMap.1 hi
   rcases ar5.1 hi with rfl|hi
   ·exact .inl hk
   ·right
    rw[ap9]at hi
    cases Xx:acc[k]? with
    |none=>rw[Xx]at hi;simp at hi
    |some bk=>
     have iO:=(List.getElem?_eq_some_iff.1 Xx).1;rw[Xx]at hi;refine⟨k,hk,iO,bk, ?_,by simpa using hi⟩;rw[vj,h,ao4,List.getElem?_append_left iO,Xx]
  ·rw[vj]
   exact ih _ j (by simp;omega) e (by
    have:j - acc.length=(j - (acc++[e0.flatMap fun i=>i::acc.getD i []]).length)+1:=by simp;omega
    rw[this]at he
    simpa using he)
theorem xS:∀{es:List (List Nat)}{n:Nat},uE es n=true→∀j e,es[j]?=some e→∀i∈e,i<n+j
 |[],_,_,j,e,he=>by simp at he
 |e0::es,n,h,j,e,he=>by
  simp only[uE,ao3,List.all_eq_true]at h
  cases j with
  |zero=>
   have:e0=e:=(by simpa using he);subst this;intro i hi;exact aq4 (h.1 i hi)
  |succ j=>
   intro i hi;have:=xS h.2 j e (by simpa using he) i hi;omega
section
variable{E:Env}{ops:List Oper}{st:Nat→St}{lg:Nat→List Nat×List Nat}
def held (st:Nat→St)(lg:Nat→List Nat×List Nat)(D:Nat→Bool)(p:Nat):Nat→Option Slot⊕Option Obj
 |0=>(st 0).get p
 |k+1=>open Classical in if D k=true∧p∈(lg k).2 then(st (k+1)).get p else held st lg D p k
theorem xb {D:Nat→Bool}{p:Nat}{i:Nat}:∀{n:Nat},i≤n→(∀k,i≤k→k<n→D k=true→p∉(lg k).2)→held st lg D p n=held st lg D p i
  | 0, hi, _ => by have:i=0:=by omega
                   subst this;rfl
  |n+1,hi,h=>by
    by_cases e:i=n+1
    · subst e;rfl
    · rw[held,ar1 (fun hc=>h n (by omega) (by omega) hc.1 hc.2)]
      exact xb (by omega) fun k h1 h2=>h k h1 (by omega)
theorem DU (W:Way E ops 0 st lg){D:Nat→Bool}{p:Nat}:∀{i:Nat},i≤ops.length→(∀k,k<i→p∈(lg k).2→D k=true)→held st lg D p i=(st i).get p
 |0,_,_=>rfl
 |i+1,hi,h=>by
  rw[held];split
  ·rfl
  ·rename_i hc
   have hp:p∉(lg i).2:=fun hm=>hc ⟨h i (by omega) hm,hm⟩
   rw[DU W (by omega) fun k hk=>h k (by omega)];have ho:ops[i]?=some (ops[i]'(by omega)):=ap8 _;obtain⟨pre,a1,a2⟩:=W.step i _ (as5 _) ho;have:=(AM.Du _ a2).2.2.1 p hp;rw[this,(GA.1 a1 p)]
structure Order (ops:List Oper)(lg:Nat→List Nat×List Nat)(b:Nat→List Nat):Prop where
 direct:∀j o,ops[j]?=some o→∀e∈o.after,Region.binds .any e=true→e.on<j
 closed:∀j o,ops[j]?=some o→∀i∈b j,(∃e∈o.after,Region.binds .any e=true∧e.on=i)∨∃e∈o.after,Region.binds .any e=true∧i∈b e.on
 apart:∀i j,i<j→j<ops.length→i∈b j∨LZ (lg j) (lg i)
theorem Od (he:uE (sF ops) 0=true)(ha:apart ((List.range' 0 ops.length).map lg).reverse (vj (sF ops) []).reverse ops.length=true):
  ∃b,Order ops lg b:=by
 have SJ:∀(j:Nat) (o:Oper),ops[j]?=some o→(sF ops)[j]?=some (o.after.toList.filterMap fun e=>bif Region.binds .any e then some e.on else none):=by
  intro j o ho;unfold sF;rw[List.getElem?_map,ho];rfl
 have PC:∀(o:Oper) (i:Nat),i∈(o.after.toList.filterMap fun e=>bif Region.binds .any e then some e.on else none)↔∃e∈o.after,Region.binds .any e=true∧e.on=i:=by
  intro o i;rw[List.mem_filterMap];constructor
  ·rintro⟨e,h1,h2⟩
   cases hb:Region.binds .any e with
   |false=>rw[hb]at h2;cases h2
   |true=>rw[hb]at h2;injection h2 with h2;exact⟨e,by simpa using h1,hb,h2⟩
  ·rintro⟨e,h1,h2,h3⟩;exact⟨e,by simpa using h1,by rw[h2];simp[h3]⟩
 refine⟨fun j=>((vj (sF ops) [])[j]?).getD [],⟨fun j o ho e hm hb=> ?_,fun j o ho i hi=> ?_,fun i j Ng hj=> ?_⟩⟩
 ·have:=xS he j _ (SJ j o ho) e.on ((PC o _).2 ⟨e,hm,hb,rfl⟩);omega
 ·obtain⟨b,h1,h2⟩:=Om (sF ops) [] j (as5 _) _ (by simpa using SJ j o ho);rw[h1]at hi
  rcases h2 i (by simpa using hi)with h|⟨k,hk,_,bk,FZ,YN⟩
  ·exact .inl ((PC o i).1 h)
  ·obtain⟨e,a1,a2,a3⟩:=(PC o k).1 hk;refine .inr ⟨e,a1,a2, ?_⟩;rw[a3,FZ];simpa using YN
 ·have hx:(((List.range' 0 ops.length).map lg).reverse)[ops.length - 1 - j]?=some (lg j):=by
   rw[List.getElem?_reverse (by simp;omega)];simp only[List.length_map,List.length_range'];rw[show ops.length - 1 - (ops.length - 1 - j)=j by omega,List.getElem?_map,List.getElem?_range' (by omega)];simp
  have hy:(((List.range' 0 ops.length).map lg).reverse)[ops.length - 1 - i]?=some (lg i):=by
   rw[List.getElem?_reverse (by simp;omega)];simp only[List.length_map,List.length_range'];rw[show ops.length - 1 - (ops.length - 1 - i)=i by omega,List.getElem?_map,List.getElem?_range' (by omega)];simp
  obtain⟨bx,h1,h2⟩:=Bj ha _ _ hx
  rcases h2 _ _ (by omega) hy with h|h
  ·left
   rw[show ops.length - 1 - (ops.length - 1 - i)=i by omega]at h
   have hlen:(vj (sF ops) []).length=ops.length:=by
    have:∀(es acc:List (List Nat)),(vj es acc).length=acc.length+es.length:=by
     intro es
     induction es with
     |nil=>intro acc;simp[vj]
     |cons e es ih=>intro acc;rw[vj,ih];simp;omega
    rw[this];simp[sF]
   rw[List.getElem?_reverse (by omega),hlen,show ops.length - 1 - (ops.length - 1 - j)=j by omega]at h1;rw[h1];exact h
  ·exact .inr h
def done (listed:Array Bool)(i:Nat):Bool:=listed.getD i false
theorem Hz {ρ:Type}(hE:EnvOk E){B:Base}{K:St→Option ρ}{x:ρ}{Q:Exit→Act→World→Prop}(hK:KOk E B K x (Q .normal))(W:Way E ops 0 st lg){b:Nat→List Nat}(O:Order ops lg b)(WJ:K (st ops.length)=some x)
  (PF:∀s t,St.Eqv s t→K s=some x→∀g a w,ik E.fb g.aK→HRel B g t.hp w→ActRel E B g t.env a→Q .normal a w):
  ∀(fuel:Nat) (listed:Array Bool) (t:St),listed.size=ops.length→((List.range ops.length).filter fun i=> !done listed i).length=fuel→
   (∀j,j<ops.length→done listed j=true→∀i∈b j,done listed i=true)→(∀p,t.get p=held st lg (done listed) p ops.length)→
   ∀g a w,ik E.fb g.aK→HRel B g t.hp w→ActRel E B g t.env a→wpAny E.P .any ops.toArray Q fuel listed a w:=by
 have full:∀(listed:Array Bool) (t:St),(∀i,i<ops.length→done listed i=true)→(∀p,t.get p=held st lg (done listed) p ops.length)→St.Eqv (st ops.length) t:=by
  intro listed t rT ht;rw[GA];intro p;rw[ht p,DU W (aq2 _) fun k hk _=>rT k hk]
 have empty:∀(listed:Array Bool),listed.size=ops.length→Region.ready .any ops.toArray listed=[]→∀i,i<ops.length→done listed i=true:=by
  intro listed mu hr i
  induction i using Nat.strongRecOn with
  |_ i ih=>
   intro hi
   cases hd:done listed i with
   |true=>rfl
   |false=>
    exfalso
    have hm:i∈Region.ready .any ops.toArray listed:=by
     rw[mem_ready];refine⟨?_,ops[i],by simp[hi],fun e he hb=> ?_⟩
     ·unfold done at hd;have iO:i<listed.size:=(by omega);simp[Array.getD,iO]at hd⊢;exact hd
     ·have:=O.direct i ops[i] (ap8 hi) e he hb;exact ih e.on this (by omega)
    rw[hr]at hm;simp at hm
 intro fuel
 induction fuel with
 |zero=>
  intro listed t mu PD CD ht g a w hG R V
  have rT:∀i,i<ops.length→done listed i=true:=by
   intro i hi;have h0:=as1 PD;rw[List.filter_eq_nil_iff]at h0;have:=h0 i (List.mem_range.2 hi);simpa using this
  refine⟨?_,PF _ _ (full listed t rT ht) WJ g a w hG R V⟩;rw[List.eq_nil_iff_forall_not_mem];intro i hm;obtain⟨h1,o,h2,_⟩:=mem_ready.1 hm
  have hi:i<ops.length:=by
   rcases Nat.lt_or_ge i ops.length with h|h
   ·exact h
   ·simp[h]at h2
  have:=rT i hi;have iO:i<listed.size:=(by omega);unfold done at this;simp[Array.getD,iO]at this h1;rw[this]at h1;cases h1
 |succ fuel ih=>
  intro listed t mu PD CD ht g a w hG R V;refine⟨fun hr=>PF _ _ (full listed t (empty listed mu hr) ht) WJ g a w hG R V,fun i hi=> ?_⟩;obtain⟨h1,o,h2,h3⟩:=mem_ready.1 hi
  have ZV:i<ops.length:=by
   rcases Nat.lt_or_ge i ops.length with h|h
   ·exact h
   ·simp[h]at h2
  have ho:ops[i]?=some o:=(by simpa using h2)
  have mG:done listed i=false:=by
   have iO:i<listed.size:=(by omega);unfold done;simp[Array.getD,iO]at h1⊢;exact h1
  obtain⟨pre,a1,a2⟩:=W.step i o (as5 _) ho
  have WT:∀k∈b i,done listed k=true:=by
   intro k hk
   rcases O.closed i o ho k hk with⟨e,e1,e2,e3⟩|⟨e,e1,e2,e3⟩
   ·rw[←e3];exact h3 e e1 e2
   ·have iO:=O.direct i o ho e e1 e2;exact CD e.on (by omega) (h3 e e1 e2) k e3
  have later:∀k,i<k→k<ops.length→done listed k=true→LZ (lg k) (lg i):=by
   intro k YN hk Na
   rcases O.apart i k YN hk with h|h
   ·have:=CD k hk Na i h;rw[mG]at this;cases this
   ·exact h
  have agree:∀p∈(lg i).1,t.get p=pre.get p:=by
   intro p hp;rw[ht p,GA.1 a1 p]
   rw[xb (i:=i) (by omega) (fun k h1 h2 Na hm=>by
    by_cases e:k=i
    ·subst e;rw[mG]at Na;cases Na
    ·exact(later k (by omega) h2 Na).2.1 p hm hp)]
   exact DU W (by omega) fun k hk hm=>by
    rcases O.apart k i hk ZV with h|h
    ·exact WT k h
    ·exact absurd hm (h.2.2 p hp)
  obtain⟨_,_,_,YJ⟩:=AM.Du _ a2;obtain⟨t',b1,b2,b3,b4⟩:=YJ t agree;have zT:=AM.NF _ b1
  refine Br hE ho zT hG R V fun a' w' g' l R' V'=> ?_
  have xz:∀k,done (listed.setIfInBounds i true) k=(done listed k||decide (k=i)):=by
   intro k;unfold done
   by_cases e:k=i
   ·subst e;have iO:k<listed.size:=(by omega);simp[Array.getD,iO]
   ·have:(listed.setIfInBounds i true).getD k false=listed.getD k false:=getD_set_ne false (Ne.symm e);rw[this];simp[e]
  refine ih (listed.setIfInBounds i true) t' (by simpa using mu) ?_ ?_ ?_ g' a' w' (hG.mono l.aK) R' V'
  ·have key:∀(l:List Nat),l.Nodup→i∈l→(l.filter fun k=> !done listed k).length=(l.filter fun k=> !done (listed.setIfInBounds i true) k).length+1:=by
    intro l
    induction l with
    |nil=>intro _ h;simp at h
    |cons y r af3=>
     intro hn hm;rw[List.nodup_cons]at hn
     by_cases e:y=i
     ·subst e
      have hr:(r.filter fun k=> !done (listed.setIfInBounds y true) k)=(r.filter fun k=> !done listed k):=by
       apply List.filter_congr
       intro k hk
       have:k≠y:=fun e=>hn.1 (e ▸ hk)
       rw[xz k];simp[this]
      rw[List.filter_cons_of_pos (by simp[mG]),List.filter_cons_of_neg (by simp[xz]),hr];rfl
     ·have am2:i∈r:=by
       rcases ar5.1 hm with h|h
       ·exact absurd h.symm e
       ·exact h
      have he:(!done (listed.setIfInBounds i true) y)=(!done listed y):=by rw[xz y];simp[e]
      have:=af3 hn.2 am2
      cases hd:done listed y with
      |true=>rw[List.filter_cons_of_neg (by simp[hd]),List.filter_cons_of_neg (by simp[xz,hd])];exact this
      |false=>rw[List.filter_cons_of_pos (by simp[hd]),List.filter_cons_of_pos (by simp[xz,hd,e])];simp[this]
   have:=key (List.range ops.length) List.nodup_range (List.mem_range.2 ZV);omega
  ·intro j hj Zq k hk;rw[xz]at Zq⊢;simp only[ar7,ao1]at Zq⊢
   rcases Zq with h|h
   ·exact .inl (CD j hj h k hk)
   ·subst h;exact .inl (WT k hk)
  ·intro p
   by_cases hp:p∈(lg i).2
   ·rw[b4 p hp (by simp)]
    rw[xb (i:=i+1) (by omega) (fun k h1 h2 Na hm=>by
     rw[xz]at Na;simp only[ar7,ao1]at Na
     rcases Na with h|h
     ·exact(later k (by omega) h2 h).1 p hm hp
     ·omega)]
    rw[held,as0 ⟨by rw[xz];simp,hp⟩]
   ·rw[b2 p hp,ht p]
    have:∀n,held st lg (done listed) p n=held st lg (done (listed.setIfInBounds i true)) p n:=by
     intro n
     induction n with
     |zero=>rfl
     |succ n af9=>
      rw[held,held,af9]
      by_cases e:n=i
      ·subst e;rw[ar1 (fun h=>hp h.2),ar1 (fun h=>hp h.2)]
      ·have:done (listed.setIfInBounds i true) n=done listed n:=by rw[xz];simp[e]
       rw[this]
    exact this _
end
theorem HRel.drew {B:Base}{g:Gh}{hp:List (Nat×Obj)}{w:World}(R:HRel B g hp w)(n:Nat):HRel B g hp {w with drawn:=n}:=
 ⟨R.top,R.eG,R.aK,R.dU,R.dR,R.ji,R.frame,R.size,R.os,R.tape,R.output,R.fix⟩
theorem zY {ρ:Type}{E:Env}(hE:EnvOk E)(hm:E.P.follows .mixedOrders=true){B:Base}{id:Nat}{ops:Array Oper}{draw:Bool}{K:St→Option ρ}{x:ρ}{Q:Exit→Act→World→Prop}(hK:KOk E B K x (Q .normal))
  {s:St} (h:DE E ops.toList draw s K=some x) {g:Gh} {a:Act} {w:World} (hG:ik E.fb g.aK) (R:HRel B g s.hp w) (V:ActRel E B g s.env a):(Code.region id ops draw).wp E.P Q a w:=by
 cases draw with
 |false=>
  have h:o8 E ops.toList ops.toList 0 s K=some x:=h
  apply wp_region
  have:=xF hE hK ops.toList 0 s rfl h g a w hG R V;rw[List.range_eq_range'];simpa using this
 |true=>
  have h:mO E ops.toList ops.toList 0 s [] (fun s' L=>bif uE (sF ops.toList) 0&&apart L (vj (sF ops.toList) []).reverse ops.toList.length then K s' else none)=some x:=h;obtain⟨st,lg,k1,W,k3⟩:=OD ops.toList 0 s [] rfl h
  cases hc:(uE (sF ops.toList) 0&&apart (((List.range' 0 ops.toList.length).map lg).reverse++[]) (vj (sF ops.toList) []).reverse ops.toList.length)with
  |false=>rw[hc]at k3;cases k3
  |true=>
   rw[hc]at k3;simp only[ao3,aq7]at hc;obtain⟨b,O⟩:=Od hc.1 hc.2
   apply wp_region_any hm
   have:=Hz hE (Q:=Q) hK W O (by simpa using k3) (fun s t e hs g a w hG R V=>hK s g a w hs hG (R.congr e.2) (V.congr e.1)) ops.toList.length (Array.replicate ops.toList.length false) s (by simp) (by
     have:∀i,done (Array.replicate ops.toList.length false) i=false:=by
      intro i;unfold done;simp[Array.getD_eq_getD_getElem?,Array.getElem?_replicate];split<;>rfl
     rw[List.filter_eq_self.2 (fun i _=>by rw[this];rfl),List.length_range]) (fun j _ hd=>by
     exfalso
     unfold done at hd;simp[Array.getD_eq_getD_getElem?,Array.getElem?_replicate]at hd
     split at hd<;>cases hd) (fun p=>by
     rw[xb (i:=0) (as5 _) (fun k _ _ hd=>by
      exfalso
      unfold done at hd;simp[Array.getD_eq_getD_getElem?,Array.getElem?_replicate]at hd
      split at hd<;>cases hd)]
     show _=(st 0).get p
     rw[k1]) g a {w with drawn:=w.drawn+1} hG (R.drew _) V
   simpa using this
end Go.Abs
end

section
namespace Go.Abs
noncomputable def Gh.j2 (g:Gh)(id gen:Nat)(u:Value)(L:List Value):Gh:=
  open Classical in
  { g with top := fun i => if i = id then gen + 1 else g.top i
           cv:=fun i k=>if i=id∧k=gen then u else g.cv i k
           outer:=fun i=>if i=id then L else g.outer i}
theorem HRel.NQ {B:Base}{g:Gh}{hp:List (Nat×Obj)}{w:World}(R:HRel B g hp w)(id:Nat)(u:Value)(L:List Value):
  Le g (g.j2 id (g.top id) u L)∧HRel B (g.j2 id (g.top id) u L) ((id, .iu (g.top id) (0,[]))::hp) w:=by
 have hle:Le g (g.j2 id (g.top id) u L):=by
  refine⟨fun _ _ h=>h,fun i=> ?_,fun i k hk=> ?_⟩
  ·show g.top i≤if i=id then g.top id+1 else g.top i
   split
   ·rename_i e;subst e;omega
   ·exact aq2 _
  ·show(if i=id∧k=g.top id then u else g.cv i k)=g.cv i k;rw[ar1];rintro⟨rfl,rfl⟩;omega
 refine⟨hle,fun i=> ?_,fun i oi hi=> ?_,R.aK,R.dU,R.dR,R.ji,R.frame,R.size,R.os,R.tape,R.output,R.fix⟩
 ·show(if i=id then g.top id+1 else g.top i)=_
  by_cases e:id=i
  ·subst e;rw[aC,as0 rfl];rfl
  ·rw[ay _ _ e,ar1 (fun h=>e h.symm)];exact R.top i
 ·by_cases e:id=i
  ·subst e;rw[aC]at hi;injection hi with hi;subst hi;trivial
  ·rw[ay _ _ e]at hi;exact(R.eG i oi hi).tr hle (fun b hb=>⟨hb,rfl,rfl⟩) (by simp only[Gh.j2];rw[ar1 (fun h=>e h.symm)]) (gB R hi)
def rL (hp:List (Nat×Obj))(n:Nat):Prop:=∀i,n≤i→look hp i=none
theorem HRel.tK {B:Base}{g:Gh}{hp:List (Nat×Obj)}{w:World}(R:HRel B g hp w){i:Nat}(h:look hp i=none):g.top i=0:=by rw[R.top i,h]
def Wc (cells:List Cell)(eG:List (Nat×Obj))(n n':Nat)(B:Base)(g:Gh)(hp:List (Nat×Obj))(w:World)(us:List Value)(nb:List Nat):Prop:=
 n≤n'∧rL (eG++hp) n'∧(∀i,i<n→look (eG++hp) i=look hp i)∧∃g',Le g g'∧(∀y,y∉nb→g'.dn y=g.dn y∧g'.dU y=g.dU y)∧(∀i,i<n→g'.outer i=g.outer i)∧HRel B g' (eG++hp) w∧aG g' cells us
theorem K4 {τ:Ty}{dp:Bool}{x:List τ.den}{n:Nat}{B:Base}{g:Gh}{hp:List (Nat×Obj)}{w:World}{us:List Value}{nb:List Nat}(R:HRel B g hp w)(hP:OwnAt g.aK w (dp&& !τ.flat) τ x us nb)(hO:dI g nb)(hn:∀b∈nb,g.dU b=none)(hf:rL hp n):
  Wc [.own n 0] [(n, .own 0 τ (dp||τ.flat) x)] n (n+1) B g hp w us nb:=by
 have ht:=R.tK (hf n (aq2 _))
 have SE:∀o:Obj,rL ([(n,o)]++hp) (n+1):=fun o i hi=>by
  show look ((n,o)::hp) i=none;rw[ay _ _ (by omega)];exact hf i (by omega)
 have hold:∀o:Obj,∀i,i<n→look ([(n,o)]++hp) i=look hp i:=fun o i hi=>ay _ _ (by omega)
 rcases hP with⟨rfl,hx,rfl⟩|⟨b,cap,arr,ty,mc,rfl,rfl,ha,hl,hs,hE⟩
 ·subst hx;obtain⟨l,R'⟩:=R.named (id:=n) (u:= .slice none 0 0) (o':= .own (g.top n) τ (dp||τ.flat) []) rfl (.inl ⟨by simp[Gh.name],rfl⟩);refine⟨Nat.le_succ _,SE _,hold _,_,l.le,fun x _=>⟨rfl,rfl⟩,fun _ _=>rfl, ?_,⟨_,[],rfl,⟨?_, ?_,rfl⟩,rfl⟩⟩
  ·rw[ht]at R';rw[ht];exact R'
  ·simp[Gh.name]
  ·simp[Gh.name,ht]
 ·have Mb:=hO.2 b (ap7 ..);have mG:=List.nodup_cons.1 hO.1
  have Jo:((dp||τ.flat)&& !τ.flat)=(dp&& !τ.flat):=by cases dp<;>cases τ.flat<;>rfl
  obtain⟨g',l,hk,ho,R',hc⟩:=R.kV (id:=n) (deep:=dp||τ.flat) (τ:=τ) (xs:=x) (nb:=mc) Mb (hn b (ap7 ..)) mG.1 ha hl hs mG.2 (fun y hy=>⟨hO.2 y (ap6 _ hy),by
   unfold jq at hE;split at hE
   ·exact hE.mQ y hy
   ·rw[hE.2]at hy;simp at hy⟩) (by rw[Jo];exact hE)
  rw[ht]at R' hc;refine⟨Nat.le_succ _,SE _,hold _,g',l,fun y hy=> ?_,fun i hi=>ho i (by omega),R',⟨_,[],rfl,hc,rfl⟩⟩;rw[ar5,not_or]at hy;exact hk y hy.1 hy.2
theorem Fu:∀(sp:Sp)(x:sp.ty.den)(pl:Nat×Nat)(n:Nat)(ib:Bool){B:Base}{g:Gh}{hp:List (Nat×Obj)}{w:World}{rp:Nat×Nat}{us:List Value}{nb:List Nat},sp.whole ib=true→(ib=true→iD g (some (pl.1,0,pl.2)) rp)→HRel B g hp w→Pass g.aK w sp x rp us nb→dI g nb→(∀b∈nb,g.dU b=none)→rL hp n→
  Wc (mk0 sp x pl n).1 (mk0 sp x pl n).2.1 n (mk0 sp x pl n).2.2 B g hp w us nb:=by
 intro sp
 induction sp with
 |un=>intro x pl n ib B g hp w rp us nb hw wN R hP hO hn hf;exact⟨aq2 _,hf,fun _ _=>rfl,g,Le.refl g,fun _ _=>⟨rfl,rfl⟩,fun _ _=>rfl,R,hP.1⟩
 |dC τ=>
  intro x pl n ib B g hp w rp us nb hw wN R hP hO hn hf;obtain⟨_,h1,u,rfl,hr⟩:=hP;exact⟨aq2 _,hf,fun _ _=>rfl,g,Le.refl g,fun _ _=>⟨rfl,rfl⟩,fun _ _=>rfl,R,u,[],rfl,⟨h1,hr⟩,rfl⟩
 |err=>
  intro x pl n ib B g hp w rp us nb hw wN R hP hO hn hf;obtain⟨_,u,rfl,hr⟩:=hP;exact⟨aq2 _,hf,fun _ _=>rfl,g,Le.refl g,fun _ _=>⟨rfl,rfl⟩,fun _ _=>rfl,R,u,[],rfl,hr,rfl⟩
 |np=>
  intro x pl n ib B g hp w rp us nb hw wN R hP hO hn hf;obtain⟨_,rfl⟩:=hP;exact⟨aq2 _,hf,fun _ _=>rfl,g,Le.refl g,fun _ _=>⟨rfl,rfl⟩,fun _ _=>rfl,R,_,[],rfl,rfl,rfl⟩
 |slf f m=>
  intro x pl n ib B g hp w rp us nb hw wN R hP hO hn hf;obtain⟨_,b,o,rfl⟩:=hP;have ht:=R.tK (hf n (aq2 _));obtain⟨l1,R1⟩:=R.named (id:=n) (u:= .pointer (some ⟨b,o,none⟩)) (o':= .dead (g.top n)) rfl trivial;have wR:(g.name n (g.top n) (.pointer (some ⟨b,o,none⟩))).cv n (g.top n)= .pointer (some ⟨b,o,none⟩):=(by simp[Gh.name]);have Qu:g.top n<(g.name n (g.top n) (.pointer (some ⟨b,o,none⟩))).top n:=(by simp[Gh.name]);rw[ht]at R1 wR Qu;rw[ht]at l1;refine⟨Nat.le_succ n,fun i hi=> ?_,fun i hi=> ?_,g.name n 0 (.pointer (some ⟨b,o,none⟩)),l1.le,fun _ _=>⟨rfl,rfl⟩,fun _ _=>rfl,R1,⟨_,[],rfl,⟨Qu,b,o,wR,rfl⟩,rfl⟩⟩
  ·have hi:n+1≤i:=hi;show look ((n,_)::hp) i=none;rw[ay _ _ (by omega)];exact hf i (by omega)
  ·show look ((n,_)::hp) i=_;rw[ay _ _ (by omega)]
 |own τ dp=>intro x pl n ib B g hp w rp us nb hw wN R hP hO hn hf;exact K4 R hP hO hn hf
 |lnd τ dp=>intro x pl n ib B g hp w rp us nb hw wN R hP hO hn hf;exact K4 R hP hO hn hf
 |yK ok=>intro x pl n ib B g hp w rp us nb hw;cases hw
 |s8=>
  intro x pl n ib B g hp w rp us nb hw wN R hP hO hn hf;have RQ:ib=true:=hw;obtain⟨Hv,bb,oo,kX,rfl⟩:=wN RQ _ _ _ rfl;have hB:tQ g.aK w (bb,oo+pl.2) x us nb:=hP
  have iO:pl.1<n:=by
   rcases Nat.lt_or_ge pl.1 n with h|h
   ·exact h
   ·have:=R.tK (hf pl.1 h);omega
  have two:∃u1 u2,us=[u1,u2]∧oc u1=true:=by
   rcases hB with⟨e,_⟩|⟨u2,e,_⟩
   ·exact⟨_,_,e,rfl⟩
   ·exact⟨_,_,e,rfl⟩
  obtain⟨u1,u2,rfl,YR⟩:=two;have ht:=R.tK (hf n (aq2 _));have Vw:=R.tK (hf (n+1) (by omega));obtain⟨l1,R1⟩:=R.named (id:=n) (u:=u1) (o':= .dead (g.top n)) rfl trivial;have wR:(g.name n (g.top n) u1).cv n (g.top n)=u1:=(by simp[Gh.name]);have Qu:g.top n<(g.name n (g.top n) u1).top n:=(by simp[Gh.name]);have ag3:(g.name n (g.top n) u1).top (n+1)=0:=(by simp[Gh.name,Vw]);obtain⟨g2,l2,k2,o2,R2,c2⟩:=R1.Il (id:=n+1) (a:=n) (ag:=g.top n) (bid:=pl.1) (bg:=0) (off:=pl.2) (xs:=x) (u2:=u2) (nb:=nb) Qu (ar4 Hv (l1.le.top _)) (by omega) (hO.mono l1) hn ((l1.le.cv _ _ Hv).trans kX) (by rw[wR];exact hB);have EO:bl g2 (.own n (g.top n)) u1:=⟨ar4 Qu (l2.top _),by rw[l2.cv _ _ Qu,wR],YR⟩;rw[ag3]at R2 c2;rw[ht]at R2 EO;refine⟨Nat.le_add_right n 2,fun i hi=> ?_,fun i hi=> ?_,g2,l1.le.trans l2,k2,fun i hi=>by rw[o2,l1.out],R2,⟨u1,[u2],rfl,EO,u2,[],rfl,c2,rfl⟩⟩
  ·have hi:n+2≤i:=hi;show look ((n+1,_)::(n,_)::hp) i=none;rw[ay _ _ (by omega),ay _ _ (by omega)];exact hf i (by omega)
  ·show look ((n+1,_)::(n,_)::hp) i=_;rw[ay _ _ (by omega),ay _ _ (by omega)]
 |pr a b vo vn=>
  intro x pl n ib B g hp w rp us nb hw wN R hP hO hn hf;simp only[Sp.whole,ao3]at hw;obtain⟨u1,u2,n1,n2,rfl,rfl,P1,P2⟩:=hP;have mG:=as7.1 hO.1
  have hd:∀y∈n2,y∉n1:=fun y h2 h1=>mG.2.2 y h1 y h2 rfl
  obtain⟨m1,f1,i1,g1,l1,k1,o1,R1,c1⟩:=vo x.1 pl n ib hw.1 wN R P1 ⟨mG.1,fun y hy=>hO.2 y (ar3 _ hy)⟩ (fun y hy=>hn y (ar3 _ hy)) hf
  obtain⟨m2,f2,i2,g2,l2,k2,o2,R2,c2⟩:=vn x.2 (pl.1,pl.2+a.size) _ ib hw.2 (fun e=>(((wN e).mono l1).on a.size)) R1 (P2.mono l1.aK) ⟨mG.2.1,fun y hy=>by rw[(k1 y (hd y hy)).1];exact hO.2 y (ar0 _ hy)⟩
   (fun y hy=>by rw[(k1 y (hd y hy)).2];exact hn y (ar0 _ hy)) f1
  refine⟨Nat.le_trans m1 m2, ?_,fun i hi=> ?_,g2,l1.trans l2,fun y hy=> ?_,fun i hi=>(o2 i (by omega)).trans (o1 i hi), ?_,(c1.mono l2).append c2⟩
  ·show rL ((_++_)++hp) _;rw[ao4];exact f2
  ·show look ((_++_)++hp) i=_;rw[ao4,i2 i (by omega),i1 i hi]
  ·rw[aq6,not_or]at hy;obtain⟨a1,a2⟩:=k1 y hy.1;obtain⟨b1,b2⟩:=k2 y hy.2;exact⟨b1.trans a1,b2.trans a2⟩
  ·show HRel B g2 ((_++_)++hp) w;rw[ao4];exact R2
 |ptr wh st sp ih=>
  intro x pl n ib B g hp w rp us nb hw wN R hP hO hn hf;simp only[Sp.whole,ao3]at hw;obtain⟨b,o,arr,ty,mc,rfl,rfl,ha,Yw,hle0,P⟩:=hP;obtain⟨rfl,mu,rfl⟩:=Yw.1 hw.1;have mG:=List.nodup_cons.1 hO.1;have ht:=R.tK (hf n (aq2 _));obtain⟨l0,R0⟩:=R.NQ n (.pointer (some ⟨b,0,none⟩)) arr.toList;have UW:(g.j2 n (g.top n) (.pointer (some ⟨b,0,none⟩)) arr.toList).cv n 0= .pointer (some ⟨b,0,none⟩):=(by simp[Gh.j2,ht]);have Me:0<(g.j2 n (g.top n) (.pointer (some ⟨b,0,none⟩)) arr.toList).top n:=(by simp[Gh.j2]);have SK:(g.j2 n (g.top n) (.pointer (some ⟨b,0,none⟩)) arr.toList).outer n=arr.toList:=(by simp[Gh.j2])
  have SG:∀i,i<n→(g.j2 n (g.top n) (.pointer (some ⟨b,0,none⟩)) arr.toList).outer i=g.outer i:=fun i hi=>by
   simp only[Gh.j2];rw[ar1 (by omega)]
  have Mc:(g.j2 n (g.top n) (.pointer (some ⟨b,0,none⟩)) arr.toList).dn=g.dn:=rfl;have Mk:(g.j2 n (g.top n) (.pointer (some ⟨b,0,none⟩)) arr.toList).dU=g.dU:=rfl;have P0:Pass (g.j2 n (g.top n) (.pointer (some ⟨b,0,none⟩)) arr.toList).aK w sp x (b,0) ((arr.toList.drop 0).take sp.size) mc:=P
  generalize g.j2 n (g.top n) (.pointer (some ⟨b,0,none⟩)) arr.toList=g0 at l0 R0 UW Me SK SG Mc Mk P0
  rw[ht]at R0
  obtain⟨m1,f1,i1,g1,l1,k1,o1,R1,c1⟩:=ih x (n,0) (n+1) true hw.2 (fun _ id gen off e=>by
    injection e with e;injection e with e1 e;injection e with e2 e3
    subst e1;subst e2;subst e3
    exact⟨Me,b,0,UW,rfl⟩) R0 P0 ⟨mG.2,fun y hy=>by rw[Mc];exact hO.2 y (ap6 _ hy)⟩ (fun y hy=>by rw[Mk];exact hn y (ap6 _ hy)) (fun i hi=>by rw[ay _ _ (by omega)];exact hf i (by omega))
  obtain⟨q1,q2⟩:=k1 b mG.1;rw[Mc]at q1;rw[Mk]at q2
  have rT:(arr.toList.drop 0).take sp.size=arr.toList:=by
   rw[List.drop_zero];exact List.take_of_length_le (by simp[mu])
  rw[rT]at c1;have JG:look ((mk0 sp x (n,0) (n+1)).2.1++((n,Obj.iu 0 (0,[]))::hp)) n=some (.iu 0 (0,[])):=(by rw[i1 n (by omega),aC]);have Mb:g1.dn b=some 0:=q1.trans (hO.2 b (ap7 ..));have Ew:g1.dU b=none:=q2.trans (hn b (ap7 ..));have wR:g1.cv n 0= .pointer (some ⟨b,0,none⟩):=(l1.cv _ _ Me).trans UW;have PS:g1.outer n=arr.toList:=(o1 n (by omega)).trans SK
  let g2:Gh:={g1 with dn:=open Classical in fun x=>if x=b then some (n+1)else g1.dn x}
  have No:Le g1 g2:=⟨fun _ _ h=>h,fun _=>aq2 _,fun _ _ _=>rfl⟩
  have R2:HRel B g2 ((n, .box 0 (st.1,(mk0 sp x (n,0) (n+1)).1))::((mk0 sp x (n,0) (n+1)).2.1++((n,Obj.iu 0 (0,[]))::hp))) w:=by
   refine R1.OR Mb Ew JG rfl ⟨b,0,arr,st.1,arr.toList,wR,⟨by simp,Ew⟩,ha,c1.mono No, ?_, ?_,rfl, ?_,rfl⟩
   ·show arr.toList=(g1.outer n).take 0++arr.toList++(g1.outer n).drop (0+arr.toList.length);rw[PS];simp
   ·show 0+arr.toList.length≤(g1.outer n).length;rw[PS];simp
   ·show(g1.outer n).length=(mk0 sp x (n,0) (n+1)).1.length;rw[PS];exact c1.length
  have PE:∀i,look ((n,Obj.box 0 (st.1,(mk0 sp x (n,0) (n+1)).1))::((mk0 sp x (n,0) (n+1)).2.1++hp)) i=look ((n,Obj.box 0 (st.1,(mk0 sp x (n,0) (n+1)).1))::((mk0 sp x (n,0) (n+1)).2.1++((n,Obj.iu 0 (0,[]))::hp))) i:=by
   intro i
   by_cases e:n=i
   ·subst e;rw[aC,aC]
   ·rw[ay _ _ e,ay _ _ e]
    have app:∀(l:List (Nat×Obj)),look (l++hp) i=look (l++((n,Obj.iu 0 (0,[]))::hp)) i:=by
     intro l
     induction l with
     |nil=>exact(ay _ _ e).symm
     |cons p l ih=>
      show(bif Nat.beq p.1 i then some p.2 else look (l++hp) i)=(bif Nat.beq p.1 i then some p.2 else look (l++((n,Obj.iu 0 (0,[]))::hp)) i);rw[ih]
    exact app _
  refine⟨by show n≤(mk0 sp x (n,0) (n+1)).2.2;omega,fun i hi=> ?_,fun i hi=> ?_,g2,(l0.trans l1).trans No,fun y hy=> ?_,fun i hi=>(o1 i (by omega)).trans (SG i hi),R2.congr PE,⟨_,[],rfl,⟨ar4 Me (l1.top n),b,0,wR,rfl⟩,rfl⟩⟩
  ·have hi:(mk0 sp x (n,0) (n+1)).2.2≤i:=hi;have:=f1 i hi;have h2:=PE i;rw[ay _ _ (by omega),ay _ _ (by omega)]at h2;show look ((n,_)::((mk0 sp x (n,0) (n+1)).2.1++hp)) i=none;rw[ay _ _ (by omega),h2];exact this
  ·have h2:=PE i;rw[ay _ _ (by omega),ay _ _ (by omega)]at h2;show look ((n,_)::((mk0 sp x (n,0) (n+1)).2.1++hp)) i=_;rw[ay _ _ (by omega),h2,i1 i (by omega),ay _ _ (by omega)]
  ·rw[ar5,not_or]at hy;obtain⟨a1,a2⟩:=k1 y hy.2;exact⟨by simp[g2,hy.1,a1,Mc],by rw[show g2.dU=g1.dU from rfl,a2,Mk]⟩
def tO (a:Act):List Nat→List Value→Prop
 |[],us=>us=[]
 |t::ts,us=>∃u r,us=u::r∧a.tmps.getD t undef=u∧tO a ts r
theorem sQ {a:Act}:∀(as:List VSp)(ts:List Nat)(x:(b9 as).den)(n:Nat){B:Base}{g:Gh}{hp:List (Nat×Obj)}{w:World}{us:List Value}{nb:List Nat},mo as=true→HRel B g hp w→gg g.aK w as x us nb→dI g nb→(∀b∈nb,g.dU b=none)→rL hp n→
  tO a ts us→∃g',Le g g'∧HRel B g' ((uC as ts x n).2++hp) w∧∀t s,(t,s)∈(uC as ts x n).1→dc g' s (a.tmps.getD t undef)
 |[],ts,x,n,B,g,hp,w,us,nb,Mh,R,hP,hO,hn,hf,hs=>⟨g,Le.refl g,R,fun t s h=>by simp[uC]at h⟩
 |sp::as,[],x,n,B,g,hp,w,us,nb,Mh,R,hP,hO,hn,hf,hs=>⟨g,Le.refl g,R,fun t s h=>by simp[uC]at h⟩
 |sp::as,t::ts,x,n,B,g,hp,w,us,nb,Mh,R,hP,hO,hn,hf,hs=>by
  simp only[mo,ao3]at Mh;obtain⟨u,r,n1,n2,rfl,rfl,P1,P2⟩:=hP;obtain⟨u',r',e,hu,Sz⟩:=hs
  injection e with e1 e2
  subst e1;subst e2;have mG:=as7.1 hO.1
  have hd:∀y∈n2,y∉n1:=fun y h2 h1=>mG.2.2 y h1 y h2 rfl
  have Xw:dI g n1:=⟨mG.1,fun y hy=>hO.2 y (ar3 _ hy)⟩
  have Hu:∀y∈n1,g.dU y=none:=fun y hy=>hn y (ar3 _ hy)
  have one:∃m g1,n≤m∧m=(yA sp x.1 n).2.2∧rL ((yA sp x.1 n).2.1++hp) m∧Le g g1∧(∀y,y∉n1→g1.dn y=g.dn y∧g1.dU y=g.dU y)∧HRel B g1 ((yA sp x.1 n).2.1++hp) w∧∀v,(yA sp x.1 n).1=some v→dT g1 v u:=by
   cases sp with
   |one s=>
    obtain⟨m1,f1,_,g1,l1,k1,_,R1,c1⟩:=Fu s x.1 (0,0) n false Mh.1 (fun e=>by cases e) R P1.2 Xw Hu hf;refine⟨_,g1,m1,rfl,f1,l1,k1,R1,fun v hv=> ?_⟩;simp only[yA]at hv;split at hv
    ·rename_i c hc
     injection hv with hv
     subst hv;rw[hc]at c1;obtain⟨u'',r'',Yu,Zj,_⟩:=c1
     injection Yu with Yu
     subst Yu;exact Zj
    ·cases hv
   |agg s=>
    obtain⟨Jy,rfl,P1⟩:=P1;obtain⟨m1,f1,_,g1,l1,k1,_,R1,c1⟩:=Fu s x.1 (0,0) n false Mh.1 (fun e=>by cases e) R P1 Xw Hu hf;refine⟨_,g1,m1,rfl,f1,l1,k1,R1,fun v hv=> ?_⟩
    injection hv with hv
    subst hv;exact⟨Jy,rfl,c1⟩
  obtain⟨m,g1,m1,em,f1,l1,k1,R1,c1⟩:=one;subst em
  have ae0:gg g1.aK w as x.2 r n2:=by
   have:∀(as:List VSp) (x:(b9 as).den) (us:List Value) (nb:List Nat),gg g.aK w as x us nb→gg g1.aK w as x us nb:=by
    intro as
    induction as with
    |nil=>intro x us nb h;exact h
    |cons a as ih=>intro x us nb h;obtain⟨u,r,n1,n2,e,e',h1,h2⟩:=h;exact⟨u,r,n1,n2,e,e',h1.mono l1.aK,ih _ _ _ h2⟩
   exact this _ _ _ _ P2
  obtain⟨g2,l2,R2,c2⟩:=sQ as ts x.2 (yA sp x.1 n).2.2 Mh.2 R1 ae0 ⟨mG.2.1,fun y hy=>by rw[(k1 y (hd y hy)).1];exact hO.2 y (ar0 _ hy)⟩
   (fun y hy=>by rw[(k1 y (hd y hy)).2];exact hn y (ar0 _ hy)) f1 Sz
  refine⟨g2,l1.trans l2, ?_,fun t' s ht=> ?_⟩
  ·show HRel B g2 ((_++_)++hp) w;rw[ao4];exact R2
  ·simp only[uC]at ht;split at ht
   ·rename_i v hv
    rcases ar5.1 ht with ht|ht
    ·injection ht with h1 h2
     subst h1;subst h2;show dT g2 v _;rw[hu];exact dT.mono l2 (c1 v hv)
    ·exact c2 t' s ht
   ·exact c2 t' s ht
theorem DS {β:Type}:∀{l:List (Nat×β)}{n:Nat}{b:β},look l n=some b→(n,b)∈l
 |[],_,_,h=>by cases h
 |(m,c)::r,n,b,h=>by
  simp only[look]at h
  cases e:Nat.beq m n with
  |true=>rw[e]at h;injection h with h;subst h;rw[beq_eq e];exact ap7 ..
  |false=>rw[e]at h;exact ap6 _ (DS h)
theorem Mr {E:Env}{B:Base}{g:Gh}{w:World}{as:List VSp}{ts:List Nat}{x:(b9 as).den}{us:List Value}{nb:List Nat}{a:Act}(Mh:mo as=true)(R:HRel B g [] w)(hP:gg g.aK w as x us nb)(hO:dI g nb)(hn:∀b∈nb,g.dU b=none)
  (hs:tO a ts us) (mu:a.tmps.size=E.nt) (SP:a.defers=[]) (hk:∀t∈E.mS,a.tmps.getD t undef=B.arg t) (Wx:TO E B) (hI:E.ini=false):
  ∃g',Le g g'∧HRel B g' (dec ts as x).hp w∧ActRel E B g' (dec ts as x).env a:=by
 obtain⟨g',l,R',hc⟩:=sQ as ts x FT Mh R hP hO hn (fun i _=>rfl) hs;rw[aq7]at R';exact⟨g',l,R',⟨fun t s ht=>hc t s (DS ht),mu,SP,hk,Wx,fun e=>by rw[hI]at e;cases e⟩⟩
theorem HRel.at {B:Base}{g:Gh}{hp:List (Nat×Obj)}{w:World}(R:HRel B g hp w)(g1:Gh):HRel {B with g0:=g1} g hp w:=
 ⟨R.top,R.eG,R.aK,R.dU,R.dR,R.ji,R.frame,R.size,R.os,R.tape,R.output,R.fix⟩
theorem Mm {E:Env}{B:Base}{g:Gh}{w:World}{as:List VSp}{ts:List Nat}{x:(b9 as).den}{us:List Value}{nb:List Nat}{a:Act}(Mh:mo as=true)(R:HRel B g [] w)(hP:gg g.aK w as x us nb)(hO:dI g nb)(hn:∀b∈nb,g.dU b=none)
  (hs:tO a ts us) (mu:a.tmps.size=E.nt) (SP:a.defers=[]) (hk:∀t∈E.mS,a.tmps.getD t undef=B.arg t) (Wx:TO E B):
  ∃g',Le g g'∧HRel {B with g0:=g'} g' (dec ts as x).hp w∧ActRel E {B with g0:=g'} g' (dec ts as x).env a:=by
 obtain⟨g',l,R',hc⟩:=sQ as ts x FT Mh R hP hO hn (fun i _=>rfl) hs;rw[aq7]at R';exact⟨g',l,R'.at g',⟨fun t s ht=>hc t s (DS ht),mu,SP,hk,Wx,fun _=>Le.refl _⟩⟩
open Classical in
theorem HRel.fresh {B:Base}{g:Gh}{hp:List (Nat×Obj)}{w:World}(R:HRel B g hp w){nb:List Nat}(hO:dI g nb):
  ∃g',g'.aK=g.aK∧HRel B g' [] w∧dI g' nb∧∀b∈nb,g'.dU b=none:=by
 refine⟨{aK:=g.aK,top:=fun _=>0,cv:=fun _ _=> .tuple #[],dn:=fun x=>if x∈nb then some 0 else none,dU:=fun _=>none,outer:=fun _=>[]},rfl,⟨fun _=>rfl,(fun i o h=>by cases h),fun b L h=> ?_,(fun b L h=>by cases h),fun b h=> ?_,R.ji,fun b hb hl hi=> ?_,R.size,R.os,R.tape,R.output,R.fix⟩,
  ⟨hO.1,fun b hb=>by simp[hb]⟩,fun _ _=>rfl⟩
 ·obtain⟨a1,a2,a3⟩:=R.aK b L h
  have:b∉nb:=fun hm=>by rw[hO.2 b hm]at a1;cases a1
  exact⟨by simp[this],rfl,a3⟩
 ·by_cases hm:b∈nb
  ·exact R.dR b (by rw[hO.2 b hm];simp)
  ·simp[hm]at h
 ·obtain⟨f1,f2,f3⟩:=R.frame b hb hl hi
  have:b∉nb:=fun hm=>by rw[hO.2 b hm]at f1;cases f1
  exact⟨by simp[this],f2,f3⟩
theorem vJ:∀{ts:List Nat}{s s':St}{vs:List Val},(D5 ts).run s=some (vs,s')→s'=s∧∀{g:Gh}{a:Act},il g s.env a→∃us,tO a ts us∧eX g vs us
 |[],_,_,_,h=>by obtain⟨rfl,rfl⟩:=ai h;exact⟨rfl,fun _=>⟨[],rfl,rfl⟩⟩
 |t::ts,s,s',vs,h=>by
  obtain⟨v,t1,h1,h2⟩:=AM.ah h;obtain⟨XM,t2,h3,h4⟩:=AM.ah h2;obtain⟨rfl,rfl⟩:=ai h4;simp only[AM.run]at h1;split at h1
  ·rename_i sl BC;obtain⟨rfl,rfl⟩:=sx h1;obtain⟨rfl,hr⟩:=vJ h3;refine⟨rfl,fun V=> ?_⟩;obtain⟨us,hs,hv⟩:=hr V;exact⟨_::us,⟨_,us,rfl,rfl,hs⟩,⟨_,us,rfl,V t _ BC,hv⟩⟩
  ·cases h1
theorem Ra {E:Env}(hI:E.ini=false){B:Base}{ts ts':List Nat}{as:List VSp}{s s':St}{x:(b9 as).den}(h:(enc ts as).run s=some (x,s')){g:Gh}{a:Act}{w:World}(R:HRel B g s.hp w)(V:ActRel E B g s.env a):
  ∃g',(∀b L,g.aK b=some L→g'.aK b=some L)∧HRel B g' (dec ts as x).hp w∧ActRel E B g' (dec ts as x).env a:=by
 obtain⟨Mh,h⟩:=bh h;obtain⟨vs,t,h1,h2⟩:=AM.ah h;obtain⟨rfl,hv⟩:=vJ h1;obtain⟨us,hs,hr⟩:=hv V.env;obtain⟨_,Cb⟩:=ql h2;obtain⟨g1,l1,R1,c1⟩:=Cb B g w R;obtain⟨nb,hP,hO,_,_⟩:=c1 us hr;obtain⟨g2,e2,R2,RR,Fi⟩:=R1.fresh hO;obtain⟨g3,l3,R3,V3⟩:=Mr (E:=E) (ts:=ts) Mh R2 (by rw[e2];exact hP) RR Fi hs V.size V.defers V.kept V.slf hI;exact⟨g3,fun b L hb=>l3.aK b L (by rw[e2];exact l1.le.aK b L hb),R3,V3⟩
def Cz (a:Act):List Nat→List Value→Prop
 |[],us=>us=[]
 |t::r,us=>∃b o v,us= .pointer (some ⟨b,o,none⟩)::v∧a.tmps.getD t undef= .pointer (some ⟨b,o,none⟩)∧Cz a r v
def Pd (a:Act):Der→Prop
 |[]=>True
 |d::r=>(∃vs:List Value,a.tmps.getD d.1 undef= .func (.func d.2.1) #[] vs.toArray∧Cz a d.2.2 vs)∧Pd a r
theorem FN {g:Gh}{a:Act}{env:List (Nat×Slot)}(V:il g env a):∀{ts:List Nat}{cs:List (Nat×Nat)}{us:List Value},yz env ts=some cs→rR g cs us→Cz a ts us
 |[],cs,us,h,k=>by
  injection h with h
  subst h;exact k
 |t::ts,cs,us,h,k=>by
  simp only[yz]at h;split at h
  ·rename_i id gen hl;simp only[aq8]at h;obtain⟨A9,h1,rfl⟩:=h;obtain⟨b,o,v,rfl,ht,kX,hr⟩:=k;have hs:bl g (.ptr id gen 0) (a.tmps.getD t undef):=V t _ hl;obtain⟨_,b',o',e1,e2⟩:=hs;have kX:g.cv id gen= .pointer (some ⟨b,o,none⟩):=kX;rw[kX]at e1
   injection e1 with e1;injection e1 with e1;injection e1 with e1 e3
   subst e1;subst e3;exact⟨b,o,v,rfl,e2,FN V h1 hr⟩
  ·cases h
theorem Fy {g:Gh}{a:Act}{env:List (Nat×Slot)}(V:il g env a):∀{ts:List Nat}{cs:List (Nat×Nat)}{us:List Value},yz env ts=some cs→Cz a ts us→rR g cs us
 |[],cs,us,h,k=>by
  injection h with h
  subst h;exact k
 |t::ts,cs,us,h,k=>by
  simp only[yz]at h;split at h
  ·rename_i id gen hl;simp only[aq8]at h;obtain⟨A9,h1,rfl⟩:=h;obtain⟨b,o,v,rfl,hu,hr⟩:=k;have hs:bl g (.ptr id gen 0) (a.tmps.getD t undef):=V t _ hl;obtain⟨ht,b',o',e1,e2⟩:=hs;rw[hu]at e2
   injection e2 with e2;injection e2 with e2;injection e2 with e2 e3
   subst e2;refine⟨b,o,v,rfl,ht, ?_,Fy V h1 hr⟩;rw[e1,e3];rfl
  ·cases h
theorem It {g:Gh}{a:Act}{env:List (Nat×Slot)}(V:il g env a):∀{xB:Der},rQ env xB=true→Pd a xB
 |[],_=>trivial
 |d::r,h=>by
  simp only[rQ,ao3]at h;refine⟨?_,It V h.2⟩;have h1:=h.1;split at h1
  ·rename_i f jr cs hl hc;simp only[ao3]at h1;obtain rfl:=beq_eq h1.1;obtain rfl:=sy h1.2;have hs:bl g (.fn d.2.1 jr) (a.tmps.getD d.1 undef):=V d.1 _ hl;obtain⟨vs,e,hv⟩:=hs;exact⟨vs,e,FN V hc hv⟩
  ·cases h1
theorem yx {g:Gh}{a:Act}{env:List (Nat×Slot)}(V:il g env a):∀{xB:Der},Pd a xB→il g (derive env xB) a
 |[],_=>V
 |d::r,⟨⟨vs,e,hv⟩,hr⟩=>by
  simp only[derive];split
  ·rename_i cs hc;intro t s hl
   by_cases et:d.1=t
   ·subst et;rw[aC]at hl
    injection hl with hl
    subst hl;exact⟨vs,e,Fy V hc hv⟩
   ·rw[ay _ _ et]at hl;exact yx V hr t s hl
  ·exact yx V hr
theorem zC {E:Env}(hI:E.ini=false){B:Base}{ts:List Nat}{as:List VSp}{xB:Der}{s s':St}{x:(b9 as).den}(hd:rQ s.env xB=true)(h:(enc ts as).run s=some (x,s')){g:Gh}{a:Act}{w:World}(R:HRel B g s.hp w)(V:ActRel E B g s.env a):
  ∃g',(∀b L,g.aK b=some L→g'.aK b=some L)∧HRel B g' (Hh ts as xB x).hp w∧ActRel E B g' (Hh ts as xB x).env a:=by
 obtain⟨g',hi,R',V'⟩:=Ra hI (ts':=ts) h R V;exact⟨g',hi,R',⟨yx V'.env (It V.env hd),V'.size,V'.defers,V'.kept,V'.slf,V'.ini⟩⟩
end Go.Abs
end

section
namespace Go.Abs
def xf (E:Env)(c:Code)(h:Handler):Prop:=
 ∀(ρ:Type) (B:Base) (s:St) (K:Exit→St→Option ρ) (x:ρ) (Q:Exit→Act→World→Prop),h ρ s K=some x→(∀e,KOk E B (K e) x (Q e))→
  ∀g a w,ik E.fb g.aK→HRel B g s.hp w→ActRel E B g s.env a→c.wp E.P Q a w
def pieces:Code→List (Bool×Code)
 | .seq a b=>(false,b)::(pieces a++pieces b)
 | .cond _ a b=>pieces a++pieces b
 | .block _ c=>pieces c
 | .loop c=>[(true,c)]
 | .scope c=>pieces c
 |_=>[]
structure CutsOk (E:Env)(H:Cuts)(c:Code):Prop where
 loop:∀b,(true,b)∈pieces c→∀h:Handler,(first b).bind H.loop=some h→xf E (.loop b) h
 join:∀b,(false,b)∈pieces c→∀h:Handler,(first b).bind H.join=some h→xf E b h
theorem CutsOk.sub {E:Env}{H:Cuts}{c d:Code}(h:CutsOk E H c)(hs:∀p∈pieces d,p∈pieces c):CutsOk E H d:=
 ⟨fun b hb=>h.loop b (hs _ hb),fun b hb=>h.join b (hs _ hb)⟩
theorem C0 {s:St}{c:Operand}{t:Bool}{g:Gh}{a:Act}(h:zx s c=some t)(V:il g s.env a):a.eval c= .bool t:=by
 unfold zx at h;split at h
 ·rename_i t';split at h
  ·rename_i b hb
   injection h with h
   subst h;exact l7 (V t' _ hb)
  ·cases h
 ·injection h with h;subst h;rfl
 ·cases h
theorem yq {E:Env}(hE:EnvOk E)(hm:E.P.follows .mixedOrders=true){ρ:Type}{B:Base}{H:Cuts}:∀(c:Code)(s:St)(K:Exit→St→Option ρ)(x:ρ)(Q:Exit→Act→World→Prop),CutsOk E H c→exec E H c s K=some x→(∀e,KOk E B (K e) x (Q e))→
  ∀g a w,ik E.fb g.aK→HRel B g s.hp w→ActRel E B g s.env a→c.wp E.P Q a w:=by
 intro c
 induction c with
 |skip=>intro s K x Q _ h hK g a w hG R V;exact wp_skip (hK .normal s g a w h hG R V)
 |region id ops draw=>
  intro s K x Q _ h hK g a w hG R V;exact zY hE hm (hK .normal) h hG R V
 |seq c1 c2 Qn Qj=>
  intro s K x Q hH h hK g a w hG R V
  have h1:CutsOk E H c1:=hH.sub fun p hp=>ap6 _ (ar3 _ hp)
  have h2:CutsOk E H c2:=hH.sub fun p hp=>ap6 _ (ar0 _ hp)
  refine wp_seq (Qn s _ x _ h1 h (fun e=> ?_) g a w hG R V)
  cases e with
  |normal=>
   intro s' g' a' w' hk Hp R' V';simp only at hk
   cases hj:(first c2).bind H.join with
   |none=>
    rw[hj]at hk;exact Qj s' K x Q h2 hk hK g' a' w' Hp R' V'
   |some hh=>
    rw[hj]at hk;exact hH.join c2 (ap7 ..) hh hj ρ B s' K x Q hk hK g' a' w' Hp R' V'
  |_=>intro s' g' a' w' hk Hp R' V';exact hK _ s' g' a' w' hk Hp R' V'
 |cond c c1 c2 Qn Qj=>
  intro s K x Q hH h hK g a w hG R V;simp only[exec]at h
  cases hb:zx s c with
  |none=>rw[hb]at h;cases h
  |some t=>
   rw[hb]at h;refine wp_cond (C0 hb V.env) ?_;have h:brk t (exec E H c1 s K) (exec E H c2 s K)=some x:=h
   rcases DP h with⟨rfl,h'⟩|⟨rfl,h'⟩
   ·exact Qn s K x Q (hH.sub fun p hp=>ar3 _ hp) h' hK g a w hG R V
   ·exact Qj s K x Q (hH.sub fun p hp=>ar0 _ hp) h' hK g a w hG R V
 |block id c ih=>
  intro s K x Q hH h hK g a w hG R V;refine wp_block (ih s _ x _ (hH.sub fun p hp=>hp) h (fun e=> ?_) g a w hG R V)
  cases e with
  |exit i=>
   intro s' g' a' w' hk Hp R' V';simp only at hk;simp only[Exit.inBlock]
   by_cases e:i=id
   ·rw[as0 e];subst e;rw[Nat.beq_refl]at hk;exact hK .normal s' g' a' w' hk Hp R' V'
   ·rw[ar1 e]
    have:Nat.beq i id=false:=by rw[Bool.eq_false_iff];intro he;exact e (beq_eq he)
    rw[this]at hk;exact hK (.exit i) s' g' a' w' hk Hp R' V'
  |_=>intro s' g' a' w' hk Hp R' V';exact hK _ s' g' a' w' hk Hp R' V'
 |loop c ih=>
  intro s K x Q hH h hK g a w hG R V;simp only[exec]at h
  cases hj:(first c).bind H.loop with
  |none=>rw[hj]at h;cases h
  |some hh=>
   rw[hj]at h;exact hH.loop c (ap7 ..) hh hj ρ B s K x Q h hK g a w hG R V
 |exit i=>intro s K x Q _ h hK g a w hG R V;exact wp_exit (hK (.exit i) s g a w h hG R V)
 |ret=>intro s K x Q _ h hK g a w hG R V;exact wp_ret (hK .ret s g a w h hG R V)
 |label l=>intro s K x Q _ h hK g a w hG R V;exact wp_label (hK .normal s g a w h hG R V)
 |scope c ih=>
  intro s K x Q hH h hK g a w hG R V;refine wp_scope_straight (ih s _ x _ (hH.sub fun p hp=>hp) h (fun e=> ?_) g a w hG R V)
  cases e with
  |goto l=>intro s' g' a' w' hk;cases hk
  |_=>intro s' g' a' w' hk Hp R' V';exact hK _ s' g' a' w' hk Hp R' V'
 |_=>intro s K x Q _ h;cases h
theorem HR {e e':Exit}(h:DT e e'=true):e=e':=by
 cases e<;>cases e'<;>first|rfl|(cases h;done)|skip
 rw[beq_eq h]
theorem zm {ρ:Type}:∀{ws:List Way1}{e:Exit}{s:St}{y:nK ws}{K:Exit→St→Option ρ}{z:ρ},A2 ws e s=some y→Ek ws y K=some z→
  ∃ts as xB x s',rQ s.env xB=true∧(enc ts as).run s=some (x,s')∧K e (Hh ts as xB x)=some z
 |[],_,_,_,_,_,h,_=>by cases h
 |w::r,e,s,y,K,z,h,hg=>by
  simp only[A2]at h
  cases hs:DT w.e e with
  |true=>
   rw[hs]at h;simp only[ap3]at h
   cases hd:rQ s.env w.xB with
   |false=>rw[hd]at h;cases h
   |true=>
    rw[hd]at h;obtain⟨x,s',h1,h2⟩:=mn h
    injection h2 with h2
    subst h2;have hg:K w.e (Hh w.ts w.as w.xB x)=some z:=hg;rw[HR hs]at hg;exact⟨_,_,_,x,s',hd,h1,hg⟩
  |false=>
   rw[hs]at h;simp only[ao8,as8]at h;obtain⟨y',h1,h2⟩:=h
   injection h2 with h2
   subst h2;exact zm h1 hg
def pK (P:Program)(c:Code)(Q:Exit→Act→World→Prop)(a:Act)(w:World):Prop:=
 ∀(b:Frame) (k:List Item) (cs:List Frame),∃e a' w',Q e a' w'∧Arrives P (lone (b.at a (.code c:: .inLoop c::k)) cs w) b k cs e a' w'
theorem pK.wp {P:Program}{c:Code}{Q:Exit→Act→World→Prop}{a:Act}{w:World}(h:pK P c Q a w):(Code.loop c).wp P Q a w:=by
 intro b k cs;obtain⟨e,a',w',hq,zR⟩:=h b k cs;exact⟨e,a',w',hq, .of_steps (.one step_loop) zR⟩
theorem pK.round {P:Program}{c:Code}{Q:Exit→Act→World→Prop}{a:Act}{w:World}(h:c.wp P (Exit.then (pK P c Q) Q) a w):pK P c Q a w:=by
 intro b k cs;obtain⟨e,a₁,w₁,hq,zR⟩:=h b (.inLoop c::k) cs
 cases e with
 |normal=>
  obtain⟨e₂,a₂,w₂,ag4,WG⟩:=hq b k cs;exact⟨e₂,a₂,w₂,ag4, .of_steps (Steps.trans zR (.one step_inLoop)) WG⟩
 |exit id=>exact⟨_,a₁,w₁,hq, .pass (x:= .inLoop c) rfl (fun _ _=> .inl (by simp)) zR⟩
 |goto l=>exact⟨_,a₁,w₁,hq, .pass (x:= .inLoop c) rfl (fun _ _=> .inl (by simp)) zR⟩
 |ret=>exact⟨_,a₁,w₁,hq, .pass (x:= .inLoop c) rfl (fun _ _=> .inl (by simp)) zR⟩
 |panic ch=>exact⟨_,a₁,w₁,hq, .pass (x:= .inLoop c) rfl (fun _ _=> .inl (by simp)) zR⟩
 |outgrown=>exact⟨_,a₁,w₁,hq, .pass (x:= .inLoop c) rfl (fun _ _=> .inl (by simp)) zR⟩
def sD (E:Env)(c:Cut)(W:(Exit→Act→World→Prop)→Act→World→Prop)(L:(b9 c.as).den→Option (nK c.ws)):Prop:=
 ∀x y,L x=some y→∀{ρ:Type} (B:Base) (K:Exit→St→Option ρ) (z:ρ) (Q:Exit→Act→World→Prop),Ek c.ws y K=some z→(∀e,KOk E B (K e) z (Q e))→
  ∀g a w,ik E.fb g.aK→HRel B g (Hh c.ts c.as c.xB x).hp w→ActRel E B g (Hh c.ts c.as c.xB x).env a→W Q a w
def Eh (E:Env)(c:Cut)(body:Code)(L:(b9 c.as).den→Option (nK c.ws)):Prop:=sD E c (pK E.P body) L
def G1 (E:Env)(c:Cut)(body:Code)(L:(b9 c.as).den→Option (nK c.ws)):Prop:=sD E c (fun Q=>body.wp E.P Q) L
theorem Eh.none {E:Env}{c:Cut}{body:Code}:Eh E c body (fun _=> .none):=fun x y h=>by cases h
theorem G1.none {E:Env}{c:Cut}{body:Code}:G1 E c body (fun _=> .none):=fun x y h=>by cases h
theorem OV {E:Env}(hI:E.ini=false){B:Base}{ρ:Type}{ws:List Way1}{y:nK ws}{K:Exit→St→Option ρ}{z:ρ}{Q:Exit→Act→World→Prop}(hg:Ek ws y K=some z)(hK:∀e,KOk E B (K e) z (Q e))(e:Exit):KOk E B (A2 ws e) y (Q e):=by
 intro s g a w hk hG R V;obtain⟨ts,as,xB,x,s',hd,h1,h2⟩:=zm hk hg;obtain⟨g',hi,R',V'⟩:=zC hI hd h1 R V;exact hK e _ g' a w h2 (hG.mono hi) R' V'
theorem NB {E:Env}(hI:E.ini=false)(hE:EnvOk E)(hm:E.P.follows .mixedOrders=true){H:Cuts}{c:Cut}{body:Code}(hH:CutsOk E H body){L:(b9 c.as).den→Option (nK c.ws)}(hL:Eh E c body L):Eh E c body (c.round E H body L):=by
 intro x y h ρ B K z Q hg hK g a w hG R V
 apply pK.round
 refine yq hE hm body _ _ y _ hH h (fun e=> ?_) g a w hG R V
 cases e with
 |normal=>
  intro s' g' a' w' hk Hp R' V';have hk:(bif rQ s'.env c.xB then(enc c.ts c.as).exec s' fun x' _=>L x' else none)=some y:=hk
  cases hd:rQ s'.env c.xB with
  |false=>rw[hd]at hk;cases hk
  |true=>
   rw[hd]at hk;obtain⟨x',s'',h1,h2⟩:=mn hk;obtain⟨g2,hi,R2,V2⟩:=zC hI hd h1 R' V';exact hL x' y h2 B K z Q hg hK g2 a' w' (Hp.mono hi) R2 V2
 |_=>exact OV hI hg hK _
theorem uD {E:Env}(hI:E.ini=false)(hE:EnvOk E)(hm:E.P.follows .mixedOrders=true){H:Cuts}{c:Cut}{body:Code}(hH:CutsOk E H body):G1 E c body (c.tail E H body):=by
 intro x y h ρ B K z Q hg hK g a w hG R V;exact yq hE hm body _ _ y _ hH h (fun e=>OV hI hg hK e) g a w hG R V
theorem Gt {E:Env}(hI:E.ini=false){c:Cut}{body:Code}{L:(b9 c.as).den→Option (nK c.ws)}(hL:Eh E c body L):xf E (.loop body) (c.xh L):=by
 intro ρ B s K x Q h hK g a w hG R V;have h:(bif rQ s.env c.xB then(enc c.ts c.as).exec s fun x _=>(L x).bind fun y=>Ek c.ws y K else none)=some x:=h
 cases hd:rQ s.env c.xB with
 |false=>rw[hd]at h;cases h
 |true=>
  rw[hd]at h;obtain⟨x0,s',h1,h2⟩:=mn h;simp only[as8]at h2;obtain⟨y,h3,h4⟩:=h2;obtain⟨g2,hi,R2,V2⟩:=zC hI hd h1 R V;exact(hL x0 y h3 B K x Q h4 hK g2 a w (hG.mono hi) R2 V2).wp
theorem F3 {E:Env}(hI:E.ini=false){c:Cut}{body:Code}{L:(b9 c.as).den→Option (nK c.ws)}(hL:G1 E c body L):xf E body (c.xh L):=by
 intro ρ B s K x Q h hK g a w hG R V;have h:(bif rQ s.env c.xB then(enc c.ts c.as).exec s fun x _=>(L x).bind fun y=>Ek c.ws y K else none)=some x:=h
 cases hd:rQ s.env c.xB with
 |false=>rw[hd]at h;cases h
 |true=>
  rw[hd]at h;obtain⟨x0,s',h1,h2⟩:=mn h;simp only[as8]at h2;obtain⟨y,h3,h4⟩:=h2;obtain⟨g2,hi,R2,V2⟩:=zC hI hd h1 R V;exact hL x0 y h3 B K x Q h4 hK g2 a w (hG.mono hi) R2 V2
end Go.Abs
end

section
namespace Go.Abs
theorem Pass.back {aK:Rd}{w0 w:World}:∀{s:Sp}{x:s.ty.den}{pl:Nat×Nat}{old us:List Value}{nb:List Nat},s.plain=true→Pass aK w s x pl us nb→nr aK w0 w s x pl old us nb
 | .un,_,_,_,_,_,_,k=>k
 | .pr _ _,_,_,_,_,_,hp,⟨u1,u2,n1,n2,e,e',k1,k2⟩=>by
  simp only[Sp.plain,ao3]at hp;exact⟨u1,u2,n1,n2,e,e',Pass.back hp.1 k1,Pass.back hp.2 k2⟩
 | .dC _,_,_,_,_,_,_,k=>k
 | .own _ _,_,_,_,_,_,_,k=>k
 | .s8,_,_,_,_,_,_,k=>k
 | .yK _,_,_,_,_,_,hp,_=>by cases hp
 | .err,_,_,_,_,_,_,k=>k
 | .np,_,_,_,_,_,_,k=>k
 | .slf _ _,_,_,_,_,_,hp,_=>by cases hp
 | .ptr _ _ _,_,_,_,_,_,hp,_=>by cases hp
 | .lnd _ _,_,_,_,_,_,hp,_=>by cases hp
theorem qC.res {aK:Rd}{w:World}{a:VSp}{x:a.sp.ty.den}{u:Value}{nb:List Nat}(hp:a.sp.plain=true)(h:qC aK w a x u nb):wB aK w a x u nb:=by
 cases a with
 |one s=>exact⟨h.1,Pass.back hp h.2⟩
 |agg s=>obtain⟨us,e,h⟩:=h;exact⟨us,e,Pass.back hp h⟩
theorem gg.res {aK:Rd}{w:World}:∀{as:List VSp}{x:(b9 as).den}{us:List Value}{nb:List Nat},wX as=true→gg aK w as x us nb→qz aK w as x us nb
 |[],_,_,_,_,h=>h
 |_::_,_,_,_,hp,⟨u,r,n1,n2,e,e',h1,h2⟩=>by
  simp only[wX,ao3]at hp;exact⟨u,r,n1,n2,e,e',h1.res hp.1,gg.res hp.2 h2⟩
def Ej (tmps:Array Value):ResultVar→Sem Value
 | .tmp t=>pure (tmps.getD t undef)
 | .cell c t=>do loadVar t (←asAddr (tmps.getD c undef))
theorem F7 {E:Env}{r:ResultVar}{s s':St}{v:Val}(h:(Ha E r).run s=some (v,s')):s'.env=s.env∧∀{B:Base}{g:Gh}{a:Act}{w:World},ik E.fb g.aK→HRel B g s.hp w→il g s.env a→
  ∃u g',(Ej a.tmps r).run E.P w= .ok u w∧Le g g'∧HRel B g' s'.hp w∧dT g' v u:=by
 cases r with
 |tmp t=>
  simp only[Ha,AM.run]at h;split at h
  ·rename_i sl BC;obtain⟨rfl,rfl⟩:=sx h;exact⟨rfl,fun _ R V=>⟨_,_,rfl,Le.refl _,R,V t _ BC⟩⟩
  ·cases h
 |cell c t=>
  simp only[Ha,AM.run]at h;split at h
  ·rename_i sl BC;obtain⟨ag,t2,h3,h4⟩:=AM.ah h;obtain⟨n,t3,h5,h6⟩:=AM.ah h4;obtain⟨cs,t4,h7,h9⟩:=AM.ah h6;obtain⟨KW,rfl⟩:=cn h3;obtain⟨hn,rfl⟩:=cn h5;obtain rfl:=DQ h9;obtain⟨he,hr⟩:=Dw h7;refine⟨he,fun{B g a w} hG R V=> ?_⟩;obtain⟨b,o',us,g',e,F0,hlen,l,R',hc⟩:=hr hG.one R (V c _ BC);obtain⟨_,hv⟩:=vW h9 hc;have zT:=Ds (E:=E) (w:=w) KW hn hlen F0
   have Xe:(loadVar t ⟨b,o',none⟩).run E.P w= .ok (if ag then .agg us.toArray else us.getD 0 undef) w:=by simpa[Instr.loadAt,Instr.sureAddr]using zT
   refine⟨if ag then .agg us.toArray else us.getD 0 undef,g', ?_,l,R', ?_⟩
   ·show(do loadVar t (←asAddr (a.tmps.getD c undef)):Sem Value).run E.P w=_;rw[e];simpa[asAddr]using Xe
   ·rcases hv with⟨rfl,hv⟩|⟨rfl,u,rfl,hv⟩
    ·exact hv
    ·exact hv
  ·cases h
theorem oU {E:Env}:∀{rs:List ResultVar}{s s':St}{vs:List Val},(zK E rs).run s=some (vs,s')→s'.env=s.env∧∀{B:Base}{g:Gh}{a:Act}{w:World},ik E.fb g.aK→HRel B g s.hp w→il g s.env a→
  ∃us g',(rs.mapM (Ej a.tmps)).run E.P w= .ok us w∧Le g g'∧HRel B g' s'.hp w∧eX g' vs us
 |[],s,s',vs,h=>by
  obtain⟨rfl,rfl⟩:=ai h;exact⟨rfl,fun _ R _=>⟨[],_,by simp,Le.refl _,R,rfl⟩⟩
 |r::rs,s,s',vs,h=>by
  obtain⟨v,t,h1,h2⟩:=AM.ah h;obtain⟨XM,t2,h3,h4⟩:=AM.ah h2;obtain⟨rfl,rfl⟩:=ai h4;obtain⟨e1,k1⟩:=F7 h1;obtain⟨e2,k2⟩:=oU h3;refine⟨e2.trans e1,fun{B g a w} hG R V=> ?_⟩;obtain⟨u,g1,a1,l1,R1,v1⟩:=k1 hG R V;obtain⟨us,g2,a2,l2,R2,v2⟩:=k2 (hG.mono l1.aK) R1 (by rw[e1];exact V.mono l1);refine⟨u::us,g2, ?_,l1.trans l2,R2,⟨u,us,rfl,v1.mono l2,v2⟩⟩;rw[List.mapM_cons];simp only[Sem.run_bind,a1,Result.andThen_ok,a2];rfl
theorem v8:∀{sp:Sp}{p:sp.oA.den}{s s':St},(L4 sp).run s=some (p,s')→s'=s∧∀aK w0 w us,zO aK w0 w sp p us []
 | .un,_,_,_,h=>by obtain⟨rfl,rfl⟩:=ai h;exact⟨rfl,fun _ _ _ _=>rfl⟩
 | .dC _,_,_,_,h=>by obtain⟨rfl,rfl⟩:=ai h;exact⟨rfl,fun _ _ _ _=>rfl⟩
 | .own _ _,_,_,_,h=>by obtain⟨rfl,rfl⟩:=ai h;exact⟨rfl,fun _ _ _ _=>rfl⟩
 | .yK _,_,_,_,h=>by obtain⟨rfl,rfl⟩:=ai h;exact⟨rfl,fun _ _ _ _=>rfl⟩
 | .s8,_,_,_,h=>by obtain⟨rfl,rfl⟩:=ai h;exact⟨rfl,fun _ _ _ _=>rfl⟩
 | .err,_,_,_,h=>by obtain⟨rfl,rfl⟩:=ai h;exact⟨rfl,fun _ _ _ _=>rfl⟩
 | .np,_,_,_,h=>by obtain⟨rfl,rfl⟩:=ai h;exact⟨rfl,fun _ _ _ _=>rfl⟩
 | .slf _ _,_,_,_,h=>by obtain⟨rfl,rfl⟩:=ai h;exact⟨rfl,fun _ _ _ _=>rfl⟩
 | .ptr _ _ _,_,_,_,h=>by cases h
 | .lnd _ _,_,_,_,h=>by cases h
 | .pr a b,p,s,s',h=>by
  obtain⟨x,t,h1,h2⟩:=AM.ah h;obtain⟨y,t2,h3,h4⟩:=AM.ah h2;obtain⟨rfl,rfl⟩:=ai h4;obtain⟨rfl,k1⟩:=v8 h1;obtain⟨rfl,k2⟩:=v8 h3;exact⟨rfl,fun aK w0 w us=>⟨[],[],rfl,k1 _ _ _ _,k2 _ _ _ _⟩⟩
theorem aG.head {g:Gh}{c:Cell}{cs:List Cell}{us:List Value}(h:aG g (c::cs) us){n:Nat}{Mf:List Value}(e:Mf=us.take (n+1)):∃u,bl g c u∧Mf=u::(us.drop 1).take n:=by
 obtain⟨u,r,e',hu,_⟩:=h;subst e';exact⟨u,hu,by rw[e];rfl⟩
theorem IG {aK ji:Rd}{w0 w:World}{st:PT}{s:Sp}{x x0:s.ty.den}{pl ad2:Nat×Nat}{us:List Value}{nb Qr:List Nat}(P1:Pass aK w (.ptr true st s) x pl us nb)(P0:Pass ji w0 (.ptr true st s) x0 ad2 us Qr)
  (k:∀b arr ku ty EN n1 n0,us=[.pointer (some ⟨b,0,none⟩)]→w.heap[b]?=some (.cells arr ty (0,0))→w0.heap[b]?=some (.cells ku EN (0,0))→Pass aK w s x (b,0) arr.toList n1→Pass ji w0 s x0 (b,0) ku.toList n0→nr aK w0 w s x (b,0) ku.toList arr.toList n1):nr aK w0 w (.ptr true st s) x pl us us nb:=by
 obtain⟨b,o,arr,ty,mc,e,rfl,ha,Yw,_,XI⟩:=P1;obtain⟨rfl,mu,rfl⟩:=Yw.1 rfl;obtain⟨b0,o0,ku,EN,nb0',e0,_,Nc,Zu,_,ZZ⟩:=P0;obtain⟨rfl,UO,rfl⟩:=Zu.1 rfl;rw[e]at e0
 injection e0 with e0 _;injection e0 with e0;injection e0 with e0;injection e0 with e0 _
 subst e0
 have rT:(arr.toList.drop 0).take s.size=arr.toList:=by
  rw[List.drop_zero];exact List.take_of_length_le (by simp[mu])
 have Sl:(ku.toList.drop 0).take s.size=ku.toList:=by
  rw[List.drop_zero];exact List.take_of_length_le (by simp[UO])
 rw[rT]at XI;rw[Sl]at ZZ;have hd:ku.toList.drop (0+arr.toList.length)=[]:=List.drop_eq_nil_of_le (by simp[mu,UO]);refine⟨b,0,ku,_,arr,arr.toList,mc,e,rfl,rfl,Nc,ha, ?_,by simp[mu,UO],by simpa using mu, ?_⟩
 ·rw[hd];simp
 ·rw[Sl];exact k b arr ku _ _ _ _ e ha Nc XI ZZ
theorem H4 {vp:List (Nat×Obj)}{c:Cell}{s s':St}(h:(stays vp c).run s=some ((),s')):s'=s∧∀{B:Base}{g0 g:Gh}{w0 w:World}{us:List Value},HRel B g0 vp w0→Le g0 g→HRel B g s.hp w→aG g [c] us→
  ∃b arr ty ku EN,us=[.pointer (some ⟨b,0,none⟩)]∧w.heap[b]?=some (.cells arr ty (0,0))∧w0.heap[b]?=some (.cells ku EN (0,0))∧arr.toList=ku.toList:=by
 have box:∀{B:Base} {g:Gh} {hp:List (Nat×Obj)} {w:World} {n t:Nat},HRel B g hp w→look hp n=some (.box 0 (t,[.ptr (n+1) 0 0]))→∃b arr ty b1 o1,g.cv n 0= .pointer (some ⟨b,0,none⟩)∧w.heap[b]?=some (.cells arr ty (0,0))∧g.cv (n+1) 0= .pointer (some ⟨b1,o1,none⟩)∧arr.toList=[.pointer (some ⟨b1,o1,none⟩)]:=by
  intro B g hp w n t R hl;obtain⟨b,o,arr,ty,L,e1,_,e2,hc,e3,_,rfl,e4,_⟩:=R.eG n _ hl;obtain⟨u,r,rfl,⟨_,b1,o1,e5,rfl⟩,hr⟩:=hc;have hr:r=[]:=hr;subst hr;refine⟨b,arr,ty,b1,o1,e1,e2,e5, ?_⟩;rw[e3,List.drop_eq_nil_of_le (by simp only[ao0,ao2]at e4⊢;omega)];simp
 unfold stays at h;split at h
 ·rename_i n;obtain⟨hb,h⟩:=bh h;simp only[AM.run]at h;split at h
  ·rename_i t m hl;obtain⟨hm,h⟩:=bh h;obtain⟨_,rfl⟩:=ai h;obtain rfl:=beq_eq hm;refine⟨rfl,fun{B g0 g w0 w us} R0 l R hc=> ?_⟩;unfold R5 at hb;split at hb
   ·rename_i t0 m0 aa7;simp only[ao3]at hb;obtain rfl:=beq_eq hb.1;obtain⟨b,arr,ty,b1,o1,e1,e2,e3,e4⟩:=box R hl;obtain⟨b',ku,EN,b1',o1',f1,f2,f3,f4⟩:=box R0 aa7
    have t1:0<g0.top n:=by rw[R0.top,aa7];exact Nat.succ_pos _
    have t2:0<g0.top (n+1):=by
     rw[R0.top]
     cases hq:look vp (n+1)with
     |none=>rw[hq]at hb;cases hb.2
     |some o=>exact Nat.succ_pos _
    rw[l.cv n 0 t1,f1]at e1;rw[l.cv (n+1) 0 t2,f3]at e3
    injection e1 with e1;injection e1 with e1;injection e1 with e1 _
    subst e1
    injection e3 with e3;injection e3 with e3;injection e3 with e3 e5
    subst e3;subst e5;obtain⟨u,r,rfl,⟨_,bb,oo,q1,rfl⟩,hr⟩:=hc;have hr:r=[]:=hr;subst hr;rw[l.cv n 0 t1,f1]at q1
    injection q1 with q1;injection q1 with q1;injection q1 with q1 q2
    subst q1;subst q2;exact⟨b',arr,ty,ku,EN,rfl,e2,f2,by rw[e4,f4]⟩
   ·cases hb
  ·cases h
 ·cases h
theorem Gi {ini:Bool}{vp:List (Nat×Obj)}:∀{sp:Sp}{cells:List Cell}{s s':St}{p:sp.oA.den}{rest:List Cell},(GV ini vp sp cells).run s=some ((p,rest),s')→s'.env=s.env∧rest=cells.drop sp.size∧
  ∀{B:Base} {g:Gh} {w0 w:World} {ji:Rd} {x0:sp.ty.den} {rp:Nat×Nat} {us:List Value} {Qr:List Nat},(ini=true→∃g0,HRel B g0 vp w0∧Le g0 g)→HRel B g s.hp w→aG g (cells.take sp.size) us→Pass ji w0 sp x0 rp us Qr→
   ∃g' nb,Lk g g'∧HRel B g' s'.hp w∧dI g' nb∧(∀b∈nb,g.dn b≠some 0)∧zO g'.aK w0 w sp p us nb:=by
 intro sp
 have nil:∀{sp:Sp} {p:sp.oA.den} {B:Base} {g:Gh} {hp:List (Nat×Obj)} {w0 w:World} {us:List Value},HRel B g hp w→(∀aK,zO aK w0 w sp p us [])→
   ∃g' nb,Lk g g'∧HRel B g' hp w∧dI g' nb∧(∀b∈nb,g.dn b≠some 0)∧zO g'.aK w0 w sp p us nb:=fun{sp p B g hp w0 w us} R h=>
  ⟨g,[],Lk.refl g,R,⟨as2,fun b hb=>by simp at hb⟩,fun b hb=>by simp at hb,h _⟩
 induction sp with
 |un=>intro cells s s' p rest h;obtain⟨h1,rfl⟩:=ai h;injection h1 with h1 h2;subst h2;exact⟨rfl,rfl,fun _ R _ _=>nil R fun _=>rfl⟩
 |dC τ=>intro cells s s' p rest h;cases cells with|nil=>exact nomatch h|cons c cs=>obtain⟨h1,rfl⟩:=ai h;injection h1 with h1 h2;subst h2;exact⟨rfl,rfl,fun _ R _ _=>nil R fun _=>rfl⟩
 |own τ dp=>intro cells s s' p rest h;cases cells with|nil=>exact nomatch h|cons c cs=>obtain⟨h1,rfl⟩:=ai h;injection h1 with h1 h2;subst h2;exact⟨rfl,rfl,fun _ R _ _=>nil R fun _=>rfl⟩
 |err=>intro cells s s' p rest h;cases cells with|nil=>exact nomatch h|cons c cs=>obtain⟨h1,rfl⟩:=ai h;injection h1 with h1 h2;subst h2;exact⟨rfl,rfl,fun _ R _ _=>nil R fun _=>rfl⟩
 |np=>intro cells s s' p rest h;cases cells with|nil=>exact nomatch h|cons c cs=>obtain⟨h1,rfl⟩:=ai h;injection h1 with h1 h2;subst h2;exact⟨rfl,rfl,fun _ R _ _=>nil R fun _=>rfl⟩
 |slf f m=>intro cells s s' p rest h;cases cells with|nil=>exact nomatch h|cons c cs=>obtain⟨h1,rfl⟩:=ai h;injection h1 with h1 h2;subst h2;exact⟨rfl,rfl,fun _ R _ _=>nil R fun _=>rfl⟩
 |s8=>intro cells s s' p rest h;cases cells<;>exact nomatch h
 |yK ok=>intro cells s s' p rest h;cases cells with|nil=>exact nomatch h|cons c cs=>obtain⟨h1,rfl⟩:=ai h;injection h1 with h1 h2;subst h2;exact⟨rfl,rfl,fun _ R _ _=>nil R fun _=>rfl⟩
 |pr a b vo vn=>
  intro cells s s' p rest h;obtain⟨⟨p1,r1⟩,t,h1,h2⟩:=AM.ah h;obtain⟨⟨q1,q2⟩,t2,h3,h4⟩:=AM.ah h2;obtain⟨h5,rfl⟩:=ai h4
  injection h5 with h5 h6
  subst h5;subst h6;obtain⟨ea,ra,sa⟩:=vo h1;obtain⟨eb,rb,sb⟩:=vn h3;have ra:r1=cells.drop a.size:=ra;have rb:rest=r1.drop b.size:=rb;refine⟨eb.trans ea,by rw[rb,ra,List.drop_drop],fun{B g w0 w ji x0 rp us Qr} hI R hc hP=> ?_⟩;obtain⟨u1,u2,m1,m2,rfl,rfl,P1,P2⟩:=hP;have oD:=P1.length
  have c1:aG g (cells.take a.size) u1:=by
   have:=hc.take a.size;rw[List.take_take,Nat.min_eq_left (by show a.size≤a.size+b.size;omega),←oD,List.take_left,oD]at this;exact this
  have c2:aG g (r1.take b.size) u2:=by
   have:=hc.drop a.size;rw[show(Sp.pr a b).size=a.size+b.size from rfl,List.drop_take,show a.size+b.size - a.size=b.size by omega,←ra,←oD,List.drop_left]at this;exact this
  obtain⟨g1,n1,l1,R1,O1,f1,X1⟩:=sa hI R c1 P1;obtain⟨g2,n2,l2,R2,O2,f2,X2⟩:=sb (fun e=>(hI e).imp fun _ q=>⟨q.1,q.2.trans l1.le⟩) R1 (c2.mono l1.le) P2;refine⟨g2,n1++n2,l1.trans l2,R2,dI.append l2 O1 O2 f2,fun b hb=> ?_,n1,n2,rfl, ?_, ?_⟩
  ·rcases aq6.1 hb with hb|hb
   ·exact f1 b hb
   ·exact fun e=>f2 b hb (l1.kp b e).1
  ·rw[←oD,List.take_left];exact qG l2.le.aK X1
  ·rw[←oD,List.drop_left];exact X2
 |lnd τ dp=>
  intro cells s s' p rest h
  cases cells with
  |nil=>exact nomatch h
  |cons c cs=>
   obtain⟨⟨x,r⟩,t,h1,h2⟩:=AM.ah h;obtain⟨h3,rfl⟩:=ai h2
   injection h3 with h3 h4
   subst h3;subst h4;obtain⟨k,_,hs⟩:=uw (.own τ dp) _ _ _ _ _ _ h1;refine⟨k.1,rfl,fun{B g w0 w ji x0 rp us Qr} hI R hc hP=> ?_⟩;obtain⟨g',l,R',KU⟩:=hs B g w R;obtain⟨u1,u2,nb,e,P1,O1,r1,f1,_⟩:=KU us (0,0) hc (iD.none _ _);have hl:us.length=1:=hP.length;have oD:u1.length=1:=P1.length;have xx:u2=[]:=as1 (by have:=congrArg List.length e;simp at this;omega);subst xx;rw[aq7]at e;subst e;exact⟨g',nb,l,R',O1,f1,rfl,P1⟩
 |ptr wh st sr ih=>
  intro cells s s' p rest h
  cases cells with
  |nil=>exact nomatch h
  |cons c cs=>
   have fin:wh=true∧((yD (.ptr wh st sr) none [c]).bind fun p=>AM.ret (p.1,cs)).run s=some ((p,rest),s')∧(∀{B:Base} {g g':Gh} {w0 w:World} {ji:Rd} {x0:sr.ty.den} {us:List Value},(ini=true→∃g0,HRel B g0 vp w0∧Le g0 g)→HRel B g s.hp w→aG g [c] us→∀b arr ku ty EN n1 n0,us=[.pointer (some ⟨b,0,none⟩)]→w.heap[b]?=some (.cells arr ty (0,0))→w0.heap[b]?=some (.cells ku EN (0,0))→Pass g'.aK w sr p (b,0) arr.toList n1→Pass ji w0 sr x0 (b,0) ku.toList n0→nr g'.aK w0 w sr p (b,0) ku.toList arr.toList n1):=by
    have h0:(bif sr.plain&&wh then(yD (.ptr wh st sr) none [c]).bind fun p=>AM.ret (p.1,cs)else bif ini&&(sr.inner&&wh)then(stays vp c).bind fun _=>(yD (.ptr wh st sr) none [c]).bind fun p=> .ret (p.1,cs)else .fail).run s=some ((p,rest),s'):=h
    cases hb:(sr.plain&&wh)with
    |true=>
     rw[hb]at h0;rw[ao3]at hb;exact⟨hb.2,h0,fun _ _ _ b arr ku ty EN n1 n0 _ _ _ q _=>q.back hb.1⟩
    |false=>
     rw[hb]at h0;obtain⟨zW,h0⟩:=bh (b:=ini&&(sr.inner&&wh)) h0;rw[ao3,ao3]at zW;obtain⟨⟨⟩,t,h1,h2⟩:=AM.ah h0;obtain⟨rfl,mZ⟩:=H4 h1;refine⟨zW.2.2,h2,fun{B g g' w0 w ji x0 us} hI R hc b arr ku ty EN n1 n0 e ha Nc q q0=> ?_⟩;obtain⟨g0,R0,l0⟩:=hI zW.1;obtain⟨b',a1,t1,a2,t2,e',f1,f2,f3⟩:=mZ R0 l0 R hc;rw[e]at e'
     injection e' with e' _;injection e' with e';injection e' with e';injection e' with e' _
     subst e';rw[ha]at f1
     injection f1 with f1;injection f1 with f1 _
     subst f1;rw[Nc]at f2
     injection f2 with f2;injection f2 with f2 _
     subst f2
     cases sr with
     |ptr am4 Qm s2=>
      have ZJ:(s2.plain&&am4)=true:=zW.2.1;rw[ao3]at ZJ;obtain⟨wN,rfl⟩:=ZJ;rw[f3]at q⊢
      exact IG q q0 fun b arr ku ty EN n1 n0 _ _ _ q _=>q.back wN
     |_=>exact absurd zW.2.1 (by simp[Sp.inner])
   obtain⟨rfl,h0,key⟩:=fin;obtain⟨⟨x,r⟩,t,h1,h2⟩:=AM.ah h0;obtain⟨h3,rfl⟩:=ai h2
   injection h3 with h3 h4
   subst h3;subst h4;obtain⟨k,_,hs⟩:=uw (.ptr true st sr) _ _ _ _ _ _ h1;refine⟨k.1,rfl,fun{B g w0 w ji x0 rp us Qr} hI R hc hP=> ?_⟩;obtain⟨g',l,R',KU⟩:=hs B g w R;obtain⟨u1,u2,nb,e,P1,O1,r1,f1,_⟩:=KU us (0,0) hc (iD.none _ _);have hl:us.length=1:=hP.length;have oD:u1.length=1:=P1.length;have xx:u2=[]:=as1 (by have:=congrArg List.length e;simp at this;omega);subst xx;rw[aq7]at e;subst e;exact⟨g',nb,l,R',O1,f1,IG P1 hP (key hI R hc)⟩
theorem Fe {E:Env}{vp:List (Nat×Obj)}:∀{as:List VSp}{n:Nat}{s s':St}{y:(oN as).den},(Gx E.ini vp E.mS as n).run s=some (y,s')→
  ∀{B:Base} {g:Gh} {a:Act} {w0 w:World} {ji:Rd} {x0:(b9 as).den} {args:List Value} {Qr:List Nat},(E.ini=true→∃g0,HRel B g0 vp w0∧Le g0 g)→HRel B g s.hp w→ActRel E B g s.env a→gg ji w0 as x0 args Qr→(∀k u,args[k]?=some u→B.arg (n+k)=u)→
   ∃g' nb,Lk g g'∧HRel B g' s'.hp w∧dI g' nb∧(∀b∈nb,g.dn b≠some 0)∧kn g'.aK w0 w as y args nb:=by
 intro as
 induction as with
 |nil=>
  intro n s s' y h B g a w0 w ji x0 args Qr hI R V hP hA;obtain⟨_,rfl⟩:=ai h;exact⟨g,[],Lk.refl g,R,⟨as2,fun b hb=>by simp at hb⟩,fun b hb=>by simp at hb,hP.1,rfl⟩
 |cons sp as ih=>
  intro n s s' y h B g a w0 w ji x0 args Qr hI R V hP hA;obtain⟨u,r,m1,m2,rfl,rfl,P1,P2⟩:=hP
  have Jv:∀k v,r[k]?=some v→B.arg (n+1+k)=v:=fun k v hk=>by
   have:=hA (k+1) v (by simpa using hk);rw[show n+1+k=n+(k+1)by omega];exact this
  obtain⟨p,t,h1,h2⟩:=AM.ah h;obtain⟨q,t2,h3,h4⟩:=AM.ah h2;obtain⟨rfl,rfl⟩:=ai h4
  cases ho:sp.sp.GU with
  |false=>
   rw[ho]at h1;obtain⟨rfl,k⟩:=v8 h1;obtain⟨g',nb,l,R',hO,hf,hX⟩:=ih h3 hI R V P2 Jv;exact⟨g',nb,l,R',hO,hf,u,r,[],nb,rfl,rfl,k _ _ _ _,hX⟩
  |true=>
   rw[ho]at h1;obtain⟨hb,h0⟩:=bh h1;obtain⟨v,t0,h5,h6⟩:=AM.ah h0;obtain⟨⟨p',rest⟩,t1,h7,h8⟩:=AM.ah h6;obtain⟨rfl,rfl⟩:=ai h8;simp only[AM.run]at h5;split at h5
   ·rename_i sl BC;obtain⟨rfl,rfl⟩:=sx h5;obtain⟨e1,_,hs⟩:=Gi h7
    have M6:dT g v u:=by
     have h1:dc g (.val v) (a.tmps.getD n undef):=V.env n _ BC;obtain⟨k,hk,ad9⟩:=List.any_eq_true.1 hb;rw[V.kept n (by rw[beq_eq ad9];exact hk),show B.arg n=u from hA 0 u rfl]at h1;exact h1
    have nu:=M6.cells
    have XD:∃rp,Pass ji w0 sp.sp x0.1 rp u.cells.toList m1:=by
     cases sp with
     |one sq=>exact⟨(0,0),by rw[AO P1.1];exact P1.2⟩
     |agg sq=>obtain⟨us,rfl,P1⟩:=P1;exact⟨(0,0),P1⟩
    obtain⟨rp,XD⟩:=XD;have hlen:=nu.length;rw[XD.length]at hlen;have Xn:v.cells.take sp.sp.size=v.cells:=(by rw[hlen,List.take_length]);obtain⟨g1,n1,l1,R1,Xw,XO,X1⟩:=hs hI R (by rw[Xn];exact nu) XD;obtain⟨g2,n2,l2,R2,RR,Z5,hX⟩:=ih h3 (fun e=>(hI e).imp fun _ q=>⟨q.1,q.2.trans l1.le⟩) R1 ((V.mono l1.le).GX e1) P2 Jv;refine⟨g2,n1++n2,l1.trans l2,R2,dI.append l2 Xw RR Z5,fun b hb=> ?_,u,r,n1,n2,rfl,rfl,qG l2.le.aK X1,hX⟩
    rcases aq6.1 hb with hb|hb
    ·exact XO b hb
    ·exact fun e=>Z5 b hb (l1.kp b e).1
   ·cases h5
theorem vX {P:Program}{fn:Func}{tmps:Array Value}{w:World}{us:List Value}(h:(fn.results.toList.mapM (Ej tmps)).run P w= .ok us w):
  (results fn tmps).run P w= .ok (match us with|[u]=>u|us=> .tuple us.toArray) w:=by
 have e:(fn.results.mapM (Ej tmps)).run P w= .ok us.toArray w:=by
  rw[Array.mapM_eq_mapM_toList];simp[h]
 have hr:results fn tmps=(do
  let vs←fn.results.mapM (Ej tmps)
  pure (if h:vs.size=1 then vs[0]else .tuple vs)):=rfl
 rw[hr];simp only[Sem.run_bind,e,Result.andThen_ok,Sem.run_pure]
 match us with
 |[]=>rfl
 |[u]=>rfl
 |u::v::r=>rfl
theorem vR {g:Gh}:∀{vs:List Val}{us:List Value},eX g vs us→us.length=vs.length
 |[],_,h=>by have h:_=_:=h;subst h;rfl
 |_::_,_,⟨_,_,e,_,hr⟩=>by subst e;simp[vR hr]
theorem Gc {E:Env}{fn:Func}{r:RSp}{s s':St}{y:r.ty.den}(h:(OG E fn.results.toList r).run s=some (y,s')):s'.env=s.env∧∀{B:Base}{g:Gh}{a:Act}{w:World},ik E.fb g.aK→HRel B g s.hp w→il g s.env a→
  ∃v g' nb,(results fn a.tmps).run E.P w= .ok v w∧Le g g'∧HRel B g' s'.hp w∧dI g' nb∧wG g'.aK w r y v nb:=by
 cases r with
 |none=>
  obtain⟨vs,t,h1,h2⟩:=AM.ah h;split at h2
  ·obtain⟨_,rfl⟩:=ai h2;obtain⟨e1,k1⟩:=oU h1;refine⟨e1,fun{B g a w} hG R V=> ?_⟩;obtain⟨us,g1,a1,l1,R1,v1⟩:=k1 hG R V;have v1:us=[]:=v1;subst v1;exact⟨_,g1,[],vX a1,l1,R1,⟨as2,fun b hb=>by simp at hb⟩,rfl,rfl⟩
  ·cases h2
 |val sp=>
  obtain⟨vs,t,h1,h2⟩:=AM.ah h;obtain⟨hp,h3⟩:=bh h2;split at h3
  ·rename_i v;obtain⟨e1,k1⟩:=oU h1;obtain⟨e2,k2⟩:=Bv h3;refine⟨e2.1.trans e1,fun{B g a w} hG R V=> ?_⟩;obtain⟨us,g1,a1,l1,R1,v1⟩:=k1 hG R V;obtain⟨u,rfl,hv⟩:=IQ v1 rfl;obtain⟨g2,l2,R2,c2⟩:=k2 B g1 w R1;obtain⟨nb,hP,hO,_⟩:=c2 u hv;exact⟨u,g2,nb,vX a1,l1.trans l2.le,R2,hO,hP.res hp⟩
  ·cases h3
 |ta as=>
  obtain⟨vs,t,h1,h2⟩:=AM.ah h;obtain⟨hp,h3⟩:=bh h2;split at h3
  ·cases h3
  ·rename_i jj;obtain⟨e1,k1⟩:=oU h1;obtain⟨e2,k2⟩:=ql h3;refine⟨e2.1.trans e1,fun{B g a w} hG R V=> ?_⟩;obtain⟨us,g1,a1,l1,R1,v1⟩:=k1 hG R V;obtain⟨g2,l2,R2,c2⟩:=k2 B g1 w R1;obtain⟨nb,hP,hO,_⟩:=c2 us v1;have hl:=vR v1;have hr:=vX a1;refine⟨.tuple us.toArray,g2,nb, ?_,l1.trans l2.le,R2,hO,us,rfl,hP.res hp⟩;rw[hr]
   match us,hl with
   |[],_=>rfl
   |[u],hl=>
    exfalso
    match vs,hl with
    |[v],_=>exact jj v rfl
   |u::v::r,_=>rfl
theorem uU {aK:Rd}{w:World}:∀{as:List VSp}{x:(b9 as).den}{us:List Value}{nb:List Nat},gg aK w as x us nb→us.length=as.length
 |[],_,_,_,h=>by rw[h.1];rfl
 |_::_,_,_,_,⟨u,r,n1,n2,e,_,_,h⟩=>by rw[e];simp[uU h]
theorem xQ {a:Act}:∀(as:List VSp)(n:Nat)(us:List Value),us.length=as.length→(∀k u,us[k]?=some u→a.tmps.getD (n+k) undef=u)→tO a (upto as n) us
 |[],_,us,h,_=>as1 h
 |_::as,n,[],h,_=>by simp at h
 |_::as,n,u::r,h,hk=>⟨u,r,rfl,hk 0 u rfl,xQ as (n+1) r (by simpa using h) fun k v hv=>by
   have:=hk (k+1) v (by simpa using hv)
   rw[show n+1+k=n+(k+1)by omega];exact this⟩
theorem QI {E:Env}(hE:EnvOk E)(hm:E.P.follows .mixedOrders=true){f:FuncId}{fn:Func}{c:Code}{sg:Sig}{H:Cuts}(hf:E.P.funcs[f]?=some fn)(hb:fn.body=some c)(Jj:(fn.name== "runtime.NumGoroutine")=false)
  (ad3:fn.ntmps=E.nt) (Ml:sg.args.length≤E.nt) (Wu:(E.mS.all fun t=>Nat.blt t sg.args.length)=true) (Mh:mo sg.args=true) (BC:E.slf=DV sg.args) (hH:CutsOk E H c):uB E.P E.fb f ⟨sg,En E fn sg H⟩:=by
 classical
 intro x y hF aK w args nb hG nu hP mG sG am0;have hF:En E fn sg H x=some y:=hF;unfold En at hF;rw[hb]at hF
 have Jp:(callFunc f args.toArray).run E.P w= .ok (.enter f args.toArray) w:=by
  have h1:fn.name≠ "runtime.NumGoroutine" :=(by simpa using Jj)
  simp[callFunc,hf,h1,hb]
 unfold iE;rw[Jp];simp only;have hlen:args.length=sg.args.length:=uU hP
 let B0:Base:={aK:=aK,dn:=fun b=>if b∈nb then some 0 else none,w:=w,arg:=fun t=>args.getD t undef}
 let g0:Gh:={aK:=aK,top:=fun _=>0,cv:=fun _ _=> .tuple #[],dn:=fun b=>if b∈nb then some 0 else none,dU:=fun _=>none,outer:=fun _=>[]}
 have R0:HRel B0 g0 [] w:=by
  refine⟨fun _=>rfl,(fun i o h=>by cases h),fun b L h=> ?_,(fun b L h=>by cases h),fun b h=> ?_,fun b L h=>h,fun b hb hl hi=>⟨hl,hi,rfl⟩,aq2 _,rfl,rfl,rfl,fun _ _ _=>rfl⟩
  ·have:b∉nb:=fun hm=>by
    have h1:=(sG b hm).1;have h:aK b=some L:=h;rw[h1]at h;cases h
   exact⟨by simp[g0,this],rfl,nu b L h⟩
  ·by_cases hm:b∈nb
   ·exact(sG b hm).2
   ·simp[g0,hm]at h
 refine calls_of_wp hf hb ?_
 let a0:Act:={tmps:=args.toArray++Array.replicate (fn.ntmps - args.toArray.size) undef,defers:=[]}
 have Nk:∀k u,args[k]?=some u→a0.tmps.getD k undef=u:=by
  intro k u hk;have iO:=(List.getElem?_eq_some_iff.1 hk).1;simp only[a0,Array.getD_eq_getD_getElem?];rw[Array.getElem?_append_left (by simpa using iO)];simp[hk]
 have mu:a0.tmps.size=E.nt:=by
  simp only[a0,Array.size_append,Array.size_replicate,List.size_toArray,ad3];omega
 obtain⟨g1,l1,R1,V1⟩:=Mm (E:=E) (B:=B0) (ts:=upto sg.args 0) (x:=x) (a:=a0) Mh R0 hP ⟨mG,fun b hb=>by simp[g0,hb]⟩ (fun _ _=>rfl) (xQ sg.args 0 args hlen fun k u hk=>by rw[Nat.zero_add];exact Nk k u hk) mu rfl (fun t ht=>by
  have:=aq4 (List.all_eq_true.1 Wu t ht);have iO:t<args.length:=(by omega);rw[Nk t args[t] (ap8 iO)]
  simp[B0,iO]) (fun f ts hE jj=>by
  rw[BC]at hE;unfold DV at hE
  cases Rz:uZ sg.args with
  |none=>rw[Rz]at hE;cases hE
  |some p=>
   rw[Rz]at hE
   injection hE with hE;injection hE with ae2 ag1
   subst ae2;subst ag1;obtain⟨b,ty,q1,q2,q3,q4⟩:=am0 p.1 p.2 Rz
   have hm:p.2<args.length:=by
    rcases Nat.lt_or_ge p.2 args.length with h|h
    ·exact h
    ·exact absurd (List.drop_eq_nil_of_le (by rw[List.length_range,←hlen];exact h)) jj
   have Zh:(List.range sg.args.length).map B0.arg=args:=by
    rw[←hlen]
    apply List.ext_getElem (by simp)
    intro i h1 h2;simp[B0,h2]
   have W9:((List.range sg.args.length).drop p.2).map B0.arg=args.drop p.2:=(by rw[List.map_drop,Zh]);refine⟨b,ty, ?_,by rw[W9];exact q2,by simp[B0,q3],q4⟩
   have hl:((List.range sg.args.length).drop p.2).getLastD 0=args.length - 1:=by
    rw[List.getLastD_eq_getLast?,List.getLast?_drop,ar1 (by rw[List.length_range,←hlen];omega),←hlen,List.getLast?_range];simp only[show args.length≠0 by omega,at3,Option.getD_some]
   rw[hl];have:args[args.length - 1]?=some (.pointer (some ⟨b,0,none⟩)):=(by rw[←q1,List.getLast?_eq_getElem?])
   simp[B0,this])
 let B:Base:={B0 with g0:=g1}
 have ag2:HRel B g1 (dec (upto sg.args 0) sg.args x).hp w:=R1;refine yq hE hm c _ _ y _ hH hF (fun e=> ?_) g1 a0 w (hG.mono l1.aK) R1 V1
 have fin:∀s g a w',(finish E (dec (upto sg.args 0) sg.args x).hp fn.results.toList sg).exec s (fun r _=>some r)=some y→ik E.fb g.aK→HRel B g s.hp w'→ActRel E B g s.env a→
   a.defers=[]∧∃v,(results fn a.tmps).run E.P w'= .ok v w'∧(∃v',Ending.returned v= .returned v'∧∃cZ n1 n2,After aK w nb cZ w' (n1++n2)∧wG cZ w' sg.res y.1 v' n1∧kn cZ w w' sg.args y.2 args n2):=by
  intro s g a w' hk Hp R V;obtain⟨y',s',h1,h2⟩:=mn hk
  injection h2 with h2
  subst h2;obtain⟨r,t,h3,h4⟩:=AM.ah h1;obtain⟨o,t2,h5,h6⟩:=AM.ah h4;obtain⟨h7,rfl⟩:=ai h6;obtain⟨e1,k1⟩:=Gc h3;obtain⟨v,g2,n1,hr,l2,R2,RR,Yl⟩:=k1 Hp R V.env;obtain⟨g3,n2,l3,R3,am6,aj0,hOut⟩:=Fe h5 (fun e=>⟨g1,ag2,(V.ini e).trans l2⟩) R2 ((V.mono l2).GX e1) hP (fun k u hk=>by simp[B,B0,hk]);have hO:=dI.append l3 RR am6 aj0;refine⟨V.defers,v,hr,v,rfl,g3.aK,n1,n2,⟨fun b L hb=>R3.ji b L hb,fun b L hb=>(R3.aK b L hb).2.2,fun b h1 h2 h3=> ?_,hO.1,fun b hb=> ?_,R3.size,R3.os,R3.tape,R3.output,fun b L hb=>R3.fix b L hb⟩, ?_, ?_⟩
  ·have hl:B.dn b=none:=(by simp[B,B0,h2]);obtain⟨_,f2,f3⟩:=R3.frame b h1 hl h3;exact⟨f3,f2⟩
  ·have PY:=hO.2 b hb
   have hi:g3.aK b=none:=by
    cases hi:g3.aK b with
    |none=>rfl
    |some L=>have:=(R3.aK b L hi).1;rw[PY]at this;cases this
   refine⟨hi, ?_,R3.dR b (by rw[PY];simp)⟩
   rcases Nat.lt_or_ge b w.heap.size with h1|h1
   ·left
    apply Classical.byContradiction
    intro h2;have hl:B.dn b=none:=(by simp[B,B0,h2])
    have h3:aK b=none:=by
     cases h3:aK b with
     |none=>rfl
     |some L=>have:=R3.ji b L h3;rw[hi]at this;cases this
    obtain⟨f1,_⟩:=R3.frame b h1 hl h3;rw[f1]at PY;cases PY
   ·exact .inr h1
  ·rw[h7];exact Dt l3.le.aK Yl
  ·rw[h7];exact hOut
 cases e with
 |normal=>intro s g a w' hk Hp R V;exact fin s g a w' hk Hp R V
 |ret=>intro s g a w' hk Hp R V;exact fin s g a w' hk Hp R V
 |_=>intro s g a w' hk;cases hk
end Go.Abs
end
