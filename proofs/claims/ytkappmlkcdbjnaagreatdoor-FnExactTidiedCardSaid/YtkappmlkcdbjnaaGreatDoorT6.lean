/- What is here: the reference's printer, its small parts. -/
import Derived.Test.YtkappmlkcdbjnaaGreatDoorT5
import Derived.Test.YtkappmlkcdbjnaaGreatDoorCards
set_option autoImplicit true
set_option relaxedAutoImplicit true
set_option linter.all false
set_option maxRecDepth 100000
open Go.IntKind (i64 u64 u8)
open Bool renaming and_eq_true → aA, and_self → bP, false → aq, false_and → cF, false_or → bH, not_false → bC, not_true → bM, or_eq_true → cO, true → av, true_and → bD, true_or → bo1
open Decidable renaming decide → I
open Go.IntKind renaming i64 → ar, u64 → aJ
open Int renaming toNat_natCast → bm
open List renaming all_eq_true → aK, append_assoc → aC, append_nil → aQ, drop_zero → bY, flatMap_cons → bE, getD_eq_getElem?_getD → aG, getElem?_eq_getElem → aL, getElem_mem → bF, length → bo0, length_append → au, length_cons → aw, length_drop → bK, length_nil → ay, length_pos_iff → b9, length_take → bl, map_append → bq2, map_cons → cw, mem_append → aP, mem_cons_of_mem → aB, mem_cons_self → aD, mem_iff_getElem → bp2, mem_of_mem_drop → bn2, mem_of_mem_take → bn1, mem_range → cL, mem_singleton → cg, nil_append → cG, range → cN, replicate → aN, replicate_succ → cD, take_append_drop → bo6, take_length → cy, take_succ_eq_append_getElem → cP
open Nat renaming le_refl → aF, le_trans → bn8, mul_one → bs8, zero_add → bJ, zero_le → aU
open Option renaming bind_some → al, none → az, some → U
open Sum renaming elim_inl → aH, inl → an
section
namespace Go.Abs.D
abbrev WT1:Type:=(List Node×Unit)×LI×Int×Unit
def wst (ns:List Node)(acc:LI)(t:Nat):WT1:=((ns,()),acc,t,())
abbrev U9:Type:=Unit×Unit×Unit×Unit×Unit×Unit×Unit×Unit×Unit×Unit
def u9:U9:=((),(),(),(),(),(),(),(),(),())
def ik (ns) (t):Evt λn=>∀acc s:LI,acc.length+s.length<=MX->dj (S.tab n) (wst ns acc t) s=U ((),wst ns (acc++s) t,(),()):=dF.up λn _ acc s h=>by
 rw[GW];show brk (fits (acc.length+s.length)) _ _=_;rw[c8 (r6 h)];rfl
def SC (ns) (t) (ht:t<=100000):∀m:Nat,m<=t->Evt λn=>∀acc:LI,acc.length+m<=MX->oB (S.tab n) (wst ns acc t) ((t - m:Nat))=U (an (wst ns (acc++rH m) t,()))
 |0,_=>dF.up λn _ acc _=>by
  rw[vg];show brk (((t - 0))<(t:Int)) _ _=_;simp_all[dz,ae,rH,List.replicate_zero,aQ]
 |m+1,h=>((SC ns t ht m (by omega)).and (ik ns t)).up λn ⟨ih,hs⟩ acc hb=>by
  rw[vg];show brk (((t - (m+1):Nat))<(t:Int)) _ _=_;have e:t - (m+1)+1=t - m:=(by omega);rw[c8 (by grind),hs _ _ (by grind),al,eT (by omega),e]
  grind [rH,aC]
def So (ns) (t) (ht:t<=100000):Evt λn=>∀acc:LI,acc.length+(1+t)<=MX->tO (S.tab n) (wst ns acc t)=U ((),wst ns (acc++([10]++rH t)) t,()):=
 ((SC ns t ht t (aF _)).and (ik ns t)).up λn ⟨hl,hs⟩ acc hb=>by
  rw[Nat.sub_self]at hl;rw[E0,hs _ _ (by grind),al];have:=hl (acc++[10]) (by grind);have this:oB (S.tab n) (wst ns (acc++[10]) t) 0=_:=this;rw[this,aC];rfl
def ai1 (op):0<=bpw op:=by
 unfold bpw
 have h:∀k:Fin 19,(0:Int)<=[0,9,9,10,10,10,10,7,5,6,8,8,4,3,3,3,3,3,3].getD k.1 0:=by decide+kernel
 by_cases c:op.toNat<19
 ·exact h ⟨op.toNat,c⟩
 simp_all
def Re (x):0<=pwr x:=by
 unfold pwr;have:=ai1 (opn x)
 grind
def RE (ns:List Node)(k:Int)(t:Nat)(s:LI):Prop:=Evt λn=>∀acc least,acc.length+(paren (pwr (cY ns k)<least) s).length<=MX->dW (S.tab n) (wst ns acc t) k least=U ((),wst ns (acc++paren (pwr (cY ns k)<least) s) t,(),(),())
def PRS (ns:List Node)(k:Int)(t:Nat)(s:LI):Prop:=Evt λn=>∀acc:LI,acc.length+s.length<=MX->tP (S.tab n) (wst ns acc t) k=U ((),wst ns (acc++s) t,(),())
def RB (ns:List Node)(k:Int)(t:Nat)(s:LI):Prop:=Evt λn=>∀acc:LI,acc.length+s.length<=MX->gq (S.tab n) (wst ns acc t) k=U ((),wst ns (acc++s) t,(),())
def RF (ns:List Node)(k:Int)(t:Nat)(s:LI):Prop:=Evt λn=>∀acc:LI,acc.length+s.length<=MX->tQ (S.tab n) (wst ns acc t) k=U ((),wst ns (acc++s) t,(),())
def RC (ns:List Node)(k:Int)(t:Nat)(s:LI):Prop:=Evt λn=>∀acc w:LI,acc.length+(w++s).length<=MX->rL (S.tab n) (wst ns acc t) (cY ns k) w=U ((),wst ns (acc++(w++s)) t,u9,(),())
def RN (ns:List Node)(k:Int)(t:Nat)(s:LI):Prop:=Evt λn=>∀acc a b c,acc.length+s.length<=MX->nO (S.tab n) (wst ns acc t) k a b c=U (an (wst ns (acc++s) t,a,b,c,()))
def RE.zero (h:RE ns k t s):Evt λn=>∀acc:LI,acc.length+s.length<=MX->dW (S.tab n) (wst ns acc t) k 0=U ((),wst ns (acc++s) t,(),(),()):=by
 refine h.mono λn h acc hb=> ?_
 have e:I (pwr (cY ns k)<0)=false:=by
  have:=Re (cY ns k);simp_all
 have:=h acc 0;rw[e]at this;exact this hb
def Pb (ns) (t):∀r pre,pre≠[]->(pre++r).length<=100000->Evt λn=>∀acc:LI,acc.length+(r.flatMap λk=>[44,32]++k).length<=MX->
  jF (S.tab n) (wst ns acc t) (pre++r) ((pre++r).length) pre.length=U (an (wst ns (acc++r.flatMap λk=>[44,32]++k) t,()))
 |[],pre,hp,hl=>dF.up λn _ acc _=>by
  simp_all[nF,dz]
 |m::r,pre,hp,hl=>by
  have hlen:(pre++m::r).length=pre.length+(r.length+1):=(by simp);have sF:0<pre.length:=b9.2 hp;have ih:=Pb ns t r (pre++[m]) (by simp) (by simpa using hl)
  refine(ih.and (ik ns t)).up λn ⟨ih,hw⟩ acc hb=> ?_
  rw[bE]at hb⊢;simp only[au,aw,ay]at hb;have hg:(pre++m::r).getD (pre.length:Int).toNat []=m:=oH pre _ _ [];rw[nF,c8 (by simp;omega),c8 (dm (by omega)),c8 (by simp;omega),hw _ _ (by simp;omega),al,hg];rw[hw _ _ (by simp;omega),al,eT (by omega)];have e1:(pre++[m])++r=pre++m::r:=(by simp);have e2:(pre++[m]).length=pre.length+1:=(by simp);rw[e1,e2]at ih;rw[ih _ (by simp only[au,aw,ay];omega)];simp
def JK (ns) (t) (l) (hl:l.length<=100000):Evt λn=>∀acc:LI,acc.length+(fu l).length<=MX->oE (S.tab n) (wst ns acc t) l=U ((),wst ns (acc++fu l) t,(),()):=by
 have l0:Evt λn=>∀acc:LI,acc.length+(fu l).length<=MX->jF (S.tab n) (wst ns acc t) l l.length 0=U (an (wst ns (acc++fu l) t,())):=by
  cases l with
  |nil=>
   refine dF.up λn _ acc _=> ?_
   simp_all[nF,dz,fu]
  |cons m r=>
   have hlen:(m::r).length=r.length+1:=(by simp)
   refine((Pb ns t r [m] (by simp) (by simpa using hl)).and (ik ns t)).up λn ⟨h1,hw⟩ acc hb=> ?_
   have e:fu (m::r)=m++r.flatMap λk=>[44,32]++k:=rfl
   rw[e]at hb⊢;rw[au]at hb;rw[nF,dn (by omega),c8 (by simp only[aA,ad];omega),dz (by decide)];show(dj (S.tab n) (wst ns acc t) m).bind _=_;rw[hw _ _ (by omega),al];have h1:∀acc:LI,acc.length+(r.flatMap λk=>[44,32]++k).length<=MX->jF (S.tab n) (wst ns acc t) (m::r) ((m::r).length) 1=_:=h1;show jF (S.tab n) (wst ns (acc++m) t) (m::r) ((m::r).length) 1=_;rw[h1 _ (by rw[au];omega),aC]
 refine l0.up λn h acc hb=> ?_
 rw[DS,h _ hb];rfl
def Pe (ns) (E:Int->Nat->LI)(t:Nat):∀(r pre:LI),pre≠[]->(pre++r).length<=100000->(∀k∈r,RE ns k t (E k t))->Evt λn=>∀acc:LI,acc.length+(r.flatMap λk=>[44,32]++E k t).length<=MX->
  jD (S.tab n) (wst ns acc t) (pre++r) ((pre++r).length:Int) (pre.length:Int)=U (an (wst ns (acc++r.flatMap λk=>[44,32]++E k t) t,()))
 |[],pre,hp,hl,_=>dF.up λn _ acc _=>by
  simp_all[nG,dz]
 |m::r,pre,hp,hl,h=>by
  have hlen:(pre++m::r).length=pre.length+(r.length+1):=(by simp);have sF:0<pre.length:=b9.2 hp;have ih:=Pe ns E t r (pre++[m]) (by simp) (by simpa using hl) (λk hk=>h k (aB _ hk))
  refine((ih.and (ik ns t)).and (h m (aD ..)).zero).up λn ⟨⟨ih,hw⟩,hE⟩ acc hb=> ?_
  rw[bE]at hb⊢;simp only[au,aw,ay]at hb;have hg:(pre++m::r).getD (pre.length:Int).toNat 0=m:=oH pre _ _ 0;rw[nG,c8 (by simp;omega),c8 (dm (by omega)),c8 (by simp;omega),hw _ _ (by simp;omega),al,hg];dsimp only;rw[hE _ (by simp;omega),al,eT (by omega)];dsimp only
  grind [au,aw,ay]
def I0 (E) (m) (r:LI) (t):iO E (m::r) t=E m t++r.flatMap λk=>[44,32]++E k t:=by
 show E m t++(r.map λk=>E k t).flatMap (λt=>[44,32]++t)=_;rw[List.flatMap_map]
def tA (ns) (E) (t) (kids) (hl:kids.length<=100000)(h:∀k∈kids,RE ns k t (E k t)):Evt λn=>∀acc:LI,acc.length+(iO E kids t).length<=MX->
  jP (S.tab n) (wst ns acc t) kids=U ((),wst ns (acc++iO E kids t) t,(),()):=by
 have l0:Evt λn=>∀acc:LI,acc.length+(iO E kids t).length<=MX->jD (S.tab n) (wst ns acc t) kids kids.length 0=U (an (wst ns (acc++iO E kids t) t,())):=by
  cases kids with
  |nil=>
   refine dF.up λn _ acc _=> ?_
   simp_all[nG,dz,iO,fu]
  |cons m r=>
   refine((Pe ns E t r [m] (by simp) (by simp_all) λk hk=>h k (aB _ hk)).and (h m (aD ..)).zero).up λn ⟨h1,hE⟩ acc hb=> ?_
   rw[I0]at hb⊢;rw[au]at hb;rw[nG,c8 (by simp),c8 (by simp),dz (by decide)];show(dW (S.tab n) (wst ns acc t) m 0).bind _=_;rw[hE _ (by omega),al];have h1:∀acc:LI,acc.length+(r.flatMap λk=>[44,32]++E k t).length<=MX->jD (S.tab n) (wst ns acc t) (m::r) ((m::r).length) 1=_:=h1;show jD (S.tab n) (wst ns (acc++E m t) t) (m::r) ((m::r).length) 1=_
   grind
 refine l0.up λn h acc hb=> ?_
 rw[DV,h _ hb];rfl
def Wu (f:Int->LI):∀l:LI,[10]++(l.flatMap λk=>f k++[10])=(l.flatMap λk=>[10]++f k)++[10]
 |[]=>rfl
 |k::l=>by
  simp_all[Wu,bE,aC]
def Ua (G) (kids:LI) (t) (h:kids≠[]):Dt G kids t=[123]++(kids.flatMap λk=>([10]++rH (t+1))++G k (t+1))++(([10]++rH t)++[125]):=by
 unfold Dt
 have mU:kids.isEmpty=false:=by simp_all
 rw[mU,af];have:=Wu (λk=>rH (t+1)++G k (t+1)) kids;simp_all
def Lw (ns) (G:Int->Nat->LI) (t) (ht:t<=10000):∀r pre,(pre++r).length<=100000->(∀k∈r,PRS ns k t (G k t))->Evt λn=>∀acc:LI,acc.length+(r.flatMap λk=>([10]++rH t)++G k t).length<=MX->
  nL (S.tab n) (wst ns acc t) (pre++r) ((pre++r).length) pre.length=U (an (wst ns (acc++r.flatMap λk=>([10]++rH t)++G k t) t,()))
 |[],pre,hl,_=>dF.up λn _ acc _=>by
  simp_all[uq,dz]
 |m::r,pre,hl,h=>by
  have hlen:(pre++m::r).length=pre.length+(r.length+1):=(by simp);have ih:=Lw ns G t ht r (pre++[m]) (by simpa using hl) (λk hk=>h k (aB _ hk))
  refine((ih.and (So ns t (by omega))).and (h m (aD ..))).up λn ⟨⟨ih,hw⟩,hE⟩ acc hb=> ?_
  rw[bE]at hb⊢;simp only[au,aw,ay,rF]at hb;have hg:(pre++m::r).getD (pre.length:Int).toNat 0=m:=oH pre _ _ 0;rw[uq,c8 (by simp;omega),c8 (dm (by omega)),hw _ (by omega),al,hg];rw[hE _ (by simp[rF];omega),al,eT (by omega)];have e1:(pre++[m])++r=pre++m::r:=(by simp);have e2:(pre++[m]).length=pre.length+1:=(by simp);rw[e1,e2]at ih;rw[ih _ (by simp only[au,aw,ay,rF];omega)];simp
theorem LX (G) {b:Nat}(hb:b<ns.length) (t) (ht:t+1<=10000)(hl:(cX (cY ns b)).length<=100000)(h:∀k∈cX (cY ns b),PRS ns k (t+1) (G k (t+1))):RB ns ↑b t (fR ns G ↑b t):=by
 refine(((Lw ns G (t+1) ht (cX (cY ns ↑b)) [] (by simp_all) h).and (So ns t (by omega))).and ((ik ns t).and (ik ns t))).up λn ⟨⟨h6,aP8⟩,hw,_⟩ acc NT=> ?_
 have qY:(0<=(b:Int)&&b<((wst ns acc t).1.1.length:Int))=true:=dm hb;have hx:at_ (τ:=cZ) (wst ns acc t).1.1 b=cY ns ↑b:=rfl;have Ch:(cY ns ↑b).2.2.2.2.2.2.2.2.1=cX (cY ns ↑b):=rfl;unfold fR at NT⊢;rw[DN,hx,Ch,c8 qY]
 by_cases h0:cX (cY ns ↑b)=[]
 ·simp_all[c8,Dt]
 ·rw[Ua _ _ _ h0]at NT⊢;simp only[au,aw,ay,rF]at NT;rw[dz (by simp;omega),hw _ _ (by simp;omega),al]
  have e1:((wst ns (acc++[123]) t).1,(wst ns (acc++[123]) t).2.1,ar.wrap ((wst ns (acc++[123]) t).2.2.1+1),())=wst ns (acc++[123]) (t+1):=by
   show((ns,()),acc++[123],ar.wrap (t+1),())=_;rw[eT (by omega)];rfl
  rw[e1];have h6:∀acc:LI,acc.length+((cX (cY ns ↑b)).flatMap λk=>([10]++rH (t+1))++G k (t+1)).length<=MX->nL (S.tab n) (wst ns acc (t+1)) (cX (cY ns ↑b)) ((cX (cY ns ↑b)).length) 0=_:=h6;rw[h6 _ (by simp only[au,aw,ay];omega),al];simp only[dH,aH]
  have e2:∀a:LI,((wst ns a (t+1)).1,(wst ns a (t+1)).2.1,ar.wrap ((wst ns a (t+1)).2.2.1 - 1),())=wst ns a t:=λa=>by
   show((ns,()),a,ar.wrap (((t+1:Nat)) - 1),())=_;rw[wrap64 _ (by omega) (by omega)];have:((t+1:Nat)) - 1=(t:Int):=(by omega);rw[this];rfl
  rw[e2,aP8 _ (by simp only[au,aw,ay];omega),al];rw[hw _ _ (by simp only[au,aw,ay,rF];omega),al];simp
def YF (T):((cN 18).all λn=>I (kR (S.step (S.step (S.step T))) (61+n)=U ((bpw (1+n),(bif(1+(n:Int)=12)then 4 else bpw (1+n)+1),()),cV)))=true:=by kernel_rfl
def Iy:Evt λn=>∀op:Int,1<=op->op<=18->kR (S.tab n) (60+op)=U ((bpw op,(bif(op=12)then 4 else bpw op+1),()),cV):=by
 have h:Evt λn=>∀op:Int,1<=op->op<=18->kR (S.tab (n+3)) (60+op)=U ((bpw op,(bif(op=12)then 4 else bpw op+1),()),cV):=Evt.of λn op h1 h2=>by
  have:=of_decide_eq_true (aK.1 (YF (S.tab n)) (op.toNat - 1) (cL.2 (by omega)))
  grind
 obtain⟨N,h⟩:=h
 exact⟨N+3,λn hn=>by
  have e:n - 3+3=n:=(by omega);rw[<-e]
  grind⟩
section
variable{ns:List Node}(iE:∀i:Nat,i<ns.length->okN ns i (cY ns (i:Int))=av)
include iE
def Pm:Evt λn=>∀k:Nat,k<ns.length->zu (S.tab n) (cY ns ↑k)=U (pwr (cY ns ↑k),jc):=Iy.up λn hp k hk=>by
 rw[Ha];show brk (kn (cY ns ↑k)=29) _ (brk (kn (cY ns ↑k)=28) _ (brk (kn (cY ns ↑k)=31) ((kR (S.tab n) (ar.wrap (60+opn (cY ns ↑k)))).bind _) (brk (kn (cY ns ↑k)=30) _ _)))=_;unfold pwr
 by_cases yl:kn (cY ns ↑k)=29
 ·simp_all[c8,ab]
 rw[db yl,aa yl]
 by_cases uJ:kn (cY ns ↑k)=28
 ·simp_all[c8,ab]
 rw[db uJ,aa uJ]
 by_cases zj:kn (cY ns ↑k)=31
 ·obtain⟨_,h1,h2⟩:=Hb (iE k hk) zj
  grind [c8,ab,wrap64]
 by_cases vL:kn (cY ns ↑k)=30
 all_goals simp_all[c8,ab,dz,aa]
def Qw:Evt λn=>∀k:Nat,k<ns.length->(kn (cY ns ↑k)=28\/kn (cY ns ↑k)=29\/kn (cY ns ↑k)=31)->sP (S.tab n) (cY ns ↑k)=U (rgt (cY ns ↑k),jc):=Iy.up λn hp k hk Ch=>by
 rw[G8];show brk (kn (cY ns ↑k)=29) _ (brk (kn (cY ns ↑k)=28) _ ((kR (S.tab n) (ar.wrap (60+opn (cY ns ↑k)))).bind _))=_;unfold rgt
 by_cases yl:kn (cY ns ↑k)=29
 ·simp_all[c8,ab]
 rw[db yl,aa yl]
 by_cases uJ:kn (cY ns ↑k)=28
 ·simp_all[c8,ab]
 rw[db uJ,aa uJ];have zj:kn (cY ns ↑k)=31:=(by omega);obtain⟨_,h1,h2⟩:=Hb (iE k hk) zj
 grind [wrap64]
def JJ (hi:i<ns.length){t:Nat}{E:Int->Nat->LI}(hk:kn (cY ns i)=28\/kn (cY ns i)=29\/kn (cY ns i)=31)(hE:∀k∈cX (cY ns i),kn (cY ns k)<40->RE ns k t (E k t))(mm:∀k∈cX (cY ns i),∃j:Nat,k=j/\j<i) (sg):
  Evt λn=>∀acc:LI,acc.length+(paren (pwr (cY ns ((cX (cY ns ↑i)).getD 0 0))<lft (cY ns ↑i)) (E ((cX (cY ns ↑i)).getD 0 0) t)++sg++paren (pwr (cY ns ((cX (cY ns ↑i)).getD 1 0))<rgt (cY ns ↑i)) (E ((cX (cY ns ↑i)).getD 1 0) t)).length<=MX->
   qu (S.tab n) (wst ns acc t) (cY ns ↑i) sg (pwr (cY ns ↑i))=U ((),wst ns (acc++(paren (pwr (cY ns ((cX (cY ns ↑i)).getD 0 0))<lft (cY ns ↑i)) (E ((cX (cY ns ↑i)).getD 0 0) t)++sg++paren (pwr (cY ns ((cX (cY ns ↑i)).getD 1 0))<rgt (cY ns ↑i)) (E ((cX (cY ns ↑i)).getD 1 0) t))) t,u9,(),(),()):=by
 have hx:=iE i hi
 have hl:(cX (cY ns ↑i)).length=2:=by
  rcases hk with h|h|h
  ·exact al4 hx h
  ·exact an3 hx h
  ·exact(Hb hx h).1
 have mL:∀j:Nat,j<(cX (cY ns ↑i)).length->kn (cY ns ((cX (cY ns ↑i)).getD j 0))<40:=by
  rcases hk with h|h|h
  ·exact aS2 hx h
  ·exact aR4 hx h
  ·exact aT9 hx h
 have hp12:pwr (cY ns ↑i)<=12:=by
  unfold pwr
  rcases hk with h|h|h
  ·rw[h];exact show 2<=12 by decide
  ·rw[h];exact show 1<=12 by decide
  ·obtain⟨_,h1,h2⟩:=Hb hx h;have:=HH _ h1 h2;rw[h];show bpw (opn (cY ns ↑i))<=12;omega
 have Ax:=Re (cY ns ↑i);have ml:=hE _ (dP (x:=cY ns ↑i) (j:=0) (by omega)) (mL 0 (by omega));have Hl:=hE _ (dP (x:=cY ns ↑i) (j:=1) (by omega)) (mL 1 (by omega));have Ch:(cY ns ↑i).2.2.2.2.2.2.2.2.1=cX (cY ns ↑i):=rfl
 refine(((Qw iE).and (ik ns t)).and (ml.and Hl)).up λn ⟨⟨hr,hw⟩,ml,Hl⟩ acc hb=> ?_
 simp only[au]at hb
 have fin:∀q:Int,lft (cY ns ↑i)=q->((dW (S.tab n) (wst ns acc t) ((cX (cY ns ↑i)).getD 0 0) q).bind λd22=>
   (dj (S.tab n) d22.2.1 sg).bind λd25=>
   brk (1<((cX (cY ns ↑i)).length:Int)) (
   (U (rgt (cY ns ↑i),jc)).bind λd32=>
   (dW (S.tab n) d25.2.1 ((cX (cY ns ↑i)).getD 1 0) d32.1).bind λd33=>
   (U ((),d33.2.1,u9,(),(),()))) az)=U ((),wst ns (acc++(paren (pwr (cY ns ((cX (cY ns ↑i)).getD 0 0))<lft (cY ns ↑i)) (E ((cX (cY ns ↑i)).getD 0 0) t)++sg++paren (pwr (cY ns ((cX (cY ns ↑i)).getD 1 0))<rgt (cY ns ↑i)) (E ((cX (cY ns ↑i)).getD 1 0) t))) t,u9,(),(),()):=λq hq=>by
  rw[<-hq,ml _ _ (by omega),al];rw[hw _ _ (by rw[au];omega),al,c8 (by simp;omega),al];dsimp only;rw[Hl _ _ (by simp only[au];omega),al];simp
 rw[DF,hr i hi hk,al,Ch]
 by_cases hc:rgt (cY ns ↑i)=pwr (cY ns ↑i)
 ·rw[dn hc,c8 (by simp;omega),wrap64 _ (by omega) (by omega)];exact fin _ (by unfold lft;rw[ab hc];rfl)
 ·rw[db hc,c8 (by simp;omega)];exact fin _ (by unfold lft;rw[aa hc];rfl)
omit iE in
theorem Ub:Evt λn=>∀k:Int,Bf (S.tab n) k=U (Ab k,cV):=dF.up λn _ k=>by
 grind [HY,Ab,decide,uT,j8]
omit iE in
theorem Jf {k:Nat}(hk:k<ns.length){t:Nat}{s:LI}(h:RE ns (k:Int) t s):Evt λn=>∀(acc:LI),acc.length+(paren (!Ab (kn (cY ns ↑k))) s).length<=MX->rC (S.tab n) (wst ns acc t) (k:Int)=U ((),wst ns (acc++paren (!Ab (kn (cY ns ↑k))) s) t,(),()):=by
 refine((Ub.and (ik ns t)).and h.zero).up λn ⟨⟨hB,hw⟩,hE⟩ acc hb=> ?_
 have qY:(I ((0:Int)<=(k:Int))&&I ((k:Int)<((wst ns acc t).1.1.length:Int)))=true:=dm hk;have hx:(at_ (τ:=cZ) (wst ns acc t).1.1 ↑k).1=kn (cY ns ↑k):=rfl;rw[Fm,hx,hB,c8 qY,al]
 cases hc:Ab (kn (cY ns ↑k))with
 |true=>
  rw[hc]at hb;rw[uT,hE _ hb];rfl
 |false=>
  rw[hc]at hb;have hb:acc.length+([40]++s++[41]:LI).length<=MX:=hb;simp at hb;rw[j8,hw _ _ (by simp;omega),al];rw[hE _ (by simp;omega),al];rw[hw _ _ (by simp;omega),al];show U ((),wst ns (((acc++[40])++s)++[41]) t,(),())=U ((),wst ns (acc++([40]++s++[41])) t,(),());simp
end
end Go.Abs.D
end

section
namespace Go.Abs.D
def mD {i:Nat}(hi:i<ns.length) (acc) (t):(0<=(i:Int)&&i<((wst ns acc t).1.1.length:Int))=true:=dm hi
def rm (ns) (acc) (t) (i):at_ (τ:=cZ) (wst ns acc t).1.1 i=cY ns i:=rfl
def kD (x:Node):x.2.2.2.2.2.2.2.2.1=cX x:=rfl
def tX (x:Node):x.2.2.2.2.2.2.2.1=df x:=rfl
def Oa (l) (s:LI):fu (l++[s])=fu l++(bif l.isEmpty then s else [44,32]++s):=by
 cases l with
 |nil=>simp[fu]
 |cons a r=>
  show a++(r++[s]).flatMap (λt=>[44,32]++t)=(a++r.flatMap λt=>[44,32]++t)++([44,32]++s);simp
def plT (x:Node):LI:=
 bif(kn x=20)then [110,105,108]else bif(kn x=21)then [116,114,117,101]else bif(kn x=22)then [102,97,108,115,101]else
 bif(kn x=23)then EG (sD x)else bif(kn x=24)then txn x else bif(kn x=26)then txn x else bif(kn x=25)then sW (txn x)else bif(kn x=27)then [46,46,46]else []
def WT (ns) (E:Int->Nat->LI) (t):∀(r pre:LI),pre≠[]->(pre++r).length<=100000->(∀k∈r,RN ns k t (E k t))->Evt λn=>∀acc:LI,acc.length+(r.flatMap λk=>[44,32]++E k t).length<=MX->
  jz (S.tab n) (wst ns acc t) (pre++r) ((pre++r).length) pre.length=U (an (wst ns (acc++r.flatMap λk=>[44,32]++E k t) t,()))
 |[],pre,hp,hl,_=>dF.up λn _ acc _=>by
  simp_all[nJ,dz]
 |m::r,pre,hp,hl,h=>by
  have hlen:(pre++m::r).length=pre.length+(r.length+1):=(by simp);have sF:0<pre.length:=b9.2 hp;have ih:=WT ns E t r (pre++[m]) (by simp) (by simpa using hl) (λk hk=>h k (aB _ hk))
  refine((ih.and (ik ns t)).and (h m (aD ..))).up λn ⟨⟨ih,hw⟩,hE⟩ acc hb=> ?_
  rw[bE]at hb⊢;simp only[au,aw,ay]at hb;have hg:(pre++m::r).getD (pre.length:Int).toNat 0=m:=oH pre _ _ 0;rw[nJ,c8 (by simp;omega),c8 (dm (by omega)),c8 (by simp;omega),hw _ _ (by simp;omega),al,hg];rw[hE _ _ _ _ (by simp;omega),al];simp only[dH,aH];rw[eT (by omega)];have e1:(pre++[m])++r=pre++m::r:=(by simp);have e2:(pre++[m]).length=pre.length+1:=(by simp);rw[e1,e2]at ih;rw[ih _ (by simp only[au,aw,ay];omega)];simp
def U3 (ns) (E) (t) (x:Node)(hl:(cX x).length<=100000)(h:∀k∈cX x,RN ns k t (E k t)):Evt λn=>∀acc:LI,acc.length+([123]++iO E (cX x) t++[125]).length<=MX->
  wX (S.tab n) (wst ns acc t) x=U ((),wst ns (acc++([123]++iO E (cX x) t++[125])) t,u9,()):=by
 have l0:Evt λn=>∀acc:LI,acc.length+(iO E (cX x) t).length<=MX->jz (S.tab n) (wst ns acc t) (cX x) ((cX x).length) 0=U (an (wst ns (acc++iO E (cX x) t) t,())):=by
  generalize cX x=kids at hl h⊢
  cases kids with
  |nil=>
   refine dF.up λn _ acc _=> ?_
   simp_all[nJ,dz,iO,fu]
  |cons m r=>
   have hlen:(m::r).length=r.length+1:=(by simp)
   refine((WT ns E t r [m] (by simp) (by simpa using hl) λk hk=>h k (aB _ hk)).and (h m (aD ..))).up λn ⟨h1,hE⟩ acc hb=> ?_
   rw[I0]at hb⊢;rw[au]at hb;rw[nJ,dn (by omega),c8 (by simp only[aA,ad];omega),dz (by decide)];show(nO (S.tab n) (wst ns acc t) m (m::r) ((m::r).length) 0).bind _=_;rw[hE _ _ _ _ (by omega),al];have h1:∀acc:LI,acc.length+(r.flatMap λk=>[44,32]++E k t).length<=MX->jz (S.tab n) (wst ns acc t) (m::r) ((m::r).length) 1=_:=h1;show jz (S.tab n) (wst ns (acc++E m t) t) (m::r) ((m::r).length) 1=_;rw[h1 _ (by rw[au];omega),aC]
 refine(l0.and (ik ns t)).up λn ⟨h,hw⟩ acc hb=> ?_
 simp at hb;rw[DJ,kD,hw _ _ (by simp;omega),al];rw[h _ (by simp;omega),al];simp[dH];rw[hw _ _ (by simp;omega),al];simp
def Va (ns) (t) {i:Nat}(hn:J0 (cY ns i))(ho:okN ns i (cY ns i)=av):Evt λn=>∀acc:LI,acc.length+(plT (cY ns ↑i)).length<=MX->w6 (S.tab n) (wst ns acc t) (cY ns ↑i)=U ((),wst ns (acc++plT (cY ns ↑i)) t,u9,()):=by
 have hI:=Vl (sD (cY ns ↑i)) hn.1.1 hn.1.2
 have hQ:Evt λn=>(cY ns ↑i).1=25->qQ (S.tab n) (txn (cY ns ↑i))=U (sW (txn (cY ns ↑i)),(),()):=by
  by_cases h:(cY ns ↑i).1=25
  ·have hl:=aU6 ho h
   exact(QW (txn (cY ns ↑i)) hn.2 (by omega)).mono λn e _=>e
  ·exact Evt.of λn e=>absurd e h
 refine((ik ns t).and (hI.and hQ)).up λn ⟨hw,hI,hQ⟩ acc hb=> ?_
 have hI:w8 (S.tab n) (cY ns ↑i).2.2.2.2.2.1=U (EG (sD (cY ns ↑i)),cV):=hI;have hQ:(cY ns ↑i).1=25->qQ (S.tab n) (cY ns ↑i).2.2.2.2.2.2.1=U (sW (txn (cY ns ↑i)),(),()):=hQ;have Zp:(cY ns ↑i).2.2.2.2.2.2.1=txn (cY ns ↑i):=rfl;rw[DM];unfold plT at hb⊢
 by_cases DC:(cY ns ↑i).1=20
 ·rw[ab (show kn (cY ns ↑i)=20 from DC),ah]at hb⊢;rw[dn DC,hw _ _ hb];rfl
 rw[aa (show¬ kn (cY ns ↑i)=20 from DC),af]at hb⊢;rw[db DC]
 by_cases Kp:(cY ns ↑i).1=21
 ·rw[ab (show kn (cY ns ↑i)=21 from Kp),ah]at hb⊢;rw[dn Kp,hw _ _ hb];rfl
 rw[aa (show¬ kn (cY ns ↑i)=21 from Kp),af]at hb⊢;rw[db Kp]
 by_cases EV:(cY ns ↑i).1=22
 ·rw[ab (show kn (cY ns ↑i)=22 from EV),ah]at hb⊢;rw[dn EV,hw _ _ hb];rfl
 rw[aa (show¬ kn (cY ns ↑i)=22 from EV),af]at hb⊢;rw[db EV]
 by_cases Ci:(cY ns ↑i).1=23
 ·rw[ab (show kn (cY ns ↑i)=23 from Ci),ah]at hb⊢;rw[dn Ci,hI,al];dsimp only;rw[hw _ _ hb];rfl
 rw[aa (show¬ kn (cY ns ↑i)=23 from Ci),af]at hb⊢;rw[db Ci]
 by_cases AB:(cY ns ↑i).1=24
 ·rw[ab (show kn (cY ns ↑i)=24 from AB),ah]at hb⊢;rw[dn AB,dn AB,Zp,hw _ _ hb];rfl
 rw[aa (show¬ kn (cY ns ↑i)=24 from AB),af]at hb⊢;rw[db AB]
 by_cases K5:(cY ns ↑i).1=26
 ·rw[ab (show kn (cY ns ↑i)=26 from K5),ah]at hb⊢;rw[dn K5,Zp,hw _ _ hb];rfl
 rw[aa (show¬ kn (cY ns ↑i)=26 from K5),af]at hb⊢;rw[db K5]
 by_cases Sa:(cY ns ↑i).1=25
 ·rw[ab (show kn (cY ns ↑i)=25 from Sa),ah]at hb⊢;rw[dn Sa,hQ Sa,al];rw[hw _ _ hb];rfl
 rw[aa (show¬ kn (cY ns ↑i)=25 from Sa),af]at hb⊢;rw[db Sa]
 by_cases Kg:(cY ns ↑i).1=27
 ·rw[ab (show kn (cY ns ↑i)=27 from Kg),ah]at hb⊢;rw[dn Kg,hw _ _ hb];rfl
 rw[aa (show¬ kn (cY ns ↑i)=27 from Kg),af]at hb⊢;rw[db Kg];rw[aQ]
section
variable{ns:List Node}(iE:∀i:Nat,i<ns.length->okN ns i (cY ns (i:Int))=av)
include iE
def MM (G) {i:Nat}(hi:i<ns.length)(zh:kn (cY ns i)=36) (t) (hB:RB ns ((cX (cY ns i)).getD 0 0) t (fR ns G ((cX (cY ns i)).getD 0 0) t)):RF ns ↑i t (fnT ns G (cY ns ↑i) t):=by
 obtain⟨Tq,_⟩:=PI (iE i hi) zh;have ad2:=(oK (iE i hi)).1.2.1
 have av1:∀a:Int,(cY ns ↑i).2.2.2.2.1=a↔opn (cY ns ↑i)=a:=λ_=>Iff.rfl
 refine((hB.and (ik ns t)).and (JK ns t (df (cY ns ↑i)) (by omega))).up λn ⟨⟨hB,hw⟩,hn⟩ acc hb=> ?_
 unfold fnT at hb⊢
 have fin:∀a:LI,a.length+([41,32]++fR ns G ((cX (cY ns ↑i)).getD 0 0) t).length<=MX->((dj (S.tab n) (wst ns a t) [41,32]).bind λd31=>
   brk (0<((cX (cY ns ↑i)).length:Int)) (
   (gq (S.tab n) d31.2.1 ((cX (cY ns ↑i)).getD 0 0)).bind λd37=>
   (U ((),d37.2.1,(),()))) az)=U ((),wst ns (a++([41,32]++fR ns G ((cX (cY ns ↑i)).getD 0 0) t)) t,(),()):=λa ha=>by
  simp only[au,aw,ay]at ha;rw[hw _ _ (by simp;omega),al,dn (by omega)];dsimp only;rw[hB _ (by simp only[au,aw,ay];omega),al];simp only[aC]
 by_cases h1:(cY ns ↑i).2.2.2.2.1=1
 ·rw[ab ((av1 1).1 h1),ah,Oa]at hb⊢
  cases XF:df (cY ns ↑i)with
  |nil=>
   rw[XF]at hb hn;simp[show fu []=[]from rfl]at hn;have hb:acc.length+([40]++[46,46,46]++[41,32]++fR ns G ((cX (cY ns ↑i)).getD 0 0) t).length<=MX:=hb;simp only[au,aw,ay]at hb;rw[tp,rm,kD,tX,XF,c8 (mD hi acc t),hw _ _ (by simp;omega),al];dsimp only;rw[hn _ (by simp;omega),al,dn h1,dz (by rfl)];dsimp only;rw[hw _ _ (by simp;omega),al];dsimp only;rw[fin _ (by simp only[au,aw,ay];omega)];show U ((),wst ns (((acc++[40])++[46,46,46])++([41,32]++fR ns G ((cX (cY ns ↑i)).getD 0 0) t)) t,(),())=U ((),wst ns (acc++([40]++([]++[46,46,46])++[41,32]++fR ns G ((cX (cY ns ↑i)).getD 0 0) t)) t,(),());simp
  |cons a r=>
   have sF:I (0<((df (cY ns ↑i)).length:Int))=true:=by
    rw[XF];simp only[aw,ad];omega
   have he:(df (cY ns ↑i)).isEmpty=false:=by rw[XF];rfl
   rw[<-XF];rw[he,af]at hb⊢;simp only[au,aw,ay]at hb;rw[tp,rm,kD,tX,c8 (mD hi acc t),hw _ _ (by simp;omega),al];dsimp only;rw[hn _ (by simp;omega),al,dn h1,c8 sF];dsimp only;rw[hw _ _ (by simp;omega),al];dsimp only;rw[hw _ _ (by simp;omega),al];dsimp only;rw[fin _ (by simp only[au,aw,ay];omega)];simp
 ·rw[aa (show¬ opn (cY ns ↑i)=1 from h1),af,aQ]at hb⊢;simp only[au,aw,ay]at hb;rw[tp,rm,kD,tX,c8 (mD hi acc t),hw _ _ (by simp;omega),al];dsimp only;rw[hn _ (by simp;omega),al,db h1];dsimp only;rw[fin _ (by simp only[au,aw,ay];omega)];simp
def VJ (hi:i<ns.length){t:Nat}{E G:Int->Nat->LI}(hk:kn (cY ns i)=40\/kn (cY ns i)=41\/kn (cY ns i)=42)(hE:∀k∈cX (cY ns i),kn (cY ns k)<40->RE ns k t (E k t)):RN ns ↑i t (je ns E G (cY ns ↑i) t):=by
 have mF:=iE i hi
 rcases hk with hk|hk|hk
 ·have hl:=an1 mF hk
  have Ks:¬ (cY ns ↑i).1=41:=λe=>by have:=hk.symm.trans e;omega
  have XS:¬ (cY ns ↑i).1=42:=λe=>by have:=hk.symm.trans e;omega
  unfold je;rw[hk];show RN ns ↑i t (E ((cX (cY ns ↑i)).getD 0 0) t)
  refine((hE _ (dP (x:=cY ns ↑i) (j:=0) (by omega)) (aT5 mF hk 0 (by omega))).zero).up λn hE acc a b c hb=> ?_
  rw[qm,rm,kD,c8 (mD hi acc t),db Ks,db XS,c8 (by simp_all),hE _ hb];rfl
 ·have hl:=al6 mF hk;unfold je;rw[hk];show RN ns ↑i t ([91]++E ((cX (cY ns ↑i)).getD 0 0) t++[93,32,61,32]++E ((cX (cY ns ↑i)).getD 1 0) t)
  refine(((hE _ (dP (x:=cY ns ↑i) (j:=0) (by omega)) (aE3 mF hk 0 (by omega))).zero.and (hE _ (dP (x:=cY ns ↑i) (j:=1) (by omega)) (aE3 mF hk 1 (by omega))).zero).and (ik ns t)).up λn ⟨⟨ml,Hl⟩,hw⟩ acc a b c hb=> ?_
  simp only[au,aw,ay]at hb;rw[qm,rm,kD,c8 (mD hi acc t),dn (show(cY ns ↑i).1=41 from hk),hw _ _ (by simp;omega),al,c8 (by simp;omega)];dsimp only;rw[ml _ (by simp only[au,aw,ay];omega),al];rw[hw _ _ (by simp only[au,aw,ay];omega),al,c8 (by simp;omega)];dsimp only;rw[Hl _ (by simp only[au,aw,ay];omega),al];simp
 ·have hl:=am9 mF hk
  have Ks:¬ (cY ns ↑i).1=41:=λe=>by have:=hk.symm.trans e;exact absurd this (by decide)
  unfold je;rw[hk];show RN ns ↑i t ([46]++txn (cY ns ↑i)++[32,61,32]++E ((cX (cY ns ↑i)).getD 0 0) t)
  refine((hE _ (dP (x:=cY ns ↑i) (j:=0) (by omega)) (aR2 mF hk 0 (by omega))).zero.and (ik ns t)).up λn ⟨ml,hw⟩ acc a b c hb=> ?_
  simp only[au,aw,ay]at hb;have Zp:(cY ns ↑i).2.2.2.2.2.2.1=txn (cY ns ↑i):=rfl;rw[qm,rm,kD,Zp,c8 (mD hi acc t),db Ks,dn (show(cY ns ↑i).1=42 from hk),c8 (r6 (by omega)),c8 (r6 (by simp;omega)),hw _ _ (by simp;omega),al,c8 (by simp;omega)];dsimp only;rw[ml _ (by simp only[au,aw,ay];omega),al];simp
def Zh (x y:Node):LI:=bif(opn x=21)then [110,111,116,32]else bif(opn x=22)then [35]else bif(opn x=20)then [126]else [45]++bif(kn y=30)&&(opn y=19)then [32]else []
def VG (hi:i<ns.length){t:Nat}{E:Int->Nat->LI}(hk:kn (cY ns i)=30){k0:Nat}(e0:(cX (cY ns i)).getD 0 0=k0)(X9:k0<ns.length)(hE:RE ns k0 t (E k0 t)):
  Evt λn=>∀acc:LI,acc.length+(Zh (cY ns ↑i) (cY ns ↑k0)++paren (pwr (cY ns ↑k0)<11) (E ↑k0 t)).length<=MX->wU (S.tab n) (wst ns acc t) (cY ns ↑i)=U ((),wst ns (acc++(Zh (cY ns ↑i) (cY ns ↑k0)++paren (pwr (cY ns ↑k0)<11) (E ↑k0 t))) t,u9,()):=by
 obtain⟨hl,_,_⟩:=Za (iE i hi) hk
 have be1:Evt λn=>∀acc:LI,acc.length+(paren (pwr (cY ns ↑k0)<11) (E ↑k0 t)).length<=MX->im (S.tab n) (wst ns acc t) (cY ns ↑i)=U (an (wst ns (acc++paren (pwr (cY ns ↑k0)<11) (E ↑k0 t)) t,())):=hE.up λn hE acc hb=>by
  rw[Ai,kD,e0,c8 (by simp;omega),hE _ 11 hb];rfl
 refine(be1.and (ik ns t)).up λn ⟨hj,hw⟩ acc hb=> ?_
 have fin:∀w:LI,acc.length+(w++paren (pwr (cY ns ↑k0)<11) (E ↑k0 t)).length<=MX->((dj (S.tab n) (wst ns acc t) w).bind λd33=>(im (S.tab n) d33.2.1 (cY ns ↑i)).bind (dH λpB=>(U ((),pB.1,u9,()))))=U ((),wst ns (acc++(w++paren (pwr (cY ns ↑k0)<11) (E ↑k0 t))) t,u9,()):=λw hb=>by
  rw[au]at hb;rw[hw _ _ (by omega),al];dsimp only;rw[hj _ (by rw[au];omega),aC];rfl
 rw[DH,kD];unfold Zh at hb⊢
 by_cases p21:(cY ns ↑i).2.2.2.2.1=21
 ·rw[ab (show opn (cY ns ↑i)=21 from p21)]at hb⊢;rw[dn p21];exact fin _ hb
 rw[aa (show¬ opn (cY ns ↑i)=21 from p21)]at hb⊢;rw[db p21]
 by_cases p22:(cY ns ↑i).2.2.2.2.1=22
 ·rw[ab (show opn (cY ns ↑i)=22 from p22)]at hb⊢;rw[dn p22];exact fin _ hb
 rw[aa (show¬ opn (cY ns ↑i)=22 from p22)]at hb⊢;rw[db p22]
 by_cases au3:(cY ns ↑i).2.2.2.2.1=20
 ·rw[ab (show opn (cY ns ↑i)=20 from au3)]at hb⊢;rw[dn au3];exact fin _ hb
 rw[aa (show¬ opn (cY ns ↑i)=20 from au3)]at hb⊢;rw[db au3];rw[af,af,af]at hb⊢
 by_cases q:(cY ns ↑k0).1=30
 ·rw[ab (show kn (cY ns ↑k0)=30 from q),bD]at hb⊢
  by_cases r:(cY ns ↑k0).2.2.2.2.1=19
  ·rw[ab (show opn (cY ns ↑k0)=19 from r),ah]at hb⊢;simp at hb;rw[hw _ _ (by simp;omega),al,c8 (by simp;omega),e0];dsimp only;rw[c8 (mD X9 _ t),rm,dn q,dn r,hw _ _ (by simp;omega),al];dsimp only;rw[hj _ (by simp;omega),al];simp[dH]
  ·rw[aa (show¬ opn (cY ns ↑k0)=19 from r),af,aQ]at hb⊢;simp at hb;rw[hw _ _ (by simp;omega),al,c8 (by simp;omega),e0];dsimp only;rw[c8 (mD X9 _ t),rm,dn q,db r,hj _ (by simp;omega),al];simp[dH]
 ·rw[aa (show¬ kn (cY ns ↑k0)=30 from q),cF,af,aQ]at hb⊢;simp at hb;rw[hw _ _ (by simp;omega),al,c8 (by simp;omega),e0];dsimp only;rw[c8 (mD X9 _ t),rm,db q,hj _ (by simp;omega),al];simp[dH]
end
end Go.Abs.D
end

section
namespace Go.Abs.D
def PRI (ns:List Node)(k:Int)(t:Nat)(s:LI):Prop:=Evt λn=>∀acc least,¬ pwr (cY ns k)<least->acc.length+s.length<=MX->dW (S.tab n) (wst ns acc t) k least=U ((),wst ns (acc++s) t,(),(),())
section
variable{ns:List Node}(iE:∀i:Nat,i<ns.length->okN ns i (cY ns (i:Int))=av)
include iE
def PRI.re (hi:i<ns.length){t:Nat}{s:LI}(h:PRI ns i t s):RE ns ↑i t s:=by
 have h0:Evt λn=>∀acc,acc.length+s.length<=MX->dW (S.tab n) (wst ns acc t) ↑i 0=U ((),wst ns (acc++s) t,(),(),()):=h.mono λn h acc hb=>h acc 0 (by simp_all[Re,cY]) hb
 have h1:Evt λn=>∀acc least,pwr (cY ns ↑i)<least->acc.length+([40]++s++[41]).length<=MX->dW (S.tab n) (wst ns acc t) ↑i least=U ((),wst ns (acc++([40]++s++[41])) t,(),(),()):=((h0.and (ik ns t)).and (Pm iE)).up λn ⟨⟨h0,hw⟩,hp⟩ acc least hl hb=>by
  simp at hb;rw[gE,rm,c8 (mD hi acc t),hp i hi,al];rw[dn hl,hw _ _ (by simp;omega),al];rw[h0 _ (by simp;omega),al];rw[hw _ _ (by simp;omega),al];simp
 refine(h.and h1).mono λn ⟨h,h1⟩ acc least hb=> ?_
 by_cases hc:pwr (cY ns ↑i)<least
 ·rw[ab hc]at hb⊢;exact h1 acc least hc hb
 ·rw[aa hc]at hb⊢;exact h acc least hc hb
def Vi (hi:i<ns.length)(hn:J0 (cY ns i)){t:Nat}{E G:Int->Nat->LI}(Ma:kn (cY ns i)<40)(hE:∀k∈cX (cY ns i),kn (cY ns k)<40->RE ns k t (E k t))(hN:kn (cY ns i)=35->∀k∈cX (cY ns i),RN ns k t (E k t))(hF:kn (cY ns i)=36->RF ns i t (fnT ns G (cY ns i) t))
  (mm:∀k∈cX (cY ns i),∃j:Nat,k=j/\j<i):RE ns ↑i t (je ns E G (cY ns ↑i) t):=by
 refine PRI.re iE hi ?_;have mF:=iE i hi;have Tw:=(oK mF).2.1;have hP:=Pm iE
 by_cases uJ:(cY ns ↑i).1=28
 ·have hk:kn (cY ns ↑i)=28:=uJ;have hI:=JJ iE hi (t:=t) (.inl hk) hE mm [32,97,110,100,32]
  have e:je ns E G (cY ns ↑i) t=paren (pwr (cY ns ((cX (cY ns ↑i)).getD 0 0))<lft (cY ns ↑i)) (E ((cX (cY ns ↑i)).getD 0 0) t)++[32,97,110,100,32]++paren (pwr (cY ns ((cX (cY ns ↑i)).getD 1 0))<rgt (cY ns ↑i)) (E ((cX (cY ns ↑i)).getD 1 0) t):=by
   unfold je rZ;rw[hk];rfl
  rw[e]
  refine(hP.and hI).up λn ⟨hp,hI⟩ acc least hl hb=> ?_
  rw[gE,rm,c8 (mD hi acc t),hp i hi,al];dsimp only;rw[db hl,dn uJ,hI _ hb];rfl
 by_cases yl:(cY ns ↑i).1=29
 ·have hk:kn (cY ns ↑i)=29:=yl;have hI:=JJ iE hi (t:=t) (.inr (.inl hk)) hE mm [32,111,114,32]
  have e:je ns E G (cY ns ↑i) t=paren (pwr (cY ns ((cX (cY ns ↑i)).getD 0 0))<lft (cY ns ↑i)) (E ((cX (cY ns ↑i)).getD 0 0) t)++[32,111,114,32]++paren (pwr (cY ns ((cX (cY ns ↑i)).getD 1 0))<rgt (cY ns ↑i)) (E ((cX (cY ns ↑i)).getD 1 0) t):=by
   unfold je rZ;rw[hk];rfl
  rw[e]
  refine(hP.and hI).up λn ⟨hp,hI⟩ acc least hl hb=> ?_
  rw[gE,rm,c8 (mD hi acc t),hp i hi,al];dsimp only;rw[db hl,db uJ,dn yl,hI _ hb];rfl
 by_cases zj:(cY ns ↑i).1=31
 ·have hk:kn (cY ns ↑i)=31:=zj;obtain⟨_,o1,o2⟩:=Hb mF hk;have hI:=JJ iE hi (t:=t) (.inr (.inr hk)) hE mm ([32]++fxI (60+opn (cY ns ↑i))++[32]);have hT:=LV (60+opn (cY ns ↑i)) (by omega) (by omega);have aK7:ar.wrap (60+(cY ns ↑i).2.2.2.2.1)=60+opn (cY ns ↑i):=wrap64 (60+opn (cY ns ↑i)) (by omega) (by omega)
  have e:je ns E G (cY ns ↑i) t=paren (pwr (cY ns ((cX (cY ns ↑i)).getD 0 0))<lft (cY ns ↑i)) (E ((cX (cY ns ↑i)).getD 0 0) t)++([32]++fxI (60+opn (cY ns ↑i))++[32])++paren (pwr (cY ns ((cX (cY ns ↑i)).getD 1 0))<rgt (cY ns ↑i)) (E ((cX (cY ns ↑i)).getD 1 0) t):=by
   unfold je rZ;rw[hk];rfl
  rw[e]
  refine((hP.and hI).and hT).up λn ⟨⟨hp,hI⟩,hT⟩ acc least hl hb=> ?_
  have P9:=hb;simp only[au,aw,ay]at P9;rw[gE,rm,c8 (mD hi acc t),hp i hi,al];dsimp only;rw[db hl,db uJ,db yl,dn zj,aK7,hT,al,c8 (r6 (by dsimp only;omega)),c8 (r6 (by simp;omega)),hI _ hb];rfl
 by_cases vL:(cY ns ↑i).1=30
 ·have hk:kn (cY ns ↑i)=30:=vL;obtain⟨om,_,_⟩:=Za mF hk;have m0:=dP (x:=cY ns ↑i) (j:=0) (by omega);obtain⟨k0,e0,b0⟩:=mm _ m0;have ml:=hE _ m0 (aT7 mF hk 0 (by omega));rw[e0]at ml;have hU:=VG iE hi hk e0 (show k0<ns.length by omega) ml
  have e:je ns E G (cY ns ↑i) t=Zh (cY ns ↑i) (cY ns ↑k0)++paren (pwr (cY ns ↑k0)<11) (E ↑k0 t):=by
   unfold je;rw[hk,e0];rfl
  rw[e]
  refine(hP.and hU).up λn ⟨hp,hU⟩ acc least hl hb=> ?_
  rw[gE,rm,c8 (mD hi acc t),hp i hi,al];dsimp only;rw[db hl,db uJ,db yl,db zj,dn vL,hU _ hb];rfl
 by_cases h32:(cY ns ↑i).1=32
 ·have hk:kn (cY ns ↑i)=32:=h32;have om:=am8 mF hk;have m0:=dP (x:=cY ns ↑i) (j:=0) (by omega);obtain⟨k0,e0,b0⟩:=mm _ m0;have ml:=hE _ m0 (aE2 mF hk 0 (by omega));rw[e0]at ml;have Hl:=(hE _ (dP (x:=(cY ns ↑i)) (j:=1) (by omega)) (aE2 mF hk 1 (by omega))).zero;unfold je;rw[hk,e0];show PRI ns ↑i t (zO ns E ↑k0 t++[91]++E ((cX (cY ns ↑i)).getD 1 0) t++[93])
  refine((hP.and (Jf (show k0<ns.length by omega) ml)).and (Hl.and (ik ns t))).up λn ⟨⟨hp,hB⟩,Hl,hw⟩ acc least hl hb=> ?_
  unfold zO at hb⊢;simp only[au,aw,ay]at hb;rw[gE,rm,kD,c8 (mD hi acc t),hp i hi,al];dsimp only;rw[db hl,db uJ,db yl,db zj,db vL,dn h32,dn (by omega),e0,hB _ (by omega),al];dsimp only;rw[hw _ _ (by simp only[au,aw,ay];omega),al,dn (by omega)];dsimp only;rw[Hl _ (by simp only[au,aw,ay];omega),al];dsimp only;rw[hw _ _ (by simp only[au,aw,ay];omega),al];simp only[aC]
 by_cases h33:(cY ns ↑i).1=33
 ·have hk:kn (cY ns ↑i)=33:=h33;have om:=am3 mF hk;have m0:=dP (x:=(cY ns ↑i)) (j:=0) (by omega);obtain⟨k0,e0,b0⟩:=mm _ m0;have ml:=hE _ m0 (aR5 mF hk 0 (by omega));rw[e0]at ml;have Zp:(cY ns ↑i).2.2.2.2.2.2.1=txn (cY ns ↑i):=rfl;unfold je;rw[hk,e0];show PRI ns ↑i t (zO ns E ↑k0 t++([46]++txn (cY ns ↑i)))
  refine((hP.and (Jf (show k0<ns.length by omega) ml)).and (ik ns t)).up λn ⟨⟨hp,hB⟩,hw⟩ acc least hl hb=> ?_
  unfold zO at hb⊢;simp only[au,aw,ay]at hb;rw[gE,rm,kD,Zp,c8 (mD hi acc t),hp i hi,al];dsimp only;rw[db hl,db uJ,db yl,db zj,db vL,db h32,dn h33,dn (by omega),e0,hB _ (by omega),al,c8 (r6 (by omega))];dsimp only;rw[hw _ _ (by simp only[au,aw,ay];omega),al];simp only[aC]
 by_cases ue:(cY ns ↑i).1=34
 ·have hk:kn (cY ns ↑i)=34:=ue;have om:=ak8 mF hk;have m0:=dP (x:=(cY ns ↑i)) (j:=0) (by omega);obtain⟨k0,e0,b0⟩:=mm _ m0;have ml:=hE _ m0 (aC9 mF hk 0 (by omega));rw[e0]at ml
  have Hm:sub (cX (cY ns ↑i)) 1 ((cX (cY ns ↑i)).length:Int)=(cX (cY ns ↑i)).tail:=by
   show((cX (cY ns ↑i)).take (cX (cY ns ↑i)).length).drop 1=_;rw[cy,List.drop_one]
  have UI:bounds (cX (cY ns ↑i)).length 1 ((cX (cY ns ↑i)).length:Int)=true:=fO (i:=1) om (aF _)
  have hL:=tA ns E t (cX (cY ns ↑i)).tail (by simp;omega) (λk hm=>by
   have ae0:=List.mem_of_mem_tail hm;obtain⟨j,hj,ej⟩:=bp2.1 ae0;have:=aC9 mF hk j hj;rw[aG,aL hj]at this
   exact hE k ae0 (by rw[<-ej];exact this))
  unfold je;rw[hk,e0];show PRI ns ↑i t (zO ns E ↑k0 t++[40]++iO E (cX (cY ns ↑i)).tail t++[41])
  refine((hP.and (Jf (show k0<ns.length by omega) ml)).and (hL.and (ik ns t))).up λn ⟨⟨hp,hB⟩,hL,hw⟩ acc least hl hb=> ?_
  unfold zO at hb⊢;simp only[au,aw,ay]at hb;rw[gE,rm,kD,c8 (mD hi acc t),hp i hi,al];dsimp only;rw[db hl,db uJ,db yl,db zj,db vL,db h32,db h33,dn ue,dn (by omega),e0,hB _ (by omega),al];dsimp only;rw[hw _ _ (by simp only[au,aw,ay];omega),al,c8 UI,Hm];dsimp only;rw[hL _ (by simp only[au,aw,ay];omega),al];dsimp only;rw[hw _ _ (by simp;omega),al];simp
 by_cases Hj:(cY ns ↑i).1=35
 ·have hk:kn (cY ns ↑i)=35:=Hj;have hT:=U3 ns E t (cY ns ↑i) (by omega) (hN hk);unfold je;rw[hk];show PRI ns ↑i t ([123]++iO E (cX (cY ns ↑i)) t++[125])
  refine(hP.and hT).up λn ⟨hp,hT⟩ acc least hl hb=> ?_
  rw[gE,rm,c8 (mD hi acc t),hp i hi,al];dsimp only;rw[db hl,db uJ,db yl,db zj,db vL,db h32,db h33,db ue,dn Hj,hT _ hb];rfl
 by_cases zh:(cY ns ↑i).1=36
 ·have hk:kn (cY ns ↑i)=36:=zh;have hB:=hF hk;unfold je;rw[hk];show PRI ns ↑i t ([102,110]++fnT ns G (cY ns ↑i) t)
  refine((hP.and hB).and (ik ns t)).up λn ⟨⟨hp,hB⟩,hw⟩ acc least hl hb=> ?_
  simp at hb;rw[gE,rm,c8 (mD hi acc t),hp i hi,al];dsimp only;rw[db hl,db uJ,db yl,db zj,db vL,db h32,db h33,db ue,db Hj,dn zh,hw _ _ (by simp;omega),al];dsimp only;rw[hB _ (by simp;omega),al];simp
 by_cases h37:(cY ns ↑i).1=37
 ·have hk:kn (cY ns ↑i)=37:=h37;have om:=al8 mF hk;have ml:=(hE _ (dP (x:=(cY ns ↑i)) (j:=0) (by omega)) (aT4 mF hk 0 (by omega))).zero;unfold je;rw[hk];show PRI ns ↑i t ([40]++E ((cX (cY ns ↑i)).getD 0 0) t++[41])
  refine((hP.and ml).and (ik ns t)).up λn ⟨⟨hp,ml⟩,hw⟩ acc least hl hb=> ?_
  simp only[au,aw,ay]at hb;rw[gE,rm,kD,c8 (mD hi acc t),hp i hi,al];dsimp only;rw[db hl,db uJ,db yl,db zj,db vL,db h32,db h33,db ue,db Hj,db zh,dn h37,hw _ _ (by simp;omega),al,c8 (by simp;omega)];dsimp only;rw[ml _ (by simp only[au,aw,ay];omega),al];dsimp only;rw[hw _ _ (by simp only[au,aw,ay];omega),al];simp
 have e:je ns E G (cY ns ↑i) t=plT (cY ns ↑i):=by
  unfold je plT
  have d:∀c:Int,¬ (cY ns ↑i).1=c->I (kn (cY ns ↑i)=c)=false:=λc h=>aa h
  have d40:∀c:Int,40<=c->I (kn (cY ns ↑i)=c)=false:=λc h=>aa (by omega)
  rw[d _ uJ,d _ yl,d _ zj,d _ vL,d _ h32,d _ h33,d _ ue,d _ Hj,d _ zh,d _ h37,d40 40 (by decide),d40 41 (by decide),d40 42 (by decide)]
  by_cases c20:kn (cY ns ↑i)=20
  ·rw[c20];rfl
  by_cases c21:kn (cY ns ↑i)=21
  ·rw[c21];rfl
  by_cases c22:kn (cY ns ↑i)=22
  ·rw[c22];rfl
  by_cases c27:kn (cY ns ↑i)=27
  ·rw[c27];rfl
  by_cases c23:kn (cY ns ↑i)=23
  ·rw[c23];rfl
  by_cases c24:kn (cY ns ↑i)=24
  ·rw[c24];rfl
  by_cases c26:kn (cY ns ↑i)=26
  ·rw[c26];rfl
  by_cases c25:kn (cY ns ↑i)=25
  ·rw[c25];rfl
  rw[aa c20,aa c21,aa c22,aa c27,aa c23,aa c24,aa c26,aa c25];rfl
 rw[e]
 refine(hP.and (Va ns t hn mF)).up λn ⟨hp,F0⟩ acc least hl hb=> ?_
 rw[gE,rm,c8 (mD hi acc t),hp i hi,al];simp_all[dz,aa]
end
end Go.Abs.D
end

section
namespace Go.Abs.D
def ifR (ns:List Node)(E G:Int->Nat->LI)(x:Node)(t:Nat):LI:=
 E ((cX x).getD 0 0) t++[32]++fR ns G ((cX x).getD 1 0) t++
  bif((cX x).length=3)then(bif(kn (cY ns ((cX x).getD 2 0))=7)then [32,101,108]++G ((cX x).getD 2 0) t else [32,101,108,115,101,32]++fR ns G ((cX x).getD 2 0) t)else []
def Z9 (ns) (E G) (x) (t):ifT ns E G x t=[105,102,32]++ifR ns E G x t:=by
 rfl
def Q5 {x:Node}{P:Int->Prop}(h:∀j:Nat,j<(cX x).length->P ((cX x).getD j 0)):∀k∈cX x,P k:=λk hm=>by
 grind [bp2,aL]
section
variable{ns:List Node}(iE:∀i:Nat,i<ns.length->okN ns i (cY ns (i:Int))=av)
include iE
def TC (hi:i<ns.length)(hk:kn (cY ns i)=7){t:Nat}{E G:Int->Nat->LI}(hE:∀k∈cX (cY ns i),kn (cY ns k)<40->RE ns k t (E k t))(hB:∀k∈cX (cY ns i),RB ns k t (fR ns G k t))
  (hC:∀k∈cX (cY ns i),kn (cY ns k)=7->∃r,G k t=[105,102,32]++r/\RC ns k t r) (mm:∀k∈cX (cY ns i),∃j:Nat,k=j/\j<i):RC ns ↑i t (ifR ns E G (cY ns ↑i) t):=by
 obtain⟨hl,_,_⟩:=sh7 (iE i hi) hk;have m0:=dP (x:=cY ns ↑i) (j:=0) (by omega);have m1:=dP (x:=cY ns ↑i) (j:=1) (by omega);have ml:=(hE _ m0 (en7 (iE i hi) hk (by omega))).zero;have EZ:=hB _ m1;unfold ifR
 by_cases h3:(cX (cY ns ↑i)).length=3
 ·have m2:=dP (x:=cY ns ↑i) (j:=2) (by omega);obtain⟨k2,e2,b2⟩:=mm _ m2;have aF5:=hC _ m2;have aE9:=hB _ m2;rw[e2]at aF5 aE9;rw[ab h3,e2,ah]
  by_cases h7:(cY ns ↑k2).1=7
  ·have UA:kn (cY ns ↑k2)=7:=h7;obtain⟨r,hr,hR⟩:=aF5 UA;rw[ab UA,ah,hr];show RC ns ↑i t (E ((cX (cY ns ↑i)).getD 0 0) t++[32]++fR ns G ((cX (cY ns ↑i)).getD 1 0) t++([32,101,108,105,102,32]++r))
   refine(((ik ns t).and ml).and (EZ.and hR)).up λn ⟨⟨hw,h0⟩,h1,h2⟩ acc w hb=> ?_
   simp only[au,aw,ay]at hb;rw[rU,kD,hw _ _ (by omega),al,dn (by omega)];dsimp only;rw[h0 _ (by simp only[au];omega),al];dsimp only;rw[hw _ _ (by simp only[au,aw,ay];omega),al,dn (by omega)];dsimp only;rw[h1 _ (by simp only[au,aw,ay];omega),al,db (by omega),dn (by omega),e2];dsimp only;rw[c8 (mD (by omega) _ t),rm,dn h7,h2 _ _ (by simp only[au,aw,ay];omega),al];simp only[aC]
  ·have UA:¬ kn (cY ns ↑k2)=7:=h7;rw[aa UA,af]
   refine(((ik ns t).and ml).and (EZ.and aE9)).up λn ⟨⟨hw,h0⟩,h1,h2⟩ acc w hb=> ?_
   simp only[au,aw,ay]at hb;rw[rU,kD,hw _ _ (by omega),al,dn (by omega)];dsimp only;rw[h0 _ (by simp only[au];omega),al];dsimp only;rw[hw _ _ (by simp only[au,aw,ay];omega),al,dn (by omega)];dsimp only;rw[h1 _ (by simp only[au,aw,ay];omega),al,db (by omega),dn (by omega),e2];dsimp only;rw[c8 (mD (by omega) _ t),rm,db h7,hw _ _ (by simp only[au,aw,ay];omega),al,c8 (by simp;omega)];dsimp only;rw[h2 _ (by simp only[au,aw,ay];omega),al];simp
 ·rw[aa h3,af,aQ]
  refine(((ik ns t).and ml).and EZ).up λn ⟨⟨hw,h0⟩,h1⟩ acc w hb=> ?_
  simp only[au,aw,ay]at hb;rw[rU,kD,hw _ _ (by omega),al,c8 (by simp;omega)];dsimp only;rw[h0 _ (by simp only[au];omega),al];dsimp only;rw[hw _ _ (by simp only[au,aw,ay];omega),al,c8 (by simp;omega)];dsimp only;rw[h1 _ (by simp only[au,aw,ay];omega),al,c8 (by simp;omega)];simp
def RJ (ns:List Node)(i:Int)(t:Nat)(s:LI)(f:Bool):Prop:=Evt λn=>∀acc:LI,acc.length+s.length<=MX->pV (S.tab n) (wst ns acc t) (cY ns i) (cY ns i).1 f=U (an (wst ns (acc++s) t,()))
def YC (hi:i<ns.length){t:Nat}{E G:Int->Nat->LI}(hE:∀k∈cX (cY ns i),kn (cY ns k)<40->RE ns k t (E k t))(hB:∀k∈cX (cY ns i),RB ns k t (fR ns G k t))(h1:¬ (cY ns i).1=1)(h2:¬ (cY ns i).1=2)(h3:¬ (cY ns i).1=3)(h4:¬ (cY ns i).1=4)(h5:¬ (cY ns i).1=5)(h6:¬ (cY ns i).1=6)(h7:¬ (cY ns i).1=7)(h8:¬ (cY ns i).1=8):
  RJ ns ↑i t (jH ns E G (cY ns ↑i) ↑i t) ((cY ns ↑i).1=9||decide ((cY ns ↑i).1=10)):=by
 have mF:=iE i hi;have Tw:=(oK mF).2.1;obtain⟨ZH,Xz⟩:=Ew mF;have aL0:=JK ns t (df (cY ns ↑i)) (by omega)
 by_cases h9:(cY ns ↑i).1=9
 ·have hk:kn (cY ns ↑i)=9:=h9;have hl:=sh9 mF hk;have mL:=en9 mF hk
  have hL:=tA ns E t (cX (cY ns ↑i)).dropLast (by simp;omega) (λk hm=>by
   obtain⟨j,hj,ej⟩:=bp2.1 hm;have Zq:j<(cX (cY ns ↑i)).length - 1:=(by simpa using hj);rw[List.getElem_dropLast]at ej;have Ma:=mL j Zq;rw[aG,aL (by omega)]at Ma;have Ma:kn (cY ns (cX (cY ns ↑i))[j])<40:=Ma;rw[ej]at Ma
   exact hE k (by rw[<-ej];exact bF _) Ma)
  have EZ:=hB _ (dP (x:=(cY ns ↑i)) (j:=(cX (cY ns ↑i)).length - 1) (by omega))
  have ZB:ar.wrap (((cX (cY ns ↑i)).length:Int) - 1)=(((cX (cY ns ↑i)).length - 1:Nat):Int):=by rw[wrap64 _ (by omega) (by omega)];omega
  have UI:bounds (cX (cY ns ↑i)).length 0 (((cX (cY ns ↑i)).length - 1:Nat):Int)=true:=fO (i:=0) (aU _) (by omega)
  have hs:sub (cX (cY ns ↑i)) 0 (((cX (cY ns ↑i)).length - 1:Nat):Int)=(cX (cY ns ↑i)).dropLast:=by
   show((cX (cY ns ↑i)).take ((cX (cY ns ↑i)).length - 1)).drop 0=_;rw[bY,List.dropLast_eq_take]
  unfold jH;rw[hk,ab h9,bo1];show RJ ns ↑i t ([102,111,114,32]++fu (df (cY ns ↑i))++[32,61,32]++iO E (cX (cY ns ↑i)).dropLast t++[32]++fR ns G ((cX (cY ns ↑i)).getD ((cX (cY ns ↑i)).length - 1) 0) t) av
  refine(((ik ns t).and aL0).and (hL.and EZ)).up λn ⟨⟨hw,hn⟩,hL,hB⟩ acc hb=> ?_
  simp only[au,aw,ay]at hb;rw[fY,kD,tX,uT,hw _ _ (by simp only[aw,ay];omega),al];dsimp only;rw[hn _ (by simp only[au,aw,ay];omega),al,dn h9];dsimp only;rw[hw _ _ (by simp only[au,aw,ay];omega),al,ZB,c8 UI,hs];dsimp only;rw[hL _ (by simp only[au,aw,ay];omega),al];dsimp only;rw[hw _ _ (by simp only[au,aw,ay];omega),al,c8 (dm (by omega)),bm];dsimp only;rw[hB _ (by simp only[au,aw,ay];omega),al];simp only[aC]
 by_cases xo:(cY ns ↑i).1=10
 ·have hk:kn (cY ns ↑i)=10:=xo;have hl:=an2 mF hk
  obtain⟨k0,k1,Ch⟩:∃k0 k1,cX (cY ns ↑i)=[k0,k1]:=by
   match hm:cX (cY ns ↑i),hl with
   |[a,b],_=>exact⟨a,b,rfl⟩
  have mL:=aR9 mF hk (by omega);have EZ:=hB _ (dP (x:=(cY ns ↑i)) (j:=1) (by omega));have ml:=hE _ (dP (x:=(cY ns ↑i)) (j:=0) (by omega)) mL;rw[Ch]at EZ ml
  have hL:=tA ns E t [k0] (by simp) (λk hm=>by
   rw[cg]at hm
   rw[hm];exact ml)
  have ZG:iO E [k0] t=E k0 t:=by unfold iO fu;simp
  rw[ZG]at hL;unfold jH;rw[hk,aa h9,bH,ab xo,Ch];show RJ ns ↑i t ([102,111,114,32]++fu (df (cY ns ↑i))++[32,105,110,32]++E k0 t++[32]++fR ns G k1 t) av
  refine(((ik ns t).and aL0).and (hL.and EZ)).up λn ⟨⟨hw,hn⟩,hL,hB⟩ acc hb=> ?_
  simp only[au,aw,ay]at hb;rw[fY,kD,tX,Ch,uT,hw _ _ (by simp only[aw,ay];omega),al];dsimp only;rw[hn _ (by simp only[au,aw,ay];omega),al,db h9];dsimp only;rw[hw _ _ (by simp only[au,aw,ay];omega),al,c8 (by rfl)];dsimp only;have hL:∀acc:LI,acc.length+(E k0 t).length<=MX->jP (S.tab n) (wst ns acc t) (sub [k0,k1] 0 (ar.wrap (([k0,k1].length:Int) - 1)))=U ((),wst ns (acc++E k0 t) t,(),()):=hL;rw[hL _ (by simp only[au,aw,ay];omega),al];dsimp only;rw[hw _ _ (by simp only[au,aw,ay];omega),al,c8 (by rfl)];dsimp only;have hB:∀acc:LI,acc.length+(fR ns G k1 t).length<=MX->gq (S.tab n) (wst ns acc t) ([k0,k1].getD (ar.wrap (([k0,k1].length:Int) - 1)).toNat 0)=U ((),wst ns (acc++fR ns G k1 t) t,(),()):=hB;rw[hB _ (by simp only[au,aw,ay];omega),al];simp only[aC]
 rw[aa h9,aa xo,bH]
 by_cases vR:(cY ns ↑i).1=11
 ·have hk:kn (cY ns ↑i)=11:=vR;unfold jH;rw[hk];show RJ ns ↑i t [98,114,101,97,107] aq
  refine(ik ns t).up λn hw acc hb=> ?_
  rw[fY,j8,dn vR,hw _ _ hb];rfl
 by_cases rP:(cY ns ↑i).1=12
 ·have hk:kn (cY ns ↑i)=12:=rP;unfold jH;rw[hk];show RJ ns ↑i t [110,101,120,116] aq
  refine(ik ns t).up λn hw acc hb=> ?_
  rw[fY,j8,db vR,dn rP,hw _ _ hb];rfl
 by_cases Ae:(cY ns ↑i).1=13
 ·have hk:kn (cY ns ↑i)=13:=Ae;have hL:=tA ns E t (cX (cY ns ↑i)) (by omega) (λk hm=>hE k hm (Q5 (P:=λk=>kn (cY ns k)<40) (aR3 mF hk) k hm));unfold jH;rw[hk];show RJ ns ↑i t ([114,101,116,117,114,110]++(bif(cX (cY ns ↑i)).isEmpty then []else [32]++iO E (cX (cY ns ↑i)) t)) aq
  refine((ik ns t).and hL).up λn ⟨hw,hL⟩ acc hb=> ?_
  by_cases h0:cX (cY ns ↑i)=[]
  ·rw[h0]at hb⊢;have hb:acc.length+([114,101,116,117,114,110]:LI).length<=MX:=hb;rw[fY,kD,h0,j8,db vR,db rP,dn Ae,hw _ _ hb,al,dz (by rfl)];rfl
  ·have mU:(cX (cY ns ↑i)).isEmpty=false:=(by simpa using h0);have ZG:(cX (cY ns ↑i)).length≠0:=(by simpa using h0);rw[mU,af]at hb⊢;simp only[au,aw,ay]at hb;rw[fY,kD,j8,db vR,db rP,dn Ae,hw _ _ (by simp only[aw,ay];omega),al,dn (by omega)];dsimp only;rw[hw _ _ (by simp only[au,aw,ay];omega),al];dsimp only;rw[hL _ (by simp only[au,aw,ay];omega),al];simp only[aC]
 by_cases F7:(cY ns ↑i).1=14
 ·have hk:kn (cY ns ↑i)=14:=F7;have hl:=am0 mF hk;have ZM:=hB _ (dP (x:=(cY ns ↑i)) (j:=0) (by omega));have EZ:=hB _ (dP (x:=(cY ns ↑i)) (j:=1) (by omega));unfold jH;rw[hk];show RJ ns ↑i t ([116,114,121,32]++fR ns G ((cX (cY ns ↑i)).getD 0 0) t++([32,99,97,116,99,104,32]++fu (df (cY ns ↑i))++[32])++fR ns G ((cX (cY ns ↑i)).getD 1 0) t) aq
  refine(((ik ns t).and aL0).and (ZM.and EZ)).up λn ⟨⟨hw,hn⟩,ZM,EZ⟩ acc hb=> ?_
  simp only[au,aw,ay]at hb;rw[fY,kD,tX,j8,db vR,db rP,db Ae,dn F7,hw _ _ (by simp only[aw,ay];omega),al,dn (by omega)];dsimp only;rw[ZM _ (by simp only[au,aw,ay];omega),al];dsimp only;rw[hw _ _ (by simp only[au,aw,ay];omega),al];dsimp only;rw[hn _ (by simp only[au,aw,ay];omega),al];dsimp only;rw[hw _ _ (by simp only[au,aw,ay];omega),al,dn (by omega)];dsimp only;rw[EZ _ (by simp only[au,aw,ay];omega),al];simp only[aC]
 by_cases Lf:(cY ns ↑i).1=15
 ·have hk:kn (cY ns ↑i)=15:=Lf;have hl:=al9 mF hk;have ml:=(hE _ (dP (x:=(cY ns ↑i)) (j:=0) (by omega)) (aU5 mF hk 0 (by omega))).zero;unfold jH;rw[hk];show RJ ns ↑i t ([116,104,114,111,119,32]++E ((cX (cY ns ↑i)).getD 0 0) t) aq
  refine((ik ns t).and ml).up λn ⟨hw,ml⟩ acc hb=> ?_
  simp only[au,aw,ay]at hb;rw[fY,kD,j8,db vR,db rP,db Ae,db F7,dn Lf,hw _ _ (by simp only[aw,ay];omega),al,dn (by omega)];dsimp only;rw[ml _ (by simp only[au,aw,ay];omega),al];simp only[aC]
 by_cases zT:(cY ns ↑i).1=16
 ·have hk:kn (cY ns ↑i)=16:=zT;have hl:=am2 mF hk;have ml:=(hE _ (dP (x:=(cY ns ↑i)) (j:=0) (by omega)) (aS1 mF hk 0 (by omega))).zero;unfold jH;rw[hk];show RJ ns ↑i t ([100,101,102,101,114,32]++E ((cX (cY ns ↑i)).getD 0 0) t) aq
  refine((ik ns t).and ml).up λn ⟨hw,ml⟩ acc hb=> ?_
  simp only[au,aw,ay]at hb;rw[fY,kD,j8,db vR,db rP,db Ae,db F7,db Lf,dn zT,hw _ _ (by simp only[aw,ay];omega),al,dn (by omega)];dsimp only;rw[ml _ (by simp only[au,aw,ay];omega),al];simp only[aC]
 have e:jH ns E G (cY ns ↑i) ↑i t=[]:=by
  unfold jH
  have d:∀c:Int,¬ (cY ns ↑i).1=c->I (kn (cY ns ↑i)=c)=false:=λc h=>aa h
  rw[d _ h1,d _ h2,d _ h3,d _ h4,d _ h5,d _ h6,d _ zT,d _ h7,d _ h8,d _ h9,d _ xo,d _ vR,d _ rP,d _ Ae,d _ F7,d _ Lf];rfl
 rw[e]
 refine(ik ns t).up λn _ acc hb=> ?_
 simp_all[fY,j8,dz,aa,aQ]
end
end Go.Abs.D
end

section
namespace Go.Abs.D
theorem Rs (h:j<l.length):get l j=l[j]:=xf h
def Gu (hs:∀j,j<i->get EP j=get st j):∀m a,(∀j,j<m->0<=get kids j/\get kids j<i)->oM EP kids m a=oM st kids m a
 |0,_,_=>rfl
 |m+1,a,hk=>by
  unfold oM;rw[hs _ (by simp_all),Gu hs m _ λj hj=>hk j (by omega)]
def SP (ns) (hk:∀i,i<ns.length->∀j,j<(eO ns i).length->0<=get (eO ns i) j/\get (eO ns i) j<i):∀r st,r<=ns.length->st.length=ns.length->imS ns r st= .inr ()->
  ∃EP,(∀j,j<ns.length - r->get EP j=get st j)/\∀i,ns.length - r<=i->i<ns.length->oM EP (eO ns i) (eO ns i).length i=U (get EP i)
 |0,st,_,_,_=>⟨st,λ_ _=>rfl,λi h1 h2=>by omega⟩
 |r+1,st,hr,hl,h=>by
  unfold imS at h;split at h
  ·cases h
  ·rename_i a ha;have mL:ns.length - (r+1)<ns.length:=(by omega)
   cases hb:(r=0)&& !(a=0)with
   |true=>simp_all
   |false=>
    rw[hb]at h;obtain⟨EP,h1,h2⟩:=SP ns hk r _ (by omega) (by simp_all) h
    have ZV:∀j,j<ns.length - (r+1)->get EP j=get st j:=λj hj=>by
     rw[h1 j (by omega),sU _ _ _ _ (by omega),ai (by omega)]
    refine⟨EP,ZV,λi ad1 a03=> ?_⟩
    by_cases hi:i=ns.length - (r+1)
    ·subst hi;rw[Gu ZV _ _ (hk _ mL),ha,h1 _ (by omega),sU _ _ _ _ (by omega),aj rfl]
    grind
def V6 (h:(pn ns).1=0):∃st:LI,∀i,i<ns.length->oM st (eO ns i) (eO ns i).length i=U (get st i):=by
 obtain⟨_,h0,h3,hk⟩:=yX h
 have bf8:∀i,i<ns.length->∀j,j<(eO ns i).length->0<=get (eO ns i) j/\get (eO ns i) j<i:=λi hi j hj=>by
  grind [vM,Rs,bF]
 unfold pn at h
 by_cases c0:ns.length=0
 ·omega
 rw[aa (show¬ 3000<ns.length by omega)]at h
 by_cases c2:nu ns ((ns.length - 1:Nat))=1
 ·by_cases c3:BG ns<ns.length
  ·simp_all
  cases hi:imS ns ns.length (aN ns.length 0)with
  |inl j=>simp_all
  |inr _=>
   obtain⟨EP,_,h2⟩:=SP ns bf8 ns.length _ (aF _) (by simp) hi;exact⟨EP,λi hi=>h2 i (by omega) hi⟩
 simp_all
def Dh {st kids:LI}{L:Int->Nat}(hL:∀j,j<kids.length->0<=get kids j/\(L (get kids j))+get st (get kids j).toNat<=get kids j+1):∀m a b,m<=kids.length->oM st kids m a=U b->(((kids.take m).map L).sum)+b<=a
 |0,a,b,_,h=>by
  injection h with h
  simp_all
 |m+1,a,b,hm,h=>by
  have To:m<kids.length:=(by omega);unfold oM at h
  by_cases hc:get kids m=a - 1
  ·rw[ab hc]at h;have ih:=Dh hL m _ b (by omega) h;rw[cP To,bq2,List.sum_append,cw,List.map_nil,List.sum_cons,List.sum_nil]
   grind [Rs]
  simp_all
section
variable{ns:List cZ.den}(hk:∀(j:Nat)(hj:j<ns.length),∀k∈cX ns[j],0<=k/\k<(j:Int)){st:LI}(qc:∀i,i<ns.length->oM st (eO ns i) (eO ns i).length (i:Int)=U (get st i))
include hk in
theorem Rf (i:Nat)(hi:i<ns.length)(j:Nat)(hj:j<(eO ns i).length):∃k:Nat,get (eO ns i) j=(k:Int)/\k<i:=by
 rw[vM hi]at hj⊢;rw[Rs hj];have:=hk i hi _ (bF hj);exact⟨((cX ns[i])[j]).toNat,by omega,by omega⟩
include hk qc in
theorem ZZ:∀(n i:Nat),i<n->i<ns.length->0<=get st i
 |0,i,h,_=>absurd h (by omega)
 |n+1,i,h,hi=>by
  have key:∀(m:Nat) (a b:Int),m<=(eO ns i).length->0<=a->oM st (eO ns i) m a=U b->0<=b:=by
   intro m
   induction m with
   |zero=>intro a b _ h0 h;injection h with h;omega
   |succ m ih=>
    intro a b hm h0 h;unfold oM at h
    by_cases hc:get (eO ns i) m=a - 1
    ·rw[ab hc]at h;obtain⟨k,Ch,mL⟩:=Rf hk i hi m (by omega);rw[Ch]at h;exact ih _ b (by omega) (ZZ n k (by omega) (by omega)) h
    ·rw[aa hc]at h;cases h
  exact key _ _ _ (aF _) (by omega) (qc i hi)
include hk qc in
theorem W6:∀(n i:Nat),i<n->i<ns.length->get st i<=(i:Int)
 |0,i,h,_=>absurd h (by omega)
 |n+1,i,h,hi=>by
  have:=Dh (st:=st) (kids:=eO ns i) (L:=λ_=>0) (λj hj=>by
   obtain⟨k,Ch,mL⟩:=Rf hk i hi j hj;have:=W6 n k (by omega) (by omega)
   grind) (eO ns i).length i (get st i) (aF _) (qc i hi)
  omega
end
end Go.Abs.D
end

section
namespace Go.Abs.D
def WB:Nat:=3000000
def K0 (st:LI)(k:Int):Nat:=(k+1 - get st k.toNat).toNat
def uK (st:LI)(k:Int):Nat:=WB*K0 st k
def vI (st:LI)(l:LI):Nat:=(l.map (uK st)).sum
theorem vN (st) (k) (l:LI):vI st (k::l)=uK st k+vI st l:=by rfl
theorem Pf (st) (a b):vI st (a++b)=vI st a+vI st b:=by grind [vI]
def Nh (h:1<=l.length):uK st (l.getD 0 0)<=vI st l:=by
 match l,h with
 |a::r,_=>simp_all[vN,uK]
def Nq (h:2<=l.length):uK st (l.getD 0 0)+uK st (l.getD 1 0)<=vI st l:=by
 match l,h with
 |a::b::r,_=>simp_all[vN,uK]
def af9 (h:3<=l.length):uK st (l.getD 0 0)+uK st (l.getD 1 0)+uK st (l.getD 2 0)<=vI st l:=by
 match l,h with
 |a::b::c::r,_=>grind [vN,uK]
def Yn (h:1<=l.length):uK st (l.getD 0 0)+vI st l.tail=vI st l:=by
 match l,h with
 |a::r,_=>rfl
def Yj (st l) (m):vI st (l.take m)+vI st (l.drop m)=vI st l:=by rw[<-Pf,bo6]
def Yv (h:1<=l.length):vI st l.dropLast+uK st (l.getD (l.length - 1) 0)=vI st l:=by
 have e:l=l.dropLast++[l.getD (l.length - 1) 0]:=by
  have mU:l≠[]:=λe=>by simp_all
  grind [List.dropLast_concat_getLast,aL]
 grind [Pf,vI]
def Nl (f:Int->LI) (c):∀l,(∀k∈l,(f k).length<=uK st k+c)->(l.flatMap f).length<=vI st l+c*l.length
 |[],_=>by simp
 |k::l,h=>by
  have ih:=Nl f c l λx hx=>h x (aB _ hx)
  grind [au,vN,aw,Nat.mul_succ]
def yY (E) (t) (l) (h:∀k∈l,(E k t).length<=uK st k):(iO E l t).length<=vI st l+2*l.length:=by
 unfold iO
 cases l with
 |nil=>simp[fu]
 |cons a r=>
  have:=Nl (st:=st) (λk=>[44,32]++E k t) 2 r λk hk=>by
   simp_all
  show(E a t++(r.map λk=>E k t).flatMap λt=>[44,32]++t).length<=_
  grind [List.flatMap_map,au,vN,aw,Nat.mul_succ]
def B9 (b) (s):(paren b s).length<=s.length+2:=by
 cases b
 ·exact Nat.le_add_right _ _
 ·show([40]++s++[41]).length<=_;simp
section
variable{ns:List Node}(iE:∀i:Nat,i<ns.length->okN ns i (cY ns (i:Int))=av){st:LI}(zQ:∀i:Nat,i<ns.length->vI st (cX (cY ns (i:Int)))+WB<=uK st (i:Int))
include iE zQ
def YE (hi:i<ns.length){t:Nat}(ht:t<=10000){G:Int->Nat->LI}(hG:∀k∈cX (cY ns i),(G k (t+1)).length<=uK st k):(fR ns G ↑i t).length+900000<=uK st ↑i:=by
 have hl:=(oK (iE i hi)).2.1;have ZL:=zQ i hi;unfold WB at ZL
 have h1:=Nl (st:=st) (λk=>rH (t+1)++G k (t+1)++[10]) (t+2) (cX (cY ns ↑i)) λk hk=>by
  grind [rF]
 have h2:(t+2)*(cX (cY ns ↑i)).length<=10002*200:=Nat.mul_le_mul (by omega) hl;unfold fR Dt
 cases(cX (cY ns ↑i)).isEmpty with
 |true=>grind
 |false=>
  rw[af];simp[rF]at h1⊢;omega
def Wf (hi:i<ns.length){t:Nat}{G:Int->Nat->LI}(om:1<=(cX (cY ns i)).length)(hB:(fR ns G ((cX (cY ns i)).getD 0 0) t).length<=uK st ((cX (cY ns i)).getD 0 0)):(fnT ns G (cY ns ↑i) t).length+900000<=uK st ↑i:=by
 have ZL:=zQ i hi;unfold WB at ZL;have hs:=Nh (st:=st) om;have hb:=(oK (iE i hi)).1
 have hc:(fu (df (cY ns ↑i)++bif(opn (cY ns ↑i)=1)then [[46,46,46]]else [])).length<=8442:=by
  have:=I9 (l:=df (cY ns ↑i)++bif(opn (cY ns ↑i)=1)then [[46,46,46]]else []) (c:=40) (λm hm=>by
   rcases aP.1 hm with h|h
   ·exact hb.2.2 m h
   ·cases hd:I (opn (cY ns ↑i)=1)with
    |true=>
     simp_all
    |false=>simp_all)
  refine bn8 this ?_
  have hlen:(df (cY ns ↑i)++bif(opn (cY ns ↑i)=1)then [[46,46,46]]else []).length<=201:=by
   rw[au];have:=hb.2.1;cases I (opn (cY ns ↑i)=1)<;>simp<;>omega
  omega
 grind [fnT,au,aw,ay]
def VW (hi:i<ns.length){t:Nat}{E G:Int->Nat->LI}(hE:∀k∈cX (cY ns i),(E k t).length<=uK st k)(hB:∀k∈cX (cY ns i),(fR ns G k t).length<=uK st k)(hint:(EG (sD (cY ns i))).length<=100):(je ns E G (cY ns ↑i) t).length<=uK st ↑i:=by
 have mF:=iE i hi;have hl:=(oK mF).2.1;have Zp:(txn (cY ns ↑i)).length<=4000:=(oK mF).1.1;have ZL:=zQ i hi;unfold WB at ZL
 have hq:(sW (txn (cY ns ↑i))).length<=20000:=by
  unfold sW;split
  ·simp
  ·have:((txn (cY ns ↑i)).flatMap esc).length<=(txn (cY ns ↑i)).length*4:=by
    generalize txn (cY ns ↑i)=l
    induction l with
    |nil=>simp
    |cons a r ih=>
     rw[bE,au,aw,Nat.succ_mul];have:(esc a).length<=4:=HE a;omega
   simp only[au,aw,ay];omega
 have ae8:(rZ (cY ns ↑i)).length<=100:=by
  unfold rZ;cases I (kn (cY ns ↑i)=28)
  ·cases I (kn (cY ns ↑i)=29)
   ·show(fxI (60+opn (cY ns ↑i))).length<=100;unfold fxI
    cases h:(0<=60+opn (cY ns ↑i))&&(60+opn (cY ns ↑i)<=78)with
    |true=>
     rw[aA,ad,ad]at h
     have hf:∀k:Fin 79,(fx k.1).length<=100:=by decide+kernel
     exact hf ⟨(60+opn (cY ns ↑i)).toNat,by omega⟩
    |false=>exact aU _
   ·show 2<=100;omega
  ·show 3<=100;omega
 have k1:∀{s:LI} {c:Nat},1<=(cX (cY ns ↑i)).length->s.length<=c+(E ((cX (cY ns ↑i)).getD 0 0) t).length->c<=100000->s.length<=uK st ↑i:=λ{s c} h1 h2 h3=>by
  have a:=Nh (st:=st) h1;have b:=hE _ (dP (x:=cY ns ↑i) (j:=0) (by omega));omega
 have k2:∀{s:LI} {c:Nat},2<=(cX (cY ns ↑i)).length->s.length<=c+(E ((cX (cY ns ↑i)).getD 0 0) t).length+(E ((cX (cY ns ↑i)).getD 1 0) t).length->c<=100000->s.length<=uK st ↑i:=λ{s c} h1 h2 h3=>by
  have a:=Nq (st:=st) h1;have b:=hE _ (dP (x:=cY ns ↑i) (j:=0) (by omega));have b':=hE _ (dP (x:=cY ns ↑i) (j:=1) (by omega));omega
 have k0:∀{s:LI},s.length<=100000->s.length<=uK st ↑i:=λ{s} h=>by omega
 have p0:=B9 (pwr (cY ns ((cX (cY ns ↑i)).getD 0 0))<lft (cY ns ↑i)) (E ((cX (cY ns ↑i)).getD 0 0) t);have p1:=B9 (pwr (cY ns ((cX (cY ns ↑i)).getD 1 0))<rgt (cY ns ↑i)) (E ((cX (cY ns ↑i)).getD 1 0) t);have p2:=B9 (pwr (cY ns ((cX (cY ns ↑i)).getD 0 0))<11) (E ((cX (cY ns ↑i)).getD 0 0) t);have p3:(zO ns E ((cX (cY ns ↑i)).getD 0 0) t).length<=(E ((cX (cY ns ↑i)).getD 0 0) t).length+2:=B9 _ _;unfold je;dsimp only
 by_cases DC:kn (cY ns ↑i)=20
 ·rw[DC];exact k0 (s:=[110,105,108]) (by decide)
 by_cases Kp:kn (cY ns ↑i)=21
 ·rw[Kp];exact k0 (s:=[116,114,117,101]) (by decide)
 by_cases EV:kn (cY ns ↑i)=22
 ·rw[EV];exact k0 (s:=[102,97,108,115,101]) (by decide)
 by_cases Kg:kn (cY ns ↑i)=27
 ·rw[Kg];exact k0 (s:=[46,46,46]) (by decide)
 by_cases Ci:kn (cY ns ↑i)=23
 ·rw[Ci];exact k0 (s:=EG (sD (cY ns ↑i))) (by omega)
 by_cases AB:kn (cY ns ↑i)=24
 ·rw[AB];exact k0 (s:=txn (cY ns ↑i)) (by omega)
 by_cases K5:kn (cY ns ↑i)=26
 ·rw[K5];exact k0 (s:=txn (cY ns ↑i)) (by omega)
 by_cases Sa:kn (cY ns ↑i)=25
 ·rw[Sa];exact k0 (s:=sW (txn (cY ns ↑i))) (by omega)
 have bin:2<=(cX (cY ns ↑i)).length->(paren (pwr (cY ns ((cX (cY ns ↑i)).getD 0 0))<lft (cY ns ↑i)) (E ((cX (cY ns ↑i)).getD 0 0) t)++([32]++rZ (cY ns ↑i)++[32])++paren (pwr (cY ns ((cX (cY ns ↑i)).getD 1 0))<rgt (cY ns ↑i)) (E ((cX (cY ns ↑i)).getD 1 0) t)).length<=uK st ↑i:=λh=>
  k2 (c:=1000) h (by simp only[au,aw,ay];omega) (by omega)
 by_cases uJ:kn (cY ns ↑i)=28
 ·have:=bin (by have:=al4 mF uJ;omega);rw[uJ];exact this
 by_cases yl:kn (cY ns ↑i)=29
 ·have:=bin (by have:=an3 mF yl;omega);rw[yl];exact this
 by_cases zj:kn (cY ns ↑i)=31
 ·have:=bin (by have:=Hb mF zj;omega);rw[zj];exact this
 by_cases vL:kn (cY ns ↑i)=30
 ·obtain⟨om,_,_⟩:=Za mF vL;rw[vL]
  have hp:∀p:LI,p.length<=10->(p++paren (pwr (cY ns ((cX (cY ns ↑i)).getD 0 0))<11) (E ((cX (cY ns ↑i)).getD 0 0) t)).length<=uK st ↑i:=λp hp=>k1 (c:=100) (by omega) (by rw[au];omega) (by omega)
  refine hp _ ?_;cases I (opn (cY ns ↑i)=21)
  ·cases I (opn (cY ns ↑i)=22)
   ·cases I (opn (cY ns ↑i)=20)
    ·simp only[af,au,aw,ay];cases I (kn (cY ns ((cX (cY ns ↑i)).getD 0 0))=30)&&I (opn (cY ns ((cX (cY ns ↑i)).getD 0 0))=19)<;>simp
    ·show 1<=10;omega
   ·show 1<=10;omega
  ·show 4<=10;omega
 by_cases h32:kn (cY ns ↑i)=32
 ·have om:=am8 mF h32;rw[h32];show(zO ns E ((cX (cY ns ↑i)).getD 0 0) t++[91]++E ((cX (cY ns ↑i)).getD 1 0) t++[93]).length<=_;exact k2 (c:=100) (by omega) (by simp only[au,aw,ay];omega) (by omega)
 by_cases h33:kn (cY ns ↑i)=33
 ·have om:=am3 mF h33;rw[h33];show(zO ns E ((cX (cY ns ↑i)).getD 0 0) t++([46]++txn (cY ns ↑i))).length<=_;exact k1 (c:=5000) (by omega) (by simp only[au,aw,ay];omega) (by omega)
 by_cases ue:kn (cY ns ↑i)=34
 ·have om:=ak8 mF ue
  have hL:=yY (st:=st) E t (cX (cY ns ↑i)).tail λk hk=>hE k (List.mem_of_mem_tail hk)
  have hht:=Yn (st:=st) om;have b:=hE _ (dP (x:=cY ns ↑i) (j:=0) (by omega));rw[ue];show(zO ns E ((cX (cY ns ↑i)).getD 0 0) t++[40]++iO E (cX (cY ns ↑i)).tail t++[41]).length<=_;simp only[au,aw,ay,List.length_tail]at hL⊢;omega
 by_cases Hj:kn (cY ns ↑i)=35
 ·have hL:=yY (st:=st) E t (cX (cY ns ↑i)) hE;rw[Hj];show([123]++iO E (cX (cY ns ↑i)) t++[125]).length<=_;simp at hL⊢;omega
 by_cases zh:kn (cY ns ↑i)=36
 ·obtain⟨om,_⟩:=PI mF zh;have:=Wf iE zQ hi (t:=t) (G:=G) (by omega) (hB _ (dP (x:=cY ns ↑i) (j:=0) (by omega)));rw[zh];show([102,110]++fnT ns G (cY ns ↑i) t).length<=_;simp;omega
 by_cases h37:kn (cY ns ↑i)=37
 ·have om:=al8 mF h37;rw[h37];show([40]++E ((cX (cY ns ↑i)).getD 0 0) t++[41]).length<=_;exact k1 (c:=100) (by omega) (by simp;omega) (by omega)
 by_cases Ma:kn (cY ns ↑i)=40
 ·have om:=an1 mF Ma;rw[Ma];show(E ((cX (cY ns ↑i)).getD 0 0) t).length<=_;exact k1 (c:=100) (by omega) (by omega) (by omega)
 by_cases Ks:kn (cY ns ↑i)=41
 ·have om:=al6 mF Ks;rw[Ks];show([91]++E ((cX (cY ns ↑i)).getD 0 0) t++[93,32,61,32]++E ((cX (cY ns ↑i)).getD 1 0) t).length<=_;exact k2 (c:=100) (by omega) (by simp;omega) (by omega)
 by_cases XS:kn (cY ns ↑i)=42
 ·have om:=am9 mF XS;rw[XS];show([46]++txn (cY ns ↑i)++[32,61,32]++E ((cX (cY ns ↑i)).getD 0 0) t).length<=_;exact k1 (c:=5000) (by omega) (by simp;omega) (by omega)
 rw[aa DC,aa Kp,aa EV,aa Kg,aa Ci,aa AB,aa K5,aa Sa,aa uJ,aa yl,aa zj,aa vL,aa h32,aa h33,aa ue,aa Hj,aa zh,aa h37,aa Ma,aa Ks,aa XS];exact aU _
end
end Go.Abs.D
end

section
namespace Go.Abs.D
def Vu (h: -9223372036854775808<=n/\n<=9223372036854775807):(EG n).length<=100:=by
 unfold EG
 cases I (0<=n)with
 |true=>have:=Yk n h.1 h.2;grind
 |false=>rw[af,au,Rp];decide
section
variable{ns:List Node}(iE:∀i:Nat,i<ns.length->okN ns i (cY ns (i:Int))=av){st:LI}(zQ:∀i:Nat,i<ns.length->vI st (cX (cY ns (i:Int)))+WB<=uK st (i:Int))
include iE zQ
def Vt (hi:i<ns.length){t:Nat}{E G:Int->Nat->LI}(hE:∀k∈cX (cY ns i),(E k t).length<=uK st k)(hB:∀k∈cX (cY ns i),(fR ns G k t).length<=uK st k)
  (hG:∀k∈cX (cY ns i),(G k t).length<=uK st k) (aE7:(fR ns G i t).length<=uK st i) (hF:∀k∈cX (cY ns i),kn (cY ns k)=36->(fnT ns G (cY ns k) t).length<=uK st k):
  (jH ns E G (cY ns ↑i) ↑i t).length<=uK st ↑i:=by
 have mF:=iE i hi;have hl:=(oK mF).2.1;have ad2:=(Ew mF).2;have ZL:=zQ i hi;unfold WB at ZL
 have k1:∀{s:LI} {c:Nat},1<=(cX (cY ns ↑i)).length->s.length<=c+(E ((cX (cY ns ↑i)).getD 0 0) t).length->c<=100000->s.length<=uK st ↑i:=λ{s c} h1 h2 h3=>by
  have a:=Nh (st:=st) h1;have b:=hE _ (dP (x:=cY ns ↑i) (j:=0) (by omega));omega
 have k2:∀{s:LI} {c:Nat},2<=(cX (cY ns ↑i)).length->s.length<=c+(E ((cX (cY ns ↑i)).getD 0 0) t).length+(fR ns G ((cX (cY ns ↑i)).getD 1 0) t).length->c<=100000->s.length<=uK st ↑i:=λ{s c} h1 h2 h3=>by
  have a:=Nq (st:=st) h1;have b:=hE _ (dP (x:=cY ns ↑i) (j:=0) (by omega));have b':=hB _ (dP (x:=cY ns ↑i) (j:=1) (by omega));omega
 have k0:∀{s:LI},s.length<=100000->s.length<=uK st ↑i:=λ{s} h=>by omega
 have hL:=yY (st:=st) E t (cX (cY ns ↑i)) hE;unfold jH;dsimp only
 by_cases h1:kn (cY ns ↑i)=1
 ·rw[h1];exact aE7
 by_cases h2:kn (cY ns ↑i)=2
 ·rw[h2];show([108,101,116,32]++fu (df (cY ns ↑i))++(bif(cX (cY ns ↑i)).isEmpty then []else [32,61,32]++iO E (cX (cY ns ↑i)) t)).length<=_;cases(cX (cY ns ↑i)).isEmpty<;>simp<;>omega
 by_cases h3:kn (cY ns ↑i)=3
 ·have om:=(sh3 mF h3).1;rw[h3];show([99,111,110,115,116,32]++fu (df (cY ns ↑i))++[32,61,32]++E ((cX (cY ns ↑i)).getD 0 0) t).length<=_;exact k1 (c:=10000) (by omega) (by simp;omega) (by omega)
 by_cases h4:kn (cY ns ↑i)=4
 ·obtain⟨om,_,zh⟩:=sh4 mF h4;have a:=Nh (st:=st) (l:=cX (cY ns ↑i)) (by omega);have b:=hF _ (dP (x:=cY ns ↑i) (j:=0) (by omega)) zh;rw[h4];show([102,110,32]++fu (df (cY ns ↑i))++fnT ns G (cY ns ((cX (cY ns ↑i)).getD 0 0)) t).length<=_;simp only[au,aw,ay];omega
 by_cases h5:kn (cY ns ↑i)=5
 ·have a:=yY (st:=st) E t ((cX (cY ns ↑i)).take (sD (cY ns ↑i)).toNat) λk hk=>hE k (bn1 hk)
  have b:=yY (st:=st) E t ((cX (cY ns ↑i)).drop (sD (cY ns ↑i)).toNat) λk hk=>hE k (bn2 hk)
  have c:=Yj st (cX (cY ns ↑i)) (sD (cY ns ↑i)).toNat;rw[bl]at a;rw[bK]at b;rw[h5];show(iO E ((cX (cY ns ↑i)).take (sD (cY ns ↑i)).toNat) t++[32,61,32]++iO E ((cX (cY ns ↑i)).drop (sD (cY ns ↑i)).toNat) t).length<=_;simp;omega
 by_cases h6:kn (cY ns ↑i)=6
 ·have om:=sh6 mF h6;rw[h6];show(E ((cX (cY ns ↑i)).getD 0 0) t).length<=_;exact k1 (c:=100) (by omega) (by omega) (by omega)
 by_cases zT:kn (cY ns ↑i)=16
 ·have om:=am2 mF zT;rw[zT];show([100,101,102,101,114,32]++E ((cX (cY ns ↑i)).getD 0 0) t).length<=_;exact k1 (c:=100) (by omega) (by simp;omega) (by omega)
 by_cases h7:kn (cY ns ↑i)=7
 ·obtain⟨om,_,_⟩:=sh7 mF h7;rw[h7];show(ifT ns E G (cY ns ↑i) t).length<=_;unfold ifT;dsimp only;have b0:=hE _ (dP (x:=cY ns ↑i) (j:=0) (by omega));have b1:=hB _ (dP (x:=cY ns ↑i) (j:=1) (by omega))
  by_cases h3l:(cX (cY ns ↑i)).length=3
  ·have a:=af9 (st:=st) (l:=cX (cY ns ↑i)) (by omega);have g2:=hG _ (dP (x:=cY ns ↑i) (j:=2) (by omega));have b2:=hB _ (dP (x:=cY ns ↑i) (j:=2) (by omega));rw[ab h3l];cases I (kn (cY ns ((cX (cY ns ↑i)).getD 2 0))=7)<;>simp only[ah,af,au,aw,ay]<;>omega
  ·have a:=Nq (st:=st) (l:=cX (cY ns ↑i)) (by omega);rw[aa h3l];simp only[af,au,aw,ay];omega
 by_cases h8:kn (cY ns ↑i)=8
 ·have om:=sh8 mF h8;rw[h8];show([119,104,105,108,101,32]++E ((cX (cY ns ↑i)).getD 0 0) t++[32]++fR ns G ((cX (cY ns ↑i)).getD 1 0) t).length<=_;exact k2 (c:=100) (by omega) (by simp;omega) (by omega)
 by_cases h9:kn (cY ns ↑i)=9
 ·have om:=sh9 mF h9
  have a:=yY (st:=st) E t (cX (cY ns ↑i)).dropLast λk hk=>hE k (List.dropLast_subset _ hk)
  have c:=Yv (st:=st) (l:=cX (cY ns ↑i)) (by omega);have b:=hB _ (dP (x:=cY ns ↑i) (j:=(cX (cY ns ↑i)).length - 1) (by omega));rw[List.length_dropLast]at a;rw[h9];show([102,111,114,32]++fu (df (cY ns ↑i))++[32,61,32]++iO E (cX (cY ns ↑i)).dropLast t++[32]++fR ns G ((cX (cY ns ↑i)).getD ((cX (cY ns ↑i)).length - 1) 0) t).length<=_;simp only[au,aw,ay];omega
 by_cases xo:kn (cY ns ↑i)=10
 ·have om:=an2 mF xo;rw[xo];show([102,111,114,32]++fu (df (cY ns ↑i))++[32,105,110,32]++E ((cX (cY ns ↑i)).getD 0 0) t++[32]++fR ns G ((cX (cY ns ↑i)).getD 1 0) t).length<=_;exact k2 (c:=10000) (by omega) (by simp;omega) (by omega)
 by_cases vR:kn (cY ns ↑i)=11
 ·rw[vR];exact k0 (s:=[98,114,101,97,107]) (by decide)
 by_cases rP:kn (cY ns ↑i)=12
 ·rw[rP];exact k0 (s:=[110,101,120,116]) (by decide)
 by_cases Ae:kn (cY ns ↑i)=13
 ·rw[Ae];show([114,101,116,117,114,110]++(bif(cX (cY ns ↑i)).isEmpty then []else [32]++iO E (cX (cY ns ↑i)) t)).length<=_;cases(cX (cY ns ↑i)).isEmpty<;>simp<;>omega
 by_cases F7:kn (cY ns ↑i)=14
 ·have om:=am0 mF F7;have a:=Nq (st:=st) (l:=cX (cY ns ↑i)) (by omega);have b:=hB _ (dP (x:=cY ns ↑i) (j:=0) (by omega));have b':=hB _ (dP (x:=cY ns ↑i) (j:=1) (by omega));rw[F7];show([116,114,121,32]++fR ns G ((cX (cY ns ↑i)).getD 0 0) t++([32,99,97,116,99,104,32]++fu (df (cY ns ↑i))++[32])++fR ns G ((cX (cY ns ↑i)).getD 1 0) t).length<=_;simp only[au,aw,ay];omega
 by_cases Lf:kn (cY ns ↑i)=15
 ·have om:=al9 mF Lf;rw[Lf];show([116,104,114,111,119,32]++E ((cX (cY ns ↑i)).getD 0 0) t).length<=_;exact k1 (c:=100) (by omega) (by simp;omega) (by omega)
 rw[aa h1,aa h2,aa h3,aa h4,aa h5,aa h6,aa zT,aa h7,aa h8,aa h9,aa xo,aa vR,aa rP,aa Ae,aa F7,aa Lf];exact aU _
omit zQ in
theorem j1 (i:Nat)(hi:i<ns.length):∀k∈cX (cY ns ↑i),∃j:Nat,k=(j:Int)/\j<i:=λk hk=>by
 obtain⟨h0,h1⟩:=(oK (iE i hi)).2.2 k hk;exact⟨k.toNat,by omega,by omega⟩
def WM (Kj:∀i:Nat,i<ns.length->J0 (cY ns i)):∀m i:Nat,i<ns.length->∀t,t+m<=10000->((prP ns m).1 ↑i t).length<=uK st ↑i/\((prP ns m).2 ↑i t).length<=uK st ↑i
 |0,i,_,t,_=>⟨aU _,aU _⟩
 |m+1,i,hi,t,ht=>by
  have ih:=WM Kj m
  have blk:∀j:Nat,j<ns.length->(fR ns (prP ns m).2 ↑j t).length+900000<=uK st ↑j:=λj hj=>YE iE zQ hj (by omega) λk hk=>by
   obtain⟨j',rfl,Zq⟩:=j1 iE j hj k hk
   grind
  have hB:∀k∈cX (cY ns ↑i),(fR ns (prP ns m).2 k t).length<=uK st k:=λk hk=>by
   obtain⟨j,rfl,hj⟩:=j1 iE i hi k hk
   grind
  have hE:∀k∈cX (cY ns ↑i),((prP ns m).1 k t).length<=uK st k:=λk hk=>by
   obtain⟨j,rfl,hj⟩:=j1 iE i hi k hk
   grind
  have hG:∀k∈cX (cY ns ↑i),((prP ns m).2 k t).length<=uK st k:=λk hk=>by
   obtain⟨j,rfl,hj⟩:=j1 iE i hi k hk
   grind
  refine⟨VW iE zQ hi hE hB (Vu (Kj i hi).1),Vt iE zQ hi hE hB hG (by grind) λk hk zh=> ?_⟩;obtain⟨j,rfl,hj⟩:=j1 iE i hi k hk;obtain⟨om,_⟩:=PI (iE j (by omega)) zh;have m0:=dP (x:=cY ns ↑j) (j:=0) (by omega);obtain⟨b,e,hb⟩:=j1 iE j (by omega) _ m0;have:=Wf iE zQ (i:=j) (by omega) (t:=t) (G:=(prP ns m).2) (by omega) (by grind);omega
end
end Go.Abs.D
end

section
namespace Go.Abs.D
section
variable{ns:List Node}(iE:∀i:Nat,i<ns.length->okN ns i (cY ns (i:Int))=av)
include iE
def Vg (hi:i<ns.length){t:Nat}{E G:Int->Nat->LI}(hE:∀k∈cX (cY ns i),kn (cY ns k)<40->RE ns k t (E k t))(hB:∀k∈cX (cY ns i),RB ns k t (fR ns G k t))
  (aE7:RB ns i t (fR ns G i t)) (hF:∀k∈cX (cY ns i),kn (cY ns k)=36->RF ns k t (fnT ns G (cY ns k) t))
  (hC:kn (cY ns i)=7->RC ns i t (ifR ns E G (cY ns i) t)):PRS ns ↑i t (jH ns E G (cY ns ↑i) ↑i t):=by
 have mF:=iE i hi;have Tw:=(oK mF).2.1;obtain⟨ZH,Xz⟩:=Ew mF;have aL0:=JK ns t (df (cY ns ↑i)) (by omega)
 by_cases h1:(cY ns ↑i).1=1
 ·have hk:kn (cY ns ↑i)=1:=h1;unfold jH;rw[hk];show PRS ns ↑i t (fR ns G ↑i t)
  refine aE7.up λn h acc hb=> ?_
  rw[iA,rm,c8 (mD hi acc t),dn h1,h _ hb];rfl
 by_cases h2:(cY ns ↑i).1=2
 ·have hk:kn (cY ns ↑i)=2:=h2;have hL:=tA ns E t (cX (cY ns ↑i)) (by omega) (λk hm=>hE k hm (Q5 (P:=λk=>kn (cY ns k)<40) (en2 mF hk) k hm));unfold jH;rw[hk];show PRS ns ↑i t ([108,101,116,32]++fu (df (cY ns ↑i))++(bif(cX (cY ns ↑i)).isEmpty then []else [32,61,32]++iO E (cX (cY ns ↑i)) t))
  refine(((ik ns t).and aL0).and hL).up λn ⟨⟨hw,hn⟩,hL⟩ acc hb=> ?_
  by_cases h0:cX (cY ns ↑i)=[]
  ·rw[h0]at hb⊢;have hb:acc.length+([108,101,116,32]++fu (df (cY ns ↑i))++[]).length<=MX:=hb;rw[aQ]at hb;simp only[au,aw,ay]at hb;rw[iA,rm,kD,tX,h0,c8 (mD hi acc t),db h1,dn h2,hw _ _ (by simp;omega),al];dsimp only;rw[hn _ (by simp;omega),al,dz (by rfl)];show _=U ((),wst ns (acc++([108,101,116,32]++fu (df (cY ns ↑i))++[])) t,(),());rw[aQ,aC]
  ·have mU:(cX (cY ns ↑i)).isEmpty=false:=(by simpa using h0);have ZG:(cX (cY ns ↑i)).length≠0:=(by simpa using h0);rw[mU,af]at hb⊢;simp only[au,aw,ay]at hb;rw[iA,rm,kD,tX,c8 (mD hi acc t),db h1,dn h2,hw _ _ (by simp;omega),al];dsimp only;rw[hn _ (by simp;omega),al,dn (by omega)];dsimp only;rw[hw _ _ (by simp;omega),al];dsimp only;rw[hL _ (by simp;omega),al];simp only[aC]
 by_cases h3:(cY ns ↑i).1=3
 ·have hk:kn (cY ns ↑i)=3:=h3;obtain⟨hl,N0⟩:=sh3 mF hk;have ml:=(hE _ (dP (x:=cY ns ↑i) (j:=0) (by omega)) (en3 mF hk 0 (by omega))).zero
  have aN5:(df (cY ns ↑i)).getD 0 []=fu (df (cY ns ↑i)):=by
   match hm:df (cY ns ↑i),N0 with
   |[a],_=>simp[fu]
  unfold jH;rw[hk];show PRS ns ↑i t ([99,111,110,115,116,32]++fu (df (cY ns ↑i))++[32,61,32]++E ((cX (cY ns ↑i)).getD 0 0) t)
  refine((ik ns t).and ml).up λn ⟨hw,ml⟩ acc hb=> ?_
  simp only[au,aw,ay]at hb;rw[iA,rm,kD,tX,aN5,c8 (mD hi acc t),db h1,db h2,dn h3,dn (by omega),c8 (r6 (by omega)),c8 (r6 (by simp;omega)),hw _ _ (by simp;omega),al,dn (by omega)];dsimp only;rw[ml _ (by simp only[au,aw,ay];omega),al];simp only[aC]
 by_cases h4:(cY ns ↑i).1=4
 ·have hk:kn (cY ns ↑i)=4:=h4;obtain⟨hl,N0,zh⟩:=sh4 mF hk;have Zy:=hF _ (dP (x:=(cY ns ↑i)) (j:=0) (by omega)) zh
  have aN5:(df (cY ns ↑i)).getD 0 []=fu (df (cY ns ↑i)):=by
   match hm:df (cY ns ↑i),N0 with
   |[a],_=>simp[fu]
  unfold jH;rw[hk];show PRS ns ↑i t ([102,110,32]++fu (df (cY ns ↑i))++fnT ns G (cY ns ((cX (cY ns ↑i)).getD 0 0)) t)
  refine((ik ns t).and Zy).up λn ⟨hw,Zy⟩ acc hb=> ?_
  simp only[au,aw,ay]at hb;rw[iA,rm,kD,tX,aN5,c8 (mD hi acc t),db h1,db h2,db h3,dn h4,dn (by omega),c8 (r6 (by omega)),hw _ _ (by simp only[au,aw,ay];omega),al,dn (by omega)];dsimp only;rw[Zy _ (by simp only[au,aw,ay];omega),al];simp
 by_cases h5:(cY ns ↑i).1=5
 ·have hk:kn (cY ns ↑i)=5:=h5;obtain⟨n1,n2⟩:=sh5 mF hk;obtain⟨m,hm⟩:∃m:Nat,sD (cY ns ↑i)=(m:Int):=⟨(sD (cY ns ↑i)).toNat,by omega⟩;have ae0:(cY ns ↑i).2.2.2.2.2.1=(m:Int):=hm;have mL:=Q5 (P:=λk=>kn (cY ns k)<40) (en5 mF hk);have av2:=tA ns E t ((cX (cY ns ↑i)).take m) (by simp;omega) (λk h=>hE k (bn1 h) (mL k (bn1 h)));have Zo:=tA ns E t ((cX (cY ns ↑i)).drop m) (by simp;omega) (λk h=>hE k (bn2 h) (mL k (bn2 h)));have N1:sub (cX (cY ns ↑i)) 0 (m:Int)=(cX (cY ns ↑i)).take m:=rfl
  have UR:sub (cX (cY ns ↑i)) ↑m ((cX (cY ns ↑i)).length:Int)=(cX (cY ns ↑i)).drop m:=by
   show((cX (cY ns ↑i)).take (cX (cY ns ↑i)).length).drop m=_;rw[cy]
  have UB:bounds (cX (cY ns ↑i)).length 0 (m:Int)=true:=fO (i:=0) (aU _) (by omega);have CW:bounds (cX (cY ns ↑i)).length ↑m ((cX (cY ns ↑i)).length:Int)=true:=fO (by omega) (aF _);unfold jH;rw[hk,hm];show PRS ns ↑i t (iO E ((cX (cY ns ↑i)).take m) t++[32,61,32]++iO E ((cX (cY ns ↑i)).drop m) t)
  refine(((ik ns t).and av2).and Zo).up λn ⟨⟨hw,av2⟩,Zo⟩ acc hb=> ?_
  simp at hb;rw[iA,rm,kD,ae0,c8 (mD hi acc t),db h1,db h2,db h3,db h4,dn h5,c8 UB,N1,av2 _ (by omega),al];dsimp only;rw[hw _ _ (by simp;omega),al,c8 CW,UR];dsimp only;rw[Zo _ (by simp;omega),al];simp
 by_cases h6:(cY ns ↑i).1=6
 ·have hk:kn (cY ns ↑i)=6:=h6;have hl:=sh6 mF hk;have ml:=(hE _ (dP (x:=(cY ns ↑i)) (j:=0) (by omega)) (en6 mF hk 0 (by omega))).zero;unfold jH;rw[hk];show PRS ns ↑i t (E ((cX (cY ns ↑i)).getD 0 0) t)
  refine ml.up λn ml acc hb=> ?_
  rw[iA,rm,kD,c8 (mD hi acc t),db h1,db h2,db h3,db h4,db h5,dn h6,c8 (by simp;omega),ml _ hb];rfl
 by_cases h7:(cY ns ↑i).1=7
 ·have hk:kn (cY ns ↑i)=7:=h7;have bg6:=hC hk;unfold jH;rw[hk];show PRS ns ↑i t (ifT ns E G (cY ns ↑i) t);rw[Z9]
  refine bg6.up λn h acc hb=> ?_
  rw[iA,rm,c8 (mD hi acc t),db h1,db h2,db h3,db h4,db h5,db h6,dn h7,h _ _ hb];rfl
 by_cases h8:(cY ns ↑i).1=8
 ·have hk:kn (cY ns ↑i)=8:=h8;have hl:=sh8 mF hk;have ml:=(hE _ (dP (x:=(cY ns ↑i)) (j:=0) (by omega)) (en8 mF hk (by omega))).zero;have EZ:=hB _ (dP (x:=(cY ns ↑i)) (j:=1) (by omega));unfold jH;rw[hk];show PRS ns ↑i t ([119,104,105,108,101,32]++E ((cX (cY ns ↑i)).getD 0 0) t++[32]++fR ns G ((cX (cY ns ↑i)).getD 1 0) t)
  refine(((ik ns t).and ml).and EZ).up λn ⟨⟨hw,ml⟩,EZ⟩ acc hb=> ?_
  simp only[au,aw,ay]at hb;rw[iA,rm,kD,c8 (mD hi acc t),db h1,db h2,db h3,db h4,db h5,db h6,db h7,dn h8,hw _ _ (by simp;omega),al,c8 (by simp;omega)];dsimp only;rw[ml _ (by simp only[au,aw,ay];omega),al];dsimp only;rw[hw _ _ (by simp only[au,aw,ay];omega),al,c8 (by simp;omega)];dsimp only;rw[EZ _ (by simp only[au,aw,ay];omega),al];simp
 have hJ:=YC iE hi hE hB h1 h2 h3 h4 h5 h6 h7 h8 (E:=E) (G:=G) (t:=t)
 refine hJ.up λn hJ acc hb=> ?_
 have hJ:=hJ acc hb;rw[iA,rm,c8 (mD hi acc t),db h1,db h2,db h3,db h4,db h5,db h6,db h7,db h8]
 by_cases h9:(cY ns ↑i).1=9
 ·rw[ab h9,bo1]at hJ;rw[ab h9,uT,hJ];rfl
 ·rw[aa h9,bH]at hJ;rw[aa h9,j8,hJ];rfl
def S7 (Kj:∀i:Nat,i<ns.length->J0 (cY ns i)):∀m i:Nat,i<m->i<ns.length->∀t,t+m<=10000->
  (kn (cY ns ↑i)<40->RE ns ↑i t ((prP ns m).1 ↑i t))/\(40<=kn (cY ns ↑i)->kn (cY ns ↑i)<=42->RN ns ↑i t ((prP ns m).1 ↑i t))/\PRS ns ↑i t ((prP ns m).2 ↑i t)/\(kn (cY ns ↑i)=7->∃r,(prP ns m).2 ↑i t=[105,102,32]++r/\RC ns ↑i t r)
 |0,i,h,_,_,_=>absurd h (by omega)
 |m+1,i,ac4,hi,t,ht=>by
  have ih:=S7 Kj m
  have blk:∀j:Nat,j<=m->j<ns.length->RB ns ↑j t (fR ns (prP ns m).2 ↑j t):=λj a73 hj=>by
   have:=(oK (iE j hj)).2.1
   by_cases hm:m=0
   ·grind [cX,cY,j1,aD,LX]
   ·exact LX _ hj t (by omega) (by omega) λk hk=>by
     obtain⟨j',rfl,Zq⟩:=j1 iE j hj k hk
     grind
  have hB:∀k∈cX (cY ns ↑i),RB ns k t (fR ns (prP ns m).2 k t):=λk hk=>by
   obtain⟨j,rfl,hj⟩:=j1 iE i hi k hk
   grind
  have hE:∀k∈cX (cY ns ↑i),kn (cY ns k)<40->RE ns k t ((prP ns m).1 k t):=λk hk=>by
   obtain⟨j,rfl,hj⟩:=j1 iE i hi k hk;exact(ih j (by omega) (by omega) t (by omega)).1
  have hN:kn (cY ns ↑i)=35->∀k∈cX (cY ns ↑i),RN ns k t ((prP ns m).1 k t):=λHj k hk=>by
   have he:=aR1 (iE i hi) Hj k hk;unfold iy at he;simp at he;obtain⟨j,rfl,hj⟩:=j1 iE i hi k hk;exact(ih j (by omega) (by omega) t (by omega)).2.1 he.1 he.2
  have bb2:∀j:Nat,j<=m->j<ns.length->kn (cY ns ↑j)=36->RF ns ↑j t (fnT ns (prP ns m).2 (cY ns ↑j) t):=λj a73 hj zh=>by
   obtain⟨om,_⟩:=PI (iE j hj) zh;have m0:=dP (x:=cY ns ↑j) (j:=0) (by omega);obtain⟨b,e,hb⟩:=j1 iE j hj _ m0;exact MM iE _ hj zh t (by rw[e];exact blk b (by omega) (by omega))
  have hF:∀k∈cX (cY ns ↑i),kn (cY ns k)=36->RF ns k t (fnT ns (prP ns m).2 (cY ns k) t):=λk hk zh=>by
   obtain⟨j,rfl,hj⟩:=j1 iE i hi k hk;exact bb2 j (by omega) (by omega) zh
  have hC:∀k∈cX (cY ns ↑i),kn (cY ns k)=7->∃r,(prP ns m).2 k t=[105,102,32]++r/\RC ns k t r:=λk hk h7=>by
   obtain⟨j,rfl,hj⟩:=j1 iE i hi k hk;exact(ih j (by omega) (by omega) t (by omega)).2.2.2 h7
  have mm:=j1 iE i hi
  have aM8:kn (cY ns ↑i)=7->RC ns ↑i t (ifR ns (prP ns m).1 (prP ns m).2 (cY ns ↑i) t):=λh7=>TC iE hi h7 hE hB hC mm
  refine⟨λMa=>Vi iE hi (Kj i hi) Ma hE hN (λzh=>bb2 i (by omega) hi zh) mm,λMa XS=>VJ iE hi (by omega) hE,Vg iE hi hE hB (blk i (by omega) hi) hF aM8,λh7=>⟨_, ?_,aM8 h7⟩⟩;simp_all[jH,prP,cY,Z9]
end
end Go.Abs.D
end

section
namespace Go.Abs.D
def ag9 {ns:List Node}(c:(pn ns).1=0):∃st:LI,(∀i:Nat,i<ns.length->vI st (cX (cY ns ↑i))+WB<=uK st ↑i)/\∀i:Nat,i<ns.length->uK st i<=WB*3000:=by
 obtain⟨_,h0,h3,hk⟩:=yX c;obtain⟨st,qc⟩:=V6 c;refine⟨st,λi hi=> ?_,λi hi=> ?_⟩
 ·have Ch:eO ns i=cX (cY ns ↑i):=by
   rw[vM hi];show cX ns[i]=cX (at_ (τ:=cZ) ns ↑i);rw[vH _ _ hi]
  have hle:=W6 hk qc (i+1) i (by omega) hi
  have:=Dh (st:=st) (kids:=eO ns i) (L:=K0 st) (λj hj=>by
   obtain⟨k,Ch,mL⟩:=Rf hk i hi j hj;rw[Ch];have:=W6 hk qc (k+1) k (by omega) (by omega);unfold K0;simp only[bm]
   omega) (eO ns i).length i (get st i) (aF _) (qc i hi)
  rw[cy,Ch]at this
  have key:∀l:LI,vI st l=WB*(l.map (K0 st)).sum:=λl=>by
   induction l with
   |nil=>rfl
   |cons a l ih=>
    rw[vN,ih,cw,List.sum_cons,Nat.mul_add];rfl
  rw[key];unfold uK
  have h2:((cX (cY ns ↑i)).map (K0 st)).sum+1<=K0 st ↑i:=by
   unfold K0 at this⊢;simp only[bm];omega
  calc WB*((cX (cY ns ↑i)).map (K0 st)).sum+WB=WB*(((cX (cY ns ↑i)).map (K0 st)).sum+1):=by rw[Nat.mul_add,bs8]
   _<=_:=Nat.mul_le_mul_left _ h2
 ·have:=ZZ hk qc (i+1) i (by omega) hi;unfold uK;refine Nat.mul_le_mul_left _ ?_;unfold K0;simp only[bm];omega
def rl6 (ns) (G:Int->Nat->LI):∀r pre,(pre++r).length<=100000->(∀k∈r,PRS ns k 0 (G k 0))->Evt λn=>∀acc:LI,acc.length+(r.flatMap λk=>G k 0++[10]).length<=MX->
  pJ (S.tab n) (wst ns acc 0) (pre++r) ((pre++r).length) pre.length=U (an (wst ns (acc++r.flatMap λk=>G k 0++[10]) 0,()))
 |[],pre,hl,_=>dF.up λn _ acc _=>by
  rw[yA,dz (by simp)];simp
 |m::r,pre,hl,h=>by
  have hlen:(pre++m::r).length=pre.length+(r.length+1):=(by simp);have ih:=rl6 ns G r (pre++[m]) (by simpa using hl) (λk hk=>h k (aB _ hk))
  refine((ih.and (ik ns 0)).and (h m (aD ..))).up λn ⟨⟨ih,hw⟩,hE⟩ acc hb=> ?_
  rw[bE]at hb⊢;simp only[au,aw,ay]at hb;have hg:(pre++m::r).getD (pre.length:Int).toNat 0=m:=oH pre _ _ 0;rw[yA,dn (by omega),c8 (dm (by omega)),hg,hE acc (by omega),al];dsimp only;rw[hw _ _ (by simp;omega),al,eT (by omega)];dsimp only;have e1:(pre++[m])++r=pre++m::r:=(by simp);have e2:(pre++[m]).length=pre.length+1:=(by simp);rw[e1,e2]at ih;rw[ih _ (by simp only[au,aw,ay];omega)];simp only[aC]
section
variable{ns:List Node}(hN:∀x∈ns,NodeOk x)(hR:∀x∈ns, -9223372036854775808<=sD x/\sD x<=9223372036854775807)
def MT (c:(pn ns).1=0):∀i:Nat,i<ns.length->okN ns i (cY ns ↑i)=true:=λi hi=>by
 have:cY ns i=ns[i]:=vH _ _ hi;rw[this];exact TU c i hi
include hN hR in
theorem MN:∀i:Nat,i<ns.length->J0 (cY ns ↑i):=λi hi=>by
 have:cY ns (i:Int)=ns[i]:=vH _ _ hi;rw[this];exact⟨hR _ (bF hi),(hN _ (bF hi)).text⟩
include hN hR in
theorem Lu (c:(pn ns).1=0):(rj ns).length<=MX:=by
 obtain⟨_,h0,h3,hk⟩:=yX c;obtain⟨st,zQ,ap2⟩:=ag9 c;have iE:=MT c;have xk:ns.length - 1<ns.length:=(by omega);have hl:=(oK (iE _ xk)).2.1
 have:=Nl (st:=st) (λk=>(prP ns ns.length).2 k 0++[10]) 1 (cX (cY ns ((ns.length - 1:Nat):Int))) λk hm=>by
  obtain⟨j,rfl,hj⟩:=j1 iE _ xk k hm;have:=(WM iE zQ (MN hN hR) ns.length j (by omega) 0 (by omega)).2;rw[au];show _+1<=_;omega
 have h1:=zQ _ xk;have h2:=ap2 _ xk;unfold rj;unfold WB at h2;unfold MX;omega
include hN hR in
theorem KK:Evt λn=>Dq (S.tab n) (ns,())=U (FK ns,dO):=by
 have hs:=A4 hN;unfold FK
 by_cases c:(pn ns).1=0
 ·obtain⟨et,h0,h3,hk⟩:=yX c;have iE:=MT c;have xk:ns.length - 1<ns.length:=(by omega);have hl:=(oK (iE _ xk)).2.1;have hlen:=Lu hN hR c
  have h6:=rl6 ns (prP ns ns.length).2 (cX (cY ns ((ns.length - 1:Nat):Int))) [] (by simp only[cG];omega) λk hm=>by
   obtain⟨j,rfl,hj⟩:=j1 iE _ xk k hm;exact(S7 iE (MN hN hR) ns.length j (by omega) (by omega) 0 (by omega)).2.2.1
  rw[ab c]
  refine(hs.and h6).up λn ⟨hs,h6⟩=> ?_
  have ZB:ar.wrap ((ns.length:Int) - 1)=((ns.length - 1:Nat):Int):=by rw[wrap64 _ (by omega) (by omega)];omega
  have h6:pJ (S.tab n) (wst ns [] 0) (cX (cY ns ((ns.length - 1:Nat):Int))) ((cX (cY ns ((ns.length - 1:Nat):Int))).length:Int) 0=U (an (wst ns (rj ns) 0,())):=h6 [] (by rw[ay,bJ];exact hlen);rw[Cz,hs,al,dz (by rw[et];rfl)];dsimp only;rw[ZB,c8 (dm xk)];show(pJ (S.tab n) (wst ns [] 0) (cX (cY ns ((ns.length - 1:Nat):Int))) ((cX (cY ns ((ns.length - 1:Nat):Int))).length:Int) 0).bind _=_;rw[h6,al,ah];show brk (I (65536<((rj ns).length:Int))) _ _=_
  by_cases hc:65536<(rj ns).length
  ·rw[dn (by omega),ab hc];rfl
  ·rw[db (by omega),aa hc];rfl
 ·rw[aa c]
  refine hs.up λn hs=> ?_
  rw[Cz,hs,al,c8 (by rw[aa c];rfl)];rfl
end
end Go.Abs.D
end

section
namespace Go.Abs.D
abbrev PT1:Type:=(List Node×Unit)×LI×Unit
def pst (ns:List Node)(acc:LI):PT1:=((ns,()),acc,())
def DY:∀xs:List LI,Lx.Bt xs [44,32]=fu xs
 |[]=>rfl
 |[x]=>by simp_all[fu,Lx.Bt]
 |x::y::r=>by
  simp_all[DY,Lx.Bt,fu]
theorem LA:∀n:Nat,Lx.RD [9] n=rH n
 |0=>rfl
 |n+1=>by
  simp_all[Lx.RD,rH,LA,cD]
def Pa (xs) (h1:xs.length<=MX)(h2:(fu xs).length<=MX):Lx.Bz (xs,[44,32],())=U (fu xs,(),(),()):=by
 simp_all[Lx.Bz,DY,r6]
def S2 (n:Nat)(h:n<=100000):Lx.xP ([9],n,())=U (rH n,(),(),()):=by
 unfold Lx.xP
 grind [ab,bm,LA,fU,lim]
def px (ns):Evt λn=>∀acc s:LI,acc.length+s.length<=MX->dh (S.tab n) (pst ns acc) s=U ((),pst ns (acc++s),(),()):=dF.up λn _ acc s h=>by
 have e:Bld.mH (acc,s,())=U (((s.length:Int),av,()),acc++s,(),()):=by
  simp_all[Bld.mH,r6]
 rw[DI];show(Bld.mH (acc,s,())).bind _=_;rw[e];rfl
def ah4 (T):((cN 18).all λn=>I (oZ (S.step (S.step (S.step T))) (61+n)=U (bpw (1+n),cV)))=true:=by kernel_rfl
def Vq:Evt λn=>∀op:Int,1<=op->op<=18->oZ (S.tab n) (60+op)=U (bpw op,cV):=by
 have h:Evt λn=>∀op:Int,1<=op->op<=18->oZ (S.tab (n+3)) (60+op)=U (bpw op,cV):=Evt.of λn op h1 h2=>by
  have:=of_decide_eq_true (aK.1 (ah4 (S.tab n)) (op.toNat - 1) (cL.2 (by omega)))
  grind
 obtain⟨N,h⟩:=h
 exact⟨N+3,λn hn=>by
  have e:n - 3+3=n:=(by omega);rw[<-e]
  grind⟩
def ipw (x:Node):Int:=bif(kn x=29)then 1 else bif(kn x=28)then 2 else bif(kn x=31)then bpw (opn x)else 99
def PE (ns:List Node)(k:Int)(t:Nat)(s:LI):Prop:=Evt λn=>∀acc:LI,acc.length+s.length<=MX->ey (S.tab n) (pst ns acc) k t=U ((),pst ns (acc++s),(),(),())
def PS (ns:List Node)(k:Int)(t:Nat)(s:LI):Prop:=Evt λn=>∀acc:LI,acc.length+s.length<=MX->mg (S.tab n) (pst ns acc) k t=U ((),pst ns (acc++s),(),(),())
def PB (ns:List Node)(k:Int)(t:Nat)(s:LI):Prop:=Evt λn=>∀acc:LI,acc.length+s.length<=MX->fy (S.tab n) (pst ns acc) k t=U ((),pst ns (acc++s),(),(),())
section
variable{ns:List Node}(iE:∀i:Nat,i<ns.length->okN ns i (cY ns (i:Int))=av)
include iE
def M9:Evt λn=>∀acc k,k<ns.length->lz (S.tab n) (pst ns acc) k=U (ipw (cY ns ↑k),pst ns acc,(),()):=Vq.up λn hp acc k hk=>by
 rw[Al];show brk (0<=(k:Int)&&k<(ns.length:Int)) (brk (kn (cY ns ↑k)=29) _ (brk (kn (cY ns ↑k)=28) _ (brk (kn (cY ns ↑k)=31) ((oZ (S.tab n) (ar.wrap (60+opn (cY ns ↑k)))).bind _) _))) _=_;rw[c8 (dm hk)];unfold ipw
 by_cases yl:kn (cY ns ↑k)=29
 ·simp_all[c8,ab]
 rw[db yl,aa yl]
 by_cases uJ:kn (cY ns ↑k)=28
 ·simp_all[c8,ab]
 rw[db uJ,aa uJ]
 by_cases zj:kn (cY ns ↑k)=31
 ·obtain⟨_,h1,h2⟩:=Hb (iE k hk) zj
  grind [c8,ab,wrap64]
 simp_all[dz,aa]
omit iE in
theorem yL {k:Int}{t:Nat}{s:LI}(h:PE ns k t s):Evt λn=>∀(acc:LI)(yes:Bool),acc.length+(paren yes s).length<=MX->dM (S.tab n) (pst ns acc) k ↑t yes=U ((),pst ns (acc++paren yes s),(),(),(),()):=
 ((px ns).and h).up λn ⟨hw,hE⟩ acc yes hb=>by
  rw[zk]
  cases yes with
  |true=>
   have hb:acc.length+([40]++s++[41]:LI).length<=MX:=hb;simp at hb;rw[c8 rfl,hw _ _ (by simp;omega),al];rw[hE _ (by simp;omega),al,c8 rfl];rw[hw _ _ (by simp;omega),al];show U ((),pst ns (((acc++[40])++s)++[41]),(),(),(),())=U ((),pst ns (acc++([40]++s++[41])),(),(),(),());simp
  |false=>
   rw[dz rfl,hE _ hb,al,dz rfl];rfl
omit iE in
theorem Je {k:Nat}(hk:k<ns.length){t:Nat}{s:LI}(h:PE ns (k:Int) t s):Evt λn=>∀(acc:LI),acc.length+(paren (!Ab (kn (cY ns ↑k))) s).length<=MX->mV (S.tab n) (pst ns acc) ↑k (t:Int)=U ((),pst ns (acc++paren (!Ab (kn (cY ns ↑k))) s),(),(),()):=by
 have j7:Evt λn=>∀(acc:LI) (b:Bool),acc.length+(paren (!b) s).length<=MX->eP (S.tab n) (pst ns acc) ↑k ↑t b=U (an (pst ns (acc++paren (!b) s),())):=(yL h).up λn hw acc b hb=>by
  rw[xV]
  cases b with
  |true=>rw[c8 rfl,hw _ aq hb];rfl
  |false=>rw[dz rfl,hw _ av hb];rfl
 refine j7.up λn hj acc hb=> ?_
 have done:∀b:Bool,Ab (kn (cY ns ↑k))=b->((eP (S.tab n) (pst ns acc) ↑k ↑t b).bind (dH (λy7=>U ((),y7.1,(),(),()))))=U ((),pst ns (acc++paren (!Ab (kn (cY ns ↑k))) s),(),(),()):=λb e=>by
  rw[e]at hb⊢;rw[hj _ _ hb];rfl
 rw[Am];show brk (I ((0:Int)<=(k:Int))&&I ((k:Int)<(ns.length:Int))) (brk (I (kn (cY ns ↑k)=26)) ((eP (S.tab n) (pst ns acc) ↑k ↑t (I (kn (cY ns ↑k)=26))).bind _) (brk (I (kn (cY ns ↑k)=32)) ((eP (S.tab n) (pst ns acc) ↑k ↑t (I (kn (cY ns ↑k)=32))).bind _) (brk (I (kn (cY ns ↑k)=33)) ((eP (S.tab n) (pst ns acc) ↑k ↑t (I (kn (cY ns ↑k)=33))).bind _) (brk (I (kn (cY ns ↑k)=34)) ((eP (S.tab n) (pst ns acc) ↑k ↑t (I (kn (cY ns ↑k)=34))).bind _) ((eP (S.tab n) (pst ns acc) ↑k ↑t (I (kn (cY ns ↑k)=37))).bind _))))) _=_;rw[c8 (dm hk)]
 by_cases K5:kn (cY ns ↑k)=26
 ·rw[dn K5,ab K5];exact done av (by rw[K5];rfl)
 rw[db K5]
 by_cases h32:kn (cY ns ↑k)=32
 ·rw[dn h32,ab h32];exact done av (by rw[h32];rfl)
 rw[db h32]
 by_cases h33:kn (cY ns ↑k)=33
 ·rw[dn h33,ab h33];exact done av (by rw[h33];rfl)
 rw[db h33]
 by_cases ue:kn (cY ns ↑k)=34
 ·rw[dn ue,ab ue];exact done av (by rw[ue];rfl)
 rw[db ue];exact done _ (by unfold Ab;rw[aa K5,aa h32,aa h33,aa ue];rfl)
omit iE in
theorem SL (E:Int->Nat->LI)(t:Nat):∀(r pre:LI),pre≠[]->(pre++r).length<=100000->(∀k∈r,PE ns k t (E k t))->Evt λn=>∀acc:LI,acc.length+(r.flatMap λk=>[44,32]++E k t).length<=MX->
  il (S.tab n) (pst ns acc) ↑t (pre++r) ((pre++r).length:Int) (pre.length:Int)=U (an (pst ns (acc++r.flatMap λk=>[44,32]++E k t),()))
 |[],pre,hp,hl,_=>dF.up λn _ acc _=>by
  simp_all[l8,dz]
 |m::r,pre,hp,hl,h=>by
  have hlen:(pre++m::r).length=pre.length+(r.length+1):=(by simp);have sF:0<pre.length:=b9.2 hp;have ih:=SL E t r (pre++[m]) (by simp) (by simpa using hl) (λk hk=>h k (aB _ hk))
  refine((ih.and (px ns)).and (h m (aD ..))).up λn ⟨⟨ih,hw⟩,hE⟩ acc hb=> ?_
  rw[bE]at hb⊢;simp only[au,aw,ay]at hb;have hg:(pre++m::r).getD (pre.length:Int).toNat 0=m:=oH pre _ _ 0;rw[l8,c8 (by simp;omega),c8 (dm (by omega)),c8 (by simp;omega),hw _ _ (by simp;omega),al,hg];rw[hE _ (by simp;omega),al,eT (by omega)];have e1:(pre++[m])++r=pre++m::r:=(by simp);have e2:(pre++[m]).length=pre.length+1:=(by simp);rw[e1,e2]at ih;rw[ih _ (by simp only[au,aw,ay];omega)];simp
omit iE in
theorem zE (E:Int->Nat->LI)(t:Nat)(kids:LI)(hl:kids.length<=100000)(h:∀k∈kids,PE ns k t (E k t)):Evt λn=>∀acc:LI,acc.length+(iO E kids t).length<=MX->
  iN (S.tab n) (pst ns acc) kids (t:Int)=U ((),pst ns (acc++iO E kids t),(),(),()):=by
 have l0:Evt λn=>∀acc:LI,acc.length+(iO E kids t).length<=MX->il (S.tab n) (pst ns acc) ↑t kids (kids.length:Int) 0=U (an (pst ns (acc++iO E kids t),())):=by
  cases kids with
  |nil=>
   refine dF.up λn _ acc _=> ?_
   simp_all[l8,dz,iO,fu]
  |cons m r=>
   have hlen:(m::r).length=r.length+1:=(by simp)
   refine((SL E t r [m] (by simp) (by simpa using hl) (λk hk=>h k (aB _ hk))).and (h m (aD ..))).up λn ⟨h1,hE⟩ acc hb=> ?_
   have e:iO E (m::r) t=E m t++r.flatMap λk=>[44,32]++E k t:=by
    show E m t++(r.map λk=>E k t).flatMap (λt=>[44,32]++t)=_;rw[List.flatMap_map]
   rw[e]at hb⊢;rw[au]at hb;rw[l8,dn (by omega),c8 (by simp only[aA,ad];omega),dz (by decide)];show(ey (S.tab n) (pst ns acc) m ↑t).bind _=_;rw[hE _ (by omega),al];have h1:∀acc:LI,acc.length+(r.flatMap λk=>[44,32]++E k t).length<=MX->il (S.tab n) (pst ns acc) ↑t (m::r) ((m::r).length:Int) 1=_:=h1;show il (S.tab n) (pst ns (acc++E m t)) ↑t (m::r) ((m::r).length:Int) 1=_;rw[h1 _ (by rw[au];omega),aC]
 refine l0.up λn h acc hb=> ?_
 rw[AF,h _ hb];rfl
omit iE in
theorem Ps (G:Int->Nat->LI)(t:Nat)(ht:t<=10000):∀(r pre:LI),(pre++r).length<=100000->(∀k∈r,PS ns k (t+1) (G k (t+1)))->Evt λn=>∀acc:LI,acc.length+(r.flatMap λk=>rH (t+1)++G k (t+1)++[10]).length<=MX->
  jK (S.tab n) (pst ns acc) ↑t (pre++r) ((pre++r).length:Int) (pre.length:Int)=U (an (pst ns (acc++r.flatMap λk=>rH (t+1)++G k (t+1)++[10]),(t:Int),()))
 |[],pre,hl,_=>dF.up λn _ acc _=>by
  simp_all[rA,dz]
 |m::r,pre,hl,h=>by
  have hlen:(pre++m::r).length=pre.length+(r.length+1):=(by simp);have ih:=Ps G t ht r (pre++[m]) (by simpa using hl) (λk hk=>h k (aB _ hk))
  refine((ih.and (px ns)).and (h m (aD ..))).up λn ⟨⟨ih,hw⟩,hE⟩ acc hb=> ?_
  rw[bE]at hb⊢;simp only[au,aw,ay]at hb;have hg:(pre++m::r).getD (pre.length:Int).toNat 0=m:=oH pre _ _ 0;have w1:ar.wrap ((t:Int)+1)=((t+1:Nat):Int):=eT (by omega);rw[rA,c8 (by simp;omega),c8 (dm (by omega)),w1,S2 (t+1) (by omega),al];dsimp only;rw[hw _ _ (by omega),al,hg];rw[hE _ (by simp;omega),al];rw[hw _ _ (by simp;omega),al,eT (by omega)];have e1:(pre++[m])++r=pre++m::r:=(by simp);have e2:(pre++[m]).length=pre.length+1:=(by simp);rw[e1,e2]at ih;rw[ih _ (by simp only[au,aw,ay];omega)];simp
omit iE in
theorem Vs (G:Int->Nat->LI){b:Nat}(hb:b<ns.length)(t:Nat)(ht:t<=10000)(hl:(cX (cY ns (b:Int))).length<=100000)(h:∀k∈cX (cY ns (b:Int)),PS ns k (t+1) (G k (t+1))):PB ns ↑b t (fR ns G ↑b t):=by
 refine((Ps G t ht (cX (cY ns ↑b)) [] (by simp_all) h).and (px ns)).up λn ⟨h5,hw⟩ acc NT=> ?_
 unfold fR Dt at NT⊢;rw[Ap];show brk (I ((0:Int)<=(b:Int))&&I ((b:Int)<(ns.length:Int))) (brk (I (((cX (cY ns ↑b)).length:Int)=0)) _ ((dh (S.tab n) (pst ns acc) ([123,10]:LI)).bind λd24=>(jK (S.tab n) d24.2.1 ↑t (cX (cY ns ↑b)) ((cX (cY ns ↑b)).length:Int) 0).bind _)) _=_;rw[c8 (dm hb)]
 by_cases h0:cX (cY ns ↑b)=[]
 ·simp_all[c8]
 ·have mU:(cX (cY ns ↑b)).isEmpty=false:=(by simpa using h0);have ZG:(cX (cY ns ↑b)).length≠0:=(by simpa using h0);rw[mU,af]at NT⊢;simp only[au,aw,ay,rF]at NT;rw[dz (by simp;omega),hw _ _ (by simp;omega),al];dsimp only;have h5:∀acc:LI,acc.length+((cX (cY ns ↑b)).flatMap λk=>rH (t+1)++G k (t+1)++[10]).length<=MX->jK (S.tab n) (pst ns acc) ↑t (cX (cY ns ↑b)) ((cX (cY ns ↑b)).length:Int) 0=_:=h5;rw[h5 _ (by simp only[au,aw,ay];omega),al];simp only[dH,aH];rw[S2 t (by omega),al,c8 (r6 (by simp[rF];unfold MX;omega))];dsimp only;rw[hw _ _ (by simp only[au,aw,ay,rF];omega),al];simp
def aa9 (G) {i b:Nat}(hi:i<ns.length)(zh:kn (cY ns i)=36)(ap6:(cX (cY ns i)).getD 0 0=b) (t) (hB:PB ns b t (fR ns G b t)):
  Evt λn=>∀acc:LI,acc.length+(fnT ns G (cY ns ↑i) t).length<=MX->pg (S.tab n) (pst ns acc) ↑i t=U ((),pst ns (acc++fnT ns G (cY ns ↑i) t),(),(),()):=by
 obtain⟨Tq,_⟩:=PI (iE i hi) zh;have ad2:=(oK (iE i hi)).1.2.1
 refine(hB.and (px ns)).up λn ⟨hB,hw⟩ acc hb=> ?_
 unfold fnT at hb⊢;rw[ap6]at hb⊢
 have sF:I (0<((cX (cY ns ↑i)).length:Int))=true:=by simp_all
 have fin:∀xs:List LI,xs.length<=1000->acc.length+([40]++fu xs++[41,32]++fR ns G ↑b t).length<=MX->
   ((Lx.Bz (xs,[44,32],())).bind λd27=>
    brk (fits (1+d27.1.length)) (brk (fits (([40]++d27.1).length+2)) ((dh (S.tab n) (pst ns acc) (([40]++d27.1)++[41,32])).bind λd30=>
     brk (0<((cX (cY ns ↑i)).length:Int)) ((fy (S.tab n) d30.2.1 ((cX (cY ns ↑i)).getD 0 0) ↑t).bind λd37=>(U ((),d37.2.1,(),(),()))) az) az) az)=U ((),pst ns (acc++([40]++fu xs++[41,32]++fR ns G ↑b t)),(),(),()):=λxs aH5 hb=>by
  simp at hb;rw[Pa xs (by unfold MX;omega) (by omega),al];dsimp only;rw[c8 (r6 (by omega)),c8 (r6 (by simp;omega)),hw _ _ (by simp;omega),al,c8 sF,ap6];rw[hB _ (by simp;omega),al];simp
 rw[C2];show brk (0<=(i:Int)&&i<(ns.length:Int)) (brk (fits (0+(df (cY ns ↑i)).length)) (brk (opn (cY ns ↑i)=1) (brk (fits ((df (cY ns ↑i)).length+1)) _ _) _) _) _=_;rw[c8 (dm hi),c8 (r6 (by unfold MX;omega))]
 by_cases h1:opn (cY ns ↑i)=1
 ·rw[ab h1]at hb⊢;rw[c8 rfl,c8 (r6 (by unfold MX;omega))];exact fin (df (cY ns ↑i)++[[46,46,46]]) (by simp;omega) hb
 ·rw[aa h1]at hb⊢;rw[dz rfl];rw[af,aQ]at hb⊢;exact fin (df (cY ns ↑i)) (by omega) hb
end
end Go.Abs.D
end

section
namespace Go.Abs.D
def JR (ns:List Node)(acc:LI):Option ((PT1×Unit)⊕Empty):=U (an (pst ns acc,()))
section
variable{ns:List Node}{x:Node}{i:Nat}{t:Nat}
def ai6 (iE:∀i:Nat,i<ns.length->okN ns i (cY ns i)=av) (kids) {k0:Nat}(h0:kids.getD 0 0=(k0:Int))(hk:k0<ns.length)(hl:0<kids.length){s:LI}(hE:PE ns k0 t s):
  Evt λn=>∀acc:LI,acc.length+(paren (pwr (cY ns ↑k0)<11) s).length<=MX->eY (S.tab n) (pst ns acc) ↑t kids=JR ns (acc++paren (pwr (cY ns ↑k0)<11) s):=by
 have he:I (ipw (cY ns ↑k0)<99)=I (pwr (cY ns ↑k0)<11):=by
  unfold ipw pwr
  by_cases yl:kn (cY ns ↑k0)=29
  ·rw[ab yl];rfl
  by_cases uJ:kn (cY ns ↑k0)=28
  ·rw[aa yl,ab uJ];rfl
  by_cases zj:kn (cY ns ↑k0)=31
  ·obtain⟨_,h1,h2⟩:=Hb (iE k0 hk) zj;have:=HH _ h1 h2;rw[aa yl,aa uJ,ab zj];simp only[ah,af];rw[ab (by omega),ab (by omega)]
  rw[aa yl,aa uJ,aa zj];cases I (kn (cY ns ↑k0)=30)<;>rfl
 refine((M9 iE).and (yL hE)).up λn ⟨hp,hw⟩ acc hb=> ?_
 rw[xX,dn (by omega),dn (by omega),h0,hp _ _ hk,al];dsimp only;rw[he,hw _ _ hb];rfl
def Wk (iE:∀i:Nat,i<ns.length->okN ns i (cY ns i)=av)(hx:okN ns i x=av)(hk:kn x=28\/kn x=29\/kn x=31){k0:Nat}(h0:k0<ns.length):
  (ipw (cY ns ↑k0)<ipw x||((kn x=31&&opn x=12)&&ipw (cY ns ↑k0)=ipw x))=I (pwr (cY ns ↑k0)<lft x)/\
  (ipw (cY ns ↑k0)<ipw x||(!(kn x=31&&opn x=12)&&ipw (cY ns ↑k0)=ipw x))=I (pwr (cY ns ↑k0)<rgt x):=by
 have bf4:ipw x=pwr x/\1<=pwr x/\pwr x<=10/\(rgt x=pwr x+bif(kn x=31)&&(opn x=12)then 0 else 1):=by
  unfold ipw pwr rgt
  rcases hk with h|h|h
  ·rw[h];exact⟨rfl,show 1<=2 by decide,show 2<=10 by decide,rfl⟩
  ·rw[h];exact⟨rfl,show 1<=1 by decide,show 1<=10 by decide,rfl⟩
  ·obtain⟨_,h1,h2⟩:=Hb hx h;have hr:=HH _ h1 h2;rw[h];refine⟨rfl, ?_, ?_, ?_⟩
   ·show 1<=bpw (opn x);omega
   ·show bpw (opn x)<=10;omega
   ·show(bif(opn x=12)then 4 else bpw (opn x)+1)=bpw (opn x)+bif(opn x=12)then 0 else 1
    by_cases rP:opn x=12
    ·rw[ab rP,rP];rfl
    ·rw[aa rP];rfl
 have ap6:(ipw (cY ns ↑k0)=pwr (cY ns ↑k0)/\pwr (cY ns ↑k0)<=10)\/(ipw (cY ns ↑k0)=99/\11<=pwr (cY ns ↑k0)):=by
  unfold ipw pwr
  by_cases yl:kn (cY ns ↑k0)=29
  ·rw[ab yl];exact .inl ⟨rfl,show 1<=10 by decide⟩
  by_cases uJ:kn (cY ns ↑k0)=28
  ·rw[aa yl,ab uJ];exact .inl ⟨rfl,show 2<=10 by decide⟩
  by_cases zj:kn (cY ns ↑k0)=31
  ·obtain⟨_,h1,h2⟩:=Hb (iE k0 h0) zj;have:=HH _ h1 h2;rw[aa yl,aa uJ,ab zj];simp only[ah,af];exact .inl ⟨trivial,by omega⟩
  rw[aa yl,aa uJ,aa zj];cases I (kn (cY ns ↑k0)=30)
  ·exact .inr ⟨rfl,show 11<=12 by decide⟩
  ·exact .inr ⟨rfl,show 11<=11 by decide⟩
 obtain⟨e1,e2,e3,e4⟩:=bf4
 have hl:lft x=bif(kn x=31)&&(opn x=12)then pwr x+1 else pwr x:=by
  unfold lft
  cases hj:(kn x=31)&&(opn x=12)with
  |true=>rw[hj]at e4;rw[ab (by rw[e4];simp)]
  |false=>rw[hj]at e4;rw[aa (by rw[e4];simp;omega)];try rfl
 rw[hl,e4,e1];cases(kn x=31)&&(opn x=12)<;>simp only[ah,af,cF,bD,Bool.or_false,bM,bC]<;>constructor<;>rw[Bool.eq_iff_iff]<;>simp only[cO,ad]<;>omega
def Wc (iE:∀i:Nat,i<ns.length->okN ns i (cY ns i)=av)(hx:okN ns i x=av)(hk:kn x=28\/kn x=29\/kn x=31){k0 k1:Nat}(h0:(cX x).getD 0 0=k0)(h1:(cX x).getD 1 0=k1)(X9:k0<ns.length)(Tq:k1<ns.length)(hl:(cX x).length=2)
  {s0 s1 sg:LI} (ml:PE ns k0 t s0) (Hl:PE ns k1 t s1):
  Evt λn=>∀acc:LI,acc.length+(paren (pwr (cY ns ↑k0)<lft x) s0++([32]++sg++[32])++paren (pwr (cY ns ↑k1)<rgt x) s1).length<=MX->
   jJ (S.tab n) (pst ns acc) ↑t (cX x) (ipw x) (kn x=31&&opn x=12) sg=JR ns (acc++(paren (pwr (cY ns ↑k0)<lft x) s0++([32]++sg++[32])++paren (pwr (cY ns ↑k1)<rgt x) s1)):=by
 obtain⟨a0,_⟩:=Wk iE hx hk X9;obtain⟨_,b1⟩:=Wk iE hx hk Tq
 refine(((M9 iE).and (px ns)).and ((yL ml).and (yL Hl))).up λn ⟨⟨hp,hw⟩,w0,w1⟩ acc hb=> ?_
 have ac0:I (0<((cX x).length:Int))=true:=by simp only[ad];omega
 have ac5:I (1<((cX x).length:Int))=true:=by simp only[ad];omega
 simp only[au,aw,ay]at hb
 have right:∀A:LI,A.length+(paren (pwr (cY ns ↑k1)<rgt x) s1).length<=MX->(brk (ipw (cY ns ↑k1)<ipw x) ((dM (S.tab n) (pst ns A) ↑k1 ↑t av).bind λd140=>U (an (d140.2.1,())))
   (brk (!(kn x=31&&opn x=12)) ((dM (S.tab n) (pst ns A) ↑k1 ↑t (ipw (cY ns ↑k1)=ipw x)).bind λd140=>U (an (d140.2.1,()))) ((dM (S.tab n) (pst ns A) ↑k1 ↑t aq).bind λd140=>U (an (d140.2.1,())))))=JR ns (A++paren (pwr (cY ns ↑k1)<rgt x) s1):=λA hA=>by
  rw[<-b1]at hA⊢
  cases c1:I (ipw (cY ns ↑k1)<ipw x)with
  |true=>
   rw[c1,bo1]at hA;rw[uT,w1 _ av hA,bo1];rfl
  |false=>
   rw[c1,bH]at hA;rw[j8,bH]
   cases c2:(kn x=31)&&(opn x=12)with
   |true=>
    rw[c2,bM,cF]at hA;rw[bM,j8,w1 _ aq hA,cF];rfl
   |false=>
    rw[c2,bC,bD]at hA;rw[bC,uT,w1 _ _ hA,bD];rfl
 have aL6:∀A:LI,A.length+(1+sg.length+1)+(paren (pwr (cY ns ↑k1)<rgt x) s1).length<=MX->(brk (fits (1+sg.length)) (brk (fits (([32]++sg).length+1)) ((dh (S.tab n) (pst ns A) (([32]++sg)++[32])).bind λd122=>
   brk (1<((cX x).length:Int)) (brk (ipw (cY ns ↑k1)<ipw x) ((dM (S.tab n) d122.2.1 ↑k1 ↑t av).bind λd140=>U (an (d140.2.1,())))
   (brk (!(kn x=31&&opn x=12)) ((dM (S.tab n) d122.2.1 ↑k1 ↑t (ipw (cY ns ↑k1)=ipw x)).bind λd140=>U (an (d140.2.1,()))) ((dM (S.tab n) d122.2.1 ↑k1 ↑t aq).bind λd140=>U (an (d140.2.1,()))))) az) az) az)=JR ns (A++([32]++sg++[32])++paren (pwr (cY ns ↑k1)<rgt x) s1):=λA hA=>by
  rw[c8 (r6 (by omega)),c8 (r6 (by simp;omega)),hw _ _ (by simp;omega),al,c8 ac5];dsimp only;exact right _ (by simp;omega)
 rw[xS,c8 ac0,h0,hp _ _ X9,al,c8 ac5,h1];dsimp only;rw[hp _ _ Tq,al,c8 ac0];dsimp only;rw[<-a0]at hb⊢
 cases c1:I (ipw (cY ns ↑k0)<ipw x)with
 |true=>
  rw[c1,bo1]at hb;rw[uT,w0 _ av (by omega),al,bo1];dsimp only;refine(aL6 _ (by simp;omega)).trans ?_;simp only[aC]
 |false=>
  rw[c1,bH]at hb;rw[j8,bH]
  cases c2:(kn x=31)&&(opn x=12)with
  |true=>
   rw[c2,bD]at hb;rw[c2]at aL6;rw[uT,w0 _ _ (by omega),al,bD];dsimp only;refine(aL6 _ (by simp;omega)).trans ?_;simp only[aC]
  |false=>
   rw[c2,cF]at hb;rw[c2]at aL6;rw[j8,w0 _ aq (by omega),al,cF];dsimp only;refine(aL6 _ (by simp;omega)).trans ?_;simp only[aC]
end
end Go.Abs.D
end

section
namespace Go.Abs.D
def Uo (x:di.den):LI:=
 bif(x.1=1)then(bif jS 1 x.2.2.2.2.2.1 then x.2.2.2.2.2.1 else [])else
 bif(x.1=3)then(bif jS 3 x.2.2.2.2.2.1 then x.2.2.2.2.2.1 else [])else
 bif(x.1=2)then EG x.2.2.2.2.1 else
 bif(x.1=4)then sW x.2.2.2.2.2.1 else
 bif(x.1=7)then [10]else fxI x.1
structure TokIn (x:di.den):Prop where
 kind: -9223372036854775808<=x.1/\x.1<=9223372036854775807
 num: -9223372036854775808<=x.2.2.2.2.1/\x.2.2.2.2.1<=9223372036854775807
 text:∀c∈(x.2.2.2.2.2.1:LI),isByte c
def aA3 (n) (h1: -9223372036854775808<=n)(h2:n<0):Lx.qx ([],aJ.wrap n,16,aq,aq,())=U (([],hx 16 (aJ.wrap n).toNat,()),(),(),(),(),(),()):=by
 have hu:aJ.wrap n=n % 18446744073709551616:=rfl
 have a:9223372036854775808<=aJ.wrap n:=by rw[hu];omega
 have b:aJ.wrap n<=18446744073709551615:=by rw[hu];omega
 have e15:16^15=1152921504606846976:=(by decide);have bl6:16^16=18446744073709551616:=(by decide);unfold Lx.qx;simp only[decide_true,ab a,ab b,bP,bC,List.isEmpty_nil,ah];rw[I4 15 _ [] (.inr (by omega)) (by omega),aQ]
def aA1 (n) (h1: -9223372036854775808<=n)(h2:n<0):Evt λN=>oV (S.tab N) (aJ.wrap n) 16=U (hx 16 (aJ.wrap n).toNat,cW):=by
 have hi:Evt λN=>nE (S.tab N) (aJ.wrap n) 16=U (hx 16 (aJ.wrap n).toNat,cW):=dF.up λN _=>by
  show nE (S.step (S.tab N)) _ _=_;rw[yo,dz (by rfl),aA3 n h1 h2];rfl
 exact hi.up λN h=>by
  show oV (S.step (S.tab N)) _ _=_;rw[Ag,h];rfl
def VL (h:TokIn x)(hl:bo0 (α:=Int) x.2.2.2.2.2.1<=2097152):Evt λn=>sN (S.tab n) x=U (Uo x,ia):=by
 have hq:=I6 x.2.2.2.2.2.1 h.text;have hg:=Bj (s:=x.2.2.2.2.2.1) h.text;have hf:=Ef (s:=x.2.2.2.2.2.1) h.text;have as1:=Lt x.1
 by_cases h1:x.1=1
 ·refine hg.up λn hg=> ?_
  rw[nM,dn h1,hg,al];unfold Uo;rw[ab h1];cases jS 1 x.2.2.2.2.2.1
  ·rw[dz (by rfl)];rfl
  ·rw[c8 (by rfl)];rfl
 by_cases h3:x.1=3
 ·refine hf.up λn hf=> ?_
  rw[nM,db h1,dn h3,hf,al];unfold Uo;rw[aa h1,ab h3];cases jS 3 x.2.2.2.2.2.1
  ·rw[dz (by rfl)];rfl
  ·rw[c8 (by rfl)];rfl
 by_cases h2:x.1=2
 ·by_cases hn:0<=x.2.2.2.2.1
  ·refine dF.up λn _=> ?_
   rw[nM,db h1,db h3,dn h2,dn hn,KG _ h.num.1 h.num.2,al];unfold Uo EG;rw[aa h1,aa h3,ab h2,ab hn];rfl
  ·refine(aA1 x.2.2.2.2.1 h.num.1 (Int.not_le.1 hn)).up λn hu=> ?_
   rw[nM,db h1,db h3,dn h2,db hn,hu,al];dsimp only;rw[c8 (fU (by rw[Rp];decide))];unfold Uo EG;rw[aa h1,aa h3,ab h2,aa hn];rfl
 refine(hq.and as1).up λn ⟨hq,as1⟩=> ?_
 rw[nM,db h1,db h3,db h2,hq,as1];simp only[al];unfold Uo;rw[aa h1,aa h3,aa h2]
 by_cases h4:x.1=4
 ·rw[dn h4,ab h4];rfl
 rw[db h4,aa h4]
 by_cases h7:x.1=7
 ·rw[dn h7,ab h7];rfl
 ·rw[db h7,aa h7];rfl
end Go.Abs.D
end

section
namespace Go.Abs.D
def sy {i:Nat}(hi:i<ns.length) (acc):(0<=(i:Int)&&i<((pst ns acc).1.1.length:Int))=true:=dm hi
section
variable{ns:List Node}(iE:∀i:Nat,i<ns.length->okN ns i (cY ns (i:Int))=av)
include iE
def Zb (ns:List Node)(E:Int->Nat->LI)(x:Node)(t:Nat):LI:=
 paren (pwr (cY ns ((cX x).getD 0 0))<lft x) (E ((cX x).getD 0 0) t)++([32]++rZ x++[32])++paren (pwr (cY ns ((cX x).getD 1 0))<rgt x) (E ((cX x).getD 1 0) t)
def YW (hi:i<ns.length){t:Nat}{E:Int->Nat->LI}(hk:kn (cY ns i)=28\/kn (cY ns i)=29\/kn (cY ns i)=31)(hE:∀k∈cX (cY ns i),PE ns k t (E k t))
  (mm:∀k∈cX (cY ns i),∃j:Nat,k=j/\j<i):
  Evt λn=>∀acc:LI,acc.length+(Zb ns E (cY ns ↑i) t).length<=MX->jL (S.tab n) (pst ns acc) ↑i ↑t (cY ns ↑i) (cX (cY ns ↑i)) (kn (cY ns ↑i)) av=JR ns (acc++Zb ns E (cY ns ↑i) t):=by
 have hx:=iE i hi
 have hl:(cX (cY ns ↑i)).length=2:=by
  grind [al4,hx,an3,Hb]
 have m0:=dP (x:=cY ns ↑i) (j:=0) (by omega);have m1:=dP (x:=cY ns ↑i) (j:=1) (by omega);obtain⟨k0,e0,b0⟩:=mm _ m0;obtain⟨k1,e1,b1⟩:=mm _ m1;have ml:=hE _ m0;have Hl:=hE _ m1;unfold Zb;rw[e0]at ml⊢;rw[e1]at Hl⊢;have Zx:=M9 iE
 by_cases zj:(cY ns ↑i).1=31
 ·have UD:kn (cY ns ↑i)=31:=zj;obtain⟨_,o1,o2⟩:=Hb hx UD;have aK7:ar.wrap (60+(cY ns ↑i).2.2.2.2.1)=60+(cY ns ↑i).2.2.2.2.1:=wrap64 (60+opn (cY ns ↑i)) (by omega) (by omega)
  have ae8:rZ (cY ns ↑i)=fxI (60+(cY ns ↑i).2.2.2.2.1):=by unfold rZ;rw[UD];rfl
  have j:=Wc (t:=t) (sg:=rZ (cY ns ↑i)) iE hx hk e0 e1 (by omega) (by omega) hl ml Hl
  refine((Zx.and j).and (Lt (60+(cY ns ↑i).2.2.2.2.1))).up λn ⟨⟨hp,hj⟩,hf⟩ acc hb=> ?_
  have hj:=hj acc hb
  have aX4:(kn (cY ns ↑i)=31&&opn (cY ns ↑i)=12)=I ((cY ns ↑i).2.2.2.2.1=12):=by rw[ab UD];rfl
  rw[aX4]at hj;rw[dQ,uT,hp _ _ hi,al,dn zj,dn zj,aK7,hf,al];rw[<-ae8,hj];rfl
 ·have UD:¬ kn (cY ns ↑i)=31:=zj;have j:=Wc (t:=t) (sg:=rZ (cY ns ↑i)) iE hx hk e0 e1 (by omega) (by omega) hl ml Hl
  refine(Zx.and j).up λn ⟨hp,hj⟩ acc hb=> ?_
  have hj:=hj acc hb;rw[aa UD,cF]at hj
  have ae8:rZ (cY ns ↑i)=J9 [] [(28,[97,110,100]),(29,[111,114])] (cY ns ↑i).1:=by
   rcases hk with h|h|h
   ·have h':(cY ns ↑i).1=28:=h;unfold rZ;rw[h,h'];rfl
   ·have h':(cY ns ↑i).1=29:=h;unfold rZ;rw[h,h'];rfl
   ·exact absurd h UD
  rw[dQ,uT,hp _ _ hi,al,db zj,db zj];rw[<-ae8,hj];rfl
omit iE in
theorem Xa {i:Nat}(hi:i<ns.length){t:Nat}{s:LI}(DC:¬ (cY ns (i:Int)).1=20)(Kp:¬ (cY ns (i:Int)).1=21)(EV:¬ (cY ns (i:Int)).1=22)(Kg:¬ (cY ns (i:Int)).1=27)(Ci:¬ (cY ns (i:Int)).1=23)
  (J:Evt λn=>∀acc:LI,acc.length+s.length<=MX->jI (S.tab n) (pst ns acc) (i:Int) (t:Int) (cY ns (i:Int)) (cX (cY ns (i:Int))) (cY ns (i:Int)).1 (I ((cY ns (i:Int)).1=24)||decide ((cY ns (i:Int)).1=26))=JR ns (acc++s)):PE ns ↑i t s:=
 J.up λn h acc hb=>by
  have h:=h acc hb;have hx:at_ (τ:=cZ) (pst ns acc).1.1 (i:Int)=cY ns ↑i:=rfl;rw[kr,hx,c8 (sy hi acc),db DC,db Kp,db EV,db Kg,db Ci]
  by_cases AB:(cY ns ↑i).1=24
  ·rw[ab AB,bo1]at h;rw[dn AB,ab AB];show(jI (S.tab n) (pst ns acc) ↑i ↑t (cY ns ↑i) (cX (cY ns ↑i)) (cY ns ↑i).1 av).bind _=_;rw[h];rfl
  ·rw[aa AB,bH]at h;rw[db AB];show(jI (S.tab n) (pst ns acc) ↑i ↑t (cY ns ↑i) (cX (cY ns ↑i)) (cY ns ↑i).1 (I ((cY ns ↑i).1=26))).bind _=_;rw[h];rfl
omit iE in
theorem aC0 {i:Nat}(hi:i<ns.length){t:Nat}{s:LI}(DC:¬ (cY ns (i:Int)).1=20)(Kp:¬ (cY ns (i:Int)).1=21)(EV:¬ (cY ns (i:Int)).1=22)(Kg:¬ (cY ns (i:Int)).1=27)(Ci:¬ (cY ns (i:Int)).1=23)
  (AB:¬ (cY ns (i:Int)).1=24) (K5:¬ (cY ns (i:Int)).1=26) (Sa:¬ (cY ns (i:Int)).1=25)
  (J:Evt λn=>∀acc:LI,acc.length+s.length<=MX->jL (S.tab n) (pst ns acc) (i:Int) (t:Int) (cY ns (i:Int)) (cX (cY ns (i:Int))) (cY ns (i:Int)).1 (I ((cY ns (i:Int)).1=28)||(I ((cY ns (i:Int)).1=29)||decide ((cY ns (i:Int)).1=31)))=JR ns (acc++s)):PE ns ↑i t s:=by
 refine Xa hi DC Kp EV Kg Ci (J.up λn h acc hb=> ?_);have h:=h acc hb;rw[aa AB,aa K5,n9,Bool.or_false,j8,db Sa]
 by_cases uJ:(cY ns ↑i).1=28
 ·rw[ab uJ,bo1]at h;rw[dn uJ,ab uJ,h];rfl
 rw[aa uJ,bH]at h;rw[db uJ]
 by_cases yl:(cY ns ↑i).1=29
 ·rw[ab yl,bo1]at h;rw[dn yl,ab yl,h];rfl
 rw[aa yl,bH]at h;rw[db yl,h];rfl
def VY (hi:i<ns.length)(Kj:J0 (cY ns i)){t:Nat}{E G:Int->Nat->LI}(hE:∀k∈cX (cY ns i),PE ns k t (E k t))
  (ap1:kn (cY ns i)=36->PB ns ((cX (cY ns i)).getD 0 0) t (fR ns G ((cX (cY ns i)).getD 0 0) t)) (mm:∀k∈cX (cY ns i),∃j:Nat,k=j/\j<i):
  PE ns ↑i t (je ns E G (cY ns ↑i) t):=by
 have mF:=iE i hi;have Tw:=(oK mF).2.1
 have leaf:∀s:LI,(∀(n:Nat) (acc:LI),ey (S.step (S.tab n)) (pst ns acc) ↑i (t:Int)=(dh (S.tab n) (pst ns acc) s).bind λd=>U ((),d.2.1,(),(),()))->PE ns ↑i t s:=λs h=>(px ns).up λn hw acc hb=>by
  rw[h,hw _ _ hb];rfl
 have hx:∀acc,at_ (τ:=cZ) (pst ns acc).1.1 (i:Int)=cY ns ↑i:=λ_=>rfl
 by_cases DC:(cY ns ↑i).1=20
 ·have hk:kn (cY ns ↑i)=20:=DC;unfold je;rw[hk]
  exact leaf [110,105,108] λn acc=>by rw[kr,hx,c8 (sy hi acc),dn DC]
 by_cases Kp:(cY ns ↑i).1=21
 ·have hk:kn (cY ns ↑i)=21:=Kp;unfold je;rw[hk]
  exact leaf [116,114,117,101] λn acc=>by rw[kr,hx,c8 (sy hi acc),db DC,dn Kp]
 by_cases EV:(cY ns ↑i).1=22
 ·have hk:kn (cY ns ↑i)=22:=EV;unfold je;rw[hk]
  exact leaf [102,97,108,115,101] λn acc=>by rw[kr,hx,c8 (sy hi acc),db DC,db Kp,dn EV]
 by_cases Kg:(cY ns ↑i).1=27
 ·have hk:kn (cY ns ↑i)=27:=Kg;unfold je;rw[hk]
  exact leaf [46,46,46] λn acc=>by rw[kr,hx,c8 (sy hi acc),db DC,db Kp,db EV,dn Kg]
 by_cases Ci:(cY ns ↑i).1=23
 ·have hk:kn (cY ns ↑i)=23:=Ci;unfold je;rw[hk];show PE ns ↑i t (EG (sD (cY ns ↑i)));have UK:=VL (x:=(2,0,0,0,sD (cY ns ↑i),([]:LI),())) ⟨show -9223372036854775808<=(2:Int)/\(2:Int)<=9223372036854775807 by decide,Kj.1,λc hc=>by cases hc⟩ (aU _)
  refine((px ns).and UK).up λn ⟨hw,ht⟩ acc hb=> ?_
  have ht:sN (S.tab n) (2,0,0,0,(cY ns ↑i).2.2.2.2.2.1,([]:LI),())=U (EG (sD (cY ns ↑i)),ia):=ht;rw[kr,hx,c8 (sy hi acc),db DC,db Kp,db EV,db Kg,dn Ci,ht,al];dsimp only;rw[hw _ _ hb];rfl
 by_cases aO6:(cY ns ↑i).1=24\/(cY ns ↑i).1=26
 ·have e:je ns E G (cY ns ↑i) t=txn (cY ns ↑i):=by
   unfold je
   rcases aO6 with h|h
   ·rw[show kn (cY ns ↑i)=24 from h];rfl
   ·rw[show kn (cY ns ↑i)=26 from h];rfl
  rw[e];refine Xa hi DC Kp EV Kg Ci ((px ns).up λn hw acc hb=> ?_);have hd:((cY ns ↑i).1=24||decide ((cY ns ↑i).1=26))=true:=(by simpa using aO6);rw[hd,n9,uT];show(dh (S.tab n) (pst ns acc) (txn (cY ns ↑i))).bind _=_;rw[hw _ _ hb];rfl
 have AB:¬ (cY ns ↑i).1=24:=λh=>aO6 (.inl h)
 have K5:¬ (cY ns ↑i).1=26:=λh=>aO6 (.inr h)
 by_cases Sa:(cY ns ↑i).1=25
 ·have hk:kn (cY ns ↑i)=25:=Sa;unfold je;rw[hk];show PE ns ↑i t (sW (txn (cY ns ↑i)));refine Xa hi DC Kp EV Kg Ci (((px ns).and (I6 _ Kj.2)).up λn ⟨hw,hq⟩ acc hb=> ?_);have hq:xa (S.tab n) (cY ns ↑i).2.2.2.2.2.2.1=_:=hq;rw[aa AB,aa K5,n9,Bool.or_false,j8,dn Sa,hq,al];dsimp only;rw[hw _ _ hb];rfl
 have Qn:=λ(s:LI) J=>aC0 hi (t:=t) (s:=s) DC Kp EV Kg Ci AB K5 Sa J
 by_cases Uy:(cY ns ↑i).1=28\/(cY ns ↑i).1=29\/(cY ns ↑i).1=31
 ·have e:je ns E G (cY ns ↑i) t=Zb ns E (cY ns ↑i) t:=by
   unfold je
   rcases Uy with h|h|h
   ·rw[show kn (cY ns ↑i)=28 from h];rfl
   ·rw[show kn (cY ns ↑i)=29 from h];rfl
   ·rw[show kn (cY ns ↑i)=31 from h];rfl
  rw[e];have hd:((cY ns ↑i).1=28||((cY ns ↑i).1=29||decide ((cY ns ↑i).1=31)))=true:=(by simpa using Uy);refine Qn _ ?_;rw[hd];exact YW iE hi Uy hE mm
 have uJ:¬ (cY ns ↑i).1=28:=λh=>Uy (.inl h)
 have yl:¬ (cY ns ↑i).1=29:=λh=>Uy (.inr (.inl h))
 have zj:¬ (cY ns ↑i).1=31:=λh=>Uy (.inr (.inr h))
 have hd:((cY ns ↑i).1=28||((cY ns ↑i).1=29||decide ((cY ns ↑i).1=31)))=false:=by rw[aa uJ,aa yl,aa zj];rfl
 rw[hd]at Qn
 by_cases vL:(cY ns ↑i).1=30
 ·have hk:kn (cY ns ↑i)=30:=vL;obtain⟨hl,o1,o2⟩:=Za mF hk;have m0:=dP (x:=cY ns ↑i) (j:=0) (by omega);obtain⟨k0,e0,b0⟩:=mm _ m0;have ml:=hE _ m0;rw[e0]at ml;have aP6:=ai6 iE (cX (cY ns ↑i)) e0 (by omega) (by omega) ml
  have sF:I ((0:Int)<((cX (cY ns ↑i)).length:Int))=true:=by simp only[ad];omega
  have pre:∀p:LI,∀n:Nat,(∀acc s:LI,acc.length+s.length<=MX->dh (S.tab n) (pst ns acc) s=U ((),pst ns (acc++s),(),()))->(∀acc:LI,acc.length+(paren (I (pwr (cY ns ↑k0)<11)) (E ↑k0 t)).length<=MX->eY (S.tab n) (pst ns acc) ↑t (cX (cY ns ↑i))=JR ns (acc++paren (I (pwr (cY ns ↑k0)<11)) (E ↑k0 t)))->
    ∀acc:LI,acc.length+(p++paren (pwr (cY ns ↑k0)<11) (E ↑k0 t)).length<=MX->((dh (S.tab n) (pst ns acc) p).bind λd=>(eY (S.tab n) d.2.1 ↑t (cX (cY ns ↑i))).bind (dH λPY=>U (an PY)))=JR ns (acc++(p++paren (pwr (cY ns ↑k0)<11) (E ↑k0 t))):=λp n hw hj acc hb=>by
   rw[au]at hb;rw[hw _ _ (by omega),al];dsimp only;rw[hj _ (by rw[au];omega),<-aC];rfl
  unfold je;rw[hk,e0]
  by_cases p21:(cY ns ↑i).2.2.2.2.1=21
  ·rw[show opn (cY ns ↑i)=21 from p21];refine Qn ([110,111,116,32]++paren (pwr (cY ns ↑k0)<11) (E ↑k0 t)) (((px ns).and aP6).up λn ⟨hw,hj⟩ acc hb=> ?_);rw[dQ,j8,dn vL,dn p21];exact pre _ n hw hj acc hb
  by_cases p19:(cY ns ↑i).2.2.2.2.1=19
  ·rw[show opn (cY ns ↑i)=19 from p19];show PE ns ↑i t (([45]++bif I (kn (cY ns ↑k0)=30)&&I (opn (cY ns ↑k0)=19)then [32]else [])++paren (pwr (cY ns ↑k0)<11) (E ↑k0 t));refine Qn _ (((px ns).and aP6).up λn ⟨hw,hj⟩ acc hb=> ?_)
   have aO1:∀acc,at_ (τ:=cZ) (pst ns acc).1.1 (k0:Int)=cY ns ↑k0:=λ_=>rfl
   have hn:=sy (ns:=ns) (show k0<ns.length by omega);simp only[au,aw,ay]at hb;rw[dQ,j8,dn vL,db p21,dn p19,hw _ _ (by simp only[aw,ay];omega),al,c8 sF,e0];dsimp only;rw[c8 (hn _),aO1]
   have tail:∀A:LI,A.length+(paren (pwr (cY ns ↑k0)<11) (E ↑k0 t)).length<=MX->((eY (S.tab n) (pst ns A) ↑t (cX (cY ns ↑i))).bind (dH λPY=>U (an PY)))=JR ns (A++paren (pwr (cY ns ↑k0)<11) (E ↑k0 t)):=λA hA=>by rw[hj A hA];rfl
   by_cases q30:(cY ns ↑k0).1=30
   ·rw[show kn (cY ns ↑k0)=30 from q30]at hb⊢;rw[dn q30]
    by_cases aG1:(cY ns ↑k0).2.2.2.2.1=19
    ·rw[show opn (cY ns ↑k0)=19 from aG1]at hb⊢;have hb:acc.length+(0+1+(0+1)+(paren (pwr (cY ns ↑k0)<11) (E ↑k0 t)).length)<=MX:=hb;rw[dn aG1,hw _ _ (by simp only[au,aw,ay];omega),al];dsimp only;refine(tail _ (by simp only[au,aw,ay];omega)).trans ?_;show JR ns (acc++[45]++[32]++_)=JR ns (acc++([45]++[32]++_));simp only[aC]
    ·have:((30:Int)=30&&opn (cY ns ↑k0)=19)=false:=by rw[aa (show¬ opn (cY ns ↑k0)=19 from aG1)];rfl
     rw[this]at hb⊢;have hb:acc.length+(0+1+0+(paren (pwr (cY ns ↑k0)<11) (E ↑k0 t)).length)<=MX:=hb;rw[db aG1];refine(tail _ (by simp only[au,aw,ay];omega)).trans ?_;show JR ns (acc++[45]++_)=JR ns (acc++([45]++[]++_));simp only[aC,aQ]
   ·have:(kn (cY ns ↑k0)=30&&opn (cY ns ↑k0)=19)=false:=by rw[aa (show¬ kn (cY ns ↑k0)=30 from q30)];rfl
    rw[this]at hb⊢;have hb:acc.length+(0+1+0+(paren (pwr (cY ns ↑k0)<11) (E ↑k0 t)).length)<=MX:=hb;rw[db q30];refine(tail _ (by simp only[au,aw,ay];omega)).trans ?_;show JR ns (acc++[45]++_)=JR ns (acc++([45]++[]++_));simp only[aC,aQ]
  by_cases p22:(cY ns ↑i).2.2.2.2.1=22
  ·rw[show opn (cY ns ↑i)=22 from p22];refine Qn ([35]++paren (pwr (cY ns ↑k0)<11) (E ↑k0 t)) (((px ns).and aP6).up λn ⟨hw,hj⟩ acc hb=> ?_);rw[dQ,j8,dn vL,db p21,db p19,dn p22];exact pre _ n hw hj acc hb
  have au3:(cY ns ↑i).2.2.2.2.1=20:=by
   have q21:¬ opn (cY ns ↑i)=21:=p21;have aG1:¬ opn (cY ns ↑i)=19:=p19;have q22:¬ opn (cY ns ↑i)=22:=p22;show opn (cY ns ↑i)=20;omega
  rw[show opn (cY ns ↑i)=20 from au3];refine Qn ([126]++paren (I (pwr (cY ns ↑k0)<11)) (E ↑k0 t)) (((px ns).and aP6).up λn ⟨hw,hj⟩ acc hb=> ?_);rw[dQ,j8,dn vL,db p21,db p19,db p22,dn au3];exact pre _ n hw hj acc hb
 by_cases h32:(cY ns ↑i).1=32
 ·have hk:kn (cY ns ↑i)=32:=h32;have hl:=am8 mF hk;have m0:=dP (x:=cY ns ↑i) (j:=0) (by omega);have m1:=dP (x:=cY ns ↑i) (j:=1) (by omega);obtain⟨k0,e0,b0⟩:=mm _ m0;have ml:=hE _ m0;have Hl:=hE _ m1;rw[e0]at ml;unfold je;rw[hk,e0];refine Qn (zO ns E ↑k0 t++[91]++E ((cX (cY ns ↑i)).getD 1 0) t++[93]) ((((px ns).and (Je (show k0<ns.length by omega) ml)).and Hl).up λn ⟨⟨hw,hB⟩,Hl⟩ acc hb=> ?_);unfold zO at hb⊢;simp only[au,aw,ay]at hb;rw[dQ,j8,db vL,dn h32,dn (by omega),e0,hB _ (by omega),al];dsimp only;rw[hw _ _ (by simp only[au,aw,ay];omega),al,dn (by omega)];dsimp only;rw[Hl _ (by simp only[au,aw,ay];omega),al];dsimp only;rw[hw _ _ (by simp only[au,aw,ay];omega),al];show JR ns _=JR ns _;simp only[aC]
 by_cases h33:(cY ns ↑i).1=33
 ·have hk:kn (cY ns ↑i)=33:=h33;have hl:=am3 mF hk;have m0:=dP (x:=cY ns ↑i) (j:=0) (by omega);obtain⟨k0,e0,b0⟩:=mm _ m0;have ml:=hE _ m0;rw[e0]at ml;unfold je;rw[hk,e0];refine Qn (zO ns E ↑k0 t++([46]++txn (cY ns ↑i))) (((px ns).and (Je (show k0<ns.length by omega) ml)).up λn ⟨hw,hB⟩ acc hb=> ?_);unfold zO at hb⊢;simp only[au,aw,ay]at hb;have tb:fits (1+(cY ns ↑i).2.2.2.2.2.2.1.length)=true:=r6 (show 1+(txn (cY ns ↑i)).length<=MX by omega);rw[dQ,j8,db vL,db h32,dn h33,dn (by omega),e0,hB _ (by omega),al,c8 tb];dsimp only;show(dh (S.tab n) (pst ns (acc++paren (!Ab (kn (cY ns ↑k0))) (E ↑k0 t))) ([46]++txn (cY ns ↑i))).bind _=_;rw[hw _ _ (by simp only[au,aw,ay];omega),al];show JR ns _=JR ns _;simp only[aC]
 by_cases ue:(cY ns ↑i).1=34
 ·have hk:kn (cY ns ↑i)=34:=ue;have hl:=ak8 mF hk;have m0:=dP (x:=cY ns ↑i) (j:=0) (by omega);obtain⟨k0,e0,b0⟩:=mm _ m0;have ml:=hE _ m0;rw[e0]at ml
  have Hm:sub (cX (cY ns ↑i)) 1 ((cX (cY ns ↑i)).length:Int)=(cX (cY ns ↑i)).tail:=by
   show((cX (cY ns ↑i)).take (cX (cY ns ↑i)).length).drop 1=_;rw[cy,List.drop_one]
  have UI:bounds (cX (cY ns ↑i)).length 1 ((cX (cY ns ↑i)).length:Int)=true:=fO (i:=1) hl (aF _);have hL:=zE (ns:=ns) E t (cX (cY ns ↑i)).tail (by simp;omega) (λk hm=>hE k (List.mem_of_mem_tail hm));unfold je;rw[hk,e0];refine Qn (zO ns E ↑k0 t++[40]++iO E (cX (cY ns ↑i)).tail t++[41]) ((((px ns).and (Je (show k0<ns.length by omega) ml)).and hL).up λn ⟨⟨hw,hB⟩,hL⟩ acc hb=> ?_);unfold zO at hb⊢;simp only[au,aw,ay]at hb;rw[dQ,j8,db vL,db h32,db h33,dn ue,dn (by omega),e0,hB _ (by omega),al];dsimp only;rw[hw _ _ (by simp only[au,aw,ay];omega),al,c8 UI,Hm];dsimp only;rw[hL _ (by simp only[au,aw,ay];omega),al];dsimp only;rw[hw _ _ (by simp only[au,aw,ay];omega),al];show JR ns _=JR ns _;simp only[aC]
 by_cases Hj:(cY ns ↑i).1=35
 ·have hk:kn (cY ns ↑i)=35:=Hj;have hL:=zE (ns:=ns) E t (cX (cY ns ↑i)) (by omega) hE;unfold je;rw[hk];refine Qn ([123]++iO E (cX (cY ns ↑i)) t++[125]) (((px ns).and hL).up λn ⟨hw,hL⟩ acc hb=> ?_);simp only[au,aw,ay]at hb;rw[dQ,j8,db vL,db h32,db h33,db ue,dn Hj,hw _ _ (by simp only[aw,ay];omega),al];dsimp only;rw[hL _ (by simp only[au,aw,ay];omega),al];dsimp only;rw[hw _ _ (by simp only[au,aw,ay];omega),al];show JR ns _=JR ns _;simp only[aC]
 by_cases zh:(cY ns ↑i).1=36
 ·have hk:kn (cY ns ↑i)=36:=zh;obtain⟨hl,_⟩:=PI mF hk;have m0:=dP (x:=cY ns ↑i) (j:=0) (by omega);obtain⟨k0,e0,b0⟩:=mm _ m0;have hB:=ap1 hk;rw[e0]at hB;have hF:=aa9 iE G hi hk e0 t hB;unfold je;rw[hk];refine Qn ([102,110]++fnT ns G (cY ns ↑i) t) (((px ns).and hF).up λn ⟨hw,hF⟩ acc hb=> ?_);simp only[au,aw,ay]at hb;rw[dQ,j8,db vL,db h32,db h33,db ue,db Hj,dn zh,hw _ _ (by simp only[aw,ay];omega),al];dsimp only;rw[hF _ (by simp only[au,aw,ay];omega),al];show JR ns _=JR ns _;simp only[aC]
 by_cases h37:(cY ns ↑i).1=37
 ·have hk:kn (cY ns ↑i)=37:=h37;have hl:=al8 mF hk;have m0:=dP (x:=cY ns ↑i) (j:=0) (by omega);have ml:=hE _ m0;unfold je;rw[hk];refine Qn ([40]++E ((cX (cY ns ↑i)).getD 0 0) t++[41]) ((yL ml).up λn hw acc hb=> ?_);rw[dQ,j8,db vL,db h32,db h33,db ue,db Hj,db zh,dn h37,dn (by omega),hw _ av hb];rfl
 by_cases Ma:(cY ns ↑i).1=40
 ·have hk:kn (cY ns ↑i)=40:=Ma;have hl:=an1 mF hk;have m0:=dP (x:=cY ns ↑i) (j:=0) (by omega);have ml:=hE _ m0;unfold je;rw[hk];refine Qn (E ((cX (cY ns ↑i)).getD 0 0) t) (ml.up λn hw acc hb=> ?_);rw[dQ,j8,db vL,db h32,db h33,db ue,db Hj,db zh,db h37,dn Ma,dn (by omega),hw _ hb];rfl
 by_cases Ks:(cY ns ↑i).1=41
 ·have hk:kn (cY ns ↑i)=41:=Ks;have hl:=al6 mF hk;have ml:=hE _ (dP (x:=cY ns ↑i) (j:=0) (by omega));have Hl:=hE _ (dP (x:=cY ns ↑i) (j:=1) (by omega));unfold je;rw[hk];refine Qn ([91]++E ((cX (cY ns ↑i)).getD 0 0) t++[93,32,61,32]++E ((cX (cY ns ↑i)).getD 1 0) t) ((((px ns).and ml).and Hl).up λn ⟨⟨hw,ml⟩,Hl⟩ acc hb=> ?_);simp only[au,aw,ay]at hb;rw[dQ,j8,db vL,db h32,db h33,db ue,db Hj,db zh,db h37,db Ma,dn Ks,hw _ _ (by simp only[aw,ay];omega),al,dn (by omega)];dsimp only;rw[ml _ (by simp only[au,aw,ay];omega),al];dsimp only;rw[hw _ _ (by simp only[au,aw,ay];omega),al,c8 (by simp;omega)];dsimp only;rw[Hl _ (by simp only[au,aw,ay];omega),al];show JR ns _=JR ns _;simp
 by_cases XS:(cY ns ↑i).1=42
 ·have hk:kn (cY ns ↑i)=42:=XS;have hl:=am9 mF hk;have ml:=hE _ (dP (x:=cY ns ↑i) (j:=0) (by omega));unfold je;rw[hk];refine Qn ([46]++txn (cY ns ↑i)++[32,61,32]++E ((cX (cY ns ↑i)).getD 0 0) t) (((px ns).and ml).up λn ⟨hw,ml⟩ acc hb=> ?_);simp only[au,aw,ay]at hb;have f1:fits (1+(cY ns ↑i).2.2.2.2.2.2.1.length)=true:=r6 (show 1+(txn (cY ns ↑i)).length<=MX by omega);have f2:fits ((([46]:LI)++(cY ns ↑i).2.2.2.2.2.2.1).length+3)=true:=r6 (show(([46]:LI)++txn (cY ns ↑i)).length+3<=MX by simp;omega);rw[dQ,j8,db vL,db h32,db h33,db ue,db Hj,db zh,db h37,db Ma,db Ks,dn XS,c8 f1,c8 f2];show(dh (S.tab n) (pst ns acc) ([46]++txn (cY ns ↑i)++[32,61,32])).bind _=_;rw[hw _ _ (by simp;omega),al,c8 (by simp;omega)];dsimp only;rw[ml _ (by simp only[au,aw,ay];omega),al];show JR ns _=JR ns _;simp
 ·have e:je ns E G (cY ns ↑i) t=[]:=by
   unfold je
   have d:∀c:Int,¬ (cY ns ↑i).1=c->I (kn (cY ns ↑i)=c)=false:=λc h=>aa h
   rw[d _ DC,d _ Kp,d _ EV,d _ Kg,d _ Ci,d _ AB,d _ K5,d _ Sa,d _ uJ,d _ yl,d _ zj,d _ vL,d _ h32,d _ h33,d _ ue,d _ Hj,d _ zh,d _ h37,d _ Ma,d _ Ks,d _ XS];rfl
  rw[e];refine Qn [] (dF.up λn _ acc _=> ?_);rw[dQ,j8,db vL,db h32,db h33,db ue,db Hj,db zh,db h37,db Ma,db Ks,db XS,aQ];rfl
end
end Go.Abs.D
end

section
namespace Go.Abs.D
def PC (ns:List Node)(k:Int)(t:Nat)(s:LI):Prop:=Evt λn=>∀acc:LI,acc.length+s.length<=MX->ow (S.tab n) (pst ns acc) (cY ns k) t=U ((),pst ns (acc++s),((),(),(),(),(),(),(),(),(),()),(),())
def PF (ns:List Node)(k:Int)(t:Nat)(s:LI):Prop:=Evt λn=>∀acc:LI,acc.length+s.length<=MX->pg (S.tab n) (pst ns acc) k t=U ((),pst ns (acc++s),(),(),())
section
variable{ns:List Node}(iE:∀i:Nat,i<ns.length->okN ns i (cY ns (i:Int))=av)
include iE
def QP (hi:i<ns.length)(hk:kn (cY ns i)=7){t:Nat}{E G:Int->Nat->LI}(hE:∀k∈cX (cY ns i),PE ns k t (E k t))(hB:∀k∈cX (cY ns i),PB ns k t (fR ns G k t))
  (hC:∀k∈cX (cY ns i),kn (cY ns k)=7->PC ns k t (G k t)) (mm:∀k∈cX (cY ns i),∃j:Nat,k=j/\j<i):PC ns ↑i t (ifT ns E G (cY ns ↑i) t):=by
 obtain⟨hl,_,_⟩:=sh7 (iE i hi) hk;have m0:=dP (x:=cY ns ↑i) (j:=0) (by omega);have m1:=dP (x:=cY ns ↑i) (j:=1) (by omega);have Ch:(cY ns ↑i).2.2.2.2.2.2.2.2.1=cX (cY ns ↑i):=rfl
 by_cases h3:(cX (cY ns ↑i)).length=3
 ·have m2:=dP (x:=cY ns ↑i) (j:=2) (by omega);obtain⟨k2,e2,b2⟩:=mm _ m2
  have aO1:∀acc,at_ (τ:=cZ) (pst ns acc).1.1 k2=cY ns ↑k2:=λ_=>rfl
  have aK3:∀acc,(0<=(k2:Int)&&k2<((pst ns acc).1.1.length:Int))=true:=sy (by omega);have aF5:=hC _ m2;have aE9:=hB _ m2;rw[e2]at aF5 aE9;unfold ifT;rw[ab h3,e2];dsimp only
  by_cases h7:(cY ns ↑k2).1=7
  ·have UA:kn (cY ns ↑k2)=7:=h7;rw[UA];show PC ns ↑i t ([105,102,32]++E ((cX (cY ns ↑i)).getD 0 0) t++[32]++fR ns G ((cX (cY ns ↑i)).getD 1 0) t++([32,101,108]++G ↑k2 t))
   refine((((px ns).and (hE _ m0)).and (hB _ m1)).and (aF5 UA)).up λn ⟨⟨⟨hw,h0⟩,h1⟩,h2⟩ acc hb=> ?_
   simp only[au,aw,ay]at hb;rw[oR,Ch,hw _ _ (by simp;omega),al,dn (by omega)];dsimp only;rw[h0 _ (by simp only[au,aw,ay];omega),al];dsimp only;rw[hw _ _ (by simp only[au,aw,ay];omega),al,dn (by omega)];dsimp only;rw[h1 _ (by simp only[au,aw,ay];omega),al,dn (by omega),dn (by omega),e2];dsimp only;rw[c8 (aK3 _),aO1,dn h7,hw _ _ (by simp only[au,aw,ay];omega),al];dsimp only;rw[h2 _ (by simp only[au,aw,ay];omega),al];simp
  ·have UA:¬ kn (cY ns ↑k2)=7:=h7;rw[aa UA];show PC ns ↑i t ([105,102,32]++E ((cX (cY ns ↑i)).getD 0 0) t++[32]++fR ns G ((cX (cY ns ↑i)).getD 1 0) t++([32,101,108,115,101,32]++fR ns G ↑k2 t))
   refine((((px ns).and (hE _ m0)).and (hB _ m1)).and aE9).up λn ⟨⟨⟨hw,h0⟩,h1⟩,h2⟩ acc hb=> ?_
   simp only[au,aw,ay]at hb;rw[oR,Ch,hw _ _ (by simp;omega),al,c8 (by simp;omega)];dsimp only;rw[h0 _ (by simp only[au,aw,ay];omega),al];dsimp only;rw[hw _ _ (by simp only[au,aw,ay];omega),al,c8 (by simp;omega)];dsimp only;rw[h1 _ (by simp only[au,aw,ay];omega),al,c8 (by simp;omega),c8 (by simp;omega),e2];dsimp only;rw[c8 (aK3 _),aO1,db h7,hw _ _ (by simp only[au,aw,ay];omega),al,c8 (by simp;omega)];dsimp only;rw[h2 _ (by simp only[au,aw,ay];omega),al];simp
 ·unfold ifT;rw[aa h3];show PC ns ↑i t ([105,102,32]++E ((cX (cY ns ↑i)).getD 0 0) t++[32]++fR ns G ((cX (cY ns ↑i)).getD 1 0) t++[]);rw[aQ]
  refine(((px ns).and (hE _ m0)).and (hB _ m1)).up λn ⟨⟨hw,h0⟩,h1⟩ acc hb=> ?_
  simp only[au,aw,ay]at hb;rw[oR,Ch,hw _ _ (by simp;omega),al,c8 (by simp;omega)];dsimp only;rw[h0 _ (by simp only[au,aw,ay];omega),al];dsimp only;rw[hw _ _ (by simp only[au,aw,ay];omega),al,c8 (by simp;omega)];dsimp only;rw[h1 _ (by simp only[au,aw,ay];omega),al,dz (by simp;omega)];simp
def VE (hi:i<ns.length){t:Nat}{E G:Int->Nat->LI}(hE:∀k∈cX (cY ns i),PE ns k t (E k t))(hB:∀k∈cX (cY ns i),PB ns k t (fR ns G k t))
  (aE7:PB ns i t (fR ns G i t)) (hF:∀k∈cX (cY ns i),kn (cY ns k)=36->PF ns k t (fnT ns G (cY ns k) t))
  (hC:kn (cY ns i)=7->PC ns i t (ifT ns E G (cY ns i) t)) (mm:∀k∈cX (cY ns i),∃j:Nat,k=j/\j<i):
  PS ns ↑i t (jH ns E G (cY ns ↑i) ↑i t):=by
 have mF:=iE i hi;have Tw:=(oK mF).2.1;obtain⟨ZH,Xz⟩:=Ew mF;have hj:Lx.Bz (df (cY ns ↑i),([44,32]:LI),())=U (fu (df (cY ns ↑i)),(),(),()):=Pa _ (by unfold MX;omega) (by unfold MX;omega)
 have hx:∀acc,at_ (τ:=cZ) (pst ns acc).1.1 (i:Int)=cY ns ↑i:=λ_=>rfl
 have Ch:(cY ns ↑i).2.2.2.2.2.2.2.2.1=cX (cY ns ↑i):=rfl;have RU:(cY ns ↑i).2.2.2.2.2.2.2.1=df (cY ns ↑i):=rfl
 by_cases h1:(cY ns ↑i).1=1
 ·have hk:kn (cY ns ↑i)=1:=h1;unfold jH;rw[hk];show PS ns ↑i t (fR ns G ↑i t)
  refine aE7.up λn h acc hb=> ?_
  rw[fj,hx,RU,c8 (sy hi acc),hj,al];dsimp only;rw[dn h1,h _ hb];rfl
 by_cases h2:(cY ns ↑i).1=2
 ·have hk:kn (cY ns ↑i)=2:=h2;have hL:=zE (ns:=ns) E t (cX (cY ns ↑i)) (by omega) hE;unfold jH;rw[hk];show PS ns ↑i t ([108,101,116,32]++fu (df (cY ns ↑i))++(bif(cX (cY ns ↑i)).isEmpty then []else [32,61,32]++iO E (cX (cY ns ↑i)) t))
  refine((px ns).and hL).up λn ⟨hw,hL⟩ acc hb=> ?_
  rw[fj,hx,RU,Ch,c8 (sy hi acc),hj,al];dsimp only;rw[db h1,dn h2,c8 (r6 (by unfold MX;omega))]
  by_cases h0:cX (cY ns ↑i)=[]
  ·rw[h0]at hb⊢;have hb:acc.length+([108,101,116,32]++fu (df (cY ns ↑i))++[]:LI).length<=MX:=hb;rw[aQ]at hb;rw[hw _ _ hb,al,dz (by rfl)];show _=U ((),pst ns (acc++([108,101,116,32]++fu (df (cY ns ↑i))++[])),(),(),());rw[aQ]
  ·have mU:(cX (cY ns ↑i)).isEmpty=false:=(by simpa using h0);have ZG:(cX (cY ns ↑i)).length≠0:=(by simpa using h0);rw[mU,af]at hb⊢;simp only[au,aw,ay]at hb;rw[hw _ _ (by simp only[au,aw,ay];omega),al,dn (by omega)];dsimp only;rw[hw _ _ (by simp only[au,aw,ay];omega),al];dsimp only;rw[hL _ (by simp only[au,aw,ay];omega),al];simp only[aC]
 by_cases h3:(cY ns ↑i).1=3
 ·have hk:kn (cY ns ↑i)=3:=h3;obtain⟨hl,_⟩:=sh3 mF hk;have ml:=hE _ (dP (x:=cY ns ↑i) (j:=0) (by omega));unfold jH;rw[hk];show PS ns ↑i t ([99,111,110,115,116,32]++fu (df (cY ns ↑i))++[32,61,32]++E ((cX (cY ns ↑i)).getD 0 0) t)
  refine((px ns).and ml).up λn ⟨hw,ml⟩ acc hb=> ?_
  simp only[au,aw,ay]at hb;rw[fj,hx,RU,Ch,c8 (sy hi acc),hj,al];dsimp only;rw[db h1,db h2,dn h3,c8 (r6 (by unfold MX;omega)),c8 (r6 (by simp only[au,aw,ay];unfold MX;omega)),hw _ _ (by simp only[au,aw,ay];omega),al,dn (by omega)];dsimp only;rw[ml _ (by simp only[au,aw,ay];omega),al];simp only[aC]
 by_cases h4:(cY ns ↑i).1=4
 ·have hk:kn (cY ns ↑i)=4:=h4;obtain⟨hl,_,zh⟩:=sh4 mF hk;have Zy:=hF _ (dP (x:=cY ns ↑i) (j:=0) (by omega)) zh;unfold jH;rw[hk];show PS ns ↑i t ([102,110,32]++fu (df (cY ns ↑i))++fnT ns G (cY ns ((cX (cY ns ↑i)).getD 0 0)) t)
  refine((px ns).and Zy).up λn ⟨hw,Zy⟩ acc hb=> ?_
  simp only[au,aw,ay]at hb;rw[fj,hx,RU,Ch,c8 (sy hi acc),hj,al];dsimp only;rw[db h1,db h2,db h3,dn h4,c8 (r6 (by unfold MX;omega)),hw _ _ (by simp only[au,aw,ay];omega),al,dn (by omega)];dsimp only;rw[Zy _ (by simp only[au,aw,ay];omega),al];simp only[aC]
 by_cases h5:(cY ns ↑i).1=5
 ·have hk:kn (cY ns ↑i)=5:=h5;obtain⟨n1,n2⟩:=sh5 mF hk;obtain⟨m,hm⟩:∃m:Nat,sD (cY ns ↑i)=(m:Int):=⟨(sD (cY ns ↑i)).toNat,by omega⟩;have ae0:(cY ns ↑i).2.2.2.2.2.1=(m:Int):=hm;have av2:=zE (ns:=ns) E t ((cX (cY ns ↑i)).take m) (by simp;omega) (λk h=>hE k (bn1 h));have Zo:=zE (ns:=ns) E t ((cX (cY ns ↑i)).drop m) (by simp;omega) (λk h=>hE k (bn2 h));have N1:sub (cX (cY ns ↑i)) 0 (m:Int)=(cX (cY ns ↑i)).take m:=rfl
  have UR:sub (cX (cY ns ↑i)) ↑m ((cX (cY ns ↑i)).length:Int)=(cX (cY ns ↑i)).drop m:=by
   show((cX (cY ns ↑i)).take (cX (cY ns ↑i)).length).drop m=_;rw[cy]
  have UB:bounds (cX (cY ns ↑i)).length 0 (m:Int)=true:=fO (i:=0) (aU _) (by omega);have CW:bounds (cX (cY ns ↑i)).length ↑m ((cX (cY ns ↑i)).length:Int)=true:=fO (by omega) (aF _);unfold jH;rw[hk,hm];show PS ns ↑i t (iO E ((cX (cY ns ↑i)).take m) t++[32,61,32]++iO E ((cX (cY ns ↑i)).drop m) t)
  refine(((px ns).and av2).and Zo).up λn ⟨⟨hw,av2⟩,Zo⟩ acc hb=> ?_
  simp only[au,aw,ay]at hb;rw[fj,hx,RU,Ch,ae0,c8 (sy hi acc),hj,al];dsimp only;rw[db h1,db h2,db h3,db h4,dn h5,c8 UB,N1,av2 _ (by omega),al];dsimp only;rw[hw _ _ (by simp only[au,aw,ay];omega),al,c8 CW,UR];dsimp only;rw[Zo _ (by simp only[au,aw,ay];omega),al];simp only[aC]
 by_cases h6:(cY ns ↑i).1=6
 ·have hk:kn (cY ns ↑i)=6:=h6;have hl:=sh6 mF hk;have ml:=hE _ (dP (x:=cY ns ↑i) (j:=0) (by omega));unfold jH;rw[hk];show PS ns ↑i t (E ((cX (cY ns ↑i)).getD 0 0) t)
  refine ml.up λn ml acc hb=> ?_
  rw[fj,hx,RU,Ch,c8 (sy hi acc),hj,al];dsimp only;rw[db h1,db h2,db h3,db h4,db h5,dn h6,dn (by omega),ml _ hb];rfl
 by_cases zT:(cY ns ↑i).1=16
 ·have hk:kn (cY ns ↑i)=16:=zT;have hl:=am2 mF hk;have ml:=hE _ (dP (x:=cY ns ↑i) (j:=0) (by omega));unfold jH;rw[hk];show PS ns ↑i t ([100,101,102,101,114,32]++E ((cX (cY ns ↑i)).getD 0 0) t)
  refine((px ns).and ml).up λn ⟨hw,ml⟩ acc hb=> ?_
  simp only[au,aw,ay]at hb;rw[fj,hx,RU,Ch,c8 (sy hi acc),hj,al];dsimp only;rw[db h1,db h2,db h3,db h4,db h5,db h6,dn zT,hw _ _ (by simp only[aw,ay];omega),al,dn (by omega)];dsimp only;rw[ml _ (by simp only[au,aw,ay];omega),al];simp only[aC]
 by_cases h7:(cY ns ↑i).1=7
 ·have hk:kn (cY ns ↑i)=7:=h7;have hC:=hC hk;unfold jH;rw[hk];show PS ns ↑i t (ifT ns E G (cY ns ↑i) t)
  refine hC.up λn hC acc hb=> ?_
  rw[fj,hx,RU,Ch,c8 (sy hi acc),hj,al];dsimp only;rw[db h1,db h2,db h3,db h4,db h5,db h6,db zT,dn h7,hC _ hb];rfl
 by_cases h8:(cY ns ↑i).1=8
 ·have hk:kn (cY ns ↑i)=8:=h8;have hl:=sh8 mF hk;have ml:=hE _ (dP (x:=cY ns ↑i) (j:=0) (by omega));have EZ:=hB _ (dP (x:=cY ns ↑i) (j:=1) (by omega));unfold jH;rw[hk];show PS ns ↑i t ([119,104,105,108,101,32]++E ((cX (cY ns ↑i)).getD 0 0) t++[32]++fR ns G ((cX (cY ns ↑i)).getD 1 0) t)
  refine(((px ns).and ml).and EZ).up λn ⟨⟨hw,ml⟩,EZ⟩ acc hb=> ?_
  simp only[au,aw,ay]at hb;rw[fj,hx,RU,Ch,c8 (sy hi acc),hj,al];dsimp only;rw[db h1,db h2,db h3,db h4,db h5,db h6,db zT,db h7,dn h8,hw _ _ (by simp only[aw,ay];omega),al,dn (by omega)];dsimp only;rw[ml _ (by simp only[au,aw,ay];omega),al];dsimp only;rw[hw _ _ (by simp only[au,aw,ay];omega),al,dn (by omega)];dsimp only;rw[EZ _ (by simp only[au,aw,ay];omega),al];simp only[aC]
 by_cases h9:(cY ns ↑i).1=9
 ·have hk:kn (cY ns ↑i)=9:=h9;have hl:=sh9 mF hk;have aY3:=hB _ (dP (x:=cY ns ↑i) (j:=(cX (cY ns ↑i)).length - 1) (by omega));have hL:=zE (ns:=ns) E t (cX (cY ns ↑i)).dropLast (by simp;omega) (λk h=>hE k (List.dropLast_subset _ h))
  have aK7:ar.wrap (((cX (cY ns ↑i)).length:Int) - 1)=(((cX (cY ns ↑i)).length - 1:Nat):Int):=by rw[wrap64 _ (by omega) (by omega)];omega
  have N1:sub (cX (cY ns ↑i)) 0 (((cX (cY ns ↑i)).length - 1:Nat):Int)=(cX (cY ns ↑i)).dropLast:=by
   show((cX (cY ns ↑i)).take ((cX (cY ns ↑i)).length - 1)).drop 0=_;rw[bY,List.dropLast_eq_take]
  have UB:bounds (cX (cY ns ↑i)).length 0 (((cX (cY ns ↑i)).length - 1:Nat):Int)=true:=fO (i:=0) (aU _) (by omega);unfold jH;rw[hk];show PS ns ↑i t ([102,111,114,32]++fu (df (cY ns ↑i))++[32,61,32]++iO E (cX (cY ns ↑i)).dropLast t++[32]++fR ns G ((cX (cY ns ↑i)).getD ((cX (cY ns ↑i)).length - 1) 0) t)
  refine(((px ns).and hL).and aY3).up λn ⟨⟨hw,hL⟩,aY3⟩ acc hb=> ?_
  simp only[au,aw,ay]at hb;rw[fj,hx,RU,Ch,aK7,c8 (sy hi acc),hj,al];dsimp only;rw[db h1,db h2,db h3,db h4,db h5,db h6,db zT,db h7,db h8,dn h9,c8 (r6 (by unfold MX;omega)),c8 (r6 (by simp only[au,aw,ay];unfold MX;omega)),hw _ _ (by simp only[au,aw,ay];omega),al,c8 UB,N1];dsimp only;rw[hL _ (by simp only[au,aw,ay];omega),al];dsimp only;rw[hw _ _ (by simp only[au,aw,ay];omega),al,c8 (dm (by omega)),bm];dsimp only;rw[aY3 _ (by simp only[au,aw,ay];omega),al];simp only[aC]
 by_cases xo:(cY ns ↑i).1=10
 ·have hk:kn (cY ns ↑i)=10:=xo;have hl:=an2 mF hk;have ml:=hE _ (dP (x:=cY ns ↑i) (j:=0) (by omega));have EZ:=hB _ (dP (x:=cY ns ↑i) (j:=1) (by omega));unfold jH;rw[hk];show PS ns ↑i t ([102,111,114,32]++fu (df (cY ns ↑i))++[32,105,110,32]++E ((cX (cY ns ↑i)).getD 0 0) t++[32]++fR ns G ((cX (cY ns ↑i)).getD 1 0) t)
  refine(((px ns).and ml).and EZ).up λn ⟨⟨hw,ml⟩,EZ⟩ acc hb=> ?_
  simp only[au,aw,ay]at hb;rw[fj,hx,RU,Ch,c8 (sy hi acc),hj,al];dsimp only;rw[db h1,db h2,db h3,db h4,db h5,db h6,db zT,db h7,db h8,db h9,dn xo,c8 (r6 (by unfold MX;omega)),c8 (r6 (by simp only[au,aw,ay];unfold MX;omega)),hw _ _ (by simp only[au,aw,ay];omega),al,dn (by omega)];dsimp only;rw[ml _ (by simp only[au,aw,ay];omega),al];dsimp only;rw[hw _ _ (by simp only[au,aw,ay];omega),al,dn (by omega)];dsimp only;rw[EZ _ (by simp only[au,aw,ay];omega),al];simp only[aC]
 have chain:∀(n:Nat) (acc:LI),mg (S.step (S.tab n)) (pst ns acc) ↑i (t:Int)=_:=λn acc=>by
  rw[fj,hx,RU,Ch,c8 (sy hi acc),hj,al,db h1,db h2,db h3,db h4,db h5,db h6,db zT,db h7,db h8,db h9,db xo]
 by_cases vR:(cY ns ↑i).1=11
 ·have hk:kn (cY ns ↑i)=11:=vR;unfold jH;rw[hk];show PS ns ↑i t [98,114,101,97,107]
  refine(px ns).up λn hw acc hb=> ?_
  rw[chain];dsimp only;rw[dn vR,hw _ _ hb];rfl
 by_cases rP:(cY ns ↑i).1=12
 ·have hk:kn (cY ns ↑i)=12:=rP;unfold jH;rw[hk];show PS ns ↑i t [110,101,120,116]
  refine(px ns).up λn hw acc hb=> ?_
  rw[chain];dsimp only;rw[db vR,dn rP,hw _ _ hb];rfl
 by_cases Ae:(cY ns ↑i).1=13
 ·have hk:kn (cY ns ↑i)=13:=Ae;have hL:=zE (ns:=ns) E t (cX (cY ns ↑i)) (by omega) hE;unfold jH;rw[hk];show PS ns ↑i t ([114,101,116,117,114,110]++(bif(cX (cY ns ↑i)).isEmpty then []else [32]++iO E (cX (cY ns ↑i)) t))
  refine((px ns).and hL).up λn ⟨hw,hL⟩ acc hb=> ?_
  rw[chain];dsimp only;rw[db vR,db rP,dn Ae]
  by_cases h0:cX (cY ns ↑i)=[]
  ·rw[h0]at hb⊢;have hb:acc.length+([114,101,116,117,114,110]++[]:LI).length<=MX:=hb;rw[aQ]at hb;rw[hw _ _ hb,al,dz (by rfl)];show _=U ((),pst ns (acc++([114,101,116,117,114,110]++[])),(),(),());rw[aQ]
  ·have mU:(cX (cY ns ↑i)).isEmpty=false:=(by simpa using h0);have ZG:(cX (cY ns ↑i)).length≠0:=(by simpa using h0);rw[mU,af]at hb⊢;simp only[au,aw,ay]at hb;rw[hw _ _ (by simp only[aw,ay];omega),al,dn (by omega)];dsimp only;rw[hw _ _ (by simp only[au,aw,ay];omega),al];dsimp only;rw[hL _ (by simp only[au,aw,ay];omega),al];simp only[aC]
 by_cases F7:(cY ns ↑i).1=14
 ·have hk:kn (cY ns ↑i)=14:=F7;have hl:=am0 mF hk;have ZM:=hB _ (dP (x:=cY ns ↑i) (j:=0) (by omega));have EZ:=hB _ (dP (x:=cY ns ↑i) (j:=1) (by omega));unfold jH;rw[hk];show PS ns ↑i t ([116,114,121,32]++fR ns G ((cX (cY ns ↑i)).getD 0 0) t++([32,99,97,116,99,104,32]++fu (df (cY ns ↑i))++[32])++fR ns G ((cX (cY ns ↑i)).getD 1 0) t)
  refine(((px ns).and ZM).and EZ).up λn ⟨⟨hw,ZM⟩,EZ⟩ acc hb=> ?_
  simp only[au,aw,ay]at hb;rw[chain];dsimp only;rw[db vR,db rP,db Ae,dn F7,hw _ _ (by simp only[aw,ay];omega),al,dn (by omega)];dsimp only;rw[ZM _ (by simp only[au,aw,ay];omega),al,c8 (r6 (by unfold MX;omega)),c8 (r6 (by simp only[au,aw,ay];unfold MX;omega))];dsimp only;rw[hw _ _ (by simp only[au,aw,ay];omega),al,dn (by omega)];dsimp only;rw[EZ _ (by simp only[au,aw,ay];omega),al];simp only[aC]
 by_cases Lf:(cY ns ↑i).1=15
 ·have hk:kn (cY ns ↑i)=15:=Lf;have hl:=al9 mF hk;have ml:=hE _ (dP (x:=cY ns ↑i) (j:=0) (by omega));unfold jH;rw[hk];show PS ns ↑i t ([116,104,114,111,119,32]++E ((cX (cY ns ↑i)).getD 0 0) t)
  refine((px ns).and ml).up λn ⟨hw,ml⟩ acc hb=> ?_
  simp only[au,aw,ay]at hb;rw[chain];dsimp only;rw[db vR,db rP,db Ae,db F7,dn Lf,hw _ _ (by simp only[aw,ay];omega),al,dn (by omega)];dsimp only;rw[ml _ (by simp only[au,aw,ay];omega),al];simp only[aC]
 ·have e:jH ns E G (cY ns ↑i) ↑i t=[]:=by
   unfold jH
   have d:∀c:Int,¬ (cY ns ↑i).1=c->I (kn (cY ns ↑i)=c)=false:=λc h=>aa h
   rw[d _ h1,d _ h2,d _ h3,d _ h4,d _ h5,d _ h6,d _ zT,d _ h7,d _ h8,d _ h9,d _ xo,d _ vR,d _ rP,d _ Ae,d _ F7,d _ Lf];rfl
  rw[e]
  refine dF.up λn _ acc _=> ?_
  rw[chain];dsimp only;rw[db vR,db rP,db Ae,db F7,db Lf,aQ]
end
end Go.Abs.D
end

section
namespace Go.Abs.D
section
variable{ns:List Node}(iE:∀i:Nat,i<ns.length->okN ns i (cY ns (i:Int))=av){st:LI}(zQ:∀i:Nat,i<ns.length->vI st (cX (cY ns (i:Int)))+WB<=uK st (i:Int))
include iE zQ
omit zQ in
theorem Wg (Kj:∀i:Nat,i<ns.length->J0 (cY ns (i:Int))):∀m i:Nat,i<m->i<ns.length->∀t,t+m<=10000->
  PE ns ↑i t ((prP ns m).1 ↑i t)/\PS ns ↑i t ((prP ns m).2 ↑i t)/\(kn (cY ns ↑i)=7->PC ns ↑i t ((prP ns m).2 ↑i t))
 |0,i,h,_,_,_=>absurd h (by omega)
 |m+1,i,ac4,hi,t,ht=>by
  have ih:=Wg Kj m
  have blk:∀j:Nat,j<=m->j<ns.length->PB ns ↑j t (fR ns (prP ns m).2 ↑j t):=λj a73 hj=>by
   have:=(oK (iE j hj)).2.1
   exact Vs _ hj t (by omega) (by omega) λk hk=>by
    obtain⟨j',rfl,Zq⟩:=j1 iE j hj k hk
    grind
  have hB:∀k∈cX (cY ns ↑i),PB ns k t (fR ns (prP ns m).2 k t):=λk hk=>by
   obtain⟨j,rfl,hj⟩:=j1 iE i hi k hk
   grind
  have hE:∀k∈cX (cY ns ↑i),PE ns k t ((prP ns m).1 k t):=λk hk=>by
   obtain⟨j,rfl,hj⟩:=j1 iE i hi k hk;exact(ih j (by omega) (by omega) t (by omega)).1
  have hF:∀k∈cX (cY ns ↑i),kn (cY ns k)=36->PF ns k t (fnT ns (prP ns m).2 (cY ns k) t):=λk hk zh=>by
   obtain⟨j,rfl,hj⟩:=j1 iE i hi k hk;obtain⟨om,_⟩:=PI (iE j (by omega)) zh;have m0:=dP (x:=cY ns ↑j) (j:=0) (by omega);obtain⟨b,e,hb⟩:=j1 iE j (by omega) _ m0;exact aa9 iE _ (by omega) zh e t (blk b (by omega) (by omega))
  have hC:∀k∈cX (cY ns ↑i),kn (cY ns k)=7->PC ns k t ((prP ns m).2 k t):=λk hk h7=>by
   obtain⟨j,rfl,hj⟩:=j1 iE i hi k hk;exact(ih j (by omega) (by omega) t (by omega)).2.2 h7
  have mm:=j1 iE i hi
  have aM8:kn (cY ns ↑i)=7->PC ns ↑i t (ifT ns (prP ns m).1 (prP ns m).2 (cY ns ↑i) t):=λh7=>QP iE hi h7 hE hB hC mm
  refine⟨VY iE hi (Kj i hi) hE (λzh=> ?_) mm,VE iE hi hE hB (blk i (by omega) hi) hF aM8 mm,λh7=> ?_⟩
  ·obtain⟨om,_⟩:=PI (iE i hi) zh;exact hB _ (dP (x:=cY ns ↑i) (j:=0) (by omega))
  simp_all[prP,ifT,cY,jH]
end
end Go.Abs.D
end

section
namespace Go.Abs.D
def pl5 (ns) (G:Int->Nat->LI):∀r pre,(pre++r).length<=100000->(∀k∈r,PS ns k 0 (G k 0))->Evt λn=>∀acc:LI,acc.length+(r.flatMap λk=>G k 0++[10]).length<=MX->
  pG (S.tab n) (pst ns acc) (pre++r) ((pre++r).length) pre.length=U (an (pst ns (acc++r.flatMap λk=>G k 0++[10]),()))
 |[],pre,hl,_=>dF.up λn _ acc _=>by
  rw[yv,dz (by simp)];simp
 |m::r,pre,hl,h=>by
  have hlen:(pre++m::r).length=pre.length+(r.length+1):=(by simp);have ih:=pl5 ns G r (pre++[m]) (by simpa using hl) (λk hk=>h k (aB _ hk))
  refine((ih.and (px ns)).and (h m (aD ..))).up λn ⟨⟨ih,hw⟩,hE⟩ acc hb=> ?_
  rw[bE]at hb⊢;simp only[au,aw,ay]at hb;have hg:(pre++m::r).getD (pre.length:Int).toNat 0=m:=oH pre _ _ 0;rw[yv,dn (by omega),c8 (dm (by omega)),hg];have hE:=hE acc (by omega);have hE:mg (S.tab n) (pst ns acc) m 0=_:=hE;rw[hE,al];dsimp only;rw[hw _ _ (by simp;omega),al,eT (by omega)];dsimp only;have e1:(pre++[m])++r=pre++m::r:=(by simp);have e2:(pre++[m]).length=pre.length+1:=(by simp);rw[e1,e2]at ih;rw[ih _ (by simp only[au,aw,ay];omega)];simp only[aC]
section
variable{ns:List Node}(hN:∀x∈ns,NodeOk x)(hR:∀x∈ns, -9223372036854775808<=sD x/\sD x<=9223372036854775807)
include hN hR in
theorem Kv:Evt λn=>Dk (S.tab n) (ns,())=U (FK ns,dO):=by
 have hs:=CO hN;unfold FK
 by_cases c:(pn ns).1=0
 ·obtain⟨_,h0,h3,hk⟩:=yX c;have iE:=MT c;have xk:ns.length - 1<ns.length:=(by omega);have hl:=(oK (iE _ xk)).2.1;have hlen:=Lu hN hR c
  have h5:=pl5 ns (prP ns ns.length).2 (cX (cY ns ((ns.length - 1:Nat):Int))) [] (by simp only[cG];omega) λk hm=>by
   obtain⟨j,rfl,hj⟩:=j1 iE _ xk k hm;exact(Wg iE (MN hN hR) ns.length j (by omega) (by omega) 0 (by omega)).2.1
  rw[ab c]at hs⊢
  refine(hs.and h5).up λn ⟨hs,h5⟩=> ?_
  have ZB:ar.wrap ((ns.length:Int) - 1)=((ns.length - 1:Nat):Int):=by rw[wrap64 _ (by omega) (by omega)];omega
  have h5:pG (S.tab n) (pst ns []) (cX (cY ns ((ns.length - 1:Nat):Int))) ((cX (cY ns ((ns.length - 1:Nat):Int))).length:Int) 0=U (an (pst ns (rj ns),())):=h5 [] (by rw[ay,bJ];exact hlen);rw[CD,hs,al,dz (by rfl)];dsimp only;rw[ZB,c8 (dm xk)];show(pG (S.tab n) (pst ns []) (cX (cY ns ((ns.length - 1:Nat):Int))) ((cX (cY ns ((ns.length - 1:Nat):Int))).length:Int) 0).bind _=_;rw[h5,al];simp only[dH,aH];have bc2:Bld.Ul (pst ns (rj ns)).2=U (((rj ns).length:Int),rj ns,()):=rfl;rw[bc2,al,ah];dsimp only
  by_cases hc:65536<(rj ns).length
  ·rw[dn (by omega),ab hc];rfl
  ·rw[db (by omega),aa hc];show(Bld.xN (rj ns,())).bind _=_
   have hw:Bld.xN (rj ns,())=U ((rj ns).map byte,(),()):=by
    unfold Bld.xN;dsimp only;rw[fU (show(rj ns).length<=lim by unfold lim;omega)];rfl
   rw[hw];rfl
 ·rw[aa c]at hs⊢
  refine hs.up λn hs=> ?_
  rw[CD,hs,al,c8 (by rfl)];rfl
end
end Go.Abs.D
end

section
namespace Go.Abs.D
def QQ (s) (hG:(∀c∈s,isByte c)/\s.length<=maxLen):Evt λn=>oW (S.tab n) s=U (av,cV):=by
 by_cases hs:1048576<s.length
 ·refine dF.up λn _=> ?_
  grind [oW,td,c8]
 obtain⟨c,p,ns,ay2,N0,h0,hc,e1,e2⟩:=VQ hG.1
 have hN:∀x∈ns,NodeOk x:=λx hx=>(ay2 x hx).1
 have hR:∀x∈ns, -9223372036854775808<=sD x/\sD x<=9223372036854775807:=λx hx=>⟨(ay2 x hx).2.f6.1,(ay2 x hx).2.f6.2⟩
 have t1:Evt λn=>xH (S.tab n) s=U (FK ns,cV):=(e1.and (KK hN hR)).up λn ⟨h1,h2⟩=>by
  grind [xH,HS]
 have t2:Evt λn=>xI (S.tab n) s=U (FK ns,cV):=(e2.and (Kv hN hR)).up λn ⟨h1,h2⟩=>by
  show xI (S.step (S.tab n)) _=_;rw[Ic,h1,al]
  by_cases k:c=0
  ·simp_all[dz]
  ·rw[c8 (by simp_all),h0.2 k];rfl
 refine(t1.and t2).up λn ⟨h1,h2⟩=> ?_
 grind [oW,td,dz]
end Go.Abs.D
end

section
namespace Go.Proofs.YtkappmlkcdbjnaaGreatDoor
open Go.ChangeShapes Go.WideShapes Go.ChangeAt Go.RowKit
def ah2 (h:Abs.Rc r τ x [u])(h1:τ.one=true):Abs.oc u=true:=Abs.eC.Hx (g:=⟨r,λ_=>0,λ_ _=> .nilIface,λ_=>none,λ_=>none,λ_=>[]⟩) (c:= .v τ x) ⟨h1,h⟩
set_option maxRecDepth 100000 in
def Y0 (W) (hL:laidMetH Tryz.prog Rows.fnExactTidiedRow.laid W) (v0) (x0:List Int)(a77:Abs.Rc (Abs.snap W) (.str) x0 [v0])(ay1:Abs.Good (.str) x0):Calls Tryz.prog 3 #[v0] W λe w'=>e= .returned (.bool true)/\Below W.heap.size W w':=by
 obtain⟨N,h⟩:=Abs.D.QQ x0 ay1
 have iE:=(sys N).fn 3 (by kernel_rfl) (x0,()) (true,((),())) (h N (Nat.le_refl N)) (Abs.snap W) W [v0] [] (YV hL) (λb L hb=>Abs.Ug hb)
  ⟨_,_,[],[],rfl,rfl,⟨ah2 a77 rfl,rfl,rfl,_,rfl,a77⟩,⟨rfl,rfl⟩⟩ List.nodup_nil (λb hb=>by simp at hb) (Abs.GB.none rfl)
 refine(Abs.Ft Tryz.func3 rfl (by kernel_rfl) iE).mono ?_;rintro e w' ⟨v,rfl,gC,n1,n2,A,⟨_,h1,_,u,e2,h2⟩,h3⟩
 injection e2 with e2 _
 subst e2;have h2:[v]=[Value.bool true]:=h2
 injection h2 with h2 _
 subst h2;exact⟨rfl,A.below⟩
set_option maxRecDepth 100000 in
theorem T7 (os) (started:os.Started) (H) (enc:TypeId×Value->H):
  ReturnsInHanded {} Tryz.checked os 3 .any (λw args=>(Rows.fnExactTidiedSpec.pre enc Tryz.prog Tryz.f3 Rows.fnExactTidiedRow.domain false w args/\laidMetH Tryz.prog Rows.fnExactTidiedRow.laid w)/\sizedMet enc Tryz.prog Tryz.f3 (OpenSpec.ofChange Rows.fnExactTidiedSpec) false w args)
   (Rows.fnExactTidiedSpec.post enc Tryz.prog Tryz.f3 false true false false):=by
 refine returnsInHanded_of_change_and (C:=Tryz.checked) (X:=λw _=>laidMetH Tryz.prog Rows.fnExactTidiedRow.laid w) (λ_ _ _ hh h=>h.of_heap hh) own started (by kernel_rfl) Tryz.func3
  (ChangeSpec.witness_shaped (enc:=enc) (C:=Tryz.checked) (os:=os) (X:=λw _=>laidMetH Tryz.prog Rows.fnExactTidiedRow.laid w) false (World.laidAll Tryz.prog os Rows.fnExactTidiedRow.laid) #[.string ByteArray.empty] 8 (World.laidAll_os _ _ _)
   (World.shaped_of_ZipB (by kernel_rfl) (by kernel_rfl)) (by kernel_rfl) (by kernel_rfl) (by kernel_rfl)
   (by rw[MakeChecks.laidMetH_plain _ _ _ (by kernel_rfl)];exact laidMet_laidAll _ (by kernel_rfl) (by kernel_rfl))) ?_
 intro W base args ds gs before ae1 hW _ _ hL _;have UJ:∀j t v,Tryz.f3.params[j]?=some t->args[j]?=some v->Value.okWide Tryz.prog W .any base t v:=ae1;have aV1:=hW;obtain⟨p,q,a94,hV,rfl,bl0,qK⟩:=hW;have hA:DataW.TrodAll enc Tryz.prog W 0 (λ_=>true) true Tryz.f3.params.toList args.toList ds p:=a94;rw[Tryz.params3]at hA UJ;obtain⟨v0,vs0,d0,ds0,p0,q0,hargs0,rfl,rfl,h0,r0⟩:=trodAll_cons hA;obtain⟨rfl,rfl,rfl⟩:=trodAll_nil r0
 obtain rfl:args=#[v0]:=by cases args;simp_all
 obtain⟨a0,rfl,rfl,rfl,y0⟩:=Go.ChangeMaps.open_string Tryz.underlying9 (UJ 0 9 v0 rfl rfl) h0;have ay1:Abs.Good .str (Abs.bytesOf a0):=⟨Abs.AX a0,by rw[Abs.iw];exact y0⟩;have bj2:=D8 hV
 match gs,bj2,hV,aV1 with
 |[g1,g2,g3],_,hV,aV1=>
  clear a94 ae1
  refine(Y0 W hL _ _ ⟨a0,rfl,rfl⟩ ay1).mono λe W' ⟨he,ba2⟩=> ?_
  subst he;exact⟨_,rfl,_,_,_,[],_,_,aV1,trodAll_mk1 (shut_bool Tryz.underlying4 _),trodAll_cons_mk (Go.ChangeMaps.shut_string Tryz.underlying9 y0) trodAll_mk0,Below.trodVars laidOut ba2 (by kernel_rfl) hV,ba2.frame _,λh=>by cases h⟩
theorem ai2:Rows.FnExactTidiedSaid:=
 OpenClaim.holds_of_wide 3 Tryz.f3 rfl rfl rfl rfl rfl rfl rfl ⟨rfl,rfl,rfl,rfl,rfl⟩ rfl rfl rfl rfl rfl (by kernel_rfl) Tryz.func3 (by kernel_rfl)
  (of_decide_eq_true (by kernel_rfl)) (by unfold Func.isWrapper;first|(rw[if_pos (by decide+kernel)];kernel_rfl)|(rw[if_neg (by decide+kernel)];exact⟨rfl,rfl⟩))
  (λos started H enc _=>T7 os started H enc)
theorem fnExactTidied_holds:Rows.FnExactTidiedCardSaid:=
 Claim7.holds_tied_plain_at .later [] [.data, .data, .data, .sentinel, .sentinel, .data, .data, .data] true (true, "29fd116946593f0fd24afe423dc53c84978d195f1c40271a292be9b34c6a29fa") true
  ai2 (λ_ h=>by cases h) (by kernel_rfl) (λ_ h=>by cases h) fnExactTidied_row_tie rfl ⟨rfl,rfl⟩ (by kernel_rfl) rfl
  (λf fn hf ap1=>by
   obtain rfl:f=3:=Option.some.inj ((show Tryz.prog.funcNamed "loop.example/warp/laws.FnExactTidied" =some 3 by kernel_rfl).symm.trans hf)|>.symm
   obtain rfl:fn=Tryz.f3:=(Option.some.inj (Tryz.func3.symm.trans ap1)).symm
   exact⟨by kernel_rfl,λj t ht=>by
    rw[Tryz.params3]at ht
    have hm:t∈[9]:=by simpa using Array.mem_of_getElem? ht
    have Ay:([9].all λu=> !Tryz.prog.wantsStandIn u)=true:=by kernel_rfl
    exact(show Tryz.prog.wantsStandIn t=false by simpa using List.all_eq_true.1 Ay t hm)⟩)
  (by kernel_rfl)
end Go.Proofs.YtkappmlkcdbjnaaGreatDoor
#print axioms Go.Proofs.YtkappmlkcdbjnaaGreatDoor.fnExactTidied_holds
end

