/- What is here: both builders of trees beside each other: blocks, tables, units. -/
import Derived.Test.YtkmplfkiafonkaaGreatDoorA6
import Derived.Test.YtkmplfkiafonkaaGreatDoorCards
set_option linter.unusedVariables false
set_option linter.unusedSimpArgs false
set_option maxRecDepth 100000
open Go.IntKind (i64 u64 u8)
section
namespace Go.Abs.D
variable(G:Toks)
def JT (a:Nat):Prop:=∀(nd:List Node) (r:LI),a<=G.out.length->W nd<=4*a->Ac G.out (1000::43::r) a->∃(a':Nat) (xs:LI) (iF:List Node),a<=a'/\a'<G.out.length/\Ac G.out r (a'+1)/\(xs.length<=a'/\W iF+4*a<=W nd+4*a')/\
 (Evt λn=>fw (S.tab n) (G.tI,(a:Int),nd,())=some (xs,(G.tI,(a':Int),iF,()),()))/\
 Evt λn=>iz (S.tab n) (G.tS,(a:Int),nd,()) 43=some (xs,(G.tS,(a':Int),iF,()),(),())
theorem N4 {a:Nat}(hT:JT G (a+1)):JN G bV da [1027] a:=by
 intro nd r ha hn hA;have hL:=G.len;have ht:=of_decide_eq_true (G.tab HS a)
 by_cases hk:KA G.out a=42
 ·rw[aC1 hk]at ht;obtain⟨hl,hA⟩:=b9 ht rfl hA ha;obtain⟨a1,xs,dK,n1,n2,n3,⟨n5,n4⟩,eI,eS⟩:=hT nd r (by omega) (by omega) hA;have Dw:=iY (nd:=dK) (x:=(1,(tkA G.out a).2.1,(tkA G.out a1).2.2.1,(tkA G.out a).2.2.2.1,0,0,[],[],xs,())) (vT G (by decide) (by omega));refine⟨a1+1,dK.length,dK++[(1,(tkA G.out a).2.1,(tkA G.out a1).2.2.1,(tkA G.out a).2.2.2.1,0,0,[],[],xs,())],⟨by omega,by omega,by simp,by omega,n3⟩,(G.base.and eI).up λn ⟨B,h⟩=> ?_,(G.base.and eS).up λn ⟨B,h⟩=> ?_⟩
  ·show bV (S.step (S.tab n)) _=_;simp only[we,B.tI _ _ hl,aC0,h,B.tI _ _ n2,B.cI _ _ _ _ n2 hl (show dK.length<=300000 by have:=iu dK;omega)];rfl
  ·show da (S.step (S.tab n)) _=_;simp only[zL,B.tS _ _ hl,aC0,B.nS,h,B.tS _ _ n2,B.aS _ _ _ n2 (show dK.length<=300000 by have:=iu dK;omega)]
 ·rw[aB9 hk]at ht;exact(qD ht rfl hA ha).elim
theorem Sk:(kinds.all λk=>decide (stI 1032 k=bif decide (k=44)then .left [1018,45,47,1018]else bif decide (k=48)then .left [1,47,1018]else stI 1018 k))=true:=by kernel_rfl
theorem M6:(kinds.all λk=>decide (stI 1029 k=bif ju k||(decide (k=44)||decide (k=48))then(stI 1032 k).then [1030] .no else .gone)&&(decide (stI 1031 k=stI 1029 k)&&decide (stI 1030 k=bif decide (k=46)then .left [1031]else .gone)))=true:=by kernel_rfl
theorem Vb:(kinds.all λk=>decide (stI 1018 k≠ .gone))=true:=by kernel_rfl
structure Entry (a:Nat)(nd:List Node)(a' m:Nat)(iF:List Node):Prop where
 spec:Evt λn=>kG (S.tab n) (G.tS,(a:Int),nd,())=some ((m:Int),(G.tS,(a':Int),iF,()),())
 impl:Evt λn=>∀(b:Int) (ks:LI) (T:S.Tab),T=S.tab n->ks.length<=70000->bQ (S.step T) (G.tI,(a:Int),nd,()) b (35,0,0,0,0,0,[],[],ks,())=
  (bR T (G.tI,(a':Int),iF,()) 46).bind λd=>bQ T d.2.1 b (35,0,0,0,0,0,[],[],ks++[(m:Int)],())
theorem BM {α:Type}{l:List α}{x:α}(h:l.length<=140000):fits (l.length+[x].length)=true:=bc (by unfold lim;simp only[aC3,aC5];omega)
theorem OE {a:Nat}(ha:a<=G.out.length)(hX:∀a',a<=a'->JX G a'){nd:List Node}(hn:W nd<=4*a){r:LI}(Tl:KA G.out a≠43)(hA:Ac G.out (1032::r) a):∃(a' m:Nat)(iF:List Node),a<a'/\a'<=G.out.length/\W iF+4*a<=W nd+4*a'/\Ac G.out r a'/\Entry G a nd a' m iF:=by
 have hL:=G.len;have ht:=of_decide_eq_true (G.tab Sk a)
 have C6:∀a:Nat,a<=G.out.length->(decide ((0:Int)<=(a:Int))&&decide ((a:Int)<(G.tS.length:Int)))=true:=λa h=>an (by rw[G.lS];omega)
 by_cases k1:KA G.out a=44
 ·rw[aC1 k1]at ht;have k2:KA G.out a≠48:=(by omega);obtain⟨hl,hA⟩:=b9 ht rfl hA ha;obtain⟨a1,m1,dK,⟨n1,n2,n3,n4,n5⟩,eI,eS⟩:=hX (a+1) (by omega) nd _ (by omega) (by omega) hA;obtain⟨oR,_,hA⟩:=jb n5 n2 (by decide);obtain⟨oI,_,hA⟩:=jb hA (by omega) (by decide);obtain⟨a2,m2,iI,⟨p1,p2,p3,p4,p5⟩,fI,fS⟩:=hX (a1+1+1) (by omega) dK _ (by omega) (by omega) hA;obtain⟨c,rfl⟩:∃c,a2=c+1:=⟨a2 - 1,by omega⟩;have hc:c<G.out.length:=(by omega);have Dw:=iY (nd:=iI) (x:=(41,(tkA G.out a).2.1,(tkA G.out c).2.2.1,(tkA G.out a).2.2.2.1,0,0,[],[],[(m1:Int),(m2:Int)],())) (vT G (by decide) (by simp));refine⟨c+1,iI.length,iI++[(41,(tkA G.out a).2.1,(tkA G.out c).2.2.1,(tkA G.out a).2.2.2.1,0,0,[],[],[(m1:Int),(m2:Int)],())],by omega,p2,by omega,p5, ?_, ?_⟩
  ·have hj:Evt λn=>fT (S.tab n) (G.tS,((a1+1+1:Nat):Int),dK,()) (41,(tkA G.out a).2.1,0,(tkA G.out a).2.2.2.1,0,0,[],[],[]++[(m1:Int)],())=some (Sum.inl ((G.tS,((c+1:Nat):Int),iI++[(41,(tkA G.out a).2.1,(tkA G.out c).2.2.1,(tkA G.out a).2.2.2.1,0,0,[],[],[(m1:Int),(m2:Int)],())],()),(iI.length:Int),())):=
    (G.base.and fS).up λn ⟨B,h⟩=>by
     simp only[lO,h,aC0];rw[ad (by rfl),B.aS _ _ _ hc (show iI.length<=300000 by have:=iu iI;omega)];rfl
   refine((G.base.and eS).and hj).up λn ⟨⟨B,h⟩,hj⟩=> ?_
   show kG (S.step (S.tab n)) _=_;rw[om];dsimp only;rw[ad (C6 a ha),G.aS a hl];simp only[B.nS,B.eS _ _ _ ha,aB9 k2,aC1 k1,aC0,cg,cc,aD1,aD6,h,B.tS _ _ oR,B.tS _ _ oI];rw[ad (by rfl),hj];rfl
  ·refine((G.base.and eI).and fI).mono λn ⟨⟨B,h⟩,h2⟩ b ks T hT Gn=> ?_
   subst hT;simp only[iK,B.eI a _ _ ha,aB9 Tl,aC0,aE8,cc,aD1,B.kI a _ ha,aC1 k1,B.tI _ _ hl,h,B.tI _ _ oR,B.tI _ _ oI,h2,B.cI _ _ _ _ hc hl (show iI.length<=300000 by have:=iu iI;omega)];rw[ad (BM (by omega))];rfl
 by_cases k2:KA G.out a=48
 ·rw[aB9 k1,aC1 k2]at ht;obtain⟨hl,hA⟩:=b9 ht rfl hA ha;obtain⟨oR,_,hA⟩:=jb hA (by omega) (by decide);obtain⟨oI,_,hA⟩:=jb hA (by omega) (by decide);obtain⟨a2,m2,iI,⟨p1,p2,p3,p4,p5⟩,fI,fS⟩:=hX (a+1+1+1) (by omega) nd _ (by omega) (by omega) hA;obtain⟨c,rfl⟩:∃c,a2=c+1:=⟨a2 - 1,by omega⟩;have hc:c<G.out.length:=(by omega);have Dw:=iY (nd:=iI) (x:=(42,(tkA G.out a).2.1,(tkA G.out c).2.2.1,(tkA G.out a).2.2.2.1,0,0,(tkA G.out (a+1)).2.2.2.2.2.1,[],[(m2:Int)],())) (S8 G (by decide) (G.R8 _) (by simp));refine⟨c+1,iI.length,iI++[(42,(tkA G.out a).2.1,(tkA G.out c).2.2.1,(tkA G.out a).2.2.2.1,0,0,(tkA G.out (a+1)).2.2.2.2.2.1,[],[(m2:Int)],())],by omega,p2,by omega,p5, ?_, ?_⟩
  ·have hj:Evt λn=>fT (S.tab n) (G.tS,((a+1+1+1:Nat):Int),nd,()) (42,(tkA G.out a).2.1,0,(tkA G.out a).2.2.2.1,0,0,(tkA G.out (a+1)).2.2.2.2.2.1,[],[],())=some (Sum.inl ((G.tS,((c+1:Nat):Int),iI++[(42,(tkA G.out a).2.1,(tkA G.out c).2.2.1,(tkA G.out a).2.2.2.1,0,0,(tkA G.out (a+1)).2.2.2.2.2.1,[],[(m2:Int)],())],()),(iI.length:Int),())):=
    (G.base.and fS).up λn ⟨B,h⟩=>by
     simp only[lO,h,aC0];rw[ad (by rfl),B.aS _ _ _ hc (show iI.length<=300000 by have:=iu iI;omega)];rfl
   refine(G.base.and hj).up λn ⟨B,hj⟩=> ?_
   show kG (S.step (S.tab n)) _=_;rw[om];dsimp only;rw[ad (C6 a ha),G.aS a hl];simp only[B.nS,B.eS _ _ _ ha,aC1 k2,aC0,cc,aD6,B.tS _ _ oR,B.tS _ _ oI,hj,aO,aE3]
  ·refine(G.base.and fI).mono λn ⟨B,h2⟩ b ks T hT Gn=> ?_
   subst hT;simp only[iK,B.eI a _ _ ha,aB9 Tl,aC0,aE8,cc,cg,aD1,B.kI a _ ha,aB9 k1,aC1 k2,B.tI _ _ hl,B.tI _ _ oR,B.tI _ _ oI,h2,B.cI _ _ _ _ hc hl (show iI.length<=300000 by have:=iu iI;omega)];rw[ad (BM (by omega))];rfl
 ·rw[aB9 k1,aB9 k2]at ht
  have hA:Ac G.out (1018::r) a:=by
   rcases uB ha hA with⟨l,e,hl,h⟩|⟨e,h⟩
   ·rw[ht]at e;exact TY e hl h
   ·rw[ht]at e;exact absurd e (of_decide_eq_true (G.tab Vb a))
  obtain⟨a2,m2,iI,⟨p1,p2,p3,p4,p5⟩,fI,fS⟩:=hX a (aE5 _) nd r ha hn hA;obtain⟨c,rfl⟩:∃c,a2=c+1:=⟨a2 - 1,by omega⟩;have hc:c<G.out.length:=(by omega);have hl:a<G.out.length:=(by omega);have Dw:=iY (nd:=iI) (x:=(40,(tkA G.out a).2.1,(tkA G.out c).2.2.1,(tkA G.out a).2.2.2.1,0,0,[],[],[(m2:Int)],())) (vT G (by decide) (by simp));refine⟨c+1,iI.length,iI++[(40,(tkA G.out a).2.1,(tkA G.out c).2.2.1,(tkA G.out a).2.2.2.1,0,0,[],[],[(m2:Int)],())],by omega,p2,by omega,p5, ?_, ?_⟩
  ·have hj:Evt λn=>fT (S.tab n) (G.tS,(a:Int),nd,()) (40,(tkA G.out a).2.1,0,(tkA G.out a).2.2.2.1,0,0,[],[],[],())=some (Sum.inl ((G.tS,((c+1:Nat):Int),iI++[(40,(tkA G.out a).2.1,(tkA G.out c).2.2.1,(tkA G.out a).2.2.2.1,0,0,[],[],[(m2:Int)],())],()),(iI.length:Int),())):=
    (G.base.and fS).up λn ⟨B,h⟩=>by
     simp only[lO,h,aC0];rw[ad (by rfl),B.aS _ _ _ hc (show iI.length<=300000 by have:=iu iI;omega)];rfl
   refine(G.base.and hj).up λn ⟨B,hj⟩=> ?_
   show kG (S.step (S.tab n)) _=_;rw[om];dsimp only;rw[ad (C6 a ha),G.aS a hl];simp only[B.nS,B.eS _ _ _ ha,aB9 k2,aB9 k1,aC0,cg,aD1,hj,aO,aE3]
  ·refine(G.base.and fI).mono λn ⟨B,h2⟩ b ks T hT Gn=> ?_
   subst hT;simp only[iK,B.eI a _ _ ha,aB9 Tl,aC0,aE8,cc,cg,aD1,B.kI a _ ha,aB9 k1,aB9 k2,h2,B.cI _ _ _ _ hc hl (show iI.length<=300000 by have:=iu iI;omega)];rw[ad (BM (by omega))];rfl
theorem LB (b:Nat)(f ln:Int)(r:LI):∀(d a:Nat)(ks:LI)(nd:List Node)(q:Int),G.out.length<a+d->(∀a',a<=a'->JX G a')->a<=G.out.length->ks.length<=a->W nd<=4*a->(q=1029\/q=1031\/(q=1030/\KA G.out a≠46))->Ac G.out (q::43::r) a->
  ∃(a':Nat) (Ph:LI) (iF:List Node),a<=a'/\a'<G.out.length/\W iF+4*a<=W nd+4*a'/\(Ph.length<=a'/\Ac G.out r (a'+1))/\
   (Evt λn=>bQ (S.tab n) (G.tI,(a:Int),nd,()) ↑b (35,0,0,0,0,0,[],[],ks,())=some (Sum.inl ((G.tI,((a'+1:Nat):Int),iF,()),(b:Int),(35,0,0,0,0,0,[],[],Ph,()),())))/\
   Evt λn=>ft (S.tab n) (G.tS,(a:Int),nd,()) (35,f,0,ln,0,0,[],[],ks,())=some (Sum.inl ((G.tS,(a':Int),iF,()),(35,f,0,ln,0,0,[],[],Ph,()),())):=by
 intro d
 induction d with
 |zero=>intro a ks nd q h _ h2;omega
 |succ d ih=>
  intro a ks nd q hd hX ha Gn hn hq hA;have hL:=G.len;have ht:=G.tab M6 a;simp only[aC6,aC4]at ht;obtain⟨t1,t2,t3⟩:=ht
  have fin:Ac G.out (43::r) a->∃(a':Nat) (Ph:LI) (iF:List Node),a<=a'/\a'<G.out.length/\W iF+4*a<=W nd+4*a'/\(Ph.length<=a'/\Ac G.out r (a'+1))/\
   (Evt λn=>bQ (S.tab n) (G.tI,(a:Int),nd,()) ↑b (35,0,0,0,0,0,[],[],ks,())=some (Sum.inl ((G.tI,((a'+1:Nat):Int),iF,()),(b:Int),(35,0,0,0,0,0,[],[],Ph,()),())))/\
   Evt λn=>ft (S.tab n) (G.tS,(a:Int),nd,()) (35,f,0,ln,0,0,[],[],ks,())=some (Sum.inl ((G.tS,(a':Int),iF,()),(35,f,0,ln,0,0,[],[],Ph,()),())):=λh=>by
   obtain⟨hl,hk,h⟩:=jb h ha (by decide);refine⟨a,ks,nd,aE5 _,hl,aE5 _,⟨Gn,h⟩,G.base.up λn B=> ?_,G.base.up λn B=> ?_⟩
   ·show bQ (S.step (S.tab n)) _ _ _=_;simp only[iK,B.eI a _ _ ha,aC1 hk,aC0,aE6,cg,aD6]
   ·show ft (S.step (S.tab n)) _ _=_;simp only[mi,B.kS a _ ha,aC1 hk,aC0,aE6,cg]
  by_cases Gt:q=1030/\KA G.out a≠46
  ·obtain⟨rfl,FH⟩:=Gt;rw[aB9 FH]at t3;exact fin (fi t3 rfl hA ha)
  ·have hs:stI q (KA G.out a)=stI 1029 (KA G.out a):=by
    rcases hq with rfl|rfl|h
    ·rfl
    ·exact t2
    ·exact absurd h Gt
   cases hu:(ju (KA G.out a)||(decide (KA G.out a=44)||decide (KA G.out a=48)))with
   |false=>rw[hu]at t1;exact fin (fi (hs.trans t1) rfl hA ha)
   |true=>
    rw[hu]at t1;have hA:=Fh (hs.trans t1) hA ha
    have Tl:KA G.out a≠43:=λe=>by rw[e]at hu;exact absurd hu (by decide)
    obtain⟨a1,m,dK,n1,n2,n3,n4,hE⟩:=OE G ha hX hn Tl hA
    by_cases FH:KA G.out a1=46
    ·have hr:=of_decide_eq_true (show decide (stI 1030 (KA G.out a1)=bif decide (KA G.out a1=46)then .left [1031]else .gone)=true by
      have:=G.tab M6 a1;simp only[aC6]at this
      exact this.2.2)
     rw[aC1 FH]at hr;obtain⟨oR,hA⟩:=b9 hr rfl n4 n2;obtain⟨a2,Y8,iI,p1,p2,p3,p4,pI,pS⟩:=ih (a1+1) (ks++[(m:Int)]) dK 1031 (by omega) (λa' h=>hX a' (by omega)) (by omega) (by simp;omega) (by omega) (.inr (.inl rfl)) hA;refine⟨a2,Y8,iI,by omega,p2,by omega,p4,((G.base.and hE.impl).and pI).up λn ⟨⟨B,h⟩,hp⟩=> ?_,((G.base.and hE.spec).and pS).up λn ⟨⟨B,h⟩,hp⟩=> ?_⟩
     ·show bQ (S.step (S.tab n)) _ _ _=_;rw[h _ _ _ rfl (by omega),B.eI _ _ _ n2,aC1 FH];exact hp
     ·show ft (S.step (S.tab n)) _ _=_;simp only[mi,B.kS a _ ha,aB9 Tl,aC0,aE8,cc,h];rw[ad (BM (by omega)),B.eS _ _ _ n2,aC1 FH];exact hp
    ·obtain⟨a2,Y8,iI,p1,p2,p3,p4,pI,pS⟩:=ih a1 (ks++[(m:Int)]) dK 1030 (by omega) (λa' h=>hX a' (by omega)) n2 (by simp;omega) (by omega) (.inr (.inr ⟨rfl,FH⟩)) n4;refine⟨a2,Y8,iI,by omega,p2,by omega,p4,((G.base.and hE.impl).and pI).up λn ⟨⟨B,h⟩,hp⟩=> ?_,((G.base.and hE.spec).and pS).up λn ⟨⟨B,h⟩,hp⟩=> ?_⟩
     ·show bQ (S.step (S.tab n)) _ _ _=_;rw[h _ _ _ rfl (by omega),B.eI _ _ _ n2,aB9 FH];exact hp
     ·show ft (S.step (S.tab n)) _ _=_;simp only[mi,B.kS a _ ha,aB9 Tl,aC0,aE8,cc,h];rw[ad (BM (by omega)),B.eS _ _ _ n2,aB9 FH];exact hp
theorem aa3:OK [1021]:=λs hs=>by
 obtain rfl:=List.mem_singleton.1 hs;exact⟨1021,List.mem_singleton.2 rfl,1021,List.mem_singleton.2 rfl,by kernel_rfl,by kernel_rfl,by kernel_rfl⟩
theorem Sg:(kinds.all λk=>decide (k=48)||decide (k=44)||decide (k=40)||decide (stI 1021 k= .gone))=true:=by kernel_rfl
theorem Z7:(kinds.all λk=> !sh k||decide (KJ 0 [((25:Int),(21:Int)),(50,22),(62,19),(69,20)] k=unK k))=true:=by kernel_rfl
theorem Vm (k:Int):rg (unK k):=by unfold unK;cases decide (k=25)<;>cases decide (k=50)<;>cases decide (k=69)<;>decide
theorem SM {a:Nat}(hX:∀a',a<a'->JX G a')(hU:JN G bW dc [1020] (a+1))(hF:∀a',a<a'->JF G a a'):JN G bW dc [1020] a:=by
 intro nd r ha hn hA;have hL:=G.len;have hA:Ac G.out (1020::r) a:=hA;have ht:=of_decide_eq_true (G.tab U3 a);have FG:(decide ((0:Int)<=(a:Int))&&decide ((a:Int)<(G.tI.length:Int)))=true:=an (by rw[G.lI];omega);have RX:=G.tab UI a
 cases hp:sh (KA G.out a)with
 |true=>
  rw[hp]at ht RX;simp only[aE6,aD3,aC6,aH3,aC8]at RX;obtain⟨⟨_,k1⟩,FO⟩:=RX;obtain⟨hl,hA⟩:=b9 ht rfl hA ha;obtain⟨a1,m1,dK,⟨n1,n2,n3,n4,n5⟩,eI,eS⟩:=hU nd r (by omega) (by omega) hA;obtain⟨c,rfl⟩:∃c,a1=c+1:=⟨a1 - 1,by omega⟩;have hc:c<G.out.length:=(by omega);have ZB:=G.tab Z7 a;rw[hp]at ZB;have ZB:=of_decide_eq_true (show decide (KJ 0 [((25:Int),(21:Int)),(50,22),(62,19),(69,20)] (KA G.out a)=unK (KA G.out a))=true from ZB);have Dw:=iY (nd:=dK) (x:=(30,(tkA G.out a).2.1,(tkA G.out c).2.2.1,(tkA G.out a).2.2.2.1,unK (KA G.out a),0,[],[],[(m1:Int)],())) (vT G ⟨by decide,Vm _,by decide⟩ (by simp));refine⟨c+1,dK.length,dK++[(30,(tkA G.out a).2.1,(tkA G.out c).2.2.1,(tkA G.out a).2.2.2.1,unK (KA G.out a),0,[],[],[(m1:Int)],())],⟨by omega,n2,by simp,by omega,n5⟩,(G.base.and eI).up λn ⟨B,h⟩=> ?_,(G.base.and eS).up λn ⟨B,h⟩=> ?_⟩
  ·show bW (S.step (S.tab n)) _=_;rw[cA];dsimp only;rw[ad FG,G.kI a ha,B.pI,hp];simp only[aC0,cc,B.tI _ _ hl,h,ZB,B.cI _ _ _ _ hc hl (show dK.length<=300000 by have:=iu dK;omega)];rfl
  ·show dc (S.step (S.tab n)) _=_;simp only[cT,B.kS a _ ha,aB9 k1,aB9 FO,aC0,cg,B.tS _ _ hl,G.kdA hl,B.pS,hp,cc,h,B.nS,B.sS,B.aS _ _ _ hc (show dK.length<=300000 by have:=iu dK;omega)]
 |false=>
  rw[hp]at ht
  have open_:∀hl:a<G.out.length,((KA G.out a=1/\Ac G.out (1021::r) (a+1))\/(KA G.out a=40/\Ac G.out (1018::41::1021::r) (a+1)))->∃(a' m:Nat) (iF:List Node),Nx G r a nd a' iF m/\
    (Evt λn=>bW (S.tab n) (G.tI,(a:Int),nd,())=some ((m:Int),(G.tI,(a':Int),iF,()),()))/\Evt λn=>dc (S.tab n) (G.tS,(a:Int),nd,())=some ((m:Int),(G.tS,(a':Int),iF,()),()):=λhl FA=>by
   obtain⟨a1,m1,dK,s',Um,⟨n1,n2,n3,n4,n5⟩,⟨q1,q2,q3⟩,eI,eS⟩:=C9 G aa3 hX nd r 1021 (List.mem_singleton.2 rfl) hl hn FA;obtain rfl:=List.mem_singleton.1 Um;have hg:=G.tab Sg a1;rw[aB9 q1,aB9 q2,aB9 q3]at hg;refine⟨a1,m1,dK,⟨n1,n2,n3,n4,fi (of_decide_eq_true hg) rfl n5 n2⟩,(G.base.and eI).up λn ⟨B,h⟩=> ?_,(G.base.and eS).up λn ⟨B,h⟩=> ?_⟩
   ·show bW (S.step (S.tab n)) _=_;rw[cA];dsimp only;rw[ad FG,G.kI a ha,B.pI,hp]
    have jy:∀k:Int,k≠1->k≠40->KA G.out a≠k:=λk h1 h2 e=>by rcases FA with⟨e',_⟩|⟨e',_⟩<;>omega
    simp only[aC0,cg,aB9 (jy 2 (by decide) (by decide)),aB9 (jy 3 (by decide) (by decide)),aB9 (jy 4 (by decide) (by decide)),aB9 (jy 24 (by decide) (by decide)),aB9 (jy 29 (by decide) (by decide)),aB9 (jy 17 (by decide) (by decide)),aB9 (jy 49 (by decide) (by decide)),aB9 (jy 18 (by decide) (by decide)),aB9 (jy 42 (by decide) (by decide)),h]
   ·show dc (S.step (S.tab n)) _=_
    rcases FA with⟨e,_⟩|⟨e,_⟩
    ·simp only[cT,B.kS a _ ha,aC1 e,aC0,cc,h]
    ·have e1:KA G.out a≠1:=(by omega);simp only[cT,B.kS a _ ha,aC1 e,aB9 e1,aC0,cc,cg,h]
  by_cases k1:KA G.out a=1
  ·rw[aC1 k1]at ht;obtain⟨hl,hA⟩:=b9 ht rfl hA ha;exact open_ hl (.inl ⟨k1,hA⟩)
  by_cases FO:KA G.out a=40
  ·rw[aB9 k1,aC1 FO]at ht;obtain⟨hl,hA⟩:=b9 ht rfl hA ha;exact open_ hl (.inr ⟨FO,hA⟩)
  rw[aB9 k1,aB9 FO]at ht
  by_cases k18:KA G.out a=18
  ·rw[aC1 k18]at ht;obtain⟨hl,hA⟩:=b9 ht rfl hA ha;obtain⟨a1,m1,dK,⟨n1,n2,n3,n4,n5⟩,eI,eS⟩:=hF (a+1) (by omega) nd r hl (by omega) (by omega) hA;refine⟨a1,m1,dK,⟨by omega,n2,n3,by omega,n5⟩,(G.base.and eI).up λn ⟨B,h⟩=> ?_,(G.base.and eS).up λn ⟨B,h⟩=> ?_⟩
   ·show bW (S.step (S.tab n)) _=_;rw[cA];dsimp only;rw[ad FG,G.kI a ha,B.pI,hp]
    have jy:∀k:Int,k≠18->KA G.out a≠k:=λk h1 e=>by omega
    simp only[aC0,cg,cc,aB9 (jy 2 (by decide)),aB9 (jy 3 (by decide)),aB9 (jy 4 (by decide)),aB9 (jy 24 (by decide)),aB9 (jy 29 (by decide)),aB9 (jy 17 (by decide)),aB9 (jy 49 (by decide)),aC1 k18,B.tI _ _ hl,h]
   ·show dc (S.step (S.tab n)) _=_
    have jy:∀k:Int,k≠18->KA G.out a≠k:=λk h1 e=>by omega
    simp only[cT,B.kS a _ ha,aB9 k1,aB9 FO,aC0,cg,cc,B.tS _ _ hl,G.kdA hl,B.pS,hp,aB9 (jy 2 (by decide)),aB9 (jy 3 (by decide)),aB9 (jy 4 (by decide)),aB9 (jy 24 (by decide)),aB9 (jy 29 (by decide)),aB9 (jy 17 (by decide)),aB9 (jy 49 (by decide)),aC1 k18,B.nS,h]
  rw[aB9 k18]at ht
  by_cases k42:KA G.out a=42
  ·rw[aC1 k42]at ht;obtain⟨hl,hA⟩:=b9 ht rfl hA ha;obtain⟨a1,ks,dK,n1,n2,n3,⟨n5,n4⟩,eI,eS⟩:=LB G a (tkA G.out a).2.1 (tkA G.out a).2.2.2.1 r (G.out.length+1) (a+1) [] nd 1029 (by omega) (λa' h=>hX a' (by omega)) (by omega) (by simp) (by omega) (.inl rfl) hA
   have hT:Evt λn=>og (S.tab n) (G.tI,(a:Int),nd,())=some ((dK.length:Int),(G.tI,((a1+1:Nat):Int),dK++[(35,(tkA G.out a).2.1,(tkA G.out a1).2.2.1,(tkA G.out a).2.2.2.1,0,0,[],[],ks,())],()),()):=(G.base.and eI).up λn ⟨B,h⟩=>by
    simp only[wc,B.tI _ _ hl,aC0,h,aO,aE3,B.cI _ _ _ _ n2 hl (show dK.length<=300000 by have:=iu dK;omega)];rfl
   have Dw:=iY (nd:=dK) (x:=(35,(tkA G.out a).2.1,(tkA G.out a1).2.2.1,(tkA G.out a).2.2.2.1,0,0,[],[],ks,())) (vT G (by decide) (by omega));refine⟨a1+1,dK.length,dK++[(35,(tkA G.out a).2.1,(tkA G.out a1).2.2.1,(tkA G.out a).2.2.2.1,0,0,[],[],ks,())],⟨by omega,by omega,by simp,by omega,n4⟩,(G.base.and hT).up λn ⟨B,h⟩=> ?_,(G.base.and eS).up λn ⟨B,h⟩=> ?_⟩
   ·show bW (S.step (S.tab n)) _=_;rw[cA];dsimp only;rw[ad FG,G.kI a ha,B.pI,hp]
    have jy:∀k:Int,k≠42->KA G.out a≠k:=λk h1 e=>by omega
    simp only[aC0,cg,cc,aB9 (jy 2 (by decide)),aB9 (jy 3 (by decide)),aB9 (jy 4 (by decide)),aB9 (jy 24 (by decide)),aB9 (jy 29 (by decide)),aB9 (jy 17 (by decide)),aB9 (jy 49 (by decide)),aB9 (jy 18 (by decide)),aC1 k42,h]
   ·show dc (S.step (S.tab n)) _=_
    have jy:∀k:Int,k≠42->KA G.out a≠k:=λk h1 e=>by omega
    simp only[cT,B.kS a _ ha,aB9 k1,aB9 FO,aC0,cg,cc,B.tS _ _ hl,G.kdA hl,B.pS,hp,aB9 (jy 2 (by decide)),aB9 (jy 3 (by decide)),aB9 (jy 4 (by decide)),aB9 (jy 24 (by decide)),aB9 (jy 29 (by decide)),aB9 (jy 17 (by decide)),aB9 (jy 49 (by decide)),aB9 (jy 18 (by decide)),B.nS,h,aO,aE3,B.tS _ _ n2,B.aS _ _ _ n2 (show dK.length<=300000 by have:=iu dK;omega)]
  rw[aB9 k42]at ht
  cases hu:ju (KA G.out a)with
  |false=>rw[hu]at ht;exact(qD ht rfl hA ha).elim
  |true=>
   rw[hu]at ht;obtain⟨hl,hA⟩:=b9 ht rfl hA ha
   have leaf:∀(ki:Int) (x5:Int) (x6:LI) (ap9:rg3 ki 0 x5) (ao3:∀c∈x6,isByte c),(∀(T:S.Tab),PW G.out G.tI G.tS T->bW (S.step T) (G.tI,(a:Int),nd,())=(cJ T (ki,0,0,0,0,x5,x6,[],[],()) (G.tI,(a:Int),nd,()) ↑a).bind λd=>some (d.1,d.2.2.1,()))->
     (∀(T:S.Tab),PW G.out G.tI G.tS T->dc (S.step T) (G.tS,(a:Int),nd,())=(aH T (G.tS,((a+1:Nat):Int),nd,()) (ki,(tkA G.out a).2.1,0,(tkA G.out a).2.2.2.1,0,x5,x6,[],[],())).bind λd=>some (d.1,d.2.1,()))->
     ∃(a' m:Nat) (iF:List Node),Nx G r a nd a' iF m/\(Evt λn=>bW (S.tab n) (G.tI,(a:Int),nd,())=some ((m:Int),(G.tI,(a':Int),iF,()),()))/\Evt λn=>dc (S.tab n) (G.tS,(a:Int),nd,())=some ((m:Int),(G.tS,(a':Int),iF,()),()):=λki x5 x6 ap9 ao3 h1 h2=>by
    have Dw:=iY (nd:=nd) (x:=(ki,(tkA G.out a).2.1,(tkA G.out a).2.2.1,(tkA G.out a).2.2.2.1,0,x5,x6,[],[],())) (S8 G ap9 ao3 (by simp));refine⟨a+1,nd.length,nd++[(ki,(tkA G.out a).2.1,(tkA G.out a).2.2.1,(tkA G.out a).2.2.2.1,0,x5,x6,[],[],())],⟨by omega,by omega,by simp,by omega,hA⟩,G.base.up λn B=> ?_,G.base.up λn B=> ?_⟩
    ·show bW (S.step (S.tab n)) _=_;rw[h1 _ B,B.uI _ _ _ _ hl hl (show nd.length<=300000 by have:=iu nd;omega)];rfl
    ·show dc (S.step (S.tab n)) _=_;rw[h2 _ B,B.aS _ _ _ hl (show nd.length<=300000 by have:=iu nd;omega)];rfl
   by_cases k2:KA G.out a=2
   ·exact leaf 23 (tkA G.out a).2.2.2.2.1 [] ⟨by decide,by decide,(G.ZU a).n⟩ (λ_ h=>nomatch h) (λT B=>by rw[cA];dsimp only;rw[ad FG,G.kI a ha,B.pI,hp];simp only[aC0,cg,cc,G.aI a hl,aC1 k2]) (λT B=>by simp only[cT,B.kS a _ ha,aB9 k1,aB9 FO,aC0,cg,cc,B.tS _ _ hl,G.kdA hl,B.pS,hp,aC1 k2,B.nS])
   by_cases k3:KA G.out a=3
   ·exact leaf 24 0 (tkA G.out a).2.2.2.2.2.1 (by decide) (G.R8 _) (λT B=>by rw[cA];dsimp only;rw[ad FG,G.kI a ha,B.pI,hp];simp only[aC0,cg,cc,G.aI a hl,aB9 k2,aC1 k3]) (λT B=>by simp only[cT,B.kS a _ ha,aB9 k1,aB9 FO,aC0,cg,cc,B.tS _ _ hl,G.kdA hl,B.pS,hp,aB9 k2,aC1 k3,B.nS])
   by_cases k4:KA G.out a=4
   ·exact leaf 25 0 (tkA G.out a).2.2.2.2.2.1 (by decide) (G.R8 _) (λT B=>by rw[cA];dsimp only;rw[ad FG,G.kI a ha,B.pI,hp];simp only[aC0,cg,cc,G.aI a hl,aB9 k2,aB9 k3,aC1 k4]) (λT B=>by simp only[cT,B.kS a _ ha,aB9 k1,aB9 FO,aC0,cg,cc,B.tS _ _ hl,G.kdA hl,B.pS,hp,aB9 k2,aB9 k3,aC1 k4,B.nS])
   by_cases k24:KA G.out a=24
   ·exact leaf 20 0 [] (by decide) (λ_ h=>nomatch h) (λT B=>by rw[cA];dsimp only;rw[ad FG,G.kI a ha,B.pI,hp];simp only[aC0,cg,cc,G.aI a hl,aB9 k2,aB9 k3,aB9 k4,aC1 k24]) (λT B=>by simp only[cT,B.kS a _ ha,aB9 k1,aB9 FO,aC0,cg,cc,B.tS _ _ hl,G.kdA hl,B.pS,hp,aB9 k2,aB9 k3,aB9 k4,aC1 k24,B.nS])
   by_cases k29:KA G.out a=29
   ·exact leaf 21 0 [] (by decide) (λ_ h=>nomatch h) (λT B=>by rw[cA];dsimp only;rw[ad FG,G.kI a ha,B.pI,hp];simp only[aC0,cg,cc,G.aI a hl,aB9 k2,aB9 k3,aB9 k4,aB9 k24,aC1 k29]) (λT B=>by simp only[cT,B.kS a _ ha,aB9 k1,aB9 FO,aC0,cg,cc,B.tS _ _ hl,G.kdA hl,B.pS,hp,aB9 k2,aB9 k3,aB9 k4,aB9 k24,aC1 k29,B.nS])
   by_cases k17:KA G.out a=17
   ·exact leaf 22 0 [] (by decide) (λ_ h=>nomatch h) (λT B=>by rw[cA];dsimp only;rw[ad FG,G.kI a ha,B.pI,hp];simp only[aC0,cg,cc,G.aI a hl,aB9 k2,aB9 k3,aB9 k4,aB9 k24,aB9 k29,aC1 k17]) (λT B=>by simp only[cT,B.kS a _ ha,aB9 k1,aB9 FO,aC0,cg,cc,B.tS _ _ hl,G.kdA hl,B.pS,hp,aB9 k2,aB9 k3,aB9 k4,aB9 k24,aB9 k29,aC1 k17,B.nS])
   by_cases k49:KA G.out a=49
   ·exact leaf 27 0 [] (by decide) (λ_ h=>nomatch h) (λT B=>by rw[cA];dsimp only;rw[ad FG,G.kI a ha,B.pI,hp];simp only[aC0,cg,cc,G.aI a hl,aB9 k2,aB9 k3,aB9 k4,aB9 k24,aB9 k29,aB9 k17,aC1 k49]) (λT B=>by simp only[cT,B.kS a _ ha,aB9 k1,aB9 FO,aC0,cg,cc,B.tS _ _ hl,G.kdA hl,B.pS,hp,aB9 k2,aB9 k3,aB9 k4,aB9 k24,aB9 k29,aB9 k17,aC1 k49,B.nS])
   exfalso
   unfold ju at hu;rw[hp,aB9 k1,aB9 FO,aB9 k18,aB9 k42,aB9 k2,aB9 k3,aB9 k4,aB9 k24,aB9 k29,aB9 k17,aB9 k49]at hu;cases hu
end Go.Abs.D
end

section
namespace Go.Abs.D
variable(G:Toks)
def Kv (Q:LI->Prop):Prop:=∀st a,Q st->a<=G.out.length->Ac G.out st a->KA G.out a=46->a<G.out.length/\∃KW,Q KW/\Ac G.out (1::KW) (a+1)
theorem Lp {Q:LI->Prop}(hQ:Kv G Q)(nd:List Node):∀(d a:Nat)(st:LI)(ns:List LI),G.out.length<a+d->a<=G.out.length->nmO ns a->Q st->Ac G.out st a->
  ∃(a':Nat) (KW:LI) (RK:List LI),a<=a'/\a'<=G.out.length/\Q KW/\Ac G.out KW a'/\KA G.out a'≠46/\nmO RK a'/\
   (Evt λn=>gj (S.tab n) (G.tI,(a:Int),nd,()) ns=some (Sum.inl ((G.tI,(a':Int),nd,()),RK,())))/\
   Evt λn=>∀t,fy (S.tab n) (G.tS,(a:Int),nd,()) t ns=some (Sum.inl ((G.tS,(a':Int),nd,()),RK,())):=by
 intro d
 induction d with
 |zero=>intro a st ns h h2;omega
 |succ d ih=>
  intro a st ns hd ha hn hq hA;have hL:=G.len
  by_cases hk:KA G.out a=46
  ·obtain⟨hl,WC,q1,Yy⟩:=hQ st a hq ha hA hk;obtain⟨oR,_,Yy⟩:=jb Yy (by omega) (by decide);obtain⟨a2,RY,ad8,p1,p2,p3,p4,p5,p6,pI,pS⟩:=ih (a+1+1) WC (ns++[(tkA G.out (a+1)).2.2.2.2.2.1]) (by omega) (by omega) (hn.snoc (by omega) (G.R8 _)) q1 Yy;refine⟨a2,RY,ad8,by omega,p2,p3,p4,p5,p6,(G.base.and pI).up λn ⟨B,h⟩=> ?_,(G.base.and pS).up λn ⟨B,h⟩ t=> ?_⟩
   ·show gj (S.step (S.tab n)) _ _=_;simp only[nP,B.eI _ _ _ ha,aC1 hk,aC0,cc,aD6,B.tI _ _ oR];rw[ad (BM (by have:=hn.2;omega))];exact h
   ·show fy (S.step (S.tab n)) _ _ _=_;simp only[mg,B.eS _ _ _ ha,aC1 hk,aC0,cc,aD6,B.tS _ _ oR];rw[ad (BM (by have:=hn.2;omega))];exact h _
  ·refine⟨a,st,ns,aE5 _,ha,hq,hA,hk,hn,G.base.up λn B=> ?_,G.base.up λn B t=> ?_⟩
   ·show gj (S.step (S.tab n)) _ _=_;simp only[nP,B.eI _ _ _ ha,aB9 hk,aC0,cg,aD1]
   ·show fy (S.step (S.tab n)) _ _ _=_;simp only[mg,B.eS _ _ _ ha,aB9 hk,aC0,cg,aD1]
theorem Br {Q:LI->Prop}(hQ:Kv G Q)(nd:List Node){a:Nat}{st:LI}(ha:a<=G.out.length)(hq:Q st)(hA:Ac G.out (1::st) a):
  ∃(a':Nat) (KW:LI) (ns:List LI),a<a'/\a'<=G.out.length/\Q KW/\Ac G.out KW a'/\KA G.out a'≠46/\nmO ns a'/\
   (Evt λn=>iO (S.tab n) (G.tI,(a:Int),nd,())=some (ns,(G.tI,(a':Int),nd,()),()))/\
   Evt λn=>gK (S.tab n) (G.tS,(a:Int),nd,())=some (ns,(G.tS,(a':Int),nd,()),()):=by
 obtain⟨hl,_,hA⟩:=jb hA ha (by decide);obtain⟨a2,RY,ad8,p1,p2,p3,p4,p5,p6,pI,pS⟩:=Lp G hQ nd (G.out.length+1) (a+1) st [(tkA G.out a).2.2.2.2.2.1] (by omega) (by omega) ⟨λx hx=>by rw[List.mem_singleton.1 hx];exact G.R8 _,by simp⟩ hq hA;refine⟨a2,RY,ad8,by omega,p2,p3,p4,p5,p6,(G.base.and pI).up λn ⟨B,h⟩=> ?_,(G.base.and pS).up λn ⟨B,h⟩=> ?_⟩
 ·show iO (S.step (S.tab n)) _=_;simp only[wA,B.tI _ _ hl,aC0,h,aO,aE3]
 ·show gK (S.step (S.tab n)) _=_;simp only[sH,B.tS _ _ hl,aC0,h,aO,aE3]
abbrev JB (a:Nat):Prop:=JN G bV da [1027] a
theorem UG:(kinds.all λk=>decide (stI 1003 k=bif decide (k=15)then .left [1018,1027,1003]else bif decide (k=16)then .left [1027]else .gone))=true:=by kernel_rfl
def JC (a:Nat):Prop:=∀(nd:List Node) (r:LI),a<G.out.length->W nd<=4*a->Ac G.out (1018::1027::1003::r) (a+1)->∃(a' m:Nat) (iF:List Node),Nx G r a nd a' iF m/\
 (Evt λn=>fR (S.tab n) (G.tI,(a:Int),nd,())=some ((m:Int),(G.tI,(a':Int),iF,()),()))/\
 Evt λn=>iW (S.tab n) (G.tS,((a+1:Nat):Int),nd,()) (tkA G.out a)=some ((m:Int),(G.tS,(a':Int),iF,()),((),(),(),(),(),(),()),())
theorem N1 {a:Nat}(hX:∀a',a<a'->JX G a')(hB:∀a',a<a'->JB G a')(hC:∀a',a<a'->JC G a'):JC G a:=by
 intro nd r hl hn hA;have hL:=G.len;obtain⟨a1,m1,dK,⟨n1,n2,n3,n4,n5⟩,eI,eS⟩:=hX (a+1) (by omega) nd _ (by omega) (by omega) hA;obtain⟨a2,m2,iI,⟨p1,p2,p3,p4,p5⟩,fI,fS⟩:=hB a1 (by omega) dK (1003::r) n2 (by omega) n5;have ht:=of_decide_eq_true (G.tab UG a2)
 by_cases k1:KA G.out a2=15
 ·rw[aC1 k1]at ht;obtain⟨oI,hA⟩:=b9 ht rfl p5 p2;obtain⟨a3,m3,n9,⟨q1,q2,q3,q4,q5⟩,gI,gS⟩:=hC a2 (by omega) iI r oI (by omega) hA;obtain⟨c,rfl⟩:∃c,a3=c+1:=⟨a3 - 1,by omega⟩;have hc:c<G.out.length:=(by omega);have Dw:=iY (nd:=n9) (x:=(7,(tkA G.out a).2.1,(tkA G.out c).2.2.1,(tkA G.out a).2.2.2.1,0,0,[],[],[(m1:Int),(m2:Int),(m3:Int)],())) (vT G (by decide) (by simp));refine⟨c+1,n9.length,n9++[(7,(tkA G.out a).2.1,(tkA G.out c).2.2.1,(tkA G.out a).2.2.2.1,0,0,[],[],[(m1:Int),(m2:Int),(m3:Int)],())],⟨by omega,q2,by simp,by omega,q5⟩, ?_, ?_⟩
  ·refine(((G.base.and eI).and fI).and gI).up λn ⟨⟨⟨B,h1⟩,h2⟩,h3⟩=> ?_
   show fR (S.step (S.tab n)) _=_;simp only[lN,B.tI _ _ hl,aC0,h1,h2];rw[ad (by rfl),B.kI _ _ p2];simp only[aC0,aC1 k1,cc,h3];rw[ad (by rfl),B.cI _ _ _ _ hc hl (show n9.length<=300000 by have:=iu n9;omega)];rfl
  ·refine(((G.base.and eS).and fS).and gS).up λn ⟨⟨⟨B,h1⟩,h2⟩,h3⟩=> ?_
   show iW (S.step (S.tab n)) _ _=_;simp only[nH,B.nS,aC0,h1,h2,B.kS _ _ p2,aC1 k1,cc,B.tS _ _ oI,h3];rw[ad (by rfl),B.aS _ _ _ hc (show n9.length<=300000 by have:=iu n9;omega)];rfl
 rw[aB9 k1]at ht
 by_cases k2:KA G.out a2=16
 ·rw[aC1 k2]at ht;obtain⟨oI,hA⟩:=b9 ht rfl p5 p2;obtain⟨a3,m3,n9,⟨q1,q2,q3,q4,q5⟩,gI,gS⟩:=hB (a2+1) (by omega) iI r (by omega) (by omega) hA;obtain⟨c,rfl⟩:∃c,a3=c+1:=⟨a3 - 1,by omega⟩;have hc:c<G.out.length:=(by omega);have Dw:=iY (nd:=n9) (x:=(7,(tkA G.out a).2.1,(tkA G.out c).2.2.1,(tkA G.out a).2.2.2.1,0,0,[],[],[(m1:Int),(m2:Int),(m3:Int)],())) (vT G (by decide) (by simp));refine⟨c+1,n9.length,n9++[(7,(tkA G.out a).2.1,(tkA G.out c).2.2.1,(tkA G.out a).2.2.2.1,0,0,[],[],[(m1:Int),(m2:Int),(m3:Int)],())],⟨by omega,q2,by simp,by omega,q5⟩, ?_, ?_⟩
  ·refine(((G.base.and eI).and fI).and gI).up λn ⟨⟨⟨B,h1⟩,h2⟩,h3⟩=> ?_
   show fR (S.step (S.tab n)) _=_;simp only[lN,B.tI _ _ hl,aC0,h1,h2];rw[ad (by rfl),B.kI _ _ p2];simp only[aC0,aB9 k1,cg,B.eI _ _ _ p2,aC1 k2,cc,aD6,h3];rw[ad (by rfl),B.cI _ _ _ _ hc hl (show n9.length<=300000 by have:=iu n9;omega)];rfl
  ·refine(((G.base.and eS).and fS).and gS).up λn ⟨⟨⟨B,h1⟩,h2⟩,h3⟩=> ?_
   show iW (S.step (S.tab n)) _ _=_;simp only[nH,B.nS,aC0,h1,h2,B.kS _ _ p2,aB9 k1,cg,B.eS _ _ _ p2,aC1 k2,cc,aD6,h3];rw[ad (by rfl),B.aS _ _ _ hc (show n9.length<=300000 by have:=iu n9;omega)];rfl
 ·rw[aB9 k2]at ht;obtain⟨c,rfl⟩:∃c,a2=c+1:=⟨a2 - 1,by omega⟩;have hc:c<G.out.length:=(by omega);have Dw:=iY (nd:=iI) (x:=(7,(tkA G.out a).2.1,(tkA G.out c).2.2.1,(tkA G.out a).2.2.2.1,0,0,[],[],[(m1:Int),(m2:Int)],())) (vT G (by decide) (by simp));refine⟨c+1,iI.length,iI++[(7,(tkA G.out a).2.1,(tkA G.out c).2.2.1,(tkA G.out a).2.2.2.1,0,0,[],[],[(m1:Int),(m2:Int)],())],⟨by omega,p2,by simp,by omega,fi ht rfl p5 p2⟩, ?_, ?_⟩
  ·refine((G.base.and eI).and fI).up λn ⟨⟨B,h1⟩,h2⟩=> ?_
   show fR (S.step (S.tab n)) _=_;simp only[lN,B.tI _ _ hl,aC0,h1,h2];rw[ad (by rfl),B.kI _ _ p2];simp only[aC0,aB9 k1,cg,B.eI _ _ _ p2,aB9 k2,aD1,B.cI _ _ _ _ hc hl (show iI.length<=300000 by have:=iu iI;omega)];rfl
  ·refine((G.base.and eS).and fS).up λn ⟨⟨B,h1⟩,h2⟩=> ?_
   show iW (S.step (S.tab n)) _ _=_;simp only[nH,B.nS,aC0,h1,h2,B.kS _ _ p2,aB9 k1,cg,B.eS _ _ _ p2,aB9 k2,aD1,B.aS _ _ _ hc (show iI.length<=300000 by have:=iu iI;omega)]
theorem ZX:OK [1009,1010,1011]:=λs hs=>by
 refine⟨1009,by simp,1010,by simp, ?_⟩;simp only[aF8,List.not_mem_nil,or_false]at hs
 rcases hs with rfl|rfl|rfl<;>exact⟨by kernel_rfl,by kernel_rfl,by kernel_rfl⟩
theorem ab1:OK [1013,1014]:=λs hs=>by
 refine⟨1013,by simp,1014,by simp, ?_⟩;simp only[aF8,List.not_mem_nil,or_false]at hs
 rcases hs with rfl|rfl<;>exact⟨by kernel_rfl,by kernel_rfl,by kernel_rfl⟩
theorem Z0:OK [1016,1017]:=λs hs=>by
 refine⟨1016,by simp,1017,by simp, ?_⟩;simp only[aF8,List.not_mem_nil,or_false]at hs
 rcases hs with rfl|rfl<;>exact⟨by kernel_rfl,by kernel_rfl,by kernel_rfl⟩
def sfx (k:Int):Bool:=decide (k=48)||decide (k=44)||decide (k=40)
theorem QR:(kinds.all λk=>sfx k||((decide (stI 1009 k=bif decide (k=47)then .left [1018,1023]else bif decide (k=46)then .left [1012]else .no)&&(decide (stI 1010 k= .gone)&&decide (stI 1011 k= .no)))&&
 ((decide (stI 1013 k=bif decide (k=47)then .left [1018,1023]else bif decide (k=46)then .left [1012]else .no)&&decide (stI 1014 k= .no))&&(decide (stI 1016 k= .no)&&decide (stI 1017 k= .gone)))))=true:=by kernel_rfl
theorem Pt:(kinds.all λk=>decide (stI 1012 k=bif decide (k=1)then .left [1013]else bif decide (k=40)then .left [1018,41,1014]else .no))=true:=by kernel_rfl
theorem Toks.VA {a:Nat}(h:KA G.out a≠48/\KA G.out a≠44/\KA G.out a≠40):sfx (KA G.out a)=false:=by
 unfold sfx;rw[aB9 h.1,aB9 h.2.1,aB9 h.2.2];rfl
theorem Lq {a:Nat}{s:Int}{r:LI}(hs:s=1009\/s=1013\/s=1014)(ha:a<=G.out.length)(h:KA G.out a≠48/\KA G.out a≠44/\KA G.out a≠40)(hA:Ac G.out (s::r) a):
  a<G.out.length/\((KA G.out a=47/\Ac G.out (1018::1023::r) (a+1))\/(KA G.out a=46/\Ac G.out (1012::r) (a+1))):=by
 have ht:=G.tab QR a;rw[G.VA h]at ht;simp only[aD3,aC6,aC4]at ht;obtain⟨⟨t1,_⟩,⟨t2,t3⟩,_⟩:=ht
 have go:∀{s:Int},stI s (KA G.out a)=(bif decide (KA G.out a=47)then .left [1018,1023]else bif decide (KA G.out a=46)then .left [1012]else .no)->Ac G.out (s::r) a->a<G.out.length/\((KA G.out a=47/\Ac G.out (1018::1023::r) (a+1))\/(KA G.out a=46/\Ac G.out (1012::r) (a+1))):=λe hA=>by
  by_cases k1:KA G.out a=47
  ·rw[aC1 k1]at e;obtain⟨hl,hA⟩:=b9 e rfl hA ha;exact⟨hl, .inl ⟨k1,hA⟩⟩
  rw[aB9 k1]at e
  by_cases k2:KA G.out a=46
  ·rw[aC1 k2]at e;obtain⟨hl,hA⟩:=b9 e rfl hA ha;exact⟨hl, .inr ⟨k2,hA⟩⟩
  rw[aB9 k2]at e;exact(qD e rfl hA ha).elim
 rcases hs with rfl|rfl|rfl
 ·exact go t1 hA
 ·exact go t2 hA
 ·exact(qD t3 rfl hA ha).elim
theorem HN {a:Nat}{r:LI}(ha:a<=G.out.length)(hA:Ac G.out (1012::r) a):∃s0,s0∈([1013,1014]:LI)/\a<G.out.length/\((KA G.out a=1/\Ac G.out (s0::r) (a+1))\/(KA G.out a=40/\Ac G.out (1018::41::s0::r) (a+1))):=by
 have ht:=of_decide_eq_true (G.tab Pt a)
 by_cases k1:KA G.out a=1
 ·rw[aC1 k1]at ht;obtain⟨hl,hA⟩:=b9 ht rfl hA ha;exact⟨1013,by simp,hl, .inl ⟨k1,hA⟩⟩
 rw[aB9 k1]at ht
 by_cases k2:KA G.out a=40
 ·rw[aC1 k2]at ht;obtain⟨hl,hA⟩:=b9 ht rfl hA ha;exact⟨1014,by simp,hl, .inr ⟨k2,hA⟩⟩
 rw[aB9 k2]at ht;exact(qD ht rfl hA ha).elim
theorem targets (b:Int)(f ln:Int)(r:LI):∀(d a:Nat)(ks:LI)(nd:List Node)(s:Int),G.out.length<a+d->(∀a',a<=a'->JX G a')->a<=G.out.length->ks.length<=a->W nd<=4*a->(s=1009\/s=1013\/s=1014)->(KA G.out a≠48/\KA G.out a≠44/\KA G.out a≠40)->Ac G.out (s::r) a->
  ∃(a':Nat) (Ph:LI) (iF:List Node),a<=a'/\a'<G.out.length/\KA G.out a'=47/\Ph.length<=a'/\W iF+4*a<=W nd+4*a'/\Ac G.out (1018::1023::r) (a'+1)/\
   (Evt λn=>eG (S.tab n) (G.tI,(a:Int),nd,()) b ks=some (Sum.inl ((G.tI,(a':Int),iF,()),b,Ph,())))/\
   Evt λn=>eK (S.tab n) (G.tS,(a:Int),nd,()) (5,f,0,ln,0,(ks.length:Int),[],[],ks,())=some (Sum.inl ((G.tS,(a':Int),iF,()),(5,f,0,ln,0,(Ph.length:Int),[],[],Ph,()),())):=by
 intro d
 induction d with
 |zero=>intro a ks nd s h _ h2;omega
 |succ d ih=>
  intro a ks nd s hd hX ha Gn hn hs hk hA;have hL:=G.len;obtain⟨hl,FA⟩:=Lq G hs ha hk hA
  rcases FA with⟨k1,hA⟩|⟨k1,hA⟩
  ·have k2:KA G.out a≠46:=(by omega);refine⟨a,ks,nd,aE5 _,hl,k1,Gn,aE5 _,hA,G.base.up λn B=> ?_,G.base.up λn B=> ?_⟩
   ·show eG (S.step (S.tab n)) _ _ _=_;simp only[nT,B.eI _ _ _ ha,aB9 k2,aC0,cg,aD1]
   ·show eK (S.step (S.tab n)) _ _=_;simp only[oM,B.eS _ _ _ ha,aB9 k2,aC0,cg,aD1]
  ·obtain⟨s0,Y2,oR,hc⟩:=HN G (by omega) hA;obtain⟨a1,m1,dK,s1,Pb,⟨n1,n2,n3,n4,n5⟩,Tk,eI,eS⟩:=C9 G ab1 (λa' h=>hX a' (by omega)) nd r s0 Y2 oR (by omega) hc;obtain⟨a2,Y8,iI,p1,p2,p3,p4,p5,p6,pI,pS⟩:=ih a1 (ks++[(m1:Int)]) dK s1 (by omega) (λa' h=>hX a' (by omega)) n2 (by simp;omega) (by omega) (by simp only[aF8,List.not_mem_nil,or_false]at Pb;exact .inr Pb) Tk n5;refine⟨a2,Y8,iI,by omega,p2,p3,p4,by omega,p6,((G.base.and eI).and pI).up λn ⟨⟨B,h⟩,hp⟩=> ?_,((G.base.and eS).and pS).up λn ⟨⟨B,h⟩,hp⟩=> ?_⟩
   ·show eG (S.step (S.tab n)) _ _ _=_;simp only[nT,B.eI _ _ _ ha,aC1 k1,aC0,cc,aD6,h];rw[ad (BM (by omega))];exact hp
   ·show eK (S.step (S.tab n)) _ _=_;simp only[oM,B.eS _ _ _ ha,aC1 k1,aC0,cc,aD6,h];rw[ad (BM (by omega)),bH (by omega)];have e:(ks++[(m1:Int)]).length=ks.length+1:=(by simp);rw[e]at hp;exact hp
theorem Jx (st:StT)(x0 x1 x2 x3 x4 x5:Int)(x6:LI)(x7:List LI):∀(r pre ks:LI),(pre++r).length<=70000->ks.length+r.length<=140000->
  Evt λn=>gP (S.tab n) st (x0,x1,x2,x3,x4,x5,x6,x7,ks,()) (pre++r) ((pre++r).length:Int) (pre.length:Int)=some (Sum.inl (st,(x0,x1,x2,x3,x4,x5,x6,x7,ks++r,()),()))
 |[],pre,ks,_,_=>aG.up λn _=>by
  rw[od,aB (by simp)];simp
 |m::r,pre,ks,hl,hk=>by
  have ih:=Jx st x0 x1 x2 x3 x4 x5 x6 x7 r (pre++[m]) (ks++[m]) (by simpa using hl) (by simp at hk⊢;omega);have hlen:(pre++m::r).length=pre.length+(r.length+1):=(by simp);have e1:(pre++[m])++r=pre++m::r:=(by simp);have e2:(pre++[m]).length=pre.length+1:=(by simp);have hg:(pre++m::r).getD (pre.length:Int).toNat 0=m:=my pre _ _ 0;rw[e1,e2]at ih
  refine ih.up λn h=> ?_
  simp only[aC3]at hk;rw[od,aN (by omega),ad (an (by omega))];dsimp only;rw[ad (bc (by unfold lim;simp only[aC3,aC5];omega)),bH (by omega),hg,h];simp
end Go.Abs.D
end

section
namespace Go.Abs.D
variable(G:Toks)
def rOk (r:LI):Prop:=r=[]\/∃r',r=43::r'
theorem Mc {out:List al.den}{a:Nat}(ha:a<=out.length)(h:Ac out [] a):a=out.length/\KA out a=6:=by
 obtain⟨b,h1,h2⟩:=h
 rcases Nat.lt_or_ge a out.length with hl|hl
 ·have Wt:a<(out.map kd).length:=(by simpa using hl);rw[List.drop_eq_getElem_cons Wt]at h1;cases h1
 ·refine⟨by omega, ?_⟩;unfold KA;rw[aE2,List.getElem?_eq_none (by simpa using hl)];rfl
theorem MZ {r:LI}(h:rOk r){a:Nat}(ha:a<=G.out.length)(hA:Ac G.out r a):KA G.out a=43\/KA G.out a=6:=by
 rcases h with rfl|⟨r',rfl⟩
 ·exact .inr (Mc ha hA).2
 ·exact .inl (jb hA ha (by decide)).2.1
theorem MQ:(kinds.all λk=>decide (stI 1001 k=bif decide (k=5)then .left [1000]else .gone)&&(decide (stI 1002 k=bif decide (k=47)then .left [1018,1023]else .gone)&&(decide (stI 1008 k=bif decide (k=46)then .left [1]else .gone)&&
 (decide (stI 1015 k=bif decide (k=1)then .left [1016]else bif decide (k=40)then .left [1018,41,1016]else .no)&&(decide (stI 1004 k=bif decide (k=47)then .left [1018,46,1018,1005,1027]else bif decide (k=46)then .left [1,1006,21,1018,1027]else bif decide (k=21)then .left [1018,1027]else .no)&&
 decide (stI 1005 k=bif decide (k=46)then .left [1018]else .gone))))))=true:=by kernel_rfl
theorem Sb:(kinds.all λk=>decide (k=22)||decide (k=13)||decide (k=18)||decide (k=20)||decide (k=31)||decide (k=19)||decide (k=11)||decide (k=23)||decide (k=27)||decide (k=30)||decide (k=28)||decide (k=14)||decide (k=42)||decide (k=1)||decide (k=40)||decide (k=5)||decide (stI 1000 k= .gone))=true:=by kernel_rfl
theorem QG:stI 1000 22= .left [1,1006,1002,1001]/\stI 1000 13= .left [1,47,1018,1001]/\stI 1000 18= .left [1,1028,1001]/\stI 1000 20= .left [1018,1027,1003,1001]/\stI 1000 31= .left [1018,1027,1001]/\stI 1000 19= .left [1,1004,1001]/\stI 1000 11= .left [1001]/\stI 1000 23= .left [1001]/\
 stI 1000 27= .left [1007,1001]/\stI 1000 30= .left [1027,12,1,1008,1027,1001]/\stI 1000 28= .left [1018,1001]/\stI 1000 14= .left [1015,1001]/\stI 1000 42=(stI 1027 42).then [1001] .no/\stI 1000 1= .left [1009,1001]/\stI 1000 40= .left [1018,41,1011,1001]/\stI 1000 5= .left [1000]:=by
 refine⟨?_, ?_, ?_, ?_, ?_, ?_, ?_, ?_, ?_, ?_, ?_, ?_, ?_, ?_, ?_, ?_⟩<;>kernel_rfl
def JS (a:Nat):Prop:=∀(nd:List Node) (r:LI),rOk r->a<=G.out.length->W nd<=4*a->Ac G.out (1000::r) a->KA G.out a≠5->KA G.out a≠43->KA G.out a≠6->∃(a' m:Nat) (iF:List Node),Nx1 G (1001::r) a nd a' iF m/\
 (Evt λn=>ba (S.tab n) (G.tI,(a:Int),nd,())=some ((m:Int),(G.tI,(a':Int),iF,()),()))/\
 Evt λn=>bE (S.tab n) (G.tS,(a:Int),nd,())=some ((m:Int),(G.tS,(a':Int),iF,()),())
theorem kne {x k:Int}(h:x=k){j:Int}(hj:k≠j):decide (x=j)=false:=aB9 (by omega)
theorem ur {a:Nat}(hX:∀a',a<a'->JX G a'){nd:List Node}{r:LI}(hr:rOk r)(hl:a<G.out.length)(hn:W nd<=4*a){s0:Int}(Y2:s0∈([1009,1010,1011]:LI))
  (hc:(KA G.out a=1/\Ac G.out (s0::1001::r) (a+1))\/(KA G.out a=40/\Ac G.out (1018::41::s0::1001::r) (a+1))):∃(a' m:Nat) (iF:List Node),Nx1 G (1001::r) a nd a' iF m/\
 (Evt λn=>ba (S.tab n) (G.tI,(a:Int),nd,())=some ((m:Int),(G.tI,(a':Int),iF,()),()))/\
 Evt λn=>bE (S.tab n) (G.tS,(a:Int),nd,())=some ((m:Int),(G.tS,(a':Int),iF,()),()):=by
 have hL:=G.len;have ha:=Nat.le_of_lt hl
 have jy:∀k:Int,1≠k->40≠k->decide (KA G.out a=k)=false:=λk h1 h2=>by rcases hc with⟨e,_⟩|⟨e,_⟩<;>exact aB9 (by omega)
 have al4:=jy 22 (by decide) (by decide);have ap1:=jy 13 (by decide) (by decide);have ap4:=jy 18 (by decide) (by decide);have ak9:=jy 20 (by decide) (by decide);have ap5:=jy 31 (by decide) (by decide);have ap6:=jy 19 (by decide) (by decide);have an7:=jy 11 (by decide) (by decide);have n23:=jy 23 (by decide) (by decide);have ao5:=jy 27 (by decide) (by decide);have an0:=jy 30 (by decide) (by decide);have aq2:=jy 28 (by decide) (by decide);have an9:=jy 14 (by decide) (by decide);have ZG:=jy 42 (by decide) (by decide)
 have C6:∀a:Nat,a<=G.out.length->(decide ((0:Int)<=(a:Int))&&decide ((a:Int)<(G.tS.length:Int)))=true:=λa h=>an (by rw[G.lS];omega)
 have am2:∀{a' m:Nat} {iF:List Node},(Evt λn=>jQ (S.tab n) (G.tS,(a:Int),nd,())=some ((m:Int),(G.tS,(a':Int),iF,()),()))->Evt λn=>bE (S.tab n) (G.tS,(a:Int),nd,())=some ((m:Int),(G.tS,(a':Int),iF,()),()):=λh=>(G.base.and h).up λn ⟨B,h⟩=>by
  show bE (S.step (S.tab n)) _=_
  rcases hc with⟨e,_⟩|⟨e,_⟩
  ·simp only[bG,B.kS _ _ ha,aC0,ZG,cg,aC1 e,cc,h]
  ·simp only[bG,B.kS _ _ ha,aC0,ZG,cg,kne e (show(40:Int)≠1 by decide),aC1 e,cc,h]
 obtain⟨a1,m1,dK,s1,Pb,⟨n1,n2,n3,n4,n5⟩,Tk,eI,eS⟩:=C9 G ZX hX nd (1001::r) s0 Y2 hl hn hc;simp only[aF8,List.not_mem_nil,or_false]at Pb;have ht:=G.tab QR a1;rw[G.VA Tk]at ht;simp only[aD3,aC6,aC4]at ht;obtain⟨⟨t1,t2,t3⟩,_⟩:=ht
 by_cases hk:KA G.out a1=46\/KA G.out a1=47
 ·
  have h9:s1=1009:=by
   rcases Pb with rfl|rfl|rfl
   ·rfl
   ·have hA:=fi t2 rfl n5 n2;have h5:=G.tab MQ a1;simp only[aC6,aC4]at h5;have h5:=h5.1;rw[show decide (KA G.out a1=5)=false from aB9 (by omega)]at h5
    rcases MZ G hr n2 (fi h5 rfl hA n2)with h|h<;>omega
   ·exact(qD t3 rfl n5 n2).elim
  subst h9;obtain⟨a2,ks,iI,p1,p2,p3,p4,p5,p6,pI,pS⟩:=targets G ↑a (tkA G.out a).2.1 (tkA G.out a).2.2.2.1 (1001::r) (G.out.length+1) a1 [(m1:Int)] dK 1009 (by omega) (λa' h=>hX a' (by omega)) n2 (by simp;omega) (by omega) (.inl rfl) Tk n5;obtain⟨a3,xs,n9,q1,q2,q3,q4,q5,gI,gS⟩:=xL G (λa' h=>hX a' (by omega)) iI (1001::r) (by omega) (by omega) p6;obtain⟨c,rfl⟩:∃c,a3=c+1:=⟨a3 - 1,by omega⟩;have Xa:c<G.out.length:=(by omega);have Ri:=Jx (G.tS,((c+1:Nat):Int),n9,()) 5 (tkA G.out a).2.1 0 (tkA G.out a).2.2.2.1 0 (ks.length:Int) [] [] xs [] ks (by simp;omega) (by omega);have Dw:=iY (nd:=n9) (x:=(5,(tkA G.out a).2.1,(tkA G.out c).2.2.1,(tkA G.out a).2.2.2.1,0,(ks.length:Int),[],[],ks++xs,())) (vT G ⟨by decide,by decide,by unfold rg;omega⟩ (by simp only[aC2,aC3,aC5];omega));refine⟨c+1,n9.length,n9++[(5,(tkA G.out a).2.1,(tkA G.out c).2.2.1,(tkA G.out a).2.2.2.1,0,(ks.length:Int),[],[],ks++xs,())],⟨by omega,q2,by simp,by omega,q5⟩, ?_, ?_⟩
  ·refine(((G.base.and eI).and pI).and gI).up λn ⟨⟨⟨B,h1⟩,h2⟩,h3⟩=> ?_
   show ba (S.step (S.tab n)) _=_;simp only[bj,B.kI _ _ ha,aC0,al4,ap1,ap4,ak9,ap5,ap6,an7,n23,ao5,an0,aq2,an9,ZG,cg,h1,B.kI _ _ n2]
   by_cases Rw:KA G.out a1=46
   ·simp only[aC1 Rw,aE6,cg,h2,aC0,aO,aE3,B.tI _ _ p2,h3];rw[ad (bc (by unfold lim;omega)),B.cI _ _ _ _ Xa hl (show n9.length<=300000 by have:=iu n9;omega)];rfl
   ·simp only[aB9 Rw,aC1 (hk.resolve_left Rw),aE6,aE8,cg,cc,h2,aC0,aO,aE3,B.tI _ _ p2,h3];rw[ad (bc (by unfold lim;omega)),B.cI _ _ _ _ Xa hl (show n9.length<=300000 by have:=iu n9;omega)];rfl
  ·refine am2 (((((G.base.and eS).and pS).and gS).and Ri).up λn ⟨⟨⟨⟨B,h1⟩,h2⟩,h3⟩,h4⟩=> ?_);show jQ (S.step (S.tab n)) _=_;have h4:gP (S.tab n) (G.tS,((c+1:Nat):Int),n9,()) (5,(tkA G.out a).2.1,0,(tkA G.out a).2.2.2.1,0,(ks.length:Int),[],[],ks,()) xs (xs.length:Int) 0=_:=h4;have h2:eK (S.tab n) (G.tS,(a1:Int),dK,()) (5,(tkA G.out a).2.1,0,(tkA G.out a).2.2.2.1,0,1,[],[],[(m1:Int)],())=_:=h2;rw[rC];dsimp only;rw[ad (C6 a ha),G.aS a hl];simp only[B.nS,aC0,h1];rw[ad (C6 a1 n2),G.kS a1 n2]
   by_cases Rw:KA G.out a1=46
   ·simp only[aC1 Rw,aE6,cg,h2,aC0,aO,aE3,B.tS _ _ p2,h3,h4,B.aS _ _ _ Xa (show n9.length<=300000 by have:=iu n9;omega)]
   ·simp only[aB9 Rw,aE8,cc];rw[ad (C6 a1 n2)];simp only[aC1 (hk.resolve_left Rw),aE6,cg,h2,aC0,aO,aE3,B.tS _ _ p2,h3,h4,B.aS _ _ _ Xa (show n9.length<=300000 by have:=iu n9;omega)]
 ·have Rw:KA G.out a1≠46:=λh=>hk (.inl h)
  have ak8:KA G.out a1≠47:=λh=>hk (.inr h)
  have hA:Ac G.out (1001::r) a1:=by
   rcases Pb with rfl|rfl|rfl
   ·rw[aB9 ak8,aB9 Rw]at t1;exact(qD t1 rfl n5 n2).elim
   ·exact fi t2 rfl n5 n2
   ·exact(qD t3 rfl n5 n2).elim
  obtain⟨c,rfl⟩:∃c,a1=c+1:=⟨a1 - 1,by omega⟩;have Xa:c<G.out.length:=(by omega);have Dw:=iY (nd:=dK) (x:=(6,(tkA G.out a).2.1,(tkA G.out c).2.2.1,(tkA G.out a).2.2.2.1,0,0,[],[],[(m1:Int)],())) (vT G (by decide) (by simp));refine⟨c+1,dK.length,dK++[(6,(tkA G.out a).2.1,(tkA G.out c).2.2.1,(tkA G.out a).2.2.2.1,0,0,[],[],[(m1:Int)],())],⟨by omega,n2,by simp,by omega,hA⟩, ?_, ?_⟩
  ·refine(G.base.and eI).up λn ⟨B,h1⟩=> ?_
   show ba (S.step (S.tab n)) _=_;simp only[bj,B.kI _ _ ha,aC0,al4,ap1,ap4,ak9,ap5,ap6,an7,n23,ao5,an0,aq2,an9,ZG,cg,h1,B.kI _ _ n2,aB9 Rw,aB9 ak8,aE8,cc,B.cI _ _ _ _ Xa hl (show dK.length<=300000 by have:=iu dK;omega)];rfl
  ·refine am2 ((G.base.and eS).up λn ⟨B,h1⟩=> ?_);show jQ (S.step (S.tab n)) _=_;rw[rC];dsimp only;rw[ad (C6 a ha),G.aS a hl];simp only[B.nS,aC0,h1];rw[ad (C6 (c+1) n2),G.kS (c+1) n2];simp only[aB9 Rw,aE8,cc];rw[ad (C6 (c+1) n2)];simp only[aB9 ak8,aE8,cc,aC0,B.aS _ _ _ Xa (show dK.length<=300000 by have:=iu dK;omega)]
end Go.Abs.D
end

section
namespace Go.Abs.D
variable(G:Toks)
theorem Toks.xp (a:Nat):stI 1001 (KA G.out a)=(bif decide (KA G.out a=5)then .left [1000]else .gone)/\stI 1002 (KA G.out a)=(bif decide (KA G.out a=47)then .left [1018,1023]else .gone)/\stI 1008 (KA G.out a)=(bif decide (KA G.out a=46)then .left [1]else .gone)/\
  stI 1015 (KA G.out a)=(bif decide (KA G.out a=1)then .left [1016]else bif decide (KA G.out a=40)then .left [1018,41,1016]else .no)/\
  stI 1004 (KA G.out a)=(bif decide (KA G.out a=47)then .left [1018,46,1018,1005,1027]else bif decide (KA G.out a=46)then .left [1,1006,21,1018,1027]else bif decide (KA G.out a=21)then .left [1018,1027]else .no)/\
  stI 1005 (KA G.out a)=(bif decide (KA G.out a=46)then .left [1018]else .gone):=by
 have h:=G.tab MQ a;simp only[aC6,aC4]at h;exact h
theorem pG {a:Nat}{r:LI}{nd:List Node}(hl:a<G.out.length){a1:Nat}(dK:List Node)(h1:a<a1)(h2:a1<=G.out.length)(h3:W dK+4*a+2<=W nd+4*a1)(hn:W nd<=4*a)(h4:Ac G.out (1001::r) a1)(ki op x5:Int)(ns:List LI)(ks:LI)(hr:rg3 ki op x5)(FC:nmO ns 70000)(Gn:ks.length<=70000)
  (eI:Evt λn=>ba (S.tab (n+1)) (G.tI,(a:Int),nd,())=(au (S.tab n) (G.tI,(a1:Int),dK,()) (a:Int) (ki,0,0,0,op,x5,[],ns,ks,())).bind λd=>some (d.1,d.2.1,()))
  (eS:Evt λn=>bE (S.tab (n+1)) (G.tS,(a:Int),nd,())=(aH (S.tab n) (G.tS,(a1:Int),dK,()) (ki,(tkA G.out a).2.1,0,(tkA G.out a).2.2.2.1,op,x5,[],ns,ks,())).bind λd=>some (d.1,d.2.1,())):
  ∃(a' m:Nat) (iF:List Node),Nx1 G (1001::r) a nd a' iF m/\(Evt λn=>ba (S.tab n) (G.tI,(a:Int),nd,())=some ((m:Int),(G.tI,(a':Int),iF,()),()))/\
   Evt λn=>bE (S.tab n) (G.tS,(a:Int),nd,())=some ((m:Int),(G.tS,(a':Int),iF,()),()):=by
 have hL:=G.len;obtain⟨c,rfl⟩:∃c,a1=c+1:=⟨a1 - 1,by omega⟩;have hc:c<G.out.length:=(by omega);have Dw:=iY (nd:=dK) (x:=(ki,(tkA G.out a).2.1,(tkA G.out c).2.2.1,(tkA G.out a).2.2.2.1,op,x5,[],ns,ks,())) (S0 G hr FC.1 (by have:=FC.2;omega) (by omega));refine⟨c+1,dK.length,dK++[(ki,(tkA G.out a).2.1,(tkA G.out c).2.2.1,(tkA G.out a).2.2.2.1,op,x5,[],ns,ks,())],⟨by omega,h2,by simp,by omega,h4⟩,(G.base.and eI).up λn ⟨B,h⟩=> ?_,(G.base.and eS).up λn ⟨B,h⟩=> ?_⟩
 ·rw[h,B.cI _ _ _ _ hc hl (show dK.length<=300000 by have:=iu dK;omega)];rfl
 ·rw[h,B.aS _ _ _ hc (show dK.length<=300000 by have:=iu dK;omega)];rfl
theorem PK {a:Nat}(hX:∀a',a<a'->JX G a')(hB:∀a',a<a'->JB G a')(az6:JB G a)(hC:JC G a)(hF:∀b a',a<a'->JF G b a'):JS G a:=by
 intro nd r hr ha hn hA h5 Tl h6;have hL:=G.len;obtain⟨au4,au6,ar9,aw9,as3,ar8,aw0,aB8,aw2,az3,ax9,aA9,al0,s1,az4,_⟩:=QG
 have C6:∀a:Nat,a<=G.out.length->(decide ((0:Int)<=(a:Int))&&decide ((a:Int)<(G.tS.length:Int)))=true:=λa h=>an (by rw[G.lS];omega)
 by_cases k22:KA G.out a=22
 ·obtain⟨hl,hA⟩:=b9 au4 k22 hA ha
  have hQ:Kv G (λst=>st=1006::1002::1001::r):=λst a' e OS K5 hk=>by
   subst e;have ht:=of_decide_eq_true (G.tab Dg a');rw[aC1 hk]at ht;obtain⟨hl,hA⟩:=b9 ht rfl K5 OS;exact⟨hl,_,rfl,hA⟩
  obtain⟨a1,WC,ns,n1,n2,rfl,n4,n5,n6,eI,eS⟩:=Br G hQ nd (show a+1<=_ by omega) rfl hA;have ht:=of_decide_eq_true (G.tab Dg a1);rw[aB9 n5]at ht;have hA:=fi ht rfl n4 n2;have Xy:=(G.xp a1).2.1
  by_cases NU:KA G.out a1=47
  ·rw[aC1 NU]at Xy;obtain⟨oR,hA⟩:=b9 Xy rfl hA n2;obtain⟨a2,xs,iI,p1,p2,p3,p4,p5,fI,fS⟩:=xL G (λa' h=>hX a' (by omega)) nd (1001::r) (show a1+1<=_ by omega) (by omega) hA;refine pG G hl iI (by omega) p2 (by omega) hn p5 2 0 0 ns xs (by decide) (n6.up (by omega)) (by omega) (((G.base.and eI).and fI).mono λn ⟨⟨B,h1⟩,h2⟩=> ?_) (((G.base.and eS).and fS).mono λn ⟨⟨B,h1⟩,h2⟩=> ?_)
   ·show ba (S.step (S.tab n)) _=_;simp only[bj,B.kI _ _ ha,aC0,aC1 k22,cc,B.tI _ _ hl,h1,B.eI _ _ _ n2,aC1 NU,aD6,h2]
   ·show bE (S.step (S.tab n)) _=_;simp only[bG,B.kS _ _ ha,aC0,kne k22 (show(22:Int)≠42 by decide),kne k22 (show(22:Int)≠1 by decide),kne k22 (show(22:Int)≠40 by decide),cg,B.tS _ _ hl,G.kdA hl,aC1 k22,cc,B.nS,h1,B.eS _ _ _ n2,aC1 NU,aD6,h2]
  ·rw[aB9 NU]at Xy;refine pG G hl nd (by omega) n2 (by omega) hn (fi Xy rfl hA n2) 2 0 0 ns [] (by decide) (n6.up (by omega)) (by simp) ((G.base.and eI).mono λn ⟨B,h1⟩=> ?_) ((G.base.and eS).mono λn ⟨B,h1⟩=> ?_)
   ·show ba (S.step (S.tab n)) _=_;simp only[bj,B.kI _ _ ha,aC0,aC1 k22,cc,cg,B.tI _ _ hl,h1,B.eI _ _ _ n2,aB9 NU,aD1]
   ·show bE (S.step (S.tab n)) _=_;simp only[bG,B.kS _ _ ha,aC0,kne k22 (show(22:Int)≠42 by decide),kne k22 (show(22:Int)≠1 by decide),kne k22 (show(22:Int)≠40 by decide),cg,B.tS _ _ hl,G.kdA hl,aC1 k22,cc,B.nS,h1,B.eS _ _ _ n2,aB9 NU,aD1]
 by_cases k13:KA G.out a=13
 ·obtain⟨hl,hA⟩:=b9 au6 k13 hA ha;obtain⟨oR,_,hA⟩:=jb hA (by omega) (by decide);have NU:=(jb hA (by omega) (by decide)).2.1;obtain⟨oI,_,hA⟩:=jb hA (by omega) (by decide);obtain⟨a2,m,iI,⟨p1,p2,p3,p4,p5⟩,fI,fS⟩:=hX (a+1+1+1) (by omega) nd (1001::r) (by omega) (by omega) hA
  have YC:Evt λn=>gK (S.tab n) (G.tS,((a+1:Nat):Int),nd,())=some ([(tkA G.out (a+1)).2.2.2.2.2.1],(G.tS,((a+1+1:Nat):Int),nd,()),()):=by
   have h3:Evt λn=>∀t,fy (S.tab n) (G.tS,((a+1+1:Nat):Int),nd,()) t [(tkA G.out (a+1)).2.2.2.2.2.1]=some (Sum.inl ((G.tS,((a+1+1:Nat):Int),nd,()),[(tkA G.out (a+1)).2.2.2.2.2.1],())):=G.base.up λn B t=>by
    show fy (S.step (S.tab n)) _ _ _=_;simp only[mg,B.eS (a+1+1) _ _ (show a+1+1<=_ by omega),kne NU (show(47:Int)≠46 by decide),aC0,cg,aD1]
   exact(G.base.and h3).up λn ⟨B,h⟩=>by
    show gK (S.step (S.tab n)) _=_;simp only[sH,B.tS _ _ oR,aC0,h,aO,aE3]
  refine pG G hl iI (by omega) p2 (by omega) hn p5 3 0 0 [(tkA G.out (a+1)).2.2.2.2.2.1] [(m:Int)] (by decide) ⟨λx hx=>by rw[List.mem_singleton.1 hx];exact G.R8 _,by simp⟩ (by simp) ((G.base.and fI).mono λn ⟨B,h1⟩=> ?_) (((G.base.and fS).and YC).mono λn ⟨⟨B,h1⟩,h2⟩=> ?_)
  ·show ba (S.step (S.tab n)) _=_;simp only[bj,B.kI _ _ ha,aC0,aB9 k22,cg,aC1 k13,cc,B.tI _ _ hl,B.tI _ _ oR,B.tI _ _ oI,h1]
  ·show bE (S.step (S.tab n)) _=_;simp only[bG,B.kS _ _ ha,aC0,kne k13 (show(13:Int)≠42 by decide),kne k13 (show(13:Int)≠1 by decide),kne k13 (show(13:Int)≠40 by decide),cg,B.tS _ _ hl,G.kdA hl,aB9 k22,aC1 k13,cc,B.nS,h2,B.tS _ _ oI,h1]
 by_cases k18:KA G.out a=18
 ·obtain⟨hl,hA⟩:=b9 ar9 k18 hA ha;obtain⟨oR,_,hA⟩:=jb hA (by omega) (by decide)
  have oI:a+1+1<G.out.length:=by
   have ht:=of_decide_eq_true (G.tab QB (a+1+1))
   by_cases hk:KA G.out (a+1+1)=40
   ·rw[aC1 hk]at ht;exact(b9 ht rfl hA (by omega)).1
   ·rw[aB9 hk]at ht;exact(qD ht rfl hA (by omega)).elim
  obtain⟨a2,m,iI,⟨p1,p2,p3,p4,p5⟩,fI,fS⟩:=hF (a+1+1) (a+1+1) (by omega) nd (1001::r) oI (by omega) (by omega) hA;refine pG G hl iI (by omega) p2 (by omega) hn p5 4 0 0 [(tkA G.out (a+1)).2.2.2.2.2.1] [(m:Int)] (by decide) ⟨λx hx=>by rw[List.mem_singleton.1 hx];exact G.R8 _,by simp⟩ (by simp) ((G.base.and fI).mono λn ⟨B,h1⟩=> ?_) ((G.base.and fS).mono λn ⟨B,h1⟩=> ?_)
  ·show ba (S.step (S.tab n)) _=_;simp only[bj,B.kI _ _ ha,aC0,aB9 k22,aB9 k13,cg,aC1 k18,cc,B.tI _ _ hl,B.tI _ _ oR,h1]
  ·show bE (S.step (S.tab n)) _=_;simp only[bG,B.kS _ _ ha,aC0,kne k18 (show(18:Int)≠42 by decide),kne k18 (show(18:Int)≠1 by decide),kne k18 (show(18:Int)≠40 by decide),cg,B.tS _ _ hl,G.kdA hl,aB9 k22,aB9 k13,aC1 k18,cc,B.nS,B.tS _ _ oR];rw[ad (C6 (a+1+1) (by omega)),G.aS _ oI,h1];rfl
 by_cases k20:KA G.out a=20
 ·obtain⟨hl,hA⟩:=b9 aw9 k20 hA ha;obtain⟨a2,m,iI,⟨p1,p2,p3,p4,p5⟩,fI,fS⟩:=hC nd (1001::r) hl hn hA;refine⟨a2,m,iI,⟨p1,p2,p3,by omega,p5⟩,(G.base.and fI).up λn ⟨B,h⟩=> ?_,(G.base.and fS).up λn ⟨B,h⟩=> ?_⟩
  ·show ba (S.step (S.tab n)) _=_;simp only[bj,B.kI _ _ ha,aC0,aB9 k22,aB9 k13,aB9 k18,cg,aC1 k20,cc,h]
  ·show bE (S.step (S.tab n)) _=_;simp only[bG,B.kS _ _ ha,aC0,kne k20 (show(20:Int)≠42 by decide),kne k20 (show(20:Int)≠1 by decide),kne k20 (show(20:Int)≠40 by decide),cg,B.tS _ _ hl,G.kdA hl,aB9 k22,aB9 k13,aB9 k18,aC1 k20,cc,h]
 by_cases k31:KA G.out a=31
 ·obtain⟨hl,hA⟩:=b9 as3 k31 hA ha;obtain⟨a1,m1,dK,⟨n1,n2,n3,n4,n5⟩,eI,eS⟩:=hX (a+1) (by omega) nd _ (by omega) (by omega) hA;obtain⟨a2,m2,iI,⟨p1,p2,p3,p4,p5⟩,fI,fS⟩:=hB a1 (by omega) dK (1001::r) n2 (by omega) n5;refine pG G hl iI (by omega) p2 (by omega) hn p5 8 0 0 [] [(m1:Int),(m2:Int)] (by decide) ⟨(λ_ h=>nomatch h),by simp⟩ (by simp) (((G.base.and eI).and fI).mono λn ⟨⟨B,h1⟩,h2⟩=> ?_) (((G.base.and eS).and fS).mono λn ⟨⟨B,h1⟩,h2⟩=> ?_)
  ·show ba (S.step (S.tab n)) _=_;simp only[bj,B.kI _ _ ha,aC0,aB9 k22,aB9 k13,aB9 k18,aB9 k20,cg,aC1 k31,cc,B.tI _ _ hl,h1,h2]
  ·show bE (S.step (S.tab n)) _=_;simp only[bG,B.kS _ _ ha,aC0,kne k31 (show(31:Int)≠42 by decide),kne k31 (show(31:Int)≠1 by decide),kne k31 (show(31:Int)≠40 by decide),cg,B.tS _ _ hl,G.kdA hl,aB9 k22,aB9 k13,aB9 k18,aB9 k20,aC1 k31,cc,B.nS,h1,h2]
 by_cases k19:KA G.out a=19
 ·obtain⟨hl,hA⟩:=b9 ar8 k19 hA ha
  have hQ:Kv G (λst=>st=1004::1001::r\/st=1006::21::1018::1027::1001::r):=λst a' e OS K5 hk=>by
   rcases e with rfl|rfl
   ·have ht:=(G.xp a').2.2.2.2.1;rw[kne hk (show(46:Int)≠47 by decide),aC1 hk]at ht;obtain⟨hl,hA⟩:=b9 ht rfl K5 OS;exact⟨hl,_, .inr rfl,hA⟩
   ·have ht:=of_decide_eq_true (G.tab Dg a');rw[aC1 hk]at ht;obtain⟨hl,hA⟩:=b9 ht rfl K5 OS;exact⟨hl,_, .inr rfl,hA⟩
  obtain⟨a1,WC,ns,n1,n2,mB,n4,n5,FC,eI,eS⟩:=Br G hQ nd (show a+1<=_ by omega) (.inl rfl) hA
  have FA:(KA G.out a1=47/\a1<G.out.length/\Ac G.out (1018::46::1018::1005::1027::1001::r) (a1+1))\/(KA G.out a1=21/\a1<G.out.length/\Ac G.out (1018::1027::1001::r) (a1+1)):=by
   rcases mB with rfl|rfl
   ·have ht:=(G.xp a1).2.2.2.2.1
    by_cases q1:KA G.out a1=47
    ·rw[aC1 q1]at ht;obtain⟨hl,hA⟩:=b9 ht rfl n4 n2;exact .inl ⟨q1,hl,hA⟩
    rw[aB9 q1,aB9 n5]at ht
    by_cases q2:KA G.out a1=21
    ·rw[aC1 q2]at ht;obtain⟨hl,hA⟩:=b9 ht rfl n4 n2;exact .inr ⟨q2,hl,hA⟩
    rw[aB9 q2]at ht;exact(qD ht rfl n4 n2).elim
   ·have ht:=of_decide_eq_true (G.tab Dg a1);rw[aB9 n5]at ht;obtain⟨hl,h1,hA⟩:=jb (fi ht rfl n4 n2) n2 (by decide);exact .inr ⟨h1,hl,hA⟩
  rcases FA with⟨NU,oR,hA⟩|⟨T8,oR,hA⟩
  ·have hQ:NA G (λst=>st=46::1018::1005::1027::1001::r\/st=1005::1027::1001::r\/st=1027::1001::r):=λst a' e OS K5 hk=>by
    rcases e with rfl|rfl|rfl
    ·obtain⟨hl,_,hA⟩:=jb K5 OS (by decide);exact⟨hl,_, .inr (.inl rfl),hA⟩
    ·have ht:=(G.xp a').2.2.2.2.2;rw[aC1 hk]at ht;obtain⟨hl,hA⟩:=b9 ht rfl K5 OS;exact⟨hl,_, .inr (.inr rfl),hA⟩
    ·have ht:=of_decide_eq_true (G.tab HS a');rw[kne hk (show(46:Int)≠42 by decide)]at ht;exact(qD ht rfl K5 OS).elim
   obtain⟨a2,xs,iI,RY,p1,p2,p3,p4,p5,p6,p7,fI,fS⟩:=G1 G hQ (λa' h=>hX a' (by omega)) (show a1+1<=_ by omega) (show W nd<=4*(a1+1)by omega) (.inl rfl) hA
   have hA:Ac G.out (1027::1001::r) a2:=by
    rcases p5 with rfl|rfl|rfl
    ·exact absurd (jb p6 p2 (by decide)).2.1 p7
    ·have ht:=(G.xp a2).2.2.2.2.2;rw[aB9 p7]at ht;exact fi ht rfl p6 p2
    ·exact p6
   obtain⟨a3,m,n9,⟨q1,q2,q3,q4,q5⟩,gI,gS⟩:=hB a2 (by omega) iI (1001::r) p2 (by omega) hA
   have ar6:Evt λn=>kg (S.tab (n+1)) (G.tS,((a+1:Nat):Int),nd,()) (tkA G.out a)=(aH (S.tab n) (G.tS,(a3:Int),n9,()) (9,(tkA G.out a).2.1,0,(tkA G.out a).2.2.2.1,0,0,[],ns,xs++[(m:Int)],())).bind λd=>some (d.1,d.2.1,((),(),(),(),(),(),()),()):=
    (((G.base.and eS).and fS).and gS).mono λn ⟨⟨⟨B,h1⟩,h2⟩,h3⟩=>by
     show kg (S.step (S.tab n)) _ _=_;simp only[uh,h1,aC0,B.nS,B.tS _ _ oR,G.kdA oR,aC1 NU,cc,h2,h3];rw[ad (BM (by omega))]
   obtain⟨c,rfl⟩:∃c,a3=c+1:=⟨a3 - 1,by omega⟩;have hc:c<G.out.length:=(by omega);have Dw:=iY (nd:=n9) (x:=(9,(tkA G.out a).2.1,(tkA G.out c).2.2.1,(tkA G.out a).2.2.2.1,0,0,[],ns,xs++[(m:Int)],())) (S0 G (by decide) FC.1 (by have:=FC.2;omega) (by simp only[aC2,aC3,aC5];omega));refine⟨c+1,n9.length,n9++[(9,(tkA G.out a).2.1,(tkA G.out c).2.2.1,(tkA G.out a).2.2.2.1,0,0,[],ns,xs++[(m:Int)],())],⟨by omega,q2,by simp,by omega,q5⟩, ?_, ?_⟩
   ·refine(((G.base.and eI).and fI).and gI).up λn ⟨⟨⟨B,h1⟩,h2⟩,h3⟩=> ?_
    show ba (S.step (S.tab n)) _=_;simp only[bj,B.kI _ _ ha,aC0,aB9 k22,aB9 k13,aB9 k18,aB9 k20,aB9 k31,cg,aC1 k19,cc,B.tI _ _ hl,h1,B.eI _ _ _ n2,aC1 NU,aD6,h2,h3];rw[ad (BM (by omega)),B.cI _ _ _ _ hc hl (show n9.length<=300000 by have:=iu n9;omega)];rfl
   ·have V7:Evt λn=>kg (S.tab n) (G.tS,((a+1:Nat):Int),nd,()) (tkA G.out a)=some ((n9.length:Int),(G.tS,((c+1:Nat):Int),n9++[(9,(tkA G.out a).2.1,(tkA G.out c).2.2.1,(tkA G.out a).2.2.2.1,0,0,[],ns,xs++[(m:Int)],())],()),((),(),(),(),(),(),()),()):=
     (G.base.and ar6).up λn ⟨B,h⟩=>by rw[h,B.aS _ _ _ hc (show n9.length<=300000 by have:=iu n9;omega)];rfl
    refine(G.base.and V7).up λn ⟨B,h⟩=> ?_
    show bE (S.step (S.tab n)) _=_;simp only[bG,B.kS _ _ ha,aC0,kne k19 (show(19:Int)≠42 by decide),kne k19 (show(19:Int)≠1 by decide),kne k19 (show(19:Int)≠40 by decide),cg,B.tS _ _ hl,G.kdA hl,aB9 k22,aB9 k13,aB9 k18,aB9 k20,aB9 k31,aC1 k19,cc,h]
  ·have NU:KA G.out a1≠47:=(by omega);obtain⟨a2,m1,iI,⟨p1,p2,p3,p4,p5⟩,fI,fS⟩:=hX (a1+1) (by omega) nd _ (by omega) (by omega) hA;obtain⟨a3,m,n9,⟨q1,q2,q3,q4,q5⟩,gI,gS⟩:=hB a2 (by omega) iI (1001::r) p2 (by omega) p5;obtain⟨c,rfl⟩:∃c,a3=c+1:=⟨a3 - 1,by omega⟩;have hc:c<G.out.length:=(by omega);have Dw:=iY (nd:=n9) (x:=(10,(tkA G.out a).2.1,(tkA G.out c).2.2.1,(tkA G.out a).2.2.2.1,0,0,[],ns,[(m1:Int),(m:Int)],())) (S0 G (by decide) FC.1 (by have:=FC.2;omega) (by simp));refine⟨c+1,n9.length,n9++[(10,(tkA G.out a).2.1,(tkA G.out c).2.2.1,(tkA G.out a).2.2.2.1,0,0,[],ns,[(m1:Int),(m:Int)],())],⟨by omega,q2,by simp,by omega,q5⟩, ?_, ?_⟩
   ·refine(((G.base.and eI).and fI).and gI).up λn ⟨⟨⟨B,h1⟩,h2⟩,h3⟩=> ?_
    show ba (S.step (S.tab n)) _=_;simp only[bj,B.kI _ _ ha,aC0,aB9 k22,aB9 k13,aB9 k18,aB9 k20,aB9 k31,cg,aC1 k19,cc,B.tI _ _ hl,h1,B.eI _ _ _ n2,aB9 NU,aD1,B.tI _ _ oR,h2,h3,B.cI _ _ _ _ hc hl (show n9.length<=300000 by have:=iu n9;omega)];rfl
   ·have V7:Evt λn=>kg (S.tab n) (G.tS,((a+1:Nat):Int),nd,()) (tkA G.out a)=some ((n9.length:Int),(G.tS,((c+1:Nat):Int),n9++[(10,(tkA G.out a).2.1,(tkA G.out c).2.2.1,(tkA G.out a).2.2.2.1,0,0,[],ns,[(m1:Int),(m:Int)],())],()),((),(),(),(),(),(),()),()):=
     (((G.base.and eS).and fS).and gS).up λn ⟨⟨⟨B,h1⟩,h2⟩,h3⟩=>by
      show kg (S.step (S.tab n)) _ _=_;simp only[uh,h1,aC0,B.nS,B.tS _ _ oR,G.kdA oR,aB9 NU,cg,h2,h3];rw[ad (by rfl),B.aS _ _ _ hc (show n9.length<=300000 by have:=iu n9;omega)];rfl
    refine(G.base.and V7).up λn ⟨B,h⟩=> ?_
    show bE (S.step (S.tab n)) _=_;simp only[bG,B.kS _ _ ha,aC0,kne k19 (show(19:Int)≠42 by decide),kne k19 (show(19:Int)≠1 by decide),kne k19 (show(19:Int)≠40 by decide),cg,B.tS _ _ hl,G.kdA hl,aB9 k22,aB9 k13,aB9 k18,aB9 k20,aB9 k31,aC1 k19,cc,h]
 by_cases k11:KA G.out a=11
 ·obtain⟨hl,hA⟩:=b9 aw0 k11 hA ha;refine pG G hl nd (Nat.lt_succ_self a) hl (by omega) hn hA 11 0 0 [] [] (by decide) ⟨(λ_ h=>nomatch h),by simp⟩ (by simp) (G.base.mono λn B=> ?_) (G.base.mono λn B=> ?_)
  ·show ba (S.step (S.tab n)) _=_;simp only[bj,B.kI _ _ ha,aC0,aB9 k22,aB9 k13,aB9 k18,aB9 k20,aB9 k31,aB9 k19,cg,aC1 k11,cc,B.tI _ _ hl]
  ·show bE (S.step (S.tab n)) _=_;simp only[bG,B.kS _ _ ha,aC0,kne k11 (show(11:Int)≠42 by decide),kne k11 (show(11:Int)≠1 by decide),kne k11 (show(11:Int)≠40 by decide),cg,B.tS _ _ hl,G.kdA hl,aB9 k22,aB9 k13,aB9 k18,aB9 k20,aB9 k31,aB9 k19,aC1 k11,cc,B.nS]
 by_cases k23:KA G.out a=23
 ·obtain⟨hl,hA⟩:=b9 aB8 k23 hA ha;refine pG G hl nd (Nat.lt_succ_self a) hl (by omega) hn hA 12 0 0 [] [] (by decide) ⟨(λ_ h=>nomatch h),by simp⟩ (by simp) (G.base.mono λn B=> ?_) (G.base.mono λn B=> ?_)
  ·show ba (S.step (S.tab n)) _=_;simp only[bj,B.kI _ _ ha,aC0,aB9 k22,aB9 k13,aB9 k18,aB9 k20,aB9 k31,aB9 k19,aB9 k11,cg,aC1 k23,cc,B.tI _ _ hl]
  ·show bE (S.step (S.tab n)) _=_;simp only[bG,B.kS _ _ ha,aC0,kne k23 (show(23:Int)≠42 by decide),kne k23 (show(23:Int)≠1 by decide),kne k23 (show(23:Int)≠40 by decide),cg,B.tS _ _ hl,G.kdA hl,aB9 k22,aB9 k13,aB9 k18,aB9 k20,aB9 k31,aB9 k19,aB9 k11,aC1 k23,cc,B.nS]
 by_cases k27:KA G.out a=27
 ·obtain⟨hl,hA⟩:=b9 aw2 k27 hA ha;have ht:=of_decide_eq_true (G.tab X5 (a+1))
  have hI:∀(n:Nat),PW G.out G.tI G.tS (S.tab n)->ba (S.step (S.tab n)) (G.tI,(a:Int),nd,())=brk (ju (KA G.out (a+1))) ((cZ (S.tab n) (G.tI,((a+1:Nat):Int),nd,())).bind λd=>(au (S.tab n) d.2.1 ↑a (13,0,0,0,0,0,[],[],d.1,())).bind λd=>some (d.1,d.2.1,())) ((au (S.tab n) (G.tI,((a+1:Nat):Int),nd,()) ↑a (13,0,0,0,0,0,[],[],[],())).bind λd=>some (d.1,d.2.1,())):=λn B=>by
   simp only[bj,B.kI _ _ ha,aC0,aB9 k22,aB9 k13,aB9 k18,aB9 k20,aB9 k31,aB9 k19,aB9 k11,aB9 k23,cg,aC1 k27,cc,B.tI _ _ hl,B.kI (a+1) _ hl,B.bI]
  have hS:∀(n:Nat),PW G.out G.tI G.tS (S.tab n)->bE (S.step (S.tab n)) (G.tS,(a:Int),nd,())=brk (ju (KA G.out (a+1))) ((eO (S.tab n) (G.tS,((a+1:Nat):Int),nd,())).bind λd=>(aH (S.tab n) d.2.1 (13,(tkA G.out a).2.1,0,(tkA G.out a).2.2.2.1,0,0,[],[],d.1,())).bind λd=>some (d.1,d.2.1,())) ((aH (S.tab n) (G.tS,((a+1:Nat):Int),nd,()) (13,(tkA G.out a).2.1,0,(tkA G.out a).2.2.2.1,0,0,[],[],[],())).bind λd=>some (d.1,d.2.1,())):=λn B=>by
   simp only[bG,B.kS _ _ ha,aC0,kne k27 (show(27:Int)≠42 by decide),kne k27 (show(27:Int)≠1 by decide),kne k27 (show(27:Int)≠40 by decide),cg,B.tS _ _ hl,G.kdA hl,aB9 k22,aB9 k13,aB9 k18,aB9 k20,aB9 k31,aB9 k19,aB9 k11,aB9 k23,aC1 k27,cc,B.nS,B.kS (a+1) _ hl,B.bS]
  cases hu:ju (KA G.out (a+1))with
  |true=>
   rw[hu]at ht;obtain⟨a2,xs,iI,p1,p2,p3,p4,p5,fI,fS⟩:=xL G (λa' h=>hX a' (by omega)) nd (1001::r) (show a+1<=_ by omega) (by omega) (Fh ht hA (by omega));refine pG G hl iI (by omega) p2 (by omega) hn p5 13 0 0 [] xs (by decide) ⟨(λ_ h=>nomatch h),by simp⟩ (by omega) ((G.base.and fI).mono λn ⟨B,h⟩=> ?_) ((G.base.and fS).mono λn ⟨B,h⟩=> ?_)
   ·exact(hI n B).trans (by rw[hu,cc,h];rfl)
   ·exact(hS n B).trans (by rw[hu,cc,h];rfl)
  |false=>
   rw[hu]at ht;refine pG G hl nd (Nat.lt_succ_self a) hl (by omega) hn (fi ht rfl hA (by omega)) 13 0 0 [] [] (by decide) ⟨(λ_ h=>nomatch h),by simp⟩ (by simp) (G.base.mono λn B=> ?_) (G.base.mono λn B=> ?_)
   ·exact(hI n B).trans (by rw[hu,cg])
   ·exact(hS n B).trans (by rw[hu,cg])
 by_cases k30:KA G.out a=30
 ·obtain⟨hl,hA⟩:=b9 az3 k30 hA ha;obtain⟨a1,m1,dK,⟨n1,n2,n3,n4,n5⟩,eI,eS⟩:=hB (a+1) (by omega) nd _ (by omega) (by omega) hA;obtain⟨oR,_,hA⟩:=jb n5 n2 (by decide)
  have hQ:Kv G (λst=>st=1008::1027::1001::r\/st=1027::1001::r):=λst a' e OS K5 hk=>by
   rcases e with rfl|rfl
   ·have ht:=(G.xp a').2.2.1;rw[aC1 hk]at ht;obtain⟨hl,hA⟩:=b9 ht rfl K5 OS;exact⟨hl,_, .inr rfl,hA⟩
   ·have ht:=of_decide_eq_true (G.tab HS a');rw[kne hk (show(46:Int)≠42 by decide)]at ht;exact(qD ht rfl K5 OS).elim
  obtain⟨a2,RY,ns,p1,p2,mB,p4,p5,p6,fI,fS⟩:=Br G hQ dK (show a1+1<=_ by omega) (.inl rfl) hA
  have hA:Ac G.out (1027::1001::r) a2:=by
   rcases mB with rfl|rfl
   ·have ht:=(G.xp a2).2.2.1;rw[aB9 p5]at ht;exact fi ht rfl p4 p2
   ·exact p4
  obtain⟨a3,m,n9,⟨q1,q2,q3,q4,q5⟩,gI,gS⟩:=hB a2 (by omega) dK (1001::r) p2 (by omega) hA;refine pG G hl n9 (by omega) q2 (by omega) hn q5 14 0 0 ns [(m1:Int),(m:Int)] (by decide) (p6.up (by omega)) (by simp) ((((G.base.and eI).and fI).and gI).mono λn ⟨⟨⟨B,h1⟩,h2⟩,h3⟩=> ?_) ((((G.base.and eS).and fS).and gS).mono λn ⟨⟨⟨B,h1⟩,h2⟩,h3⟩=> ?_)
  ·show ba (S.step (S.tab n)) _=_;simp only[bj,B.kI _ _ ha,aC0,aB9 k22,aB9 k13,aB9 k18,aB9 k20,aB9 k31,aB9 k19,aB9 k11,aB9 k23,aB9 k27,cg,aC1 k30,cc,B.tI _ _ hl,h1,B.tI _ _ oR,h2,h3]
  ·show bE (S.step (S.tab n)) _=_;simp only[bG,B.kS _ _ ha,aC0,kne k30 (show(30:Int)≠42 by decide),kne k30 (show(30:Int)≠1 by decide),kne k30 (show(30:Int)≠40 by decide),cg,B.tS _ _ hl,G.kdA hl,aB9 k22,aB9 k13,aB9 k18,aB9 k20,aB9 k31,aB9 k19,aB9 k11,aB9 k23,aB9 k27,aC1 k30,cc,h1,B.tS _ _ oR,B.nS,h2,h3]
 by_cases k28:KA G.out a=28
 ·obtain⟨hl,hA⟩:=b9 ax9 k28 hA ha;obtain⟨a1,m1,dK,⟨n1,n2,n3,n4,n5⟩,eI,eS⟩:=hX (a+1) (by omega) nd _ (by omega) (by omega) hA;obtain⟨c,rfl⟩:∃c,a1=c+1:=⟨a1 - 1,by omega⟩;have hc:c<G.out.length:=(by omega);have Dw:=iY (nd:=dK) (x:=(15,(tkA G.out a).2.1,(tkA G.out c).2.2.1,(tkA G.out a).2.2.2.1,0,0,[],[],[(m1:Int)],())) (vT G (by decide) (by simp));refine⟨c+1,dK.length,dK++[(15,(tkA G.out a).2.1,(tkA G.out c).2.2.1,(tkA G.out a).2.2.2.1,0,0,[],[],[(m1:Int)],())],⟨by omega,n2,by simp,by omega,n5⟩, ?_, ?_⟩
  ·refine(G.base.and eI).up λn ⟨B,h1⟩=> ?_
   show ba (S.step (S.tab n)) _=_;simp only[bj,B.kI _ _ ha,aC0,aB9 k22,aB9 k13,aB9 k18,aB9 k20,aB9 k31,aB9 k19,aB9 k11,aB9 k23,aB9 k27,aB9 k30,cg,aC1 k28,cc,B.tI _ _ hl,h1,B.cI _ _ _ _ hc hl (show dK.length<=300000 by have:=iu dK;omega)];rfl
  ·have hj:Evt λn=>gC (S.tab n) (G.tS,((a+1:Nat):Int),nd,()) (tkA G.out a) 15=some (Sum.inl ((G.tS,((c+1:Nat):Int),dK++[(15,(tkA G.out a).2.1,(tkA G.out c).2.2.1,(tkA G.out a).2.2.2.1,0,0,[],[],[(m1:Int)],())],()),(dK.length:Int),())):=(G.base.and eS).up λn ⟨B,h1⟩=>by
    show gC (S.step (S.tab n)) _ _ _=_;simp only[pQ,B.nS,aC0,G.kdA hl,kne k28 (show(28:Int)≠14 by decide),cg,h1,B.aS _ _ _ hc (show dK.length<=300000 by have:=iu dK;omega)]
   refine(G.base.and hj).up λn ⟨B,h1⟩=> ?_
   show bE (S.step (S.tab n)) _=_;simp only[bG,B.kS _ _ ha,aC0,kne k28 (show(28:Int)≠42 by decide),kne k28 (show(28:Int)≠1 by decide),kne k28 (show(28:Int)≠40 by decide),kne k28 (show(28:Int)≠14 by decide),cg,B.tS _ _ hl,G.kdA hl,aB9 k22,aB9 k13,aB9 k18,aB9 k20,aB9 k31,aB9 k19,aB9 k11,aB9 k23,aB9 k27,aB9 k30,h1,aO,aE3]
 by_cases k14:KA G.out a=14
 ·obtain⟨hl,hA⟩:=b9 aA9 k14 hA ha;have ht:=(G.xp (a+1)).2.2.2.1
  have Xo:a+1<G.out.length/\((KA G.out (a+1)=1/\Ac G.out (1016::1001::r) (a+1+1))\/(KA G.out (a+1)=40/\Ac G.out (1018::41::1016::1001::r) (a+1+1))):=by
   by_cases q1:KA G.out (a+1)=1
   ·rw[aC1 q1]at ht;obtain⟨hl,hA⟩:=b9 ht rfl hA (by omega);exact⟨hl, .inl ⟨q1,hA⟩⟩
   rw[aB9 q1]at ht
   by_cases q2:KA G.out (a+1)=40
   ·rw[aC1 q2]at ht;obtain⟨hl,hA⟩:=b9 ht rfl hA (by omega);exact⟨hl, .inr ⟨q2,hA⟩⟩
   rw[aB9 q2]at ht;exact(qD ht rfl hA (by omega)).elim
  obtain⟨a1,m1,dK,s1,Pb,⟨n1,n2,n3,n4,n5⟩,Tk,eI,eS⟩:=C9 G Z0 (λa' h=>hX a' (by omega)) nd (1001::r) 1016 (by simp) Xo.1 (by omega) Xo.2
  have hA:Ac G.out (1001::r) a1:=by
   have ht:=G.tab QR a1;rw[G.VA Tk]at ht;simp only[aD3,aC6,aC4]at ht;simp only[aF8,List.not_mem_nil,or_false]at Pb
   rcases Pb with rfl|rfl
   ·exact(qD ht.2.2.1 rfl n5 n2).elim
   ·exact fi ht.2.2.2 rfl n5 n2
  obtain⟨c,rfl⟩:∃c,a1=c+1:=⟨a1 - 1,by omega⟩;have hc:c<G.out.length:=(by omega);have Dw:=iY (nd:=dK) (x:=(16,(tkA G.out a).2.1,(tkA G.out c).2.2.1,(tkA G.out a).2.2.2.1,0,0,[],[],[(m1:Int)],())) (vT G (by decide) (by simp));refine⟨c+1,dK.length,dK++[(16,(tkA G.out a).2.1,(tkA G.out c).2.2.1,(tkA G.out a).2.2.2.1,0,0,[],[],[(m1:Int)],())],⟨by omega,n2,by simp,by omega,hA⟩, ?_, ?_⟩
  ·refine(G.base.and eI).up λn ⟨B,h1⟩=> ?_
   show ba (S.step (S.tab n)) _=_;simp only[bj,B.kI _ _ ha,aC0,aB9 k22,aB9 k13,aB9 k18,aB9 k20,aB9 k31,aB9 k19,aB9 k11,aB9 k23,aB9 k27,aB9 k30,aB9 k28,cg,aC1 k14,cc,B.tI _ _ hl,h1,B.cI _ _ _ _ hc hl (show dK.length<=300000 by have:=iu dK;omega)];rfl
  ·have hj:Evt λn=>gC (S.tab n) (G.tS,((a+1:Nat):Int),nd,()) (tkA G.out a) 16=some (Sum.inl ((G.tS,((c+1:Nat):Int),dK++[(16,(tkA G.out a).2.1,(tkA G.out c).2.2.1,(tkA G.out a).2.2.2.1,0,0,[],[],[(m1:Int)],())],()),(dK.length:Int),())):=(G.base.and eS).up λn ⟨B,h1⟩=>by
    show gC (S.step (S.tab n)) _ _ _=_;simp only[pQ,B.nS,aC0,G.kdA hl,aC1 k14,cc,h1,B.aS _ _ _ hc (show dK.length<=300000 by have:=iu dK;omega)]
   refine(G.base.and hj).up λn ⟨B,h1⟩=> ?_
   show bE (S.step (S.tab n)) _=_;simp only[bG,B.kS _ _ ha,aC0,kne k14 (show(14:Int)≠42 by decide),kne k14 (show(14:Int)≠1 by decide),kne k14 (show(14:Int)≠40 by decide),cg,B.tS _ _ hl,G.kdA hl,aB9 k22,aB9 k13,aB9 k18,aB9 k20,aB9 k31,aB9 k19,aB9 k11,aB9 k23,aB9 k27,aB9 k30,aC1 k14,cc,h1,aO,aE3]
 by_cases k42:KA G.out a=42
 ·have hA:Ac G.out (1027::([1001]++r)) a:=by rw[<-k42]at al0;exact Fh al0 hA ha
  obtain⟨a2,m,iI,⟨p1,p2,p3,p4,p5⟩,fI,fS⟩:=az6 nd (1001::r) ha hn hA;refine⟨a2,m,iI,⟨p1,p2,p3,by omega,p5⟩,(G.base.and fI).up λn ⟨B,h⟩=> ?_,(G.base.and fS).up λn ⟨B,h⟩=> ?_⟩
  ·show ba (S.step (S.tab n)) _=_;simp only[bj,B.kI _ _ ha,aC0,aB9 k22,aB9 k13,aB9 k18,aB9 k20,aB9 k31,aB9 k19,aB9 k11,aB9 k23,aB9 k27,aB9 k30,aB9 k28,aB9 k14,cg,aC1 k42,cc,h]
  ·show bE (S.step (S.tab n)) _=_;simp only[bG,B.kS _ _ ha,aC0,aC1 k42,cc,h]
 by_cases k1:KA G.out a=1
 ·obtain⟨hl,hA⟩:=b9 s1 k1 hA ha;exact ur G hX hr hl hn (by simp) (.inl ⟨k1,hA⟩)
 by_cases FO:KA G.out a=40
 ·obtain⟨hl,hA⟩:=b9 az4 FO hA ha;exact ur G hX hr hl hn (s0:=1011) (by simp) (.inr ⟨FO,hA⟩)
 exfalso
 have ht:=G.tab Sb a;rw[aB9 k22,aB9 k13,aB9 k18,aB9 k20,aB9 k31,aB9 k19,aB9 k11,aB9 k23,aB9 k27,aB9 k30,aB9 k28,aB9 k14,aB9 k42,aB9 k1,aB9 FO,aB9 h5]at ht
 rcases MZ G hr ha (fi (of_decide_eq_true ht) rfl hA ha)with h|h
 ·exact Tl h
 ·exact h6 h
end Go.Abs.D
end

section
namespace Go.Abs.D
variable(G:Toks)
theorem Io:stI 1000 43= .gone/\stI 1000 6= .gone:=⟨by kernel_rfl,by kernel_rfl⟩
theorem Z8 (nd:List Node)(u:Int)(hu:u≠5)(r:LI):∀(d a:Nat)(q:Int)(xs:LI),G.out.length<a+d->a<=G.out.length->(q=1000\/q=1001)->Ac G.out (q::r) a->
  ∃(a1:Nat) (q1:Int),a<=a1/\a1<=G.out.length/\(q1=1000\/q1=1001)/\Ac G.out (q1::r) a1/\KA G.out a1≠5/\
   (Evt λn=>fZ (S.tab n) (G.tI,(a:Int),nd,()) xs=some (Sum.inl ((G.tI,(a1:Int),nd,()),xs,())))/\
   ∀X,(Evt λn=>cX (S.tab n) (G.tS,(a1:Int),nd,()) u xs=some X)->Evt λn=>cX (S.tab n) (G.tS,(a:Int),nd,()) u xs=some X:=by
 intro d
 induction d with
 |zero=>intro a q xs h h2;omega
 |succ d ih=>
  intro a q xs hd ha hq hA
  by_cases hk:KA G.out a=5
  ·have hA:a<G.out.length/\Ac G.out (1000::r) (a+1):=by
    rcases hq with rfl|rfl
    ·exact b9 QG.2.2.2.2.2.2.2.2.2.2.2.2.2.2.2 hk hA ha
    ·have ht:=(G.xp a).1;rw[aC1 hk]at ht;exact b9 ht rfl hA ha
   obtain⟨a1,q1,p1,p2,p3,p4,p5,pI,pS⟩:=ih (a+1) 1000 xs (by omega) (by omega) (.inl rfl) hA.2;refine⟨a1,q1,by omega,p2,p3,p4,p5,(G.base.and pI).up λn ⟨B,h⟩=> ?_,λX hX=>(G.base.and (pS X hX)).up λn ⟨B,h⟩=> ?_⟩
   ·show fZ (S.step (S.tab n)) _ _=_;simp only[nO,B.eI _ _ _ ha,aC1 hk,aC0,cc,aD6,h]
   ·show cX (S.step (S.tab n)) _ _ _=_;simp only[mc,B.kS _ _ ha,aC0,kne hk (show(5:Int)≠u from λe=>hu e.symm),aE8,cc,B.eS _ _ _ ha,aC1 hk,aD6,h]
  ·refine⟨a,q,aE5 _,ha,hq,hA,hk,G.base.up λn B=> ?_,λX hX=>hX⟩;show fZ (S.step (S.tab n)) _ _=_;simp only[nO,B.eI _ _ _ ha,aB9 hk,aC0,cg,aD1]
theorem Ec (u:Int)(r:LI)(YO:(u=43/\∃r',r=43::r')\/(u=6/\r=[]))(a0:Nat)(hS:∀a,a0<=a->JS G a):∀(d a:Nat)(q:Int)(xs:LI)(nd:List Node),G.out.length<a+d->a0<=a->a<=G.out.length->xs.length<=a->W nd<=4*a->(q=1000\/q=1001)->Ac G.out (q::r) a->
  ∃(a':Nat) (R6:LI) (iF:List Node),a<=a'/\a'<=G.out.length/\Ac G.out r a'/\(R6.length<=a'/\W iF+4*a<=W nd+4*a')/\
   (Evt λn=>dy (S.tab n) (G.tI,(a:Int),nd,()) xs=some (Sum.inl ((G.tI,(a':Int),iF,()),R6,())))/\
   Evt λn=>cX (S.tab n) (G.tS,(a:Int),nd,()) u xs=some (Sum.inl ((G.tS,(a':Int),iF,()),R6,())):=by
 have hr:rOk r:=YO.elim (λh=> .inr h.2) λh=> .inl h.2
 have au1:u≠5:=by rcases YO with⟨h,_⟩|⟨h,_⟩<;>omega
 have VI:∀a,a<=G.out.length->Ac G.out r a->KA G.out a=u:=λa ha hA=>by
  rcases YO with⟨rfl,r',rfl⟩|⟨rfl,rfl⟩
  ·exact(jb hA ha (by decide)).2.1
  ·exact(Mc ha hA).2
 intro d
 induction d with
 |zero=>intro a q xs nd h _ h2;omega
 |succ d ih=>
  intro a q xs nd hd h0 ha hx hn hq hA;have hL:=G.len;obtain⟨a1,q1,p1,p2,p3,p4,p5,pI,pS⟩:=Z8 G nd u au1 r (G.out.length+1) a q xs (by omega) ha hq hA
  by_cases hk:KA G.out a1=u
  ·have hA:Ac G.out r a1:=by
    rcases p3 with rfl|rfl
    ·rcases YO with⟨rfl,_⟩|⟨rfl,_⟩
     ·exact fi Io.1 hk p4 p2
     ·exact fi Io.2 hk p4 p2
    ·have ht:=(G.xp a1).1;rw[aB9 p5]at ht;exact fi ht rfl p4 p2
   refine⟨a1,xs,nd,p1,p2,hA,⟨by omega,by omega⟩,(G.base.and pI).up λn ⟨B,h⟩=> ?_,pS _ (G.base.up λn B=> ?_)⟩
   ·show dy (S.step (S.tab n)) _ _=_;simp only[l7,h,aC0,aO,aE3,B.kI _ _ p2]
    rcases YO with⟨rfl,_⟩|⟨rfl,_⟩
    ·simp only[aC1 hk,cc]
    ·simp only[kne hk (show(6:Int)≠43 by decide),aC1 hk,cg,cc]
   ·show cX (S.step (S.tab n)) _ _ _=_;simp only[mc,B.kS _ _ p2,aC0,aC1 hk,aE6,cg]
  ·have ad7:q1=1000:=by
    rcases p3 with h|rfl
    ·exact h
    ·have ht:=(G.xp a1).1;rw[aB9 p5]at ht;exact absurd (VI _ p2 (fi ht rfl p4 p2)) hk
   subst ad7
   have ap2:KA G.out a1≠43:=λe=>hk (VI _ p2 (fi Io.1 e p4 p2))
   have k6:KA G.out a1≠6:=λe=>hk (VI _ p2 (fi Io.2 e p4 p2))
   obtain⟨a2,m,iI,⟨n1,n2,n3,n4,n5⟩,eI,eS⟩:=hS a1 (by omega) nd r hr p2 (by omega) p4 p5 ap2 k6;obtain⟨a3,av9,n9,q1,q2,q3,q4,qI,qS⟩:=ih a2 1001 (xs++[(m:Int)]) iI (by omega) (by omega) n2 (by simp;omega) (by omega) (.inr rfl) n5;refine⟨a3,av9,n9,by omega,q2,q3,⟨q4.1,by omega⟩,(((G.base.and pI).and eI).and qI).up λn ⟨⟨⟨B,h1⟩,h2⟩,h3⟩=> ?_,pS _ (((G.base.and eS).and qS).up λn ⟨⟨B,h2⟩,h3⟩=> ?_)⟩
   ·show dy (S.step (S.tab n)) _ _=_;simp only[l7,h1,aC0,aO,aE3,B.kI _ _ p2,aB9 ap2,aB9 k6,cg,h2];rw[ad (BM (by omega))];exact h3
   ·show cX (S.step (S.tab n)) _ _ _=_;simp only[mc,B.kS _ _ p2,aC0,aB9 hk,aE8,cc,B.eS _ _ _ p2,aB9 p5,aD1,cg,h2];rw[ad (BM (by omega))];exact h3
theorem Pr {a:Nat}(hS:∀a',a<=a'->JS G a'):JT G a:=by
 intro nd r ha hn hA;obtain⟨a',xs,iF,p1,p2,p3,p4,pI,pS⟩:=Ec G 43 (43::r) (.inl ⟨rfl,r,rfl⟩) a hS (G.out.length+1) a 1000 [] nd (by omega) (aE5 _) ha (by simp) hn (.inl rfl) hA;obtain⟨hl,_,hA⟩:=jb p3 p2 (by decide);refine⟨a',xs,iF,p1,hl,hA,p4,pI.up λn h=> ?_,pS.up λn h=> ?_⟩
 ·show fw (S.step (S.tab n)) _=_;simp only[pL,h,aC0,aO,aE3]
 ·show iz (S.step (S.tab n)) _ _=_;simp only[sQ,h,aC0,aO,aE3]
structure All (a:Nat):Prop where
 x:JX G a
 e:JE G a
 u:JN G bW dc [1020] a
 b:JB G a
 c:JC G a
 f:∀b,JF G b a
 s:JS G a
theorem Vo:∀(d a:Nat),G.out.length<a+d->All G a:=by
 intro d
 induction d with
 |zero=>
  intro a h;exact⟨λnd r h2=>by omega,λl l' nd r _ h2=>by omega,λnd r h2=>by omega,λnd r h2=>by omega,λnd r h2=>by omega,λb nd r _ h2=>by omega,λnd r _ h2=>by omega⟩
 |succ d ih=>
  intro a h
  have IH:∀a',a<a'->All G a':=λa' h'=>ih a' (by omega)
  have hX:∀a',a<a'->JX G a':=λa' h=>(IH a' h).x
  have hB:∀a',a<a'->JB G a':=λa' h=>(IH a' h).b
  have u:=SM G hX (IH (a+1) (by omega)).u (λa' h=>(IH a' h).f a);have e:=Pm G u (λa' h=>(IH a' h).e);have b:JB G a:=N4 G (Pr G λa' h=>(IH a' (by omega)).s);have c:=N1 G hX hB (λa' h=>(IH a' h).c);exact⟨Sr G e,e,u,b,c,λb=>Pj G hB,PK G hX hB b c (λb a' h=>(IH a' h).f b)⟩
theorem w0:W []=0:=by unfold W;rw[aG3 λ_ h=>nomatch h];rfl
theorem Lv (hA:Ac G.out [1000] 0):∃(xs:LI)(nd:List Node),xs.length<=65536/\nd.length<=4*G.out.length/\(∀x∈nd,vD x)/\
  (Evt λn=>fw (S.tab n) (G.tI,0,[],())=some (xs,(G.tI,(G.out.length:Int),nd,()),()))/\
  Evt λn=>iz (S.tab n) (G.tS,0,[],()) 6=some (xs,(G.tS,(G.out.length:Int),nd,()),(),()):=by
 obtain⟨a',xs,iF,p1,p2,p3,p4,pI,pS⟩:=Ec G 6 [] (.inr ⟨rfl,rfl⟩) 0 (λa _=>(Vo G (G.out.length+1) a (by omega)).s) (G.out.length+1) 0 1000 [] [] (by omega) (aE5 _) (aG8 _) (by simp) (by rw[w0];omega) (.inl rfl) hA;obtain rfl:=(Mc p2 p3).1;have hL:=G.len;rw[w0]at p4;refine⟨xs,iF,by omega,by have:=iu iF;omega,aa5 (by omega),pI.up λn h=> ?_,pS.up λn h=> ?_⟩
 ·show fw (S.step (S.tab n)) _=_;have h:dy (S.tab n) (G.tI,0,[],()) []=_:=h;simp only[pL,h,aC0,aO,aE3]
 ·show iz (S.step (S.tab n)) _ _=_;have h:cX (S.tab n) (G.tS,0,[],()) 6 []=_:=h;simp only[sQ,h,aC0,aO,aE3]
end Go.Abs.D
end

section
namespace Go.Abs.D
variable{ns:List aj.den}{i:Nat}{x:aj.den}(hx:NodeOk x)(hi:i<ns.length)(hn:ns.length<=3000)
theorem US {T:S.Tab}(t:Tr)(x:aj.den)(ks:LI)(z:Int)(hz:x.2.2.2.2.2.1=z)(hl:ks.length<=200)(WS:1<=z->z<=ks.length->aY T t x z (ks.length:Int)=some (EX ks z.toNat ks.length,cK))
  (ae6:1<=z->z<=ks.length->cV T t x (ks.length:Int) 0=some (bif(bJ ks 0 z.toNat).all gL then Sum.inr (Sum.inl (t,x,(ks.length:Int),()))else Sum.inl (false,()))):
  brk (decide (z<1)) (some (false,av)) (brk (decide ((ks.length:Int)<=z)) (some (false,av)) ((cV T t x (ks.length:Int) 0).bind (bB (λxz=>some (xz.1,av)) (λxz=>(aY T xz.1 xz.2.1 xz.2.1.2.2.2.2.2.1 xz.2.2.1).bind λd112=>some (d112.1,av)))))=
   some (true&&(decide (1<=z)&&(decide (z<(ks.length:Int))&&((bJ ks 0 z.toNat).all gL&&EX ks z.toNat ks.length))),av):=by
 rw[aC9]
 by_cases h1:1<=z
 ·rw[aM (by omega),aC1 h1]
  by_cases h2:z<(ks.length:Int)
  ·rw[aM (by omega),aC1 h2,ae6 h1 (by omega)]
   cases(bJ ks 0 z.toNat).all gL with
   |true=>
    simp only[aD6,aC0,bB,aF2,aE3];rw[hz,WS h1 (by omega)];rfl
   |false=>rfl
  ·rw[aN (by omega),aB9 h2];rfl
 ·rw[aN (by omega),aB9 h1];rfl
theorem aa4 {T:S.Tab}{t:Tr}{x:aj.den}{ks:LI}{names:List LI}{op num:Int}{text:LI}(h:SF T t x ks names op num text):eE (S.step T) t x (ks.length:Int)=some (Sum.inl (bif decide (x.1=15)then PL false false false false (names.length:Int) op num text&&(decide ((ks.length:Int)=1)&&EX ks 0 1)else false,())):=by
 rw[tO]
 by_cases k:x.1=15
 ·rw[aN k,aC1 k,aD6,h.pl];simp only[aC0]
  cases PL false false false false (names.length:Int) op num text with
  |false=>rw[ae];rfl
  |true=>
   rw[ai]
   by_cases h1:ks.length=1
   ·rw[aN (by omega),h.ex01 (by omega),aC1 (show(ks.length:Int)=1 by omega)];rfl
   ·rw[aM (by omega),aB9 (show¬ (ks.length:Int)=1 by omega)];rfl
 ·rw[aM k,aB9 k];rfl
theorem ZY {T:S.Tab}{t:Tr}{x:aj.den}{ks:LI}{names:List LI}{op num:Int}{text:LI}(h:SF T t x ks names op num text):cL (S.step T) t x (ks.length:Int)=some (Sum.inl (bif decide (x.1=42)then decide ((ks.length:Int)=1)&&(EX ks 0 1&&(PL false false false true (names.length:Int) op num text&&fz 1 text))else false,())):=by
 rw[tc]
 by_cases k:x.1=42
 ·rw[aN k,aC1 k,aD6]
  by_cases h1:ks.length=1
  ·rw[aN (by omega),h.ex01 (by omega),aC1 (show(ks.length:Int)=1 by omega)];simp only[aC0,h.pl]
   cases EX ks 0 1 with
   |false=>rw[ae];rfl
   |true=>
    rw[ai]
    cases PL false false false true (names.length:Int) op num text with
    |false=>rw[ae];rfl
    |true=>
     rw[ai,h.xtext,h.gn];rfl
  ·rw[aM (by omega),aB9 (show¬ (ks.length:Int)=1 by omega)];rfl
 ·rw[aM k,aB9 k];rfl
def Fv (t:Tr)(x:aj.den)(ks:LI)(y:AnS):Prop:=(∃b,y=Sum.inl (b,()))\/y=Sum.inr (Sum.inl (t,x,(ks.length:Int),()))
theorem lW {t:Tr}{x:aj.den}{ks:LI}{c:Bool}{a b:AnS}(ha:Fv t x ks a)(hb:Fv t x ks b):Fv t x ks (bif c then a else b):=by cases c<;>assumption
theorem qn {t:Tr}{x:aj.den}{ks:LI}(b:Bool):Fv t x ks (Sum.inl (b,())):= .inl ⟨b,rfl⟩
theorem Qr {t:Tr}{x:aj.den}{ks:LI}:Fv t x ks (Sum.inr (Sum.inl (t,x,(ks.length:Int),()))):= .inr rfl
section
variable{t:Tr}{ks:LI}{names:List LI}{op num:Int}{text:LI}{kind:Int}
theorem QC (fl:Bool):Fv t x ks (Q18 t x ks names op num text kind fl):=by
 unfold Q18
 repeat refine lW (qn _) ?_
 exact Qr
theorem NJ (fl:Bool):Fv t x ks (Q7 t x ks names op num text kind fl):=by
 unfold Q7;exact lW (qn _) (lW (qn _) (lW (qn _) (lW (qn _) (lW (qn _) (lW (QC _) (QC _))))))
theorem Qt (fl:Bool):Fv t x ks (Q41 t x ks names op num text kind fl):=by
 unfold Q41
 repeat refine lW (qn _) ?_
 exact Qr
theorem Qv (fl:Bool):Fv t x ks (Q28 t x ks names op num text kind fl):=by
 unfold Q28;exact lW (qn _) (lW (qn _) (lW (qn _) (lW (qn _) (lW (qn _) (lW (Qt _) (Qt _))))))
end
section
variable(hk:∀k∈ak x,0<=k/\k<(ns.length:Int))(hl:(ak x).length<=200)
include hx hk hl
theorem Gb:Evt λn=>lR (S.tab n) (ns,()) x=some (KE (ns,()) x (ax ns x) (aK x) x.2.2.2.2.1 x.2.2.2.2.2.1 x.2.2.2.2.2.2.1 x.1,av):=by
 have Gn:(ax ns x).length<=200:=by unfold ax;rw[List.length_map];exact hl
 have Tn:=TU hk hl hx.nn
 have Wc:Evt λn=>∀fl,fA (S.tab n) (ns,()) x ((ax ns x).length:Int) x.1 fl=some (Q18 (ns,()) x (ax ns x) (aK x) x.2.2.2.2.1 x.2.2.2.2.2.1 x.2.2.2.2.2.2.1 x.1 fl):=Tn.up λn h fl=>q18 h Gn x.1 fl
 have h7:Evt λn=>∀fl,eH (S.tab n) (ns,()) x ((ax ns x).length:Int) x.1 fl=some (Q7 (ns,()) x (ax ns x) (aK x) x.2.2.2.2.1 x.2.2.2.2.2.1 x.2.2.2.2.2.2.1 x.1 fl):=(Tn.and Wc).up λn ⟨h,h'⟩ fl=>q7 h Gn x.1 h' fl
 have FH:Evt λn=>cL (S.tab n) (ns,()) x ((ax ns x).length:Int)=_:=Tn.up λn h=>ZY h
 refine((h7.and FH).and Tn).up λn ⟨⟨h7,FH⟩,hF⟩=> ?_
 have hlen:(x.2.2.2.2.2.2.2.2.1.length:Int)=((ax ns x).length:Int):=(by rw[hF.xlen])
 have fin:∀y:AnS,Fv (ns,()) x (ax ns x) y->((some y:Option AnS).bind (bB (λy7=>some (y7.1,av)) (λy7=>(cL (S.tab n) y7.1 y7.2.1 y7.2.2.1).bind (aO (λjG=>some (jG.1,av))))))=some (An2 y (bif decide (x.1=42)then decide (((ax ns x).length:Int)=1)&&(EX (ax ns x) 0 1&&(PL false false false true ((aK x).length:Int) x.2.2.2.2.1 x.2.2.2.2.2.1 x.2.2.2.2.2.2.1&&fz 1 x.2.2.2.2.2.2.1))else false),av):=λy hy=>by
  rcases hy with⟨b,rfl⟩|rfl
  ·rfl
  ·show(cL (S.tab n) (ns,()) x ((ax ns x).length:Int)).bind _=_;rw[FH];rfl
 rw[wo];rw[hlen];unfold KE
 by_cases k20:x.1=20
 ·rw[aN k20,aC1 k20,h7];exact fin _ (NJ _)
 rw[aM k20,aB9 k20]
 by_cases T8:x.1=21
 ·rw[aN T8,aC1 T8,h7];exact fin _ (NJ _)
 rw[aM T8,aB9 T8]
 by_cases k22:x.1=22
 ·rw[aN k22,aC1 k22,h7];exact fin _ (NJ _)
 rw[aM k22,aB9 k22,h7];exact fin _ (NJ _)
theorem HC:Evt λn=>mD (S.tab n) (ns,()) x=some (KS (ns,()) x (ax ns x) (aK x) x.2.2.2.2.1 x.2.2.2.2.2.1 x.2.2.2.2.2.2.1 x.1,av):=by
 have Gn:(ax ns x).length<=200:=by unfold ax;rw[List.length_map];exact hl
 have Tn:=TU hk hl hx.nn
 have Zz:Evt λn=>∀fl,gg (S.tab n) (ns,()) x ((ax ns x).length:Int) x.1 fl=some (Q41 (ns,()) x (ax ns x) (aK x) x.2.2.2.2.1 x.2.2.2.2.2.1 x.2.2.2.2.2.2.1 x.1 fl):=Tn.up λn h fl=>q41 h Gn x.1 fl
 have Tt:Evt λn=>∀fl,iw (S.tab n) (ns,()) x ((ax ns x).length:Int) x.1 fl=some (Q28 (ns,()) x (ax ns x) (aK x) x.2.2.2.2.1 x.2.2.2.2.2.1 x.2.2.2.2.2.2.1 x.1 fl):=(Tn.and Zz).up λn ⟨h,h'⟩ fl=>q28 h Gn x.1 h' fl
 have FH:Evt λn=>eE (S.tab n) (ns,()) x ((ax ns x).length:Int)=_:=Tn.up λn h=>aa4 h
 refine((Tt.and FH).and Tn).up λn ⟨⟨Tt,FH⟩,hF⟩=> ?_
 have hlen:(x.2.2.2.2.2.2.2.2.1.length:Int)=((ax ns x).length:Int):=(by rw[hF.xlen])
 have fin:∀y:AnS,Fv (ns,()) x (ax ns x) y->((some y:Option AnS).bind (bB (λHc=>some (Hc.1,av)) (λHc=>(eE (S.tab n) Hc.1 Hc.2.1 Hc.2.2.1).bind (aO (λjG=>some (jG.1,av))))))=some (An2 y (bif decide (x.1=15)then PL false false false false ((aK x).length:Int) x.2.2.2.2.1 x.2.2.2.2.2.1 x.2.2.2.2.2.2.1&&(decide (((ax ns x).length:Int)=1)&&EX (ax ns x) 0 1)else false),av):=λy hy=>by
  rcases hy with⟨b,rfl⟩|rfl
  ·rfl
  ·show(eE (S.tab n) (ns,()) x ((ax ns x).length:Int)).bind _=_;rw[FH];rfl
 rw[ya];rw[hlen];unfold KS
 by_cases k1:x.1=1
 ·rw[aN k1,aC1 k1,hF.l5]
  cases(ax ns x).all cS with
  |true=>simp only[aD6,aC0,bB,aF2,aE3,hF.pl,aC9]
  |false=>rfl
 rw[aM k1,aB9 k1,aD1]
 by_cases k2:x.1=2
 ·rw[aN k2,aC1 k2,aD6,hF.pl,hF.nm,hF.ex0n];simp only[aC0]
  cases PL true false false false ((aK x).length:Int) x.2.2.2.2.1 x.2.2.2.2.2.1 x.2.2.2.2.2.2.1 with
  |false=>rw[ae];rfl
  |true=>
   rw[ai]
   cases NM (aK x) 1 200 with
   |false=>rw[ae];rfl
   |true=>rw[ai];rfl
 rw[aM k2,aB9 k2,aD1]
 by_cases k3:x.1=3
 ·rw[aN k3,aC1 k3,aD6,hF.pl,hF.nm];simp only[aC0]
  cases PL true false false false ((aK x).length:Int) x.2.2.2.2.1 x.2.2.2.2.2.1 x.2.2.2.2.2.2.1 with
  |false=>rw[ae];rfl
  |true=>
   rw[ai]
   cases NM (aK x) 1 1 with
   |false=>rw[ae];rfl
   |true=>
    rw[ai]
    by_cases h1:(ax ns x).length=1
    ·rw[aN (by omega),hF.ex01 (by omega),aC1 (show((ax ns x).length:Int)=1 by omega)];rfl
    ·rw[aM (by omega),aB9 (show¬ ((ax ns x).length:Int)=1 by omega)];rfl
 rw[aM k3,aB9 k3,aD1]
 by_cases k4:x.1=4
 ·rw[aN k4,aC1 k4,aD6,hF.pl,hF.nm];simp only[aC0]
  cases PL true false false false ((aK x).length:Int) x.2.2.2.2.1 x.2.2.2.2.2.1 x.2.2.2.2.2.2.1 with
  |false=>rw[ae];rfl
  |true=>
   rw[ai]
   cases NM (aK x) 1 1 with
   |false=>rw[ae];rfl
   |true=>
    rw[ai]
    by_cases h1:(ax ns x).length=1
    ·rw[aN (by omega),hF.k0 (by omega),aC1 (show((ax ns x).length:Int)=1 by omega)];rfl
    ·rw[aM (by omega),aB9 (show¬ ((ax ns x).length:Int)=1 by omega)];rfl
 rw[aM k4,aB9 k4,aD1]
 by_cases k5:x.1=5
 ·rw[aN k5,aC1 k5,aD6,hF.pl];simp only[aC0]
  cases PL false false true false ((aK x).length:Int) x.2.2.2.2.1 x.2.2.2.2.2.1 x.2.2.2.2.2.2.1 with
  |false=>rw[ad (by rfl)];rfl
  |true=>
   rw[aB (by rfl)];exact US (ns,()) x (ax ns x) x.2.2.2.2.2.1 rfl Gn hF.WS hF.ae6
 rw[aM k5,aB9 k5,aD1]
 by_cases k6:x.1=6
 ·rw[aN k6,aC1 k6,aD6,Tt];exact fin _ (Qv _)
 ·rw[aM k6,aB9 k6,aD1,Tt];exact fin _ (Qv _)
end
include hx hi
theorem DV (ai9:ns[i]=x):Evt λn=>ik (S.tab n) (ns,()) (i:Int)=some (okN ns i x,az):=by
 have Hf:at_ (τ:=aj) ((ns,()):Tr).1 (i:Int)=x:=by
  show at_ (τ:=aj) ns (i:Int)=x;rw[s7 _ _ hi];exact ai9
 have start:∀n,ik (S.step (S.tab n)) (ns,()) (i:Int)=_:=λn=>by
  rw[A1,ad (an hi),Hf]
 unfold okN
 by_cases c1:x.2.1<0
 ·refine aG.up λn _=> ?_
  rw[start,aN c1,aC1 c1];rfl
 by_cases c2:x.2.2.1<x.2.1
 ·refine aG.up λn _=> ?_
  rw[start,aM c1,aN c2,aB9 c1,aC1 c2];rfl
 by_cases c3:x.2.2.2.1<0
 ·refine aG.up λn _=> ?_
  rw[start,aM c1,aM c2,aN c3,aB9 c1,aB9 c2,aC1 c3];rfl
 rw[aB9 c1,aB9 c2,aB9 c3]
 by_cases c4:200<(ak x).length
 ·refine aG.up λn _=> ?_
  have d4:decide ((200:Int)<(x.2.2.2.2.2.2.2.2.1.length:Int))=true:=aC1 (by unfold ak at c4;omega);rw[start,aM c1,aM c2,aM c3,ad d4,aC1 c4];rfl
 have d4:decide ((200:Int)<(x.2.2.2.2.2.2.2.2.1.length:Int))=false:=aB9 (by unfold ak at c4;omega);rw[aB9 c4];simp only[aD1];have hl:(ak x).length<=200:=(by omega);have h5:=Sl (ns:=ns) (i:=i) (x:=x) hl
 have step2:∀n,ik (S.step (S.tab n)) (ns,()) (i:Int)=_:=λn=>by
  rw[start,aM c1,aM c2,aM c3,aB d4]
 cases hr:(ak x).all (inR i)with
 |false=>
  rw[hr]at h5
  refine h5.up λn h=> ?_
  have h:dR (S.tab n) ↑i (ns,()) x x.2.2.2.2.2.2.2.2.1 (x.2.2.2.2.2.2.2.2.1.length:Int) 0=_:=h;rw[step2,h];rfl
 |true=>
  rw[hr]at h5
  have hk:∀k∈ak x,0<=k/\k<(ns.length:Int):=λk as5=>by
   have:=List.all_eq_true.1 hr k as5;unfold inR at this;rw[aC6,aC4,aC4]at this;omega
  have vJ:∀n,dR (S.tab n) ↑i (ns,()) x x.2.2.2.2.2.2.2.2.1 (x.2.2.2.2.2.2.2.2.1.length:Int) 0=some (Sum.inr (Sum.inl ((ns,()),x,())))->ik (S.step (S.tab n)) (ns,()) (i:Int)=_:=λn h=>by
   rw[step2,h,aC0]
  cases hs:cS x.1 with
  |true=>
   refine((h5.and HV).and (HC hx hk hl)).up λn ⟨⟨h,mB⟩,hS⟩=> ?_
   rw[vJ n h];show(mo (S.tab n) x.1).bind _=_;rw[mB,aC0,hs,ad (by rfl)];show(mD (S.tab n) (ns,()) x).bind _=_;rw[hS];rfl
  |false=>
   refine((h5.and HV).and (Gb hx hk hl)).up λn ⟨⟨h,mB⟩,hE⟩=> ?_
   rw[vJ n h];show(mo (S.tab n) x.1).bind _=_;rw[mB,aC0,hs,aB (by rfl)];show(lR (S.tab n) (ns,()) x).bind _=_;rw[hE];rfl
end Go.Abs.D
end

section
namespace Go.Abs.D
def AH (ns:List aj.den)(j:Nat):Bool:=match ns[j]? with|some x=>okN ns j x|none=>false
def okQ (ns:List aj.den)(j:Nat):Bool:=decide (j<ns.length)&&AH ns j
theorem Nh {ns:List aj.den}:∀j,ns.length<=j->okQ ns j=false:=λj h=>by unfold okQ;rw[aB9 (by omega)];rfl
def xw (ns:List aj.den):Nat:=stop (okQ ns) ns.length 0
abbrev Fa:Type:=Int×Int×Unit
section
variable{ns:List aj.den}(hN:∀x∈ns,NodeOk x)(hn:ns.length<=3000)
include hN hn
theorem PV:Evt λn=>∀j∈List.range ns.length,j3 (S.tab n) (ns,()) (j:Int)=some (AH ns j,az):=by
 have:∀(l:List Nat),(∀j∈l,j<ns.length)->Evt λn=>∀j∈l,j3 (S.tab n) (ns,()) (j:Int)=some (AH ns j,az):=by
  intro l
  induction l with
  |nil=>intro _;exact Evt.of λ_ j h=>by cases h
  |cons a l ih=>
   intro h;have ha:=h a (aE0 ..)
   have e:AH ns a=okN ns a ns[a]:=by unfold AH;rw[aE1 ha]
   refine((DZ (hN _ (aG7 ha)) ha hn rfl).and (ih λj hj=>h j (aD9 _ hj))).mono λn ⟨h1,h2⟩ j hj=> ?_
   rcases aF8.1 hj with rfl|hj
   ·rw[e];exact h1
   ·exact h2 j hj
 exact this _ λj hj=>List.mem_range.1 hj
omit hn in
theorem PF:Evt λn=>∀j∈List.range ns.length,ik (S.tab n) (ns,()) (j:Int)=some (AH ns j,az):=by
 have:∀(l:List Nat),(∀j∈l,j<ns.length)->Evt λn=>∀j∈l,ik (S.tab n) (ns,()) (j:Int)=some (AH ns j,az):=by
  intro l
  induction l with
  |nil=>intro _;exact Evt.of λ_ j h=>by cases h
  |cons a l ih=>
   intro h;have ha:=h a (aE0 ..)
   have e:AH ns a=okN ns a ns[a]:=by unfold AH;rw[aE1 ha]
   refine((DV (hN _ (aG7 ha)) ha rfl).and (ih λj hj=>h j (aD9 _ hj))).mono λn ⟨h1,h2⟩ j hj=> ?_
   rcases aF8.1 hj with rfl|hj
   ·rw[e];exact h1
   ·exact h2 j hj
 exact this _ λj hj=>List.mem_range.1 hj
theorem Vf (z:Int)(f:Fa):Evt λn=>fD (S.tab n) (ns,()) f z (ns.length:Int) 0=some (bif decide (xw ns<ns.length)then Sum.inl ((2,(xw ns:Int),()),())else Sum.inr (Sum.inl ((ns,()),f,z,()))):=
 adv (F:=λT (j:Nat)=>fD T (ns,()) f z (ns.length:Int) ↑j) (q:=okQ ns) (N:=ns.length)
  (out:=λj=>bif decide (j<ns.length)then Sum.inl ((2,(j:Int),()),())else Sum.inr (Sum.inl ((ns,()),f,z,())))
  (p:=λT=>∀j∈List.range ns.length,j3 T (ns,()) (j:Int)=some (AH ns j,az)) (PV hN hn) Nh
  (λT j h hq=>by
   unfold okQ at hq;rw[aC6,aC4]at hq;show fD (S.step T) _ _ _ _ _=fD T (ns,()) f z (ns.length:Int) ((j+1:Nat):Int)
   rw[sF,aN (by omega),h j (List.mem_range.2 hq.1),aC0,hq.2,aB (by rfl),bH (by omega)])
  (λT j h hq=>by
   show fD (S.step T) _ _ _ _ _=_;rw[sF]
   by_cases hj:j<ns.length
   ·unfold okQ at hq;rw[aC1 hj,aC9]at hq;rw[aN (by omega),h j (List.mem_range.2 hj),aC0,hq,ad (by rfl),aC1 hj];rfl
   ·rw[aM (by omega),aB9 hj];rfl) ns.length 0 (by omega)
theorem Vi (f:Fa):Evt λn=>fF (S.tab n) (ns,()) f (ns.length:Int) 0=some (bif decide (xw ns<ns.length)then Sum.inl ((2,(xw ns:Int),()),())else Sum.inr (Sum.inl ((ns,()),f,()))):=
 adv (F:=λT (j:Nat)=>fF T (ns,()) f (ns.length:Int) ↑j) (q:=okQ ns) (N:=ns.length)
  (out:=λj=>bif decide (j<ns.length)then Sum.inl ((2,(j:Int),()),())else Sum.inr (Sum.inl ((ns,()),f,())))
  (p:=λT=>∀j∈List.range ns.length,ik T (ns,()) (j:Int)=some (AH ns j,az)) (PF hN) Nh
  (λT j h hq=>by
   unfold okQ at hq;rw[aC6,aC4]at hq;show fF (S.step T) _ _ _ _=fF T (ns,()) f (ns.length:Int) ((j+1:Nat):Int)
   rw[sO,aN (by omega),h j (List.mem_range.2 hq.1),aC0,hq.2,aB (by rfl),bH (by omega)])
  (λT j h hq=>by
   show fF (S.step T) _ _ _ _=_;rw[sO]
   by_cases hj:j<ns.length
   ·unfold okQ at hq;rw[aC1 hj,aC9]at hq;rw[aN (by omega),h j (List.mem_range.2 hj),aC0,hq,ad (by rfl),aC1 hj];rfl
   ·rw[aM (by omega),aB9 hj];rfl) ns.length 0 (by omega)
omit hN hn in
theorem xT (hb:¬ xw ns<ns.length)(j:Nat)(hj:j<ns.length):∀k∈ak ns[j],0<=k/\k<(j:Int):=by
 have hq:okQ ns j=true:=nx ns.length 0 j (aG8 _) (by unfold xw at hb;omega);unfold okQ AH at hq;rw[aC1 hj,aC9,aE1 hj]at hq;have hq:okN ns j ns[j]=true:=hq;intro k hk
 have sy:(ak ns[j]).all (inR j)=true:=by
  cases h:(ak ns[j]).all (inR j)with
  |true=>rfl
  |false=>
   unfold okN at hq;rw[h]at hq
   revert hq
   cases decide (Prod.fst ns[j].2<0)<;>cases decide (Prod.fst (Prod.snd ns[j].2)<Prod.fst ns[j].2)<;>cases decide (Prod.fst (Prod.snd (Prod.snd ns[j].2))<0)<;>cases decide (200<(ak ns[j]).length)<;>intro h<;>cases h
 have:=List.all_eq_true.1 sy k hk;unfold inR at this;rw[aC6,aC4,aC4]at this;exact this
end
def dk (i:Nat):LI->LI->LI
 |[],d=>d
 |k::r,d=>dk i r (d.set k.toNat (i64.wrap (d.getD i 0+1)))
theorem Iq (i:Nat):∀(r d:LI),(dk i r d).length=d.length
 |[],d=>rfl
 |k::r,d=>by unfold dk;rw[Iq];simp
def tH (ns:List aj.den):Nat->LI->LI
 |0,d=>d
 |i+1,d=>tH ns i (match ns[i]? with|some x=>dk i (ak x) d|none=>d)
theorem G2 {ns:List aj.den}{i:Nat}(h:i<ns.length)(d:LI):tH ns (i+1) d=tH ns i (dk i (ak ns[i]) d):=by
 show tH ns i (match ns[i]? with|some x=>dk i (ak x) d|none=>d)=_;rw[aE1 h]
theorem MK (t:Tr)(f:Fa)(i:Nat):∀(r pre d:LI),i<d.length->(∀k∈r,0<=k/\k<(d.length:Int))->(pre++r).length<=2097152->
  Evt λn=>jO (S.tab n) t f d ↑i (pre++r) ((pre++r).length:Int) (pre.length:Int)=some (Sum.inl (t,f,dk i r d,(i:Int),()))
 |[],pre,d,hi,hk,hl=>aG.up λn _=>by
  rw[rF,aB (by simp)];rfl
 |k::r,pre,d,hi,hk,hl=>by
  obtain⟨k0,k1⟩:=hk k (aE0 ..);have ih:=MK t f i r (pre++[k]) (d.set k.toNat (i64.wrap (d.getD i 0+1))) (by simpa using hi) (λc hc=>by rw[List.length_set];exact hk c (aD9 _ hc)) (by simpa using hl)
  refine ih.up λn h=> ?_
  have hlen:(pre++k::r).length=pre.length+(r.length+1):=(by simp);have hg:(pre++k::r).getD (pre.length:Int).toNat 0=k:=Yn pre k r;have hd:(decide ((0:Int)<=(i:Int))&&decide ((i:Int)<(d.length:Int)))=true:=an hi
  have Th:(decide ((0:Int)<=k)&&decide (k<(d.length:Int)))=true:=by rw[aC1 k0,aC1 k1];rfl
  rw[rF,aN (by omega),ad (an (by omega)),ad hd,hg,ad Th,bH (by omega)];have e1:(pre++[k])++r=pre++k::r:=(by simp);have e2:(pre++[k]).length=pre.length+1:=(by simp);rw[e1,e2]at h;exact h
theorem Ng (t:Tr)(f:Fa)(i:Nat):∀(r pre d:LI),i<d.length->(∀k∈r,0<=k/\k<(d.length:Int))->(pre++r).length<=2097152->
  Evt λn=>jT (S.tab n) t f d ↑i (pre++r) ((pre++r).length:Int) (pre.length:Int)=some (Sum.inl (t,f,dk i r d,(i:Int),()))
 |[],pre,d,hi,hk,hl=>aG.up λn _=>by
  rw[rn,aB (by simp)];rfl
 |k::r,pre,d,hi,hk,hl=>by
  obtain⟨k0,k1⟩:=hk k (aE0 ..);have ih:=Ng t f i r (pre++[k]) (d.set k.toNat (i64.wrap (d.getD i 0+1))) (by simpa using hi) (λc hc=>by rw[List.length_set];exact hk c (aD9 _ hc)) (by simpa using hl)
  refine ih.up λn h=> ?_
  have hlen:(pre++k::r).length=pre.length+(r.length+1):=(by simp);have hg:(pre++k::r).getD (pre.length:Int).toNat 0=k:=Yn pre k r;have hd:(decide ((0:Int)<=(i:Int))&&decide ((i:Int)<(d.length:Int)))=true:=an hi
  have Th:(decide ((0:Int)<=k)&&decide (k<(d.length:Int)))=true:=by rw[aC1 k0,aC1 k1];rfl
  rw[rn,aN (by omega),ad (an (by omega)),ad hd,hg,ad Th,bH (by omega)];have e1:(pre++[k])++r=pre++k::r:=(by simp);have e2:(pre++[k]).length=pre.length+1:=(by simp);rw[e1,e2]at h;exact h
section
variable{ns:List aj.den}(hN:∀x∈ns,NodeOk x)(hn:ns.length<=3000)(hb:¬ xw ns<ns.length)
include hN hn hb
theorem Nr (f:Fa):∀(i:Nat)(d:LI),i<=ns.length->d.length=ns.length->Evt λn=>lp (S.tab n) (ns,()) f d ((i:Int) - 1)=some (Sum.inl (f,tH ns i d,()))
 |0,d,hi,hd=>aG.up λn _=>by
  rw[rO,aB (by decide)];rfl
 |i+1,d,hi,hd=>by
  have qX:i<ns.length:=(by omega);have hx:=hN _ (aG7 qX);have hk:=xT hb i qX;have Gt:=MK (ns,()) f i (ak ns[i]) [] d (by omega) (λk h=>by have:=hk k h;omega) (by have:=hx.nk;simpa using this);have ih:=Nr f i (dk i (ak ns[i]) d) (by omega) (by rw[Iq];exact hd)
  refine(Gt.and ih).up λn ⟨h,h2⟩=> ?_
  have e0:(((i+1:Nat):Int) - 1)=(i:Int):=(by omega);have Hf:at_ (τ:=aj) ((ns,()):Tr).1 (i:Int)=ns[i]:=s7 ns i qX;rw[e0,rO,aN (by omega),ad (an qX),Hf];have h:jO (S.tab n) (ns,()) f d ↑i (ak ns[i]) ((ak ns[i]).length:Int) 0=_:=h;show(jO (S.tab n) (ns,()) f d ↑i (ak ns[i]) ((ak ns[i]).length:Int) 0).bind _=_;rw[h];simp only[aC0,aO,aE3];rw[wrap64 _ (by omega) (by omega),h2,G2 qX]
theorem M4 (f:Fa):∀(i:Nat)(d:LI),i<=ns.length->d.length=ns.length->Evt λn=>lj (S.tab n) (ns,()) f d ((i:Int) - 1)=some (Sum.inl (f,tH ns i d,()))
 |0,d,hi,hd=>aG.up λn _=>by
  rw[rj,aB (by decide)];rfl
 |i+1,d,hi,hd=>by
  have qX:i<ns.length:=(by omega);have hx:=hN _ (aG7 qX);have hk:=xT hb i qX;have Gt:=Ng (ns,()) f i (ak ns[i]) [] d (by omega) (λk h=>by have:=hk k h;omega) (by have:=hx.nk;simpa using this);have ih:=M4 f i (dk i (ak ns[i]) d) (by omega) (by rw[Iq];exact hd)
  refine(Gt.and ih).up λn ⟨h,h2⟩=> ?_
  have e0:(((i+1:Nat):Int) - 1)=(i:Int):=(by omega);have Hf:at_ (τ:=aj) ((ns,()):Tr).1 (i:Int)=ns[i]:=s7 ns i qX;rw[e0,rj,aN (by omega),ad (an qX),Hf];have h:jT (S.tab n) (ns,()) f d ↑i (ak ns[i]) ((ak ns[i]).length:Int) 0=_:=h;show(jT (S.tab n) (ns,()) f d ↑i (ak ns[i]) ((ak ns[i]).length:Int) 0).bind _=_;rw[h];simp only[aC0,aO,aE3];rw[wrap64 _ (by omega) (by omega),h2,G2 qX]
end
def qb (d:LI)(j:Nat):Bool:=decide (j<d.length)&& !decide ((100:Int)<get d j)
theorem GB {d:LI}:∀j,d.length<=j->qb d j=false:=λj h=>by unfold qb;rw[aB9 (by omega)];rfl
theorem Sc (f:Fa)(d:LI)(hd:d.length<=3000):Evt λn=>fO (S.tab n) f d (d.length:Int) 0=some (bif decide (stop (qb d) d.length 0<d.length)then Sum.inl ((4,(stop (qb d) d.length 0:Int),()),())else Sum.inr (Sum.inl (f,()))):=
 adv (F:=λT (j:Nat)=>fO T f d (d.length:Int) ↑j) (q:=qb d) (N:=d.length) (out:=λj=>bif decide (j<d.length)then Sum.inl ((4,(j:Int),()),())else Sum.inr (Sum.inl (f,()))) (p:=Base2) aG GB
  (λT j h hq=>by
   unfold qb at hq;rw[aC6,aC4,aH3,aC8]at hq;show fO (S.step T) _ _ _ _=fO T f d (d.length:Int) ((j+1:Nat):Int)
   rw[rk,aN (by omega),ad (an hq.1),aJ,aB (aB9 hq.2),bH (by omega)])
  (λT j h hq=>by
   show fO (S.step T) _ _ _ _=_;rw[rk]
   by_cases hj:j<d.length
   ·unfold qb at hq;rw[aC1 hj,aC9,Bool.not_eq_false']at hq;rw[aN (by omega),ad (an hj),aJ,ad hq,aC1 hj];rfl
   ·rw[aM (by omega),aB9 hj];rfl) d.length 0 (by omega)
theorem Sz (f:Fa)(d:LI)(hd:d.length<=3000):Evt λn=>fM (S.tab n) f d (d.length:Int) 0=some (bif decide (stop (qb d) d.length 0<d.length)then Sum.inl ((4,(stop (qb d) d.length 0:Int),()),())else Sum.inr (Sum.inl (f,()))):=
 adv (F:=λT (j:Nat)=>fM T f d (d.length:Int) ↑j) (q:=qb d) (N:=d.length) (out:=λj=>bif decide (j<d.length)then Sum.inl ((4,(j:Int),()),())else Sum.inr (Sum.inl (f,()))) (p:=Base2) aG GB
  (λT j h hq=>by
   unfold qb at hq;rw[aC6,aC4,aH3,aC8]at hq;show fM (S.step T) _ _ _ _=fM T f d (d.length:Int) ((j+1:Nat):Int)
   rw[rT,aN (by omega),ad (an hq.1),aJ,aB (aB9 hq.2),bH (by omega)])
  (λT j h hq=>by
   show fM (S.step T) _ _ _ _=_;rw[rT]
   by_cases hj:j<d.length
   ·unfold qb at hq;rw[aC1 hj,aC9,Bool.not_eq_false']at hq;rw[aN (by omega),ad (an hj),aJ,ad hq,aC1 hj];rfl
   ·rw[aM (by omega),aB9 hj];rfl) d.length 0 (by omega)
theorem EK (ns:List aj.den):∀(i:Nat)(d:LI),(tH ns i d).length=d.length
 |0,d=>rfl
 |i+1,d=>by
  unfold tH;rw[EK];split
  ·exact Iq ..
  ·rfl
end Go.Abs.D
end

section
namespace Go.Abs.D
theorem qR (l:LI)(i j:Nat)(v:Int)(h:i<l.length):get (l.set i v) j=if j=i then v else get l j:=by
 unfold get;rw[aE2,aE2,List.getElem?_set]
 by_cases e:i=j
 ·subst e;rw[aG3 rfl,aG3 h,aG3 rfl];rfl
 ·rw[aF4 e,aF4 (λh=>e h.symm)]
def oO (st kids:LI):Nat->Int->Option Int
 |0,a=>some a
 |m+1,a=>bif decide (get kids m=a - 1)then oO st kids m (get st (get kids m).toNat)else none
def qu (sz kids:LI):Nat->Int->Int×Bool
 |0,a=>(a,true)
 |m+1,a=>bif decide (get kids m=a - 1)&& !decide (get sz (get kids m).toNat=0)then qu sz kids m (a - get sz (get kids m).toNat)else(a,false)
theorem Na (t:Tr)(f:Fa)(z:Int)(st:LI)(i:Int)(x:aj.den)(l:List aj.den)(u v:Int)(hk:∀k∈ak x,0<=k/\k<(st.length:Int))(hs:∀j,0<=get st j/\get st j<=3000)(hl:(ak x).length<=2097152):
  ∀(m:Nat) (a:Int),m<=(ak x).length->0<=a->a<=3000->Evt λn=>jP (S.tab n) t f z st i x a ((m:Int) - 1) l u v=some (match oO st (ak x) m a with|none=>Sum.inl ((3,i,()),())|some a=>Sum.inr (Sum.inl (t,f,z,st,i,a,l,u,v,())))
 |0,a,hm,h0,h1=>aG.up λn _=>by
  rw[nJ,aB (by decide)];rfl
 |m+1,a,hm,h0,h1=>by
  have KT:m<(ak x).length:=(by omega);have ng:(decide ((0:Int)<=(m:Int))&&decide ((m:Int)<(x.2.2.2.2.2.2.2.2.1.length:Int)))=true:=an KT;have hg:x.2.2.2.2.2.2.2.2.1.getD (m:Int).toNat 0=get (ak x) m:=rfl;have ah7:get (ak x) m=(ak x)[m]:=tF KT;have e0:((m+1:Nat):Int) - 1=(m:Int):=(by omega);have wa:i64.wrap (a - 1)=a - 1:=wrap64 _ (by omega) (by omega);have wm:i64.wrap ((m:Int) - 1)=(m:Int) - 1:=wrap64 _ (by omega) (by omega)
  by_cases hc:get (ak x) m=a - 1
  ·have RV:=hk _ (aG7 KT);rw[<-ah7]at RV;have ZE:=hs (get (ak x) m).toNat
   have Th:(decide ((0:Int)<=get (ak x) m)&&decide (get (ak x) m<(st.length:Int)))=true:=by rw[aC1 RV.1,aC1 RV.2];rfl
   refine(Na t f z st i x l u v hk hs hl m (get st (get (ak x) m).toNat) (by omega) ZE.1 ZE.2).up λn h=> ?_
   rw[e0,nJ,aN (by omega),ad ng,hg,wa,aB (by rw[aC1 hc];rfl),ad ng,ad Th,wm]
   have mB:oO st (ak x) (m+1) a=oO st (ak x) m (get st (get (ak x) m).toNat):=by
    show(bif decide (get (ak x) m=a - 1)then _ else _)=_;rw[aC1 hc];rfl
   rw[mB];exact h
  ·refine aG.up λn _=> ?_
   rw[e0,nJ,aN (by omega),ad ng,hg,wa,ad (by rw[aB9 hc];rfl)]
   have mB:oO st (ak x) (m+1) a=none:=by
    show(bif decide (get (ak x) m=a - 1)then _ else _)=_;rw[aB9 hc];rfl
   rw[mB]
theorem Qs (sz:LI)(i:Int)(x:aj.den)(l:List aj.den)(u v:Int)(hk:∀k∈ak x,0<=k/\k<(sz.length:Int))(hs:∀j,0<=get sz j/\get sz j<=3000)(hl:(ak x).length<=200):
  ∀(m:Nat) (a:Int),m<=(ak x).length->3000*(m:Int)<=a+1000000->a<=3000->Evt λn=>jN (S.tab n) sz i x a true ((m:Int) - 1) l u v=some (Sum.inl (sz,i,(qu sz (ak x) m a).1,(qu sz (ak x) m a).2,l,u,v,()))
 |0,a,hm,h0,h1=>aG.up λn _=>by
  rw[kU,aB (by decide)];rfl
 |m+1,a,hm,h0,h1=>by
  have KT:m<(ak x).length:=(by omega);have ng:(decide ((0:Int)<=(m:Int))&&decide ((m:Int)<(x.2.2.2.2.2.2.2.2.1.length:Int)))=true:=an KT;have hg:x.2.2.2.2.2.2.2.2.1.getD (m:Int).toNat 0=get (ak x) m:=rfl;have ah7:get (ak x) m=(ak x)[m]:=tF KT;have e0:((m+1:Nat):Int) - 1=(m:Int):=(by omega);have wa:i64.wrap (a - 1)=a - 1:=wrap64 _ (by omega) (by omega);have wm:i64.wrap ((m:Int) - 1)=(m:Int) - 1:=wrap64 _ (by omega) (by omega)
  have mB:qu sz (ak x) (m+1) a=bif decide (get (ak x) m=a - 1)&& !decide (get sz (get (ak x) m).toNat=0)then qu sz (ak x) m (a - get sz (get (ak x) m).toNat)else(a,false):=rfl
  by_cases hc:get (ak x) m=a - 1
  ·have RV:=hk _ (aG7 KT);rw[<-ah7]at RV;have ZE:=hs (get (ak x) m).toNat
   have Th:(decide ((0:Int)<=get (ak x) m)&&decide (get (ak x) m<(sz.length:Int)))=true:=by rw[aC1 RV.1,aC1 RV.2];rfl
   have an3:sz.getD (get (ak x) m).toNat 0=get sz (get (ak x) m).toNat:=rfl
   by_cases hz:get sz (get (ak x) m).toNat=0
   ·refine aG.up λn _=> ?_
    rw[e0,kU,aN (by omega),ad ng,hg,wa,aB (by rw[aC1 hc];rfl),ad Th,an3,aN hz,mB,aC1 hz,aE6,aD0];rfl
   ·have wz:i64.wrap (a - get sz (get (ak x) m).toNat)=a - get sz (get (ak x) m).toNat:=wrap64 _ (by omega) (by omega)
    refine(Qs sz i x l u v hk hs hl m (a - get sz (get (ak x) m).toNat) (by omega) (by omega) (by omega)).up λn h=> ?_
    rw[e0,kU,aN (by omega),ad ng,hg,wa,aB (by rw[aC1 hc];rfl),ad Th,an3,aM hz,ad Th,wz,wm,mB,aC1 hc,aB9 hz];exact h
  ·refine aG.up λn _=> ?_
   rw[e0,kU,aN (by omega),ad ng,hg,wa,ad (by rw[aB9 hc];rfl),mB,aB9 hc];rfl
def cP (ns:List aj.den)(i:Nat):LI:=match ns[i]? with|some x=>ak x|none=>[]
theorem Bz {ns:List aj.den}{i:Nat}(h:i<ns.length):cP ns i=ak ns[i]:=by unfold cP;rw[aE1 h]
def imS (ns:List aj.den):Nat->LI->Nat⊕Unit
 |0,_=> .inr ()
 |r+1,st=>match oO st (cP ns (ns.length - (r+1))) (cP ns (ns.length - (r+1))).length ((ns.length - (r+1):Nat):Int)with
  |none=> .inl (ns.length - (r+1))
  |some a=>bif decide (r=0)&& !decide (a=0)then .inl (ns.length - (r+1))else imS ns r (st.set (ns.length - (r+1)) a)
def szS (ns:List aj.den):Nat->LI->LI
 |0,sz=>sz
 |r+1,sz=>szS ns r (bif(qu sz (cP ns (ns.length - (r+1))) (cP ns (ns.length - (r+1))).length ((ns.length - (r+1):Nat):Int)).2 then sz.set (ns.length - (r+1)) (((ns.length - (r+1):Nat):Int) - (qu sz (cP ns (ns.length - (r+1))) (cP ns (ns.length - (r+1))).length ((ns.length - (r+1):Nat):Int)).1+1)else sz)
def zq (sz:LI)(j:Nat):Bool:=decide (j<sz.length)&& !decide (get sz j=0)
def KG (sz:LI):Nat⊕Unit:=
 bif decide (stop (zq sz) sz.length 0<sz.length)then .inl (stop (zq sz) sz.length 0)else bif !decide (get sz (sz.length - 1)=(sz.length:Int))then .inl (sz.length - 1)else .inr ()
theorem Fj {sz:LI}:∀j,sz.length<=j->zq sz j=false:=λj h=>by unfold zq;rw[aB9 (by omega)];rfl
structure RelN (n i:Nat)(st sz:LI):Prop where
 l1:st.length=n
 l2:sz.length=n
 lo:∀j,j<i->get sz j=(j:Int) - get st j+1/\0<=get st j/\get st j<=(j:Int)
 hi:∀j,i<=j->get sz j=0/\get st j=0
theorem ES {n i:Nat}{st sz kids:LI}(R:RelN n i st sz):∀(m:Nat)(a:Int),0<=a->a<=(i:Int)->(∀j,j<m->0<=get kids j/\get kids j<(i:Int))->
  (∀b,oO st kids m a=some b->qu sz kids m a=(b,true)/\0<=b/\b<=(i:Int))/\(oO st kids m a=none->(qu sz kids m a).2=false)
 |0,a,h0,h1,hk=>⟨λb h=>by injection h with h;subst h;exact⟨rfl,h0,h1⟩,λh=>by cases h⟩
 |m+1,a,h0,h1,hk=>by
  obtain⟨k0,k1⟩:=hk m (by omega);unfold oO qu
  by_cases hc:get kids m=a - 1
  ·obtain⟨e1,e2,e3⟩:=R.lo (get kids m).toNat (by omega);have e4:((get kids m).toNat:Int)=get kids m:=Int.toNat_of_nonneg k0;rw[e4]at e1 e3;have hz:¬ get sz (get kids m).toNat=0:=(by omega);have ea:a - get sz (get kids m).toNat=get st (get kids m).toNat:=(by omega);rw[aC1 hc,aB9 hz];simp only[aD6,aC9,aE8];rw[ea]
   exact ES R m _ e2 (by omega) λj hj=>hk j (by omega)
  ·rw[aB9 hc];exact⟨(λb h=>by cases h),λ_=>rfl⟩
theorem Ib (ns:List aj.den):∀(r:Nat)(sz:LI),(szS ns r sz).length=sz.length
 |0,sz=>rfl
 |r+1,sz=>by
  unfold szS;rw[Ib];cases(qu sz (cP ns (ns.length - (r+1))) (cP ns (ns.length - (r+1))).length ((ns.length - (r+1):Nat):Int)).2<;>simp
theorem MV (ns:List aj.den):∀(r:Nat)(sz:LI)(j:Nat),r<=ns.length->sz.length=ns.length->j<ns.length - r->get (szS ns r sz) j=get sz j
 |0,sz,j,_,_,_=>rfl
 |r+1,sz,j,hr,hl,hj=>by
  unfold szS
  rw[MV ns r _ j (by omega) (by
   cases(qu sz (cP ns (ns.length - (r+1))) (cP ns (ns.length - (r+1))).length ((ns.length - (r+1):Nat):Int)).2<;>simp[hl]) (by omega)]
  cases(qu sz (cP ns (ns.length - (r+1))) (cP ns (ns.length - (r+1))).length ((ns.length - (r+1):Nat):Int)).2 with
  |false=>rfl
  |true=>
   simp only[aD6];rw[qR _ _ _ _ (by omega),aF4 (by omega)]
theorem HY {q:Nat->Bool}{N m:Nat}(hN:∀j,N<=j->q j=false)(h1:∀j,j<m->q j=true)(h2:q m=false):stop q N 0=m:=by
 have a:=pY (q:=q) hN N 0 (by omega)
 have b:¬ stop q N 0<m:=λh=>by rw[h1 _ h]at a;cases a
 have c:¬ m<stop q N 0:=λh=>by
  have:=nx N 0 m (aG8 _) h;rw[h2]at this;cases this
 omega
theorem UQ (ns:List aj.den)(hk:∀i,i<ns.length->∀j,j<(cP ns i).length->0<=get (cP ns i) j/\get (cP ns i) j<(i:Int)):∀(r:Nat)(st sz:LI),r+1<=ns.length->RelN ns.length (ns.length - (r+1)) st sz->imS ns (r+1) st=KG (szS ns (r+1) sz):=by
 intro r
 induction r with
 |zero=>
  intro st sz hr R;have hS:=ES R (cP ns (ns.length - 1)).length ((ns.length - 1:Nat):Int) (by omega) (Int.le_refl _) (hk (ns.length - 1) (by omega));show(match oO st (cP ns (ns.length - 1)) (cP ns (ns.length - 1)).length ((ns.length - 1:Nat):Int)with|none=>_|some a=>_)=KG (bif(qu sz (cP ns (ns.length - 1)) (cP ns (ns.length - 1)).length ((ns.length - 1:Nat):Int)).2 then sz.set (ns.length - 1) (((ns.length - 1:Nat):Int) - (qu sz (cP ns (ns.length - 1)) (cP ns (ns.length - 1)).length ((ns.length - 1:Nat):Int)).1+1)else sz)
  cases hc:oO st (cP ns (ns.length - 1)) (cP ns (ns.length - 1)).length ((ns.length - 1:Nat):Int)with
  |none=>
   rw[hS.2 hc,aD1]
   have mB:stop (zq sz) sz.length 0=ns.length - 1:=HY Fj (λj hj=>by
    unfold zq;have:=R.lo j hj
    rw[aC1 (by have:=R.l2;omega),aB9 (by omega)];rfl) (by
    unfold zq
    rw[aC1 (R.hi _ (aE5 _)).1];simp)
   unfold KG;rw[mB,aC1 (show ns.length - 1<sz.length by have:=R.l2;omega)];rfl
  |some a=>
   obtain⟨e,a0,a1⟩:=hS.1 a hc;rw[e];simp only[aD6];have oI:=R.l2
   have hlen:(sz.set (ns.length - 1) (((ns.length - 1:Nat):Int) - a+1)).length=ns.length:=by rw[List.length_set];exact oI
   have mB:stop (zq (sz.set (ns.length - 1) (((ns.length - 1:Nat):Int) - a+1))) ns.length 0=ns.length:=HY (λj hj=>Fj j (by omega)) (λj hj=>by
    unfold zq;rw[qR _ _ _ _ (by omega),aC1 (by omega)]
    by_cases Uc:j=ns.length - 1
    ·rw[aG3 Uc,aB9 (by omega)];rfl
    ·have:=R.lo j (by omega)
     rw[aF4 Uc,aB9 (by omega)];rfl) (Fj _ (by omega))
   unfold KG;rw[hlen,mB,aB9 (Nat.lt_irrefl _),aD1,qR _ _ _ _ (by omega),aG3 rfl];show(bif decide (0=0)&& !decide (a=0)then Sum.inl (ns.length - 1)else Sum.inr ())=_
   by_cases ha:a=0
   ·rw[aC1 ha,aC1 (show((ns.length - 1:Nat):Int) - a+1=(ns.length:Int)by omega)];rfl
   ·rw[aB9 ha,aB9 (show¬ ((ns.length - 1:Nat):Int) - a+1=(ns.length:Int)by omega)];rfl
 |succ r ih=>
  intro st sz hr R;have hS:=ES R (cP ns (ns.length - (r+1+1))).length ((ns.length - (r+1+1):Nat):Int) (by omega) (Int.le_refl _) (hk (ns.length - (r+1+1)) (by omega));have oR:=R.l1;have oI:=R.l2;show(match oO st (cP ns (ns.length - (r+1+1))) (cP ns (ns.length - (r+1+1))).length ((ns.length - (r+1+1):Nat):Int)with|none=>_|some a=>_)=KG (szS ns (r+1) (bif(qu sz (cP ns (ns.length - (r+1+1))) (cP ns (ns.length - (r+1+1))).length ((ns.length - (r+1+1):Nat):Int)).2 then sz.set (ns.length - (r+1+1)) (((ns.length - (r+1+1):Nat):Int) - (qu sz (cP ns (ns.length - (r+1+1))) (cP ns (ns.length - (r+1+1))).length ((ns.length - (r+1+1):Nat):Int)).1+1)else sz))
  cases hc:oO st (cP ns (ns.length - (r+1+1))) (cP ns (ns.length - (r+1+1))).length ((ns.length - (r+1+1):Nat):Int)with
  |none=>
   rw[hS.2 hc,aD1]
   have hlen:(szS ns (r+1) sz).length=ns.length:=by rw[Ib];exact oI
   have Zs:=λj hj=>MV ns (r+1) sz j (by omega) oI hj
   have mB:stop (zq (szS ns (r+1) sz)) ns.length 0=ns.length - (r+1+1):=HY (λj hj=>Fj j (by omega)) (λj hj=>by
    unfold zq;have:=R.lo j hj
    rw[Zs j (by omega),aC1 (by omega),aB9 (by omega)];rfl) (by
    unfold zq
    rw[Zs _ (by omega),aC1 (R.hi _ (aE5 _)).1];simp)
   unfold KG;rw[hlen,mB,aC1 (show ns.length - (r+1+1)<ns.length by omega)];rfl
  |some a=>
   obtain⟨e,a0,a1⟩:=hS.1 a hc;rw[e];simp only[aD6];show(bif decide (r+1=0)&& !decide (a=0)then _ else imS ns (r+1) (st.set (ns.length - (r+1+1)) a))=_;rw[aB9 (show¬ r+1=0 by omega),aD2,aD1];refine ih _ _ (by omega) ⟨by rw[List.length_set];exact oR,by rw[List.length_set];exact oI,λj hj=> ?_,λj hj=> ?_⟩
   ·rw[qR _ _ _ _ (by omega),qR _ _ _ _ (by omega)]
    by_cases Wu:j=ns.length - (r+1+1)
    ·rw[aG3 Wu,aG3 Wu];subst Wu;exact⟨rfl,a0,a1⟩
    ·rw[aF4 Wu,aF4 Wu];exact R.lo j (by omega)
   ·rw[qR _ _ _ _ (by omega),qR _ _ _ _ (by omega),aF4 (by omega),aF4 (by omega)];exact R.hi j (by omega)
end Go.Abs.D
end

section
namespace Go.Abs.D
theorem Km {st kids:LI}(hs:∀j,0<=get st j/\get st j<=3000):∀(m:Nat)(a b:Int),0<=a->a<=3000->oO st kids m a=some b->0<=b/\b<=3000
 |0,a,b,h0,h1,h=>by injection h with h;subst h;exact⟨h0,h1⟩
 |m+1,a,b,h0,h1,h=>by
  unfold oO at h
  cases hc:decide (get kids m=a - 1)with
  |true=>
   rw[hc]at h;exact Km hs m _ b (hs _).1 (hs _).2 h
  |false=>rw[hc]at h;cases h
theorem Nt {sz kids:LI}(hs:∀j:Nat,0<=get sz j/\get sz j<=(j:Int)+1):∀(m:Nat)(a:Int),0<=a->(∀j,j<m->0<=get kids j)->0<=(qu sz kids m a).1/\(qu sz kids m a).1<=a
 |0,a,h0,_=>⟨h0,Int.le_refl _⟩
 |m+1,a,h0,hk=>by
  unfold qu
  by_cases hc:get kids m=a - 1
  ·have ZE:=hs (get kids m).toNat;have k0:=hk m (by omega);have e4:((get kids m).toNat:Int)=get kids m:=Int.toNat_of_nonneg k0;rw[aC1 hc]
   cases hz:decide (get sz (get kids m).toNat=0)with
   |true=>exact⟨h0,Int.le_refl _⟩
   |false=>
    have:=Nt hs m (a - get sz (get kids m).toNat) (by omega) λj hj=>hk j (by omega)
    simp only[aC9,aE8,aD6];exact⟨this.1,by omega⟩
  ·rw[aB9 hc];exact⟨h0,Int.le_refl _⟩
section
variable{ns:List aj.den}(hN:∀x∈ns,NodeOk x)(hn:ns.length<=3000)(hb:¬ xw ns<ns.length)
include hN hn hb
omit hN hn in
theorem GI (i:Nat)(hi:i<ns.length):∀j,j<(cP ns i).length->0<=get (cP ns i) j/\get (cP ns i) j<(i:Int):=by
 intro j hj;rw[Bz hi]at hj⊢;have:=xT hb i hi _ (aG7 hj);have e:get (ak ns[i]) j=(ak ns[i])[j]:=tF hj;rw[e];exact this
theorem M5 (f:Fa):∀(r:Nat)(st:LI),r<=ns.length->st.length=ns.length->(∀j,0<=get st j/\get st j<=3000)->
    Evt λn=>dw (S.tab n) (ns,()) f (ns.length:Int) st ns (ns.length:Int) ((ns.length - r:Nat):Int)=some (match imS ns r st with| .inl j=>Sum.inl ((3,(j:Int),()),())| .inr _=>Sum.inr (Sum.inl ((ns,()),f,(ns.length:Int),())))
  |0,st,hr,hl,hs=>aG.up λn _=>by
    rw[rK,aB (by simp)];rfl
  |r+1,st,hr,hl,hs=>by
    have hi:ns.length - (r+1)<ns.length:=(by omega)
    generalize hii:ns.length - (r+1)=i at hi
    have hx:=hN _ (aG7 hi);have ZS:=Bz hi;have FM:=Na (ns,()) f (ns.length:Int) st ↑i ns[i] ns (ns.length:Int) ↑i (λk h=>by have:=xT hb i hi k h;omega) hs hx.nk (ak ns[i]).length ↑i (aE5 _) (by omega) (by omega);have Hf:at_ (τ:=aj) ns (i:Int)=ns[i]:=s7 ns i hi;have wk:i64.wrap (((ak ns[i]).length:Int) - 1)=((ak ns[i]).length:Int) - 1:=wrap64 _ (by omega) (by have:=hx.nk;omega)
    have start:∀n,dw (S.step (S.tab n)) (ns,()) f (ns.length:Int) st ns (ns.length:Int) (i:Int)=(jP (S.tab n) (ns,()) f (ns.length:Int) st ↑i ns[i] (i:Int) (((ak ns[i]).length:Int) - 1) ns (ns.length:Int) ↑i).bind (bB (λkv=>some (Sum.inl kv)) (λkv=>brk (decide ((0:Int)<=kv.2.2.2.2.1)&&decide (kv.2.2.2.2.1<(kv.2.2.2.1.length:Int))) (
   brk (decide (kv.2.2.2.2.1=i64.wrap (kv.2.2.1 - (1:Int)))) (
    brk (!decide (kv.2.2.2.2.2.1=(0:Int))) (
     some (Sum.inl (((3:Int),kv.2.2.2.2.1,()),()))) (
     dw (S.tab n) kv.1 kv.2.1 kv.2.2.1 (kv.2.2.2.1.set kv.2.2.2.2.1.toNat kv.2.2.2.2.2.1) kv.2.2.2.2.2.2.1 kv.2.2.2.2.2.2.2.1 (i64.wrap (kv.2.2.2.2.2.2.2.2.1+(1:Int))))) (
    dw (S.tab n) kv.1 kv.2.1 kv.2.2.1 (kv.2.2.2.1.set kv.2.2.2.2.1.toNat kv.2.2.2.2.2.1) kv.2.2.2.2.2.2.1 kv.2.2.2.2.2.2.2.1 (i64.wrap (kv.2.2.2.2.2.2.2.2.1+(1:Int))))) none)):=λn=>by
      rw[rK,aN (by omega),ad (an hi),Hf];show(jP (S.tab n) (ns,()) f (ns.length:Int) st ↑i ns[i] (i:Int) (i64.wrap (((ak ns[i]).length:Int) - 1)) ns (ns.length:Int) ↑i).bind _=_;rw[wk]
    have Xq:imS ns (r+1) st=match oO st (cP ns i) (cP ns i).length ↑i with
      |none=> .inl i
      |some a=>bif decide (r=0)&& !decide (a=0)then .inl i else imS ns r (st.set i a):=by
      show(match oO st (cP ns (ns.length - (r+1))) (cP ns (ns.length - (r+1))).length ((ns.length - (r+1):Nat):Int)with|none=>_|some a=>_)=_;rw[hii]
    rw[Xq,ZS]
    cases hc:oO st (ak ns[i]) (ak ns[i]).length ↑i with
    |none=>
      rw[hc]at FM
      refine FM.up λn h=> ?_
      rw[start,h];rfl
    |some a=>
      rw[hc]at FM;obtain⟨a0,a1⟩:=Km hs _ _ _ (by omega) (by omega) hc
      have ih:=M5 f r (st.set i a) (by omega) (by rw[List.length_set];exact hl) (λj=>by
        rw[qR _ _ _ _ (by omega)];split
        · exact⟨a0,a1⟩
        · exact hs j)
      have ei:ns.length - r=i+1:=(by omega);rw[ei]at ih
      refine(FM.and ih).up λn ⟨h,ih⟩=> ?_
      have w1:i64.wrap ((ns.length:Int) - 1)=(ns.length:Int) - 1:=wrap64 _ (by omega) (by omega);have ng:(decide ((0:Int)<=(i:Int))&&decide ((i:Int)<(st.length:Int)))=true:=an (by omega);rw[start,h];simp only[aC0,bB,aF2,aE3,Int.toNat_natCast];rw[ad ng,w1,bH (by omega)]
      by_cases ZK:r=0
      · rw[aN (by omega),aC1 ZK]
        by_cases ha:a=0
        · rw[aB (by rw[aC1 ha];rfl),aC1 ha]
          exact ih
        · rw[ad (by rw[aB9 ha];rfl),aB9 ha];rfl
      · rw[aM (by omega),aB9 ZK,aD2,aD1]
        exact ih
theorem L6:∀(r:Nat)(sz:LI),r<=ns.length->sz.length=ns.length->(∀j:Nat,0<=get sz j/\get sz j<=(j:Int)+1)->
  Evt λn=>eW (S.tab n) sz ns (ns.length:Int) ((ns.length - r:Nat):Int)=some (Sum.inl (szS ns r sz,()))
 |0,sz,hr,hl,hs=>aG.up λn _=>by
  rw[rQ,aB (by simp)];rfl
 |r+1,sz,hr,hl,hs=>by
  have hi:ns.length - (r+1)<ns.length:=(by omega)
  generalize hii:ns.length - (r+1)=i at hi
  have hx:=hN _ (aG7 hi);have ZS:=Bz hi;have ao4:=GI hb i hi;rw[ZS]at ao4
  have au9:∀j,0<=get sz j/\get sz j<=3000:=λj=>by
   have:=hs j
   rcases Nat.lt_or_ge j sz.length with h|h
   ·omega
   ·rw[ir h];omega
  have aw8:(ak ns[i]).length<=200:=by
   have hq:okQ ns i=true:=nx ns.length 0 i (aG8 _) (by unfold xw at hb;omega);unfold okQ AH at hq;rw[aC1 hi,aC9,aE1 hi]at hq;have hq:okN ns i ns[i]=true:=hq
   rcases Nat.lt_or_ge 200 (ak ns[i]).length with h|h
   ·unfold okN at hq;rw[aC1 h]at hq
    revert hq
    cases decide (Prod.fst ns[i].2<0)<;>cases decide (Prod.fst (Prod.snd ns[i].2)<Prod.fst ns[i].2)<;>cases decide (Prod.fst (Prod.snd (Prod.snd ns[i].2))<0)<;>intro h<;>cases h
   ·exact h
  have h8:=Qs sz ↑i ns[i] ns (ns.length:Int) ↑i (λk h=>by have:=xT hb i hi k h;omega) au9 aw8 (ak ns[i]).length ↑i (aE5 _) (by omega) (by omega);have Hf:at_ (τ:=aj) ns (i:Int)=ns[i]:=s7 ns i hi;have wk:i64.wrap (((ak ns[i]).length:Int) - 1)=((ak ns[i]).length:Int) - 1:=wrap64 _ (by omega) (by omega);obtain⟨y0,y1⟩:=Nt (kids:=ak ns[i]) hs (ak ns[i]).length ↑i (by omega) (λj hj=>(ao4 j hj).1)
  have lh:szS ns (r+1) sz=szS ns r (bif(qu sz (ak ns[i]) (ak ns[i]).length ↑i).2 then sz.set i ((i:Int) - (qu sz (ak ns[i]) (ak ns[i]).length ↑i).1+1)else sz):=by
   show szS ns r (bif(qu sz (cP ns (ns.length - (r+1))) (cP ns (ns.length - (r+1))).length ((ns.length - (r+1):Nat):Int)).2 then sz.set (ns.length - (r+1)) (((ns.length - (r+1):Nat):Int) - (qu sz (cP ns (ns.length - (r+1))) (cP ns (ns.length - (r+1))).length ((ns.length - (r+1):Nat):Int)).1+1)else sz)=_;rw[hii,ZS]
  rw[lh]
  generalize hy:qu sz (ak ns[i]) (ak ns[i]).length (i:Int)=y at h8 y0 y1
  obtain⟨b,ok⟩:=y;simp only at y0 y1 h8;have ei:ns.length - r=i+1:=(by omega)
  have start:∀n,jN (S.tab n) sz ↑i ns[i] (i:Int) true (((ak ns[i]).length:Int) - 1) ns (ns.length:Int) (i:Int)=some (Sum.inl (sz,(i:Int),b,ok,ns,(ns.length:Int),(i:Int),()))->eW (S.step (S.tab n)) sz ns (ns.length:Int) (i:Int)=brk ok (brk (decide ((0:Int)<=(i:Int))&&decide ((i:Int)<(sz.length:Int))) (eW (S.tab n) (sz.set i (i64.wrap ((i64.wrap ((i:Int) - b))+(1:Int)))) ns (ns.length:Int) (i64.wrap ((i:Int)+(1:Int)))) none) (eW (S.tab n) sz ns (ns.length:Int) (i64.wrap ((i:Int)+(1:Int)))):=λn h=>by
   rw[rQ,aN (by omega),ad (an hi),Hf];show(jN (S.tab n) sz ↑i ns[i] (i:Int) true (i64.wrap (((ak ns[i]).length:Int) - 1)) ns (ns.length:Int) ↑i).bind _=_;rw[wk,h];rfl
  cases ok with
  |true=>
   have ih:=L6 r (sz.set i ((i:Int) - b+1)) (by omega) (by rw[List.length_set];exact hl) (λj=>by
    rw[qR _ _ _ _ (by omega)];split
    ·rename_i e;subst e;omega
    ·exact hs j)
   rw[ei]at ih
   refine(h8.and ih).up λn ⟨h,ih⟩=> ?_
   have ng:(decide ((0:Int)<=(i:Int))&&decide ((i:Int)<(sz.length:Int)))=true:=an (by omega);rw[start n h,ai,ad ng,wrap64 ((i:Int) - b) (by omega) (by omega),wrap64 ((i:Int) - b+1) (by omega) (by omega),bH (by omega)];exact ih
  |false=>
   have ih:=L6 r sz (by omega) hl hs;rw[ei]at ih
   refine(h8.and ih).up λn ⟨h,ih⟩=> ?_
   rw[start n h,ae,bH (by omega)];exact ih
end
theorem C8 (n j:Nat):get (List.replicate n (0:Int)) j=0:=by
 unfold get;rw[aE2,List.getElem?_replicate];split<;>rfl
theorem SZ (t:Tr)(f:Fa)(sz:LI)(hl:sz.length<=3000):Evt λn=>dM (S.tab n) t f sz sz (sz.length:Int) 0=some (bif decide (stop (zq sz) sz.length 0<sz.length)then Sum.inl ((3,(stop (zq sz) sz.length 0:Int),()),())else Sum.inr (Sum.inl (t,f,sz,()))):=
 adv (F:=λT (j:Nat)=>dM T t f sz sz (sz.length:Int) ↑j) (q:=zq sz) (N:=sz.length) (out:=λj=>bif decide (j<sz.length)then Sum.inl ((3,(j:Int),()),())else Sum.inr (Sum.inl (t,f,sz,()))) (p:=Base2) aG Fj
  (λT j h hq=>by
   unfold zq at hq;rw[aC6,aC4,aH3,aC8]at hq;show dM (S.step T) _ _ _ _ _ _=dM T t f sz sz (sz.length:Int) ((j+1:Nat):Int)
   rw[rE,aN (by omega),ad (an hq.1),aJ,aB (aB9 hq.2),bH (by omega)])
  (λT j h hq=>by
   show dM (S.step T) _ _ _ _ _ _=_;rw[rE]
   by_cases hj:j<sz.length
   ·unfold zq at hq;rw[aC1 hj,aC9,Bool.not_eq_false']at hq;rw[aN (by omega),ad (an hj),aJ,ad hq,aC1 hj];rfl
   ·rw[aM (by omega),aB9 hj];rfl) sz.length 0 (by omega)
def nz (ns:List aj.den):Fa:=
 bif decide (ns.length=0)then(1,0,())else
 bif decide (3000<ns.length)then(1,0,())else
 bif !decide (jD ns ((ns.length - 1:Nat):Int)=1)then(1,0,())else
 bif decide (xw ns<ns.length)then(2,(xw ns:Int),())else
 match imS ns ns.length (List.replicate ns.length 0)with
 | .inl j=>(3,(j:Int),())
 | .inr _=>bif decide (stop (qb (tH ns ns.length (List.replicate ns.length 0))) ns.length 0<ns.length)then(4,(stop (qb (tH ns ns.length (List.replicate ns.length 0))) ns.length 0:Int),())else(0,0,())
section
variable{ns:List aj.den}(hN:∀x∈ns,NodeOk x)
include hN
theorem Dy:Evt λn=>nV (S.tab n) (ns,())=some (nz ns,aQ):=by
 unfold nz
 by_cases c0:ns.length=0
 ·refine aG.up λn _=> ?_
  have d:decide ((((ns,()):Tr).1.length:Int)=0)=true:=aC1 (by show(ns.length:Int)=0;omega);rw[r5,ad d,aC1 c0];rfl
 have d0:decide ((((ns,()):Tr).1.length:Int)=0)=false:=aB9 (by show¬ (ns.length:Int)=0;omega);rw[aB9 c0]
 by_cases c1:3000<ns.length
 ·refine aG.up λn _=> ?_
  have d:decide ((3000:Int)<(((ns,()):Tr).1.length:Int))=true:=aC1 (by show(3000:Int)<(ns.length:Int);omega);rw[r5,aB d0,ad d,aC1 c1];rfl
 have hn:ns.length<=3000:=(by omega);have d1:decide ((3000:Int)<(((ns,()):Tr).1.length:Int))=false:=aB9 (by show¬ (3000:Int)<(ns.length:Int);omega);rw[aB9 c1]
 have wn:i64.wrap ((((ns,()):Tr).1.length:Int) - 1)=((ns.length - 1:Nat):Int):=by
  show i64.wrap ((ns.length:Int) - 1)=_;rw[wrap64 _ (by omega) (by omega)];omega
 have ng:(decide ((0:Int)<=((ns.length - 1:Nat):Int))&&decide (((ns.length - 1:Nat):Int)<(((ns,()):Tr).1.length:Int)))=true:=an (show ns.length - 1<ns.length by omega)
 have start:∀n,nV (S.step (S.tab n)) (ns,())=_:=λn=>by
  rw[r5,aB d0,aB d1,wn,ad ng]
 by_cases c2:¬ jD ns ((ns.length - 1:Nat):Int)=1
 ·refine aG.up λn _=> ?_
  rw[start,ad (by
   show(!decide (jD ns ((ns.length - 1:Nat):Int)=1))=true
   rw[aB9 c2];rfl),aB9 c2];rfl
 replace c2:=Decidable.not_not.1 c2
 rw[aC1 c2]
 have step2:∀n,nV (S.step (S.tab n)) (ns,())=_:=λn=>by
  rw[start,aB (by
   show(!decide (jD ns ((ns.length - 1:Nat):Int)=1))=false
   rw[aC1 c2];rfl)]
 have h5:=Vf hN hn (ns.length:Int) (0,0,())
 by_cases c3:xw ns<ns.length
 ·refine h5.up λn h=> ?_
  rw[aC1 c3]at h;rw[step2,aC1 c3];show(fD (S.tab n) (ns,()) (0,0,()) (ns.length:Int) (ns.length:Int) 0).bind _=_;rw[h];rfl
 rw[aB9 c3]at h5⊢;have sB:=M5 hN hn c3 (0,0,()) ns.length (List.replicate ns.length 0) (aE5 _) (by simp) (λj=>by rw[C8];omega);rw[Nat.sub_self]at sB
 have KP:(decide ((0:Int)<=(ns.length:Int))&&decide ((ns.length:Int)<=(ns.length:Int))&&decide ((ns.length:Int)<=(lim:Int)))=true:=by
  rw[aC1 (show(0:Int)<=(ns.length:Int)by omega),aC1 (show(ns.length:Int)<=(ns.length:Int)by omega),aC1 (show(ns.length:Int)<=(lim:Int)by unfold lim;omega)];rfl
 have vJ:∀n,fD (S.tab n) (ns,()) (0,0,()) (((ns,()):Tr).1.length:Int) (((ns,()):Tr).1.length:Int) 0=some (Sum.inr (Sum.inl ((ns,()),(0,0,()),(ns.length:Int),())))->nV (S.step (S.tab n)) (ns,())=_:=λn h=>by
  rw[step2,h,aC0]
 simp only[aD1,aE6]
 cases hc:imS ns ns.length (List.replicate ns.length 0)with
 |inl j=>
  rw[hc]at sB
  refine(h5.and sB).up λn ⟨h,h'⟩=> ?_
  rw[vJ n h];show brk (decide ((0:Int)<=(ns.length:Int))&&decide ((ns.length:Int)<=(ns.length:Int))&&decide ((ns.length:Int)<=(lim:Int))) ((dw (S.tab n) (ns,()) (0,0,()) (ns.length:Int) (List.replicate ns.length 0) ns (ns.length:Int) 0).bind _) _=_;have h':dw (S.tab n) (ns,()) (0,0,()) (ns.length:Int) (List.replicate ns.length 0) ns (ns.length:Int) 0=_:=h';rw[ad KP,h'];rfl
 |inr u=>
  rw[hc]at sB;have aj8:=Nr hN hn c3 (0,0,()) ns.length (List.replicate ns.length 0) (aE5 _) (by simp)
  have VT:(tH ns ns.length (List.replicate ns.length 0)).length=ns.length:=by rw[EK];simp
  have ZR:=Sc (0,0,()) (tH ns ns.length (List.replicate ns.length 0)) (by omega);rw[VT]at ZR
  refine((h5.and sB).and (aj8.and ZR)).up λn ⟨⟨h,h'⟩,aj8,ZR⟩=> ?_
  rw[vJ n h];show brk (decide ((0:Int)<=(ns.length:Int))&&decide ((ns.length:Int)<=(ns.length:Int))&&decide ((ns.length:Int)<=(lim:Int))) ((dw (S.tab n) (ns,()) (0,0,()) (ns.length:Int) (List.replicate ns.length 0) ns (ns.length:Int) 0).bind _) _=_;have h':dw (S.tab n) (ns,()) (0,0,()) (ns.length:Int) (List.replicate ns.length 0) ns (ns.length:Int) 0=_:=h';rw[ad KP,h',aC0];show brk (decide ((0:Int)<=(ns.length:Int))&&decide ((ns.length:Int)<=(ns.length:Int))&&decide ((ns.length:Int)<=(lim:Int))) ((lp (S.tab n) (ns,()) (0,0,()) (List.replicate ns.length 0) (i64.wrap ((ns.length:Int) - 1))).bind _) _=_;rw[ad KP,wrap64 _ (by omega) (by omega),aj8,aC0];show(fO (S.tab n) (0,0,()) (tH ns ns.length (List.replicate ns.length 0)) ((tH ns ns.length (List.replicate ns.length 0)).length:Int) 0).bind _=_;rw[VT,ZR,aC0];cases decide (stop (qb (tH ns ns.length (List.replicate ns.length 0))) ns.length 0<ns.length)<;>rfl
theorem wM:Evt λn=>mn (S.tab n) (ns,())=some (nz ns,aQ):=by
 unfold nz
 by_cases c0:ns.length=0
 ·refine aG.up λn _=> ?_
  have d:decide ((((ns,()):Tr).1.length:Int)=0)=true:=aC1 (by show(ns.length:Int)=0;omega);rw[r6,ad d,aC1 c0];rfl
 have d0:decide ((((ns,()):Tr).1.length:Int)=0)=false:=aB9 (by show¬ (ns.length:Int)=0;omega);rw[aB9 c0]
 by_cases c1:3000<ns.length
 ·refine aG.up λn _=> ?_
  have d:decide ((3000:Int)<(((ns,()):Tr).1.length:Int))=true:=aC1 (by show(3000:Int)<(ns.length:Int);omega);rw[r6,aB d0,ad d,aC1 c1];rfl
 have hn:ns.length<=3000:=(by omega);have d1:decide ((3000:Int)<(((ns,()):Tr).1.length:Int))=false:=aB9 (by show¬ (3000:Int)<(ns.length:Int);omega);rw[aB9 c1]
 have wn:i64.wrap ((((ns,()):Tr).1.length:Int) - 1)=((ns.length - 1:Nat):Int):=by
  show i64.wrap ((ns.length:Int) - 1)=_;rw[wrap64 _ (by omega) (by omega)];omega
 have ng:(decide ((0:Int)<=((ns.length - 1:Nat):Int))&&decide (((ns.length - 1:Nat):Int)<(((ns,()):Tr).1.length:Int)))=true:=an (show ns.length - 1<ns.length by omega)
 have start:∀n,mn (S.step (S.tab n)) (ns,())=_:=λn=>by
  rw[r6,aB d0,aB d1,wn,ad ng]
 by_cases c2:¬ jD ns ((ns.length - 1:Nat):Int)=1
 ·refine aG.up λn _=> ?_
  rw[start,ad (by
   show(!decide (jD ns ((ns.length - 1:Nat):Int)=1))=true
   rw[aB9 c2];rfl),aB9 c2];rfl
 replace c2:=Decidable.not_not.1 c2
 rw[aC1 c2]
 have step2:∀n,mn (S.step (S.tab n)) (ns,())=_:=λn=>by
  rw[start,aB (by
   show(!decide (jD ns ((ns.length - 1:Nat):Int)=1))=false
   rw[aC1 c2];rfl)]
 have h4:=Vi hN hn (0,0,())
 by_cases c3:xw ns<ns.length
 ·refine h4.up λn h=> ?_
  rw[aC1 c3]at h;rw[step2,aC1 c3];show(fF (S.tab n) (ns,()) (0,0,()) (ns.length:Int) 0).bind _=_;rw[h];rfl
 rw[aB9 c3]at h4⊢;have h3:=L6 hN hn c3 ns.length (List.replicate ns.length 0) (aE5 _) (by simp) (λj=>by rw[C8];omega);rw[Nat.sub_self]at h3
 have KP:(decide ((0:Int)<=(ns.length:Int))&&decide ((ns.length:Int)<=(ns.length:Int))&&decide ((ns.length:Int)<=(lim:Int)))=true:=by
  rw[aC1 (show(0:Int)<=(ns.length:Int)by omega),aC1 (show(ns.length:Int)<=(ns.length:Int)by omega),aC1 (show(ns.length:Int)<=(lim:Int)by unfold lim;omega)];rfl
 have IZ:Evt λn=>mF (S.tab n) (ns,())=some (szS ns ns.length (List.replicate ns.length 0),aQ):=h3.up λn h=>by
  rw[CI,ad KP];show(eW (S.tab n) (List.replicate ns.length 0) ns (ns.length:Int) 0).bind _=_;have h:eW (S.tab n) (List.replicate ns.length 0) ns (ns.length:Int) 0=_:=h;rw[h];rfl
 have ME:(szS ns ns.length (List.replicate ns.length 0)).length=ns.length:=by rw[Ib];simp
 have BW:=SZ (ns,()) (0,0,()) (szS ns ns.length (List.replicate ns.length 0)) (by omega)
 have al8:imS ns ns.length (List.replicate ns.length 0)=KG (szS ns ns.length (List.replicate ns.length 0)):=by
  obtain⟨r,hr⟩:∃r,ns.length=r+1:=⟨ns.length - 1,by omega⟩;have:=UQ ns (GI c3) r (List.replicate ns.length 0) (List.replicate ns.length 0) (by omega) ⟨by simp,by simp,λj hj=>by omega,λj _=>⟨C8 ..,C8 ..⟩⟩;rw[<-hr]at this;exact this
 rw[al8];simp only[aD1,aE6]
 generalize lh:szS ns ns.length (List.replicate ns.length 0)=sz at IZ ME BW
 have vJ:∀n,fF (S.tab n) (ns,()) (0,0,()) (((ns,()):Tr).1.length:Int) 0=some (Sum.inr (Sum.inl ((ns,()),(0,0,()),())))->mn (S.step (S.tab n)) (ns,())=_:=λn h=>by
  rw[step2,h,aC0]
 unfold KG
 cases hz:decide (stop (zq sz) sz.length 0<sz.length)with
 |true=>
  rw[hz]at BW
  refine((h4.and IZ).and BW).up λn ⟨⟨h,h'⟩,BW⟩=> ?_
  rw[vJ n h];show(mF (S.tab n) (ns,())).bind _=_;rw[h',aC0];show(dM (S.tab n) (ns,()) (0,0,()) sz sz (sz.length:Int) 0).bind _=_;rw[BW];rfl
 |false=>
  rw[hz]at BW
  have wz:i64.wrap ((sz.length:Int) - 1)=((sz.length - 1:Nat):Int):=by rw[wrap64 _ (by omega) (by omega)];omega
  have Yz:(decide ((0:Int)<=((sz.length - 1:Nat):Int))&&decide (((sz.length - 1:Nat):Int)<(sz.length:Int)))=true:=an (show sz.length - 1<sz.length by omega)
  cases Uy:decide (get sz (sz.length - 1)=(sz.length:Int))with
  |false=>
   refine((h4.and IZ).and BW).up λn ⟨⟨h,h'⟩,BW⟩=> ?_
   rw[vJ n h];show(mF (S.tab n) (ns,())).bind _=_;rw[h',aC0];show(dM (S.tab n) (ns,()) (0,0,()) sz sz (sz.length:Int) 0).bind _=_;rw[BW,aC0];show brk (decide ((0:Int)<=i64.wrap ((sz.length:Int) - 1))&&decide (i64.wrap ((sz.length:Int) - 1)<(sz.length:Int))) (brk (!decide (sz.getD (i64.wrap ((sz.length:Int) - 1)).toNat 0=(sz.length:Int))) (some ((3,i64.wrap ((sz.length:Int) - 1),()),aQ)) _) _=_;rw[wz,ad Yz,aJ,Uy,ad (by rfl)];rfl
  |true=>
   have VQ:=M4 hN hn c3 (0,0,()) ns.length (List.replicate ns.length 0) (aE5 _) (by simp)
   have VT:(tH ns ns.length (List.replicate ns.length 0)).length=ns.length:=by rw[EK];simp
   have Tt:=Sz (0,0,()) (tH ns ns.length (List.replicate ns.length 0)) (by omega);rw[VT]at Tt
   refine(((h4.and IZ).and BW).and (VQ.and Tt)).up λn ⟨⟨⟨h,h'⟩,BW⟩,VQ,Tt⟩=> ?_
   rw[vJ n h];show(mF (S.tab n) (ns,())).bind _=_;rw[h',aC0];show(dM (S.tab n) (ns,()) (0,0,()) sz sz (sz.length:Int) 0).bind _=_;rw[BW,aC0];show brk (decide ((0:Int)<=i64.wrap ((sz.length:Int) - 1))&&decide (i64.wrap ((sz.length:Int) - 1)<(sz.length:Int))) (brk (!decide (sz.getD (i64.wrap ((sz.length:Int) - 1)).toNat 0=(sz.length:Int))) (some ((3,i64.wrap ((sz.length:Int) - 1),()),aQ)) _) _=_;rw[wz,ad Yz,aJ,Uy,aB (by rfl)];show brk (decide ((0:Int)<=(ns.length:Int))&&decide ((ns.length:Int)<=(ns.length:Int))&&decide ((ns.length:Int)<=(lim:Int))) ((lj (S.tab n) (ns,()) (0,0,()) (List.replicate ns.length 0) (i64.wrap ((ns.length:Int) - 1))).bind _) _=_;rw[ad KP,wrap64 _ (by omega) (by omega),VQ,aC0];show(fM (S.tab n) (0,0,()) (tH ns ns.length (List.replicate ns.length 0)) ((tH ns ns.length (List.replicate ns.length 0)).length:Int) 0).bind _=_;rw[VT,Tt,aC0];cases decide (stop (qb (tH ns ns.length (List.replicate ns.length 0))) ns.length 0<ns.length)<;>rfl
end
end Go.Abs.D
end

section
namespace Go.Abs.D
def Bd (names:List LI)(text:LI):Prop:=text.length<=4000/\names.length<=200/\∀m∈names,m.length<=40
theorem Jw {k:Int}{s:LI}(h:fz k s=true):s.length<=40:=by
 unfold fz at h;simp only[aC6,aC4]at h;exact h.1.2
theorem X4 {names:List LI}{a b:Int}(h:NM names a b=true)(hb:b<=200):names.length<=200/\∀m∈names,m.length<=40:=by
 unfold NM at h;simp only[aC6,aC4,List.all_eq_true]at h;exact⟨by omega,λm hm=>Jw (h.2.2 m hm)⟩
def Ws (names:List LI)(text:LI)(b:Bool):Prop:=b=true->Bd names text
variable{ks:LI}{names:List LI}{op num:Int}{text:LI}{kind:Int}{t:Tr}{x:aj.den}
theorem OM {a b:Bool}(h:Ws names text b):Ws names text (a&&b):=λk=>h (by cases a<;>simp_all)
theorem Mp {a b:Bool}(h:Ws names text a):Ws names text (a&&b):=λk=>h (by cases a<;>simp_all)
theorem KF:Ws names text false:=λk=>by cases k
theorem uH {b c:Bool}:Ws names text (PL false b c false (names.length:Int) op num text):=λk=>by
 unfold PL at k;simp only[aD3,aC6,aC4]at k;obtain⟨h1,_,_,h2⟩:=k;subst h2;have:names=[]:=aG4 (by omega);subst this;exact⟨by simp,by simp,λm hm=>by cases hm⟩
theorem Ha {b c:Bool}{X:Bool}{lo hi:Int}(hh:hi<=200):Ws names text (PL true b c false (names.length:Int) op num text&&(NM names lo hi&&X)):=λk=>by
 simp only[aC6]at k;obtain⟨k,k2,_⟩:=k;unfold PL at k;simp only[aD3,aC6,aC4]at k;obtain⟨_,_,_,h2⟩:=k;subst h2;have:=X4 k2 hh;exact⟨by simp,this⟩
theorem vH {b c:Bool}{X:Bool}(hX:X=true->text.length<=4000):Ws names text (PL false b c true (names.length:Int) op num text&&X):=λk=>by
 simp only[aC6]at k;obtain⟨k,k2⟩:=k;unfold PL at k;simp only[aD3,aC6,aC4]at k;obtain⟨h1,_⟩:=k;have:names=[]:=aG4 (by omega);subst this;exact⟨hX k2,by simp,λm hm=>by cases hm⟩
theorem BI {k:Int}(h:fz k text=true):text.length<=4000:=by have:=Jw h;omega
theorem zt {c a b:Bool}(h1:Ws names text a)(h2:Ws names text b):Ws names text (bif c then a else b):=by cases c<;>assumption
theorem gx {c:Bool}{a b:AnS}{d:Bool}(h1:Ws names text (An2 a d))(h2:Ws names text (An2 b d)):Ws names text (An2 (bif c then a else b) d):=by cases c<;>assumption
theorem jn {b d:Bool}(h:Ws names text b):Ws names text (An2 (Sum.inl (b,())) d):=h
theorem QK {y:(Tr×aj.den×Int×Unit)}{d:Bool}(h:Ws names text d):Ws names text (An2 (Sum.inr (Sum.inl y)) d):=h
theorem TW {fl d:Bool}(hd:Ws names text d):Ws names text (An2 (Q41 t x ks names op num text kind fl) d):=by
 unfold Q41;refine gx (jn ?_) (gx (jn ?_) (gx (jn ?_) (QK hd)))<;>(repeat first|exact uH|exact Mp uH|exact Ha (by decide)|exact vH BI|exact vH (λh=>by have:=of_decide_eq_true h;omega)|exact KF|apply OM)
theorem TK {fl d:Bool}(hd:Ws names text d):Ws names text (An2 (Q28 t x ks names op num text kind fl) d):=by
 unfold Q28;refine gx (jn ?_) (gx (jn ?_) (gx (jn ?_) (gx (jn ?_) (gx (jn ?_) (gx (TW hd) (TW hd))))))<;>(repeat first|exact uH|exact Mp uH|exact Ha (by decide)|exact vH BI|exact vH (λh=>by have:=of_decide_eq_true h;omega)|exact KF|apply OM)
theorem TI {fl d:Bool}(hd:Ws names text d):Ws names text (An2 (Q18 t x ks names op num text kind fl) d):=by
 unfold Q18;refine gx (jn ?_) (gx (jn ?_) (gx (jn ?_) (gx (jn ?_) (gx (jn ?_) (gx (jn ?_) (gx (jn ?_) (gx (jn ?_) (gx (jn ?_) (gx (jn ?_) (gx (jn ?_) (QK hd)))))))))))<;>(repeat first|exact uH|exact Mp uH|exact Ha (by decide)|exact vH BI|exact vH (λh=>by have:=of_decide_eq_true h;omega)|exact KF|apply OM)
theorem S2 {fl d:Bool}(hd:Ws names text d):Ws names text (An2 (Q7 t x ks names op num text kind fl) d):=by
 unfold Q7;refine gx (jn ?_) (gx (jn ?_) (gx (jn ?_) (gx (jn ?_) (gx (jn ?_) (gx (TI hd) (TI hd))))))<;>(repeat first|exact uH|exact Mp uH|exact Ha (by decide)|exact vH BI|exact vH (λh=>by have:=of_decide_eq_true h;omega)|exact KF|apply OM)
theorem aa7:Ws names text (KS t x ks names op num text kind):=by
 unfold KS;have hd:Ws names text (bif decide (kind=15)then PL false false false false (names.length:Int) op num text&&(decide ((ks.length:Int)=1)&&EX ks 0 1)else false):=zt (Mp uH) KF;refine zt ?_ (zt ?_ (zt ?_ (zt ?_ (zt ?_ (gx (TK hd) (TK hd))))))<;>(repeat first|exact uH|exact Mp uH|exact Ha (by decide)|exact vH BI|exact vH (λh=>by have:=of_decide_eq_true h;omega)|exact KF|apply OM)
theorem Z4:Ws names text (KE t x ks names op num text kind):=by
 unfold KE;have hd:Ws names text (bif decide (kind=42)then decide ((ks.length:Int)=1)&&(EX ks 0 1&&(PL false false false true (names.length:Int) op num text&&fz 1 text))else false):=zt (by(repeat first|exact uH|exact Mp uH|exact Ha (by decide)|exact vH BI|exact vH (λh=>by have:=of_decide_eq_true h;omega)|exact KF|apply OM)) KF;exact gx (S2 hd) (gx (S2 hd) (gx (S2 hd) (S2 hd)))
theorem Vp {ns:List aj.den}{i:Nat}{x:aj.den}(h:okN ns i x=true):Bd (aK x) x.2.2.2.2.2.2.1/\(ak x).length<=200/\∀k∈ak x,0<=k/\k<(i:Int):=by
 unfold okN at h
 by_cases c1:x.2.1<0
 ·rw[aC1 c1]at h;cases h
 by_cases c2:x.2.2.1<x.2.1
 ·rw[aB9 c1,aC1 c2]at h;cases h
 by_cases c3:x.2.2.2.1<0
 ·rw[aB9 c1,aB9 c2,aC1 c3]at h;cases h
 by_cases c4:200<(ak x).length
 ·rw[aB9 c1,aB9 c2,aB9 c3,aC1 c4]at h;cases h
 rw[aB9 c1,aB9 c2,aB9 c3,aB9 c4]at h;simp only[aD1]at h
 cases ha:(ak x).all (inR i)with
 |false=>rw[ha]at h;cases h
 |true=>
  rw[ha,aD6]at h;refine⟨?_,by omega,λk hk=> ?_⟩
  ·cases hs:cS x.1 with
   |true=>rw[hs]at h;exact aa7 h
   |false=>rw[hs]at h;exact Z4 h
  ·have:=List.all_eq_true.1 ha k hk;unfold inR at this;simpa using this
end Go.Abs.D
end

section
namespace Go.Abs.D
theorem xf {ns:List aj.den}(h:(nz ns).1=0):nz ns=(0,0,())/\0<ns.length/\ns.length<=3000/\∀(j:Nat)(hj:j<ns.length),∀k∈ak ns[j],0<=k/\k<(j:Int):=by
 unfold nz at h⊢
 by_cases c0:ns.length=0
 ·rw[aC1 c0]at h;exact absurd (show(1:Int)=0 from h) (by decide)
 rw[aB9 c0]at h⊢
 by_cases c1:3000<ns.length
 ·rw[aC1 c1]at h;exact absurd (show(1:Int)=0 from h) (by decide)
 rw[aB9 c1]at h⊢
 by_cases c2:jD ns ((ns.length - 1:Nat):Int)=1
 ·rw[aC1 c2]at h⊢
  by_cases c3:xw ns<ns.length
  ·rw[aC1 c3]at h;exact absurd (show(2:Int)=0 from h) (by decide)
  rw[aB9 c3]at h⊢;refine⟨?_,by omega,by omega,λj hj=>xT c3 j hj⟩;simp only[aE6,aD1]at h⊢
  cases hi:imS ns ns.length (List.replicate ns.length 0)with
  |inl j=>rw[hi]at h;exact absurd (show(3:Int)=0 from h) (by decide)
  |inr _=>
   rw[hi]at h;simp only at h⊢
   cases hd:decide (stop (qb (tH ns ns.length (List.replicate ns.length 0))) ns.length 0<ns.length)with
   |true=>rw[hd]at h;exact absurd (show(4:Int)=0 from h) (by decide)
   |false=>rfl
 ·rw[aB9 c2]at h;exact absurd (show(1:Int)=0 from h) (by decide)
theorem yv {ns:List aj.den}(hN:∀x∈ns,NodeOk x):Evt λn=>u7 (S.tab n) (ns,())=some (decide ((nz ns).1=0),aQ):=(Dy hN).up λn h=>by
 rw[FX,h,aC0]
 by_cases c:(nz ns).1=0
 ·have:=(xf c).1;rw[this];rfl
 ·simp only[aB9 c,aD2]
theorem Om {ns:List aj.den}(h:(nz ns).1=0)(j:Nat)(hj:j<ns.length):okN ns j ns[j]=true:=by
 have hb:¬ xw ns<ns.length:=by
  unfold nz at h
  by_cases c0:ns.length=0
  ·omega
  rw[aB9 c0]at h
  by_cases c1:3000<ns.length
  ·rw[aC1 c1]at h;exact absurd (show(1:Int)=0 from h) (by decide)
  rw[aB9 c1]at h
  by_cases c2:jD ns ((ns.length - 1:Nat):Int)=1
  ·rw[aC1 c2]at h
   by_cases c3:xw ns<ns.length
   ·rw[aC1 c3]at h;exact absurd (show(2:Int)=0 from h) (by decide)
   exact c3
  ·rw[aB9 c2]at h;exact absurd (show(1:Int)=0 from h) (by decide)
 have hq:okQ ns j=true:=nx ns.length 0 j (aG8 _) (by unfold xw at hb;omega);unfold okQ AH at hq;rw[aC1 hj,aC9,aE1 hj]at hq;exact hq
end Go.Abs.D
end

section
namespace Go.Abs.D
theorem Bk {s:LI}(yM:∀c∈s,isByte c)(a b:Int):∀c∈sub s a b,isByte c:=λc hc=>yM c (List.mem_of_mem_take (List.mem_of_mem_drop hc))
theorem Lj {s:LI}(yM:∀c∈s,isByte c)(a b:Nat):∀c∈bJ s a b,isByte c:=λc hc=>yM c (List.mem_of_mem_take (List.mem_of_mem_drop hc))
theorem Cq {s:LI}(yM:∀c∈s,isByte c)(i j:Nat)(f:Bool):∀c∈(jC s i j f).2.2.2.2.2.1,isByte c:=by
 unfold jC
 cases f|| !decide (dv 0 (bJ s i j)<9223372036854775808)with
 |true=>exact Lj yM i j
 |false=>exact λ_ h=>nomatch h
theorem Qd {s:LI}(yM:∀c∈s,isByte c){i:Nat}{t:al.den}(h:iZ s i= .inr t):∀c∈t.2.2.2.2.2.1,isByte c:=by
 unfold iZ at h
 have ex:∀{j f},sw s i j f= .inr t->∀c∈t.2.2.2.2.2.1,isByte c:=λ{j f} h=>by
  unfold sw at h
  cases h5:decide (get s j=101)with
  |true=>
   rw[h5]at h
   cases hd:aR (get s (lz s j))with
   |true=>rw[hd]at h;injection h with h;subst h;exact Cq yM i _ _
   |false=>rw[hd]at h;cases h
  |false=>rw[h5]at h;injection h with h;subst h;exact Cq yM i _ _
 have fr:∀j,sj s i j= .inr t->∀c∈t.2.2.2.2.2.1,isByte c:=λj h=>by
  unfold sj at h
  cases h5:decide (get s j=46)&&aR (get s (j+1))with
  |true=>rw[h5]at h;exact ex h
  |false=>rw[h5]at h;exact ex h
 cases h0:decide (get s i=48)&&decide (get s (i+1)=120)with
 |false=>rw[h0]at h;exact fr _ h
 |true=>
  rw[h0]at h;have h:ic s i= .inr t:=h;unfold ic at h
  by_cases he:j8 s (i+18) (i+2)=i+2
  ·simp only[he,if_true]at h;cases h
  ·simp only[he,aH6]at h
   cases hx:gy (get s (j8 s (i+18) (i+2)))with
   |true=>simp only[hx,if_true]at h;cases h
   |false=>simp only[hx,aG2,aH6]at h;injection h with h;subst h;exact λ_ h=>nomatch h
theorem Qe {s:LI}(yM:∀c∈s,isByte c){i:Nat}{t:al.den}(h:kL s i= .inr t):∀c∈t.2.2.2.2.2.1,isByte c:=by
 unfold kL at h
 cases hl:bC (get s i)with
 |true=>
  rw[hl]at h
  injection h with h
  subst h;unfold Ge;simp only;split
  ·exact λ_ h=>nomatch h
  ·exact Bk yM _ _
 |false=>
  rw[hl]at h
  cases hd:aR (get s i)with
  |true=>rw[hd]at h;exact Qd yM h
  |false=>
   rw[hd]at h
   cases zC:decide (get s i=34)with
   |true=>
    rw[zC]at h;have h:Gf i (eB s s.length (i+1) [])= .inr t:=h
    cases hr:eB s s.length (i+1) []with
    |inl e=>rw[hr]at h;cases h
    |inr y=>
     rw[hr]at h;obtain⟨e,r⟩:=y
     injection h with h
     subst h;intro c hc;obtain⟨x,_,rfl⟩:=List.mem_map.1 hc;unfold byte isByte;omega
   |false=>
    rw[zC]at h;have h:qc i (ja (p3 s i))= .inr t:=h;unfold qc at h
    cases hk:decide ((ja (p3 s i)).1=0)with
    |true=>rw[hk]at h;cases h
    |false=>rw[hk]at h;injection h with h;subst h;exact λ_ h=>nomatch h
theorem no6:(allI.all λs=>kinds.all λk=>match stI s k with| .left l=> !l.contains 6|_=>true)=true:=by kernel_rfl
theorem aa9:(allI.all λs=> !isLeft (stI s 6))=true:=by kernel_rfl
theorem T4 {k:Int}(h0:0<=k)(h1:k<=78):∀{a l:LI},gdI a->(6:Int)∉a->gO a k= .left l->(6:Int)∉l
 |[],_,_,_,e=>by cases e
 |s::r,l,ha,h6,e=>by
  have e:(stI s k).then r (gO r k)= .left l:=(gu stI s r k).symm.trans e
  have hr:(6:Int)∉r:=λh=>h6 (aD9 _ h)
  cases hs:stI s k with
  |no=>rw[hs]at e;cases e
  |gone=>rw[hs]at e;exact T4 h0 h1 (λx hx=>ha x (aD9 _ hx)) hr e
  |left m=>
   rw[hs]at e
   injection e with e
   subst e;intro hm
   rcases aE9.1 hm with hm|hm
   ·rcases ha s (aE0 ..)with ht|ht
    ·rw[s6 ht.2]at hs
     cases hd:decide (s=k)with
     |false=>rw[hd]at hs;cases hs
     |true=>rw[hd]at hs;injection hs with hs;subst hs;cases hm
    ·have:=List.all_eq_true.1 (List.all_eq_true.1 no6 s ht) k (jf h0 h1);rw[hs]at this;have this:(!m.contains 6)=true:=this;rw[List.contains_iff_mem.2 hm]at this;cases this
   ·exact hr hm
theorem T2:∀(ks:LI){a b:LI},(∀k∈ks,0<=k/\k<=78)->gdI a->(6:Int)∉a->foldI a ks=some b->(6:Int)∉b
 |[],a,b,_,_,h6,e=>by injection e with e;subst e;exact h6
 |k::ks,a,b,hk,ha,h6,e=>by
  have e:(match gO a k with| .left l=>foldI l ks|_=>none)=some b:=e;obtain⟨k0,k1⟩:=hk k (aE0 ..)
  cases ho:gO a k with
  |no=>rw[ho]at e;cases e
  |gone=>rw[ho]at e;cases e
  |left l=>rw[ho]at e;exact T2 ks (λx hx=>hk x (aD9 _ hx)) (E8 k0 k1 ha ho) (T4 k0 k1 ha h6 ho) e
theorem Kq:∀{a:LI},gdI a->(6:Int)∉a->qt a 6=true->gO a 6= .gone
 |[],_,_,_=>rfl
 |s::r,ha,h6,h=>by
  have ho:gO (s::r) 6=(stI s 6).then r (gO r 6):=gu stI s r 6
  have hr:(6:Int)∉r:=λh=>h6 (aD9 _ h)
  unfold qt at h;rw[ho]at h⊢
  have hs:isLeft (stI s 6)=false:=by
   rcases ha s (aE0 ..)with ht|ht
   ·rw[s6 ht.2,aB9 (show s≠6 from λe=>h6 (by rw[e];exact aE0 ..))];rfl
   ·simpa using List.all_eq_true.1 aa9 s ht
  cases hq:stI s 6 with
  |no=>rw[hq]at h;cases h
  |left l=>rw[hq]at hs;cases hs
  |gone=>rw[hq]at h;exact Kq (λx hx=>ha x (aD9 _ hx)) hr h
theorem Ew {s:LI}{i j:Nat}(f:Bool)(hd:f=false->digits s i j):(jC s i j f).2.1=(i:Int)/\rg (jC s i j f).2.2.2.2.1:=by
 unfold jC
 cases f with
 |true=>exact⟨rfl,(by decide:rg 0)⟩
 |false=>
  cases hl:decide (dv 0 (bJ s i j)<9223372036854775808)with
  |false=>exact⟨rfl,(by decide:rg 0)⟩
  |true=>
   have h1:=Cy (bJ s i j) 0 (Int.le_refl 0) (hd rfl);have h2:=of_decide_eq_true hl;refine⟨rfl, ?_, ?_⟩
   ·show -9223372036854775808<=dv 0 (bJ s i j);omega
   ·show dv 0 (bJ s i j)<=9223372036854775807;omega
theorem SV {s:LI}{i:Nat}(hi:i<s.length){t:al.den}(h:kL s i= .inr t):t.2.1=(i:Int)/\rg t.2.2.2.2.1:=by
 unfold kL at h
 cases hl:bC (get s i)with
 |true=>
  rw[hl]at h
  injection h with h
  subst h;unfold Ge;simp only;split<;>exact⟨rfl,(by decide:rg 0)⟩
 |false=>
  rw[hl]at h
  cases hd:aR (get s i)with
  |true=>
   rw[hd]at h;have h:iZ s i= .inr t:=h
   have ex:∀{j f},(f=false->digits s i j)->sw s i j f= .inr t->t.2.1=(i:Int)/\rg t.2.2.2.2.1:=λ{j f} hf h=>by
    unfold sw at h
    cases h5:decide (get s j=101)with
    |true=>
     rw[h5]at h
     cases hd:aR (get s (lz s j))with
     |true=>rw[hd]at h;injection h with h;subst h;exact Ew _ (λe=>by cases e)
     |false=>rw[hd]at h;cases h
    |false=>rw[h5]at h;injection h with h;subst h;exact Ew _ hf
   have d1:digits s i (i+1):=λc hc=>by
    refine Ap (p:=aR) (a:=i) 1 (by omega) (λk h1 h2=> ?_) c hc;rw[show k=i by omega];exact hd
   have fr:∀j,digits s i j->sj s i j= .inr t->t.2.1=(i:Int)/\rg t.2.2.2.2.1:=λj hj h=>by
    unfold sj at h
    cases h5:decide (get s j=46)&&aR (get s (j+1))with
    |true=>rw[h5]at h;exact ex (λe=>by cases e) h
    |false=>rw[h5]at h;exact ex (λ_=>hj) h
   unfold iZ at h
   cases h0:decide (get s i=48)&&decide (get s (i+1)=120)with
   |false=>
    rw[h0]at h;refine fr _ ?_ h
    cases decide (get s i=48)with
    |true=>exact d1
    |false=>exact zg (by omega) (by omega) d1
   |true=>
    rw[h0]at h;have h:ic s i= .inr t:=h;unfold ic at h
    by_cases he:j8 s (i+18) (i+2)=i+2
    ·simp only[he,if_true]at h;cases h
    ·simp only[he,aH6]at h
     cases hx:gy (get s (j8 s (i+18) (i+2)))with
     |true=>simp only[hx,if_true]at h;cases h
     |false=>simp only[hx,aG2,aH6]at h;injection h with h;subst h;exact⟨rfl,MI _⟩
  |false=>
   rw[hd]at h
   cases zC:decide (get s i=34)with
   |true=>
    rw[zC]at h;have h:Gf i (eB s s.length (i+1) [])= .inr t:=h
    cases hr:eB s s.length (i+1) []with
    |inl e=>rw[hr]at h;cases h
    |inr y=>rw[hr]at h;obtain⟨e,r⟩:=y;injection h with h;subst h;exact⟨rfl,(by decide:rg 0)⟩
   |false=>
    rw[zC]at h;have h:qc i (ja (p3 s i))= .inr t:=h;unfold qc at h
    cases hk:decide ((ja (p3 s i)).1=0)with
    |true=>rw[hk]at h;cases h
    |false=>rw[hk]at h;injection h with h;subst h;exact⟨rfl,(by decide:rg 0)⟩
theorem Pv {s:LI}(yM:∀c∈s,isByte c):∃(c p:Int)(ns:List Node),(∀x∈ns,vD x)/\ns.length<=300000/\(c=0->(nz ns).1=0)/\((c=0\/c=2)\/c=1/\0<=p/\p<=(s.length:Int))/\
  (Evt λn=>mu (S.tab n) s=some ((c,p,(ns,()),()),aa))/\Evt λn=>mw (S.tab n) s=some ((c,p,(ns,()),()),aa):=by
 by_cases hs:65536<s.length
 ·refine⟨2,0,[],(λ_ h=>nomatch h),by simp,λh=>absurd h (by decide), .inl (.inr rfl),aG.up λn _=> ?_,aG.up λn _=> ?_⟩
  ·show mu (S.step (S.tab n)) _=_;rw[pA,aN (by omega)]
  ·show mw (S.step (S.tab n)) _=_;rw[pn,aN (by omega)]
 have hs:s.length<=65536:=(by omega)
 have hd:decide ((65536:Int)<(s.length:Int))=false:=by simp only[aC8];omega
 rcases SQ hs yM with⟨p,hp,e1,e2⟩|⟨out,a,b,cs,top,line,ga,gb,hn,hr,zB,h6,h7,h8,h9,e1,e2⟩
 ·refine⟨1,(p:Int),[],(λ_ h=>nomatch h),by simp,λh=>absurd h (by decide), .inr ⟨rfl,by omega,by omega⟩, ?_,e1.up λn ⟨l,h⟩=> ?_⟩
  ·have h2:Evt λn=>lH (S.tab n) s=some (([],(p:Int),()),aa):=e2.up λn ⟨c,t,h⟩=>by
    show lH (S.step (S.tab n)) _=_;rw[tU,h,aC0];dsimp only;rw[aN (show(0:Int)<=(p:Int)by omega)]
   refine h2.up λn h=> ?_
   show mu (S.step (S.tab n)) _=_;rw[pA,aB hd,h,aC0];dsimp only;rw[aN (show(0:Int)<=(p:Int)by omega)]
  ·show mw (S.step (S.tab n)) _=_;rw[pn,aB hd,h,aC0];dsimp only;rw[aN (show(0:Int)<=(p:Int)by omega)]
 have I0:∀t∈out,1<=kd t/\kd t<=78:=λt ht=>by
  rcases h9 t ht with⟨i,line,t0,hi,_,_,hl,rfl⟩|⟨i,line,_,_,_,rfl⟩
  ·exact⟨(Bo hl).1,(Bo hl).2.1⟩
  ·exact⟨by show(1:Int)<=5;decide,by show(5:Int)<=78;decide⟩
 have as1:∀t∈out,∀c∈t.2.2.2.2.2.1,isByte c:=λt ht=>by
  rcases h9 t ht with⟨i,line,t0,hi,_,_,hl,rfl⟩|⟨i,line,_,_,_,rfl⟩
  ·have:=Qe yM hl;exact this
  ·exact λ_ h=>nomatch h
 have as9:∀t∈out,TokR t:=λt ht=>by
  rcases h9 t ht with⟨i,line,t0,hi,as7,_,hl,rfl⟩|⟨i,line,hi,as7,_,rfl⟩
  ·obtain⟨r1,r2⟩:=SV hi hl;obtain⟨⟨e,he,_,IU⟩,_⟩:=GK (by omega) hi hl;exact⟨(by show rg t0.2.1;rw[r1];exact⟨by omega,by omega⟩),(by show rg t0.2.2.1;rw[he];exact⟨by omega,by omega⟩),⟨by show _<=(line:Int);omega,by show(line:Int)<=_;omega⟩,r2⟩
  ·exact⟨⟨by show _<=(i:Int);omega,by show(i:Int)<=_;omega⟩,⟨by show _<=((i+1:Nat):Int);omega,by show((i+1:Nat):Int)<=_;omega⟩,⟨by show _<=(line:Int);omega,by show(line:Int)<=_;omega⟩,(by decide:rg 0)⟩
 have KN:=JG ga gb hn (k:=6) (by decide) (by decide);obtain⟨ds,ko,_,_,RN⟩:=AD (k:=6) (by decide) (by decide) cs zB b top gb.ok hr;have oE:=Ff (k:=6) (by decide) (by decide) a ga
 have RN:Evt λn=>kf (S.tab n) (cs,()) top 6=some ((ko,iE b 6,()),(cs++ds,()),(),(),()):=RN
 have oE:Evt λn=>j5 (S.tab n) (a++[6]) 6=some (qt a 6,ab):=oE
 have Tq:Evt λn=>lH (S.tab n) s=some (bif qt a 6 then((out++[(6,(s.length:Int),(s.length:Int),(line:Int),0,([]:LI),())],(-1:Int),()),aa)else(([],(s.length:Int),()),aa)):=(e2.and RN).up λn ⟨h,hf⟩=>by
  show lH (S.step (S.tab n)) _=_;rw[tU,h,aC0];dsimp only;rw[aB (by rfl),hf,aC0];dsimp only;rw[<-KN]
  cases qt a 6 with
  |true=>exact aB rfl
  |false=>exact ad rfl
 cases hc:qt a 6 with
 |false=>
  rw[hc]at Tq oE;refine⟨1,(s.length:Int),[],(λ_ h=>nomatch h),by simp,λh=>absurd h (by decide), .inr ⟨rfl,by omega,by omega⟩,Tq.up λn h=> ?_,(e1.and oE).up λn ⟨h,h2⟩=> ?_⟩
  ·show mu (S.step (S.tab n)) _=_;rw[pA,aB hd,h];simp only[aD1,aC0];rw[aN (show(0:Int)<=(s.length:Int)by omega)]
  ·show mw (S.step (S.tab n)) _=_;rw[pn,aB hd,h,aC0];dsimp only;rw[aB (by rfl),h2,aC0];exact ad rfl
 |true=>
  rw[hc]at Tq oE
  have RV:∀k∈out.map kd,0<=k/\k<=78:=λk hk=>by
   obtain⟨t,ht,rfl⟩:=List.mem_map.1 hk;have:=I0 t ht;exact⟨by omega,this.2⟩
  have ai7:∀a:Nat,0<=KA out a/\KA out a<=78:=λa=>by
   unfold KA
   rcases Nat.lt_or_ge a (out.map kd).length with h|h
   ·rw[aE2,aE1 h];exact RV _ (aG7 h)
   ·rw[aE2,List.getElem?_eq_none h];exact⟨by decide,by decide⟩
  have av0:∀a:Nat,∀c∈(tkA out a).2.2.2.2.2.1,isByte c:=λa=>by
   unfold tkA at_;rw[Int.toNat_natCast]
   rcases Nat.lt_or_ge a out.length with h|h
   ·rw[aE2,aE1 h];exact as1 _ (aG7 h)
   ·rw[aE2,List.getElem?_eq_none h];exact λ_ h=>nomatch h
  have aB0:∀a:Nat,TokR (tkA out a):=λa=>by
   unfold tkA at_;rw[Int.toNat_natCast]
   rcases Nat.lt_or_ge a out.length with h|h
   ·rw[aE2,aE1 h];exact as9 _ (aG7 h)
   ·rw[aE2,List.getElem?_eq_none h];exact⟨by decide,by decide,by decide,by decide⟩
  have hL:out.length<=65536:=(by omega)
  let eI:al.den:=(6,0,0,0,0,([]:LI),())
  let eS:al.den:=(6,(s.length:Int),(s.length:Int),(line:Int),0,([]:LI),())
  let G:Toks:=⟨out,out++[eI],out++[eS],(by simp),(by simp),(λa h=>tG h),(λa h=>tG h),(λa h=>BG rfl h),(λa h=>BG rfl h),hL,ai7,av0,aB0,XM rfl rfl hL⟩
  have hA:Ac out [1000] 0:=⟨a,by rw[List.drop_zero];exact h8,Kq ga (T2 _ RV TH (by decide) h8) hc⟩;obtain⟨xs,nd,q1,q2,q3,qI,qS⟩:=Lv G hA;have q2:nd.length<=4*out.length:=q2
  have hw:=λx hx=>q3 x hx
  generalize FC:nd++[((1,0,(s.length:Int),1,0,0,([]:LI),[],xs,()):Node)]=ns
  have YE:∀x∈ns,vD x:=λx hx=>by
   rw[<-FC]at hx
   rcases aE9.1 hx with hx|hx
   ·exact q3 x hx
   ·rw[List.mem_singleton.1 hx];exact⟨⟨(λ_ h=>nomatch h),(λ_ h=>nomatch h),aG8 _,by show xs.length<=_;omega⟩,(by decide:rg 1),(by decide:rg 0),⟨by show _<=(s.length:Int);omega,by show(s.length:Int)<=_;omega⟩,(by decide:rg 1),(by decide:rg 0),(by decide:rg 0)⟩
  have hN:∀x∈ns,NodeOk x:=λx hx=>(YE x hx).1
  have KR:ns.length=nd.length+1:=by rw[<-FC];simp
  have VJ:Evt λn=>qO (S.tab n) s (out++[(6,(s.length:Int),(s.length:Int),(line:Int),0,([]:LI),())])=some ((ns,()),ab):=qS.up λn h=>by
   have h:iz (S.tab n) (out++[(6,(s.length:Int),(s.length:Int),(line:Int),0,([]:LI),())],0,[],()) 6=_:=h;show qO (S.step (S.tab n)) _ _=_;rw[CZ,h,aC0];dsimp only;rw[ad (bc (by unfold lim;simp only[aC3,aC5];omega)),FC]
  have ah1:Evt λn=>gU (S.tab n) (G.tI,(out.length:Int),nd,()) (1,0,(s.length:Int),1,0,0,([]:LI),[],xs,())=some ((nd.length:Int),(G.tI,(out.length:Int),ns,()),uN,()):=
   G.base.mono λn B=>by rw[B.aI _ _ _ (by omega),FC]
  have K2:Evt λn=>mu (S.tab n) s=some (bif decide ((nz ns).1=0)then((0,0,(ns,()),()),aa)else((2,0,([],()),()),aa)):=((Tq.and VJ).and (wM hN)).up λn ⟨⟨h1,h2⟩,h3⟩=>by
   show mu (S.step (S.tab n)) _=_;rw[pA,aB hd,h1];simp only[aD6,aC0];rw[aB (by rfl),h2,aC0];dsimp only;rw[h3,Option.map_some,aC0]
   cases decide ((nz ns).1=0)with
   |true=>exact aB rfl
   |false=>exact ad rfl
  have Xq:Evt λn=>mw (S.tab n) s=some (bif decide ((nz ns).1=0)then((0,0,(ns,()),()),aa)else((2,0,([],()),()),aa)):=((((e1.and oE).and qI).and ah1).and (yv hN)).up λn ⟨⟨⟨⟨h1,h2⟩,h3⟩,h4⟩,h5⟩=>by
   have h3:fw (S.tab n) (out++[(6,0,0,0,0,([]:LI),())],0,[],())=_:=h3;have h4:gU (S.tab n) (G.tI,(G.out.length:Int),nd,()) _=_:=h4;show mw (S.step (S.tab n)) _=_;rw[pn,aB hd,h1,aC0];dsimp only;rw[aB (by rfl),h2,aC0];dsimp only;rw[aB (by rfl),ad (bc (by unfold lim;simp only[aC3,aC5];omega)),h3,aC0];dsimp only;rw[h4,aC0];dsimp only;rw[h5,Option.map_some,aC0]
   cases decide ((nz ns).1=0)with
   |true=>exact aB rfl
   |false=>exact ad rfl
  cases ht:decide ((nz ns).1=0)with
  |true=>
   rw[ht]at K2 Xq;exact⟨0,0,ns,YE,by omega,λ_=>of_decide_eq_true ht, .inl (.inl rfl),K2,Xq⟩
  |false=>
   rw[ht]at K2 Xq;exact⟨2,0,[],(λ_ h=>nomatch h),by simp,λh=>absurd h (by decide), .inl (.inr rfl),K2,Xq⟩
end Go.Abs.D
end

section
namespace Go.Abs.D
open Go.Proofs
def yd:LI:=[48,49,50,51,52,53,54,55,56,57,97,98,99,100,101,102]
def esc (c:Int):LI:=
 if c=10 then [92,110]else if c=9 then [92,116]else if c=34 then [92,34]else if c=92 then [92,92]
 else if c<32\/126<c then [92,120,yd.getD (c/16).toNat 0,yd.getD (c % 16).toNat 0]else [c]
theorem H0 (c:Int):(esc c).length<=4:=by
 unfold esc
 repeat' split
 all_goals simp
theorem Ls (T:S.Tab)(t0 t4:LI)(i c:Int)(h0:0<=i)(hi:i<t0.length)(hl:t0.length<=4000)(hc:t0.getD i.toNat 0=c)(hb:isByte c)(hf:t4.length+4<=lim):
  cU (S.step T) t0 yd t4 i=cU T t0 yd (t4++esc c) (i+1):=by
 rw[rJ];obtain⟨Hg,Wi⟩:=hb;have w:i64.wrap (i+1)=i+1:=wrap64 _ (by omega) (by omega);have hh:(yd.length:Int)=16:=rfl;simp only[hc,Yk c ⟨Hg,Wi⟩,T1 c ⟨Hg,Wi⟩,w,hh,dO,h0,hi,decide_true,aD4,aD6,aC3,aC5];have f4:fits (t4.length+(0+1+1+1+1))=true:=bc (by omega);have f2:fits (t4.length+(0+1+1))=true:=bc (by omega);have al3:fits (t4.length+2)=true:=bc (by omega);have f1:fits (t4.length+(0+1))=true:=bc (by omega)
 have a1:(decide (0<=c/16)&&decide (c/16<16))=true:=by
  simp only[aC6,aC4];omega
 have a2:(decide (0<=c % 16)&&decide (c % 16<16))=true:=by
  simp only[aC6,aC4];omega
 unfold esc
 by_cases h1:c=10
 ·simp[h1,al3]
 by_cases h2:c=9
 ·simp[h2,al3]
 by_cases h3:c=34
 ·simp[h3,f2]
 by_cases h4:c=92
 ·simp[h4,f2]
 by_cases h5:c<32
 ·simp only[h1,h2,h3,h4,h5,a1,a2,f4,decide_true,decide_false,aD6,aD1,if_true,aH6,true_or]
 by_cases h6:126<c
 ·simp only[h1,h2,h3,h4,h5,h6,a1,a2,f4,decide_true,decide_false,aD6,aD1,if_true,aH6,or_true]
 ·simp only[h1,h2,h3,h4,h5,h6,f1,decide_false,aD6,aD1,aH6,or_self]
theorem Yh (l:LI)(x:Int)(h0:0<=x)(h1:x<l.length):sub l x (x+1)=[l.getD x.toNat 0]:=by
 unfold sub;have e:(x+1).toNat=x.toNat+1:=(by omega);have hl:x.toNat<l.length:=(by omega);rw[e,aE2,aE1 hl,Option.getD_some]
 apply List.ext_getElem?
 intro j;rw[List.getElem?_drop,List.getElem?_take]
 cases j with
 |zero=>rw[aG3 (by omega)];simp[hl]
 |succ j=>rw[aF4 (by omega)];simp
theorem Pz (c:Int):Bld.idx [10,9,34,92] c 0=if c=10 then 0 else if c=9 then 1 else if c=34 then 2 else if c=92 then 3 else -1:=by
 simp only[Bld.idx]
 repeat' split
 all_goals simp_all[eq_comm]
theorem LL (T:S.Tab)(t0 t3:LI)(i c:Int)(h0:0<=i)(hi:i<t0.length)(hl:t0.length<=4000)(hc:t0.getD i.toNat 0=c)(hb:isByte c)(hf:t3.length+4<=lim)
  (YB:gD T [10,9,34,92] c=some (Bld.idx [10,9,34,92] c 0,(),(),())):
  gB (S.step T) t0 t3 i=gB T t0 (t3++esc c) (i+1):=by
 rw[tV];obtain⟨Hg,Wi⟩:=hb;have w:i64.wrap (i+1)=i+1:=wrap64 _ (by omega) (by omega);have hd:([48,49,50,51,52,53,54,55,56,57,97,98,99,100,101,102]:LI)=yd:=rfl;have hh:(yd.length:Int)=16:=rfl;have w1:u8.wrap (c/16+1)=c/16+1:=vI _ (by omega) (by omega);have w2:u8.wrap (c % 16+1)=c % 16+1:=vI _ (by omega) (by omega);have s1:sub yd (c/16) (c/16+1)=[yd.getD (c/16).toNat 0]:=Yh _ _ (by omega) (by omega);have s2:sub yd (c % 16) (c % 16+1)=[yd.getD (c % 16).toNat 0]:=Yh _ _ (by omega) (by omega)
 have b1:bounds 16 (c/16) (c/16+1)=true:=by
  unfold bounds;simp only[aC6,aC4];omega
 have b2:bounds 16 (c % 16) (c % 16+1)=true:=by
  unfold bounds;simp only[aC6,aC4];omega
 have f3:fits (2+1)=true:=rfl;have f4:fits (([92,120]++[yd.getD (c/16).toNat 0]).length+1)=true:=rfl;have g1:fits (t3.length+1)=true:=bc (by omega)
 have ar7:∀x,fits ((t3++[x]).length+1)=true:=λx=>bc (by simp;omega)
 have g4:∀x y:Int,fits (t3.length+([92,120]++[x]++[y]).length)=true:=λx y=>bc (by simp;omega)
 simp only[hc,hd,Yk c ⟨Hg,Wi⟩,T1 c ⟨Hg,Wi⟩,w,w1,w2,s1,s2,b1,b2,dO,h0,hi,decide_true,aD4,aD6,YB,Pz,aH4,f3,f4,Bld.kh,Bld.jk,g1,ar7,g4,aC0];unfold esc
 by_cases h1:c=10
 ·simp[h1]
 by_cases h2:c=9
 ·simp[h2]
 by_cases h3:c=34
 ·simp[h3]
 by_cases h4:c=92
 ·simp[h4]
 by_cases h5:c<32
 ·simp[h1,h2,h3,h4,h5]
 by_cases h6:126<c
 ·simp[h1,h2,h3,h4,h5,h6]
 ·simp[h1,h2,h3,h4,h5,h6]
def ph (s:LI):LI:=if 4000<s.length then []else [34]++s.flatMap esc++[34]
theorem GV:∀(l pre t4:LI),(∀c∈l,isByte c)->(pre++l).length<=4000->t4.length+4*l.length<=30000->
  Evt λn=>cU (S.tab n) (pre++l) yd t4 (pre.length:Int)=some (Sum.inl (t4++l.flatMap esc,()))
 |[],pre,t4,_,hl,_=>Evt.up (Evt.of (p:=λ_=>True) λ_=>trivial) λn _=>by
  rw[rJ,aB (by simp)];simp
 |c::l,pre,t4,hb,hl,hf=>by
  have hlen:(pre++c::l).length=pre.length+(l.length+1):=(by simp);have e4:=H0 c;have ih:=GV l (pre++[c]) (t4++esc c) (λx hx=>hb x (aD9 _ hx)) (by simp at hl⊢;omega) (by simp at hf⊢;omega)
  refine ih.up λn h=> ?_
  rw[Ls (S.tab n) _ t4 (pre.length:Int) c (by omega) (by omega) hl (my pre c l 0) (hb c (aE0 ..)) (by simp[lim]at hf⊢;omega)];rw[aC7]at h;simp only[aC2,aH4,List.singleton_append]at h
  push_cast at h
  rw[h,List.flatMap_cons,aC7]
theorem UY (c:Int)(h:isByte c):Evt λn=>gD (S.tab n) [10,9,34,92] c=some (Bld.idx [10,9,34,92] c 0,(),(),()):=
 Evt.up (Evt.up (Evt.of (p:=λ_=>True) λ_=>trivial) (q:=λn=>iL (S.tab n) [10,9,34,92] c=some (Bld.idx [10,9,34,92] c 0,(),(),())) λn _=>by
  rw[l8,Bld.r7,Ie h]
  rfl) λn h=>by
  rw[pJ,h];rfl
theorem GX:∀(l pre t3:LI),(∀c∈l,isByte c)->(pre++l).length<=4000->t3.length+4*l.length<=30000->
  Evt λn=>gB (S.tab n) (pre++l) t3 (pre.length:Int)=some (Sum.inl (t3++l.flatMap esc,()))
 |[],pre,t3,_,hl,_=>Evt.up (Evt.of (p:=λ_=>True) λ_=>trivial) λn _=>by
  rw[tV,aB (by simp)];simp
 |c::l,pre,t3,hb,hl,hf=>by
  have hlen:(pre++c::l).length=pre.length+(l.length+1):=(by simp);have e4:=H0 c;have ih:=GX l (pre++[c]) (t3++esc c) (λx hx=>hb x (aD9 _ hx)) (by simp at hl⊢;omega) (by simp at hf⊢;omega)
  refine(ih.and (UY c (hb c (aE0 ..)))).up λn ⟨h,YB⟩=> ?_
  rw[LL (S.tab n) _ t3 (pre.length:Int) c (by omega) (by omega) hl (my pre c l 0) (hb c (aE0 ..)) (by simp[lim]at hf⊢;omega) YB];rw[aC7]at h;simp only[aC2,aH4,List.singleton_append]at h
  push_cast at h
  rw[h,List.flatMap_cons,aC7]
theorem Bx (c:Int)(h:isByte c):∀x∈esc c,isByte x:=by
 have hx:∀n:Nat,isByte (yd.getD n 0):=by
  intro n;rw[aE2]
  cases e:yd[n]? with
  |none=>exact⟨by decide,by decide⟩
  |some v=>
   have:=List.mem_of_getElem? e;have sy:∀v∈yd,0<=v/\v<256:=(by decide);exact sy v this
 intro x RG;unfold esc at RG
 repeat' split at RG
 all_goals simp only[aF8,List.not_mem_nil,or_false]at RG
 all_goals rcases RG with rfl|rfl|rfl|rfl
 all_goals first|exact hx _|exact h|exact⟨by omega,by omega⟩
theorem Fb (l:LI):(l.flatMap esc).length<=4*l.length:=by
 induction l with
 |nil=>simp
 |cons c l ih=>
  have:=H0 c;rw[List.flatMap_cons,aC2,aC3];omega
theorem LK (s:LI)(hb:∀c∈s,isByte c)(hl:¬ 4000<s.length):Evt λn=>qJ (S.tab n) s=some (ph s,(),()):=by
 refine(GV s [] [34] hb (by simpa using hl) (by simp;omega)).up λn h=> ?_
 have h':cU (S.tab n) s [48,49,50,51,52,53,54,55,56,57,97,98,99,100,101,102] [34] 0=some (Sum.inl ([34]++s.flatMap esc,())):=h;have:=Fb s;rw[CV,h'];simp only[aC0,aO,aE3];rw[ad (bc (by simp only[lim,aC2,aH4];omega)),xi]
 ·simp[ph,hl]
 ·intro c hc;simp only[aE9,aF8,List.not_mem_nil,or_false,List.mem_flatMap]at hc
  rcases hc with(rfl|⟨a,ha,hc⟩)|rfl
  ·exact⟨by decide,by decide⟩
  ·exact Bx a (hb a ha) c hc
  ·exact⟨by decide,by decide⟩
theorem Ld (s:LI)(hb:∀c∈s,isByte c):Evt λn=>zn (S.tab n) s=some (ph s,(),()):=by
 by_cases hl:4000<s.length
 ·exact Evt.up (Evt.of (p:=λ_=>True) λ_=>trivial) λn _=>by
   rw[yx,ad (by simp;omega)];simp[ph,hl]
 ·refine(GX s [] [34] hb (by simpa using hl) (by simp;omega)).up λn h=> ?_
  have h':gB (S.tab n) s [34] 0=some (Sum.inl ([34]++s.flatMap esc,())):=h;have:=Fb s;rw[yx,aB (by simp;omega)];have w0:Bld.kh ([],34,())=some (true,[34],(),()):=rfl
  have w1:Bld.kh ([34]++s.flatMap esc,34,())=some (true,[34]++s.flatMap esc++[34],(),()):=by
   show(bif fits _ then _ else _)=_;rw[bc (by simp only[lim,aC2,aH4];omega)];rfl
  have IQ:∀c∈[34]++s.flatMap esc++[34],isByte c:=by
   intro c hc;simp only[aE9,aF8,List.not_mem_nil,or_false,List.mem_flatMap]at hc
   rcases hc with(rfl|⟨a,ha,hc⟩)|rfl
   ·exact⟨by decide,by decide⟩
   ·exact Bx a (hb a ha) c hc
   ·exact⟨by decide,by decide⟩
  have w2:Bld.s5 ([34]++s.flatMap esc++[34],())=some ([34]++s.flatMap esc++[34],(),()):=by
   show(bif fits _ then _ else _)=_;rw[bc (by simp only[lim,aC2,aH4];omega)];show some (List.map byte _,(),())=_;rw[xi IQ]
  simp only[w0,aC0,h',aO,aE3,w1,w2];simp[ph,hl]
end Go.Abs.D
end

section
namespace Go.Abs.D
def dec (n:Int):LI:=Lx.ints (Lib.itoa n)
def rdg:Nat->Nat->LI
 |0,_=>[]
 |k+1,m=>bif Nat.beq m 0 then []else(48+((m % 10:Nat):Int))::rdg k (m/10)
theorem H9:∀(k m:Nat),(rdg k m).length<=k
 |0,m=>aE5 _
 |k+1,m=>by
  unfold rdg;cases Nat.beq m 0
  ·have:=H9 k (m/10);simp only[aD1,aC3];omega
  ·simp
theorem E2:∀(k m:Nat),∀c∈rdg k m,isByte c
 |0,m,c,h=>by simp[rdg]at h
 |k+1,m,c,h=>by
  unfold rdg at h;cases hm:Nat.beq m 0
  ·rw[hm]at h;simp only[aD1,aF8]at h
   rcases h with rfl|h
   ·exact⟨by omega,by omega⟩
   ·exact E2 k (m/10) c h
  ·rw[hm]at h;simp at h
theorem JI (m:Nat)(h:m<10):(((UInt8.ofNat (48+m)).toNat:Nat):Int)=48+(m:Int):=by
 rw[UInt8.toNat_ofNat'];omega
theorem H2:∀(k m:Nat),0<m->m<10^k->(rdg k m).reverse=Lx.ints (Lib.decDigits m)
 |0,m,h0,h1=>by simp at h1;omega
 |k+1,m,h0,h1=>by
  unfold rdg
  have hb:Nat.beq m 0=false:=by
   cases h:Nat.beq m 0
   ·rfl
   ·have:=Nat.eq_of_beq_eq_true h;omega
  rw[hb];simp only[aD1,List.reverse_cons];have hp:10^(k+1)=10^k*10:=Nat.pow_succ ..
  by_cases hm:m<10
  ·have e0:m/10=0:=(by omega)
   have e1:rdg k (m/10)=[]:=by rw[e0];cases k<;>rfl
   rw[e1,Lib.decDigits,dif_pos hm];have e2:m % 10=m:=(by omega);rw[e2];unfold Lx.ints;simp only[List.reverse_nil,List.nil_append,List.map_cons,List.map_nil,JI m hm]
  ·have e3:Lib.decDigits m=Lib.decDigits (m/10)++[UInt8.ofNat (48+m % 10)]:=(by rw[Lib.decDigits,dif_neg hm]);rw[H2 k (m/10) (by omega) (by omega),e3];unfold Lx.ints;rw[List.map_append,List.map_cons,List.map_nil,JI _ (Nat.mod_lt _ (by decide))]
theorem tm (n:Int):n.tmod 10=if n<0 then -((n.natAbs % 10:Nat):Int)else((n.natAbs % 10:Nat):Int):=by
 by_cases h:n<0
 ·rw[aG3 h];obtain⟨m,rfl⟩:∃m:Int,n= -m:=⟨-n,by omega⟩;rw[Int.neg_tmod,Int.tmod_eq_emod_of_nonneg (by omega)];omega
 ·rw[aF4 h,Int.tmod_eq_emod_of_nonneg (by omega)];omega
theorem td (n:Int):n.tdiv 10=if n<0 then -((n.natAbs/10:Nat):Int)else((n.natAbs/10:Nat):Int):=by
 by_cases h:n<0
 ·rw[aG3 h];obtain⟨m,rfl⟩:∃m:Int,n= -m:=⟨-n,by omega⟩;rw[Int.neg_tdiv,Int.tdiv_eq_ediv_of_nonneg (by omega)];omega
 ·rw[aF4 h,Int.tdiv_eq_ediv_of_nonneg (by omega)];omega
theorem vv:∀(k:Nat)(n:Int)(neg:Bool)(o:LI),n.natAbs<10^k-> -9223372036854775808<=n->n<=9223372036854775807->o.length+k<=100->
  Evt λN=>fv (S.tab N) n neg o=some (Sum.inl (neg,o++rdg k n.natAbs,()))
 |0,n,neg,o,h0,_,_,_=>aG.up λN _=>by
  show fv (S.step (S.tab N)) _ _ _=_
  have:n=0:=by simp at h0;omega
  subst this;rw[ma,aB (by rfl)];simp[rdg]
 |k+1,n,neg,o,h0,h1,h2,ho=>by
  have hp:10^(k+1)=10^k*10:=Nat.pow_succ ..
  by_cases hn:n=0
  ·subst hn
   refine aG.up λN _=> ?_
   show fv (S.step (S.tab N)) _ _ _=_;rw[ma,aB (by rfl)];simp[rdg]
  ·have hb:Nat.beq n.natAbs 0=false:=by
    cases h:Nat.beq n.natAbs 0
    ·rfl
    ·have:=Nat.eq_of_beq_eq_true h;omega
   have hq:(n.tdiv 10).natAbs=n.natAbs/10:=by rw[td];split<;>omega
   have ao2: -9223372036854775808<=n.tdiv 10:=by rw[td];split<;>omega
   have UB:n.tdiv 10<=9223372036854775807:=by rw[td];split<;>omega
   have ih:=vv k (n.tdiv 10) neg (o++[48+((n.natAbs % 10:Nat):Int)]) (by omega) ao2 UB (by simp;omega);have hf:fits (o.length+1)=true:=bc (by unfold lim;omega);have w3:i64.wrap (n.tdiv 10)=n.tdiv 10:=wrap64 _ ao2 (by omega);have gX:n.natAbs % 10<10:=Nat.mod_lt _ (by decide)
   refine ih.up λN ih=> ?_
   show fv (S.step (S.tab N)) _ _ _=_;rw[ma,ad (by rw[aB9 hn];rfl),w3]
   have fin:o++[48+((n.natAbs % 10:Nat):Int)]++rdg k (n.tdiv 10).natAbs=o++rdg (k+1) n.natAbs:=by
    rw[hq]
    conv=>rhs;unfold rdg
    rw[hb];simp
   rw[fin]at ih
   by_cases yh:n.tmod 10<0
   ·have e1:0 - n.tmod 10=((n.natAbs % 10:Nat):Int):=by rw[tm]at yh⊢;split at yh<;>simp_all<;>omega
    have w1:i64.wrap (0 - n.tmod 10)=((n.natAbs % 10:Nat):Int):=(by rw[e1,wrap64 _ (by omega) (by omega)]);rw[aN yh,w1,wrap64 (48+((n.natAbs % 10:Nat):Int)) (by omega) (by omega),vI _ (by omega) (by omega),ad (by simpa using hf)];exact ih
   ·have e1:n.tmod 10=((n.natAbs % 10:Nat):Int):=by rw[tm]at yh⊢;split at yh<;>simp_all<;>omega
    rw[aM yh,e1,wrap64 (48+((n.natAbs % 10:Nat):Int)) (by omega) (by omega),vI _ (by omega) (by omega),ad (by simpa using hf)];exact ih
theorem ug (ds:LI)(hd:∀c∈ds,isByte c)(hl:ds.length<=100):∀(k:Nat)(o:LI),k<=ds.length->o.length+k<=200->
  Evt λN=>hY (S.tab N) ds o ((k:Int) - 1)=some (Sum.inl (o++(ds.take k).reverse,()))
 |0,o,_,_=>aG.up λN _=>by
  show hY (S.step (S.tab N)) _ _ _=_;rw[oK,aB (by simp)];simp
 |k+1,o,hk,ho=>by
  have gX:k<ds.length:=(by omega);have ih:=ug ds hd hl k (o++[ds[k]]) (by omega) (by simp;omega)
  refine ih.up λN ih=> ?_
  show hY (S.step (S.tab N)) _ _ _=_;have e:((k+1:Nat):Int) - 1=(k:Int):=(by omega)
  have hg:ds.getD (k:Int).toNat 0=ds[k]:=by
   rw[Int.toNat_natCast,aE2,aE1 gX];rfl
  have hm:([ds[k]]:LI).map byte=[ds[k]]:=xi λc hc=>by
   have:c=ds[k]:=(by simpa using hc);subst this;exact hd _ (aG7 gX)
  rw[e,oK,ad (by simp only[aC4];omega),ad (an gX),hg,hm,ad (bc (by unfold lim;simp only[aH4];omega)),wrap64 _ (by omega) (by omega),ih];rw[List.take_succ_eq_append_getElem gX,List.reverse_append,List.reverse_singleton,aC7]
theorem uf (ds:LI)(hd:∀c∈ds,isByte c)(hl:ds.length<=100)(o:LI)(ho:o.length<=1):Evt λN=>jz (S.tab N) ds o=some (Sum.inl (o++ds.reverse,())):=
 (ug ds hd hl ds.length o (aE5 _) (by omega)).up λN h=>by
  show jz (S.step (S.tab N)) _ _=_;rw[vQ,wrap64 _ (by omega) (by omega),h,aC0];simp[aO]
theorem LV (n:Int)(h1: -9223372036854775808<=n)(h2:n<=9223372036854775807):n.natAbs<10^19:=by
 have:(10:Nat)^19=10000000000000000000:=(by decide);omega
theorem mK (n:Int)(h1: -9223372036854775808<=n)(h2:n<=9223372036854775807):Evt λN=>dN (S.tab N) n=some (dec n,aa):=by
 by_cases hn:n=0
 ·subst hn
  refine aG.up λN _=> ?_
  show dN (S.step (S.tab N)) _=_;rw[sK,ad (by rfl)]
  have:dec 0=[48]:=by
   unfold dec Lib.itoa;rw[aF4 (by decide),Lib.decDigits,dif_pos (by decide)];rfl
  rw[this]
 ·have a:=vv 19 n (decide (n<0)) [] (LV n h1 h2) h1 h2 (by simp);have hl:=H9 19 n.natAbs;have b1:=uf (rdg 19 n.natAbs) (E2 _ _) (by omega) [45] (by simp);have b2:=uf (rdg 19 n.natAbs) (E2 _ _) (by omega) [] (by simp);have hd:=H2 19 n.natAbs (by omega) (LV n h1 h2)
  refine((a.and b1).and b2).up λN ⟨⟨a,b1⟩,b2⟩=> ?_
  show dN (S.step (S.tab N)) _=_;rw[sK,aM hn,a,aC0];simp only[aO,aE3,List.nil_append]
  by_cases yh:n<0
  ·rw[aN yh,b1,aC0];simp only[aE3];rw[hd];unfold dec Lib.itoa;rw[aG3 yh];rfl
  ·rw[aM yh,b2,aC0];simp only[aE3];rw[hd];unfold dec Lib.itoa;rw[aF4 yh];have:n.natAbs=n.toNat:=(by omega);rw[this];rfl
theorem gM (n:Int)(h1: -9223372036854775808<=n)(h2:n<=9223372036854775807):(dec n).length<=20:=by
 by_cases hn:n=0
 ·subst hn
  have:dec 0=[48]:=by
   unfold dec Lib.itoa;rw[aF4 (by decide),Lib.decDigits,dif_pos (by decide)];rfl
  rw[this];decide
 ·have hd:=H2 19 n.natAbs (by omega) (LV n h1 h2);have hl:=H9 19 n.natAbs
  have e:(Lx.ints (Lib.decDigits n.natAbs)).length<=19:=by rw[<-hd,List.length_reverse];exact hl
  unfold dec Lib.itoa;split
  ·have e2:Lx.ints (45::Lib.decDigits n.natAbs)=45::Lx.ints (Lib.decDigits n.natAbs):=rfl;rw[e2,aC3];omega
  ·have:n.toNat=n.natAbs:=(by omega);rw[this];omega
theorem Kl (n:Int):∀c∈dec n,isByte c:=by
 intro c hc;unfold dec Lx.ints at hc;obtain⟨b,_,rfl⟩:=List.mem_map.1 hc;have:=b.toNat_lt;exact⟨by omega,by omega⟩
theorem FT (n:Int)(h1: -9223372036854775808<=n)(h2:n<=9223372036854775807):Lx.nL (n,10,())=some (dec n,(),(),()):=by
 unfold Lx.nL;simp only[decide_true,aC1 h1,aC1 h2,aE4,aD6];rfl
theorem nu (n:Int)(h1: -9223372036854775808<=n)(h2:n<=9223372036854775807):Lx.oP (n,())=some (dec n,(),()):=by
 unfold Lx.oP;simp only[aC1 h1,aC1 h2,aE4,aD6];rfl
end Go.Abs.D
end

section
namespace Go.Abs.D
theorem Ey (p s:LI):∀r:List LI,Lx.qE (p::r) s=p++r.flatMap (s++ ·)
 |[]=>by simp[Lx.qE]
 |q::r=>by
  unfold Lx.qE;rw[Ey q s r];simp
theorem Jh {s:LI}(hb:∀c∈s,isByte c):∀c∈ph s,isByte c:=by
 intro c hc;unfold ph at hc;split at hc
 ·cases hc
 ·simp only[aE9,aF8,List.not_mem_nil,or_false,List.mem_flatMap]at hc
  rcases hc with(rfl|⟨a,ha,hc⟩)|rfl
  ·exact⟨by decide,by decide⟩
  ·exact Bx a (hb a ha) c hc
  ·exact⟨by decide,by decide⟩
theorem zk (s:LI):(ph s).length<=16002:=by
 unfold ph;split
 ·simp
 ·have:=Fb s;simp only[aC2,aH4];omega
def yI (x:aj.den):List LI:=[dec x.1,dec x.2.1,dec x.2.2.1,dec x.2.2.2.1,dec x.2.2.2.2.1,dec x.2.2.2.2.2.1,ph x.2.2.2.2.2.2.1,dec ((aK x).length:Int)]
def parts (x:aj.den):List LI:=((yI x++aK x)++[dec ((ak x).length:Int)])++(ak x).map dec
def jH (x:aj.den):LI:=Lx.qE (parts x) [32]++[10]
theorem Bm (x:aj.den):Lx.qE (parts x) [32]=dec x.1++((([dec x.2.1,dec x.2.2.1,dec x.2.2.2.1,dec x.2.2.2.2.1,dec x.2.2.2.2.2.1,ph x.2.2.2.2.2.2.1,dec ((aK x).length:Int)]++aK x)++[dec ((ak x).length:Int)])++(ak x).map dec).flatMap ([32]++ ·):=Ey _ _ _
theorem Fi (k:Nat)(s:LI):∀r:List LI,(∀m∈r,m.length<=k)->(r.flatMap (s++ ·)).length<=(k+s.length)*r.length
 |[],_=>by simp
 |m::r,h=>by
  have:=Fi k s r λx hx=>h x (aD9 _ hx)
  have h1:=h m (aE0 ..);rw[List.flatMap_cons,aC2,aC2,aC3,Nat.mul_add];omega
section
variable{x:aj.den}(hx:NodeOk x)(hr:RgI x)(hb:Bd (aK x) x.2.2.2.2.2.2.1)(hk:(ak x).length<=200)(I0:∀k∈ak x,rg k)
theorem JM:∀(r pre:LI)(o:LI),(∀k∈r,rg k)->(pre++r).length<=100->o.length+30*r.length<=1000000->
  Evt λn=>kE (S.tab n) x o (pre++r) ((pre++r).length:Int) (pre.length:Int)=some (Sum.inl (x,o++r.flatMap (λz=>dec z++[32]),()))
 |[],pre,o,_,hl,_=>aG.up λn _=>by
  rw[sJ,aB (by simp)];simp
 |k::r,pre,o,hk,hl,ho=>by
  have hlen:(pre++k::r).length=pre.length+(r.length+1):=(by simp);obtain⟨k0,k1⟩:=hk k (aE0 ..);have hd:=gM k k0 k1;rw[aC3]at ho;have ih:=JM r (pre++[k]) (o++(dec k++[32])) (λx hx=>hk x (aD9 _ hx)) (by simpa using hl) (by simp;omega);have e1:(pre++[k])++r=pre++k::r:=(by simp);have e2:(pre++[k]).length=pre.length+1:=(by simp);rw[e1,e2]at ih;have hg:(pre++k::r).getD (pre.length:Int).toNat 0=k:=my pre k r 0
  refine(ih.and (mK k k0 k1)).up λn ⟨ih,h1⟩=> ?_
  rw[sJ,aN (by omega),ad (an (by omega)),hg,h1,aC0];dsimp only;rw[ad (bc (by unfold lim;omega)),ad (bc (by unfold lim;simp;omega)),bH (by omega),ih];simp
theorem JP:∀(r pre:List LI)(o:LI),(∀m∈r,m.length<=40)->(pre++r).length<=200->o.length+50*r.length<=1000000->
  Evt λn=>kH (S.tab n) x o (pre++r) ((pre++r).length:Int) (pre.length:Int)=some (Sum.inl (x,o++r.flatMap ([32]++ ·),()))
 |[],pre,o,_,hl,_=>aG.up λn _=>by
  rw[sL,aB (by simp)];simp
 |k::r,pre,o,hk,hl,ho=>by
  have hlen:(pre++k::r).length=pre.length+(r.length+1):=(by simp);have k0:=hk k (aE0 ..);rw[aC3]at ho;have ih:=JP r (pre++[k]) (o++([32]++k)) (λx hx=>hk x (aD9 _ hx)) (by simpa using hl) (by simp;omega);have e1:(pre++[k])++r=pre++k::r:=(by simp);have e2:(pre++[k]).length=pre.length+1:=(by simp);rw[e1,e2]at ih;have hg:(pre++k::r).getD (pre.length:Int).toNat []=k:=my pre k r []
  refine ih.up λn ih=> ?_
  rw[sL,aN (by omega),ad (an (by omega)),hg,ad (bc (by unfold lim;omega)),ad (bc (by unfold lim;simp;omega)),bH (by omega),ih];simp
theorem Gz:∀(r pre:LI)(o:LI),(∀k∈r,rg k)->(pre++r).length<=200->o.length+30*r.length<=1000000->
  Evt λn=>jS (S.tab n) o (pre++r) ((pre++r).length:Int) (pre.length:Int)=some (Sum.inl (o++(r.map dec).flatMap ([32]++ ·),()))
 |[],pre,o,_,hl,_=>aG.up λn _=>by
  rw[rD,aB (by simp)];simp
 |k::r,pre,o,hk,hl,ho=>by
  have hlen:(pre++k::r).length=pre.length+(r.length+1):=(by simp);obtain⟨k0,k1⟩:=hk k (aE0 ..);have hd:=gM k k0 k1;rw[aC3]at ho;have ih:=Gz r (pre++[k]) (o++([32]++dec k)) (λx hx=>hk x (aD9 _ hx)) (by simpa using hl) (by simp;omega);have e1:(pre++[k])++r=pre++k::r:=(by simp);have e2:(pre++[k]).length=pre.length+1:=(by simp);rw[e1,e2]at ih;have hg:(pre++k::r).getD (pre.length:Int).toNat 0=k:=my pre k r 0
  refine(ih.and (mK k k0 k1)).up λn ⟨ih,h1⟩=> ?_
  rw[rD,aN (by omega),ad (an (by omega)),hg,h1,aC0];dsimp only;rw[ad (bc (by unfold lim;omega)),ad (bc (by unfold lim;simp;omega)),bH (by omega),ih];simp
include hr hb in
theorem N9:(((([]:LI)++([x.1,x.2.1,x.2.2.1,x.2.2.2.1,x.2.2.2.2.1,x.2.2.2.2.2.1]:LI).flatMap (λz=>dec z++[32]))++((ph x.2.2.2.2.2.2.1++[32])++dec ((aK x).length:Int))).length<=17000):=by
 have a1:=gM _ hr.f1.1 hr.f1.2;have a2:=gM _ hr.f2.1 hr.f2.2;have a3:=gM _ hr.f3.1 hr.f3.2;have a4:=gM _ hr.f4.1 hr.f4.2;have a5:=gM _ hr.f5.1 hr.f5.2;have a6:=gM _ hr.f6.1 hr.f6.2;have a7:=zk x.2.2.2.2.2.2.1;have hn:=hb.2.1;have a8:=gM ((aK x).length:Int) (by omega) (by omega);simp only[List.flatMap_cons,List.flatMap_nil,aC2,aC5,aH4];omega
include hx hr hb hk I0 in
theorem Ss:Evt λn=>xb (S.tab n) x=some (jH x,yC):=by
 have hn:=hb.2.1;have H:=N9 hr hb;have dn:=gM ((aK x).length:Int) (by omega) (by omega);have dk:=gM ((ak x).length:Int) (by omega) (by omega);have ql:=zk x.2.2.2.2.2.2.1
 have h3:=JM (x:=x) [x.1,x.2.1,x.2.2.1,x.2.2.2.1,x.2.2.2.2.1,x.2.2.2.2.2.1] [] [] (by
  intro k hk;simp only[aF8,List.not_mem_nil,or_false]at hk
  rcases hk with h|h|h|h|h|h<;>rw[h]
  ·exact hr.f1
  ·exact hr.f2
  ·exact hr.f3
  ·exact hr.f4
  ·exact hr.f5
  ·exact hr.f6) (by simp) (by simp)
 generalize hA:([]:LI)++([x.1,x.2.1,x.2.2.1,x.2.2.2.1,x.2.2.2.2.1,x.2.2.2.2.2.1]:LI).flatMap (λz=>dec z++[32])=A at h3 H
 have hAl:A.length<=17000:=by rw[aC2]at H;omega
 generalize hB:(ph x.2.2.2.2.2.2.1++[32])++dec ((aK x).length:Int)=B at H
 have h9:=JP (x:=x) (aK x) [] (A++B) hb.2.2 (by simpa using hn) (by omega);have f9:=Fi 40 [32] (aK x) hb.2.2
 have ZW:((aK x).flatMap ([32]++ ·)).length<=8200:=by
  have:(40+([32]:LI).length)*(aK x).length<=41*200:=Nat.mul_le_mul (aE5 41) hn;omega
 have kd:∀m∈(ak x).map dec,m.length<=20:=λm hm=>by
  obtain⟨k,V4,rfl⟩:=List.mem_map.1 hm;exact gM k (I0 k V4).1 (I0 k V4).2
 have f15:=Fi 20 [32] ((ak x).map dec) kd
 have WY:(((ak x).map dec).flatMap ([32]++ ·)).length<=4200:=by
  rw[List.length_map]at f15;have:(20+([32]:LI).length)*(ak x).length<=21*200:=Nat.mul_le_mul (aE5 21) hk;omega
 have OU:=Gz (ak x) [] (((A++B)++(aK x).flatMap ([32]++ ·))++([32]++dec ((ak x).length:Int))) I0 (by simpa using hk) (by simp only[aC2,aH4]at H⊢;omega)
 refine(((h3.and (LK x.2.2.2.2.2.2.1 hx.text (Nat.not_lt.2 hb.1))).and ((mK ((aK x).length:Int) (by omega) (by omega)).and (mK ((ak x).length:Int) (by omega) (by omega)))).and (h9.and OU)).up λn ⟨⟨⟨h3,hq⟩,hn',V4⟩,h9,OU⟩=> ?_
 have h3:kE (S.tab n) x [] [x.1,x.2.1,x.2.2.1,x.2.2.2.1,x.2.2.2.2.1,x.2.2.2.2.2.1] 6 0=some (Sum.inl (x,A,())):=h3;rw[DJ];show(kE (S.tab n) x [] [x.1,x.2.1,x.2.2.1,x.2.2.2.1,x.2.2.2.2.1,x.2.2.2.2.2.1] 6 0).bind _=_;rw[h3,aC0];show(qJ (S.tab n) x.2.2.2.2.2.2.1).bind _=_;rw[hq,aC0];dsimp only;rw[ad (bc (by unfold lim;omega))];show(dN (S.tab n) ((aK x).length:Int)).bind _=_;rw[hn',aC0];dsimp only;rw[ad (bc (by unfold lim;simp only[aC2,aH4];omega)),hB,ad (bc (by unfold lim;rw[aC2]at H;omega))];show(kH (S.tab n) x (A++B) (aK x) ((aK x).length:Int) 0).bind _=_;have h9:kH (S.tab n) x (A++B) (aK x) ((aK x).length:Int) 0=_:=h9;rw[h9,aC0];show(dN (S.tab n) ((ak x).length:Int)).bind _=_;rw[V4,aC0];dsimp only;rw[ad (bc (by unfold lim;omega)),ad (bc (by unfold lim;simp only[aC2,aH4]at H ZW⊢;omega))];have OU:jS (S.tab n) (((A++B)++(aK x).flatMap ([32]++ ·))++([32]++dec ((ak x).length:Int))) (ak x) ((ak x).length:Int) 0=_:=OU;show(jS (S.tab n) (((A++B)++(aK x).flatMap ([32]++ ·))++([32]++dec ((ak x).length:Int))) (ak x) ((ak x).length:Int) 0).bind _=_;rw[OU,aC0];simp only[aO,aE3];rw[ad (bc (by unfold lim;simp only[aC2,aH4]at H ZW WY⊢;omega))]
 congr 2
 unfold jH;rw[<-hA,<-hB,Bm];simp[List.flatMap_append,aC7]
theorem GJ (a:LI)(ns:List aj.den)(b c:Int):∀(r pre:LI)(o:List LI),(∀k∈r,rg k)->(pre++r).length<=200->o.length+r.length<=1000000->
  Evt λn=>lJ (S.tab n) a o ns b c (pre++r) ((pre++r).length:Int) (pre.length:Int)=some (Sum.inl (a,o++r.map dec,ns,b,c,()))
 |[],pre,o,_,hl,_=>aG.up λn _=>by
  rw[ue,aB (by simp)];simp
 |k::r,pre,o,hk,hl,ho=>by
  have hlen:(pre++k::r).length=pre.length+(r.length+1):=(by simp);obtain⟨k0,k1⟩:=hk k (aE0 ..);rw[aC3]at ho;have ih:=GJ a ns b c r (pre++[k]) (o++[dec k]) (λx hx=>hk x (aD9 _ hx)) (by simpa using hl) (by simp;omega);have e1:(pre++[k])++r=pre++k::r:=(by simp);have e2:(pre++[k]).length=pre.length+1:=(by simp);rw[e1,e2]at ih;have hg:(pre++k::r).getD (pre.length:Int).toNat 0=k:=my pre k r 0
  refine ih.up λn ih=> ?_
  rw[ue,aN (by omega),ad (an (by omega)),hg,nu k k0 k1,aC0];dsimp only;rw[ad (bc (by unfold lim;simp only[aH4];omega)),bH (by omega),ih];simp
include hr hb hk I0 in
theorem Bl:(Lx.qE (parts x) [32]).length<=40000/\(parts x).length<=1000:=by
 have a1:=gM _ hr.f1.1 hr.f1.2;have a2:=gM _ hr.f2.1 hr.f2.2;have a3:=gM _ hr.f3.1 hr.f3.2;have a4:=gM _ hr.f4.1 hr.f4.2;have a5:=gM _ hr.f5.1 hr.f5.2;have a6:=gM _ hr.f6.1 hr.f6.2;have a7:=zk x.2.2.2.2.2.2.1;have hn:=hb.2.1;have a8:=gM ((aK x).length:Int) (by omega) (by omega);have a9:=gM ((ak x).length:Int) (by omega) (by omega);have f9:=Fi 40 [32] (aK x) hb.2.2
 have ZW:((aK x).flatMap ([32]++ ·)).length<=8200:=by
  have:(40+([32]:LI).length)*(aK x).length<=41*200:=Nat.mul_le_mul (aE5 41) hn;omega
 have kd:∀m∈(ak x).map dec,m.length<=20:=λm hm=>by
  obtain⟨k,V4,rfl⟩:=List.mem_map.1 hm;exact gM k (I0 k V4).1 (I0 k V4).2
 have f15:=Fi 20 [32] ((ak x).map dec) kd
 have WY:(((ak x).map dec).flatMap ([32]++ ·)).length<=4200:=by
  rw[List.length_map]at f15;have:(20+([32]:LI).length)*(ak x).length<=21*200:=Nat.mul_le_mul (aE5 21) hk;omega
 rw[Bm];unfold parts yI;simp only[List.flatMap_append,List.flatMap_cons,List.flatMap_nil,aC2,aC3,aC5,List.length_map]at ZW WY⊢;omega
include hx in
theorem OF:∀c∈jH x,isByte c:=by
 intro c hc;unfold jH at hc;rw[Bm]at hc;have at5:isByte 32:=⟨by decide,by decide⟩
 have fm:∀(r:List LI),(∀m∈r,∀c∈m,isByte c)->∀c∈r.flatMap ([32]++ ·),isByte c:=by
  intro r h c hc;obtain⟨m,hm,hc⟩:=List.mem_flatMap.1 hc
  rcases aE9.1 hc with hc|hc
  ·have:c=32:=(by simpa using hc);subst this;exact at5
  ·exact h m hm c hc
 rcases aE9.1 hc with hc|hc
 ·rcases aE9.1 hc with hc|hc
  ·exact Kl _ c hc
  ·refine fm _ (λm hm=> ?_) c hc;simp only[aE9,aF8,List.not_mem_nil,or_false,List.mem_map]at hm
   rcases hm with((((rfl|rfl|rfl|rfl|rfl|rfl|rfl)|hm)|rfl)|⟨k,_,rfl⟩)
   all_goals first|exact Kl _|exact Jh hx.text|exact hx.names m hm
 ·have:c=10:=(by simpa using hc);subst this;exact⟨by decide,by decide⟩
end
structure AllOk (ns:List aj.den):Prop where
 n:∀x∈ns,NodeOk x
 r:∀x∈ns,RgI x
 b:∀x∈ns,Bd (aK x) x.2.2.2.2.2.2.1/\(ak x).length<=200/\∀k∈ak x,rg k
theorem wK:∀(r pre:List aj.den)(o:LI),AllOk r->(pre++r).length<=3000->o.length+50000*r.length<=1000000000->
  Evt λn=>mI (S.tab n) o (pre++r) ((pre++r).length:Int) (pre.length:Int)=some (Sum.inl (o++r.flatMap jH,()))
 |[],pre,o,_,hl,_=>aG.up λn _=>by
  rw[vu,aB (by simp)];simp
 |x::r,pre,o,hA,hl,ho=>by
  have hlen:(pre++x::r).length=pre.length+(r.length+1):=(by simp);have hm:=aE0 (a:=x) (l:=r);have hx:=hA.n x hm;have hr:=hA.r x hm;obtain⟨hb,hk,I0⟩:=hA.b x hm;have hn:=hb.2.1;obtain⟨jl,pl⟩:=Bl hr hb hk I0;rw[aC3]at ho
  have aq5:(jH x).length<=40001:=by unfold jH;rw[aC2,aH4];omega
  have ih:=wK r (pre++[x]) (o++jH x) ⟨λy hy=>hA.n y (aD9 _ hy),λy hy=>hA.r y (aD9 _ hy),λy hy=>hA.b y (aD9 _ hy)⟩ (by simpa using hl) (by rw[aC2];omega);have e1:(pre++[x])++r=pre++x::r:=(by simp);have e2:(pre++[x]).length=pre.length+1:=(by simp);rw[e1,e2]at ih
  have hg:at_ (τ:=aj) (pre++x::r) (pre.length:Int)=x:=by rw[s7 _ _ (by omega)];simp
  have sB:=GJ o (pre++x::r) ((pre++x::r).length:Int) (pre.length:Int) (ak x) [] ((yI x++aK x)++[dec ((ak x).length:Int)]) I0 (by simpa using hk) (by unfold yI;simp;omega)
  refine((ih.and sB).and (Ld x.2.2.2.2.2.2.1 hx.text)).up λn ⟨⟨ih,sB⟩,hq⟩=> ?_
  rw[vu,aN (by omega),ad (an (by omega)),hg,nu _ hr.f1.1 hr.f1.2,aC0,nu _ hr.f2.1 hr.f2.2,aC0,nu _ hr.f3.1 hr.f3.2,aC0,nu _ hr.f4.1 hr.f4.2,aC0,nu _ hr.f5.1 hr.f5.2,aC0,FT _ hr.f6.1 hr.f6.2,aC0,hq,aC0];show(Lx.oP (((aK x).length:Int),())).bind _=_;rw[nu _ (by omega) (by omega),aC0];show brk (fits ((yI x).length+(aK x).length)) _ _=_;rw[ad (bc (by unfold lim yI;simp;omega))];show(Lx.oP (((ak x).length:Int),())).bind _=_;rw[nu _ (by omega) (by omega),aC0];show brk (fits ((yI x++aK x).length+1)) _ _=_;rw[ad (bc (by unfold lim yI;simp;omega))];show(lJ (S.tab n) o ((yI x++aK x)++[dec ((ak x).length:Int)]) (pre++x::r) ((pre++x::r).length:Int) (pre.length:Int) (ak x) ((ak x).length:Int) 0).bind _=_;have sB:lJ (S.tab n) o ((yI x++aK x)++[dec ((ak x).length:Int)]) (pre++x::r) ((pre++x::r).length:Int) (pre.length:Int) (ak x) ((ak x).length:Int) 0=_:=sB;rw[sB,aC0];show(Lx.Cv (parts x,[32],())).bind _=_
  have hj:Lx.Cv (parts x,[32],())=some (Lx.qE (parts x) [32],(),(),()):=by
   unfold Lx.Cv;dsimp only;rw[bc (show(parts x).length<=lim by unfold lim;omega),bc (show(Lx.qE (parts x) [32]).length<=lim by unfold lim;omega)];rfl
  rw[hj,aC0];dsimp only;rw[ad (bc (by unfold lim;omega))];show(Bld.jk (o,jH x,())).bind _=_
  have hw:Bld.jk (o,jH x,())=some ((((jH x).length:Int),true,()),o++jH x,(),()):=by
   unfold Bld.jk;dsimp only;rw[bc (show o.length+(jH x).length<=lim by unfold lim;omega)];rfl
  rw[hw,aC0];dsimp only;rw[bH (by omega),ih];simp
theorem wQ:∀(r pre:List aj.den)(o:LI),AllOk r->(pre++r).length<=3000->o.length+50000*r.length<=1000000000->
  Evt λn=>mE (S.tab n) o (pre++r) ((pre++r).length:Int) (pre.length:Int)=some (Sum.inl (o++r.flatMap jH,()))
 |[],pre,o,_,hl,_=>aG.up λn _=>by
  rw[vB,aB (by simp)];simp
 |x::r,pre,o,hA,hl,ho=>by
  have hlen:(pre++x::r).length=pre.length+(r.length+1):=(by simp);have hm:=aE0 (a:=x) (l:=r);have hx:=hA.n x hm;have hr:=hA.r x hm;obtain⟨hb,hk,I0⟩:=hA.b x hm;obtain⟨jl,pl⟩:=Bl hr hb hk I0;rw[aC3]at ho
  have aq5:(jH x).length<=40001:=by unfold jH;rw[aC2,aH4];omega
  have ih:=wQ r (pre++[x]) (o++jH x) ⟨λy hy=>hA.n y (aD9 _ hy),λy hy=>hA.r y (aD9 _ hy),λy hy=>hA.b y (aD9 _ hy)⟩ (by simpa using hl) (by rw[aC2];omega);have e1:(pre++[x])++r=pre++x::r:=(by simp);have e2:(pre++[x]).length=pre.length+1:=(by simp);rw[e1,e2]at ih
  have hg:at_ (τ:=aj) (pre++x::r) (pre.length:Int)=x:=by rw[s7 _ _ (by omega)];simp
  refine(ih.and (Ss hx hr hb hk I0)).up λn ⟨ih,hq⟩=> ?_
  rw[vB,aN (by omega),ad (an (by omega)),hg,hq,aC0];dsimp only;rw[ad (bc (by unfold lim;omega)),bH (by omega),ih];simp
def Cu (ns:List aj.den):LI:=bif decide ((nz ns).1=0)then ns.flatMap jH else []
section
variable{ns:List aj.den}(hN:∀x∈ns,NodeOk x)(hR:∀x∈ns,RgI x)
include hN hR in
theorem L7 (c:(nz ns).1=0):AllOk ns:=by
 obtain⟨_,h0,h3,hk⟩:=xf c;refine⟨hN,hR,λx hx=> ?_⟩;obtain⟨j,hj,rfl⟩:=List.getElem_of_mem hx;obtain⟨b1,b2,b3⟩:=Vp (Om c j hj);exact⟨b1,b2,λk hk=>by have:=b3 k hk;unfold rg;omega⟩
theorem Mg:∀(r:List aj.den),AllOk r->(r.flatMap jH).length<=50000*r.length
 |[],_=>by simp
 |x::r,hA=>by
  have hm:=aE0 (a:=x) (l:=r);obtain⟨hb,hk,I0⟩:=hA.b x hm;obtain⟨jl,pl⟩:=Bl (hA.r x hm) hb hk I0;have:=Mg r ⟨λy hy=>hA.n y (aD9 _ hy),λy hy=>hA.r y (aD9 _ hy),λy hy=>hA.b y (aD9 _ hy)⟩;rw[List.flatMap_cons,aC2,aC3]
  have aq5:(jH x).length<=40001:=by unfold jH;rw[aC2,aH4];omega
  omega
theorem MM {r:List aj.den}(hA:AllOk r):∀c∈r.flatMap jH,isByte c:=λc hc=>by
 obtain⟨x,hx,hc⟩:=List.mem_flatMap.1 hc;obtain⟨hb,hk,I0⟩:=hA.b x hx;exact OF (hA.n x hx) c hc
include hN hR in
theorem Hs:Evt λn=>By (S.tab n) (ns,())=some (Cu ns,aQ):=by
 have hs:=yv hN;unfold Cu
 by_cases c:(nz ns).1=0
 ·obtain⟨_,h0,h3,hk⟩:=xf c;have hA:=L7 hN hR c;rw[aC1 c]at hs⊢;have h6:=wK ns [] [] hA (by simpa using h3) (by simp;omega);have hl:=Mg ns hA
  refine(hs.and h6).up λn ⟨hs,h6⟩=> ?_
  rw[zS,hs,aC0,aB (by rfl)];have h6:mI (S.tab n) [] ns (ns.length:Int) 0=some (Sum.inl (ns.flatMap jH,())):=h6;show(mI (S.tab n) [] ns (ns.length:Int) 0).bind _=_;rw[h6,aC0];show(Bld.s5 (ns.flatMap jH,())).bind _=_
  have hw:Bld.s5 (ns.flatMap jH,())=some (ns.flatMap jH,(),()):=by
   unfold Bld.s5;dsimp only;rw[bc (show(ns.flatMap jH).length<=lim by unfold lim;omega),xi (MM hA)];rfl
  rw[hw];rfl
 ·rw[aB9 c]at hs⊢
  refine hs.up λn hs=> ?_
  rw[zS,hs,aC0,ad (by rfl)];rfl
include hN hR in
theorem Hx:Evt λn=>Bt (S.tab n) (ns,())=some (Cu ns,aQ):=by
 have hs:=wM hN;unfold Cu
 by_cases c:(nz ns).1=0
 ·obtain⟨et,h0,h3,hk⟩:=xf c;have hA:=L7 hN hR c;rw[aC1 c];have h6:=wQ ns [] [] hA (by simpa using h3) (by simp;omega)
  refine(hs.and h6).up λn ⟨hs,h6⟩=> ?_
  rw[zX,hs,aC0,aB (by rw[et];rfl)];have h6:mE (S.tab n) [] ns (ns.length:Int) 0=some (Sum.inl (ns.flatMap jH,())):=h6;show(mE (S.tab n) [] ns (ns.length:Int) 0).bind _=_;rw[h6,aC0];show some ((ns.flatMap jH).map byte,aQ)=_;rw[xi (MM hA)];rfl
 ·rw[aB9 c]
  refine hs.up λn hs=> ?_
  rw[zX,hs,aC0,ad (by rw[aB9 c];rfl)];rfl
end
end Go.Abs.D
end

section
namespace Go.Abs.D
def lnN (s:LI):Nat->Nat
 |0=>0
 |i+1=>lnN s i+bif decide (get s i=10)then 1 else 0
def oB (s:LI):Nat->Int
 |0=> -1
 |i+1=>bif decide (get s i=10)then(i:Int)else oB s i
theorem TT (s:LI)(i:Nat):lnN s (i+1)=lnN s i+bif decide (get s i=10)then 1 else 0:=rfl
theorem Su (s:LI)(i:Nat):oB s (i+1)=bif decide (get s i=10)then(i:Int)else oB s i:=rfl
theorem L5 (s:LI):∀i,lnN s i<=i
 |0=>aE5 _
 |i+1=>by
  have:=L5 s i;unfold lnN;cases decide (get s i=10)<;>simp only[aD6,aD1]<;>omega
theorem EW (s:LI):∀i:Nat, -1<=oB s i/\oB s i<i
 |0=>by unfold oB;omega
 |i+1=>by
  have:=EW s i;unfold oB;cases decide (get s i=10)<;>simp only[aD6,aD1]<;>omega
theorem Qm (s:LI):∀i:Nat,i<=s.length->(s.take i).count 10=lnN s i
 |0,_=>rfl
 |i+1,h=>by
  have ih:=Qm s i (by omega)
  have hg:s[i]?=some (get s i):=by
   unfold get;rw[aE2,aE1 (by omega)];rfl
  rw[List.take_add_one,hg,Option.toList_some,List.count_append,ih,TT]
  by_cases e:get s i=10
  ·rw[e];rfl
  ·rw[aB9 e,List.count_eq_zero_of_not_mem (by simpa using λh=>e h.symm)];rfl
theorem Nq (s:LI)(p:Nat)(hp:p<=s.length)(hl:p<=2000000):∀k:Nat,k<=p->Evt λn=>(ew (S.tab n) (s.take p) 10 ((k:Int) - 1)).bind (bB (λy2=>some (y2.1,ab)) (λy2=>some ((-1:Int),ab)))=some (oB s k,ab)
 |0,_=>aG.up λn _=>by
  rw[jq,aB (by rfl)];rfl
 |k+1,hk=>(Nq s p hp hl k (by omega)).up λn ih=>by
  have e:((k+1:Nat):Int) - 1=(k:Int):=(by omega)
  have gX:(s.take p).length=p:=by rw[aF5];omega
  have hg:(s.take p).getD (k:Int).toNat 0=get s k:=by
   rw[Int.toNat_natCast];unfold get;rw[aE2,aE2,List.getElem?_take_of_lt (by omega)]
  rw[e,jq,aN (by omega),ad (an (by omega)),hg,wrap64 _ (by omega) (by omega)];unfold oB
  cases decide (get s k=10)with
  |true=>rw[ad rfl];rfl
  |false=>rw[aB rfl,ih];rfl
theorem Aa (s:LI)(t3:Int×Int×(List aj.den×Unit)×Unit)(p:Nat)(hp:p<=s.length)(hl:p<=2000000)(h3:t3.2.1=(p:Int)):∀(k i:Nat),i+k=p->Evt λn=>jA (S.tab n) s t3 (1+(lnN s i:Int)) ((i:Int) - oB s i) (i:Int)=some (Sum.inl (1+(lnN s p:Int),(p:Int) - oB s p,()))
 |0,i,h=>aG.up λn _=>by
  have:i=p:=(by omega);subst this;rw[sN,h3,aM (by omega)]
 |k+1,i,h=>(Aa s t3 p hp hl h3 k (i+1) (by omega)).up λn ih=>by
  have a:=L5 s i;have b:=EW s i;rw[sN,h3,aN (by omega),ad (an (by omega)),bH (by omega),wrap64 (1+(lnN s i:Int)+1) (by omega) (by omega),wrap64 ((i:Int) - oB s i+1) (by omega) (by omega)];show brk (decide (get s (i:Int).toNat=10)) _ _=_;rw[Int.toNat_natCast];rw[TT,Su]at ih
  cases hc:decide (get s i=10)with
  |true=>
   rw[ad rfl];rw[hc]at ih;simp only[aD6]at ih;rw[show 1+(lnN s i:Int)+1=1+((lnN s i+1:Nat):Int)by omega,<-ih]
   congr 1;omega
  |false=>
   rw[aB rfl];rw[hc]at ih;simp only[aD1]at ih;rw[show 1+(lnN s i:Int)=1+((lnN s i+0:Nat):Int)by omega,<-ih]
   congr 1;omega
theorem NX {s:LI}(yM:∀c∈s,isByte c)(hl:s.length<=1048576):∃r:LI,(Evt λn=>xd (S.tab n) s=some (r,aa))/\Evt λn=>wZ (S.tab n) s=some (r,aa):=by
 obtain⟨c,p,ns,YE,KR,h0,hc,e1,e2⟩:=Pv yM
 rcases hc with(rfl|rfl)|⟨rfl,vr,hp⟩
 ·have hN:∀x∈ns,NodeOk x:=λx hx=>(YE x hx).1
  have hR:∀x∈ns,RgI x:=λx hx=>(YE x hx).2
  have hA:=L7 hN hR (h0 rfl);have h3:ns.length<=3000:=(xf (h0 rfl)).2.2.1;have Xr:=Mg ns hA
  have hd:Cu ns=ns.flatMap jH:=by unfold Cu;rw[aC1 (h0 rfl)];rfl
  have hf:fits (5+(Cu ns).length)=true:=bc (by rw[hd];unfold lim;omega);refine⟨([102,105,110,101,10]:LI)++Cu ns,(e1.and (Hx hN hR)).up λn ⟨h,hd⟩=> ?_,(e2.and (Hs hN hR)).up λn ⟨h,hd⟩=> ?_⟩
  ·rw[rZ,h];simp only[aC0,decide_true,cc];rw[hd];simp only[aC0,hf,cc]
  ·rw[rV,h];simp only[aC0,decide_true,cc];rw[hd];simp only[aC0,hf,cc]
 ·refine⟨[108,97,114,103,101,10],e1.up λn h=> ?_,e2.up λn h=> ?_⟩
  ·rw[rZ,h,aC0,aB (by rfl),ad (by rfl)]
  ·rw[rV,h,aC0,aB (by rfl),ad (by rfl)]
 ·obtain⟨q,rfl⟩:=Int.eq_ofNat_of_zero_le vr;have hq:q<=s.length:=(by omega);have a:=L5 s q;have b:=EW s q;have w:=Aa s (1,(q:Int),(ns,()),()) q hq (by omega) rfl q 0 (by omega)
  have w:Evt λn=>jA (S.tab n) s (1,(q:Int),(ns,()),()) 1 1 0=some (Sum.inl (1+(lnN s q:Int),(q:Int) - oB s q,())):=w
  have la:=Nq s q hq (by omega) q (aE5 _)
  have Gs:sub s 0 (q:Int)=s.take q:=by
   unfold sub;rw[Int.toNat_natCast];rfl
  have gX:(s.take q).length=q:=by rw[aF5];omega
  have la:Evt λn=>jE (S.tab n) (s.take q) 10=some (oB s q,ab):=(la.up (q:=λn=>fo (S.tab n) (s.take q) 10=some (oB s q,ab)) λn h=>by
   show fo (S.step (S.tab n)) _ _=_;rw[oa,gX,wrap64 _ (by omega) (by omega)]
   exact h).up λn h=>by
   show jE (S.step (S.tab n)) _ _=_;rw[th,h];rfl
  have lc:Evt λn=>pv (S.tab n) (s.take q) ([10]:LI)=some ((lnN s q:Int),ab):=aG.up λn _=>by
   show pv (S.step (S.tab n)) _ _=_;rw[Bg,aB (by rfl),ad (by rfl),ad (by rfl)];show(Bld.Fm (s.take q,(10:Int),())).bind _=_;unfold Bld.Fm;dsimp only;rw[show byte (10:Int)=10 from rfl,Qm s q hq];rfl
  have r1:rg (1+(lnN s q:Int)):=⟨by omega,by omega⟩;have r2:rg ((q:Int) - oB s q):=⟨by omega,by omega⟩;have d1:=mK _ r1.1 r1.2;have d2:=mK _ r2.1 r2.2;have n1:=gM _ r1.1 r1.2;have n2:=gM _ r2.1 r2.2;have w1:i64.wrap (1+(lnN s q:Int))=1+(lnN s q:Int):=wrap64 _ (by omega) (by omega);have w2:i64.wrap ((q:Int) - oB s q)=(q:Int) - oB s q:=wrap64 _ (by omega) (by omega);have i1:=nu _ r1.1 r1.2;have i2:=nu _ r2.1 r2.2
  generalize dec (1+(lnN s q:Int))=A at d1 n1 i1
  generalize dec ((q:Int) - oB s q)=B at d2 n2 i2
  have f1:fits (6+A.length)=true:=bc (by unfold lim;omega);have f2:fits ((([102,97,117,108,116,32]:LI)++A).length+1)=true:=bc (by unfold lim;simp only[aC2,aC3,aC5];omega);have f3:fits (((([102,97,117,108,116,32]:LI)++A)++([58]:LI)).length+B.length)=true:=bc (by unfold lim;simp only[aC2,aC3,aC5];omega);have f4:fits ((((([102,97,117,108,116,32]:LI)++A)++([58]:LI))++B).length+1)=true:=bc (by unfold lim;simp only[aC2,aC3,aC5];omega);refine⟨(((([102,97,117,108,116,32]:LI)++A)++([58]:LI))++B)++([10]:LI),((e1.and w).and (d1.and d2)).up λn ⟨⟨h,hw⟩,g1,g2⟩=> ?_,(e2.and (lc.and la)).up λn ⟨h,g1,g2⟩=> ?_⟩
  ·rw[rZ,h,aC0,aB (by rfl),aB (by rfl)];show(jA (S.tab n) s (1,(q:Int),(ns,()),()) 1 1 0).bind _=_;rw[hw,aC0];simp only[aO,aE3];rw[g1,aC0,ad f1,ad f2,g2,aC0,ad f3,ad f4]
  ·rw[rV,h,aC0,aB (by rfl),aB (by rfl)];dsimp only;rw[show bounds s.length 0 (q:Int)=true from dZ (i:=0) (aG8 q) hq,ad rfl,Gs,g1,aC0,g2,aC0];dsimp only;rw[w1,i1,aC0,ad f1,ad f2,w2,i2,aC0,ad f3,ad f4]
theorem Lt (s:LI)(hG:(∀c∈s,isByte c)/\s.length<=maxLen):Evt λn=>kT (S.tab n) s=some (true,aa):=by
 by_cases hs:1048576<s.length
 ·refine aG.up λn _=> ?_
  show kT (S.step (S.tab n)) _=_;rw[oL,aN (by omega)]
 obtain⟨r,e1,e2⟩:=NX hG.1 (by omega)
 refine(e1.and e2).up λn ⟨h1,h2⟩=> ?_
 show kT (S.step (S.tab n)) _=_;rw[oL,aM (by omega),h1,aC0,h2,aC0,aB (by simp)]
end Go.Abs.D
end

section
namespace Go.Proofs.YtkmplfkiafonkaaGreatDoor
open Go.ChangeShapes Go.WideShapes Go.ChangeAt Go.RowKit
theorem U8 {r:Abs.Rd}{τ:Abs.Ty}{x:τ.den}{u:Value}(h:Abs.Rc r τ x [u])(h1:τ.one=true):Abs.oc u=true:=Abs.bu.Dd (g:=⟨r,λ_=>0,λ_ _=> .nilIface,λ_=>none,λ_=>none,λ_=>[]⟩) (c:= .v τ x) ⟨h1,h⟩
set_option maxRecDepth 100000 in
theorem SP (W:World)(hL:laidMetH Tryz.prog Rows.fnExactAnswerRow.laid W)(v0:Value)(x0:List Int)(ap0:Abs.Rc (Abs.snap W) (.str) x0 [v0])(ac1:Abs.Good (.str) x0):Calls Tryz.prog 5 #[v0] W λe w'=>e= .returned (.bool true)/\Below W.heap.size W w':=by
 obtain⟨N,h⟩:=Abs.D.Lt x0 ac1
 have IT:=(sys N).fn 5 (by kernel_rfl) (x0,()) (true,((),())) (h N (Nat.le_refl N)) (Abs.snap W) W [v0] [] (SE hL) (λb L hb=>Abs.Oq hb)
  ⟨_,_,[],[],rfl,rfl,⟨U8 ap0 rfl,rfl,rfl,_,rfl,ap0⟩,⟨rfl,rfl⟩⟩ List.nodup_nil (λb hb=>by simp at hb) (Abs.Cx.none rfl)
 refine(Abs.A4 Tryz.func5 rfl (by kernel_rfl) IT).mono ?_;rintro e w' ⟨v,rfl,cQ,n1,n2,A,⟨_,h1,_,u,e2,h2⟩,h3⟩
 injection e2 with e2 _
 subst e2;have h2:[v]=[Value.bool true]:=h2
 injection h2 with h2 _
 subst h2;exact⟨rfl,A.below⟩
set_option maxRecDepth 100000 in
theorem Oc (os:Os)(started:os.Started)(H:Type)(enc:TypeId×Value->H):
  ReturnsInHanded {} Tryz.checked os 5 .any (λw args=>(Rows.fnExactAnswerSpec.pre enc Tryz.prog Tryz.f5 Rows.fnExactAnswerRow.domain false w args/\laidMetH Tryz.prog Rows.fnExactAnswerRow.laid w)/\sizedMet enc Tryz.prog Tryz.f5 (OpenSpec.ofChange Rows.fnExactAnswerSpec) false w args)
   (Rows.fnExactAnswerSpec.post enc Tryz.prog Tryz.f5 false true false false):=by
 refine returnsInHanded_of_change_and (C:=Tryz.checked) (X:=λw _=>laidMetH Tryz.prog Rows.fnExactAnswerRow.laid w) (λ_ _ _ hh h=>h.of_heap hh) own started (by kernel_rfl) Tryz.func5
  (ChangeSpec.witness_shaped (enc:=enc) (C:=Tryz.checked) (os:=os) (X:=λw _=>laidMetH Tryz.prog Rows.fnExactAnswerRow.laid w) false (World.laidAll Tryz.prog os Rows.fnExactAnswerRow.laid) #[.string ByteArray.empty] 8 (World.laidAll_os _ _ _)
   (World.shaped_of_ZipB (by kernel_rfl) (by kernel_rfl)) (by kernel_rfl) (by kernel_rfl) (by kernel_rfl)
   (by rw[MakeChecks.laidMetH_plain _ _ _ (by kernel_rfl)];exact laidMet_laidAll _ (by kernel_rfl) (by kernel_rfl))) ?_
 intro W base args ds gs before Uz hW _ _ hL _;have O3:∀(j:Nat) t v,Tryz.f5.params[j]?=some t->args[j]?=some v->Value.okWide Tryz.prog W .any base t v:=Uz;have ac8:=hW;obtain⟨p,q,am7,hV,rfl,aA2,mR⟩:=hW;have hA:DataW.TrodAll enc Tryz.prog W 0 (λ_=>true) true Tryz.f5.params.toList args.toList ds p:=am7;rw[Tryz.params5]at hA O3;obtain⟨v0,vs0,d0,ds0,p0,q0,hargs0,rfl,rfl,h0,r0⟩:=trodAll_cons hA;obtain⟨rfl,rfl,rfl⟩:=trodAll_nil r0
 obtain rfl:args=#[v0]:=by cases args;simp_all
 obtain⟨a0,rfl,rfl,rfl,y0⟩:=Go.ChangeMaps.open_string Tryz.underlying9 (O3 0 9 v0 rfl rfl) h0;have ac1:Abs.Good .str (Abs.bytesOf a0):=⟨Abs.wP a0,by rw[Abs.eN];exact y0⟩;have at0:=zT hV
 match gs,at0,hV,ac8 with
 |[g1,g2,g3],_,hV,ac8=>
  clear am7 Uz
  refine(SP W hL _ _ ⟨a0,rfl,rfl⟩ ac1).mono λe W' ⟨he,ap3⟩=> ?_
  subst he;exact⟨_,rfl,_,_,_,[],_,_,ac8,trodAll_mk1 (shut_bool Tryz.underlying4 _),(trodAll_cons_mk (Go.ChangeMaps.shut_string Tryz.underlying9 y0) trodAll_mk0),Below.trodVars laidOut ap3 (by kernel_rfl) hV,ap3.frame _,λh=>by cases h⟩
theorem Vc:Rows.FnExactAnswerSaid:=
 OpenClaim.holds_of_wide 5 Tryz.f5 rfl rfl rfl rfl rfl rfl rfl ⟨rfl,rfl,rfl,rfl,rfl⟩ rfl rfl rfl rfl rfl (by kernel_rfl) Tryz.func5 (by kernel_rfl)
  (of_decide_eq_true (by kernel_rfl)) (by unfold Func.isWrapper;first|(rw[if_pos (by decide+kernel)];kernel_rfl)|(rw[if_neg (by decide+kernel)];exact⟨rfl,rfl⟩))
  (λos started H enc _=>Oc os started H enc)
theorem fnExactAnswer_holds:Rows.FnExactAnswerCardSaid:=
 Claim7.holds_tied_plain_at .later [] [.data, .data, .data, .sentinel, .sentinel, .data, .data, .data] true (true, "964984a6e353a4e2adeb383b7bdedd62cbb3e624073b1565e69868e09556fc1f") true
  Vc (λ_ h=>by cases h) (by kernel_rfl) (λ_ h=>by cases h) fnExactAnswer_row_tie rfl ⟨rfl,rfl⟩ (by kernel_rfl) rfl
  (λf fn hf Xn=>by
   obtain rfl:f=5:=Option.some.inj ((show Tryz.prog.funcNamed "loop.example/warp/laws.FnExactAnswer" =some 5 by kernel_rfl).symm.trans hf)|>.symm
   obtain rfl:fn=Tryz.f5:=(Option.some.inj (Tryz.func5.symm.trans Xn)).symm
   exact⟨by kernel_rfl,λj t ht=>by
    rw[Tryz.params5]at ht
    have hm:t∈[9]:=by simpa using Array.mem_of_getElem? ht
    have sy:([9].all λu=> !Tryz.prog.wantsStandIn u)=true:=by kernel_rfl
    exact(show Tryz.prog.wantsStandIn t=false by simpa using List.all_eq_true.1 sy t hm)⟩)
  (by kernel_rfl)
end Go.Proofs.YtkmplfkiafonkaaGreatDoor
#print axioms Go.Proofs.YtkmplfkiafonkaaGreatDoor.fnExactAnswer_holds
end
