/- What is here: both builders of trees beside each other: every statement. -/
import Derived.Test.YtkmplfkiafonkaaGreatDoorX6
import Derived.Test.YtkmplfkiafonkaaGreatDoorCards
set_option linter.unusedVariables false
set_option linter.unusedSimpArgs false
set_option maxRecDepth 100000
open Go.IntKind (i64 u64 u8)
section
namespace Go.Abs.D
variable(G:Toks)
theorem Toks.wF (a:Nat):stI 1001 (KA G.out a)=(bif decide (KA G.out a=5)then .left [1000]else .gone)∧stI 1002 (KA G.out a)=(bif decide (KA G.out a=47)then .left [1018,1023]else .gone)∧stI 1008 (KA G.out a)=(bif decide (KA G.out a=46)then .left [1]else .gone)∧
  stI 1015 (KA G.out a)=(bif decide (KA G.out a=1)then .left [1016]else bif decide (KA G.out a=40)then .left [1018,41,1016]else .no)∧
  stI 1004 (KA G.out a)=(bif decide (KA G.out a=47)then .left [1018,46,1018,1005,1027]else bif decide (KA G.out a=46)then .left [1,1006,21,1018,1027]else bif decide (KA G.out a=21)then .left [1018,1027]else .no)∧
  stI 1005 (KA G.out a)=(bif decide (KA G.out a=46)then .left [1018]else .gone):=by
 have h:=G.tab Lr a;simp only[ao3,ao1]at h;exact h
theorem pb {a:Nat}{r:LI}{nd:List Node}(hl:a<G.out.length){a1:Nat}(dF:List Node)(h1:a<a1)(h2:a1≤G.out.length)(h3:W dF+4*a+2≤W nd+4*a1)(hn:W nd≤4*a)(h4:Ac G.out (1001::r) a1)(ki op x5:Int)(ns:List LI)(ks:LI)(Eu:nmO ns 70000)(Fs:ks.length≤70000)
  (eI:Evt fun n=>aY (S.tab (n+1)) (G.tI,(a:Int),nd,())=(ar (S.tab n) (G.tI,(a1:Int),dF,()) (a:Int) (ki,0,0,0,op,x5,[],ns,ks,())).bind fun d=>some (d.1,d.2.1,()))
  (eS:Evt fun n=>bB (S.tab (n+1)) (G.tS,(a:Int),nd,())=(aE (S.tab n) (G.tS,(a1:Int),dF,()) (ki,(tkA G.out a).2.1,0,(tkA G.out a).2.2.2.1,op,x5,[],ns,ks,())).bind fun d=>some (d.1,d.2.1,())):
  ∃(a' m:Nat) (iq:List Node),Nx1 G (1001::r) a nd a' iq m∧(Evt fun n=>aY (S.tab n) (G.tI,(a:Int),nd,())=some ((m:Int),(G.tI,(a':Int),iq,()),()))∧
   Evt fun n=>bB (S.tab n) (G.tS,(a:Int),nd,())=some ((m:Int),(G.tS,(a':Int),iq,()),()):=by
 have hL:=G.len;obtain⟨c,rfl⟩:∃c,a1=c+1:=⟨a1 - 1,by omega⟩;have hc:c<G.out.length:=(by omega);have CF:=iL (nd:=dF) (x:=(ki,(tkA G.out a).2.1,(tkA G.out c).2.2.1,(tkA G.out a).2.2.2.1,op,x5,[],ns,ks,())) (Rq Eu.1 (by have:=Eu.2;omega) (by omega));refine⟨c+1,dF.length,dF++[(ki,(tkA G.out a).2.1,(tkA G.out c).2.2.1,(tkA G.out a).2.2.2.1,op,x5,[],ns,ks,())],⟨by omega,h2,by simp,by omega,h4⟩,(G.base.and eI).up fun n ⟨B,h⟩=> ?_,(G.base.and eS).up fun n ⟨B,h⟩=> ?_⟩
 ·rw[h,B.cI _ _ _ _ hc hl (show dF.length≤300000 by have:=hJ dF;omega)];rfl
 ·rw[h,B.aS _ _ _ hc (show dF.length≤300000 by have:=hJ dF;omega)];rfl
theorem Ol {a:Nat}(hX:∀a',a<a'→JX G a')(hB:∀a',a<a'→JB G a')(ah8:JB G a)(hC:JC G a)(hF:∀b a',a<a'→JF G b a'):JS G a:=by
 intro nd r hr ha hn hA h5 RB h6;have hL:=G.len;obtain⟨al3,am5,ad5,ag0,ag5,ai7,aj1,ae6,af5,ah0,al0,aj9,Z8,s1,ae4,_⟩:=OF
 have Cd:∀a:Nat,a≤G.out.length→(decide ((0:Int)≤(a:Int))&&decide ((a:Int)<(G.tS.length:Int)))=true:=fun a h=>al (by rw[G.lS];omega)
 by_cases k22:KA G.out a=22
 ·obtain⟨hl,hA⟩:=bZ al3 k22 hA ha
  have hQ:I3 G (fun st=>st=1006::1002::1001::r):=fun st a' e M5 Jv hk=>by
   subst e;have ht:=of_decide_eq_true (G.tab Cp a');rw[an8 hk]at ht;obtain⟨hl,hA⟩:=bZ ht rfl Jv M5;exact⟨hl,_,rfl,hA⟩
  obtain⟨a1,Um,ns,n1,n2,rfl,n4,n5,n6,eI,eS⟩:=AN G hQ nd (show a+1≤_ by omega) rfl hA;have ht:=of_decide_eq_true (G.tab Cp a1);rw[an6 n5]at ht;have hA:=eY ht rfl n4 n2;have Vw:=(G.wF a1).2.1
  by_cases Md:KA G.out a1=47
  ·rw[an8 Md]at Vw;obtain⟨oD,hA⟩:=bZ Vw rfl hA n2;obtain⟨a2,xs,ir,p1,p2,p3,p4,p5,fI,fS⟩:=xa G (fun a' h=>hX a' (by omega)) nd (1001::r) (show a1+1≤_ by omega) (by omega) hA;refine pb G hl ir (by omega) p2 (by omega) hn p5 2 0 0 ns xs (n6.up (by omega)) (by omega) (((G.base.and eI).and fI).mono fun n ⟨⟨B,h1⟩,h2⟩=> ?_) (((G.base.and eS).and fS).mono fun n ⟨⟨B,h1⟩,h2⟩=> ?_)
   ·show aY (S.step (S.tab n)) _=_;simp only[bc,B.kI _ _ ha,an7,an8 k22,cc,B.tI _ _ hl,h1,B.eI _ _ _ n2,an8 Md,ap3,h2]
   ·show bB (S.step (S.tab n)) _=_;simp only[bF,B.kS _ _ ha,an7,kne k22 (show(22:Int)≠42 by decide),kne k22 (show(22:Int)≠1 by decide),kne k22 (show(22:Int)≠40 by decide),cd,B.tS _ _ hl,G.kdA hl,an8 k22,cc,B.nS,h1,B.eS _ _ _ n2,an8 Md,ap3,h2]
  ·rw[an6 Md]at Vw;refine pb G hl nd (by omega) n2 (by omega) hn (eY Vw rfl hA n2) 2 0 0 ns [] (n6.up (by omega)) (by simp) ((G.base.and eI).mono fun n ⟨B,h1⟩=> ?_) ((G.base.and eS).mono fun n ⟨B,h1⟩=> ?_)
   ·show aY (S.step (S.tab n)) _=_;simp only[bc,B.kI _ _ ha,an7,an8 k22,cc,cd,B.tI _ _ hl,h1,B.eI _ _ _ n2,an6 Md,ao8]
   ·show bB (S.step (S.tab n)) _=_;simp only[bF,B.kS _ _ ha,an7,kne k22 (show(22:Int)≠42 by decide),kne k22 (show(22:Int)≠1 by decide),kne k22 (show(22:Int)≠40 by decide),cd,B.tS _ _ hl,G.kdA hl,an8 k22,cc,B.nS,h1,B.eS _ _ _ n2,an6 Md,ao8]
 by_cases k13:KA G.out a=13
 ·obtain⟨hl,hA⟩:=bZ am5 k13 hA ha;obtain⟨oD,_,hA⟩:=iM hA (by omega) (by decide);have Md:=(iM hA (by omega) (by decide)).2.1;obtain⟨ox,_,hA⟩:=iM hA (by omega) (by decide);obtain⟨a2,m,ir,⟨p1,p2,p3,p4,p5⟩,fI,fS⟩:=hX (a+1+1+1) (by omega) nd (1001::r) (by omega) (by omega) hA
  have WK:Evt fun n=>gy (S.tab n) (G.tS,((a+1:Nat):Int),nd,())=some ([(tkA G.out (a+1)).2.2.2.2.2.1],(G.tS,((a+1+1:Nat):Int),nd,()),()):=by
   have h3:Evt fun n=>∀t,fg (S.tab n) (G.tS,((a+1+1:Nat):Int),nd,()) t [(tkA G.out (a+1)).2.2.2.2.2.1]=some (Sum.inl ((G.tS,((a+1+1:Nat):Int),nd,()),[(tkA G.out (a+1)).2.2.2.2.2.1],())):=G.base.up fun n B t=>by
    show fg (S.step (S.tab n)) _ _ _=_;simp only[lT,B.eS (a+1+1) _ _ (show a+1+1≤_ by omega),kne Md (show(47:Int)≠46 by decide),an7,cd,ao8]
   exact(G.base.and h3).up fun n ⟨B,h⟩=>by
    show gy (S.step (S.tab n)) _=_;simp only[r4,B.tS _ _ oD,an7,h,aN,aq0]
  refine pb G hl ir (by omega) p2 (by omega) hn p5 3 0 0 [(tkA G.out (a+1)).2.2.2.2.2.1] [(m:Int)] ⟨fun x hx=>by rw[List.mem_singleton.1 hx];exact G.Qq _,by simp⟩ (by simp) ((G.base.and fI).mono fun n ⟨B,h1⟩=> ?_) (((G.base.and fS).and WK).mono fun n ⟨⟨B,h1⟩,h2⟩=> ?_)
  ·show aY (S.step (S.tab n)) _=_;simp only[bc,B.kI _ _ ha,an7,an6 k22,cd,an8 k13,cc,B.tI _ _ hl,B.tI _ _ oD,B.tI _ _ ox,h1]
  ·show bB (S.step (S.tab n)) _=_;simp only[bF,B.kS _ _ ha,an7,kne k13 (show(13:Int)≠42 by decide),kne k13 (show(13:Int)≠1 by decide),kne k13 (show(13:Int)≠40 by decide),cd,B.tS _ _ hl,G.kdA hl,an6 k22,an8 k13,cc,B.nS,h2,B.tS _ _ ox,h1]
 by_cases k18:KA G.out a=18
 ·obtain⟨hl,hA⟩:=bZ ad5 k18 hA ha;obtain⟨oD,_,hA⟩:=iM hA (by omega) (by decide)
  have ox:a+1+1<G.out.length:=by
   have ht:=of_decide_eq_true (G.tab OT (a+1+1))
   by_cases hk:KA G.out (a+1+1)=40
   ·rw[an8 hk]at ht;exact(bZ ht rfl hA (by omega)).1
   ·rw[an6 hk]at ht;exact(qk ht rfl hA (by omega)).elim
  obtain⟨a2,m,ir,⟨p1,p2,p3,p4,p5⟩,fI,fS⟩:=hF (a+1+1) (a+1+1) (by omega) nd (1001::r) ox (by omega) (by omega) hA;refine pb G hl ir (by omega) p2 (by omega) hn p5 4 0 0 [(tkA G.out (a+1)).2.2.2.2.2.1] [(m:Int)] ⟨fun x hx=>by rw[List.mem_singleton.1 hx];exact G.Qq _,by simp⟩ (by simp) ((G.base.and fI).mono fun n ⟨B,h1⟩=> ?_) ((G.base.and fS).mono fun n ⟨B,h1⟩=> ?_)
  ·show aY (S.step (S.tab n)) _=_;simp only[bc,B.kI _ _ ha,an7,an6 k22,an6 k13,cd,an8 k18,cc,B.tI _ _ hl,B.tI _ _ oD,h1]
  ·show bB (S.step (S.tab n)) _=_;simp only[bF,B.kS _ _ ha,an7,kne k18 (show(18:Int)≠42 by decide),kne k18 (show(18:Int)≠1 by decide),kne k18 (show(18:Int)≠40 by decide),cd,B.tS _ _ hl,G.kdA hl,an6 k22,an6 k13,an8 k18,cc,B.nS,B.tS _ _ oD];rw[ad (Cd (a+1+1) (by omega)),G.aS _ ox,h1];rfl
 by_cases k20:KA G.out a=20
 ·obtain⟨hl,hA⟩:=bZ ag0 k20 hA ha;obtain⟨a2,m,ir,⟨p1,p2,p3,p4,p5⟩,fI,fS⟩:=hC nd (1001::r) hl hn hA;refine⟨a2,m,ir,⟨p1,p2,p3,by omega,p5⟩,(G.base.and fI).up fun n ⟨B,h⟩=> ?_,(G.base.and fS).up fun n ⟨B,h⟩=> ?_⟩
  ·show aY (S.step (S.tab n)) _=_;simp only[bc,B.kI _ _ ha,an7,an6 k22,an6 k13,an6 k18,cd,an8 k20,cc,h]
  ·show bB (S.step (S.tab n)) _=_;simp only[bF,B.kS _ _ ha,an7,kne k20 (show(20:Int)≠42 by decide),kne k20 (show(20:Int)≠1 by decide),kne k20 (show(20:Int)≠40 by decide),cd,B.tS _ _ hl,G.kdA hl,an6 k22,an6 k13,an6 k18,an8 k20,cc,h]
 by_cases k31:KA G.out a=31
 ·obtain⟨hl,hA⟩:=bZ ag5 k31 hA ha;obtain⟨a1,m1,dF,⟨n1,n2,n3,n4,n5⟩,eI,eS⟩:=hX (a+1) (by omega) nd _ (by omega) (by omega) hA;obtain⟨a2,m2,ir,⟨p1,p2,p3,p4,p5⟩,fI,fS⟩:=hB a1 (by omega) dF (1001::r) n2 (by omega) n5;refine pb G hl ir (by omega) p2 (by omega) hn p5 8 0 0 [] [(m1:Int),(m2:Int)] ⟨(fun _ h=>nomatch h),by simp⟩ (by simp) (((G.base.and eI).and fI).mono fun n ⟨⟨B,h1⟩,h2⟩=> ?_) (((G.base.and eS).and fS).mono fun n ⟨⟨B,h1⟩,h2⟩=> ?_)
  ·show aY (S.step (S.tab n)) _=_;simp only[bc,B.kI _ _ ha,an7,an6 k22,an6 k13,an6 k18,an6 k20,cd,an8 k31,cc,B.tI _ _ hl,h1,h2]
  ·show bB (S.step (S.tab n)) _=_;simp only[bF,B.kS _ _ ha,an7,kne k31 (show(31:Int)≠42 by decide),kne k31 (show(31:Int)≠1 by decide),kne k31 (show(31:Int)≠40 by decide),cd,B.tS _ _ hl,G.kdA hl,an6 k22,an6 k13,an6 k18,an6 k20,an8 k31,cc,B.nS,h1,h2]
 by_cases k19:KA G.out a=19
 ·obtain⟨hl,hA⟩:=bZ ai7 k19 hA ha
  have hQ:I3 G (fun st=>st=1004::1001::r∨st=1006::21::1018::1027::1001::r):=fun st a' e M5 Jv hk=>by
   rcases e with rfl|rfl
   ·have ht:=(G.wF a').2.2.2.2.1;rw[kne hk (show(46:Int)≠47 by decide),an8 hk]at ht;obtain⟨hl,hA⟩:=bZ ht rfl Jv M5;exact⟨hl,_, .inr rfl,hA⟩
   ·have ht:=of_decide_eq_true (G.tab Cp a');rw[an8 hk]at ht;obtain⟨hl,hA⟩:=bZ ht rfl Jv M5;exact⟨hl,_, .inr rfl,hA⟩
  obtain⟨a1,Um,ns,n1,n2,mZ,n4,n5,Eu,eI,eS⟩:=AN G hQ nd (show a+1≤_ by omega) (.inl rfl) hA
  have EI:(KA G.out a1=47∧a1<G.out.length∧Ac G.out (1018::46::1018::1005::1027::1001::r) (a1+1))∨(KA G.out a1=21∧a1<G.out.length∧Ac G.out (1018::1027::1001::r) (a1+1)):=by
   rcases mZ with rfl|rfl
   ·have ht:=(G.wF a1).2.2.2.2.1
    by_cases q1:KA G.out a1=47
    ·rw[an8 q1]at ht;obtain⟨hl,hA⟩:=bZ ht rfl n4 n2;exact .inl ⟨q1,hl,hA⟩
    rw[an6 q1,an6 n5]at ht
    by_cases q2:KA G.out a1=21
    ·rw[an8 q2]at ht;obtain⟨hl,hA⟩:=bZ ht rfl n4 n2;exact .inr ⟨q2,hl,hA⟩
    rw[an6 q2]at ht;exact(qk ht rfl n4 n2).elim
   ·have ht:=of_decide_eq_true (G.tab Cp a1);rw[an6 n5]at ht;obtain⟨hl,h1,hA⟩:=iM (eY ht rfl n4 n2) n2 (by decide);exact .inr ⟨h1,hl,hA⟩
  rcases EI with⟨Md,oD,hA⟩|⟨SB,oD,hA⟩
  ·have hQ:L5 G (fun st=>st=46::1018::1005::1027::1001::r∨st=1005::1027::1001::r∨st=1027::1001::r):=fun st a' e M5 Jv hk=>by
    rcases e with rfl|rfl|rfl
    ·obtain⟨hl,_,hA⟩:=iM Jv M5 (by decide);exact⟨hl,_, .inr (.inl rfl),hA⟩
    ·have ht:=(G.wF a').2.2.2.2.2;rw[an8 hk]at ht;obtain⟨hl,hA⟩:=bZ ht rfl Jv M5;exact⟨hl,_, .inr (.inr rfl),hA⟩
    ·have ht:=of_decide_eq_true (G.tab GI a');rw[kne hk (show(46:Int)≠42 by decide)]at ht;exact(qk ht rfl Jv M5).elim
   obtain⟨a2,xs,ir,Qm,p1,p2,p3,p4,p5,p6,p7,fI,fS⟩:=FK G hQ (fun a' h=>hX a' (by omega)) (show a1+1≤_ by omega) (show W nd≤4*(a1+1)by omega) (.inl rfl) hA
   have hA:Ac G.out (1027::1001::r) a2:=by
    rcases p5 with rfl|rfl|rfl
    ·exact absurd (iM p6 p2 (by decide)).2.1 p7
    ·have ht:=(G.wF a2).2.2.2.2.2;rw[an6 p7]at ht;exact eY ht rfl p6 p2
    ·exact p6
   obtain⟨a3,m,nL,⟨q1,q2,q3,q4,q5⟩,gI,gS⟩:=hB a2 (by omega) ir (1001::r) p2 (by omega) hA
   have al8:Evt fun n=>jS (S.tab (n+1)) (G.tS,((a+1:Nat):Int),nd,()) (tkA G.out a)=(aE (S.tab n) (G.tS,(a3:Int),nL,()) (9,(tkA G.out a).2.1,0,(tkA G.out a).2.2.2.1,0,0,[],ns,xs++[(m:Int)],())).bind fun d=>some (d.1,d.2.1,((),(),(),(),(),(),()),()):=
    (((G.base.and eS).and fS).and gS).mono fun n ⟨⟨⟨B,h1⟩,h2⟩,h3⟩=>by
     show jS (S.step (S.tab n)) _ _=_;simp only[tj,h1,an7,B.nS,B.tS _ _ oD,G.kdA oD,an8 Md,cc,h2,h3];rw[ad (A7 (by omega))]
   obtain⟨c,rfl⟩:∃c,a3=c+1:=⟨a3 - 1,by omega⟩;have hc:c<G.out.length:=(by omega);have CF:=iL (nd:=nL) (x:=(9,(tkA G.out a).2.1,(tkA G.out c).2.2.1,(tkA G.out a).2.2.2.1,0,0,[],ns,xs++[(m:Int)],())) (Rq Eu.1 (by have:=Eu.2;omega) (by simp only[an9,ao0,ao2];omega));refine⟨c+1,nL.length,nL++[(9,(tkA G.out a).2.1,(tkA G.out c).2.2.1,(tkA G.out a).2.2.2.1,0,0,[],ns,xs++[(m:Int)],())],⟨by omega,q2,by simp,by omega,q5⟩, ?_, ?_⟩
   ·refine(((G.base.and eI).and fI).and gI).up fun n ⟨⟨⟨B,h1⟩,h2⟩,h3⟩=> ?_
    show aY (S.step (S.tab n)) _=_;simp only[bc,B.kI _ _ ha,an7,an6 k22,an6 k13,an6 k18,an6 k20,an6 k31,cd,an8 k19,cc,B.tI _ _ hl,h1,B.eI _ _ _ n2,an8 Md,ap3,h2,h3];rw[ad (A7 (by omega)),B.cI _ _ _ _ hc hl (show nL.length≤300000 by have:=hJ nL;omega)];rfl
   ·have Ul:Evt fun n=>jS (S.tab n) (G.tS,((a+1:Nat):Int),nd,()) (tkA G.out a)=some ((nL.length:Int),(G.tS,((c+1:Nat):Int),nL++[(9,(tkA G.out a).2.1,(tkA G.out c).2.2.1,(tkA G.out a).2.2.2.1,0,0,[],ns,xs++[(m:Int)],())],()),((),(),(),(),(),(),()),()):=
     (G.base.and al8).up fun n ⟨B,h⟩=>by rw[h,B.aS _ _ _ hc (show nL.length≤300000 by have:=hJ nL;omega)];rfl
    refine(G.base.and Ul).up fun n ⟨B,h⟩=> ?_
    show bB (S.step (S.tab n)) _=_;simp only[bF,B.kS _ _ ha,an7,kne k19 (show(19:Int)≠42 by decide),kne k19 (show(19:Int)≠1 by decide),kne k19 (show(19:Int)≠40 by decide),cd,B.tS _ _ hl,G.kdA hl,an6 k22,an6 k13,an6 k18,an6 k20,an6 k31,an8 k19,cc,h]
  ·have Md:KA G.out a1≠47:=(by omega);obtain⟨a2,m1,ir,⟨p1,p2,p3,p4,p5⟩,fI,fS⟩:=hX (a1+1) (by omega) nd _ (by omega) (by omega) hA;obtain⟨a3,m,nL,⟨q1,q2,q3,q4,q5⟩,gI,gS⟩:=hB a2 (by omega) ir (1001::r) p2 (by omega) p5;obtain⟨c,rfl⟩:∃c,a3=c+1:=⟨a3 - 1,by omega⟩;have hc:c<G.out.length:=(by omega);have CF:=iL (nd:=nL) (x:=(10,(tkA G.out a).2.1,(tkA G.out c).2.2.1,(tkA G.out a).2.2.2.1,0,0,[],ns,[(m1:Int),(m:Int)],())) (Rq Eu.1 (by have:=Eu.2;omega) (by simp));refine⟨c+1,nL.length,nL++[(10,(tkA G.out a).2.1,(tkA G.out c).2.2.1,(tkA G.out a).2.2.2.1,0,0,[],ns,[(m1:Int),(m:Int)],())],⟨by omega,q2,by simp,by omega,q5⟩, ?_, ?_⟩
   ·refine(((G.base.and eI).and fI).and gI).up fun n ⟨⟨⟨B,h1⟩,h2⟩,h3⟩=> ?_
    show aY (S.step (S.tab n)) _=_;simp only[bc,B.kI _ _ ha,an7,an6 k22,an6 k13,an6 k18,an6 k20,an6 k31,cd,an8 k19,cc,B.tI _ _ hl,h1,B.eI _ _ _ n2,an6 Md,ao8,B.tI _ _ oD,h2,h3,B.cI _ _ _ _ hc hl (show nL.length≤300000 by have:=hJ nL;omega)];rfl
   ·have Ul:Evt fun n=>jS (S.tab n) (G.tS,((a+1:Nat):Int),nd,()) (tkA G.out a)=some ((nL.length:Int),(G.tS,((c+1:Nat):Int),nL++[(10,(tkA G.out a).2.1,(tkA G.out c).2.2.1,(tkA G.out a).2.2.2.1,0,0,[],ns,[(m1:Int),(m:Int)],())],()),((),(),(),(),(),(),()),()):=
     (((G.base.and eS).and fS).and gS).up fun n ⟨⟨⟨B,h1⟩,h2⟩,h3⟩=>by
      show jS (S.step (S.tab n)) _ _=_;simp only[tj,h1,an7,B.nS,B.tS _ _ oD,G.kdA oD,an6 Md,cd,h2,h3];rw[ad (by rfl),B.aS _ _ _ hc (show nL.length≤300000 by have:=hJ nL;omega)];rfl
    refine(G.base.and Ul).up fun n ⟨B,h⟩=> ?_
    show bB (S.step (S.tab n)) _=_;simp only[bF,B.kS _ _ ha,an7,kne k19 (show(19:Int)≠42 by decide),kne k19 (show(19:Int)≠1 by decide),kne k19 (show(19:Int)≠40 by decide),cd,B.tS _ _ hl,G.kdA hl,an6 k22,an6 k13,an6 k18,an6 k20,an6 k31,an8 k19,cc,h]
 by_cases k11:KA G.out a=11
 ·obtain⟨hl,hA⟩:=bZ aj1 k11 hA ha;refine pb G hl nd (Nat.lt_succ_self a) hl (by omega) hn hA 11 0 0 [] [] ⟨(fun _ h=>nomatch h),by simp⟩ (by simp) (G.base.mono fun n B=> ?_) (G.base.mono fun n B=> ?_)
  ·show aY (S.step (S.tab n)) _=_;simp only[bc,B.kI _ _ ha,an7,an6 k22,an6 k13,an6 k18,an6 k20,an6 k31,an6 k19,cd,an8 k11,cc,B.tI _ _ hl]
  ·show bB (S.step (S.tab n)) _=_;simp only[bF,B.kS _ _ ha,an7,kne k11 (show(11:Int)≠42 by decide),kne k11 (show(11:Int)≠1 by decide),kne k11 (show(11:Int)≠40 by decide),cd,B.tS _ _ hl,G.kdA hl,an6 k22,an6 k13,an6 k18,an6 k20,an6 k31,an6 k19,an8 k11,cc,B.nS]
 by_cases k23:KA G.out a=23
 ·obtain⟨hl,hA⟩:=bZ ae6 k23 hA ha;refine pb G hl nd (Nat.lt_succ_self a) hl (by omega) hn hA 12 0 0 [] [] ⟨(fun _ h=>nomatch h),by simp⟩ (by simp) (G.base.mono fun n B=> ?_) (G.base.mono fun n B=> ?_)
  ·show aY (S.step (S.tab n)) _=_;simp only[bc,B.kI _ _ ha,an7,an6 k22,an6 k13,an6 k18,an6 k20,an6 k31,an6 k19,an6 k11,cd,an8 k23,cc,B.tI _ _ hl]
  ·show bB (S.step (S.tab n)) _=_;simp only[bF,B.kS _ _ ha,an7,kne k23 (show(23:Int)≠42 by decide),kne k23 (show(23:Int)≠1 by decide),kne k23 (show(23:Int)≠40 by decide),cd,B.tS _ _ hl,G.kdA hl,an6 k22,an6 k13,an6 k18,an6 k20,an6 k31,an6 k19,an6 k11,an8 k23,cc,B.nS]
 by_cases k27:KA G.out a=27
 ·obtain⟨hl,hA⟩:=bZ af5 k27 hA ha;have ht:=of_decide_eq_true (G.tab V9 (a+1))
  have hI:∀(n:Nat),PW G.out G.tI G.tS (S.tab n)→aY (S.step (S.tab n)) (G.tI,(a:Int),nd,())=brk (je (KA G.out (a+1))) ((cV (S.tab n) (G.tI,((a+1:Nat):Int),nd,())).bind fun d=>(ar (S.tab n) d.2.1 ↑a (13,0,0,0,0,0,[],[],d.1,())).bind fun d=>some (d.1,d.2.1,())) ((ar (S.tab n) (G.tI,((a+1:Nat):Int),nd,()) ↑a (13,0,0,0,0,0,[],[],[],())).bind fun d=>some (d.1,d.2.1,())):=fun n B=>by
   simp only[bc,B.kI _ _ ha,an7,an6 k22,an6 k13,an6 k18,an6 k20,an6 k31,an6 k19,an6 k11,an6 k23,cd,an8 k27,cc,B.tI _ _ hl,B.kI (a+1) _ hl,B.bI]
  have hS:∀(n:Nat),PW G.out G.tI G.tS (S.tab n)→bB (S.step (S.tab n)) (G.tS,(a:Int),nd,())=brk (je (KA G.out (a+1))) ((eB (S.tab n) (G.tS,((a+1:Nat):Int),nd,())).bind fun d=>(aE (S.tab n) d.2.1 (13,(tkA G.out a).2.1,0,(tkA G.out a).2.2.2.1,0,0,[],[],d.1,())).bind fun d=>some (d.1,d.2.1,())) ((aE (S.tab n) (G.tS,((a+1:Nat):Int),nd,()) (13,(tkA G.out a).2.1,0,(tkA G.out a).2.2.2.1,0,0,[],[],[],())).bind fun d=>some (d.1,d.2.1,())):=fun n B=>by
   simp only[bF,B.kS _ _ ha,an7,kne k27 (show(27:Int)≠42 by decide),kne k27 (show(27:Int)≠1 by decide),kne k27 (show(27:Int)≠40 by decide),cd,B.tS _ _ hl,G.kdA hl,an6 k22,an6 k13,an6 k18,an6 k20,an6 k31,an6 k19,an6 k11,an6 k23,an8 k27,cc,B.nS,B.kS (a+1) _ hl,B.bS]
  cases hu:je (KA G.out (a+1))with
  |true=>
   rw[hu]at ht;obtain⟨a2,xs,ir,p1,p2,p3,p4,p5,fI,fS⟩:=xa G (fun a' h=>hX a' (by omega)) nd (1001::r) (show a+1≤_ by omega) (by omega) (Ea ht hA (by omega));refine pb G hl ir (by omega) p2 (by omega) hn p5 13 0 0 [] xs ⟨(fun _ h=>nomatch h),by simp⟩ (by omega) ((G.base.and fI).mono fun n ⟨B,h⟩=> ?_) ((G.base.and fS).mono fun n ⟨B,h⟩=> ?_)
   ·exact(hI n B).trans (by rw[hu,cc,h];rfl)
   ·exact(hS n B).trans (by rw[hu,cc,h];rfl)
  |false=>
   rw[hu]at ht;refine pb G hl nd (Nat.lt_succ_self a) hl (by omega) hn (eY ht rfl hA (by omega)) 13 0 0 [] [] ⟨(fun _ h=>nomatch h),by simp⟩ (by simp) (G.base.mono fun n B=> ?_) (G.base.mono fun n B=> ?_)
   ·exact(hI n B).trans (by rw[hu,cd])
   ·exact(hS n B).trans (by rw[hu,cd])
 by_cases k30:KA G.out a=30
 ·obtain⟨hl,hA⟩:=bZ ah0 k30 hA ha;obtain⟨a1,m1,dF,⟨n1,n2,n3,n4,n5⟩,eI,eS⟩:=hB (a+1) (by omega) nd _ (by omega) (by omega) hA;obtain⟨oD,_,hA⟩:=iM n5 n2 (by decide)
  have hQ:I3 G (fun st=>st=1008::1027::1001::r∨st=1027::1001::r):=fun st a' e M5 Jv hk=>by
   rcases e with rfl|rfl
   ·have ht:=(G.wF a').2.2.1;rw[an8 hk]at ht;obtain⟨hl,hA⟩:=bZ ht rfl Jv M5;exact⟨hl,_, .inr rfl,hA⟩
   ·have ht:=of_decide_eq_true (G.tab GI a');rw[kne hk (show(46:Int)≠42 by decide)]at ht;exact(qk ht rfl Jv M5).elim
  obtain⟨a2,Qm,ns,p1,p2,mZ,p4,p5,p6,fI,fS⟩:=AN G hQ dF (show a1+1≤_ by omega) (.inl rfl) hA
  have hA:Ac G.out (1027::1001::r) a2:=by
   rcases mZ with rfl|rfl
   ·have ht:=(G.wF a2).2.2.1;rw[an6 p5]at ht;exact eY ht rfl p4 p2
   ·exact p4
  obtain⟨a3,m,nL,⟨q1,q2,q3,q4,q5⟩,gI,gS⟩:=hB a2 (by omega) dF (1001::r) p2 (by omega) hA;refine pb G hl nL (by omega) q2 (by omega) hn q5 14 0 0 ns [(m1:Int),(m:Int)] (p6.up (by omega)) (by simp) ((((G.base.and eI).and fI).and gI).mono fun n ⟨⟨⟨B,h1⟩,h2⟩,h3⟩=> ?_) ((((G.base.and eS).and fS).and gS).mono fun n ⟨⟨⟨B,h1⟩,h2⟩,h3⟩=> ?_)
  ·show aY (S.step (S.tab n)) _=_;simp only[bc,B.kI _ _ ha,an7,an6 k22,an6 k13,an6 k18,an6 k20,an6 k31,an6 k19,an6 k11,an6 k23,an6 k27,cd,an8 k30,cc,B.tI _ _ hl,h1,B.tI _ _ oD,h2,h3]
  ·show bB (S.step (S.tab n)) _=_;simp only[bF,B.kS _ _ ha,an7,kne k30 (show(30:Int)≠42 by decide),kne k30 (show(30:Int)≠1 by decide),kne k30 (show(30:Int)≠40 by decide),cd,B.tS _ _ hl,G.kdA hl,an6 k22,an6 k13,an6 k18,an6 k20,an6 k31,an6 k19,an6 k11,an6 k23,an6 k27,an8 k30,cc,h1,B.tS _ _ oD,B.nS,h2,h3]
 by_cases k28:KA G.out a=28
 ·obtain⟨hl,hA⟩:=bZ al0 k28 hA ha;obtain⟨a1,m1,dF,⟨n1,n2,n3,n4,n5⟩,eI,eS⟩:=hX (a+1) (by omega) nd _ (by omega) (by omega) hA;obtain⟨c,rfl⟩:∃c,a1=c+1:=⟨a1 - 1,by omega⟩;have hc:c<G.out.length:=(by omega);have CF:=iL (nd:=dF) (x:=(15,(tkA G.out a).2.1,(tkA G.out c).2.2.1,(tkA G.out a).2.2.2.1,0,0,[],[],[(m1:Int)],())) (vh (by simp));refine⟨c+1,dF.length,dF++[(15,(tkA G.out a).2.1,(tkA G.out c).2.2.1,(tkA G.out a).2.2.2.1,0,0,[],[],[(m1:Int)],())],⟨by omega,n2,by simp,by omega,n5⟩, ?_, ?_⟩
  ·refine(G.base.and eI).up fun n ⟨B,h1⟩=> ?_
   show aY (S.step (S.tab n)) _=_;simp only[bc,B.kI _ _ ha,an7,an6 k22,an6 k13,an6 k18,an6 k20,an6 k31,an6 k19,an6 k11,an6 k23,an6 k27,an6 k30,cd,an8 k28,cc,B.tI _ _ hl,h1,B.cI _ _ _ _ hc hl (show dF.length≤300000 by have:=hJ dF;omega)];rfl
  ·have hj:Evt fun n=>gk (S.tab n) (G.tS,((a+1:Nat):Int),nd,()) (tkA G.out a) 15=some (Sum.inl ((G.tS,((c+1:Nat):Int),dF++[(15,(tkA G.out a).2.1,(tkA G.out c).2.2.1,(tkA G.out a).2.2.2.1,0,0,[],[],[(m1:Int)],())],()),(dF.length:Int),())):=(G.base.and eS).up fun n ⟨B,h1⟩=>by
    show gk (S.step (S.tab n)) _ _ _=_;simp only[pe,B.nS,an7,G.kdA hl,kne k28 (show(28:Int)≠14 by decide),cd,h1,B.aS _ _ _ hc (show dF.length≤300000 by have:=hJ dF;omega)]
   refine(G.base.and hj).up fun n ⟨B,h1⟩=> ?_
   show bB (S.step (S.tab n)) _=_;simp only[bF,B.kS _ _ ha,an7,kne k28 (show(28:Int)≠42 by decide),kne k28 (show(28:Int)≠1 by decide),kne k28 (show(28:Int)≠40 by decide),kne k28 (show(28:Int)≠14 by decide),cd,B.tS _ _ hl,G.kdA hl,an6 k22,an6 k13,an6 k18,an6 k20,an6 k31,an6 k19,an6 k11,an6 k23,an6 k27,an6 k30,h1,aN,aq0]
 by_cases k14:KA G.out a=14
 ·obtain⟨hl,hA⟩:=bZ aj9 k14 hA ha;have ht:=(G.wF (a+1)).2.2.2.1
  have ZN:a+1<G.out.length∧((KA G.out (a+1)=1∧Ac G.out (1016::1001::r) (a+1+1))∨(KA G.out (a+1)=40∧Ac G.out (1018::41::1016::1001::r) (a+1+1))):=by
   by_cases q1:KA G.out (a+1)=1
   ·rw[an8 q1]at ht;obtain⟨hl,hA⟩:=bZ ht rfl hA (by omega);exact⟨hl, .inl ⟨q1,hA⟩⟩
   rw[an6 q1]at ht
   by_cases q2:KA G.out (a+1)=40
   ·rw[an8 q2]at ht;obtain⟨hl,hA⟩:=bZ ht rfl hA (by omega);exact⟨hl, .inr ⟨q2,hA⟩⟩
   rw[an6 q2]at ht;exact(qk ht rfl hA (by omega)).elim
  obtain⟨a1,m1,dF,s1,Nu,⟨n1,n2,n3,n4,n5⟩,RO,eI,eS⟩:=Cj G Yc (fun a' h=>hX a' (by omega)) nd (1001::r) 1016 (by simp) ZN.1 (by omega) ZN.2
  have hA:Ac G.out (1001::r) a1:=by
   have ht:=G.tab O9 a1;rw[G.TH RO]at ht;simp only[ap0,ao3,ao1]at ht;simp only[ar5,List.not_mem_nil,or_false]at Nu
   rcases Nu with rfl|rfl
   ·exact(qk ht.2.2.1 rfl n5 n2).elim
   ·exact eY ht.2.2.2 rfl n5 n2
  obtain⟨c,rfl⟩:∃c,a1=c+1:=⟨a1 - 1,by omega⟩;have hc:c<G.out.length:=(by omega);have CF:=iL (nd:=dF) (x:=(16,(tkA G.out a).2.1,(tkA G.out c).2.2.1,(tkA G.out a).2.2.2.1,0,0,[],[],[(m1:Int)],())) (vh (by simp));refine⟨c+1,dF.length,dF++[(16,(tkA G.out a).2.1,(tkA G.out c).2.2.1,(tkA G.out a).2.2.2.1,0,0,[],[],[(m1:Int)],())],⟨by omega,n2,by simp,by omega,hA⟩, ?_, ?_⟩
  ·refine(G.base.and eI).up fun n ⟨B,h1⟩=> ?_
   show aY (S.step (S.tab n)) _=_;simp only[bc,B.kI _ _ ha,an7,an6 k22,an6 k13,an6 k18,an6 k20,an6 k31,an6 k19,an6 k11,an6 k23,an6 k27,an6 k30,an6 k28,cd,an8 k14,cc,B.tI _ _ hl,h1,B.cI _ _ _ _ hc hl (show dF.length≤300000 by have:=hJ dF;omega)];rfl
  ·have hj:Evt fun n=>gk (S.tab n) (G.tS,((a+1:Nat):Int),nd,()) (tkA G.out a) 16=some (Sum.inl ((G.tS,((c+1:Nat):Int),dF++[(16,(tkA G.out a).2.1,(tkA G.out c).2.2.1,(tkA G.out a).2.2.2.1,0,0,[],[],[(m1:Int)],())],()),(dF.length:Int),())):=(G.base.and eS).up fun n ⟨B,h1⟩=>by
    show gk (S.step (S.tab n)) _ _ _=_;simp only[pe,B.nS,an7,G.kdA hl,an8 k14,cc,h1,B.aS _ _ _ hc (show dF.length≤300000 by have:=hJ dF;omega)]
   refine(G.base.and hj).up fun n ⟨B,h1⟩=> ?_
   show bB (S.step (S.tab n)) _=_;simp only[bF,B.kS _ _ ha,an7,kne k14 (show(14:Int)≠42 by decide),kne k14 (show(14:Int)≠1 by decide),kne k14 (show(14:Int)≠40 by decide),cd,B.tS _ _ hl,G.kdA hl,an6 k22,an6 k13,an6 k18,an6 k20,an6 k31,an6 k19,an6 k11,an6 k23,an6 k27,an6 k30,an8 k14,cc,h1,aN,aq0]
 by_cases k42:KA G.out a=42
 ·have hA:Ac G.out (1027::([1001]++r)) a:=by rw[←k42]at Z8;exact Ea Z8 hA ha
  obtain⟨a2,m,ir,⟨p1,p2,p3,p4,p5⟩,fI,fS⟩:=ah8 nd (1001::r) ha hn hA;refine⟨a2,m,ir,⟨p1,p2,p3,by omega,p5⟩,(G.base.and fI).up fun n ⟨B,h⟩=> ?_,(G.base.and fS).up fun n ⟨B,h⟩=> ?_⟩
  ·show aY (S.step (S.tab n)) _=_;simp only[bc,B.kI _ _ ha,an7,an6 k22,an6 k13,an6 k18,an6 k20,an6 k31,an6 k19,an6 k11,an6 k23,an6 k27,an6 k30,an6 k28,an6 k14,cd,an8 k42,cc,h]
  ·show bB (S.step (S.tab n)) _=_;simp only[bF,B.kS _ _ ha,an7,an8 k42,cc,h]
 by_cases k1:KA G.out a=1
 ·obtain⟨hl,hA⟩:=bZ s1 k1 hA ha;exact xe G hX hr hl hn (by simp) (.inl ⟨k1,hA⟩)
 by_cases EL:KA G.out a=40
 ·obtain⟨hl,hA⟩:=bZ ae4 EL hA ha;exact xe G hX hr hl hn (s0:=1011) (by simp) (.inr ⟨EL,hA⟩)
 exfalso
 have ht:=G.tab QC a;rw[an6 k22,an6 k13,an6 k18,an6 k20,an6 k31,an6 k19,an6 k11,an6 k23,an6 k27,an6 k30,an6 k28,an6 k14,an6 k42,an6 k1,an6 EL,an6 h5]at ht
 rcases LS G hr ha (eY (of_decide_eq_true ht) rfl hA ha)with h|h
 ·exact RB h
 ·exact h6 h
end Go.Abs.D
end

section
namespace Go.Abs.D
variable(G:Toks)
theorem G5:stI 1000 43= .gone∧stI 1000 6= .gone:=⟨by kernel_rfl,by kernel_rfl⟩
theorem X9 (nd:List Node)(u:Int)(hu:u≠5)(r:LI):∀(d a:Nat)(q:Int)(xs:LI),G.out.length<a+d→a≤G.out.length→(q=1000∨q=1001)→Ac G.out (q::r) a→
  ∃(a1:Nat) (q1:Int),a≤a1∧a1≤G.out.length∧(q1=1000∨q1=1001)∧Ac G.out (q1::r) a1∧KA G.out a1≠5∧
   (Evt fun n=>fV (S.tab n) (G.tI,(a:Int),nd,()) xs=some (Sum.inl ((G.tI,(a1:Int),nd,()),xs,())))∧
   ∀X,(Evt fun n=>cS (S.tab n) (G.tS,(a1:Int),nd,()) u xs=some X)→Evt fun n=>cS (S.tab n) (G.tS,(a:Int),nd,()) u xs=some X:=by
 intro d
 induction d with
 |zero=>intro a q xs h h2;omega
 |succ d ih=>
  intro a q xs hd ha hq hA
  by_cases hk:KA G.out a=5
  ·have hA:a<G.out.length∧Ac G.out (1000::r) (a+1):=by
    rcases hq with rfl|rfl
    ·exact bZ OF.2.2.2.2.2.2.2.2.2.2.2.2.2.2.2 hk hA ha
    ·have ht:=(G.wF a).1;rw[an8 hk]at ht;exact bZ ht rfl hA ha
   obtain⟨a1,q1,p1,p2,p3,p4,p5,pI,pS⟩:=ih (a+1) 1000 xs (by omega) (by omega) (.inl rfl) hA.2;refine⟨a1,q1,by omega,p2,p3,p4,p5,(G.base.and pI).up fun n ⟨B,h⟩=> ?_,fun X hX=>(G.base.and (pS X hX)).up fun n ⟨B,h⟩=> ?_⟩
   ·show fV (S.step (S.tab n)) _ _=_;simp only[nA,B.eI _ _ _ ha,an8 hk,an7,cc,ap3,h]
   ·show cS (S.step (S.tab n)) _ _ _=_;simp only[lN,B.kS _ _ ha,an7,kne hk (show(5:Int)≠u from fun e=>hu e.symm),aq5,cc,B.eS _ _ _ ha,an8 hk,ap3,h]
  ·refine⟨a,q,aq2 _,ha,hq,hA,hk,G.base.up fun n B=> ?_,fun X hX=>hX⟩;show fV (S.step (S.tab n)) _ _=_;simp only[nA,B.eI _ _ _ ha,an6 hk,an7,cd,ao8]
theorem DJ (u:Int)(r:LI)(Xp:(u=43∧∃r',r=43::r')∨(u=6∧r=[]))(a0:Nat)(hS:∀a,a0≤a→JS G a):∀(d a:Nat)(q:Int)(xs:LI)(nd:List Node),G.out.length<a+d→a0≤a→a≤G.out.length→xs.length≤a→W nd≤4*a→(q=1000∨q=1001)→Ac G.out (q::r) a→
  ∃(a':Nat) (Qp:LI) (iq:List Node),a≤a'∧a'≤G.out.length∧Ac G.out r a'∧(Qp.length≤a'∧W iq+4*a≤W nd+4*a')∧
   (Evt fun n=>dm (S.tab n) (G.tI,(a:Int),nd,()) xs=some (Sum.inl ((G.tI,(a':Int),iq,()),Qp,())))∧
   Evt fun n=>cS (S.tab n) (G.tS,(a:Int),nd,()) u xs=some (Sum.inl ((G.tS,(a':Int),iq,()),Qp,())):=by
 have hr:rOk r:=Xp.elim (fun h=> .inr h.2) fun h=> .inl h.2
 have af0:u≠5:=by rcases Xp with⟨h,_⟩|⟨h,_⟩<;>omega
 have U2:∀a,a≤G.out.length→Ac G.out r a→KA G.out a=u:=fun a ha hA=>by
  rcases Xp with⟨rfl,r',rfl⟩|⟨rfl,rfl⟩
  ·exact(iM hA ha (by decide)).2.1
  ·exact(Kx ha hA).2
 intro d
 induction d with
 |zero=>intro a q xs nd h _ h2;omega
 |succ d ih=>
  intro a q xs nd hd h0 ha hx hn hq hA;have hL:=G.len;obtain⟨a1,q1,p1,p2,p3,p4,p5,pI,pS⟩:=X9 G nd u af0 r (G.out.length+1) a q xs (by omega) ha hq hA
  by_cases hk:KA G.out a1=u
  ·have hA:Ac G.out r a1:=by
    rcases p3 with rfl|rfl
    ·rcases Xp with⟨rfl,_⟩|⟨rfl,_⟩
     ·exact eY G5.1 hk p4 p2
     ·exact eY G5.2 hk p4 p2
    ·have ht:=(G.wF a1).1;rw[an6 p5]at ht;exact eY ht rfl p4 p2
   refine⟨a1,xs,nd,p1,p2,hA,⟨by omega,by omega⟩,(G.base.and pI).up fun n ⟨B,h⟩=> ?_,pS _ (G.base.up fun n B=> ?_)⟩
   ·show dm (S.step (S.tab n)) _ _=_;simp only[lL,h,an7,aN,aq0,B.kI _ _ p2]
    rcases Xp with⟨rfl,_⟩|⟨rfl,_⟩
    ·simp only[an8 hk,cc]
    ·simp only[kne hk (show(6:Int)≠43 by decide),an8 hk,cd,cc]
   ·show cS (S.step (S.tab n)) _ _ _=_;simp only[lN,B.kS _ _ p2,an7,an8 hk,aq3,cd]
  ·have Zd:q1=1000:=by
    rcases p3 with h|rfl
    ·exact h
    ·have ht:=(G.wF a1).1;rw[an6 p5]at ht;exact absurd (U2 _ p2 (eY ht rfl p4 p2)) hk
   subst Zd
   have ZL:KA G.out a1≠43:=fun e=>hk (U2 _ p2 (eY G5.1 e p4 p2))
   have k6:KA G.out a1≠6:=fun e=>hk (U2 _ p2 (eY G5.2 e p4 p2))
   obtain⟨a2,m,ir,⟨n1,n2,n3,n4,n5⟩,eI,eS⟩:=hS a1 (by omega) nd r hr p2 (by omega) p4 p5 ZL k6;obtain⟨a3,af7,nL,q1,q2,q3,q4,qI,qS⟩:=ih a2 1001 (xs++[(m:Int)]) ir (by omega) (by omega) n2 (by simp;omega) (by omega) (.inr rfl) n5;refine⟨a3,af7,nL,by omega,q2,q3,⟨q4.1,by omega⟩,(((G.base.and pI).and eI).and qI).up fun n ⟨⟨⟨B,h1⟩,h2⟩,h3⟩=> ?_,pS _ (((G.base.and eS).and qS).up fun n ⟨⟨B,h2⟩,h3⟩=> ?_)⟩
   ·show dm (S.step (S.tab n)) _ _=_;simp only[lL,h1,an7,aN,aq0,B.kI _ _ p2,an6 ZL,an6 k6,cd,h2];rw[ad (A7 (by omega))];exact h3
   ·show cS (S.step (S.tab n)) _ _ _=_;simp only[lN,B.kS _ _ p2,an7,an6 hk,aq5,cc,B.eS _ _ _ p2,an6 p5,ao8,cd,h2];rw[ad (A7 (by omega))];exact h3
theorem NY {a:Nat}(hS:∀a',a≤a'→JS G a'):JT G a:=by
 intro nd r ha hn hA;obtain⟨a',xs,iq,p1,p2,p3,p4,pI,pS⟩:=DJ G 43 (43::r) (.inl ⟨rfl,r,rfl⟩) a hS (G.out.length+1) a 1000 [] nd (by omega) (aq2 _) ha (by simp) hn (.inl rfl) hA;obtain⟨hl,_,hA⟩:=iM p3 p2 (by decide);refine⟨a',xs,iq,p1,hl,hA,p4,pI.up fun n h=> ?_,pS.up fun n h=> ?_⟩
 ·show fk (S.step (S.tab n)) _=_;simp only[ph,h,an7,aN,aq0]
 ·show ie (S.step (S.tab n)) _ _=_;simp only[rX,h,an7,aN,aq0]
structure All (a:Nat):Prop where
 x:JX G a
 e:JE G a
 u:JN G bV c8 [1020] a
 b:JB G a
 c:JC G a
 f:∀b,JF G b a
 s:JS G a
theorem SU:∀(d a:Nat),G.out.length<a+d→All G a:=by
 intro d
 induction d with
 |zero=>
  intro a h;exact⟨fun nd r h2=>by omega,fun l l' nd r _ h2=>by omega,fun nd r h2=>by omega,fun nd r h2=>by omega,fun nd r h2=>by omega,fun b nd r _ h2=>by omega,fun nd r _ h2=>by omega⟩
 |succ d ih=>
  intro a h
  have IH:∀a',a<a'→All G a':=fun a' h'=>ih a' (by omega)
  have hX:∀a',a<a'→JX G a':=fun a' h=>(IH a' h).x
  have hB:∀a',a<a'→JB G a':=fun a' h=>(IH a' h).b
  have u:=QM G hX (IH (a+1) (by omega)).u (fun a' h=>(IH a' h).f a);have e:=NT G u (fun a' h=>(IH a' h).e);have b:JB G a:=Mq G (NY G fun a' h=>(IH a' (by omega)).s);have c:=MS G hX hB (fun a' h=>(IH a' h).c);exact⟨QG G e,e,u,b,c,fun b=>NZ G hB,Ol G hX hB b c (fun b a' h=>(IH a' h).f b)⟩
theorem w0:W []=0:=by unfold W;rw[as0 fun _ h=>nomatch h];rfl
theorem Ka (hA:Ac G.out [1000] 0):∃(xs:LI)(nd:List Node),xs.length≤65536∧nd.length≤4*G.out.length∧(∀x∈nd,NodeOk x)∧
  (Evt fun n=>fk (S.tab n) (G.tI,0,[],())=some (xs,(G.tI,(G.out.length:Int),nd,()),()))∧
  Evt fun n=>ie (S.tab n) (G.tS,0,[],()) 6=some (xs,(G.tS,(G.out.length:Int),nd,()),(),()):=by
 obtain⟨a',xs,iq,p1,p2,p3,p4,pI,pS⟩:=DJ G 6 [] (.inr ⟨rfl,rfl⟩) 0 (fun a _=>(SU G (G.out.length+1) a (by omega)).s) (G.out.length+1) 0 1000 [] [] (by omega) (aq2 _) (as5 _) (by simp) (by rw[w0];omega) (.inl rfl) hA;obtain rfl:=(Kx p2 p3).1;have hL:=G.len;rw[w0]at p4;refine⟨xs,iq,by omega,by have:=hJ iq;omega,XZ (by omega),pI.up fun n h=> ?_,pS.up fun n h=> ?_⟩
 ·show fk (S.step (S.tab n)) _=_;have h:dm (S.tab n) (G.tI,0,[],()) []=_:=h;simp only[ph,h,an7,aN,aq0]
 ·show ie (S.step (S.tab n)) _ _=_;have h:cS (S.tab n) (G.tS,0,[],()) 6 []=_:=h;simp only[rX,h,an7,aN,aq0]
end Go.Abs.D
end

section
namespace Go.Abs.D
variable{ns:List ae.den}{i:Nat}{x:ae.den}(hx:NodeOk x)(hi:i<ns.length)(hn:ns.length≤3000)
theorem S7 {T:S.Tab}(t:Tr)(x:ae.den)(ks:LI)(z:Int)(hz:x.2.2.2.2.2.1=z)(hl:ks.length≤200)(U0:1≤z→z≤ks.length→aV T t x z (ks.length:Int)=some (EX ks z.toNat ks.length,cG))
  (Zi:1≤z→z≤ks.length→cQ T t x (ks.length:Int) 0=some (bif(bK ks 0 z.toNat).all gC then Sum.inr (Sum.inl (t,x,(ks.length:Int),()))else Sum.inl (false,()))):
  brk (decide (z<1)) (some (false,au)) (brk (decide ((ks.length:Int)≤z)) (some (false,au)) ((cQ T t x (ks.length:Int) 0).bind (bw (fun wT=>some (wT.1,au)) (fun wT=>(aV T wT.1 wT.2.1 wT.2.1.2.2.2.2.2.1 wT.2.2.1).bind fun d112=>some (d112.1,au)))))=
   some (true&&(decide (1≤z)&&(decide (z<(ks.length:Int))&&((bK ks 0 z.toNat).all gC&&EX ks z.toNat ks.length))),au):=by
 rw[ao6]
 by_cases h1:1≤z
 ·rw[aH (by omega),an8 h1]
  by_cases h2:z<(ks.length:Int)
  ·rw[aH (by omega),an8 h2,Zi h1 (by omega)]
   cases(bK ks 0 z.toNat).all gC with
   |true=>
    simp only[ap3,an7,bw,aq9,aq0];rw[hz,U0 h1 (by omega)];rfl
   |false=>rfl
  ·rw[aL (by omega),an6 h2];rfl
 ·rw[aL (by omega),an6 h1];rfl
theorem Yb {T:S.Tab}{t:Tr}{x:ae.den}{ks:LI}{names:List LI}{op num:Int}{text:LI}(h:SF T t x ks names op num text):dZ (S.step T) t x (ks.length:Int)=some (Sum.inl (bif decide (x.1=15)then PL false false false false (names.length:Int) op num text&&(decide ((ks.length:Int)=1)&&EX ks 0 1)else false,())):=by
 rw[tg]
 by_cases k:x.1=15
 ·rw[aL k,an8 k,ap3,h.pl];simp only[an7]
  cases PL false false false false (names.length:Int) op num text with
  |false=>rw[af];rfl
  |true=>
   rw[aj]
   by_cases h1:ks.length=1
   ·rw[aL (by omega),h.ex01 (by omega),an8 (show(ks.length:Int)=1 by omega)];rfl
   ·rw[aH (by omega),an6 (show¬ (ks.length:Int)=1 by omega)];rfl
 ·rw[aH k,an6 k];rfl
theorem X7 {T:S.Tab}{t:Tr}{x:ae.den}{ks:LI}{names:List LI}{op num:Int}{text:LI}(h:SF T t x ks names op num text):cJ (S.step T) t x (ks.length:Int)=some (Sum.inl (bif decide (x.1=42)then decide ((ks.length:Int)=1)&&(EX ks 0 1&&(PL false false false true (names.length:Int) op num text&&gi 1 text))else false,())):=by
 rw[sI]
 by_cases k:x.1=42
 ·rw[aL k,an8 k,ap3]
  by_cases h1:ks.length=1
  ·rw[aL (by omega),h.ex01 (by omega),an8 (show(ks.length:Int)=1 by omega)];simp only[an7,h.pl]
   cases EX ks 0 1 with
   |false=>rw[af];rfl
   |true=>
    rw[aj]
    cases PL false false false true (names.length:Int) op num text with
    |false=>rw[af];rfl
    |true=>
     rw[aj,h.xtext,h.gn];rfl
  ·rw[aH (by omega),an6 (show¬ (ks.length:Int)=1 by omega)];rfl
 ·rw[aH k,an6 k];rfl
def Eo (t:Tr)(x:ae.den)(ks:LI)(y:AnS):Prop:=(∃b,y=Sum.inl (b,()))∨y=Sum.inr (Sum.inl (t,x,(ks.length:Int),()))
theorem lF {t:Tr}{x:ae.den}{ks:LI}{c:Bool}{a b:AnS}(ha:Eo t x ks a)(hb:Eo t x ks b):Eo t x ks (bif c then a else b):=by cases c<;>assumption
theorem pV {t:Tr}{x:ae.den}{ks:LI}(b:Bool):Eo t x ks (Sum.inl (b,())):= .inl ⟨b,rfl⟩
theorem O0 {t:Tr}{x:ae.den}{ks:LI}:Eo t x ks (Sum.inr (Sum.inl (t,x,(ks.length:Int),()))):= .inr rfl
section
variable{t:Tr}{ks:LI}{names:List LI}{op num:Int}{text:LI}{kind:Int}
theorem OH (fl:Bool):Eo t x ks (Q18 t x ks names op num text kind fl):=by
 unfold Q18
 repeat refine lF (pV _) ?_
 exact O0
theorem LY (fl:Bool):Eo t x ks (Q7 t x ks names op num text kind fl):=by
 unfold Q7;exact lF (pV _) (lF (pV _) (lF (pV _) (lF (pV _) (lF (pV _) (lF (OH _) (OH _))))))
theorem OC (fl:Bool):Eo t x ks (Q41 t x ks names op num text kind fl):=by
 unfold Q41
 repeat refine lF (pV _) ?_
 exact O0
theorem OS (fl:Bool):Eo t x ks (Q28 t x ks names op num text kind fl):=by
 unfold Q28;exact lF (pV _) (lF (pV _) (lF (pV _) (lF (pV _) (lF (pV _) (lF (OC _) (OC _))))))
end
section
variable(hk:∀k∈ao x,0≤k∧k<(ns.length:Int))(hl:(ao x).length≤200)
include hx hk hl
theorem EP:Evt fun n=>lz (S.tab n) (ns,()) x=some (KE (ns,()) x (aw ns x) (aM x) x.2.2.2.2.1 x.2.2.2.2.2.1 x.2.2.2.2.2.2.1 x.1,au):=by
 have Fs:(aw ns x).length≤200:=by unfold aw;rw[List.length_map];exact hl
 have RT:=R6 hk hl hx.nn
 have U5:Evt fun n=>∀fl,fm (S.tab n) (ns,()) x ((aw ns x).length:Int) x.1 fl=some (Q18 (ns,()) x (aw ns x) (aM x) x.2.2.2.2.1 x.2.2.2.2.2.1 x.2.2.2.2.2.2.1 x.1 fl):=RT.up fun n h fl=>q18 h Fs x.1 fl
 have h7:Evt fun n=>∀fl,ew (S.tab n) (ns,()) x ((aw ns x).length:Int) x.1 fl=some (Q7 (ns,()) x (aw ns x) (aM x) x.2.2.2.2.1 x.2.2.2.2.2.1 x.2.2.2.2.2.2.1 x.1 fl):=(RT.and U5).up fun n ⟨h,h'⟩ fl=>q7 h Fs x.1 h' fl
 have Et:Evt fun n=>cJ (S.tab n) (ns,()) x ((aw ns x).length:Int)=_:=RT.up fun n h=>X7 h
 refine((h7.and Et).and RT).up fun n ⟨⟨h7,Et⟩,hF⟩=> ?_
 have hlen:(x.2.2.2.2.2.2.2.2.1.length:Int)=((aw ns x).length:Int):=(by rw[hF.xlen])
 have fin:∀y:AnS,Eo (ns,()) x (aw ns x) y→((some y:Option AnS).bind (bw (fun y7=>some (y7.1,au)) (fun y7=>(cJ (S.tab n) y7.1 y7.2.1 y7.2.2.1).bind (aN (fun jn=>some (jn.1,au))))))=some (An2 y (bif decide (x.1=42)then decide (((aw ns x).length:Int)=1)&&(EX (aw ns x) 0 1&&(PL false false false true ((aM x).length:Int) x.2.2.2.2.1 x.2.2.2.2.2.1 x.2.2.2.2.2.2.1&&gi 1 x.2.2.2.2.2.2.1))else false),au):=fun y hy=>by
  rcases hy with⟨b,rfl⟩|rfl
  ·rfl
  ·show(cJ (S.tab n) (ns,()) x ((aw ns x).length:Int)).bind _=_;rw[Et];rfl
 rw[vz];rw[hlen];unfold KE
 by_cases k20:x.1=20
 ·rw[aL k20,an8 k20,h7];exact fin _ (LY _)
 rw[aH k20,an6 k20]
 by_cases SB:x.1=21
 ·rw[aL SB,an8 SB,h7];exact fin _ (LY _)
 rw[aH SB,an6 SB]
 by_cases k22:x.1=22
 ·rw[aL k22,an8 k22,h7];exact fin _ (LY _)
 rw[aH k22,an6 k22,h7];exact fin _ (LY _)
theorem Gn:Evt fun n=>me (S.tab n) (ns,()) x=some (KS (ns,()) x (aw ns x) (aM x) x.2.2.2.2.1 x.2.2.2.2.2.1 x.2.2.2.2.2.2.1 x.1,au):=by
 have Fs:(aw ns x).length≤200:=by unfold aw;rw[List.length_map];exact hl
 have RT:=R6 hk hl hx.nn
 have XJ:Evt fun n=>∀fl,fR (S.tab n) (ns,()) x ((aw ns x).length:Int) x.1 fl=some (Q41 (ns,()) x (aw ns x) (aM x) x.2.2.2.2.1 x.2.2.2.2.2.1 x.2.2.2.2.2.2.1 x.1 fl):=RT.up fun n h fl=>q41 h Fs x.1 fl
 have RL:Evt fun n=>∀fl,hY (S.tab n) (ns,()) x ((aw ns x).length:Int) x.1 fl=some (Q28 (ns,()) x (aw ns x) (aM x) x.2.2.2.2.1 x.2.2.2.2.2.1 x.2.2.2.2.2.2.1 x.1 fl):=(RT.and XJ).up fun n ⟨h,h'⟩ fl=>q28 h Fs x.1 h' fl
 have Et:Evt fun n=>dZ (S.tab n) (ns,()) x ((aw ns x).length:Int)=_:=RT.up fun n h=>Yb h
 refine((RL.and Et).and RT).up fun n ⟨⟨RL,Et⟩,hF⟩=> ?_
 have hlen:(x.2.2.2.2.2.2.2.2.1.length:Int)=((aw ns x).length:Int):=(by rw[hF.xlen])
 have fin:∀y:AnS,Eo (ns,()) x (aw ns x) y→((some y:Option AnS).bind (bw (fun FY=>some (FY.1,au)) (fun FY=>(dZ (S.tab n) FY.1 FY.2.1 FY.2.2.1).bind (aN (fun jn=>some (jn.1,au))))))=some (An2 y (bif decide (x.1=15)then PL false false false false ((aM x).length:Int) x.2.2.2.2.1 x.2.2.2.2.2.1 x.2.2.2.2.2.2.1&&(decide (((aw ns x).length:Int)=1)&&EX (aw ns x) 0 1)else false),au):=fun y hy=>by
  rcases hy with⟨b,rfl⟩|rfl
  ·rfl
  ·show(dZ (S.tab n) (ns,()) x ((aw ns x).length:Int)).bind _=_;rw[Et];rfl
 rw[xl];rw[hlen];unfold KS
 by_cases k1:x.1=1
 ·rw[aL k1,an8 k1,hF.l5]
  cases(aw ns x).all cX with
  |true=>simp only[ap3,an7,bw,aq9,aq0,hF.pl,ao6]
  |false=>rfl
 rw[aH k1,an6 k1,ao8]
 by_cases k2:x.1=2
 ·rw[aL k2,an8 k2,ap3,hF.pl,hF.nm,hF.ex0n];simp only[an7]
  cases PL true false false false ((aM x).length:Int) x.2.2.2.2.1 x.2.2.2.2.2.1 x.2.2.2.2.2.2.1 with
  |false=>rw[af];rfl
  |true=>
   rw[aj]
   cases NM (aM x) 1 200 with
   |false=>rw[af];rfl
   |true=>rw[aj];rfl
 rw[aH k2,an6 k2,ao8]
 by_cases k3:x.1=3
 ·rw[aL k3,an8 k3,ap3,hF.pl,hF.nm];simp only[an7]
  cases PL true false false false ((aM x).length:Int) x.2.2.2.2.1 x.2.2.2.2.2.1 x.2.2.2.2.2.2.1 with
  |false=>rw[af];rfl
  |true=>
   rw[aj]
   cases NM (aM x) 1 1 with
   |false=>rw[af];rfl
   |true=>
    rw[aj]
    by_cases h1:(aw ns x).length=1
    ·rw[aL (by omega),hF.ex01 (by omega),an8 (show((aw ns x).length:Int)=1 by omega)];rfl
    ·rw[aH (by omega),an6 (show¬ ((aw ns x).length:Int)=1 by omega)];rfl
 rw[aH k3,an6 k3,ao8]
 by_cases k4:x.1=4
 ·rw[aL k4,an8 k4,ap3,hF.pl,hF.nm];simp only[an7]
  cases PL true false false false ((aM x).length:Int) x.2.2.2.2.1 x.2.2.2.2.2.1 x.2.2.2.2.2.2.1 with
  |false=>rw[af];rfl
  |true=>
   rw[aj]
   cases NM (aM x) 1 1 with
   |false=>rw[af];rfl
   |true=>
    rw[aj]
    by_cases h1:(aw ns x).length=1
    ·rw[aL (by omega),hF.k0 (by omega),an8 (show((aw ns x).length:Int)=1 by omega)];rfl
    ·rw[aH (by omega),an6 (show¬ ((aw ns x).length:Int)=1 by omega)];rfl
 rw[aH k4,an6 k4,ao8]
 by_cases k5:x.1=5
 ·rw[aL k5,an8 k5,ap3,hF.pl];simp only[an7]
  cases PL false false true false ((aM x).length:Int) x.2.2.2.2.1 x.2.2.2.2.2.1 x.2.2.2.2.2.2.1 with
  |false=>rw[ad (by rfl)];rfl
  |true=>
   rw[az (by rfl)];exact S7 (ns,()) x (aw ns x) x.2.2.2.2.2.1 rfl Fs hF.U0 hF.Zi
 rw[aH k5,an6 k5,ao8]
 by_cases k6:x.1=6
 ·rw[aL k6,an8 k6,ap3,RL];exact fin _ (OS _)
 ·rw[aH k6,an6 k6,ao8,RL];exact fin _ (OS _)
end
include hx hi
theorem C5 (YL:ns[i]=x):Evt fun n=>gX (S.tab n) (ns,()) (i:Int)=some (okN ns i x,ax):=by
 have F0:at_ (τ:=ae) ((ns,()):Tr).1 (i:Int)=x:=by
  show at_ (τ:=ae) ns (i:Int)=x;rw[uF _ _ hi];exact YL
 have start:∀n,gX (S.step (S.tab n)) (ns,()) (i:Int)=_:=fun n=>by
  rw[Ab,ad (al hi),F0]
 unfold okN
 by_cases c1:x.2.1<0
 ·refine aD.up fun n _=> ?_
  rw[start,aL c1,an8 c1];rfl
 by_cases c2:x.2.2.1<x.2.1
 ·refine aD.up fun n _=> ?_
  rw[start,aH c1,aL c2,an6 c1,an8 c2];rfl
 by_cases c3:x.2.2.2.1<0
 ·refine aD.up fun n _=> ?_
  rw[start,aH c1,aH c2,aL c3,an6 c1,an6 c2,an8 c3];rfl
 rw[an6 c1,an6 c2,an6 c3]
 by_cases c4:200<(ao x).length
 ·refine aD.up fun n _=> ?_
  have d4:decide ((200:Int)<(x.2.2.2.2.2.2.2.2.1.length:Int))=true:=an8 (by unfold ao at c4;omega);rw[start,aH c1,aH c2,aH c3,ad d4,an8 c4];rfl
 have d4:decide ((200:Int)<(x.2.2.2.2.2.2.2.2.1.length:Int))=false:=an6 (by unfold ao at c4;omega);rw[an6 c4];simp only[ao8];have hl:(ao x).length≤200:=(by omega);have h5:=QT (ns:=ns) (i:=i) (x:=x) hl
 have step2:∀n,gX (S.step (S.tab n)) (ns,()) (i:Int)=_:=fun n=>by
  rw[start,aH c1,aH c2,aH c3,az d4]
 cases hr:(ao x).all (inR i)with
 |false=>
  rw[hr]at h5
  refine h5.up fun n h=> ?_
  have h:dK (S.tab n) ↑i (ns,()) x x.2.2.2.2.2.2.2.2.1 (x.2.2.2.2.2.2.2.2.1.length:Int) 0=_:=h;rw[step2,h];rfl
 |true=>
  rw[hr]at h5
  have hk:∀k∈ao x,0≤k∧k<(ns.length:Int):=fun k al9=>by
   have:=List.all_eq_true.1 hr k al9;unfold inR at this;rw[ao3,ao1,ao1]at this;omega
  have u6:∀n,dK (S.tab n) ↑i (ns,()) x x.2.2.2.2.2.2.2.2.1 (x.2.2.2.2.2.2.2.2.1.length:Int) 0=some (Sum.inr (Sum.inl ((ns,()),x,())))→gX (S.step (S.tab n)) (ns,()) (i:Int)=_:=fun n h=>by
   rw[step2,h,an7]
  cases hs:cX x.1 with
  |true=>
   refine((h5.and GH).and (Gn hx hk hl)).up fun n ⟨⟨h,mZ⟩,hS⟩=> ?_
   rw[u6 n h];show(lY (S.tab n) x.1).bind _=_;rw[mZ,an7,hs,ad (by rfl)];show(me (S.tab n) (ns,()) x).bind _=_;rw[hS];rfl
  |false=>
   refine((h5.and GH).and (EP hx hk hl)).up fun n ⟨⟨h,mZ⟩,hE⟩=> ?_
   rw[u6 n h];show(lY (S.tab n) x.1).bind _=_;rw[mZ,an7,hs,az (by rfl)];show(lz (S.tab n) (ns,()) x).bind _=_;rw[hE];rfl
end Go.Abs.D
end

section
namespace Go.Abs.D
def A3 (ns:List ae.den)(j:Nat):Bool:=match ns[j]? with|some x=>okN ns j x|none=>false
def okQ (ns:List ae.den)(j:Nat):Bool:=decide (j<ns.length)&&A3 ns j
theorem LW {ns:List ae.den}:∀j,ns.length≤j→okQ ns j=false:=fun j h=>by unfold okQ;rw[an6 (by omega)];rfl
def zM (ns:List ae.den):Nat:=stop (okQ ns) ns.length 0
abbrev Fa:Type:=Int×Int×Unit
section
variable{ns:List ae.den}(hN:∀x∈ns,NodeOk x)(hn:ns.length≤3000)
include hN hn
theorem NP:Evt fun n=>∀j∈List.range ns.length,jK (S.tab n) (ns,()) (j:Int)=some (A3 ns j,ax):=by
 have:∀(l:List Nat),(∀j∈l,j<ns.length)→Evt fun n=>∀j∈l,jK (S.tab n) (ns,()) (j:Int)=some (A3 ns j,ax):=by
  intro l
  induction l with
  |nil=>intro _;exact Evt.of fun _ j h=>by cases h
  |cons a l ih=>
   intro h;have ha:=h a (ap7 ..)
   have e:A3 ns a=okN ns a ns[a]:=by unfold A3;rw[ap8 ha]
   refine((CK (hN _ (as4 ha)) ha hn rfl).and (ih fun j hj=>h j (ap6 _ hj))).mono fun n ⟨h1,h2⟩ j hj=> ?_
   rcases ar5.1 hj with rfl|hj
   ·rw[e];exact h1
   ·exact h2 j hj
 exact this _ fun j hj=>List.mem_range.1 hj
omit hn in
theorem NG:Evt fun n=>∀j∈List.range ns.length,gX (S.tab n) (ns,()) (j:Int)=some (A3 ns j,ax):=by
 have:∀(l:List Nat),(∀j∈l,j<ns.length)→Evt fun n=>∀j∈l,gX (S.tab n) (ns,()) (j:Int)=some (A3 ns j,ax):=by
  intro l
  induction l with
  |nil=>intro _;exact Evt.of fun _ j h=>by cases h
  |cons a l ih=>
   intro h;have ha:=h a (ap7 ..)
   have e:A3 ns a=okN ns a ns[a]:=by unfold A3;rw[ap8 ha]
   refine((C5 (hN _ (as4 ha)) ha rfl).and (ih fun j hj=>h j (ap6 _ hj))).mono fun n ⟨h1,h2⟩ j hj=> ?_
   rcases ar5.1 hj with rfl|hj
   ·rw[e];exact h1
   ·exact h2 j hj
 exact this _ fun j hj=>List.mem_range.1 hj
theorem Tc (z:Int)(f:Fa):Evt fun n=>fu (S.tab n) (ns,()) f z (ns.length:Int) 0=some (bif decide (zM ns<ns.length)then Sum.inl ((2,(zM ns:Int),()),())else Sum.inr (Sum.inl ((ns,()),f,z,()))):=
 adv (F:=fun T (j:Nat)=>fu T (ns,()) f z (ns.length:Int) ↑j) (q:=okQ ns) (N:=ns.length)
  (out:=fun j=>bif decide (j<ns.length)then Sum.inl ((2,(j:Int),()),())else Sum.inr (Sum.inl ((ns,()),f,z,())))
  (p:=fun T=>∀j∈List.range ns.length,jK T (ns,()) (j:Int)=some (A3 ns j,ax)) (NP hN hn) LW
  (fun T j h hq=>by
   unfold okQ at hq;rw[ao3,ao1]at hq;show fu (S.step T) _ _ _ _ _=fu T (ns,()) f z (ns.length:Int) ((j+1:Nat):Int)
   rw[se,aL (by omega),h j (List.mem_range.2 hq.1),an7,hq.2,az (by rfl),bD (by omega)])
  (fun T j h hq=>by
   show fu (S.step T) _ _ _ _ _=_;rw[se]
   by_cases hj:j<ns.length
   ·unfold okQ at hq;rw[an8 hj,ao6]at hq;rw[aL (by omega),h j (List.mem_range.2 hj),an7,hq,ad (by rfl),an8 hj];rfl
   ·rw[aH (by omega),an6 hj];rfl) ns.length 0 (by omega)
theorem S3 (f:Fa):Evt fun n=>ft (S.tab n) (ns,()) f (ns.length:Int) 0=some (bif decide (zM ns<ns.length)then Sum.inl ((2,(zM ns:Int),()),())else Sum.inr (Sum.inl ((ns,()),f,()))):=
 adv (F:=fun T (j:Nat)=>ft T (ns,()) f (ns.length:Int) ↑j) (q:=okQ ns) (N:=ns.length)
  (out:=fun j=>bif decide (j<ns.length)then Sum.inl ((2,(j:Int),()),())else Sum.inr (Sum.inl ((ns,()),f,())))
  (p:=fun T=>∀j∈List.range ns.length,gX T (ns,()) (j:Int)=some (A3 ns j,ax)) (NG hN) LW
  (fun T j h hq=>by
   unfold okQ at hq;rw[ao3,ao1]at hq;show ft (S.step T) _ _ _ _=ft T (ns,()) f (ns.length:Int) ((j+1:Nat):Int)
   rw[r6,aL (by omega),h j (List.mem_range.2 hq.1),an7,hq.2,az (by rfl),bD (by omega)])
  (fun T j h hq=>by
   show ft (S.step T) _ _ _ _=_;rw[r6]
   by_cases hj:j<ns.length
   ·unfold okQ at hq;rw[an8 hj,ao6]at hq;rw[aL (by omega),h j (List.mem_range.2 hj),an7,hq,ad (by rfl),an8 hj];rfl
   ·rw[aH (by omega),an6 hj];rfl) ns.length 0 (by omega)
omit hN hn in
theorem xj (hb:¬ zM ns<ns.length)(j:Nat)(hj:j<ns.length):∀k∈ao ns[j],0≤k∧k<(j:Int):=by
 have hq:okQ ns j=true:=n9 ns.length 0 j (as5 _) (by unfold zM at hb;omega);unfold okQ A3 at hq;rw[an8 hj,ao6,ap8 hj]at hq;have hq:okN ns j ns[j]=true:=hq;intro k hk
 have rT:(ao ns[j]).all (inR j)=true:=by
  cases h:(ao ns[j]).all (inR j)with
  |true=>rfl
  |false=>
   unfold okN at hq;rw[h]at hq
   revert hq
   cases decide (Prod.fst ns[j].2<0)<;>cases decide (Prod.fst (Prod.snd ns[j].2)<Prod.fst ns[j].2)<;>cases decide (Prod.fst (Prod.snd (Prod.snd ns[j].2))<0)<;>cases decide (200<(ao ns[j]).length)<;>intro h<;>cases h
 have:=List.all_eq_true.1 rT k hk;unfold inR at this;rw[ao3,ao1,ao1]at this;exact this
end
def dk (i:Nat):LI→LI→LI
 |[],d=>d
 |k::r,d=>dk i r (d.set k.toNat (i64.wrap (d.getD i 0+1)))
theorem G2 (i:Nat):∀(r d:LI),(dk i r d).length=d.length
 |[],d=>rfl
 |k::r,d=>by unfold dk;rw[G2];simp
def s6 (ns:List ae.den):Nat→LI→LI
 |0,d=>d
 |i+1,d=>s6 ns i (match ns[i]? with|some x=>dk i (ao x) d|none=>d)
theorem FE {ns:List ae.den}{i:Nat}(h:i<ns.length)(d:LI):s6 ns (i+1) d=s6 ns i (dk i (ao ns[i]) d):=by
 show s6 ns i (match ns[i]? with|some x=>dk i (ao x) d|none=>d)=_;rw[ap8 h]
theorem LA (t:Tr)(f:Fa)(i:Nat):∀(r pre d:LI),i<d.length→(∀k∈r,0≤k∧k<(d.length:Int))→(pre++r).length≤2097152→
  Evt fun n=>jA (S.tab n) t f d ↑i (pre++r) ((pre++r).length:Int) (pre.length:Int)=some (Sum.inl (t,f,dk i r d,(i:Int),()))
 |[],pre,d,hi,hk,hl=>aD.up fun n _=>by
  rw[rA,az (by simp)];rfl
 |k::r,pre,d,hi,hk,hl=>by
  obtain⟨k0,k1⟩:=hk k (ap7 ..);have ih:=LA t f i r (pre++[k]) (d.set k.toNat (i64.wrap (d.getD i 0+1))) (by simpa using hi) (fun c hc=>by rw[List.length_set];exact hk c (ap6 _ hc)) (by simpa using hl)
  refine ih.up fun n h=> ?_
  have hlen:(pre++k::r).length=pre.length+(r.length+1):=(by simp);have hg:(pre++k::r).getD (pre.length:Int).toNat 0=k:=Wf pre k r;have hd:(decide ((0:Int)≤(i:Int))&&decide ((i:Int)<(d.length:Int)))=true:=al hi
  have Rw:(decide ((0:Int)≤k)&&decide (k<(d.length:Int)))=true:=by rw[an8 k0,an8 k1];rfl
  rw[rA,aL (by omega),ad (al (by omega)),ad hd,hg,ad Rw,bD (by omega)];have e1:(pre++[k])++r=pre++k::r:=(by simp);have e2:(pre++[k]).length=pre.length+1:=(by simp);rw[e1,e2]at h;exact h
theorem LB (t:Tr)(f:Fa)(i:Nat):∀(r pre d:LI),i<d.length→(∀k∈r,0≤k∧k<(d.length:Int))→(pre++r).length≤2097152→
  Evt fun n=>ju (S.tab n) t f d ↑i (pre++r) ((pre++r).length:Int) (pre.length:Int)=some (Sum.inl (t,f,dk i r d,(i:Int),()))
 |[],pre,d,hi,hk,hl=>aD.up fun n _=>by
  rw[rr,az (by simp)];rfl
 |k::r,pre,d,hi,hk,hl=>by
  obtain⟨k0,k1⟩:=hk k (ap7 ..);have ih:=LB t f i r (pre++[k]) (d.set k.toNat (i64.wrap (d.getD i 0+1))) (by simpa using hi) (fun c hc=>by rw[List.length_set];exact hk c (ap6 _ hc)) (by simpa using hl)
  refine ih.up fun n h=> ?_
  have hlen:(pre++k::r).length=pre.length+(r.length+1):=(by simp);have hg:(pre++k::r).getD (pre.length:Int).toNat 0=k:=Wf pre k r;have hd:(decide ((0:Int)≤(i:Int))&&decide ((i:Int)<(d.length:Int)))=true:=al hi
  have Rw:(decide ((0:Int)≤k)&&decide (k<(d.length:Int)))=true:=by rw[an8 k0,an8 k1];rfl
  rw[rr,aL (by omega),ad (al (by omega)),ad hd,hg,ad Rw,bD (by omega)];have e1:(pre++[k])++r=pre++k::r:=(by simp);have e2:(pre++[k]).length=pre.length+1:=(by simp);rw[e1,e2]at h;exact h
section
variable{ns:List ae.den}(hN:∀x∈ns,NodeOk x)(hn:ns.length≤3000)(hb:¬ zM ns<ns.length)
include hN hn hb
theorem Lz (f:Fa):∀(i:Nat)(d:LI),i≤ns.length→d.length=ns.length→Evt fun n=>kO (S.tab n) (ns,()) f d ((i:Int) - 1)=some (Sum.inl (f,s6 ns i d,()))
 |0,d,hi,hd=>aD.up fun n _=>by
  rw[q8,az (by decide)];rfl
 |i+1,d,hi,hd=>by
  have qE:i<ns.length:=(by omega);have hx:=hN _ (as4 qE);have hk:=xj hb i qE;have Fq:=LA (ns,()) f i (ao ns[i]) [] d (by omega) (fun k h=>by have:=hk k h;omega) (by have:=hx.nk;simpa using this);have ih:=Lz f i (dk i (ao ns[i]) d) (by omega) (by rw[G2];exact hd)
  refine(Fq.and ih).up fun n ⟨h,h2⟩=> ?_
  have e0:(((i+1:Nat):Int) - 1)=(i:Int):=(by omega);have F0:at_ (τ:=ae) ((ns,()):Tr).1 (i:Int)=ns[i]:=uF ns i qE;rw[e0,q8,aL (by omega),ad (al qE),F0];have h:jA (S.tab n) (ns,()) f d ↑i (ao ns[i]) ((ao ns[i]).length:Int) 0=_:=h;show(jA (S.tab n) (ns,()) f d ↑i (ao ns[i]) ((ao ns[i]).length:Int) 0).bind _=_;rw[h];simp only[an7,aN,aq0];rw[wrap64 _ (by omega) (by omega),h2,FE qE]
theorem Lj (f:Fa):∀(i:Nat)(d:LI),i≤ns.length→d.length=ns.length→Evt fun n=>kR (S.tab n) (ns,()) f d ((i:Int) - 1)=some (Sum.inl (f,s6 ns i d,()))
 |0,d,hi,hd=>aD.up fun n _=>by
  rw[rk,az (by decide)];rfl
 |i+1,d,hi,hd=>by
  have qE:i<ns.length:=(by omega);have hx:=hN _ (as4 qE);have hk:=xj hb i qE;have Fq:=LB (ns,()) f i (ao ns[i]) [] d (by omega) (fun k h=>by have:=hk k h;omega) (by have:=hx.nk;simpa using this);have ih:=Lj f i (dk i (ao ns[i]) d) (by omega) (by rw[G2];exact hd)
  refine(Fq.and ih).up fun n ⟨h,h2⟩=> ?_
  have e0:(((i+1:Nat):Int) - 1)=(i:Int):=(by omega);have F0:at_ (τ:=ae) ((ns,()):Tr).1 (i:Int)=ns[i]:=uF ns i qE;rw[e0,rk,aL (by omega),ad (al qE),F0];have h:ju (S.tab n) (ns,()) f d ↑i (ao ns[i]) ((ao ns[i]).length:Int) 0=_:=h;show(ju (S.tab n) (ns,()) f d ↑i (ao ns[i]) ((ao ns[i]).length:Int) 0).bind _=_;rw[h];simp only[an7,aN,aq0];rw[wrap64 _ (by omega) (by omega),h2,FE qE]
end
def pN (d:LI)(j:Nat):Bool:=decide (j<d.length)&& !decide ((100:Int)<get d j)
theorem FP {d:LI}:∀j,d.length≤j→pN d j=false:=fun j h=>by unfold pN;rw[an6 (by omega)];rfl
theorem QZ (f:Fa)(d:LI)(hd:d.length≤3000):Evt fun n=>fF (S.tab n) f d (d.length:Int) 0=some (bif decide (stop (pN d) d.length 0<d.length)then Sum.inl ((4,(stop (pN d) d.length 0:Int),()),())else Sum.inr (Sum.inl (f,()))):=
 adv (F:=fun T (j:Nat)=>fF T f d (d.length:Int) ↑j) (q:=pN d) (N:=d.length) (out:=fun j=>bif decide (j<d.length)then Sum.inl ((4,(j:Int),()),())else Sum.inr (Sum.inl (f,()))) (p:=Base2) aD FP
  (fun T j h hq=>by
   unfold pN at hq;rw[ao3,ao1,at0,ao5]at hq;show fF (S.step T) _ _ _ _=fF T f d (d.length:Int) ((j+1:Nat):Int)
   rw[rq,aL (by omega),ad (al hq.1),aF,az (an6 hq.2),bD (by omega)])
  (fun T j h hq=>by
   show fF (S.step T) _ _ _ _=_;rw[rq]
   by_cases hj:j<d.length
   ·unfold pN at hq;rw[an8 hj,ao6,Bool.not_eq_false']at hq;rw[aL (by omega),ad (al hj),aF,ad hq,an8 hj];rfl
   ·rw[aH (by omega),an6 hj];rfl) d.length 0 (by omega)
theorem QN (f:Fa)(d:LI)(hd:d.length≤3000):Evt fun n=>fB (S.tab n) f d (d.length:Int) 0=some (bif decide (stop (pN d) d.length 0<d.length)then Sum.inl ((4,(stop (pN d) d.length 0:Int),()),())else Sum.inr (Sum.inl (f,()))):=
 adv (F:=fun T (j:Nat)=>fB T f d (d.length:Int) ↑j) (q:=pN d) (N:=d.length) (out:=fun j=>bif decide (j<d.length)then Sum.inl ((4,(j:Int),()),())else Sum.inr (Sum.inl (f,()))) (p:=Base2) aD FP
  (fun T j h hq=>by
   unfold pN at hq;rw[ao3,ao1,at0,ao5]at hq;show fB (S.step T) _ _ _ _=fB T f d (d.length:Int) ((j+1:Nat):Int)
   rw[qW,aL (by omega),ad (al hq.1),aF,az (an6 hq.2),bD (by omega)])
  (fun T j h hq=>by
   show fB (S.step T) _ _ _ _=_;rw[qW]
   by_cases hj:j<d.length
   ·unfold pN at hq;rw[an8 hj,ao6,Bool.not_eq_false']at hq;rw[aL (by omega),ad (al hj),aF,ad hq,an8 hj];rfl
   ·rw[aH (by omega),an6 hj];rfl) d.length 0 (by omega)
theorem D4 (ns:List ae.den):∀(i:Nat)(d:LI),(s6 ns i d).length=d.length
 |0,d=>rfl
 |i+1,d=>by
  unfold s6;rw[D4];split
  ·exact G2 ..
  ·rfl
end Go.Abs.D
end

section
namespace Go.Abs.D
theorem qy (l:LI)(i j:Nat)(v:Int)(h:i<l.length):get (l.set i v) j=if j=i then v else get l j:=by
 unfold get;rw[ap9,ap9,List.getElem?_set]
 by_cases e:i=j
 ·subst e;rw[as0 rfl,as0 h,as0 rfl];rfl
 ·rw[ar1 e,ar1 (fun h=>e h.symm)]
def oC (st kids:LI):Nat→Int→Option Int
 |0,a=>some a
 |m+1,a=>bif decide (get kids m=a - 1)then oC st kids m (get st (get kids m).toNat)else none
def p9 (sz kids:LI):Nat→Int→Int×Bool
 |0,a=>(a,true)
 |m+1,a=>bif decide (get kids m=a - 1)&& !decide (get sz (get kids m).toNat=0)then p9 sz kids m (a - get sz (get kids m).toNat)else(a,false)
theorem LF (t:Tr)(f:Fa)(z:Int)(st:LI)(i:Int)(x:ae.den)(l:List ae.den)(u v:Int)(hk:∀k∈ao x,0≤k∧k<(st.length:Int))(hs:∀j,0≤get st j∧get st j≤3000)(hl:(ao x).length≤2097152):
  ∀(m:Nat) (a:Int),m≤(ao x).length→0≤a→a≤3000→Evt fun n=>jx (S.tab n) t f z st i x a ((m:Int) - 1) l u v=some (match oC st (ao x) m a with|none=>Sum.inl ((3,i,()),())|some a=>Sum.inr (Sum.inl (t,f,z,st,i,a,l,u,v,())))
 |0,a,hm,h0,h1=>aD.up fun n _=>by
  rw[ng,az (by decide)];rfl
 |m+1,a,hm,h0,h1=>by
  have Jq:m<(ao x).length:=(by omega);have kY:(decide ((0:Int)≤(m:Int))&&decide ((m:Int)<(x.2.2.2.2.2.2.2.2.1.length:Int)))=true:=al Jq;have hg:x.2.2.2.2.2.2.2.2.1.getD (m:Int).toNat 0=get (ao x) m:=rfl;have Zx:get (ao x) m=(ao x)[m]:=sY Jq;have e0:((m+1:Nat):Int) - 1=(m:Int):=(by omega);have wa:i64.wrap (a - 1)=a - 1:=wrap64 _ (by omega) (by omega);have wm:i64.wrap ((m:Int) - 1)=(m:Int) - 1:=wrap64 _ (by omega) (by omega)
  by_cases hc:get (ao x) m=a - 1
  ·have Ql:=hk _ (as4 Jq);rw[←Zx]at Ql;have XA:=hs (get (ao x) m).toNat
   have Rw:(decide ((0:Int)≤get (ao x) m)&&decide (get (ao x) m<(st.length:Int)))=true:=by rw[an8 Ql.1,an8 Ql.2];rfl
   refine(LF t f z st i x l u v hk hs hl m (get st (get (ao x) m).toNat) (by omega) XA.1 XA.2).up fun n h=> ?_
   rw[e0,ng,aL (by omega),ad kY,hg,wa,az (by rw[an8 hc];rfl),ad kY,ad Rw,wm]
   have mZ:oC st (ao x) (m+1) a=oC st (ao x) m (get st (get (ao x) m).toNat):=by
    show(bif decide (get (ao x) m=a - 1)then _ else _)=_;rw[an8 hc];rfl
   rw[mZ];exact h
  ·refine aD.up fun n _=> ?_
   rw[e0,ng,aL (by omega),ad kY,hg,wa,ad (by rw[an6 hc];rfl)]
   have mZ:oC st (ao x) (m+1) a=none:=by
    show(bif decide (get (ao x) m=a - 1)then _ else _)=_;rw[an6 hc];rfl
   rw[mZ]
theorem OY (sz:LI)(i:Int)(x:ae.den)(l:List ae.den)(u v:Int)(hk:∀k∈ao x,0≤k∧k<(sz.length:Int))(hs:∀j,0≤get sz j∧get sz j≤3000)(hl:(ao x).length≤200):
  ∀(m:Nat) (a:Int),m≤(ao x).length→3000*(m:Int)≤a+1000000→a≤3000→Evt fun n=>jt (S.tab n) sz i x a true ((m:Int) - 1) l u v=some (Sum.inl (sz,i,(p9 sz (ao x) m a).1,(p9 sz (ao x) m a).2,l,u,v,()))
 |0,a,hm,h0,h1=>aD.up fun n _=>by
  rw[kA,az (by decide)];rfl
 |m+1,a,hm,h0,h1=>by
  have Jq:m<(ao x).length:=(by omega);have kY:(decide ((0:Int)≤(m:Int))&&decide ((m:Int)<(x.2.2.2.2.2.2.2.2.1.length:Int)))=true:=al Jq;have hg:x.2.2.2.2.2.2.2.2.1.getD (m:Int).toNat 0=get (ao x) m:=rfl;have Zx:get (ao x) m=(ao x)[m]:=sY Jq;have e0:((m+1:Nat):Int) - 1=(m:Int):=(by omega);have wa:i64.wrap (a - 1)=a - 1:=wrap64 _ (by omega) (by omega);have wm:i64.wrap ((m:Int) - 1)=(m:Int) - 1:=wrap64 _ (by omega) (by omega)
  have mZ:p9 sz (ao x) (m+1) a=bif decide (get (ao x) m=a - 1)&& !decide (get sz (get (ao x) m).toNat=0)then p9 sz (ao x) m (a - get sz (get (ao x) m).toNat)else(a,false):=rfl
  by_cases hc:get (ao x) m=a - 1
  ·have Ql:=hk _ (as4 Jq);rw[←Zx]at Ql;have XA:=hs (get (ao x) m).toNat
   have Rw:(decide ((0:Int)≤get (ao x) m)&&decide (get (ao x) m<(sz.length:Int)))=true:=by rw[an8 Ql.1,an8 Ql.2];rfl
   have ZY:sz.getD (get (ao x) m).toNat 0=get sz (get (ao x) m).toNat:=rfl
   by_cases hz:get sz (get (ao x) m).toNat=0
   ·refine aD.up fun n _=> ?_
    rw[e0,kA,aL (by omega),ad kY,hg,wa,az (by rw[an8 hc];rfl),ad Rw,ZY,aL hz,mZ,an8 hz,aq3,ao7];rfl
   ·have wz:i64.wrap (a - get sz (get (ao x) m).toNat)=a - get sz (get (ao x) m).toNat:=wrap64 _ (by omega) (by omega)
    refine(OY sz i x l u v hk hs hl m (a - get sz (get (ao x) m).toNat) (by omega) (by omega) (by omega)).up fun n h=> ?_
    rw[e0,kA,aL (by omega),ad kY,hg,wa,az (by rw[an8 hc];rfl),ad Rw,ZY,aH hz,ad Rw,wz,wm,mZ,an8 hc,an6 hz];exact h
  ·refine aD.up fun n _=> ?_
   rw[e0,kA,aL (by omega),ad kY,hg,wa,ad (by rw[an6 hc];rfl),mZ,an6 hc];rfl
def cN (ns:List ae.den)(i:Nat):LI:=match ns[i]? with|some x=>ao x|none=>[]
theorem AU {ns:List ae.den}{i:Nat}(h:i<ns.length):cN ns i=ao ns[i]:=by unfold cN;rw[ap8 h]
def imS (ns:List ae.den):Nat→LI→Nat⊕Unit
 |0,_=> .inr ()
 |r+1,st=>match oC st (cN ns (ns.length - (r+1))) (cN ns (ns.length - (r+1))).length ((ns.length - (r+1):Nat):Int)with
  |none=> .inl (ns.length - (r+1))
  |some a=>bif decide (r=0)&& !decide (a=0)then .inl (ns.length - (r+1))else imS ns r (st.set (ns.length - (r+1)) a)
def szS (ns:List ae.den):Nat→LI→LI
 |0,sz=>sz
 |r+1,sz=>szS ns r (bif(p9 sz (cN ns (ns.length - (r+1))) (cN ns (ns.length - (r+1))).length ((ns.length - (r+1):Nat):Int)).2 then sz.set (ns.length - (r+1)) (((ns.length - (r+1):Nat):Int) - (p9 sz (cN ns (ns.length - (r+1))) (cN ns (ns.length - (r+1))).length ((ns.length - (r+1):Nat):Int)).1+1)else sz)
def zq (sz:LI)(j:Nat):Bool:=decide (j<sz.length)&& !decide (get sz j=0)
def Jd (sz:LI):Nat⊕Unit:=
 bif decide (stop (zq sz) sz.length 0<sz.length)then .inl (stop (zq sz) sz.length 0)else bif !decide (get sz (sz.length - 1)=(sz.length:Int))then .inl (sz.length - 1)else .inr ()
theorem Ec {sz:LI}:∀j,sz.length≤j→zq sz j=false:=fun j h=>by unfold zq;rw[an6 (by omega)];rfl
structure RelN (n i:Nat)(st sz:LI):Prop where
 l1:st.length=n
 l2:sz.length=n
 lo:∀j,j<i→get sz j=(j:Int) - get st j+1∧0≤get st j∧get st j≤(j:Int)
 hi:∀j,i≤j→get sz j=0∧get st j=0
theorem DR {n i:Nat}{st sz kids:LI}(R:RelN n i st sz):∀(m:Nat)(a:Int),0≤a→a≤(i:Int)→(∀j,j<m→0≤get kids j∧get kids j<(i:Int))→
  (∀b,oC st kids m a=some b→p9 sz kids m a=(b,true)∧0≤b∧b≤(i:Int))∧(oC st kids m a=none→(p9 sz kids m a).2=false)
 |0,a,h0,h1,hk=>⟨fun b h=>by injection h with h;subst h;exact⟨rfl,h0,h1⟩,fun h=>by cases h⟩
 |m+1,a,h0,h1,hk=>by
  obtain⟨k0,k1⟩:=hk m (by omega);unfold oC p9
  by_cases hc:get kids m=a - 1
  ·obtain⟨e1,e2,e3⟩:=R.lo (get kids m).toNat (by omega);have e4:((get kids m).toNat:Int)=get kids m:=Int.toNat_of_nonneg k0;rw[e4]at e1 e3;have hz:¬ get sz (get kids m).toNat=0:=(by omega);have ea:a - get sz (get kids m).toNat=get st (get kids m).toNat:=(by omega);rw[an8 hc,an6 hz];simp only[ap3,ao6,aq5];rw[ea]
   exact DR R m _ e2 (by omega) fun j hj=>hk j (by omega)
  ·rw[an6 hc];exact⟨(fun b h=>by cases h),fun _=>rfl⟩
theorem GM (ns:List ae.den):∀(r:Nat)(sz:LI),(szS ns r sz).length=sz.length
 |0,sz=>rfl
 |r+1,sz=>by
  unfold szS;rw[GM];cases(p9 sz (cN ns (ns.length - (r+1))) (cN ns (ns.length - (r+1))).length ((ns.length - (r+1):Nat):Int)).2<;>simp
theorem LG (ns:List ae.den):∀(r:Nat)(sz:LI)(j:Nat),r≤ns.length→sz.length=ns.length→j<ns.length - r→get (szS ns r sz) j=get sz j
 |0,sz,j,_,_,_=>rfl
 |r+1,sz,j,hr,hl,hj=>by
  unfold szS
  rw[LG ns r _ j (by omega) (by
   cases(p9 sz (cN ns (ns.length - (r+1))) (cN ns (ns.length - (r+1))).length ((ns.length - (r+1):Nat):Int)).2<;>simp[hl]) (by omega)]
  cases(p9 sz (cN ns (ns.length - (r+1))) (cN ns (ns.length - (r+1))).length ((ns.length - (r+1):Nat):Int)).2 with
  |false=>rfl
  |true=>
   simp only[ap3];rw[qy _ _ _ _ (by omega),ar1 (by omega)]
theorem GC {q:Nat→Bool}{N m:Nat}(hN:∀j,N≤j→q j=false)(h1:∀j,j<m→q j=true)(h2:q m=false):stop q N 0=m:=by
 have a:=pH (q:=q) hN N 0 (by omega)
 have b:¬ stop q N 0<m:=fun h=>by rw[h1 _ h]at a;cases a
 have c:¬ m<stop q N 0:=fun h=>by
  have:=n9 N 0 m (as5 _) h;rw[h2]at this;cases this
 omega
theorem Tv (ns:List ae.den)(hk:∀i,i<ns.length→∀j,j<(cN ns i).length→0≤get (cN ns i) j∧get (cN ns i) j<(i:Int)):∀(r:Nat)(st sz:LI),r+1≤ns.length→RelN ns.length (ns.length - (r+1)) st sz→imS ns (r+1) st=Jd (szS ns (r+1) sz):=by
 intro r
 induction r with
 |zero=>
  intro st sz hr R;have hS:=DR R (cN ns (ns.length - 1)).length ((ns.length - 1:Nat):Int) (by omega) (Int.le_refl _) (hk (ns.length - 1) (by omega));show(match oC st (cN ns (ns.length - 1)) (cN ns (ns.length - 1)).length ((ns.length - 1:Nat):Int)with|none=>_|some a=>_)=Jd (bif(p9 sz (cN ns (ns.length - 1)) (cN ns (ns.length - 1)).length ((ns.length - 1:Nat):Int)).2 then sz.set (ns.length - 1) (((ns.length - 1:Nat):Int) - (p9 sz (cN ns (ns.length - 1)) (cN ns (ns.length - 1)).length ((ns.length - 1:Nat):Int)).1+1)else sz)
  cases hc:oC st (cN ns (ns.length - 1)) (cN ns (ns.length - 1)).length ((ns.length - 1:Nat):Int)with
  |none=>
   rw[hS.2 hc,ao8]
   have mZ:stop (zq sz) sz.length 0=ns.length - 1:=GC Ec (fun j hj=>by
    unfold zq;have:=R.lo j hj
    rw[an8 (by have:=R.l2;omega),an6 (by omega)];rfl) (by
    unfold zq
    rw[an8 (R.hi _ (aq2 _)).1];simp)
   unfold Jd;rw[mZ,an8 (show ns.length - 1<sz.length by have:=R.l2;omega)];rfl
  |some a=>
   obtain⟨e,a0,a1⟩:=hS.1 a hc;rw[e];simp only[ap3];have ox:=R.l2
   have hlen:(sz.set (ns.length - 1) (((ns.length - 1:Nat):Int) - a+1)).length=ns.length:=by rw[List.length_set];exact ox
   have mZ:stop (zq (sz.set (ns.length - 1) (((ns.length - 1:Nat):Int) - a+1))) ns.length 0=ns.length:=GC (fun j hj=>Ec j (by omega)) (fun j hj=>by
    unfold zq;rw[qy _ _ _ _ (by omega),an8 (by omega)]
    by_cases Vq:j=ns.length - 1
    ·rw[as0 Vq,an6 (by omega)];rfl
    ·have:=R.lo j (by omega)
     rw[ar1 Vq,an6 (by omega)];rfl) (Ec _ (by omega))
   unfold Jd;rw[hlen,mZ,an6 (Nat.lt_irrefl _),ao8,qy _ _ _ _ (by omega),as0 rfl];show(bif decide (0=0)&& !decide (a=0)then Sum.inl (ns.length - 1)else Sum.inr ())=_
   by_cases ha:a=0
   ·rw[an8 ha,an8 (show((ns.length - 1:Nat):Int) - a+1=(ns.length:Int)by omega)];rfl
   ·rw[an6 ha,an6 (show¬ ((ns.length - 1:Nat):Int) - a+1=(ns.length:Int)by omega)];rfl
 |succ r ih=>
  intro st sz hr R;have hS:=DR R (cN ns (ns.length - (r+1+1))).length ((ns.length - (r+1+1):Nat):Int) (by omega) (Int.le_refl _) (hk (ns.length - (r+1+1)) (by omega));have oD:=R.l1;have ox:=R.l2;show(match oC st (cN ns (ns.length - (r+1+1))) (cN ns (ns.length - (r+1+1))).length ((ns.length - (r+1+1):Nat):Int)with|none=>_|some a=>_)=Jd (szS ns (r+1) (bif(p9 sz (cN ns (ns.length - (r+1+1))) (cN ns (ns.length - (r+1+1))).length ((ns.length - (r+1+1):Nat):Int)).2 then sz.set (ns.length - (r+1+1)) (((ns.length - (r+1+1):Nat):Int) - (p9 sz (cN ns (ns.length - (r+1+1))) (cN ns (ns.length - (r+1+1))).length ((ns.length - (r+1+1):Nat):Int)).1+1)else sz))
  cases hc:oC st (cN ns (ns.length - (r+1+1))) (cN ns (ns.length - (r+1+1))).length ((ns.length - (r+1+1):Nat):Int)with
  |none=>
   rw[hS.2 hc,ao8]
   have hlen:(szS ns (r+1) sz).length=ns.length:=by rw[GM];exact ox
   have Xc:=fun j hj=>LG ns (r+1) sz j (by omega) ox hj
   have mZ:stop (zq (szS ns (r+1) sz)) ns.length 0=ns.length - (r+1+1):=GC (fun j hj=>Ec j (by omega)) (fun j hj=>by
    unfold zq;have:=R.lo j hj
    rw[Xc j (by omega),an8 (by omega),an6 (by omega)];rfl) (by
    unfold zq
    rw[Xc _ (by omega),an8 (R.hi _ (aq2 _)).1];simp)
   unfold Jd;rw[hlen,mZ,an8 (show ns.length - (r+1+1)<ns.length by omega)];rfl
  |some a=>
   obtain⟨e,a0,a1⟩:=hS.1 a hc;rw[e];simp only[ap3];show(bif decide (r+1=0)&& !decide (a=0)then _ else imS ns (r+1) (st.set (ns.length - (r+1+1)) a))=_;rw[an6 (show¬ r+1=0 by omega),ao9,ao8];refine ih _ _ (by omega) ⟨by rw[List.length_set];exact oD,by rw[List.length_set];exact ox,fun j hj=> ?_,fun j hj=> ?_⟩
   ·rw[qy _ _ _ _ (by omega),qy _ _ _ _ (by omega)]
    by_cases Ug:j=ns.length - (r+1+1)
    ·rw[as0 Ug,as0 Ug];subst Ug;exact⟨rfl,a0,a1⟩
    ·rw[ar1 Ug,ar1 Ug];exact R.lo j (by omega)
   ·rw[qy _ _ _ _ (by omega),qy _ _ _ _ (by omega),ar1 (by omega),ar1 (by omega)];exact R.hi j (by omega)
end Go.Abs.D
end

section
namespace Go.Abs.D
theorem H6 {st kids:LI}(hs:∀j,0≤get st j∧get st j≤3000):∀(m:Nat)(a b:Int),0≤a→a≤3000→oC st kids m a=some b→0≤b∧b≤3000
 |0,a,b,h0,h1,h=>by injection h with h;subst h;exact⟨h0,h1⟩
 |m+1,a,b,h0,h1,h=>by
  unfold oC at h
  cases hc:decide (get kids m=a - 1)with
  |true=>
   rw[hc]at h;exact H6 hs m _ b (hs _).1 (hs _).2 h
  |false=>rw[hc]at h;cases h
theorem Lg {sz kids:LI}(hs:∀j:Nat,0≤get sz j∧get sz j≤(j:Int)+1):∀(m:Nat)(a:Int),0≤a→(∀j,j<m→0≤get kids j)→0≤(p9 sz kids m a).1∧(p9 sz kids m a).1≤a
 |0,a,h0,_=>⟨h0,Int.le_refl _⟩
 |m+1,a,h0,hk=>by
  unfold p9
  by_cases hc:get kids m=a - 1
  ·have XA:=hs (get kids m).toNat;have k0:=hk m (by omega);have e4:((get kids m).toNat:Int)=get kids m:=Int.toNat_of_nonneg k0;rw[an8 hc]
   cases hz:decide (get sz (get kids m).toNat=0)with
   |true=>exact⟨h0,Int.le_refl _⟩
   |false=>
    have:=Lg hs m (a - get sz (get kids m).toNat) (by omega) fun j hj=>hk j (by omega)
    simp only[ao6,aq5,ap3];exact⟨this.1,by omega⟩
  ·rw[an6 hc];exact⟨h0,Int.le_refl _⟩
section
variable{ns:List ae.den}(hN:∀x∈ns,NodeOk x)(hn:ns.length≤3000)(hb:¬ zM ns<ns.length)
include hN hn hb
omit hN hn in
theorem FL (i:Nat)(hi:i<ns.length):∀j,j<(cN ns i).length→0≤get (cN ns i) j∧get (cN ns i) j<(i:Int):=by
 intro j hj;rw[AU hi]at hj⊢;have:=xj hb i hi _ (as4 hj);have e:get (ao ns[i]) j=(ao ns[i])[j]:=sY hj;rw[e];exact this
theorem K5 (f:Fa):∀(r:Nat)(st:LI),r≤ns.length→st.length=ns.length→(∀j,0≤get st j∧get st j≤3000)→
    Evt fun n=>di (S.tab n) (ns,()) f (ns.length:Int) st ns (ns.length:Int) ((ns.length - r:Nat):Int)=some (match imS ns r st with| .inl j=>Sum.inl ((3,(j:Int),()),())| .inr _=>Sum.inr (Sum.inl ((ns,()),f,(ns.length:Int),())))
  |0,st,hr,hl,hs=>aD.up fun n _=>by
    rw[qU,az (by simp)];rfl
  |r+1,st,hr,hl,hs=>by
    have hi:ns.length - (r+1)<ns.length:=(by omega)
    generalize hii:ns.length - (r+1)=i at hi
    have hx:=hN _ (as4 hi);have Xy:=AU hi;have EJ:=LF (ns,()) f (ns.length:Int) st ↑i ns[i] ns (ns.length:Int) ↑i (fun k h=>by have:=xj hb i hi k h;omega) hs hx.nk (ao ns[i]).length ↑i (aq2 _) (by omega) (by omega);have F0:at_ (τ:=ae) ns (i:Int)=ns[i]:=uF ns i hi;have wk:i64.wrap (((ao ns[i]).length:Int) - 1)=((ao ns[i]).length:Int) - 1:=wrap64 _ (by omega) (by have:=hx.nk;omega)
    have start:∀n,di (S.step (S.tab n)) (ns,()) f (ns.length:Int) st ns (ns.length:Int) (i:Int)=(jx (S.tab n) (ns,()) f (ns.length:Int) st ↑i ns[i] (i:Int) (((ao ns[i]).length:Int) - 1) ns (ns.length:Int) ↑i).bind (bw (fun j1=>some (Sum.inl j1)) (fun j1=>brk (decide ((0:Int)≤j1.2.2.2.2.1)&&decide (j1.2.2.2.2.1<(j1.2.2.2.1.length:Int))) (
   brk (decide (j1.2.2.2.2.1=i64.wrap (j1.2.2.1 - (1:Int)))) (
    brk (!decide (j1.2.2.2.2.2.1=(0:Int))) (
     some (Sum.inl (((3:Int),j1.2.2.2.2.1,()),()))) (
     di (S.tab n) j1.1 j1.2.1 j1.2.2.1 (j1.2.2.2.1.set j1.2.2.2.2.1.toNat j1.2.2.2.2.2.1) j1.2.2.2.2.2.2.1 j1.2.2.2.2.2.2.2.1 (i64.wrap (j1.2.2.2.2.2.2.2.2.1+(1:Int))))) (
    di (S.tab n) j1.1 j1.2.1 j1.2.2.1 (j1.2.2.2.1.set j1.2.2.2.2.1.toNat j1.2.2.2.2.2.1) j1.2.2.2.2.2.2.1 j1.2.2.2.2.2.2.2.1 (i64.wrap (j1.2.2.2.2.2.2.2.2.1+(1:Int))))) none)):=fun n=>by
      rw[qU,aL (by omega),ad (al hi),F0];show(jx (S.tab n) (ns,()) f (ns.length:Int) st ↑i ns[i] (i:Int) (i64.wrap (((ao ns[i]).length:Int) - 1)) ns (ns.length:Int) ↑i).bind _=_;rw[wk]
    have Vo:imS ns (r+1) st=match oC st (cN ns i) (cN ns i).length ↑i with
      |none=> .inl i
      |some a=>bif decide (r=0)&& !decide (a=0)then .inl i else imS ns r (st.set i a):=by
      show(match oC st (cN ns (ns.length - (r+1))) (cN ns (ns.length - (r+1))).length ((ns.length - (r+1):Nat):Int)with|none=>_|some a=>_)=_;rw[hii]
    rw[Vo,Xy]
    cases hc:oC st (ao ns[i]) (ao ns[i]).length ↑i with
    |none=>
      rw[hc]at EJ
      refine EJ.up fun n h=> ?_
      rw[start,h];rfl
    |some a=>
      rw[hc]at EJ;obtain⟨a0,a1⟩:=H6 hs _ _ _ (by omega) (by omega) hc
      have ih:=K5 f r (st.set i a) (by omega) (by rw[List.length_set];exact hl) (fun j=>by
        rw[qy _ _ _ _ (by omega)];split
        · exact⟨a0,a1⟩
        · exact hs j)
      have ei:ns.length - r=i+1:=(by omega);rw[ei]at ih
      refine(EJ.and ih).up fun n ⟨h,ih⟩=> ?_
      have w1:i64.wrap ((ns.length:Int) - 1)=(ns.length:Int) - 1:=wrap64 _ (by omega) (by omega);have kY:(decide ((0:Int)≤(i:Int))&&decide ((i:Int)<(st.length:Int)))=true:=al (by omega);rw[start,h];simp only[an7,bw,aq9,aq0,Int.toNat_natCast];rw[ad kY,w1,bD (by omega)]
      by_cases XB:r=0
      · rw[aL (by omega),an8 XB]
        by_cases ha:a=0
        · rw[az (by rw[an8 ha];rfl),an8 ha]
          exact ih
        · rw[ad (by rw[an6 ha];rfl),an6 ha];rfl
      · rw[aH (by omega),an6 XB,ao9,ao8]
        exact ih
theorem KK:∀(r:Nat)(sz:LI),r≤ns.length→sz.length=ns.length→(∀j:Nat,0≤get sz j∧get sz j≤(j:Int)+1)→
  Evt fun n=>eN (S.tab n) sz ns (ns.length:Int) ((ns.length - r:Nat):Int)=some (Sum.inl (szS ns r sz,()))
 |0,sz,hr,hl,hs=>aD.up fun n _=>by
  rw[qQ,az (by simp)];rfl
 |r+1,sz,hr,hl,hs=>by
  have hi:ns.length - (r+1)<ns.length:=(by omega)
  generalize hii:ns.length - (r+1)=i at hi
  have hx:=hN _ (as4 hi);have Xy:=AU hi;have ac5:=FL hb i hi;rw[Xy]at ac5
  have ak0:∀j,0≤get sz j∧get sz j≤3000:=fun j=>by
   have:=hs j
   rcases Nat.lt_or_ge j sz.length with h|h
   ·omega
   ·rw[hD h];omega
  have ah2:(ao ns[i]).length≤200:=by
   have hq:okQ ns i=true:=n9 ns.length 0 i (as5 _) (by unfold zM at hb;omega);unfold okQ A3 at hq;rw[an8 hi,ao6,ap8 hi]at hq;have hq:okN ns i ns[i]=true:=hq
   rcases Nat.lt_or_ge 200 (ao ns[i]).length with h|h
   ·unfold okN at hq;rw[an8 h]at hq
    revert hq
    cases decide (Prod.fst ns[i].2<0)<;>cases decide (Prod.fst (Prod.snd ns[i].2)<Prod.fst ns[i].2)<;>cases decide (Prod.fst (Prod.snd (Prod.snd ns[i].2))<0)<;>intro h<;>cases h
   ·exact h
  have h8:=OY sz ↑i ns[i] ns (ns.length:Int) ↑i (fun k h=>by have:=xj hb i hi k h;omega) ak0 ah2 (ao ns[i]).length ↑i (aq2 _) (by omega) (by omega);have F0:at_ (τ:=ae) ns (i:Int)=ns[i]:=uF ns i hi;have wk:i64.wrap (((ao ns[i]).length:Int) - 1)=((ao ns[i]).length:Int) - 1:=wrap64 _ (by omega) (by omega);obtain⟨y0,y1⟩:=Lg (kids:=ao ns[i]) hs (ao ns[i]).length ↑i (by omega) (fun j hj=>(ac5 j hj).1)
  have mu:szS ns (r+1) sz=szS ns r (bif(p9 sz (ao ns[i]) (ao ns[i]).length ↑i).2 then sz.set i ((i:Int) - (p9 sz (ao ns[i]) (ao ns[i]).length ↑i).1+1)else sz):=by
   show szS ns r (bif(p9 sz (cN ns (ns.length - (r+1))) (cN ns (ns.length - (r+1))).length ((ns.length - (r+1):Nat):Int)).2 then sz.set (ns.length - (r+1)) (((ns.length - (r+1):Nat):Int) - (p9 sz (cN ns (ns.length - (r+1))) (cN ns (ns.length - (r+1))).length ((ns.length - (r+1):Nat):Int)).1+1)else sz)=_;rw[hii,Xy]
  rw[mu]
  generalize hy:p9 sz (ao ns[i]) (ao ns[i]).length (i:Int)=y at h8 y0 y1
  obtain⟨b,ok⟩:=y;simp only at y0 y1 h8;have ei:ns.length - r=i+1:=(by omega)
  have start:∀n,jt (S.tab n) sz ↑i ns[i] (i:Int) true (((ao ns[i]).length:Int) - 1) ns (ns.length:Int) (i:Int)=some (Sum.inl (sz,(i:Int),b,ok,ns,(ns.length:Int),(i:Int),()))→eN (S.step (S.tab n)) sz ns (ns.length:Int) (i:Int)=brk ok (brk (decide ((0:Int)≤(i:Int))&&decide ((i:Int)<(sz.length:Int))) (eN (S.tab n) (sz.set i (i64.wrap ((i64.wrap ((i:Int) - b))+(1:Int)))) ns (ns.length:Int) (i64.wrap ((i:Int)+(1:Int)))) none) (eN (S.tab n) sz ns (ns.length:Int) (i64.wrap ((i:Int)+(1:Int)))):=fun n h=>by
   rw[qQ,aL (by omega),ad (al hi),F0];show(jt (S.tab n) sz ↑i ns[i] (i:Int) true (i64.wrap (((ao ns[i]).length:Int) - 1)) ns (ns.length:Int) ↑i).bind _=_;rw[wk,h];rfl
  cases ok with
  |true=>
   have ih:=KK r (sz.set i ((i:Int) - b+1)) (by omega) (by rw[List.length_set];exact hl) (fun j=>by
    rw[qy _ _ _ _ (by omega)];split
    ·rename_i e;subst e;omega
    ·exact hs j)
   rw[ei]at ih
   refine(h8.and ih).up fun n ⟨h,ih⟩=> ?_
   have kY:(decide ((0:Int)≤(i:Int))&&decide ((i:Int)<(sz.length:Int)))=true:=al (by omega);rw[start n h,aj,ad kY,wrap64 ((i:Int) - b) (by omega) (by omega),wrap64 ((i:Int) - b+1) (by omega) (by omega),bD (by omega)];exact ih
  |false=>
   have ih:=KK r sz (by omega) hl hs;rw[ei]at ih
   refine(h8.and ih).up fun n ⟨h,ih⟩=> ?_
   rw[start n h,af,bD (by omega)];exact ih
end
theorem Cy (n j:Nat):get (List.replicate n (0:Int)) j=0:=by
 unfold get;rw[ap9,List.getElem?_replicate];split<;>rfl
theorem QQ (t:Tr)(f:Fa)(sz:LI)(hl:sz.length≤3000):Evt fun n=>dH (S.tab n) t f sz sz (sz.length:Int) 0=some (bif decide (stop (zq sz) sz.length 0<sz.length)then Sum.inl ((3,(stop (zq sz) sz.length 0:Int),()),())else Sum.inr (Sum.inl (t,f,sz,()))):=
 adv (F:=fun T (j:Nat)=>dH T t f sz sz (sz.length:Int) ↑j) (q:=zq sz) (N:=sz.length) (out:=fun j=>bif decide (j<sz.length)then Sum.inl ((3,(j:Int),()),())else Sum.inr (Sum.inl (t,f,sz,()))) (p:=Base2) aD Ec
  (fun T j h hq=>by
   unfold zq at hq;rw[ao3,ao1,at0,ao5]at hq;show dH (S.step T) _ _ _ _ _ _=dH T t f sz sz (sz.length:Int) ((j+1:Nat):Int)
   rw[ry,aL (by omega),ad (al hq.1),aF,az (an6 hq.2),bD (by omega)])
  (fun T j h hq=>by
   show dH (S.step T) _ _ _ _ _ _=_;rw[ry]
   by_cases hj:j<sz.length
   ·unfold zq at hq;rw[an8 hj,ao6,Bool.not_eq_false']at hq;rw[aL (by omega),ad (al hj),aF,ad hq,an8 hj];rfl
   ·rw[aH (by omega),an6 hj];rfl) sz.length 0 (by omega)
def rP (ns:List ae.den):Fa:=
 bif decide (ns.length=0)then(1,0,())else
 bif decide (3000<ns.length)then(1,0,())else
 bif !decide (jo ns ((ns.length - 1:Nat):Int)=1)then(1,0,())else
 bif decide (zM ns<ns.length)then(2,(zM ns:Int),())else
 match imS ns ns.length (List.replicate ns.length 0)with
 | .inl j=>(3,(j:Int),())
 | .inr _=>bif decide (stop (pN (s6 ns ns.length (List.replicate ns.length 0))) ns.length 0<ns.length)then(4,(stop (pN (s6 ns ns.length (List.replicate ns.length 0))) ns.length 0:Int),())else(0,0,())
section
variable{ns:List ae.den}(hN:∀x∈ns,NodeOk x)
include hN
theorem CX:Evt fun n=>nG (S.tab n) (ns,())=some (rP ns,bm):=by
 unfold rP
 by_cases c0:ns.length=0
 ·refine aD.up fun n _=> ?_
  have d:decide ((((ns,()):Tr).1.length:Int)=0)=true:=an8 (by show(ns.length:Int)=0;omega);rw[rD,ad d,an8 c0];rfl
 have d0:decide ((((ns,()):Tr).1.length:Int)=0)=false:=an6 (by show¬ (ns.length:Int)=0;omega);rw[an6 c0]
 by_cases c1:3000<ns.length
 ·refine aD.up fun n _=> ?_
  have d:decide ((3000:Int)<(((ns,()):Tr).1.length:Int))=true:=an8 (by show(3000:Int)<(ns.length:Int);omega);rw[rD,az d0,ad d,an8 c1];rfl
 have hn:ns.length≤3000:=(by omega);have d1:decide ((3000:Int)<(((ns,()):Tr).1.length:Int))=false:=an6 (by show¬ (3000:Int)<(ns.length:Int);omega);rw[an6 c1]
 have wn:i64.wrap ((((ns,()):Tr).1.length:Int) - 1)=((ns.length - 1:Nat):Int):=by
  show i64.wrap ((ns.length:Int) - 1)=_;rw[wrap64 _ (by omega) (by omega)];omega
 have kY:(decide ((0:Int)≤((ns.length - 1:Nat):Int))&&decide (((ns.length - 1:Nat):Int)<(((ns,()):Tr).1.length:Int)))=true:=al (show ns.length - 1<ns.length by omega)
 have start:∀n,nG (S.step (S.tab n)) (ns,())=_:=fun n=>by
  rw[rD,az d0,az d1,wn,ad kY]
 by_cases c2:¬ jo ns ((ns.length - 1:Nat):Int)=1
 ·refine aD.up fun n _=> ?_
  rw[start,ad (by
   show(!decide (jo ns ((ns.length - 1:Nat):Int)=1))=true
   rw[an6 c2];rfl),an6 c2];rfl
 replace c2:=Decidable.not_not.1 c2
 rw[an8 c2]
 have step2:∀n,nG (S.step (S.tab n)) (ns,())=_:=fun n=>by
  rw[start,az (by
   show(!decide (jo ns ((ns.length - 1:Nat):Int)=1))=false
   rw[an8 c2];rfl)]
 have h5:=Tc hN hn (ns.length:Int) (0,0,())
 by_cases c3:zM ns<ns.length
 ·refine h5.up fun n h=> ?_
  rw[an8 c3]at h;rw[step2,an8 c3];show(fu (S.tab n) (ns,()) (0,0,()) (ns.length:Int) (ns.length:Int) 0).bind _=_;rw[h];rfl
 rw[an6 c3]at h5⊢;have tZ:=K5 hN hn c3 (0,0,()) ns.length (List.replicate ns.length 0) (aq2 _) (by simp) (fun j=>by rw[Cy];omega);rw[Nat.sub_self]at tZ
 have Js:(decide ((0:Int)≤(ns.length:Int))&&decide ((ns.length:Int)≤(ns.length:Int))&&decide ((ns.length:Int)≤(lim:Int)))=true:=by
  rw[an8 (show(0:Int)≤(ns.length:Int)by omega),an8 (show(ns.length:Int)≤(ns.length:Int)by omega),an8 (show(ns.length:Int)≤(lim:Int)by unfold lim;omega)];rfl
 have u6:∀n,fu (S.tab n) (ns,()) (0,0,()) (((ns,()):Tr).1.length:Int) (((ns,()):Tr).1.length:Int) 0=some (Sum.inr (Sum.inl ((ns,()),(0,0,()),(ns.length:Int),())))→nG (S.step (S.tab n)) (ns,())=_:=fun n h=>by
  rw[step2,h,an7]
 simp only[ao8,aq3]
 cases hc:imS ns ns.length (List.replicate ns.length 0)with
 |inl j=>
  rw[hc]at tZ
  refine(h5.and tZ).up fun n ⟨h,h'⟩=> ?_
  rw[u6 n h];show brk (decide ((0:Int)≤(ns.length:Int))&&decide ((ns.length:Int)≤(ns.length:Int))&&decide ((ns.length:Int)≤(lim:Int))) ((di (S.tab n) (ns,()) (0,0,()) (ns.length:Int) (List.replicate ns.length 0) ns (ns.length:Int) 0).bind _) _=_;have h':di (S.tab n) (ns,()) (0,0,()) (ns.length:Int) (List.replicate ns.length 0) ns (ns.length:Int) 0=_:=h';rw[ad Js,h'];rfl
 |inr u=>
  rw[hc]at tZ;have YP:=Lz hN hn c3 (0,0,()) ns.length (List.replicate ns.length 0) (aq2 _) (by simp)
  have Ve:(s6 ns ns.length (List.replicate ns.length 0)).length=ns.length:=by rw[D4];simp
  have XK:=QZ (0,0,()) (s6 ns ns.length (List.replicate ns.length 0)) (by omega);rw[Ve]at XK
  refine((h5.and tZ).and (YP.and XK)).up fun n ⟨⟨h,h'⟩,YP,XK⟩=> ?_
  rw[u6 n h];show brk (decide ((0:Int)≤(ns.length:Int))&&decide ((ns.length:Int)≤(ns.length:Int))&&decide ((ns.length:Int)≤(lim:Int))) ((di (S.tab n) (ns,()) (0,0,()) (ns.length:Int) (List.replicate ns.length 0) ns (ns.length:Int) 0).bind _) _=_;have h':di (S.tab n) (ns,()) (0,0,()) (ns.length:Int) (List.replicate ns.length 0) ns (ns.length:Int) 0=_:=h';rw[ad Js,h',an7];show brk (decide ((0:Int)≤(ns.length:Int))&&decide ((ns.length:Int)≤(ns.length:Int))&&decide ((ns.length:Int)≤(lim:Int))) ((kO (S.tab n) (ns,()) (0,0,()) (List.replicate ns.length 0) (i64.wrap ((ns.length:Int) - 1))).bind _) _=_;rw[ad Js,wrap64 _ (by omega) (by omega),YP,an7];show(fF (S.tab n) (0,0,()) (s6 ns ns.length (List.replicate ns.length 0)) ((s6 ns ns.length (List.replicate ns.length 0)).length:Int) 0).bind _=_;rw[Ve,XK,an7];cases decide (stop (pN (s6 ns ns.length (List.replicate ns.length 0))) ns.length 0<ns.length)<;>rfl
theorem CP:Evt fun n=>nD (S.tab n) (ns,())=some (rP ns,bm):=by
 unfold rP
 by_cases c0:ns.length=0
 ·refine aD.up fun n _=> ?_
  have d:decide ((((ns,()):Tr).1.length:Int)=0)=true:=an8 (by show(ns.length:Int)=0;omega);rw[rG,ad d,an8 c0];rfl
 have d0:decide ((((ns,()):Tr).1.length:Int)=0)=false:=an6 (by show¬ (ns.length:Int)=0;omega);rw[an6 c0]
 by_cases c1:3000<ns.length
 ·refine aD.up fun n _=> ?_
  have d:decide ((3000:Int)<(((ns,()):Tr).1.length:Int))=true:=an8 (by show(3000:Int)<(ns.length:Int);omega);rw[rG,az d0,ad d,an8 c1];rfl
 have hn:ns.length≤3000:=(by omega);have d1:decide ((3000:Int)<(((ns,()):Tr).1.length:Int))=false:=an6 (by show¬ (3000:Int)<(ns.length:Int);omega);rw[an6 c1]
 have wn:i64.wrap ((((ns,()):Tr).1.length:Int) - 1)=((ns.length - 1:Nat):Int):=by
  show i64.wrap ((ns.length:Int) - 1)=_;rw[wrap64 _ (by omega) (by omega)];omega
 have kY:(decide ((0:Int)≤((ns.length - 1:Nat):Int))&&decide (((ns.length - 1:Nat):Int)<(((ns,()):Tr).1.length:Int)))=true:=al (show ns.length - 1<ns.length by omega)
 have start:∀n,nD (S.step (S.tab n)) (ns,())=_:=fun n=>by
  rw[rG,az d0,az d1,wn,ad kY]
 by_cases c2:¬ jo ns ((ns.length - 1:Nat):Int)=1
 ·refine aD.up fun n _=> ?_
  rw[start,ad (by
   show(!decide (jo ns ((ns.length - 1:Nat):Int)=1))=true
   rw[an6 c2];rfl),an6 c2];rfl
 replace c2:=Decidable.not_not.1 c2
 rw[an8 c2]
 have step2:∀n,nD (S.step (S.tab n)) (ns,())=_:=fun n=>by
  rw[start,az (by
   show(!decide (jo ns ((ns.length - 1:Nat):Int)=1))=false
   rw[an8 c2];rfl)]
 have h4:=S3 hN hn (0,0,())
 by_cases c3:zM ns<ns.length
 ·refine h4.up fun n h=> ?_
  rw[an8 c3]at h;rw[step2,an8 c3];show(ft (S.tab n) (ns,()) (0,0,()) (ns.length:Int) 0).bind _=_;rw[h];rfl
 rw[an6 c3]at h4⊢;have h3:=KK hN hn c3 ns.length (List.replicate ns.length 0) (aq2 _) (by simp) (fun j=>by rw[Cy];omega);rw[Nat.sub_self]at h3
 have Js:(decide ((0:Int)≤(ns.length:Int))&&decide ((ns.length:Int)≤(ns.length:Int))&&decide ((ns.length:Int)≤(lim:Int)))=true:=by
  rw[an8 (show(0:Int)≤(ns.length:Int)by omega),an8 (show(ns.length:Int)≤(ns.length:Int)by omega),an8 (show(ns.length:Int)≤(lim:Int)by unfold lim;omega)];rfl
 have Hs:Evt fun n=>mh (S.tab n) (ns,())=some (szS ns ns.length (List.replicate ns.length 0),bm):=h3.up fun n h=>by
  rw[BL,ad Js];show(eN (S.tab n) (List.replicate ns.length 0) ns (ns.length:Int) 0).bind _=_;have h:eN (S.tab n) (List.replicate ns.length 0) ns (ns.length:Int) 0=_:=h;rw[h];rfl
 have M4:(szS ns ns.length (List.replicate ns.length 0)).length=ns.length:=by rw[GM];simp
 have Bg:=QQ (ns,()) (0,0,()) (szS ns ns.length (List.replicate ns.length 0)) (by omega)
 have ZM:imS ns ns.length (List.replicate ns.length 0)=Jd (szS ns ns.length (List.replicate ns.length 0)):=by
  obtain⟨r,hr⟩:∃r,ns.length=r+1:=⟨ns.length - 1,by omega⟩;have:=Tv ns (FL c3) r (List.replicate ns.length 0) (List.replicate ns.length 0) (by omega) ⟨by simp,by simp,fun j hj=>by omega,fun j _=>⟨Cy ..,Cy ..⟩⟩;rw[←hr]at this;exact this
 rw[ZM];simp only[ao8,aq3]
 generalize mu:szS ns ns.length (List.replicate ns.length 0)=sz at Hs M4 Bg
 have u6:∀n,ft (S.tab n) (ns,()) (0,0,()) (((ns,()):Tr).1.length:Int) 0=some (Sum.inr (Sum.inl ((ns,()),(0,0,()),())))→nD (S.step (S.tab n)) (ns,())=_:=fun n h=>by
  rw[step2,h,an7]
 unfold Jd
 cases hz:decide (stop (zq sz) sz.length 0<sz.length)with
 |true=>
  rw[hz]at Bg
  refine((h4.and Hs).and Bg).up fun n ⟨⟨h,h'⟩,Bg⟩=> ?_
  rw[u6 n h];show(mh (S.tab n) (ns,())).bind _=_;rw[h',an7];show(dH (S.tab n) (ns,()) (0,0,()) sz sz (sz.length:Int) 0).bind _=_;rw[Bg];rfl
 |false=>
  rw[hz]at Bg
  have wz:i64.wrap ((sz.length:Int) - 1)=((sz.length - 1:Nat):Int):=by rw[wrap64 _ (by omega) (by omega)];omega
  have WD:(decide ((0:Int)≤((sz.length - 1:Nat):Int))&&decide (((sz.length - 1:Nat):Int)<(sz.length:Int)))=true:=al (show sz.length - 1<sz.length by omega)
  cases SO:decide (get sz (sz.length - 1)=(sz.length:Int))with
  |false=>
   refine((h4.and Hs).and Bg).up fun n ⟨⟨h,h'⟩,Bg⟩=> ?_
   rw[u6 n h];show(mh (S.tab n) (ns,())).bind _=_;rw[h',an7];show(dH (S.tab n) (ns,()) (0,0,()) sz sz (sz.length:Int) 0).bind _=_;rw[Bg,an7];show brk (decide ((0:Int)≤i64.wrap ((sz.length:Int) - 1))&&decide (i64.wrap ((sz.length:Int) - 1)<(sz.length:Int))) (brk (!decide (sz.getD (i64.wrap ((sz.length:Int) - 1)).toNat 0=(sz.length:Int))) (some ((3,i64.wrap ((sz.length:Int) - 1),()),bm)) _) _=_;rw[wz,ad WD,aF,SO,ad (by rfl)];rfl
  |true=>
   have TW:=Lj hN hn c3 (0,0,()) ns.length (List.replicate ns.length 0) (aq2 _) (by simp)
   have Ve:(s6 ns ns.length (List.replicate ns.length 0)).length=ns.length:=by rw[D4];simp
   have RL:=QN (0,0,()) (s6 ns ns.length (List.replicate ns.length 0)) (by omega);rw[Ve]at RL
   refine(((h4.and Hs).and Bg).and (TW.and RL)).up fun n ⟨⟨⟨h,h'⟩,Bg⟩,TW,RL⟩=> ?_
   rw[u6 n h];show(mh (S.tab n) (ns,())).bind _=_;rw[h',an7];show(dH (S.tab n) (ns,()) (0,0,()) sz sz (sz.length:Int) 0).bind _=_;rw[Bg,an7];show brk (decide ((0:Int)≤i64.wrap ((sz.length:Int) - 1))&&decide (i64.wrap ((sz.length:Int) - 1)<(sz.length:Int))) (brk (!decide (sz.getD (i64.wrap ((sz.length:Int) - 1)).toNat 0=(sz.length:Int))) (some ((3,i64.wrap ((sz.length:Int) - 1),()),bm)) _) _=_;rw[wz,ad WD,aF,SO,az (by rfl)];show brk (decide ((0:Int)≤(ns.length:Int))&&decide ((ns.length:Int)≤(ns.length:Int))&&decide ((ns.length:Int)≤(lim:Int))) ((kR (S.tab n) (ns,()) (0,0,()) (List.replicate ns.length 0) (i64.wrap ((ns.length:Int) - 1))).bind _) _=_;rw[ad Js,wrap64 _ (by omega) (by omega),TW,an7];show(fB (S.tab n) (0,0,()) (s6 ns ns.length (List.replicate ns.length 0)) ((s6 ns ns.length (List.replicate ns.length 0)).length:Int) 0).bind _=_;rw[Ve,RL,an7];cases decide (stop (pN (s6 ns ns.length (List.replicate ns.length 0))) ns.length 0<ns.length)<;>rfl
end
end Go.Abs.D
end

section
namespace Go.Abs.D
variable{ks:LI}{names:List LI}{op num:Int}{text:LI}{kind:Int}{t:Tr}{x:ae.den}
end Go.Abs.D
end

section
namespace Go.Abs.D
theorem NX {ns:List ae.den}(h:(rP ns).1=0):rP ns=(0,0,())∧0<ns.length∧ns.length≤3000∧∀(j:Nat)(hj:j<ns.length),∀k∈ao ns[j],0≤k∧k<(j:Int):=by
 unfold rP at h⊢
 by_cases c0:ns.length=0
 ·rw[an8 c0]at h;exact absurd (show(1:Int)=0 from h) (by decide)
 rw[an6 c0]at h⊢
 by_cases c1:3000<ns.length
 ·rw[an8 c1]at h;exact absurd (show(1:Int)=0 from h) (by decide)
 rw[an6 c1]at h⊢
 by_cases c2:jo ns ((ns.length - 1:Nat):Int)=1
 ·rw[an8 c2]at h⊢
  by_cases c3:zM ns<ns.length
  ·rw[an8 c3]at h;exact absurd (show(2:Int)=0 from h) (by decide)
  rw[an6 c3]at h⊢;refine⟨?_,by omega,by omega,fun j hj=>xj c3 j hj⟩;simp only[aq3,ao8]at h⊢
  cases hi:imS ns ns.length (List.replicate ns.length 0)with
  |inl j=>rw[hi]at h;exact absurd (show(3:Int)=0 from h) (by decide)
  |inr _=>
   rw[hi]at h;simp only at h⊢
   cases hd:decide (stop (pN (s6 ns ns.length (List.replicate ns.length 0))) ns.length 0<ns.length)with
   |true=>rw[hd]at h;exact absurd (show(4:Int)=0 from h) (by decide)
   |false=>rfl
 ·rw[an6 c2]at h;exact absurd (show(1:Int)=0 from h) (by decide)
theorem EW {ns:List ae.den}(hN:∀x∈ns,NodeOk x):Evt fun n=>yo (S.tab n) (ns,())=some (decide ((rP ns).1=0),bm):=(CX hN).up fun n h=>by
 rw[E7,h,an7]
 by_cases c:(rP ns).1=0
 ·have:=(NX c).1;rw[this];rfl
 ·simp only[an6 c,ao9]
end Go.Abs.D
end

section
namespace Go.Abs.D
theorem AS {s:LI}(yI:∀c∈s,isByte c)(a b:Int):∀c∈sub s a b,isByte c:=fun c hc=>yI c (List.mem_of_mem_take (List.mem_of_mem_drop hc))
theorem J6 {s:LI}(yI:∀c∈s,isByte c)(a b:Nat):∀c∈bK s a b,isByte c:=fun c hc=>yI c (List.mem_of_mem_take (List.mem_of_mem_drop hc))
theorem Bi {s:LI}(yI:∀c∈s,isByte c)(i j:Nat)(f:Bool):∀c∈(ko s i j f).2.2.2.2.2.1,isByte c:=by
 unfold ko
 cases f|| !decide (dv 0 (bK s i j)<9223372036854775808)with
 |true=>exact J6 yI i j
 |false=>exact fun _ h=>nomatch h
theorem NA {s:LI}(yI:∀c∈s,isByte c){i:Nat}{t:ak.den}(h:jT s i= .inr t):∀c∈t.2.2.2.2.2.1,isByte c:=by
 unfold jT at h
 have ex:∀{j f},uO s i j f= .inr t→∀c∈t.2.2.2.2.2.1,isByte c:=fun{j f} h=>by
  unfold uO at h
  cases h5:decide (get s j=101)with
  |true=>
   rw[h5]at h
   cases hd:aW (get s (ma s j))with
   |true=>rw[hd]at h;injection h with h;subst h;exact Bi yI i _ _
   |false=>rw[hd]at h;cases h
  |false=>rw[h5]at h;injection h with h;subst h;exact Bi yI i _ _
 have fr:∀j,uL s i j= .inr t→∀c∈t.2.2.2.2.2.1,isByte c:=fun j h=>by
  unfold uL at h
  cases h5:decide (get s j=46)&&aW (get s (j+1))with
  |true=>rw[h5]at h;exact ex h
  |false=>rw[h5]at h;exact ex h
 cases h0:decide (get s i=48)&&decide (get s (i+1)=120)with
 |false=>rw[h0]at h;exact fr _ h
 |true=>
  rw[h0]at h;have h:jl s i= .inr t:=h;unfold jl at h
  by_cases he:kL s (i+18) (i+2)=i+2
  ·simp only[he,if_true]at h;cases h
  ·simp only[he,at3]at h
   cases hx:gO (get s (kL s (i+18) (i+2)))with
   |true=>simp only[hx,if_true]at h;cases h
   |false=>simp only[hx,ar9,at3]at h;injection h with h;subst h;exact fun _ h=>nomatch h
theorem N9 {s:LI}(yI:∀c∈s,isByte c){i:Nat}{t:ak.den}(h:l9 s i= .inr t):∀c∈t.2.2.2.2.2.1,isByte c:=by
 unfold l9 at h
 cases hl:bE (get s i)with
 |true=>
  rw[hl]at h
  injection h with h
  subst h;unfold Hk;simp only;split
  ·exact fun _ h=>nomatch h
  ·exact AS yI _ _
 |false=>
  rw[hl]at h
  cases hd:aW (get s i)with
  |true=>rw[hd]at h;exact NA yI h
  |false=>
   rw[hd]at h
   cases CE:decide (get s i=34)with
   |true=>
    rw[CE]at h;have h:Je i (eZ s s.length (i+1) [])= .inr t:=h
    cases hr:eZ s s.length (i+1) []with
    |inl e=>rw[hr]at h;cases h
    |inr y=>
     rw[hr]at h;obtain⟨e,r⟩:=y
     injection h with h
     subst h;intro c hc;obtain⟨x,_,rfl⟩:=List.mem_map.1 hc;unfold byte isByte;omega
   |false=>
    rw[CE]at h;have h:tT i (jU (p3 s i))= .inr t:=h;unfold tT at h
    cases hk:decide ((jU (p3 s i)).1=0)with
    |true=>rw[hk]at h;cases h
    |false=>rw[hk]at h;injection h with h;subst h;exact fun _ h=>nomatch h
theorem no6:(allI.all fun s=>kinds.all fun k=>match stI s k with| .left l=> !l.contains 6|_=>true)=true:=by kernel_rfl
theorem X0:(allI.all fun s=> !isLeft (stI s 6))=true:=by kernel_rfl
theorem RX {k:Int}(h0:0≤k)(h1:k≤78):∀{a l:LI},gdI a→(6:Int)∉a→gD a k= .left l→(6:Int)∉l
 |[],_,_,_,e=>by cases e
 |s::r,l,ha,h6,e=>by
  have e:(stI s k).then r (gD r k)= .left l:=(fZ stI s r k).symm.trans e
  have hr:(6:Int)∉r:=fun h=>h6 (ap6 _ h)
  cases hs:stI s k with
  |no=>rw[hs]at e;cases e
  |gone=>rw[hs]at e;exact RX h0 h1 (fun x hx=>ha x (ap6 _ hx)) hr e
  |left m=>
   rw[hs]at e
   injection e with e
   subst e;intro hm
   rcases aq6.1 hm with hm|hm
   ·rcases ha s (ap7 ..)with ht|ht
    ·rw[sE ht.2]at hs
     cases hd:decide (s=k)with
     |false=>rw[hd]at hs;cases hs
     |true=>rw[hd]at hs;injection hs with hs;subst hs;cases hm
    ·have:=List.all_eq_true.1 (List.all_eq_true.1 no6 s ht) k (iT h0 h1);rw[hs]at this;have this:(!m.contains 6)=true:=this;rw[List.contains_iff_mem.2 hm]at this;cases this
   ·exact hr hm
theorem Sd:∀(ks:LI){a b:LI},(∀k∈ks,0≤k∧k≤78)→gdI a→(6:Int)∉a→foldI a ks=some b→(6:Int)∉b
 |[],a,b,_,_,h6,e=>by injection e with e;subst e;exact h6
 |k::ks,a,b,hk,ha,h6,e=>by
  have e:(match gD a k with| .left l=>foldI l ks|_=>none)=some b:=e;obtain⟨k0,k1⟩:=hk k (ap7 ..)
  cases ho:gD a k with
  |no=>rw[ho]at e;cases e
  |gone=>rw[ho]at e;cases e
  |left l=>rw[ho]at e;exact Sd ks (fun x hx=>hk x (ap6 _ hx)) (DW k0 k1 ha ho) (RX k0 k1 ha h6 ho) e
theorem IT:∀{a:LI},gdI a→(6:Int)∉a→p8 a 6=true→gD a 6= .gone
 |[],_,_,_=>rfl
 |s::r,ha,h6,h=>by
  have ho:gD (s::r) 6=(stI s 6).then r (gD r 6):=fZ stI s r 6
  have hr:(6:Int)∉r:=fun h=>h6 (ap6 _ h)
  unfold p8 at h;rw[ho]at h⊢
  have hs:isLeft (stI s 6)=false:=by
   rcases ha s (ap7 ..)with ht|ht
   ·rw[sE ht.2,an6 (show s≠6 from fun e=>h6 (by rw[e];exact ap7 ..))];rfl
   ·simpa using List.all_eq_true.1 X0 s ht
  cases hq:stI s 6 with
  |no=>rw[hq]at h;cases h
  |left l=>rw[hq]at hs;cases hs
  |gone=>rw[hq]at h;exact IT (fun x hx=>ha x (ap6 _ hx)) hr h
theorem Ov {s:LI}(yI:∀c∈s,isByte c):∃(c p:Int)(ns:List Node),(∀x∈ns,NodeOk x)∧ns.length≤300000∧(c=0→(rP ns).1=0)∧
  (Evt fun n=>lZ (S.tab n) s=some ((c,p,(ns,()),()),aa))∧Evt fun n=>kH (S.tab n) s=some ((c,p,(ns,()),()),aa):=by
 by_cases hs:65536<s.length
 ·refine⟨2,0,[],(fun _ h=>nomatch h),by simp,fun h=>absurd h (by decide),aD.up fun n _=> ?_,aD.up fun n _=> ?_⟩
  ·show lZ (S.step (S.tab n)) _=_;rw[oT,aL (by omega)]
  ·show kH (S.step (S.tab n)) _=_;rw[oV,aL (by omega)]
 have hs:s.length≤65536:=(by omega)
 have hd:decide ((65536:Int)<(s.length:Int))=false:=by simp only[ao5];omega
 rcases QF hs yI with⟨p,e1,e2⟩|⟨out,a,b,cs,top,line,ga,gb,hn,hr,yJ,h6,h7,h8,h9,e1,e2⟩
 ·refine⟨1,(p:Int),[],(fun _ h=>nomatch h),by simp,fun h=>absurd h (by decide), ?_,e1.up fun n ⟨l,h⟩=> ?_⟩
  ·have h2:Evt fun n=>lj (S.tab n) s=some (([],(p:Int),()),aa):=e2.up fun n ⟨c,t,h⟩=>by
    show lj (S.step (S.tab n)) _=_;rw[tw,h,an7];dsimp only;rw[aL (show(0:Int)≤(p:Int)by omega)]
   refine h2.up fun n h=> ?_
   show lZ (S.step (S.tab n)) _=_;rw[oT,az hd,h,an7];dsimp only;rw[aL (show(0:Int)≤(p:Int)by omega)]
  ·show kH (S.step (S.tab n)) _=_;rw[oV,az hd,h,an7];dsimp only;rw[aL (show(0:Int)≤(p:Int)by omega)]
 have ai0:∀t∈out,1≤kd t∧kd t≤78:=fun t ht=>by
  rcases h9 t ht with⟨i,line,t0,hi,_,_,hl,rfl⟩|⟨i,line,_,_,_,rfl⟩
  ·exact⟨(AT hl).1,(AT hl).2.1⟩
  ·exact⟨by show(1:Int)≤5;decide,by show(5:Int)≤78;decide⟩
 have ai8:∀t∈out,∀c∈t.2.2.2.2.2.1,isByte c:=fun t ht=>by
  rcases h9 t ht with⟨i,line,t0,hi,_,_,hl,rfl⟩|⟨i,line,_,_,_,rfl⟩
  ·have:=N9 yI hl;exact this
  ·exact fun _ h=>nomatch h
 have PZ:=Ia ga gb hn (k:=6) (by decide) (by decide);obtain⟨ds,jW,_,_,PJ⟩:=zI (k:=6) (by decide) (by decide) cs yJ b top gb.ok hr;have ot:=Ee (k:=6) (by decide) (by decide) a ga
 have PJ:Evt fun n=>jR (S.tab n) (cs,()) top 6=some ((jW,iW b 6,()),(cs++ds,()),(),(),()):=PJ
 have ot:Evt fun n=>jM (S.tab n) (a++[6]) 6=some (p8 a 6,ab):=ot
 have RF:Evt fun n=>lj (S.tab n) s=some (bif p8 a 6 then((out++[(6,(s.length:Int),(s.length:Int),(line:Int),0,([]:LI),())],(-1:Int),()),aa)else(([],(s.length:Int),()),aa)):=(e2.and PJ).up fun n ⟨h,hf⟩=>by
  show lj (S.step (S.tab n)) _=_;rw[tw,h,an7];dsimp only;rw[az (by rfl),hf,an7];dsimp only;rw[←PZ]
  cases p8 a 6 with
  |true=>exact az rfl
  |false=>exact ad rfl
 cases hc:p8 a 6 with
 |false=>
  rw[hc]at RF ot;refine⟨1,(s.length:Int),[],(fun _ h=>nomatch h),by simp,fun h=>absurd h (by decide),RF.up fun n h=> ?_,(e1.and ot).up fun n ⟨h,h2⟩=> ?_⟩
  ·show lZ (S.step (S.tab n)) _=_;rw[oT,az hd,h];simp only[ao8,an7];rw[aL (show(0:Int)≤(s.length:Int)by omega)]
  ·show kH (S.step (S.tab n)) _=_;rw[oV,az hd,h,an7];dsimp only;rw[az (by rfl),h2,an7];exact ad rfl
 |true=>
  rw[hc]at RF ot
  have Ql:∀k∈out.map kd,0≤k∧k≤78:=fun k hk=>by
   obtain⟨t,ht,rfl⟩:=List.mem_map.1 hk;have:=ai0 t ht;exact⟨by omega,this.2⟩
  have Yv:∀a:Nat,0≤KA out a∧KA out a≤78:=fun a=>by
   unfold KA
   rcases Nat.lt_or_ge a (out.map kd).length with h|h
   ·rw[ap9,ap8 h];exact Ql _ (as4 h)
   ·rw[ap9,List.getElem?_eq_none h];exact⟨by decide,by decide⟩
  have aj8:∀a:Nat,∀c∈(tkA out a).2.2.2.2.2.1,isByte c:=fun a=>by
   unfold tkA at_;rw[Int.toNat_natCast]
   rcases Nat.lt_or_ge a out.length with h|h
   ·rw[ap9,ap8 h];exact ai8 _ (as4 h)
   ·rw[ap9,List.getElem?_eq_none h];exact fun _ h=>nomatch h
  have hL:out.length≤65536:=(by omega)
  let eI:ak.den:=(6,0,0,0,0,([]:LI),())
  let eS:ak.den:=(6,(s.length:Int),(s.length:Int),(line:Int),0,([]:LI),())
  let G:Toks:=⟨out,out++[eI],out++[eS],(by simp),(by simp),(fun a h=>s4 h),(fun a h=>s4 h),(fun a h=>A1 rfl h),(fun a h=>A1 rfl h),hL,Yv,aj8,VD rfl rfl hL⟩
  have hA:Ac out [1000] 0:=⟨a,by rw[List.drop_zero];exact h8,IT ga (Sd _ Ql Sc (by decide) h8) hc⟩;obtain⟨xs,nd,q1,q2,q3,qI,qS⟩:=Ka G hA;have q2:nd.length≤4*out.length:=q2
  have hw:=fun x hx=>q3 x hx
  generalize Eu:nd++[((1,0,(s.length:Int),1,0,0,([]:LI),[],xs,()):Node)]=ns
  have hN:∀x∈ns,NodeOk x:=fun x hx=>by
   rw[←Eu]at hx
   rcases aq6.1 hx with hx|hx
   ·exact q3 x hx
   ·rw[List.mem_singleton.1 hx];exact vh (by omega)
  have JD:ns.length=nd.length+1:=by rw[←Eu];simp
  have U1:Evt fun n=>qq (S.tab n) s (out++[(6,(s.length:Int),(s.length:Int),(line:Int),0,([]:LI),())])=some ((ns,()),ab):=qS.up fun n h=>by
   have h:ie (S.tab n) (out++[(6,(s.length:Int),(s.length:Int),(line:Int),0,([]:LI),())],0,[],()) 6=_:=h;show qq (S.step (S.tab n)) _ _=_;rw[BN,h,an7];dsimp only;rw[ad (dY (by unfold lim;simp only[ao0,ao2];omega)),Eu]
  have Yf:Evt fun n=>gJ (S.tab n) (G.tI,(out.length:Int),nd,()) (1,0,(s.length:Int),1,0,0,([]:LI),[],xs,())=some ((nd.length:Int),(G.tI,(out.length:Int),ns,()),uN,()):=
   G.base.mono fun n B=>by rw[B.aI _ _ _ (by omega),Eu]
  have Jw:Evt fun n=>lZ (S.tab n) s=some (bif decide ((rP ns).1=0)then((0,0,(ns,()),()),aa)else((2,0,([],()),()),aa)):=((RF.and U1).and (CP hN)).up fun n ⟨⟨h1,h2⟩,h3⟩=>by
   show lZ (S.step (S.tab n)) _=_;rw[oT,az hd,h1];simp only[ap3,an7];rw[az (by rfl),h2,an7];dsimp only;rw[h3,Option.map_some,an7]
   cases decide ((rP ns).1=0)with
   |true=>exact az rfl
   |false=>exact ad rfl
  have Vo:Evt fun n=>kH (S.tab n) s=some (bif decide ((rP ns).1=0)then((0,0,(ns,()),()),aa)else((2,0,([],()),()),aa)):=((((e1.and ot).and qI).and Yf).and (EW hN)).up fun n ⟨⟨⟨⟨h1,h2⟩,h3⟩,h4⟩,h5⟩=>by
   have h3:fk (S.tab n) (out++[(6,0,0,0,0,([]:LI),())],0,[],())=_:=h3;have h4:gJ (S.tab n) (G.tI,(G.out.length:Int),nd,()) _=_:=h4;show kH (S.step (S.tab n)) _=_;rw[oV,az hd,h1,an7];dsimp only;rw[az (by rfl),h2,an7];dsimp only;rw[az (by rfl),ad (dY (by unfold lim;simp only[ao0,ao2];omega)),h3,an7];dsimp only;rw[h4,an7];dsimp only;rw[h5,Option.map_some,an7]
   cases decide ((rP ns).1=0)with
   |true=>exact az rfl
   |false=>exact ad rfl
  cases ht:decide ((rP ns).1=0)with
  |true=>
   rw[ht]at Jw Vo;exact⟨0,0,ns,hN,by omega,fun _=>of_decide_eq_true ht,Jw,Vo⟩
  |false=>
   rw[ht]at Jw Vo;exact⟨2,0,[],(fun _ h=>nomatch h),by simp,fun h=>absurd h (by decide),Jw,Vo⟩
end Go.Abs.D
end

section

end

section
namespace Go.Abs.D
theorem GG {α:Type}(pre:List α)(x y:α)(r:List α):(pre++x::r).set pre.length y=pre++y::r:=by
 rw[List.set_append_right _ _ (aq2 _),Nat.sub_self];rfl
theorem w6 {k:Int}(h0:0<k)(h1:k<1000000000000):i64.wrap (k+1)=k+1∧i64.wrap (k+1+1)=k+2∧i64.wrap (k+2+1)=k+3∧i64.wrap (k+3+1)=k+4∧i64.wrap (k+4+1)=k+5∧i64.wrap (k+5+1)=k+6:=by
 refine⟨?_, ?_, ?_, ?_, ?_, ?_⟩<;>rw[wrap64 _ (by omega) (by omega)]<;>omega
end Go.Abs.D
end

section
namespace Go.Abs.D
def dgs:Nat→Int→LI→LI
 |0,_,o=>o
 |k+1,v,o=>bif decide (0<v)then dgs k (v/10) ((48+v % 10)::o)else o
theorem vO:∀(k:Nat)(v:Int)(o:LI),0≤v→v<10^k→k≤18→o.length+k≤100→Evt fun n=>mf (S.tab n) v o=some (Sum.inl (dgs k v o,()))
 |0,v,o,h0,h1,_,_=>aD.up fun n _=>by
  rw[mE,az (by simp only[ao5];simp at h1;omega)];rfl
 |k+1,v,o,h0,h1,hk,ho=>by
  by_cases hv:0<v
  ·have hp:(10:Int)^(k+1)=10^k*10:=Int.pow_succ ..
   have SA:(10:Int)^(k+1)≤10^18:=by
    have:∀j:Fin 19,(10:Int)^j.1≤10^18:=(by decide);exact this ⟨k+1,by omega⟩
   have em:v.tmod 10=v % 10:=Int.tmod_eq_emod_of_nonneg h0;have ed:v.tdiv 10=v/10:=Int.tdiv_eq_ediv_of_nonneg h0;have w1:i64.wrap (48+v % 10)=48+v % 10:=wrap64 _ (by omega) (by omega);have w2:u8.wrap (48+v % 10)=48+v % 10:=zL _ (by omega) (by omega);have w3:i64.wrap (v/10)=v/10:=wrap64 _ (by omega) (by omega)
   have wb:([48+v % 10]:LI).map byte=[48+v % 10]:=Ob fun c hc=>by
    have:c=48+v % 10:=(by simpa using hc);subst this;exact⟨by omega,by omega⟩
   refine(vO k (v/10) ((48+v % 10)::o) (by omega) (by omega) (by omega) (by simp;omega)).up fun n h=> ?_
   rw[mE,aL hv,em,ed,w1,w2,w3,wb,ad (dY (by unfold lim;simp only[List.length_singleton];omega))];unfold dgs;rw[an8 hv];exact h
  ·refine aD.up fun n _=> ?_
   unfold dgs;rw[mE,aH hv,an6 hv];rfl
def rO (v:Int):LI:=109::dgs 18 v []
theorem Ly:∀(k:Nat)(v:Int)(o:LI),(dgs k v o).length≤o.length+k
 |0,_,_=>aq2 _
 |k+1,v,o=>by
  unfold dgs
  cases decide (0<v)with
  |true=>have:=Ly k (v/10) ((48+v % 10)::o);simp at this⊢;omega
  |false=>simp
theorem sB (v:Int)(h0:0<v)(h1:v<1000000000000000000):Evt fun n=>jc (S.tab n) v=some (rO v,aa):=(vO 18 v [] (by omega) h1 (by omega) (by simp)).up fun n h=>by
 have:=Ly 18 v [];rw[Ad,aH (by omega),h];simp only[an7,aN,aq0];rw[ad (dY (by unfold lim;simp at this;omega))];rfl
end Go.Abs.D
end

section
namespace Go.Abs.D
theorem OX {τ:Ty}(pre:List τ.den)(x:τ.den)(r:List τ.den):at_ (pre++x::r) (pre.length:Int)=x:=by
 unfold at_;rw[Int.toNat_natCast];exact pG pre x r _
theorem QW {τ:Ty}(pre:List τ.den)(x:τ.den)(r:List τ.den)(f:τ.den→τ.den):cH (pre++x::r) (pre.length:Int) f=pre++f x::r:=by
 unfold cH;rw[OX,Int.toNat_natCast];exact GG pre x (f x) r
theorem upn (pre:List ae.den)(x:ae.den)(r:List ae.den)(f:ae.den→ae.den):cH (τ:=ae) (pre++x::r) (pre.length:Int) f=pre++f x::r:=QW (τ:=ae) pre x r f
theorem atn (pre:List ae.den)(x:ae.den)(r:List ae.den):at_ (τ:=ae) (pre++x::r) (pre.length:Int)=x:=OX (τ:=ae) pre x r
theorem og {α:Type}(pre:List α)(x:α)(r:List α):(decide ((0:Int)≤(pre.length:Int))&&decide ((pre.length:Int)<((pre++x::r).length:Int)))=true:=al (by simp)
def mkS:Int→List LI→List LI
 |_,[]=>[]
 |k,_::r=>rO k::mkS (k+1) r
def mkI:Int→LI→LI
 |_,[]=>[]
 |k,_::r=>k::mkI (k+1) r
theorem Lp:∀(l:List LI)(k:Int),(mkS k l).length=l.length
 |[],_=>rfl
 |_::r,k=>by simp[mkS,Lp r (k+1)]
theorem LD:∀(l:LI)(k:Int),(mkI k l).length=l.length
 |[],_=>rfl
 |_::r,k=>by simp[mkI,LD r (k+1)]
theorem II:∀(r pre:List LI)(k:Int),0<k→k+r.length<1000000000000000→(pre++r).length≤2097152→
  Evt fun n=>iP (S.tab n) (pre++r) k (pre.length:Int)=some (Sum.inl (pre++mkS k r,k+(r.length:Int),()))
 |[],pre,k,_,_,_=>aD.up fun n _=>by
  rw[nP,az (by simp)];simp[mkS]
 |m::r,pre,k,h0,h1,hl=>by
  have hlen:(pre++m::r).length=pre.length+(r.length+1):=(by simp);simp only[ao0]at h1;have ih:=II r (pre++[rO k]) (k+1) (by omega) (by omega) (by simpa using hl)
  refine(ih.and (sB k h0 (by omega))).up fun n ⟨ih,hm⟩=> ?_
  rw[nP,aL (by omega),hm,an7,ad (og pre m r),Int.toNat_natCast,GG,bD (by omega),wrap64 (k+1) (by omega) (by omega)];have e1:(pre++[rO k])++r=pre++rO k::r:=(by simp);have e2:(pre++[rO k]).length=pre.length+1:=(by simp);rw[e1,e2]at ih;rw[ih];simp[mkS];omega
theorem Ou (l:List LI)(k:Int)(h0:0<k)(h1:k+l.length<1000000000000000)(hl:l.length≤2097152):Evt fun n=>j6 (S.tab n) l k=some (k+(l.length:Int),mkS k l,(),()):=
 (II l [] k h0 h1 (by simpa using hl)).up fun n h=>by
  have h:iP (S.tab n) l k 0=some (Sum.inl (mkS k l,k+(l.length:Int),())):=h;rw[xo,h];rfl
theorem H5:∀(r pre:LI)(k:Int),0<k→k+r.length<1000000000000000→(pre++r).length≤2097152→
  Evt fun n=>j8 (S.tab n) (pre++r) k (pre.length:Int)=some (Sum.inl (pre++mkI k r,k+(r.length:Int),()))
 |[],pre,k,_,_,_=>aD.up fun n _=>by
  rw[qc,az (by simp)];simp[mkI]
 |m::r,pre,k,h0,h1,hl=>by
  have hlen:(pre++m::r).length=pre.length+(r.length+1):=(by simp);simp only[ao0]at h1;have ih:=H5 r (pre++[k]) (k+1) (by omega) (by omega) (by simpa using hl)
  refine ih.up fun n ih=> ?_
  rw[qc,aL (by omega),ad (og pre m r),Int.toNat_natCast,GG,bD (by omega),wrap64 (k+1) (by omega) (by omega)];have e1:(pre++[k])++r=pre++k::r:=(by simp);have e2:(pre++[k]).length=pre.length+1:=(by simp);rw[e1,e2]at ih;rw[ih];simp[mkI];omega
theorem Of (l:LI)(k:Int)(h0:0<k)(h1:k+l.length<1000000000000000)(hl:l.length≤2097152):Evt fun n=>mJ (S.tab n) l k=some (k+(l.length:Int),mkI k l,(),()):=
 (H5 l [] k h0 h1 (by simpa using hl)).up fun n h=>by
  have h:j8 (S.tab n) l k 0=some (Sum.inl (mkI k l,k+(l.length:Int),())):=h;rw[Ae,h];rfl
def nd (k:Int)(x:ae.den):ae.den:=(k,k+1,k+2,k+3,k+4,k+5,rO (k+6),mkS (k+7) (aM x),mkI (k+7+((aM x).length:Int)) (ao x),())
def nx (k:Int)(x:ae.den):Int:=k+7+((aM x).length:Int)+((ao x).length:Int)
def mkN:Int→List ae.den→List ae.den
 |_,[]=>[]
 |k,x::r=>nd k x::mkN (nx k x) r
def kN:Int→List ae.den→Int
 |k,[]=>k
 |k,x::r=>kN (nx k x) r
theorem Ll:∀(l:List ae.den)(k:Int),(mkN k l).length=l.length
 |[],_=>rfl
 |x::r,k=>by simp[mkN,Ll r (nx k x)]
theorem I1:∀(l:List ae.den)(k:Int),k≤kN k l
 |[],k=>Int.le_refl _
 |x::r,k=>by
  have:=I1 r (nx k x);unfold kN;unfold nx at this⊢;omega
theorem Pg:∀(l:List ae.den)(k:Int),(∀x∈l,NodeOk x)→kN k l≤k+(l.length:Int)*4194311
 |[],k,_=>by unfold kN;simp
 |x::r,k,h=>by
  have ih:=Pg r (nx k x) (fun y hy=>h y (ap6 _ hy));have hx:=h x (ap7 ..);have a:=hx.nn;have b:=hx.nk;unfold kN
  have e:nx k x≤k+4194311:=by unfold nx;omega
  simp only[ao0];omega
theorem w7 {k:Int}(h0:0<k)(h1:k<1000000000000000):i64.wrap (k+1)=k+1∧i64.wrap (k+1+1)=k+2∧i64.wrap (k+2+1)=k+3∧i64.wrap (k+3+1)=k+4∧i64.wrap (k+4+1)=k+5∧i64.wrap (k+5+1)=k+6∧i64.wrap (k+6+1)=k+7:=by
 refine⟨?_, ?_, ?_, ?_, ?_, ?_, ?_⟩<;>rw[wrap64 _ (by omega) (by omega)]<;>omega
theorem JI {T:S.Tab}(pre:List ae.den)(x:ae.den)(r:List ae.den)(k:Int)(h0:0<k)(hk:nx k x<1000000000000000)(hl:(pre++x::r).length≤2097152)
  (hm:jc T (k+6)=some (rO (k+6),aa)) (hs:j6 T (aM x) (k+7)=some (k+7+((aM x).length:Int),mkS (k+7) (aM x),(),()))
  (hi:mJ T (ao x) (k+7+((aM x).length:Int))=some (k+7+((aM x).length:Int)+((ao x).length:Int),mkI (k+7+((aM x).length:Int)) (ao x),(),())):
  gp (S.step T) (pre++x::r) k (pre.length:Int)=gp T (pre++nd k x::r) (nx k x) ((pre.length+1:Nat):Int):=by
 have hlen:(pre++x::r).length=pre.length+(r.length+1):=(by simp);have SA:=hk;unfold nx at SA;obtain⟨w1,w2,w3,w4,w5,w6,w7⟩:=w7 h0 (show k<1000000000000000 by omega);rw[pv,aL (by omega)];simp only[w1,w2,w3,w4,w5,w6,w7];obtain⟨x1,x2,x3,x4,x5,x6,x7,x8,x9,_⟩:=x;have hs:j6 T x8 (k+7)=some (k+7+(x8.length:Int),mkS (k+7) x8,(),()):=hs;have hi:mJ T x9 (k+7+(x8.length:Int))=some (k+7+(x8.length:Int)+(x9.length:Int),mkI (k+7+(x8.length:Int)) x9,(),()):=hi;rw[upn];dsimp only;rw[upn];dsimp only;rw[upn];dsimp only;rw[upn];dsimp only;rw[upn];dsimp only;rw[upn];dsimp only;rw[ad (og pre _ _),ad (og pre _ _),ad (og pre _ _),ad (og pre _ _),ad (og pre _ _),ad (og pre _ _),hm,an7,upn];dsimp only;rw[ad (og pre _ _),ad (og pre _ _),atn];dsimp only;rw[hs,an7,upn];dsimp only;rw[ad (og pre _ _),atn];dsimp only;rw[hi,an7,upn,bD (by omega)];rfl
theorem H9:∀(r pre:List ae.den)(k:Int),0<k→kN k r<1000000000000000→(∀x∈r,NodeOk x)→(pre++r).length≤2097152→
  Evt fun n=>gp (S.tab n) (pre++r) k (pre.length:Int)=some (Sum.inl (pre++mkN k r,kN k r,()))
 |[],pre,k,_,_,_,_=>aD.up fun n _=>by
  rw[pv,az (by simp)];simp[mkN,kN]
 |x::r,pre,k,h0,h1,hN,hl=>by
  have hx:=hN x (ap7 ..)
  have hk:nx k x<1000000000000000:=by
   have:=I1 r (nx k x);unfold kN at h1;omega
  have SA:=hk;unfold nx at SA;have ih:=H9 r (pre++[nd k x]) (nx k x) (by unfold nx;omega) h1 (fun y hy=>hN y (ap6 _ hy)) (by simpa using hl);have e1:(pre++[nd k x])++r=pre++nd k x::r:=(by simp);have e2:(pre++[nd k x]).length=pre.length+1:=(by simp);have e3:(pre++[nd k x])++mkN (nx k x) r=pre++mkN k (x::r):=(by simp[mkN]);rw[e1,e2,e3]at ih;have hs:=Ou (aM x) (k+7) (by omega) (by omega) hx.nn;have hi:=Of (ao x) (k+7+((aM x).length:Int)) (by omega) (by omega) hx.nk
  exact(ih.and ((sB (k+6) (by omega) (by omega)).and (hs.and hi))).up fun n ⟨ih,hm,hs,hi⟩=>(JI pre x r k h0 hk hl hm hs hi).trans ih
theorem HG (l:List ae.den)(hN:∀x∈l,NodeOk x)(hl:l.length≤2097152):Evt fun n=>sT (S.tab n) (l,()) 1=some (kN 1 l,(mkN 1 l,()),(),()):=by
 have hk:kN 1 l<1000000000000000:=by
  have:=Pg l 1 hN;have:(l.length:Int)*4194311≤2097152*4194311:=Int.mul_le_mul_of_nonneg_right (by omega) (by decide);omega
 have h1:Evt fun n=>nZ (S.tab n) l 1=some (kN 1 l,mkN 1 l,(),()):=(H9 l [] 1 (by decide) hk hN (by simpa using hl)).up fun n h=>by
  have h:gp (S.tab n) l 1 0=some (Sum.inl (mkN 1 l,kN 1 l,())):=h;rw[yO,h];rfl
 exact h1.up fun n h=>by
  rw[AD];show(nZ (S.tab n) l 1).bind _=_;rw[h];rfl
end Go.Abs.D
end

section
namespace Go.Abs.D
theorem IL:∀(r pre:LI)(k:Int),0<k→k+r.length<1000000000000000→(pre++r).length≤2097152→
  Evt fun n=>j9 (S.tab n) (pre++mkI k r) k (pre.length:Int)=some (Sum.inr (Sum.inl (k+(r.length:Int),())))
 |[],pre,k,_,_,_=>aD.up fun n _=>by
  rw[qj,az (by simp[mkI])];simp
 |m::r,pre,k,h0,h1,hl=>by
  have hlen:(pre++m::r).length=pre.length+(r.length+1):=(by simp);have PK:(pre++mkI k (m::r)).length=pre.length+(r.length+1):=(by simp[mkI,LD]);simp only[ao0]at h1;have ih:=IL r (pre++[k]) (k+1) (by omega) (by omega) (by simpa using hl)
  refine ih.up fun n ih=> ?_
  rw[qj,aL (by omega)];unfold mkI;have hg:(pre++k::mkI (k+1) r).getD (pre.length:Int).toNat 0=k:=pG pre _ _ 0;rw[ad (og pre _ _),hg,az (by simp),bD (by omega),wrap64 (k+1) (by omega) (by omega)];have e1:(pre++[k])++mkI (k+1) r=pre++k::mkI (k+1) r:=(by simp);have e2:(pre++[k]).length=pre.length+1:=(by simp);rw[e1,e2]at ih;rw[ih];simp;omega
theorem NV (l:LI)(k:Int)(h0:0<k)(h1:k+l.length<1000000000000000)(hl:l.length≤2097152):Evt fun n=>mL (S.tab n) (mkI k l) k=some (k+(l.length:Int),ab):=
 (IL l [] k h0 h1 (by simpa using hl)).up fun n h=>by
  have h:j9 (S.tab n) (mkI k l) k 0=some (Sum.inr (Sum.inl (k+(l.length:Int),()))):=h;rw[AB,h];rfl
end Go.Abs.D
end

section
namespace Go.Abs.D
theorem Iy:∀(r pre:List LI)(k:Int),0<k→k+r.length<1000000000000000→(pre++r).length≤2097152→
  Evt fun n=>iR (S.tab n) (pre++mkS k r) k (pre.length:Int)=some (Sum.inr (Sum.inl (k+(r.length:Int),())))
 |[],pre,k,_,_,_=>aD.up fun n _=>by
  rw[nO,az (by simp[mkS])];simp
 |m::r,pre,k,h0,h1,hl=>by
  have hlen:(pre++m::r).length=pre.length+(r.length+1):=(by simp);have PK:(pre++mkS k (m::r)).length=pre.length+(r.length+1):=(by simp[mkS,Lp]);simp only[ao0]at h1;have ih:=Iy r (pre++[rO k]) (k+1) (by omega) (by omega) (by simpa using hl)
  refine(ih.and (sB k h0 (by omega))).up fun n ⟨ih,hm⟩=> ?_
  rw[nO,aL (by omega)];unfold mkS;have hg:(pre++rO k::mkS (k+1) r).getD (pre.length:Int).toNat []=rO k:=pG pre _ _ [];rw[ad (og pre _ _),hm,an7,hg,az (by simp),bD (by omega),wrap64 (k+1) (by omega) (by omega)];have e1:(pre++[rO k])++mkS (k+1) r=pre++rO k::mkS (k+1) r:=(by simp);have e2:(pre++[rO k]).length=pre.length+1:=(by simp);rw[e1,e2]at ih;rw[ih];simp;omega
theorem N5 (l:List LI)(k:Int)(h0:0<k)(h1:k+l.length<1000000000000000)(hl:l.length≤2097152):Evt fun n=>j7 (S.tab n) (mkS k l) k=some (k+(l.length:Int),ab):=
 (Iy l [] k h0 h1 (by simpa using hl)).up fun n h=>by
  have h:iR (S.tab n) (mkS k l) k 0=some (Sum.inr (Sum.inl (k+(l.length:Int),()))):=h;rw[xr,h];rfl
theorem Kg {T:S.Tab}(pre:List ae.den)(x:ae.den)(r:List ae.den)(k:Int)(h0:0<k)(hk:nx k x<1000000000000000)(hl:(pre++nd k x::r).length≤2097152)
  (hm:jc T (k+6)=some (rO (k+6),aa)) (hs:j7 T (mkS (k+7) (aM x)) (k+7)=some (k+7+((aM x).length:Int),ab))
  (hi:mL T (mkI (k+7+((aM x).length:Int)) (ao x)) (k+7+((aM x).length:Int))=some (k+7+((aM x).length:Int)+((ao x).length:Int),ab)):
  gu (S.step T) (pre++nd k x::r) k (pre.length:Int)=gu T (pre++nd k x::r) (nx k x) ((pre.length+1:Nat):Int):=by
 have hlen:(pre++nd k x::r).length=pre.length+(r.length+1):=(by simp);have SA:=hk;unfold nx at SA;obtain⟨w1,w2,w3,w4,w5,w6,w7⟩:=w7 h0 (show k<1000000000000000 by omega);have kY:(decide ((0:Int)≤(pre.length:Int))&&decide ((pre.length:Int)<((pre++nd k x::r).length:Int)))=true:=og pre _ _;rw[px,aL (by omega)];simp only[w1,w2,w3,w4,w5,w6,w7];rw[atn];rw[ad kY,az (by simp[nd]),ad kY,az (by simp[nd]),ad kY,az (by simp[nd]),ad kY,az (by simp[nd]),ad kY,az (by simp[nd]),ad kY,az (by simp[nd]),ad kY,hm,an7,az (by simp[nd]),ad kY];have hs:j7 T (nd k x).2.2.2.2.2.2.2.1 (k+7)=_:=hs;have hi:mL T (nd k x).2.2.2.2.2.2.2.2.1 (k+7+((aM x).length:Int))=_:=hi;rw[hs,an7,aH (by omega),ad kY,hi,an7,aH (by omega),bD (by omega)];rfl
theorem Ip:∀(r pre:List ae.den)(k:Int),0<k→kN k r<1000000000000000→(∀x∈r,NodeOk x)→(pre++r).length≤2097152→
  Evt fun n=>gu (S.tab n) (pre++mkN k r) k (pre.length:Int)=some (Sum.inr (Sum.inl (kN k r,())))
 |[],pre,k,_,_,_,_=>aD.up fun n _=>by
  rw[px,az (by simp[mkN])];simp[kN]
 |x::r,pre,k,h0,h1,hN,hl=>by
  have PK:(pre++nd k x::mkN (nx k x) r).length=(pre++x::r).length:=by
   have:=Ll r (nx k x);rw[an9,an9,ao0,ao0,this]
  have hx:=hN x (ap7 ..)
  have hk:nx k x<1000000000000000:=by
   have:=I1 r (nx k x);unfold kN at h1;omega
  have SA:=hk;unfold nx at SA;have ih:=Ip r (pre++[nd k x]) (nx k x) (by unfold nx;omega) h1 (fun y hy=>hN y (ap6 _ hy)) (by simpa using hl);have hs:=N5 (aM x) (k+7) (by omega) (by omega) hx.nn;have hi:=NV (ao x) (k+7+((aM x).length:Int)) (by omega) (by omega) hx.nk;have e1:(pre++[nd k x])++mkN (nx k x) r=pre++nd k x::mkN (nx k x) r:=(by simp);have e2:(pre++[nd k x]).length=pre.length+1:=(by simp);rw[e1,e2]at ih
  exact(ih.and ((sB (k+6) (by omega) (by omega)).and (hs.and hi))).up fun n ⟨ih,hm,hs,hi⟩=>(Kg pre x _ k h0 hk (by rw[PK];exact hl) hm hs hi).trans ih
theorem HF (l:List ae.den)(hN:∀x∈l,NodeOk x)(hl:l.length≤2097152):Evt fun n=>sR (S.tab n) (mkN 1 l,()) 1=some (kN 1 l,ax):=by
 have hk:kN 1 l<1000000000000000:=by
  have:=Pg l 1 hN;have:(l.length:Int)*4194311≤2097152*4194311:=Int.mul_le_mul_of_nonneg_right (by omega) (by decide);omega
 have h1:Evt fun n=>nV (S.tab n) (mkN 1 l) 1=some (kN 1 l,ab):=(Ip l [] 1 (by decide) hk hN (by simpa using hl)).up fun n h=>by
  have h:gu (S.tab n) (mkN 1 l) 1 0=some (Sum.inr (Sum.inl (kN 1 l,()))):=h;rw[yW,h];rfl
 have h0:=I1 l 1
 exact h1.up fun n h=>by
  rw[Au];show(nV (S.tab n) (mkN 1 l) 1).bind _=_;rw[h,an7,aH (by omega)]
end Go.Abs.D
end

section
namespace Go.Abs.D
theorem JY (l:List LI)(hl:l.length≤2097152):Evt fun n=>n7 (S.tab n) l l=some (true,ab):=by
 have:=A5 (F:=fun T j=>fi T l l ↑j) (P:=fun _=>true) (l:=l) (yes:=Sum.inr (Sum.inl ())) (no:=Sum.inl (false,())) (q:=Base2) aD
  (fun T j h hT=>by
   show fi (S.step T) _ _ _=bif true then fi T l l ((j+1:Nat):Int)else _
   rw[pn,aL (by omega),ad (al h),ad (al h),az (by simp),bD (by omega)];rfl)
  (fun T hT=>by
   show fi (S.step T) _ _ _=_
   rw[pn,az (by simp)]) l.length 0 (by omega)
 refine this.up fun n h=> ?_
 have e:(l.drop 0).all (fun _=>true)=true:=(by simp);rw[e]at h;have h:fi (S.tab n) l l 0=_:=h;rw[yX,az (by simp),h];rfl
theorem JM (l:LI)(hl:l.length≤2097152):Evt fun n=>sw (S.tab n) l l=some (true,ab):=by
 have:=A5 (F:=fun T j=>ig T l l ↑j) (P:=fun _=>true) (l:=l) (yes:=Sum.inr (Sum.inl ())) (no:=Sum.inl (false,())) (q:=Base2) aD
  (fun T j h hT=>by
   show ig (S.step T) _ _ _=bif true then ig T l l ((j+1:Nat):Int)else _
   rw[r9,aL (by omega),ad (al h),ad (al h),az (by simp),bD (by omega)];rfl)
  (fun T hT=>by
   show ig (S.step T) _ _ _=_
   rw[r9,az (by simp)]) l.length 0 (by omega)
 refine this.up fun n h=> ?_
 have e:(l.drop 0).all (fun _=>true)=true:=(by simp);rw[e]at h;have h:ig (S.tab n) l l 0=_:=h;rw[CM,az (by simp),h];rfl
theorem HB {x:ae.den}(hx:NodeOk x):Evt fun n=>pE (S.tab n) x x=some (true,dM):=((JY (aM x) hx.nn).and (JM (ao x) hx.nk)).up fun n ⟨h1,h2⟩=>by
 have d:∀(x:Int),(!decide (x=x))=false:=fun x=>by simp
 have d':∀(x:LI),(!decide (x=x))=false:=fun x=>by simp
 have h1:n7 (S.tab n) x.2.2.2.2.2.2.2.1 x.2.2.2.2.2.2.2.1=_:=h1;have h2:sw (S.tab n) x.2.2.2.2.2.2.2.2.1 x.2.2.2.2.2.2.2.2.1=_:=h2;rw[C6,az (d _),az (d _),az (d _),az (d _),az (d _),az (d _),az (d' _),h1,an7,az (by rfl),h2,an7,az (by rfl)]
theorem HQ (ns:List ae.den)(hN:∀x∈ns,NodeOk x)(hl:ns.length≤2097152):Evt fun n=>vY (S.tab n) (ns,()) (ns,())=some (true,sL):=by
 have rT:∀(l:List ae.den),(∀x∈l,NodeOk x)→Evt fun n=>∀x∈l,pE (S.tab n) x x=some (true,dM):=by
  intro l
  induction l with
  |nil=>intro _;exact Evt.of fun _ j h=>by cases h
  |cons a l ih=>
   intro h
   refine((HB (h a (ap7 ..))).and (ih fun j hj=>h j (ap6 _ hj))).mono fun n ⟨h1,h2⟩ j hj=> ?_
   rcases ar5.1 hj with rfl|hj
   ·exact h1
   ·exact h2 j hj
 have:=A5 (F:=fun T j=>gH T ns ns ↑j) (P:=fun _=>true) (l:=ns) (yes:=Sum.inr (Sum.inl ())) (no:=Sum.inl (false,())) (q:=fun T=>∀x∈ns,pE T x x=some (true,dM)) (rT ns hN)
  (fun T j h hT=>by
   show gH (S.step T) _ _ _=bif true then gH T ns ns ((j+1:Nat):Int)else _
   rw[qV,aL (by omega),ad (al h),ad (al h),uF _ _ h,hT _ (as4 h),an7,az (by rfl),bD (by omega)];rfl)
  (fun T hT=>by
   show gH (S.step T) _ _ _=_
   rw[qV,az (by simp)]) ns.length 0 (by omega)
 have h2:Evt fun n=>qw (S.tab n) ns ns=some (true,ab):=this.up fun n h=>by
  have e:(ns.drop 0).all (fun _=>true)=true:=(by simp);rw[e]at h;have h:gH (S.tab n) ns ns 0=_:=h;rw[BF,az (by simp),h];rfl
 exact h2.up fun n h=>by
  rw[CS];show(qw (S.tab n) ns ns).bind _=_;rw[h,an7,az (by rfl)]
end Go.Abs.D
end

section
namespace Go.Abs.D
theorem ML (s:LI)(hG:(∀c∈s,isByte c)∧s.length≤maxLen):Evt fun n=>lD (S.tab n) s=some (true,aa):=by
 by_cases hs:1048576<s.length
 ·refine aD.up fun n _=> ?_
  show lD (S.step (S.tab n)) _=_;rw[pt,aL (by omega)]
 obtain⟨c,p,ns,hN,hl,_,e1,e2⟩:=Ov hG.1;have hl:ns.length≤2097152:=(by omega)
 have heq:Evt fun n=>mM (S.tab n) (c,p,(ns,()),()) (c,p,(ns,()),())=some (true,kP):=(HQ ns hN hl).up fun n h=>by
  show mM (S.step (S.tab n)) _ _=_;rw[Aa,az (by simp),az (by simp)];dsimp only;rw[h,an7,az (by rfl)]
 have ac6:Evt fun n=>mU (S.tab n) (c,p,(ns,()),()) 1=some (kN 1 ns,((),(),(mkN 1 ns,()),()),(),()):=(HG ns hN hl).up fun n h=>by
  show mU (S.step (S.tab n)) _ _=_;rw[yb];dsimp only;rw[h];rfl
 have Wo:=I1 ns 1
 have ak6:Evt fun n=>kM (S.tab n) (c,p,(mkN 1 ns,()),()) 1=some (kN 1 ns,nU):=(HF ns hN hl).up fun n h=>by
  show kM (S.step (S.tab n)) _ _=_;rw[yh];dsimp only;rw[h,an7,aH (by omega)]
 refine((e1.and e2).and (heq.and (ac6.and ak6))).up fun n ⟨⟨h1,h2⟩,hq,hk,hh⟩=> ?_
 show lD (S.step (S.tab n)) _=_;rw[pt,aH (by omega),h1,an7,h2,an7];dsimp only;rw[hq,Option.map_some,an7,az (by rfl)];dsimp only;rw[hk,an7];dsimp only;rw[hh,Option.map_some,an7,aH (by omega),az (by simp),an7];dsimp only;rw[hq,Option.map_some,an7,az (by rfl)]
 try dsimp only
 rw[hh,Option.map_some,an7,aH (by omega),az (by simp)]
end Go.Abs.D
end

section
namespace Go.Proofs.YtkmplfkiafonkaaGreatDoor
open Go.ChangeShapes Go.WideShapes Go.ChangeAt Go.RowKit
theorem Tb {r:Abs.Rd}{τ:Abs.Ty}{x:τ.den}{u:Value}(h:Abs.Rc r τ x [u])(h1:τ.one=true):Abs.oc u=true:=Abs.bl.Cl (g:=⟨r,fun _=>0,fun _ _=> .nilIface,fun _=>none,fun _=>none,fun _=>[]⟩) (c:= .v τ x) ⟨h1,h⟩
set_option maxRecDepth 100000 in
theorem Qw (W:World)(hL:laidMetH Tryz.prog Rows.fnExactParseRow.laid W)(v0:Value)(x0:List Int)(Z0:Abs.Rc (Abs.snap W) (.str) x0 [v0])(YE:Abs.Good (.str) x0):Calls Tryz.prog 4 #[v0] W fun e w'=>e= .returned (.bool true)∧Below W.heap.size W w':=by
 obtain⟨N,h⟩:=Abs.D.ML x0 YE
 have Qk:=(sys N).fn 4 (by kernel_rfl) (x0,()) (true,((),())) (h N (Nat.le_refl N)) (Abs.snap W) W [v0] [] (Rb hL) (fun b L hb=>Abs.Mx hb)
  ⟨_,_,[],[],rfl,rfl,⟨Tb Z0 rfl,rfl,rfl,_,rfl,Z0⟩,⟨rfl,rfl⟩⟩ List.nodup_nil (fun b hb=>by simp at hb) (Abs.BB.none rfl)
 refine(Abs.Ax Tryz.func4 rfl (by kernel_rfl) Qk).mono ?_;rintro e w' ⟨v,rfl,cZ,n1,n2,A,⟨_,h1,_,u,e2,h2⟩,h3⟩
 injection e2 with e2 _
 subst e2;have h2:[v]=[Value.bool true]:=h2
 injection h2 with h2 _
 subst h2;exact⟨rfl,A.below⟩
set_option maxRecDepth 100000 in
theorem My (os:Os)(started:os.Started)(H:Type)(enc:TypeId×Value→H):
  ReturnsInHanded {} Tryz.checked os 4 .any (fun w args=>(Rows.fnExactParseSpec.pre enc Tryz.prog Tryz.f4 Rows.fnExactParseRow.domain false w args∧laidMetH Tryz.prog Rows.fnExactParseRow.laid w)∧sizedMet enc Tryz.prog Tryz.f4 (OpenSpec.ofChange Rows.fnExactParseSpec) false w args)
   (Rows.fnExactParseSpec.post enc Tryz.prog Tryz.f4 false true false false):=by
 refine returnsInHanded_of_change_and (C:=Tryz.checked) (X:=fun w _=>laidMetH Tryz.prog Rows.fnExactParseRow.laid w) (fun _ _ _ hh h=>h.of_heap hh) own started (by kernel_rfl) Tryz.func4
  (ChangeSpec.witness_shaped (enc:=enc) (C:=Tryz.checked) (os:=os) (X:=fun w _=>laidMetH Tryz.prog Rows.fnExactParseRow.laid w) false (World.laidAll Tryz.prog os Rows.fnExactParseRow.laid) #[.string ByteArray.empty] 8 (World.laidAll_os _ _ _)
   (World.shaped_of_ZipB (by kernel_rfl) (by kernel_rfl)) (by kernel_rfl) (by kernel_rfl) (by kernel_rfl)
   (by rw[MakeChecks.laidMetH_plain _ _ _ (by kernel_rfl)];exact laidMet_laidAll _ (by kernel_rfl) (by kernel_rfl))) ?_
 intro W base args ds gs before Sv hW _ _ hL _;have M6:∀(j:Nat) t v,Tryz.f4.params[j]?=some t→args[j]?=some v→Value.okWide Tryz.prog W .any base t v:=Sv;have Zf:=hW;obtain⟨p,q,ZX,hV,rfl,hfz,mG⟩:=hW;have hA:DataW.TrodAll enc Tryz.prog W 0 (fun _=>true) true Tryz.f4.params.toList args.toList ds p:=ZX;rw[Tryz.params4]at hA M6;obtain⟨v0,vs0,d0,ds0,p0,q0,hargs0,rfl,rfl,h0,r0⟩:=trodAll_cons hA;obtain⟨rfl,rfl,rfl⟩:=trodAll_nil r0
 obtain rfl:args=#[v0]:=by cases args;simp_all
 obtain⟨a0,rfl,rfl,rfl,y0⟩:=Go.ChangeMaps.open_string Tryz.underlying9 (M6 0 9 v0 rfl rfl) h0;have YE:Abs.Good .str (Abs.bytesOf a0):=⟨Abs.vN a0,by rw[Abs.gw];exact y0⟩;have ak1:=zg hV
 match gs,ak1,hV,Zf with
 |[g1,g2,g3],_,hV,Zf=>
  clear ZX Sv
  refine(Qw W hL _ _ ⟨a0,rfl,rfl⟩ YE).mono fun e W' ⟨he,ZQ⟩=> ?_
  subst he;exact⟨_,rfl,_,_,_,[],_,_,Zf,trodAll_mk1 (shut_bool Tryz.underlying4 _),(trodAll_cons_mk (Go.ChangeMaps.shut_string Tryz.underlying9 y0) trodAll_mk0),Below.trodVars laidOut ZQ (by kernel_rfl) hV,ZQ.frame _,fun h=>by cases h⟩
theorem Tf:Rows.FnExactParseSaid:=
 OpenClaim.holds_of_wide 4 Tryz.f4 rfl rfl rfl rfl rfl rfl rfl ⟨rfl,rfl,rfl,rfl,rfl⟩ rfl rfl rfl rfl rfl (by kernel_rfl) Tryz.func4 (by kernel_rfl)
  (of_decide_eq_true (by kernel_rfl)) (by unfold Func.isWrapper;first|(rw[if_pos (by decide+kernel)];kernel_rfl)|(rw[if_neg (by decide+kernel)];exact⟨rfl,rfl⟩))
  (fun os started H enc _=>My os started H enc)
theorem fnExactParse_holds:Rows.FnExactParseCardSaid:=
 Claim7.holds_tied_plain_at .later [] [.data, .data, .data, .sentinel, .sentinel, .data, .data, .data] true (true, "964984a6e353a4e2adeb383b7bdedd62cbb3e624073b1565e69868e09556fc1f") true
  Tf (fun _ h=>by cases h) (by kernel_rfl) (fun _ h=>by cases h) fnExactParse_row_tie rfl ⟨rfl,rfl⟩ (by kernel_rfl) rfl
  (fun f fn hf Vj=>by
   obtain rfl:f=4:=Option.some.inj ((show Tryz.prog.funcNamed "loop.example/warp/laws.FnExactParse" =some 4 by kernel_rfl).symm.trans hf)|>.symm
   obtain rfl:fn=Tryz.f4:=(Option.some.inj (Tryz.func4.symm.trans Vj)).symm
   exact⟨by kernel_rfl,fun j t ht=>by
    rw[Tryz.params4]at ht
    have hm:t∈[9]:=by simpa using Array.mem_of_getElem? ht
    have rT:([9].all fun u=> !Tryz.prog.wantsStandIn u)=true:=by kernel_rfl
    exact(show Tryz.prog.wantsStandIn t=false by simpa using List.all_eq_true.1 rT t hm)⟩)
  (by kernel_rfl)
end Go.Proofs.YtkmplfkiafonkaaGreatDoor
#print axioms Go.Proofs.YtkmplfkiafonkaaGreatDoor.fnExactParse_holds
end
