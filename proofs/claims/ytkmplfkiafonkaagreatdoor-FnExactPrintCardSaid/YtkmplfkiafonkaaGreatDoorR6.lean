/- What is here: the reference's printer of statements. -/
import Derived.Test.YtkmplfkiafonkaaGreatDoorR5
import Derived.Test.YtkmplfkiafonkaaGreatDoorCards
set_option linter.unusedVariables false
set_option linter.unusedSimpArgs false
set_option maxRecDepth 100000
open Go.IntKind (i64 u64 u8)
section
namespace Go.Abs.D
def ifR (ns:List Node)(E G:Int→Nat→LI)(x:Node)(t:Nat):LI:=
 E ((ab x).getD 0 0) t++[32]++bA ns G ((ab x).getD 1 0) t++
  bif decide ((ab x).length=3)then(bif decide (kn (ad ns ((ab x).getD 2 0))=7)then [32,101,108]++G ((ab x).getD 2 0) t else [32,101,108,115,101,32]++bA ns G ((ab x).getD 2 0) t)else []
theorem Mu (ns:List Node)(E G:Int→Nat→LI)(x:Node)(t:Nat):ifT ns E G x t=[105,102,32]++ifR ns E G x t:=by
 unfold ifT ifR;simp only[V7]
theorem FY {x:Node}{P:Int→Prop}(h:∀j:Nat,j<(ab x).length→P ((ab x).getD j 0)):∀k∈ab x,P k:=fun k hm=>by
 obtain⟨j,hj,ej⟩:=List.mem_iff_getElem.1 hm;have:=h j hj;rw[Wm,Wl hj]at this;rw[←ej];exact this
section
variable{ns:List Node}(cE:∀i:Nat,i<ns.length→okN ns i (ad ns (i:Int))=true)
include cE
theorem HJ {i:Nat}(hi:i<ns.length)(hk:kn (ad ns (i:Int))=7){t:Nat}{E G:Int→Nat→LI}(hE:∀k∈ab (ad ns (i:Int)),kn (ad ns k)<40→RE ns k t (E k t))(hB:∀k∈ab (ad ns (i:Int)),RB ns k t (bA ns G k t))
  (hC:∀k∈ab (ad ns (i:Int)),kn (ad ns k)=7→∃r,G k t=[105,102,32]++r∧RC ns k t r) (gk:∀k∈ab (ad ns (i:Int)),∃j:Nat,k=(j:Int)∧j<i):RC ns ↑i t (ifR ns E G (ad ns ↑i) t):=by
 obtain⟨hl,_,_⟩:=sh7 (cE i hi) hk;have m0:=aG (x:=(ad ns ↑i)) (j:=0) (by omega);have m1:=aG (x:=(ad ns ↑i)) (j:=1) (by omega);have fB:=(hE _ m0 (en7 (cE i hi) hk (by omega))).zero;have wT:=hB _ m1;unfold ifR
 by_cases h3:(ab (ad ns ↑i)).length=3
 ·have m2:=aG (x:=(ad ns ↑i)) (j:=2) (by omega);obtain⟨k2,e2,b2⟩:=gk _ m2;have Q6:=hC _ m2;have Qt:=hB _ m2;rw[e2]at Q6 Qt;rw[VY h3,e2,Wg]
  by_cases h7:(ad ns ↑k2).1=7
  ·have Io:kn (ad ns ↑k2)=7:=h7;obtain⟨r,hr,hR⟩:=Q6 Io;rw[VY Io,Wg,hr];show RC ns ↑i t (E ((ab (ad ns ↑i)).getD 0 0) t++[32]++bA ns G ((ab (ad ns ↑i)).getD 1 0) t++([32,101,108,105,102,32]++r))
   refine(((cg ns t).and fB).and (wT.and hR)).up fun n ⟨⟨hw,h0⟩,h1,h2⟩ acc w hb=> ?_
   simp only[VZ,V0,V5]at hb;rw[kA,ep,hw _ _ (by omega),VX,ak (by omega)];dsimp only;rw[h0 _ (by simp only[VZ,V0,V5];omega),VX];dsimp only;rw[hw _ _ (by simp only[VZ,V0,V5];omega),VX,ak (by omega)];dsimp only;rw[h1 _ (by simp only[VZ,V0,V5];omega),VX,ae (by omega),ak (by omega),e2];dsimp only;rw[aj (fF (by omega) _ t),j5,ak h7,h2 _ _ (by simp only[VZ,V0,V5];omega),VX];simp only[V7]
  ·have Io:¬ kn (ad ns ↑k2)=7:=h7;rw[VW Io,Wb]
   refine(((cg ns t).and fB).and (wT.and Qt)).up fun n ⟨⟨hw,h0⟩,h1,h2⟩ acc w hb=> ?_
   simp only[VZ,V0,V5]at hb;rw[kA,ep,hw _ _ (by omega),VX,ak (by omega)];dsimp only;rw[h0 _ (by simp only[VZ,V0,V5];omega),VX];dsimp only;rw[hw _ _ (by simp only[VZ,V0,V5];omega),VX,ak (by omega)];dsimp only;rw[h1 _ (by simp only[VZ,V0,V5];omega),VX,ae (by omega),ak (by omega),e2];dsimp only;rw[aj (fF (by omega) _ t),j5,ae h7,hw _ _ (by simp only[VZ,V0,V5];omega),VX,ak (by omega)];dsimp only;rw[h2 _ (by simp only[VZ,V0,V5];omega),VX];simp only[V7]
 ·rw[VW h3,Wb,Wv]
  refine(((cg ns t).and fB).and wT).up fun n ⟨⟨hw,h0⟩,h1⟩ acc w hb=> ?_
  simp only[VZ,V0,V5]at hb;rw[kA,ep,hw _ _ (by omega),VX,ak (by omega)];dsimp only;rw[h0 _ (by simp only[VZ,V0,V5];omega),VX];dsimp only;rw[hw _ _ (by simp only[VZ,V0,V5];omega),VX,ak (by omega)];dsimp only;rw[h1 _ (by simp only[VZ,V0,V5];omega),VX,ak (by omega)];simp only[V7]
def RJ (ns:List Node)(i:Int)(t:Nat)(s:LI)(f:Bool):Prop:=Evt fun n=>∀acc:LI,acc.length+s.length≤MX→jd (S.tab n) (wst ns acc t) (ad ns i) (ad ns i).1 f=some (Sum.inl (wst ns (acc++s) t,()))
theorem Ln {i:Nat}(hi:i<ns.length){t:Nat}{E G:Int→Nat→LI}(hE:∀k∈ab (ad ns (i:Int)),kn (ad ns k)<40→RE ns k t (E k t))(hB:∀k∈ab (ad ns (i:Int)),RB ns k t (bA ns G k t))(h1:¬ (ad ns (i:Int)).1=1)(h2:¬ (ad ns (i:Int)).1=2)(h3:¬ (ad ns (i:Int)).1=3)(h4:¬ (ad ns (i:Int)).1=4)(h5:¬ (ad ns (i:Int)).1=5)(h6:¬ (ad ns (i:Int)).1=6)(h7:¬ (ad ns (i:Int)).1=7)(h8:¬ (ad ns (i:Int)).1=8):
  RJ ns ↑i t (cY ns E G (ad ns ↑i) ↑i t) (decide ((ad ns ↑i).1=9)||decide ((ad ns ↑i).1=10)):=by
 have fI:=cE i hi;have Ht:=(ik fI).2.1;obtain⟨Bg,yT⟩:=vY fI;have Qj:=AA ns t (al (ad ns ↑i)) (by omega)
 by_cases h9:(ad ns ↑i).1=9
 ·have hk:kn (ad ns ↑i)=9:=h9;have hl:=sh9 fI hk;have fP:=en9 fI hk
  have hL:=lY ns E t (ab (ad ns ↑i)).dropLast (by simp;omega) (fun k hm=>by
   obtain⟨j,hj,ej⟩:=List.mem_iff_getElem.1 hm;have Hr:j<(ab (ad ns ↑i)).length - 1:=(by simpa using hj);rw[List.getElem_dropLast]at ej;have Cy:=fP j Hr;rw[Wm,Wl (by omega)]at Cy;have Cy:kn (ad ns (ab (ad ns ↑i))[j])<40:=Cy;rw[ej]at Cy
   exact hE k (by rw[←ej];exact WO _) Cy)
  have wT:=hB _ (aG (x:=(ad ns ↑i)) (j:=(ab (ad ns ↑i)).length - 1) (by omega))
  have Mn:i64.wrap (((ab (ad ns ↑i)).length:Int) - 1)=(((ab (ad ns ↑i)).length - 1:Nat):Int):=by rw[wrap64 _ (by omega) (by omega)];omega
  have Mb:bounds (ab (ad ns ↑i)).length 0 (((ab (ad ns ↑i)).length - 1:Nat):Int)=true:=b9 (i:=0) (WQ _) (by omega)
  have hs:sub (ab (ad ns ↑i)) 0 (((ab (ad ns ↑i)).length - 1:Nat):Int)=(ab (ad ns ↑i)).dropLast:=by
   show((ab (ad ns ↑i)).take ((ab (ad ns ↑i)).length - 1)).drop 0=_;rw[List.drop_zero,List.dropLast_eq_take]
  unfold cY;rw[hk,VY h9,Wh];show RJ ns ↑i t ([102,111,114,32]++bj (al (ad ns ↑i))++[32,61,32]++cy E (ab (ad ns ↑i)).dropLast t++[32]++bA ns G ((ab (ad ns ↑i)).getD ((ab (ad ns ↑i)).length - 1) 0) t) true
  refine(((cg ns t).and Qj).and (hL.and wT)).up fun n ⟨⟨hw,hn⟩,hL,hB⟩ acc hb=> ?_
  simp only[VZ,V0,V5]at hb;rw[bD,ep,mm,mU,hw _ _ (by simp only[VZ,V0,V5];omega),VX];dsimp only;rw[hn _ (by simp only[VZ,V0,V5];omega),VX,ak h9];dsimp only;rw[hw _ _ (by simp only[VZ,V0,V5];omega),VX,Mn,aj Mb,hs];dsimp only;rw[hL _ (by simp only[VZ,V0,V5];omega),VX];dsimp only;rw[hw _ _ (by simp only[VZ,V0,V5];omega),VX,aj (av (by omega)),Int.toNat_natCast];dsimp only;rw[hB _ (by simp only[VZ,V0,V5];omega),VX];simp only[V7]
 by_cases tF:(ad ns ↑i).1=10
 ·have hk:kn (ad ns ↑i)=10:=tF;have hl:=NX fI hk
  obtain⟨k0,k1,qo⟩:∃k0 k1,ab (ad ns ↑i)=[k0,k1]:=by
   match hm:ab (ad ns ↑i),hl with
   |[a,b],_=>exact⟨a,b,rfl⟩
  have fP:=RH fI hk (by omega);have wT:=hB _ (aG (x:=(ad ns ↑i)) (j:=1) (by omega));have fB:=hE _ (aG (x:=(ad ns ↑i)) (j:=0) (by omega)) fP;rw[qo]at wT fB
  have hL:=lY ns E t [k0] (by simp) (fun k hm=>by
   rw[List.mem_singleton]at hm
   rw[hm];exact fB)
  have On:cy E [k0] t=E k0 t:=by unfold cy bj;simp
  rw[On]at hL;unfold cY;rw[hk,VW h9,Wd,VY tF,qo];show RJ ns ↑i t ([102,111,114,32]++bj (al (ad ns ↑i))++[32,105,110,32]++E k0 t++[32]++bA ns G k1 t) true
  refine(((cg ns t).and Qj).and (hL.and wT)).up fun n ⟨⟨hw,hn⟩,hL,hB⟩ acc hb=> ?_
  simp only[VZ,V0,V5]at hb;rw[bD,ep,mm,qo,mU,hw _ _ (by simp only[VZ,V0,V5];omega),VX];dsimp only;rw[hn _ (by simp only[VZ,V0,V5];omega),VX,ae h9];dsimp only;rw[hw _ _ (by simp only[VZ,V0,V5];omega),VX,aj (by rfl)];dsimp only;have hL:∀acc:LI,acc.length+(E k0 t).length≤MX→dC (S.tab n) (wst ns acc t) (sub [k0,k1] 0 (i64.wrap (([k0,k1].length:Int) - 1)))=some ((),wst ns (acc++E k0 t) t,(),()):=hL;rw[hL _ (by simp only[VZ,V0,V5];omega),VX];dsimp only;rw[hw _ _ (by simp only[VZ,V0,V5];omega),VX,aj (by rfl)];dsimp only;have hB:∀acc:LI,acc.length+(bA ns G k1 t).length≤MX→bH (S.tab n) (wst ns acc t) ([k0,k1].getD (i64.wrap (([k0,k1].length:Int) - 1)).toNat 0)=some ((),wst ns (acc++bA ns G k1 t) t,(),()):=hB;rw[hB _ (by simp only[VZ,V0,V5];omega),VX];simp only[V7]
 rw[VW h9,VW tF,Wd]
 by_cases nQ:(ad ns ↑i).1=11
 ·have hk:kn (ad ns ↑i)=11:=nQ;unfold cY;rw[hk];show RJ ns ↑i t [98,114,101,97,107] false
  refine(cg ns t).up fun n hw acc hb=> ?_
  rw[bD,dT,ak nQ,hw _ _ hb];rfl
 by_cases qU:(ad ns ↑i).1=12
 ·have hk:kn (ad ns ↑i)=12:=qU;unfold cY;rw[hk];show RJ ns ↑i t [110,101,120,116] false
  refine(cg ns t).up fun n hw acc hb=> ?_
  rw[bD,dT,ae nQ,ak qU,hw _ _ hb];rfl
 by_cases rH:(ad ns ↑i).1=13
 ·have hk:kn (ad ns ↑i)=13:=rH;have hL:=lY ns E t (ab (ad ns ↑i)) (by omega) (fun k hm=>hE k hm (FY (P:=fun k=>kn (ad ns k)<40) (RM fI hk) k hm));unfold cY;rw[hk];show RJ ns ↑i t ([114,101,116,117,114,110]++(bif(ab (ad ns ↑i)).isEmpty then []else [32]++cy E (ab (ad ns ↑i)) t)) false
  refine((cg ns t).and hL).up fun n ⟨hw,hL⟩ acc hb=> ?_
  by_cases h0:ab (ad ns ↑i)=[]
  ·rw[h0]at hb⊢;have hb:acc.length+([114,101,116,117,114,110]:LI).length≤MX:=hb;rw[bD,ep,h0,dT,ae nQ,ae qU,ak rH,hw _ _ hb,VX,ay (by rfl)];rfl
  ·have nL:(ab (ad ns ↑i)).isEmpty=false:=(by simpa using h0);have On:(ab (ad ns ↑i)).length≠0:=(by simpa using h0);rw[nL,Wb]at hb⊢;simp only[VZ,V0,V5]at hb;rw[bD,ep,dT,ae nQ,ae qU,ak rH,hw _ _ (by simp only[VZ,V0,V5];omega),VX,ak (by omega)];dsimp only;rw[hw _ _ (by simp only[VZ,V0,V5];omega),VX];dsimp only;rw[hL _ (by simp only[VZ,V0,V5];omega),VX];simp only[V7]
 by_cases wQ:(ad ns ↑i).1=14
 ·have hk:kn (ad ns ↑i)=14:=wQ;have hl:=NV fI hk;have OM:=hB _ (aG (x:=(ad ns ↑i)) (j:=0) (by omega));have wT:=hB _ (aG (x:=(ad ns ↑i)) (j:=1) (by omega));unfold cY;rw[hk];show RJ ns ↑i t ([116,114,121,32]++bA ns G ((ab (ad ns ↑i)).getD 0 0) t++([32,99,97,116,99,104,32]++bj (al (ad ns ↑i))++[32])++bA ns G ((ab (ad ns ↑i)).getD 1 0) t) false
  refine(((cg ns t).and Qj).and (OM.and wT)).up fun n ⟨⟨hw,hn⟩,OM,wT⟩ acc hb=> ?_
  simp only[VZ,V0,V5]at hb;rw[bD,ep,mm,dT,ae nQ,ae qU,ae rH,ak wQ,hw _ _ (by simp only[VZ,V0,V5];omega),VX,ak (by omega)];dsimp only;rw[OM _ (by simp only[VZ,V0,V5];omega),VX];dsimp only;rw[hw _ _ (by simp only[VZ,V0,V5];omega),VX];dsimp only;rw[hn _ (by simp only[VZ,V0,V5];omega),VX];dsimp only;rw[hw _ _ (by simp only[VZ,V0,V5];omega),VX,ak (by omega)];dsimp only;rw[wT _ (by simp only[VZ,V0,V5];omega),VX];simp only[V7]
 by_cases Cz:(ad ns ↑i).1=15
 ·have hk:kn (ad ns ↑i)=15:=Cz;have hl:=NO fI hk;have fB:=(hE _ (aG (x:=(ad ns ↑i)) (j:=0) (by omega)) (Sd fI hk 0 (by omega))).zero;unfold cY;rw[hk];show RJ ns ↑i t ([116,104,114,111,119,32]++E ((ab (ad ns ↑i)).getD 0 0) t) false
  refine((cg ns t).and fB).up fun n ⟨hw,fB⟩ acc hb=> ?_
  simp only[VZ,V0,V5]at hb;rw[bD,ep,dT,ae nQ,ae qU,ae rH,ae wQ,ak Cz,hw _ _ (by simp only[VZ,V0,V5];omega),VX,ak (by omega)];dsimp only;rw[fB _ (by simp only[VZ,V0,V5];omega),VX];simp only[V7]
 by_cases wR:(ad ns ↑i).1=16
 ·have hk:kn (ad ns ↑i)=16:=wR;have hl:=N3 fI hk;have fB:=(hE _ (aG (x:=(ad ns ↑i)) (j:=0) (by omega)) (RL fI hk 0 (by omega))).zero;unfold cY;rw[hk];show RJ ns ↑i t ([100,101,102,101,114,32]++E ((ab (ad ns ↑i)).getD 0 0) t) false
  refine((cg ns t).and fB).up fun n ⟨hw,fB⟩ acc hb=> ?_
  simp only[VZ,V0,V5]at hb;rw[bD,ep,dT,ae nQ,ae qU,ae rH,ae wQ,ae Cz,ak wR,hw _ _ (by simp only[VZ,V0,V5];omega),VX,ak (by omega)];dsimp only;rw[fB _ (by simp only[VZ,V0,V5];omega),VX];simp only[V7]
 have e:cY ns E G (ad ns ↑i) ↑i t=[]:=by
  unfold cY
  have d:∀c:Int,¬ (ad ns ↑i).1=c→decide (kn (ad ns ↑i)=c)=false:=fun c h=>VW h
  rw[d _ h1,d _ h2,d _ h3,d _ h4,d _ h5,d _ h6,d _ wR,d _ h7,d _ h8,d _ h9,d _ tF,d _ nQ,d _ qU,d _ rH,d _ wQ,d _ Cz];rfl
 rw[e]
 refine(cg ns t).up fun n _ acc hb=> ?_
 rw[bD,dT,ae nQ,ae qU,ae rH,ae wQ,ae Cz,ae wR,Wv]
end
end Go.Abs.D
end

section
namespace Go.Abs.D
theorem F1 {l:LI}{j:Nat}(h:j<l.length):get l j=l[j]:=oY h
theorem xW {st KQ kids:LI}{i:Nat}(hs:∀j,j<i→get KQ j=get st j):∀(m:Nat)(a:Int),(∀j,j<m→0≤get kids j∧get kids j<(i:Int))→gV KQ kids m a=gV st kids m a
 |0,_,_=>rfl
 |m+1,a,hk=>by
  unfold gV;rw[hs _ (by have:=hk m (by omega);omega),xW hs m _ fun j hj=>hk j (by omega)]
theorem GK (ns:List aa.den)(hk:∀i,i<ns.length→∀j,j<(aT ns i).length→0≤get (aT ns i) j∧get (aT ns i) j<(i:Int)):∀(r:Nat)(st:LI),r≤ns.length→st.length=ns.length→imS ns r st= .inr ()→
  ∃KQ,(∀j,j<ns.length - r→get KQ j=get st j)∧∀i,ns.length - r≤i→i<ns.length→gV KQ (aT ns i) (aT ns i).length (i:Int)=some (get KQ i)
 |0,st,_,_,_=>⟨st,fun _ _=>rfl,fun i h1 h2=>by omega⟩
 |r+1,st,hr,hl,h=>by
  unfold imS at h;split at h
  ·cases h
  ·rename_i a ha;have fP:ns.length - (r+1)<ns.length:=(by omega)
   cases hb:decide (r=0)&& !decide (a=0)with
   |true=>rw[hb]at h;cases h
   |false=>
    rw[hb]at h;have h:imS ns r (st.set (ns.length - (r+1)) a)= .inr ():=h;obtain⟨KQ,h1,h2⟩:=GK ns hk r _ (by omega) (by simpa using hl) h
    have KO:∀j,j<ns.length - (r+1)→get KQ j=get st j:=fun j hj=>by
     rw[h1 j (by omega),lE _ _ _ _ (by omega),Wz (by omega)]
    refine⟨KQ,KO,fun i M5 Qy=> ?_⟩
    by_cases hi:i=ns.length - (r+1)
    ·subst hi;rw[xW KO _ _ (hk _ fP),ha,h1 _ (by omega),lE _ _ _ _ (by omega),WK rfl]
    ·exact h2 i (by omega) Qy
theorem Jb {ns:List aa.den}(h:(lI ns).1=0):∃st:LI,∀i,i<ns.length→gV st (aT ns i) (aT ns i).length (i:Int)=some (get st i):=by
 obtain⟨_,h0,h3,hk⟩:=qN h
 have VL:∀i,i<ns.length→∀j,j<(aT ns i).length→0≤get (aT ns i) j∧get (aT ns i) j<(i:Int):=fun i hi j hj=>by
  rw[nP hi]at hj⊢;rw[F1 hj];exact hk i hi _ (WO hj)
 unfold lI at h
 by_cases c0:ns.length=0
 ·omega
 rw[VW c0]at h;rw[VW (show¬ 3000<ns.length by omega)]at h
 by_cases c2:fO ns ((ns.length - 1:Nat):Int)=1
 ·rw[VY c2]at h
  by_cases c3:r7 ns<ns.length
  ·rw[VY c3]at h;exact absurd (show(2:Int)=0 from h) (by decide)
  rw[VW c3]at h;simp only[Wq,Wb]at h
  cases hi:imS ns ns.length (List.replicate ns.length 0)with
  |inl j=>rw[hi]at h;exact absurd (show(3:Int)=0 from h) (by decide)
  |inr _=>
   obtain⟨KQ,_,h2⟩:=GK ns VL ns.length _ (Wp _) (by simp) hi;exact⟨KQ,fun i hi=>h2 i (by omega) hi⟩
 ·rw[VW c2]at h;exact absurd (show(1:Int)=0 from h) (by decide)
theorem uM {st kids:LI}{L:Int→Nat}(hL:∀j,j<kids.length→0≤get kids j∧(L (get kids j):Int)+get st (get kids j).toNat≤get kids j+1):∀(m:Nat)(a b:Int),m≤kids.length→gV st kids m a=some b→(((kids.take m).map L).sum:Int)+b≤a
 |0,a,b,_,h=>by
  injection h with h
  subst h;simp
 |m+1,a,b,hm,h=>by
  have IE:m<kids.length:=(by omega);unfold gV at h
  by_cases hc:get kids m=a - 1
  ·rw[VY hc]at h;obtain⟨h0,h1⟩:=hL m IE;have ih:=uM hL m _ b (by omega) h;rw[List.take_succ_eq_append_getElem IE,List.map_append,List.sum_append,List.map_cons,List.map_nil,List.sum_cons,List.sum_nil];rw[F1 IE]at h1 hc ih
   push_cast
   omega
  ·rw[VW hc]at h;cases h
section
variable{ns:List aa.den}(hk:∀(j:Nat)(hj:j<ns.length),∀k∈ab ns[j],0≤k∧k<(j:Int)){st:LI}(nw:∀i,i<ns.length→gV st (aT ns i) (aT ns i).length (i:Int)=some (get st i))
include hk in
theorem F0 (i:Nat)(hi:i<ns.length)(j:Nat)(hj:j<(aT ns i).length):∃k:Nat,get (aT ns i) j=(k:Int)∧k<i:=by
 rw[nP hi]at hj⊢;rw[F1 hj];have:=hk i hi _ (WO hj);exact⟨((ab ns[i])[j]).toNat,by omega,by omega⟩
include hk nw in
theorem MB:∀(n i:Nat),i<n→i<ns.length→0≤get st i
 |0,i,h,_=>absurd h (by omega)
 |n+1,i,h,hi=>by
  have key:∀(m:Nat) (a b:Int),m≤(aT ns i).length→0≤a→gV st (aT ns i) m a=some b→0≤b:=by
   intro m
   induction m with
   |zero=>intro a b _ h0 h;injection h with h;subst h;exact h0
   |succ m ih=>
    intro a b hm h0 h;unfold gV at h
    by_cases hc:get (aT ns i) m=a - 1
    ·rw[VY hc]at h;obtain⟨k,qo,fP⟩:=F0 hk i hi m (by omega);rw[qo]at h;exact ih _ b (by omega) (MB n k (by omega) (by omega)) h
    ·rw[VW hc]at h;cases h
  exact key _ _ _ (Wp _) (by omega) (nw i hi)
include hk nw in
theorem Ka:∀(n i:Nat),i<n→i<ns.length→get st i≤(i:Int)
 |0,i,h,_=>absurd h (by omega)
 |n+1,i,h,hi=>by
  have:=uM (st:=st) (kids:=aT ns i) (L:=fun _=>0) (fun j hj=>by
   obtain⟨k,qo,fP⟩:=F0 hk i hi j hj;rw[qo];have:=Ka n k (by omega) (by omega);simp only[Int.toNat_natCast]
   omega) (aT ns i).length i (get st i) (Wp _) (nw i hi)
  have h0:(((aT ns i).take (aT ns i).length).map fun _=>0).sum=0:=by
   generalize(aT ns i).take (aT ns i).length=l
   induction l with
   |nil=>rfl
   |cons a l ih=>simpa using ih
  rw[h0]at this;omega
end
end Go.Abs.D
end

section
namespace Go.Abs.D
def WB:Nat:=3000000
def BJ (st:LI)(k:Int):Nat:=(k+1 - get st k.toNat).toNat
def uK (st:LI)(k:Int):Nat:=WB*BJ st k
def nK (st:LI)(l:LI):Nat:=(l.map (uK st)).sum
theorem iY (st:LI)(k:Int)(l:LI):nK st (k::l)=uK st k+nK st l:=by unfold nK;simp
theorem EV (st:LI)(a b:LI):nK st (a++b)=nK st a+nK st b:=by unfold nK;simp
theorem DD {st l:LI}(h:1≤l.length):uK st (l.getD 0 0)≤nK st l:=by
 match l,h with
 |a::r,_=>rw[iY];show uK st a≤_;omega
theorem DG {st l:LI}(h:2≤l.length):uK st (l.getD 0 0)+uK st (l.getD 1 0)≤nK st l:=by
 match l,h with
 |a::b::r,_=>rw[iY,iY];show uK st a+uK st b≤_;omega
theorem Nu {st l:LI}(h:3≤l.length):uK st (l.getD 0 0)+uK st (l.getD 1 0)+uK st (l.getD 2 0)≤nK st l:=by
 match l,h with
 |a::b::c::r,_=>rw[iY,iY,iY];show uK st a+uK st b+uK st c≤_;omega
theorem LJ {st l:LI}(h:1≤l.length):uK st (l.getD 0 0)+nK st l.tail=nK st l:=by
 match l,h with
 |a::r,_=>rw[iY];rfl
theorem Lr (st l:LI)(m:Nat):nK st (l.take m)+nK st (l.drop m)=nK st l:=by rw[←EV,List.take_append_drop]
theorem Ls {st l:LI}(h:1≤l.length):nK st l.dropLast+uK st (l.getD (l.length - 1) 0)=nK st l:=by
 have e:l=l.dropLast++[l.getD (l.length - 1) 0]:=by
  have nL:l≠[]:=fun e=>by subst e;simp at h
  have h1:=List.dropLast_concat_getLast nL
  have h2:l.getD (l.length - 1) 0=l.getLast nL:=by
   rw[List.getLast_eq_getElem,Wm,Wl (by omega)];rfl
  rw[h2];exact h1.symm
 conv=>rhs;rw[e,EV]
 unfold nK;simp
theorem DH {st:LI}(f:Int→LI)(c:Nat):∀(l:LI),(∀k∈l,(f k).length≤uK st k+c)→(l.flatMap f).length≤nK st l+c*l.length
 |[],_=>by simp
 |k::l,h=>by
  have ih:=DH f c l fun x hx=>h x (Wj _ hx)
  have hk:=h k (Wk ..);rw[WX,VZ,iY,V0,Nat.mul_succ];omega
theorem qQ {st:LI}(E:Int→Nat→LI)(t:Nat)(l:LI)(h:∀k∈l,(E k t).length≤uK st k):(cy E l t).length≤nK st l+2*l.length:=by
 unfold cy
 cases l with
 |nil=>simp[bj]
 |cons a r=>
  have ha:=h a (Wk ..)
  have:=DH (st:=st) (fun k=>[44,32]++E k t) 2 r fun k hk=>by
   have:=h k (Wj _ hk);simp only[VZ,V0,V5];omega
  rw[List.map_cons];show(E a t++(r.map fun k=>E k t).flatMap fun t=>[44,32]++t).length≤_;rw[List.flatMap_map,VZ,iY,V0,Nat.mul_succ];omega
theorem tj (b:Bool)(s:LI):(paren b s).length≤s.length+2:=by
 cases b
 ·exact Nat.le_add_right _ _
 ·show([40]++s++[41]).length≤_;simp
section
variable{ns:List Node}(cE:∀i:Nat,i<ns.length→okN ns i (ad ns (i:Int))=true){st:LI}(tc:∀i:Nat,i<ns.length→nK st (ab (ad ns (i:Int)))+WB≤uK st (i:Int))
include cE tc
theorem LA {i:Nat}(hi:i<ns.length){t:Nat}(ht:t≤10000){G:Int→Nat→LI}(hG:∀k∈ab (ad ns (i:Int)),(G k (t+1)).length≤uK st k):(bA ns G ↑i t).length+900000≤uK st ↑i:=by
 have hl:=(ik (cE i hi)).2.1;have Od:=tc i hi;unfold WB at Od
 have h1:=DH (st:=st) (fun k=>kh (t+1)++G k (t+1)++[10]) (t+2) (ab (ad ns ↑i)) fun k hk=>by
  have:=hG k hk;simp only[VZ,iN,V0,V5];omega
 have h2:(t+2)*(ab (ad ns ↑i)).length≤10002*200:=Nat.mul_le_mul (by omega) hl;unfold bA uZ
 cases(ab (ad ns ↑i)).isEmpty with
 |true=>show 2+900000≤_;omega
 |false=>
  rw[Wb];simp only[VZ,iN,V0,V5]at h1⊢;omega
theorem JI {i:Nat}(hi:i<ns.length){t:Nat}{G:Int→Nat→LI}(lO:1≤(ab (ad ns (i:Int))).length)(hB:(bA ns G ((ab (ad ns (i:Int))).getD 0 0) t).length≤uK st ((ab (ad ns (i:Int))).getD 0 0)):(fnT ns G (ad ns ↑i) t).length+900000≤uK st ↑i:=by
 have Od:=tc i hi;unfold WB at Od;have hs:=DD (st:=st) lO;have hb:=(ik (cE i hi)).1
 have hc:(bj (al (ad ns ↑i)++bif decide (opn (ad ns ↑i)=1)then [[46,46,46]]else [])).length≤8442:=by
  have:=zL (l:=al (ad ns ↑i)++bif decide (opn (ad ns ↑i)=1)then [[46,46,46]]else []) (c:=40) (fun m hm=>by
   rcases Wu.1 hm with h|h
   ·exact hb.2.2 m h
   ·cases hd:decide (opn (ad ns ↑i)=1)with
    |true=>
     rw[hd]at h;have:m=[46,46,46]:=(by simpa using h);subst this;decide
    |false=>rw[hd]at h;cases h)
  refine Nat.le_trans this ?_
  have hlen:(al (ad ns ↑i)++bif decide (opn (ad ns ↑i)=1)then [[46,46,46]]else []).length≤201:=by
   rw[VZ];have:=hb.2.1;cases decide (opn (ad ns ↑i)=1)<;>simp<;>omega
  have:(al (ad ns ↑i)++bif decide (opn (ad ns ↑i)=1)then [[46,46,46]]else []).length*(40+2)≤201*(40+2):=Nat.mul_le_mul_right _ hlen;omega
 unfold fnT;simp only[VZ,V0,V5]at hc⊢;omega
theorem I3 {i:Nat}(hi:i<ns.length){t:Nat}{E G:Int→Nat→LI}(hE:∀k∈ab (ad ns (i:Int)),(E k t).length≤uK st k)(hB:∀k∈ab (ad ns (i:Int)),(bA ns G k t).length≤uK st k)(hint:(wE (kW (ad ns (i:Int)))).length≤100):(cS ns E G (ad ns ↑i) t).length≤uK st ↑i:=by
 have fI:=cE i hi;have hl:=(ik fI).2.1;have OF:(txn (ad ns ↑i)).length≤4000:=(ik fI).1.1;have Od:=tc i hi;unfold WB at Od
 have hq:(lH (txn (ad ns ↑i))).length≤20000:=by
  unfold lH;split
  ·simp
  ·have:((txn (ad ns ↑i)).flatMap esc).length≤(txn (ad ns ↑i)).length*4:=by
    generalize txn (ad ns ↑i)=l
    induction l with
    |nil=>simp
    |cons a r ih=>
     rw[WX,VZ,V0,Nat.succ_mul];have:(esc a).length≤4:=yQ a;omega
   simp only[VZ,V0,V5];omega
 have M8:(kH (ad ns ↑i)).length≤100:=by
  unfold kH;cases decide (kn (ad ns ↑i)=28)
  ·cases decide (kn (ad ns ↑i)=29)
   ·show(fxI (60+opn (ad ns ↑i))).length≤100;unfold fxI
    cases h:decide (0≤60+opn (ad ns ↑i))&&decide (60+opn (ad ns ↑i)≤78)with
    |true=>
     rw[V6,V4,V4]at h
     have hf:∀k:Fin 79,(fx k.1).length≤100:=by decide+kernel
     exact hf ⟨(60+opn (ad ns ↑i)).toNat,by omega⟩
    |false=>exact WQ _
   ·show 2≤100;omega
  ·show 3≤100;omega
 have k1:∀{s:LI} {c:Nat},1≤(ab (ad ns ↑i)).length→s.length≤c+(E ((ab (ad ns ↑i)).getD 0 0) t).length→c≤100000→s.length≤uK st ↑i:=fun{s c} h1 h2 h3=>by
  have a:=DD (st:=st) h1;have b:=hE _ (aG (x:=ad ns ↑i) (j:=0) (by omega));omega
 have k2:∀{s:LI} {c:Nat},2≤(ab (ad ns ↑i)).length→s.length≤c+(E ((ab (ad ns ↑i)).getD 0 0) t).length+(E ((ab (ad ns ↑i)).getD 1 0) t).length→c≤100000→s.length≤uK st ↑i:=fun{s c} h1 h2 h3=>by
  have a:=DG (st:=st) h1;have b:=hE _ (aG (x:=ad ns ↑i) (j:=0) (by omega));have b':=hE _ (aG (x:=ad ns ↑i) (j:=1) (by omega));omega
 have k0:∀{s:LI},s.length≤100000→s.length≤uK st ↑i:=fun{s} h=>by omega
 have p0:=tj (decide (pwr (ad ns ((ab (ad ns ↑i)).getD 0 0))<lft (ad ns ↑i))) (E ((ab (ad ns ↑i)).getD 0 0) t);have p1:=tj (decide (pwr (ad ns ((ab (ad ns ↑i)).getD 1 0))<rgt (ad ns ↑i))) (E ((ab (ad ns ↑i)).getD 1 0) t);have p2:=tj (decide (pwr (ad ns ((ab (ad ns ↑i)).getD 0 0))<11)) (E ((ab (ad ns ↑i)).getD 0 0) t);have p3:(rG ns E ((ab (ad ns ↑i)).getD 0 0) t).length≤(E ((ab (ad ns ↑i)).getD 0 0) t).length+2:=tj _ _;unfold cS;dsimp only
 by_cases vl:kn (ad ns ↑i)=20
 ·rw[vl];exact k0 (s:=[110,105,108]) (by decide)
 by_cases Be:kn (ad ns ↑i)=21
 ·rw[Be];exact k0 (s:=[116,114,117,101]) (by decide)
 by_cases wL:kn (ad ns ↑i)=22
 ·rw[wL];exact k0 (s:=[102,97,108,115,101]) (by decide)
 by_cases Ba:kn (ad ns ↑i)=27
 ·rw[Ba];exact k0 (s:=[46,46,46]) (by decide)
 by_cases wO:kn (ad ns ↑i)=23
 ·rw[wO];exact k0 (s:=wE (kW (ad ns ↑i))) (by omega)
 by_cases r8:kn (ad ns ↑i)=24
 ·rw[r8];exact k0 (s:=txn (ad ns ↑i)) (by omega)
 by_cases BO:kn (ad ns ↑i)=26
 ·rw[BO];exact k0 (s:=txn (ad ns ↑i)) (by omega)
 by_cases Gm:kn (ad ns ↑i)=25
 ·rw[Gm];exact k0 (s:=lH (txn (ad ns ↑i))) (by omega)
 have bin:2≤(ab (ad ns ↑i)).length→(paren (decide (pwr (ad ns ((ab (ad ns ↑i)).getD 0 0))<lft (ad ns ↑i))) (E ((ab (ad ns ↑i)).getD 0 0) t)++([32]++kH (ad ns ↑i)++[32])++paren (decide (pwr (ad ns ((ab (ad ns ↑i)).getD 1 0))<rgt (ad ns ↑i))) (E ((ab (ad ns ↑i)).getD 1 0) t)).length≤uK st ↑i:=fun h=>
  k2 (c:=1000) h (by simp only[VZ,V0,V5];omega) (by omega)
 by_cases lM:kn (ad ns ↑i)=28
 ·have:=bin (by have:=NT fI lM;omega);rw[lM];exact this
 by_cases nv:kn (ad ns ↑i)=29
 ·have:=bin (by have:=N6 fI nv;omega);rw[nv];exact this
 by_cases nM:kn (ad ns ↑i)=31
 ·have:=bin (by have:=yw fI nM;omega);rw[nM];exact this
 by_cases ma:kn (ad ns ↑i)=30
 ·obtain⟨lO,_,_⟩:=LV fI ma;rw[ma]
  have hp:∀p:LI,p.length≤10→(p++paren (decide (pwr (ad ns ((ab (ad ns ↑i)).getD 0 0))<11)) (E ((ab (ad ns ↑i)).getD 0 0) t)).length≤uK st ↑i:=fun p hp=>k1 (c:=100) (by omega) (by rw[VZ];omega) (by omega)
  refine hp _ ?_;cases decide (opn (ad ns ↑i)=21)
  ·cases decide (opn (ad ns ↑i)=22)
   ·cases decide (opn (ad ns ↑i)=20)
    ·simp only[Wb,VZ,V0,V5];cases decide (kn (ad ns ((ab (ad ns ↑i)).getD 0 0))=30)&&decide (opn (ad ns ((ab (ad ns ↑i)).getD 0 0))=19)<;>simp
    ·show 1≤10;omega
   ·show 1≤10;omega
  ·show 4≤10;omega
 by_cases h32:kn (ad ns ↑i)=32
 ·have lO:=N2 fI h32;rw[h32];show(rG ns E ((ab (ad ns ↑i)).getD 0 0) t++[91]++E ((ab (ad ns ↑i)).getD 1 0) t++[93]).length≤_;exact k2 (c:=100) (by omega) (by simp only[VZ,V0,V5];omega) (by omega)
 by_cases h33:kn (ad ns ↑i)=33
 ·have lO:=NY fI h33;rw[h33];show(rG ns E ((ab (ad ns ↑i)).getD 0 0) t++([46]++txn (ad ns ↑i))).length≤_;exact k1 (c:=5000) (by omega) (by simp only[VZ,V0,V5];omega) (by omega)
 by_cases ve:kn (ad ns ↑i)=34
 ·have lO:=NQ fI ve
  have hL:=qQ (st:=st) E t (ab (ad ns ↑i)).tail fun k hk=>hE k (List.mem_of_mem_tail hk)
  have hht:=LJ (st:=st) lO;have b:=hE _ (aG (x:=ad ns ↑i) (j:=0) (by omega));rw[ve];show(rG ns E ((ab (ad ns ↑i)).getD 0 0) t++[40]++cy E (ab (ad ns ↑i)).tail t++[41]).length≤_;simp only[VZ,V0,V5,List.length_tail]at hL⊢;omega
 by_cases x7:kn (ad ns ↑i)=35
 ·have hL:=qQ (st:=st) E t (ab (ad ns ↑i)) hE;rw[x7];show([123]++cy E (ab (ad ns ↑i)) t++[125]).length≤_;simp only[VZ,V0,V5]at hL⊢;omega
 by_cases qn:kn (ad ns ↑i)=36
 ·obtain⟨lO,_⟩:=E9 fI qn;have:=JI cE tc hi (t:=t) (G:=G) (by omega) (hB _ (aG (x:=ad ns ↑i) (j:=0) (by omega)));rw[qn];show([102,110]++fnT ns G (ad ns ↑i) t).length≤_;simp only[VZ,V0,V5];omega
 by_cases h37:kn (ad ns ↑i)=37
 ·have lO:=N0 fI h37;rw[h37];show([40]++E ((ab (ad ns ↑i)).getD 0 0) t++[41]).length≤_;exact k1 (c:=100) (by omega) (by simp only[VZ,V0,V5];omega) (by omega)
 by_cases Cy:kn (ad ns ↑i)=40
 ·have lO:=NU fI Cy;rw[Cy];show(E ((ab (ad ns ↑i)).getD 0 0) t).length≤_;exact k1 (c:=100) (by omega) (by omega) (by omega)
 by_cases DT:kn (ad ns ↑i)=41
 ·have lO:=N8 fI DT;rw[DT];show([91]++E ((ab (ad ns ↑i)).getD 0 0) t++[93,32,61,32]++E ((ab (ad ns ↑i)).getD 1 0) t).length≤_;exact k2 (c:=100) (by omega) (by simp only[VZ,V0,V5];omega) (by omega)
 by_cases KG:kn (ad ns ↑i)=42
 ·have lO:=N7 fI KG;rw[KG];show([46]++txn (ad ns ↑i)++[32,61,32]++E ((ab (ad ns ↑i)).getD 0 0) t).length≤_;exact k1 (c:=5000) (by omega) (by simp only[VZ,V0,V5];omega) (by omega)
 rw[VW vl,VW Be,VW wL,VW Ba,VW wO,VW r8,VW BO,VW Gm,VW lM,VW nv,VW nM,VW ma,VW h32,VW h33,VW ve,VW x7,VW qn,VW h37,VW Cy,VW DT,VW KG];exact WQ _
end
end Go.Abs.D
end

section
namespace Go.Abs.D
theorem I8 {n:Int}(h: -9223372036854775808≤n∧n≤9223372036854775807):(wE n).length≤100:=by
 unfold wE
 cases decide (0≤n)with
 |true=>have:=Lq n h.1 h.2;rw[Wg];omega
 |false=>rw[Wb,VZ,Gd];decide
section
variable{ns:List Node}(cE:∀i:Nat,i<ns.length→okN ns i (ad ns (i:Int))=true){st:LI}(tc:∀i:Nat,i<ns.length→nK st (ab (ad ns (i:Int)))+WB≤uK st (i:Int))
include cE tc
theorem I2 {i:Nat}(hi:i<ns.length){t:Nat}{E G:Int→Nat→LI}(hE:∀k∈ab (ad ns (i:Int)),(E k t).length≤uK st k)(hB:∀k∈ab (ad ns (i:Int)),(bA ns G k t).length≤uK st k)
  (hG:∀k∈ab (ad ns (i:Int)),(G k t).length≤uK st k) (Q0:(bA ns G (i:Int) t).length≤uK st (i:Int)) (hF:∀k∈ab (ad ns (i:Int)),kn (ad ns k)=36→(fnT ns G (ad ns k) t).length≤uK st k):
  (cY ns E G (ad ns ↑i) ↑i t).length≤uK st ↑i:=by
 have fI:=cE i hi;have hl:=(ik fI).2.1;have TX:=(vY fI).2;have Od:=tc i hi;unfold WB at Od
 have k1:∀{s:LI} {c:Nat},1≤(ab (ad ns ↑i)).length→s.length≤c+(E ((ab (ad ns ↑i)).getD 0 0) t).length→c≤100000→s.length≤uK st ↑i:=fun{s c} h1 h2 h3=>by
  have a:=DD (st:=st) h1;have b:=hE _ (aG (x:=ad ns ↑i) (j:=0) (by omega));omega
 have k2:∀{s:LI} {c:Nat},2≤(ab (ad ns ↑i)).length→s.length≤c+(E ((ab (ad ns ↑i)).getD 0 0) t).length+(bA ns G ((ab (ad ns ↑i)).getD 1 0) t).length→c≤100000→s.length≤uK st ↑i:=fun{s c} h1 h2 h3=>by
  have a:=DG (st:=st) h1;have b:=hE _ (aG (x:=ad ns ↑i) (j:=0) (by omega));have b':=hB _ (aG (x:=ad ns ↑i) (j:=1) (by omega));omega
 have k0:∀{s:LI},s.length≤100000→s.length≤uK st ↑i:=fun{s} h=>by omega
 have hL:=qQ (st:=st) E t (ab (ad ns ↑i)) hE;unfold cY;dsimp only
 by_cases h1:kn (ad ns ↑i)=1
 ·rw[h1];exact Q0
 by_cases h2:kn (ad ns ↑i)=2
 ·rw[h2];show([108,101,116,32]++bj (al (ad ns ↑i))++(bif(ab (ad ns ↑i)).isEmpty then []else [32,61,32]++cy E (ab (ad ns ↑i)) t)).length≤_;cases(ab (ad ns ↑i)).isEmpty<;>simp only[Wg,Wb,VZ,V0,V5]<;>omega
 by_cases h3:kn (ad ns ↑i)=3
 ·have lO:=(sh3 fI h3).1;rw[h3];show([99,111,110,115,116,32]++bj (al (ad ns ↑i))++[32,61,32]++E ((ab (ad ns ↑i)).getD 0 0) t).length≤_;exact k1 (c:=10000) (by omega) (by simp only[VZ,V0,V5];omega) (by omega)
 by_cases h4:kn (ad ns ↑i)=4
 ·obtain⟨lO,_,qn⟩:=sh4 fI h4;have a:=DD (st:=st) (l:=ab (ad ns ↑i)) (by omega);have b:=hF _ (aG (x:=ad ns ↑i) (j:=0) (by omega)) qn;rw[h4];show([102,110,32]++bj (al (ad ns ↑i))++fnT ns G (ad ns ((ab (ad ns ↑i)).getD 0 0)) t).length≤_;simp only[VZ,V0,V5];omega
 by_cases h5:kn (ad ns ↑i)=5
 ·have a:=qQ (st:=st) E t ((ab (ad ns ↑i)).take (kW (ad ns ↑i)).toNat) fun k hk=>hE k (List.mem_of_mem_take hk)
  have b:=qQ (st:=st) E t ((ab (ad ns ↑i)).drop (kW (ad ns ↑i)).toNat) fun k hk=>hE k (List.mem_of_mem_drop hk)
  have c:=Lr st (ab (ad ns ↑i)) (kW (ad ns ↑i)).toNat;rw[WA]at a;rw[WN]at b;rw[h5];show(cy E ((ab (ad ns ↑i)).take (kW (ad ns ↑i)).toNat) t++[32,61,32]++cy E ((ab (ad ns ↑i)).drop (kW (ad ns ↑i)).toNat) t).length≤_;simp only[VZ,V0,V5];omega
 by_cases h6:kn (ad ns ↑i)=6
 ·have lO:=sh6 fI h6;rw[h6];show(E ((ab (ad ns ↑i)).getD 0 0) t).length≤_;exact k1 (c:=100) (by omega) (by omega) (by omega)
 by_cases wR:kn (ad ns ↑i)=16
 ·have lO:=N3 fI wR;rw[wR];show([100,101,102,101,114,32]++E ((ab (ad ns ↑i)).getD 0 0) t).length≤_;exact k1 (c:=100) (by omega) (by simp only[VZ,V0,V5];omega) (by omega)
 by_cases h7:kn (ad ns ↑i)=7
 ·obtain⟨lO,_,_⟩:=sh7 fI h7;rw[h7];show(ifT ns E G (ad ns ↑i) t).length≤_;unfold ifT;dsimp only;have b0:=hE _ (aG (x:=ad ns ↑i) (j:=0) (by omega));have b1:=hB _ (aG (x:=ad ns ↑i) (j:=1) (by omega))
  by_cases h3l:(ab (ad ns ↑i)).length=3
  ·have a:=Nu (st:=st) (l:=ab (ad ns ↑i)) (by omega);have g2:=hG _ (aG (x:=ad ns ↑i) (j:=2) (by omega));have b2:=hB _ (aG (x:=ad ns ↑i) (j:=2) (by omega));rw[VY h3l];cases decide (kn (ad ns ((ab (ad ns ↑i)).getD 2 0))=7)<;>simp only[Wg,Wb,VZ,V0,V5]<;>omega
  ·have a:=DG (st:=st) (l:=ab (ad ns ↑i)) (by omega);rw[VW h3l];simp only[Wb,VZ,V0,V5];omega
 by_cases h8:kn (ad ns ↑i)=8
 ·have lO:=sh8 fI h8;rw[h8];show([119,104,105,108,101,32]++E ((ab (ad ns ↑i)).getD 0 0) t++[32]++bA ns G ((ab (ad ns ↑i)).getD 1 0) t).length≤_;exact k2 (c:=100) (by omega) (by simp only[VZ,V0,V5];omega) (by omega)
 by_cases h9:kn (ad ns ↑i)=9
 ·have lO:=sh9 fI h9
  have a:=qQ (st:=st) E t (ab (ad ns ↑i)).dropLast fun k hk=>hE k (List.dropLast_subset _ hk)
  have c:=Ls (st:=st) (l:=ab (ad ns ↑i)) (by omega);have b:=hB _ (aG (x:=ad ns ↑i) (j:=(ab (ad ns ↑i)).length - 1) (by omega));rw[List.length_dropLast]at a;rw[h9];show([102,111,114,32]++bj (al (ad ns ↑i))++[32,61,32]++cy E (ab (ad ns ↑i)).dropLast t++[32]++bA ns G ((ab (ad ns ↑i)).getD ((ab (ad ns ↑i)).length - 1) 0) t).length≤_;simp only[VZ,V0,V5];omega
 by_cases tF:kn (ad ns ↑i)=10
 ·have lO:=NX fI tF;rw[tF];show([102,111,114,32]++bj (al (ad ns ↑i))++[32,105,110,32]++E ((ab (ad ns ↑i)).getD 0 0) t++[32]++bA ns G ((ab (ad ns ↑i)).getD 1 0) t).length≤_;exact k2 (c:=10000) (by omega) (by simp only[VZ,V0,V5];omega) (by omega)
 by_cases nQ:kn (ad ns ↑i)=11
 ·rw[nQ];exact k0 (s:=[98,114,101,97,107]) (by decide)
 by_cases qU:kn (ad ns ↑i)=12
 ·rw[qU];exact k0 (s:=[110,101,120,116]) (by decide)
 by_cases rH:kn (ad ns ↑i)=13
 ·rw[rH];show([114,101,116,117,114,110]++(bif(ab (ad ns ↑i)).isEmpty then []else [32]++cy E (ab (ad ns ↑i)) t)).length≤_;cases(ab (ad ns ↑i)).isEmpty<;>simp only[Wg,Wb,VZ,V0,V5]<;>omega
 by_cases wQ:kn (ad ns ↑i)=14
 ·have lO:=NV fI wQ;have a:=DG (st:=st) (l:=ab (ad ns ↑i)) (by omega);have b:=hB _ (aG (x:=ad ns ↑i) (j:=0) (by omega));have b':=hB _ (aG (x:=ad ns ↑i) (j:=1) (by omega));rw[wQ];show([116,114,121,32]++bA ns G ((ab (ad ns ↑i)).getD 0 0) t++([32,99,97,116,99,104,32]++bj (al (ad ns ↑i))++[32])++bA ns G ((ab (ad ns ↑i)).getD 1 0) t).length≤_;simp only[VZ,V0,V5];omega
 by_cases Cz:kn (ad ns ↑i)=15
 ·have lO:=NO fI Cz;rw[Cz];show([116,104,114,111,119,32]++E ((ab (ad ns ↑i)).getD 0 0) t).length≤_;exact k1 (c:=100) (by omega) (by simp only[VZ,V0,V5];omega) (by omega)
 rw[VW h1,VW h2,VW h3,VW h4,VW h5,VW h6,VW wR,VW h7,VW h8,VW h9,VW tF,VW nQ,VW qU,VW rH,VW wQ,VW Cz];exact WQ _
omit tc in
theorem dR (i:Nat)(hi:i<ns.length):∀k∈ab (ad ns ↑i),∃j:Nat,k=(j:Int)∧j<i:=fun k hk=>by
 obtain⟨h0,h1⟩:=(ik (cE i hi)).2.2 k hk;exact⟨k.toNat,by omega,by omega⟩
theorem JV (A9:∀i:Nat,i<ns.length→A0 (ad ns (i:Int))):∀m i:Nat,i<ns.length→∀t,t+m≤10000→((prP ns m).1 ↑i t).length≤uK st ↑i∧((prP ns m).2 ↑i t).length≤uK st ↑i
 |0,i,_,t,_=>⟨WQ _,WQ _⟩
 |m+1,i,hi,t,ht=>by
  have ih:=JV A9 m
  have KL:∀j:Nat,j<ns.length→(bA ns (prP ns m).2 ↑j t).length+900000≤uK st ↑j:=fun j hj=>LA cE tc hj (by omega) fun k hk=>by
   obtain⟨j',rfl,Hr⟩:=dR cE j hj k hk;exact(ih j' (by omega) (t+1) (by omega)).2
  have hB:∀k∈ab (ad ns ↑i),(bA ns (prP ns m).2 k t).length≤uK st k:=fun k hk=>by
   obtain⟨j,rfl,hj⟩:=dR cE i hi k hk;have:=KL j (by omega);omega
  have hE:∀k∈ab (ad ns ↑i),((prP ns m).1 k t).length≤uK st k:=fun k hk=>by
   obtain⟨j,rfl,hj⟩:=dR cE i hi k hk;exact(ih j (by omega) t (by omega)).1
  have hG:∀k∈ab (ad ns ↑i),((prP ns m).2 k t).length≤uK st k:=fun k hk=>by
   obtain⟨j,rfl,hj⟩:=dR cE i hi k hk;exact(ih j (by omega) t (by omega)).2
  refine⟨I3 cE tc hi hE hB (I8 (A9 i hi).1),I2 cE tc hi hE hB hG (by have:=KL i hi;omega) fun k hk qn=> ?_⟩;obtain⟨j,rfl,hj⟩:=dR cE i hi k hk;obtain⟨lO,_⟩:=E9 (cE j (by omega)) qn;have m0:=aG (x:=ad ns ↑j) (j:=0) (by omega);obtain⟨b,e,hb⟩:=dR cE j (by omega) _ m0;have:=JI cE tc (i:=j) (by omega) (t:=t) (G:=(prP ns m).2) (by omega) (by rw[e];have:=KL b (by omega);omega);omega
omit tc in
theorem JT (A9:∀i:Nat,i<ns.length→A0 (ad ns (i:Int))):∀m i:Nat,i<m→i<ns.length→∀t,t+m≤10000→
  PE ns ↑i t ((prP ns m).1 ↑i t)∧PS ns ↑i t ((prP ns m).2 ↑i t)∧(kn (ad ns ↑i)=7→PC ns ↑i t ((prP ns m).2 ↑i t))
 |0,i,h,_,_,_=>absurd h (by omega)
 |m+1,i,Sf,hi,t,ht=>by
  have ih:=JT A9 m
  have KL:∀j:Nat,j≤m→j<ns.length→PB ns ↑j t (bA ns (prP ns m).2 ↑j t):=fun j T8 hj=>by
   have:=(ik (cE j hj)).2.1
   exact Jr _ hj t (by omega) (by omega) fun k hk=>by
    obtain⟨j',rfl,Hr⟩:=dR cE j hj k hk;exact(ih j' (by omega) (by omega) (t+1) (by omega)).2.1
  have hB:∀k∈ab (ad ns ↑i),PB ns k t (bA ns (prP ns m).2 k t):=fun k hk=>by
   obtain⟨j,rfl,hj⟩:=dR cE i hi k hk;exact KL j (by omega) (by omega)
  have hE:∀k∈ab (ad ns ↑i),PE ns k t ((prP ns m).1 k t):=fun k hk=>by
   obtain⟨j,rfl,hj⟩:=dR cE i hi k hk;exact(ih j (by omega) (by omega) t (by omega)).1
  have hF:∀k∈ab (ad ns ↑i),kn (ad ns k)=36→PF ns k t (fnT ns (prP ns m).2 (ad ns k) t):=fun k hk qn=>by
   obtain⟨j,rfl,hj⟩:=dR cE i hi k hk;obtain⟨lO,_⟩:=E9 (cE j (by omega)) qn;have m0:=aG (x:=ad ns ↑j) (j:=0) (by omega);obtain⟨b,e,hb⟩:=dR cE j (by omega) _ m0;exact Mv cE _ (by omega) qn e t (KL b (by omega) (by omega))
  have hC:∀k∈ab (ad ns ↑i),kn (ad ns k)=7→PC ns k t ((prP ns m).2 k t):=fun k hk h7=>by
   obtain⟨j,rfl,hj⟩:=dR cE i hi k hk;exact(ih j (by omega) (by omega) t (by omega)).2.2 h7
  have gk:=dR cE i hi
  have Qh:kn (ad ns ↑i)=7→PC ns ↑i t (ifT ns (prP ns m).1 (prP ns m).2 (ad ns ↑i) t):=fun h7=>FB cE hi h7 hE hB hC gk
  refine⟨IN cE hi (A9 i hi) hE (fun qn=> ?_) gk,Ji cE hi hE hB (KL i (by omega) hi) hF Qh gk,fun h7=> ?_⟩
  ·obtain⟨lO,_⟩:=E9 (cE i hi) qn;exact hB _ (aG (x:=ad ns ↑i) (j:=0) (by omega))
  ·have e:(prP ns (m+1)).2 ↑i t=ifT ns (prP ns m).1 (prP ns m).2 (ad ns ↑i) t:=by
    show cY ns (prP ns m).1 (prP ns m).2 (ad ns ↑i) ↑i t=_;unfold cY;rw[h7];rfl
   rw[e];exact Qh h7
end
end Go.Abs.D
end

section
namespace Go.Abs.D
section
variable{ns:List Node}(cE:∀i:Nat,i<ns.length→okN ns i (ad ns (i:Int))=true)
include cE
theorem IU {i:Nat}(hi:i<ns.length){t:Nat}{E G:Int→Nat→LI}(hE:∀k∈ab (ad ns (i:Int)),kn (ad ns k)<40→RE ns k t (E k t))(hB:∀k∈ab (ad ns (i:Int)),RB ns k t (bA ns G k t))
  (Q0:RB ns (i:Int) t (bA ns G (i:Int) t)) (hF:∀k∈ab (ad ns (i:Int)),kn (ad ns k)=36→RF ns k t (fnT ns G (ad ns k) t))
  (hC:kn (ad ns (i:Int))=7→RC ns (i:Int) t (ifR ns E G (ad ns (i:Int)) t)):RS ns ↑i t (cY ns E G (ad ns ↑i) ↑i t):=by
 have fI:=cE i hi;have Ht:=(ik fI).2.1;obtain⟨Bg,yT⟩:=vY fI;have Qj:=AA ns t (al (ad ns ↑i)) (by omega)
 by_cases h1:(ad ns ↑i).1=1
 ·have hk:kn (ad ns ↑i)=1:=h1;unfold cY;rw[hk];show RS ns ↑i t (bA ns G ↑i t)
  refine Q0.up fun n h acc hb=> ?_
  rw[cz,j5,aj (fF hi acc t),ak h1,h _ hb];rfl
 by_cases h2:(ad ns ↑i).1=2
 ·have hk:kn (ad ns ↑i)=2:=h2;have hL:=lY ns E t (ab (ad ns ↑i)) (by omega) (fun k hm=>hE k hm (FY (P:=fun k=>kn (ad ns k)<40) (en2 fI hk) k hm));unfold cY;rw[hk];show RS ns ↑i t ([108,101,116,32]++bj (al (ad ns ↑i))++(bif(ab (ad ns ↑i)).isEmpty then []else [32,61,32]++cy E (ab (ad ns ↑i)) t))
  refine(((cg ns t).and Qj).and hL).up fun n ⟨⟨hw,hn⟩,hL⟩ acc hb=> ?_
  by_cases h0:ab (ad ns ↑i)=[]
  ·rw[h0]at hb⊢;have hb:acc.length+([108,101,116,32]++bj (al (ad ns ↑i))++[]:LI).length≤MX:=hb;rw[Wv]at hb;simp only[VZ,V0,V5]at hb;rw[cz,j5,ep,mm,h0,aj (fF hi acc t),ae h1,ak h2,hw _ _ (by simp only[VZ,V0,V5];omega),VX];dsimp only;rw[hn _ (by simp only[VZ,V0,V5];omega),VX,ay (by rfl)];show _=some ((),wst ns (acc++([108,101,116,32]++bj (al (ad ns ↑i))++[])) t,(),());rw[Wv,V7]
  ·have nL:(ab (ad ns ↑i)).isEmpty=false:=(by simpa using h0);have On:(ab (ad ns ↑i)).length≠0:=(by simpa using h0);rw[nL,Wb]at hb⊢;simp only[VZ,V0,V5]at hb;rw[cz,j5,ep,mm,aj (fF hi acc t),ae h1,ak h2,hw _ _ (by simp only[VZ,V0,V5];omega),VX];dsimp only;rw[hn _ (by simp only[VZ,V0,V5];omega),VX,ak (by omega)];dsimp only;rw[hw _ _ (by simp only[VZ,V0,V5];omega),VX];dsimp only;rw[hL _ (by simp only[VZ,V0,V5];omega),VX];simp only[V7]
 by_cases h3:(ad ns ↑i).1=3
 ·have hk:kn (ad ns ↑i)=3:=h3;obtain⟨hl,DU⟩:=sh3 fI hk;have fB:=(hE _ (aG (x:=(ad ns ↑i)) (j:=0) (by omega)) (en3 fI hk 0 (by omega))).zero
  have Rf:(al (ad ns ↑i)).getD 0 []=bj (al (ad ns ↑i)):=by
   match hm:al (ad ns ↑i),DU with
   |[a],_=>simp[bj]
  unfold cY;rw[hk];show RS ns ↑i t ([99,111,110,115,116,32]++bj (al (ad ns ↑i))++[32,61,32]++E ((ab (ad ns ↑i)).getD 0 0) t)
  refine((cg ns t).and fB).up fun n ⟨hw,fB⟩ acc hb=> ?_
  simp only[VZ,V0,V5]at hb;rw[cz,j5,ep,mm,Rf,aj (fF hi acc t),ae h1,ae h2,ak h3,ak (by omega),aj (kj (by omega)),aj (kj (by simp only[VZ,V0,V5];omega)),hw _ _ (by simp only[VZ,V0,V5];omega),VX,ak (by omega)];dsimp only;rw[fB _ (by simp only[VZ,V0,V5];omega),VX];simp only[V7]
 by_cases h4:(ad ns ↑i).1=4
 ·have hk:kn (ad ns ↑i)=4:=h4;obtain⟨hl,DU,qn⟩:=sh4 fI hk;have Mi:=hF _ (aG (x:=(ad ns ↑i)) (j:=0) (by omega)) qn
  have Rf:(al (ad ns ↑i)).getD 0 []=bj (al (ad ns ↑i)):=by
   match hm:al (ad ns ↑i),DU with
   |[a],_=>simp[bj]
  unfold cY;rw[hk];show RS ns ↑i t ([102,110,32]++bj (al (ad ns ↑i))++fnT ns G (ad ns ((ab (ad ns ↑i)).getD 0 0)) t)
  refine((cg ns t).and Mi).up fun n ⟨hw,Mi⟩ acc hb=> ?_
  simp only[VZ,V0,V5]at hb;rw[cz,j5,ep,mm,Rf,aj (fF hi acc t),ae h1,ae h2,ae h3,ak h4,ak (by omega),aj (kj (by omega)),hw _ _ (by simp only[VZ,V0,V5];omega),VX,ak (by omega)];dsimp only;rw[Mi _ (by simp only[VZ,V0,V5];omega),VX];simp only[V7]
 by_cases h5:(ad ns ↑i).1=5
 ·have hk:kn (ad ns ↑i)=5:=h5;obtain⟨n1,n2⟩:=sh5 fI hk;obtain⟨m,hm⟩:∃m:Nat,kW (ad ns ↑i)=(m:Int):=⟨(kW (ad ns ↑i)).toNat,by omega⟩;have MM:(ad ns ↑i).2.2.2.2.2.1=(m:Int):=hm;have fP:=FY (P:=fun k=>kn (ad ns k)<40) (en5 fI hk);have OB:=lY ns E t ((ab (ad ns ↑i)).take m) (by simp;omega) (fun k h=>hE k (List.mem_of_mem_take h) (fP k (List.mem_of_mem_take h)));have Mc:=lY ns E t ((ab (ad ns ↑i)).drop m) (by simp;omega) (fun k h=>hE k (List.mem_of_mem_drop h) (fP k (List.mem_of_mem_drop h)));have MZ:sub (ab (ad ns ↑i)) 0 (m:Int)=(ab (ad ns ↑i)).take m:=rfl
  have Tu:sub (ab (ad ns ↑i)) ↑m ((ab (ad ns ↑i)).length:Int)=(ab (ad ns ↑i)).drop m:=by
   show((ab (ad ns ↑i)).take (ab (ad ns ↑i)).length).drop m=_;rw[List.take_length]
  have It:bounds (ab (ad ns ↑i)).length 0 (m:Int)=true:=b9 (i:=0) (WQ _) (by omega);have Bi:bounds (ab (ad ns ↑i)).length ↑m ((ab (ad ns ↑i)).length:Int)=true:=b9 (by omega) (Wp _);unfold cY;rw[hk,hm];show RS ns ↑i t (cy E ((ab (ad ns ↑i)).take m) t++[32,61,32]++cy E ((ab (ad ns ↑i)).drop m) t)
  refine(((cg ns t).and OB).and Mc).up fun n ⟨⟨hw,OB⟩,Mc⟩ acc hb=> ?_
  simp only[VZ,V0,V5]at hb;rw[cz,j5,ep,MM,aj (fF hi acc t),ae h1,ae h2,ae h3,ae h4,ak h5,aj It,MZ,OB _ (by omega),VX];dsimp only;rw[hw _ _ (by simp only[VZ,V0,V5];omega),VX,aj Bi,Tu];dsimp only;rw[Mc _ (by simp only[VZ,V0,V5];omega),VX];simp only[V7]
 by_cases h6:(ad ns ↑i).1=6
 ·have hk:kn (ad ns ↑i)=6:=h6;have hl:=sh6 fI hk;have fB:=(hE _ (aG (x:=(ad ns ↑i)) (j:=0) (by omega)) (en6 fI hk 0 (by omega))).zero;unfold cY;rw[hk];show RS ns ↑i t (E ((ab (ad ns ↑i)).getD 0 0) t)
  refine fB.up fun n fB acc hb=> ?_
  rw[cz,j5,ep,aj (fF hi acc t),ae h1,ae h2,ae h3,ae h4,ae h5,ak h6,ak (by omega),fB _ hb];rfl
 by_cases h7:(ad ns ↑i).1=7
 ·have hk:kn (ad ns ↑i)=7:=h7;have Vd:=hC hk;unfold cY;rw[hk];show RS ns ↑i t (ifT ns E G (ad ns ↑i) t);rw[Mu]
  refine Vd.up fun n h acc hb=> ?_
  rw[cz,j5,aj (fF hi acc t),ae h1,ae h2,ae h3,ae h4,ae h5,ae h6,ak h7,h _ _ hb];rfl
 by_cases h8:(ad ns ↑i).1=8
 ·have hk:kn (ad ns ↑i)=8:=h8;have hl:=sh8 fI hk;have fB:=(hE _ (aG (x:=(ad ns ↑i)) (j:=0) (by omega)) (en8 fI hk (by omega))).zero;have wT:=hB _ (aG (x:=(ad ns ↑i)) (j:=1) (by omega));unfold cY;rw[hk];show RS ns ↑i t ([119,104,105,108,101,32]++E ((ab (ad ns ↑i)).getD 0 0) t++[32]++bA ns G ((ab (ad ns ↑i)).getD 1 0) t)
  refine(((cg ns t).and fB).and wT).up fun n ⟨⟨hw,fB⟩,wT⟩ acc hb=> ?_
  simp only[VZ,V0,V5]at hb;rw[cz,j5,ep,aj (fF hi acc t),ae h1,ae h2,ae h3,ae h4,ae h5,ae h6,ae h7,ak h8,hw _ _ (by simp only[VZ,V0,V5];omega),VX,ak (by omega)];dsimp only;rw[fB _ (by simp only[VZ,V0,V5];omega),VX];dsimp only;rw[hw _ _ (by simp only[VZ,V0,V5];omega),VX,ak (by omega)];dsimp only;rw[wT _ (by simp only[VZ,V0,V5];omega),VX];simp only[V7]
 have hJ:=Ln cE hi hE hB h1 h2 h3 h4 h5 h6 h7 h8 (E:=E) (G:=G) (t:=t)
 refine hJ.up fun n hJ acc hb=> ?_
 have hJ:=hJ acc hb;rw[cz,j5,aj (fF hi acc t),ae h1,ae h2,ae h3,ae h4,ae h5,ae h6,ae h7,ae h8]
 by_cases h9:(ad ns ↑i).1=9
 ·rw[VY h9,Wh]at hJ;rw[VY h9,mU,hJ];rfl
 ·rw[VW h9,Wd]at hJ;rw[VW h9,dT,hJ];rfl
theorem GJ (A9:∀i:Nat,i<ns.length→A0 (ad ns (i:Int))):∀m i:Nat,i<m→i<ns.length→∀t,t+m≤10000→
  (kn (ad ns ↑i)<40→RE ns ↑i t ((prP ns m).1 ↑i t))∧(40≤kn (ad ns ↑i)→kn (ad ns ↑i)≤42→RN ns ↑i t ((prP ns m).1 ↑i t))∧RS ns ↑i t ((prP ns m).2 ↑i t)∧(kn (ad ns ↑i)=7→∃r,(prP ns m).2 ↑i t=[105,102,32]++r∧RC ns ↑i t r)
 |0,i,h,_,_,_=>absurd h (by omega)
 |m+1,i,Sf,hi,t,ht=>by
  have ih:=GJ A9 m
  have KL:∀j:Nat,j≤m→j<ns.length→RB ns ↑j t (bA ns (prP ns m).2 ↑j t):=fun j T8 hj=>by
   have:=(ik (cE j hj)).2.1
   by_cases hm:m=0
   ·have Vt:ab (ad ns ↑j)=[]:=by
     cases qo:ab (ad ns ↑j)with
     |nil=>rfl
     |cons a r=>
      obtain⟨j',_,Hr⟩:=dR cE j hj a (by rw[qo];exact Wk ..);omega
    exact BU _ hj t (by omega) (by omega) fun k hk=>by rw[Vt]at hk;cases hk
   ·exact BU _ hj t (by omega) (by omega) fun k hk=>by
     obtain⟨j',rfl,Hr⟩:=dR cE j hj k hk;exact(ih j' (by omega) (by omega) (t+1) (by omega)).2.2.1
  have hB:∀k∈ab (ad ns ↑i),RB ns k t (bA ns (prP ns m).2 k t):=fun k hk=>by
   obtain⟨j,rfl,hj⟩:=dR cE i hi k hk;exact KL j (by omega) (by omega)
  have hE:∀k∈ab (ad ns ↑i),kn (ad ns k)<40→RE ns k t ((prP ns m).1 k t):=fun k hk=>by
   obtain⟨j,rfl,hj⟩:=dR cE i hi k hk;exact(ih j (by omega) (by omega) t (by omega)).1
  have hN:kn (ad ns ↑i)=35→∀k∈ab (ad ns ↑i),RN ns k t ((prP ns m).1 k t):=fun x7 k hk=>by
   have he:=R5 (cE i hi) x7 k hk;unfold j2 at he;simp only[V6,V4]at he;obtain⟨j,rfl,hj⟩:=dR cE i hi k hk;exact(ih j (by omega) (by omega) t (by omega)).2.1 he.1 he.2
  have Ud:∀j:Nat,j≤m→j<ns.length→kn (ad ns ↑j)=36→RF ns ↑j t (fnT ns (prP ns m).2 (ad ns ↑j) t):=fun j T8 hj qn=>by
   obtain⟨lO,_⟩:=E9 (cE j hj) qn;have m0:=aG (x:=ad ns ↑j) (j:=0) (by omega);obtain⟨b,e,hb⟩:=dR cE j hj _ m0;exact Di cE _ hj qn t (by rw[e];exact KL b (by omega) (by omega))
  have hF:∀k∈ab (ad ns ↑i),kn (ad ns k)=36→RF ns k t (fnT ns (prP ns m).2 (ad ns k) t):=fun k hk qn=>by
   obtain⟨j,rfl,hj⟩:=dR cE i hi k hk;exact Ud j (by omega) (by omega) qn
  have hC:∀k∈ab (ad ns ↑i),kn (ad ns k)=7→∃r,(prP ns m).2 k t=[105,102,32]++r∧RC ns k t r:=fun k hk h7=>by
   obtain⟨j,rfl,hj⟩:=dR cE i hi k hk;exact(ih j (by omega) (by omega) t (by omega)).2.2.2 h7
  have gk:=dR cE i hi
  have Qh:kn (ad ns ↑i)=7→RC ns ↑i t (ifR ns (prP ns m).1 (prP ns m).2 (ad ns ↑i) t):=fun h7=>HJ cE hi h7 hE hB hC gk
  refine⟨fun Cy=>Jq cE hi (A9 i hi) Cy hE hN (fun qn=>Ud i (by omega) hi qn) gk,fun Cy KG=>I1 cE hi (by omega) hE,IU cE hi hE hB (KL i (by omega) hi) hF Qh,fun h7=>⟨_, ?_,Qh h7⟩⟩;show cY ns (prP ns m).1 (prP ns m).2 (ad ns ↑i) ↑i t=_;rw[←Mu];unfold cY;rw[h7];rfl
end
end Go.Abs.D
end

section
namespace Go.Abs.D
theorem Ny {ns:List Node}(c:(lI ns).1=0):∃st:LI,(∀i:Nat,i<ns.length→nK st (ab (ad ns ↑i))+WB≤uK st ↑i)∧∀i:Nat,i<ns.length→uK st (i:Int)≤WB*3000:=by
 obtain⟨_,h0,h3,hk⟩:=qN c;obtain⟨st,nw⟩:=Jb c;refine⟨st,fun i hi=> ?_,fun i hi=> ?_⟩
 ·have qo:aT ns i=ab (ad ns ↑i):=by
   rw[nP hi];show ab ns[i]=ab (at_ (τ:=aa) ns ↑i);rw[kx _ _ hi]
  have hle:=Ka hk nw (i+1) i (by omega) hi
  have:=uM (st:=st) (kids:=aT ns i) (L:=BJ st) (fun j hj=>by
   obtain⟨k,qo,fP⟩:=F0 hk i hi j hj;rw[qo];have:=Ka hk nw (k+1) k (by omega) (by omega);unfold BJ;simp only[Int.toNat_natCast]
   omega) (aT ns i).length i (get st i) (Wp _) (nw i hi)
  rw[List.take_length,qo]at this
  have key:∀l:LI,nK st l=WB*(l.map (BJ st)).sum:=fun l=>by
   induction l with
   |nil=>rfl
   |cons a l ih=>
    rw[iY,ih,List.map_cons,List.sum_cons,Nat.mul_add];rfl
  rw[key];unfold uK
  have h2:((ab (ad ns ↑i)).map (BJ st)).sum+1≤BJ st ↑i:=by
   unfold BJ at this⊢;simp only[Int.toNat_natCast];omega
  calc WB*((ab (ad ns ↑i)).map (BJ st)).sum+WB=WB*(((ab (ad ns ↑i)).map (BJ st)).sum+1):=by rw[Nat.mul_add,Nat.mul_one]
   _≤_:=Nat.mul_le_mul_left _ h2
 ·have:=MB hk nw (i+1) i (by omega) hi;unfold uK;refine Nat.mul_le_mul_left _ ?_;unfold BJ;simp only[Int.toNat_natCast];omega
theorem pl5 (ns:List Node)(G:Int→Nat→LI):∀(r pre:LI),(pre++r).length≤100000→(∀k∈r,PS ns k 0 (G k 0))→Evt fun n=>∀acc:LI,acc.length+(r.flatMap fun k=>G k 0++[10]).length≤MX→
  iW (S.tab n) (pst ns acc) (pre++r) ((pre++r).length:Int) (pre.length:Int)=some (Sum.inl (pst ns (acc++r.flatMap fun k=>G k 0++[10]),()))
 |[],pre,hl,_=>aB.up fun n _ acc _=>by
  rw[qw,ay (by simp)];simp
 |m::r,pre,hl,h=>by
  have hlen:(pre++m::r).length=pre.length+(r.length+1):=(by simp);have ih:=pl5 ns G r (pre++[m]) (by simpa using hl) (fun k hk=>h k (Wj _ hk))
  refine((ih.and (iQ ns)).and (h m (Wk ..))).up fun n ⟨⟨ih,hw⟩,hE⟩ acc hb=> ?_
  rw[WX]at hb⊢;simp only[VZ,V0,V5]at hb;have hg:(pre++m::r).getD (pre.length:Int).toNat 0=m:=fZ pre _ _ 0;rw[qw,ak (by omega),aj (av (by omega)),hg];have hE:=hE acc (by omega);have hE:fw (S.tab n) (pst ns acc) m 0=_:=hE;rw[hE,VX];dsimp only;rw[hw _ _ (by simp only[VZ,V0,V5];omega),VX,bf (by omega)];dsimp only;have e1:(pre++[m])++r=pre++m::r:=(by simp);have e2:(pre++[m]).length=pre.length+1:=(by simp);rw[e1,e2]at ih;rw[ih _ (by simp only[VZ,V0,V5];omega)];simp only[V7]
theorem rl6 (ns:List Node)(G:Int→Nat→LI):∀(r pre:LI),(pre++r).length≤100000→(∀k∈r,RS ns k 0 (G k 0))→Evt fun n=>∀acc:LI,acc.length+(r.flatMap fun k=>G k 0++[10]).length≤MX→
  iS (S.tab n) (wst ns acc 0) (pre++r) ((pre++r).length:Int) (pre.length:Int)=some (Sum.inl (wst ns (acc++r.flatMap fun k=>G k 0++[10]) 0,()))
 |[],pre,hl,_=>aB.up fun n _ acc _=>by
  rw[qB,ay (by simp)];simp
 |m::r,pre,hl,h=>by
  have hlen:(pre++m::r).length=pre.length+(r.length+1):=(by simp);have ih:=rl6 ns G r (pre++[m]) (by simpa using hl) (fun k hk=>h k (Wj _ hk))
  refine((ih.and (cg ns 0)).and (h m (Wk ..))).up fun n ⟨⟨ih,hw⟩,hE⟩ acc hb=> ?_
  rw[WX]at hb⊢;simp only[VZ,V0,V5]at hb;have hg:(pre++m::r).getD (pre.length:Int).toNat 0=m:=fZ pre _ _ 0;rw[qB,ak (by omega),aj (av (by omega)),hg,hE acc (by omega),VX];dsimp only;rw[hw _ _ (by simp only[VZ,V0,V5];omega),VX,bf (by omega)];dsimp only;have e1:(pre++[m])++r=pre++m::r:=(by simp);have e2:(pre++[m]).length=pre.length+1:=(by simp);rw[e1,e2]at ih;rw[ih _ (by simp only[VZ,V0,V5];omega)];simp only[V7]
section
variable{ns:List Node}(hN:∀x∈ns,NodeOk x)(hR:∀x∈ns, -9223372036854775808≤kW x∧kW x≤9223372036854775807)
theorem Dh (c:(lI ns).1=0):∀i:Nat,i<ns.length→okN ns i (ad ns ↑i)=true:=fun i hi=>by
 have:ad ns (i:Int)=ns[i]:=kx _ _ hi;rw[this];exact HP c i hi
include hN hR in
theorem Dt:∀i:Nat,i<ns.length→A0 (ad ns ↑i):=fun i hi=>by
 have:ad ns (i:Int)=ns[i]:=kx _ _ hi;rw[this];exact⟨hR _ (WO hi),(hN _ (WO hi)).text⟩
include hN hR in
theorem BY (c:(lI ns).1=0):(j3 ns).length≤MX:=by
 obtain⟨_,h0,h3,hk⟩:=qN c;obtain⟨st,tc,Oa⟩:=Ny c;have cE:=Dh c;have o8:ns.length - 1<ns.length:=(by omega);have hl:=(ik (cE _ o8)).2.1
 have:=DH (st:=st) (fun k=>(prP ns ns.length).2 k 0++[10]) 1 (ab (ad ns ((ns.length - 1:Nat):Int))) fun k hm=>by
  obtain⟨j,rfl,hj⟩:=dR cE _ o8 k hm;have:=(JV cE tc (Dt hN hR) ns.length j (by omega) 0 (by omega)).2;rw[VZ];show _+1≤_;omega
 have h1:=tc _ o8;have h2:=Oa _ o8;unfold j3;unfold WB at h2;unfold MX;omega
include hN hR in
theorem By:Evt fun n=>uS (S.tab n) (ns,())=some (Dy ns,nE):=by
 have hs:=BF hN;unfold Dy
 by_cases c:(lI ns).1=0
 ·obtain⟨_,h0,h3,hk⟩:=qN c;have cE:=Dh c;have o8:ns.length - 1<ns.length:=(by omega);have hl:=(ik (cE _ o8)).2.1;have hlen:=BY hN hR c
  have h5:=pl5 ns (prP ns ns.length).2 (ab (ad ns ((ns.length - 1:Nat):Int))) [] (by simp only[List.nil_append];omega) fun k hm=>by
   obtain⟨j,rfl,hj⟩:=dR cE _ o8 k hm;exact(JT cE (Dt hN hR) ns.length j (by omega) (by omega) 0 (by omega)).2.1
  rw[VY c]at hs⊢
  refine(hs.and h5).up fun n ⟨hs,h5⟩=> ?_
  have Mn:i64.wrap ((ns.length:Int) - 1)=((ns.length - 1:Nat):Int):=by rw[wrap64 _ (by omega) (by omega)];omega
  have h5:iW (S.tab n) (pst ns []) (ab (ad ns ((ns.length - 1:Nat):Int))) ((ab (ad ns ((ns.length - 1:Nat):Int))).length:Int) 0=some (Sum.inl (pst ns (j3 ns),())):=h5 [] (by rw[V5,Nat.zero_add];exact hlen);rw[uh,hs,VX,ay (by rfl)];dsimp only;rw[Mn,aj (av o8)];show(iW (S.tab n) (pst ns []) (ab (ad ns ((ns.length - 1:Nat):Int))) ((ab (ad ns ((ns.length - 1:Nat):Int))).length:Int) 0).bind _=_;rw[h5,VX];simp only[aR,Wn];have Vj:Bld.Ih (pst ns (j3 ns)).2=some (((j3 ns).length:Int),j3 ns,()):=rfl;rw[Vj,VX,Wg];dsimp only
  by_cases hc:65536<(j3 ns).length
  ·rw[ak (by omega),VY hc];rfl
  ·rw[ae (by omega),VW hc];show(Bld.pP (j3 ns,())).bind _=_
   have hw:Bld.pP (j3 ns,())=some ((j3 ns).map byte,(),()):=by
    unfold Bld.pP;dsimp only;rw[dZ (show(j3 ns).length≤lim by unfold lim;omega)];rfl
   rw[hw];rfl
 ·rw[VW c]at hs⊢
  refine hs.up fun n hs=> ?_
  rw[uh,hs,VX,aj (by rfl)];rfl
include hN hR in
theorem BG:Evt fun n=>uJ (S.tab n) (ns,())=some (Dy ns,nG):=by
 have hs:=zf hN;unfold Dy
 by_cases c:(lI ns).1=0
 ·obtain⟨et,h0,h3,hk⟩:=qN c;have cE:=Dh c;have o8:ns.length - 1<ns.length:=(by omega);have hl:=(ik (cE _ o8)).2.1;have hlen:=BY hN hR c
  have h6:=rl6 ns (prP ns ns.length).2 (ab (ad ns ((ns.length - 1:Nat):Int))) [] (by simp only[List.nil_append];omega) fun k hm=>by
   obtain⟨j,rfl,hj⟩:=dR cE _ o8 k hm;exact(GJ cE (Dt hN hR) ns.length j (by omega) (by omega) 0 (by omega)).2.2.1
  rw[VY c]
  refine(hs.and h6).up fun n ⟨hs,h6⟩=> ?_
  have Mn:i64.wrap ((ns.length:Int) - 1)=((ns.length - 1:Nat):Int):=by rw[wrap64 _ (by omega) (by omega)];omega
  have h6:iS (S.tab n) (wst ns [] 0) (ab (ad ns ((ns.length - 1:Nat):Int))) ((ab (ad ns ((ns.length - 1:Nat):Int))).length:Int) 0=some (Sum.inl (wst ns (j3 ns) 0,())):=h6 [] (by rw[V5,Nat.zero_add];exact hlen);rw[uo,hs,VX,ay (by rw[et];rfl)];dsimp only;rw[Mn,aj (av o8)];show(iS (S.tab n) (wst ns [] 0) (ab (ad ns ((ns.length - 1:Nat):Int))) ((ab (ad ns ((ns.length - 1:Nat):Int))).length:Int) 0).bind _=_;rw[h6,VX,Wg];show brk (decide (65536<((j3 ns).length:Int))) _ _=_
  by_cases hc:65536<(j3 ns).length
  ·rw[ak (by omega),VY hc];rfl
  ·rw[ae (by omega),VW hc];rfl
 ·rw[VW c]
  refine hs.up fun n hs=> ?_
  rw[uo,hs,VX,aj (by rw[VW c];rfl)];rfl
end
structure ReadN (x:Node):Prop where
 read:Read x
 num: -9223372036854775808≤kW x∧kW x≤9223372036854775807
theorem H6 (ns:List Node)(hN:∀x∈ns,ReadN x)(hn:ns.length≤maxLen):Evt fun n=>pb (S.tab n) (ns,())=some (true,fE):=by
 have Uf:∀x∈ns,Read x:=fun x hx=>(hN x hx).read
 have hR:∀x∈ns, -9223372036854775808≤kW x∧kW x≤9223372036854775807:=fun x hx=>(hN x hx).num
 have iE:=HX ns Uf hn
 by_cases hd:Fi ns 1048576<0
 ·refine iE.up fun n h=> ?_
  rw[VY hd]at h;rw[mD,h,VX,aj (by rfl)]
 ·obtain⟨hO,hl⟩:=guard ns Uf hd
  refine((iE.and (HQ ns hO hl)).and (((BG hO hR).and (By hO hR)).and (D8 ns hO hl))).up fun n ⟨⟨h,ht⟩,⟨hs,hi⟩,e1⟩=> ?_
  rw[VW hd,Wb]at h;rw[mD,h,VX,ae hd,ht,VX];dsimp only;rw[hs,VX,VX];dsimp only;rw[hi,VX];dsimp only;rw[ay (by simp),VX];dsimp only;rw[e1,VX,ay (by rfl)]
end Go.Abs.D
end

section
namespace Go.Abs.D
theorem Lw {x:aa.den}(h:Good aa x):ReadN x:=by
 obtain⟨h1,h2,h3,h4,h5,h6,h7,h8,h9,_⟩:=h;exact⟨⟨h7,⟨h8.1,h8.2⟩,h9.2⟩,h6⟩
end Go.Abs.D
namespace Go.Proofs.YtkmplfkiafonkaaGreatDoor
open Go.ChangeShapes Go.WideShapes Go.ChangeAt Go.RowKit
set_option maxRecDepth 100000 in
theorem Ld (W:World)(hL:laidMetH Tryz.prog Rows.fnExactPrintRow.laid W)(v0:Value)(x0:List Abs.D.aa.den)(SQ:Abs.Rc (Abs.snap W) (.sl Abs.D.aa) x0 [v0])(Oh:Abs.Good (.pr (.sl Abs.D.aa) .un) (x0,())):Calls Tryz.prog 3 #[.agg #[v0]] W fun e w'=>e= .returned (.bool true)∧Below W.heap.size W w':=by
 obtain⟨N,h⟩:=Abs.D.H6 x0 (fun x hx=>Abs.D.Lw (Oh.1.1 x hx)) Oh.1.2
 have cE:=(sys N).fn 3 (by kernel_rfl) ((x0,()),()) (true,(((),()),())) (h N (Nat.le_refl N)) (Abs.snap W) W [.agg #[v0]] [] (Lm hL) (fun b L hb=>Abs.H8 hb)
  ⟨_,_,[],[],rfl,rfl,⟨[v0],rfl,[v0],[],[],[],rfl,rfl,⟨rfl,rfl,_,rfl,SQ⟩,rfl,rfl⟩,⟨rfl,rfl⟩⟩ List.nodup_nil (fun b hb=>by simp at hb) (Abs.x6.none rfl)
 refine(Abs.w7 Tryz.func3 rfl (by kernel_rfl) cE).mono ?_;rintro e w' ⟨v,rfl,cH,n1,n2,A,⟨_,h1,_,u,e2,h2⟩,h3⟩
 injection e2 with e2 _
 subst e2;have h2:[v]=[Value.bool true]:=h2
 injection h2 with h2 _
 subst h2;exact⟨rfl,A.below⟩
set_option maxRecDepth 100000 in
theorem Ia (os:Os)(started:os.Started)(H:Type)(enc:TypeId×Value→H):
  ReturnsInHanded {} Tryz.checked os 3 .any (fun w args=>(Rows.fnExactPrintSpec.pre enc Tryz.prog Tryz.f3 Rows.fnExactPrintRow.domain false w args∧laidMetH Tryz.prog Rows.fnExactPrintRow.laid w)∧sizedMet enc Tryz.prog Tryz.f3 (OpenSpec.ofChange Rows.fnExactPrintSpec) false w args)
   (Rows.fnExactPrintSpec.post enc Tryz.prog Tryz.f3 false true false false):=by
 refine returnsInHanded_of_change_and (C:=Tryz.checked) (X:=fun w _=>laidMetH Tryz.prog Rows.fnExactPrintRow.laid w) (fun _ _ _ hh h=>h.of_heap hh) own started (by kernel_rfl) Tryz.func3
  (ChangeSpec.witness_shaped (enc:=enc) (C:=Tryz.checked) (os:=os) (X:=fun w _=>laidMetH Tryz.prog Rows.fnExactPrintRow.laid w) false (World.laidAll Tryz.prog os Rows.fnExactPrintRow.laid) #[.agg #[.slice none 0 0]] 8 (World.laidAll_os _ _ _)
   (World.shaped_of_ZipB (by kernel_rfl) (by kernel_rfl)) (by kernel_rfl) (by kernel_rfl) (by kernel_rfl)
   (by rw[MakeChecks.laidMetH_plain _ _ _ (by kernel_rfl)];exact laidMet_laidAll _ (by kernel_rfl) (by kernel_rfl))) ?_
 intro W base args ds gs before MJ hW _ _ hL _;have IA:∀(j:Nat) t v,Tryz.f3.params[j]?=some t→args[j]?=some v→Value.okWide Tryz.prog W .any base t v:=MJ;have Ru:=hW;obtain⟨p,q,T7,hV,rfl,UN,kY⟩:=hW;have hA:DataW.TrodAll enc Tryz.prog W 0 (fun _=>true) true Tryz.f3.params.toList args.toList ds p:=T7;rw[Tryz.params3]at hA IA;obtain⟨v0,vs0,d0,ds0,p0,q0,hargs0,rfl,rfl,h0,r0⟩:=trodAll_cons hA;obtain⟨rfl,rfl,rfl⟩:=trodAll_nil r0
 obtain rfl:args=#[v0]:=by cases args;simp_all
 have Vy:=h0;obtain⟨Qf,Rp⟩:=h0;obtain⟨O6,rfl⟩:=D1 Tryz.underlying24 (IA 0 24 v0 rfl rfl);obtain⟨SQ,Oh⟩:=Abs.yN 5 Qf 24 (.pr (.sl Abs.D.aa) .un) _ _ (by kernel_rfl) Rp
 have Sg:∃v,O6=#[v]∧Abs.Rc (Abs.snap W) (.sl Abs.D.aa) (Abs.ofD (.pr (.sl Abs.D.aa) .un) d0).1 [v]:=by
  obtain⟨c1,c2,e,h1,h2⟩:=SQ;have h2:c2=[]:=h2;subst h2;obtain⟨A,c,rfl,h3⟩:=h1;have e:O6.toList=_:=e;exact⟨_,by apply Array.ext';rw[e];rfl,A,c,rfl,h3⟩
 obtain⟨w0,rfl,P7⟩:=Sg
 have SI:∀x∈p0,x.block<W.heap.size:=fun x hx=>by simpa using Ru.lt x (List.mem_append_left _ (List.mem_append_left _ hx))
 have Vs:=vR hV
 match gs,Vs,hV,Ru with
 |[g1,g2,g3],_,hV,Ru=>
  clear T7 MJ
  refine(Ld W hL w0 _ P7 Oh).mono fun e W' ⟨he,S1⟩=> ?_
  subst he;exact⟨_,rfl,_,_,_,[],_,_,Ru,trodAll_mk1 (shut_bool Tryz.underlying4 _),(trodAll_cons_mk (Below.trod laidOut (by kernel_rfl) (of_decide_eq_true (by kernel_rfl)) Vy S1 SI) trodAll_mk0),Below.trodVars laidOut S1 (by kernel_rfl) hV,S1.frame _,fun h=>by cases h⟩
theorem Ns:Rows.FnExactPrintSaid:=
 OpenClaim.holds_of_wide 3 Tryz.f3 rfl rfl rfl rfl rfl rfl rfl ⟨rfl,rfl,rfl,rfl,rfl⟩ rfl rfl rfl rfl rfl (by kernel_rfl) Tryz.func3 (by kernel_rfl)
  (of_decide_eq_true (by kernel_rfl)) (by unfold Func.isWrapper;first|(rw[if_pos (by decide+kernel)];kernel_rfl)|(rw[if_neg (by decide+kernel)];exact⟨rfl,rfl⟩))
  (fun os started H enc _=>Ia os started H enc)
theorem fnExactPrint_holds:Rows.FnExactPrintCardSaid:=
 Claim7.holds_tied_plain_at .later [] [.data, .data, .data, .sentinel, .sentinel, .data, .data, .data] true (true, "964984a6e353a4e2adeb383b7bdedd62cbb3e624073b1565e69868e09556fc1f") true
  Ns (fun _ h=>by cases h) (by kernel_rfl) (fun _ h=>by cases h) fnExactPrint_row_tie rfl ⟨rfl,rfl⟩ (by kernel_rfl) rfl
  (fun f fn hf M1=>by
   obtain rfl:f=3:=Option.some.inj ((show Tryz.prog.funcNamed "loop.example/warp/laws.FnExactPrint" =some 3 by kernel_rfl).symm.trans hf)|>.symm
   obtain rfl:fn=Tryz.f3:=(Option.some.inj (Tryz.func3.symm.trans M1)).symm
   exact⟨by kernel_rfl,fun j t ht=>by
    rw[Tryz.params3]at ht
    have hm:t∈[24]:=by simpa using Array.mem_of_getElem? ht
    have nd:([24].all fun u=> !Tryz.prog.wantsStandIn u)=true:=by kernel_rfl
    exact(show Tryz.prog.wantsStandIn t=false by simpa using List.all_eq_true.1 nd t hm)⟩)
  (by kernel_rfl)
end Go.Proofs.YtkmplfkiafonkaaGreatDoor
#print axioms Go.Proofs.YtkmplfkiafonkaaGreatDoor.fnExactPrint_holds
end
