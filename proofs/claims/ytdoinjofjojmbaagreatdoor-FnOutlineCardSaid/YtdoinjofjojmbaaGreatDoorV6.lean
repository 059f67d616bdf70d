/- What is here: the reference's builder of trees: parameters, blocks, tables, operands, names. -/
import Derived.Test.YtdoinjofjojmbaaGreatDoorV5
set_option linter.all false
set_option maxRecDepth 100000
open Go.IntKind (i64 u64 u8)
open And renaming intro → aK
open BitVec renaming ofInt → cw
open Bool renaming and_eq_false_iff → cI, and_eq_true → aA, and_false → aQ, and_self → bK, false → ar, false_and → a47, false_or → cH, not_eq_true' → cq, true → av, true_and → ct
open Decidable renaming decide → I, not_not → bP
open Go.IntKind renaming i64 → aq, u64 → aH, u8 → aN
open Int renaming le_refl → bF, le_trans → a38, reduceEq → ba, reduceLE → bc, toNat_natCast → bq
open List renaming all_cons → cz, all_eq_true → aW, append_assoc → aI, append_nil → aU, drop_eq_getElem_cons → bJ, drop_zero → cc, eq_nil_of_length_eq_zero → bn, ext_getElem? → a06, getD_eq_getElem?_getD → aG, getElem?_drop → cL, getElem?_eq_getElem → aJ, getElem?_eq_none → bM, getElem?_map → a05, getElem?_take → cK, getElem_mem → bm, length_append → ax, length_cons → az, length_map → bT, length_nil → aB, length_pos_iff → cp, length_set → cA, length_singleton → bu, length_take → bl, mem_append → aL, mem_cons → bA, mem_cons_of_mem → aD, mem_cons_self → aF, mem_flatMap → a33, mem_map → cG, mem_of_mem_drop → cD, mem_of_mem_take → cC, mem_range → a03, mem_singleton → bD, not_mem_nil → a35, range → a09, replicate → aM, take_length → ck, take_of_length_le → a11
open Nat renaming ble → a10, le_of_ble_eq_true → aP, le_refl → aC, le_succ → bR, le_trans → bX, lt_or_ge → bG, zero_le → aX
open Option renaming bind_some → au, none → ay, some → J
open Sum renaming elim_inl → aO, elim_inr → aT, inl → an, inr → aE
section
set_option maxRecDepth 100000
namespace Go.Abs.D
variable{G:Toks}{U:Type}{a b c:Nat}{nd:List Node}{m:Int}
def ZD (q:LI):Prop:=q=[126]\/q=[127]\/q=[128]\/q=[]
theorem af6:(kinds.all λk=>I (stS 126 k=bif I (k=49)then .left []else bif I (k=1)then .left [127]else .gone)&&(I (stS 127 k=bif I (k=46)then .left [128]else .gone)&&I (stS 128 k=bif I (k=1)then .left [127]else bif I (k=49)then .left []else .no)))=true:=by kernel_rfl
theorem Tq {q r:LI}(hq:ZD q){a:Nat}(ha:a<=G.out.length)(h:Ac G.out (q++41::r) a):(KA G.out a=41/\a<G.out.length/\Ac G.out r (a+1))\/(KA G.out a≠41/\a<G.out.length/\∃q',ZD q'/\Ac G.out (q'++41::r) (a+1)):=by
 have ht:=G.tab af6 a;simp at ht;obtain⟨t1,t2,t3⟩:=ht
 have fin:Ac G.out (41::r) a->KA G.out a=41/\a<G.out.length/\Ac G.out r (a+1):=λh=>by
  obtain⟨h1,h2,h3⟩:=jF h ha (by decide);simp_all
 rcases hq with rfl|rfl|rfl|rfl
 ·by_cases k1:KA G.out a=49
  ·rw[ab k1]at t1;obtain⟨hl,h⟩:=fU t1 rfl h ha;exact .inr ⟨by omega,hl,[], .inr (.inr (.inr rfl)),h⟩
  rw[aa k1]at t1
  by_cases k2:KA G.out a=1
  ·rw[ab k2]at t1;obtain⟨hl,h⟩:=fU t1 rfl h ha;exact .inr ⟨by omega,hl,[127], .inr (.inl rfl),h⟩
  rw[aa k2]at t1;exact .inl (fin (gF t1 rfl h ha))
 ·by_cases k1:KA G.out a=46
  ·rw[ab k1]at t2;obtain⟨hl,h⟩:=fU t2 rfl h ha;exact .inr ⟨by omega,hl,[128], .inr (.inr (.inl rfl)),h⟩
  rw[aa k1]at t2;exact .inl (fin (gF t2 rfl h ha))
 ·by_cases k2:KA G.out a=1
  ·rw[ab k2]at t3;obtain⟨hl,h⟩:=fU t3 rfl h ha;exact .inr ⟨by omega,hl,[127], .inr (.inl rfl),h⟩
  rw[aa k2]at t3
  by_cases k1:KA G.out a=49
  ·rw[ab k1]at t3;obtain⟨hl,h⟩:=fU t3 rfl h ha;exact .inr ⟨by omega,hl,[], .inr (.inr (.inr rfl)),h⟩
  rw[aa k1]at t3;exact(sB t3 rfl h ha).elim
 simp_all
def nmO (ns:List LI)(a:Nat):Prop:=(∀m∈ns,∀c∈m,isByte c)/\ns.length<=a
theorem nmO.snoc {ns:List LI}{a b:Nat}(h:nmO ns a)(ad6:a<b){m:LI}(hm:∀c∈m,isByte c):nmO (ns++[m]) b:=
 ⟨λx hx=>by
  rcases aL.1 hx with hx|hx
  ·exact h.1 x hx
  simp_all,by have:=h.2;grind⟩
theorem nmO.up {ns:List LI}{a b:Nat}(h:nmO ns a)(ad6:a<=b):nmO ns b:=⟨h.1,bX h.2 ad6⟩
theorem Tm (nd:List Node)(f ln:Int)(r:LI):∀(d a:Nat) (q:LI) (op:Int) (ns:List LI),G.out.length<a+d->a<=G.out.length->ZD q->nmO ns a->rg op->Ac G.out (q++41::r) a->
  dV (λy=>∃(a':Nat) (VJ:Int) (Oy:List LI),y=an (st G a' nd,(36,f,0,ln,VJ,0,[],Oy,[],()),())/\(a<=a'/\a'<G.out.length/\Ac G.out r (a'+1))/\nmO Oy a'/\rg VJ) λT=>kL T (st G a nd) (36,f,0,ln,op,0,[],ns,[],()):=by
 intro d
 induction d with
 |zero=>omega
 |succ d ih=>
  intro a q op ns hd ha hq F9 ZH hA;have hL:=G.len;refine .up (λT=>Ax T _ _) (.then (pU G ha) ?_)
  rcases Tq hq ha hA with⟨hk,hl,h⟩|⟨hk,hl,q',Vs,h⟩
  ·exact .no (by rw[show I ((KA G.out a,st G a nd,()).1=41)=av from ab hk];rfl) (.ret ⟨a,op,ns,rfl,⟨aC _,hl,h⟩,F9,ZH⟩)
  ·have up:∀{y:(StT×Node×Unit)⊕Empty},(∃(a':Nat) (VJ:Int) (Oy:List LI),y=an (st G a' nd,(36,f,0,ln,VJ,0,[],Oy,[],()),())/\(a+1<=a'/\a'<G.out.length/\Ac G.out r (a'+1))/\nmO Oy a'/\rg VJ)->∃(a':Nat) (VJ:Int) (Oy:List LI),y=an (st G a' nd,(36,f,0,ln,VJ,0,[],Oy,[],()),())/\(a<=a'/\a'<G.out.length/\Ac G.out r (a'+1))/\nmO Oy a'/\rg VJ:=λ{y} ⟨a',VJ,Oy,e,⟨p1,p2⟩,p3⟩=>⟨a',VJ,Oy,e,⟨by omega,p2⟩,p3⟩
   refine .yes (by rw[show I ((KA G.out a,st G a nd,()).1=41)=ar from aa hk];rfl) (.then (iL G hl) (.ite (λ_=> .yes (N4 (by have:=F9.2;show ns.length<=_;omega)) ?_) λ_=> .ite (λ_=> ?_) λ_=> ?_))
   ·exact(ih (a+1) q' op _ (by omega) (by omega) Vs (F9.snoc (by omega) (G.txt _)) ZH h).mono λy=>up
   ·exact(ih (a+1) q' 1 ns (by omega) (by omega) Vs (F9.up (by omega)) (by decide) h).mono λy=>up
   ·exact(ih (a+1) q' op ns (by omega) (by omega) Vs (F9.up (by omega)) ZH h).mono λy=>up
def Fn (G:Toks)(b a:Nat):Prop:=∀(nd:List Node) (r:LI),b<=a->a<=G.out.length->nd.length<=4*a->Ac G.out (133::r) a->dV (λx=>∃(a':Nat) (od:List Node),x.2.1=st G a' od/\MD G a nd a' od 2/\a<a'/\Spn G od x.1 b a'/\Ac G.out r a') λT=>rz T (st G a nd) (36,(tkA G.out b).2.1,0,(tkA G.out b).2.2.2.1,0,0,[],[],[],())
abbrev Bn (G:Toks)(a:Nat):Prop:=Sn G (λT s=>gi T s) [132] 2 a
theorem Ia:(kinds.all λk=>I (stS 133 k=bif I (k=40)then .left [126,41,132]else .no)&&I (stS 132 k=bif I (k=42)then .left [100,43]else .no))=true:=by kernel_rfl
theorem af4 (hB:∀a',a<a'->Bn G a'):Fn G b a:=by
 intro nd r hb ha hn hA;have hL:=G.len;have ht:=G.tab Ia a;simp only[aA,ae]at ht
 by_cases hk:KA G.out a=40
 ·rw[ab hk]at ht;obtain⟨hl,hA⟩:=fU ht.1 rfl hA ha;have M1:=(Md.refl (G:=G) (nd:=nd) ha).tok hl;refine .up (λT=>DZ T _ _) (.then (iL G hl) (.bind (Tm nd (tkA G.out b).2.1 (tkA G.out b).2.2.2.1 (132::r) (G.out.length+1) (a+1) [126] 0 [] (by omega) hl (.inl rfl) ⟨(λ_ h=>nomatch h),by simp⟩ (by decide) hA) ?_));rintro _ ⟨a1,op,ns,rfl,⟨p1,p2,p3⟩,F9,ZH⟩;have M2:MD G a nd (a1+1) nd 4:=⟨by omega,p2,by omega,⟨[],by simp⟩,λh=>h⟩
  refine .then (iL G p2) (.bind (hB (a1+1) (by omega) nd r p2 (by omega) p3) ?_)
  rintro⟨m,_,u⟩ ⟨a2,w9,rfl,M3,lt,s,wg⟩;obtain⟨c,rfl⟩:∃c,a2=c+1:=⟨a2 - 1,by omega⟩;have M4:=M2.trans M3
  refine .then (ky G M4.top (M4.len hn).2 _) (.ret ⟨c+1,w9++[mkN G b c 36 op 0 [] ns [m]],rfl,(M4.less (j:=3) (by omega)).add (xs:=[m]) ⟨by decide,ZH,by decide⟩ tx0 ⟨F9.1,by have:=F9.2;omega⟩ (by omega) (.one s (by show b+1<=a1+1;omega) (aC _)),by omega,z7 (aC _) (by omega) (aC _),wg⟩)
 ·rw[aa hk]at ht;exact(sB ht.1 rfl hA ha).elim
def Tn (G:Toks)(u:Int)(a:Nat)(nd:List Node)(r:LI):Prop:=dV (λx=>∃(a':Nat) (od:List Node),x.2.1=st G a' od/\MD G a nd a' od 0/\Kd G od a x.1 a'/\Ac G.out r a') λT=>qu T (st G a nd) u
theorem TI (hT:∀nd r,a+1<=G.out.length->nd.length<=4*(a+1)->Ac G.out (100::43::r) (a+1)->Tn G 43 (a+1) nd (43::r)):Bn G a:=by
 intro nd r ha hn hA;have ht:=G.tab Ia a;simp only[aA,ae]at ht
 by_cases hk:KA G.out a=42
 ·rw[ab hk]at ht;obtain⟨hl,hA⟩:=fU ht.2 rfl hA ha;refine .up (λT=>CE T _) (.then (iL G hl) (.then (iz _ _) (.bind (hT nd r hl (by omega) hA) ?_)));rintro⟨xs,_,u⟩ ⟨a1,jT,rfl,M1,k,pa⟩;obtain⟨pb,_,wg⟩:=jF pa M1.top (by decide);have M2:=(((Md.refl (G:=G) (nd:=nd) ha).tok hl).trans M1).tok pb;have:=M1.le
  exact .then (iL G pb) (.then (ky G pb (M2.len hn).2 _) (.ret (uU 1 0 0 (M2.less (by omega)) (by decide) tx0 ns0 (aC _) (by omega) ((k.down (bR _)).up (bR _)) wg)))
 ·rw[aa hk]at ht;exact(sB ht.2 rfl hA ha).elim
theorem Wi:(kinds.all λk=>I (stS 131 k=bif I (k=48)then .left [1,47,119]else bif I (k=44)then .left [119,45,47,119]else stS 119 k))=true:=by kernel_rfl
theorem Wx:(kinds.all λk=>I (stS 129 k=bif pD k||(I (k=48)||decide (k=44))then(stS 131 k).then [130] .no else .gone)&&I (stS 130 k=bif I (k=46)then .left [129]else .gone))=true:=by kernel_rfl
theorem Y6 (hX:∀a',a<=a'->Xn G a'):Sn G (λT s=>uB T s) [131] 1 a:=by
 intro nd r ha hn hA;have ht:=of_decide_eq_true (G.tab Wi a);have M0:=Md.refl (G:=G) (nd:=nd) ha
 have fin:∀{a1:Nat} {jT:List Node} (ki:Int) (t ks:LI) {k:Nat},rg3 ki 0 0->ki≠36->(∀c∈t,isByte c)->MD G a nd a1 jT k->Kd G jT a ks a1->a<=a1->Ac G.out (119::r) a1->ks.length<=10->
   dV (GOT G (Ac G.out r) a nd 1) λT=>(jz T (st G a1 jT) (ki,(tkA G.out a).2.1,0,(tkA G.out a).2.2.2.1,0,0,t,[],ks,())).bind (dB λtC=>J (tC.2.1,tC.1,())):=λ{a1 jT} ki t ks k hr AK ht M kd aQ2 hA=>λCc=>by
  have j:dV (λy=>∃s m,y=an (s,m,())/\GOT G (Ac G.out r) a nd 1 (m,s,())) λT=>jz T (st G a1 jT) (ki,(tkA G.out a).2.1,0,(tkA G.out a).2.2.2.1,0,0,t,[],ks,()):=by
   refine .up (λT=>yd T _ _) (.bind (hX a1 aQ2 jT r M.top (M.len hn).1 hA) ?_);rintro⟨m,_,u⟩ ⟨a2,w9,rfl,M2,lt,s,wg⟩;obtain⟨c,rfl⟩:∃c,a2=c+1:=⟨a2 - 1,by omega⟩;have M3:=M.trans M2;exact .yes (N4 (by show ks.length<=_;omega)) (.then (ky G M3.top (M3.len hn).2 _) (.ret ⟨_,_,rfl,uU ki 0 0 (M3.less (by omega)) hr ht ns0 (aC _) (by omega) (by rw[aa AK];exact .snoc (M2.kid kd) (aC _) s (aC _)) wg⟩))
  refine .bind j ?_;rintro _ ⟨s,m,rfl,h⟩;exact .ret h
 refine .up (λT=>Cr T _) (.yes (G.inb ha) ?_)
 by_cases k1:KA G.out a=48
 ·rw[ab k1]at ht;obtain⟨hl,hA⟩:=fU ht rfl hA ha;obtain⟨nJ,_,hA⟩:=jF hA hl (by decide);obtain⟨pb,_,hA⟩:=jF hA nJ (by decide);rw[G.aS hl]
  exact .then (iz _ _) (.then (LM G ha k1) (.yes rfl (.then (iL G nJ) (.then (iL G pb) (fin 42 _ [] (by decide) (by decide) (G.txt _) (((M0.tok hl).tok nJ).tok pb) (.nil (by omega)) (by omega) hA (by simp))))))
 rw[aa k1]at ht
 by_cases k2:KA G.out a=44
 ·rw[ab k2]at ht;obtain⟨hl,hA⟩:=fU ht rfl hA ha;have M1:=M0.tok hl;rw[G.aS hl]
  refine .then (iz _ _) (.then (Jc G ha k1) (.no rfl (.then (LM G ha k2) (.yes rfl (.bind (hX (a+1) (by omega) nd _ hl (by omega) hA) ?_)))))
  rintro⟨m,_,u⟩ ⟨a1,jT,rfl,M2,lt,s,pa⟩;obtain⟨nJ,_,hA⟩:=jF pa M2.top (by decide);obtain⟨pb,_,hA⟩:=jF hA nJ (by decide)
  exact .then (iL G nJ) (.then (iL G pb) (.yes rfl (fin 41 [] [m] (by decide) (by decide) tx0 (((M1.trans M2).tok nJ).tok pb) (.one s (by omega) (by omega)) (by omega) hA (by simp))))
 rw[aa k2]at ht;have ht:stS 131 (KA G.out a)=stS 119 (KA G.out a):=ht
 have hA:Ac G.out (119::r) a:=by
  rcases qA ha hA with⟨l,e,hl,h⟩|⟨e,h⟩
  ·rw[ht]at e;exact UK e hl h
  ·rw[ht]at e;have:=G.tab Lj a;rw[e]at this;simp at this
 have hl:a<G.out.length:=by
  rcases bG a G.out.length with h|h
  ·exact h
  ·have Vj:=G.tab Lj a;simp only[aA,ae]at Vj
   have e:KA G.out a=6:=by simp_all[KA,aG,bM]
   exact(sB (show stS 119 6= .no by kernel_rfl) e hA ha).elim
 rw[G.aS hl]
 exact .then (iz _ _) (.then (Jc G ha k1) (.no rfl (.then (Jc G ha k2) (.no rfl (fin 40 [] [] (by decide) (by decide) tx0 M0 (.nil (aC _)) (aC _) hA (by simp))))))
theorem OF (hn:nd.length<=4*b)(hX:∀a',b<a'->Xn G a')(r:LI):∀(d a:Nat) (ks:LI) (jT:List Node) (q:Int),G.out.length<a+d->b<a->MD G b nd a jT 1->Kd G jT b ks a->(q=129\/(q=130/\KA G.out a≠46))->Ac G.out (q::43::r) a->
  dV (λy=>∃(a':Nat) (od:List Node) (ac0:LI),y=an (st G a' od,(35,(tkA G.out b).2.1,0,(tkA G.out b).2.2.2.1,0,0,[],[],ac0,()),())/\MD G b nd a' od 1/\b<a'/\Kd G od b ac0 a'/\Ac G.out (43::r) a') λT=>nT T (st G a jT) (35,(tkA G.out b).2.1,0,(tkA G.out b).2.2.2.1,0,0,[],[],ks,()):=by
 intro d
 induction d with
 |zero=>intro a ks jT q h _ M;have:=M.top;omega
 |succ d ih=>
  intro a ks jT q hd h0 M k hq hA;have ha:=M.top;have hL:=G.len;have ht:=G.tab Wx a;simp only[aA,ae]at ht;refine .up (λT=>yO T _ _) (.then (pU G ha) ?_)
  by_cases hk:KA G.out a=43
  ·refine .no (by rw[show I ((KA G.out a,st G a jT,()).1=43)=av from ab hk];rfl) (.ret ⟨a,jT,ks,rfl,M,h0,k, ?_⟩)
   rcases hq with rfl|⟨rfl,_⟩
   ·exact gF (show stS 129 43= .gone by kernel_rfl) hk hA ha
   ·exact gF (show stS 130 43= .gone by kernel_rfl) hk hA ha
  ·have ac7:q=129:=by
    rcases hq with h|⟨rfl,E6⟩
    ·exact h
    ·rw[aa E6]at ht;exact absurd (jF (gF ht.2 rfl hA ha) ha (by decide)).2.1 hk
   subst ac7
   have wg:Ac G.out (131::130::43::r) a:=by
    cases hu:pD (KA G.out a)||(I (KA G.out a=48)||decide (KA G.out a=44))with
    |true=>rw[hu]at ht;exact Es ht.1 hA ha
    |false=>rw[hu]at ht;exact absurd (jF (gF ht.1 rfl hA ha) ha (by decide)).2.1 hk
   refine .yes (by rw[show I ((KA G.out a,st G a jT,()).1=43)=ar from aa hk];rfl) (.bind (Y6 (λa' h=>hX a' (by omega)) jT _ ha (M.len hn).1 wg) ?_);rintro⟨m,_,u⟩ ⟨a1,w9,rfl,M2,lt,s,Ey⟩;have hx:=k.le;have k2:Kd G w9 b (ks++[m]) a1:= .snoc (M2.kid k) (aC _) s (aC _);have M3:=M.trans M2;refine .yes (N4 (by show ks.length<=_;omega)) ?_
   by_cases E6:KA G.out a1=46
   ·obtain⟨hl,Rt⟩:=fU (show stS 130 46= .left [129]by kernel_rfl) E6 Ey M3.top
    exact .then (LM G M3.top E6) (ih (a1+1) _ w9 129 (by omega) (by omega) ((M3.tok hl).less (by omega)) (k2.up (bR _)) (.inl rfl) Rt)
   ·exact .then (Jc G M3.top E6) (ih a1 _ w9 130 (by omega) (by omega) (M3.less (by omega)) k2 (.inr ⟨rfl,E6⟩) Ey)
theorem ay4:SC [122]:=λs hs=>by
 rw[bD.1 hs];exact⟨122,by simp,122,by simp,by kernel_rfl,by kernel_rfl,by kernel_rfl⟩
theorem WQ:(kinds.all λk=>I (k=48)||decide (k=44)||decide (k=40)||decide (stS 122 k= .gone))=true:=by kernel_rfl
theorem YI (k:Int):rg (unK k):=by grind [unK,decide]
theorem ne2 {x k j:Int}(h:x=k)(hj:k≠j):x≠j:=λe=>hj (h.symm.trans e)
abbrev Un (G:Toks)(a:Nat):Prop:=Sn G (λT s=>pA T s) [120] 2 a
theorem WI (hX:∀a',a<a'->Xn G a')(hU:Un G (a+1))(hF:Fn G a (a+1)):Un G a:=by
 intro nd r ha hn hA;have ht:=of_decide_eq_true (G.tab Zi a)
 have aN8:a<G.out.length->(KA G.out a=1/\Ac G.out (122::r) (a+1))\/(KA G.out a=40/\Ac G.out (119::41::122::r) (a+1))->dV (GOT G (Ac G.out r) a nd 2) λT=>(hZ T (st G a nd)).bind λd20=>J d20:=λhl h=>by
  refine .bind (vA ay4 hX nd r (bD.2 rfl) hl hn h) ?_;rintro x ⟨a',od,e,M,lt,s,s',hs,hA,n1,n2,n3⟩;rw[bD.1 hs]at hA;have:=G.tab WQ a';simp only[Bool.or_eq_true,ae]at this;exact .ret ⟨a',od,e,M,lt,s,gF (by rcases this with((h|h)|h)|h<;>first|exact h|contradiction) rfl hA M.top⟩
 refine .up (λT=>DK T _) (.then (pU G ha) ?_)
 by_cases k1:KA G.out a=1
 ·have hp:A8 (KA G.out a)=false:=by rw[k1];rfl
  rw[hp,ab k1]at ht;obtain⟨hl,hA⟩:=fU ht rfl hA ha;exact .yes (ab k1) (aN8 hl (.inl ⟨k1,hA⟩))
 refine .no (aa k1) (.then (pU G ha) ?_)
 by_cases k2:KA G.out a=40
 ·have hp:A8 (KA G.out a)=false:=by rw[k2];rfl
  rw[hp,aa k1,ab k2]at ht;obtain⟨hl,hA⟩:=fU ht rfl hA ha;exact .yes (ab k2) (aN8 hl (.inr ⟨k2,hA⟩))
 rw[aa k1,aa k2]at ht
 have hl:a<G.out.length:=by
  rcases qA ha hA with⟨l,e,hl,h⟩|⟨e,h⟩
  ·exact hl
  ·rw[ht]at e;cases hp:A8 (KA G.out a)<;>rw[hp]at e
   ·cases SM:I (KA G.out a=18)<;>rw[SM]at e
    ·cases S1:I (KA G.out a=42)<;>rw[S1]at e
     ·cases hu:pD (KA G.out a)<;>rw[hu]at e<;>cases e
     ·cases e
    ·cases e
   ·cases e
 have M1:=(Md.refl (G:=G) (nd:=nd) ha).tok hl;have Ow:=G.kdA hl
 have leaf:∀(ki num:Int) (t:LI) {u:Unit},rg3 ki 0 num->ki≠36->(∀c∈t,isByte c)->Ac G.out r (a+1)->dV (GOT G (Ac G.out r) a nd 2) λT=>(dy T (st G (a+1) nd) (ki,(tkA G.out a).2.1,0,(tkA G.out a).2.2.2.1,0,num,t,[],[],())).bind λd51=>J (d51.1,d51.2.1,u):=λki num t u hr AK ht hA=>
  .then (ky G hl (M1.len hn).2 _) (.ret (uU ki 0 num (M1.less (by omega)) hr ht ns0 (aC _) (aC _) (by rw[aa AK];exact .nil (bR _)) hA))
 refine .no (aa k2) (.then (iL G hl) (.then (UA _) ?_));rw[show(tkA G.out a,st G (a+1) nd,()).1.1=KA G.out a from Ow]
 refine .brk (λhp=> ?_) λhp=> ?_
 ·have hp:A8 (KA G.out a)=true:=hp;rw[hp]at ht;obtain⟨_,hA⟩:=fU ht rfl hA ha;refine .bind (hU nd r hl (by omega) hA) ?_;rintro⟨m,_,u⟩ ⟨a1,jT,rfl,M2,lt,s,pa⟩;obtain⟨c,rfl⟩:∃c,a1=c+1:=⟨a1 - 1,by omega⟩;have M3:=M1.trans M2
  exact .then (iz _ _) (.then (V9 _) (.then (ky G M3.top (M3.len hn).2 _) (.ret (uU 30 _ 0 (M3.less (by omega)) ⟨by decide,YI _,by decide⟩ tx0 ns0 (aC _) (by omega) (.one s (by show a<=_;omega) (aC _)) pa))))
 have hp:A8 (KA G.out a)=false:=hp;rw[hp]at ht
 have simple:KA G.out a≠18->KA G.out a≠42->Ac G.out r (a+1):=λSM S1=>by
  rw[aa SM,aa S1]at ht
  cases hu:pD (KA G.out a)with
  |true=>rw[hu]at ht;exact(fU ht rfl hA ha).2
  |false=>rw[hu]at ht;exact(sB ht rfl hA ha).elim
 refine .ite (λh=> .then (iz _ _) (leaf 23 _ [] ⟨by decide,by decide,(G.au5 a).n⟩ (by decide) tx0 (simple (ne2 h (by decide)) (ne2 h (by decide))))) λn2=> .ite (λh=> .then (iz _ _) (leaf 24 0 _ (by decide) (by decide) (G.txt a) (simple (ne2 h (by decide)) (ne2 h (by decide))))) λn3=> .ite (λh=> .then (iz _ _) (leaf 25 0 _ (by decide) (by decide) (G.txt a) (simple (ne2 h (by decide)) (ne2 h (by decide))))) λn4=>
  .ite (λh=> .then (iz _ _) (leaf 20 0 [] (by decide) (by decide) tx0 (simple (ne2 h (by decide)) (ne2 h (by decide))))) λaP6=> .ite (λh=> .then (iz _ _) (leaf 21 0 [] (by decide) (by decide) tx0 (simple (ne2 h (by decide)) (ne2 h (by decide))))) λaT8=> .ite (λh=> .then (iz _ _) (leaf 22 0 [] (by decide) (by decide) tx0 (simple (ne2 h (by decide)) (ne2 h (by decide))))) λaU0=> .ite (λh=> .then (iz _ _) (leaf 27 0 [] (by decide) (by decide) tx0 (simple (ne2 h (by decide)) (ne2 h (by decide))))) λaY1=> .ite (λSM=> ?_) λar6=> ?_
 ·rw[ab SM]at ht
  refine .then (iz _ _) (.bind (hF nd r (bR _) hl (by omega) (fU ht rfl hA ha).2) ?_)
  rintro⟨m,_,u⟩ ⟨a1,jT,rfl,M2,lt,s,pa⟩;exact .ret ⟨a1,jT,rfl,(M1.trans M2).less (by omega),by omega,s,pa⟩
 ·have S1:KA G.out a=42:=by
   rcases Decidable.em (KA G.out a=42)with h|h
   ·exact h
   ·rw[aa ar6,aa h]at ht
    have hu:pD (KA G.out a)=false:=by
     unfold pD;rw[hp,aa k1,aa k2,aa n2,aa n3,aa n4,aa aP6,aa aT8,aa aU0,aa aY1,aa ar6,aa h];rfl
    rw[hu]at ht;exact(sB ht rfl hA ha).elim
  rw[aa ar6,ab S1]at ht
  refine .then (iz _ _) (.bind (OF hn hX r (G.out.length+1) (a+1) [] nd 129 (by omega) (by omega) (M1.less (by omega)) (.nil (bR _)) (.inl rfl) (fU ht rfl hA ha).2) ?_)
  rintro _ ⟨a1,jT,ks,rfl,M2,lt,k,pa⟩;obtain⟨pb,_,wg⟩:=jF pa M2.top (by decide);have M3:=M2.tok pb
  exact .then (iL G pb) (.then (ky G pb (M3.len hn).2 _) (.ret (uU 35 0 0 (M3.less (by omega)) (by decide) tx0 ns0 (aC _) (by omega) (k.up (bR _)) wg)))
end Go.Abs.D
end

section
set_option maxRecDepth 100000
namespace Go.Abs.D
variable{G:Toks}{U:Type}{a a' b c:Nat}{nd:List Node}{m:Int}
def JX (G:Toks)(Q:LI->Prop):Prop:=∀st a,Q st->a<=G.out.length->Ac G.out st a->KA G.out a=46->a<G.out.length/\∃Jd,Q Jd/\Ac G.out (1::Jd) (a+1)
theorem OQ {Q:LI->Prop}(hQ:JX G Q)(nd:List Node):∀(d a:Nat) (q:LI) (ns:List LI) (t:cZ.den),G.out.length<a+d->a<=G.out.length->nmO ns a->Q q->Ac G.out q a->
  dV (λy=>∃(a':Nat) (Oy:List LI),y=an (st G a' nd,Oy,())/\(a<=a'/\a'<=G.out.length)/\nmO Oy a'/\Xi G Q a') λT=>nQ T (st G a nd) t ns:=by
 intro d
 induction d with
 |zero=>omega
 |succ d ih=>
  intro a q ns t hd ha F9 hq hA;have hL:=G.len
  by_cases hk:KA G.out a=46
  ·obtain⟨hl,q',Vs,hA⟩:=hQ q a hq ha hA hk;obtain⟨nJ,_,hA⟩:=jF hA hl (by decide);refine .up (λT=>rR T _ _ _) (.then (LM G ha hk) (.yes rfl (.then (iL G nJ) (.yes (N4 (by have:=F9.2;show ns.length<=_;omega)) ((ih (a+1+1) q' _ _ (by omega) nJ (F9.snoc (by omega) (G.txt _)) Vs hA).mono ?_)))));rintro y ⟨a',Oy,e,⟨p1,p2⟩,p3⟩;exact⟨a',Oy,e,⟨by omega,p2⟩,p3⟩
  ·exact .up (λT=>rR T _ _ _) (.then (Jc G ha hk) (.no rfl (.ret ⟨a,ns,rfl,⟨aC _,ha⟩,F9,q,hq,hA,hk⟩)))
theorem F1 {Q:LI->Prop}(hQ:JX G Q){q:LI}(ha:a<=G.out.length)(hq:Q q)(hA:Ac G.out (1::q) a):dV (λx:List LI×StT×Unit=>∃a':Nat,x.2.1=st G a' nd/\(a<a'/\a'<=G.out.length)/\nmO x.1 a'/\Xi G Q a') λT=>mG T (st G a nd):=by
 obtain⟨hl,_,hA⟩:=jF hA ha (by decide);refine .up (λT=>Cm T _) (.then (iL G hl) (.bind (OQ hQ nd (G.out.length+1) (a+1) q _ _ (by omega) hl (nmO.snoc (ns:=[]) (a:=0) (b:=a+1) ⟨(λ_ h=>nomatch h),by simp⟩ (by omega) (G.txt _)) hq hA) ?_));rintro _ ⟨a',Oy,rfl,⟨p1,p2⟩,p3,p4⟩;exact .ret ⟨a',rfl,⟨by omega,p2⟩,p3,p4⟩
theorem Md.ay7 {a':Nat}(h:a<=a')(h1:a'<=G.out.length):MD G a nd a' nd (4*(a' - a)):=⟨h,h1,by omega,⟨[],by simp⟩,λh=>h⟩
theorem Md.names {a1 a' k:Nat}{jT:List Node}(M:MD G a nd a1 jT k)(h:a1<a')(h1:a'<=G.out.length):MD G a nd a' jT (k+4):=(M.trans (Md.ay7 (Nat.le_of_lt h) h1)).less (by omega)
theorem Zg:(kinds.all λk=>I (stS 105 k=bif I (k=15)then .left [119,132,105]else bif I (k=16)then .left [132]else .gone))=true:=by kernel_rfl
def Cn (G:Toks)(a:Nat):Prop:=∀(nd:List Node) (r:LI),a<G.out.length->nd.length<=4*a->Ac G.out (119::132::105::r) (a+1)->dV (GOT G (Ac G.out r) a nd 2) λT=>pI T (st G (a+1) nd) (tkA G.out a)
theorem YS (hX:∀a',a<a'->Xn G a')(hB:∀a',a<a'->Bn G a')(hC:∀a',a<a'->Cn G a'):Cn G a:=by
 intro nd r hl hn hA;have M1:=(Md.refl (G:=G) (nd:=nd) (Nat.le_of_lt hl)).tok hl;refine .up (λT=>Bl T _ _) (.then (iz _ _) (.bind (hX (a+1) (by omega) nd _ hl (by omega) hA) ?_));rintro⟨m1,_,u⟩ ⟨a1,jT,rfl,M2,ao8,s1,pa⟩;have M3:=M1.trans M2;refine .bind (hB a1 (by omega) jT _ M3.top (M3.len hn).1 pa) ?_;rintro⟨m2,_,u⟩ ⟨a2,w9,rfl,M4,VE,s2,wg⟩;have M5:=M3.trans M4;have k2:Kd G w9 a [m1,m2] a2:=Kd.snoc (xs:=[m1]) (Kd.one (M4.spn s1) (by omega) (aC _)) (aC _) s2 (aC _);have ht:=of_decide_eq_true (G.tab Zg a2)
 refine .then (pU G M5.top) ?_
 by_cases k15:KA G.out a2=15
 ·rw[ab k15]at ht;obtain⟨pb,Ey⟩:=fU ht rfl wg M5.top;refine .yes (ab k15) (.then (iL G pb) (.bind (hC a2 (by omega) w9 r pb (M5.len hn).1 Ey) ?_));rintro⟨m3,_,u⟩ ⟨a3,Ro,rfl,M6,aE1,s3,Rt⟩;obtain⟨c,rfl⟩:∃c,a3=c+1:=⟨a3 - 1,by omega⟩;have M7:=M5.trans M6;exact .yes rfl (.then (ky G M7.top (M7.len hn).2 _) (.ret (uU 7 0 0 (M7.less (by omega)) (by decide) tx0 ns0 (aC _) (by omega) (Kd.snoc (M6.kid k2) (aC _) s3 (aC _)) Rt)))
 ·rw[aa k15]at ht;refine .no (aa k15) ?_
  by_cases k16:KA G.out a2=16
  ·rw[ab k16]at ht;obtain⟨pb,Ey⟩:=fU ht rfl wg M5.top;have aN1:=M5.tok pb
   refine .then (LM G M5.top k16) (.yes rfl (.bind (hB (a2+1) (by omega) w9 r pb (aN1.len hn).1 Ey) ?_))
   rintro⟨m3,_,u⟩ ⟨a3,Ro,rfl,M6,aE1,s3,Rt⟩;obtain⟨c,rfl⟩:∃c,a3=c+1:=⟨a3 - 1,by omega⟩;have M7:=aN1.trans M6;exact .yes rfl (.then (ky G M7.top (M7.len hn).2 _) (.ret (uU 7 0 0 (M7.less (by omega)) (by decide) tx0 ns0 (aC _) (by omega) (Kd.snoc (M6.kid k2) (bR _) s3 (aC _)) Rt)))
  ·rw[aa k16]at ht;obtain⟨c,rfl⟩:∃c,a2=c+1:=⟨a2 - 1,by omega⟩
   exact .then (Jc G M5.top k16) (.no rfl (.then (ky G M5.top (M5.len hn).2 _) (.ret (uU 7 0 0 (M5.less (by omega)) (by decide) tx0 ns0 (aC _) (by omega) k2 (gF ht rfl wg M5.top)))))
theorem ae0:(kinds.all λk=>I (stS 106 k=bif I (k=47)then .left [119,46,119,107,132]else bif I (k=46)then .left [1,104,21,119,132]else bif I (k=21)then .left [119,132]else .no)&&(I (stS 107 k=bif I (k=46)then .left [119]else .gone)&&I (stS 104 k=bif I (k=46)then .left [1,104]else .gone)))=true:=by kernel_rfl
theorem VW (hX:∀a',a<a'->Xn G a')(hB:∀a',a<a'->Bn G a'){nd:List Node}{r:LI}(hl:a<G.out.length)(hn:nd.length<=4*a)(hA:Ac G.out (1::106::r) (a+1)):dV (GOT G (Ac G.out r) a nd 2) λT=>vP T (st G (a+1) nd) (tkA G.out a):=by
 have hL:=G.len;have M1:=(Md.refl (G:=G) (nd:=nd) (Nat.le_of_lt hl)).tok hl
 have tf:∀a,_:=λa=>by
  have h:=G.tab ae0 a;simp only[aA,ae]at h;exact h
 have hQ:JX G (λq=>q=106::r\/q=104::21::119::132::r):=λq a' e PX L4 hk=>by
  obtain⟨t1,t2,t3⟩:=tf a'
  rcases e with rfl|rfl
  ·rw[aa (show KA G.out a'≠47 by omega),ab hk]at t1;obtain⟨hl,h⟩:=fU t1 rfl L4 PX;exact⟨hl,_, .inr rfl,h⟩
  ·rw[ab hk]at t3;obtain⟨hl,h⟩:=fU t3 rfl L4 PX;exact⟨hl,_, .inr rfl,h⟩
 refine .up (λT=>DV T _ _) (.bind (F1 hQ hl (.inl rfl) hA) ?_);rintro⟨ns,_,u⟩ ⟨a1,rfl,⟨p1,p2⟩,F9,q,hq,pa,E6⟩;have M2:=M1.names p1 p2;have aJ3:(∀m∈ns,∀c∈m,isByte c)/\ns.length<=70000:=⟨F9.1,by have:=F9.2;show ns.length<=_;have:ns.length<=a1:=this;omega⟩;obtain⟨t1,t2,t3⟩:=tf a1;rw[aa E6]at t1 t3
 have fin:∀{a2:Nat} {w9:List Node} {ks:LI} {ki:Int} {x:Int×StT×Unit->Node} {k:Nat},rg3 ki 0 0->ki≠36->MD G a nd a2 w9 (k+1)->Kd G w9 a ks a2->a<a2->Ac G.out (132::r) a2->(∀d,x d=(ki,(tkA G.out a).2.1,0,(tkA G.out a).2.2.2.1,0,0,[],ns,ks++[d.1],()))->
   dV (GOT G (Ac G.out r) a nd 2) λT=>(gi T (st G a2 w9)).bind λd29=>brk (fits (ks.length+([d29.1]:LI).length)) ((dy T d29.2.1 (x d29)).bind λd38=>J (d38.1,d38.2.1,((),(),(),(),(),(),()),())) none:=λ{a2 w9 ks ki x k} hr AK M kd lt hA hx=>by
  refine .bind (hB a2 lt w9 r M.top (M.len hn).1 hA) ?_;rintro⟨m,_,u⟩ ⟨a3,Ro,rfl,M6,aE1,s3,Rt⟩;obtain⟨c,rfl⟩:∃c,a3=c+1:=⟨a3 - 1,by omega⟩;have M7:=M.trans M6;have:=kd.le;have:=M.top;rw[hx];exact .yes (N4 (by omega)) (.then (ky G M7.top (M7.len hn).2 _) (.ret (uU ki 0 0 (M7.less (by omega)) hr tx0 aJ3 (aC _) (by omega) (by rw[aa AK];exact .snoc (M6.kid kd) (aC _) s3 (aC _)) Rt)))
 refine .then (iz _ _) ?_
 by_cases k47:KA G.out a1=47
 ·have wg:a1<G.out.length/\Ac G.out (119::46::119::107::132::r) (a1+1):=by
   rcases hq with rfl|rfl
   ·rw[ab k47]at t1;exact fU t1 rfl pa p2
   ·exact absurd ((jF (gF t3 rfl pa p2) p2 (by decide)).2.1) (by omega)
  have Xm:Q5 G (λq=>q=46::119::107::132::r\/q=107::132::r\/q=132::r):=λq a' e PX L4 hk=>by
   rcases e with rfl|rfl|rfl
   ·obtain⟨h1,_,h⟩:=jF L4 PX (by decide);exact⟨h1,_, .inr (.inl rfl),h⟩
   ·have t:=(tf a').2.1;rw[ab hk]at t;obtain⟨h1,h⟩:=fU t rfl L4 PX;exact⟨h1,_, .inr (.inr rfl),h⟩
   ·have t:=G.tab Ia a';simp only[aA,ae]at t;rw[aa (show KA G.out a'≠42 by omega)]at t;exact(sB t.2 rfl L4 PX).elim
  have M3:=M2.tok wg.1
  refine .then (iL G wg.1) (.yes (ab ((G.kdA wg.1).trans k47)) (.bind (JF Xm (λa' h=>hX a' (by omega)) wg.1 (M3.len hn).1 (.inl rfl) wg.2) ?_))
  rintro⟨xs,_,u⟩ ⟨a2,w9,rfl,M4,VE,kd,q2,aM0,Ey,ar1⟩
  have Rt:Ac G.out (132::r) a2:=by
   rcases aM0 with rfl|rfl|rfl
   ·exact absurd (jF Ey M4.top (by decide)).2.1 ar1
   ·have t:=(tf a2).2.1;rw[aa ar1]at t;exact gF t rfl Ey M4.top
   ·exact Ey
  exact fin (ki:=9) (by decide) (by decide) ((M3.trans M4).less (j:=2) (by omega)) (kd.down (by omega)) (by omega) Rt (λd=>rfl)
 ·have wg:a1<G.out.length/\Ac G.out (119::132::r) (a1+1):=by
   rcases hq with rfl|rfl
   ·rw[aa k47]at t1
    by_cases k21:KA G.out a1=21
    ·rw[ab k21]at t1;exact fU t1 rfl pa p2
    ·rw[aa k21]at t1;exact(sB t1 rfl pa p2).elim
   ·obtain⟨h1,_,h⟩:=jF (gF t3 rfl pa p2) p2 (by decide);exact⟨h1,h⟩
  have M3:=M2.tok wg.1
  refine .then (iL G wg.1) (.no (aa λe=>k47 ((G.kdA wg.1).symm.trans e)) (.bind (hX (a1+1) (by omega) nd _ wg.1 (M3.len hn).1 wg.2) ?_))
  rintro⟨m,_,u⟩ ⟨a2,w9,rfl,M4,VE,s,Ey⟩;exact fin (ki:=10) (ks:=[m]) (by decide) (by decide) ((M3.trans M4).less (j:=2) (by omega)) (.one s (by omega) (aC _)) (by omega) Ey (λd=>rfl)
theorem aw8:SC [110,111,112]:=λs hs=>by
 refine⟨110,by simp,111,by simp, ?_⟩;simp at hs
 rcases hs with rfl|rfl|rfl<;>exact⟨by kernel_rfl,by kernel_rfl,by kernel_rfl⟩
theorem ax6:SC [114,115]:=λs hs=>by
 refine⟨114,by simp,115,by simp, ?_⟩;simp at hs
 rcases hs with rfl|rfl<;>exact⟨by kernel_rfl,by kernel_rfl,by kernel_rfl⟩
theorem aA0:SC [117,118]:=λs hs=>by
 refine⟨117,by simp,118,by simp, ?_⟩;simp at hs
 rcases hs with rfl|rfl<;>exact⟨by kernel_rfl,by kernel_rfl,by kernel_rfl⟩
def sfx (k:Int):Bool:=I (k=48)||decide (k=44)||decide (k=40)
theorem ah1:(kinds.all λk=>sfx k||((I (stS 110 k=bif I (k=47)then .left [124]else bif I (k=46)then .left [113]else .no)&&(I (stS 111 k= .gone)&&I (stS 112 k= .no)))&&
 ((I (stS 114 k=bif I (k=47)then .left [124]else bif I (k=46)then .left [113]else .no)&&I (stS 115 k= .no))&&(I (stS 117 k= .no)&&I (stS 118 k= .gone)))))=true:=by kernel_rfl
theorem S6:(kinds.all λk=>I (stS 113 k=bif I (k=1)then .left [114]else bif I (k=40)then .left [119,41,115]else .no))=true:=by kernel_rfl
theorem Toks.sfx (G:Toks){a:Nat}(h:KA G.out a≠48/\KA G.out a≠44/\KA G.out a≠40):(stS 110 (KA G.out a)=(bif I (KA G.out a=47)then .left [124]else bif I (KA G.out a=46)then .left [113]else .no)/\stS 111 (KA G.out a)= .gone/\stS 112 (KA G.out a)= .no)/\
  (stS 114 (KA G.out a)=(bif I (KA G.out a=47)then .left [124]else bif I (KA G.out a=46)then .left [113]else .no)/\stS 115 (KA G.out a)= .no)/\stS 117 (KA G.out a)= .no/\stS 118 (KA G.out a)= .gone:=by
 have ht:=G.tab ah1 a;rw[show D.sfx (KA G.out a)=ar by simp_all[D.sfx,aa]]at ht;simpa using ht
theorem Pj {s:Int}{r:LI}(hs:s=110\/s=114\/s=115)(ha:a<=G.out.length)(h:KA G.out a≠48/\KA G.out a≠44/\KA G.out a≠40)(hA:Ac G.out (s::r) a):
  a<G.out.length/\((KA G.out a=47/\Ac G.out (124::r) (a+1))\/(KA G.out a=46/\Ac G.out (113::r) (a+1))):=by
 obtain⟨⟨t1,_⟩,⟨t2,t3⟩,_⟩:=G.sfx h
 have go:∀{s:Int},stS s (KA G.out a)=(bif I (KA G.out a=47)then .left [124]else bif I (KA G.out a=46)then .left [113]else .no)->Ac G.out (s::r) a->a<G.out.length/\((KA G.out a=47/\Ac G.out (124::r) (a+1))\/(KA G.out a=46/\Ac G.out (113::r) (a+1))):=λe hA=>by
  by_cases k1:KA G.out a=47
  ·rw[ab k1]at e;obtain⟨hl,hA⟩:=fU e rfl hA ha;simp_all
  rw[aa k1]at e
  by_cases k2:KA G.out a=46
  ·rw[ab k2]at e;obtain⟨hl,hA⟩:=fU e rfl hA ha;simp_all
  rw[aa k2]at e;exact(sB e rfl hA ha).elim
 rcases hs with rfl|rfl|rfl
 ·exact go t1 hA
 ·exact go t2 hA
 ·exact(sB t3 rfl hA ha).elim
theorem Ky {r:LI}(ha:a<=G.out.length)(hA:Ac G.out (113::r) a):∃s0,s0∈([114,115]:LI)/\a<G.out.length/\((KA G.out a=1/\Ac G.out (s0::r) (a+1))\/(KA G.out a=40/\Ac G.out (119::41::s0::r) (a+1))):=by
 have ht:=of_decide_eq_true (G.tab S6 a)
 by_cases k1:KA G.out a=1
 ·rw[ab k1]at ht;obtain⟨hl,hA⟩:=fU ht rfl hA ha;simp_all
 rw[aa k1]at ht
 by_cases k2:KA G.out a=40
 ·rw[ab k2]at ht;obtain⟨hl,hA⟩:=fU ht rfl hA ha;simp_all
 rw[aa k2]at ht;exact(sB ht rfl hA ha).elim
theorem targets (hn:nd.length<=4*b)(hX:∀a',b<a'->Xn G a')(r:LI):∀(d a:Nat) (ks:LI) (jT:List Node) (s:Int),G.out.length<a+d->b<a->MD G b nd a jT 2->Kd G jT b ks a->(s=110\/s=114\/s=115)->(KA G.out a≠48/\KA G.out a≠44/\KA G.out a≠40)->Ac G.out (s::r) a->
  dV (λy=>∃(a':Nat) (od:List Node) (ac0:LI),y=an (st G a' od,(5,(tkA G.out b).2.1,0,(tkA G.out b).2.2.2.1,0,(ac0.length:Int),[],[],ac0,()),())/\MD G b nd a' od 2/\(b<a'/\a'<G.out.length)/\Kd G od b ac0 a'/\KA G.out a'=47/\Ac G.out (124::r) (a'+1)) λT=>jB T (st G a jT) (5,(tkA G.out b).2.1,0,(tkA G.out b).2.2.2.1,0,(ks.length:Int),[],[],ks,()):=by
 intro d
 induction d with
 |zero=>intro a ks jT s h _ M;have:=M.top;omega
 |succ d ih=>
  intro a ks jT s hd h0 M k hs hk hA;have ha:=M.top;have hL:=G.len;have hx:=k.le;obtain⟨hl,ap6⟩:=Pj hs ha hk hA
  rcases ap6 with⟨k1,hA⟩|⟨k1,hA⟩
  ·exact .up (λT=>qL T _ _) (.then (Jc G ha (by omega)) (.no rfl (.ret ⟨a,jT,ks,rfl,M,⟨h0,hl⟩,k,k1,hA⟩)))
  ·obtain⟨s0,am7,nJ,hc⟩:=Ky hl hA;have M1:=M.tok hl;refine .up (λT=>qL T _ _) (.then (LM G ha k1) (.yes rfl (.bind (vA ax6 (λa' h=>hX a' (by omega)) jT r am7 nJ (M1.len hn).1 hc) ?_)));rintro⟨m,_,u⟩ ⟨a1,w9,rfl,M2,lt,s1,s',Of,pa,aJ2⟩;refine .yes (N4 (by show ks.length<=_;omega)) ?_;have h:=ih a1 (ks++[m]) w9 s' (by omega) (by omega) ((M1.trans M2).less (by omega)) (.snoc (M2.kid k) (bR _) s1 (aC _)) (by simp at Of;exact .inr Of) aJ2 pa;rw[show((ks++[m]).length:Int)=aq.wrap ((ks.length:Int)+1)by rw[dX (by omega)];simp]at h;exact h
theorem NH (s:StT)(x0 x1 x2 x3 x4 x5:Int)(x6:LI)(x7:List LI):∀(r pre ks:LI),(pre++r).length<=70000->ks.length+r.length<=140000->
  Evt λn=>jn (S.tab n) s (x0,x1,x2,x3,x4,x5,x6,x7,ks,()) (pre++r) ((pre++r).length:Int) (pre.length:Int)=J (an (s,(x0,x1,x2,x3,x4,x5,x6,x7,ks++r,()),()))
 |[],pre,ks,_,_=>dt.up λn _=>by
  simp_all[qg,dm]
 |m::r,pre,ks,hl,hk=>by
  have ih:=NH s x0 x1 x2 x3 x4 x5 x6 x7 r (pre++[m]) (ks++[m]) (by simpa using hl) (by simp at hk⊢;omega);have hlen:(pre++m::r).length=pre.length+(r.length+1):=(by simp);have e1:(pre++[m])++r=pre++m::r:=(by simp);have e2:(pre++[m]).length=pre.length+1:=(by simp);have hg:(pre++m::r).getD (pre.length:Int).toNat 0=m:=ju pre _ _ 0;rw[e1,e2]at ih
  refine ih.up λn h=> ?_
  rw[qg,cU (by simp;omega),cU (db (by omega))];rw[cU (dE (by unfold lim;simp;omega)),dX (by omega),hg,h];simp
def rOk (r:LI):Prop:=r=[]\/∃r',r=43::r'
theorem KK {r:LI}(h:rOk r)(ha:a<=G.out.length)(hA:Ac G.out r a):KA G.out a=43\/KA G.out a=6:=by
 rcases h with rfl|⟨r',rfl⟩
 ·simp_all[Uj]
 ·exact .inl (jF hA ha (by decide)).2.1
theorem Kd.app {xs ys:LI}{a b c:Nat}(h:Kd G nd a xs b)(k:Kd G nd c ys a')(hb:b<=c):Kd G nd a (xs++ys) a':=by
 induction k with
 |nil h1=>rw[aU];exact h.up (by omega)
 |snoc h1 h2 s h3 ih=>rw[<-aI];exact .snoc ih h2 s h3
theorem Qh {r:LI}(hA:Ac G.out (124::r) a)(ha:a<=G.out.length):Ac G.out (119::125::r) a:=by
 have ht:=G.tab KY a;simp only[aA,ae]at ht;exact Es ht.2 hA ha
theorem ae9:(kinds.all λk=>I (stS 101 k=bif I (k=5)then .left [100]else .gone))=true:=by kernel_rfl
theorem Po {r:LI}(hA:Ac G.out (101::r) a)(ha:a<=G.out.length)(hk:KA G.out a≠5):Ac G.out r a:=by
 have ht:=of_decide_eq_true (G.tab ae9 a);rw[aa hk]at ht;exact gF ht rfl hA ha
theorem zQ (hX:∀a',a<a'->Xn G a'){r:LI}(hr:rOk r)(hl:a<G.out.length)(hn:nd.length<=4*a){s0:Int}(am7:s0∈([110,111,112]:LI))
  (hc:(KA G.out a=1/\Ac G.out (s0::101::r) (a+1))\/(KA G.out a=40/\Ac G.out (119::41::s0::101::r) (a+1))):dV (GOT G (Ac G.out (101::r)) a nd 1) λT=>pK T (st G a nd):=by
 have hL:=G.len;refine .up (λT=>Bh T _) (.yes (G.inb (Nat.le_of_lt hl)) ?_);rw[G.aS hl]
 refine .then (iz _ _) (.bind (vA aw8 hX nd _ am7 hl hn hc) ?_)
 rintro⟨m,_,u⟩ ⟨a1,jT,rfl,M,lt,s,s',Of,hA,hk⟩;obtain⟨⟨t1,t2,t3⟩,_⟩:=G.sfx hk;have s:Spn G jT m a a1:=s
 have set:(KA G.out a1=46\/KA G.out a1=47)->dV (GOT G (Ac G.out (101::r)) a nd 1) λT=>(jB T (st G a1 jT) (5,(tkA G.out a).2.1,0,(tkA G.out a).2.2.2.1,0,1,[],[],([m]:LI),())).bind (dB (λy9=>(dD T y9.1).bind λd72=>(iw T d72.2.1).bind λd74=>(jn T d74.2.1 y9.2.1 d74.1 (d74.1.length:Int) 0).bind (dB (λDu=>(dy T Du.1 Du.2.1).bind λd89=>J (d89.1,d89.2.1,()))))):=λh=>by
  have ac9:s'=110:=by
   simp at Of
   rcases Of with h1|rfl|rfl
   ·exact h1
   ·have:=KK hr M.top (Po (gF t2 rfl hA M.top) M.top (by omega));omega
   ·exact(sB t3 rfl hA M.top).elim
  subst ac9;refine .bind (targets hn hX (101::r) (G.out.length+1) a1 [m] jT 110 (by omega) lt M (.one s (aC _) (aC _)) (.inl rfl) hk hA) ?_;rintro _ ⟨a2,w9,ks,rfl,M2,⟨ao8,pb⟩,k2,k47,wg⟩;have M3:=M2.tok pb
  refine .then (iL G pb) (.bind (Rg (λa' h=>hX a' (by omega)) w9 _ pb (M3.len hn).1 (Qh wg pb)) ?_)
  rintro⟨xs,_,u⟩ ⟨a3,Ro,rfl,M4,VE,k3,Ey⟩;obtain⟨c,rfl⟩:∃c,a3=c+1:=⟨a3 - 1,by omega⟩;have e1:=k2.le;have e2:xs.length+(a2+1)<=c+1:=k3.le;have ID:=NH (st G (c+1) Ro) 5 (tkA G.out a).2.1 0 (tkA G.out a).2.2.2.1 0 (ks.length:Int) [] [] xs [] ks (by simp;have:=M4.top;omega) (by have:=M4.top;omega);have M5:=M3.trans M4
  exact .then ID (.then (ky G M5.top (M5.len hn).2 _) (.ret (uU 5 0 _ (M5.less (by omega)) ⟨by decide,by decide,by omega,by omega⟩ tx0 ns0 (aC _) (by omega) ((M4.kid k2).app k3 (bR _)) Ey)))
 have rL:=G.inb M.top;refine .yes rL ?_;rw[show(at_ (τ:=cZ) (m,st G a1 jT,u).2.1.1 (m,st G a1 jT,u).2.1.2.1).1=KA G.out a1 from G.kS M.top]
 by_cases k46:KA G.out a1=46
 ·exact .no (by rw[ab k46];rfl) (set (.inl k46))
 ·refine .yes (by rw[aa k46];rfl) (.yes rL ?_)
  by_cases k47:KA G.out a1=47
  ·exact .no (by rw[ab k47];rfl) (set (.inr k47))
  ·rw[aa k46,aa k47]at t1
   have pa:Ac G.out (101::r) a1:=by
    simp at Of
    rcases Of with rfl|rfl|rfl
    ·exact(sB t1 rfl hA M.top).elim
    ·exact gF t2 rfl hA M.top
    ·exact(sB t3 rfl hA M.top).elim
   obtain⟨c,rfl⟩:∃c,a1=c+1:=⟨a1 - 1,by omega⟩;exact .yes (by rw[aa k47];rfl) (.then (ky G M.top (M.len hn).2 _) (.ret (uU 6 0 0 (M.less (by omega)) (by decide) tx0 ns0 (aC _) (by omega) (.one s (aC _) (aC _)) pa)))
end Go.Abs.D
end

section
namespace Go.Abs.D
variable{s:LI}(Iq:∀c∈s,isByte c)
include Iq
theorem Qf (k:Int)(hk:k=1\/k=3)(hlen:s.length<=40):Evt λn=>zO (S.tab n) s k=J (iY k s,cQ):=by
 by_cases h0:s=[]
 ·subst h0
  exact dt.up λn _=>by
   rw[CW,cU (by simp)];rfl
 have tu:0<s.length:=cp.2 h0
 have kI:I ((0:Int)<(s.length:Int))=true:=by simp_all
 have kM:iY k s=one k s:=by
  simp_all[iY,one,ab]
 rw[kM]
 have fin:∀n,(∃t' b,nr (S.tab n) s ((0:Nat):Int)=J ((t',b,()),cQ)/\IR (kB (get s 0)) (nZ s 0) t' b)->
   ((nr (S.tab n) s (0:Int)).bind λd28=>brk (!d28.1.2.1) (brk (I (d28.1.1.1=k)) (J (I (d28.1.1.2.2.1=(s.length:Int)),cQ)) (J (ar,cQ))) (J (ar,cQ)))=J (one k s,cQ):=λn ⟨t',b,h,hr⟩=>by
  have h:nr (S.tab n) s (0:Int)=_:=h;rw[h,au];unfold one
  cases hx:nZ s 0 with
  |inl e=>
   rw[hx]at hr;obtain⟨rfl,_⟩:b=av/\_:=hr;simp_all[dm]
  |inr t=>
   rw[hx]at hr;obtain⟨rfl,rfl⟩:b=ar/\t'=t:=hr;rw[cU (by rfl)];simp
   cases I (t'.1=k)with
   |true=>rw[cU rfl];rfl
   |false=>rw[dm rfl];rfl
 refine((Mb (s:=s) (by omega) Iq (i:=0) tu).and dt).up λn ⟨h,hb⟩=> ?_
 have g0:s.getD 0 0=get s 0:=rfl;rw[CW,dm (by simp_all),cU kI,g0]
 by_cases yr:get s 0=34
 ·grind [dm,ab]
 rw[cU (by simp_all),cU kI,hb.iletter,au]
 cases hl:iI (get s 0)with
 |true=>grind [dm]
 |false=>
  rw[cU (by rfl),cU kI,hb.idigit,au]
  cases hd:dJ (get s 0)with
  |true=>grind [dm]
  |false=>
   rw[cU (by rfl)];unfold one
   cases hx:nZ s 0 with
   |inl e=>rfl
   |inr t=>
    have:=(H3 hx).2.2 hl hd;simp only
    have yu:kd t≠k:=by rcases hk with rfl|rfl<;>omega
    rw[aa (show¬ (t.1=k)from yu)];rfl
theorem EO:Evt λn=>jL (S.tab n) s=J (iY 1 s,cO):=by
 by_cases h:s.length<=40
 ·refine(Qf Iq 1 (.inl rfl) h).up λn h1=> ?_
  grind [wy,cU]
 ·refine dt.up λn _=> ?_
  unfold iY;rw[wy,dm (by grind),aa h,aQ];rfl
theorem Kl:Evt λn=>qo (S.tab n) s=J (iY 3 s,cO):=by
 by_cases h:s.length<=40
 ·refine(Qf Iq 3 (.inr rfl) h).up λn h1=> ?_
  grind [vh,cU]
 ·refine dt.up λn _=> ?_
  unfold iY;rw[vh,dm (by grind),aa h,aQ];rfl
omit Iq in
theorem JP:Evt λn=>jM (S.tab n) s=J (iY 1 s,cO):=by
 by_cases h0:s.length=0
 ·refine dt.up λn _=> ?_
  simp_all[iY,qZ,cU,ae,aa]
 by_cases h:¬ s.length<=40
 ·refine dt.up λn _=> ?_
  unfold iY;rw[qZ,dm (by simp_all),cU (by grind),aa h,aQ];rfl
 replace h:=bP.1 h
 have tu:0<s.length:=(by omega)
 have kI:I ((0:Int)<(s.length:Int))=true:=by simp_all
 have g0:s.getD 0 0=get s 0:=rfl
 have kM:iY 1 s=one 1 s:=by
  simp_all[iY,one,ab]
 rw[kM]
 have start:∀n,Base2 (S.tab n)->jM (S.step (S.tab n)) s=_:=λn hb=>by
  rw[qZ,dm (by simp only[af];omega),dm (by simp;omega),cU kI,g0,hb.sletter,au]
 cases hl:iI (get s 0)with
 |false=>
  refine dt.up λn hb=> ?_
  rw[start n hb,hl,cU (by rfl)];unfold one
  cases hx:nZ s 0 with
  |inl e=>rfl
  |inr t=>
   have hk:=H3 hx
   grind [kd,dJ,get,aa]
 |true=>
  have AH:get s 0≠10:=λe=>by rw[e]at hl;cases hl
  refine((xk (s:=s) (by omega) tu AH).and dt).up λn ⟨⟨t',b,h1,hr⟩,hb⟩=> ?_
  have h1:iS (S.tab n) s (0:Int)=_:=h1;rw[start n hb,hl,dm (by rfl),h1,au];unfold one
  cases hx:nZ s 0 with
  |inl e=>
   rw[hx]at hr;have hr:b=(e:Int):=hr.1;simp_all[dm,af]
  |inr t=>
   rw[hx]at hr;obtain⟨rfl,rfl⟩:b= -1/\t'=t:=hr;rw[cU (show I ((-1:Int)<0)=av from rfl)];simp
   cases I (t'.1=1)with
   |true=>rw[cU rfl];rfl
   |false=>rw[dm rfl];rfl
omit Iq in
theorem TE:Evt λn=>qy (S.tab n) s=J (iY 3 s,cO):=by
 by_cases h0:s.length=0
 ·refine dt.up λn _=> ?_
  simp_all[iY,sD,cU,ae,aa]
 by_cases h:¬ s.length<=40
 ·refine dt.up λn _=> ?_
  unfold iY;rw[sD,dm (by simp_all),cU (by grind),aa h,aQ];rfl
 replace h:=bP.1 h
 have tu:0<s.length:=(by omega)
 have kI:I ((0:Int)<(s.length:Int))=true:=by simp_all
 have g0:s.getD 0 0=get s 0:=rfl
 have kM:iY 3 s=one 3 s:=by
  simp_all[iY,one,ab]
 rw[kM]
 have start:∀n,Base2 (S.tab n)->qy (S.step (S.tab n)) s=_:=λn hb=>by
  rw[sD,dm (by simp only[af];omega),dm (by simp;omega),cU kI,g0,hb.sdigit,au]
 cases hd:dJ (get s 0)with
 |false=>
  refine dt.up λn hb=> ?_
  rw[start n hb,hd,cU (by rfl)];unfold one
  cases hx:nZ s 0 with
  |inl e=>rfl
  |inr t=>
   have hk:=H3 hx
   grind [kd,iI,get,aa]
 |true=>
  have AH:get s 0≠10:=λe=>by rw[e]at hd;cases hd
  refine((xk (s:=s) (by omega) tu AH).and dt).up λn ⟨⟨t',b,h1,hr⟩,hb⟩=> ?_
  have h1:iS (S.tab n) s (0:Int)=_:=h1;rw[start n hb,hd,dm (by rfl),h1,au];unfold one
  cases hx:nZ s 0 with
  |inl e=>
   rw[hx]at hr;have hr:b=(e:Int):=hr.1;simp_all[dm,af]
  |inr t=>
   rw[hx]at hr;obtain⟨rfl,rfl⟩:b= -1/\t'=t:=hr;rw[cU (show I ((-1:Int)<0)=av from rfl)];simp
   cases I (t'.1=3)with
   |true=>rw[cU rfl];rfl
   |false=>rw[dm rfl];rfl
end Go.Abs.D
end

section
namespace Go.Abs.D
def mc (k:Int):Bool:=I (20<=k)&&I (k<=37)
def fo (k:Int):Bool:=I (1<=k)&&I (k<=16)
def gm (k:Int):Bool:=I (40<=k)&&I (k<=42)
def gV (k:Int):Bool:=I (k=26)||(I (k=32)||decide (k=33))
def PL (a b c d:Bool)(nn op num:Int)(text:LI):Bool:=(a||decide (nn=0))&&((b||decide (op=0))&&((c||decide (num=0))&&(d||decide (text=[]))))
def EX (ks:LI)(i j:Nat):Bool:=(eR ks i j).all mc
def BS (ks:LI):Bool:=I (1<=ks.length)&&(mc (get ks 0)&& !I (get ks 0=27))
theorem gj {ρ:Type}{x y:Option ρ}:brk av x y=x:=cU rfl
theorem fA {ρ:Type}{x y:Option ρ}:brk ar x y=y:=dm rfl
theorem ay1 {β:Type}{b c:Bool}:brk b (J (an (c,()))) (J (an (ar,()):(Bool×Unit)⊕β))=J (an (b&&c,())):=by cases b<;>simp[gj,fA]
theorem ay3 {β:Type}{b c:Bool}:brk (!b) (J (an (ar,()):(Bool×Unit)⊕β)) (J (an (c,())))=J (an (b&&c,())):=by cases b<;>simp[gj,fA]
theorem ax1 {β:Type}{a b:Bool}:brk a (J (an (av,()):(Bool×Unit)⊕β)) (J (an (b,())))=J (an (a||b,())):=by cases a<;>simp[gj,fA]
theorem az8 {β:Type}{a b c:Bool}:brk a (J (an (c,()):(Bool×Unit)⊕β)) (J (an (b&&c,())))=J (an ((a||b)&&c,())):=by cases a<;>simp[gj,fA]
theorem ay9 {ρ:Type}{a b:Bool}{x y:Option ρ}:brk a x (brk b x y)=brk (a||b) x y:=by cases a<;>simp[gj,fA]
theorem sM {R:Type}{c:Bool}{a b:Option R}{v w:R}(h:c=av->a=J v)(k:c=ar->b=J w):brk c a b=J (bif c then v else w):=by
 cases c
 ·exact(dm rfl).trans (k rfl)
 ·exact(cU rfl).trans (h rfl)
theorem BA:(∀{ρ:Type} {x y:Option ρ},brk av x y=x)/\(∀{ρ:Type} {x y:Option ρ},brk ar x y=y)/\(∀{ρ:Type} {a b:Bool} {x y:Option ρ},brk a x (brk b x y)=brk (a||b) x y)/\
  (∀{β:Type} {b c:Bool},brk b (J (an (c,()))) (J (an (ar,()):(Bool×Unit)⊕β))=J (an (b&&c,())))/\
  (∀{β:Type} {b c:Bool},brk (!b) (J (an (ar,()):(Bool×Unit)⊕β)) (J (an (c,())))=J (an (b&&c,())))/\
  (∀{β:Type} {a b:Bool},brk a (J (an (av,()):(Bool×Unit)⊕β)) (J (an (b,())))=J (an (a||b,())))/\
  (∀{β:Type} {a b c:Bool},brk a (J (an (c,()):(Bool×Unit)⊕β)) (J (an (b&&c,())))=J (an ((a||b)&&c,())))/\
  (∀a:Bool,(av&&a)=a)/\(∀a:Bool,(a&&av)=a)/\(∀a:Bool,(ar&&a)=ar)/\(∀a:Bool,(a&&ar)=ar)/\(∀a:Bool,(ar||a)=a)/\(∀a:Bool,(a||ar)=a)/\(∀a:Bool,(av||a)=av)/\(∀a:Bool,(a||av)=av):=
 ⟨gj,fA,ay9,ay1,ay3,ax1,az8,ct,Bool.and_true,a47,aQ,cH,Bool.or_false,Bool.true_or,Bool.or_true⟩
theorem o2 (y:(Bool×Unit)⊕Unit⊕Empty):dM (λy=>J (an y)) (λ_=>J (aE (an ()))) y=J y:=by
 rcases y with y|y|y
 ·rfl
 ·rfl
 grind
theorem wr:aq.wrap 0=0/\aq.wrap 1=1/\aq.wrap 2=2/\aq.wrap 3=3:=by decide
abbrev An:Type:=(Bool×Unit)⊕(Unit)⊕Empty
def An.val (y:An):Bool:=y.elim (λy=>y.1) λ_=>ar
structure IF (T:S.Tab)(ks:LI)(nn op num:Int)(text:LI):Prop where
 pl:∀a b c d,dH T a b c d nn op num text=J (PL a b c d nn op num text,(),(),(),(),nn,op,num,text,())
 FO:1<=ks.length->dI T 0 1 ks=J (EX ks 0 1,(),(),ks,())
 Oe:2<=ks.length->dI T 0 2 ks=J (EX ks 0 2,(),(),ks,())
 Ir:dI T 0 (ks.length:Int) ks=J (EX ks 0 ks.length,(),(),ks,())
 FL:1<=ks.length->dI T 0 (aq.wrap ((ks.length:Int) - 1)) ks=J (EX ks 0 (ks.length - 1),(),(),ks,())
 al0:1<=num->num<=ks.length->dI T num (ks.length:Int) ks=J (EX ks num.toNat ks.length,(),(),ks,())
 bs:nA T (ks.length:Int) ks=J (BS ks,(ks.length:Int),ks,())
 gn:jL T text=J (iY 1 text,cO)
 gf:qo T text=J (iY 3 text,cO)
 aw1:∀v lo hi,nX T v lo hi=J (I (lo<=v)&&I (v<=hi),dU)
 l26:iC T nn op num text ks (ks.length:Int) 0=J (bif ks.all fo then aE (an (nn,op,num,text,()))else an (ar,()))
 at4:iH T nn op num text ks (ks.length:Int) 0=J (bif ks.all gm then aE (an (nn,op,num,text,()))else an (ar,()))
 aF5:1<=num->num<=ks.length->fb T ks num (ks.length:Int) (sub ks 0 num) ((sub ks 0 num).length:Int) 0=J (bif(eR ks 0 num.toNat).all gV then aE (an (ks,num,(ks.length:Int),()))else an (ar,()))
variable{ks:LI}{nn op num:Int}{text:LI}
def R84 (ks:LI)(nn op num:Int)(text:LI)(kind:Int)(fl:Bool):An:=
 bif fl then an (PL ar ar ar ar nn op num text&&(I ((ks.length:Int)=2)&&(EX ks 0 2)),())else
 bif I (kind=30)then an (PL ar av ar ar nn op num text&&((I ((19:Int)<=op)&&I (op<=22))&&(I ((ks.length:Int)=1)&&(EX ks 0 1))),())else
 bif I (kind=31)then an (PL ar av ar ar nn op num text&&((I ((1:Int)<=op)&&I (op<=18))&&(I ((ks.length:Int)=2)&&(EX ks 0 2))),())else
 bif I (kind=32)then an (PL ar ar ar ar nn op num text&&(I ((ks.length:Int)=2)&&(BS ks&&(EX ks 0 2))),())else
 bif I (kind=33)then an (PL ar ar ar av nn op num text&&(I ((ks.length:Int)=1)&&(BS ks&&(iY 1 text))),())else
 bif I (kind=34)then an (PL ar ar ar ar nn op num text&&(BS ks&&(EX ks 0 ks.length)),())else
 bif I (kind=35)then an (ks.all gm&&(PL ar ar ar ar nn op num text),())else
 bif I (kind=36)then an (PL av av ar ar nn op num text&&((I ((0:Int)<=op)&&I (op<=1))&&(I ((ks.length:Int)=1)&&(I (ks.getD 0 0=1)))),())else
 bif I (kind=37)then an (PL ar ar ar ar nn op num text&&(I ((ks.length:Int)=1)&&((I (ks.getD 0 0=34)||decide (ks.getD 0 0=27)))),())else
 bif I (kind=42)then an (PL ar ar ar av nn op num text&&(I ((ks.length:Int)=1)&&(EX ks 0 1&&(iY 1 text))),())else
 aE (an ())
theorem r84 {T:S.Tab}(h:IF T ks nn op num text)(hl:ks.length<=200)(kind:Int)(fl:Bool):kj (S.step T) ks nn op num text (ks.length:Int) kind fl=J (R84 ks nn op num text kind fl):=by
 rw[Bi];unfold R84;have A:=aK h.pl (aK h.aw1 (aK h.gn (aK h.gf (aK h.Ir (aK h.bs (aK h.at4 (aK wr BA)))))))
 by_cases n1:ks.length=1
 ·have e3:=h.FL;rw[n1,show((1:Nat):Int)=1 from rfl]at A e3⊢
  repeat' refine sM (λk=> ?_) (λk=> ?_)
  all_goals first|(done)|(cases c:ks.all gm<;>simp[A,c,dM])
 by_cases n2:ks.length=2
 ·have e3:=h.FL;rw[n2,show((2:Nat):Int)=2 from rfl]at A e3⊢
  repeat' refine sM (λk=> ?_) (λk=> ?_)
  all_goals first|(done)|(cases c:ks.all gm<;>simp[A,c,dM])
 have m1:¬(ks.length:Int)=1:=(by omega);have m2:¬(ks.length:Int)=2:=(by omega)
 repeat' refine sM (λk=> ?_) (λk=> ?_)
 all_goals first|(simp[A,m1,m2];done)|(cases c:ks.all gm<;>simp[A,c,dM])
def R72 (ks:LI)(nn op num:Int)(text:LI)(kind:Int)(fl:Bool):An:=
 bif fl then an (PL ar ar ar ar nn op num text&&(I ((ks.length:Int)=1)&&(EX ks 0 1)),())else
 bif I (kind=23)then an (PL ar ar av ar nn op num text&&(I ((ks.length:Int)=0)),())else
 bif I (kind=24)then an (PL ar ar ar av nn op num text&&(I ((ks.length:Int)=0)&&(iY 3 text)),())else
 bif I (kind=25)then an (PL ar ar ar av nn op num text&&(I ((ks.length:Int)=0)&&(I ((text.length:Int)<=4000))),())else
 bif I (kind=26)then an (PL ar ar ar av nn op num text&&(I ((ks.length:Int)=0)&&(iY 1 text)),())else
 bif I (kind=28)then R84 ks nn op num text kind av else
 bif I (kind=29)then R84 ks nn op num text kind av else
 R84 ks nn op num text kind (I (kind=41))
theorem r72 {T:S.Tab}(h:IF T ks nn op num text)(hl:ks.length<=200)(kind:Int)(aC4:∀fl,kj T ks nn op num text (ks.length:Int) kind fl=J (R84 ks nn op num text kind fl))(fl:Bool):lp (S.step T) ks nn op num text (ks.length:Int) kind fl=J (R72 ks nn op num text kind fl):=by
 rw[Bf];unfold R72;have A:=aK h.pl (aK h.aw1 (aK h.gn (aK h.gf (aK h.Ir (aK h.bs (aK h.at4 (aK wr (aK aC4 BA))))))))
 by_cases n0:ks.length=0
 ·have e3:=h.FL;rw[n0,show((0:Nat):Int)=0 from rfl]at A e3⊢
  repeat' refine sM (λk=> ?_) (λk=> ?_)
  all_goals first|(simp[A,o2,k];done)|(cases c:ks.all gm<;>simp[A,c,dM])
 by_cases n1:ks.length=1
 ·have e3:=h.FL;rw[n1,show((1:Nat):Int)=1 from rfl]at A e3⊢
  repeat' refine sM (λk=> ?_) (λk=> ?_)
  all_goals first|(simp[A,o2,k];done)|(cases c:ks.all gm<;>simp[A,c,dM])
 have m1:¬(ks.length:Int)=1:=(by omega)
 repeat' refine sM (λk=> ?_) (λk=> ?_)
 all_goals first|(simp[A,o2,k,m1];done)|(cases c:ks.all gm<;>simp[A,c,dM])
def R65 (ks:LI)(nn op num:Int)(text:LI)(kind:Int)(fl:Bool):An:=
 bif fl then an (PL ar ar ar ar nn op num text&&(I ((ks.length:Int)=0)),())else
 bif I (kind=13)then an (PL ar ar ar ar nn op num text&&(EX ks 0 ks.length),())else
 bif I (kind=14)then an (PL av ar ar ar nn op num text&&((I (nn=1)||decide (nn=2))&&(I ((ks.length:Int)=2)&&(I (ks.getD 0 0=1)&&(I (ks.getD 1 0=1))))),())else
 bif I (kind=15)then R72 ks nn op num text kind av else
 R72 ks nn op num text kind (I (kind=40))
theorem r65 {T:S.Tab}(h:IF T ks nn op num text)(hl:ks.length<=200)(kind:Int)(aH4:∀fl,lp T ks nn op num text (ks.length:Int) kind fl=J (R72 ks nn op num text kind fl))(fl:Bool):gL (S.step T) ks nn op num text (ks.length:Int) kind fl=J (R65 ks nn op num text kind fl):=by
 rw[Bj];have A:=aK h.pl (aK h.aw1 (aK h.gn (aK h.gf (aK h.Ir (aK h.bs (aK h.at4 (aK wr (aK aH4 BA))))))))
 by_cases n0:ks.length=0
 ·have e3:=h.FL;rw[n0,show((0:Nat):Int)=0 from rfl]at A e3⊢
  repeat' refine sM (λk=> ?_) (λk=> ?_)
  all_goals first|(simp[A,o2,k,n0];done)|(cases c:ks.all gm<;>simp[A,c,dM])
 by_cases n2:ks.length=2
 ·have e3:=h.FL;rw[n2,show((2:Nat):Int)=2 from rfl]at A e3⊢
  repeat' refine sM (λk=> ?_) (λk=> ?_)
  all_goals first|(simp[A,o2,k,n2];done)|(cases c:ks.all gm<;>simp[A,c,dM])
 have m2:¬(ks.length:Int)=2:=(by omega)
 repeat' refine sM (λk=> ?_) (λk=> ?_)
 all_goals first|(simp[A,o2,k,m2];done)|(cases c:ks.all gm<;>simp[A,c,dM])
def R50 (ks:LI)(nn op num:Int)(text:LI)(kind:Int)(fl:Bool):An:=
 bif fl then an (PL ar ar ar ar nn op num text&&(I ((ks.length:Int)=1)&&(I (ks.getD 0 0=34))),())else
 bif I (kind=7)then an (PL ar ar ar ar nn op num text&&((I ((ks.length:Int)=2)||decide ((ks.length:Int)=3))&&(EX ks 0 1&&(I (ks.getD 1 0=1)&&((I ((ks.length:Int)=2)||(I (ks.getD 2 0=1)||decide (ks.getD 2 0=7))))))),())else
 bif I (kind=8)then an (PL ar ar ar ar nn op num text&&(I ((ks.length:Int)=2)&&(EX ks 0 1&&(I (ks.getD 1 0=1)))),())else
 bif I (kind=9)then an (PL av ar ar ar nn op num text&&(I (nn=1)&&((I ((ks.length:Int)=3)||decide ((ks.length:Int)=4))&&(EX ks 0 (ks.length - 1)&&(I (ks.getD (ks.length - 1) 0=1))))),())else
 bif I (kind=10)then an (PL av ar ar ar nn op num text&&(I (1<=nn)&&(I ((ks.length:Int)=2)&&(EX ks 0 1&&(I (ks.getD 1 0=1))))),())else
 bif I (kind=11)then R65 ks nn op num text kind av else
 bif I (kind=12)then R65 ks nn op num text kind av else
 bif I (kind=20)then R65 ks nn op num text kind av else
 bif I (kind=21)then R65 ks nn op num text kind av else
 bif I (kind=22)then R65 ks nn op num text kind av else
 R65 ks nn op num text kind (I (kind=27))
theorem r50 {T:S.Tab}(h:IF T ks nn op num text)(hl:ks.length<=200)(kind:Int)(aI4:∀fl,gL T ks nn op num text (ks.length:Int) kind fl=J (R65 ks nn op num text kind fl))(fl:Bool):mW (S.step T) ks nn op num text (ks.length:Int) kind fl=J (R50 ks nn op num text kind fl):=by
 rw[Bx];unfold R50;have A:=aK h.pl (aK h.aw1 (aK h.gn (aK h.gf (aK h.Ir (aK h.bs (aK h.at4 (aK wr (aK aI4 BA))))))))
 by_cases n1:ks.length=1
 ·have e1:=h.FO;have e2:=h.Oe;have e3:=h.FL;rw[n1]at e1 e2;rw[n1,show((1:Nat):Int)=1 from rfl]at A e3⊢
  repeat' refine sM (λk=> ?_) (λk=> ?_)
  all_goals first|(simp[A,o2,k,n1];done)|(cases c:ks.all gm<;>simp[A,c,dM])
 by_cases n2:ks.length=2
 ·have e1:=h.FO;have e2:=h.Oe;have e3:=h.FL;rw[n2,show((2:Nat):Int)=2 from rfl]at A e3⊢
  repeat' refine sM (λk=> ?_) (λk=> ?_)
  all_goals first|(simp[A,o2,k,n2,e1];done)|(cases c:ks.all gm<;>simp[A,c,dM])
 by_cases n3:ks.length=3
 ·have e1:=h.FO;have e2:=h.Oe;have e3:=h.FL;rw[n3]at e1 e2;rw[n3,show((3:Nat):Int)=3 from rfl]at A e3⊢
  repeat' refine sM (λk=> ?_) (λk=> ?_)
  all_goals first|(simp[A,o2,k,n3,e1,e2];done)|(cases c:ks.all gm<;>simp[A,c,dM])
 by_cases n4:ks.length=4
 ·have e1:=h.FO;have e2:=h.Oe;have e3:=h.FL;rw[n4]at e1 e2;rw[n4,show((4:Nat):Int)=4 from rfl]at A e3⊢;rw[show aq.wrap (4 - 1)=3 by decide]at e3
  repeat' refine sM (λk=> ?_) (λk=> ?_)
  all_goals first|(simp[A,o2,k,n4,e1,e3];done)|(cases c:ks.all gm<;>simp[A,c,dM])
 have m1:¬(ks.length:Int)=1:=(by omega);have m2:¬(ks.length:Int)=2:=(by omega);have m3:¬(ks.length:Int)=3:=(by omega);have m4:¬(ks.length:Int)=4:=(by omega)
 repeat' refine sM (λk=> ?_) (λk=> ?_)
 all_goals first|(simp[A,o2,k,m1,m2,m3,m4];done)|(cases c:ks.all gm<;>simp[A,c,dM])
end Go.Abs.D
end

section
namespace Go.Abs.D
abbrev Tr:Type:=List cR.den×Unit
abbrev AnS:Type:=(Bool×Unit)⊕(Tr×cR.den×Int×Unit)⊕Empty
theorem Xl {β:Type}{a c:Bool}:brk a (J (an (ar,()):(Bool×Unit)⊕β)) (J (an (c,())))=J (an (!a&&c,())):=by cases a<;>simp[gj,fA]
def NM (names:List LI)(a b:Int):Bool:=I (a<=(names.length:Int))&&(I ((names.length:Int)<=b)&&names.all (iY 1))
structure SF (T:S.Tab)(t:Tr)(x:cR.den)(ks:LI)(names:List LI)(op num:Int)(text:LI):Prop where
 au6:x.2.2.2.2.1=op
 Xs:x.2.2.2.2.2.1=num
 Oa:x.2.2.2.2.2.2.1=text
 SQ:x.2.2.2.2.2.2.2.2.1.length=ks.length
 pl:∀a b c d,dN T x a b c d=J (PL d a b c (names.length:Int) op num text,dW)
 nm:∀a b,jP T x a b=J (NM names a b,mF)
 FO:1<=ks.length->dL T t x 0 1=J (EX ks 0 1,fg)
 Oe:2<=ks.length->dL T t x 0 2=J (EX ks 0 2,fg)
 Ir:dL T t x 0 (ks.length:Int)=J (EX ks 0 ks.length,fg)
 FL:1<=ks.length->dL T t x 0 (aq.wrap ((ks.length:Int) - 1))=J (EX ks 0 (ks.length - 1),fg)
 al0:1<=num->num<=ks.length->dL T t x num (ks.length:Int)=J (EX ks num.toNat ks.length,fg)
 k0:1<=ks.length->ey T t x 0=J (ks.getD 0 0,lU)
 k1:2<=ks.length->ey T t x 1=J (ks.getD 1 0,lU)
 k2:3<=ks.length->ey T t x 2=J (ks.getD 2 0,lU)
 km:1<=ks.length->ey T t x (aq.wrap ((ks.length:Int) - 1))=J (ks.getD (ks.length - 1) 0,lU)
 gn:jM T text=J (iY 1 text,cO)
 gf:qy T text=J (iY 3 text,cO)
 l5:fM T t x (ks.length:Int) 0=J (bif ks.all fo then aE (an (x,()))else an (ar,()))
 at6:fj T t x (ks.length:Int) 0=J (bif ks.all gm then aE (an (x,()))else an (ar,()))
 aI6:1<=num->num<=ks.length->fB T t x (ks.length:Int) 0=J (bif(eR ks 0 num.toNat).all gV then aE (an (t,x,(ks.length:Int),()))else an (ar,()))
variable{t:Tr}{x:cR.den}{ks:LI}{names:List LI}{op num:Int}{text:LI}
theorem bO {o:Option AnS}{y:AnS}(h:o=J y):o.bind (dM (λy=>J (an y)) (λy=>J (aE (an (y.1,y.2.1,y.2.2.1,())))))=J y:=by
 subst h
 rcases y with y|y|y
 ·rfl
 ·rfl
 grind
def Q41 (t:Tr)(x:cR.den)(ks:LI)(names:List LI)(op num:Int)(text:LI)(kind:Int)(fl:Bool):AnS:=
 bif fl then an (PL ar ar ar ar (names.length:Int) op num text&&(I ((ks.length:Int)=0)),())else
 bif I (kind=13)then an (PL ar ar ar ar (names.length:Int) op num text&&(EX ks 0 ks.length),())else
 bif I (kind=14)then an (PL av ar ar ar (names.length:Int) op num text&&(NM names 1 2&&(I ((ks.length:Int)=2)&&(I (ks.getD 0 0=1)&&(I (ks.getD 1 0=1))))),())else
 aE (an (t,x,(ks.length:Int),()))
theorem q41 {T:S.Tab}(h:SF T t x ks names op num text)(hl:ks.length<=200)(kind:Int)(fl:Bool):iO (S.step T) t x (ks.length:Int) kind fl=J (Q41 t x ks names op num text kind fl):=by
 rw[wx];unfold Q41;have A:=aK h.au6 (aK h.SQ (aK h.Xs (aK h.Oa (aK h.pl (aK h.nm (aK h.gn (aK h.gf (aK h.Ir (aK h.l5 (aK h.at6 (aK wr (aK @Xl (BA)))))))))))));have E:=aK h.FO (aK h.Oe (aK h.k0 (aK h.k1 h.k2)))
 by_cases n2:ks.length=2
 ·grind
 have m2:¬(ks.length:Int)=2:=(by omega)
 grind
def Q28 (t:Tr)(x:cR.den)(ks:LI)(names:List LI)(op num:Int)(text:LI)(kind:Int)(fl:Bool):AnS:=
 bif fl then an (PL ar ar ar ar (names.length:Int) op num text&&(I ((ks.length:Int)=1)&&(I (ks.getD 0 0=34))),())else
 bif I (kind=7)then an (PL ar ar ar ar (names.length:Int) op num text&&(!I ((ks.length:Int)<2)&&(!I ((3:Int)<(ks.length:Int))&&(EX ks 0 1&&(I (ks.getD 1 0=1)&&((I ((ks.length:Int)=2)||(I (ks.getD 2 0=1)||decide (ks.getD 2 0=7)))))))),())else
 bif I (kind=8)then an (PL ar ar ar ar (names.length:Int) op num text&&(I ((ks.length:Int)=2)&&(EX ks 0 1&&(I (ks.getD 1 0=1)))),())else
 bif I (kind=9)then an (PL av ar ar ar (names.length:Int) op num text&&(NM names 1 1&&((I ((ks.length:Int)=3)||decide ((ks.length:Int)=4))&&(EX ks 0 (ks.length - 1)&&(I (ks.getD (ks.length - 1) 0=1))))),())else
 bif I (kind=10)then an (PL av ar ar ar (names.length:Int) op num text&&(NM names 1 200&&(I ((ks.length:Int)=2)&&(EX ks 0 1&&(I (ks.getD 1 0=1))))),())else
 bif I (kind=11)then Q41 t x ks names op num text kind av else
 Q41 t x ks names op num text kind (I (kind=12))
theorem q28 {T:S.Tab}(h:SF T t x ks names op num text)(hl:ks.length<=200)(kind:Int)(Oq:∀fl,iO T t x (ks.length:Int) kind fl=J (Q41 t x ks names op num text kind fl))(fl:Bool):jW (S.step T) t x (ks.length:Int) kind fl=J (Q28 t x ks names op num text kind fl):=by
 rw[wj];unfold Q28;have A:=aK h.au6 (aK h.SQ (aK h.Xs (aK h.Oa (aK h.pl (aK h.nm (aK h.gn (aK h.gf (aK h.Ir (aK h.l5 (aK h.at6 (aK wr (aK wr (aK @Xl (BA))))))))))))));have E:=aK h.FO (aK h.Oe (aK h.k0 (aK h.k1 h.k2)));have F:=aK h.FL h.km
 by_cases n1:ks.length=1
 ·rw[n1]at E
  repeat' refine sM (λk=> ?_) (λk=> ?_)
  all_goals first|exact(bO (Oq _)).trans (by simp[k])|(simp[A,n1,E,F];done)|(cases c:ks.all gm<;>simp[A,c,dM];done)
 by_cases n2:ks.length=2
 ·rw[n2]at E
  repeat' refine sM (λk=> ?_) (λk=> ?_)
  all_goals first|exact(bO (Oq _)).trans (by simp[k])|(simp[A,n2,E];done)|(cases c:ks.all gm<;>simp[A,c,dM];done)
 by_cases n3:ks.length=3
 ·rw[n3]at E
  repeat' refine sM (λk=> ?_) (λk=> ?_)
  all_goals first|exact(bO (Oq _)).trans (by simp[k])|(simp[A,n3,E];done)|(cases c:ks.all gm<;>simp[A,c,dM];done)
 by_cases n4:ks.length=4
 ·rw[n4]at E;rw[n4,show((4:Nat):Int)=4 from rfl]at A F Oq⊢;rw[show aq.wrap (4 - 1)=3 by decide]at F
  repeat' refine sM (λk=> ?_) (λk=> ?_)
  all_goals first|exact(bO (Oq _)).trans (by simp[k])|(simp[A,n4,E,F];done)|(cases c:ks.all gm<;>simp[A,c,dM];done)
 have m1:¬(ks.length:Int)=1:=(by omega);have m2:¬(ks.length:Int)=2:=(by omega);have m3:¬(ks.length:Int)=3:=(by omega);have m4:¬(ks.length:Int)=4:=(by omega)
 have m5:(I ((ks.length:Int)<2)||decide ((3:Int)<(ks.length:Int)))=true:=by simp;omega
 have m6:(!I ((ks.length:Int)<2)&& !I ((3:Int)<(ks.length:Int)))=false:=by rw[<-Bool.not_or,m5];rfl
 repeat' refine sM (λk=> ?_) (λk=> ?_)
 all_goals first|exact(bO (Oq _)).trans (by simp[k])|(simp[A,m1,m2,m3,m4,m5,<-Bool.and_assoc,m6];done)|(cases c:ks.all gm<;>simp[A,c,dM];done)
def Q18 (t:Tr)(x:cR.den)(ks:LI)(names:List LI)(op num:Int)(text:LI)(kind:Int)(fl:Bool):AnS:=
 bif fl then an (I ((ks.length:Int)=2)&&(EX ks 0 2&&(PL ar ar ar ar (names.length:Int) op num text)),())else
 bif I (kind=32)then an (I ((ks.length:Int)=2)&&(EX ks 0 2&&(!I (ks.getD 0 0=27)&&(PL ar ar ar ar (names.length:Int) op num text))),())else
 bif I (kind=30)then an (I ((ks.length:Int)=1)&&(EX ks 0 1&&(PL ar av ar ar (names.length:Int) op num text&&(I ((19:Int)<=op)&&(I (op<=22))))),())else
 bif I (kind=31)then an (I ((ks.length:Int)=2)&&(EX ks 0 2&&(PL ar av ar ar (names.length:Int) op num text&&(I ((1:Int)<=op)&&(I (op<=18))))),())else
 bif I (kind=33)then an (I ((ks.length:Int)=1)&&(EX ks 0 1&&(!I (ks.getD 0 0=27)&&(PL ar ar ar av (names.length:Int) op num text&&(iY 1 text)))),())else
 bif I (kind=34)then an (I ((1:Int)<=(ks.length:Int))&&(EX ks 0 ks.length&&(!I (ks.getD 0 0=27)&&(PL ar ar ar ar (names.length:Int) op num text))),())else
 bif I (kind=35)then an (ks.all gm&&(PL ar ar ar ar (names.length:Int) op num text),())else
 bif I (kind=36)then an (I ((ks.length:Int)=1)&&(I (ks.getD 0 0=1)&&(PL av av ar ar (names.length:Int) op num text&&(NM names 0 200&&((I (op=0)||decide (op=1)))))),())else
 bif I (kind=37)then an (I ((ks.length:Int)=1)&&((I (ks.getD 0 0=34)||decide (ks.getD 0 0=27))&&(PL ar ar ar ar (names.length:Int) op num text)),())else
 bif I (kind=40)then an (I ((ks.length:Int)=1)&&(EX ks 0 1&&(PL ar ar ar ar (names.length:Int) op num text)),())else
 bif I (kind=41)then an (I ((ks.length:Int)=2)&&(EX ks 0 2&&(PL ar ar ar ar (names.length:Int) op num text)),())else
 aE (an (t,x,(ks.length:Int),()))
theorem q18 {T:S.Tab}(h:SF T t x ks names op num text)(hl:ks.length<=200)(kind:Int)(fl:Bool):il (S.step T) t x (ks.length:Int) kind fl=J (Q18 t x ks names op num text kind fl):=by
 rw[vF];unfold Q18;have A:=aK h.au6 (aK h.SQ (aK h.Xs (aK h.Oa (aK h.pl (aK h.nm (aK h.gn (aK h.gf (aK h.Ir (aK h.l5 (aK h.at6 (aK wr (aK @Xl (BA)))))))))))));have E:=aK h.FO (aK h.Oe (aK h.k0 (aK h.k1 h.k2)))
 by_cases n0:ks.length=0
 ·rw[n0]at E
  repeat' refine sM (λk=> ?_) (λk=> ?_)
  all_goals first|(simp[A,n0];done)|(cases c:ks.all gm<;>simp[A,c,dM];done)
 by_cases n1:ks.length=1
 ·rw[n1]at E
  repeat' refine sM (λk=> ?_) (λk=> ?_)
  all_goals first|(simp[A,n1,E];done)|(cases c:ks.all gm<;>simp[A,c,dM];done)
 by_cases n2:ks.length=2
 ·rw[n2]at E
  repeat' refine sM (λk=> ?_) (λk=> ?_)
  all_goals first|(simp[A,n2,E];done)|(cases c:ks.all gm<;>simp[A,c,dM];done)
 have e0:=h.k0 (by omega);have m1:¬(ks.length:Int)=1:=(by omega);have m2:¬(ks.length:Int)=2:=(by omega)
 repeat' refine sM (λk=> ?_) (λk=> ?_)
 all_goals first|(simp[A,m1,m2,e0];done)|(cases c:ks.all gm<;>simp[A,c,dM];done)
def Q7 (t:Tr)(x:cR.den)(ks:LI)(names:List LI)(op num:Int)(text:LI)(kind:Int)(fl:Bool):AnS:=
 bif fl then an (I ((ks.length:Int)=0)&&(PL ar ar ar ar (names.length:Int) op num text),())else
 bif I (kind=23)then an (I ((ks.length:Int)=0)&&(PL ar ar av ar (names.length:Int) op num text),())else
 bif I (kind=24)then an (I ((ks.length:Int)=0)&&(PL ar ar ar av (names.length:Int) op num text&&(iY 3 text)),())else
 bif I (kind=25)then an (I ((ks.length:Int)=0)&&(PL ar ar ar av (names.length:Int) op num text&&(I ((text.length:Int)<=4000))),())else
 bif I (kind=26)then an (I ((ks.length:Int)=0)&&(PL ar ar ar av (names.length:Int) op num text&&(iY 1 text)),())else
 bif I (kind=28)then Q18 t x ks names op num text kind av else
 Q18 t x ks names op num text kind (I (kind=29))
theorem q7 {T:S.Tab}(h:SF T t x ks names op num text)(hl:ks.length<=200)(kind:Int)(SM:∀fl,il T t x (ks.length:Int) kind fl=J (Q18 t x ks names op num text kind fl))(fl:Bool):gH (S.step T) t x (ks.length:Int) kind fl=J (Q7 t x ks names op num text kind fl):=by
 rw[wo];have A:=aK h.au6 (aK h.SQ (aK h.Xs (aK h.Oa (aK h.pl (aK h.nm (aK h.gn (aK h.gf (aK h.Ir (aK h.l5 (aK h.at6 (aK wr (aK wr (aK @Xl (BA))))))))))))))
 by_cases n0:ks.length=0
 ·repeat' refine sM (λk=> ?_) (λk=> ?_)
  all_goals first|exact(bO (SM _)).trans (by simp[k])|(done)|(cases c:ks.all gm<;>simp[A,c,dM];done)
 repeat' refine sM (λk=> ?_) (λk=> ?_)
 all_goals first|exact(bO (SM _)).trans (by simp[k])|(done)|(cases c:ks.all gm<;>simp[A,c,dM];done)
end Go.Abs.D
end

section
namespace Go.Abs.D
theorem Jb {R α:Type}{F:S.Tab->Nat->Option R}{P:α->Bool}{l:List α}{yes no:R}{q:S.Tab->Prop}(hq:Evt λn=>q (S.tab n))
  (hs:∀T j (h:j<l.length),q T->F (S.step T) j=bif P l[j]then F T (j+1)else J no) (he:∀T,q T->F (S.step T) l.length=J yes):
  ∀k j,j+k=l.length->Evt λn=>F (S.tab n) j=J (bif(l.drop j).all P then yes else no)
 |0,j,h=>hq.up λn hT=>by
  simp_all
 |k+1,j,h=>by
  have hj:j<l.length:=(by omega)
  refine(hq.and (Jb hq hs he k (j+1) (by omega))).up λn ⟨hT,ih⟩=> ?_
  show F (S.step (S.tab n)) j=_;rw[hs _ j hj hT,bJ hj,cz]
  grind
theorem uR {l:LI}{j:Nat}(h:j<l.length):l.getD (j:Int).toNat 0=l[j]:=by
 simp_all
theorem Qp {l:List LI}{j:Nat}(h:j<l.length):l.getD (j:Int).toNat []=l[j]:=by
 simp_all
theorem Sc:Evt λn=>∀v,vw (S.tab n) v=J (fo v,cO):=JZ.up λn h v=>by
 rw[Gu,h];rfl
theorem JG:Evt λn=>∀v,r8 (S.tab n) v=J (mc v,cO):=JZ.up λn h v=>by
 rw[Gf,h];rfl
theorem af3:Evt λn=>∀a b c d nn op num text,dH (S.tab n) a b c d nn op num text=J (PL a b c d nn op num text,(),(),(),(),nn,op,num,text,()):=dt.up λn _ a b c d nn op num text=>by
 rw[DJ];unfold PL
 generalize I (nn=0)=p
 generalize I (op=0)=q
 generalize I (num=0)=r
 generalize I (text=[])=s
 cases a<;>cases b<;>cases c<;>cases d<;>cases p<;>cases q<;>cases r<;>simp[gj,fA]
theorem TR (ks l:LI)(hl:l.length<=2097152):Evt λn=>iQ (S.tab n) ks l (l.length:Int) 0=J (bif l.all mc then aE (an (ks,()))else an (ks,ar,())):=by
 have:=Jb (F:=λT j=>iQ T ks l (l.length:Int) ↑j) (P:=mc) (l:=l) (yes:=aE (an (ks,()))) (no:=an (ks,ar,())) (q:=λT=>∀v,r8 T v=J (mc v,cO)) JG
  (λT j h hT=>by
   show iQ (S.step T) _ _ _ _=bif _ then iQ T ks l (l.length:Int) ((j+1:Nat):Int)else _
   rw[sU,cU (by simp_all),cU (db h),uR h,hT,au,dX (by omega)]
   grind [mc,dm,cU])
  (λT hT=>by
   grind [iQ,sU,dm]) l.length 0 (by omega)
 simp_all
theorem NU (ks:LI)(hl:ks.length<=200)(i j:Nat)(h1:i<=j)(h2:j<=ks.length):Evt λn=>dI (S.tab n) ↑i ↑j ks=J (EX ks i j,(),(),ks,()):=by
 have hs:(eR ks i j).length<=2097152:=by grind [sx]
 refine(TR ks (eR ks i j) hs).up λn h=> ?_
 rw[DD,cU (fS h1 h2),rI,h];unfold EX;cases(eR ks i j).all mc<;>rfl
theorem ae5 (ks:LI)(hl:ks.length<=200):Evt λn=>nA (S.tab n) (ks.length:Int) ks=J (BS ks,(ks.length:Int),ks,()):=JG.up λn h=>by
 rw[DT];unfold BS
 by_cases h0:1<=ks.length
 ·grind [mc,get,cU,dm]
 simp_all[dm,aa]
theorem Y7 (nn op num:Int)(text:LI)(l:LI)(hl:l.length<=2097152):Evt λn=>iC (S.tab n) nn op num text l (l.length:Int) 0=J (bif l.all fo then aE (an (nn,op,num,text,()))else an (ar,())):=by
 have:=Jb (F:=λT j=>iC T nn op num text l (l.length:Int) ↑j) (P:=fo) (l:=l) (yes:=aE (an (nn,op,num,text,()))) (no:=an (ar,())) (q:=λT=>∀v,vw T v=J (fo v,cO)) Sc
  (λT j h hT=>by
   show iC (S.step T) _ _ _ _ _ _ _=bif _ then iC T nn op num text l (l.length:Int) ((j+1:Nat):Int)else _
   rw[um,cU (by simp_all),cU (db h),uR h,hT,au,dX (by omega)]
   grind [fo,dm,cU])
  (λT hT=>by
   grind [iC,um,dm]) l.length 0 (by omega)
 simp_all
theorem YU (nn op num:Int)(text:LI)(l:LI)(hl:l.length<=2097152):Evt λn=>iH (S.tab n) nn op num text l (l.length:Int) 0=J (bif l.all gm then aE (an (nn,op,num,text,()))else an (ar,())):=by
 have:=Jb (F:=λT j=>iH T nn op num text l (l.length:Int) ↑j) (P:=gm) (l:=l) (yes:=aE (an (nn,op,num,text,()))) (no:=an (ar,())) (q:=λT=>∀v lo hi,nX T v lo hi=J (I (lo<=v)&&I (v<=hi),dU)) JZ
  (λT j h hT=>by
   show iH (S.step T) _ _ _ _ _ _ _=bif _ then iH T nn op num text l (l.length:Int) ((j+1:Nat):Int)else _
   rw[tR,cU (by simp_all),cU (db h),uR h,hT,au,dX (by omega)]
   grind [brk,gm,dm,cU])
  (λT hT=>by
   grind [iH,tR,dm]) l.length 0 (by omega)
 simp_all
theorem Zj (ks:LI)(num nk:Int)(l:LI)(hl:l.length<=2097152):Evt λn=>fb (S.tab n) ks num nk l (l.length:Int) 0=J (bif l.all gV then aE (an (ks,num,nk,()))else an (ar,())):=by
 have:=Jb (F:=λT j=>fb T ks num nk l (l.length:Int) ↑j) (P:=gV) (l:=l) (yes:=aE (an (ks,num,nk,()))) (no:=an (ar,())) (q:=Base2) dt
  (λT j h hT=>by
   show fb (S.step T) _ _ _ _ _ _=bif _ then fb T ks num nk l (l.length:Int) ((j+1:Nat):Int)else _
   rw[tI,cU (by simp_all),cU (db h),uR h,dX (by omega)]
   grind [gV,decide,dm,cU])
  (λT hT=>by
   grind [fb,tI,dm]) l.length 0 (by omega)
 simp_all
theorem Evt.imp {p:Prop}{q:Nat->Prop}(h:p->Evt q):Evt λn=>p->q n:=by
 by_cases hp:p
 all_goals simp_all[Evt.of,absurd]
theorem ag7 (ks:LI)(hl:ks.length<=200)(nn op num:Int)(text:LI)(hb:∀c∈text,isByte c):Evt λn=>IF (S.tab n) ks nn op num text:=by
 have hw:1<=ks.length->aq.wrap ((ks.length:Int) - 1)=((ks.length - 1:Nat):Int):=λh=>by grind [wrap64]
 have a1:=af3
 have a2:Evt λn=>1<=ks.length->dI (S.tab n) 0 1 ks=J (EX ks 0 1,(),(),ks,()):=Evt.imp λh=>NU ks hl 0 1 (by omega) h
 have a3:Evt λn=>2<=ks.length->dI (S.tab n) 0 2 ks=J (EX ks 0 2,(),(),ks,()):=Evt.imp λh=>NU ks hl 0 2 (by omega) h
 have a4:Evt λn=>dI (S.tab n) 0 (ks.length:Int) ks=J (EX ks 0 ks.length,(),(),ks,()):=NU ks hl 0 ks.length (by omega) (aC _)
 have a5:Evt λn=>1<=ks.length->dI (S.tab n) 0 (aq.wrap ((ks.length:Int) - 1)) ks=J (EX ks 0 (ks.length - 1),(),(),ks,()):=Evt.imp λh=>by
  rw[hw h];exact NU ks hl 0 (ks.length - 1) (by omega) (by omega)
 have a6:Evt λn=>(1<=num/\num<=ks.length)->dI (S.tab n) num (ks.length:Int) ks=J (EX ks num.toNat ks.length,(),(),ks,()):=Evt.imp λh=>by
  have:=NU ks hl num.toNat ks.length (by omega) (aC _)
  grind
 have a7:=ae5 ks hl;have a8:=EO (s:=text) hb;have a9:=Kl (s:=text) hb;have b1:=JZ;have b2:=Y7 nn op num text ks (by omega);have b3:=YU nn op num text ks (by omega)
 have b4:Evt λn=>(1<=num/\num<=ks.length)->fb (S.tab n) ks num (ks.length:Int) (sub ks 0 num) ((sub ks 0 num).length:Int) 0=J (bif(eR ks 0 num.toNat).all gV then aE (an (ks,num,(ks.length:Int),()))else an (ar,())):=Evt.imp λh=>by
  have e:sub ks 0 num=eR ks 0 num.toNat:=rfl;exact Zj ks num ks.length _ (by grind [sx])
 refine((((a1.and a2).and (a3.and a4)).and ((a5.and a6).and (a7.and a8))).and (((a9.and b1).and (b2.and b3)).and b4)).mono λn ⟨⟨⟨⟨a1,a2⟩,a3,a4⟩,⟨a5,a6⟩,a7,a8⟩,⟨⟨a9,b1⟩,b2,b3⟩,b4⟩=> ?_
 exact⟨λa b c d=>a1 a b c d nn op num text,a2,a3,a4,a5,λh1 h2=>a6 ⟨h1,h2⟩,a7,a8,a9,b1,b2,b3,λh1 h2=>b4 ⟨h1,h2⟩⟩
end Go.Abs.D
end

section
namespace Go.Abs.D
def ld (ns:List cR.den)(k:Int):Int:=(at_ (τ:=cR) ns k).1
def cT (ns:List cR.den)(x:cR.den):LI:=(cP x).map (ld ns)
theorem F0 {ns:List cR.den}{x:cR.den}{j:Nat}(h:j<(cP x).length):(cT ns x).getD j 0=ld ns ((cP x)[j]):=by
 simp_all[cT,aG,a05,aJ]
theorem Ng {x:cR.den}{j:Nat}(h:j<(cP x).length):x.2.2.2.2.2.2.2.2.1.getD (j:Int).toNat 0=(cP x)[j]:=uR h
theorem KV:Evt λn=>∀v,oA (S.tab n) v=J (fo v,cO):=dt.up λn _ v=>by
 rw[Gr];unfold fo
 cases I ((1:Int)<=v)with
 |true=>rw[cU rfl];rfl
 |false=>rw[dm rfl];rfl
theorem Wz:Evt λn=>∀v,zk (S.tab n) v=J (mc v,cO):=dt.up λn _ v=>by
 rw[GI];unfold mc
 cases I ((20:Int)<=v)with
 |true=>rw[cU rfl];rfl
 |false=>rw[dm rfl];rfl
theorem RI:Evt λn=>∀v,vT (S.tab n) v=J (gV v,cO):=dt.up λn _ v=>by
 rw[DU];unfold gV
 cases I (v=26)with
 |true=>rw[cU rfl];rfl
 |false=>
  rw[dm rfl]
  cases I (v=32)with
  |true=>rw[cU rfl];rfl
  |false=>rw[dm rfl];rfl
theorem V7 (x:cR.den):Evt λn=>∀a b c d,dN (S.tab n) x a b c d=J (PL d a b c ((cW x).length:Int) x.2.2.2.2.1 x.2.2.2.2.2.1 x.2.2.2.2.2.2.1,dW):=dt.up λn _ a b c d=>by
 rw[Gq];unfold PL cW
 generalize I ((x.2.2.2.2.2.2.2.1.length:Int)=0)=p
 generalize I (x.2.2.2.2.1=0)=q
 generalize I (x.2.2.2.2.2.1=0)=r
 generalize I (x.2.2.2.2.2.2.1=[])=s
 cases a<;>cases b<;>cases c<;>cases d<;>cases q<;>cases r<;>cases s<;>simp[gj,fA]
theorem L7 (l:List LI)(hl:l.length<=2097152):Evt λn=>iD (S.tab n) l (l.length:Int) 0=J (bif l.all (iY 1)then aE (an ())else an (ar,())):=by
 have:=Jb (F:=λT j=>iD T l (l.length:Int) ↑j) (P:=iY 1) (l:=l) (yes:=aE (an ())) (no:=an (ar,())) (q:=λT=>∀s∈l,jM T s=J (iY 1 s,cO)) (F7 l λs=>JP (s:=s))
  (λT j h hT=>by
   show iD (S.step T) _ _ _=bif _ then iD T l (l.length:Int) ((j+1:Nat):Int)else _
   rw[tY,cU (by simp_all),cU (db h),Qp h,hT _ (bm h),au,dX (by omega)]
   grind [iY,dm,cU])
  (λT hT=>by
   grind [iD,tY,dm]) l.length 0 (by omega)
 simp_all
theorem TM (x:cR.den)(hl:(cW x).length<=2097152):Evt λn=>∀a b,jP (S.tab n) x a b=J (NM (cW x) a b,mF):=(L7 (cW x) hl).up λn h a b=>by
 have h:iD (S.tab n) x.2.2.2.2.2.2.2.1 (x.2.2.2.2.2.2.2.1.length:Int) 0=_:=h;rw[E9,h];unfold NM
 by_cases h1:a<=((cW x).length:Int)
 ·have d1:I ((x.2.2.2.2.2.2.2.1.length:Int)<a)=false:=aa (by simp_all[cW]);rw[dm d1,ab h1]
  by_cases h2:((cW x).length:Int)<=b
  ·have d2:I (b<(x.2.2.2.2.2.2.2.1.length:Int))=false:=aa (by simp_all[cW]);rw[dm d2,ab h2];cases(cW x).all (iY 1)<;>rfl
  grind [decide,ab,cW,cU,aa]
 grind [decide,ab,cW,cU,aa]
variable{ns:List cR.den}{x:cR.den}(hk:∀k∈cP x,0<=k/\k<(ns.length:Int))(hl:(cP x).length<=200)
include hk
theorem T4 {j:Nat}(h:j<(cP x).length):(I ((0:Int)<=(cP x)[j])&&I ((cP x)[j]<(ns.length:Int)))=true:=by
 simp_all
theorem Lp:Evt λn=>∀j:Nat,j<(cP x).length->ey (S.tab n) (ns,()) x (j:Int)=J ((cT ns x).getD j 0,lU):=dt.up λn _ j h=>by
 have hi:(I ((0:Int)<=(j:Int))&&I ((j:Int)<(x.2.2.2.2.2.2.2.2.1.length:Int)))=true:=db h;rw[IT,cU hi,Ng h,cU (T4 hk h),F0 h];rfl
include hl
theorem EJ (j:Nat)(hj:j<=(cP x).length):∀(k i:Nat),i+k=j->Evt λn=>pL (S.tab n) ↑j (ns,()) x (i:Int)=J (bif EX (cT ns x) i j then aE (an ())else an (ar,()))
 |0,i,h=>dt.up λn _=>by
  simp_all[tZ,dm,EX,oE]
 |k+1,i,h=>by
  have hi:i<(cP x).length:=(by omega)
  refine((EJ j hj k (i+1) (by omega)).and Wz).up λn ⟨ih,he⟩=> ?_
  have rL:(I ((0:Int)<=(i:Int))&&I ((i:Int)<(x.2.2.2.2.2.2.2.2.1.length:Int)))=true:=db hi
  have hx:EX (cT ns x) i j=(mc (ld ns (cP x)[i])&&EX (cT ns x) (i+1) j):=by
   unfold EX eR
   have s5:i<((cT ns x).take j).length:=by grind [bl,cT,bT]
   simp_all[bJ,cz,List.getElem_take,cT,List.getElem_map]
  rw[tZ,cU (by grind),cU rL,Ng hi,cU (T4 hk hi),dX (by omega),hx]
  grind [mc,ld,cP,dm,cU]
theorem zp (i j:Nat)(h1:i<=j)(h2:j<=(cP x).length):Evt λn=>dL (S.tab n) (ns,()) x ↑i (j:Int)=J (EX (cT ns x) i j,fg):=(EJ hk hl j h2 (j - i) i (by omega)).up λn h=>by
 rw[FE,h];cases EX (cT ns x) i j<;>rfl
theorem Zm:Evt λn=>fM (S.tab n) (ns,()) x ((cP x).length:Int) 0=J (bif(cT ns x).all fo then aE (an (x,()))else an (ar,())):=by
 have:=Jb (F:=λT j=>fM T (ns,()) x ((cP x).length:Int) ↑j) (P:=λk=>fo (ld ns k)) (l:=cP x) (yes:=aE (an (x,()))) (no:=an (ar,()))
  (q:=λT=>(∀v,oA T v=J (fo v,cO))/\∀j:Nat,j<(cP x).length->ey T (ns,()) x (j:Int)=J ((cT ns x).getD j 0,lU)) (KV.and (Lp hk))
  (λT j h hT=>by
   show fM (S.step T) _ _ _ _=bif _ then fM T (ns,()) x ((cP x).length:Int) ((j+1:Nat):Int)else _
   rw[qh,cU (by simp_all),hT.2 j h,au,F0 h,hT.1,au,dX (by omega)]
   grind [fo,ld,cP,dm,cU])
  (λT hT=>by
   grind [fM,qh,dm]) (cP x).length 0 (by omega)
 grind [cT,List.all_map]
theorem Wg:Evt λn=>fj (S.tab n) (ns,()) x ((cP x).length:Int) 0=J (bif(cT ns x).all gm then aE (an (x,()))else an (ar,())):=by
 have:=Jb (F:=λT j=>fj T (ns,()) x ((cP x).length:Int) ↑j) (P:=λk=>gm (ld ns k)) (l:=cP x) (yes:=aE (an (x,()))) (no:=an (ar,()))
  (q:=λT=>∀j:Nat,j<(cP x).length->ey T (ns,()) x (j:Int)=J ((cT ns x).getD j 0,lU)) (Lp hk)
  (λT j h hT=>by
   show fj (S.step T) _ _ _ _=bif _ then fj T (ns,()) x ((cP x).length:Int) ((j+1:Nat):Int)else _
   rw[pv,cU (by simp_all),hT j h,au,F0 h,dX (by omega)];unfold gm
   by_cases h1:40<=ld ns (cP x)[j]
   ·by_cases h2:ld ns (cP x)[j]<=42
    all_goals simp_all[dm,aa,ab,cU]
   simp_all[cU,ab,aa])
  (λT hT=>by
   grind [fj,pv,dm]) (cP x).length 0 (by omega)
 grind [cT,List.all_map]
theorem QU (m:Nat)(hm:x.2.2.2.2.2.1=(m:Int))(PY:m<=(cP x).length)(nk:Int):∀(k i:Nat),i+k=m->Evt λn=>fB (S.tab n) (ns,()) x nk (i:Int)=J (bif(eR (cT ns x) i m).all gV then aE (an ((ns,()),x,nk,()))else an (ar,()))
 |0,i,h=>dt.up λn _=>by
  simp_all[pV,dm,oE]
 |k+1,i,h=>by
  have hi:i<(cP x).length:=(by omega)
  refine((QU m hm PY nk k (i+1) (by omega)).and (RI.and (Lp hk))).up λn ⟨ih,ht,Ow⟩=> ?_
  have hx:(eR (cT ns x) i m).all gV=(gV (ld ns (cP x)[i])&&(eR (cT ns x) (i+1) m).all gV):=by
   unfold eR
   have s5:i<((cT ns x).take m).length:=by grind [bl,cT,bT]
   simp_all[bJ,cz,List.getElem_take,cT,List.getElem_map]
  rw[pV,hm,cU (by grind),Ow i hi,au,F0 hi,ht,au,dX (by omega),hx]
  grind [gV,ld,cP,dm,cU]
theorem X7 (hn:(cW x).length<=2097152):Evt λn=>SF (S.tab n) (ns,()) x (cT ns x) (cW x) x.2.2.2.2.1 x.2.2.2.2.2.1 x.2.2.2.2.2.2.1:=by
 have hlen:(cT ns x).length=(cP x).length:=by grind [cT,bT]
 have hw:1<=(cT ns x).length->aq.wrap (((cT ns x).length:Int) - 1)=(((cT ns x).length - 1:Nat):Int):=λh=>by grind [wrap64]
 have a1:=V7 x;have a2:=TM x hn
 have a3:Evt λn=>1<=(cT ns x).length->dL (S.tab n) (ns,()) x 0 1=J (EX (cT ns x) 0 1,fg):=Evt.imp λh=>zp hk hl 0 1 (by omega) (by omega)
 have a4:Evt λn=>2<=(cT ns x).length->dL (S.tab n) (ns,()) x 0 2=J (EX (cT ns x) 0 2,fg):=Evt.imp λh=>zp hk hl 0 2 (by omega) (by omega)
 have a5:Evt λn=>dL (S.tab n) (ns,()) x 0 ((cT ns x).length:Int)=J (EX (cT ns x) 0 (cT ns x).length,fg):=zp hk hl 0 (cT ns x).length (by omega) (by omega)
 have a6:Evt λn=>1<=(cT ns x).length->dL (S.tab n) (ns,()) x 0 (aq.wrap (((cT ns x).length:Int) - 1))=J (EX (cT ns x) 0 ((cT ns x).length - 1),fg):=Evt.imp λh=>by
  rw[hw h];exact zp hk hl 0 ((cT ns x).length - 1) (by omega) (by omega)
 have a7:Evt λn=>(1<=x.2.2.2.2.2.1/\x.2.2.2.2.2.1<=((cT ns x).length:Int))->dL (S.tab n) (ns,()) x x.2.2.2.2.2.1 ((cT ns x).length:Int)=J (EX (cT ns x) (Int.toNat x.2.2.2.2.2.1) (cT ns x).length,fg):=by
  have aux:∀z:Int,Evt λn=>(1<=z/\z<=((cT ns x).length:Int))->dL (S.tab n) (ns,()) x z ((cT ns x).length:Int)=J (EX (cT ns x) z.toNat (cT ns x).length,fg):=λz=>Evt.imp λ⟨h1,h2⟩=>by
   obtain⟨m,rfl⟩:∃m:Nat,z=m:=⟨z.toNat,by omega⟩;exact zp hk hl m (cT ns x).length (by omega) (by omega)
  simp_all
 have a8:=Lp hk;have a9:=JP (s:=x.2.2.2.2.2.2.1);have b1:=TE (s:=x.2.2.2.2.2.2.1);have b2:=Zm hk hl;have b3:=Wg hk hl
 have b4:Evt λn=>(1<=x.2.2.2.2.2.1/\x.2.2.2.2.2.1<=((cT ns x).length:Int))->fB (S.tab n) (ns,()) x ((cT ns x).length:Int) 0=J (bif(eR (cT ns x) 0 (Int.toNat x.2.2.2.2.2.1)).all gV then aE (an ((ns,()),x,((cT ns x).length:Int),()))else an (ar,())):=by
  have aux:∀z:Int,x.2.2.2.2.2.1=z->Evt λn=>(1<=z/\z<=((cT ns x).length:Int))->fB (S.tab n) (ns,()) x ((cT ns x).length:Int) 0=J (bif(eR (cT ns x) 0 z.toNat).all gV then aE (an ((ns,()),x,((cT ns x).length:Int),()))else an (ar,())):=λz hz=>Evt.imp λ⟨h1,h2⟩=>by
   obtain⟨m,rfl⟩:∃m:Nat,z=m:=⟨z.toNat,by omega⟩;exact QU hk hl m hz (by omega) _ m 0 (by omega)
  exact aux x.2.2.2.2.2.1 rfl
 refine((((a1.and a2).and (a3.and a4)).and ((a5.and a6).and (a7.and a8))).and (((a9.and b1).and (b2.and b3)).and b4)).mono λn ⟨⟨⟨⟨a1,a2⟩,a3,a4⟩,⟨a5,a6⟩,a7,a8⟩,⟨⟨a9,b1⟩,b2,b3⟩,b4⟩=> ?_
 rw[<-hlen]at b2 b3;exact⟨rfl,rfl,rfl,hlen.symm,a1,a2,a3,a4,a5,a6,λh1 h2=>a7 ⟨h1,h2⟩,λh=>a8 0 (by omega),λh=>a8 1 (by omega),λh=>a8 2 (by omega),λh=>by rw[hw h];exact a8 _ (by omega),a9,b1,b2,b3,λh1 h2=>b4 ⟨h1,h2⟩⟩
end Go.Abs.D
end

section
namespace Go.Abs.D
def KI (ks:LI)(names:List LI)(op num:Int)(text:LI)(kind:Int):Bool:=
 bif I (kind=1)then ks.all fo&&PL ar ar ar ar (names.length:Int) op num text else
 bif I (kind=2)then PL av ar ar ar (names.length:Int) op num text&&(I ((1:Int)<=(names.length:Int))&&EX ks 0 ks.length)else
 bif I (kind=3)then PL av ar ar ar (names.length:Int) op num text&&(I ((names.length:Int)=1)&&(I ((ks.length:Int)=1)&&EX ks 0 1))else
 bif I (kind=4)then PL av ar ar ar (names.length:Int) op num text&&(I ((names.length:Int)=1)&&(I ((ks.length:Int)=1)&&I (ks.getD 0 0=36)))else
 bif I (kind=5)then PL ar ar av ar (names.length:Int) op num text&&(I (1<=num)&&(I (num<(ks.length:Int))&&((eR ks 0 num.toNat).all gV&&EX ks num.toNat ks.length)))else
 bif I (kind=6)then(R50 ks (names.length:Int) op num text kind av).val else(R50 ks (names.length:Int) op num text kind (I (kind=16))).val
def An2 (y:AnS)(b:Bool):Bool:=y.elim (λy=>y.1) λ_=>b
def KS (t:Tr)(x:cR.den)(ks:LI)(names:List LI)(op num:Int)(text:LI)(kind:Int):Bool:=
 bif I (kind=1)then ks.all fo&&PL ar ar ar ar (names.length:Int) op num text else
 bif I (kind=2)then PL av ar ar ar (names.length:Int) op num text&&(NM names 1 200&&EX ks 0 ks.length)else
 bif I (kind=3)then PL av ar ar ar (names.length:Int) op num text&&(NM names 1 1&&(I ((ks.length:Int)=1)&&EX ks 0 1))else
 bif I (kind=4)then PL av ar ar ar (names.length:Int) op num text&&(NM names 1 1&&(I ((ks.length:Int)=1)&&I (ks.getD 0 0=36)))else
 bif I (kind=5)then PL ar ar av ar (names.length:Int) op num text&&(I (1<=num)&&(I (num<(ks.length:Int))&&((eR ks 0 num.toNat).all gV&&EX ks num.toNat ks.length)))else
 An2 (bif I (kind=6)then Q28 t x ks names op num text kind av else Q28 t x ks names op num text kind (I (kind=16))) (bif I (kind=15)then PL ar ar ar ar (names.length:Int) op num text&&(I ((ks.length:Int)=1)&&EX ks 0 1)else ar)
def KE (t:Tr)(x:cR.den)(ks:LI)(names:List LI)(op num:Int)(text:LI)(kind:Int):Bool:=
 An2 (bif I (kind=20)then Q7 t x ks names op num text kind av else bif I (kind=21)then Q7 t x ks names op num text kind av else bif I (kind=22)then Q7 t x ks names op num text kind av else Q7 t x ks names op num text kind (I (kind=27)))
  (bif I (kind=42)then I ((ks.length:Int)=1)&&(EX ks 0 1&&(PL ar ar ar av (names.length:Int) op num text&&iY 1 text))else ar)
theorem R5 {ks:LI}{nn op num:Int}{text:LI}{kind:Int}(h:kind<1\/42<kind\/(16<kind/\kind<20)\/(37<kind/\kind<40)):(R50 ks nn op num text kind (I (kind=16))).val=false:=by
 have ne:∀c:Int,(1<=c/\c<=16)\/(20<=c/\c<=37)\/(40<=c/\c<=42)->I (kind=c)=false:=λc hc=>aa (by omega)
 unfold R50;rw[ne 16 (by omega),ne 7 (by omega),ne 8 (by omega),ne 9 (by omega),ne 10 (by omega),ne 11 (by omega),ne 12 (by omega),ne 20 (by omega),ne 21 (by omega),ne 22 (by omega),ne 27 (by omega)];unfold R65;rw[ne 13 (by omega),ne 14 (by omega),ne 15 (by omega),ne 40 (by omega)];unfold R72;rw[ne 23 (by omega),ne 24 (by omega),ne 25 (by omega),ne 26 (by omega),ne 28 (by omega),ne 29 (by omega),ne 41 (by omega)];unfold R84;rw[ne 30 (by omega),ne 31 (by omega),ne 32 (by omega),ne 33 (by omega),ne 34 (by omega),ne 35 (by omega),ne 36 (by omega),ne 37 (by omega),ne 42 (by omega)];rfl
theorem OH {t:Tr}{x:cR.den}{ks:LI}{names:List LI}{op num:Int}{text:LI}{kind:Int}(h:kind<1\/42<kind\/(16<kind/\kind<20)\/(37<kind/\kind<40)):KE t x ks names op num text kind=false:=by
 have ne:∀c:Int,(1<=c/\c<=16)\/(20<=c/\c<=37)\/(40<=c/\c<=42)->I (kind=c)=false:=λc hc=>aa (by omega)
 unfold KE;rw[ne 20 (by omega),ne 21 (by omega),ne 22 (by omega),ne 27 (by omega),ne 42 (by omega)];unfold Q7;rw[ne 23 (by omega),ne 24 (by omega),ne 25 (by omega),ne 26 (by omega),ne 28 (by omega),ne 29 (by omega)];unfold Q18;rw[ne 30 (by omega),ne 31 (by omega),ne 32 (by omega),ne 33 (by omega),ne 34 (by omega),ne 35 (by omega),ne 36 (by omega),ne 37 (by omega),ne 40 (by omega),ne 41 (by omega)];rfl
theorem WJ {α:Type}{l:List α}(h:l.length=1):∃a,l=[a]:=by
 match l,h with
 |[a],_=>simp
theorem Wa {α:Type}{l:List α}(h:l.length=2):∃a b,l=[a,b]:=by
 match l,h with
 |[a,b],_=>simp
theorem Y3 (a:Int):EX [a] 0 1=mc a:=by simp[EX,eR]
theorem YZ (a b:Int):EX [a,b] 0 2=(mc a&&mc b):=by simp[EX,eR]
theorem Zr (a:Int)(r:LI):EX (a::r) 0 (a::r).length=(mc a&&r.all mc):=by
 grind [EX,eR,ck]
theorem bs1 (ks:LI):(I ((ks.length:Int)=1)&&BS ks)=(I ((ks.length:Int)=1)&&(EX ks 0 1&& !I (ks.getD 0 0=27))):=by
 by_cases h:ks.length=1
 ·obtain⟨a,rfl⟩:=WJ h;rw[Y3];rfl
 grind
theorem bs2 (ks:LI):(I ((ks.length:Int)=2)&&(BS ks&&EX ks 0 2))=(I ((ks.length:Int)=2)&&(EX ks 0 2&& !I (ks.getD 0 0=27))):=by
 by_cases h:ks.length=2
 ·obtain⟨a,b,rfl⟩:=Wa h;rw[YZ];show(av&&(av&&(mc a&& !I (a=27))&&(mc a&&mc b)))=(av&&(mc a&&mc b&& !I (a=27)))
  grind
 grind
theorem bsn (ks:LI):(BS ks&&EX ks 0 ks.length)=(I ((1:Int)<=(ks.length:Int))&&(EX ks 0 ks.length&& !I (ks.getD 0 0=27))):=by
 cases ks with
 |nil=>rfl
 |cons a r=>
  rw[Zr,ab (show(1:Int)<=((a::r).length:Int)by grind)];show(av&&(mc a&& !I (a=27))&&(mc a&&r.all mc))=(av&&(mc a&&r.all mc&& !I (a=27)))
  grind
theorem n23 (n:Int)(h0:0<=n)(Z:Bool):(!I (n<2)&&(!I ((3:Int)<n)&&Z))=((I (n=2)||decide (n=3))&&Z):=by
 grind
theorem un (names:List LI)(b c d:Bool)(op num:Int)(text:LI)(Z:Bool):
  (I ((names.length:Int)<=200)&&(names.all (iY 1)&&(PL ar b c d (names.length:Int) op num text&&Z)))=(PL ar b c d (names.length:Int) op num text&&Z):=by
 grind [PL,aa]
theorem un2 (names:List LI)(b c d:Bool)(op num:Int)(text:LI)(Z:Bool):
  (I ((names.length:Int)<=200)&&(names.all (iY 1)&&(Z&&PL ar b c d (names.length:Int) op num text)))=(Z&&PL ar b c d (names.length:Int) op num text):=by
 rw[Bool.and_comm Z,un]
theorem nm1 (names:List LI)(p Z:Bool):(I ((names.length:Int)<=200)&&(names.all (iY 1)&&(p&&(I ((names.length:Int)=1)&&Z))))=(p&&(NM names 1 1&&Z)):=by
 grind [NM,iY,aa,decide]
theorem nm2 (names:List LI)(p Z:Bool):(I ((names.length:Int)<=200)&&(names.all (iY 1)&&(p&&((I ((names.length:Int)=1)||decide ((names.length:Int)=2))&&Z))))=(p&&(NM names 1 2&&Z)):=by
 grind [NM,iY,aa,decide]
theorem nmn (names:List LI)(p Z:Bool):(I ((names.length:Int)<=200)&&(names.all (iY 1)&&(p&&(I ((1:Int)<=(names.length:Int))&&Z))))=(p&&(NM names 1 200&&Z)):=by
 grind [NM,decide,iY]
theorem nm0 (names:List LI):NM names 0 200=(I ((names.length:Int)<=200)&&names.all (iY 1)):=by
 rfl
theorem az9 (op:Int):(I ((0:Int)<=op)&&I (op<=1))=(I (op=0)||decide (op=1)):=by
 grind
theorem alike (t:Tr)(x:cR.den)(ks:LI)(names:List LI)(op num:Int)(text:LI)(kind:Int):
  (I ((names.length:Int)<=200)&&(names.all (iY 1)&&KI ks names op num text kind))=bif fo kind then KS t x ks names op num text kind else KE t x ks names op num text kind:=by
 by_cases ho:kind<1\/42<kind\/(16<kind/\kind<20)\/(37<kind/\kind<40)
 ·have hs:fo kind=false:=by
   grind [fo,cI,af]
  have ne:∀c:Int,(1<=c/\c<=16)->I (kind=c)=false:=λc hc=>aa (by omega)
  rw[hs,ah,OH ho];unfold KI;rw[ne 1 (by omega),ne 2 (by omega),ne 3 (by omega),ne 4 (by omega),ne 5 (by omega),ne 6 (by omega)];simp only[ah];rw[R5 ho,aQ,aQ]
 have hk:kind=1\/kind=2\/kind=3\/kind=4\/kind=5\/kind=6\/kind=7\/kind=8\/kind=9\/kind=10\/kind=11\/kind=12\/kind=13\/kind=14\/kind=15\/kind=16\/kind=20\/kind=21\/kind=22\/kind=23\/kind=24\/kind=25\/kind=26\/kind=27\/kind=28\/kind=29\/kind=30\/kind=31\/kind=32\/kind=33\/kind=34\/kind=35\/kind=36\/kind=37\/kind=40\/kind=41\/kind=42:=(by omega);clear ho
 rcases hk with rfl|rfl|rfl|rfl|rfl|rfl|rfl|rfl|rfl|rfl|rfl|rfl|rfl|rfl|rfl|rfl|rfl|rfl|rfl|rfl|rfl|rfl|rfl|rfl|rfl|rfl|rfl|rfl|rfl|rfl|rfl|rfl|rfl|rfl|rfl|rfl|rfl
 ·simp only[KI,KS,KE,fo,R50,R65,R72,R84,Q28,Q41,Q7,Q18,An.val,An2,ba,bc,decide_true,decide_false,ai,ah,aO,aT,bK];rw[un2]
 ·simp only[KI,KS,KE,fo,R50,R65,R72,R84,Q28,Q41,Q7,Q18,An.val,An2,ba,bc,decide_true,decide_false,ai,ah,aO,aT,bK];rw[nmn]
 ·simp only[KI,KS,KE,fo,R50,R65,R72,R84,Q28,Q41,Q7,Q18,An.val,An2,ba,bc,decide_true,decide_false,ai,ah,aO,aT,bK];rw[nm1]
 ·simp only[KI,KS,KE,fo,R50,R65,R72,R84,Q28,Q41,Q7,Q18,An.val,An2,ba,bc,decide_true,decide_false,ai,ah,aO,aT,bK];rw[nm1]
 ·simp only[KI,KS,KE,fo,R50,R65,R72,R84,Q28,Q41,Q7,Q18,An.val,An2,ba,bc,decide_true,decide_false,ai,ah,aO,aT,bK];rw[un]
 ·simp only[KI,KS,KE,fo,R50,R65,R72,R84,Q28,Q41,Q7,Q18,An.val,An2,ba,bc,decide_true,decide_false,ai,ah,aO,aT,bK];rw[un]
 ·simp only[KI,KS,KE,fo,R50,R65,R72,R84,Q28,Q41,Q7,Q18,An.val,An2,ba,bc,decide_true,decide_false,ai,ah,aO,aT,bK];simp_all[un,n23]
 ·simp only[KI,KS,KE,fo,R50,R65,R72,R84,Q28,Q41,Q7,Q18,An.val,An2,ba,bc,decide_true,decide_false,ai,ah,aO,aT,bK];rw[un]
 ·simp only[KI,KS,KE,fo,R50,R65,R72,R84,Q28,Q41,Q7,Q18,An.val,An2,ba,bc,decide_true,decide_false,ai,ah,aO,aT,bK];rw[nm1]
 ·simp only[KI,KS,KE,fo,R50,R65,R72,R84,Q28,Q41,Q7,Q18,An.val,An2,ba,bc,decide_true,decide_false,ai,ah,aO,aT,bK];rw[nmn]
 ·simp only[KI,KS,KE,fo,R50,R65,R72,R84,Q28,Q41,Q7,Q18,An.val,An2,ba,bc,decide_true,decide_false,ai,ah,aO,aT,bK];rw[un]
 ·simp only[KI,KS,KE,fo,R50,R65,R72,R84,Q28,Q41,Q7,Q18,An.val,An2,ba,bc,decide_true,decide_false,ai,ah,aO,aT,bK];rw[un]
 ·simp only[KI,KS,KE,fo,R50,R65,R72,R84,Q28,Q41,Q7,Q18,An.val,An2,ba,bc,decide_true,decide_false,ai,ah,aO,aT,bK];rw[un]
 ·simp only[KI,KS,KE,fo,R50,R65,R72,R84,Q28,Q41,Q7,Q18,An.val,An2,ba,bc,decide_true,decide_false,ai,ah,aO,aT,bK];rw[nm2]
 ·simp only[KI,KS,KE,fo,R50,R65,R72,R84,Q28,Q41,Q7,Q18,An.val,An2,ba,bc,decide_true,decide_false,ai,ah,aO,aT,bK];rw[un]
 ·simp only[KI,KS,KE,fo,R50,R65,R72,R84,Q28,Q41,Q7,Q18,An.val,An2,ba,bc,decide_true,decide_false,ai,ah,aO,aT,bK];rw[un]
 ·simp only[KI,KS,KE,fo,R50,R65,R72,R84,Q28,Q41,Q7,Q18,An.val,An2,ba,bc,decide_true,decide_false,ai,ah,aO,aT,aQ];rw[un]
  ac_rfl
 ·simp only[KI,KS,KE,fo,R50,R65,R72,R84,Q28,Q41,Q7,Q18,An.val,An2,ba,bc,decide_true,decide_false,ai,ah,aO,aT,aQ];rw[un]
  ac_rfl
 ·simp only[KI,KS,KE,fo,R50,R65,R72,R84,Q28,Q41,Q7,Q18,An.val,An2,ba,bc,decide_true,decide_false,ai,ah,aO,aT,aQ];rw[un]
  ac_rfl
 ·simp only[KI,KS,KE,fo,R50,R65,R72,R84,Q28,Q41,Q7,Q18,An.val,An2,ba,bc,decide_true,decide_false,ai,ah,aO,aT,aQ];rw[un]
  ac_rfl
 ·simp only[KI,KS,KE,fo,R50,R65,R72,R84,Q28,Q41,Q7,Q18,An.val,An2,ba,bc,decide_true,decide_false,ai,ah,aO,aT,aQ];rw[un]
  ac_rfl
 ·simp only[KI,KS,KE,fo,R50,R65,R72,R84,Q28,Q41,Q7,Q18,An.val,An2,ba,bc,decide_true,decide_false,ai,ah,aO,aT,aQ];rw[un]
  ac_rfl
 ·simp only[KI,KS,KE,fo,R50,R65,R72,R84,Q28,Q41,Q7,Q18,An.val,An2,ba,bc,decide_true,decide_false,ai,ah,aO,aT,aQ];rw[un]
  ac_rfl
 ·simp only[KI,KS,KE,fo,R50,R65,R72,R84,Q28,Q41,Q7,Q18,An.val,An2,ba,bc,decide_true,decide_false,ai,ah,aO,aT,aQ];rw[un]
  ac_rfl
 ·simp only[KI,KS,KE,fo,R50,R65,R72,R84,Q28,Q41,Q7,Q18,An.val,An2,ba,bc,decide_true,decide_false,ai,ah,aO,aT,aQ];rw[un]
  ac_rfl
 ·simp only[KI,KS,KE,fo,R50,R65,R72,R84,Q28,Q41,Q7,Q18,An.val,An2,ba,bc,decide_true,decide_false,ai,ah,aO,aT,aQ];rw[un]
  ac_rfl
 ·simp only[KI,KS,KE,fo,R50,R65,R72,R84,Q28,Q41,Q7,Q18,An.val,An2,ba,bc,decide_true,decide_false,ai,ah,aO,aT,aQ];rw[un]
  ac_rfl
 ·simp only[KI,KS,KE,fo,R50,R65,R72,R84,Q28,Q41,Q7,Q18,An.val,An2,ba,bc,decide_true,decide_false,ai,ah,aO,aT,aQ];rw[un]
  ac_rfl
 ·simp only[KI,KS,KE,fo,R50,R65,R72,R84,Q28,Q41,Q7,Q18,An.val,An2,ba,bc,decide_true,decide_false,ai,ah,aO,aT,aQ];rw[un];rw[bs2]
  ac_rfl
 ·simp only[KI,KS,KE,fo,R50,R65,R72,R84,Q28,Q41,Q7,Q18,An.val,An2,ba,bc,decide_true,decide_false,ai,ah,aO,aT,aQ];rw[un]
  grind [Bool.and_assoc,decide,BS,bs1]
 ·simp only[KI,KS,KE,fo,R50,R65,R72,R84,Q28,Q41,Q7,Q18,An.val,An2,ba,bc,decide_true,decide_false,ai,ah,aO,aT,aQ];rw[un];rw[bsn]
  ac_rfl
 ·simp only[KI,KS,KE,fo,R50,R65,R72,R84,Q28,Q41,Q7,Q18,An.val,An2,ba,bc,decide_true,decide_false,ai,ah,aO,aT,aQ];rw[un2]
 ·simp only[KI,KS,KE,fo,R50,R65,R72,R84,Q28,Q41,Q7,Q18,An.val,An2,ba,bc,decide_true,decide_false,ai,ah,aO,aT,aQ];rw[nm0,az9]
  ac_rfl
 ·simp only[KI,KS,KE,fo,R50,R65,R72,R84,Q28,Q41,Q7,Q18,An.val,An2,ba,bc,decide_true,decide_false,ai,ah,aO,aT,aQ];rw[un]
  ac_rfl
 ·simp only[KI,KS,KE,fo,R50,R65,R72,R84,Q28,Q41,Q7,Q18,An.val,An2,ba,bc,decide_true,decide_false,ai,ah,aO,aT,aQ];rw[un]
  ac_rfl
 ·simp only[KI,KS,KE,fo,R50,R65,R72,R84,Q28,Q41,Q7,Q18,An.val,An2,ba,bc,decide_true,decide_false,ai,ah,aO,aT,aQ];rw[un]
  ac_rfl
 ·simp only[KI,KS,KE,fo,R50,R65,R72,R84,Q28,Q41,Q7,Q18,An.val,An2,ba,bc,decide_true,decide_false,ai,ah,aO,aT,aQ];rw[un]
  ac_rfl
end Go.Abs.D
end

section
namespace Go.Abs.D
theorem kX (l:List cR.den)(j:Nat)(h:j<l.length):at_ (τ:=cR) l (j:Int)=l[j]:=by
 show(l.getD (j:Int).toNat _)=_;simp_all
def inR (i:Nat)(k:Int):Bool:=I (0<=k)&&I (k<(i:Int))
def okN (ns:List cR.den)(i:Nat)(x:cR.den):Bool:=
 bif I (x.2.1<0)then ar else
 bif I (x.2.2.1<x.2.1)then ar else
 bif I (x.2.2.2.1<0)then ar else
 bif I (200<(cP x).length)then ar else
 bif(cP x).all (inR i)then(bif fo x.1 then KS (ns,()) x (cT ns x) (cW x) x.2.2.2.2.1 x.2.2.2.2.2.1 x.2.2.2.2.2.2.1 x.1 else KE (ns,()) x (cT ns x) (cW x) x.2.2.2.2.1 x.2.2.2.2.2.1 x.2.2.2.2.2.2.1 x.1)else ar
theorem af7 {T:S.Tab}(ks:LI)(z:Int)(hl:ks.length<=200)(al0:1<=z->z<=ks.length->dI T z (ks.length:Int) ks=J (EX ks z.toNat ks.length,(),(),ks,()))
  (aF5:1<=z->z<=ks.length->fb T ks z (ks.length:Int) (sub ks 0 z) ((sub ks 0 z).length:Int) 0=J (bif(eR ks 0 z.toNat).all gV then aE (an (ks,z,(ks.length:Int),()))else an (ar,()))):
  brk (I (z<1)) (J (ar,df)) (brk (I (aq.wrap ((ks.length:Int) - 1)<z)) (J (ar,df)) (brk (bounds ks.length 0 z) ((fb T ks z (ks.length:Int) (sub ks 0 z) ((sub ks 0 z).length:Int) 0).bind (dM (λVt=>J (Vt.1,df)) (λVt=>(dI T Vt.2.1 Vt.2.2.1 Vt.1).bind λd204=>J (d204.1,df)))) ay))=
   J (av&&(I (1<=z)&&(I (z<(ks.length:Int))&&((eR ks 0 z.toNat).all gV&&EX ks z.toNat ks.length))),df):=by
 have wk:aq.wrap ((ks.length:Int) - 1)=(ks.length:Int) - 1:=wrap64 _ (by omega) (by omega)
 by_cases h1:1<=z
 ·rw[da (by omega),ab h1]
  by_cases h2:z<(ks.length:Int)
  ·have hb:bounds ks.length 0 z=true:=by
    grind [bounds,ab]
   rw[da (by omega),ab h2,cU hb,aF5 h1 (by omega)]
   cases(eR ks 0 z.toNat).all gV with
   |true=>
    simp[dM]
    grind
   |false=>rfl
  grind [cU,ab,aa]
 simp_all[cU,ab,aa]
variable{ns:List cR.den}{i:Nat}{x:cR.den}(hx:NodeOk x)(hi:i<ns.length)(hn:ns.length<=3000)
include hi hn
theorem Ug (hl:(cP x).length<=200):∀(k j:Nat),j+k=(cP x).length->Evt λn=>mD (S.tab n) ↑i (ns,()) x ((cT ns x).take j) (cP x) ((cP x).length:Int) (j:Int)=J (bif((cP x).drop j).all (inR i)then aE (an (x,cT ns x,()))else an (ar,()))
 |0,j,h=>dt.up λn _=>by
  have:j=(cP x).length:=(by omega);subst this;rw[vc,dm (by simp),List.drop_length];simp_all[cT,cP,a11,bT,aC]
 |k+1,j,h=>by
  have hj:j<(cP x).length:=(by omega)
  have Ys:j<(cT ns x).length:=by simp_all[cT,bT]
  refine((Ug hl k (j+1) (by omega)).and JZ).up λn ⟨ih,rL⟩=> ?_
  have wi:aq.wrap ((i:Int) - 1)=(i:Int) - 1:=wrap64 _ (by omega) (by omega);rw[vc,cU (by simp_all),cU (db hj),uR hj,wi,rL,au,bJ hj,cz,dX (by omega)]
  have e:(I ((0:Int)<=(cP x)[j])&&I ((cP x)[j]<=(i:Int) - 1))=inR i (cP x)[j]:=by
   grind [inR,cP,ab,aa]
  rw[e]
  cases hr:inR i (cP x)[j]with
  |false=>simp_all[cU]
  |true=>
   have e2:(cT ns x).take (j+1)=(cT ns x).take j++[ld ns (cP x)[j]]:=by
    have hm:(cT ns x)[j]=ld ns (cP x)[j]:=List.getElem_map ..;simp_all[List.take_add_one,aJ]
   have ef:fits (((cT ns x).take j).length+([(at_ (τ:=cR) (ns,()).1 (cP x)[j]).1]:LI).length)=true:=dE (by
    grind [lim,bl,bu])
   rw[dm (by rfl),cU (by
    grind),cU ef]
   rw[e2]at ih;exact ih
omit hi hn in
theorem V8 (hx:NodeOk x)(ks:LI):Evt λn=>fO (S.tab n) x ks (cW x) ((cW x).length:Int) 0=J (bif(cW x).all (iY 1)then aE (an (x,ks,()))else an (ar,())):=by
 have hg:∀(l:List LI),(∀m∈l,∀c∈m,isByte c)->Evt λn=>∀m∈l,jL (S.tab n) m=J (iY 1 m,cO):=by
  intro l
  induction l with
  |nil=>simp_all[Evt.of]
  |cons a l ih=>
   intro h
   refine((EO (s:=a) (h a (aF ..))).and (ih λm hm=>h m (aD _ hm))).mono λn ⟨h1,h2⟩ m hm=> ?_
   grind
 have aK5:=hx.nn
 have:=Jb (F:=λT j=>fO T x ks (cW x) ((cW x).length:Int) ↑j) (P:=iY 1) (l:=cW x) (yes:=aE (an (x,ks,()))) (no:=an (ar,())) (q:=λT=>∀m∈cW x,jL T m=J (iY 1 m,cO)) (hg _ hx.names)
  (λT j h hT=>by
   show fO (S.step T) _ _ _ _ _=bif _ then fO T x ks (cW x) ((cW x).length:Int) ((j+1:Nat):Int)else _
   rw[uq,cU (by simp_all),cU (db h),Qp h,hT _ (bm h),au,dX (by omega)]
   grind [iY,cW,dm,cU])
  (λT hT=>by
   grind [fO,uq,dm]) (cW x).length 0 (by omega)
 simp_all
omit hi hn in
theorem Wt (hl:(cP x).length<=200):Evt λn=>gq (S.tab n) ↑i (ns,()) x (cP x) ((cP x).length:Int) 0=J (bif(cP x).all (inR i)then aE (an ((ns,()),x,()))else an (ar,())):=by
 have:=Jb (F:=λT j=>gq T ↑i (ns,()) x (cP x) ((cP x).length:Int) ↑j) (P:=inR i) (l:=cP x) (yes:=aE (an ((ns,()),x,()))) (no:=an (ar,())) (q:=Base2) dt
  (λT j h hT=>by
   show gq (S.step T) _ _ _ _ _ _=bif _ then gq T ↑i (ns,()) x (cP x) ((cP x).length:Int) ((j+1:Nat):Int)else _
   rw[sS,cU (by simp_all),cU (db h),uR h,dX (by omega)];unfold inR
   grind [cP,dm,aa,ab,cU])
  (λT hT=>by
   grind [gq,sS,dm]) (cP x).length 0 (by omega)
 simp_all
include hx
theorem Gd (aL1:ns[i]=x):Evt λn=>lX (S.tab n) (ns,()) (i:Int)=J (okN ns i x,df):=by
 have IE:at_ (τ:=cR) ns (i:Int)=x:=by rw[kX _ _ hi];exact aL1
 have aE8:at_ (τ:=cR) ((ns,()):Tr).1 (i:Int)=x:=IE
 have start:∀n,lX (S.step (S.tab n)) (ns,()) (i:Int)=_:=λn=>by
  rw[Gn,cU (db hi),aE8]
 unfold okN
 by_cases c1:x.2.1<0
 ·refine dt.up λn _=> ?_
  rw[start,dA c1,ab c1];rfl
 by_cases c2:x.2.2.1<x.2.1
 ·refine dt.up λn _=> ?_
  rw[start,da c1,dA c2,aa c1,ab c2];rfl
 by_cases c3:x.2.2.2.1<0
 ·refine dt.up λn _=> ?_
  rw[start,da c1,da c2,dA c3,aa c1,aa c2,ab c3];rfl
 rw[aa c1,aa c2,aa c3]
 by_cases c4:200<(cP x).length
 ·refine dt.up λn _=> ?_
  have d4:I ((200:Int)<(x.2.2.2.2.2.2.2.2.1.length:Int))=true:=ab (by unfold cP at c4;omega);rw[start,da c1,da c2,da c3,cU d4,ab c4];rfl
 have d4:I ((200:Int)<(x.2.2.2.2.2.2.2.2.1.length:Int))=false:=aa (by unfold cP at c4;omega);rw[aa c4];simp;have hl:(cP x).length<=200:=(by omega)
 have Cc:(cT ns x).length<=200:=by unfold cT;rw[bT];exact hl
 rw[<-alike]
 by_cases c5:¬ ((cW x).length:Int)<=200
 ·have d5:I ((200:Int)<(x.2.2.2.2.2.2.2.1.length:Int))=true:=ab (by unfold cW at c5;omega)
  refine dt.up λn _=> ?_
  rw[start,da c1,da c2,da c3,dm d4,cU d5,aa c5];cases(cP x).all (inR i)<;>rfl
 replace c5:=bP.1 c5
 have d5:I ((200:Int)<(x.2.2.2.2.2.2.2.1.length:Int))=false:=aa (by unfold cW at c5;omega);rw[ab c5,ct];have h6:=Ug hi hn hl (cP x).length 0 (by omega);rw[cc]at h6
 have step2:∀n,lX (S.step (S.tab n)) (ns,()) (i:Int)=_:=λn=>by
  rw[start,da c1,da c2,da c3,dm d4,dm d5]
 cases hr:(cP x).all (inR i)with
 |false=>
  rw[hr]at h6
  refine h6.up λn h=> ?_
  have h:mD (S.tab n) ↑i (ns,()) x [] x.2.2.2.2.2.2.2.2.1 (x.2.2.2.2.2.2.2.2.1.length:Int) 0=_:=h;rw[step2,h];rfl
 |true=>
  rw[hr]at h6;have Ca:=V8 hx (cT ns x);have ap1:=ag7 (cT ns x) Cc ((cW x).length:Int) x.2.2.2.2.1 x.2.2.2.2.2.1 x.2.2.2.2.2.2.1 hx.text
  have ya:∀n,mD (S.tab n) ↑i (ns,()) x [] x.2.2.2.2.2.2.2.2.1 (x.2.2.2.2.2.2.2.2.1.length:Int) 0=J (aE (an (x,cT ns x,())))->lX (S.step (S.tab n)) (ns,()) (i:Int)=_:=λn h=>by
   rw[step2,h,au]
  cases aL6:(cW x).all (iY 1)with
  |false=>
   rw[aL6]at Ca
   refine(h6.and Ca).up λn ⟨h,Ca⟩=> ?_
   have Ca:fO (S.tab n) x (cT ns x) x.2.2.2.2.2.2.2.1 (x.2.2.2.2.2.2.2.1.length:Int) 0=_:=Ca;rw[ya n h];show(fO (S.tab n) x (cT ns x) x.2.2.2.2.2.2.2.1 (x.2.2.2.2.2.2.2.1.length:Int) 0).bind _=_;rw[Ca];rfl
  |true=>
   rw[aL6]at Ca
   have aC4:Evt λn=>∀fl,kj (S.tab n) (cT ns x) ((cW x).length:Int) x.2.2.2.2.1 x.2.2.2.2.2.1 x.2.2.2.2.2.2.1 ((cT ns x).length:Int) x.1 fl=J (R84 (cT ns x) ((cW x).length:Int) x.2.2.2.2.1 x.2.2.2.2.2.1 x.2.2.2.2.2.2.1 x.1 fl):=ap1.up λn h fl=>r84 h Cc x.1 fl
   have aH4:Evt λn=>∀fl,lp (S.tab n) (cT ns x) ((cW x).length:Int) x.2.2.2.2.1 x.2.2.2.2.2.1 x.2.2.2.2.2.2.1 ((cT ns x).length:Int) x.1 fl=J (R72 (cT ns x) ((cW x).length:Int) x.2.2.2.2.1 x.2.2.2.2.2.1 x.2.2.2.2.2.2.1 x.1 fl):=(ap1.and aC4).up λn ⟨h,h'⟩ fl=>r72 h Cc x.1 h' fl
   have aI4:Evt λn=>∀fl,gL (S.tab n) (cT ns x) ((cW x).length:Int) x.2.2.2.2.1 x.2.2.2.2.2.1 x.2.2.2.2.2.2.1 ((cT ns x).length:Int) x.1 fl=J (R65 (cT ns x) ((cW x).length:Int) x.2.2.2.2.1 x.2.2.2.2.2.1 x.2.2.2.2.2.2.1 x.1 fl):=(ap1.and aH4).up λn ⟨h,h'⟩ fl=>r65 h Cc x.1 h' fl
   have av1:Evt λn=>∀fl,mW (S.tab n) (cT ns x) ((cW x).length:Int) x.2.2.2.2.1 x.2.2.2.2.2.1 x.2.2.2.2.2.2.1 ((cT ns x).length:Int) x.1 fl=J (R50 (cT ns x) ((cW x).length:Int) x.2.2.2.2.1 x.2.2.2.2.2.1 x.2.2.2.2.2.2.1 x.1 fl):=(ap1.and aI4).up λn ⟨h,h'⟩ fl=>r50 h Cc x.1 h' fl
   refine((h6.and Ca).and (ap1.and av1)).up λn ⟨⟨h,Ca⟩,hI,av1⟩=> ?_
   have Ca:fO (S.tab n) x (cT ns x) x.2.2.2.2.2.2.2.1 (x.2.2.2.2.2.2.2.1.length:Int) 0=_:=Ca;rw[ya n h];show(fO (S.tab n) x (cT ns x) x.2.2.2.2.2.2.2.1 (x.2.2.2.2.2.2.2.1.length:Int) 0).bind _=_;rw[Ca];simp[dM];have aK5:(x.2.2.2.2.2.2.2.1.length:Int)=((cW x).length:Int):=rfl;rw[aK5];unfold KI
   by_cases k1:x.1=1
   ·rw[dA k1,ab k1,ai,hI.l26]
    cases(cT ns x).all fo with
    |true=>simp[hI.pl]
    |false=>rfl
   rw[da k1,aa k1,ah]
   by_cases k2:x.1=2
   ·rw[dA k2,ab k2,ai,hI.pl,hI.Ir];simp
    cases PL av ar ar ar ((cW x).length:Int) x.2.2.2.2.1 x.2.2.2.2.2.1 x.2.2.2.2.2.2.1 with
    |false=>rw[fA];rfl
    |true=>
     rw[gj]
     cases I ((1:Int)<=((cW x).length:Int))with
     |false=>rw[fA];rfl
     |true=>rw[gj];rfl
   rw[da k2,aa k2,ah]
   by_cases k3:x.1=3
   ·rw[dA k3,ab k3,ai,hI.pl];simp
    cases PL av ar ar ar ((cW x).length:Int) x.2.2.2.2.1 x.2.2.2.2.2.1 x.2.2.2.2.2.2.1 with
    |false=>rw[fA];rfl
    |true=>
     rw[gj]
     cases I (((cW x).length:Int)=1)with
     |false=>rw[fA];rfl
     |true=>
      rw[gj]
      by_cases h1:(cT ns x).length=1
      ·rw[dA (by omega),hI.FO (by omega),ab (show((cT ns x).length:Int)=1 by omega)];rfl
      ·rw[da (by omega),aa (show¬ ((cT ns x).length:Int)=1 by omega)];rfl
   rw[da k3,aa k3,ah]
   by_cases k4:x.1=4
   ·rw[dA k4,ab k4,ai,hI.pl];simp
    cases PL av ar ar ar ((cW x).length:Int) x.2.2.2.2.1 x.2.2.2.2.2.1 x.2.2.2.2.2.2.1 with
    |false=>rw[fA];rfl
    |true=>
     rw[gj]
     cases I (((cW x).length:Int)=1)with
     |false=>rw[fA];rfl
     |true=>
      rw[gj]
      by_cases h1:(cT ns x).length=1
      ·rw[dA (by omega),dA (by omega),ab (show((cT ns x).length:Int)=1 by omega)];rfl
      ·rw[da (by omega),aa (show¬ ((cT ns x).length:Int)=1 by omega)];rfl
   rw[da k4,aa k4,ah]
   by_cases k5:x.1=5
   ·rw[dA k5,ab k5,ai,hI.pl];simp
    cases PL ar ar av ar ((cW x).length:Int) x.2.2.2.2.1 x.2.2.2.2.2.1 x.2.2.2.2.2.2.1 with
    |false=>rw[cU (by rfl)];rfl
    |true=>
     rw[dm (by rfl)];exact af7 (cT ns x) x.2.2.2.2.2.1 Cc hI.al0 hI.aF5
   rw[da k5,aa k5,ah]
   by_cases k6:x.1=6
   ·rw[dA k6,ab k6,ai,av1]
    cases hR:R50 (cT ns x) ((cW x).length:Int) x.2.2.2.2.1 x.2.2.2.2.2.1 x.2.2.2.2.2.2.1 x.1 av with
    |inl y=>rfl
    |inr y=>cases y with
     |inl y=>rfl
     |inr y=>exact y.elim
   ·rw[da k6,aa k6,ah,av1]
    cases hR:R50 (cT ns x) ((cW x).length:Int) x.2.2.2.2.1 x.2.2.2.2.2.1 x.2.2.2.2.2.2.1 x.1 (I (x.1=16))with
    |inl y=>rfl
    |inr y=>cases y with
     |inl y=>rfl
     |inr y=>exact y.elim
end Go.Abs.D
end

section
namespace Go.Abs.D
variable{ns:List cR.den}{i:Nat}{x:cR.den}(hx:NodeOk x)(hi:i<ns.length)(hn:ns.length<=3000)
theorem YJ {T:S.Tab}(t:Tr)(x:cR.den)(ks:LI)(z:Int)(hz:x.2.2.2.2.2.1=z)(hl:ks.length<=200)(al0:1<=z->z<=ks.length->dL T t x z (ks.length:Int)=J (EX ks z.toNat ks.length,fg))
  (aI6:1<=z->z<=ks.length->fB T t x (ks.length:Int) 0=J (bif(eR ks 0 z.toNat).all gV then aE (an (t,x,(ks.length:Int),()))else an (ar,()))):
  brk (I (z<1)) (J (ar,dc)) (brk (I ((ks.length:Int)<=z)) (J (ar,dc)) ((fB T t x (ks.length:Int) 0).bind (dM (λzL=>J (zL.1,dc)) (λzL=>(dL T zL.1 zL.2.1 zL.2.1.2.2.2.2.2.1 zL.2.2.1).bind λd112=>J (d112.1,dc)))))=
   J (av&&(I (1<=z)&&(I (z<(ks.length:Int))&&((eR ks 0 z.toNat).all gV&&EX ks z.toNat ks.length))),dc):=by
 by_cases h1:1<=z
 ·rw[da (by omega),ab h1]
  by_cases h2:z<(ks.length:Int)
  ·rw[da (by omega),ab h2,aI6 h1 (by omega)]
   cases(eR ks 0 z.toNat).all gV with
   |true=>
    simp[dM]
    grind
   |false=>rfl
  simp_all[cU,ab,aa]
 simp_all[cU,ab,aa]
theorem ax0 {T:S.Tab}{t:Tr}{x:cR.den}{ks:LI}{names:List LI}{op num:Int}{text:LI}(h:SF T t x ks names op num text):gG (S.step T) t x (ks.length:Int)=J (an (bif I (x.1=15)then PL ar ar ar ar (names.length:Int) op num text&&(I ((ks.length:Int)=1)&&EX ks 0 1)else ar,())):=by
 rw[wu]
 by_cases k:x.1=15
 ·rw[dA k,ab k,ai,h.pl];simp
  cases PL ar ar ar ar (names.length:Int) op num text with
  |false=>rw[fA];rfl
  |true=>
   rw[gj]
   by_cases h1:ks.length=1
   ·rw[dA (by omega),h.FO (by omega),ab (show(ks.length:Int)=1 by omega)];rfl
   grind [dm,aa]
 simp_all[dm,aa]
theorem ax8 {T:S.Tab}{t:Tr}{x:cR.den}{ks:LI}{names:List LI}{op num:Int}{text:LI}(h:SF T t x ks names op num text):fi (S.step T) t x (ks.length:Int)=J (an (bif I (x.1=42)then I ((ks.length:Int)=1)&&(EX ks 0 1&&(PL ar ar ar av (names.length:Int) op num text&&iY 1 text))else ar,())):=by
 rw[vH]
 by_cases k:x.1=42
 ·rw[dA k,ab k,ai]
  by_cases h1:ks.length=1
  ·rw[dA (by omega),h.FO (by omega),ab (show(ks.length:Int)=1 by omega)];simp[h.pl]
   cases EX ks 0 1 with
   |false=>rw[fA];rfl
   |true=>
    rw[gj]
    cases PL ar ar ar av (names.length:Int) op num text with
    |false=>rw[fA];rfl
    |true=>
     rw[gj,h.Oa,h.gn];rfl
  grind [dm,aa]
 simp_all[dm,aa]
def zA (t:Tr)(x:cR.den)(ks:LI)(y:AnS):Prop:=(∃b,y=an (b,()))\/y=aE (an (t,x,(ks.length:Int),()))
theorem nW {t:Tr}{x:cR.den}{ks:LI}{c:Bool}{a b:AnS}(ha:zA t x ks a)(hb:zA t x ks b):zA t x ks (bif c then a else b):=by grind
theorem sI {t:Tr}{x:cR.den}{ks:LI}(b:Bool):zA t x ks (an (b,())):= .inl ⟨b,rfl⟩
theorem Uv {t:Tr}{x:cR.den}{ks:LI}:zA t x ks (aE (an (t,x,(ks.length:Int),()))):= .inr rfl
section
variable{t:Tr}{ks:LI}{names:List LI}{op num:Int}{text:LI}{kind:Int}
theorem Ur (fl:Bool):zA t x ks (Q18 t x ks names op num text kind fl):=by
 repeat refine nW (sI _) ?_
 exact Uv
theorem ag1 (fl:Bool):zA t x ks (Q7 t x ks names op num text kind fl):=by
 exact nW (sI _) (nW (sI _) (nW (sI _) (nW (sI _) (nW (sI _) (nW (Ur _) (Ur _))))))
theorem Um (fl:Bool):zA t x ks (Q41 t x ks names op num text kind fl):=by
 repeat refine nW (sI _) ?_
 exact Uv
theorem Uf (fl:Bool):zA t x ks (Q28 t x ks names op num text kind fl):=by
 exact nW (sI _) (nW (sI _) (nW (sI _) (nW (sI _) (nW (sI _) (nW (Um _) (Um _))))))
end
section
variable(hk:∀k∈cP x,0<=k/\k<(ns.length:Int))(hl:(cP x).length<=200)
include hx hk hl
theorem IP:Evt λn=>nS (S.tab n) (ns,()) x=J (KE (ns,()) x (cT ns x) (cW x) x.2.2.2.2.1 x.2.2.2.2.2.1 x.2.2.2.2.2.2.1 x.1,dc):=by
 have Cc:(cT ns x).length<=200:=by simp_all[cT,bT]
 have Xy:=X7 hk hl hx.nn
 have SM:Evt λn=>∀fl,il (S.tab n) (ns,()) x ((cT ns x).length:Int) x.1 fl=J (Q18 (ns,()) x (cT ns x) (cW x) x.2.2.2.2.1 x.2.2.2.2.2.1 x.2.2.2.2.2.2.1 x.1 fl):=Xy.up λn h fl=>q18 h Cc x.1 fl
 have h7:Evt λn=>∀fl,gH (S.tab n) (ns,()) x ((cT ns x).length:Int) x.1 fl=J (Q7 (ns,()) x (cT ns x) (cW x) x.2.2.2.2.1 x.2.2.2.2.2.1 x.2.2.2.2.2.2.1 x.1 fl):=(Xy.and SM).up λn ⟨h,h'⟩ fl=>q7 h Cc x.1 h' fl
 have E6:Evt λn=>fi (S.tab n) (ns,()) x ((cT ns x).length:Int)=_:=Xy.up λn h=>ax8 h
 refine((h7.and E6).and Xy).up λn ⟨⟨h7,E6⟩,hF⟩=> ?_
 have hlen:(x.2.2.2.2.2.2.2.2.1.length:Int)=((cT ns x).length:Int):=(by rw[hF.SQ])
 have fin:∀y:AnS,zA (ns,()) x (cT ns x) y->((J y:Option AnS).bind (dM (λy7=>J (y7.1,dc)) (λy7=>(fi (S.tab n) y7.1 y7.2.1 y7.2.2.1).bind (dB (λkZ=>J (kZ.1,dc))))))=J (An2 y (bif I (x.1=42)then I (((cT ns x).length:Int)=1)&&(EX (cT ns x) 0 1&&(PL ar ar ar av ((cW x).length:Int) x.2.2.2.2.1 x.2.2.2.2.2.1 x.2.2.2.2.2.2.1&&iY 1 x.2.2.2.2.2.2.1))else ar),dc):=λy hy=>by
  rcases hy with⟨b,rfl⟩|rfl
  ·rfl
  ·show(fi (S.tab n) (ns,()) x ((cT ns x).length:Int)).bind _=_;rw[E6];rfl
 rw[yJ];unfold KE
 grind [cU,ab,ag1,dm,aa]
theorem Kr:Evt λn=>oN (S.tab n) (ns,()) x=J (KS (ns,()) x (cT ns x) (cW x) x.2.2.2.2.1 x.2.2.2.2.2.1 x.2.2.2.2.2.2.1 x.1,dc):=by
 have Cc:(cT ns x).length<=200:=by unfold cT;rw[bT];exact hl
 have Xy:=X7 hk hl hx.nn
 have Oq:Evt λn=>∀fl,iO (S.tab n) (ns,()) x ((cT ns x).length:Int) x.1 fl=J (Q41 (ns,()) x (cT ns x) (cW x) x.2.2.2.2.1 x.2.2.2.2.2.1 x.2.2.2.2.2.2.1 x.1 fl):=Xy.up λn h fl=>q41 h Cc x.1 fl
 have Ah:Evt λn=>∀fl,jW (S.tab n) (ns,()) x ((cT ns x).length:Int) x.1 fl=J (Q28 (ns,()) x (cT ns x) (cW x) x.2.2.2.2.1 x.2.2.2.2.2.1 x.2.2.2.2.2.2.1 x.1 fl):=(Xy.and Oq).up λn ⟨h,h'⟩ fl=>q28 h Cc x.1 h' fl
 have E6:Evt λn=>gG (S.tab n) (ns,()) x ((cT ns x).length:Int)=_:=Xy.up λn h=>ax0 h
 refine((Ah.and E6).and Xy).up λn ⟨⟨Ah,E6⟩,hF⟩=> ?_
 have hlen:(x.2.2.2.2.2.2.2.2.1.length:Int)=((cT ns x).length:Int):=(by rw[hF.SQ])
 have fin:∀y:AnS,zA (ns,()) x (cT ns x) y->((J y:Option AnS).bind (dM (λGa=>J (Ga.1,dc)) (λGa=>(gG (S.tab n) Ga.1 Ga.2.1 Ga.2.2.1).bind (dB (λkZ=>J (kZ.1,dc))))))=J (An2 y (bif I (x.1=15)then PL ar ar ar ar ((cW x).length:Int) x.2.2.2.2.1 x.2.2.2.2.2.1 x.2.2.2.2.2.2.1&&(I (((cT ns x).length:Int)=1)&&EX (cT ns x) 0 1)else ar),dc):=λy hy=>by
  rcases hy with⟨b,rfl⟩|rfl
  ·rfl
  ·show(gG (S.tab n) (ns,()) x ((cT ns x).length:Int)).bind _=_;rw[E6];rfl
 rw[Aq];rw[hlen];unfold KS
 by_cases k1:x.1=1
 ·rw[dA k1,ab k1,hF.l5]
  cases(cT ns x).all fo with
  |true=>simp[dM,hF.pl]
  |false=>rfl
 rw[da k1,aa k1,ah]
 by_cases k2:x.1=2
 ·rw[dA k2,ab k2,ai,hF.pl,hF.nm,hF.Ir];simp
  cases PL av ar ar ar ((cW x).length:Int) x.2.2.2.2.1 x.2.2.2.2.2.1 x.2.2.2.2.2.2.1 with
  |false=>rw[fA];rfl
  |true=>
   rw[gj]
   cases NM (cW x) 1 200 with
   |false=>rw[fA];rfl
   |true=>rw[gj];rfl
 rw[da k2,aa k2,ah]
 by_cases k3:x.1=3
 ·rw[dA k3,ab k3,ai,hF.pl,hF.nm];simp
  cases PL av ar ar ar ((cW x).length:Int) x.2.2.2.2.1 x.2.2.2.2.2.1 x.2.2.2.2.2.2.1 with
  |false=>rw[fA];rfl
  |true=>
   rw[gj]
   cases NM (cW x) 1 1 with
   |false=>rw[fA];rfl
   |true=>
    rw[gj]
    by_cases h1:(cT ns x).length=1
    ·rw[dA (by omega),hF.FO (by omega),ab (show((cT ns x).length:Int)=1 by omega)];rfl
    ·rw[da (by omega),aa (show¬ ((cT ns x).length:Int)=1 by omega)];rfl
 rw[da k3,aa k3,ah]
 by_cases k4:x.1=4
 ·rw[dA k4,ab k4,ai,hF.pl,hF.nm];simp
  cases PL av ar ar ar ((cW x).length:Int) x.2.2.2.2.1 x.2.2.2.2.2.1 x.2.2.2.2.2.2.1 with
  |false=>rw[fA];rfl
  |true=>
   rw[gj]
   cases NM (cW x) 1 1 with
   |false=>rw[fA];rfl
   |true=>
    rw[gj]
    by_cases h1:(cT ns x).length=1
    ·rw[dA (by omega),hF.k0 (by omega),ab (show((cT ns x).length:Int)=1 by omega)];rfl
    ·rw[da (by omega),aa (show¬ ((cT ns x).length:Int)=1 by omega)];rfl
 rw[da k4,aa k4,ah]
 by_cases k5:x.1=5
 ·rw[dA k5,ab k5,ai,hF.pl];simp
  cases PL ar ar av ar ((cW x).length:Int) x.2.2.2.2.1 x.2.2.2.2.2.1 x.2.2.2.2.2.2.1 with
  |false=>rw[cU (by rfl)];rfl
  |true=>
   rw[dm (by rfl)];exact YJ (ns,()) x (cT ns x) x.2.2.2.2.2.1 rfl Cc hF.al0 hF.aI6
 rw[da k5,aa k5,ah]
 by_cases k6:x.1=6
 ·rw[dA k6,ab k6,ai,Ah];exact fin _ (Uf _)
 ·rw[da k6,aa k6,ah,Ah];exact fin _ (Uf _)
end
include hx hi
theorem Gt (aL1:ns[i]=x):Evt λn=>jO (S.tab n) (ns,()) (i:Int)=J (okN ns i x,df):=by
 have IE:at_ (τ:=cR) ((ns,()):Tr).1 (i:Int)=x:=by
  simp_all[at_,cR,kX]
 have start:∀n,jO (S.step (S.tab n)) (ns,()) (i:Int)=_:=λn=>by
  rw[DC,cU (db hi),IE]
 unfold okN
 by_cases c1:x.2.1<0
 ·refine dt.up λn _=> ?_
  simp_all[start,cU,ab]
 by_cases c2:x.2.2.1<x.2.1
 ·refine dt.up λn _=> ?_
  simp_all[start,dm,aa,cU,ab]
 by_cases c3:x.2.2.2.1<0
 ·refine dt.up λn _=> ?_
  simp_all[start,dm,aa,cU,ab]
 rw[aa c1,aa c2,aa c3]
 by_cases c4:200<(cP x).length
 ·refine dt.up λn _=> ?_
  have d4:I ((200:Int)<(x.2.2.2.2.2.2.2.2.1.length:Int))=true:=ab (by grind [cP]);simp_all[start,dm,aa,cU,ab]
 have d4:I ((200:Int)<(x.2.2.2.2.2.2.2.2.1.length:Int))=false:=aa (by grind [cP]);rw[aa c4];have hl:(cP x).length<=200:=(by omega);have h5:=Wt (ns:=ns) (i:=i) (x:=x) hl
 have step2:∀n,jO (S.step (S.tab n)) (ns,()) (i:Int)=_:=λn=>by
  rw[start,da c1,da c2,da c3,dm d4]
 cases hr:(cP x).all (inR i)with
 |false=>
  rw[hr]at h5
  refine h5.up λn h=> ?_
  have h:gq (S.tab n) ↑i (ns,()) x x.2.2.2.2.2.2.2.2.1 (x.2.2.2.2.2.2.2.2.1.length:Int) 0=_:=h;rw[step2,h];rfl
 |true=>
  rw[hr]at h5
  have hk:∀k∈cP x,0<=k/\k<(ns.length:Int):=λk aQ8=>by
   have:=aW.1 hr k aQ8;unfold inR at this;rw[aA,ae,ae]at this;omega
  have ya:∀n,gq (S.tab n) ↑i (ns,()) x x.2.2.2.2.2.2.2.2.1 (x.2.2.2.2.2.2.2.2.1.length:Int) 0=J (aE (an ((ns,()),x,())))->jO (S.step (S.tab n)) (ns,()) (i:Int)=_:=λn h=>by
   rw[step2,h,au]
  cases hs:fo x.1 with
  |true=>
   refine((h5.and KV).and (Kr hx hk hl)).up λn ⟨⟨h,pH⟩,hS⟩=> ?_
   rw[ya n h];show(oA (S.tab n) x.1).bind _=_;rw[pH,au,hs,cU (by rfl)];show(oN (S.tab n) (ns,()) x).bind _=_;rw[hS];rfl
  |false=>
   refine((h5.and KV).and (IP hx hk hl)).up λn ⟨⟨h,pH⟩,hE⟩=> ?_
   rw[ya n h];show(oA (S.tab n) x.1).bind _=_;rw[pH,au,hs,dm (by rfl)];show(nS (S.tab n) (ns,()) x).bind _=_;rw[hE];rfl
end Go.Abs.D
end

section
namespace Go.Abs.D
def Dg (ns:List cR.den)(j:Nat):Bool:=match ns[j]? with|some x=>okN ns j x|none=>ar
def okQ (ns:List cR.den)(j:Nat):Bool:=I (j<ns.length)&&Dg ns j
theorem QM {ns:List cR.den}:∀j,ns.length<=j->okQ ns j=false:=λj h=>by simp_all[okQ,aa]
def zE (ns:List cR.den):Nat:=stop (okQ ns) ns.length 0
abbrev Fa:Type:=Int×Int×Unit
section
variable{ns:List cR.den}(hN:∀x∈ns,NodeOk x)(hn:ns.length<=3000)
include hN hn
theorem TP:Evt λn=>∀j∈a09 ns.length,lX (S.tab n) (ns,()) (j:Int)=J (Dg ns j,df):=by
 have:∀(l:List Nat),(∀j∈l,j<ns.length)->Evt λn=>∀j∈l,lX (S.tab n) (ns,()) (j:Int)=J (Dg ns j,df):=by
  intro l
  induction l with
  |nil=>simp_all[Evt.of]
  |cons a l ih=>
   intro h;have ha:=h a (aF ..)
   have e:Dg ns a=okN ns a ns[a]:=by simp_all[Dg,aJ]
   refine((Gd (hN _ (bm ha)) ha hn rfl).and (ih λj hj=>h j (aD _ hj))).mono λn ⟨h1,h2⟩ j hj=> ?_
   grind
 exact this _ λj hj=>a03.1 hj
omit hn in
theorem TQ:Evt λn=>∀j∈a09 ns.length,jO (S.tab n) (ns,()) (j:Int)=J (Dg ns j,df):=by
 have:∀(l:List Nat),(∀j∈l,j<ns.length)->Evt λn=>∀j∈l,jO (S.tab n) (ns,()) (j:Int)=J (Dg ns j,df):=by
  intro l
  induction l with
  |nil=>simp_all[Evt.of]
  |cons a l ih=>
   intro h;have ha:=h a (aF ..)
   have e:Dg ns a=okN ns a ns[a]:=by simp_all[Dg,aJ]
   refine((Gt (hN _ (bm ha)) ha rfl).and (ih λj hj=>h j (aD _ hj))).mono λn ⟨h1,h2⟩ j hj=> ?_
   grind
 exact this _ λj hj=>a03.1 hj
theorem Zd (z:Int)(f:Fa):Evt λn=>ix (S.tab n) (ns,()) f z (ns.length:Int) 0=J (bif I (zE ns<ns.length)then an ((2,(zE ns:Int),()),())else aE (an ((ns,()),f,z,()))):=
 adv (F:=λT (j:Nat)=>ix T (ns,()) f z (ns.length:Int) ↑j) (q:=okQ ns) (N:=ns.length)
  (out:=λj=>bif I (j<ns.length)then an ((2,(j:Int),()),())else aE (an ((ns,()),f,z,())))
  (p:=λT=>∀j∈a09 ns.length,lX T (ns,()) (j:Int)=J (Dg ns j,df)) (TP hN hn) QM
  (λT j h hq=>by
   unfold okQ at hq;rw[aA,ae]at hq;show ix (S.step T) _ _ _ _ _=ix T (ns,()) f z (ns.length:Int) ((j+1:Nat):Int)
   rw[vt,cU (by simp_all),h j (a03.2 hq.1),au,hq.2,dm (by rfl),dX (by omega)])
  (λT j h hq=>by
   show ix (S.step T) _ _ _ _ _=_;rw[vt]
   by_cases hj:j<ns.length
   ·unfold okQ at hq;simp_all[cU,a03,au,hq,ab]
   simp_all[dm,aa]) ns.length 0 (by omega)
theorem Y9 (f:Fa):Evt λn=>iu (S.tab n) (ns,()) f (ns.length:Int) 0=J (bif I (zE ns<ns.length)then an ((2,(zE ns:Int),()),())else aE (an ((ns,()),f,()))):=
 adv (F:=λT (j:Nat)=>iu T (ns,()) f (ns.length:Int) ↑j) (q:=okQ ns) (N:=ns.length)
  (out:=λj=>bif I (j<ns.length)then an ((2,(j:Int),()),())else aE (an ((ns,()),f,())))
  (p:=λT=>∀j∈a09 ns.length,jO T (ns,()) (j:Int)=J (Dg ns j,df)) (TQ hN) QM
  (λT j h hq=>by
   unfold okQ at hq;rw[aA,ae]at hq;show iu (S.step T) _ _ _ _=iu T (ns,()) f (ns.length:Int) ((j+1:Nat):Int)
   rw[vf,cU (by simp_all),h j (a03.2 hq.1),au,hq.2,dm (by rfl),dX (by omega)])
  (λT j h hq=>by
   show iu (S.step T) _ _ _ _=_;rw[vf]
   by_cases hj:j<ns.length
   ·unfold okQ at hq;simp_all[cU,a03,au,hq,ab]
   simp_all[dm,aa]) ns.length 0 (by omega)
omit hN hn in
theorem Aa (hb:¬ zE ns<ns.length)(j:Nat)(hj:j<ns.length):∀k∈cP ns[j],0<=k/\k<(j:Int):=by
 have hq:okQ ns j=true:=uJ ns.length 0 j (aX _) (by grind [zE]);unfold okQ Dg at hq;intro k hk
 have we:(cP ns[j]).all (inR j)=true:=by
  cases h:(cP ns[j]).all (inR j)with
  |true=>rfl
  |false=>
   unfold okN at hq;simp_all
 simp_all[aW,inR,aA,ae]
end
def dk (i:Nat):LI->LI->LI
 |[],d=>d
 |k::r,d=>dk i r (d.set k.toNat (aq.wrap (d.getD i 0+1)))
theorem La (i:Nat):∀(r d:LI),(dk i r d).length=d.length
 |[],d=>rfl
 |k::r,d=>by simp_all[dk,La]
def w7 (ns:List cR.den):Nat->LI->LI
 |0,d=>d
 |i+1,d=>w7 ns i (match ns[i]? with|some x=>dk i (cP x) d|none=>d)
theorem Js {ns:List cR.den}{i:Nat}(h:i<ns.length)(d:LI):w7 ns (i+1) d=w7 ns i (dk i (cP ns[i]) d):=by
 simp_all[w7,dk,cP,aJ]
theorem Q2 (t:Tr)(f:Fa)(i:Nat):∀(r pre d:LI),i<d.length->(∀k∈r,0<=k/\k<(d.length:Int))->(pre++r).length<=2097152->
  Evt λn=>nj (S.tab n) t f d ↑i (pre++r) ((pre++r).length:Int) (pre.length:Int)=J (an (t,f,dk i r d,(i:Int),()))
 |[],pre,d,hi,hk,hl=>dt.up λn _=>by
  rw[tU,dm (by simp)];rfl
 |k::r,pre,d,hi,hk,hl=>by
  have ih:=Q2 t f i r (pre++[k]) (d.set k.toNat (aq.wrap (d.getD i 0+1))) (by simp_all) (λc hc=>by simp_all) (by simp_all)
  refine ih.up λn h=> ?_
  have hlen:(pre++k::r).length=pre.length+(r.length+1):=(by simp);have hg:(pre++k::r).getD (pre.length:Int).toNat 0=k:=aj7 pre k r;have hd:(I ((0:Int)<=(i:Int))&&I ((i:Int)<(d.length:Int)))=true:=db hi
  have Xw:(I ((0:Int)<=k)&&I (k<(d.length:Int)))=true:=by simp_all
  rw[tU,cU (by grind),cU (db (by omega)),cU hd,hg,cU Xw,dX (by omega)];have e1:(pre++[k])++r=pre++k::r:=(by simp);have e2:(pre++[k]).length=pre.length+1:=(by simp);rw[e1,e2]at h;exact h
theorem Qg (t:Tr)(f:Fa)(i:Nat):∀(r pre d:LI),i<d.length->(∀k∈r,0<=k/\k<(d.length:Int))->(pre++r).length<=2097152->
  Evt λn=>nh (S.tab n) t f d ↑i (pre++r) ((pre++r).length:Int) (pre.length:Int)=J (an (t,f,dk i r d,(i:Int),()))
 |[],pre,d,hi,hk,hl=>dt.up λn _=>by
  rw[ue,dm (by simp)];rfl
 |k::r,pre,d,hi,hk,hl=>by
  have ih:=Qg t f i r (pre++[k]) (d.set k.toNat (aq.wrap (d.getD i 0+1))) (by simp_all) (λc hc=>by simp_all) (by simp_all)
  refine ih.up λn h=> ?_
  have hlen:(pre++k::r).length=pre.length+(r.length+1):=(by simp);have hg:(pre++k::r).getD (pre.length:Int).toNat 0=k:=aj7 pre k r;have hd:(I ((0:Int)<=(i:Int))&&I ((i:Int)<(d.length:Int)))=true:=db hi
  have Xw:(I ((0:Int)<=k)&&I (k<(d.length:Int)))=true:=by simp_all
  rw[ue,cU (by grind),cU (db (by omega)),cU hd,hg,cU Xw,dX (by omega)];have e1:(pre++[k])++r=pre++k::r:=(by simp);have e2:(pre++[k]).length=pre.length+1:=(by simp);rw[e1,e2]at h;exact h
section
variable{ns:List cR.den}(hN:∀x∈ns,NodeOk x)(hn:ns.length<=3000)(hb:¬ zE ns<ns.length)
include hN hn hb
theorem Qm (f:Fa):∀(i:Nat) (d:LI),i<=ns.length->d.length=ns.length->Evt λn=>mY (S.tab n) (ns,()) f d ((i:Int) - 1)=J (an (f,w7 ns i d,()))
 |0,d,hi,hd=>dt.up λn _=>by
  rw[tN,dm (by decide)];rfl
 |i+1,d,hi,hd=>by
  have s5:i<ns.length:=(by omega);have hx:=hN _ (bm s5);have hk:=Aa hb i s5;have Dq:=Q2 (ns,()) f i (cP ns[i]) [] d (by omega) (λk h=>by grind) (by have:=hx.nk;simp_all);have ih:=Qm f i (dk i (cP ns[i]) d) (by omega) (by simp_all[La])
  refine(Dq.and ih).up λn ⟨h,h2⟩=> ?_
  have e0:(((i+1:Nat):Int) - 1)=(i:Int):=(by omega);have IE:at_ (τ:=cR) ((ns,()):Tr).1 (i:Int)=ns[i]:=kX ns i s5;rw[e0,tN,cU (by rfl),cU (db s5),IE];show(nj (S.tab n) (ns,()) f d ↑i (cP ns[i]) ((cP ns[i]).length:Int) 0).bind _=_;simp[dB]
  grind [wrap64,Js]
theorem QV (f:Fa):∀(i:Nat) (d:LI),i<=ns.length->d.length=ns.length->Evt λn=>ng (S.tab n) (ns,()) f d ((i:Int) - 1)=J (an (f,w7 ns i d,()))
 |0,d,hi,hd=>dt.up λn _=>by
  rw[tW,dm (by decide)];rfl
 |i+1,d,hi,hd=>by
  have s5:i<ns.length:=(by omega);have hx:=hN _ (bm s5);have hk:=Aa hb i s5;have Dq:=Qg (ns,()) f i (cP ns[i]) [] d (by omega) (λk h=>by grind) (by have:=hx.nk;simp_all);have ih:=QV f i (dk i (cP ns[i]) d) (by omega) (by simp_all[La])
  refine(Dq.and ih).up λn ⟨h,h2⟩=> ?_
  have e0:(((i+1:Nat):Int) - 1)=(i:Int):=(by omega);have IE:at_ (τ:=cR) ((ns,()):Tr).1 (i:Int)=ns[i]:=kX ns i s5;rw[e0,tW,cU (by rfl),cU (db s5),IE];show(nh (S.tab n) (ns,()) f d ↑i (cP ns[i]) ((cP ns[i]).length:Int) 0).bind _=_;simp[dB]
  grind [wrap64,Js]
end
def sX (d:LI)(j:Nat):Bool:=I (j<d.length)&& !I ((100:Int)<get d j)
theorem JK {d:LI}:∀j,d.length<=j->sX d j=false:=λj h=>by simp_all[sX,aa]
theorem V5 (f:Fa)(d:LI)(hd:d.length<=3000):Evt λn=>iA (S.tab n) f d (d.length:Int) 0=J (bif I (stop (sX d) d.length 0<d.length)then an ((4,(stop (sX d) d.length 0:Int),()),())else aE (an (f,()))):=
 adv (F:=λT (j:Nat)=>iA T f d (d.length:Int) ↑j) (q:=sX d) (N:=d.length) (out:=λj=>bif I (j<d.length)then an ((4,(j:Int),()),())else aE (an (f,()))) (p:=Base2) dt JK
  (λT j h hq=>by
   unfold sX at hq;rw[aA,ae,cq,af]at hq;show iA (S.step T) _ _ _ _=iA T f d (d.length:Int) ((j+1:Nat):Int)
   rw[ui,cU (by simp_all),cU (db hq.1),dC,dm (aa hq.2),dX (by omega)])
  (λT j h hq=>by
   show iA (S.step T) _ _ _ _=_;rw[ui]
   by_cases hj:j<d.length
   ·unfold sX at hq
    grind [cU,db,dC,hq,ab]
   simp_all[dm,aa]) d.length 0 (by omega)
theorem WL (f:Fa)(d:LI)(hd:d.length<=3000):Evt λn=>iB (S.tab n) f d (d.length:Int) 0=J (bif I (stop (sX d) d.length 0<d.length)then an ((4,(stop (sX d) d.length 0:Int),()),())else aE (an (f,()))):=
 adv (F:=λT (j:Nat)=>iB T f d (d.length:Int) ↑j) (q:=sX d) (N:=d.length) (out:=λj=>bif I (j<d.length)then an ((4,(j:Int),()),())else aE (an (f,()))) (p:=Base2) dt JK
  (λT j h hq=>by
   unfold sX at hq;rw[aA,ae,cq,af]at hq;show iB (S.step T) _ _ _ _=iB T f d (d.length:Int) ((j+1:Nat):Int)
   rw[tM,cU (by simp_all),cU (db hq.1),dC,dm (aa hq.2),dX (by omega)])
  (λT j h hq=>by
   show iB (S.step T) _ _ _ _=_;rw[tM]
   by_cases hj:j<d.length
   ·unfold sX at hq
    grind [cU,db,dC,hq,ab]
   simp_all[dm,aa]) d.length 0 (by omega)
theorem HJ (ns:List cR.den):∀(i:Nat) (d:LI),(w7 ns i d).length=d.length
 |0,d=>rfl
 |i+1,d=>by
  unfold w7;rw[HJ];split
  ·exact La ..
  ·rfl
end Go.Abs.D
end

section
namespace Go.Abs.D
theorem pM (l:LI)(i j:Nat)(v:Int)(h:i<l.length):get (l.set i v) j=if j=i then v else get l j:=by
 unfold get
 grind
def kK (st kids:LI):Nat->Int->Option Int
 |0,a=>J a
 |m+1,a=>bif I (get kids m=a - 1)then kK st kids m (get st (get kids m).toNat)else ay
def tp (sz kids:LI):Nat->Int->Int×Bool
 |0,a=>(a,av)
 |m+1,a=>bif I (get kids m=a - 1)&& !I (get sz (get kids m).toNat=0)then tp sz kids m (a - get sz (get kids m).toNat)else(a,ar)
theorem QJ (t:Tr)(f:Fa)(z:Int)(st:LI)(i:Int)(x:cR.den)(l:List cR.den)(u v:Int)(hk:∀k∈cP x,0<=k/\k<(st.length:Int))(hs:∀j,0<=get st j/\get st j<=3000)(hl:(cP x).length<=2097152):
  ∀(m:Nat) (a:Int),m<=(cP x).length->0<=a->a<=3000->Evt λn=>ly (S.tab n) t f z st i x a ((m:Int) - 1) l u v=J (match kK st (cP x) m a with|none=>an ((3,i,()),())|some a=>aE (an (t,f,z,st,i,a,l,u,v,())))
 |0,a,hm,h0,h1=>dt.up λn _=>by
  rw[pP,dm (by decide)];rfl
 |m+1,a,hm,h0,h1=>by
  have PY:m<(cP x).length:=(by omega);have rL:(I ((0:Int)<=(m:Int))&&I ((m:Int)<(x.2.2.2.2.2.2.2.2.1.length:Int)))=true:=db PY;have hg:x.2.2.2.2.2.2.2.2.1.getD (m:Int).toNat 0=get (cP x) m:=rfl;have aS5:get (cP x) m=(cP x)[m]:=uR PY;have e0:((m+1:Nat):Int) - 1=(m:Int):=(by omega);have wa:aq.wrap (a - 1)=a - 1:=wrap64 _ (by omega) (by omega);have wm:aq.wrap ((m:Int) - 1)=(m:Int) - 1:=wrap64 _ (by omega) (by omega)
  by_cases hc:get (cP x) m=a - 1
  ·have at7:=hs (get (cP x) m).toNat
   have Xw:(I ((0:Int)<=get (cP x) m)&&I (get (cP x) m<(st.length:Int)))=true:=by simp_all
   refine(QJ t f z st i x l u v hk hs hl m (get st (get (cP x) m).toNat) (by omega) at7.1 at7.2).up λn h=> ?_
   rw[e0,pP,cU (by rfl),cU rL,hg,wa,dm (by simp_all),cU rL,cU Xw,wm]
   grind [kK,cP,get,decide,ab]
  ·refine dt.up λn _=> ?_
   rw[e0,pP,cU (by rfl),cU rL,hg,wa,cU (by simp_all)]
   grind [kK,cP,decide,get,aa]
theorem Ue (sz:LI)(i:Int)(x:cR.den)(l:List cR.den)(u v:Int)(hk:∀k∈cP x,0<=k/\k<(sz.length:Int))(hs:∀j,0<=get sz j/\get sz j<=3000)(hl:(cP x).length<=200):
  ∀(m:Nat) (a:Int),m<=(cP x).length->3000*(m:Int)<=a+1000000->a<=3000->Evt λn=>lq (S.tab n) sz i x a av ((m:Int) - 1) l u v=J (an (sz,i,(tp sz (cP x) m a).1,(tp sz (cP x) m a).2,l,u,v,()))
 |0,a,hm,h0,h1=>dt.up λn _=>by
  rw[mR,dm (by decide)];rfl
 |m+1,a,hm,h0,h1=>by
  have PY:m<(cP x).length:=(by omega);have rL:(I ((0:Int)<=(m:Int))&&I ((m:Int)<(x.2.2.2.2.2.2.2.2.1.length:Int)))=true:=db PY;have hg:x.2.2.2.2.2.2.2.2.1.getD (m:Int).toNat 0=get (cP x) m:=rfl;have aS5:get (cP x) m=(cP x)[m]:=uR PY;have e0:((m+1:Nat):Int) - 1=(m:Int):=(by omega);have wa:aq.wrap (a - 1)=a - 1:=wrap64 _ (by omega) (by omega);have wm:aq.wrap ((m:Int) - 1)=(m:Int) - 1:=wrap64 _ (by omega) (by omega)
  have pH:tp sz (cP x) (m+1) a=bif I (get (cP x) m=a - 1)&& !I (get sz (get (cP x) m).toNat=0)then tp sz (cP x) m (a - get sz (get (cP x) m).toNat)else(a,ar):=rfl
  by_cases hc:get (cP x) m=a - 1
  ·have at7:=hs (get (cP x) m).toNat
   have Xw:(I ((0:Int)<=get (cP x) m)&&I (get (cP x) m<(sz.length:Int)))=true:=by simp_all
   have aM1:sz.getD (get (cP x) m).toNat 0=get sz (get (cP x) m).toNat:=rfl
   by_cases hz:get sz (get (cP x) m).toNat=0
   ·refine dt.up λn _=> ?_
    rw[e0,mR,cU (by rfl),cU rL,hg,wa,dm (by simp_all),cU Xw,aM1,dA hz,pH,ab hz,Bool.not_true,aQ];rfl
   ·have wz:aq.wrap (a - get sz (get (cP x) m).toNat)=a - get sz (get (cP x) m).toNat:=wrap64 _ (by omega) (by omega)
    refine(Ue sz i x l u v hk hs hl m (a - get sz (get (cP x) m).toNat) (by omega) (by omega) (by omega)).up λn h=> ?_
    rw[e0,mR,cU (by rfl),cU rL,hg,wa,dm (by simp_all),cU Xw,aM1,da hz,cU Xw,wz,wm,pH,ab hc,aa hz];exact h
  ·refine dt.up λn _=> ?_
   simp_all[mR,cU,ae,aa]
def dO (ns:List cR.den)(i:Nat):LI:=match ns[i]? with|some x=>cP x|none=>[]
theorem qb {ns:List cR.den}{i:Nat}(h:i<ns.length):dO ns i=cP ns[i]:=by simp_all[dO,aJ]
def imS (ns:List cR.den):Nat->LI->Nat⊕Unit
 |0,_=> .inr ()
 |r+1,st=>match kK st (dO ns (ns.length - (r+1))) (dO ns (ns.length - (r+1))).length ((ns.length - (r+1):Nat):Int)with
  |none=> .inl (ns.length - (r+1))
  |some a=>bif I (r=0)&& !I (a=0)then .inl (ns.length - (r+1))else imS ns r (st.set (ns.length - (r+1)) a)
def szS (ns:List cR.den):Nat->LI->LI
 |0,sz=>sz
 |r+1,sz=>szS ns r (bif(tp sz (dO ns (ns.length - (r+1))) (dO ns (ns.length - (r+1))).length ((ns.length - (r+1):Nat):Int)).2 then sz.set (ns.length - (r+1)) (((ns.length - (r+1):Nat):Int) - (tp sz (dO ns (ns.length - (r+1))) (dO ns (ns.length - (r+1))).length ((ns.length - (r+1):Nat):Int)).1+1)else sz)
def zq (sz:LI)(j:Nat):Bool:=I (j<sz.length)&& !I (get sz j=0)
def NZ (sz:LI):Nat⊕Unit:=
 bif I (stop (zq sz) sz.length 0<sz.length)then .inl (stop (zq sz) sz.length 0)else bif !I (get sz (sz.length - 1)=(sz.length:Int))then .inl (sz.length - 1)else .inr ()
theorem H8 {sz:LI}:∀j,sz.length<=j->zq sz j=false:=λj h=>by simp_all[zq,aa]
structure RelN (n i:Nat)(st sz:LI):Prop where
 l1:st.length=n
 l2:sz.length=n
 lo:∀j,j<i->get sz j=(j:Int) - get st j+1/\0<=get st j/\get st j<=(j:Int)
 hi:∀j,i<=j->get sz j=0/\get st j=0
theorem HO {n i:Nat}{st sz kids:LI}(R:RelN n i st sz):∀(m:Nat) (a:Int),0<=a->a<=(i:Int)->(∀j,j<m->0<=get kids j/\get kids j<(i:Int))->
  (∀b,kK st kids m a=J b->tp sz kids m a=(b,av)/\0<=b/\b<=(i:Int))/\(kK st kids m a=ay->(tp sz kids m a).2=ar)
 |0,a,h0,h1,hk=>⟨λb h=>by injection h with h;subst h;exact⟨rfl,h0,h1⟩,λh=>by cases h⟩
 |m+1,a,h0,h1,hk=>by
  obtain⟨k0,k1⟩:=hk m (by omega);unfold kK tp
  by_cases hc:get kids m=a - 1
  ·obtain⟨e1,e2,e3⟩:=R.lo (get kids m).toNat (by omega);have hz:¬ get sz (get kids m).toNat=0:=(by omega);have ea:a - get sz (get kids m).toNat=get st (get kids m).toNat:=(by omega);rw[ab hc,aa hz];rw[ea]
   exact HO R m _ e2 (by omega) λj hj=>hk j (by omega)
  simp_all
theorem K6 (ns:List cR.den):∀(r:Nat) (sz:LI),(szS ns r sz).length=sz.length
 |0,sz=>rfl
 |r+1,sz=>by
  unfold szS;rw[K6];cases(tp sz (dO ns (ns.length - (r+1))) (dO ns (ns.length - (r+1))).length ((ns.length - (r+1):Nat):Int)).2<;>simp
theorem QC (ns:List cR.den):∀(r:Nat) (sz:LI) (j:Nat),r<=ns.length->sz.length=ns.length->j<ns.length - r->get (szS ns r sz) j=get sz j
 |0,sz,j,_,_,_=>rfl
 |r+1,sz,j,hr,hl,hj=>by
  unfold szS
  rw[QC ns r _ j (by omega) (by
   grind) (by omega)]
  cases(tp sz (dO ns (ns.length - (r+1))) (dO ns (ns.length - (r+1))).length ((ns.length - (r+1):Nat):Int)).2 with
  |false=>rfl
  |true=>
   simp;rw[pM _ _ _ _ (by omega),aj (by omega)]
theorem KW {q:Nat->Bool}{N m:Nat}(hN:∀j,N<=j->q j=ar)(h1:∀j,j<m->q j=av)(h2:q m=ar):stop q N 0=m:=by
 have a:=zn (q:=q) hN N 0 (by omega)
 have b:¬ stop q N 0<m:=λh=>by simp_all
 have c:¬ m<stop q N 0:=λh=>by
  have:=uJ N 0 m (aX _) h;simp_all
 omega
theorem YX (ns:List cR.den)(hk:∀i,i<ns.length->∀j,j<(dO ns i).length->0<=get (dO ns i) j/\get (dO ns i) j<(i:Int)):∀(r:Nat) (st sz:LI),r+1<=ns.length->RelN ns.length (ns.length - (r+1)) st sz->imS ns (r+1) st=NZ (szS ns (r+1) sz):=by
 intro r
 induction r with
 |zero=>
  intro st sz hr R;have hS:=HO R (dO ns (ns.length - 1)).length ((ns.length - 1:Nat):Int) (by omega) (bF _) (hk (ns.length - 1) (by omega));show(match kK st (dO ns (ns.length - 1)) (dO ns (ns.length - 1)).length ((ns.length - 1:Nat):Int)with|none=>_|some a=>_)=NZ (bif(tp sz (dO ns (ns.length - 1)) (dO ns (ns.length - 1)).length ((ns.length - 1:Nat):Int)).2 then sz.set (ns.length - 1) (((ns.length - 1:Nat):Int) - (tp sz (dO ns (ns.length - 1)) (dO ns (ns.length - 1)).length ((ns.length - 1:Nat):Int)).1+1)else sz)
  cases hc:kK st (dO ns (ns.length - 1)) (dO ns (ns.length - 1)).length ((ns.length - 1:Nat):Int)with
  |none=>
   rw[hS.2 hc,ah]
   have pH:stop (zq sz) sz.length 0=ns.length - 1:=KW H8 (λj hj=>by
    unfold zq;have:=R.lo j hj
    rw[ab (by have:=R.l2;omega),aa (by omega)];rfl) (by
    unfold zq
    rw[ab (R.hi _ (aC _)).1];simp)
   unfold NZ;rw[pH,ab (show ns.length - 1<sz.length by have:=R.l2;omega)];rfl
  |some a=>
   obtain⟨e,a0,a1⟩:=hS.1 a hc;rw[e];simp only[ai];have pb:=R.l2
   have hlen:(sz.set (ns.length - 1) (((ns.length - 1:Nat):Int) - a+1)).length=ns.length:=by simp_all
   have pH:stop (zq (sz.set (ns.length - 1) (((ns.length - 1:Nat):Int) - a+1))) ns.length 0=ns.length:=KW (λj hj=>H8 j (by omega)) (λj hj=>by
    unfold zq;rw[pM _ _ _ _ (by omega),ab (by omega)]
    by_cases ao9:j=ns.length - 1
    ·grind
    ·have:=R.lo j (by omega)
     grind) (H8 _ (by omega))
   unfold NZ;rw[hlen,pH,aa (Nat.lt_irrefl _),ah,pM _ _ _ _ (by omega),ak rfl];show(bif I (0=0)&& !I (a=0)then an (ns.length - 1)else aE ())=_
   grind
 |succ r ih=>
  intro st sz hr R;have hS:=HO R (dO ns (ns.length - (r+1+1))).length ((ns.length - (r+1+1):Nat):Int) (by omega) (bF _) (hk (ns.length - (r+1+1)) (by omega));have nJ:=R.l1;have pb:=R.l2;show(match kK st (dO ns (ns.length - (r+1+1))) (dO ns (ns.length - (r+1+1))).length ((ns.length - (r+1+1):Nat):Int)with|none=>_|some a=>_)=NZ (szS ns (r+1) (bif(tp sz (dO ns (ns.length - (r+1+1))) (dO ns (ns.length - (r+1+1))).length ((ns.length - (r+1+1):Nat):Int)).2 then sz.set (ns.length - (r+1+1)) (((ns.length - (r+1+1):Nat):Int) - (tp sz (dO ns (ns.length - (r+1+1))) (dO ns (ns.length - (r+1+1))).length ((ns.length - (r+1+1):Nat):Int)).1+1)else sz))
  cases hc:kK st (dO ns (ns.length - (r+1+1))) (dO ns (ns.length - (r+1+1))).length ((ns.length - (r+1+1):Nat):Int)with
  |none=>
   rw[hS.2 hc,ah]
   have hlen:(szS ns (r+1) sz).length=ns.length:=by simp_all[K6]
   have XN:=λj hj=>QC ns (r+1) sz j (by omega) pb hj
   have pH:stop (zq (szS ns (r+1) sz)) ns.length 0=ns.length - (r+1+1):=KW (λj hj=>H8 j (by omega)) (λj hj=>by
    unfold zq;have:=R.lo j hj
    grind [ab,aa]) (by
    unfold zq
    rw[XN _ (by omega),ab (R.hi _ (aC _)).1];simp)
   grind [NZ,ab]
  |some a=>
   obtain⟨e,a0,a1⟩:=hS.1 a hc;rw[e];simp only[ai];show(bif I (r+1=0)&& !I (a=0)then _ else imS ns (r+1) (st.set (ns.length - (r+1+1)) a))=_;refine ih _ _ (by omega) ⟨by simp_all,by simp_all,λj hj=> ?_,λj hj=> ?_⟩
   ·rw[pM _ _ _ _ (by omega),pM _ _ _ _ (by omega)]
    by_cases hji:j=ns.length - (r+1+1)
    ·rw[ak hji,ak hji];subst hji;exact⟨rfl,a0,a1⟩
    ·rw[aj hji,aj hji];exact R.lo j (by omega)
   ·rw[pM _ _ _ _ (by omega),pM _ _ _ _ (by omega),aj (by omega),aj (by omega)];exact R.hi j (by omega)
end Go.Abs.D
end

section
namespace Go.Abs.D
theorem MY {st kids:LI}(hs:∀j,0<=get st j/\get st j<=3000):∀(m:Nat) (a b:Int),0<=a->a<=3000->kK st kids m a=J b->0<=b/\b<=3000
 |0,a,b,h0,h1,h=>by injection h with h;omega
 |m+1,a,b,h0,h1,h=>by
  unfold kK at h
  cases hc:I (get kids m=a - 1)with
  |true=>
   rw[hc]at h;exact MY hs m _ b (hs _).1 (hs _).2 h
  |false=>simp_all
theorem QB {sz kids:LI}(hs:∀j:Nat,0<=get sz j/\get sz j<=(j:Int)+1):∀(m:Nat) (a:Int),0<=a->(∀j,j<m->0<=get kids j)->0<=(tp sz kids m a).1/\(tp sz kids m a).1<=a
 |0,a,h0,_=>⟨h0,bF _⟩
 |m+1,a,h0,hk=>by
  unfold tp
  by_cases hc:get kids m=a - 1
  ·have at7:=hs (get kids m).toNat;have k0:=hk m (by omega)
   cases hz:I (get sz (get kids m).toNat=0)with
   |true=>simp_all
   |false=>
    have:=QB hs m (a - get sz (get kids m).toNat) (by omega) λj hj=>hk j (by omega)
    grind
  simp_all
section
variable{ns:List cR.den}(hN:∀x∈ns,NodeOk x)(hn:ns.length<=3000)(hb:¬ zE ns<ns.length)
include hN hn hb
omit hN hn in
theorem JQ (i:Nat)(hi:i<ns.length):∀j,j<(dO ns i).length->0<=get (dO ns i) j/\get (dO ns i) j<(i:Int):=by
 intro j hj;rw[qb hi]at hj⊢;have:=Aa hb i hi _ (bm hj)
 grind [get,cP,uR]
theorem QQ (f:Fa):∀(r:Nat) (st:LI),r<=ns.length->st.length=ns.length->(∀j,0<=get st j/\get st j<=3000)->
    Evt λn=>fP (S.tab n) (ns,()) f (ns.length:Int) st ns (ns.length:Int) ((ns.length - r:Nat):Int)=J (match imS ns r st with| .inl j=>an ((3,(j:Int),()),())| .inr _=>aE (an ((ns,()),f,(ns.length:Int),())))
  |0,st,hr,hl,hs=>dt.up λn _=>by
    rw[tV,dm (by simp)];rfl
  |r+1,st,hr,hl,hs=>by
    have hi:ns.length - (r+1)<ns.length:=(by omega)
    generalize hii:ns.length - (r+1)=i at hi
    have hx:=hN _ (bm hi);have as7:=qb hi;have Aj:=QJ (ns,()) f (ns.length:Int) st ↑i ns[i] ns (ns.length:Int) ↑i (λk h=>by have:=Aa hb i hi k h;omega) hs hx.nk (cP ns[i]).length ↑i (aC _) (by omega) (by omega);have IE:at_ (τ:=cR) ns (i:Int)=ns[i]:=kX ns i hi;have wk:aq.wrap (((cP ns[i]).length:Int) - 1)=((cP ns[i]).length:Int) - 1:=wrap64 _ (by omega) (by have:=hx.nk;omega)
    have start:∀n,fP (S.step (S.tab n)) (ns,()) f (ns.length:Int) st ns (ns.length:Int) (i:Int)=(ly (S.tab n) (ns,()) f (ns.length:Int) st ↑i ns[i] (i:Int) (((cP ns[i]).length:Int) - 1) ns (ns.length:Int) ↑i).bind (dM (λmq=>J (an mq)) (λmq=>brk (I ((0:Int)<=mq.2.2.2.2.1)&&I (mq.2.2.2.2.1<(mq.2.2.2.1.length:Int))) (
   brk (I (mq.2.2.2.2.1=aq.wrap (mq.2.2.1 - (1:Int)))) (
    brk (!I (mq.2.2.2.2.2.1=(0:Int))) (
     J (an (((3:Int),mq.2.2.2.2.1,()),()))) (
     fP (S.tab n) mq.1 mq.2.1 mq.2.2.1 (mq.2.2.2.1.set mq.2.2.2.2.1.toNat mq.2.2.2.2.2.1) mq.2.2.2.2.2.2.1 mq.2.2.2.2.2.2.2.1 (aq.wrap (mq.2.2.2.2.2.2.2.2.1+(1:Int))))) (
    fP (S.tab n) mq.1 mq.2.1 mq.2.2.1 (mq.2.2.2.1.set mq.2.2.2.2.1.toNat mq.2.2.2.2.2.1) mq.2.2.2.2.2.2.1 mq.2.2.2.2.2.2.2.1 (aq.wrap (mq.2.2.2.2.2.2.2.2.1+(1:Int))))) ay)):=λn=>by
      rw[tV,cU (by simp_all),cU (db hi),IE];simp_all[ly,cP,bind]
    have aM2:imS ns (r+1) st=match kK st (dO ns i) (dO ns i).length ↑i with
      |none=> .inl i
      |some a=>bif I (r=0)&& !I (a=0)then .inl i else imS ns r (st.set i a):=by
      show(match kK st (dO ns (ns.length - (r+1))) (dO ns (ns.length - (r+1))).length ((ns.length - (r+1):Nat):Int)with|none=>_|some a=>_)=_
      grind
    rw[aM2,as7]
    cases hc:kK st (cP ns[i]) (cP ns[i]).length ↑i with
    |none=>
      rw[hc]at Aj
      refine Aj.up λn h=> ?_
      rw[start,h];rfl
    |some a=>
      rw[hc]at Aj;obtain⟨a0,a1⟩:=MY hs _ _ _ (by omega) (by omega) hc
      have ih:=QQ f r (st.set i a) (by omega) (by rw[cA];exact hl) (λj=>by
        rw[pM _ _ _ _ (by omega)];split
        · exact⟨a0,a1⟩
        · exact hs j)
      have ei:ns.length - r=i+1:=(by omega);rw[ei]at ih
      refine(Aj.and ih).up λn ⟨h,ih⟩=> ?_
      have w1:aq.wrap ((ns.length:Int) - 1)=(ns.length:Int) - 1:=wrap64 _ (by omega) (by omega);have rL:(I ((0:Int)<=(i:Int))&&I ((i:Int)<(st.length:Int)))=true:=db (by omega);rw[start,h];simp only[au,dM,aT,aO,bq];rw[cU rL,w1,dX (by omega)]
      by_cases aa2:r=0
      · rw[dA (by omega),ab aa2]
        by_cases ha:a=0
        · rw[dm (by rw[ab ha];rfl),ab ha]
          exact ih
        · rw[cU (by rw[aa ha];rfl),aa ha];rfl
      · rw[da (by omega),aa aa2,a47,ah]
        exact ih
theorem Pv:∀(r:Nat) (sz:LI),r<=ns.length->sz.length=ns.length->(∀j:Nat,0<=get sz j/\get sz j<=(j:Int)+1)->
  Evt λn=>gN (S.tab n) sz ns (ns.length:Int) ((ns.length - r:Nat):Int)=J (an (szS ns r sz,()))
 |0,sz,hr,hl,hs=>dt.up λn _=>by
  rw[ug,dm (by simp)];rfl
 |r+1,sz,hr,hl,hs=>by
  have hi:ns.length - (r+1)<ns.length:=(by omega)
  generalize hii:ns.length - (r+1)=i at hi
  have as7:=qb hi;have aN7:=JQ hb i hi;rw[as7]at aN7
  have aU7:∀j,0<=get sz j/\get sz j<=3000:=λj=>by
   grind [bG,ke]
  have aQ3:(cP ns[i]).length<=200:=by
   have hq:okQ ns i=true:=uJ ns.length 0 i (aX _) (by grind [zE]);unfold okQ Dg at hq
   rcases bG 200 (cP ns[i]).length with h|h
   ·unfold okN at hq;simp_all
   omega
  have h8:=Ue sz ↑i ns[i] ns (ns.length:Int) ↑i (λk h=>by have:=Aa hb i hi k h;omega) aU7 aQ3 (cP ns[i]).length ↑i (aC _) (by omega) (by omega);have IE:at_ (τ:=cR) ns (i:Int)=ns[i]:=kX ns i hi;have wk:aq.wrap (((cP ns[i]).length:Int) - 1)=((cP ns[i]).length:Int) - 1:=wrap64 _ (by omega) (by omega);obtain⟨y0,y1⟩:=QB (kids:=cP ns[i]) hs (cP ns[i]).length ↑i (by omega) (λj hj=>(aN7 j hj).1)
  have po:szS ns (r+1) sz=szS ns r (bif(tp sz (cP ns[i]) (cP ns[i]).length ↑i).2 then sz.set i ((i:Int) - (tp sz (cP ns[i]) (cP ns[i]).length ↑i).1+1)else sz):=by
   show szS ns r (bif(tp sz (dO ns (ns.length - (r+1))) (dO ns (ns.length - (r+1))).length ((ns.length - (r+1):Nat):Int)).2 then sz.set (ns.length - (r+1)) (((ns.length - (r+1):Nat):Int) - (tp sz (dO ns (ns.length - (r+1))) (dO ns (ns.length - (r+1))).length ((ns.length - (r+1):Nat):Int)).1+1)else sz)=_;rw[hii,as7]
  rw[po]
  generalize hy:tp sz (cP ns[i]) (cP ns[i]).length (i:Int)=y at h8 y0 y1
  obtain⟨b,ok⟩:=y;simp at y0 y1 h8;have ei:ns.length - r=i+1:=(by omega)
  have start:∀n,lq (S.tab n) sz ↑i ns[i] (i:Int) av (((cP ns[i]).length:Int) - 1) ns (ns.length:Int) (i:Int)=J (an (sz,(i:Int),b,ok,ns,(ns.length:Int),(i:Int),()))->gN (S.step (S.tab n)) sz ns (ns.length:Int) (i:Int)=brk ok (brk (I ((0:Int)<=(i:Int))&&I ((i:Int)<(sz.length:Int))) (gN (S.tab n) (sz.set i (aq.wrap ((aq.wrap ((i:Int) - b))+(1:Int)))) ns (ns.length:Int) (aq.wrap ((i:Int)+(1:Int)))) ay) (gN (S.tab n) sz ns (ns.length:Int) (aq.wrap ((i:Int)+(1:Int)))):=λn h=>by
   rw[ug,cU (by simp;omega),cU (db hi),IE];show(lq (S.tab n) sz ↑i ns[i] (i:Int) av (aq.wrap (((cP ns[i]).length:Int) - 1)) ns (ns.length:Int) ↑i).bind _=_;rw[wk,h];rfl
  cases ok with
  |true=>
   have ih:=Pv r (sz.set i ((i:Int) - b+1)) (by omega) (by rw[cA];exact hl) (λj=>by
    rw[pM _ _ _ _ (by omega)];split
    ·rename_i e;subst e;omega
    ·exact hs j)
   rw[ei]at ih
   refine(h8.and ih).up λn ⟨h,ih⟩=> ?_
   have rL:(I ((0:Int)<=(i:Int))&&I ((i:Int)<(sz.length:Int)))=true:=db (by omega);rw[start n h,gj,cU rL,wrap64 ((i:Int) - b) (by omega) (by omega),wrap64 ((i:Int) - b+1) (by omega) (by omega),dX (by omega)];exact ih
  |false=>
   have ih:=Pv r sz (by omega) hl hs;rw[ei]at ih
   refine(h8.and ih).up λn ⟨h,ih⟩=> ?_
   rw[start n h,fA,dX (by omega)];exact ih
end
theorem FT (n j:Nat):get (aM n (0:Int)) j=0:=by
 grind [get]
theorem Wm (t:Tr)(f:Fa)(sz:LI)(hl:sz.length<=3000):Evt λn=>gg (S.tab n) t f sz sz (sz.length:Int) 0=J (bif I (stop (zq sz) sz.length 0<sz.length)then an ((3,(stop (zq sz) sz.length 0:Int),()),())else aE (an (t,f,sz,()))):=
 adv (F:=λT (j:Nat)=>gg T t f sz sz (sz.length:Int) ↑j) (q:=zq sz) (N:=sz.length) (out:=λj=>bif I (j<sz.length)then an ((3,(j:Int),()),())else aE (an (t,f,sz,()))) (p:=Base2) dt H8
  (λT j h hq=>by
   unfold zq at hq;rw[aA,ae,cq,af]at hq;show gg (S.step T) _ _ _ _ _ _=gg T t f sz sz (sz.length:Int) ((j+1:Nat):Int)
   rw[uk,cU (by simp_all),cU (db hq.1),dC,dm (aa hq.2),dX (by omega)])
  (λT j h hq=>by
   show gg (S.step T) _ _ _ _ _ _=_;rw[uk]
   by_cases hj:j<sz.length
   ·unfold zq at hq
    grind [cU,db,dC,hq,ab]
   simp_all[dm,aa]) sz.length 0 (by omega)
def kg (ns:List cR.den):Fa:=
 bif I (ns.length=0)then(1,0,())else
 bif I (3000<ns.length)then(1,0,())else
 bif !I (ld ns ((ns.length - 1:Nat):Int)=1)then(1,0,())else
 bif I (zE ns<ns.length)then(2,(zE ns:Int),())else
 match imS ns ns.length (aM ns.length 0)with
 | .inl j=>(3,(j:Int),())
 | .inr _=>bif I (stop (sX (w7 ns ns.length (aM ns.length 0))) ns.length 0<ns.length)then(4,(stop (sX (w7 ns ns.length (aM ns.length 0))) ns.length 0:Int),())else(0,0,())
section
variable{ns:List cR.den}(hN:∀x∈ns,NodeOk x)
include hN
theorem Gy:Evt λn=>pZ (S.tab n) (ns,())=J (kg ns,dw):=by
 unfold kg
 by_cases c0:ns.length=0
 ·refine dt.up λn _=> ?_
  grind [decide,ab,uD,cU]
 have d0:I ((((ns,()):Tr).1.length:Int)=0)=false:=aa (by simp_all);rw[aa c0]
 by_cases c1:3000<ns.length
 ·refine dt.up λn _=> ?_
  grind [decide,ab,uD,dm,cU]
 have hn:ns.length<=3000:=(by omega);have d1:I ((3000:Int)<(((ns,()):Tr).1.length:Int))=false:=aa (by show¬ (3000:Int)<(ns.length:Int);omega);rw[aa c1]
 have wn:aq.wrap ((((ns,()):Tr).1.length:Int) - 1)=((ns.length - 1:Nat):Int):=by
  show aq.wrap ((ns.length:Int) - 1)=_;rw[wrap64 _ (by omega) (by omega)];omega
 have rL:(I ((0:Int)<=((ns.length - 1:Nat):Int))&&I (((ns.length - 1:Nat):Int)<(((ns,()):Tr).1.length:Int)))=true:=db (show ns.length - 1<ns.length by omega)
 have start:∀n,pZ (S.step (S.tab n)) (ns,())=_:=λn=>by
  rw[uD,dm d0,dm d1,wn,cU rL]
 by_cases c2:¬ ld ns ((ns.length - 1:Nat):Int)=1
 ·refine dt.up λn _=> ?_
  rw[start,cU (by
   show(!I (ld ns ((ns.length - 1:Nat):Int)=1))=av
   rw[aa c2];rfl),aa c2];rfl
 replace c2:=bP.1 c2
 rw[ab c2]
 have step2:∀n,pZ (S.step (S.tab n)) (ns,())=_:=λn=>by
  rw[start,dm (by
   show(!I (ld ns ((ns.length - 1:Nat):Int)=1))=ar
   rw[ab c2];rfl)]
 have h5:=Zd hN hn (ns.length:Int) (0,0,())
 by_cases c3:zE ns<ns.length
 ·refine h5.up λn h=> ?_
  rw[ab c3]at h;rw[step2,ab c3];show(ix (S.tab n) (ns,()) (0,0,()) (ns.length:Int) (ns.length:Int) 0).bind _=_;rw[h];rfl
 rw[aa c3]at h5⊢;have uZ:=QQ hN hn c3 (0,0,()) ns.length (aM ns.length 0) (aC _) (by simp) (λj=>by rw[FT];omega);rw[Nat.sub_self]at uZ
 have Ob:(I ((0:Int)<=(ns.length:Int))&&I ((ns.length:Int)<=(ns.length:Int))&&I ((ns.length:Int)<=(lim:Int)))=true:=by
  rw[ab (show(0:Int)<=(ns.length:Int)by omega),ab (show(ns.length:Int)<=(ns.length:Int)by omega),ab (show(ns.length:Int)<=(lim:Int)by unfold lim;omega)];rfl
 have ya:∀n,ix (S.tab n) (ns,()) (0,0,()) (((ns,()):Tr).1.length:Int) (((ns,()):Tr).1.length:Int) 0=J (aE (an ((ns,()),(0,0,()),(ns.length:Int),())))->pZ (S.step (S.tab n)) (ns,())=_:=λn h=>by
  rw[step2,h,au]
 simp
 cases hc:imS ns ns.length (aM ns.length 0)with
 |inl j=>
  rw[hc]at uZ
  refine(h5.and uZ).up λn ⟨h,h'⟩=> ?_
  rw[ya n h];show brk (I ((0:Int)<=(ns.length:Int))&&I ((ns.length:Int)<=(ns.length:Int))&&I ((ns.length:Int)<=(lim:Int))) ((fP (S.tab n) (ns,()) (0,0,()) (ns.length:Int) (aM ns.length 0) ns (ns.length:Int) 0).bind _) _=_;have h':fP (S.tab n) (ns,()) (0,0,()) (ns.length:Int) (aM ns.length 0) ns (ns.length:Int) 0=_:=h';rw[cU Ob,h'];rfl
 |inr u=>
  rw[hc]at uZ;have Vr:=Qm hN hn c3 (0,0,()) ns.length (aM ns.length 0) (aC _) (by simp)
  have ZY:(w7 ns ns.length (aM ns.length 0)).length=ns.length:=by rw[HJ];simp
  have Qb:=V5 (0,0,()) (w7 ns ns.length (aM ns.length 0)) (by omega);rw[ZY]at Qb
  refine((h5.and uZ).and (Vr.and Qb)).up λn ⟨⟨h,h'⟩,Vr,Qb⟩=> ?_
  rw[ya n h];show brk (I ((0:Int)<=(ns.length:Int))&&I ((ns.length:Int)<=(ns.length:Int))&&I ((ns.length:Int)<=(lim:Int))) ((fP (S.tab n) (ns,()) (0,0,()) (ns.length:Int) (aM ns.length 0) ns (ns.length:Int) 0).bind _) _=_;have h':fP (S.tab n) (ns,()) (0,0,()) (ns.length:Int) (aM ns.length 0) ns (ns.length:Int) 0=_:=h';rw[cU Ob,h',au];show brk (I ((0:Int)<=(ns.length:Int))&&I ((ns.length:Int)<=(ns.length:Int))&&I ((ns.length:Int)<=(lim:Int))) ((mY (S.tab n) (ns,()) (0,0,()) (aM ns.length 0) (aq.wrap ((ns.length:Int) - 1))).bind _) _=_;rw[cU Ob,wrap64 _ (by omega) (by omega),Vr,au];show(iA (S.tab n) (0,0,()) (w7 ns ns.length (aM ns.length 0)) ((w7 ns ns.length (aM ns.length 0)).length:Int) 0).bind _=_;rw[ZY,Qb,au];cases I (stop (sX (w7 ns ns.length (aM ns.length 0))) ns.length 0<ns.length)<;>rfl
theorem qn:Evt λn=>jZ (S.tab n) (ns,())=J (kg ns,dw):=by
 unfold kg
 by_cases c0:ns.length=0
 ·refine dt.up λn _=> ?_
  have d:I ((((ns,()):Tr).1.length:Int)=0)=true:=ab (by show(ns.length:Int)=0;omega);rw[uC,cU d,ab c0];rfl
 have d0:I ((((ns,()):Tr).1.length:Int)=0)=false:=aa (by show¬ (ns.length:Int)=0;omega);rw[aa c0]
 by_cases c1:3000<ns.length
 ·refine dt.up λn _=> ?_
  have d:I ((3000:Int)<(((ns,()):Tr).1.length:Int))=true:=ab (by show(3000:Int)<(ns.length:Int);omega);rw[uC,dm d0,cU d,ab c1];rfl
 have hn:ns.length<=3000:=(by omega);have d1:I ((3000:Int)<(((ns,()):Tr).1.length:Int))=false:=aa (by show¬ (3000:Int)<(ns.length:Int);omega);rw[aa c1]
 have wn:aq.wrap ((((ns,()):Tr).1.length:Int) - 1)=((ns.length - 1:Nat):Int):=by
  show aq.wrap ((ns.length:Int) - 1)=_;rw[wrap64 _ (by omega) (by omega)];omega
 have rL:(I ((0:Int)<=((ns.length - 1:Nat):Int))&&I (((ns.length - 1:Nat):Int)<(((ns,()):Tr).1.length:Int)))=true:=db (show ns.length - 1<ns.length by omega)
 have start:∀n,jZ (S.step (S.tab n)) (ns,())=_:=λn=>by
  rw[uC,dm d0,dm d1,wn,cU rL]
 by_cases c2:¬ ld ns ((ns.length - 1:Nat):Int)=1
 ·refine dt.up λn _=> ?_
  rw[start,cU (by
   show(!I (ld ns ((ns.length - 1:Nat):Int)=1))=av
   rw[aa c2];rfl),aa c2];rfl
 replace c2:=bP.1 c2
 rw[ab c2]
 have step2:∀n,jZ (S.step (S.tab n)) (ns,())=_:=λn=>by
  rw[start,dm (by
   show(!I (ld ns ((ns.length - 1:Nat):Int)=1))=ar
   rw[ab c2];rfl)]
 have h4:=Y9 hN hn (0,0,())
 by_cases c3:zE ns<ns.length
 ·refine h4.up λn h=> ?_
  rw[ab c3]at h;rw[step2,ab c3];show(iu (S.tab n) (ns,()) (0,0,()) (ns.length:Int) 0).bind _=_;rw[h];rfl
 rw[aa c3]at h4⊢;have h3:=Pv hN hn c3 ns.length (aM ns.length 0) (aC _) (by simp) (λj=>by rw[FT];omega);rw[Nat.sub_self]at h3
 have Ob:(I ((0:Int)<=(ns.length:Int))&&I ((ns.length:Int)<=(ns.length:Int))&&I ((ns.length:Int)<=(lim:Int)))=true:=by
  rw[ab (show(0:Int)<=(ns.length:Int)by omega),ab (show(ns.length:Int)<=(ns.length:Int)by omega),ab (show(ns.length:Int)<=(lim:Int)by unfold lim;omega)];rfl
 have LX:Evt λn=>oR (S.tab n) (ns,())=J (szS ns ns.length (aM ns.length 0),dw):=h3.up λn h=>by
  rw[Fg,cU Ob];show(gN (S.tab n) (aM ns.length 0) ns (ns.length:Int) 0).bind _=_;have h:gN (S.tab n) (aM ns.length 0) ns (ns.length:Int) 0=_:=h;rw[h];rfl
 have Qd:(szS ns ns.length (aM ns.length 0)).length=ns.length:=by rw[K6];simp
 have yp:=Wm (ns,()) (0,0,()) (szS ns ns.length (aM ns.length 0)) (by omega)
 have ad0:imS ns ns.length (aM ns.length 0)=NZ (szS ns ns.length (aM ns.length 0)):=by
  obtain⟨r,hr⟩:∃r,ns.length=r+1:=⟨ns.length - 1,by omega⟩;have:=YX ns (JQ c3) r (aM ns.length 0) (aM ns.length 0) (by omega) ⟨by simp,by simp,λj hj=>by omega,λj _=>⟨FT ..,FT ..⟩⟩;rw[<-hr]at this;exact this
 rw[ad0];simp
 generalize po:szS ns ns.length (aM ns.length 0)=sz at LX Qd yp
 have ya:∀n,iu (S.tab n) (ns,()) (0,0,()) (((ns,()):Tr).1.length:Int) 0=J (aE (an ((ns,()),(0,0,()),())))->jZ (S.step (S.tab n)) (ns,())=_:=λn h=>by
  rw[step2,h,au]
 unfold NZ
 cases hz:I (stop (zq sz) sz.length 0<sz.length)with
 |true=>
  rw[hz]at yp
  refine((h4.and LX).and yp).up λn ⟨⟨h,h'⟩,yp⟩=> ?_
  rw[ya n h];show(oR (S.tab n) (ns,())).bind _=_;rw[h',au];show(gg (S.tab n) (ns,()) (0,0,()) sz sz (sz.length:Int) 0).bind _=_;rw[yp];rfl
 |false=>
  rw[hz]at yp
  have wz:aq.wrap ((sz.length:Int) - 1)=((sz.length - 1:Nat):Int):=by rw[wrap64 _ (by omega) (by omega)];omega
  have am6:(I ((0:Int)<=((sz.length - 1:Nat):Int))&&I (((sz.length - 1:Nat):Int)<(sz.length:Int)))=true:=db (show sz.length - 1<sz.length by omega)
  cases zI:I (get sz (sz.length - 1)=(sz.length:Int))with
  |false=>
   refine((h4.and LX).and yp).up λn ⟨⟨h,h'⟩,yp⟩=> ?_
   rw[ya n h];show(oR (S.tab n) (ns,())).bind _=_;rw[h',au];show(gg (S.tab n) (ns,()) (0,0,()) sz sz (sz.length:Int) 0).bind _=_;rw[yp,au];show brk (I ((0:Int)<=aq.wrap ((sz.length:Int) - 1))&&I (aq.wrap ((sz.length:Int) - 1)<(sz.length:Int))) (brk (!I (sz.getD (aq.wrap ((sz.length:Int) - 1)).toNat 0=(sz.length:Int))) (J ((3,aq.wrap ((sz.length:Int) - 1),()),dw)) _) _=_;rw[wz,cU am6,dC,zI,cU (by rfl)];rfl
  |true=>
   have P3:=QV hN hn c3 (0,0,()) ns.length (aM ns.length 0) (aC _) (by simp)
   have ZY:(w7 ns ns.length (aM ns.length 0)).length=ns.length:=by rw[HJ];simp
   have Ah:=WL (0,0,()) (w7 ns ns.length (aM ns.length 0)) (by omega);rw[ZY]at Ah
   refine(((h4.and LX).and yp).and (P3.and Ah)).up λn ⟨⟨⟨h,h'⟩,yp⟩,P3,Ah⟩=> ?_
   rw[ya n h];show(oR (S.tab n) (ns,())).bind _=_;rw[h',au];show(gg (S.tab n) (ns,()) (0,0,()) sz sz (sz.length:Int) 0).bind _=_;rw[yp,au];show brk (I ((0:Int)<=aq.wrap ((sz.length:Int) - 1))&&I (aq.wrap ((sz.length:Int) - 1)<(sz.length:Int))) (brk (!I (sz.getD (aq.wrap ((sz.length:Int) - 1)).toNat 0=(sz.length:Int))) (J ((3,aq.wrap ((sz.length:Int) - 1),()),dw)) _) _=_;rw[wz,cU am6,dC,zI,dm (by rfl)];show brk (I ((0:Int)<=(ns.length:Int))&&I ((ns.length:Int)<=(ns.length:Int))&&I ((ns.length:Int)<=(lim:Int))) ((ng (S.tab n) (ns,()) (0,0,()) (aM ns.length 0) (aq.wrap ((ns.length:Int) - 1))).bind _) _=_;rw[cU Ob,wrap64 _ (by omega) (by omega),P3,au];show(iB (S.tab n) (0,0,()) (w7 ns ns.length (aM ns.length 0)) ((w7 ns ns.length (aM ns.length 0)).length:Int) 0).bind _=_;rw[ZY,Ah,au];cases I (stop (sX (w7 ns ns.length (aM ns.length 0))) ns.length 0<ns.length)<;>rfl
end
end Go.Abs.D
end

section
namespace Go.Abs.D
def Bd (names:List LI)(text:LI):Prop:=text.length<=4000/\names.length<=200/\∀m∈names,m.length<=40
theorem NA {k:Int}{s:LI}(h:iY k s=av):s.length<=40:=by
 simp_all[iY]
theorem ae2 {names:List LI}{a b:Int}(h:NM names a b=av)(hb:b<=200):names.length<=200/\∀m∈names,m.length<=40:=by
 grind [NM,NA]
def Ws (names:List LI)(text:LI)(b:Bool):Prop:=b=av->Bd names text
variable{ks:LI}{names:List LI}{op num:Int}{text:LI}{kind:Int}{t:Tr}{x:cR.den}
theorem SA {a b:Bool}(h:Ws names text b):Ws names text (a&&b):=λk=>h (by simp_all)
theorem PR {a b:Bool}(h:Ws names text a):Ws names text (a&&b):=λk=>h (by simp_all)
theorem N3:Ws names text false:=λk=>by cases k
theorem w6 {b c:Bool}:Ws names text (PL ar b c ar (names.length:Int) op num text):=λk=>by
 unfold PL at k;simp only[cH,aA,ae]at k;obtain⟨h1,_,_,h2⟩:=k;subst h2;have:names=[]:=bn (by omega);subst this;exact⟨by simp,by simp,λm hm=>by grind⟩
theorem JW {b c:Bool}{X:Bool}{lo hi:Int}(hh:hi<=200):Ws names text (PL av b c ar (names.length:Int) op num text&&(NM names lo hi&&X)):=λk=>by
 simp at k;obtain⟨k,k2,_⟩:=k;unfold PL at k;simp only[cH,aA,ae]at k;obtain⟨_,_,_,h2⟩:=k;subst h2;have:=ae2 k2 hh;exact⟨by simp,this⟩
theorem xZ {b c:Bool}{X:Bool}(hX:X=av->text.length<=4000):Ws names text (PL ar b c av (names.length:Int) op num text&&X):=λk=>by
 simp at k;obtain⟨k,k2⟩:=k;unfold PL at k;simp only[cH,aA,ae]at k;have:names=[]:=bn (by omega);subst this;exact⟨hX k2,by simp,λm hm=>by grind⟩
theorem Ep {k:Int}(h:iY k text=av):text.length<=4000:=by grind [NA]
theorem BO {c a b:Bool}(h1:Ws names text a)(h2:Ws names text b):Ws names text (bif c then a else b):=by grind
theorem iW {c:Bool}{a b:AnS}{d:Bool}(h1:Ws names text (An2 a d))(h2:Ws names text (An2 b d)):Ws names text (An2 (bif c then a else b) d):=by grind
theorem kE {b d:Bool}(h:Ws names text b):Ws names text (An2 (an (b,())) d):=h
theorem Uk {y:(Tr×cR.den×Int×Unit)}{d:Bool}(h:Ws names text d):Ws names text (An2 (aE (an y)) d):=h
theorem X9 {fl d:Bool}(hd:Ws names text d):Ws names text (An2 (Q41 t x ks names op num text kind fl) d):=by
 refine iW (kE ?_) (iW (kE ?_) (iW (kE ?_) (Uk hd)))<;>(repeat first|exact w6|exact PR w6|simp_all[JW]|exact xZ Ep|exact xZ (λh=>by omega)|exact N3|apply SA)
theorem X8 {fl d:Bool}(hd:Ws names text d):Ws names text (An2 (Q28 t x ks names op num text kind fl) d):=by
 refine iW (kE ?_) (iW (kE ?_) (iW (kE ?_) (iW (kE ?_) (iW (kE ?_) (iW (X9 hd) (X9 hd))))))<;>(repeat first|exact w6|exact PR w6|simp_all[JW]|exact xZ Ep|exact xZ (λh=>by omega)|exact N3|apply SA)
theorem Ya {fl d:Bool}(hd:Ws names text d):Ws names text (An2 (Q18 t x ks names op num text kind fl) d):=by
 refine iW (kE ?_) (iW (kE ?_) (iW (kE ?_) (iW (kE ?_) (iW (kE ?_) (iW (kE ?_) (iW (kE ?_) (iW (kE ?_) (iW (kE ?_) (iW (kE ?_) (iW (kE ?_) (Uk hd)))))))))))<;>(repeat first|exact w6|exact PR w6|exact JW (by decide)|exact xZ Ep|exact xZ (λh=>by omega)|exact N3|apply SA)
theorem W6 {fl d:Bool}(hd:Ws names text d):Ws names text (An2 (Q7 t x ks names op num text kind fl) d):=by
 refine iW (kE ?_) (iW (kE ?_) (iW (kE ?_) (iW (kE ?_) (iW (kE ?_) (iW (Ya hd) (Ya hd))))))<;>(repeat first|exact w6|exact PR w6|exact JW (by decide)|exact xZ Ep|exact xZ (λh=>by have:=of_decide_eq_true h;omega)|exact N3|apply SA)
theorem aw5:Ws names text (KS t x ks names op num text kind):=by
 have hd:Ws names text (bif I (kind=15)then PL ar ar ar ar (names.length:Int) op num text&&(I ((ks.length:Int)=1)&&EX ks 0 1)else ar):=BO (PR w6) N3;refine BO ?_ (BO ?_ (BO ?_ (BO ?_ (BO ?_ (iW (X8 hd) (X8 hd))))))<;>(repeat first|exact w6|exact PR w6|exact JW (by decide)|exact xZ Ep|exact xZ (λh=>by omega)|exact N3|apply SA)
theorem az5:Ws names text (KE t x ks names op num text kind):=by
 have hd:Ws names text (bif I (kind=42)then I ((ks.length:Int)=1)&&(EX ks 0 1&&(PL ar ar ar av (names.length:Int) op num text&&iY 1 text))else ar):=BO (by(repeat first|exact w6|exact PR w6|exact JW (by decide)|exact xZ Ep|exact xZ (λh=>by omega)|exact N3|apply SA)) N3;exact iW (W6 hd) (iW (W6 hd) (iW (W6 hd) (W6 hd)))
theorem ph {ns:List cR.den}{i:Nat}{x:cR.den}(h:okN ns i x=av):Bd (cW x) x.2.2.2.2.2.2.1/\(cP x).length<=200/\∀k∈cP x,0<=k/\k<(i:Int):=by
 unfold okN at h
 by_cases c1:x.2.1<0
 ·simp_all
 by_cases c2:x.2.2.1<x.2.1
 ·simp_all
 by_cases c3:x.2.2.2.1<0
 ·simp_all
 by_cases c4:200<(cP x).length
 ·simp_all
 rw[aa c1,aa c2,aa c3,aa c4]at h
 cases ha:(cP x).all (inR i)with
 |false=>simp_all
 |true=>
  rw[ha,ai]at h;refine⟨?_,by omega,λk hk=> ?_⟩
  ·cases hs:fo x.1 with
   |true=>rw[hs]at h;exact aw5 h
   |false=>rw[hs]at h;exact az5 h
  simp_all[aW,inR]
end Go.Abs.D
end

section
namespace Go.Abs.D
theorem nu {ns:List cR.den}(h:(kg ns).1=0):kg ns=(0,0,())/\0<ns.length/\ns.length<=3000/\∀(j:Nat) (hj:j<ns.length),∀k∈cP ns[j],0<=k/\k<(j:Int):=by
 unfold kg at h⊢
 by_cases c0:ns.length=0
 ·simp_all
 by_cases c1:3000<ns.length
 ·simp_all
 by_cases c2:ld ns ((ns.length - 1:Nat):Int)=1
 ·by_cases c3:zE ns<ns.length
  ·simp_all
  refine⟨?_,by omega,by omega,λj hj=>Aa c3 j hj⟩
  grind
 simp_all
theorem AY {ns:List cR.den}(hN:∀x∈ns,NodeOk x):Evt λn=>xr (S.tab n) (ns,())=J (I ((kg ns).1=0),dw):=(Gy hN).up λn h=>by
 rw[IQ,h,au]
 by_cases c:(kg ns).1=0
 all_goals simp_all[nu,aa,a47]
theorem zP {ns:List cR.den}(h:(kg ns).1=0)(j:Nat)(hj:j<ns.length):okN ns j ns[j]=true:=by
 have hb:¬ zE ns<ns.length:=by
  unfold kg at h
  grind
 have hq:okQ ns j=true:=uJ ns.length 0 j (aX _) (by grind [zE]);unfold okQ Dg at hq;simp_all
end Go.Abs.D
end

section
set_option maxRecDepth 100000
namespace Go.Abs.D
variable{G:Toks}{U:Type}{a a' b c:Nat}{nd:List Node}{m:Int}
theorem WS:(kinds.all λk=>I (stS 103 k=bif I (k=47)then .left [124]else .gone)&&(I (stS 109 k=bif I (k=46)then .left [1]else .gone)&&(I (stS 116 k=bif I (k=1)then .left [117]else bif I (k=40)then .left [119,41,117]else .no)&&I (stS 104 k=bif I (k=46)then .left [1,104]else .gone))))=true:=by kernel_rfl
theorem Wb:(kinds.all λk=>I (k=42)||decide (k=1)||decide (k=40)||decide (k=22)||decide (k=13)||decide (k=18)||decide (k=20)||decide (k=31)||decide (k=19)||decide (k=11)||decide (k=23)||decide (k=27)||decide (k=30)||decide (k=14)||decide (k=28)||decide (k=5)||decide (stS 100 k= .gone))=true:=by kernel_rfl
theorem ah0:(([(22,[1,104,103,101]),(13,[1,47,119,101]),(18,[1,133,101]),(20,[119,132,105,101]),(31,[119,132,101]),(19,[1,106,101]),(11,[101]),(23,[101]),(27,[108,101]),(30,[132,12,1,109,132,101]),(28,[119,101]),(14,[116,101]),(42,[100,43,101]),(1,[110,101]),(40,[119,41,112,101]),(5,[100])]:List (Int×LI)).all λp=>I (stS 100 p.1= .left p.2))=true:=by kernel_rfl
def Stn (G:Toks)(a:Nat):Prop:=∀(nd:List Node) (r:LI),rOk r->a<=G.out.length->nd.length<=4*a->Ac G.out (100::r) a->KA G.out a≠5->KA G.out a≠43->KA G.out a≠6->dV (GOT G (Ac G.out (101::r)) a nd 1) λT=>vM T (st G a nd)
theorem ns1 {m:LI}(h:∀c∈m,isByte c):(∀n∈[m],∀c∈n,isByte c)/\[m].length<=70000:=⟨λn hn=>by rw[bD.1 hn];exact h,by simp⟩
theorem nmO.le (G:Toks){ns:List LI}(h:nmO ns a)(ha:a<=G.out.length):(∀m∈ns,∀c∈m,isByte c)/\ns.length<=70000:=⟨h.1,by have:=h.2;have:=G.len;omega⟩
theorem GOT.less {P:Nat->Prop}{j k:Nat}{x:Int×StT×U}(h:GOT G P a nd k x)(hj:j<=k):GOT G P a nd j x:=by
 obtain⟨a',od,e,M,lt,s,p⟩:=h;exact⟨a',od,e,M.less hj,lt,s,p⟩
theorem Wq (hX:∀a',a<a'->Xn G a')(hB:∀a',a<a'->Bn G a')(am1:Bn G a)(hC:Cn G a)(hF:∀b a',a<a'->Fn G b a'):Stn G a:=by
 intro nd r hr ha hn hA k5 au3 k6
 have row:∀{k:Int} {l:LI},(k,l)∈([(22,[1,104,103,101]),(13,[1,47,119,101]),(18,[1,133,101]),(20,[119,132,105,101]),(31,[119,132,101]),(19,[1,106,101]),(11,[101]),(23,[101]),(27,[108,101]),(30,[132,12,1,109,132,101]),(28,[119,101]),(14,[116,101]),(42,[100,43,101]),(1,[110,101]),(40,[119,41,112,101]),(5,[100])]:List (Int×LI))->KA G.out a=k->a<G.out.length/\Ac G.out (l++r) (a+1):=λh hk=>
  fU (of_decide_eq_true (aW.1 ah0 _ h)) hk hA ha
 have hl:a<G.out.length:=by
  rcases qA ha hA with⟨l,e,hl,h⟩|⟨e,h⟩
  ·exact hl
  ·rcases KK hr ha h with h|h
   ·exact absurd h au3
   ·exact absurd h k6
 have Ow:=G.kdA hl
 have J7:∀a,_:=λa=>by
  have h:=G.tab WS a;simp only[aA,ae]at h;exact h
 refine .up (λT=>Dw T _) (.then (pU G ha) (.ite (λhk=> ?_) λaG4=> .then (pU G ha) (.ite (λhk=> ?_) λn1=> .then (pU G ha) (.ite (λhk=> ?_) λaH5=> .then (iL G hl) ?_))))
 ·obtain⟨_,pa⟩:=row (l:=[100,43,101]) (by simp) hk
  refine .bind (am1 nd (101::r) ha hn (UK (show stS 132 (KA G.out a)= .left [100,43]by rw[show KA G.out a=42 from hk];kernel_rfl) hl pa)) λx hx=> .ret (hx.less (by omega))
 ·exact .bind (zQ hX hr hl hn (s0:=110) (by simp) (.inl ⟨hk,(row (l:=[110,101]) (by simp) hk).2⟩)) λx hx=> .ret hx
 ·exact .bind (zQ hX hr hl hn (s0:=112) (by simp) (.inr ⟨hk,(row (l:=[119,41,112,101]) (by simp) hk).2⟩)) λx hx=> .ret hx
 have aG4:KA G.out a≠42:=aG4;have n1:KA G.out a≠1:=n1;have aH5:KA G.out a≠40:=aH5;have M1:=(Md.refl (G:=G) (nd:=nd) ha).tok hl;have Oc:=M1.len hn
 refine .ite (λh=> ?_) λaX2=> .ite (λh=> ?_) λaQ4=> .ite (λh=> ?_) λar6=> .ite (λh=> ?_) λaV7=> .ite (λh=> ?_) λaV9=> .ite (λh=> ?_) λaY0=> .ite (λh=> ?_) λaV8=> .ite (λh=> ?_) λn23=> .ite (λh=> ?_) λaQ6=> .ite (λh=> ?_) λaQ7=> .ite (λh=> ?_) λaN4=> ?_
 ·
  obtain⟨_,pa⟩:=row (l:=[1,104,103,101]) (by simp) (Ow.symm.trans h)
  have hQ:JX G (λq=>q=104::103::101::r):=λq a' e PX L4 hk=>by
   subst e;have t:=(J7 a').2.2.2;rw[ab hk]at t;obtain⟨hl,h⟩:=fU t rfl L4 PX;exact⟨hl,_,rfl,h⟩
  refine .then (iz _ _) (.bind (F1 hQ hl rfl pa) ?_)
  rintro⟨ns,_,u⟩ ⟨a1,rfl,⟨p1,p2⟩,F9,q,rfl,wg,E6⟩;have M2:=M1.names p1 p2;have t:=(J7 a1).2.2.2;rw[aa E6]at t;have Ey:=gF t rfl wg p2;have t:=(J7 a1).1
  by_cases k47:KA G.out a1=47
  ·rw[ab k47]at t;obtain⟨pb,Rt⟩:=fU t rfl Ey p2;have M3:=M2.tok pb
   refine .then (LM G p2 k47) (.yes rfl (.bind (Rg (λa' h=>hX a' (by omega)) nd _ pb (M3.len hn).1 (Qh Rt pb)) ?_))
   rintro⟨xs,_,u⟩ ⟨a2,w9,rfl,M4,VE,kd,Ot⟩;obtain⟨c,rfl⟩:∃c,a2=c+1:=⟨a2 - 1,by omega⟩;have M5:=M3.trans M4
   exact .then (ky G M5.top (M5.len hn).2 _) (.ret (uU 2 0 0 (M5.less (by omega)) (by decide) tx0 (F9.le G p2) (aC _) (by omega) (kd.down (by show a<=_;omega)) Ot))
  ·rw[aa k47]at t;obtain⟨c,rfl⟩:∃c,a1=c+1:=⟨a1 - 1,by omega⟩
   exact .then (Jc G p2 k47) (.no rfl (.then (ky G p2 (M2.len hn).2 _) (.ret (uU 2 0 0 (M2.less (by omega)) (by decide) tx0 (F9.le G p2) (aC _) (by omega) (.nil (by show a<=_;omega)) (gF t rfl Ey p2)))))
 ·
  obtain⟨_,pa⟩:=row (l:=[1,47,119,101]) (by simp) (Ow.symm.trans h)
  have hQ:JX G (λq=>q=47::119::101::r):=λq a' e PX L4 hk=>by
   subst e;exact absurd (jF L4 PX (by decide)).2.1 (by omega)
  refine .then (iz _ _) (.bind (F1 hQ hl rfl pa) ?_)
  rintro⟨ns,_,u⟩ ⟨a1,rfl,⟨p1,p2⟩,F9,q,rfl,wg,E6⟩;obtain⟨pb,_,Ey⟩:=jF wg p2 (by decide);have M2:=(M1.names p1 p2).tok pb
  refine .then (iL G pb) (.bind (hX (a1+1) (by omega) nd _ pb (M2.len hn).1 Ey) ?_)
  rintro⟨m,_,u⟩ ⟨a2,w9,rfl,M4,VE,s,Ot⟩;obtain⟨c,rfl⟩:∃c,a2=c+1:=⟨a2 - 1,by omega⟩;have M5:=M2.trans M4
  exact .then (ky G M5.top (M5.len hn).2 _) (.ret (uU 3 0 0 (M5.less (by omega)) (by decide) tx0 (F9.le G p2) (aC _) (by omega) (.one s (by show a<=_;omega) (aC _)) Ot))
 ·
  obtain⟨_,pa⟩:=row (l:=[1,133,101]) (by simp) (Ow.symm.trans h);obtain⟨pb,_,wg⟩:=jF pa hl (by decide);have M2:=M1.tok pb
  have au9:a+1+1<G.out.length:=by
   rcases qA pb wg with⟨l,e,hl,h⟩|⟨e,h⟩
   ·exact hl
   ·have t:=G.tab Ia (a+1+1);simp only[aA,ae]at t;rw[t.1]at e;cases hd:I (KA G.out (a+1+1)=40)<;>rw[hd]at e<;>cases e
  refine .then (iz _ _) (.then (iL G pb) (.yes (G.inb pb) ?_))
  rw[show at_ (τ:=cZ) (tkA G.out (a+1),st G (a+1+1) nd,()).2.1.1 (tkA G.out (a+1),st G (a+1+1) nd,()).2.1.2.1=tkA G.out (a+1+1)from G.aS au9]
  refine .then (iz _ _) (.bind (hF (a+1+1) (a+1+1) (by omega) nd _ (aC _) pb (M2.len hn).1 wg) ?_)
  rintro⟨m,_,u⟩ ⟨a2,w9,rfl,M4,VE,s,Ot⟩;obtain⟨c,rfl⟩:∃c,a2=c+1:=⟨a2 - 1,by omega⟩;have M5:=M2.trans M4
  exact .then (ky G M5.top (M5.len hn).2 _) (.ret (uU 4 0 0 (M5.less (by omega)) (by decide) tx0 (ns1 (G.txt _)) (aC _) (by omega) (.one s (by show a<=_;omega) (aC _)) Ot))
 ·
  obtain⟨_,pa⟩:=row (l:=[119,132,105,101]) (by simp) (Ow.symm.trans h);refine .bind (hC nd _ hl hn pa) ?_;rintro⟨m,_,u⟩ hx;obtain⟨a',od,e,M,lt,s,p⟩:=hx;exact .ret ⟨a',od,e,M.less (by omega),lt,s,p⟩
 ·
  obtain⟨_,pa⟩:=row (l:=[119,132,101]) (by simp) (Ow.symm.trans h);refine .bind (hX (a+1) (by omega) nd _ hl Oc.1 pa) ?_;rintro⟨m1,_,u⟩ ⟨a1,jT,rfl,M2,ao8,s1,wg⟩;have M3:=M1.trans M2;refine .bind (hB a1 (by omega) jT _ M3.top (M3.len hn).1 wg) ?_;rintro⟨m2,_,u⟩ ⟨a2,w9,rfl,M4,VE,s2,Ot⟩;obtain⟨c,rfl⟩:∃c,a2=c+1:=⟨a2 - 1,by omega⟩;have M5:=M3.trans M4
  exact .then (iz _ _) (.then (ky G M5.top (M5.len hn).2 _) (.ret (uU 8 0 0 (M5.less (by omega)) (by decide) tx0 ns0 (aC _) (by omega) (Kd.snoc (xs:=[m1]) (Kd.one (M4.spn s1) (by show a<=_;omega) (aC _)) (aC _) s2 (aC _)) Ot)))
 ·
  obtain⟨_,pa⟩:=row (l:=[1,106,101]) (by simp) (Ow.symm.trans h);refine .bind (VW hX hB hl hn pa) ?_;rintro⟨m,_,u⟩ hx;obtain⟨a',od,e,M,lt,s,p⟩:=hx;exact .ret ⟨a',od,e,M.less (by omega),lt,s,p⟩
 ·exact .then (iz _ _) (.then (ky G hl Oc.2 _) (.ret (uU 11 0 0 (M1.less (by omega)) (by decide) tx0 ns0 (aC _) (aC _) (.nil (by show a<=_;omega)) (row (l:=[101]) (by simp) (Ow.symm.trans h)).2)))
 ·exact .then (iz _ _) (.then (ky G hl Oc.2 _) (.ret (uU 12 0 0 (M1.less (by omega)) (by decide) tx0 ns0 (aC _) (aC _) (.nil (by show a<=_;omega)) (row (l:=[101]) (by simp) (Ow.symm.trans h)).2)))
 ·
  obtain⟨_,pa⟩:=row (l:=[108,101]) (by simp) (Ow.symm.trans h);have ta:=G.tab Uw (a+1);simp only[aA,ae]at ta
  refine .then (iz _ _) (.then (pU G hl) (.then (To _) (.brk (λhu=> ?_) λhu=> ?_)))
  ·rw[show pD (KA G.out (a+1))=av from hu]at ta;refine .bind (Rg (λa' h=>hX a' (by omega)) nd _ hl Oc.1 (Es ta.2 pa hl)) ?_;rintro⟨xs,_,u⟩ ⟨a2,w9,rfl,M4,VE,kd,Ot⟩;obtain⟨c,rfl⟩:∃c,a2=c+1:=⟨a2 - 1,by omega⟩;have M5:=M1.trans M4
   exact .then (ky G M5.top (M5.len hn).2 _) (.ret (uU 13 0 0 (M5.less (by omega)) (by decide) tx0 ns0 (aC _) (by omega) (kd.down (by show a<=_;omega)) Ot))
  ·rw[show pD (KA G.out (a+1))=ar from hu]at ta
   exact .then (ky G hl Oc.2 _) (.ret (uU 13 0 0 (M1.less (by omega)) (by decide) tx0 ns0 (aC _) (aC _) (.nil (by show a<=_;omega)) (gF ta.2 rfl pa hl)))
 ·
  obtain⟨_,pa⟩:=row (l:=[132,12,1,109,132,101]) (by simp) (Ow.symm.trans h);refine .bind (hB (a+1) (by omega) nd _ hl Oc.1 pa) ?_;rintro⟨m1,_,u⟩ ⟨a1,jT,rfl,M2,ao8,s1,wg⟩;have M3:=M1.trans M2;obtain⟨pb,_,Ey⟩:=jF wg M3.top (by decide);have M4:=M3.tok pb
  have hQ:JX G (λq=>q=109::132::101::r\/q=132::101::r):=λq a' e PX L4 hk=>by
   rcases e with rfl|rfl
   ·have t:=(J7 a').2.1;rw[ab hk]at t;obtain⟨hl,h⟩:=fU t rfl L4 PX;exact⟨hl,_, .inr rfl,h⟩
   ·have t:=G.tab Ia a';simp only[aA,ae]at t;rw[aa (show KA G.out a'≠42 by omega)]at t;exact(sB t.2 rfl L4 PX).elim
  refine .then (iL G pb) (.then (iz _ _) (.bind (F1 hQ pb (.inl rfl) Ey) ?_))
  rintro⟨ns,_,u⟩ ⟨a2,rfl,⟨p1,p2⟩,F9,q,hq,Rt,E6⟩;have M5:=M4.names p1 p2
  have Ot:Ac G.out (132::101::r) a2:=by
   rcases hq with rfl|rfl
   ·have t:=(J7 a2).2.1;rw[aa E6]at t;exact gF t rfl Rt p2
   ·exact Rt
  refine .bind (hB a2 (by omega) jT _ p2 (M5.len hn).1 Ot) ?_;rintro⟨m2,_,u⟩ ⟨a3,Ro,rfl,M6,aE1,s3,aA5⟩;obtain⟨c,rfl⟩:∃c,a3=c+1:=⟨a3 - 1,by omega⟩;have M7:=M5.trans M6
  exact .then (ky G M7.top (M7.len hn).2 _) (.ret (uU 14 0 0 (M7.less (by omega)) (by decide) tx0 (F9.le G p2) (aC _) (by omega) (Kd.snoc (xs:=[m1]) (Kd.one (M6.spn s1) (by show a<=_;omega) (aC _)) (by omega) s3 (aC _)) aA5))
 ·
  obtain⟨_,pa⟩:=row (l:=[116,101]) (by simp) (Ow.symm.trans h)
  have j:dV (λy=>∃s m,y=an (s,m,())/\GOT G (Ac G.out (101::r)) a nd 1 (m,s,())) λT=>lR T (st G (a+1) nd) (tkA G.out a) 16:=by
   have hc:a+1<G.out.length/\((KA G.out (a+1)=1/\Ac G.out (117::101::r) (a+1+1))\/(KA G.out (a+1)=40/\Ac G.out (119::41::117::101::r) (a+1+1))):=by
    have t:=(J7 (a+1)).2.2.1
    by_cases k1:KA G.out (a+1)=1
    ·rw[ab k1]at t;obtain⟨hl,h⟩:=fU t rfl pa hl;exact⟨hl, .inl ⟨k1,h⟩⟩
    rw[aa k1]at t
    by_cases k2:KA G.out (a+1)=40
    ·rw[ab k2]at t;obtain⟨hl,h⟩:=fU t rfl pa hl;exact⟨hl, .inr ⟨k2,h⟩⟩
    rw[aa k2]at t;exact(sB t rfl pa hl).elim
   refine .up (λT=>rU T _ _ _) (.then (iz _ _) (.yes (ab h) (.bind (vA aA0 (λa' h=>hX a' (by omega)) nd (101::r) (s0:=117) (by simp) hc.1 Oc.1 hc.2) ?_)));rintro⟨m,_,u⟩ ⟨a2,w9,rfl,M4,VE,s,s',Of,Ot,hk⟩;obtain⟨_,_,t1,t2⟩:=G.sfx hk
   have aA5:Ac G.out (101::r) a2:=by
    simp at Of
    rcases Of with rfl|rfl
    ·exact(sB t1 rfl Ot M4.top).elim
    ·exact gF t2 rfl Ot M4.top
   obtain⟨c,rfl⟩:∃c,a2=c+1:=⟨a2 - 1,by omega⟩;have M5:=M1.trans M4
   exact .then (ky G M5.top (M5.len hn).2 _) (.ret ⟨_,_,rfl,uU 16 0 0 (M5.less (by omega)) (by decide) tx0 ns0 (aC _) (by omega) (.one s (by show a<=_;omega) (aC _)) aA5⟩)
  refine .bind j ?_;rintro _ ⟨s,m,rfl,hx⟩;exact .ret hx
 ·
  have Ah:KA G.out a=28:=by
   have t:=G.tab Wb a;rw[aa aG4,aa n1,aa aH5,aa k5]at t
   have f:∀{k:Int},¬(tkA G.out a,st G (a+1) nd,()).1.1=k->I (KA G.out a=k)=false:=λh=>aa λe=>h (Ow.trans e)
   rw[f aX2,f aQ4,f ar6,f aV7,f aV9,f aY0,f aV8,f n23,f aQ6,f aQ7,f aN4]at t;simp at t
   rcases t with t|t
   ·exact t
   ·rcases KK hr ha (gF t rfl hA ha)with h|h
    ·exact absurd h au3
    ·exact absurd h k6
  obtain⟨_,pa⟩:=row (l:=[119,101]) (by simp) Ah
  have j:dV (λy=>∃s m,y=an (s,m,())/\GOT G (Ac G.out (101::r)) a nd 1 (m,s,())) λT=>lR T (st G (a+1) nd) (tkA G.out a) 15:=by
   refine .up (λT=>rU T _ _ _) (.then (iz _ _) (.no (aa aN4) (.bind (hX (a+1) (by omega) nd _ hl Oc.1 pa) ?_)));rintro⟨m,_,u⟩ ⟨a2,w9,rfl,M4,VE,s,Ot⟩;obtain⟨c,rfl⟩:∃c,a2=c+1:=⟨a2 - 1,by omega⟩;have M5:=M1.trans M4
   exact .then (ky G M5.top (M5.len hn).2 _) (.ret ⟨_,_,rfl,uU 15 0 0 (M5.less (by omega)) (by decide) tx0 ns0 (aC _) (by omega) (.one s (by show a<=_;omega) (aC _)) Ot⟩)
  refine .bind j ?_;rintro _ ⟨s,m,rfl,hx⟩;exact .ret hx
theorem OW (hn:nd.length<=4*b){u:Int}{r:LI}(ab7:(u=43/\∃r',r=43::r')\/(u=6/\r=[]))(hS:∀a,b<=a->Stn G a):∀(d a:Nat) (q:Int) (xs:LI) (jT:List Node),G.out.length<a+d->b<=a->MD G b nd a jT 0->Kd G jT b xs a->(q=100\/q=101)->Ac G.out (q::r) a->
  dV (λy=>∃(a':Nat) (od:List Node) (VL:LI),y=an (st G a' od,VL,())/\MD G b nd a' od 0/\Kd G od b VL a'/\Ac G.out r a') λT=>lI T (st G a jT) u xs:=by
 have hr:rOk r:=ab7.elim (λh=> .inr h.2) λh=> .inl h.2
 have aa1:∀a,a<=G.out.length->Ac G.out r a->KA G.out a=u:=λa ha hA=>by
  rcases ab7 with⟨rfl,r',rfl⟩|⟨rfl,rfl⟩
  ·exact(jF hA ha (by decide)).2.1
  simp_all[Uj]
 have gone:stS 100 43= .gone/\stS 100 6= .gone:=⟨by kernel_rfl,by kernel_rfl⟩;intro d
 induction d with
 |zero=>intro a q xs jT h _ M;have:=M.top;omega
 |succ d ih=>
  intro a q xs jT hd h0 M k hq hA;have ha:=M.top;have hL:=G.len;refine .up (λT=>yL T _ _ _) (.then (pU G ha) ?_)
  by_cases hk:KA G.out a=u
  ·refine .no (by rw[show I ((KA G.out a,st G a jT,()).1=u)=av from ab hk];rfl) (.ret ⟨a,jT,xs,rfl,M,k, ?_⟩)
   rcases hq with rfl|rfl
   ·rcases ab7 with⟨rfl,_⟩|⟨rfl,_⟩
    ·exact gF gone.1 hk hA ha
    ·exact gF gone.2 hk hA ha
   ·exact Po hA ha (by rcases ab7 with⟨rfl,_⟩|⟨rfl,_⟩<;>omega)
  refine .yes (by rw[show I ((KA G.out a,st G a jT,()).1=u)=ar from aa hk];rfl) ?_
  by_cases h5:KA G.out a=5
  ·have pa:a<G.out.length/\Ac G.out (100::r) (a+1):=by
    rcases hq with rfl|rfl
    ·exact fU (show stS 100 5= .left [100]by kernel_rfl) h5 hA ha
    ·exact fU (show stS 101 5= .left [100]by kernel_rfl) h5 hA ha
   exact .then (LM G ha h5) (.yes rfl (ih (a+1) 100 xs jT (by omega) (by omega) ((M.tok pa.1).less (by omega)) (k.up (bR _)) (.inl rfl) pa.2))
  ·have ac7:q=100:=by
    rcases hq with h|rfl
    ·exact h
    ·exact absurd (aa1 a ha (Po hA ha h5)) hk
   subst ac7
   have au3:KA G.out a≠43:=λe=>hk (aa1 _ ha (gF gone.1 e hA ha))
   have k6:KA G.out a≠6:=λe=>hk (aa1 _ ha (gF gone.2 e hA ha))
   refine .then (Jc G ha h5) (.no rfl (.bind (hS a h0 jT r hr ha (M.len hn).1 hA h5 au3 k6) ?_))
   rintro⟨m,_,u⟩ ⟨a1,w9,rfl,M2,lt,s,wg⟩;have:=k.le;exact .yes (N4 (by show xs.length<=_;omega)) (ih a1 101 _ w9 (by omega) (by omega) ((M.trans M2).less (by omega)) (.snoc (M2.kid k) (aC _) s (aC _)) (.inr rfl) wg)
theorem Na {u:Int}{r:LI}(ab7:(u=43/\∃r',r=43::r')\/(u=6/\r=[]))(hS:∀a',a<=a'->Stn G a')(ha:a<=G.out.length)(hn:nd.length<=4*a)(hA:Ac G.out (100::r) a):Tn G u a nd r:=by
 refine .up (λT=>Co T _ _) (.bind (OW hn ab7 hS (G.out.length+1) a 100 [] nd (by omega) (aC _) (Md.refl ha) (.nil (aC _)) (.inl rfl) hA) ?_);rintro _ ⟨a',od,VL,rfl,h⟩;exact .ret ⟨a',od,rfl,h⟩
structure All (G:Toks)(a:Nat):Prop where
 x:Xn G a
 e:En G a
 u:Un G a
 b:Bn G a
 c:Cn G a
 f:∀b,Fn G b a
 s:Stn G a
theorem Y5 (G:Toks):∀(d a:Nat),G.out.length<a+d->All G a:=by
 intro d
 induction d with
 |zero=>
  intro a h;exact⟨λnd r h2=>by omega,λl nd r h2=>by omega,λnd r h2=>by omega,λnd r h2=>by omega,λnd r h2=>by omega,λb nd r _ h2=>by omega,λnd r _ h2=>by omega⟩
 |succ d ih=>
  intro a h
  have IH:∀a',a<a'->All G a':=λa' h'=>ih a' (by omega)
  have hX:∀a',a<a'->Xn G a':=λa' h=>(IH a' h).x
  have hB:∀a',a<a'->Bn G a':=λa' h=>(IH a' h).b
  have u:=WI hX (IH (a+1) (by omega)).u ((IH (a+1) (by omega)).f a);have e:=ad7 u (λa' h=>(IH a' h).e)
  have b:Bn G a:=TI λnd r h1 h2 h3=>Na (.inl ⟨rfl,r,rfl⟩) (λa' h=>(IH a' (by omega)).s) h1 h2 h3
  have c:=YS hX hB (λa' h=>(IH a' h).c);exact⟨ae7 e,e,u,b,c,λb=>af4 hB,Wq hX hB b c (λb a' h=>(IH a' h).f b)⟩
end Go.Abs.D
end

section
set_option maxRecDepth 100000
namespace Go.Abs.D
def frN (x:Node):Int:=x.2.1
def toN (x:Node):Int:=x.2.2.1
def KdP (ns:List Node):Int->LI->Int->Prop
 |lo,[],hi=>lo<=hi
 |lo,k::r,hi=>∃(j:Nat) (x:Node),k=(j:Int)/\ns[j]?=J x/\lo<=frN x/\frN x<toN x/\KdP ns (toN x) r hi
def PU (x:Node):Int:=bif I (x.1=36)then frN x+1 else frN x
structure Placed (ns:List Node):Prop where
 kids:∀x∈ns,KdP ns (PU x) (cP x) (toN x)
 pos:∀x∈ns,0<=frN x
theorem KdP.up {ns:List Node}:∀{ks:LI} {lo hi s5:Int},KdP ns lo ks hi->hi<=s5->KdP ns lo ks s5
 |[],lo,hi,s5,h,h1=>a38 h h1
 |k::r,lo,hi,s5,⟨j,x,e1,e2,h1,h2,h3⟩,h4=>⟨j,x,e1,e2,h1,h2,h3.up h4⟩
theorem KdP.snoc {ns:List Node}{j:Nat}{x:Node}(hx:ns[j]?=J x)(kI:frN x<toN x):∀{ks:LI} {lo hi:Int},KdP ns lo ks hi->hi<=frN x->KdP ns lo (ks++[(j:Int)]) (toN x)
 |[],lo,hi,h,h1=>⟨j,x,rfl,hx,a38 h h1,kI,bF _⟩
 |k::r,lo,hi,⟨j',x',e1,e2,h3,h4,h5⟩,h1=>⟨j',x',e1,e2,h3,h4,KdP.snoc hx kI h5 h1⟩
structure Ord (out:List cZ.den)(n:Nat):Prop where
 lt:∀b,b<out.length->0<=frT (tkA out b)/\frT (tkA out b)<toT (tkA out b)/\toT (tkA out b)<=n
 le:∀b c,b<c->c<out.length->toT (tkA out b)<=frT (tkA out c)
variable{G:Toks}{n:Nat}
theorem Ord.hi (h:Ord G.out n){b c:Nat}(h1:b<=c)(h2:c<G.out.length):toT (tkA G.out b)<=toT (tkA G.out c):=by
 rcases bG b c with hl|hl
 ·have:=h.le b c hl h2;have:=h.lt c h2;omega
 ·rw[show b=c by omega];exact bF _
theorem Ord.lo (h:Ord G.out n){b c:Nat}(h1:b<=c)(h2:c<G.out.length):frT (tkA G.out b)<=frT (tkA G.out c):=by
 rcases bG b c with hl|hl
 ·have:=h.le b c hl h2;have:=h.lt b (by omega);omega
 ·rw[show b=c by omega];exact bF _
theorem JT (h:Ord G.out n){nd:List Node}{a b:Nat}{xs:LI}(k:Kd G nd a xs b)(hb:b<=G.out.length){L:Int}(hL:∀c,a<=c->c<G.out.length->L<=frT (tkA G.out c)):
  ∃M,KdP nd L xs M/\(∀c,b<=c->c<G.out.length->M<=frT (tkA G.out c))/\(M=L\/∃c,c<b/\M=toT (tkA G.out c)):=by
 induction k with
 |nil h1=>exact⟨L,bF _,λc h2 h3=>hL c (by omega) h3, .inl rfl⟩
 | @snoc b c c' d xs m k h1 s h2 ih=>
  obtain⟨j,b0,c0,x,rfl,hx,⟨q1,q2,q3⟩,e1,e2⟩:=s;obtain⟨M,k1,k2,_⟩:=ih (by omega);have IB:frN x=frT (tkA G.out b0):=e1;have as8:toN x=toT (tkA G.out (c0 - 1)):=e2;have:=h.lt b0 (by omega);have:=h.hi (b:=b0) (c:=c0 - 1) (by omega) (by omega);have:=k2 b0 (by omega) (by omega);refine⟨toN x,k1.snoc hx (by omega) (by omega),λe h3 h4=> ?_, .inr ⟨c0 - 1,by omega,as8⟩⟩;rw[as8];exact h.le _ _ (by omega) h4
theorem RT (h:Ord G.out n){nd:List Node}{x:Node}(hx:Nd (G:=G) nd x):KdP nd (PU x) (cP x) (toN x)/\0<=frN x:=by
 obtain⟨_,b,c,h1,h2,e1,e2,_,k⟩:=hx;have IB:frN x=frT (tkA G.out b):=e1;have as8:toN x=toT (tkA G.out (c - 1)):=e2;have h3:=h.lt b (by omega);have h4:=h.hi (b:=b) (c:=c - 1) (by omega) (by omega)
 have hL:PU x<=frN x+1/\∀c,(bif I (x.1=36)then b+1 else b)<=c->c<G.out.length->PU x<=frT (tkA G.out c):=by
  unfold PU
  cases I (x.1=36)with
  |true=>exact⟨bF _,λc hc hl=>by have:=h.le b c hc hl;show frN x+1<=_;omega⟩
  |false=>exact⟨by show frN x<=_;omega,λc hc hl=>by rw[show(bif ar then frN x+1 else frN x)=frN x from rfl,IB];exact h.lo hc hl⟩
 obtain⟨M,k1,_,k3⟩:=JT h k h2 hL.2;refine⟨k1.up ?_,by omega⟩
 rcases k3 with rfl|⟨c',h5,rfl⟩
 ·omega
 ·rw[as8];exact h.hi (by omega) (by omega)
structure ParsedOk (p:Int×Int×(List Node×Unit)×Unit):Prop where
 nodes:∀x∈p.2.2.1.1,NW x
 len:p.2.2.1.1.length<=300000
 code:(p.1=0/\(kg p.2.2.1.1).1=0)\/(p.1≠0/\p.2.2.1.1=[])
 places:Placed p.2.2.1.1
theorem zg {c at_:Int}(hc:c≠0):ParsedOk (c,at_,([],()),()):=⟨(λ_ h=>nomatch h),aX _, .inr ⟨hc,rfl⟩,(λ_ h=>nomatch h),(λ_ h=>nomatch h)⟩
theorem Qj {out:List cZ.den}{P:cZ.den->Prop}(h:∀t∈out,P t)(h0:P (cZ.Xk))(a:Nat):P (tkA out a):=by
 unfold tkA at_;rw[bq]
 rcases bG a out.length with hl|hl
 ·rw[aG,aJ hl];exact h _ (bm hl)
 ·rw[aG,bM hl];exact h0
theorem KJ {out:List cZ.den}{a:Nat}(h:a<out.length):tkA out a=out[a]:=by
 unfold tkA at_;rw[bq,aG,aJ h];rfl
theorem Ww {s:LI}(hs:s.length<=65536){out:List cZ.den}{line:Nat}(S0:out.length<=s.length)(hq:∀t∈out,W9 s t)(VF:Srt out s.length):∃G:Toks,G.out=out/\G.tS=out++[Va s line]/\Ord G.out s.length:=by
 have FJ:∀k∈out.map kd,0<=k/\k<=78:=λk hk=>by
  obtain⟨t,ht,rfl⟩:=cG.1 hk;obtain⟨i,e,l,_,_,⟨h1,h2⟩,_⟩:=hq t ht;exact⟨by omega,h2⟩
 have hO:Ord out s.length:=by
  refine⟨λb hb=> ?_,λb c aX5 hc=> ?_⟩
  ·rw[KJ hb];obtain⟨i,e,l,⟨h1,h2,h3⟩,⟨e1,e2,e3⟩,_⟩:=hq _ (bm hb);have e1:frT out[b]=(i:Int):=e1;have e2:toT out[b]=(e:Int):=e2;omega
  ·rw[KJ (by omega:b<out.length),KJ hc];exact List.pairwise_iff_getElem.1 VF.2 b c (by omega) hc aX5
 refine⟨⟨out,Va s line,rfl,by omega,λa=> ?_,Qj (P:=λt=>∀c∈t.2.2.2.2.2.1,isByte c) (λt ht=> ?_) (λ_ h=>nomatch h),Qj (P:=TokR) (λt ht=> ?_) ⟨by decide,by decide,by decide,by decide⟩⟩,rfl,rfl,hO⟩
 ·unfold KA
  rcases bG a (out.map kd).length with h|h
  ·rw[aG,aJ h];exact FJ _ (bm h)
  ·rw[aG,bM h];exact⟨by decide,by decide⟩
 ·obtain⟨i,e,l,_,_,_,_,h⟩:=hq t ht;exact h
 ·obtain⟨i,e,l,⟨h1,h2,h3⟩,⟨e1,e2,e3⟩,_,h4,_⟩:=hq t ht;exact⟨by rw[e1];exact⟨by omega,by omega⟩,by rw[e2];exact⟨by omega,by omega⟩,by rw[e3];exact⟨by omega,by omega⟩,h4⟩
theorem OU {s:LI}(Iq:∀c∈s,isByte c):dV (λr=>ParsedOk r.1) λT=>BM T s:=by
 refine .up (λT=>IY T s) (.ite (λ_=> .ret (zg (by decide))) λhs=> ?_);have hs:s.length<=65536:=(by omega)
 rcases Qr hs Iq with⟨p,hp⟩|⟨out,b,line,hf,hg,S0,aK9,hq,VF,ht⟩
 ·exact .then hp (.yes (ab (show(0:Int)<=(p:Int)by omega)) (.ret (zg (by decide))))
 obtain⟨G,rfl,hS,hO⟩:=Ww (line:=line) hs S0 hq VF;have hA:Ac G.out [100] 0:=⟨b,by rw[cc];exact hf,hg⟩
 refine .then ht (.no (show I ((0:Int)<= -1)=ar by decide) ?_)
 rw[<-hS];have pH:=Na (a:=0) (nd:=[]) (.inr ⟨rfl,rfl⟩) (λa' _=>(Y5 G (G.out.length+1) a' (by omega)).s) (by omega) (by simp) hA
 have hb:dV (λr:(List Node×Unit)×Unit×Unit×Unit=>(∀x∈r.1.1,NW x)/\r.1.1.length<=300000/\Placed r.1.1) λT=>xi T s G.tS:=by
  refine .up (λT=>Fm T s _) (.bind pH ?_);rintro⟨xs,_,u⟩ ⟨a1,nd,rfl,M,k,pa⟩;have hn:=M.len (by simp);have we:=M.ok (λ_ h=>nomatch h);have VI:xs.length+0<=a1:=k.le;have hGl:=G.len;have aD9:=M.top;refine .yes (dE (by show nd.length+1<=_;unfold lim;omega)) (.ret ⟨λx hx=> ?_, ?_, ?_⟩)
  ·rcases aL.1 hx with hx|hx
   ·exact(we x hx).g
   ·rw[bD.1 hx];exact⟨⟨(λ_ h=>nomatch h),(λ_ h=>nomatch h),aX _,by show xs.length<=_;omega⟩,by show rg 1;decide,by show rg 0;decide,⟨by show _<=(s.length:Int);omega,by show(s.length:Int)<=_;omega⟩,by show rg 1;decide,by show rg 0;decide,by show rg 0;decide⟩
  ·show(nd++[_]).length<=_;have:=M.Z9;rw[ax];simp only[az,aB]at*;omega
  ·have key:∀x∈nd++[((1,0,(s.length:Int),1,0,0,([]:LI),[],xs,()):Node)],KdP (nd++[((1,0,(s.length:Int),1,0,0,([]:LI),[],xs,()):Node)]) (PU x) (cP x) (toN x)/\0<=frN x:=λx hx=>by
    rcases aL.1 hx with hx|hx
    ·obtain⟨g,b,c,p1,p2,p3,p4,p5,p6⟩:=we x hx;exact RT hO ⟨g,b,c,p1,p2,p3,p4,p5,p6.ext⟩
    ·rw[bD.1 hx];obtain⟨M0,k1,_,k3⟩:=JT (L:=0) hO (k.ext (l:=[((1,0,(s.length:Int),1,0,0,([]:LI),[],xs,()):Node)])) aD9 (λc _ hc=>(hO.lt c hc).1);refine⟨k1.up ?_,bF _⟩;show M0<=(s.length:Int)
     rcases k3 with rfl|⟨c,hc,rfl⟩
     ·omega
     ·exact(hO.lt c (by omega)).2.2
   exact⟨λx hx=>(key x hx).1,λx hx=>(key x hx).2⟩
 refine .bind hb ?_;rintro⟨⟨ns,u1⟩,u⟩ ⟨h1,h2,h3⟩
 have hN:∀x∈ns,NodeOk x:=λx hx=>(h1 x hx).1
 have h1:∀x∈ns,NW x:=h1
 have Vj:Evt λn=>(jZ (S.tab n) (ns,u1)).map (λy=>(y.1,((ns,u1),())))=J (kg ns,((ns,u1),())):=(qn hN).mono λn h=>by
  have h:jZ (S.tab n) (ns,u1)=_:=h;rw[h];rfl
 refine .then Vj (.brk (λ_=> .ret (zg (by decide))) λhc=> .ret ⟨h1,h2, .inl ⟨rfl, ?_⟩,h3⟩)
 have hc:(!I ((kg ns).1=0))=false:=hc;simpa using hc
end Go.Abs.D
end

section
namespace Go.Abs.D
theorem Zf (x:Int):0<=intBits .and .u64 x 255/\intBits .and .u64 x 255<=255:=by
 have h:(cw 64 x&&&cw 64 255).toNat<=255:=by rw[BitVec.toNat_and];exact bX Nat.and_le_right (by decide)
 have e:intBits .and .u64 x 255=aH.wrap (cw 64 x&&&cw 64 255).toNat:=rfl;rw[e,Dd _ (by omega) (by omega)];omega
abbrev vZ:Type:=LI×Int×Int×Int×Unit
structure CurOk (c:vZ):Prop where
 code:∀b∈c.1,isByte b
 aL8:0<=c.2.1
 lg:0<=c.2.2.2.1/\c.2.2.2.1<=3
structure Nx (c:vZ)(j:Int)(c':vZ):Prop where
 ok:CurOk c'
 le:c.2.1<=c'.2.1
 ge:c'.2.1<=c.2.1+j
theorem Nx.refl {c:vZ}(h:CurOk c):Nx c 0 c:=⟨h,by omega,by omega⟩
theorem Nx.trans {a b c:vZ}{i j:Int}(h:Nx a i b)(k:Nx b j c):Nx a (i+j) c:=⟨k.ok,by have:=h.le;have:=k.le;omega,by have:=h.ge;have:=k.ge;omega⟩
theorem Nx.mono {a b:vZ}{i j:Int}(h:Nx a i b)(k:i<=j):Nx a j b:=⟨h.ok,h.le,by have:=h.ge;omega⟩
variable{c:vZ}
theorem D5 (h:CurOk c)(hk:c.2.1+1<=4611686018427387904):dV (λr=>(0<=r.1/\r.1<=255)/\Nx c 1 r.2.1) λT=>ni T c:=by
 have h0:=h.aL8;have hw:aq.wrap (c.2.1+1)=c.2.1+1:=wrap64 _ (by omega) (by omega);refine .up (λT=>Bu T c) (.ite (λhb=> .yes (inb h0 hb) (.ret ⟨?_,⟨h.code, ?_,h.lg⟩, ?_, ?_⟩)) λhb=> .ret ⟨?_,⟨h.code, ?_,h.lg⟩, ?_, ?_⟩)
 ·have:=h.code _ (HV (d:=0) h0 hb);unfold isByte at this;dsimp only;rw[wrap64 _ (by omega) (by omega)];omega
 all_goals try(dsimp only;omega)
 have:=Zf ((aH.wrap ((aH.wrap (c.2.2.1*6364136223846793005))+1442695040888963407)).fdiv (2^min ((40:Int).toNat) aH.bits));dsimp only;rw[wrap64 _ (by omega) (by omega)];omega
theorem iU (h:CurOk c)(hk:c.2.1+2<=4611686018427387904){n:Int}(h1:1<=n)(h2:n<=1000000000):dV (λr=>(0<=r.1/\r.1<n)/\Nx c 2 r.2.1) λT=>dh T c n:=by
 have tm:∀a:Int,0<=a->0<=a.tmod n/\a.tmod n<n:=λa ha=>⟨Int.tmod_nonneg _ ha,Int.tmod_lt_of_pos _ (by omega)⟩
 refine .up (λT=>Bz T c n) (.ite (λhb=> .ret ⟨by dsimp only;omega,(Nx.refl h).mono (by omega)⟩) λhb=> .bind (D5 h (by omega)) λd hd=> .ite (λh2=> .bind (D5 hd.2.ok (by have:=hd.2.ge;omega)) λe he=> .yes (ab (by omega)) (.ret ⟨?_,hd.2.trans he.2⟩)) λh2=> .yes (ab (by omega)) (.ret ⟨tm _ hd.1.1,hd.2.mono (by omega)⟩));have:=hd.1;have:=he.1;dsimp only;rw[wrap64 (d.1*256) (by omega) (by omega),wrap64 _ (by omega) (by omega)];exact tm _ (by omega)
theorem O8 (h:CurOk c)(hk:c.2.1+4<=4611686018427387904):dV (λr=>(-9223372036854775808<=r.1/\r.1<=9223372036854775807)/\Nx c 4 r.2.1) λT=>qX T c:=by
 refine .up (λT=>Am T c) (.bind (iU h (by omega) (by decide) (by decide)) λd hd=> ?_)
 have L6:d.2.1.2.1+2<=4611686018427387904:=by have:=hd.2.ge;omega
 refine .ite (λ_=> .bind (iU hd.2.ok L6 (by decide) (by decide)) λe he=> .ret ⟨?_,hd.2.trans he.2⟩) λ_=> .ite (λ_=> .bind (iU hd.2.ok L6 (by decide) (by decide)) λe he=> .ret ⟨?_,hd.2.trans he.2⟩) λ_=> .ite (λ_=> .bind (iU hd.2.ok L6 (by decide) (by decide)) λe he=> .ret ⟨?_,hd.2.trans he.2⟩) λ_=> .bind (iU hd.2.ok L6 (by decide) (by decide)) λe he=> .ret ⟨?_,hd.2.trans he.2⟩
 all_goals
  have:=he.1;dsimp only;rw[wrap64 _ (by omega) (by omega)];omega
theorem Hu:∀(n:Nat) {c:vZ} (acc:LI),CurOk c->c.2.1+n<=4611686018427387904->n<=1000->acc.length+n<=1000000->(∀b∈acc,isByte b)->
  dV (λr=>∃c' bs,r=an (c',bs,())/\Nx c n c'/\bs.length=acc.length+n/\∀b∈bs,isByte b) λT=>mr T c n acc
 |0,c,acc,h,hk,hn,ha,hb=> .up (λT=>qj T c _ acc) (.no (aa (by omega)) (.ret ⟨c,acc,rfl,Nx.refl h,rfl,hb⟩))
 |n+1,c,acc,h,hk,hn,ha,hb=>by
  refine .up (λT=>qj T c _ acc) (.yes (ab (by omega)) (.bind (D5 h (by omega)) λd hd=> .yes (dE (by unfold lim;simp;omega)) ?_));have hw:aN.wrap d.1=d.1:=xX _ hd.1.1 (by have:=hd.1;omega);rw[hw,show aq.wrap (((n+1:Nat):Int) - 1)=(n:Int)by rw[wrap64 _ (by omega) (by omega)];omega];refine(Hu n (acc++[d.1]) hd.2.ok ?_ (by omega) (by simp;omega) ?_).mono ?_
  ·have:=hd.2.ge;omega
  ·intro b hm
   rcases aL.1 hm with hm|hm
   ·exact hb b hm
   ·rw[bD.1 hm];have:=hd.1;exact⟨by omega,by omega⟩
  ·rintro r ⟨c',bs,rfl,k1,k2,k3⟩;exact⟨c',bs,rfl,(hd.2.trans k1).mono (by omega),by rw[k2];simp;omega,k3⟩
end Go.Abs.D
end

section
namespace Go.Abs.D
variable{c:vZ}
structure Txt (n:Nat)(s:LI):Prop where
 len:s.length<=n
 am8:∀b∈s,isByte b
theorem K9 (n:Int):isByte (byte n):=by unfold byte isByte;omega
theorem Mo (h:CurOk c){n:Int}(h0:0<=n)(h1:n<=1000)(hk:c.2.1+n<=4611686018427387904):dV (λr=>Txt n.toNat r.1/\Nx c n r.2.1) λT=>qY T c n:=by
 obtain⟨m,rfl⟩:∃m:Nat,n=m:=⟨n.toNat,by omega⟩;refine .up (λT=>Au T c _) (.bind (Hu m [] h hk (by omega) (by simp;omega) (by simp)) ?_);rintro _ ⟨c',bs,rfl,k1,k2,k3⟩;refine .ret ⟨⟨by simp at k2⊢;omega,λb hb=> ?_⟩,k1⟩;obtain⟨x,_,rfl⟩:=cG.1 hb;exact K9 x
theorem G8 (h:CurOk c):∀(m:Nat) {s:LI},m<=9->s.length*2^m=5120->(∀b∈s,isByte b)->dV (λr=>∃s',r=an (c,s',())/\s'.length=5120/\∀b∈s',isByte b) λT=>mQ T c s
 |0,s,_,hl,hb=> .up (λT=>qO T c s) (.no (aa (by rw[Nat.pow_zero]at hl;omega)) (.ret ⟨s,rfl,by rw[Nat.pow_zero]at hl;omega,hb⟩))
 |m+1,s,hm,hl,hb=>by
  rw[Nat.pow_succ,Nat.mul_comm _ 2,<-Nat.mul_assoc]at hl;have h1:1<=2^m:=Nat.one_le_two_pow
  have h2:s.length*2<=5120:=by rw[<-hl];exact Nat.le_mul_of_pos_right _ h1
  refine .up (λT=>qO T c s) (.yes (ab (by omega)) (.yes (dE (by unfold lim;omega)) (G8 h m (by omega) (by rw[ax,<-Nat.mul_two];exact hl) λb hm=> ?_)))
  rcases aL.1 hm with hm|hm<;>exact hb b hm
theorem S5 (h:CurOk c)(hk:c.2.1+9<=4611686018427387904):dV (λr=>Txt 4001 r.1/\Nx c 9 r.2.1) λT=>uu T c:=by
 refine .up (λT=>CB T c) (.bind (iU h (by omega) (by decide) (by decide)) λd hd=> ?_)
 have aJ2:d.2.1.2.1+7<=4611686018427387904:=by have:=hd.2.ge;omega
 have text:Txt 4001 [116,101,120,116]:=⟨by decide,by show∀b∈_,0<=b/\b<256;decide⟩;have aX4:Txt 4001 [97,34,98,92,99,10,100,9,101]:=⟨by decide,by show∀b∈_,0<=b/\b<256;decide⟩
 refine .ite (λ_=> .ret ⟨⟨by simp,by simp⟩,hd.2.mono (by omega)⟩) λ_=> .ite (λ_=> .bind (iU hd.2.ok (by omega) (by decide) (by decide)) λe he=> .bind (Mo he.2.ok he.1.1 (by have:=he.1;omega) (by have:=he.2.ge;have:=he.1;omega)) λf hf=> .ret ⟨⟨bX hf.1.len (by have:=he.1;omega),hf.1.am8⟩,((hd.2.trans he.2).trans hf.2).mono (by have:=he.1;omega)⟩) λ_=>
  .ite (λ_=> .ret ⟨aX4,hd.2.mono (by omega)⟩) λ_=> .ite (λ_=> .bind (iU hd.2.ok (by omega) (by decide) (by decide)) λe he=> ?_) λ_=> .ret ⟨text,hd.2.mono (by omega)⟩
 have hg:=he.2.ge
 refine .ite (λ_=> .ite (λhl=> ?_) λ_=> .ret ⟨text,(hd.2.trans he.2).mono (by omega)⟩) λ_=> .ret ⟨text,(hd.2.trans he.2).mono (by omega)⟩
 have hlg:=he.2.ok.lg;have hn:CurOk (e.2.1.1,e.2.1.2.1,e.2.1.2.2.1,aq.wrap (e.2.1.2.2.2.1+1),()):=⟨he.2.ok.code,he.2.ok.aL8,by dsimp only;rw[wrap64 _ (by omega) (by omega)];omega⟩;refine .bind (G8 hn 9 (by decide) (by decide) (by show∀b∈_,0<=b/\b<256;decide)) ?_;rintro _ ⟨s,rfl,hs,hb⟩
 refine .bind (iU hn (by dsimp only;omega) (by decide) (by decide)) λf hf=> ?_
 have an9:=hf.1;have hw:aq.wrap (3999+f.1)=3999+f.1:=wrap64 _ (by omega) (by omega);refine .yes (by dsimp only;rw[hw];unfold bounds;rw[ab (show(0:Int)<=0 by omega),ab (show 0<=3999+f.1 by omega),ab (show 3999+f.1<=(s.length:Int)by omega)];rfl) (.ret ⟨⟨?_,λb h=> ?_⟩,⟨hf.2.ok, ?_, ?_⟩⟩)
 ·dsimp only;rw[hw];unfold sub;simp;omega
 ·dsimp only at h;rw[hw]at h;unfold sub at h;exact hb b (cC (cD h))
 ·have:=hd.2.le;have:=he.2.le;have:=hf.2.le;dsimp only at*;omega
 ·have:=hd.2.ge;have:=hf.2.ge;dsimp only at*;omega
theorem Ad {L:List LI}(hL:∀s∈L,Txt 40 s){i:Int}(h0:0<=i)(h1:i<L.length):Txt 40 (L.getD i.toNat []):=hL _ (HV h0 h1)
theorem z6 {L:List LI}(h:(L.all λs=>a10 s.length 40&&s.all λb=>I (0<=b)&&I (b<256))=av):∀s∈L,Txt 40 s:=λs hs=>by
 have:=aW.1 h s hs;simp only[aA,aW,ae]at this;exact⟨aP this.1,λb hb=>this.2 b hb⟩
end Go.Abs.D
end

section
namespace Go.Abs.D
abbrev BT:Type:=vZ×List Node×Int×Unit
def E4 (x:Node):Prop:=NodeOk x/\ -9223372036854775808<=x.2.2.2.2.2.1/\x.2.2.2.2.2.1<=9223372036854775807
structure Pre (b:BT)(N s:Int):Prop where
 cur:CurOk b.1
 sum:b.1.2.1+20*b.2.2.1<=s
 top:s<=1000000000000000
 all:0<=b.2.2.1+b.2.1.length/\b.2.2.1+b.2.1.length<=1000
 nodes:∀x∈b.2.1,E4 x
 low: -1000000000000+N<=b.2.2.1
 n0:0<=N/\N<=1000000000000
structure BdD (b:BT)(N j:Int)(b':BT):Prop where
 ok:CurOk b'.1
 sum:b'.1.2.1+20*b'.2.2.1<=b.1.2.1+20*b.2.2.1+j
 all:b'.2.2.1+b'.2.1.length=b.2.2.1+b.2.1.length
 nodes:∀x∈b'.2.1,E4 x
 low:min b.2.2.1 10 - N<=b'.2.2.1
 down:b'.2.2.1<=b.2.2.1
structure jw (b:BT)(N j:Int)(i:Int)(b':BT):Prop where
 bd:BdD b N j b'
 i0:0<=i
 i1:i<b'.2.1.length
 lt:b'.2.2.1<b.2.2.1
variable{b0 b b':BT}{N M N0 s0 s j k:Int}
theorem Pre.refl (P:Pre b N s):BdD b 0 0 b:=⟨P.cur,by omega,rfl,P.nodes,by omega,by omega⟩
theorem BdD.trans (h:BdD b0 N j b)(k':BdD b M k b')(hN:0<=N):BdD b0 (N+M) (j+k) b':=
 ⟨k'.ok,by have:=h.sum;have:=k'.sum;omega,k'.all.trans h.all,k'.nodes,by have:=h.low;have:=k'.low;omega,a38 k'.down h.down⟩
theorem BdD.mono (h:BdD b0 N j b)(h1:N<=M)(h2:j<=k):BdD b0 M k b:=
 ⟨h.ok,by have:=h.sum;omega,h.all,h.nodes,by have:=h.low;omega,h.down⟩
theorem BdD.pre (P:Pre b0 N0 s0)(h:BdD b0 N j b)(h1:N+M<=N0)(h2:s0+j<=s)(h3:s<=1000000000000000)(h4:0<=M)(h5:0<=N):Pre b M s:=
 ⟨h.ok,by have:=h.sum;have:=P.sum;omega,h3,by have:=h.all;have:=P.all;omega,h.nodes,by have:=h.low;have:=P.low;have:=P.n0;omega,by have:=P.n0;omega⟩
theorem BdD.at_ (P:Pre b0 N0 s0)(h:BdD b0 N j b)(h1:N<=N0)(h2:j<=1000):b.1.2.1<=30000000000000000/\b.2.1.length<=1000000001000/\ -1000000000000<=b.2.2.1/\b.2.2.1<=1000:=by
 have:=P.sum;have:=P.top;have:=P.all;have:=P.low;have:=P.n0;have:=h.sum;have:=h.all;have:=h.low;have:=h.down;refine⟨by omega,by omega,by omega,by omega⟩
theorem BdD.cur (h:BdD b0 N j b){c':vZ}(k':Nx b.1 k c'):BdD b0 N (j+k) (c',b.2):=
 ⟨k'.ok,by have:=h.sum;have:=k'.ge;dsimp only;omega,h.all,h.nodes,h.low,h.down⟩
theorem pk (P:Pre b0 N0 s0)(h:BdD b0 N j b)(h1:N<=N0)(h2:j<=1000){n:Int}(hn:1<=n)(hm:n<=1000000000):dV (λr=>(0<=r.1/\r.1<n)/\BdD b0 N (j+2) (r.2.1,b.2)) λT=>dh T b.1 n:=
 (iU h.ok (by have:=h.at_ P h1 h2;omega) hn hm).mono λr hr=>⟨hr.1,h.cur hr.2⟩
theorem ad (P:Pre b0 N0 s0)(h:BdD b0 N j b)(h1:N+1<=N0)(h2:j<=1000){x:Node}(hx:E4 x):dV (λr=>BdD b0 (N+1) (j - 20) r.2.1/\0<=r.1/\r.1<r.2.1.2.1.length/\r.2.1.2.2.1<b.2.2.1) λT=>dF T b x:=by
 have ha:=h.at_ P (by omega) h2;have hw:aq.wrap (b.2.2.1 - 1)=b.2.2.1 - 1:=wrap64 _ (by omega) (by omega);have hl:(b.2.1++[x]).length=b.2.1.length+1:=(by simp);refine .up (λT=>Fx T b x) (.yes (dE (by unfold lim;simp;omega)) (.ret ?_));have:=h.sum;have:=h.all;have:=h.low;have:=h.down;dsimp only;rw[hw,hl,wrap64 _ (by omega) (by omega)];refine⟨⟨h.ok,by dsimp only;omega,by dsimp only;rw[hl];omega,λy hy=> ?_,by dsimp only;omega,by dsimp only;omega⟩,by omega,by omega,by omega⟩
 rcases aL.1 hy with hy|hy
 ·exact h.nodes y hy
 ·rw[bD.1 hy];exact hx
theorem oX {k op:Int}{ks:LI}(hk:ks.length<=100):E4 (k,0,0,0,op,0,[],[],ks,()):=⟨⟨by simp,by simp[cW],by simp[cW],by show ks.length<=_;omega⟩,by show(-9223372036854775808:Int)<=0;omega,by show(0:Int)<=9223372036854775807;omega⟩
theorem rJ {k n:Int}{t:LI}{ks:LI}{m:Nat}(ht:Txt m t)(hk:ks.length<=100)(h0: -9223372036854775808<=n)(h1:n<=9223372036854775807):E4 (k,0,0,0,0,n,t,[],ks,()):=⟨⟨ht.am8,by simp[cW],by simp[cW],by show ks.length<=_;omega⟩,h0,h1⟩
theorem uO {k op:Int}{ns:List LI}{ks:LI}(hn:ns.length<=100)(hb:∀m∈ns,Txt 40 m)(hk:ks.length<=100):E4 (k,0,0,0,op,0,[],ns,ks,()):=⟨⟨by simp,λm hm=>(hb m hm).am8,by show ns.length<=_;omega,by show ks.length<=_;omega⟩,by show(-9223372036854775808:Int)<=0;omega,by show(0:Int)<=9223372036854775807;omega⟩
theorem kdD (P:Pre b0 N0 s0)(h:BdD b0 N j b)(h1:N+1<=N0)(h2:j<=1000){k:Int}{ks:LI}(hk:ks.length<=100):dV (λr=>BdD b0 (N+1) (j - 20) r.2.1/\0<=r.1/\r.1<r.2.1.2.1.length/\r.2.1.2.2.1<b.2.2.1) λT=>eX T b k ks:=
 .up (λT=>DN T b k ks) (.bind (ad P h h1 h2 (oX hk)) λr hr=> .ret hr)
theorem sh (P:Pre b0 N0 s0)(h:BdD b0 N j b)(h1:N<=N0)(h2:j<=1000):dV (λr=>Txt 40 r.1/\BdD b0 N (j+2) r.2.1) λT=>im T b:=
 .up (λT=>CD T b) (.bind (pk P h h1 h2 (by decide) (by decide)) λd hd=> .yes (inb hd.1.1 hd.1.2) (.ret ⟨Ad (z6 (by decide)) hd.1.1 hd.1.2,hd.2⟩))
theorem Nn (P:Pre b0 N0 s0)(h1:N<=N0):∀(n:Nat) {b:BT} {j:Int} (acc:List LI),BdD b0 N j b->j+2*n<=1000->n<=50->acc.length+n<=100->(∀m∈acc,Txt 40 m)->
  dV (λr=>∃b' ns,r=an (b',ns,())/\BdD b0 N (j+2*n) b'/\ns.length=acc.length+n/\∀m∈ns,Txt 40 m) λT=>nP T b n acc
 |0,b,j,acc,h,h2,hn,ha,hb=> .up (λT=>rV T b _ acc) (.no (aa (by omega)) (.ret ⟨b,acc,rfl,h.mono (by omega) (by omega),rfl,hb⟩))
 |n+1,b,j,acc,h,h2,hn,ha,hb=>by
  refine .up (λT=>rV T b _ acc) (.yes (ab (by omega)) (.bind (sh P h h1 (by omega)) λd hd=> .yes (dE (by unfold lim;simp;omega)) ?_));rw[show aq.wrap (((n+1:Nat):Int) - 1)=(n:Int)by rw[wrap64 _ (by omega) (by omega)];omega];refine(Nn P h1 n (acc++[d.1]) hd.2 (by omega) (by omega) (by simp;omega) ?_).mono ?_
  ·intro m hm
   rcases aL.1 hm with hm|hm
   ·exact hb m hm
   ·rw[bD.1 hm];exact hd.1
  ·rintro r ⟨b',ns,rfl,k1,k2,k3⟩;exact⟨b',ns,rfl,k1.mono (by omega) (by omega),by rw[k2];simp;omega,k3⟩
theorem nm (P:Pre b0 N0 s0)(h:BdD b0 N j b)(h1:N<=N0)(h2:j<=900){n:Int}(h3:0<=n)(h4:n<=10):dV (λr=>(r.1.length<=100/\∀m∈r.1,Txt 40 m)/\BdD b0 N (j+2*n) r.2.1) λT=>jg T b n:=by
 obtain⟨m,rfl⟩:∃m:Nat,n=m:=⟨n.toNat,by omega⟩;refine .up (λT=>Cd T b _) (.bind (Nn P h1 m [] h (by omega) (by omega) (by simp;omega) (by simp)) ?_);rintro _ ⟨b',ns,rfl,k1,k2,k3⟩;exact .ret ⟨⟨by simp at k2;show ns.length<=100;omega,k3⟩,k1⟩
theorem jw.mk' {i:Int}(h:BdD b0 N j b'/\0<=i/\i<b'.2.1.length/\b'.2.2.1<b.2.2.1)(hd:b.2.2.1<=b0.2.2.1)(h1:N<=M)(h2:j<=k):jw b0 M k i b':=⟨h.1.mono h1 h2,h.2.1,h.2.2.1,by omega⟩
theorem JH (P:Pre b 1 s):dV (λr=>jw b 1 (-7) r.1 r.2.1) λT=>pz T b:=by
 have h:=P.refl
 have key:∀{d:Int×vZ×Unit×Unit} {x:Bool},BdD b 0 2 (d.2.1,b.2)->dV (λr=>(∃b' i,r=an (b',i,())/\jw b 1 (-7) i b')\/∃b',r=aE (an (b',()))/\BdD b 0 2 b') λT=>oL T (d.2.1,b.2) d.1 x:=by
  intro d x hd;refine .up (λT=>Ap T _ _ _) (.brk (λ_=> ?_) λ_=> .ite (λ_=> ?_) λ_=> .ite (λ_=> ?_) λ_=> .ite (λ_=> ?_) λ_=> .ret (.inr ⟨_,rfl,hd⟩))
  ·refine .bind (O8 hd.ok (by have:=hd.at_ P (by omega) (by omega);dsimp only at*;omega)) λe he=> .bind (ad P (hd.cur he.2) (by omega) (by omega) (rJ (m:=0) ⟨by simp,by simp⟩ (by simp) he.1.1 he.1.2)) λr hr=> .ret (.inl ⟨_,_,rfl,jw.mk' hr hd.down (by omega) (by omega)⟩)
  ·exact .bind (pk P hd (by omega) (by omega) (by decide) (by decide)) λe he=> .yes (inb he.1.1 he.1.2) (.bind (ad P he.2 (by omega) (by omega) (rJ (Ad (z6 (by decide)) he.1.1 he.1.2) (by simp) (by omega) (by omega))) λr hr=> .ret (.inl ⟨_,_,rfl,jw.mk' hr hd.down (by omega) (by omega)⟩))
  ·refine .bind (S5 hd.ok (by have:=hd.at_ P (by omega) (by omega);dsimp only at*;omega)) λe he=> .ite (λ_=> ?_) λ_=> ?_
   ·exact .bind (ad P (hd.cur he.2) (by omega) (by omega) (rJ (m:=3) ⟨by decide,by show∀b∈_,0<=b/\b<256;decide⟩ (by simp) (by omega) (by omega))) λr hr=> .ret (.inl ⟨_,_,rfl,jw.mk' hr hd.down (by omega) (by omega)⟩)
   ·exact .bind (ad P (hd.cur he.2) (by omega) (by omega) (rJ he.1 (by simp) (by omega) (by omega))) λr hr=> .ret (.inl ⟨_,_,rfl,jw.mk' hr hd.down (by omega) (by omega)⟩)
  ·exact .bind (ad P hd (by omega) (by omega) (oX (by simp))) λr hr=> .ret (.inl ⟨_,_,rfl,jw.mk' hr hd.down (by omega) (by omega)⟩)
 have rest:∀{y},((∃b' i,y=an (b',i,())/\jw b 1 (-7) i b')\/∃b',y=aE (an (b',()))/\BdD b 0 2 b')->dV (λr:Int×BT×Unit=>jw b 1 (-7) r.1 r.2.1) λT=>dM (λy7:BT×Int×Unit=>J (y7.2.1,y7.1,())) (λy7:BT×Unit=>(im T y7.1).bind λd59=>(dF T d59.2.1 (26,0,0,0,0,0,d59.1,[],[],())).bind λd61=>J (d61.1,d61.2.1,())) y:=by
  rintro y (⟨b',i,rfl,hg⟩|⟨b',rfl,hb⟩)
  ·exact .ret hg
  ·exact .bind (sh P hb (by omega) (by omega)) λd hd=> .bind (ad P hd.2 (by omega) (by omega) (rJ hd.1 (by simp) (by omega) (by omega))) λr hr=> .ret (jw.mk' hr hd.2.down (by omega) (by omega))
 refine .up (λT=>DF T b) (.bind (pk P h (by omega) (by omega) (by decide) (by decide)) λd hd=> .ite (λ_=> ?_) λ_=> .ite (λ_=> .bind (key hd.2) λy hy=>rest hy) λ_=> .bind (key hd.2) λy hy=>rest hy)
 exact .bind (pk P hd.2 (by omega) (by omega) (by decide) (by decide)) λe he=> .bind (ad P he.2 (by omega) (by omega) (oX (by simp))) λr hr=> .ret (jw.mk' hr hd.2.down (by omega) (by omega))
variable{d:Int}
@[reducible] def DrO (b0:BT)(K d:Int)(r:(BT×Int×Unit)⊕(BT×Int×Unit)⊕Empty):Prop:=(∃b' k,r=an (b',k,())/\jw b0 K (-5) k b')\/∃b',r=aE (an (b',d,()))/\BdD b0 0 2 b'
theorem DrO.l {K:Int}{b':BT}{k:Int}(h:BdD b0 N j b'/\0<=k/\k<b'.2.1.length/\b'.2.2.1<b.2.2.1)(hd:b.2.2.1<=b0.2.2.1)(h1:N<=K)(h2:j<= -5):DrO b0 K d (an (b',k,())):= .inl ⟨_,_,rfl,jw.mk' h hd h1 h2⟩
theorem BdD.reset (h:BdD b0 N j b)(hl:6<=b.2.2.1)(k':BdD b M k b')(hM:0<=M):BdD b0 (M+4) (j+k) b':=
 ⟨k'.ok,by have:=h.sum;have:=k'.sum;omega,k'.all.trans h.all,k'.nodes,by have:=k'.low;omega,a38 k'.down h.down⟩
theorem BdD.Wn (h:BdD b0 N j b)(hl:10<=b.2.2.1)(k':BdD b M k b'):BdD b0 M (j+k) b':=
 ⟨k'.ok,by have:=h.sum;have:=k'.sum;omega,k'.all.trans h.all,k'.nodes,by have:=k'.low;omega,a38 k'.down h.down⟩
theorem BdD.pre6 (P:Pre b0 N0 s0)(h:BdD b0 N j b)(hl:6<=b.2.2.1)(h2:s0+j<=s)(h3:s<=1000000000000000)(h4:0<=M)(h5:M<=1000000000000):Pre b M s:=
 ⟨h.ok,by have:=h.sum;have:=P.sum;omega,h3,by have:=h.all;have:=P.all;omega,h.nodes,by omega,by omega⟩
end Go.Abs.D
end

section
namespace Go.Abs.D
variable{b0 b b':BT}{N M N0 s0 s j k e D d:Int}
def XF (e s D:Int):Prop:=∀b d, -5000<=d->d<=D->Pre b e s->dV (λr=>jw b e (-5) r.1 r.2.1) λT=>eB T b d
def YF (M s D:Int):Prop:=∀b d, -5000<=d->d<=D->Pre b M s->dV (λr=>jw b M (-12) r.1 r.2.1) λT=>fR T b d
theorem cl {O:Type}{q:Int}{F:BT->S.Tab->Option (Int×BT×O)}(hf:∀b,Pre b M s->dV (λr=>jw b M (-q) r.1 r.2.1) (F b))(mV:s<=1000000000000000)(hM:0<=M)(P:Pre b0 N0 s0)(h:BdD b0 N j b)(h0:0<=N)(hN:N+M<=N0)(hs:s0+j<=s):
  dV (λr=>BdD b0 (N+M) (j - q) r.2.1/\0<=r.1/\r.1<r.2.1.2.1.length/\r.2.1.2.2.1<b.2.2.1) (F b):=
 (hf b (h.pre P hN hs mV hM h0)).mono λr hr=>⟨(h.trans hr.bd h0).mono (by omega) (by omega),hr.i0,hr.i1,hr.lt⟩
theorem ex (hx:XF e s D)(hd: -5000<=d)(hD:d<=D)(mV:s<=1000000000000000)(he:0<=e)(P:Pre b0 N0 s0)(h:BdD b0 N j b)(h0:0<=N)(hN:N+e<=N0)(hs:s0+j<=s):
  dV (λr=>BdD b0 (N+e) (j - 5) r.2.1/\0<=r.1/\r.1<r.2.1.2.1.length/\r.2.1.2.2.1<b.2.2.1) λT=>eB T b d:=
 cl (F:=λb T=>eB T b d) (λb P=>hx b d hd hD P) mV he P h h0 hN hs
theorem bk (hx:YF e s D)(hd: -5000<=d)(hD:d<=D)(mV:s<=1000000000000000)(he:0<=e)(P:Pre b0 N0 s0)(h:BdD b0 N j b)(h0:0<=N)(hN:N+e<=N0)(hs:s0+j<=s):
  dV (λr=>BdD b0 (N+e) (j - 12) r.2.1/\0<=r.1/\r.1<r.2.1.2.1.length/\r.2.1.2.2.1<b.2.2.1) λT=>fR T b d:=
 cl (F:=λb T=>fR T b d) (λb P=>hx b d hd hD P) mV he P h h0 hN hs
theorem RH (hx:XF e s D)(mV:s<=1000000000000000)(he:1000<=e)(hd: -5000<=d)(hD:d<=D)(P:Pre b (e+1) s):dV (λr=>jw b (e+1) (-5) r.1 r.2.1) λT=>jK T b d:=
 .up (λT=>DG T b d) (.bind (ex hx hd hD mV (by omega) P P.refl (by omega) (by omega) (by omega)) λr hr=> .yes (inb hr.2.1 hr.2.2.1) (.ite (λ_=> .bind (kdD P hr.1 (by omega) (by omega) (by simp)) λq hq=> .ret (jw.mk' hq hr.1.down (by omega) (by omega))) λ_=> .ret (jw.mk' hr (bF _) (by omega) (by omega))))
theorem bs (hx:XF e s D)(hd: -5000<=d)(hD:d<=D)(mV:s<=1000000000000000)(he:1000<=e)(P:Pre b0 N0 s0)(h:BdD b0 N j b)(h0:0<=N)(hN:N+(e+1)<=N0)(hs:s0+j<=s):
  dV (λr=>BdD b0 (N+(e+1)) (j - 5) r.2.1/\0<=r.1/\r.1<r.2.1.2.1.length/\r.2.1.2.2.1<b.2.2.1) λT=>jK T b d:=
 cl (F:=λb T=>jK T b d) (λb P=>RH hx mV he hd hD P) mV (by omega) P h h0 hN hs
theorem ZB (n:Nat)(e:Int):((n+1:Nat):Int)*e=n*e+e:=by
 rw[show((n+1:Nat):Int)=(n:Int)+1 from rfl,Int.add_mul,Int.one_mul]
theorem ZC {n:Int}(h0:0<=n)(h3:n<=3)(he:0<=e):0<=n*e/\n*e<=3*e:=⟨Int.mul_nonneg h0 he,Int.mul_le_mul_of_nonneg_right h3 he⟩
theorem Rf (n:Nat)(h:n<=1000000):aq.wrap (((n+1:Nat):Int) - 1)=(n:Int):=by rw[wrap64 _ (by omega) (by omega)];omega
theorem Nz (hx:XF e s D)(hd: -5000<=d)(hD:d<=D)(mV:s<=1000000000000000)(he:0<=e)(P:Pre b0 N0 s0):∀(n:Nat) {b:BT} {N j:Int} (acc:LI),BdD b0 N j b->0<=N->N+n*e<=N0->s0+j<=s->acc.length+n<=50->
  dV (λr=>∃b' ks,r=an (b',ks,())/\BdD b0 (N+n*e) j b'/\ks.length=acc.length+n) λT=>nU T b n d acc
 |0,b,N,j,acc,h,h0,hN,hs,ha=> .up (λT=>rQ T b _ d acc) (.no (aa (by omega)) (.ret ⟨b,acc,rfl,h.mono (by simp) (by omega),rfl⟩))
 |n+1,b,N,j,acc,h,h0,hN,hs,ha=>by
  have yu:0<=(n:Int)*e:=Int.mul_nonneg (by omega) he;rw[ZB]at hN⊢;refine .up (λT=>rQ T b _ d acc) (.yes (ab (by omega)) (.bind (ex hx hd hD mV he P h h0 (by omega) hs) λr hr=> .yes (dE (by unfold lim;simp;omega)) ?_));rw[Rf n (by omega)];refine(Nz hx hd hD mV he P n (acc++[r.1]) hr.1 (by omega) (by omega) (by omega) (by simp;omega)).mono ?_;rintro q ⟨b',ks,rfl,k1,k2⟩;exact⟨b',ks,rfl,k1.mono (by omega) (by omega),by rw[k2];simp;omega⟩
theorem xs (hx:XF e s D)(hd: -5000<=d)(hD:d<=D)(mV:s<=1000000000000000)(he:0<=e)(P:Pre b0 N0 s0)(h:BdD b0 N j b)(h0:0<=N){n:Int}(hn:0<=n)(aY5:n<=3)(hN:N+3*e<=N0)(hs:s0+j<=s):
  dV (λr=>r.1.length<=3/\BdD b0 (N+3*e) j r.2.1) λT=>kQ T b n d:=by
 obtain⟨m,rfl⟩:∃m:Nat,n=m:=⟨n.toNat,by omega⟩;have hm:=ZC hn aY5 he;refine .up (λT=>Ch T b _ d) (.bind (Nz hx hd hD mV he P m [] h h0 (by omega) hs (by simp;omega)) ?_);rintro _ ⟨b',ks,rfl,k1,k2⟩;exact .ret ⟨by simp at k2;show ks.length<=3;omega,k1.mono (by omega) (by omega)⟩
theorem XS (b:BT)(L:LI)(hL:L.length<=10):∀(m:Nat) (acc:LI) (i:Nat),i+m=L.length->acc.length+m<=50->dV (λr=>∃ks:LI,r=an (b,ks,())/\ks.length<=50) λT=>oK T b acc L (L.length:Int) ↑i
 |0,acc,i,hi,ha=> .up (λT=>sR T b acc L _ _) (.no (aa (by omega)) (.ret ⟨acc,rfl,by omega⟩))
 |m+1,acc,i,hi,ha=>by
  refine .up (λT=>sR T b acc L _ _) (.yes (ab (by omega)) (.yes (inb (by omega) (by omega)) (.yes (dE (by unfold lim;simp;omega)) ?_)));rw[dX (by omega)];exact XS b L hL m _ (i+1) (by omega) (by simp;omega)
theorem Sr (hx:XF e s D)(zK:D<=1000)(hd: -4999<=d)(hD:d - 1<=D)(mV:s<=1000000000000000)(he:1000<=e)(P:Pre b (4*e+2) (s - 100)):dV (λr=>jw b (4*e+2) (-10) r.1 r.2.1) λT=>gQ T b d:=by
 have hw:aq.wrap (d - 1)=d - 1:=wrap64 _ (by omega) (by omega);refine .up (λT=>DE T b d) ?_;rw[hw]
 refine .bind (bs hx (by omega) hD mV he P P.refl (by omega) (by omega) (by omega)) λp hp=> .bind (pk P hp.1 (by omega) (by omega) (by decide) (by decide)) λq hq=> .bind (xs hx (by omega) hD mV (by omega) P hq.2 (by omega) hq.1.1 (by omega) (by omega) (by omega)) λr hr=> .bind (XS r.2.1 r.1 (by omega) r.1.length [p.1] 0 (by omega) (by simp;omega)) ?_
 rintro _ ⟨ks,rfl,hk⟩
 exact .bind (ad P hr.2 (by omega) (by omega) (oX (by omega))) λq hq=> .ret (jw.mk' hq hr.2.down (by omega) (by omega))
theorem ca (hx:XF e s D)(zK:D<=1000)(hd: -4999<=d)(hD:d - 1<=D)(mV:s<=1000000000000000)(he:1000<=e)(P:Pre b0 N0 s0)(h:BdD b0 N j b)(h0:0<=N)(hN:N+(4*e+2)<=N0)(hs:s0+j<=s - 100):
  dV (λr=>BdD b0 (N+(4*e+2)) (j - 10) r.2.1/\0<=r.1/\r.1<r.2.1.2.1.length/\r.2.1.2.2.1<b.2.2.1) λT=>gQ T b d:=
 cl (F:=λb T=>gQ T b d) (λb P=>Sr hx zK hd hD mV he P) (by omega) (by omega) P h h0 hN hs
theorem MJ (hx:XF e s D)(zK:D<=1000)(hd: -4999<=d)(hD:d - 1<=D)(mV:s<=1000000000000000)(he:1000<=e)(P:Pre b0 N0 s0)(hs:s0+20<=s):∀(n:Nat) {b:BT} {N j:Int} (acc:LI),BdD b0 N j b->0<=N->N+n*(2*e+1)<=N0->j<=10->acc.length+n<=50->
  dV (λr=>∃b' ks,r=an (b',ks,())/\BdD b0 (N+n*(2*e+1)) j b'/\ks.length<=acc.length+n) λT=>je T b d acc n
 |0,b,N,j,acc,h,h0,hN,hj,ha=> .up (λT=>r4 T b d acc _) (.no (aa (by omega)) (.ret ⟨b,acc,rfl,h.mono (by simp) (by omega),by omega⟩))
 |n+1,b,N,j,acc,h,h0,hN,hj,ha=>by
  have hw:aq.wrap (d - 1)=d - 1:=wrap64 _ (by omega) (by omega);have yu:0<=(n:Int)*(2*e+1):=Int.mul_nonneg (by omega) (by omega);rw[ZB]at hN⊢
  have go:∀{b':BT} {i:Int},BdD b0 (N+(2*e+1)) j b'->dV (λr=>∃b' ks,r=an (b',ks,())/\BdD b0 (N+(n*(2*e+1)+(2*e+1))) j b'/\ks.length<=acc.length+(n+1)) λT=>je T b' d (acc++[i]) n:=λ{b' i} h'=>by
   refine(MJ hx zK hd hD mV he P hs n (acc++[i]) h' (by omega) (by omega) hj (by simp;omega)).mono ?_;rintro q ⟨XI,ks,rfl,k1,k2⟩;exact⟨XI,ks,rfl,k1.mono (by omega) (by omega),by simp at k2;omega⟩
  refine .up (λT=>r4 T b d acc _) (.yes (ab (by omega)) ?_);rw[hw,Rf n (by omega)]
  refine .bind (ex hx (by omega) hD mV (by omega) P h h0 (by omega) (by omega)) λp hp=> .bind (pk P hp.1 (by omega) (by omega) (by decide) (by decide)) λq hq=> .ite (λ_=> ?_) λ_=> .ite (λ_=> ?_) λ_=> ?_
  ·exact .bind (kdD P hq.2 (by omega) (by omega) (by simp)) λr hr=> .yes (dE (by unfold lim;simp;omega)) (go (hr.1.mono (by omega) (by omega)))
  ·exact .bind (ex hx (by omega) hD mV (by omega) P hq.2 (by omega) (by omega) (by omega)) λu hu=> .bind (kdD P hu.1 (by omega) (by omega) (by simp)) λr hr=> .yes (dE (by unfold lim;simp;omega)) (go (hr.1.mono (by omega) (by omega)))
  ·exact .bind (sh P hq.2 (by omega) (by omega)) λu hu=> .bind (ad P hu.2 (by omega) (by omega) (rJ hu.1 (by simp) (by omega) (by omega))) λr hr=> .yes (dE (by unfold lim;simp;omega)) (go (hr.1.mono (by omega) (by omega)))
theorem OY (hx:XF e s D)(zK:D<=1000)(hd: -4999<=d)(hD:d - 1<=D)(mV:s<=1000000000000000)(he:1000<=e)(P:Pre b (6*e+10) (s - 100)):dV (λr=>jw b (6*e+10) (-10) r.1 r.2.1) λT=>kR T b d:=by
 refine .up (λT=>Cl T b d) (.bind (pk P P.refl (by omega) (by omega) (by decide) (by decide)) λq hq=> ?_);obtain⟨m,hm⟩:∃m:Nat,q.1=m:=⟨q.1.toNat,by omega⟩;have h3:=ZC (e:=2*e+1) hq.1.1 (by omega) (by omega);rw[hm]at h3⊢;refine .bind (MJ hx zK hd hD mV he P (by omega) m [] hq.2 (by omega) (by omega) (by omega) (by simp;omega)) ?_;rintro _ ⟨b',ks,rfl,k1,k2⟩
 exact .bind (ad P k1 (by omega) (by omega) (oX (by simp at k2;omega))) λr hr=> .ret (jw.mk' hr k1.down (by omega) (by omega))
theorem ta (hx:XF e s D)(zK:D<=1000)(hd: -4999<=d)(hD:d - 1<=D)(mV:s<=1000000000000000)(he:1000<=e)(P:Pre b0 N0 s0)(h:BdD b0 N j b)(h0:0<=N)(hN:N+(6*e+10)<=N0)(hs:s0+j<=s - 100):
  dV (λr=>BdD b0 (N+(6*e+10)) (j - 10) r.2.1/\0<=r.1/\r.1<r.2.1.2.1.length/\r.2.1.2.2.1<b.2.2.1) λT=>kR T b d:=
 cl (F:=λb T=>kR T b d) (λb P=>OY hx zK hd hD mV he P) (by omega) (by omega) P h h0 hN hs
theorem WR (hy:YF M s D)(zK:D<=1000)(hd: -4999<=d)(hD:d - 1<=D)(mV:s<=1000000000000000)(he:0<=M)(P:Pre b (M+1) (s - 100)):dV (λr=>jw b (M+1) (-10) r.1 r.2.1) λT=>mL T b d:=by
 have hw:aq.wrap (d - 1)=d - 1:=wrap64 _ (by omega) (by omega);refine .up (λT=>GK T b d) ?_;rw[hw]
 exact .bind (pk P P.refl (by omega) (by omega) (by decide) (by decide)) λp hp=> .bind (nm P hp.2 (by omega) (by omega) hp.1.1 (by omega)) λq hq=> .bind (bk hy (by omega) hD mV he P hq.2 (by omega) (by omega) (by omega)) λr hr=> .bind (pk P hr.1 (by omega) (by omega) (by decide) (by decide)) λu hu=> .bind (ad P hu.2 (by omega) (by omega) (uO hq.1.1 hq.1.2 (by simp))) λv hv=> .ret (jw.mk' hv hu.2.down (by omega) (by omega))
theorem fu (hy:YF M s D)(zK:D<=1000)(hd: -4999<=d)(hD:d - 1<=D)(mV:s<=1000000000000000)(he:0<=M)(P:Pre b0 N0 s0)(h:BdD b0 N j b)(h0:0<=N)(hN:N+(M+1)<=N0)(hs:s0+j<=s - 100):
  dV (λr=>BdD b0 (N+(M+1)) (j - 10) r.2.1/\0<=r.1/\r.1<r.2.1.2.1.length/\r.2.1.2.2.1<b.2.2.1) λT=>mL T b d:=
 cl (F:=λb T=>mL T b d) (λb P=>WR hy zK hd hD mV he P) (by omega) (by omega) P h h0 hN hs
section
variable(hx:XF e s D)(hy:YF M (s - 300) D)(ad2:0<=D)(zK:D<=1000)(mV:s<=1000000000000000)(he:10000<=e)(hM:0<=M)(PZ:M<=10*e)
include hx hy ad2 zK mV he hM PZ
theorem TX (hd: -4999<=d)(hD:d - 1<=D)(P:Pre b0 (20*e) (s - 1000))(h:BdD b0 0 2 b)(i:Int)(x:Bool):dV (DrO b0 (20*e) d) λT=>lO T b d i x:=by
 have hw:aq.wrap (d - 1)=d - 1:=wrap64 _ (by omega) (by omega);have Ye:=h.down;refine .up (λT=>yx T b d i x) ?_;rw[hw];have c1:=ca hx zK hd hD mV (by omega) P h (by omega) (by omega) (by omega);have c2:=ta hx zK hd hD mV (by omega) P h (by omega) (by omega) (by omega);have c3:=fu hy zK hd hD (by omega) hM P h (by omega) (by omega) (by omega);have e0:=ex hx (d:=d - 1) (by omega) hD mV (by omega) P h (by omega) (by omega) (by omega);have bb:=bs hx (d:=d - 1) (by omega) hD mV (by omega) P h (by omega) (by omega) (by omega)
 have last:dV (DrO b0 (20*e) d) λT=>brk (I (i=11)) ((kR T b d).bind λd125=>J (an (d125.2.1,d125.1,()))) (brk (I (i=12)) ((mL T b d).bind λd130=>J (an (d130.2.1,d130.1,()))) (J (aE (an (b,d,()))))):=
  .ite (λ_=> .bind c2 λr hr=> .ret (.inl ⟨_,_,rfl,jw.mk' hr Ye (by omega) (by omega)⟩)) λ_=> .ite (λ_=> .bind c3 λr hr=> .ret (.inl ⟨_,_,rfl,jw.mk' hr Ye (by omega) (by omega)⟩)) λ_=> .ret (.inr ⟨_,rfl,h⟩)
 refine .brk (λ_=> .bind e0 λp hp=> .bind (pk P hp.1 (by omega) (by omega) (by decide) (by decide)) λq hq=> .bind (ad P hq.2 (by omega) (by omega) (oX (by simp))) λr hr=> .ret (.inl ⟨_,_,rfl,jw.mk' hr hq.2.down (by omega) (by omega)⟩)) λ_=>
  .ite (λ_=> .bind bb λp hp=> .bind (ex hx (by omega) hD mV (by omega) P hp.1 (by omega) (by omega) (by omega)) λq hq=> .bind (kdD P hq.1 (by omega) (by omega) (by simp)) λr hr=> .ret (.inl ⟨_,_,rfl,jw.mk' hr hq.1.down (by omega) (by omega)⟩)) λ_=>
  .ite (λ_=> .bind bb λp hp=> .bind (sh P hp.1 (by omega) (by omega)) λq hq=> .bind (ad P hq.2 (by omega) (by omega) (rJ hq.1 (by simp) (by omega) (by omega))) λr hr=> .ret (.inl ⟨_,_,rfl,jw.mk' hr hq.2.down (by omega) (by omega)⟩)) λ_=>
  .ite (λ_=> .ite (λ_=> .bind c1 λr hr=> .ret (.inl ⟨_,_,rfl,jw.mk' hr Ye (by omega) (by omega)⟩)) λ_=>last) λ_=> .ite (λ_=> .bind c1 λr hr=> .ret (.inl ⟨_,_,rfl,jw.mk' hr Ye (by omega) (by omega)⟩)) λ_=>last
theorem WK (hd: -4999<=d)(hD:d - 1<=D)(P:Pre b0 (20*e) (s - 1000))(h:BdD b0 0 2 b)(i:Int)(x:Bool):dV (DrO b0 (20*e) d) λT=>jC T b d i x:=by
 have hw:aq.wrap (d - 1)=d - 1:=wrap64 _ (by omega) (by omega);refine .up (λT=>Ak T b d i x) ?_;rw[hw];have e0:=ex hx (d:=d - 1) (by omega) hD mV (by omega) P h (by omega) (by omega) (by omega)
 have go:∀x,dV (DrO b0 (20*e) d) λT=>(lO T b d i x).bind (dM (λJh=>J (an Jh)) (λJh=>J (aE (an Jh)))):=λx=>by
  refine .bind (TX hx hy ad2 zK mV he hM PZ hd hD P h i x) ?_;rintro _ (⟨b',k,rfl,hg⟩|⟨b',rfl,hb⟩)
  ·exact .ret (.inl ⟨_,_,rfl,hg⟩)
  ·exact .ret (.inr ⟨_,rfl,hb⟩)
 exact .brk (λ_=> .bind e0 λp hp=> .bind (ex hx (by omega) hD mV (by omega) P hp.1 (by omega) (by omega) (by omega)) λq hq=> .bind (pk P hq.1 (by omega) (by omega) (by decide) (by decide)) λr hr=> .bind (ad P hr.2 (by omega) (by omega) (oX (by simp))) λu hu=> .ret (.inl ⟨_,_,rfl,jw.mk' hu hr.2.down (by omega) (by omega)⟩)) λ_=>
  .ite (λ_=> .bind e0 λp hp=> .bind (ex hx (by omega) hD mV (by omega) P hp.1 (by omega) (by omega) (by omega)) λq hq=> .bind (pk P hq.1 (by omega) (by omega) (by decide) (by decide)) λr hr=> .bind (kdD P hr.2 (by omega) (by omega) (by simp)) λu hu=> .ret (.inl ⟨_,_,rfl,jw.mk' hu hr.2.down (by omega) (by omega)⟩)) λ_=>
  .ite (λ_=>go _) λ_=>go _
theorem Jz:XF (20*e) (s - 1000) (D+1):=by
 intro b d hd hD P
 have at_:dV (λr:Int×BT×Unit×Unit=>jw b (20*e) (-5) r.1 r.2.1) λT=>(pz T b).bind λd29=>J (d29.1,d29.2.1,(),()):= .bind (JH (s:=s - 1000) (P.refl.pre P (by omega) (by omega) (by omega) (by omega) (by omega))) λr hr=> .ret ⟨hr.bd.mono (by omega) (by omega),hr.i0,hr.i1,hr.lt⟩
 refine .up (λT=>wJ T b d) (.ite (λ_=>at_) λh1=> .ite (λ_=>at_) λh2=> .bind (pk P P.refl (by omega) (by omega) (by decide) (by decide)) λq hq=> ?_);have h:=hq.2
 have go:∀x,dV (λr:Int×BT×Unit×Unit=>jw b (20*e) (-5) r.1 r.2.1) λT=>(jC T (q.2.1,b.2) d q.1 x).bind (dM (λy9=>J (y9.2.1,y9.1,(),())) (λy9=>(hY T y9.1 y9.2.1).bind (dB (λN9=>J (N9.2.1,N9.1,(),()))))):=λx=>by
  refine .bind (WK hx hy ad2 zK mV he hM PZ (by omega) (by omega) P (h.mono (by omega) (by omega)) q.1 x) ?_;rintro _ (⟨b',k,rfl,hg⟩|⟨b',rfl,hb⟩)
  ·exact .ret hg
  ·have aT6:dV (λr=>∃XI k,r=an (XI,k,())/\jw b (20*e) (-5) k XI) λT=>hY T b' d:=
    .up (λT=>yH T b' d) (.bind (ca hx zK (by omega) (by omega) mV (by omega) P hb (by omega) (by omega) (by omega)) λr hr=> .bind (kdD P hr.1 (by omega) (by omega) (by simp)) λu hu=> .ret ⟨_,_,rfl,jw.mk' hu hr.1.down (by omega) (by omega)⟩)
   refine .bind (H:=λT=>hY T b' d) aT6 ?_;rintro _ ⟨XI,k,rfl,hg⟩;exact .ret hg
 exact .ite (λ_=>go _) λ_=> .ite (λ_=>go _) λ_=> .ite (λ_=>go _) λ_=>go _
end
end Go.Abs.D
end

section
namespace Go.Abs.D
variable{b0 b b':BT}{N M N0 s0 s j k e e1 D d:Int}
theorem wk {k a n:Int}(ha:0<=a/\a<n)(hk:0<=k/\k+n<=1000000):aq.wrap (k+a)=k+a:=wrap64 _ (by omega) (by omega)
theorem Mp (hx:XF e s D)(zK:D<=1000)(hd: -4999<=d)(hD:d - 1<=D)(mV:s<=1000000000000000)(he:1000<=e)(P:Pre b (2*e+3) (s - 100)):dV (λr=>jw b (2*e+3) (-10) r.1 r.2.1) λT=>mZ T b d:=by
 have hw:aq.wrap (d - 1)=d - 1:=wrap64 _ (by omega) (by omega);refine .up (λT=>Bv T b d) ?_;rw[hw]
 refine .bind (pk P P.refl (by omega) (by omega) (by decide) (by decide)) λq hq=> .ite (λ_=> ?_) λ_=> .ite (λ_=> ?_) λ_=> ?_
 ·exact .bind (bs hx (by omega) hD mV he P hq.2 (by omega) (by omega) (by omega)) λp hp=> .bind (ex hx (by omega) hD mV (by omega) P hp.1 (by omega) (by omega) (by omega)) λu hu=> .bind (kdD P hu.1 (by omega) (by omega) (by simp)) λr hr=> .ret (jw.mk' hr hu.1.down (by omega) (by omega))
 ·exact .bind (bs hx (by omega) hD mV he P hq.2 (by omega) (by omega) (by omega)) λp hp=> .bind (sh P hp.1 (by omega) (by omega)) λu hu=> .bind (ad P hu.2 (by omega) (by omega) (rJ hu.1 (by simp) (by omega) (by omega))) λr hr=> .ret (jw.mk' hr hu.2.down (by omega) (by omega))
 ·exact .bind (sh P hq.2 (by omega) (by omega)) λu hu=> .bind (ad P hu.2 (by omega) (by omega) (rJ hu.1 (by simp) (by omega) (by omega))) λr hr=> .ret (jw.mk' hr hu.2.down (by omega) (by omega))
theorem tg (hx:XF e s D)(zK:D<=1000)(hd: -4999<=d)(hD:d - 1<=D)(mV:s<=1000000000000000)(he:1000<=e)(P:Pre b0 N0 s0)(h:BdD b0 N j b)(h0:0<=N)(hN:N+(2*e+3)<=N0)(hs:s0+j<=s - 100):
  dV (λr=>BdD b0 (N+(2*e+3)) (j - 10) r.2.1/\0<=r.1/\r.1<r.2.1.2.1.length/\r.2.1.2.2.1<b.2.2.1) λT=>mZ T b d:=
 cl (F:=λb T=>mZ T b d) (λb P=>Mp hx zK hd hD mV he P) (by omega) (by omega) P h h0 hN hs
theorem MM (hx:XF e s D)(zK:D<=1000)(hd: -4999<=d)(hD:d - 1<=D)(mV:s<=1000000000000000)(he:1000<=e)(P:Pre b0 N0 s0)(n:Nat)(hn:n<=10):∀(m:Nat) {b:BT} {N j:Int} (acc:LI) (i:Nat),BdD b0 N j b->0<=N->N+m*(2*e+3)<=N0->s0+j<=s - 100->acc.length+m<=50->i+m=n->
  dV (λr=>∃b' ks,r=an (b',d,ks,(n:Int),())/\BdD b0 (N+m*(2*e+3)) j b'/\ks.length<=acc.length+m) λT=>nO T b d acc n i
 |0,b,N,j,acc,i,h,h0,hN,hs,ha,hi=> .up (λT=>rT T b d acc _ _) (.no (aa (by omega)) (.ret ⟨b,acc,rfl,h.mono (by simp) (by omega),by omega⟩))
 |m+1,b,N,j,acc,i,h,h0,hN,hs,ha,hi=>by
  have yu:0<=(m:Int)*(2*e+3):=Int.mul_nonneg (by omega) (by omega);rw[ZB]at hN⊢;refine .up (λT=>rT T b d acc _ _) (.yes (ab (by omega)) (.bind (tg hx zK hd hD mV he P h h0 (by omega) hs) λr hr=> .yes (dE (by unfold lim;simp;omega)) ?_));rw[dX (by omega)];refine(MM hx zK hd hD mV he P n hn m (acc++[r.1]) (i+1) hr.1 (by omega) (by omega) (by omega) (by simp;omega) (by omega)).mono ?_;rintro q ⟨b',ks,rfl,k1,k2⟩;exact⟨b',ks,rfl,k1.mono (by omega) (by omega),by simp at k2;omega⟩
theorem UC (b:BT)(z:Int)(L:LI)(hL:L.length<=10):∀(m:Nat) (acc:LI) (i:Nat),i+m=L.length->acc.length+m<=50->dV (λr=>∃ks:LI,r=an (b,ks,z,())/\ks.length<=50) λT=>nR T b acc z L (L.length:Int) ↑i
 |0,acc,i,hi,ha=> .up (λT=>rS T b acc z L _ _) (.no (aa (by omega)) (.ret ⟨acc,rfl,by omega⟩))
 |m+1,acc,i,hi,ha=>by
  refine .up (λT=>rS T b acc z L _ _) (.yes (ab (by omega)) (.yes (inb (by omega) (by omega)) (.yes (dE (by unfold lim;simp;omega)) ?_)));rw[dX (by omega)];exact UC b z L hL m _ (i+1) (by omega) (by simp;omega)
section
variable(IB:XF e1 (s - 1000) (D+1))(hy:YF M (s - 300) D)(zK:D<=900)(mV:s<=1000000000000000)(Z7:10000<=e1)(hM:0<=M)(PZ:M<=e1)
include IB hy zK mV Z7 hM PZ
theorem Mn:∀(m:Nat) (b:BT) (d:Int),m<=1000->b.2.2.1<=m->(m:Int) - 4900<=d->d<=D+1->Pre b (e1+2*M+10+m) (s - 1100)->dV (λr=>jw b (e1+2*M+10+m) (-10) r.1 r.2.1) λT=>ll T b d:=by
 intro m
 induction m using Nat.strongRecOn with
 |_ m ih=>
  intro b d hm hl hd hD P;have hw:aq.wrap (d - 1)=d - 1:=wrap64 _ (by omega) (by omega);refine .up (λT=>Bo T b d) ?_;rw[hw]
  refine .bind (ex IB (by omega) hD (by omega) (by omega) P P.refl (by omega) (by omega) (by omega)) λp hp=> .bind (bk hy (by omega) (by omega) (by omega) hM P hp.1 (by omega) (by omega) (by omega)) λq hq=> .bind (pk P hq.1 (by omega) (by omega) (by decide) (by decide)) λu hu=> ?_
  have fin:∀{O:Type},dV (λr:Int×BT×Unit×Unit=>jw b (e1+2*M+10+m) (-10) r.1 r.2.1) λT=>(dF T (u.2.1,q.2.1.2) (7,0,0,0,0,0,([]:LI),[],([p.1,q.1]:LI),())).bind λd53=>J (d53.1,d53.2.1,(),()):=
   .bind (ad P hu.2 (by omega) (by omega) (oX (by simp))) λw hw=> .ret (jw.mk' hw hu.2.down (by omega) (by omega))
  refine .ite (λ_=> .bind (bk hy (by omega) (by omega) (by omega) hM P hu.2 (by omega) (by omega) (by omega)) λv hv=> .yes (dE (by unfold lim;simp)) (.bind (ad P hv.1 (by omega) (by omega) (oX (by simp))) λw hw=> .ret (jw.mk' hw hv.1.down (by omega) (by omega)))) λ_=> .ite (λ_=> .ite (λAH=> ?_) λ_=>fin (O:=Unit)) λ_=>fin (O:=Unit)
  have kI:q.2.1.2.2.1<b.2.2.1:=by have:=hq.2.2.2;have:=hp.2.2.2;omega
  obtain⟨m',rfl⟩:∃m',m=m'+1:=⟨m - 1,by omega⟩;have P2:Pre (u.2.1,q.2.1.2) (e1+2*M+10+m') (s - 1100):=BdD.pre6 P hu.2 (by dsimp only;omega) (by omega) (by omega) (by omega) (by have:=P.n0;omega);have hr:=ih m' (by omega) (u.2.1,q.2.1.2) (d - 1) (by omega) (by dsimp only;omega) (by omega) (by omega) P2
  refine .bind (H:=λT=>ll T (u.2.1,q.2.1.2) (d - 1)) hr λv hv=> .yes (dE (by unfold lim;simp)) ?_
  have aO3:=hu.2.Wn (by dsimp only;omega) hv.bd
  exact .bind (ad P aO3 (by omega) (by omega) (oX (by simp))) λw hw=> .ret (jw.mk' hw aO3.down (by omega) (by omega))
theorem br (hm:1000<=d+4900)(hD:d<=D+1)(hd:0<=d)(P:Pre b0 N0 s0)(h:BdD b0 N j b)(h0:0<=N)(hN:N+(e1+2*M+1010)<=N0)(hs:s0+j<=s - 1100)(hj:j<=1000):
  dV (λr=>BdD b0 (N+(e1+2*M+1010)) (j - 10) r.2.1/\0<=r.1/\r.1<r.2.1.2.1.length/\r.2.1.2.2.1<b.2.2.1) λT=>ll T b d:=by
 have hl:=(h.at_ P (by omega) hj).2.2.2;have P2:Pre b (e1+2*M+10+(1000:Nat)) (s - 1100):=h.pre P (by omega) hs (by omega) (by omega) h0
 exact(Mn IB hy zK mV Z7 hM PZ 1000 b d (by omega) (by omega) (by omega) hD P2).mono λr hr=>⟨(h.trans hr.bd h0).mono (by omega) (by omega),hr.i0,hr.i1,hr.lt⟩
theorem Tx (hd:1<=d)(hD:d<=D+1)(P:Pre b0 (9*e1) (s - 1200))(h:BdD b0 0 2 b)(i:Int)(x:Bool):dV (DrO b0 (9*e1) d) λT=>lP T b d i x:=by
 have hw:aq.wrap (d - 1)=d - 1:=wrap64 _ (by omega) (by omega);have Ye:=h.down;have e0:=ex IB (d:=d) (by omega) hD (by omega) (by omega) P h (by omega) (by omega) (by omega);refine .up (λT=>yG T b d i x) ?_;rw[hw]
 refine .brk (λ_=> .bind (br IB hy zK mV Z7 hM PZ (by omega) hD (by omega) P h (by omega) (by omega) (by omega) (by omega)) λr hr=> .ret (.l hr Ye (by omega) (by omega))) λ_=>
  .ite (λ_=> ?_) λ_=> .ite (λ_=> ?_) λ_=> .ite (λ_=> ?_) λ_=> .ite (λ_=> ?_) λ_=> .ite (λ_=> ?_) λ_=> .ite (λ_=> ?_) λ_=> .ret (.inr ⟨_,rfl,h⟩)
 ·exact .bind e0 λp hp=> .bind (bk hy (by omega) (by omega) (by omega) hM P hp.1 (by omega) (by omega) (by omega)) λq hq=> .bind (kdD P hq.1 (by omega) (by omega) (by simp)) λr hr=> .ret (.l hr hq.1.down (by omega) (by omega))
 ·refine .bind (pk P h (by omega) (by omega) (by decide) (by decide)) λp hp=> ?_
  rw[wk (k:=2) (n:=2) hp.1 (by omega)]
  exact .bind (xs IB (by omega) hD (by omega) (by omega) P hp.2 (by omega) (by omega) (by omega) (by omega) (by omega)) λq hq=> .bind (bk hy (by omega) (by omega) (by omega) hM P hq.2 (by omega) (by omega) (by omega)) λu hu=> .yes (dE (by unfold lim;simp;omega)) (.bind (nm P hu.1 (by omega) (by omega) (by omega) (by omega)) λv hv=> .bind (ad P hv.2 (by omega) (by omega) (uO hv.1.1 hv.1.2 (by simp;omega))) λr hr=> .ret (.l hr hv.2.down (by omega) (by omega)))
 ·refine .bind e0 λp hp=> .bind (bk hy (by omega) (by omega) (by omega) hM P hp.1 (by omega) (by omega) (by omega)) λq hq=> .bind (pk P hq.1 (by omega) (by omega) (by decide) (by decide)) λu hu=> ?_
  rw[wk (k:=1) (n:=2) hu.1 (by omega)]
  exact .bind (nm P hu.2 (by omega) (by omega) (by omega) (by omega)) λv hv=> .bind (ad P hv.2 (by omega) (by omega) (uO hv.1.1 hv.1.2 (by simp))) λr hr=> .ret (.l hr hv.2.down (by omega) (by omega))
 ·refine .bind (pk P h (by omega) (by omega) (by decide) (by decide)) λp hp=> .ite (λ_=> ?_) λ_=> ?_
  ·exact .bind (pk P hp.2 (by omega) (by omega) (by decide) (by decide)) λq hq=> .bind (kdD P hq.2 (by omega) (by omega) (by simp)) λr hr=> .ret (.l hr hq.2.down (by omega) (by omega))
  ·exact .bind (pk P hp.2 (by omega) (by omega) (by decide) (by decide)) λq hq=> .bind (xs IB (by omega) hD (by omega) (by omega) P hq.2 (by omega) (by omega) (by omega) (by omega) (by omega)) λu hu=> .bind (ad P hu.2 (by omega) (by omega) (oX (by omega))) λr hr=> .ret (.l hr hu.2.down (by omega) (by omega))
 ·refine .bind (bk hy (by omega) (by omega) (by omega) hM P h (by omega) (by omega) (by omega)) λp hp=> .bind (bk hy (by omega) (by omega) (by omega) hM P hp.1 (by omega) (by omega) (by omega)) λq hq=> .bind (pk P hq.1 (by omega) (by omega) (by decide) (by decide)) λu hu=> ?_
  rw[wk (k:=1) (n:=2) hu.1 (by omega)]
  exact .bind (nm P hu.2 (by omega) (by omega) (by omega) (by omega)) λv hv=> .bind (ad P hv.2 (by omega) (by omega) (uO hv.1.1 hv.1.2 (by simp))) λr hr=> .ret (.l hr hv.2.down (by omega) (by omega))
 ·refine .bind (pk P h (by omega) (by omega) (by decide) (by decide)) λp hp=> .ite (λ_=> ?_) λ_=> ?_
  ·exact .bind (bk hy (by omega) (by omega) (by omega) hM P hp.2 (by omega) (by omega) (by omega)) λr hr=> .ret (.l hr hp.2.down (by omega) (by omega))
  ·exact .bind (ex IB (by omega) hD (by omega) (by omega) P hp.2 (by omega) (by omega) (by omega)) λq hq=> .bind (kdD P hq.1 (by omega) (by omega) (by simp)) λr hr=> .ret (.l hr hq.1.down (by omega) (by omega))
theorem Tf (hx:XF e s D)(he:1000<=e)(aw0:20*e<=e1)(hd:1<=d)(hD:d<=D+1)(P:Pre b0 (9*e1) (s - 1200))(h:BdD b0 0 2 b)(i:Int)(x:Bool):dV (DrO b0 (9*e1) d) λT=>j7 T b d i x:=by
 have Ye:=h.down
 have go:∀x,dV (DrO b0 (9*e1) d) λT=>(lP T b d i x).bind (dM (λVf=>J (an Vf)) (λVf=>J (aE (an Vf)))):=λx=>by
  refine .bind (Tx IB hy zK mV Z7 hM PZ hd hD P h i x) ?_;rintro _ (⟨b',k,rfl,hg⟩|⟨b',rfl,hb⟩)
  ·exact .ret (.inl ⟨_,_,rfl,hg⟩)
  ·exact .ret (.inr ⟨_,rfl,hb⟩)
 refine .up (λT=>yz T b d i x) (.brk (λ_=> ?_) λ_=> .ite (λ_=> .bind (ca hx (by omega) (by omega) (by omega) mV he P h (by omega) (by omega) (by omega)) λp hp=> .bind (kdD P hp.1 (by omega) (by omega) (by simp)) λr hr=> .ret (.l hr hp.1.down (by omega) (by omega))) λ_=> .ite (λ_=>go _) λ_=>go _)
 refine .bind (pk P h (by omega) (by omega) (by decide) (by decide)) λp hp=> ?_
 rw[wk (k:=1) (n:=2) hp.1 (by omega)];obtain⟨n,hn⟩:∃n:Nat,1+p.1=n:=⟨(1+p.1).toNat,by omega⟩;have hm:=ZC (n:=n) (e:=2*e+3) (by omega) (by omega) (by omega);rw[hn];refine .bind (MM hx (by omega) (by omega) (by omega) mV he P n (by omega) n [] 0 hp.2 (by omega) (by omega) (by omega) (by simp;omega) (by omega)) ?_;rintro _ ⟨b1,ks,rfl,k1,k2⟩
 refine .bind (pk P k1 (by omega) (by omega) (by decide) (by decide)) λq hq=> ?_
 dsimp only;rw[wk (k:=1) (n:=2) hq.1 (by omega)]
 refine .bind (xs IB (by omega) hD (by omega) (by omega) P hq.2 (by omega) (by omega) (by omega) (by omega) (by omega)) λu hu=> .bind (UC u.2.1 n u.1 (by omega) u.1.length ks 0 (by omega) (by simp at k2;omega)) ?_
 rintro _ ⟨aZ3,rfl,k3⟩
 exact .bind (ad (x:=(5,0,0,0,0,(n:Int),[],[],aZ3,())) P hu.2 (by omega) (by omega) (rJ (m:=0) ⟨by simp,by simp⟩ (by omega) (by omega) (by omega))) λr hr=> .ret (.l hr hu.2.down (by omega) (by omega))
theorem VV (hx:XF e s D)(he:1000<=e)(aw0:20*e<=e1)(hd:1<=d)(hD:d<=D+1)(P:Pre b0 (9*e1) (s - 1200))(h:BdD b0 0 2 b)(i:Int)(x:Bool):dV (DrO b0 (9*e1) d) λT=>mz T b d i x:=by
 have Ye:=h.down
 have go:∀x,dV (DrO b0 (9*e1) d) λT=>(j7 T b d i x).bind (dM (λFK=>J (an FK)) (λFK=>J (aE (an FK)))):=λx=>by
  refine .bind (Tf IB hy zK mV Z7 hM PZ hx he aw0 hd hD P h i x) ?_;rintro _ (⟨b',k,rfl,hg⟩|⟨b',rfl,hb⟩)
  ·exact .ret (.inl ⟨_,_,rfl,hg⟩)
  ·exact .ret (.inr ⟨_,rfl,hb⟩)
 refine .up (λT=>As T b d i x) (.brk (λ_=> ?_) λ_=> .ite (λ_=> ?_) λ_=> .ite (λ_=> ?_) λ_=> .ite (λ_=>go _) λ_=> .ite (λ_=>go _) λ_=>go _)
 ·refine .bind (pk P h (by omega) (by omega) (by decide) (by decide)) λp hp=> ?_
  rw[wk (k:=1) (n:=3) hp.1 (by omega)]
  exact .bind (nm P hp.2 (by omega) (by omega) (by omega) (by omega)) λv hv=> .bind (pk P hv.2 (by omega) (by omega) (by decide) (by decide)) λq hq=> .bind (xs IB (by omega) hD (by omega) (by omega) P hq.2 (by omega) (by omega) (by omega) (by omega) (by omega)) λu hu=> .bind (ad P hu.2 (by omega) (by omega) (uO hv.1.1 hv.1.2 (by omega))) λr hr=> .ret (.l hr hu.2.down (by omega) (by omega))
 ·exact .bind (ex IB (by omega) hD (by omega) (by omega) P h (by omega) (by omega) (by omega)) λp hp=> .bind (nm P hp.1 (by omega) (by omega) (by omega) (by omega)) λv hv=> .bind (ad P hv.2 (by omega) (by omega) (uO hv.1.1 hv.1.2 (by simp))) λr hr=> .ret (.l hr hv.2.down (by omega) (by omega))
 ·exact .bind (fu hy (by omega) (by omega) (by omega) (by omega) hM P h (by omega) (by omega) (by omega)) λp hp=> .bind (nm P hp.1 (by omega) (by omega) (by omega) (by omega)) λv hv=> .bind (ad P hv.2 (by omega) (by omega) (uO hv.1.1 hv.1.2 (by simp))) λr hr=> .ret (.l hr hv.2.down (by omega) (by omega))
end
end Go.Abs.D
end

section
namespace Go.Abs.D
variable{b0 b b':BT}{N M N0 s0 s j k e e1 D d:Int}
def SFD (N s D:Int):Prop:=∀b d, -5000<=d->d<=D->Pre b N s->dV (λr=>jw b N (-5) r.1 r.2.1) λT=>rq T b d
theorem Pre.mono (P:Pre b N s)(h:M<=N)(h0:0<=M)(h1:s<=k)(h2:k<=1000000000000000):Pre b M k:=⟨P.cur,by have:=P.sum;omega,h2,P.all,P.nodes,by have:=P.low;omega,by have:=P.n0;omega⟩
theorem YF.mono (h:YF M s D)(h0:0<=M)(h1:M<=N)(h2:k<=s)(h3:s<=1000000000000000):YF N k D:=λb d hd hD P=>(h b d hd hD (P.mono h1 h0 h2 h3)).mono λr hr=>⟨hr.bd.mono h1 (by omega),hr.i0,hr.i1,hr.lt⟩
theorem QH (hx:XF e s D)(ad2:0<=D)(zK:D<=900)(mV:s<=1000000000000000)(he:1000<=e)(P:Pre b N s0)(hN:5*e<=N)(hs:s0<=s - 100):dV (λr:Int×BT×Unit×Unit=>jw b N (-5) r.1 r.2.1) λT=>(gQ T b 1).bind λd43=>(eX T d43.2.1 6 ([d43.1]:LI)).bind λd47=>J (d47.1,d47.2.1,(),()):=
 .bind (ca hx (by omega) (by omega) (by omega) mV he P P.refl (by omega) (by omega) (by omega)) λp hp=> .bind (kdD P hp.1 (by omega) (by omega) (by simp)) λr hr=> .ret (jw.mk' hr hp.1.down (by omega) (by omega))
theorem Pa (hx:XF e s 0)(mV:s<=1000000000000000)(he:1000<=e):SFD (5*e) (s - 200) 0:=λb d hd hD P=>
 .up (λT=>wC T b d) (.yes (ab hD) (QH hx (by omega) (by omega) mV he P (by omega) (by omega)))
theorem JI (hx:XF e s D)(IB:XF e1 (s - 1000) (D+1))(hy:YF M (s - 300) D)(ad2:0<=D)(zK:D<=900)(mV:s<=1000000000000000)(he:1000<=e)(Z7:10000<=e1)(aw0:20*e<=e1)(hM:0<=M)(PZ:M<=e1):SFD (9*e1) (s - 1200) (D+1):=by
 intro b d hd hD P;have aL3:=QH hx ad2 zK mV he P (by omega) (by omega);refine .up (λT=>wC T b d) (.ite (λ_=>aL3) λh1=> .ite (λ_=>aL3) λh2=> .bind (pk P P.refl (by omega) (by omega) (by decide) (by decide)) λq hq=> ?_);have h:BdD b 0 2 (q.2.1,b.2):=hq.2.mono (by omega) (by omega)
 have go:∀x,dV (λr:Int×BT×Unit×Unit=>jw b (9*e1) (-5) r.1 r.2.1) λT=>(mz T (q.2.1,b.2) d q.1 x).bind (dM (λy8=>J (y8.2.1,y8.1,(),())) (λy8=>(j6 T y8.1 y8.2.1).bind (dB (λYc=>J (Yc.2.1,Yc.1,(),()))))):=λx=>by
  refine .bind (VV IB hy zK mV Z7 hM PZ hx he aw0 (by omega) hD P h q.1 x) ?_;rintro _ (⟨b',k,rfl,hg⟩|⟨b',rfl,hb⟩)
  ·exact .ret hg
  ·have aP5:dV (λr=>∃XI k,r=an (XI,k,())/\jw b (9*e1) (-5) k XI) λT=>j6 T b' d:=
    .up (λT=>yD T b' d) (.bind (ca hx (by omega) (by omega) (by omega) mV he P hb (by omega) (by omega) (by omega)) λr hr=> .bind (kdD P hr.1 (by omega) (by omega) (by simp)) λu hu=> .ret ⟨_,_,rfl,jw.mk' hu hr.1.down (by omega) (by omega)⟩)
   refine .bind (H:=λT=>j6 T b' d) aP5 ?_;rintro _ ⟨XI,k,rfl,hg⟩;exact .ret hg
 exact .ite (λ_=>go _) λ_=>go _
theorem Hp (hf:SFD N s D)(hN:0<=N)(aq8:N<=900000000000)(mV:s<=1000000000000000)(hd: -5000<=d)(hD:d<=D)(P:Pre b0 N0 s0)(hs:s0+10<=s):∀(n:Nat) {b:BT} {j:Int} (acc:LI),BdD b0 (N+4) j b->j<=10->acc.length+n<=50->
  dV (λr=>∃b' ks,r=an (b',ks,())/\BdD b0 (N+4) j b'/\ks.length<=50) λT=>nN T b d acc n
 |0,b,j,acc,h,hj,ha=> .up (λT=>rX T b d acc _) (.no (aa (by omega)) (.ret ⟨b,acc,rfl,h,by omega⟩))
 |n+1,b,j,acc,h,hj,ha=>by
  refine .up (λT=>rX T b d acc _) (.yes (ab (by omega)) (.ite (λh5=> ?_) λ_=> .ret ⟨b,acc,rfl,h,by omega⟩))
  refine .bind (hf b d hd hD (BdD.pre6 P h (by omega) (by omega) mV hN (by omega))) λr hr=> .yes (dE (by unfold lim;simp;omega)) ?_
  rw[Rf n (by omega)];refine(Hp hf hN aq8 mV hd hD P hs n (acc++[r.1]) (h.reset (by omega) hr.bd hN) (by omega) (by simp;omega)).mono ?_;rintro q ⟨b',ks,rfl,k1,k2⟩;exact⟨b',ks,rfl,k1.mono (by omega) (by omega),k2⟩
theorem G4 (hf:SFD N s D)(hN:0<=N)(aq8:N<=900000000000)(mV:s<=1000000000000000):YF (N+10) (s - 20) D:=by
 intro b d hd hD P;refine .up (λT=>Ck T b d) (.bind (pk P P.refl (by omega) (by omega) (by decide) (by decide)) λq hq=> ?_);obtain⟨m,hm⟩:∃m:Nat,q.1=m:=⟨q.1.toNat,by omega⟩;rw[hm];refine .bind (Hp hf hN aq8 mV hd hD P (by omega) m [] (hq.2.mono (by omega) (bF _)) (by omega) (by simp;omega)) ?_;rintro _ ⟨b',ks,rfl,k1,k2⟩
 exact .bind (ad (x:=(1,0,0,0,0,0,[],[],ks,())) P k1 (by omega) (by omega) (oX (by omega))) λr hr=> .ret (jw.mk' hr k1.down (by omega) (by omega))
theorem levels:∀n:Nat,n<=5->∃e M:Int,e=10000*20^n/\0<=M/\M<=10*e/\XF e (1000000000000000 - 1000*n) n/\YF M (1000000000000000 - 1000*n - 300) n
 |0,_=>by
  have hx:XF 10000 1000000000000000 0:=λb d hd hD P=> .up (λT=>wJ T b d) (.yes (ab hD) (.bind (JH (s:=1000000000000000) (P.mono (by omega) (by omega) (by omega) (by omega))) λr hr=> .ret ⟨hr.bd.mono (by omega) (by omega),hr.i0,hr.i1,hr.lt⟩))
  exact⟨10000,5*10000+10,by decide,by omega,by omega,hx,(G4 (Pa hx (by omega) (by omega)) (by omega) (by omega) (by omega)).mono (by omega) (by omega) (by omega) (by omega)⟩
 |n+1,hn=>by
  obtain⟨e,M,he,hM,PZ,hx,hy⟩:=levels n (by omega)
  have hp:(1:Int)<=20^n/\(20:Int)^n<=160000:=by
   have:n=0\/n=1\/n=2\/n=3\/n=4:=(by omega)
   rcases this with rfl|rfl|rfl|rfl|rfl<;>decide
  have e2:(20:Int)^(n+1)=20*20^n:=(by rw[Int.pow_succ,Int.mul_comm]);have IB:=Jz (D:=n) hx hy (by omega) (by omega) (by omega) (by omega) hM PZ;have hf:=JI hx IB hy (by omega) (by omega) (by omega) (by omega) (by omega) (by omega) hM (by omega);refine⟨20*e,9*(20*e)+10,by rw[e2,he];omega,by omega,by omega, ?_, ?_⟩
  ·have:(1000000000000000 - 1000*(n:Int) - 1000)=1000000000000000 - 1000*((n+1:Nat):Int):=(by omega);rw[<-this];exact IB
  ·exact(G4 hf (by omega) (by omega) (by omega)).mono (by omega) (by omega) (by omega) (by omega)
theorem ag4:∃N:Int,0<=N/\N<=900000000000/\SFD N 999999999990000 5:=by
 obtain⟨e,M,he,hM,PZ,hx,hy⟩:=levels 4 (by omega);have he:e=1600000000:=he;have IB:=Jz (D:=4) hx hy (by omega) (by omega) (by omega) (by omega) hM PZ;have hf:=JI (D:=4) hx IB hy (by omega) (by omega) (by omega) (by omega) (by omega) (by omega) hM (by omega);exact⟨9*(20*e),by omega,by omega,λb d hd hD P=>hf b d hd hD (P.mono (bF _) (by omega) (by omega) (by omega))⟩
theorem JM (hf:SFD N s D)(hN:0<=N)(aq8:N<=900000000000)(mV:s<=1000000000000000)(hd: -5000<=d)(hD:d<=D)(P:Pre b0 N0 s0)(hs:s0+10<=s)(t2:List Node×Unit):∀(n:Nat) {b:BT} {j:Int} (acc:LI),BdD b0 (N+4) j b->j<=10->acc.length+n<=50->
  dV (λr=>∃b' ks,r=an (t2,b',ks,())/\BdD b0 (N+4) j b'/\ks.length<=50) λT=>mO T t2 b d acc n
 |0,b,j,acc,h,hj,ha=> .up (λT=>qN T t2 b d acc _) (.no (aa (by omega)) (.ret ⟨b,acc,rfl,h,by omega⟩))
 |n+1,b,j,acc,h,hj,ha=>by
  refine .up (λT=>qN T t2 b d acc _) (.yes (ab (by omega)) (.ite (λh5=> ?_) λ_=> .ret ⟨b,acc,rfl,h,by omega⟩))
  refine .bind (hf b d hd hD (BdD.pre6 P h (by omega) (by omega) mV hN (by omega))) λr hr=> .yes (dE (by unfold lim;simp;omega)) ?_
  rw[Rf n (by omega)];refine(JM hf hN aq8 mV hd hD P hs t2 n (acc++[r.1]) (h.reset (by omega) hr.bd hN) (by omega) (by simp;omega)).mono ?_;rintro q ⟨b',ks,rfl,k1,k2⟩;exact⟨b',ks,rfl,k1.mono (by omega) (by omega),k2⟩
theorem Sq {c:vZ}(h:CurOk c)(hk:c.2.1<=1000000):dV (λr=>(∀x∈r.1.1,E4 x)/\CurOk r.2.1/\r.2.1.2.1<=100000000000000) λT=>sG T c:=by
 obtain⟨N,h0,h1,hf⟩:=ag4;refine .up (λT=>By T c) (.bind (iU h (by omega) (by decide) (by decide)) λp hp=> .bind (iU hp.2.ok (by have:=hp.2.ge;omega) (by decide) (by decide)) λq hq=> .bind (iU hq.2.ok (by have:=hp.2.ge;have:=hq.2.ge;omega) (by decide) (by decide)) λu hu=> ?_);have a1:=hp.2.ge;have a2:=hq.2.ge;have a3:=hu.2.ge;rw[wk (k:=20) (n:=120) hp.1 (by omega),wk (k:=1) (n:=5) hq.1 (by omega)];obtain⟨m,hm⟩:∃m:Nat,u.1=m:=⟨u.1.toNat,by omega⟩;rw[hm];have P:Pre (u.2.1,[],20+p.1,()) (N+10) 10000000:=⟨hu.2.ok,by dsimp only;omega,by omega,by dsimp only;simp;omega,by simp,by dsimp only;omega,by omega⟩;refine .bind (JM hf h0 h1 (by omega) (by omega) (by omega) P (by omega) ([],()) m [] (P.refl.mono (by omega) (bF _)) (by omega) (by simp;omega)) ?_;rintro _ ⟨b',ks,rfl,k1,k2⟩;have ha:=k1.at_ P (by omega) (by omega);have hs:=k1.sum;refine .yes (dE (by unfold lim;simp;omega)) (.ret ⟨λx hx=> ?_,k1.ok, ?_⟩)
 ·rcases aL.1 hx with hx|hx
  ·exact k1.nodes x hx
  ·rw[bD.1 hx];exact oX (by show ks.length<=_;omega)
 ·show b'.1.2.1<=_;dsimp only at hs ha;omega
end Go.Abs.D
end

section
namespace Go.Abs.D
variable{c:vZ}{s:LI}
structure ToksIn (s:LI)(ts:List cZ.den):Prop where
 len:ts.length<=s.length+1
 at_:∀t∈ts,t.1=6\/bounds s.length t.2.1 t.2.2.1=av
theorem G6 (h:CurOk c)(hk:c.2.1+2<=4611686018427387904):dV (λr=>Txt 40 r.1/\Nx c 2 r.2.1) λT=>oM T c:=
 .up (λT=>Av T c) (.bind (iU h hk (by decide) (by decide)) λd hd=> .yes (inb hd.1.1 hd.1.2) (.ret ⟨Ad (z6 (by decide)) hd.1.1 hd.1.2,hd.2⟩))
theorem Pg (k:Int):dV (λr:Bool×Unit×Unit=>True) λT=>xm T k:=
 .up (λT=>Fz T k) (.ite (λ_=> .ret trivial) λ_=> .ite (λ_=> .ret trivial) λ_=> .ite (λ_=> .ret trivial) λ_=> .ite (λ_=> .ret trivial) λ_=> .ite (λ_=> .ret trivial) λ_=> .ite (λ_=> .ret trivial) λ_=> .ret trivial)
def Piece (c:vZ)(s acc p:LI)(ts:List cZ.den)(n i:Int)(r:(vZ×LI×LI×List cZ.den×Int×Int×Unit)⊕Empty):Prop:=
 ∃c' a,r=an (c',s,a,ts,n,i,())/\Nx c 4 c'/\a.length<=acc.length+p.length+40/\∀b∈a,isByte b
theorem Uz {a b:LI}(h:∀x∈a,isByte x)(k:∀x∈b,isByte x):∀x∈a++b,isByte x:=λx hx=>by
 rcases aL.1 hx with hx|hx
 ·exact h x hx
 ·exact k x hx
theorem Ph (h:CurOk c)(hk:c.2.1+4<=4611686018427387904){acc p:LI}(ha:∀b∈acc,isByte b)(hp:∀b∈p,isByte b)(hl:acc.length+p.length<=100000000000)(t:cZ.den)(ts:List cZ.den)(n i:Int):
  dV (Piece c s acc p ts n i) λT=>jV T c s acc t p ts n i:=by
 have aL7:=Uz ha hp
 have app:∀{c':vZ} {q:LI},Nx c 4 c'->Txt 40 q->Piece c s acc p ts n i (an (c',s,(acc++p)++q,ts,n,i,())):=λ{c' q} hc hq=>⟨c',(acc++p)++q,rfl,hc,by simp;have:=hq.len;omega,Uz aL7 hq.am8⟩
 have bare:∀{c':vZ},Nx c 4 c'->Piece c s acc p ts n i (an (c',s,acc++p,ts,n,i,())):=λ{c'} hc=>⟨c',acc++p,rfl,hc,by simp only[ax];omega,aL7⟩
 refine .up (λT=>wv T c s acc t p ts n i) (.yes (dE (by unfold lim;omega)) (.bind (Pg _) λd _=> .brk (λ_=> ?_) λ_=> .brk (λ_=> ?_) λ_=> .ret (bare ((Nx.refl h).mono (by omega)))))
 ·refine .bind (iU h (by omega) (by decide) (by decide)) λq hq=> .ite (λ_=> ?_) λ_=> .brk (λ_=> ?_) λ_=> .ret (bare (hq.2.mono (by omega)))
  ·exact .bind (iU hq.2.ok (by have:=hq.2.ge;omega) (by decide) (by decide)) λu hu=> .yes (inb hu.1.1 hu.1.2) (.yes (dE (by have:=(Ad (z6 (L:=[[10],[32,45,45,122,10],[13,10,10]]) (by decide)) hu.1.1 hu.1.2).len;unfold lim;simp only[ax]at*;omega)) (.ret (app (hq.2.trans hu.2) (Ad (z6 (by decide)) hu.1.1 hu.1.2))))
  ·exact .bind (G6 hq.2.ok (by have:=hq.2.ge;omega)) λu hu=> .yes (dE (by have:=hu.1.len;unfold lim;simp only[ax];omega)) (.ret (app (hq.2.trans hu.2) hu.1))
 ·exact .bind (G6 h (by omega)) λu hu=> .yes (dE (by have:=hu.1.len;unfold lim;simp only[ax];omega)) (.ret (app (hu.2.mono (by omega)) hu.1))
theorem Y8 {s:LI}(hs:∀b∈s,isByte b)(l h:Int):∀b∈sub s l h,isByte b:=λb hb=>hs b (cC (cD hb))
theorem Wu (s:LI)(l h:Int):(sub s l h).length<=s.length:=by unfold sub;simp;omega
theorem G7 (hs:∀b∈s,isByte b)(hl:s.length<=65536){ts:List cZ.den}(ht:ToksIn s ts):∀(m:Nat) {c:vZ} {acc:LI} (i:Nat),i+m=ts.length->CurOk c->c.2.1+10*m<=4611686018427387904->(∀b∈acc,isByte b)->acc.length+m*70000<=90000000000->
  dV (λr=>∃c' a,r=an (c',a,())/\Nx c (10*m) c'/\∀b∈a,isByte b) λT=>gY T c s acc ts (ts.length:Int) ↑i
 |0,c,acc,i,hi,h,hk,ha,hb=> .up (λT=>qi T c s acc ts _ _) (.no (aa (by omega)) (.ret ⟨c,acc,rfl,(Nx.refl h).mono (by omega),ha⟩))
 |m+1,c,acc,i,hi,h,hk,ha,hb=>by
  have kI:i<ts.length:=(by omega);have aM3:=ht.len
  have IE:at_ (τ:=cZ) ts ↑i∈ts:=by
   show ts.getD (i:Int).toNat _∈ts;exact HV (by omega) (by omega)
  refine .up (λT=>qi T c s acc ts _ _) (.yes (ab (by omega)) (.yes (inb (by omega) (by omega)) (.ite (λ_=> .ret ⟨c,acc,rfl,(Nx.refl h).mono (by omega),ha⟩) λh6=> .yes ((ht.at_ _ IE).resolve_left h6) ?_)))
  have go:∀{c1:vZ} {p:LI},Nx c 2 c1->(∀b∈p,isByte b)->p.length<=65536->dV (λr=>∃c' a,r=an (c',a,())/\Nx c (10*((m+1:Nat):Int)) c'/\∀b∈a,isByte b) λT=>(jV T c1 s acc (at_ (τ:=cZ) ts ↑i) p ts (ts.length:Int) ↑i).bind (dB (λyb=>gY T yb.1 yb.2.1 yb.2.2.1 yb.2.2.2.1 yb.2.2.2.2.1 (aq.wrap (yb.2.2.2.2.2.1+1)))):=λ{c1 p} hc hp yt=>by
   refine .bind (Ph (s:=s) hc.ok (by have:=hc.ge;omega) ha hp (by omega) (at_ (τ:=cZ) ts ↑i) ts ts.length i) ?_;rintro _ ⟨c',a,rfl,k1,k2,k3⟩
   show dV _ λT=>gY T c' s a ts (ts.length:Int) (aq.wrap ((i:Int)+1))
   rw[dX (by omega)];refine(G7 hs hl ht m (i+1) (by omega) k1.ok (by have:=hc.ge;have:=k1.ge;omega) k3 (by omega)).mono ?_;rintro r ⟨c2,a2,rfl,q1,q2⟩;exact⟨c2,a2,rfl,((hc.trans k1).trans q1).mono (by omega),q2⟩
  refine .ite (λ_=> .bind (iU h (by omega) (by decide) (by decide)) λq hq=> .yes (inb hq.1.1 hq.1.2) ?_) λ_=>go ((Nx.refl h).mono (by omega)) (Y8 hs _ _) (bX (Wu ..) hl)
  have hT:=Ad (z6 (L:=[[10],[59],[10,10],[32,59,32],[10,45,45,122,10],[59,59]]) (by decide)) hq.1.1 hq.1.2;exact go hq.2 hT.am8 (bX hT.len (by decide))
theorem Pe (h:CurOk c)(hk:c.2.1<=1000000000000000)(hs:∀b∈s,isByte b)(hl:s.length<=65536)(ht:dV (λr=>ToksIn s r.1.1) λT=>mi T s):dV (λr=>(∀b∈r.1,isByte b)/\CurOk r.2.1/\r.2.1.2.1<=c.2.1+1000000) λT=>qS T c s:=by
 refine .up (λT=>Aw T c s) (.bind ht λr hr=> ?_);have aO4:=hr.len;refine .bind (G7 hs hl hr r.1.1.length (acc:=[]) 0 (by omega) h (by omega) (by simp) (by simp;omega)) ?_;rintro _ ⟨c',a,rfl,k1,k2⟩;refine .ret ⟨λb hb=> ?_,k1.ok,by have:=k1.ge;dsimp only;omega⟩;obtain⟨x,_,rfl⟩:=cG.1 hb;exact K9 x
end Go.Abs.D
end

section
namespace Go.Abs.D
open Go.Proofs
def Ay:LI:=[48,49,50,51,52,53,54,55,56,57,97,98,99,100,101,102]
def esc (c:Int):LI:=
 if c=10 then [92,110]else if c=9 then [92,116]else if c=34 then [92,34]else if c=92 then [92,92]
 else if c<32\/126<c then [92,120,Ay.getD (c/16).toNat 0,Ay.getD (c % 16).toNat 0]else [c]
theorem F3 (c:Int):(esc c).length<=4:=by
 grind [esc]
theorem ON (T:S.Tab)(t0 t4:LI)(i c:Int)(h0:0<=i)(hi:i<t0.length)(hl:t0.length<=4000)(hc:t0.getD i.toNat 0=c)(hb:isByte c)(hf:t4.length+4<=lim):
  fz (S.step T) t0 Ay t4 i=fz T t0 Ay (t4++esc c) (i+1):=by
 rw[tJ];obtain⟨J2,XG⟩:=hb;have w:aq.wrap (i+1)=i+1:=wrap64 _ (by omega) (by omega);have hh:(Ay.length:Int)=16:=rfl;simp only[hc,ai2 c ⟨J2,XG⟩,X3 c ⟨J2,XG⟩,w,hh,gC,h0,hi,decide_true,Bool.and_true,ai,az,aB]
 grind [fits,dE,decide,esc]
theorem aj5 (l:LI)(x:Int)(h0:0<=x)(h1:x<l.length):sub l x (x+1)=[l.getD x.toNat 0]:=by
 unfold sub
 apply a06
 intro j;rw[cL,cK]
 grind
theorem Th (c:Int):Bld.idx [10,9,34,92] c 0=if c=10 then 0 else if c=9 then 1 else if c=34 then 2 else if c=92 then 3 else -1:=by
 simp only[Bld.idx]
 grind
theorem OL (T:S.Tab)(t0 t3:LI)(i c:Int)(h0:0<=i)(hi:i<t0.length)(hl:t0.length<=4000)(hc:t0.getD i.toNat 0=c)(hb:isByte c)(hf:t3.length+4<=lim)
  (as0:jb T [10,9,34,92] c=J (Bld.idx [10,9,34,92] c 0,(),(),())):
  jJ (S.step T) t0 t3 i=jJ T t0 (t3++esc c) (i+1):=by
 rw[wI];obtain⟨J2,XG⟩:=hb;have w:aq.wrap (i+1)=i+1:=wrap64 _ (by omega) (by omega);have hd:([48,49,50,51,52,53,54,55,56,57,97,98,99,100,101,102]:LI)=Ay:=rfl;have hh:(Ay.length:Int)=16:=rfl;have w1:aN.wrap (c/16+1)=c/16+1:=xX _ (by omega) (by omega);have w2:aN.wrap (c % 16+1)=c % 16+1:=xX _ (by omega) (by omega);have s1:sub Ay (c/16) (c/16+1)=[Ay.getD (c/16).toNat 0]:=aj5 _ _ (by omega) (by omega);have s2:sub Ay (c % 16) (c % 16+1)=[Ay.getD (c % 16).toNat 0]:=aj5 _ _ (by omega) (by omega)
 have b1:bounds 16 (c/16) (c/16+1)=true:=by
  unfold bounds;simp;omega
 have b2:bounds 16 (c % 16) (c % 16+1)=true:=by
  unfold bounds;simp;omega
 have f3:fits (2+1)=true:=rfl;have f4:fits (([92,120]++[Ay.getD (c/16).toNat 0]).length+1)=true:=rfl;have g1:fits (t3.length+1)=true:=dE (by omega)
 have aX1:∀x,fits ((t3++[x]).length+1)=true:=λx=>dE (by simp;omega)
 have g4:∀x y:Int,fits (t3.length+([92,120]++[x]++[y]).length)=true:=λx y=>dE (by simp;omega)
 simp only[hc,hd,ai2 c ⟨J2,XG⟩,X3 c ⟨J2,XG⟩,w,w1,w2,s1,s2,b1,b2,gC,h0,hi,decide_true,Bool.and_true,ai,as0,Th,bu,f3,f4,Bld.mj,Bld.kA,g1,aX1,g4,au];unfold esc
 by_cases h1:c=10
 ·simp[h1]
 by_cases h2:c=9
 ·simp[h2]
 by_cases h3:c=34
 ·simp[h3]
 by_cases h4:c=92
 ·simp[h4]
 by_cases h5:c<32
 ·simp[h1,h2,h3,h4,h5]
 by_cases h6:126<c
 ·simp[h1,h2,h3,h4,h5,h6]
 ·simp[h1,h2,h3,h4,h5,h6]
def mI (s:LI):LI:=if 4000<s.length then []else [34]++s.flatMap esc++[34]
theorem Ju:∀(l pre t4:LI),(∀c∈l,isByte c)->(pre++l).length<=4000->t4.length+4*l.length<=30000->
  Evt λn=>fz (S.tab n) (pre++l) Ay t4 (pre.length:Int)=J (an (t4++l.flatMap esc,()))
 |[],pre,t4,_,hl,_=>Evt.up (Evt.of (p:=λ_=>True) λ_=>trivial) λn _=>by
  simp_all[tJ,dm]
 |c::l,pre,t4,hb,hl,hf=>by
  have hlen:(pre++c::l).length=pre.length+(l.length+1):=(by simp);have e4:=F3 c;have ih:=Ju l (pre++[c]) (t4++esc c) (λx hx=>hb x (aD _ hx)) (by simp_all) (by grind)
  refine ih.up λn h=> ?_
  rw[ON (S.tab n) _ t4 (pre.length:Int) c (by omega) (by omega) hl (ju pre c l 0) (hb c (aF ..)) (by grind [lim])];simp_all
theorem Zl (c:Int)(h:isByte c):Evt λn=>jb (S.tab n) [10,9,34,92] c=J (Bld.idx [10,9,34,92] c 0,(),(),()):=
 Evt.up (Evt.up (Evt.of (p:=λ_=>True) λ_=>trivial) (q:=λn=>j4 (S.tab n) [10,9,34,92] c=J (Bld.idx [10,9,34,92] c 0,(),(),())) λn _=>by
  grind [oe,Bld.uH,KH]) λn h=>by
  grind [rW]
theorem JB:∀(l pre t3:LI),(∀c∈l,isByte c)->(pre++l).length<=4000->t3.length+4*l.length<=30000->
  Evt λn=>jJ (S.tab n) (pre++l) t3 (pre.length:Int)=J (an (t3++l.flatMap esc,()))
 |[],pre,t3,_,hl,_=>Evt.up (Evt.of (p:=λ_=>True) λ_=>trivial) λn _=>by
  simp_all[wI,dm]
 |c::l,pre,t3,hb,hl,hf=>by
  have hlen:(pre++c::l).length=pre.length+(l.length+1):=(by simp);have e4:=F3 c;have ih:=JB l (pre++[c]) (t3++esc c) (λx hx=>hb x (aD _ hx)) (by simp_all) (by grind)
  refine(ih.and (Zl c (hb c (aF ..)))).up λn ⟨h,as0⟩=> ?_
  rw[OL (S.tab n) _ t3 (pre.length:Int) c (by omega) (by omega) hl (ju pre c l 0) (hb c (aF ..)) (by grind [lim]) as0];simp_all
theorem Eh (c:Int)(h:isByte c):∀x∈esc c,isByte x:=by
 have hx:∀n:Nat,isByte (Ay.getD n 0):=by
  intro n;rw[aG]
  cases e:Ay[n]? with
  |none=>exact⟨by decide,by decide⟩
  |some v=>
   have:=List.mem_of_getElem? e;have we:∀v∈Ay,0<=v/\v<256:=(by decide);exact we v this
 intro x VC;unfold esc at VC
 repeat' split at VC
 all_goals simp at VC
 all_goals rcases VC with rfl|rfl|rfl|rfl
 all_goals first|exact hx _|exact h|exact⟨by omega,by omega⟩
theorem HE (l:LI):(l.flatMap esc).length<=4*l.length:=by
 induction l with
 |nil=>simp
 |cons c l ih=>
  grind [F3,ax,az]
theorem Hi (s:LI)(hb:∀c∈s,isByte c)(hl:¬ 4000<s.length):Evt λn=>lV (S.tab n) s=J (mI s,(),()):=by
 refine(Ju s [] [34] hb (by simp_all) (by grind)).up λn h=> ?_
 have h':fz (S.tab n) s [48,49,50,51,52,53,54,55,56,57,97,98,99,100,101,102] [34] 0=J (an ([34]++s.flatMap esc,())):=h;have:=HE s;rw[Fq,h'];simp only[au,dB,aO];rw[cU (dE (by grind [lim,ax,bu])),wY]
 ·grind [mI]
 ·intro c hc;simp only[aL,bA,a35,or_false,a33]at hc
  rcases hc with(rfl|⟨a,ha,hc⟩)|rfl
  ·exact⟨by decide,by decide⟩
  ·grind [Eh]
  ·exact⟨by decide,by decide⟩
theorem O4 (s:LI)(hb:∀c∈s,isByte c):Evt λn=>BB (S.tab n) s=J (mI s,(),()):=by
 by_cases hl:4000<s.length
 ·exact Evt.up (Evt.of (p:=λ_=>True) λ_=>trivial) λn _=>by
   grind [AO,cU,mI]
 ·refine(JB s [] [34] hb (by simp_all) (by grind)).up λn h=> ?_
  have:=HE s;rw[AO,dm (by grind)];have w0:Bld.mj ([],34,())=J (av,[34],(),()):=rfl
  have w1:Bld.mj ([34]++s.flatMap esc,34,())=J (av,[34]++s.flatMap esc++[34],(),()):=by
   show(bif fits _ then _ else _)=_
   grind [dE,lim,ax,bu]
  have LP:∀c∈[34]++s.flatMap esc++[34],isByte c:=by
   intro c hc;simp only[aL,bA,a35,or_false,a33]at hc
   rcases hc with(rfl|⟨a,ha,hc⟩)|rfl
   ·exact⟨by decide,by decide⟩
   ·grind [Eh]
   ·exact⟨by decide,by decide⟩
  have w2:Bld.vD ([34]++s.flatMap esc++[34],())=J ([34]++s.flatMap esc++[34],(),()):=by
   show(bif fits _ then _ else _)=_;rw[dE (by simp only[lim,ax,bu];omega)];show J (List.map byte _,(),())=_;rw[wY LP]
  simp_all[au,dB,aO,mI]
end Go.Abs.D
end
