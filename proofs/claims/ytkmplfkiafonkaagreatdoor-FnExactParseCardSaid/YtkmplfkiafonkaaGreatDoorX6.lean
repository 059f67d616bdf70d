/- What is here: the walk over a text, on both sides: the same tokens, or the same first place from which no text goes on. -/
import Derived.Test.YtkmplfkiafonkaaGreatDoorX5
set_option linter.unusedVariables false
set_option linter.unusedSimpArgs false
set_option maxRecDepth 100000
open Go.IntKind (i64 u64 u8)
section
namespace Go.Abs.D
theorem X5:∀k:Nat,k<30→sgn (ba.getD k [])≠6:=by
 have h:∀k:Fin 30,sgn (ba.getD k.1 [])≠6:=by decide+kernel
 exact fun k hk=>h ⟨k,hk⟩
theorem AT {s:LI}{i:Nat}{t:ak.den}(h:l9 s i= .inr t):1≤kd t∧kd t≤78∧kd t≠6∧(get s i=34→kd t=4):=by
 unfold l9 at h
 cases hl:bE (get s i)with
 |true=>
  rw[hl]at h
  injection h with h
  subst h;have CE:get s i≠34:=(FJ hl).2.1;unfold Hk;simp only;split
  ·rename_i hk;have hk:tU (sub s ↑i (s7 s i:Int))<22:=hk;exact⟨by show(1:Int)≤((10+tU (sub s ↑i (s7 s i:Int)):Nat):Int);omega,by show((10+tU (sub s ↑i (s7 s i:Int)):Nat):Int)≤78;omega,by show((10+tU (sub s ↑i (s7 s i:Int)):Nat):Int)≠6;omega,fun e=>absurd e CE⟩
  ·exact⟨by show(1:Int)≤1;decide,by show(1:Int)≤78;decide,by show(1:Int)≠6;decide,fun e=>absurd e CE⟩
 |false=>
  rw[hl]at h
  cases hd:aW (get s i)with
  |true=>
   rw[hd]at h
   have CE:get s i≠34:=fun e=>by rw[e]at hd;cases hd
   rcases IW h with h|h
   ·have h:kd t=2:=h;rw[h];exact⟨by decide,by decide,by decide,fun e=>absurd e CE⟩
   ·have h:kd t=3:=h;rw[h];exact⟨by decide,by decide,by decide,fun e=>absurd e CE⟩
  |false=>
   rw[hd]at h
   cases CE:decide (get s i=34)with
   |true=>
    rw[CE]at h;have h:Je i (eZ s s.length (i+1) [])= .inr t:=h
    cases hr:eZ s s.length (i+1) []with
    |inl e=>rw[hr]at h;cases h
    |inr y=>
     rw[hr]at h;obtain⟨e,r⟩:=y
     injection h with h
     subst h;exact⟨by show(1:Int)≤4;decide,by show(4:Int)≤78;decide,by show(4:Int)≠6;decide,fun _=>rfl⟩
   |false=>
    have Zy:get s i≠34:=of_decide_eq_false CE;rw[CE]at h;have h:tT i (jU (p3 s i))= .inr t:=h;unfold tT jU at h
    cases hk:decide (kK (p3 s i)<30)with
    |false=>rw[hk]at h;cases h
    |true=>
     rw[hk]at h;simp only[ap3]at h;rw[an6 (Cv _)]at h
     injection h with h
     subst h;have hk:=of_decide_eq_true hk;have h1:=RY _ hk;have h2:=X5 _ hk;refine⟨?_, ?_, ?_,fun e=>absurd e Zy⟩
     ·show(1:Int)≤((sgn _:Nat):Int);omega
     ·show((sgn _:Nat):Int)≤78;omega
     ·show((sgn _:Nat):Int)≠6;omega
def lnd (t:ak.den)(line:Int):ak.den:=(t.1,t.2.1,t.2.2.1,line,t.2.2.2.2)
def foldI (a:LI):LI→Option (LI)
 |[]=>some a
 |k::ks=>match gD a k with| .left l=>foldI l ks|_=>none
theorem yt:∀(ks:LI)(a b l:LI)(k:Int),foldI a ks=some b→gD b k= .left l→foldI a (ks++[k])=some l
 |[],a,b,l,k,h,ho=>by
  injection h with h
  subst h;show(match gD a k with| .left l=>foldI l []|_=>none)=_;rw[ho];rfl
 |k'::ks,a,b,l,k,h,ho=>by
  have h:(match gD a k' with| .left l=>foldI l ks|_=>none)=some b:=h;show(match gD a k' with| .left l=>foldI l (ks++[k])|_=>none)=some l
  cases hx:gD a k' with
  |no=>rw[hx]at h;cases h
  |gone=>rw[hx]at h;cases h
  |left m=>rw[hx]at h;exact yt ks m b l k h ho
def TI (s:LI)(t:ak.den):Prop:=
 (∃(i:Nat) (line:Nat) (t0:ak.den),i<s.length∧line≤i+1∧get s i≠10∧l9 s i= .inr t0∧t=lnd t0 line)∨
 (∃(i:Nat) (line:Nat),i<s.length∧line≤i+1∧get s i=10∧t=(5,(i:Int),((i+1:Nat):Int),(line:Int),0,([]:LI),()))
theorem Fw {p q:Int→Bool}(h:∀k:Int,0≤k→k≤78→p k=q k)(s:LI)(i:Nat):∀m acc:Nat,m≤78→mxK p s i m acc=mxK q s i m acc
 |0,_,_=>rfl
 |m+1,acc,hm=>by
  unfold mxK;rw[h _ (by omega) (by omega),Fw h s i m _ (by omega)]
theorem Hx {p q:Int→Bool}(h:∀k:Int,0≤k→k≤78→p k=q k)(s:LI)(i:Nat):jO p s i=jO q s i:=by
 unfold jO;rw[Fw h s i 78 _ (aq2 _),h 1 (by decide) (by decide)]
theorem Sc:gdI [1000]:=fun x hx=>by
 have e:x=1000:=(by simpa using hx)
 have h:Pm 1000=true:=by kernel_rfl
 rw[e];exact GD h
theorem XY:gdS [100]:=fun x hx=>by
 have e:x=100:=(by simpa using hx)
 have h:Pn 100=true:=by kernel_rfl
 rw[e];exact h
theorem Ky {s:LI}{j:Nat}(h:j≤s.length):blank s j≤s.length∧j≤blank s j:=Ku _ _ h
variable{s:LI}(hs:s.length≤65536)(yI:∀c∈s,isByte c)
include hs
theorem Fx {b:LI}{cs:Cls}{top:Int}(hb:gdS b)(hr:Reads cs top (b++[6]))(yJ:cs.length≤1999900){i:Nat}(hi:i<s.length)(hw:WrongAt (iW b) (get s i))(out:List ak.den)(line:Int):
  Evt fun n=>∀(tok:ak.den) (t12 t13 t14:Int),tok.1≠7→eP (S.tab n) (cs,()) s top out line ↑i tok t12 t13 t14 false=some (Sum.inr (Sum.inl ((cs,()),[],top,((i+jO (iW b) s i:Nat):Int),()))):=
 ((S6 cs yJ b top hb hr).and (Og hs hi hw)).up fun n ⟨hm,hx⟩ tok t12 t13 t14 h7=>by
  rw[kF,ad (by rfl),aH h7,ad (by rfl),hm,an7];dsimp only;rw[hx,an7]
omit hs in
theorem QK (cs:Cls)(top:Int)(i:Nat)(out:List ak.den)(line:Int):Evt fun n=>∀(tok:ak.den)(e:Nat)(t13 t14:Int),tok.1≠7→eP (S.tab n) (cs,()) s top out line ↑i tok ↑e t13 t14 true=some (Sum.inr (Sum.inl ((cs,()),[],top,(e:Int),()))):=
 aD.up fun n _ tok e t13 t14 h7=>by
  rw[kF,az (by rfl),az (by rfl),ad (by simp only[ao1];omega)]
theorem IE (cs:Cls)(top:Int)(i:Nat)(out:List ak.den)(ho:out.length≤70000)(line:Int)(tok:ak.den){e:Nat}(he:tok.2.2.1=(e:Int))(Nb:e≤s.length)(t13 t14:Int):Evt fun n=>eP (S.tab n) (cs,()) s top out line ↑i tok (-1) t13 t14 true=some (Sum.inr (Sum.inr (Sum.inl ((cs,()),s,t14,out++[(t13,tok.2)],line,(blank s e:Int),())))):=
 (rH (s:=s) (by omega) (j:=e) Nb).up fun n FZ=>by
  rw[kF,az (by rfl),az (by rfl),az (by rfl),ad (dY (by unfold lim;simp;omega)),he,FZ,an7]
theorem Ms (cs:Cls)(top:Int)(i:Nat)(out:List ak.den)(line:Int)(tok:ak.den){e:Nat}(he:tok.2.2.1=(e:Int))(h7:tok.1=7)(Nb:e≤s.length)(t12 t13 t14:Int):Evt fun n=>eP (S.tab n) (cs,()) s top out line ↑i tok t12 t13 t14 false=some (Sum.inl ((cs,()),s,top,out,line,(blank s e:Int),())):=
 (rH (s:=s) (by omega) (j:=e) Nb).up fun n FZ=>by
  rw[kF,ad (by rfl),aL h7,he,FZ,an7]
abbrev W16:Type:=((List gE.den×Unit)×LI×Int×List ak.den×Int×Int×Unit)⊕((List gE.den×Unit)×List ak.den×gE.den)⊕((List gE.den×Unit)×LI×Int×List ak.den×Int×Int×Unit)⊕Empty
omit hs in
theorem LV (y:W16):MY (fun j1=>some (Sum.inl j1:W16)) (fun j1=>some (Sum.inr (Sum.inl j1))) (fun j1=>some (Sum.inr (Sum.inr (Sum.inl j1)))) y=some y:=by
 rcases y with y|y|y|y
 ·rfl
 ·rfl
 ·rfl
 ·exact y.elim
omit hs in
theorem wv {k:Int}(hk:1≤k){cs ds:Cls}{top jW:Int}{ok:Bool}{out:List ak.den}{line:Int}{i:Nat}{n:Nat}(hF:jR (S.tab n) (cs,()) top k=some ((jW,ok,()),(ds,()),(),(),())){tok:ak.den}{t12:Int}{y:W16}
  (h:eP (S.tab n) (ds,()) s top out line (i:Int) tok t12 k jW ok=some y):bW (S.step (S.tab n)) (cs,()) s top out line ↑i tok t12 k=some y:=by
 rw[qZ,ad (by simp only[ao1];omega),hF,an7];dsimp only;rw[h,an7];exact LV y
omit hs in
theorem Oj {cs:Cls}{top:Int}{out:List ak.den}{line:Int}{i:Nat}{n:Nat}{tok:ak.den}{t12:Int}{y:W16}
  (h:eP (S.tab n) (cs,()) s top out line (i:Int) tok t12 0 top false=some y):bW (S.step (S.tab n)) (cs,()) s top out line ↑i tok t12 0=some y:=by
 rw[qZ,az (by rfl)];show(eP (S.tab n) (cs,()) s top out line ↑i tok t12 0 top false).bind _=_;rw[h,an7];exact LV y
theorem LX {b:LI}{cs:Cls}{top:Int}(hb:gdS b)(hr:Reads cs top (b++[6]))(yJ:cs.length≤1999800){i:Nat}(hi:i<s.length){k:Int}(h1:1≤k)(ak9:k≤78)(hw:iW b k=false→WrongAt (iW b) (get s i))(out:List ak.den)(line:Int)(e:Nat):
  Evt fun n=>∀(tok:ak.den) (t12:Int),tok.1≠7→(iW b k=true→t12=(e:Int))→∃c t,bW (S.tab n) (cs,()) s top out line ↑i tok t12 k=some (Sum.inr (Sum.inl (c,[],t,((bif iW b k then e else i+jO (iW b) s i:Nat):Int),()))):=by
 obtain⟨ds,jW,hd,_,hF⟩:=zI (k:=k) (by omega) ak9 cs (by omega) b top hb.ok hr;have hk:vl (oS b k) (decide ((6:Int)=k))=iW b k:=rfl;rw[hk]at hF
 cases hc:iW b k with
 |false=>
  rw[hc]at hF
  exact(hF.and (Fx hs hb hr.mono (by simp;omega) hi (hw hc) out line)).up fun n ⟨hF,EJ⟩ tok t12 h7 _=>⟨_,_,wv h1 hF (EJ tok t12 k jW h7)⟩
 |true=>
  rw[hc]at hF
  refine(hF.and (QK (s:=s) (cs++ds) top i out line)).up fun n ⟨hF,EJ⟩ tok t12 h7 ht=> ?_
  rw[ht rfl];exact⟨_,_,wv h1 hF (EJ tok e k jW h7)⟩
def VC (s:LI)(out:List ak.den)(line i:Nat)(a:LI)(cs:Cls)(top:Int):Prop:=
 (∃p:Nat,(Evt fun n=>∃l,bj (S.tab n) s out (a++[6]) (line:Int) (i:Int)=some (Sum.inl ([],l,(p:Int),())))∧
  Evt fun n=>∃c t,aQ (S.tab n) (cs,()) s top out (line:Int) (i:Int)=some (Sum.inl (c,[],t,(p:Int),())))∨
 (∃(A8:List ak.den) (a' b':LI) (A9:Cls) (jW:Int) (xV:Nat),gdI a'∧gdS b'∧NI a'=NS b'∧Reads A9 jW (b'++[6])∧A9.length≤1999900∧A8.length≤s.length∧xV≤s.length+1∧
  foldI [1000] (A8.map kd)=some a'∧(∀t∈A8,TI s t)∧
  (Evt fun n=>bj (S.tab n) s out (a++[6]) (line:Int) (i:Int)=some (Sum.inr (Sum.inl (A8,a'++[6],()))))∧
  Evt fun n=>aQ (S.tab n) (cs,()) s top out (line:Int) (i:Int)=some (Sum.inr (Sum.inl ((A9,()),s,jW,A8,(xV:Int),()))))
include yI in
theorem QO:∀(d i line:Nat)(out:List ak.den)(a b:LI)(cs:Cls)(top:Int),s.length<i+d→i≤s.length→line≤i+1→out.length≤i→gdI a→gdS b→NI a=NS b→Reads cs top (b++[6])→cs.length≤20*i+2→
    foldI [1000] (out.map kd)=some a→(∀t∈out,TI s t)→VC s out line i a cs top:=by
  have SM:s.length≤2097152:=(by omega);intro d
  induction d with
  |zero=>intro i line out a b cs top hd hi;omega
  |succ d ih=>
    intro i line out a b cs top hd hi SI ho ha hb hn hr yJ hf Xz
    by_cases hl:s.length≤i
    ·
      refine .inr ⟨out,a,b,cs,top,line,ha,hb,hn,hr,by omega,by omega,by omega,hf,Xz,aD.up fun n _=> ?_,aD.up fun n _=> ?_⟩
      · show bj (S.step (S.tab n)) _ _ _ _ _=_
        rw[mX,az (by simp only[ao5];omega)]
      · show aQ (S.step (S.tab n)) _ _ _ _ _ _=_
        rw[ly,az (by simp only[ao5];omega)]
    have u5:i<s.length:=(by omega)
    have iO:decide ((i:Int)<(s.length:Int))=true:=by simp only[ao1];omega
    have kY:=al u5;have w1:i64.wrap ((i:Int)+1)=((i+1:Nat):Int):=bD (by omega);have wl:i64.wrap ((line:Int)+1)=((line+1:Nat):Int):=bD (by omega)
    have Ex:∀x:ak.den,fits (out.length+([x]:List ak.den).length)=true:=fun x=>dY (by unfold lim;simp only[List.length_singleton];omega)
    have Nf:∀k:Int,0≤k→k≤78→p8 a k=iW b k:=fun k h0 h1=>Ia ha hb hn h0 h1
    by_cases xD:get s i=10
    ·
      have JH:=Ky (s:=s) (j:=i+1) (by omega);obtain⟨ds,jW,Ve,hR,hF⟩:=zI (k:=5) (by decide) (by decide) cs (by omega) b top hb.ok hr;have hk:vl (oS b 5) (decide ((6:Int)=5))=iW b 5:=rfl;rw[hk]at hF;have ot:=Ee (k:=5) (by decide) (by decide) a ha;have hk:vl (gD a 5) (decide ((6:Int)=5))=p8 a 5:=rfl;rw[hk,Nf 5 (by decide) (by decide)]at ot
      cases hc:iW b 5 with
      |false=>
        rw[hc]at hF ot;have ih:=ih (blank s (i+1)) (line+1) out a b (cs++ds) top (by omega) JH.1 (by omega) (by omega) ha hb hn hr.mono (by simp;omega) hf Xz
        have BE:∀n,jM (S.tab n) (a++[6]) 5=some (false,ab)→jk (S.tab n) s ((i+1:Nat):Int)=some ((blank s (i+1):Int),ab)→bj (S.step (S.tab n)) s out (a++[6]) (line:Int) (i:Int)=bj (S.tab n) s out (a++[6]) ((line+1:Nat):Int) (blank s (i+1):Int):=fun n ot FZ=>by
          rw[mX,ad iO,ad kY,aF,aL xD,ot,an7,az (by rfl),w1,FZ,an7,wl]
        have Jm:Evt fun n=>bW (S.tab n) (cs,()) s top out ((line+1:Nat):Int) ↑i (7,(i:Int),((i+1:Nat):Int),(line:Int),0,([]:LI),()) (-1) 5=some (Sum.inl ((cs++ds,()),s,top,out,((line+1:Nat):Int),(blank s (i+1):Int),())):=
          (hF.and (Ms hs (cs++ds) top i out ((line+1:Nat):Int) (7,(i:Int),((i+1:Nat):Int),(line:Int),0,([]:LI),()) (e:=i+1) rfl rfl (by omega) (-1) 5 jW)).up fun n ⟨hF,EJ⟩=>wv (by decide) hF EJ
        have BD:∀n,dQ (S.tab n) s (i:Int)=some (((7,(i:Int),((i+1:Nat):Int),0,0,([]:LI),()), -1,()),ab)→bW (S.tab n) (cs,()) s top out ((line+1:Nat):Int) ↑i (7,(i:Int),((i+1:Nat):Int),(line:Int),0,([]:LI),()) (-1) 5=some (Sum.inl ((cs++ds,()),s,top,out,((line+1:Nat):Int),(blank s (i+1):Int),()))→
            aQ (S.step (S.tab n)) (cs,()) s top out (line:Int) (i:Int)=aQ (S.tab n) (cs++ds,()) s top out ((line+1:Nat):Int) (blank s (i+1):Int):=fun n Cb tZ=>by
          rw[ly,ad iO,Cb,an7];dsimp only;rw[ad (by rfl),wl,tZ];rfl
        have Cb:=vS SM u5 xD;have FZ:=oY (s:=s) SM (j:=i+1) (by omega)
        rcases ih with⟨p,e1,e2⟩|⟨A8,a',b',A9,ED,xV,g1,g2,g3,g4,g5,g6,g7,g8,g9,e1,e2⟩
        · refine .inl ⟨p,((e1.and ot).and FZ).up fun n ⟨⟨⟨l,h⟩,hc⟩,hk⟩=>⟨l, ?_⟩,((e2.and Cb).and Jm).up fun n ⟨⟨⟨c,t,h⟩,Cb⟩,tZ⟩=>⟨c,t, ?_⟩⟩
          · show bj (S.step (S.tab n)) _ _ _ _ _=_
            rw[BE n hc hk,h]
          · show aQ (S.step (S.tab n)) _ _ _ _ _ _=_
            rw[BD n Cb tZ,h]
        · refine .inr ⟨A8,a',b',A9,ED,xV,g1,g2,g3,g4,g5,g6,g7,g8,g9,((e1.and ot).and FZ).up fun n ⟨⟨h,hc⟩,hk⟩=> ?_,((e2.and Cb).and Jm).up fun n ⟨⟨h,Cb⟩,tZ⟩=> ?_⟩
          · show bj (S.step (S.tab n)) _ _ _ _ _=_
            rw[BE n hc hk,h]
          · show aQ (S.step (S.tab n)) _ _ _ _ _ _=_
            rw[BD n Cb tZ,h]
      |true=>
        rw[hc]at hF ot;obtain⟨l,m,RJ,Y1,gl,gm,WK⟩:=Ft ha hb hn (k:=5) (by decide) (by decide) (by decide) (by rw[Nf 5 (by decide) (by decide)];exact hc);have mZ:=Cw (k:=5) (by decide) (by decide) (by decide) a ha;rw[RJ]at mZ
        have ih:=ih (blank s (i+1)) (line+1) (out++[(5,(i:Int),((i+1:Nat):Int),(line:Int),0,([]:LI),())]) l m (cs++ds) jW (by omega) JH.1 (by omega) (by simp;omega) gl gm WK (hR m Y1) (by simp;omega)
          (by rw[List.map_append];exact yt _ _ a l 5 hf RJ) (fun t ht=>(aq6.1 ht).elim (Xz t) fun ht=> .inr ⟨i,line,u5,SI,xD,by simpa using ht⟩)
        have BE:∀n,jM (S.tab n) (a++[6]) 5=some (true,ab)→oK (S.tab n) (a++[6]) 5=some (l++[6],ab)→jk (S.tab n) s ((i+1:Nat):Int)=some ((blank s (i+1):Int),ab)→bj (S.step (S.tab n)) s out (a++[6]) (line:Int) (i:Int)=bj (S.tab n) s (out++[(5,(i:Int),((i+1:Nat):Int),(line:Int),0,([]:LI),())]) (l++[6]) ((line+1:Nat):Int) (blank s (i+1):Int):=fun n ot mZ FZ=>by
          rw[mX,ad iO,ad kY,aF,aL xD,ot,an7,ad (by rfl),mZ,an7,ad (Ex _),w1,FZ,an7,wl]
        have Jm:Evt fun n=>bW (S.tab n) (cs,()) s top out ((line+1:Nat):Int) ↑i (7,(i:Int),((i+1:Nat):Int),(line:Int),0,([]:LI),()) (-1) 5=some (Sum.inr (Sum.inr (Sum.inl ((cs++ds,()),s,jW,out++[(5,(i:Int),((i+1:Nat):Int),(line:Int),0,([]:LI),())],((line+1:Nat):Int),(blank s (i+1):Int),())))):=
          (hF.and (IE hs (cs++ds) top i out (by omega) ((line+1:Nat):Int) (7,(i:Int),((i+1:Nat):Int),(line:Int),0,([]:LI),()) (e:=i+1) rfl (by omega) 5 jW)).up fun n ⟨hF,EJ⟩=>wv (by decide) hF EJ
        have BD:∀n,dQ (S.tab n) s (i:Int)=some (((7,(i:Int),((i+1:Nat):Int),0,0,([]:LI),()), -1,()),ab)→bW (S.tab n) (cs,()) s top out ((line+1:Nat):Int) ↑i (7,(i:Int),((i+1:Nat):Int),(line:Int),0,([]:LI),()) (-1) 5=some (Sum.inr (Sum.inr (Sum.inl ((cs++ds,()),s,jW,out++[(5,(i:Int),((i+1:Nat):Int),(line:Int),0,([]:LI),())],((line+1:Nat):Int),(blank s (i+1):Int),()))))→
            aQ (S.step (S.tab n)) (cs,()) s top out (line:Int) (i:Int)=aQ (S.tab n) (cs++ds,()) s jW (out++[(5,(i:Int),((i+1:Nat):Int),(line:Int),0,([]:LI),())]) ((line+1:Nat):Int) (blank s (i+1):Int):=fun n Cb tZ=>by
          rw[ly,ad iO,Cb,an7];dsimp only;rw[ad (by rfl),wl,tZ];rfl
        have Cb:=vS SM u5 xD;have FZ:=oY (s:=s) SM (j:=i+1) (by omega)
        rcases ih with⟨p,e1,e2⟩|⟨A8,a',b',A9,ED,xV,g1,g2,g3,g4,g5,g6,g7,g8,g9,e1,e2⟩
        · refine .inl ⟨p,(((e1.and ot).and mZ).and FZ).up fun n ⟨⟨⟨⟨l',h⟩,hc⟩,mZ⟩,hk⟩=>⟨l', ?_⟩,((e2.and Cb).and Jm).up fun n ⟨⟨⟨c,t,h⟩,Cb⟩,tZ⟩=>⟨c,t, ?_⟩⟩
          · show bj (S.step (S.tab n)) _ _ _ _ _=_
            rw[BE n hc mZ hk,h]
          · show aQ (S.step (S.tab n)) _ _ _ _ _ _=_
            rw[BD n Cb tZ,h]
        · refine .inr ⟨A8,a',b',A9,ED,xV,g1,g2,g3,g4,g5,g6,g7,g8,g9,(((e1.and ot).and mZ).and FZ).up fun n ⟨⟨⟨h,hc⟩,mZ⟩,hk⟩=> ?_,((e2.and Cb).and Jm).up fun n ⟨⟨h,Cb⟩,tZ⟩=> ?_⟩
          · show bj (S.step (S.tab n)) _ _ _ _ _=_
            rw[BE n hc mZ hk,h]
          · show aQ (S.step (S.tab n)) _ _ _ _ _ _=_
            rw[BD n Cb tZ,h]
    have Ev:=uk SM u5 xD;have KX:=Bo SM yI u5;have Ji:=JV hs a ha i u5;rw[Hx Nf s i]at Ji
    have wI:∀n,kG (S.tab n) (a++[6]) s (i:Int)=some ((jO (iW b) s i:Int),aP)→WrongAt (iW b) (get s i)→((kG (S.tab n) (a++[6]) s ↑i).bind fun d61=>some (Sum.inl (([]:List ak.den),a++[6],i64.wrap ((i:Int)+d61.1),())))=(some (Sum.inl ([],a++[6],((i+jO (iW b) s i:Nat):Int),())):Option ((List ak.den×LI×Int×Unit)⊕(List ak.den×LI×Unit)⊕Empty)):=fun n h hw=>by
      obtain⟨l1,_,_⟩:=D9 u5 hw;rw[h,an7];dsimp only;rw[wrap64 _ (by omega) (by omega)];rfl
    have K0:∀n t' bd,ij (S.tab n) s (i:Int)=some ((t',bd,()),ab)→bj (S.step (S.tab n)) s out (a++[6]) (line:Int) (i:Int)=_:=fun n t' bd h=>by
      rw[mX,ad iO,ad kY,aF,aH xD,h,an7]
    have Ba:∀n (t':ak.den) (bd:Int),dQ (S.tab n) s (i:Int)=some ((t',bd,()),ab)→t'.1≠7→aQ (S.step (S.tab n)) (cs,()) s top out (line:Int) (i:Int)=(bW (S.tab n) (cs,()) s top out (line:Int) ↑i (t'.1,t'.2.1,t'.2.2.1,(line:Int),t'.2.2.2.2) bd t'.1).bind (MY
       (fun nv=>aQ (S.tab n) nv.1 nv.2.1 nv.2.2.1 nv.2.2.2.1 nv.2.2.2.2.1 nv.2.2.2.2.2.1)
       (fun nv=>some (Sum.inl nv))
       (fun nv=>aQ (S.tab n) nv.1 nv.2.1 nv.2.2.1 nv.2.2.2.1 nv.2.2.2.2.1 nv.2.2.2.2.2.1)):=fun n t' bd h h7=>by
      rw[ly,ad iO,h,an7];dsimp only;rw[aH h7]
    have RP:∀n (t':ak.den) (bd:Bool) (k:Int) (e:Nat),t'.1=k→k≠0→ij (S.tab n) s (i:Int)=some ((t',bd,()),ab)→jM (S.tab n) (a++[6]) k=some (iW b k,ab)→kG (S.tab n) (a++[6]) s (i:Int)=some ((jO (iW b) s i:Int),aP)→(iW b k=true→bd=true∧t'.2.2.1=(e:Int))→(iW b k=false→WrongAt (iW b) (get s i))→
        bj (S.step (S.tab n)) s out (a++[6]) (line:Int) (i:Int)=some (Sum.inl ([],a++[6],((bif iW b k then e else i+jO (iW b) s i:Nat):Int),())):=fun n t' bd k e hk h0 hx hc Qt h1 h2=>by
      rw[K0 n t' bd hx];dsimp only;rw[aH (by rw[hk];exact h0)];rw[hk,hc,an7]
      cases hv:iW b k with
      |false=>
        rw[ad (by rfl)];exact wI n Qt (h2 hv)
      |true=>
        obtain⟨rfl,e2⟩:=h1 hv;rw[az (by rfl),ad rfl,e2];rfl
    have PI:∀k:Int,0≤k→k≤78→Evt fun n=>jM (S.tab n) (a++[6]) k=some (iW b k,ab):=fun k h0 h1=>by
      have ot:=Ee h0 h1 a ha;have hk:vl (gD a k) (decide ((6:Int)=k))=p8 a k:=rfl;rw[hk,Nf k h0 h1]at ot;exact ot
    cases hx:l9 s i with
    |inl e=>
      rw[hx]at Ev KX;have Hm:iW b 2=iW b 3:=AE hb
      cases hd:aW (get s i)with
      |true=>
        have CE:get s i≠34:=fun e=>by rw[e]at hd;cases hd
        have hw:iW b 2=false→WrongAt (iW b) (get s i):=fun h=>⟨fun _=>⟨h,by rw[←Hm];exact h⟩,fun e=>absurd e CE⟩
        have kind:∀k:Int,kB (get s i) k=true→k=2∨k=3:=fun k h=>by
          unfold kB at h;rw[hd]at h;have h:k23 k=true:=h;unfold k23 at h;simpa only[ar7,ao1]using h
        refine .inl ⟨bif iW b 2 then e else i+jO (iW b) s i,((((PI 2 (by decide) (by decide)).and (PI 3 (by decide) (by decide))).and Ji).and KX).up fun n ⟨⟨⟨c2,c3⟩,Qt⟩,t',bd,h,hR⟩=>⟨a++[6], ?_⟩, ?_⟩
        · show bj (S.step (S.tab n)) _ _ _ _ _=_
          obtain⟨r1,r2,r3⟩:bd=true∧t'.2.2.1=(e:Int)∧kB (get s i) t'.1=true:=hR
          rcases kind _ r3 with hk|hk
          · exact RP n t' bd 2 e hk (by decide) h c2 Qt (fun _=>⟨r1,r2⟩) hw
          · rw[Hm]
            exact RP n t' bd 3 e hk (by decide) h c3 Qt (fun _=>⟨r1,r2⟩) (fun h=>hw (by rw[Hm];exact h))
        · refine(((LX hs hb hr (by omega) u5 (k:=2) (by decide) (by decide) hw out line e).and (LX hs hb hr (by omega) u5 (k:=3) (by decide) (by decide) (fun h=>hw (by rw[Hm];exact h)) out line e)).and Ev).up fun n ⟨⟨b2,b3⟩,t',bd,h,hR⟩=> ?_
          obtain⟨r1,r3⟩:bd=(e:Int)∧kB (get s i) t'.1=true:=hR;show∃c t,aQ (S.step (S.tab n)) _ _ _ _ _ _=_
          rcases kind _ r3 with hk|hk
          · obtain⟨c,t,hh⟩:=b2 (t'.1,t'.2.1,t'.2.2.1,(line:Int),t'.2.2.2.2) bd (by show t'.1≠7;rw[hk];decide) (fun _=>r1)
            rw[Ba n t' bd h (by rw[hk];decide)];rw[←hk]at hh;refine⟨c,t, ?_⟩;rw[hh,hk];rfl
          · obtain⟨c,t,hh⟩:=b3 (t'.1,t'.2.1,t'.2.2.1,(line:Int),t'.2.2.2.2) bd (by show t'.1≠7;rw[hk];decide) (fun _=>r1)
            rw[Ba n t' bd h (by rw[hk];decide)];rw[←hk]at hh;refine⟨c,t, ?_⟩;rw[hh,hk,Hm];rfl
      |false=>
        by_cases CE:get s i=34
        · have hw:iW b 4=false→WrongAt (iW b) (get s i):=fun h=>⟨fun e=>(by rw[hd]at e;cases e),fun _=>h⟩
          have kind:∀k:Int,kB (get s i) k=true→k=4:=fun k h=>by
            unfold kB at h;rw[hd,an8 CE]at h;exact of_decide_eq_true h
          refine .inl ⟨bif iW b 4 then e else i+jO (iW b) s i,(((PI 4 (by decide) (by decide)).and Ji).and KX).up fun n ⟨⟨c4,Qt⟩,t',bd,h,hR⟩=>⟨a++[6], ?_⟩,((LX hs hb hr (by omega) u5 (k:=4) (by decide) (by decide) hw out line e).and Ev).up fun n ⟨b4,t',bd,h,hR⟩=> ?_⟩
          · show bj (S.step (S.tab n)) _ _ _ _ _=_
            obtain⟨r1,r2,r3⟩:bd=true∧t'.2.2.1=(e:Int)∧kB (get s i) t'.1=true:=hR;exact RP n t' bd 4 e (kind _ r3) (by decide) h c4 Qt (fun _=>⟨r1,r2⟩) hw
          · obtain⟨r1,r3⟩:bd=(e:Int)∧kB (get s i) t'.1=true:=hR
            show∃c t,aQ (S.step (S.tab n)) _ _ _ _ _ _=_;have hk:=kind _ r3;obtain⟨c,t,hh⟩:=b4 (t'.1,t'.2.1,t'.2.2.1,(line:Int),t'.2.2.2.2) bd (by show t'.1≠7;rw[hk];decide) (fun _=>r1);rw[Ba n t' bd h (by rw[hk];decide)];rw[←hk]at hh;refine⟨c,t, ?_⟩;rw[hh,hk];rfl
        · have hw:WrongAt (iW b) (get s i):=⟨fun e=>(by rw[hd]at e;cases e),fun e=>absurd e CE⟩
          have kind:∀k:Int,kB (get s i) k=true→k=0:=fun k h=>by
            unfold kB at h;rw[hd,an6 CE]at h;exact of_decide_eq_true h
          refine .inl ⟨i+jO (iW b) s i,(Ji.and KX).up fun n ⟨Qt,t',bd,h,hR⟩=>⟨a++[6], ?_⟩, ?_⟩
          · show bj (S.step (S.tab n)) _ _ _ _ _=_
            obtain⟨r1,r2,r3⟩:bd=true∧t'.2.2.1=(e:Int)∧kB (get s i) t'.1=true:=hR;rw[K0 n t' bd h];dsimp only;rw[aL (kind _ r3)];exact wI n Qt hw
          · have tZ:Evt fun n=>∀(tok:ak.den) (t12:Int),tok.1≠7→bW (S.tab n) (cs,()) s top out (line:Int) ↑i tok t12 0=some (Sum.inr (Sum.inl ((cs,()),[],top,((i+jO (iW b) s i:Nat):Int),()))):=
              (Fx hs hb hr (by omega) u5 hw out line).up fun n EJ tok t12 h7=>Oj (EJ tok t12 0 top h7)
            refine(tZ.and Ev).up fun n ⟨tZ,t',bd,h,hR⟩=>⟨(cs,()),top, ?_⟩
            obtain⟨r1,r3⟩:bd=(e:Int)∧kB (get s i) t'.1=true:=hR;have hk:=kind _ r3;rw[Ba n t' bd h (by rw[hk];decide)];have hh:=tZ (t'.1,t'.2.1,t'.2.2.1,(line:Int),t'.2.2.2.2) bd (by show t'.1≠7;rw[hk];decide);rw[←hk]at hh;rw[hh];rfl
    |inr t=>
      rw[hx]at Ev KX;obtain⟨k1,UT,k6,Va⟩:=AT hx;obtain⟨⟨e,he,hie,Nb⟩,h7⟩:=MF SM u5 hx
      cases hc:iW b (kd t)with
      |false=>
        have Hm:iW b 2=iW b 3:=AE hb
        have hw:WrongAt (iW b) (get s i):=⟨fun hd=>by
            have hl:bE (get s i)=false:=by
              cases h:bE (get s i)with
              |false=>rfl
              |true=>rw[zp h]at hd;cases hd
            rcases(zE hx).2.1 hl hd with e|e
            · rw[e]at hc;exact⟨hc,by rw[←Hm];exact hc⟩
            · rw[e]at hc;exact⟨by rw[Hm];exact hc,hc⟩,fun e=>by rw[Va e]at hc;exact hc⟩
        refine .inl ⟨i+jO (iW b) s i,(((PI (kd t) (by omega) UT).and Ji).and KX).up fun n ⟨⟨ck,Qt⟩,t',bd,h,hR⟩=>⟨a++[6], ?_⟩,((LX hs hb hr (by omega) u5 k1 UT (fun _=>hw) out line 0).and Ev).up fun n ⟨b4,t',bd,h,hR⟩=> ?_⟩
        · show bj (S.step (S.tab n)) _ _ _ _ _=_
          obtain⟨r1,r2⟩:bd=false∧t'=t:=hR;subst r2;have:=RP n t' bd (kd t') 0 rfl (by omega) h ck Qt (fun e=>by rw[hc]at e;cases e) (fun _=>hw);rw[hc]at this;exact this
        · obtain⟨r1,r2⟩:bd= -1∧t'=t:=hR
          subst r2;show∃c t,aQ (S.step (S.tab n)) _ _ _ _ _ _=_;obtain⟨c,t,hh⟩:=b4 (t'.1,t'.2.1,t'.2.2.1,(line:Int),t'.2.2.2.2) bd h7 (fun e=>by rw[hc]at e;cases e);rw[Ba n t' bd h h7];rw[hc]at hh;have hh:bW (S.tab n) (cs,()) s top out (line:Int) ↑i (t'.1,t'.2.1,t'.2.2.1,(line:Int),t'.2.2.2.2) bd t'.1=_:=hh;exact⟨c,t,by rw[hh];rfl⟩
      |true=>
        have JH:=Ky (s:=s) (j:=e) Nb;obtain⟨ds,jW,Ve,hR,hF⟩:=zI (k:=kd t) (by omega) UT cs (by omega) b top hb.ok hr;have hk:vl (oS b (kd t)) (decide ((6:Int)=kd t))=iW b (kd t):=rfl;rw[hk,hc]at hF;obtain⟨l,m,RJ,Y1,gl,gm,WK⟩:=Ft ha hb hn (k:=kd t) (by omega) UT k6 (by rw[Nf _ (by omega) UT];exact hc);have mZ:=Cw (k:=kd t) (by omega) UT k6 a ha;rw[RJ]at mZ;have ot:=PI (kd t) (by omega) UT;rw[hc]at ot
        have ih:=ih (blank s e) line (out++[lnd t line]) l m (cs++ds) jW (by omega) JH.1 (by omega) (by simp;omega) gl gm WK (hR m Y1) (by simp;omega)
          (by rw[List.map_append];exact yt _ _ a l (kd t) hf RJ) (fun x ht=>(aq6.1 ht).elim (Xz x) fun ht=> .inl ⟨i,line,t,u5,SI,xD,hx,by simpa using ht⟩)
        have FZ:=oY (s:=s) SM (j:=e) Nb
        have BE:∀n,ij (S.tab n) s (i:Int)=some ((t,false,()),ab)→jM (S.tab n) (a++[6]) (kd t)=some (true,ab)→oK (S.tab n) (a++[6]) (kd t)=some (l++[6],ab)→jk (S.tab n) s (e:Int)=some ((blank s e:Int),ab)→bj (S.step (S.tab n)) s out (a++[6]) (line:Int) (i:Int)=bj (S.tab n) s (out++[lnd t line]) (l++[6]) (line:Int) (blank s e:Int):=fun n KZ ot mZ FZ=>by
          have ot:jM (S.tab n) (a++[6]) t.1=_:=ot;have mZ:oK (S.tab n) (a++[6]) t.1=_:=mZ
          have Wo:¬ t.1=0:=fun e=>by have e:kd t=0:=e;omega
          rw[K0 n t false KZ];dsimp only;rw[aH Wo,ot,an7,az (by rfl),az rfl,mZ,an7,ad (Ex _),he,FZ,an7];unfold lnd;rw[he]
        have Jm:Evt fun n=>bW (S.tab n) (cs,()) s top out (line:Int) ↑i (t.1,t.2.1,t.2.2.1,(line:Int),t.2.2.2.2) (-1) (kd t)=some (Sum.inr (Sum.inr (Sum.inl ((cs++ds,()),s,jW,out++[lnd t line],(line:Int),(blank s e:Int),())))):=
          (hF.and (IE hs (cs++ds) top i out (by omega) (line:Int) (t.1,t.2.1,t.2.2.1,(line:Int),t.2.2.2.2) (e:=e) he Nb (kd t) jW)).up fun n ⟨hF,EJ⟩=>wv k1 hF EJ
        have BD:∀n,dQ (S.tab n) s (i:Int)=some ((t, -1,()),ab)→bW (S.tab n) (cs,()) s top out (line:Int) ↑i (t.1,t.2.1,t.2.2.1,(line:Int),t.2.2.2.2) (-1) (kd t)=some (Sum.inr (Sum.inr (Sum.inl ((cs++ds,()),s,jW,out++[lnd t line],(line:Int),(blank s e:Int),()))))→
            aQ (S.step (S.tab n)) (cs,()) s top out (line:Int) (i:Int)=aQ (S.tab n) (cs++ds,()) s jW (out++[lnd t line]) (line:Int) (blank s e:Int):=fun n Cb tZ=>by
          have tZ:bW (S.tab n) (cs,()) s top out (line:Int) ↑i (t.1,t.2.1,t.2.2.1,(line:Int),t.2.2.2.2) (-1) t.1=_:=tZ;rw[Ba n t (-1) Cb h7,tZ];rfl
        have SN:Evt fun n=>ij (S.tab n) s (i:Int)=some ((t,false,()),ab):=KX.mono fun n ⟨t',bd,h,hR⟩=>by
          obtain⟨r1,r2⟩:bd=false∧t'=t:=hR;rw[r1,r2]at h;exact h
        have PA:Evt fun n=>dQ (S.tab n) s (i:Int)=some ((t, -1,()),ab):=Ev.mono fun n ⟨t',bd,h,hR⟩=>by
          obtain⟨r1,r2⟩:bd= -1∧t'=t:=hR;rw[r1,r2]at h;exact h
        rcases ih with⟨p,e1,e2⟩|⟨A8,a',b',A9,ED,xV,g1,g2,g3,g4,g5,g6,g7,g8,g9,e1,e2⟩
        · refine .inl ⟨p,((((e1.and SN).and ot).and mZ).and FZ).up fun n ⟨⟨⟨⟨⟨l',h⟩,KZ⟩,hc⟩,mZ⟩,hk⟩=>⟨l', ?_⟩,((e2.and PA).and Jm).up fun n ⟨⟨⟨c,t,h⟩,Cb⟩,tZ⟩=>⟨c,t, ?_⟩⟩
          · show bj (S.step (S.tab n)) _ _ _ _ _=_
            rw[BE n KZ hc mZ hk,h]
          · show aQ (S.step (S.tab n)) _ _ _ _ _ _=_
            rw[BD n Cb tZ,h]
        · refine .inr ⟨A8,a',b',A9,ED,xV,g1,g2,g3,g4,g5,g6,g7,g8,g9,((((e1.and SN).and ot).and mZ).and FZ).up fun n ⟨⟨⟨⟨h,KZ⟩,hc⟩,mZ⟩,hk⟩=> ?_,((e2.and PA).and Jm).up fun n ⟨⟨h,Cb⟩,tZ⟩=> ?_⟩
          · show bj (S.step (S.tab n)) _ _ _ _ _=_
            rw[BE n KZ hc mZ hk,h]
          · show aQ (S.step (S.tab n)) _ _ _ _ _ _=_
            rw[BD n Cb tZ,h]
include yI in
theorem QF:(∃p:Nat,(Evt fun n=>∃l,qF (S.tab n) s=some (([],l,(p:Int),()),aa))∧Evt fun n=>∃c t,nF (S.tab n) ([],()) s=some (([],t,(p:Int),()),c,(),()))∨
  (∃(out:List ak.den) (a b:LI) (cs:Cls) (top:Int) (line:Nat),gdI a∧gdS b∧NI a=NS b∧Reads cs top (b++[6])∧cs.length≤1999900∧out.length≤s.length∧line≤s.length+1∧
   foldI [1000] (out.map kd)=some a∧(∀t∈out,TI s t)∧
   (Evt fun n=>qF (S.tab n) s=some ((out,a++[6],(-1:Int),()),aa))∧
   Evt fun n=>nF (S.tab n) ([],()) s=some ((out++[(6,(s.length:Int),(s.length:Int),(line:Int),0,([]:LI),())],top,(-1:Int),()),(cs,()),(),())):=by
 have JH:=Ky (s:=s) (j:=0) (by omega);have XB:Reads [(6,(-1:Int),()),(100,(0:Int),())] 1 ([100]++[6]):=⟨1,0,rfl,rfl,0, -1,rfl,rfl,rfl⟩
 have P7:Evt fun n=>rF (S.tab n) ([],())=some (1,([(6,(-1:Int),()),(100,(0:Int),())],()),()):=
  ((D2 [] (by simp) (-1) 6).and (D2 [(6,(-1:Int),())] (by simp) 0 100)).up fun n ⟨h1,h2⟩=>by
   rw[yS,h1,an7];show(lf (S.tab n) ([(6,(-1:Int),())],()) 0 100).bind _=_;rw[h2];rfl
 have Su:Evt fun n=>ug (S.tab n)=some ([1000,6],fv):=aD.up fun n _=>by
  rw[B3]
 have RQ:=oY (s:=s) (by omega) (j:=0) (by omega);have ab9:=rH (s:=s) (by omega) (j:=0) (by omega)
 have hw:=QO hs yI (s.length+1) (blank s 0) 1 [] [1000] [100] [(6,(-1:Int),()),(100,(0:Int),())] 1 (by omega) JH.1 (by omega) (by simp)
  Sc XY (by kernel_rfl) XB (by simp) rfl (fun t ht=>by cases ht)
 rcases hw with⟨p,e1,e2⟩|⟨A8,a',b',A9,ED,xV,g1,g2,g3,g4,g5,g6,g7,g8,g9,e1,e2⟩
 ·refine .inl ⟨p,((e1.and Su).and RQ).up fun n ⟨⟨⟨l,h⟩,hm⟩,hk⟩=>⟨l, ?_⟩,((e2.and P7).and ab9).up fun n ⟨⟨⟨c,t,h⟩,hm⟩,hk⟩=>⟨c,t, ?_⟩⟩
  ·show qF (S.step (S.tab n)) _=_;have hk:jk (S.tab n) s 0=_:=hk;have h:bj (S.tab n) s [] [1000,6] 1 (blank s 0:Int)=_:=h;rw[zi,hm,an7,hk,an7];dsimp only;rw[h];rfl
  ·show nF (S.step (S.tab n)) _ _=_;have hk:jd (S.tab n) s 0=_:=hk;have h:aQ (S.tab n) ([(6,(-1:Int),()),(100,(0:Int),())],()) s 1 [] 1 (blank s 0:Int)=_:=h;rw[vU,hm,an7,hk,an7];dsimp only;rw[h];rfl
 ·refine .inr ⟨A8,a',b',A9,ED,xV,g1,g2,g3,g4,g5,g6,g7,g8,g9,((e1.and Su).and RQ).up fun n ⟨⟨h,hm⟩,hk⟩=> ?_,((e2.and P7).and ab9).up fun n ⟨⟨h,hm⟩,hk⟩=> ?_⟩
  ·show qF (S.step (S.tab n)) _=_;have hk:jk (S.tab n) s 0=_:=hk;have h:bj (S.tab n) s [] [1000,6] 1 (blank s 0:Int)=_:=h;rw[zi,hm,an7,hk,an7];dsimp only;rw[h];rfl
  ·show nF (S.step (S.tab n)) _ _=_;have hk:jd (S.tab n) s 0=_:=hk;have h:aQ (S.tab n) ([(6,(-1:Int),()),(100,(0:Int),())],()) s 1 [] 1 (blank s 0:Int)=_:=h;rw[vU,hm,an7,hk,an7];dsimp only;rw[h,an7];simp only[bw,aq9,aq0];rw[ad (dY (by unfold lim;simp;omega))]
end Go.Abs.D
end

section
namespace Go.Abs.D
def KA (out:List ak.den)(a:Nat):Int:=(out.map kd).getD a 6
def Ac (out:List ak.den)(st:LI)(a:Nat):Prop:=∃b,foldI st ((out.map kd).drop a)=some b∧gD b 6= .gone
theorem tL {out:List ak.den}{s:Int}{r:LI}{a:Nat}(ha:a≤out.length)(h:Ac out (s::r) a):
  (∃l,stI s (KA out a)= .left l∧a<out.length∧Ac out (l++r) (a+1))∨(stI s (KA out a)= .gone∧Ac out r a):=by
 obtain⟨b,h1,h2⟩:=h
 have ho:∀k,gD (s::r) k=(stI s k).then r (gD r k):=fun k=>fZ stI s r k
 rcases Nat.lt_or_ge a out.length with hl|hl
 ·have Vg:a<(out.map kd).length:=(by simpa using hl)
  have hd:(out.map kd).drop a=KA out a::(out.map kd).drop (a+1):=by
   rw[List.drop_eq_getElem_cons Vg];unfold KA;rw[ap9,ap8 Vg];rfl
  rw[hd]at h1;have h1:(match gD (s::r) (KA out a)with| .left l=>foldI l ((out.map kd).drop (a+1))|_=>none)=some b:=h1;rw[ho]at h1
  cases hs:stI s (KA out a)with
  |no=>rw[hs]at h1;cases h1
  |gone=>
   rw[hs]at h1;refine .inr ⟨rfl,b, ?_,h2⟩;rw[hd];exact h1
  |left l=>rw[hs]at h1;exact .inl ⟨l,rfl,hl,b,h1,h2⟩
 ·have hk:KA out a=6:=by
   unfold KA;rw[ap9,List.getElem?_eq_none (by simpa using hl)];rfl
  have hd:(out.map kd).drop a=[]:=List.drop_eq_nil_of_le (by simpa using hl);rw[hd]at h1
  injection h1 with h1
  subst h1;rw[ho]at h2;rw[hk]
  cases hs:stI s 6 with
  |no=>rw[hs]at h2;cases h2
  |left l=>rw[hs]at h2;cases h2
  |gone=>rw[hs]at h2;exact .inr ⟨rfl,r,by rw[hd];rfl,h2⟩
theorem iM {out:List ak.den}{s:Int}{r:LI}{a:Nat}(h:Ac out (s::r) a)(ha:a≤out.length)(hs:s≤78):a<out.length∧KA out a=s∧Ac out r (a+1):=by
 rcases tL ha h with⟨l,e,hl,h⟩|⟨e,h⟩
 ·rw[sE hs]at e
  cases hd:decide (s=KA out a)with
  |false=>rw[hd]at e;cases e
  |true=>
   rw[hd]at e
   injection e with e
   subst e;exact⟨hl,(of_decide_eq_true hd).symm,h⟩
 ·rw[sE hs]at e;cases hd:decide (s=KA out a)<;>(rw[hd]at e;cases e)
theorem bZ {out:List ak.den}{s k:Int}{l r:LI}{a:Nat}(e:stI s k= .left l)(hk:KA out a=k)(h:Ac out (s::r) a)(ha:a≤out.length):a<out.length∧Ac out (l++r) (a+1):=by
 subst hk
 rcases tL ha h with⟨l',e',hl,h⟩|⟨e',h⟩
 ·rw[e]at e';injection e' with e';subst e';exact⟨hl,h⟩
 ·rw[e]at e';cases e'
theorem eY {out:List ak.den}{s k:Int}{r:LI}{a:Nat}(e:stI s k= .gone)(hk:KA out a=k)(h:Ac out (s::r) a)(ha:a≤out.length):Ac out r a:=by
 subst hk
 rcases tL ha h with⟨l',e',hl,h⟩|⟨e',h⟩
 ·rw[e]at e';cases e'
 ·exact h
theorem qk {out:List ak.den}{s k:Int}{r:LI}{a:Nat}(e:stI s k= .no)(hk:KA out a=k)(h:Ac out (s::r) a)(ha:a≤out.length):False:=by
 subst hk
 rcases tL ha h with⟨l',e',hl,h⟩|⟨e',h⟩<;>(rw[e]at e';cases e')
def pw (k:Int):Int:=bif decide (k=26)then 1 else bif decide (k=10)then 2 else([9,9,10,10,10,10,7,5,6,8,8,4,3,3,3,3,3,3]:LI).getD (k - 61).toNat 0
def pr (k:Int):Int:=bif decide (k=72)then 4 else pw k+1
def unK (k:Int):Int:=bif decide (k=25)then 21 else bif decide (k=50)then 22 else bif decide (k=69)then 20 else 19
theorem S2:(kinds.all fun k=>decide (stI 1020 k=bif rN k then .left [1020]else bif decide (k=1)then .left [1021]else bif decide (k=40)then .left [1018,41,1021]else bif decide (k=18)then .left [1028]else bif decide (k=42)then .left [1029,43]else bif je k then .left []else .no))=true:=by kernel_rfl
theorem Tj:(kinds.all fun k=>decide (stI 1018 k=(stI 1020 k).then [1019] .no))=true:=by kernel_rfl
theorem OW:(kinds.all fun k=>decide (stI 1019 k=bif tV k then .left [1020,1019]else .gone))=true:=by kernel_rfl
theorem Lh:(kinds.all fun k=>decide (stI 1023 k=bif decide (k=46)then .left [1018,1023]else .gone))=true:=by kernel_rfl
theorem SV:(kinds.all fun k=>decide (stI 1022 k=bif je k then(stI 1018 k).then [1023] .no else .gone))=true:=by kernel_rfl
theorem V9:(kinds.all fun k=>decide (stI 1007 k=bif je k then(stI 1018 k).then [1023] .no else .gone))=true:=by kernel_rfl
theorem Cp:(kinds.all fun k=>decide (stI 1006 k=bif decide (k=46)then .left [1,1006]else .gone))=true:=by kernel_rfl
theorem SY:(kinds.all fun k=> !rN k||(je k&& !decide (k=1)&& !decide (k=40)))=true:=by kernel_rfl
theorem Sa:(kinds.all fun k=>(tV k==KQ k)&&(!tV k||(decide (1≤pw k)&&decide (pw k≤10))))=true:=by kernel_rfl
end Go.Abs.D
end

section
namespace Go.Abs.D
abbrev Node:Type:=ae.den
end Go.Abs.D
end

section
set_option maxRecDepth 100000
namespace Go.Abs.D
abbrev StT:Type:=List ak.den×Int×List Node×Unit
def uN:Unit×Unit×Unit×Unit×Unit×Unit×Unit×Unit×Unit×Unit:=((),(),(),(),(),(),(),(),(),())
def tkA (ts:List ak.den)(a:Nat):ak.den:=at_ (τ:=ak) ts ↑a
def Hj (ts:List ak.den)(b a:Nat)(x:Node):Node:=(x.1,(tkA ts b).2.1,(tkA ts (a - 1)).2.2.1,(tkA ts b).2.2.2.1,x.2.2.2.2)
structure PBs (ts:List ak.den)(L:Nat)(T:S.Tab):Prop where
 kI:∀(a:Nat) nd,a≤L→bM T (ts,(a:Int),nd,())=some ((tkA ts a).1,(ts,(a:Int),nd,()),())
 tI:∀(a:Nat) nd,a<L→av T (ts,(a:Int),nd,())=some (tkA ts a,(ts,((a+1:Nat):Int),nd,()),())
 eI:∀(a:Nat) nd k,a≤L→bP T (ts,(a:Int),nd,()) k=some (decide ((tkA ts a).1=k),(ts,(((bif decide ((tkA ts a).1=k)then a+1 else a):Nat):Int),nd,()),(),())
 cI:∀(a b:Nat) nd x,a<L→b<L→nd.length≤300000→ar T (ts,((a+1:Nat):Int),nd,()) (b:Int) x=some ((nd.length:Int),(ts,((a+1:Nat):Int),nd++[Hj ts b (a+1) x],()),(),uN,())
 aI:∀(a:Int) nd x,nd.length≤300000→gJ T (ts,a,nd,()) x=some ((nd.length:Int),(ts,a,nd++[x],()),uN,())
 kS:∀(a:Nat) nd,a≤L→bX T (ts,(a:Int),nd,())=some ((tkA ts a).1,(ts,(a:Int),nd,()),())
 tS:∀(a:Nat) nd,a<L→aO T (ts,(a:Int),nd,())=some (tkA ts a,(ts,((a+1:Nat):Int),nd,()),())
 eS:∀(a:Nat) nd k,a≤L→gM T (ts,(a:Int),nd,()) k=some (decide ((tkA ts a).1=k),(ts,(((bif decide ((tkA ts a).1=k)then a+1 else a):Nat):Int),nd,()),(),())
 aS:∀(a:Nat) nd x,a<L→nd.length≤300000→aE T (ts,((a+1:Nat):Int),nd,()) x=some ((nd.length:Int),(ts,((a+1:Nat):Int),nd++[(x.1,x.2.1,(tkA ts a).2.2.1,x.2.2.2)],()),uN,())
 nS:∀k t,bf T k t=some ((k,t.2.1,0,t.2.2.2.1,0,0,([]:LI),[],[],()),bY)
 uI:∀(x:Node) (a b:Nat) nd,a<L→b<L→nd.length≤300000→cF T x (ts,(a:Int),nd,()) (b:Int)=some ((nd.length:Int),uN,(ts,((a+1:Nat):Int),nd++[Hj ts b (a+1) x],()),(b:Int),())
 pI:∀k:Int,bn T k=some (rN k,aa)
 pS:∀k:Int,bH T k=some (rN k,aa)
 bI:∀k:Int,du T k=some (je k,aa)
 bS:∀k:Int,cz T k=some (je k,aa)
 iS:∀k:Int,jH T k=some (KQ k,aa)
 sS:∀k:Int,qt T k=some (unK k,aa)
 wS:∀k:Int,k∈kinds→tV k=true→qm T k=some ((pw k,pr k,()),aa)
 wI:∀k:Int,k∈kinds→ur T k=some (bif tV k then pw k else 0,aa)
theorem SW (T:S.Tab):(kinds.all fun k=> !tV k||decide (qm (S.step (S.step T)) k=some ((pw k,pr k,()),aa)))=true:=by kernel_rfl
theorem Tq (T:S.Tab):(kinds.all fun k=>decide (ur (S.step (S.step T)) k=some (bif tV k then pw k else 0,aa)))=true:=by kernel_rfl
theorem L9 {a:Nat}(h:a≤4194304):i64.wrap (((a+1:Nat):Int) - 1)=(a:Int):=by
 rw[wrap64 _ (by omega) (by omega)];omega
structure PB1 (ts:List ak.den)(L:Nat)(T:S.Tab):Prop where
 kI:∀(a:Nat) nd,a≤L→bM T (ts,(a:Int),nd,())=some ((tkA ts a).1,(ts,(a:Int),nd,()),())
 tI:∀(a:Nat) nd,a<L→av T (ts,(a:Int),nd,())=some (tkA ts a,(ts,((a+1:Nat):Int),nd,()),())
 aI:∀(a:Int) nd x,nd.length≤300000→gJ T (ts,a,nd,()) x=some ((nd.length:Int),(ts,a,nd++[x],()),uN,())
 kS:∀(a:Nat) nd,a≤L→bX T (ts,(a:Int),nd,())=some ((tkA ts a).1,(ts,(a:Int),nd,()),())
 pI:∀k:Int,bn T k=some (rN k,aa)
 pS:∀k:Int,bH T k=some (rN k,aa)
theorem pb1 {ts:List ak.den}{L:Nat}(hl:ts.length=L+1)(hL:L≤65536)(T:S.Tab):PB1 ts L (S.step T):=by
 refine⟨fun a nd ha=> ?_,fun a nd ha=> ?_,fun a nd x hn=> ?_,fun a nd ha=> ?_,fun k=> ?_,fun k=> ?_⟩
 ·rw[xm];dsimp only;exact ad (al (by omega))
 ·rw[xt];dsimp only;rw[bD (by omega),L9 (by omega),ad (al (by omega))];rfl
 ·rw[yk];dsimp only;rw[ad (dY (by unfold lim;simp only[ao0,ao2];omega)),wrap64 _ (by simp only[an9,ao0,ao2];omega) (by simp only[an9,ao0,ao2];omega)];simp only[an9,ao0,ao2];rw[show((nd.length+(0+1):Nat):Int) - 1=(nd.length:Int)by omega]
 ·rw[At];dsimp only;exact ad (al (by omega))
 ·rw[rz];simp only[dX,rN];cases decide (k=25)<;>cases decide (k=50)<;>cases decide (k=62)<;>rfl
 ·rw[ti];simp only[dX,rN];cases decide (k=25)<;>cases decide (k=50)<;>cases decide (k=62)<;>rfl
structure PB2 (ts:List ak.den)(L:Nat)(T:S.Tab):Prop extends PB1 ts L T where
 cI:∀(a b:Nat) nd x,a<L→b<L→nd.length≤300000→ar T (ts,((a+1:Nat):Int),nd,()) (b:Int) x=some ((nd.length:Int),(ts,((a+1:Nat):Int),nd++[Hj ts b (a+1) x],()),(),uN,())
theorem pb2 {ts:List ak.den}{L:Nat}(hl:ts.length=L+1)(hL:L≤65536){T:S.Tab}(h:PB1 ts L T):PB2 ts L (S.step T):=by
 refine⟨pb1 hl hL T,fun a b nd x ha hb hn=> ?_⟩;rw[vr];dsimp only;rw[L9 (by omega),ad (al (by omega)),ad (al (by omega)),ad (al (by omega)),h.aI _ _ _ hn];rfl
theorem pb3 {ts:List ak.den}{L:Nat}(hl:ts.length=L+1)(hL:L≤65536){T0:S.Tab}(h:PB2 ts L (S.step T0)):PBs ts L (S.step (S.step T0)):=by
 have h1:=pb2 hl hL h.toPB1;refine⟨h1.kI,h1.tI,fun a nd k ha=> ?_,h1.cI,h1.aI,h1.kS,fun a nd ha=> ?_,fun a nd k ha=> ?_,fun a nd x ha hn=> ?_,fun k t=> ?_,fun x a b nd ha hb hn=> ?_,h1.pI,h1.pS,fun k=> ?_,fun k=> ?_,fun k=> ?_,fun k=> ?_,fun k hk hi=> ?_,fun k hk=> ?_⟩
 ·rw[yn,h.kI _ _ ha,an7];dsimp only
  cases decide ((tkA ts a).1=k)with
  |true=>rw[ad rfl,bD (by omega)];rfl
  |false=>rw[az rfl];rfl
 ·rw[Ai];dsimp only;rw[bD (by omega),L9 (by omega),ad (al (by omega))];rfl
 ·rw[CR,h.kS _ _ ha,an7];dsimp only
  cases decide ((tkA ts a).1=k)with
  |true=>rw[az (by rfl),bD (by omega)];rfl
  |false=>rw[ad (by rfl)];rfl
 ·rw[B8];dsimp only;rw[L9 (by omega),ad (al (by omega)),ad (dY (by unfold lim;simp only[ao0,ao2];omega)),wrap64 _ (by simp only[an9,ao0,ao2];omega) (by simp only[an9,ao0,ao2];omega)];simp only[an9,ao0,ao2];rw[show((nd.length+(0+1):Nat):Int) - 1=(nd.length:Int)by omega];rfl
 ·rw[CG]
 ·rw[ve,h.tI _ _ ha,an7];dsimp only;rw[h.cI _ _ _ _ ha hb hn];rfl
 ·rw[tm];simp only[dX,h.pI,an7,je];cases decide (k=1)<;>cases decide (k=40)<;>cases decide (k=2)<;>cases decide (k=3)<;>cases decide (k=4)<;>cases decide (k=24)<;>cases decide (k=29)<;>cases decide (k=17)<;>cases decide (k=49)<;>cases decide (k=18)<;>cases decide (k=42)<;>rfl
 ·rw[tC];simp only[dX,h.pS,an7,je];cases decide (k=1)<;>cases decide (k=40)<;>cases decide (k=2)<;>cases decide (k=3)<;>cases decide (k=4)<;>cases decide (k=24)<;>cases decide (k=29)<;>cases decide (k=17)<;>cases decide (k=49)<;>cases decide (k=18)<;>cases decide (k=42)<;>rfl
 ·rw[uV];simp only[dX,KQ];cases decide (k=10)<;>cases decide (k=26)<;>rfl
 ·rw[B5];simp only[dX,unK];cases decide (k=25)<;>cases decide (k=50)<;>cases decide (k=69)<;>rfl
 ·have:=List.all_eq_true.1 (SW T0) k hk;rw[hi]at this;exact of_decide_eq_true this
 ·exact of_decide_eq_true (List.all_eq_true.1 (Tq T0) k hk)
theorem Sh {ts:List ak.den}{L:Nat}(hl:ts.length=L+1)(hL:L≤65536):Evt fun n=>PBs ts L (S.tab n):=
 ⟨3,fun n hn=>by
  obtain⟨m,rfl⟩:∃m,n=m+3:=⟨n - 3,by omega⟩
  exact pb3 hl hL (pb2 hl hL (pb1 hl hL (S.tab m)))⟩
end Go.Abs.D
end

section
namespace Go.Abs.D
variable{s:LI}(yI:∀c∈s,isByte c)
include yI
theorem LP (k:Int)(hk:k=1∨k=3)(hlen:s.length≤40):Evt fun n=>w9 (S.tab n) s k=some (gi k s,ab):=by
 by_cases h0:s=[]
 ·subst h0
  exact aD.up fun n _=>by
   rw[zc,ad (by simp)];rfl
 have rU:0<s.length:=List.length_pos_iff.2 h0
 have iO:decide ((0:Int)<(s.length:Int))=true:=by simp only[ao1];omega
 have Qk:gi k s=one k s:=by
  unfold gi one;rw[an8 rU,an8 hlen];rfl
 rw[Qk]
 have fin:∀n,(∃t' b,ij (S.tab n) s ((0:Nat):Int)=some ((t',b,()),ab)∧IR (kB (get s 0)) (l9 s 0) t' b)→
   ((ij (S.tab n) s (0:Int)).bind fun d28=>brk (!d28.1.2.1) (brk (decide (d28.1.1.1=k)) (some (decide (d28.1.1.2.2.1=(s.length:Int)),ab)) (some (false,ab))) (some (false,ab)))=some (one k s,ab):=fun n ⟨t',b,h,hr⟩=>by
  have h:ij (S.tab n) s (0:Int)=_:=h;rw[h,an7];unfold one
  cases hx:l9 s 0 with
  |inl e=>
   rw[hx]at hr;obtain⟨rfl,_⟩:b=true∧_:=hr;rw[az (by rfl)]
  |inr t=>
   rw[hx]at hr;obtain⟨rfl,rfl⟩:b=false∧t'=t:=hr;rw[ad (by rfl)];simp only
   cases decide (t'.1=k)with
   |true=>rw[ad rfl];rfl
   |false=>rw[az rfl];rfl
 refine((Bo (s:=s) (by omega) yI (i:=0) rU).and aD).up fun n ⟨h,hb⟩=> ?_
 have g0:s.getD 0 0=get s 0:=rfl;rw[zc,az (by simpa using h0),ad iO,g0]
 by_cases tW:get s 0=34
 ·rw[az (by rw[an8 tW];rfl)];exact fin n h
 rw[ad (by rw[an6 tW];rfl),ad iO,hb.iletter,an7]
 cases hl:bE (get s 0)with
 |true=>rw[az (by rfl)];exact fin n h
 |false=>
  rw[ad (by rfl),ad iO,hb.idigit,an7]
  cases hd:aW (get s 0)with
  |true=>rw[az (by rfl)];exact fin n h
  |false=>
   rw[ad (by rfl)];unfold one
   cases hx:l9 s 0 with
   |inl e=>rfl
   |inr t=>
    have:=(zE hx).2.2 hl hd;simp only
    have jj:kd t≠k:=by rcases hk with rfl|rfl<;>omega
    rw[an6 (show¬ (t.1=k)from jj)];rfl
theorem Bt:Evt fun n=>gV (S.tab n) s=some (gi 1 s,aa):=by
 by_cases h:s.length≤40
 ·refine(LP yI 1 (.inl rfl) h).up fun n h1=> ?_
  rw[tD,ad (by simp only[ao1];omega),h1];rfl
 ·refine aD.up fun n _=> ?_
  unfold gi;rw[tD,az (by simp only[ao5];omega),an6 h,ao7];rfl
theorem F8:Evt fun n=>nX (S.tab n) s=some (gi 3 s,aa):=by
 by_cases h:s.length≤40
 ·refine(LP yI 3 (.inr rfl) h).up fun n h1=> ?_
  rw[rZ,ad (by simp only[ao1];omega),h1];rfl
 ·refine aD.up fun n _=> ?_
  unfold gi;rw[rZ,az (by simp only[ao5];omega),an6 h,ao7];rfl
omit yI in
theorem FF:Evt fun n=>gU (S.tab n) s=some (gi 1 s,aa):=by
 by_cases h0:s.length=0
 ·refine aD.up fun n _=> ?_
  unfold gi;rw[oH,ad (by simp only[ao1];omega),an6 (show¬ 0<s.length by omega)];rfl
 by_cases h:¬ s.length≤40
 ·refine aD.up fun n _=> ?_
  unfold gi;rw[oH,az (by simp only[ao5];omega),ad (by simp only[ao1];omega),an6 h,ao7];rfl
 replace h:=Decidable.not_not.1 h
 have rU:0<s.length:=(by omega)
 have iO:decide ((0:Int)<(s.length:Int))=true:=by simp only[ao1];omega
 have g0:s.getD 0 0=get s 0:=rfl
 have Qk:gi 1 s=one 1 s:=by
  unfold gi one;rw[an8 rU,an8 h];rfl
 rw[Qk]
 have start:∀n,Base2 (S.tab n)→gU (S.step (S.tab n)) s=_:=fun n hb=>by
  rw[oH,az (by simp only[ao5];omega),az (by simp only[ao5];omega),ad iO,g0,hb.sletter,an7]
 cases hl:bE (get s 0)with
 |false=>
  refine aD.up fun n hb=> ?_
  rw[start n hb,hl,ad (by rfl)];unfold one
  cases hx:l9 s 0 with
  |inl e=>rfl
  |inr t=>
   have hk:=zE hx
   have:kd t≠1:=by
    cases hd:aW (get s 0)with
    |true=>rcases hk.2.1 hl hd with h|h<;>omega
    |false=>have:=hk.2.2 hl hd;omega
   simp only;rw[an6 (show¬ (t.1=1)from this)];rfl
 |true=>
  have xD:get s 0≠10:=fun e=>by rw[e]at hl;cases hl
  refine((uk (s:=s) (by omega) rU xD).and aD).up fun n ⟨⟨t',b,h1,hr⟩,hb⟩=> ?_
  have h1:dQ (S.tab n) s (0:Int)=_:=h1;rw[start n hb,hl,az (by rfl),h1,an7];unfold one
  cases hx:l9 s 0 with
  |inl e=>
   rw[hx]at hr;have hr:b=(e:Int):=hr.1;subst hr;rw[az (by simp only[ao5];omega)]
  |inr t=>
   rw[hx]at hr;obtain⟨rfl,rfl⟩:b= -1∧t'=t:=hr;rw[ad (show decide ((-1:Int)<0)=true from rfl)];simp only
   cases decide (t'.1=1)with
   |true=>rw[ad rfl];rfl
   |false=>rw[az rfl];rfl
omit yI in
theorem Ot:Evt fun n=>n8 (S.tab n) s=some (gi 3 s,aa):=by
 by_cases h0:s.length=0
 ·refine aD.up fun n _=> ?_
  unfold gi;rw[pP,ad (by simp only[ao1];omega),an6 (show¬ 0<s.length by omega)];rfl
 by_cases h:¬ s.length≤40
 ·refine aD.up fun n _=> ?_
  unfold gi;rw[pP,az (by simp only[ao5];omega),ad (by simp only[ao1];omega),an6 h,ao7];rfl
 replace h:=Decidable.not_not.1 h
 have rU:0<s.length:=(by omega)
 have iO:decide ((0:Int)<(s.length:Int))=true:=by simp only[ao1];omega
 have g0:s.getD 0 0=get s 0:=rfl
 have Qk:gi 3 s=one 3 s:=by
  unfold gi one;rw[an8 rU,an8 h];rfl
 rw[Qk]
 have start:∀n,Base2 (S.tab n)→n8 (S.step (S.tab n)) s=_:=fun n hb=>by
  rw[pP,az (by simp only[ao5];omega),az (by simp only[ao5];omega),ad iO,g0,hb.sdigit,an7]
 cases hd:aW (get s 0)with
 |false=>
  refine aD.up fun n hb=> ?_
  rw[start n hb,hd,ad (by rfl)];unfold one
  cases hx:l9 s 0 with
  |inl e=>rfl
  |inr t=>
   have hk:=zE hx
   have:kd t≠3:=by
    cases hl:bE (get s 0)with
    |true=>rcases hk.1 hl with h|h<;>omega
    |false=>have:=hk.2.2 hl hd;omega
   simp only;rw[an6 (show¬ (t.1=3)from this)];rfl
 |true=>
  have xD:get s 0≠10:=fun e=>by rw[e]at hd;cases hd
  refine((uk (s:=s) (by omega) rU xD).and aD).up fun n ⟨⟨t',b,h1,hr⟩,hb⟩=> ?_
  have h1:dQ (S.tab n) s (0:Int)=_:=h1;rw[start n hb,hd,az (by rfl),h1,an7];unfold one
  cases hx:l9 s 0 with
  |inl e=>
   rw[hx]at hr;have hr:b=(e:Int):=hr.1;subst hr;rw[az (by simp only[ao5];omega)]
  |inr t=>
   rw[hx]at hr;obtain⟨rfl,rfl⟩:b= -1∧t'=t:=hr;rw[ad (show decide ((-1:Int)<0)=true from rfl)];simp only
   cases decide (t'.1=3)with
   |true=>rw[ad rfl];rfl
   |false=>rw[az rfl];rfl
end Go.Abs.D
end

section
namespace Go.Abs.D
def jf (k:Int):Bool:=decide (20≤k)&&decide (k≤37)
def cX (k:Int):Bool:=decide (1≤k)&&decide (k≤16)
def oO (k:Int):Bool:=decide (40≤k)&&decide (k≤42)
def gC (k:Int):Bool:=decide (k=26)||(decide (k=32)||decide (k=33))
def PL (a b c d:Bool)(nn op num:Int)(text:LI):Bool:=(a||decide (nn=0))&&((b||decide (op=0))&&((c||decide (num=0))&&(d||decide (text=[]))))
def EX (ks:LI)(i j:Nat):Bool:=(bK ks i j).all jf
def BS (ks:LI):Bool:=decide (1≤ks.length)&&(jf (get ks 0)&& !decide (get ks 0=27))
theorem aj {ρ:Type}{x y:Option ρ}:brk true x y=x:=ad rfl
theorem af {ρ:Type}{x y:Option ρ}:brk false x y=y:=az rfl
theorem dz {β:Type}{b c:Bool}:brk b (some (Sum.inl (c,()))) (some (Sum.inl (false,()):(Bool×Unit)⊕β))=some (Sum.inl (b&&c,())):=by cases b<;>simp[aj,af]
theorem dA {β:Type}{b c:Bool}:brk (!b) (some (Sum.inl (false,()):(Bool×Unit)⊕β)) (some (Sum.inl (c,())))=some (Sum.inl (b&&c,())):=by cases b<;>simp[aj,af]
theorem dB {β:Type}{a b:Bool}:brk a (some (Sum.inl (true,()):(Bool×Unit)⊕β)) (some (Sum.inl (b,())))=some (Sum.inl (a||b,())):=by cases a<;>simp[aj,af]
theorem dw {β:Type}{a b c:Bool}:brk a (some (Sum.inl (c,()):(Bool×Unit)⊕β)) (some (Sum.inl (b&&c,())))=some (Sum.inl ((a||b)&&c,())):=by cases a<;>simp[aj,af]
theorem dy {ρ:Type}{a b:Bool}{x y:Option ρ}:brk a x (brk b x y)=brk (a||b) x y:=by cases a<;>simp[aj,af]
abbrev An:Type:=(Bool×Unit)⊕(Unit)⊕Empty
def An.val (y:An):Bool:=y.elim (fun y=>y.1) fun _=>false
structure IF (T:S.Tab)(ks:LI)(nn op num:Int)(text:LI):Prop where
 pl:∀a b c d,aR T a b c d nn op num text=some (PL a b c d nn op num text,(),(),(),(),nn,op,num,text,())
 ex01:1≤ks.length→aT T 0 1 ks=some (EX ks 0 1,(),(),ks,())
 ex02:2≤ks.length→aT T 0 2 ks=some (EX ks 0 2,(),(),ks,())
 ex0n:aT T 0 (ks.length:Int) ks=some (EX ks 0 ks.length,(),(),ks,())
 ex0m:1≤ks.length→aT T 0 (i64.wrap ((ks.length:Int) - 1)) ks=some (EX ks 0 (ks.length - 1),(),(),ks,())
 U0:1≤num→num≤ks.length→aT T num (ks.length:Int) ks=some (EX ks num.toNat ks.length,(),(),ks,())
 bs:lk T (ks.length:Int) ks=some (BS ks,(ks.length:Int),ks,())
 gn:gV T text=some (gi 1 text,aa)
 gf:nX T text=some (gi 3 text,aa)
 inn:∀v lo hi,jm T v lo hi=some (decide (lo≤v)&&decide (v≤hi),aP)
 l26:fA T nn op num text ks (ks.length:Int) 0=some (bif ks.all cX then Sum.inr (Sum.inl (nn,op,num,text,()))else Sum.inl (false,()))
 l97:fz T nn op num text ks (ks.length:Int) 0=some (bif ks.all oO then Sum.inr (Sum.inl (nn,op,num,text,()))else Sum.inl (false,()))
 YU:1≤num→num≤ks.length→cC T ks num (ks.length:Int) (sub ks 0 num) ((sub ks 0 num).length:Int) 0=some (bif(bK ks 0 num.toNat).all gC then Sum.inr (Sum.inl (ks,num,(ks.length:Int),()))else Sum.inl (false,()))
variable{ks:LI}{nn op num:Int}{text:LI}
def R84 (ks:LI)(nn op num:Int)(text:LI)(kind:Int)(fl:Bool):An:=
 bif fl then Sum.inl (PL false false false false nn op num text&&(decide ((ks.length:Int)=2)&&(EX ks 0 2)),())else
 bif decide (kind=30)then Sum.inl (PL false true false false nn op num text&&((decide ((19:Int)≤op)&&decide (op≤22))&&(decide ((ks.length:Int)=1)&&(EX ks 0 1))),())else
 bif decide (kind=31)then Sum.inl (PL false true false false nn op num text&&((decide ((1:Int)≤op)&&decide (op≤18))&&(decide ((ks.length:Int)=2)&&(EX ks 0 2))),())else
 bif decide (kind=32)then Sum.inl (PL false false false false nn op num text&&(decide ((ks.length:Int)=2)&&(BS ks&&(EX ks 0 2))),())else
 bif decide (kind=33)then Sum.inl (PL false false false true nn op num text&&(decide ((ks.length:Int)=1)&&(BS ks&&(gi 1 text))),())else
 bif decide (kind=34)then Sum.inl (PL false false false false nn op num text&&(BS ks&&(EX ks 0 ks.length)),())else
 bif decide (kind=35)then Sum.inl (ks.all oO&&(PL false false false false nn op num text),())else
 bif decide (kind=36)then Sum.inl (PL true true false false nn op num text&&((decide ((0:Int)≤op)&&decide (op≤1))&&(decide ((ks.length:Int)=1)&&(decide (ks.getD 0 0=1)))),())else
 bif decide (kind=37)then Sum.inl (PL false false false false nn op num text&&(decide ((ks.length:Int)=1)&&((decide (ks.getD 0 0=34)||decide (ks.getD 0 0=27)))),())else
 bif decide (kind=42)then Sum.inl (PL false false false true nn op num text&&(decide ((ks.length:Int)=1)&&(EX ks 0 1&&(gi 1 text))),())else
 Sum.inr (Sum.inl ())
theorem r84 {T:S.Tab}(h:IF T ks nn op num text)(hl:ks.length≤200)(kind:Int)(fl:Bool):iF (S.step T) ks nn op num text (ks.length:Int) kind fl=some (R84 ks nn op num text kind fl):=by
 rw[yl];unfold R84
 cases fl with
 |true=>
  rw[aj,ap3]
  by_cases Fi:ks.length=2
  ·have hz:(ks.length:Int)=2:=(by omega);have hw:i64.wrap ((2:Int) - 1)=1:=(by decide);have hm:ks.length - 1=1:=(by omega);have e1:=h.ex01 (by omega);have e2:=h.ex02 (by omega);have e3:=h.ex0m (by omega);have e4:=h.ex0n;have e5:=h.bs;rw[hz,hw]at e3;rw[hz]at e4 e5;simp only[hw,hz,hm,e1,e2,e3,e4,e5,h.pl,h.inn,h.gn,h.gf,an7,aj,af,dy,dz,dA,dB,dw,ao6,ap1,ao9,ao7,ap2,ap0,ap4,ap5,eq_self,decide_true,decide_false,Int.reduceLT,Int.reduceLE,Int.reduceEq,Int.reduceToNat,aq1]
   try rfl
  have d2:decide ((ks.length:Int)=2)=false:=an6 (by omega);simp only[d2,h.pl,h.inn,h.gn,h.gf,h.ex0n,h.bs,an7,aj,af,dy,dz,dA,dB,dw,ao6,ap1,ao9,ao7,ap2,ap0,ap4,ap5]
 |false=>
  rw[af,ao8]
  by_cases k30:kind=30
  ·rw[an8 k30,aj,ap3]
   by_cases Hu:ks.length=1
   ·have hz:(ks.length:Int)=1:=(by omega);have hw:i64.wrap ((1:Int) - 1)=0:=(by decide);have hm:ks.length - 1=0:=(by omega);have e1:=h.ex01 (by omega);have e3:=h.ex0m (by omega);have e4:=h.ex0n;have e5:=h.bs;rw[hz,hw]at e3;rw[hz]at e4 e5;simp only[hw,hz,hm,e1,e3,e4,e5,h.pl,h.inn,h.gn,h.gf,an7,aj,af,dy,dz,dA,dB,dw,ao6,ap1,ao9,ao7,ap2,ap0,ap4,ap5,eq_self,decide_true,decide_false,Int.reduceLT,Int.reduceLE,Int.reduceEq,Int.reduceToNat,aq1]
    try rfl
   have d1:decide ((ks.length:Int)=1)=false:=an6 (by omega);simp only[d1,h.pl,h.inn,h.gn,h.gf,h.ex0n,h.bs,an7,aj,af,dy,dz,dA,dB,dw,ao6,ap1,ao9,ao7,ap2,ap0,ap4,ap5]
  rw[an6 k30,af,ao8]
  by_cases k31:kind=31
  ·rw[an8 k31,aj,ap3]
   by_cases Fi:ks.length=2
   ·have hz:(ks.length:Int)=2:=(by omega);have hw:i64.wrap ((2:Int) - 1)=1:=(by decide);have hm:ks.length - 1=1:=(by omega);have e1:=h.ex01 (by omega);have e2:=h.ex02 (by omega);have e3:=h.ex0m (by omega);have e4:=h.ex0n;have e5:=h.bs;rw[hz,hw]at e3;rw[hz]at e4 e5;simp only[hw,hz,hm,e1,e2,e3,e4,e5,h.pl,h.inn,h.gn,h.gf,an7,aj,af,dy,dz,dA,dB,dw,ao6,ap1,ao9,ao7,ap2,ap0,ap4,ap5,eq_self,decide_true,decide_false,Int.reduceLT,Int.reduceLE,Int.reduceEq,Int.reduceToNat,aq1]
    try rfl
   have d2:decide ((ks.length:Int)=2)=false:=an6 (by omega);simp only[d2,h.pl,h.inn,h.gn,h.gf,h.ex0n,h.bs,an7,aj,af,dy,dz,dA,dB,dw,ao6,ap1,ao9,ao7,ap2,ap0,ap4,ap5]
  rw[an6 k31,af,ao8]
  by_cases k32:kind=32
  ·rw[an8 k32,aj,ap3]
   by_cases Fi:ks.length=2
   ·have hz:(ks.length:Int)=2:=(by omega);have hw:i64.wrap ((2:Int) - 1)=1:=(by decide);have hm:ks.length - 1=1:=(by omega);have e1:=h.ex01 (by omega);have e2:=h.ex02 (by omega);have e3:=h.ex0m (by omega);have e4:=h.ex0n;have e5:=h.bs;rw[hz,hw]at e3;rw[hz]at e4 e5;simp only[hw,hz,hm,e1,e2,e3,e4,e5,h.pl,h.inn,h.gn,h.gf,an7,aj,af,dy,dz,dA,dB,dw,ao6,ap1,ao9,ao7,ap2,ap0,ap4,ap5,eq_self,decide_true,decide_false,Int.reduceLT,Int.reduceLE,Int.reduceEq,Int.reduceToNat,aq1]
    try rfl
   have d2:decide ((ks.length:Int)=2)=false:=an6 (by omega);simp only[d2,h.pl,h.inn,h.gn,h.gf,h.ex0n,h.bs,an7,aj,af,dy,dz,dA,dB,dw,ao6,ap1,ao9,ao7,ap2,ap0,ap4,ap5]
  rw[an6 k32,af,ao8]
  by_cases k33:kind=33
  ·rw[an8 k33,aj,ap3]
   by_cases Hu:ks.length=1
   ·have hz:(ks.length:Int)=1:=(by omega);have hw:i64.wrap ((1:Int) - 1)=0:=(by decide);have hm:ks.length - 1=0:=(by omega);have e1:=h.ex01 (by omega);have e3:=h.ex0m (by omega);have e4:=h.ex0n;have e5:=h.bs;rw[hz,hw]at e3;rw[hz]at e4 e5;simp only[hw,hz,hm,e1,e3,e4,e5,h.pl,h.inn,h.gn,h.gf,an7,aj,af,dy,dz,dA,dB,dw,ao6,ap1,ao9,ao7,ap2,ap0,ap4,ap5,eq_self,decide_true,decide_false,Int.reduceLT,Int.reduceLE,Int.reduceEq,Int.reduceToNat,aq1]
    try rfl
   have d1:decide ((ks.length:Int)=1)=false:=an6 (by omega);simp only[d1,h.pl,h.inn,h.gn,h.gf,h.ex0n,h.bs,an7,aj,af,dy,dz,dA,dB,dw,ao6,ap1,ao9,ao7,ap2,ap0,ap4,ap5]
  rw[an6 k33,af,ao8]
  by_cases Va:kind=34
  ·rw[an8 Va,aj,ap3];simp only[h.pl,h.inn,h.gn,h.gf,h.ex0n,h.bs,an7,aj,af,dy,dz,dA,dB,dw,ao6,ap1,ao9,ao7,ap2,ap0,ap4,ap5]
  rw[an6 Va,af,ao8]
  by_cases k35:kind=35
  ·rw[an8 k35,aj,ap3];rw[h.l97]
   cases ks.all oO with
   |true=>simp only[ap3,an7,bw,aq0,aq9,h.pl,ao6]
   |false=>rfl
  rw[an6 k35,af,ao8]
  by_cases k36:kind=36
  ·rw[an8 k36,aj,ap3]
   by_cases Hu:ks.length=1
   ·have hz:(ks.length:Int)=1:=(by omega);have hw:i64.wrap ((1:Int) - 1)=0:=(by decide);have hm:ks.length - 1=0:=(by omega);have e1:=h.ex01 (by omega);have e3:=h.ex0m (by omega);have e4:=h.ex0n;have e5:=h.bs;rw[hz,hw]at e3;rw[hz]at e4 e5;simp only[hw,hz,hm,e1,e3,e4,e5,h.pl,h.inn,h.gn,h.gf,an7,aj,af,dy,dz,dA,dB,dw,ao6,ap1,ao9,ao7,ap2,ap0,ap4,ap5,eq_self,decide_true,decide_false,Int.reduceLT,Int.reduceLE,Int.reduceEq,Int.reduceToNat,aq1]
    try rfl
   have d1:decide ((ks.length:Int)=1)=false:=an6 (by omega);simp only[d1,h.pl,h.inn,h.gn,h.gf,h.ex0n,h.bs,an7,aj,af,dy,dz,dA,dB,dw,ao6,ap1,ao9,ao7,ap2,ap0,ap4,ap5]
  rw[an6 k36,af,ao8]
  by_cases k37:kind=37
  ·rw[an8 k37,aj,ap3]
   by_cases Hu:ks.length=1
   ·have hz:(ks.length:Int)=1:=(by omega);have hw:i64.wrap ((1:Int) - 1)=0:=(by decide);have hm:ks.length - 1=0:=(by omega);have e1:=h.ex01 (by omega);have e3:=h.ex0m (by omega);have e4:=h.ex0n;have e5:=h.bs;rw[hz,hw]at e3;rw[hz]at e4 e5;simp only[hw,hz,hm,e1,e3,e4,e5,h.pl,h.inn,h.gn,h.gf,an7,aj,af,dy,dz,dA,dB,dw,ao6,ap1,ao9,ao7,ap2,ap0,ap4,ap5,eq_self,decide_true,decide_false,Int.reduceLT,Int.reduceLE,Int.reduceEq,Int.reduceToNat,aq1]
    try rfl
   have d1:decide ((ks.length:Int)=1)=false:=an6 (by omega);simp only[d1,h.pl,h.inn,h.gn,h.gf,h.ex0n,h.bs,an7,aj,af,dy,dz,dA,dB,dw,ao6,ap1,ao9,ao7,ap2,ap0,ap4,ap5]
  rw[an6 k37,af,ao8]
  by_cases k42:kind=42
  ·rw[an8 k42,aj,ap3]
   by_cases Hu:ks.length=1
   ·have hz:(ks.length:Int)=1:=(by omega);have hw:i64.wrap ((1:Int) - 1)=0:=(by decide);have hm:ks.length - 1=0:=(by omega);have e1:=h.ex01 (by omega);have e3:=h.ex0m (by omega);have e4:=h.ex0n;have e5:=h.bs;rw[hz,hw]at e3;rw[hz]at e4 e5;simp only[hw,hz,hm,e1,e3,e4,e5,h.pl,h.inn,h.gn,h.gf,an7,aj,af,dy,dz,dA,dB,dw,ao6,ap1,ao9,ao7,ap2,ap0,ap4,ap5,eq_self,decide_true,decide_false,Int.reduceLT,Int.reduceLE,Int.reduceEq,Int.reduceToNat,aq1]
    try rfl
   have d1:decide ((ks.length:Int)=1)=false:=an6 (by omega);simp only[d1,h.pl,h.inn,h.gn,h.gf,h.ex0n,h.bs,an7,aj,af,dy,dz,dA,dB,dw,ao6,ap1,ao9,ao7,ap2,ap0,ap4,ap5]
  rw[an6 k42,af,ao8]
def R72 (ks:LI)(nn op num:Int)(text:LI)(kind:Int)(fl:Bool):An:=
 bif fl then Sum.inl (PL false false false false nn op num text&&(decide ((ks.length:Int)=1)&&(EX ks 0 1)),())else
 bif decide (kind=23)then Sum.inl (PL false false true false nn op num text&&(decide ((ks.length:Int)=0)),())else
 bif decide (kind=24)then Sum.inl (PL false false false true nn op num text&&(decide ((ks.length:Int)=0)&&(gi 3 text)),())else
 bif decide (kind=25)then Sum.inl (PL false false false true nn op num text&&(decide ((ks.length:Int)=0)&&(decide ((text.length:Int)≤4000))),())else
 bif decide (kind=26)then Sum.inl (PL false false false true nn op num text&&(decide ((ks.length:Int)=0)&&(gi 1 text)),())else
 bif decide (kind=28)then R84 ks nn op num text kind true else
 bif decide (kind=29)then R84 ks nn op num text kind true else
 R84 ks nn op num text kind (decide (kind=41))
theorem r72 {T:S.Tab}(h:IF T ks nn op num text)(hl:ks.length≤200)(kind:Int)(Xg:∀fl,iF T ks nn op num text (ks.length:Int) kind fl=some (R84 ks nn op num text kind fl))(fl:Bool):jz (S.step T) ks nn op num text (ks.length:Int) kind fl=some (R72 ks nn op num text kind fl):=by
 rw[yf];unfold R72
 cases fl with
 |true=>
  rw[aj,ap3]
  by_cases Hu:ks.length=1
  ·have hz:(ks.length:Int)=1:=(by omega);have hw:i64.wrap ((1:Int) - 1)=0:=(by decide);have hm:ks.length - 1=0:=(by omega);have e1:=h.ex01 (by omega);have e3:=h.ex0m (by omega);have e4:=h.ex0n;have e5:=h.bs;rw[hz,hw]at e3;rw[hz]at e4 e5;simp only[hw,hz,hm,e1,e3,e4,e5,h.pl,h.inn,h.gn,h.gf,an7,aj,af,dy,dz,dA,dB,dw,ao6,ap1,ao9,ao7,ap2,ap0,ap4,ap5,eq_self,decide_true,decide_false,Int.reduceLT,Int.reduceLE,Int.reduceEq,Int.reduceToNat,aq1]
   try rfl
  have d1:decide ((ks.length:Int)=1)=false:=an6 (by omega);simp only[d1,h.pl,h.inn,h.gn,h.gf,h.ex0n,h.bs,an7,aj,af,dy,dz,dA,dB,dw,ao6,ap1,ao9,ao7,ap2,ap0,ap4,ap5]
 |false=>
  rw[af,ao8]
  by_cases k23:kind=23
  ·rw[an8 k23,aj,ap3];simp only[h.pl,h.inn,h.gn,h.gf,h.ex0n,h.bs,an7,aj,af,dy,dz,dA,dB,dw,ao6,ap1,ao9,ao7,ap2,ap0,ap4,ap5]
  rw[an6 k23,af,ao8]
  by_cases k24:kind=24
  ·rw[an8 k24,aj,ap3];simp only[h.pl,h.inn,h.gn,h.gf,h.ex0n,h.bs,an7,aj,af,dy,dz,dA,dB,dw,ao6,ap1,ao9,ao7,ap2,ap0,ap4,ap5]
  rw[an6 k24,af,ao8]
  by_cases k25:kind=25
  ·rw[an8 k25,aj,ap3];simp only[h.pl,h.inn,h.gn,h.gf,h.ex0n,h.bs,an7,aj,af,dy,dz,dA,dB,dw,ao6,ap1,ao9,ao7,ap2,ap0,ap4,ap5]
  rw[an6 k25,af,ao8]
  by_cases k26:kind=26
  ·rw[an8 k26,aj,ap3];simp only[h.pl,h.inn,h.gn,h.gf,h.ex0n,h.bs,an7,aj,af,dy,dz,dA,dB,dw,ao6,ap1,ao9,ao7,ap2,ap0,ap4,ap5]
  rw[an6 k26,af,ao8]
  by_cases k28:kind=28
  ·rw[an8 k28,aj,ap3,Xg]
   cases hR:R84 ks nn op num text kind true with
   |inl y=>rfl
   |inr y=>cases y with
    |inl y=>rfl
    |inr y=>exact y.elim
  rw[an6 k28,af,ao8]
  by_cases k29:kind=29
  ·rw[an8 k29,aj,ap3,Xg]
   cases hR:R84 ks nn op num text kind true with
   |inl y=>rfl
   |inr y=>cases y with
    |inl y=>rfl
    |inr y=>exact y.elim
  rw[an6 k29,af,ao8];rw[Xg]
  cases hR:R84 ks nn op num text kind (decide (kind=41))with
  |inl y=>rfl
  |inr y=>cases y with
   |inl y=>rfl
   |inr y=>exact y.elim
def R65 (ks:LI)(nn op num:Int)(text:LI)(kind:Int)(fl:Bool):An:=
 bif fl then Sum.inl (PL false false false false nn op num text&&(decide ((ks.length:Int)=0)),())else
 bif decide (kind=13)then Sum.inl (PL false false false false nn op num text&&(EX ks 0 ks.length),())else
 bif decide (kind=14)then Sum.inl (PL true false false false nn op num text&&((decide (nn=1)||decide (nn=2))&&(decide ((ks.length:Int)=2)&&(decide (ks.getD 0 0=1)&&(decide (ks.getD 1 0=1))))),())else
 bif decide (kind=15)then R72 ks nn op num text kind true else
 R72 ks nn op num text kind (decide (kind=40))
theorem r65 {T:S.Tab}(h:IF T ks nn op num text)(hl:ks.length≤200)(kind:Int)(XN:∀fl,jz T ks nn op num text (ks.length:Int) kind fl=some (R72 ks nn op num text kind fl))(fl:Bool):eM (S.step T) ks nn op num text (ks.length:Int) kind fl=some (R65 ks nn op num text kind fl):=by
 rw[yd];unfold R65
 cases fl with
 |true=>
  rw[aj,ap3];simp only[h.pl,h.inn,h.gn,h.gf,h.ex0n,h.bs,an7,aj,af,dy,dz,dA,dB,dw,ao6,ap1,ao9,ao7,ap2,ap0,ap4,ap5]
 |false=>
  rw[af,ao8]
  by_cases k13:kind=13
  ·rw[an8 k13,aj,ap3];simp only[h.pl,h.inn,h.gn,h.gf,h.ex0n,h.bs,an7,aj,af,dy,dz,dA,dB,dw,ao6,ap1,ao9,ao7,ap2,ap0,ap4,ap5]
  rw[an6 k13,af,ao8]
  by_cases k14:kind=14
  ·rw[an8 k14,aj,ap3]
   by_cases Fi:ks.length=2
   ·have hz:(ks.length:Int)=2:=(by omega);have hw:i64.wrap ((2:Int) - 1)=1:=(by decide);have hm:ks.length - 1=1:=(by omega);have e1:=h.ex01 (by omega);have e2:=h.ex02 (by omega);have e3:=h.ex0m (by omega);have e4:=h.ex0n;have e5:=h.bs;rw[hz,hw]at e3;rw[hz]at e4 e5;simp only[hw,hz,hm,e1,e2,e3,e4,e5,h.pl,h.inn,h.gn,h.gf,an7,aj,af,dy,dz,dA,dB,dw,ao6,ap1,ao9,ao7,ap2,ap0,ap4,ap5,eq_self,decide_true,decide_false,Int.reduceLT,Int.reduceLE,Int.reduceEq,Int.reduceToNat,aq1]
    try rfl
   have d2:decide ((ks.length:Int)=2)=false:=an6 (by omega);simp only[d2,h.pl,h.inn,h.gn,h.gf,h.ex0n,h.bs,an7,aj,af,dy,dz,dA,dB,dw,ao6,ap1,ao9,ao7,ap2,ap0,ap4,ap5]
  rw[an6 k14,af,ao8]
  by_cases k15:kind=15
  ·rw[an8 k15,aj,ap3,XN]
   cases hR:R72 ks nn op num text kind true with
   |inl y=>rfl
   |inr y=>cases y with
    |inl y=>rfl
    |inr y=>exact y.elim
  rw[an6 k15,af,ao8];rw[XN]
  cases hR:R72 ks nn op num text kind (decide (kind=40))with
  |inl y=>rfl
  |inr y=>cases y with
   |inl y=>rfl
   |inr y=>exact y.elim
def R50 (ks:LI)(nn op num:Int)(text:LI)(kind:Int)(fl:Bool):An:=
 bif fl then Sum.inl (PL false false false false nn op num text&&(decide ((ks.length:Int)=1)&&(decide (ks.getD 0 0=34))),())else
 bif decide (kind=7)then Sum.inl (PL false false false false nn op num text&&((decide ((ks.length:Int)=2)||decide ((ks.length:Int)=3))&&(EX ks 0 1&&(decide (ks.getD 1 0=1)&&((decide ((ks.length:Int)=2)||(decide (ks.getD 2 0=1)||decide (ks.getD 2 0=7))))))),())else
 bif decide (kind=8)then Sum.inl (PL false false false false nn op num text&&(decide ((ks.length:Int)=2)&&(EX ks 0 1&&(decide (ks.getD 1 0=1)))),())else
 bif decide (kind=9)then Sum.inl (PL true false false false nn op num text&&(decide (nn=1)&&((decide ((ks.length:Int)=3)||decide ((ks.length:Int)=4))&&(EX ks 0 (ks.length - 1)&&(decide (ks.getD (ks.length - 1) 0=1))))),())else
 bif decide (kind=10)then Sum.inl (PL true false false false nn op num text&&(decide (1≤nn)&&(decide ((ks.length:Int)=2)&&(EX ks 0 1&&(decide (ks.getD 1 0=1))))),())else
 bif decide (kind=11)then R65 ks nn op num text kind true else
 bif decide (kind=12)then R65 ks nn op num text kind true else
 bif decide (kind=20)then R65 ks nn op num text kind true else
 bif decide (kind=21)then R65 ks nn op num text kind true else
 bif decide (kind=22)then R65 ks nn op num text kind true else
 R65 ks nn op num text kind (decide (kind=27))
theorem r50 {T:S.Tab}(h:IF T ks nn op num text)(hl:ks.length≤200)(kind:Int)(SC:∀fl,eM T ks nn op num text (ks.length:Int) kind fl=some (R65 ks nn op num text kind fl))(fl:Bool):kQ (S.step T) ks nn op num text (ks.length:Int) kind fl=some (R50 ks nn op num text kind fl):=by
 rw[ym];unfold R50
 cases fl with
 |true=>
  rw[aj,ap3]
  by_cases Hu:ks.length=1
  ·have hz:(ks.length:Int)=1:=(by omega);have hw:i64.wrap ((1:Int) - 1)=0:=(by decide);have hm:ks.length - 1=0:=(by omega);have e1:=h.ex01 (by omega);have e3:=h.ex0m (by omega);have e4:=h.ex0n;have e5:=h.bs;rw[hz,hw]at e3;rw[hz]at e4 e5;simp only[hw,hz,hm,e1,e3,e4,e5,h.pl,h.inn,h.gn,h.gf,an7,aj,af,dy,dz,dA,dB,dw,ao6,ap1,ao9,ao7,ap2,ap0,ap4,ap5,eq_self,decide_true,decide_false,Int.reduceLT,Int.reduceLE,Int.reduceEq,Int.reduceToNat,aq1]
   try rfl
  have d1:decide ((ks.length:Int)=1)=false:=an6 (by omega);simp only[d1,h.pl,h.inn,h.gn,h.gf,h.ex0n,h.bs,an7,aj,af,dy,dz,dA,dB,dw,ao6,ap1,ao9,ao7,ap2,ap0,ap4,ap5]
 |false=>
  rw[af,ao8]
  by_cases k7:kind=7
  ·rw[an8 k7,aj,ap3]
   by_cases Fi:ks.length=2
   ·have hz:(ks.length:Int)=2:=(by omega);have hw:i64.wrap ((2:Int) - 1)=1:=(by decide);have hm:ks.length - 1=1:=(by omega);have e1:=h.ex01 (by omega);have e2:=h.ex02 (by omega);have e3:=h.ex0m (by omega);have e4:=h.ex0n;have e5:=h.bs;rw[hz,hw]at e3;rw[hz]at e4 e5;simp only[hw,hz,hm,e1,e2,e3,e4,e5,h.pl,h.inn,h.gn,h.gf,an7,aj,af,dy,dz,dA,dB,dw,ao6,ap1,ao9,ao7,ap2,ap0,ap4,ap5,eq_self,decide_true,decide_false,Int.reduceLT,Int.reduceLE,Int.reduceEq,Int.reduceToNat,aq1]
    try rfl
   by_cases hn3:ks.length=3
   ·have hz:(ks.length:Int)=3:=(by omega);have hw:i64.wrap ((3:Int) - 1)=2:=(by decide);have hm:ks.length - 1=2:=(by omega);have e1:=h.ex01 (by omega);have e2:=h.ex02 (by omega);have e3:=h.ex0m (by omega);have e4:=h.ex0n;have e5:=h.bs;rw[hz,hw]at e3;rw[hz]at e4 e5;simp only[hw,hz,hm,e1,e2,e3,e4,e5,h.pl,h.inn,h.gn,h.gf,an7,aj,af,dy,dz,dA,dB,dw,ao6,ap1,ao9,ao7,ap2,ap0,ap4,ap5,eq_self,decide_true,decide_false,Int.reduceLT,Int.reduceLE,Int.reduceEq,Int.reduceToNat,aq1]
    try rfl
   have d2:decide ((ks.length:Int)=2)=false:=an6 (by omega);have d3:decide ((ks.length:Int)=3)=false:=an6 (by omega);simp only[d2,d3,h.pl,h.inn,h.gn,h.gf,h.ex0n,h.bs,an7,aj,af,dy,dz,dA,dB,dw,ao6,ap1,ao9,ao7,ap2,ap0,ap4,ap5]
  rw[an6 k7,af,ao8]
  by_cases k8:kind=8
  ·rw[an8 k8,aj,ap3]
   by_cases Fi:ks.length=2
   ·have hz:(ks.length:Int)=2:=(by omega);have hw:i64.wrap ((2:Int) - 1)=1:=(by decide);have hm:ks.length - 1=1:=(by omega);have e1:=h.ex01 (by omega);have e2:=h.ex02 (by omega);have e3:=h.ex0m (by omega);have e4:=h.ex0n;have e5:=h.bs;rw[hz,hw]at e3;rw[hz]at e4 e5;simp only[hw,hz,hm,e1,e2,e3,e4,e5,h.pl,h.inn,h.gn,h.gf,an7,aj,af,dy,dz,dA,dB,dw,ao6,ap1,ao9,ao7,ap2,ap0,ap4,ap5,eq_self,decide_true,decide_false,Int.reduceLT,Int.reduceLE,Int.reduceEq,Int.reduceToNat,aq1]
    try rfl
   have d2:decide ((ks.length:Int)=2)=false:=an6 (by omega);simp only[d2,h.pl,h.inn,h.gn,h.gf,h.ex0n,h.bs,an7,aj,af,dy,dz,dA,dB,dw,ao6,ap1,ao9,ao7,ap2,ap0,ap4,ap5]
  rw[an6 k8,af,ao8]
  by_cases k9:kind=9
  ·rw[an8 k9,aj,ap3]
   by_cases hn3:ks.length=3
   ·have hz:(ks.length:Int)=3:=(by omega);have hw:i64.wrap ((3:Int) - 1)=2:=(by decide);have hm:ks.length - 1=2:=(by omega);have e1:=h.ex01 (by omega);have e2:=h.ex02 (by omega);have e3:=h.ex0m (by omega);have e4:=h.ex0n;have e5:=h.bs;rw[hz,hw]at e3;rw[hz]at e4 e5;simp only[hw,hz,hm,e1,e2,e3,e4,e5,h.pl,h.inn,h.gn,h.gf,an7,aj,af,dy,dz,dA,dB,dw,ao6,ap1,ao9,ao7,ap2,ap0,ap4,ap5,eq_self,decide_true,decide_false,Int.reduceLT,Int.reduceLE,Int.reduceEq,Int.reduceToNat,aq1]
    try rfl
   by_cases hn4:ks.length=4
   ·have hz:(ks.length:Int)=4:=(by omega);have hw:i64.wrap ((4:Int) - 1)=3:=(by decide);have hm:ks.length - 1=3:=(by omega);have e1:=h.ex01 (by omega);have e2:=h.ex02 (by omega);have e3:=h.ex0m (by omega);have e4:=h.ex0n;have e5:=h.bs;rw[hz,hw]at e3;rw[hz]at e4 e5;simp only[hw,hz,hm,e1,e2,e3,e4,e5,h.pl,h.inn,h.gn,h.gf,an7,aj,af,dy,dz,dA,dB,dw,ao6,ap1,ao9,ao7,ap2,ap0,ap4,ap5,eq_self,decide_true,decide_false,Int.reduceLT,Int.reduceLE,Int.reduceEq,Int.reduceToNat,aq1]
    try rfl
   have d3:decide ((ks.length:Int)=3)=false:=an6 (by omega);have d4:decide ((ks.length:Int)=4)=false:=an6 (by omega);simp only[d3,d4,h.pl,h.inn,h.gn,h.gf,h.ex0n,h.bs,an7,aj,af,dy,dz,dA,dB,dw,ao6,ap1,ao9,ao7,ap2,ap0,ap4,ap5]
  rw[an6 k9,af,ao8]
  by_cases k10:kind=10
  ·rw[an8 k10,aj,ap3]
   by_cases Fi:ks.length=2
   ·have hz:(ks.length:Int)=2:=(by omega);have hw:i64.wrap ((2:Int) - 1)=1:=(by decide);have hm:ks.length - 1=1:=(by omega);have e1:=h.ex01 (by omega);have e2:=h.ex02 (by omega);have e3:=h.ex0m (by omega);have e4:=h.ex0n;have e5:=h.bs;rw[hz,hw]at e3;rw[hz]at e4 e5;simp only[hw,hz,hm,e1,e2,e3,e4,e5,h.pl,h.inn,h.gn,h.gf,an7,aj,af,dy,dz,dA,dB,dw,ao6,ap1,ao9,ao7,ap2,ap0,ap4,ap5,eq_self,decide_true,decide_false,Int.reduceLT,Int.reduceLE,Int.reduceEq,Int.reduceToNat,aq1]
    try rfl
   have d2:decide ((ks.length:Int)=2)=false:=an6 (by omega);simp only[d2,h.pl,h.inn,h.gn,h.gf,h.ex0n,h.bs,an7,aj,af,dy,dz,dA,dB,dw,ao6,ap1,ao9,ao7,ap2,ap0,ap4,ap5]
  rw[an6 k10,af,ao8]
  by_cases k11:kind=11
  ·rw[an8 k11,aj,ap3,SC]
   cases hR:R65 ks nn op num text kind true with
   |inl y=>rfl
   |inr y=>cases y with
    |inl y=>rfl
    |inr y=>exact y.elim
  rw[an6 k11,af,ao8]
  by_cases k12:kind=12
  ·rw[an8 k12,aj,ap3,SC]
   cases hR:R65 ks nn op num text kind true with
   |inl y=>rfl
   |inr y=>cases y with
    |inl y=>rfl
    |inr y=>exact y.elim
  rw[an6 k12,af,ao8]
  by_cases k20:kind=20
  ·rw[an8 k20,aj,ap3,SC]
   cases hR:R65 ks nn op num text kind true with
   |inl y=>rfl
   |inr y=>cases y with
    |inl y=>rfl
    |inr y=>exact y.elim
  rw[an6 k20,af,ao8]
  by_cases SB:kind=21
  ·rw[an8 SB,aj,ap3,SC]
   cases hR:R65 ks nn op num text kind true with
   |inl y=>rfl
   |inr y=>cases y with
    |inl y=>rfl
    |inr y=>exact y.elim
  rw[an6 SB,af,ao8]
  by_cases k22:kind=22
  ·rw[an8 k22,aj,ap3,SC]
   cases hR:R65 ks nn op num text kind true with
   |inl y=>rfl
   |inr y=>cases y with
    |inl y=>rfl
    |inr y=>exact y.elim
  rw[an6 k22,af,ao8];rw[SC]
  cases hR:R65 ks nn op num text kind (decide (kind=27))with
  |inl y=>rfl
  |inr y=>cases y with
   |inl y=>rfl
   |inr y=>exact y.elim
end Go.Abs.D
end

section
namespace Go.Abs.D
abbrev Tr:Type:=List ae.den×Unit
abbrev AnS:Type:=(Bool×Unit)⊕(Tr×ae.den×Int×Unit)⊕Empty
theorem jZ {β:Type}{a c:Bool}:brk a (some (Sum.inl (false,()):(Bool×Unit)⊕β)) (some (Sum.inl (c,())))=some (Sum.inl (!a&&c,())):=by cases a<;>simp[aj,af]
def NM (names:List LI)(a b:Int):Bool:=decide (a≤(names.length:Int))&&(decide ((names.length:Int)≤b)&&names.all (gi 1))
structure SF (T:S.Tab)(t:Tr)(x:ae.den)(ks:LI)(names:List LI)(op num:Int)(text:LI):Prop where
 xop:x.2.2.2.2.1=op
 xnum:x.2.2.2.2.2.1=num
 xtext:x.2.2.2.2.2.2.1=text
 xlen:x.2.2.2.2.2.2.2.2.1.length=ks.length
 pl:∀a b c d,aZ T x a b c d=some (PL d a b c (names.length:Int) op num text,bu)
 nm:∀a b,gZ T x a b=some (NM names a b,kf)
 ex01:1≤ks.length→aV T t x 0 1=some (EX ks 0 1,cG)
 ex02:2≤ks.length→aV T t x 0 2=some (EX ks 0 2,cG)
 ex0n:aV T t x 0 (ks.length:Int)=some (EX ks 0 ks.length,cG)
 ex0m:1≤ks.length→aV T t x 0 (i64.wrap ((ks.length:Int) - 1))=some (EX ks 0 (ks.length - 1),cG)
 U0:1≤num→num≤ks.length→aV T t x num (ks.length:Int)=some (EX ks num.toNat ks.length,cG)
 k0:1≤ks.length→bQ T t x 0=some (ks.getD 0 0,jI)
 k1:2≤ks.length→bQ T t x 1=some (ks.getD 1 0,jI)
 k2:3≤ks.length→bQ T t x 2=some (ks.getD 2 0,jI)
 km:1≤ks.length→bQ T t x (i64.wrap ((ks.length:Int) - 1))=some (ks.getD (ks.length - 1) 0,jI)
 gn:gU T text=some (gi 1 text,aa)
 gf:n8 T text=some (gi 3 text,aa)
 l5:de T t x (ks.length:Int) 0=some (bif ks.all cX then Sum.inr (Sum.inl (x,()))else Sum.inl (false,()))
 l31:cK T t x (ks.length:Int) 0=some (bif ks.all oO then Sum.inr (Sum.inl (x,()))else Sum.inl (false,()))
 Zi:1≤num→num≤ks.length→cQ T t x (ks.length:Int) 0=some (bif(bK ks 0 num.toNat).all gC then Sum.inr (Sum.inl (t,x,(ks.length:Int),()))else Sum.inl (false,()))
variable{t:Tr}{x:ae.den}{ks:LI}{names:List LI}{op num:Int}{text:LI}
def Q41 (t:Tr)(x:ae.den)(ks:LI)(names:List LI)(op num:Int)(text:LI)(kind:Int)(fl:Bool):AnS:=
 bif fl then Sum.inl (PL false false false false (names.length:Int) op num text&&(decide ((ks.length:Int)=0)),())else
 bif decide (kind=13)then Sum.inl (PL false false false false (names.length:Int) op num text&&(EX ks 0 ks.length),())else
 bif decide (kind=14)then Sum.inl (PL true false false false (names.length:Int) op num text&&(NM names 1 2&&(decide ((ks.length:Int)=2)&&(decide (ks.getD 0 0=1)&&(decide (ks.getD 1 0=1))))),())else
 Sum.inr (Sum.inl (t,x,(ks.length:Int),()))
theorem q41 {T:S.Tab}(h:SF T t x ks names op num text)(hl:ks.length≤200)(kind:Int)(fl:Bool):fR (S.step T) t x (ks.length:Int) kind fl=some (Q41 t x ks names op num text kind fl):=by
 rw[td];unfold Q41
 cases fl with
 |true=>
  rw[aj,ap3];simp only[h.xop,h.xnum,h.xtext,h.pl,h.nm,h.gn,h.gf,h.ex0n,an7,aj,af,dy,dz,jZ,dA,dB,dw,ao6,ap1,ao9,ao7,ap2,ap0,ap4,ap5,aq3,aq5,ar6]
 |false=>
  rw[af,ao8]
  by_cases k13:kind=13
  ·rw[an8 k13,aj,ap3];simp only[h.xop,h.xnum,h.xtext,h.pl,h.nm,h.gn,h.gf,h.ex0n,an7,aj,af,dy,dz,jZ,dA,dB,dw,ao6,ap1,ao9,ao7,ap2,ap0,ap4,ap5,aq3,aq5,ar6]
  rw[an6 k13,af,ao8]
  by_cases k14:kind=14
  ·rw[an8 k14,aj,ap3]
   by_cases Fi:ks.length=2
   ·have hz:(ks.length:Int)=2:=(by omega);have hw:i64.wrap ((2:Int) - 1)=1:=(by decide);have hm:ks.length - 1=1:=(by omega);have e0:=h.ex01 (by omega);have e1:=h.k0 (by omega);have e2:=h.ex02 (by omega);have e3:=h.k1 (by omega);have m0:=h.ex0m (by omega);have m1:=h.km (by omega);have m2:=h.ex0n;rw[hz,hw]at m0 m1;rw[hz]at m2;simp only[hw,hz,hm,e0,e1,e2,e3,m0,m1,m2,h.xop,h.xnum,h.xtext,h.pl,h.nm,h.gn,h.gf,an7,aj,af,dy,dz,jZ,dA,dB,dw,ao6,ap1,ao9,ao7,ap2,ap0,ap4,ap5,aq3,aq5,ar6,eq_self,decide_true,decide_false,Int.reduceLT,Int.reduceLE,Int.reduceEq,Int.reduceToNat,aq1]
    try rfl
   have d2:decide ((ks.length:Int)=2)=false:=an6 (by omega);simp only[d2,h.xop,h.xnum,h.xtext,h.pl,h.nm,h.gn,h.gf,h.ex0n,an7,aj,af,dy,dz,jZ,dA,dB,dw,ao6,ap1,ao9,ao7,ap2,ap0,ap4,ap5,aq3,aq5,ar6]
  rw[an6 k14,af,ao8]
def Q28 (t:Tr)(x:ae.den)(ks:LI)(names:List LI)(op num:Int)(text:LI)(kind:Int)(fl:Bool):AnS:=
 bif fl then Sum.inl (PL false false false false (names.length:Int) op num text&&(decide ((ks.length:Int)=1)&&(decide (ks.getD 0 0=34))),())else
 bif decide (kind=7)then Sum.inl (PL false false false false (names.length:Int) op num text&&(!decide ((ks.length:Int)<2)&&(!decide ((3:Int)<(ks.length:Int))&&(EX ks 0 1&&(decide (ks.getD 1 0=1)&&((decide ((ks.length:Int)=2)||(decide (ks.getD 2 0=1)||decide (ks.getD 2 0=7)))))))),())else
 bif decide (kind=8)then Sum.inl (PL false false false false (names.length:Int) op num text&&(decide ((ks.length:Int)=2)&&(EX ks 0 1&&(decide (ks.getD 1 0=1)))),())else
 bif decide (kind=9)then Sum.inl (PL true false false false (names.length:Int) op num text&&(NM names 1 1&&((decide ((ks.length:Int)=3)||decide ((ks.length:Int)=4))&&(EX ks 0 (ks.length - 1)&&(decide (ks.getD (ks.length - 1) 0=1))))),())else
 bif decide (kind=10)then Sum.inl (PL true false false false (names.length:Int) op num text&&(NM names 1 200&&(decide ((ks.length:Int)=2)&&(EX ks 0 1&&(decide (ks.getD 1 0=1))))),())else
 bif decide (kind=11)then Q41 t x ks names op num text kind true else
 Q41 t x ks names op num text kind (decide (kind=12))
theorem q28 {T:S.Tab}(h:SF T t x ks names op num text)(hl:ks.length≤200)(kind:Int)(XJ:∀fl,fR T t x (ks.length:Int) kind fl=some (Q41 t x ks names op num text kind fl))(fl:Bool):hY (S.step T) t x (ks.length:Int) kind fl=some (Q28 t x ks names op num text kind fl):=by
 rw[tb];unfold Q28
 cases fl with
 |true=>
  rw[aj,ap3]
  by_cases Hu:ks.length=1
  ·have hz:(ks.length:Int)=1:=(by omega);have hw:i64.wrap ((1:Int) - 1)=0:=(by decide);have hm:ks.length - 1=0:=(by omega);have e0:=h.ex01 (by omega);have e1:=h.k0 (by omega);have m0:=h.ex0m (by omega);have m1:=h.km (by omega);have m2:=h.ex0n;rw[hz,hw]at m0 m1;rw[hz]at m2;simp only[hw,hz,hm,e0,e1,m0,m1,m2,h.xop,h.xnum,h.xtext,h.pl,h.nm,h.gn,h.gf,an7,aj,af,dy,dz,jZ,dA,dB,dw,ao6,ap1,ao9,ao7,ap2,ap0,ap4,ap5,aq3,aq5,ar6,eq_self,decide_true,decide_false,Int.reduceLT,Int.reduceLE,Int.reduceEq,Int.reduceToNat,aq1]
   try rfl
  have d1:decide ((ks.length:Int)=1)=false:=an6 (by omega);simp only[d1,h.xop,h.xnum,h.xtext,h.pl,h.nm,h.gn,h.gf,h.ex0n,an7,aj,af,dy,dz,jZ,dA,dB,dw,ao6,ap1,ao9,ao7,ap2,ap0,ap4,ap5,aq3,aq5,ar6]
 |false=>
  rw[af,ao8]
  by_cases k7:kind=7
  ·rw[an8 k7,aj,ap3]
   by_cases Fi:ks.length=2
   ·have hz:(ks.length:Int)=2:=(by omega);have hw:i64.wrap ((2:Int) - 1)=1:=(by decide);have hm:ks.length - 1=1:=(by omega);have e0:=h.ex01 (by omega);have e1:=h.k0 (by omega);have e2:=h.ex02 (by omega);have e3:=h.k1 (by omega);have m0:=h.ex0m (by omega);have m1:=h.km (by omega);have m2:=h.ex0n;rw[hz,hw]at m0 m1;rw[hz]at m2;simp only[hw,hz,hm,e0,e1,e2,e3,m0,m1,m2,h.xop,h.xnum,h.xtext,h.pl,h.nm,h.gn,h.gf,an7,aj,af,dy,dz,jZ,dA,dB,dw,ao6,ap1,ao9,ao7,ap2,ap0,ap4,ap5,aq3,aq5,ar6,eq_self,decide_true,decide_false,Int.reduceLT,Int.reduceLE,Int.reduceEq,Int.reduceToNat,aq1]
    try rfl
   by_cases hn3:ks.length=3
   ·have hz:(ks.length:Int)=3:=(by omega);have hw:i64.wrap ((3:Int) - 1)=2:=(by decide);have hm:ks.length - 1=2:=(by omega);have e0:=h.ex01 (by omega);have e1:=h.k0 (by omega);have e2:=h.ex02 (by omega);have e3:=h.k1 (by omega);have e4:=h.k2 (by omega);have m0:=h.ex0m (by omega);have m1:=h.km (by omega);have m2:=h.ex0n;rw[hz,hw]at m0 m1;rw[hz]at m2;simp only[hw,hz,hm,e0,e1,e2,e3,e4,m0,m1,m2,h.xop,h.xnum,h.xtext,h.pl,h.nm,h.gn,h.gf,an7,aj,af,dy,dz,jZ,dA,dB,dw,ao6,ap1,ao9,ao7,ap2,ap0,ap4,ap5,aq3,aq5,ar6,eq_self,decide_true,decide_false,Int.reduceLT,Int.reduceLE,Int.reduceEq,Int.reduceToNat,aq1]
    try rfl
   by_cases hn:ks.length<2
   ·have d1:decide ((ks.length:Int)<2)=true:=an8 (by omega);simp only[d1,h.xop,h.xnum,h.xtext,h.pl,h.nm,h.gn,h.gf,h.ex0n,an7,aj,af,dy,dz,jZ,dA,dB,dw,ao6,ap1,ao9,ao7,ap2,ap0,ap4,ap5,aq3,aq5,ar6]
   ·have d1:decide ((ks.length:Int)<2)=false:=an6 (by omega);have d2:decide ((3:Int)<(ks.length:Int))=true:=an8 (by omega);simp only[d1,d2,h.xop,h.xnum,h.xtext,h.pl,h.nm,h.gn,h.gf,h.ex0n,an7,aj,af,dy,dz,jZ,dA,dB,dw,ao6,ap1,ao9,ao7,ap2,ap0,ap4,ap5,aq3,aq5,ar6]
  rw[an6 k7,af,ao8]
  by_cases k8:kind=8
  ·rw[an8 k8,aj,ap3]
   by_cases Fi:ks.length=2
   ·have hz:(ks.length:Int)=2:=(by omega);have hw:i64.wrap ((2:Int) - 1)=1:=(by decide);have hm:ks.length - 1=1:=(by omega);have e0:=h.ex01 (by omega);have e1:=h.k0 (by omega);have e2:=h.ex02 (by omega);have e3:=h.k1 (by omega);have m0:=h.ex0m (by omega);have m1:=h.km (by omega);have m2:=h.ex0n;rw[hz,hw]at m0 m1;rw[hz]at m2;simp only[hw,hz,hm,e0,e1,e2,e3,m0,m1,m2,h.xop,h.xnum,h.xtext,h.pl,h.nm,h.gn,h.gf,an7,aj,af,dy,dz,jZ,dA,dB,dw,ao6,ap1,ao9,ao7,ap2,ap0,ap4,ap5,aq3,aq5,ar6,eq_self,decide_true,decide_false,Int.reduceLT,Int.reduceLE,Int.reduceEq,Int.reduceToNat,aq1]
    try rfl
   have d2:decide ((ks.length:Int)=2)=false:=an6 (by omega);simp only[d2,h.xop,h.xnum,h.xtext,h.pl,h.nm,h.gn,h.gf,h.ex0n,an7,aj,af,dy,dz,jZ,dA,dB,dw,ao6,ap1,ao9,ao7,ap2,ap0,ap4,ap5,aq3,aq5,ar6]
  rw[an6 k8,af,ao8]
  by_cases k9:kind=9
  ·rw[an8 k9,aj,ap3]
   by_cases hn3:ks.length=3
   ·have hz:(ks.length:Int)=3:=(by omega);have hw:i64.wrap ((3:Int) - 1)=2:=(by decide);have hm:ks.length - 1=2:=(by omega);have e0:=h.ex01 (by omega);have e1:=h.k0 (by omega);have e2:=h.ex02 (by omega);have e3:=h.k1 (by omega);have e4:=h.k2 (by omega);have m0:=h.ex0m (by omega);have m1:=h.km (by omega);have m2:=h.ex0n;rw[hz,hw]at m0 m1;rw[hz]at m2;simp only[hw,hz,hm,e0,e1,e2,e3,e4,m0,m1,m2,h.xop,h.xnum,h.xtext,h.pl,h.nm,h.gn,h.gf,an7,aj,af,dy,dz,jZ,dA,dB,dw,ao6,ap1,ao9,ao7,ap2,ap0,ap4,ap5,aq3,aq5,ar6,eq_self,decide_true,decide_false,Int.reduceLT,Int.reduceLE,Int.reduceEq,Int.reduceToNat,aq1]
    try rfl
   by_cases hn4:ks.length=4
   ·have hz:(ks.length:Int)=4:=(by omega);have hw:i64.wrap ((4:Int) - 1)=3:=(by decide);have hm:ks.length - 1=3:=(by omega);have e0:=h.ex01 (by omega);have e1:=h.k0 (by omega);have e2:=h.ex02 (by omega);have e3:=h.k1 (by omega);have e4:=h.k2 (by omega);have m0:=h.ex0m (by omega);have m1:=h.km (by omega);have m2:=h.ex0n;rw[hz,hw]at m0 m1;rw[hz]at m2;simp only[hw,hz,hm,e0,e1,e2,e3,e4,m0,m1,m2,h.xop,h.xnum,h.xtext,h.pl,h.nm,h.gn,h.gf,an7,aj,af,dy,dz,jZ,dA,dB,dw,ao6,ap1,ao9,ao7,ap2,ap0,ap4,ap5,aq3,aq5,ar6,eq_self,decide_true,decide_false,Int.reduceLT,Int.reduceLE,Int.reduceEq,Int.reduceToNat,aq1]
    try rfl
   have d3:decide ((ks.length:Int)=3)=false:=an6 (by omega);have d4:decide ((ks.length:Int)=4)=false:=an6 (by omega);simp only[d3,d4,h.xop,h.xnum,h.xtext,h.pl,h.nm,h.gn,h.gf,h.ex0n,an7,aj,af,dy,dz,jZ,dA,dB,dw,ao6,ap1,ao9,ao7,ap2,ap0,ap4,ap5,aq3,aq5,ar6]
  rw[an6 k9,af,ao8]
  by_cases k10:kind=10
  ·rw[an8 k10,aj,ap3]
   by_cases Fi:ks.length=2
   ·have hz:(ks.length:Int)=2:=(by omega);have hw:i64.wrap ((2:Int) - 1)=1:=(by decide);have hm:ks.length - 1=1:=(by omega);have e0:=h.ex01 (by omega);have e1:=h.k0 (by omega);have e2:=h.ex02 (by omega);have e3:=h.k1 (by omega);have m0:=h.ex0m (by omega);have m1:=h.km (by omega);have m2:=h.ex0n;rw[hz,hw]at m0 m1;rw[hz]at m2;simp only[hw,hz,hm,e0,e1,e2,e3,m0,m1,m2,h.xop,h.xnum,h.xtext,h.pl,h.nm,h.gn,h.gf,an7,aj,af,dy,dz,jZ,dA,dB,dw,ao6,ap1,ao9,ao7,ap2,ap0,ap4,ap5,aq3,aq5,ar6,eq_self,decide_true,decide_false,Int.reduceLT,Int.reduceLE,Int.reduceEq,Int.reduceToNat,aq1]
    try rfl
   have d2:decide ((ks.length:Int)=2)=false:=an6 (by omega);simp only[d2,h.xop,h.xnum,h.xtext,h.pl,h.nm,h.gn,h.gf,h.ex0n,an7,aj,af,dy,dz,jZ,dA,dB,dw,ao6,ap1,ao9,ao7,ap2,ap0,ap4,ap5,aq3,aq5,ar6]
  rw[an6 k10,af,ao8]
  by_cases k11:kind=11
  ·rw[an8 k11,aj,ap3,XJ]
   cases hR:Q41 t x ks names op num text kind true with
   |inl y=>rfl
   |inr y=>cases y with
    |inl y=>rfl
    |inr y=>exact y.elim
  rw[an6 k11,af,ao8];rw[XJ]
  cases hR:Q41 t x ks names op num text kind (decide (kind=12))with
  |inl y=>rfl
  |inr y=>cases y with
   |inl y=>rfl
   |inr y=>exact y.elim
def Q18 (t:Tr)(x:ae.den)(ks:LI)(names:List LI)(op num:Int)(text:LI)(kind:Int)(fl:Bool):AnS:=
 bif fl then Sum.inl (decide ((ks.length:Int)=2)&&(EX ks 0 2&&(PL false false false false (names.length:Int) op num text)),())else
 bif decide (kind=32)then Sum.inl (decide ((ks.length:Int)=2)&&(EX ks 0 2&&(!decide (ks.getD 0 0=27)&&(PL false false false false (names.length:Int) op num text))),())else
 bif decide (kind=30)then Sum.inl (decide ((ks.length:Int)=1)&&(EX ks 0 1&&(PL false true false false (names.length:Int) op num text&&(decide ((19:Int)≤op)&&(decide (op≤22))))),())else
 bif decide (kind=31)then Sum.inl (decide ((ks.length:Int)=2)&&(EX ks 0 2&&(PL false true false false (names.length:Int) op num text&&(decide ((1:Int)≤op)&&(decide (op≤18))))),())else
 bif decide (kind=33)then Sum.inl (decide ((ks.length:Int)=1)&&(EX ks 0 1&&(!decide (ks.getD 0 0=27)&&(PL false false false true (names.length:Int) op num text&&(gi 1 text)))),())else
 bif decide (kind=34)then Sum.inl (decide ((1:Int)≤(ks.length:Int))&&(EX ks 0 ks.length&&(!decide (ks.getD 0 0=27)&&(PL false false false false (names.length:Int) op num text))),())else
 bif decide (kind=35)then Sum.inl (ks.all oO&&(PL false false false false (names.length:Int) op num text),())else
 bif decide (kind=36)then Sum.inl (decide ((ks.length:Int)=1)&&(decide (ks.getD 0 0=1)&&(PL true true false false (names.length:Int) op num text&&(NM names 0 200&&((decide (op=0)||decide (op=1)))))),())else
 bif decide (kind=37)then Sum.inl (decide ((ks.length:Int)=1)&&((decide (ks.getD 0 0=34)||decide (ks.getD 0 0=27))&&(PL false false false false (names.length:Int) op num text)),())else
 bif decide (kind=40)then Sum.inl (decide ((ks.length:Int)=1)&&(EX ks 0 1&&(PL false false false false (names.length:Int) op num text)),())else
 bif decide (kind=41)then Sum.inl (decide ((ks.length:Int)=2)&&(EX ks 0 2&&(PL false false false false (names.length:Int) op num text)),())else
 Sum.inr (Sum.inl (t,x,(ks.length:Int),()))
theorem q18 {T:S.Tab}(h:SF T t x ks names op num text)(hl:ks.length≤200)(kind:Int)(fl:Bool):fm (S.step T) t x (ks.length:Int) kind fl=some (Q18 t x ks names op num text kind fl):=by
 rw[sJ];unfold Q18
 cases fl with
 |true=>
  rw[aj,ap3]
  by_cases Fi:ks.length=2
  ·have hz:(ks.length:Int)=2:=(by omega);have hw:i64.wrap ((2:Int) - 1)=1:=(by decide);have hm:ks.length - 1=1:=(by omega);have e0:=h.ex01 (by omega);have e1:=h.k0 (by omega);have e2:=h.ex02 (by omega);have e3:=h.k1 (by omega);have m0:=h.ex0m (by omega);have m1:=h.km (by omega);have m2:=h.ex0n;rw[hz,hw]at m0 m1;rw[hz]at m2;simp only[hw,hz,hm,e0,e1,e2,e3,m0,m1,m2,h.xop,h.xnum,h.xtext,h.pl,h.nm,h.gn,h.gf,an7,aj,af,dy,dz,jZ,dA,dB,dw,ao6,ap1,ao9,ao7,ap2,ap0,ap4,ap5,aq3,aq5,ar6,eq_self,decide_true,decide_false,Int.reduceLT,Int.reduceLE,Int.reduceEq,Int.reduceToNat,aq1]
   try rfl
  have d2:decide ((ks.length:Int)=2)=false:=an6 (by omega);simp only[d2,h.xop,h.xnum,h.xtext,h.pl,h.nm,h.gn,h.gf,h.ex0n,an7,aj,af,dy,dz,jZ,dA,dB,dw,ao6,ap1,ao9,ao7,ap2,ap0,ap4,ap5,aq3,aq5,ar6]
 |false=>
  rw[af,ao8]
  by_cases k32:kind=32
  ·rw[an8 k32,aj,ap3]
   by_cases Fi:ks.length=2
   ·have hz:(ks.length:Int)=2:=(by omega);have hw:i64.wrap ((2:Int) - 1)=1:=(by decide);have hm:ks.length - 1=1:=(by omega);have e0:=h.ex01 (by omega);have e1:=h.k0 (by omega);have e2:=h.ex02 (by omega);have e3:=h.k1 (by omega);have m0:=h.ex0m (by omega);have m1:=h.km (by omega);have m2:=h.ex0n;rw[hz,hw]at m0 m1;rw[hz]at m2;simp only[hw,hz,hm,e0,e1,e2,e3,m0,m1,m2,h.xop,h.xnum,h.xtext,h.pl,h.nm,h.gn,h.gf,an7,aj,af,dy,dz,jZ,dA,dB,dw,ao6,ap1,ao9,ao7,ap2,ap0,ap4,ap5,aq3,aq5,ar6,eq_self,decide_true,decide_false,Int.reduceLT,Int.reduceLE,Int.reduceEq,Int.reduceToNat,aq1]
    try rfl
   have d2:decide ((ks.length:Int)=2)=false:=an6 (by omega);simp only[d2,h.xop,h.xnum,h.xtext,h.pl,h.nm,h.gn,h.gf,h.ex0n,an7,aj,af,dy,dz,jZ,dA,dB,dw,ao6,ap1,ao9,ao7,ap2,ap0,ap4,ap5,aq3,aq5,ar6]
  rw[an6 k32,af,ao8]
  by_cases k30:kind=30
  ·rw[an8 k30,aj,ap3]
   by_cases Hu:ks.length=1
   ·have hz:(ks.length:Int)=1:=(by omega);have hw:i64.wrap ((1:Int) - 1)=0:=(by decide);have hm:ks.length - 1=0:=(by omega);have e0:=h.ex01 (by omega);have e1:=h.k0 (by omega);have m0:=h.ex0m (by omega);have m1:=h.km (by omega);have m2:=h.ex0n;rw[hz,hw]at m0 m1;rw[hz]at m2;simp only[hw,hz,hm,e0,e1,m0,m1,m2,h.xop,h.xnum,h.xtext,h.pl,h.nm,h.gn,h.gf,an7,aj,af,dy,dz,jZ,dA,dB,dw,ao6,ap1,ao9,ao7,ap2,ap0,ap4,ap5,aq3,aq5,ar6,eq_self,decide_true,decide_false,Int.reduceLT,Int.reduceLE,Int.reduceEq,Int.reduceToNat,aq1]
    try rfl
   have d1:decide ((ks.length:Int)=1)=false:=an6 (by omega);simp only[d1,h.xop,h.xnum,h.xtext,h.pl,h.nm,h.gn,h.gf,h.ex0n,an7,aj,af,dy,dz,jZ,dA,dB,dw,ao6,ap1,ao9,ao7,ap2,ap0,ap4,ap5,aq3,aq5,ar6]
  rw[an6 k30,af,ao8]
  by_cases k31:kind=31
  ·rw[an8 k31,aj,ap3]
   by_cases Fi:ks.length=2
   ·have hz:(ks.length:Int)=2:=(by omega);have hw:i64.wrap ((2:Int) - 1)=1:=(by decide);have hm:ks.length - 1=1:=(by omega);have e0:=h.ex01 (by omega);have e1:=h.k0 (by omega);have e2:=h.ex02 (by omega);have e3:=h.k1 (by omega);have m0:=h.ex0m (by omega);have m1:=h.km (by omega);have m2:=h.ex0n;rw[hz,hw]at m0 m1;rw[hz]at m2;simp only[hw,hz,hm,e0,e1,e2,e3,m0,m1,m2,h.xop,h.xnum,h.xtext,h.pl,h.nm,h.gn,h.gf,an7,aj,af,dy,dz,jZ,dA,dB,dw,ao6,ap1,ao9,ao7,ap2,ap0,ap4,ap5,aq3,aq5,ar6,eq_self,decide_true,decide_false,Int.reduceLT,Int.reduceLE,Int.reduceEq,Int.reduceToNat,aq1]
    try rfl
   have d2:decide ((ks.length:Int)=2)=false:=an6 (by omega);simp only[d2,h.xop,h.xnum,h.xtext,h.pl,h.nm,h.gn,h.gf,h.ex0n,an7,aj,af,dy,dz,jZ,dA,dB,dw,ao6,ap1,ao9,ao7,ap2,ap0,ap4,ap5,aq3,aq5,ar6]
  rw[an6 k31,af,ao8]
  by_cases k33:kind=33
  ·rw[an8 k33,aj,ap3]
   by_cases Hu:ks.length=1
   ·have hz:(ks.length:Int)=1:=(by omega);have hw:i64.wrap ((1:Int) - 1)=0:=(by decide);have hm:ks.length - 1=0:=(by omega);have e0:=h.ex01 (by omega);have e1:=h.k0 (by omega);have m0:=h.ex0m (by omega);have m1:=h.km (by omega);have m2:=h.ex0n;rw[hz,hw]at m0 m1;rw[hz]at m2;simp only[hw,hz,hm,e0,e1,m0,m1,m2,h.xop,h.xnum,h.xtext,h.pl,h.nm,h.gn,h.gf,an7,aj,af,dy,dz,jZ,dA,dB,dw,ao6,ap1,ao9,ao7,ap2,ap0,ap4,ap5,aq3,aq5,ar6,eq_self,decide_true,decide_false,Int.reduceLT,Int.reduceLE,Int.reduceEq,Int.reduceToNat,aq1]
    try rfl
   have d1:decide ((ks.length:Int)=1)=false:=an6 (by omega);simp only[d1,h.xop,h.xnum,h.xtext,h.pl,h.nm,h.gn,h.gf,h.ex0n,an7,aj,af,dy,dz,jZ,dA,dB,dw,ao6,ap1,ao9,ao7,ap2,ap0,ap4,ap5,aq3,aq5,ar6]
  rw[an6 k33,af,ao8]
  by_cases Va:kind=34
  ·rw[an8 Va,aj,ap3]
   by_cases hn:1≤ks.length
   ·have d1:decide ((1:Int)≤(ks.length:Int))=true:=an8 (by omega);have e1:=h.k0 hn;simp only[d1,e1,h.xop,h.xnum,h.xtext,h.pl,h.nm,h.gn,h.gf,h.ex0n,an7,aj,af,dy,dz,jZ,dA,dB,dw,ao6,ap1,ao9,ao7,ap2,ap0,ap4,ap5,aq3,aq5,ar6]
   ·have d1:decide ((1:Int)≤(ks.length:Int))=false:=an6 (by omega);simp only[d1,h.xop,h.xnum,h.xtext,h.pl,h.nm,h.gn,h.gf,h.ex0n,an7,aj,af,dy,dz,jZ,dA,dB,dw,ao6,ap1,ao9,ao7,ap2,ap0,ap4,ap5,aq3,aq5,ar6]
  rw[an6 Va,af,ao8]
  by_cases k35:kind=35
  ·rw[an8 k35,aj,ap3];simp only[h.xlen];rw[h.l31]
   cases ks.all oO with
   |true=>simp only[ap3,an7,bw,aq0,aq9,h.pl,ao6]
   |false=>rfl
  rw[an6 k35,af,ao8]
  by_cases k36:kind=36
  ·rw[an8 k36,aj,ap3]
   by_cases Hu:ks.length=1
   ·have hz:(ks.length:Int)=1:=(by omega);have hw:i64.wrap ((1:Int) - 1)=0:=(by decide);have hm:ks.length - 1=0:=(by omega);have e0:=h.ex01 (by omega);have e1:=h.k0 (by omega);have m0:=h.ex0m (by omega);have m1:=h.km (by omega);have m2:=h.ex0n;rw[hz,hw]at m0 m1;rw[hz]at m2;simp only[hw,hz,hm,e0,e1,m0,m1,m2,h.xop,h.xnum,h.xtext,h.pl,h.nm,h.gn,h.gf,an7,aj,af,dy,dz,jZ,dA,dB,dw,ao6,ap1,ao9,ao7,ap2,ap0,ap4,ap5,aq3,aq5,ar6,eq_self,decide_true,decide_false,Int.reduceLT,Int.reduceLE,Int.reduceEq,Int.reduceToNat,aq1]
    try rfl
   have d1:decide ((ks.length:Int)=1)=false:=an6 (by omega);simp only[d1,h.xop,h.xnum,h.xtext,h.pl,h.nm,h.gn,h.gf,h.ex0n,an7,aj,af,dy,dz,jZ,dA,dB,dw,ao6,ap1,ao9,ao7,ap2,ap0,ap4,ap5,aq3,aq5,ar6]
  rw[an6 k36,af,ao8]
  by_cases k37:kind=37
  ·rw[an8 k37,aj,ap3]
   by_cases Hu:ks.length=1
   ·have hz:(ks.length:Int)=1:=(by omega);have hw:i64.wrap ((1:Int) - 1)=0:=(by decide);have hm:ks.length - 1=0:=(by omega);have e0:=h.ex01 (by omega);have e1:=h.k0 (by omega);have m0:=h.ex0m (by omega);have m1:=h.km (by omega);have m2:=h.ex0n;rw[hz,hw]at m0 m1;rw[hz]at m2;simp only[hw,hz,hm,e0,e1,m0,m1,m2,h.xop,h.xnum,h.xtext,h.pl,h.nm,h.gn,h.gf,an7,aj,af,dy,dz,jZ,dA,dB,dw,ao6,ap1,ao9,ao7,ap2,ap0,ap4,ap5,aq3,aq5,ar6,eq_self,decide_true,decide_false,Int.reduceLT,Int.reduceLE,Int.reduceEq,Int.reduceToNat,aq1]
    try rfl
   have d1:decide ((ks.length:Int)=1)=false:=an6 (by omega);simp only[d1,h.xop,h.xnum,h.xtext,h.pl,h.nm,h.gn,h.gf,h.ex0n,an7,aj,af,dy,dz,jZ,dA,dB,dw,ao6,ap1,ao9,ao7,ap2,ap0,ap4,ap5,aq3,aq5,ar6]
  rw[an6 k37,af,ao8]
  by_cases EL:kind=40
  ·rw[an8 EL,aj,ap3]
   by_cases Hu:ks.length=1
   ·have hz:(ks.length:Int)=1:=(by omega);have hw:i64.wrap ((1:Int) - 1)=0:=(by decide);have hm:ks.length - 1=0:=(by omega);have e0:=h.ex01 (by omega);have e1:=h.k0 (by omega);have m0:=h.ex0m (by omega);have m1:=h.km (by omega);have m2:=h.ex0n;rw[hz,hw]at m0 m1;rw[hz]at m2;simp only[hw,hz,hm,e0,e1,m0,m1,m2,h.xop,h.xnum,h.xtext,h.pl,h.nm,h.gn,h.gf,an7,aj,af,dy,dz,jZ,dA,dB,dw,ao6,ap1,ao9,ao7,ap2,ap0,ap4,ap5,aq3,aq5,ar6,eq_self,decide_true,decide_false,Int.reduceLT,Int.reduceLE,Int.reduceEq,Int.reduceToNat,aq1]
    try rfl
   have d1:decide ((ks.length:Int)=1)=false:=an6 (by omega);simp only[d1,h.xop,h.xnum,h.xtext,h.pl,h.nm,h.gn,h.gf,h.ex0n,an7,aj,af,dy,dz,jZ,dA,dB,dw,ao6,ap1,ao9,ao7,ap2,ap0,ap4,ap5,aq3,aq5,ar6]
  rw[an6 EL,af,ao8]
  by_cases k41:kind=41
  ·rw[an8 k41,aj,ap3]
   by_cases Fi:ks.length=2
   ·have hz:(ks.length:Int)=2:=(by omega);have hw:i64.wrap ((2:Int) - 1)=1:=(by decide);have hm:ks.length - 1=1:=(by omega);have e0:=h.ex01 (by omega);have e1:=h.k0 (by omega);have e2:=h.ex02 (by omega);have e3:=h.k1 (by omega);have m0:=h.ex0m (by omega);have m1:=h.km (by omega);have m2:=h.ex0n;rw[hz,hw]at m0 m1;rw[hz]at m2;simp only[hw,hz,hm,e0,e1,e2,e3,m0,m1,m2,h.xop,h.xnum,h.xtext,h.pl,h.nm,h.gn,h.gf,an7,aj,af,dy,dz,jZ,dA,dB,dw,ao6,ap1,ao9,ao7,ap2,ap0,ap4,ap5,aq3,aq5,ar6,eq_self,decide_true,decide_false,Int.reduceLT,Int.reduceLE,Int.reduceEq,Int.reduceToNat,aq1]
    try rfl
   have d2:decide ((ks.length:Int)=2)=false:=an6 (by omega);simp only[d2,h.xop,h.xnum,h.xtext,h.pl,h.nm,h.gn,h.gf,h.ex0n,an7,aj,af,dy,dz,jZ,dA,dB,dw,ao6,ap1,ao9,ao7,ap2,ap0,ap4,ap5,aq3,aq5,ar6]
  rw[an6 k41,af,ao8]
def Q7 (t:Tr)(x:ae.den)(ks:LI)(names:List LI)(op num:Int)(text:LI)(kind:Int)(fl:Bool):AnS:=
 bif fl then Sum.inl (decide ((ks.length:Int)=0)&&(PL false false false false (names.length:Int) op num text),())else
 bif decide (kind=23)then Sum.inl (decide ((ks.length:Int)=0)&&(PL false false true false (names.length:Int) op num text),())else
 bif decide (kind=24)then Sum.inl (decide ((ks.length:Int)=0)&&(PL false false false true (names.length:Int) op num text&&(gi 3 text)),())else
 bif decide (kind=25)then Sum.inl (decide ((ks.length:Int)=0)&&(PL false false false true (names.length:Int) op num text&&(decide ((text.length:Int)≤4000))),())else
 bif decide (kind=26)then Sum.inl (decide ((ks.length:Int)=0)&&(PL false false false true (names.length:Int) op num text&&(gi 1 text)),())else
 bif decide (kind=28)then Q18 t x ks names op num text kind true else
 Q18 t x ks names op num text kind (decide (kind=29))
theorem q7 {T:S.Tab}(h:SF T t x ks names op num text)(hl:ks.length≤200)(kind:Int)(U5:∀fl,fm T t x (ks.length:Int) kind fl=some (Q18 t x ks names op num text kind fl))(fl:Bool):ew (S.step T) t x (ks.length:Int) kind fl=some (Q7 t x ks names op num text kind fl):=by
 rw[th];unfold Q7
 cases fl with
 |true=>
  rw[aj,ap3];simp only[h.xop,h.xnum,h.xtext,h.pl,h.nm,h.gn,h.gf,h.ex0n,an7,aj,af,dy,dz,jZ,dA,dB,dw,ao6,ap1,ao9,ao7,ap2,ap0,ap4,ap5,aq3,aq5,ar6]
 |false=>
  rw[af,ao8]
  by_cases k23:kind=23
  ·rw[an8 k23,aj,ap3];simp only[h.xop,h.xnum,h.xtext,h.pl,h.nm,h.gn,h.gf,h.ex0n,an7,aj,af,dy,dz,jZ,dA,dB,dw,ao6,ap1,ao9,ao7,ap2,ap0,ap4,ap5,aq3,aq5,ar6]
  rw[an6 k23,af,ao8]
  by_cases k24:kind=24
  ·rw[an8 k24,aj,ap3];simp only[h.xop,h.xnum,h.xtext,h.pl,h.nm,h.gn,h.gf,h.ex0n,an7,aj,af,dy,dz,jZ,dA,dB,dw,ao6,ap1,ao9,ao7,ap2,ap0,ap4,ap5,aq3,aq5,ar6]
  rw[an6 k24,af,ao8]
  by_cases k25:kind=25
  ·rw[an8 k25,aj,ap3];simp only[h.xop,h.xnum,h.xtext,h.pl,h.nm,h.gn,h.gf,h.ex0n,an7,aj,af,dy,dz,jZ,dA,dB,dw,ao6,ap1,ao9,ao7,ap2,ap0,ap4,ap5,aq3,aq5,ar6]
  rw[an6 k25,af,ao8]
  by_cases k26:kind=26
  ·rw[an8 k26,aj,ap3];simp only[h.xop,h.xnum,h.xtext,h.pl,h.nm,h.gn,h.gf,h.ex0n,an7,aj,af,dy,dz,jZ,dA,dB,dw,ao6,ap1,ao9,ao7,ap2,ap0,ap4,ap5,aq3,aq5,ar6]
  rw[an6 k26,af,ao8]
  by_cases k28:kind=28
  ·rw[an8 k28,aj,ap3,U5]
   cases hR:Q18 t x ks names op num text kind true with
   |inl y=>rfl
   |inr y=>cases y with
    |inl y=>rfl
    |inr y=>exact y.elim
  rw[an6 k28,af,ao8];rw[U5]
  cases hR:Q18 t x ks names op num text kind (decide (kind=29))with
  |inl y=>rfl
  |inr y=>cases y with
   |inl y=>rfl
   |inr y=>exact y.elim
end Go.Abs.D
end

section
namespace Go.Abs.D
theorem A5 {R α:Type}{F:S.Tab→Nat→Option R}{P:α→Bool}{l:List α}{yes no:R}{q:S.Tab→Prop}(hq:Evt fun n=>q (S.tab n))
  (hs:∀T j (h:j<l.length),q T→F (S.step T) j=bif P l[j]then F T (j+1)else some no) (he:∀T,q T→F (S.step T) l.length=some yes):
  ∀k j,j+k=l.length→Evt fun n=>F (S.tab n) j=some (bif(l.drop j).all P then yes else no)
 |0,j,h=>hq.up fun n hT=>by
  show F (S.step (S.tab n)) j=_;have:j=l.length:=(by omega);subst this;rw[he _ hT,List.drop_length];rfl
 |k+1,j,h=>by
  have hj:j<l.length:=(by omega)
  refine(hq.and (A5 hq hs he k (j+1) (by omega))).up fun n ⟨hT,ih⟩=> ?_
  show F (S.step (S.tab n)) j=_;rw[hs _ j hj hT,List.drop_eq_getElem_cons hj,List.all_cons]
  cases hp:P l[j]with
  |true=>rw[ap3,ih,ao6]
  |false=>rfl
theorem sY {l:LI}{j:Nat}(h:j<l.length):l.getD (j:Int).toNat 0=l[j]:=by
 rw[Int.toNat_natCast,ap9,ap8 h];rfl
theorem La {l:List LI}{j:Nat}(h:j<l.length):l.getD (j:Int).toNat []=l[j]:=by
 rw[Int.toNat_natCast,ap9,ap8 h];rfl
theorem MC:Evt fun n=>∀v,sA (S.tab n) v=some (cX v,aa):=FU.up fun n h v=>by
 rw[C7,h];rfl
theorem Fv:Evt fun n=>∀v,pC (S.tab n) v=some (jf v,aa):=FU.up fun n h v=>by
 rw[CU,h];rfl
theorem VO:Evt fun n=>∀a b c d nn op num text,aR (S.tab n) a b c d nn op num text=some (PL a b c d nn op num text,(),(),(),(),nn,op,num,text,()):=aD.up fun n _ a b c d nn op num text=>by
 rw[Al];unfold PL
 generalize decide (nn=0)=p
 generalize decide (op=0)=q
 generalize decide (num=0)=r
 generalize decide (text=[])=s
 cases a<;>cases b<;>cases c<;>cases d<;>cases p<;>cases q<;>cases r<;>simp only[aj,af,ap4,ap0,ao6,ao9]
theorem NJ (ks l:LI)(hl:l.length≤2097152):Evt fun n=>fY (S.tab n) ks l (l.length:Int) 0=some (bif l.all jf then Sum.inr (Sum.inl (ks,()))else Sum.inl (ks,false,())):=by
 have:=A5 (F:=fun T j=>fY T ks l (l.length:Int) ↑j) (P:=jf) (l:=l) (yes:=Sum.inr (Sum.inl (ks,()))) (no:=Sum.inl (ks,false,())) (q:=fun T=>∀v,pC T v=some (jf v,aa)) Fv
  (fun T j h hT=>by
   show fY (S.step T) _ _ _ _=bif _ then fY T ks l (l.length:Int) ((j+1:Nat):Int)else _
   rw[qd,aL (by omega),ad (al h),sY h,hT,an7,bD (by omega)]
   cases jf l[j]with
   |true=>rw[az (by rfl)];rfl
   |false=>rw[ad (by rfl)];rfl)
  (fun T hT=>by
   show fY (S.step T) _ _ _ _=_
   rw[qd,az (by simp)]) l.length 0 (by omega)
 rw[List.drop_zero]at this;exact this
theorem I5 (ks:LI)(hl:ks.length≤200)(i j:Nat)(h1:i≤j)(h2:j≤ks.length):Evt fun n=>aT (S.tab n) ↑i ↑j ks=some (EX ks i j,(),(),ks,()):=by
 have hs:(bK ks i j).length≤2097152:=by rw[kU h2];omega
 refine(NJ ks (bK ks i j) hs).up fun n h=> ?_
 rw[Aw,ad (eD h1 h2),od,h];unfold EX;cases(bK ks i j).all jf<;>rfl
theorem VN (ks:LI)(hl:ks.length≤200):Evt fun n=>lk (S.tab n) (ks.length:Int) ks=some (BS ks,(ks.length:Int),ks,()):=Fv.up fun n h=>by
 rw[Ag];unfold BS
 by_cases h0:1≤ks.length
 ·have d1:decide ((0:Int)<(ks.length:Int))=true:=an8 (by omega);rw[aL (by omega),ad d1,h,an7,an8 h0];have g0:ks.getD 0 0=get ks 0:=rfl;rw[g0]
  cases jf (get ks 0)with
  |true=>rw[ad (by rfl),ad d1];rfl
  |false=>rw[az (by rfl)];rfl
 ·rw[aH (by omega),an6 h0];rfl
theorem Tw (nn op num:Int)(text:LI)(l:LI)(hl:l.length≤2097152):Evt fun n=>fA (S.tab n) nn op num text l (l.length:Int) 0=some (bif l.all cX then Sum.inr (Sum.inl (nn,op,num,text,()))else Sum.inl (false,())):=by
 have:=A5 (F:=fun T j=>fA T nn op num text l (l.length:Int) ↑j) (P:=cX) (l:=l) (yes:=Sum.inr (Sum.inl (nn,op,num,text,()))) (no:=Sum.inl (false,())) (q:=fun T=>∀v,sA T v=some (cX v,aa)) MC
  (fun T j h hT=>by
   show fA (S.step T) _ _ _ _ _ _ _=bif _ then fA T nn op num text l (l.length:Int) ((j+1:Nat):Int)else _
   rw[rm,aL (by omega),ad (al h),sY h,hT,an7,bD (by omega)]
   cases cX l[j]with
   |true=>rw[az (by rfl)];rfl
   |false=>rw[ad (by rfl)];rfl)
  (fun T hT=>by
   show fA (S.step T) _ _ _ _ _ _ _=_
   rw[rm,az (by simp)]) l.length 0 (by omega)
 rw[List.drop_zero]at this;exact this
theorem Tn (nn op num:Int)(text:LI)(l:LI)(hl:l.length≤2097152):Evt fun n=>fz (S.tab n) nn op num text l (l.length:Int) 0=some (bif l.all oO then Sum.inr (Sum.inl (nn,op,num,text,()))else Sum.inl (false,())):=by
 have:=A5 (F:=fun T j=>fz T nn op num text l (l.length:Int) ↑j) (P:=oO) (l:=l) (yes:=Sum.inr (Sum.inl (nn,op,num,text,()))) (no:=Sum.inl (false,())) (q:=fun T=>∀v lo hi,jm T v lo hi=some (decide (lo≤v)&&decide (v≤hi),aP)) FU
  (fun T j h hT=>by
   show fz (S.step T) _ _ _ _ _ _ _=bif _ then fz T nn op num text l (l.length:Int) ((j+1:Nat):Int)else _
   rw[qT,aL (by omega),ad (al h),sY h,hT,an7,bD (by omega)];show brk (!oO l[j]) _ _=_
   cases oO l[j]with
   |true=>rw[az (by rfl)];rfl
   |false=>rw[ad (by rfl)];rfl)
  (fun T hT=>by
   show fz (S.step T) _ _ _ _ _ _ _=_
   rw[qT,az (by simp)]) l.length 0 (by omega)
 rw[List.drop_zero]at this;exact this
theorem Tz (ks:LI)(num nk:Int)(l:LI)(hl:l.length≤2097152):Evt fun n=>cC (S.tab n) ks num nk l (l.length:Int) 0=some (bif l.all gC then Sum.inr (Sum.inl (ks,num,nk,()))else Sum.inl (false,())):=by
 have:=A5 (F:=fun T j=>cC T ks num nk l (l.length:Int) ↑j) (P:=gC) (l:=l) (yes:=Sum.inr (Sum.inl (ks,num,nk,()))) (no:=Sum.inl (false,())) (q:=Base2) aD
  (fun T j h hT=>by
   show cC (S.step T) _ _ _ _ _ _=bif _ then cC T ks num nk l (l.length:Int) ((j+1:Nat):Int)else _
   rw[qX,aL (by omega),ad (al h),sY h,bD (by omega)];unfold gC
   cases decide (l[j]=26)with
   |true=>rw[az (by rfl)];rfl
   |false=>
    rw[ad (by rfl)]
    cases decide (l[j]=32)with
    |true=>rw[az (by rfl)];rfl
    |false=>
     rw[ad (by rfl)]
     cases decide (l[j]=33)with
     |true=>rw[az (by rfl)];rfl
     |false=>rw[ad (by rfl)];rfl)
  (fun T hT=>by
   show cC (S.step T) _ _ _ _ _ _=_
   rw[qX,az (by simp)]) l.length 0 (by omega)
 rw[List.drop_zero]at this;exact this
theorem Evt.imp {p:Prop}{q:Nat→Prop}(h:p→Evt q):Evt fun n=>p→q n:=by
 by_cases hp:p
 ·exact(h hp).mono fun n h _=>h
 ·exact Evt.of fun n h=>absurd h hp
theorem VU (ks:LI)(hl:ks.length≤200)(nn op num:Int)(text:LI)(hb:∀c∈text,isByte c):Evt fun n=>IF (S.tab n) ks nn op num text:=by
 have hw:1≤ks.length→i64.wrap ((ks.length:Int) - 1)=((ks.length - 1:Nat):Int):=fun h=>by rw[wrap64 _ (by omega) (by omega)];omega
 have a1:=VO
 have a2:Evt fun n=>1≤ks.length→aT (S.tab n) 0 1 ks=some (EX ks 0 1,(),(),ks,()):=Evt.imp fun h=>I5 ks hl 0 1 (by omega) h
 have a3:Evt fun n=>2≤ks.length→aT (S.tab n) 0 2 ks=some (EX ks 0 2,(),(),ks,()):=Evt.imp fun h=>I5 ks hl 0 2 (by omega) h
 have a4:Evt fun n=>aT (S.tab n) 0 (ks.length:Int) ks=some (EX ks 0 ks.length,(),(),ks,()):=I5 ks hl 0 ks.length (by omega) (aq2 _)
 have a5:Evt fun n=>1≤ks.length→aT (S.tab n) 0 (i64.wrap ((ks.length:Int) - 1)) ks=some (EX ks 0 (ks.length - 1),(),(),ks,()):=Evt.imp fun h=>by
  rw[hw h];exact I5 ks hl 0 (ks.length - 1) (by omega) (by omega)
 have a6:Evt fun n=>(1≤num∧num≤ks.length)→aT (S.tab n) num (ks.length:Int) ks=some (EX ks num.toNat ks.length,(),(),ks,()):=Evt.imp fun h=>by
  have:=I5 ks hl num.toNat ks.length (by omega) (aq2 _);rw[Int.toNat_of_nonneg (by omega)]at this;exact this
 have a7:=VN ks hl;have a8:=Bt (s:=text) hb;have a9:=F8 (s:=text) hb;have b1:=FU;have b2:=Tw nn op num text ks (by omega);have b3:=Tn nn op num text ks (by omega)
 have b4:Evt fun n=>(1≤num∧num≤ks.length)→cC (S.tab n) ks num (ks.length:Int) (sub ks 0 num) ((sub ks 0 num).length:Int) 0=some (bif(bK ks 0 num.toNat).all gC then Sum.inr (Sum.inl (ks,num,(ks.length:Int),()))else Sum.inl (false,())):=Evt.imp fun h=>by
  have e:sub ks 0 num=bK ks 0 num.toNat:=rfl;rw[e];exact Tz ks num ks.length _ (by rw[kU (by omega)];omega)
 refine((((a1.and a2).and (a3.and a4)).and ((a5.and a6).and (a7.and a8))).and (((a9.and b1).and (b2.and b3)).and b4)).mono fun n ⟨⟨⟨⟨a1,a2⟩,a3,a4⟩,⟨a5,a6⟩,a7,a8⟩,⟨⟨a9,b1⟩,b2,b3⟩,b4⟩=> ?_
 exact⟨fun a b c d=>a1 a b c d nn op num text,a2,a3,a4,a5,fun h1 h2=>a6 ⟨h1,h2⟩,a7,a8,a9,b1,b2,b3,fun h1 h2=>b4 ⟨h1,h2⟩⟩
end Go.Abs.D
end

section
namespace Go.Abs.D
def ao (x:ae.den):LI:=x.2.2.2.2.2.2.2.2.1
def aM (x:ae.den):List LI:=x.2.2.2.2.2.2.2.1
def jo (ns:List ae.den)(k:Int):Int:=(at_ (τ:=ae) ns k).1
def aw (ns:List ae.den)(x:ae.den):LI:=(ao x).map (jo ns)
theorem Cr {ns:List ae.den}{x:ae.den}{j:Nat}(h:j<(ao x).length):(aw ns x).getD j 0=jo ns ((ao x)[j]):=by
 unfold aw;rw[ap9,List.getElem?_map,ap8 h];rfl
theorem Ic {x:ae.den}{j:Nat}(h:j<(ao x).length):x.2.2.2.2.2.2.2.2.1.getD (j:Int).toNat 0=(ao x)[j]:=sY h
theorem GH:Evt fun n=>∀v,lY (S.tab n) v=some (cX v,aa):=aD.up fun n _ v=>by
 rw[C9];unfold cX
 cases decide ((1:Int)≤v)with
 |true=>rw[ad rfl];rfl
 |false=>rw[az rfl];rfl
theorem Q2:Evt fun n=>∀v,vZ (S.tab n) v=some (jf v,aa):=aD.up fun n _ v=>by
 rw[CJ];unfold jf
 cases decide ((20:Int)≤v)with
 |true=>rw[ad rfl];rfl
 |false=>rw[az rfl];rfl
theorem MT:Evt fun n=>∀v,sP (S.tab n) v=some (gC v,aa):=aD.up fun n _ v=>by
 rw[Af];unfold gC
 cases decide (v=26)with
 |true=>rw[ad rfl];rfl
 |false=>
  rw[az rfl]
  cases decide (v=32)with
  |true=>rw[ad rfl];rfl
  |false=>rw[az rfl];rfl
theorem QB (x:ae.den):Evt fun n=>∀a b c d,aZ (S.tab n) x a b c d=some (PL d a b c ((aM x).length:Int) x.2.2.2.2.1 x.2.2.2.2.2.1 x.2.2.2.2.2.2.1,bu):=aD.up fun n _ a b c d=>by
 rw[C1];unfold PL aM
 generalize decide ((x.2.2.2.2.2.2.2.1.length:Int)=0)=p
 generalize decide (x.2.2.2.2.1=0)=q
 generalize decide (x.2.2.2.2.2.1=0)=r
 generalize decide (x.2.2.2.2.2.2.1=[])=s
 cases a<;>cases b<;>cases c<;>cases d<;>cases q<;>cases r<;>cases s<;>simp only[aj,af,ap4,ap0,ao6,ao9,ap1,ao7]
theorem HD (l:List LI)(hl:l.length≤2097152):Evt fun n=>fy (S.tab n) l (l.length:Int) 0=some (bif l.all (gi 1)then Sum.inr (Sum.inl ())else Sum.inl (false,())):=by
 have:=A5 (F:=fun T j=>fy T l (l.length:Int) ↑j) (P:=gi 1) (l:=l) (yes:=Sum.inr (Sum.inl ())) (no:=Sum.inl (false,())) (q:=fun T=>∀s∈l,gU T s=some (gi 1 s,aa)) (zH l fun s=>FF (s:=s))
  (fun T j h hT=>by
   show fy (S.step T) _ _ _=bif _ then fy T l (l.length:Int) ((j+1:Nat):Int)else _
   rw[qR,aL (by omega),ad (al h),La h,hT _ (as4 h),an7,bD (by omega)]
   cases gi 1 l[j]with
   |true=>rw[az (by rfl)];rfl
   |false=>rw[ad (by rfl)];rfl)
  (fun T hT=>by
   show fy (S.step T) _ _ _=_
   rw[qR,az (by simp)]) l.length 0 (by omega)
 rw[List.drop_zero]at this;exact this
theorem Nw (x:ae.den)(hl:(aM x).length≤2097152):Evt fun n=>∀a b,gZ (S.tab n) x a b=some (NM (aM x) a b,kf):=(HD (aM x) hl).up fun n h a b=>by
 have h:fy (S.tab n) x.2.2.2.2.2.2.2.1 (x.2.2.2.2.2.2.2.1.length:Int) 0=_:=h;rw[BW,h];unfold NM
 by_cases h1:a≤((aM x).length:Int)
 ·have d1:decide ((x.2.2.2.2.2.2.2.1.length:Int)<a)=false:=an6 (by unfold aM at h1;omega);rw[az d1,an8 h1]
  by_cases h2:((aM x).length:Int)≤b
  ·have d2:decide (b<(x.2.2.2.2.2.2.2.1.length:Int))=false:=an6 (by unfold aM at h2;omega);rw[az d2,an8 h2];cases(aM x).all (gi 1)<;>rfl
  ·have d2:decide (b<(x.2.2.2.2.2.2.2.1.length:Int))=true:=an8 (by unfold aM at h2;omega);rw[ad d2,an6 h2];rfl
 ·have d1:decide ((x.2.2.2.2.2.2.2.1.length:Int)<a)=true:=an8 (by unfold aM at h1;omega);rw[ad d1,an6 h1];rfl
variable{ns:List ae.den}{x:ae.den}(hk:∀k∈ao x,0≤k∧k<(ns.length:Int))(hl:(ao x).length≤200)
include hk
theorem OL {j:Nat}(h:j<(ao x).length):(decide ((0:Int)≤(ao x)[j])&&decide ((ao x)[j]<(ns.length:Int)))=true:=by
 have:=hk _ (as4 h);rw[an8 this.1,an8 this.2];rfl
theorem GZ:Evt fun n=>∀j:Nat,j<(ao x).length→bQ (S.tab n) (ns,()) x (j:Int)=some ((aw ns x).getD j 0,jI):=aD.up fun n _ j h=>by
 have hi:(decide ((0:Int)≤(j:Int))&&decide ((j:Int)<(x.2.2.2.2.2.2.2.2.1.length:Int)))=true:=al h;rw[Fc,ad hi,Ic h,ad (OL hk h),Cr h];rfl
include hl
theorem Bs (j:Nat)(hj:j≤(ao x).length):∀(k i:Nat),i+k=j→Evt fun n=>mW (S.tab n) ↑j (ns,()) x (i:Int)=some (bif EX (aw ns x) i j then Sum.inr (Sum.inl ())else Sum.inl (false,()))
 |0,i,h=>aD.up fun n _=>by
  have:i=j:=(by omega);subst this;rw[rf,az (by simp)];unfold EX;rw[l8];rfl
 |k+1,i,h=>by
  have hi:i<(ao x).length:=(by omega)
  refine((Bs j hj k (i+1) (by omega)).and Q2).up fun n ⟨ih,he⟩=> ?_
  have kY:(decide ((0:Int)≤(i:Int))&&decide ((i:Int)<(x.2.2.2.2.2.2.2.2.1.length:Int)))=true:=al hi
  have hx:EX (aw ns x) i j=(jf (jo ns (ao x)[i])&&EX (aw ns x) (i+1) j):=by
   unfold EX bK
   have qE:i<((aw ns x).take j).length:=by rw[ar2];unfold aw;rw[List.length_map];omega
   rw[List.drop_eq_getElem_cons qE,List.all_cons]
   congr 2
   rw[List.getElem_take];unfold aw;rw[List.getElem_map]
  rw[rf,aL (by omega),ad kY,Ic hi,ad (OL hk hi),bD (by omega),hx];have e:(at_ (τ:=ae) (ns,()).1 (ao x)[i]).1=jo ns (ao x)[i]:=rfl;rw[e,he,an7]
  cases jf (jo ns (ao x)[i])with
  |true=>rw[az (by rfl),ih];rfl
  |false=>rw[ad (by rfl)];rfl
theorem wA (i j:Nat)(h1:i≤j)(h2:j≤(ao x).length):Evt fun n=>aV (S.tab n) (ns,()) x ↑i (j:Int)=some (EX (aw ns x) i j,cG):=(Bs hk hl j h2 (j - i) i (by omega)).up fun n h=>by
 rw[BZ,h];cases EX (aw ns x) i j<;>rfl
theorem SQ:Evt fun n=>de (S.tab n) (ns,()) x ((ao x).length:Int) 0=some (bif(aw ns x).all cX then Sum.inr (Sum.inl (x,()))else Sum.inl (false,())):=by
 have:=A5 (F:=fun T j=>de T (ns,()) x ((ao x).length:Int) ↑j) (P:=fun k=>cX (jo ns k)) (l:=ao x) (yes:=Sum.inr (Sum.inl (x,()))) (no:=Sum.inl (false,()))
  (q:=fun T=>(∀v,lY T v=some (cX v,aa))∧∀j:Nat,j<(ao x).length→bQ T (ns,()) x (j:Int)=some ((aw ns x).getD j 0,jI)) (GH.and (GZ hk))
  (fun T j h hT=>by
   show de (S.step T) _ _ _ _=bif _ then de T (ns,()) x ((ao x).length:Int) ((j+1:Nat):Int)else _
   rw[nN,aL (by omega),hT.2 j h,an7,Cr h,hT.1,an7,bD (by omega)]
   cases cX (jo ns (ao x)[j])with
   |true=>rw[az (by rfl)];rfl
   |false=>rw[ad (by rfl)];rfl)
  (fun T hT=>by
   show de (S.step T) _ _ _ _=_
   rw[nN,az (by simp)]) (ao x).length 0 (by omega)
 rw[List.drop_zero]at this;unfold aw;rw[List.all_map];exact this
theorem QJ:Evt fun n=>cK (S.tab n) (ns,()) x ((ao x).length:Int) 0=some (bif(aw ns x).all oO then Sum.inr (Sum.inl (x,()))else Sum.inl (false,())):=by
 have:=A5 (F:=fun T j=>cK T (ns,()) x ((ao x).length:Int) ↑j) (P:=fun k=>oO (jo ns k)) (l:=ao x) (yes:=Sum.inr (Sum.inl (x,()))) (no:=Sum.inl (false,()))
  (q:=fun T=>∀j:Nat,j<(ao x).length→bQ T (ns,()) x (j:Int)=some ((aw ns x).getD j 0,jI)) (GZ hk)
  (fun T j h hT=>by
   show cK (S.step T) _ _ _ _=bif _ then cK T (ns,()) x ((ao x).length:Int) ((j+1:Nat):Int)else _
   rw[mI,aL (by omega),hT j h,an7,Cr h,bD (by omega)];simp only;unfold oO
   by_cases h1:40≤jo ns (ao x)[j]
   ·rw[aH (by omega),an8 h1]
    by_cases h2:jo ns (ao x)[j]≤42
    ·rw[aH (by omega),an8 h2];rfl
    ·rw[aL (by omega),an6 h2];rfl
   ·rw[aL (by omega),an6 h1];rfl)
  (fun T hT=>by
   show cK (S.step T) _ _ _ _=_
   rw[mI,az (by simp)]) (ao x).length 0 (by omega)
 rw[List.drop_zero]at this;unfold aw;rw[List.all_map];exact this
theorem LC (m:Nat)(hm:x.2.2.2.2.2.1=(m:Int))(Jq:m≤(ao x).length)(nk:Int):∀(k i:Nat),i+k=m→Evt fun n=>cQ (S.tab n) (ns,()) x nk (i:Int)=some (bif(bK (aw ns x) i m).all gC then Sum.inr (Sum.inl ((ns,()),x,nk,()))else Sum.inl (false,()))
 |0,i,h=>aD.up fun n _=>by
  have:i=m:=(by omega);subst this;rw[ny,hm,az (by simp),l8];rfl
 |k+1,i,h=>by
  have hi:i<(ao x).length:=(by omega)
  refine((LC m hm Jq nk k (i+1) (by omega)).and (MT.and (GZ hk))).up fun n ⟨ih,ht,Yv⟩=> ?_
  have hx:(bK (aw ns x) i m).all gC=(gC (jo ns (ao x)[i])&&(bK (aw ns x) (i+1) m).all gC):=by
   unfold bK
   have qE:i<((aw ns x).take m).length:=by rw[ar2];unfold aw;rw[List.length_map];omega
   rw[List.drop_eq_getElem_cons qE,List.all_cons]
   congr 2
   rw[List.getElem_take];unfold aw;rw[List.getElem_map]
  rw[ny,hm,aL (by omega),Yv i hi,an7,Cr hi,ht,an7,bD (by omega),hx]
  cases gC (jo ns (ao x)[i])with
  |true=>rw[az (by rfl),ih];rfl
  |false=>rw[ad (by rfl)];rfl
theorem R6 (hn:(aM x).length≤2097152):Evt fun n=>SF (S.tab n) (ns,()) x (aw ns x) (aM x) x.2.2.2.2.1 x.2.2.2.2.2.1 x.2.2.2.2.2.2.1:=by
 have hlen:(aw ns x).length=(ao x).length:=by unfold aw;rw[List.length_map]
 have hw:1≤(aw ns x).length→i64.wrap (((aw ns x).length:Int) - 1)=(((aw ns x).length - 1:Nat):Int):=fun h=>by rw[wrap64 _ (by omega) (by omega)];omega
 have a1:=QB x;have a2:=Nw x hn
 have a3:Evt fun n=>1≤(aw ns x).length→aV (S.tab n) (ns,()) x 0 1=some (EX (aw ns x) 0 1,cG):=Evt.imp fun h=>wA hk hl 0 1 (by omega) (by omega)
 have a4:Evt fun n=>2≤(aw ns x).length→aV (S.tab n) (ns,()) x 0 2=some (EX (aw ns x) 0 2,cG):=Evt.imp fun h=>wA hk hl 0 2 (by omega) (by omega)
 have a5:Evt fun n=>aV (S.tab n) (ns,()) x 0 ((aw ns x).length:Int)=some (EX (aw ns x) 0 (aw ns x).length,cG):=wA hk hl 0 (aw ns x).length (by omega) (by omega)
 have a6:Evt fun n=>1≤(aw ns x).length→aV (S.tab n) (ns,()) x 0 (i64.wrap (((aw ns x).length:Int) - 1))=some (EX (aw ns x) 0 ((aw ns x).length - 1),cG):=Evt.imp fun h=>by
  rw[hw h];exact wA hk hl 0 ((aw ns x).length - 1) (by omega) (by omega)
 have a7:Evt fun n=>(1≤x.2.2.2.2.2.1∧x.2.2.2.2.2.1≤((aw ns x).length:Int))→aV (S.tab n) (ns,()) x x.2.2.2.2.2.1 ((aw ns x).length:Int)=some (EX (aw ns x) (Int.toNat x.2.2.2.2.2.1) (aw ns x).length,cG):=by
  have aux:∀z:Int,Evt fun n=>(1≤z∧z≤((aw ns x).length:Int))→aV (S.tab n) (ns,()) x z ((aw ns x).length:Int)=some (EX (aw ns x) z.toNat (aw ns x).length,cG):=fun z=>Evt.imp fun⟨h1,h2⟩=>by
   obtain⟨m,rfl⟩:∃m:Nat,z=m:=⟨z.toNat,by omega⟩;exact wA hk hl m (aw ns x).length (by omega) (by omega)
  exact aux x.2.2.2.2.2.1
 have a8:=GZ hk;have a9:=FF (s:=x.2.2.2.2.2.2.1);have b1:=Ot (s:=x.2.2.2.2.2.2.1);have b2:=SQ hk hl;have b3:=QJ hk hl
 have b4:Evt fun n=>(1≤x.2.2.2.2.2.1∧x.2.2.2.2.2.1≤((aw ns x).length:Int))→cQ (S.tab n) (ns,()) x ((aw ns x).length:Int) 0=some (bif(bK (aw ns x) 0 (Int.toNat x.2.2.2.2.2.1)).all gC then Sum.inr (Sum.inl ((ns,()),x,((aw ns x).length:Int),()))else Sum.inl (false,())):=by
  have aux:∀z:Int,x.2.2.2.2.2.1=z→Evt fun n=>(1≤z∧z≤((aw ns x).length:Int))→cQ (S.tab n) (ns,()) x ((aw ns x).length:Int) 0=some (bif(bK (aw ns x) 0 z.toNat).all gC then Sum.inr (Sum.inl ((ns,()),x,((aw ns x).length:Int),()))else Sum.inl (false,())):=fun z hz=>Evt.imp fun⟨h1,h2⟩=>by
   obtain⟨m,rfl⟩:∃m:Nat,z=m:=⟨z.toNat,by omega⟩;exact LC hk hl m hz (by omega) _ m 0 (by omega)
  exact aux x.2.2.2.2.2.1 rfl
 refine((((a1.and a2).and (a3.and a4)).and ((a5.and a6).and (a7.and a8))).and (((a9.and b1).and (b2.and b3)).and b4)).mono fun n ⟨⟨⟨⟨a1,a2⟩,a3,a4⟩,⟨a5,a6⟩,a7,a8⟩,⟨⟨a9,b1⟩,b2,b3⟩,b4⟩=> ?_
 rw[←hlen]at b2 b3;exact⟨rfl,rfl,rfl,hlen.symm,a1,a2,a3,a4,a5,a6,fun h1 h2=>a7 ⟨h1,h2⟩,fun h=>a8 0 (by omega),fun h=>a8 1 (by omega),fun h=>a8 2 (by omega),fun h=>by rw[hw h];exact a8 _ (by omega),a9,b1,b2,b3,fun h1 h2=>b4 ⟨h1,h2⟩⟩
end Go.Abs.D
end

section
namespace Go.Abs.D
def KI (ks:LI)(names:List LI)(op num:Int)(text:LI)(kind:Int):Bool:=
 bif decide (kind=1)then ks.all cX&&PL false false false false (names.length:Int) op num text else
 bif decide (kind=2)then PL true false false false (names.length:Int) op num text&&(decide ((1:Int)≤(names.length:Int))&&EX ks 0 ks.length)else
 bif decide (kind=3)then PL true false false false (names.length:Int) op num text&&(decide ((names.length:Int)=1)&&(decide ((ks.length:Int)=1)&&EX ks 0 1))else
 bif decide (kind=4)then PL true false false false (names.length:Int) op num text&&(decide ((names.length:Int)=1)&&(decide ((ks.length:Int)=1)&&decide (ks.getD 0 0=36)))else
 bif decide (kind=5)then PL false false true false (names.length:Int) op num text&&(decide (1≤num)&&(decide (num<(ks.length:Int))&&((bK ks 0 num.toNat).all gC&&EX ks num.toNat ks.length)))else
 bif decide (kind=6)then(R50 ks (names.length:Int) op num text kind true).val else(R50 ks (names.length:Int) op num text kind (decide (kind=16))).val
def An2 (y:AnS)(b:Bool):Bool:=y.elim (fun y=>y.1) fun _=>b
def KS (t:Tr)(x:ae.den)(ks:LI)(names:List LI)(op num:Int)(text:LI)(kind:Int):Bool:=
 bif decide (kind=1)then ks.all cX&&PL false false false false (names.length:Int) op num text else
 bif decide (kind=2)then PL true false false false (names.length:Int) op num text&&(NM names 1 200&&EX ks 0 ks.length)else
 bif decide (kind=3)then PL true false false false (names.length:Int) op num text&&(NM names 1 1&&(decide ((ks.length:Int)=1)&&EX ks 0 1))else
 bif decide (kind=4)then PL true false false false (names.length:Int) op num text&&(NM names 1 1&&(decide ((ks.length:Int)=1)&&decide (ks.getD 0 0=36)))else
 bif decide (kind=5)then PL false false true false (names.length:Int) op num text&&(decide (1≤num)&&(decide (num<(ks.length:Int))&&((bK ks 0 num.toNat).all gC&&EX ks num.toNat ks.length)))else
 An2 (bif decide (kind=6)then Q28 t x ks names op num text kind true else Q28 t x ks names op num text kind (decide (kind=16))) (bif decide (kind=15)then PL false false false false (names.length:Int) op num text&&(decide ((ks.length:Int)=1)&&EX ks 0 1)else false)
def KE (t:Tr)(x:ae.den)(ks:LI)(names:List LI)(op num:Int)(text:LI)(kind:Int):Bool:=
 An2 (bif decide (kind=20)then Q7 t x ks names op num text kind true else bif decide (kind=21)then Q7 t x ks names op num text kind true else bif decide (kind=22)then Q7 t x ks names op num text kind true else Q7 t x ks names op num text kind (decide (kind=27)))
  (bif decide (kind=42)then decide ((ks.length:Int)=1)&&(EX ks 0 1&&(PL false false false true (names.length:Int) op num text&&gi 1 text))else false)
theorem MH {ks:LI}{nn op num:Int}{text:LI}{kind:Int}(h:kind<1∨42<kind∨(16<kind∧kind<20)∨(37<kind∧kind<40)):(R50 ks nn op num text kind (decide (kind=16))).val=false:=by
 have ne:∀c:Int,(1≤c∧c≤16)∨(20≤c∧c≤37)∨(40≤c∧c≤42)→decide (kind=c)=false:=fun c hc=>an6 (by omega)
 unfold R50;rw[ne 16 (by omega),ne 7 (by omega),ne 8 (by omega),ne 9 (by omega),ne 10 (by omega),ne 11 (by omega),ne 12 (by omega),ne 20 (by omega),ne 21 (by omega),ne 22 (by omega),ne 27 (by omega)];simp only[ao8];unfold R65;rw[ne 13 (by omega),ne 14 (by omega),ne 15 (by omega),ne 40 (by omega)];simp only[ao8];unfold R72;rw[ne 23 (by omega),ne 24 (by omega),ne 25 (by omega),ne 26 (by omega),ne 28 (by omega),ne 29 (by omega),ne 41 (by omega)];simp only[ao8];unfold R84;rw[ne 30 (by omega),ne 31 (by omega),ne 32 (by omega),ne 33 (by omega),ne 34 (by omega),ne 35 (by omega),ne 36 (by omega),ne 37 (by omega),ne 42 (by omega)];rfl
theorem J0 {t:Tr}{x:ae.den}{ks:LI}{names:List LI}{op num:Int}{text:LI}{kind:Int}(h:kind<1∨42<kind∨(16<kind∧kind<20)∨(37<kind∧kind<40)):KE t x ks names op num text kind=false:=by
 have ne:∀c:Int,(1≤c∧c≤16)∨(20≤c∧c≤37)∨(40≤c∧c≤42)→decide (kind=c)=false:=fun c hc=>an6 (by omega)
 unfold KE;rw[ne 20 (by omega),ne 21 (by omega),ne 22 (by omega),ne 27 (by omega),ne 42 (by omega)];simp only[ao8];unfold Q7;rw[ne 23 (by omega),ne 24 (by omega),ne 25 (by omega),ne 26 (by omega),ne 28 (by omega),ne 29 (by omega)];simp only[ao8];unfold Q18;rw[ne 30 (by omega),ne 31 (by omega),ne 32 (by omega),ne 33 (by omega),ne 34 (by omega),ne 35 (by omega),ne 36 (by omega),ne 37 (by omega),ne 40 (by omega),ne 41 (by omega)];rfl
theorem Q0 {α:Type}{l:List α}(h:l.length=1):∃a,l=[a]:=by
 match l,h with
 |[a],_=>exact⟨a,rfl⟩
theorem QP {α:Type}{l:List α}(h:l.length=2):∃a b,l=[a,b]:=by
 match l,h with
 |[a,b],_=>exact⟨a,b,rfl⟩
theorem Ta (a:Int):EX [a] 0 1=jf a:=by simp[EX,bK]
theorem Ti (a b:Int):EX [a,b] 0 2=(jf a&&jf b):=by simp[EX,bK]
theorem To (a:Int)(r:LI):EX (a::r) 0 (a::r).length=(jf a&&r.all jf):=by
 unfold EX bK;rw[List.take_length,List.drop_zero,List.all_cons]
theorem bs1 (ks:LI):(decide ((ks.length:Int)=1)&&BS ks)=(decide ((ks.length:Int)=1)&&(EX ks 0 1&& !decide (ks.getD 0 0=27))):=by
 by_cases h:ks.length=1
 ·obtain⟨a,rfl⟩:=Q0 h;rw[Ta];rfl
 ·rw[an6 (show¬ (ks.length:Int)=1 by omega)];rfl
theorem bs2 (ks:LI):(decide ((ks.length:Int)=2)&&(BS ks&&EX ks 0 2))=(decide ((ks.length:Int)=2)&&(EX ks 0 2&& !decide (ks.getD 0 0=27))):=by
 by_cases h:ks.length=2
 ·obtain⟨a,b,rfl⟩:=QP h;rw[Ti];show(true&&(true&&(jf a&& !decide (a=27))&&(jf a&&jf b)))=(true&&(jf a&&jf b&& !decide (a=27)));cases jf a<;>cases jf b<;>cases decide (a=27)<;>rfl
 ·rw[an6 (show¬ (ks.length:Int)=2 by omega)];rfl
theorem bsn (ks:LI):(BS ks&&EX ks 0 ks.length)=(decide ((1:Int)≤(ks.length:Int))&&(EX ks 0 ks.length&& !decide (ks.getD 0 0=27))):=by
 cases ks with
 |nil=>rfl
 |cons a r=>
  rw[To,an8 (show(1:Int)≤((a::r).length:Int)by simp;omega)];show(true&&(jf a&& !decide (a=27))&&(jf a&&r.all jf))=(true&&(jf a&&r.all jf&& !decide (a=27)));cases jf a<;>cases r.all jf<;>cases decide (a=27)<;>rfl
theorem n23 (n:Int)(h0:0≤n)(Z:Bool):(!decide (n<2)&&(!decide ((3:Int)<n)&&Z))=((decide (n=2)||decide (n=3))&&Z):=by
 by_cases h2:n=2
 ·subst h2;rfl
 by_cases h3:n=3
 ·subst h3;rfl
 rw[an6 h2,an6 h3]
 by_cases h:n<2
 ·rw[an8 h];rfl
 ·rw[an8 (show(3:Int)<n by omega)];simp
theorem un (names:List LI)(b c d:Bool)(op num:Int)(text:LI)(Z:Bool):
  (decide ((names.length:Int)≤200)&&(names.all (gi 1)&&(PL false b c d (names.length:Int) op num text&&Z)))=(PL false b c d (names.length:Int) op num text&&Z):=by
 cases names with
 |nil=>rfl
 |cons m r=>
  have:PL false b c d ((m::r).length:Int) op num text=false:=by
   unfold PL;rw[an6 (show¬ ((m::r).length:Int)=0 by simp;omega)];rfl
  rw[this];simp
theorem un2 (names:List LI)(b c d:Bool)(op num:Int)(text:LI)(Z:Bool):
  (decide ((names.length:Int)≤200)&&(names.all (gi 1)&&(Z&&PL false b c d (names.length:Int) op num text)))=(Z&&PL false b c d (names.length:Int) op num text):=by
 rw[Bool.and_comm Z,un]
theorem nm1 (names:List LI)(p Z:Bool):(decide ((names.length:Int)≤200)&&(names.all (gi 1)&&(p&&(decide ((names.length:Int)=1)&&Z))))=(p&&(NM names 1 1&&Z)):=by
 unfold NM
 by_cases h:(names.length:Int)=1
 ·rw[h];show(true&&(names.all (gi 1)&&(p&&(true&&Z))))=(p&&((true&&(true&&names.all (gi 1)))&&Z));cases names.all (gi 1)<;>cases p<;>rfl
 ·rw[an6 h]
  have:(decide ((1:Int)≤(names.length:Int))&&(decide ((names.length:Int)≤1)&&names.all (gi 1)))=false:=by
   by_cases h1:(1:Int)≤(names.length:Int)
   ·rw[an6 (show¬ (names.length:Int)≤1 by omega)];simp
   ·rw[an6 h1];rfl
  rw[this];simp
theorem nm2 (names:List LI)(p Z:Bool):(decide ((names.length:Int)≤200)&&(names.all (gi 1)&&(p&&((decide ((names.length:Int)=1)||decide ((names.length:Int)=2))&&Z))))=(p&&(NM names 1 2&&Z)):=by
 unfold NM
 by_cases h:(names.length:Int)=1
 ·rw[h];show(true&&(names.all (gi 1)&&(p&&(true&&Z))))=(p&&((true&&(true&&names.all (gi 1)))&&Z));cases names.all (gi 1)<;>cases p<;>rfl
 by_cases h':(names.length:Int)=2
 ·rw[h'];show(true&&(names.all (gi 1)&&(p&&(true&&Z))))=(p&&((true&&(true&&names.all (gi 1)))&&Z));cases names.all (gi 1)<;>cases p<;>rfl
 ·rw[an6 h,an6 h']
  have:(decide ((1:Int)≤(names.length:Int))&&(decide ((names.length:Int)≤2)&&names.all (gi 1)))=false:=by
   by_cases h1:(1:Int)≤(names.length:Int)
   ·rw[an6 (show¬ (names.length:Int)≤2 by omega)];simp
   ·rw[an6 h1];rfl
  rw[this];simp
theorem nmn (names:List LI)(p Z:Bool):(decide ((names.length:Int)≤200)&&(names.all (gi 1)&&(p&&(decide ((1:Int)≤(names.length:Int))&&Z))))=(p&&(NM names 1 200&&Z)):=by
 unfold NM
 generalize decide ((names.length:Int)≤200)=a
 generalize names.all (gi 1)=b
 generalize decide ((1:Int)≤(names.length:Int))=c
 cases a<;>cases b<;>cases c<;>cases p<;>rfl
theorem nm0 (names:List LI):NM names 0 200=(decide ((names.length:Int)≤200)&&names.all (gi 1)):=by
 unfold NM;rw[an8 (show(0:Int)≤(names.length:Int)by omega)];rfl
theorem XX (op:Int):(decide ((0:Int)≤op)&&decide (op≤1))=(decide (op=0)||decide (op=1)):=by
 by_cases h0:op=0
 ·subst h0;rfl
 by_cases h1:op=1
 ·subst h1;rfl
 rw[an6 h0,an6 h1]
 by_cases h:(0:Int)≤op
 ·rw[an6 (show¬ op≤1 by omega)];simp
 ·rw[an6 h];rfl
theorem alike (t:Tr)(x:ae.den)(ks:LI)(names:List LI)(op num:Int)(text:LI)(kind:Int):
  (decide ((names.length:Int)≤200)&&(names.all (gi 1)&&KI ks names op num text kind))=bif cX kind then KS t x ks names op num text kind else KE t x ks names op num text kind:=by
 by_cases ho:kind<1∨42<kind∨(16<kind∧kind<20)∨(37<kind∧kind<40)
 ·have hs:cX kind=false:=by
   unfold cX;rw[as6,ao5,ao5];omega
  have ne:∀c:Int,(1≤c∧c≤16)→decide (kind=c)=false:=fun c hc=>an6 (by omega)
  rw[hs,ao8,J0 ho];unfold KI;rw[ne 1 (by omega),ne 2 (by omega),ne 3 (by omega),ne 4 (by omega),ne 5 (by omega),ne 6 (by omega)];simp only[ao8];rw[MH ho,ao7,ao7]
 have hk:kind=1∨kind=2∨kind=3∨kind=4∨kind=5∨kind=6∨kind=7∨kind=8∨kind=9∨kind=10∨kind=11∨kind=12∨kind=13∨kind=14∨kind=15∨kind=16∨kind=20∨kind=21∨kind=22∨kind=23∨kind=24∨kind=25∨kind=26∨kind=27∨kind=28∨kind=29∨kind=30∨kind=31∨kind=32∨kind=33∨kind=34∨kind=35∨kind=36∨kind=37∨kind=40∨kind=41∨kind=42:=(by omega);clear ho
 rcases hk with rfl|rfl|rfl|rfl|rfl|rfl|rfl|rfl|rfl|rfl|rfl|rfl|rfl|rfl|rfl|rfl|rfl|rfl|rfl|rfl|rfl|rfl|rfl|rfl|rfl|rfl|rfl|rfl|rfl|rfl|rfl|rfl|rfl|rfl|rfl|rfl|rfl
 ·simp only[KI,KS,KE,cX,R50,R65,R72,R84,Q28,Q41,Q7,Q18,An.val,An2,Int.reduceEq,Int.reduceLE,decide_true,decide_false,ap3,ao8,aq0,aq9,aq1,ap1,ao6,ao7,ao9,ap4,ap5,ap2,ap0];rw[un2]
 ·simp only[KI,KS,KE,cX,R50,R65,R72,R84,Q28,Q41,Q7,Q18,An.val,An2,Int.reduceEq,Int.reduceLE,decide_true,decide_false,ap3,ao8,aq0,aq9,aq1,ap1,ao6,ao7,ao9,ap4,ap5,ap2,ap0];rw[nmn]
 ·simp only[KI,KS,KE,cX,R50,R65,R72,R84,Q28,Q41,Q7,Q18,An.val,An2,Int.reduceEq,Int.reduceLE,decide_true,decide_false,ap3,ao8,aq0,aq9,aq1,ap1,ao6,ao7,ao9,ap4,ap5,ap2,ap0];rw[nm1]
 ·simp only[KI,KS,KE,cX,R50,R65,R72,R84,Q28,Q41,Q7,Q18,An.val,An2,Int.reduceEq,Int.reduceLE,decide_true,decide_false,ap3,ao8,aq0,aq9,aq1,ap1,ao6,ao7,ao9,ap4,ap5,ap2,ap0];rw[nm1]
 ·simp only[KI,KS,KE,cX,R50,R65,R72,R84,Q28,Q41,Q7,Q18,An.val,An2,Int.reduceEq,Int.reduceLE,decide_true,decide_false,ap3,ao8,aq0,aq9,aq1,ap1,ao6,ao7,ao9,ap4,ap5,ap2,ap0];rw[un]
 ·simp only[KI,KS,KE,cX,R50,R65,R72,R84,Q28,Q41,Q7,Q18,An.val,An2,Int.reduceEq,Int.reduceLE,decide_true,decide_false,ap3,ao8,aq0,aq9,aq1,ap1,ao6,ao7,ao9,ap4,ap5,ap2,ap0];rw[un]
 ·simp only[KI,KS,KE,cX,R50,R65,R72,R84,Q28,Q41,Q7,Q18,An.val,An2,Int.reduceEq,Int.reduceLE,decide_true,decide_false,ap3,ao8,aq0,aq9,aq1,ap1,ao6,ao7,ao9,ap4,ap5,ap2,ap0];rw[un];rw[n23 _ (by omega)]
 ·simp only[KI,KS,KE,cX,R50,R65,R72,R84,Q28,Q41,Q7,Q18,An.val,An2,Int.reduceEq,Int.reduceLE,decide_true,decide_false,ap3,ao8,aq0,aq9,aq1,ap1,ao6,ao7,ao9,ap4,ap5,ap2,ap0];rw[un]
 ·simp only[KI,KS,KE,cX,R50,R65,R72,R84,Q28,Q41,Q7,Q18,An.val,An2,Int.reduceEq,Int.reduceLE,decide_true,decide_false,ap3,ao8,aq0,aq9,aq1,ap1,ao6,ao7,ao9,ap4,ap5,ap2,ap0];rw[nm1]
 ·simp only[KI,KS,KE,cX,R50,R65,R72,R84,Q28,Q41,Q7,Q18,An.val,An2,Int.reduceEq,Int.reduceLE,decide_true,decide_false,ap3,ao8,aq0,aq9,aq1,ap1,ao6,ao7,ao9,ap4,ap5,ap2,ap0];rw[nmn]
 ·simp only[KI,KS,KE,cX,R50,R65,R72,R84,Q28,Q41,Q7,Q18,An.val,An2,Int.reduceEq,Int.reduceLE,decide_true,decide_false,ap3,ao8,aq0,aq9,aq1,ap1,ao6,ao7,ao9,ap4,ap5,ap2,ap0];rw[un]
 ·simp only[KI,KS,KE,cX,R50,R65,R72,R84,Q28,Q41,Q7,Q18,An.val,An2,Int.reduceEq,Int.reduceLE,decide_true,decide_false,ap3,ao8,aq0,aq9,aq1,ap1,ao6,ao7,ao9,ap4,ap5,ap2,ap0];rw[un]
 ·simp only[KI,KS,KE,cX,R50,R65,R72,R84,Q28,Q41,Q7,Q18,An.val,An2,Int.reduceEq,Int.reduceLE,decide_true,decide_false,ap3,ao8,aq0,aq9,aq1,ap1,ao6,ao7,ao9,ap4,ap5,ap2,ap0];rw[un]
 ·simp only[KI,KS,KE,cX,R50,R65,R72,R84,Q28,Q41,Q7,Q18,An.val,An2,Int.reduceEq,Int.reduceLE,decide_true,decide_false,ap3,ao8,aq0,aq9,aq1,ap1,ao6,ao7,ao9,ap4,ap5,ap2,ap0];rw[nm2]
 ·simp only[KI,KS,KE,cX,R50,R65,R72,R84,Q28,Q41,Q7,Q18,An.val,An2,Int.reduceEq,Int.reduceLE,decide_true,decide_false,ap3,ao8,aq0,aq9,aq1,ap1,ao6,ao7,ao9,ap4,ap5,ap2,ap0];rw[un]
 ·simp only[KI,KS,KE,cX,R50,R65,R72,R84,Q28,Q41,Q7,Q18,An.val,An2,Int.reduceEq,Int.reduceLE,decide_true,decide_false,ap3,ao8,aq0,aq9,aq1,ap1,ao6,ao7,ao9,ap4,ap5,ap2,ap0];rw[un]
 ·simp only[KI,KS,KE,cX,R50,R65,R72,R84,Q28,Q41,Q7,Q18,An.val,An2,Int.reduceEq,Int.reduceLE,decide_true,decide_false,ap3,ao8,aq0,aq9,aq1,ap1,ao6,ao7,ao9,ap4,ap5,ap2,ap0];rw[un]
  ac_rfl
 ·simp only[KI,KS,KE,cX,R50,R65,R72,R84,Q28,Q41,Q7,Q18,An.val,An2,Int.reduceEq,Int.reduceLE,decide_true,decide_false,ap3,ao8,aq0,aq9,aq1,ap1,ao6,ao7,ao9,ap4,ap5,ap2,ap0];rw[un]
  ac_rfl
 ·simp only[KI,KS,KE,cX,R50,R65,R72,R84,Q28,Q41,Q7,Q18,An.val,An2,Int.reduceEq,Int.reduceLE,decide_true,decide_false,ap3,ao8,aq0,aq9,aq1,ap1,ao6,ao7,ao9,ap4,ap5,ap2,ap0];rw[un]
  ac_rfl
 ·simp only[KI,KS,KE,cX,R50,R65,R72,R84,Q28,Q41,Q7,Q18,An.val,An2,Int.reduceEq,Int.reduceLE,decide_true,decide_false,ap3,ao8,aq0,aq9,aq1,ap1,ao6,ao7,ao9,ap4,ap5,ap2,ap0];rw[un]
  ac_rfl
 ·simp only[KI,KS,KE,cX,R50,R65,R72,R84,Q28,Q41,Q7,Q18,An.val,An2,Int.reduceEq,Int.reduceLE,decide_true,decide_false,ap3,ao8,aq0,aq9,aq1,ap1,ao6,ao7,ao9,ap4,ap5,ap2,ap0];rw[un]
  ac_rfl
 ·simp only[KI,KS,KE,cX,R50,R65,R72,R84,Q28,Q41,Q7,Q18,An.val,An2,Int.reduceEq,Int.reduceLE,decide_true,decide_false,ap3,ao8,aq0,aq9,aq1,ap1,ao6,ao7,ao9,ap4,ap5,ap2,ap0];rw[un]
  ac_rfl
 ·simp only[KI,KS,KE,cX,R50,R65,R72,R84,Q28,Q41,Q7,Q18,An.val,An2,Int.reduceEq,Int.reduceLE,decide_true,decide_false,ap3,ao8,aq0,aq9,aq1,ap1,ao6,ao7,ao9,ap4,ap5,ap2,ap0];rw[un]
  ac_rfl
 ·simp only[KI,KS,KE,cX,R50,R65,R72,R84,Q28,Q41,Q7,Q18,An.val,An2,Int.reduceEq,Int.reduceLE,decide_true,decide_false,ap3,ao8,aq0,aq9,aq1,ap1,ao6,ao7,ao9,ap4,ap5,ap2,ap0];rw[un]
  ac_rfl
 ·simp only[KI,KS,KE,cX,R50,R65,R72,R84,Q28,Q41,Q7,Q18,An.val,An2,Int.reduceEq,Int.reduceLE,decide_true,decide_false,ap3,ao8,aq0,aq9,aq1,ap1,ao6,ao7,ao9,ap4,ap5,ap2,ap0];rw[un]
  ac_rfl
 ·simp only[KI,KS,KE,cX,R50,R65,R72,R84,Q28,Q41,Q7,Q18,An.val,An2,Int.reduceEq,Int.reduceLE,decide_true,decide_false,ap3,ao8,aq0,aq9,aq1,ap1,ao6,ao7,ao9,ap4,ap5,ap2,ap0];rw[un]
  ac_rfl
 ·simp only[KI,KS,KE,cX,R50,R65,R72,R84,Q28,Q41,Q7,Q18,An.val,An2,Int.reduceEq,Int.reduceLE,decide_true,decide_false,ap3,ao8,aq0,aq9,aq1,ap1,ao6,ao7,ao9,ap4,ap5,ap2,ap0];rw[un]
  ac_rfl
 ·simp only[KI,KS,KE,cX,R50,R65,R72,R84,Q28,Q41,Q7,Q18,An.val,An2,Int.reduceEq,Int.reduceLE,decide_true,decide_false,ap3,ao8,aq0,aq9,aq1,ap1,ao6,ao7,ao9,ap4,ap5,ap2,ap0];rw[un]
  ac_rfl
 ·simp only[KI,KS,KE,cX,R50,R65,R72,R84,Q28,Q41,Q7,Q18,An.val,An2,Int.reduceEq,Int.reduceLE,decide_true,decide_false,ap3,ao8,aq0,aq9,aq1,ap1,ao6,ao7,ao9,ap4,ap5,ap2,ap0];rw[un];rw[bs2]
  ac_rfl
 ·simp only[KI,KS,KE,cX,R50,R65,R72,R84,Q28,Q41,Q7,Q18,An.val,An2,Int.reduceEq,Int.reduceLE,decide_true,decide_false,ap3,ao8,aq0,aq9,aq1,ap1,ao6,ao7,ao9,ap4,ap5,ap2,ap0];rw[un];rw[←Bool.and_assoc (decide _) (BS ks),bs1]
  ac_rfl
 ·simp only[KI,KS,KE,cX,R50,R65,R72,R84,Q28,Q41,Q7,Q18,An.val,An2,Int.reduceEq,Int.reduceLE,decide_true,decide_false,ap3,ao8,aq0,aq9,aq1,ap1,ao6,ao7,ao9,ap4,ap5,ap2,ap0];rw[un];rw[bsn]
  ac_rfl
 ·simp only[KI,KS,KE,cX,R50,R65,R72,R84,Q28,Q41,Q7,Q18,An.val,An2,Int.reduceEq,Int.reduceLE,decide_true,decide_false,ap3,ao8,aq0,aq9,aq1,ap1,ao6,ao7,ao9,ap4,ap5,ap2,ap0];rw[un2]
 ·simp only[KI,KS,KE,cX,R50,R65,R72,R84,Q28,Q41,Q7,Q18,An.val,An2,Int.reduceEq,Int.reduceLE,decide_true,decide_false,ap3,ao8,aq0,aq9,aq1,ap1,ao6,ao7,ao9,ap4,ap5,ap2,ap0];rw[nm0,XX]
  ac_rfl
 ·simp only[KI,KS,KE,cX,R50,R65,R72,R84,Q28,Q41,Q7,Q18,An.val,An2,Int.reduceEq,Int.reduceLE,decide_true,decide_false,ap3,ao8,aq0,aq9,aq1,ap1,ao6,ao7,ao9,ap4,ap5,ap2,ap0];rw[un]
  ac_rfl
 ·simp only[KI,KS,KE,cX,R50,R65,R72,R84,Q28,Q41,Q7,Q18,An.val,An2,Int.reduceEq,Int.reduceLE,decide_true,decide_false,ap3,ao8,aq0,aq9,aq1,ap1,ao6,ao7,ao9,ap4,ap5,ap2,ap0];rw[un]
  ac_rfl
 ·simp only[KI,KS,KE,cX,R50,R65,R72,R84,Q28,Q41,Q7,Q18,An.val,An2,Int.reduceEq,Int.reduceLE,decide_true,decide_false,ap3,ao8,aq0,aq9,aq1,ap1,ao6,ao7,ao9,ap4,ap5,ap2,ap0];rw[un]
  ac_rfl
 ·simp only[KI,KS,KE,cX,R50,R65,R72,R84,Q28,Q41,Q7,Q18,An.val,An2,Int.reduceEq,Int.reduceLE,decide_true,decide_false,ap3,ao8,aq0,aq9,aq1,ap1,ao6,ao7,ao9,ap4,ap5,ap2,ap0];rw[un]
  ac_rfl
end Go.Abs.D
end

section
namespace Go.Abs.D
theorem uF (l:List ae.den)(j:Nat)(h:j<l.length):at_ (τ:=ae) l (j:Int)=l[j]:=by
 show(l.getD (j:Int).toNat _)=_;rw[Int.toNat_natCast,ap9,ap8 h];rfl
def inR (i:Nat)(k:Int):Bool:=decide (0≤k)&&decide (k<(i:Int))
def okN (ns:List ae.den)(i:Nat)(x:ae.den):Bool:=
 bif decide (x.2.1<0)then false else
 bif decide (x.2.2.1<x.2.1)then false else
 bif decide (x.2.2.2.1<0)then false else
 bif decide (200<(ao x).length)then false else
 bif(ao x).all (inR i)then(bif cX x.1 then KS (ns,()) x (aw ns x) (aM x) x.2.2.2.2.1 x.2.2.2.2.2.1 x.2.2.2.2.2.2.1 x.1 else KE (ns,()) x (aw ns x) (aM x) x.2.2.2.2.1 x.2.2.2.2.2.1 x.2.2.2.2.2.2.1 x.1)else false
structure NodeOk (x:ae.den):Prop where
 text:∀c∈x.2.2.2.2.2.2.1,isByte c
 names:∀m∈aM x,∀c∈m,isByte c
 nn:(aM x).length≤2097152
 nk:(ao x).length≤2097152
theorem V4 {T:S.Tab}(ks:LI)(z:Int)(hl:ks.length≤200)(U0:1≤z→z≤ks.length→aT T z (ks.length:Int) ks=some (EX ks z.toNat ks.length,(),(),ks,()))
  (YU:1≤z→z≤ks.length→cC T ks z (ks.length:Int) (sub ks 0 z) ((sub ks 0 z).length:Int) 0=some (bif(bK ks 0 z.toNat).all gC then Sum.inr (Sum.inl (ks,z,(ks.length:Int),()))else Sum.inl (false,()))):
  brk (decide (z<1)) (some (false,ax)) (brk (decide (i64.wrap ((ks.length:Int) - 1)<z)) (some (false,ax)) (brk (bounds ks.length 0 z) ((cC T ks z (ks.length:Int) (sub ks 0 z) ((sub ks 0 z).length:Int) 0).bind (bw (fun Qd=>some (Qd.1,ax)) (fun Qd=>(aT T Qd.2.1 Qd.2.2.1 Qd.1).bind fun d204=>some (d204.1,ax)))) none))=
   some (true&&(decide (1≤z)&&(decide (z<(ks.length:Int))&&((bK ks 0 z.toNat).all gC&&EX ks z.toNat ks.length))),ax):=by
 have wk:i64.wrap ((ks.length:Int) - 1)=(ks.length:Int) - 1:=wrap64 _ (by omega) (by omega);rw[wk,ao6]
 by_cases h1:1≤z
 ·rw[aH (by omega),an8 h1]
  by_cases h2:z<(ks.length:Int)
  ·have hb:bounds ks.length 0 z=true:=by
    unfold bounds;rw[an8 (show(0:Int)≤0 by omega),an8 (show(0:Int)≤z by omega),an8 (show z≤(ks.length:Int)by omega)];rfl
   rw[aH (by omega),an8 h2,ad hb,YU h1 (by omega)]
   cases(bK ks 0 z.toNat).all gC with
   |true=>
    simp only[ap3,an7,bw,aq9,aq0];rw[U0 h1 (by omega)];rfl
   |false=>rfl
  ·rw[aL (by omega),an6 h2];rfl
 ·rw[aL (by omega),an6 h1];rfl
variable{ns:List ae.den}{i:Nat}{x:ae.den}(hx:NodeOk x)(hi:i<ns.length)(hn:ns.length≤3000)
include hi hn
theorem Ox (hl:(ao x).length≤200):∀(k j:Nat),j+k=(ao x).length→Evt fun n=>kh (S.tab n) ↑i (ns,()) x ((aw ns x).take j) (ao x) ((ao x).length:Int) (j:Int)=some (bif((ao x).drop j).all (inR i)then Sum.inr (Sum.inl (x,aw ns x,()))else Sum.inl (false,()))
 |0,j,h=>aD.up fun n _=>by
  have:j=(ao x).length:=(by omega);subst this;rw[r7,az (by simp),List.drop_length]
  have:(aw ns x).take (ao x).length=aw ns x:=by
   rw[List.take_of_length_le];unfold aw;rw[List.length_map];exact aq2 _
  rw[this];rfl
 |k+1,j,h=>by
  have hj:j<(ao x).length:=(by omega)
  have WM:j<(aw ns x).length:=by unfold aw;rw[List.length_map];exact hj
  refine((Ox hl k (j+1) (by omega)).and FU).up fun n ⟨ih,kY⟩=> ?_
  have wi:i64.wrap ((i:Int) - 1)=(i:Int) - 1:=wrap64 _ (by omega) (by omega);rw[r7,aL (by omega),ad (al hj),sY hj,wi,kY,an7,List.drop_eq_getElem_cons hj,List.all_cons,bD (by omega)]
  have e:(decide ((0:Int)≤(ao x)[j])&&decide ((ao x)[j]≤(i:Int) - 1))=inR i (ao x)[j]:=by
   unfold inR
   congr 1
   by_cases h:(ao x)[j]<(i:Int)
   ·rw[an8 h,an8 (by omega)]
   ·rw[an6 h,an6 (by omega)]
  rw[e]
  cases hr:inR i (ao x)[j]with
  |false=>rw[ad (by rfl)];rfl
  |true=>
   unfold inR at hr;rw[ao3,ao1,ao1]at hr
   have e2:(aw ns x).take (j+1)=(aw ns x).take j++[jo ns (ao x)[j]]:=by
    have hm:(aw ns x)[j]=jo ns (ao x)[j]:=List.getElem_map ..;rw[List.take_add_one,ap8 WM,hm];rfl
   have ef:fits (((aw ns x).take j).length+([(at_ (τ:=ae) (ns,()).1 (ao x)[j]).1]:LI).length)=true:=dY (by
    unfold lim
    rw[ar2,List.length_singleton];omega)
   rw[az (by rfl),ad (by
    show(decide ((0:Int)≤(ao x)[j])&&decide ((ao x)[j]<(ns.length:Int)))=true
    rw[an8 hr.1,an8 (by omega)];rfl),ad ef]
   rw[e2]at ih;exact ih
omit hi hn in
theorem QS (hx:NodeOk x)(ks:LI):Evt fun n=>dh (S.tab n) x ks (aM x) ((aM x).length:Int) 0=some (bif(aM x).all (gi 1)then Sum.inr (Sum.inl (x,ks,()))else Sum.inl (false,())):=by
 have hg:∀(l:List LI),(∀m∈l,∀c∈m,isByte c)→Evt fun n=>∀m∈l,gV (S.tab n) m=some (gi 1 m,aa):=by
  intro l
  induction l with
  |nil=>intro _;exact Evt.of fun _ m h=>by cases h
  |cons a l ih=>
   intro h
   refine((Bt (s:=a) (h a (ap7 ..))).and (ih fun m hm=>h m (ap6 _ hm))).mono fun n ⟨h1,h2⟩ m hm=> ?_
   rcases ar5.1 hm with rfl|hm
   ·exact h1
   ·exact h2 m hm
 have aa4:=hx.nn
 have:=A5 (F:=fun T j=>dh T x ks (aM x) ((aM x).length:Int) ↑j) (P:=gi 1) (l:=aM x) (yes:=Sum.inr (Sum.inl (x,ks,()))) (no:=Sum.inl (false,())) (q:=fun T=>∀m∈aM x,gV T m=some (gi 1 m,aa)) (hg _ hx.names)
  (fun T j h hT=>by
   show dh (S.step T) _ _ _ _ _=bif _ then dh T x ks (aM x) ((aM x).length:Int) ((j+1:Nat):Int)else _
   rw[qY,aL (by omega),ad (al h),La h,hT _ (as4 h),an7,bD (by omega)]
   cases gi 1 (aM x)[j]with
   |true=>rw[az (by rfl)];rfl
   |false=>rw[ad (by rfl)];rfl)
  (fun T hT=>by
   show dh (S.step T) _ _ _ _ _=_
   rw[qY,az (by simp)]) (aM x).length 0 (by omega)
 rw[List.drop_zero]at this;exact this
omit hi hn in
theorem QT (hl:(ao x).length≤200):Evt fun n=>dK (S.tab n) ↑i (ns,()) x (ao x) ((ao x).length:Int) 0=some (bif(ao x).all (inR i)then Sum.inr (Sum.inl ((ns,()),x,()))else Sum.inl (false,())):=by
 have:=A5 (F:=fun T j=>dK T ↑i (ns,()) x (ao x) ((ao x).length:Int) ↑j) (P:=inR i) (l:=ao x) (yes:=Sum.inr (Sum.inl ((ns,()),x,()))) (no:=Sum.inl (false,())) (q:=Base2) aD
  (fun T j h hT=>by
   show dK (S.step T) _ _ _ _ _ _=bif _ then dK T ↑i (ns,()) x (ao x) ((ao x).length:Int) ((j+1:Nat):Int)else _
   rw[qe,aL (by omega),ad (al h),sY h,bD (by omega)];unfold inR
   by_cases h1:(0:Int)≤(ao x)[j]
   ·rw[aH (by omega),an8 h1]
    by_cases h2:(ao x)[j]<(i:Int)
    ·rw[aH (by omega),an8 h2];rfl
    ·rw[aL (by omega),an6 h2];rfl
   ·rw[aL (by omega),an6 h1];rfl)
  (fun T hT=>by
   show dK (S.step T) _ _ _ _ _ _=_
   rw[qe,az (by simp)]) (ao x).length 0 (by omega)
 rw[List.drop_zero]at this;exact this
include hx
theorem CK (YL:ns[i]=x):Evt fun n=>jK (S.tab n) (ns,()) (i:Int)=some (okN ns i x,ax):=by
 have F0:at_ (τ:=ae) ns (i:Int)=x:=by rw[uF _ _ hi];exact YL
 have Zg:at_ (τ:=ae) ((ns,()):Tr).1 (i:Int)=x:=F0
 have start:∀n,jK (S.step (S.tab n)) (ns,()) (i:Int)=_:=fun n=>by
  rw[C8,ad (al hi),Zg]
 unfold okN
 by_cases c1:x.2.1<0
 ·refine aD.up fun n _=> ?_
  rw[start,aL c1,an8 c1];rfl
 by_cases c2:x.2.2.1<x.2.1
 ·refine aD.up fun n _=> ?_
  rw[start,aH c1,aL c2,an6 c1,an8 c2];rfl
 by_cases c3:x.2.2.2.1<0
 ·refine aD.up fun n _=> ?_
  rw[start,aH c1,aH c2,aL c3,an6 c1,an6 c2,an8 c3];rfl
 rw[an6 c1,an6 c2,an6 c3]
 by_cases c4:200<(ao x).length
 ·refine aD.up fun n _=> ?_
  have d4:decide ((200:Int)<(x.2.2.2.2.2.2.2.2.1.length:Int))=true:=an8 (by unfold ao at c4;omega);rw[start,aH c1,aH c2,aH c3,ad d4,an8 c4];rfl
 have d4:decide ((200:Int)<(x.2.2.2.2.2.2.2.2.1.length:Int))=false:=an6 (by unfold ao at c4;omega);rw[an6 c4];simp only[ao8];have hl:(ao x).length≤200:=(by omega)
 have Fs:(aw ns x).length≤200:=by unfold aw;rw[List.length_map];exact hl
 rw[←alike]
 by_cases c5:¬ ((aM x).length:Int)≤200
 ·have d5:decide ((200:Int)<(x.2.2.2.2.2.2.2.1.length:Int))=true:=an8 (by unfold aM at c5;omega)
  refine aD.up fun n _=> ?_
  rw[start,aH c1,aH c2,aH c3,az d4,ad d5,an6 c5];cases(ao x).all (inR i)<;>rfl
 replace c5:=Decidable.not_not.1 c5
 have d5:decide ((200:Int)<(x.2.2.2.2.2.2.2.1.length:Int))=false:=an6 (by unfold aM at c5;omega);rw[an8 c5,ao6];have h6:=Ox hi hn hl (ao x).length 0 (by omega);rw[List.drop_zero]at h6
 have step2:∀n,jK (S.step (S.tab n)) (ns,()) (i:Int)=_:=fun n=>by
  rw[start,aH c1,aH c2,aH c3,az d4,az d5]
 cases hr:(ao x).all (inR i)with
 |false=>
  rw[hr]at h6
  refine h6.up fun n h=> ?_
  have h:kh (S.tab n) ↑i (ns,()) x [] x.2.2.2.2.2.2.2.2.1 (x.2.2.2.2.2.2.2.2.1.length:Int) 0=_:=h;rw[step2,h];rfl
 |true=>
  rw[hr]at h6;have F2:=QS hx (aw ns x);have Wv:=VU (aw ns x) Fs ((aM x).length:Int) x.2.2.2.2.1 x.2.2.2.2.2.1 x.2.2.2.2.2.2.1 hx.text
  have u6:∀n,kh (S.tab n) ↑i (ns,()) x [] x.2.2.2.2.2.2.2.2.1 (x.2.2.2.2.2.2.2.2.1.length:Int) 0=some (Sum.inr (Sum.inl (x,aw ns x,())))→jK (S.step (S.tab n)) (ns,()) (i:Int)=_:=fun n h=>by
   rw[step2,h,an7]
  cases ZW:(aM x).all (gi 1)with
  |false=>
   rw[ZW]at F2
   refine(h6.and F2).up fun n ⟨h,F2⟩=> ?_
   have F2:dh (S.tab n) x (aw ns x) x.2.2.2.2.2.2.2.1 (x.2.2.2.2.2.2.2.1.length:Int) 0=_:=F2;rw[u6 n h];show(dh (S.tab n) x (aw ns x) x.2.2.2.2.2.2.2.1 (x.2.2.2.2.2.2.2.1.length:Int) 0).bind _=_;rw[F2];rfl
  |true=>
   rw[ZW]at F2
   have Xg:Evt fun n=>∀fl,iF (S.tab n) (aw ns x) ((aM x).length:Int) x.2.2.2.2.1 x.2.2.2.2.2.1 x.2.2.2.2.2.2.1 ((aw ns x).length:Int) x.1 fl=some (R84 (aw ns x) ((aM x).length:Int) x.2.2.2.2.1 x.2.2.2.2.2.1 x.2.2.2.2.2.2.1 x.1 fl):=Wv.up fun n h fl=>r84 h Fs x.1 fl
   have XN:Evt fun n=>∀fl,jz (S.tab n) (aw ns x) ((aM x).length:Int) x.2.2.2.2.1 x.2.2.2.2.2.1 x.2.2.2.2.2.2.1 ((aw ns x).length:Int) x.1 fl=some (R72 (aw ns x) ((aM x).length:Int) x.2.2.2.2.1 x.2.2.2.2.2.1 x.2.2.2.2.2.2.1 x.1 fl):=(Wv.and Xg).up fun n ⟨h,h'⟩ fl=>r72 h Fs x.1 h' fl
   have SC:Evt fun n=>∀fl,eM (S.tab n) (aw ns x) ((aM x).length:Int) x.2.2.2.2.1 x.2.2.2.2.2.1 x.2.2.2.2.2.2.1 ((aw ns x).length:Int) x.1 fl=some (R65 (aw ns x) ((aM x).length:Int) x.2.2.2.2.1 x.2.2.2.2.2.1 x.2.2.2.2.2.2.1 x.1 fl):=(Wv.and XN).up fun n ⟨h,h'⟩ fl=>r65 h Fs x.1 h' fl
   have XH:Evt fun n=>∀fl,kQ (S.tab n) (aw ns x) ((aM x).length:Int) x.2.2.2.2.1 x.2.2.2.2.2.1 x.2.2.2.2.2.2.1 ((aw ns x).length:Int) x.1 fl=some (R50 (aw ns x) ((aM x).length:Int) x.2.2.2.2.1 x.2.2.2.2.2.1 x.2.2.2.2.2.2.1 x.1 fl):=(Wv.and SC).up fun n ⟨h,h'⟩ fl=>r50 h Fs x.1 h' fl
   refine((h6.and F2).and (Wv.and XH)).up fun n ⟨⟨h,F2⟩,hI,XH⟩=> ?_
   have F2:dh (S.tab n) x (aw ns x) x.2.2.2.2.2.2.2.1 (x.2.2.2.2.2.2.2.1.length:Int) 0=_:=F2;rw[u6 n h];show(dh (S.tab n) x (aw ns x) x.2.2.2.2.2.2.2.1 (x.2.2.2.2.2.2.2.1.length:Int) 0).bind _=_;rw[F2];simp only[ap3,an7,bw,aq9,aq0];have aa4:(x.2.2.2.2.2.2.2.1.length:Int)=((aM x).length:Int):=rfl;rw[aa4];unfold KI
   by_cases k1:x.1=1
   ·rw[aL k1,an8 k1,ap3,hI.l26]
    cases(aw ns x).all cX with
    |true=>simp only[ap3,an7,bw,aq9,aq0,hI.pl,ao6]
    |false=>rfl
   rw[aH k1,an6 k1,ao8]
   by_cases k2:x.1=2
   ·rw[aL k2,an8 k2,ap3,hI.pl,hI.ex0n];simp only[an7]
    cases PL true false false false ((aM x).length:Int) x.2.2.2.2.1 x.2.2.2.2.2.1 x.2.2.2.2.2.2.1 with
    |false=>rw[af];rfl
    |true=>
     rw[aj]
     cases decide ((1:Int)≤((aM x).length:Int))with
     |false=>rw[af];rfl
     |true=>rw[aj];rfl
   rw[aH k2,an6 k2,ao8]
   by_cases k3:x.1=3
   ·rw[aL k3,an8 k3,ap3,hI.pl];simp only[an7]
    cases PL true false false false ((aM x).length:Int) x.2.2.2.2.1 x.2.2.2.2.2.1 x.2.2.2.2.2.2.1 with
    |false=>rw[af];rfl
    |true=>
     rw[aj]
     cases decide (((aM x).length:Int)=1)with
     |false=>rw[af];rfl
     |true=>
      rw[aj]
      by_cases h1:(aw ns x).length=1
      ·rw[aL (by omega),hI.ex01 (by omega),an8 (show((aw ns x).length:Int)=1 by omega)];rfl
      ·rw[aH (by omega),an6 (show¬ ((aw ns x).length:Int)=1 by omega)];rfl
   rw[aH k3,an6 k3,ao8]
   by_cases k4:x.1=4
   ·rw[aL k4,an8 k4,ap3,hI.pl];simp only[an7]
    cases PL true false false false ((aM x).length:Int) x.2.2.2.2.1 x.2.2.2.2.2.1 x.2.2.2.2.2.2.1 with
    |false=>rw[af];rfl
    |true=>
     rw[aj]
     cases decide (((aM x).length:Int)=1)with
     |false=>rw[af];rfl
     |true=>
      rw[aj]
      by_cases h1:(aw ns x).length=1
      ·rw[aL (by omega),aL (by omega),an8 (show((aw ns x).length:Int)=1 by omega)];rfl
      ·rw[aH (by omega),an6 (show¬ ((aw ns x).length:Int)=1 by omega)];rfl
   rw[aH k4,an6 k4,ao8]
   by_cases k5:x.1=5
   ·rw[aL k5,an8 k5,ap3,hI.pl];simp only[an7]
    cases PL false false true false ((aM x).length:Int) x.2.2.2.2.1 x.2.2.2.2.2.1 x.2.2.2.2.2.2.1 with
    |false=>rw[ad (by rfl)];rfl
    |true=>
     rw[az (by rfl)];exact V4 (aw ns x) x.2.2.2.2.2.1 Fs hI.U0 hI.YU
   rw[aH k5,an6 k5,ao8]
   by_cases k6:x.1=6
   ·rw[aL k6,an8 k6,ap3,XH]
    cases hR:R50 (aw ns x) ((aM x).length:Int) x.2.2.2.2.1 x.2.2.2.2.2.1 x.2.2.2.2.2.2.1 x.1 true with
    |inl y=>rfl
    |inr y=>cases y with
     |inl y=>rfl
     |inr y=>exact y.elim
   ·rw[aH k6,an6 k6,ao8,XH]
    cases hR:R50 (aw ns x) ((aM x).length:Int) x.2.2.2.2.1 x.2.2.2.2.2.1 x.2.2.2.2.2.2.1 x.1 (decide (x.1=16))with
    |inl y=>rfl
    |inr y=>cases y with
     |inl y=>rfl
     |inr y=>exact y.elim
end Go.Abs.D
end

section
namespace Go.Abs.D
structure PW (out gI gS:List ak.den)(T:S.Tab):Prop where
 kI:∀(a:Nat) nd,a≤out.length→bM T (gI,(a:Int),nd,())=some (KA out a,(gI,(a:Int),nd,()),())
 tI:∀(a:Nat) nd,a<out.length→av T (gI,(a:Int),nd,())=some (tkA out a,(gI,((a+1:Nat):Int),nd,()),())
 eI:∀(a:Nat) nd k,a≤out.length→bP T (gI,(a:Int),nd,()) k=some (decide (KA out a=k),(gI,(((bif decide (KA out a=k)then a+1 else a):Nat):Int),nd,()),(),())
 cI:∀(a b:Nat) nd x,a<out.length→b<out.length→nd.length≤300000→ar T (gI,((a+1:Nat):Int),nd,()) (b:Int) x=some ((nd.length:Int),(gI,((a+1:Nat):Int),nd++[Hj out b (a+1) x],()),(),uN,())
 aI:∀(a:Int) nd x,nd.length≤300000→gJ T (gI,a,nd,()) x=some ((nd.length:Int),(gI,a,nd++[x],()),uN,())
 kS:∀(a:Nat) nd,a≤out.length→bX T (gS,(a:Int),nd,())=some (KA out a,(gS,(a:Int),nd,()),())
 tS:∀(a:Nat) nd,a<out.length→aO T (gS,(a:Int),nd,())=some (tkA out a,(gS,((a+1:Nat):Int),nd,()),())
 eS:∀(a:Nat) nd k,a≤out.length→gM T (gS,(a:Int),nd,()) k=some (decide (KA out a=k),(gS,(((bif decide (KA out a=k)then a+1 else a):Nat):Int),nd,()),(),())
 aS:∀(a:Nat) nd x,a<out.length→nd.length≤300000→aE T (gS,((a+1:Nat):Int),nd,()) x=some ((nd.length:Int),(gS,((a+1:Nat):Int),nd++[(x.1,x.2.1,(tkA out a).2.2.1,x.2.2.2)],()),uN,())
 nS:∀k t,bf T k t=some ((k,t.2.1,0,t.2.2.2.1,0,0,([]:LI),[],[],()),bY)
 uI:∀(x:Node) (a b:Nat) nd,a<out.length→b<out.length→nd.length≤300000→cF T x (gI,(a:Int),nd,()) (b:Int)=some ((nd.length:Int),uN,(gI,((a+1:Nat):Int),nd++[Hj out b (a+1) x],()),(b:Int),())
 pI:∀k:Int,bn T k=some (rN k,aa)
 pS:∀k:Int,bH T k=some (rN k,aa)
 bI:∀k:Int,du T k=some (je k,aa)
 bS:∀k:Int,cz T k=some (je k,aa)
 iS:∀k:Int,jH T k=some (KQ k,aa)
 sS:∀k:Int,qt T k=some (unK k,aa)
 wS:∀k:Int,k∈kinds→tV k=true→qm T k=some ((pw k,pr k,()),aa)
 wI:∀k:Int,k∈kinds→ur T k=some (bif tV k then pw k else 0,aa)
theorem s4 {out:List ak.den}{e:ak.den}{a:Nat}(h:a<out.length):tkA (out++[e]) a=tkA out a:=by
 unfold tkA at_;rw[Int.toNat_natCast,ap9,ap9,List.getElem?_append_left h]
theorem A1 {out:List ak.den}{e:ak.den}(he:e.1=6){a:Nat}(h:a≤out.length):(tkA (out++[e]) a).1=KA out a:=by
 unfold KA
 rcases Nat.lt_or_ge a out.length with hl|hl
 ·rw[s4 hl];unfold tkA at_;rw[Int.toNat_natCast,ap9,ap9,List.getElem?_map,ap8 hl];rfl
 ·have:a=out.length:=(by omega);subst this;unfold tkA at_;rw[Int.toNat_natCast,pG,he,ap9,List.getElem?_eq_none (by simp)];rfl
theorem VD {out:List ak.den}{eI eS:ak.den}(hI:eI.1=6)(hS:eS.1=6)(hL:out.length≤65536):Evt fun n=>PW out (out++[eI]) (out++[eS]) (S.tab n):=
 ((Sh (ts:=out++[eI]) (L:=out.length) (by simp) hL).and (Sh (ts:=out++[eS]) (L:=out.length) (by simp) hL)).mono fun n ⟨p,q⟩=>
  ⟨fun a nd h=>by rw[p.kI _ _ h,A1 hI h],fun a nd h=>by rw[p.tI _ _ h,s4 h],fun a nd k h=>by rw[p.eI _ _ _ h,A1 hI h],
   fun a b nd x h h2 h3=>by rw[p.cI _ _ _ _ h h2 h3];unfold Hj;rw[s4 h2,s4 (show a+1 - 1<_ by omega)],p.aI,
   fun a nd h=>by rw[q.kS _ _ h,A1 hS h],fun a nd h=>by rw[q.tS _ _ h,s4 h],fun a nd k h=>by rw[q.eS _ _ _ h,A1 hS h],
   fun a nd x h h2=>by rw[q.aS _ _ _ h h2,s4 h],q.nS,fun x a b nd h h2 h3=>by rw[p.uI _ _ _ _ h h2 h3];unfold Hj;rw[s4 h2,s4 (show a+1 - 1<_ by omega)],
   p.pI,q.pS,p.bI,q.bS,q.iS,q.sS,q.wS,p.wI⟩
noncomputable def W (nd:List Node):Nat:=open Classical in if∀x∈nd,NodeOk x then nd.length else nd.length+1000000
theorem hJ (nd:List Node):nd.length≤W nd:=by unfold W;split<;>omega
theorem XZ {nd:List Node}(h:W nd<1000000):∀x∈nd,NodeOk x:=by
 unfold W at h;split at h
 ·assumption
 ·omega
theorem iL {nd:List Node}{x:Node}(hx:NodeOk x):W (nd++[x])≤W nd+1:=by
 unfold W
 by_cases h:∀y∈nd,NodeOk y
 ·rw[as0 h,as0 fun y hy=>by
   rcases aq6.1 hy with hy|hy
   ·exact h y hy
   ·rw[List.mem_singleton.1 hy];exact hx]
  simp only[an9,ao0,ao2];omega
 ·rw[ar1 h];split<;>(simp only[an9,ao0,ao2];omega)
theorem nok {k f t l op num:Int}{text:LI}{names:List LI}{kids:LI}(h1:∀c∈text,isByte c)(h2:∀m∈names,∀c∈m,isByte c)(h3:names.length≤2097152)(h4:kids.length≤2097152):NodeOk (k,f,t,l,op,num,text,names,kids,()):=⟨h1,h2,h3,h4⟩
theorem vh {k f t l op num:Int}{kids:LI}(h4:kids.length≤2097152):NodeOk (k,f,t,l,op,num,[],[],kids,()):=nok (fun _ h=>nomatch h) (fun _ h=>nomatch h) (by simp) h4
theorem Ro {k f t l op num:Int}{text kids:LI}(h1:∀c∈text,isByte c)(h4:kids.length≤2097152):NodeOk (k,f,t,l,op,num,text,[],kids,()):=nok h1 (fun _ h=>nomatch h) (by simp) h4
theorem Rq {k f t l op num:Int}{names:List LI}{kids:LI}(h2:∀m∈names,∀c∈m,isByte c)(h3:names.length≤2097152)(h4:kids.length≤2097152):NodeOk (k,f,t,l,op,num,[],names,kids,()):=nok (fun _ h=>nomatch h) h2 h3 h4
structure Toks where
 out:List ak.den
 tI:List ak.den
 tS:List ak.den
 lI:tI.length=out.length+1
 lS:tS.length=out.length+1
 aI:∀a:Nat,a<out.length→at_ (τ:=ak) tI (a:Int)=tkA out a
 aS:∀a:Nat,a<out.length→at_ (τ:=ak) tS (a:Int)=tkA out a
 kI:∀a:Nat,a≤out.length→(at_ (τ:=ak) tI (a:Int)).1=KA out a
 kS:∀a:Nat,a≤out.length→(at_ (τ:=ak) tS (a:Int)).1=KA out a
 len:out.length≤65536
 kind:∀a:Nat,0≤KA out a∧KA out a≤78
 Qq:∀a:Nat,∀c∈(tkA out a).2.2.2.2.2.1,isByte c
 base:Evt fun n=>PW out tI tS (S.tab n)
variable(G:Toks)
theorem Toks.mem (a:Nat):KA G.out a∈kinds:=iT (G.kind a).1 (G.kind a).2
theorem Toks.kdA {a:Nat}(h:a<G.out.length):(tkA G.out a).1=KA G.out a:=by rw[←G.aI a h];exact G.kI a (Nat.le_of_lt h)
def Nx (r:LI)(a:Nat)(nd:List Node)(a':Nat)(iq:List Node)(m:Nat):Prop:=a<a'∧a'≤G.out.length∧iq.length=m+1∧W iq+4*a+2≤W nd+4*a'∧Ac G.out r a'
def Nx1 (r:LI)(a:Nat)(nd:List Node)(a':Nat)(iq:List Node)(m:Nat):Prop:=a<a'∧a'≤G.out.length∧iq.length=m+1∧W iq+4*a+1≤W nd+4*a'∧Ac G.out r a'
def JN (fI fS:S.Tab→StT→Option (Int×StT×Unit))(s:LI)(a:Nat):Prop:=
 ∀(nd:List Node) (r:LI),a≤G.out.length→W nd≤4*a→Ac G.out (s++r) a→∃(a' m:Nat) (iq:List Node),Nx G r a nd a' iq m∧(Evt fun n=>fI (S.tab n) (G.tI,(a:Int),nd,())=some ((m:Int),(G.tI,(a':Int),iq,()),()))∧
  Evt fun n=>fS (S.tab n) (G.tS,(a:Int),nd,())=some ((m:Int),(G.tS,(a':Int),iq,()),())
def rel (l l':Int):Prop:=0≤l'∧(l=l'+1∨(l=0∧l'=0))
def JE (a:Nat):Prop:=∀(l l':Int) (nd:List Node) (r:LI),rel l l'→a≤G.out.length→W nd≤4*a→Ac G.out (1020::1019::r) a→∃(a' m:Nat) (iq:List Node),Nx G (1019::r) a nd a' iq m∧(tV (KA G.out a')=true→pw (KA G.out a')<l)∧
  (Evt fun n=>bA (S.tab n) (G.tI,(a:Int),nd,()) l'=some ((m:Int),(G.tI,(a':Int),iq,()),(),()))∧
  Evt fun n=>cO (S.tab n) (G.tS,(a:Int),nd,()) l=some ((m:Int),(G.tS,(a':Int),iq,()),(),())
theorem S1 {k:Int}(hk:k∈kinds)(hi:tV k=true):rel (pr k) (bif decide (k=72)then pw k - 1 else pw k):=by
 have h:(kinds.all fun k=> !tV k||(decide (0≤(bif decide (k=72)then pw k - 1 else pw k))&&decide (pr k=(bif decide (k=72)then pw k - 1 else pw k)+1)))=true:=by kernel_rfl
 have:=List.all_eq_true.1 h k hk;rw[hi]at this;simp only[aq3,ap0,ao3,ao1]at this;exact⟨this.1, .inl this.2⟩
theorem OA {k:Int}(hk:k∈kinds)(hi:tV k=true):1≤pw k∧pw k≤10∧KQ k=true:=by
 have:=List.all_eq_true.1 Sa k hk;rw[hi]at this;simp only[aq3,ap0,ao3,ao1,beq_iff_eq]at this;exact⟨this.2.1,this.2.2,this.1.symm⟩
theorem Mw {a:Nat}(ha:a<G.out.length){l l':Int}(hl:rel l l')(r:LI)(hE:∀a',a<a'→JE G a'):∀(d a1 m1:Nat)(dF:List Node),G.out.length<a1+d→a<a1→a1≤G.out.length→dF.length=m1+1→W dF≤4*a1→Ac G.out (1019::r) a1→
  ∃(a2 m2:Nat) (ir:List Node),a1≤a2∧a2≤G.out.length∧ir.length=m2+1∧W ir+4*a1≤W dF+4*a2∧Ac G.out (1019::r) a2∧(tV (KA G.out a2)=true→pw (KA G.out a2)<l)∧
   (Evt fun n=>dO (S.tab n) (G.tI,(a1:Int),dF,()) l' ↑a (m1:Int)=some (Sum.inl ((G.tI,(a2:Int),ir,()),(m2:Int),())))∧
   Evt fun n=>eV (S.tab n) (G.tS,(a1:Int),dF,()) l (tkA G.out a) (m1:Int)=some (bif tV (KA G.out a2)then Sum.inl ((G.tS,(a2:Int),ir,()),(m2:Int),())else Sum.inr (Sum.inl ((G.tS,(a2:Int),ir,()),(m2:Int),()))):=by
 intro d
 induction d with
 |zero=>intro a1 m1 dF h h2 h3;omega
 |succ d ih=>
  intro a1 m1 dF hd tZ PB hm hn hA;have hk:=G.mem a1;have hL:=G.len
  cases hi:tV (KA G.out a1)with
  |false=>
   refine⟨a1,m1,dF,aq2 _,PB,hm,aq2 _,hA,fun h=>absurd (hi.symm.trans h) (by decide),G.base.up fun n B=> ?_,G.base.up fun n B=> ?_⟩
   ·show dO (S.step (S.tab n)) _ _ _ _=_;rw[ky,B.kI _ _ PB,an7];dsimp only;rw[B.wI _ hk,an7,hi];exact ad (an8 hl.1)
   ·show eV (S.step (S.tab n)) _ _ _ _=_
    have hs:KQ (KA G.out a1)=false:=by
     have:=List.all_eq_true.1 Sa _ hk;rw[hi]at this;simp only[ao3,beq_iff_eq]at this;exact this.1.symm
    rw[mA,B.kS _ _ PB,an7];dsimp only;rw[B.iS,an7,hs,hi];exact az rfl
  |true=>
   obtain⟨w1,w2,ws⟩:=OA hk hi
   by_cases hw:pw (KA G.out a1)<l
   ·refine⟨a1,m1,dF,aq2 _,PB,hm,aq2 _,hA,fun _=>hw,G.base.up fun n B=> ?_,G.base.up fun n B=> ?_⟩
    ·show dO (S.step (S.tab n)) _ _ _ _=_;rw[ky,B.kI _ _ PB,an7];dsimp only;rw[B.wI _ hk,an7,hi];exact aL (show pw (KA G.out a1)≤l' by rcases hl with⟨h0,h|h⟩<;>omega)
    ·show eV (S.step (S.tab n)) _ _ _ _=_;rw[mA,B.kS _ _ PB,an7];dsimp only;rw[B.iS,an7,ws,ad (by rfl),B.kS _ _ PB,an7];dsimp only;rw[B.wS _ hk hi,an7,hi];exact aL hw
   ·have al7:¬ pw (KA G.out a1)≤l':=by rcases hl with⟨h0,h|h⟩<;>omega
    have ht:stI 1019 (KA G.out a1)= .left [1020,1019]:=by
     have:=of_decide_eq_true (List.all_eq_true.1 OW _ hk);rw[hi]at this;exact this
    obtain⟨Zn,WI⟩:=bZ ht rfl hA PB;obtain⟨a3,m3,nL,⟨n1,n2,n3,n4,n5⟩,_,eI,eS⟩:=hE (a1+1) (by omega) (pr (KA G.out a1)) _ dF r (S1 hk hi) (by omega) (by omega) WI;obtain⟨c,rfl⟩:∃c,a3=c+1:=⟨a3 - 1,by omega⟩;have hc:c<G.out.length:=(by omega)
    have h3:nL.length≤300000:=by have:=hJ nL;omega
    generalize hN:(bif decide (KA G.out a1=10)then(28,(tkA G.out a).2.1,(tkA G.out c).2.2.1,(tkA G.out a).2.2.2.1,0,0,([]:LI),[],[(m1:Int),(m3:Int)],())else
     bif decide (KA G.out a1=26)then(29,(tkA G.out a).2.1,(tkA G.out c).2.2.1,(tkA G.out a).2.2.2.1,0,0,([]:LI),[],[(m1:Int),(m3:Int)],())else
     ((31,(tkA G.out a).2.1,(tkA G.out c).2.2.1,(tkA G.out a).2.2.2.1,i64.wrap (KA G.out a1 - 60),0,([]:LI),[],[(m1:Int),(m3:Int)],()):Node))=N
    have ah6:NodeOk N:=by rw[←hN];cases decide (KA G.out a1=10)<;>cases decide (KA G.out a1=26)<;>exact vh (by simp)
    have CF:=iL (nd:=nL) ah6;obtain⟨a2,m2,ir,q1,q2,q3,q4,q5,q6,qI,qS⟩:=ih (c+1) nL.length (nL++[N]) (by omega) (by omega) (by omega) (by simp) (by omega) n5;refine⟨a2,m2,ir,by omega,q2,q3,by omega,q5,q6, ?_, ?_⟩
    ·have Bg:Evt fun n=>jD (S.tab n) (G.tI,((a1+1:Nat):Int),dF,()) l' ↑a ↑m1 (KA G.out a1) (bif decide (KA G.out a1=72)then pw (KA G.out a1) - 1 else pw (KA G.out a1))=some (Sum.inl ((G.tI,((c+1:Nat):Int),nL++[N],()),l',(a:Int),(nL.length:Int),())):=(G.base.and eI).up fun n ⟨B,h⟩=>by
      rw[tc,h,an7];dsimp only
      by_cases e1:KA G.out a1=10
      ·rw[aL e1,aH (by omega),B.cI _ _ _ _ hc ha h3,←hN,an8 e1];rfl
      ·rw[aH e1]
       by_cases e2:KA G.out a1=26
       ·rw[aL e2,B.cI _ _ _ _ hc ha h3,←hN,an6 e1,an8 e2];rfl
       ·rw[aH e2,B.cI _ _ _ _ hc ha h3,←hN,an6 e1,an6 e2];rfl
     refine((G.base.and Bg).and qI).up fun n ⟨⟨B,h⟩,hq⟩=> ?_
     show dO (S.step (S.tab n)) _ _ _ _=_;rw[ky,B.kI _ _ PB,an7];dsimp only;rw[B.wI _ hk,an7,hi];simp only[ap3];rw[aH al7,B.tI _ _ Zn,an7];dsimp only
     by_cases e:KA G.out a1=72
     ·rw[an8 e]at h⊢;rw[ad rfl,wrap64 _ (by omega) (by omega)];simp only[ap3]at h;rw[h];exact hq
     ·rw[an6 e]at h⊢;rw[az rfl];simp only[ao8]at h;rw[h];exact hq
    ·refine((G.base.and eS).and qS).up fun n ⟨⟨B,h⟩,hq⟩=> ?_
     show eV (S.step (S.tab n)) _ _ _ _=_;rw[mA,B.kS _ _ PB,an7];dsimp only;rw[B.iS,an7,ws,ad (by rfl),B.kS _ _ PB,an7];dsimp only;rw[B.wS _ hk hi,an7];dsimp only;rw[aH hw,B.tS _ _ Zn,an7];dsimp only;rw[h,an7,B.nS,an7];dsimp only;rw[G.kdA Zn]
     by_cases e1:KA G.out a1=10
     ·rw[aL e1,B.aS _ _ _ hc h3,an7];rw[an8 e1]at hN;rw[←hN]at hq;exact hq
     ·rw[aH e1];rw[an6 e1]at hN
      by_cases e2:KA G.out a1=26
      ·rw[aL e2,B.aS _ _ _ hc h3,an7];rw[an8 e2]at hN;rw[←hN]at hq;exact hq
      ·rw[aH e2,B.aS _ _ _ hc h3,an7];rw[an6 e2]at hN;rw[←hN]at hq;exact hq
theorem NT {a:Nat}(hU:JN G bV c8 [1020] a)(hE:∀a',a<a'→JE G a'):JE G a:=by
 intro l l' nd r hl ha hn hA;obtain⟨a1,m1,dF,⟨n1,n2,n3,n4,n5⟩,eI,eS⟩:=hU nd (1019::r) ha hn hA;have hL:=G.len;have CC:a<G.out.length:=(by omega);obtain⟨a2,m2,ir,q1,q2,q3,q4,q5,q6,qI,qS⟩:=Mw G CC hl r hE (G.out.length+1) a1 m1 dF (by omega) n1 n2 n3 (by omega) n5;refine⟨a2,m2,ir,⟨by omega,q2,q3,by omega,q5⟩,q6,(eI.and qI).up fun n ⟨h1,h2⟩=> ?_,(eS.and qS).up fun n ⟨h1,h2⟩=> ?_⟩
 ·show bA (S.step (S.tab n)) _ _=_;rw[xu,h1,an7];dsimp only;rw[h2];rfl
 ·show cO (S.step (S.tab n)) _ _=_;have kY:(decide ((0:Int)≤(a:Int))&&decide ((a:Int)<(G.tS.length:Int)))=true:=al (by rw[G.lS];omega);rw[Ah];dsimp only;rw[ad kY,h1,an7];dsimp only;rw[G.aS _ CC,h2];cases tV (KA G.out a2)<;>rfl
end Go.Abs.D
end

section
namespace Go.Abs.D
theorem cc {ρ:Type}(x y:Option ρ):brk true x y=x:=ad rfl
theorem cd {ρ:Type}(x y:Option ρ):brk false x y=y:=az rfl
theorem Sb {out:List ak.den}{s:Int}{l r:LI}{a:Nat}(e:stI s (KA out a)= .left l)(ha:a<out.length)(h:Ac out (l++r) (a+1)):Ac out (s::r) a:=by
 obtain⟨b,h1,h2⟩:=h;have Vg:a<(out.map kd).length:=(by simpa using ha)
 have hd:(out.map kd).drop a=KA out a::(out.map kd).drop (a+1):=by
  rw[List.drop_eq_getElem_cons Vg];unfold KA;rw[ap9,ap8 Vg];rfl
 refine⟨b, ?_,h2⟩;rw[hd];show(match gD (s::r) (KA out a)with| .left l=>foldI l ((out.map kd).drop (a+1))|_=>none)=some b;rw[show gD (s::r) (KA out a)=(stI s (KA out a)).then r (gD r (KA out a))from fZ stI s r _,e];exact h1
theorem Ea {out:List ak.den}{s s':Int}{q r:LI}{a:Nat}(e:stI s (KA out a)=(stI s' (KA out a)).then q .no)(h:Ac out (s::r) a)(ha:a≤out.length):Ac out (s'::(q++r)) a:=by
 rcases tL ha h with⟨l,e',hl,h⟩|⟨e',h⟩
 ·rw[e]at e'
  cases hs:stI s' (KA out a)with
  |no=>rw[hs]at e';cases e'
  |gone=>rw[hs]at e';cases e'
  |left l0=>
   rw[hs]at e'
   injection e' with e'
   subst e';exact Sb hs hl (by rw[ao4]at h;exact h)
 ·rw[e]at e';cases hs:stI s' (KA out a)<;>(rw[hs]at e';cases e')
variable(G:Toks)
theorem Toks.tab {p:Int→Bool}(h:kinds.all p=true)(a:Nat):p (KA G.out a)=true:=List.all_eq_true.1 h _ (G.mem a)
def JX (a:Nat):Prop:=∀(nd:List Node) (r:LI),a≤G.out.length→W nd≤4*a→Ac G.out (1018::r) a→∃(a' m:Nat) (iq:List Node),Nx G r a nd a' iq m∧
 (Evt fun n=>bA (S.tab n) (G.tI,(a:Int),nd,()) 0=some ((m:Int),(G.tI,(a':Int),iq,()),(),()))∧
 Evt fun n=>cO (S.tab n) (G.tS,(a:Int),nd,()) 0=some ((m:Int),(G.tS,(a':Int),iq,()),(),())
theorem QG {a:Nat}(h:JE G a):JX G a:=by
 intro nd r ha hn hA;have YF:=Ea (of_decide_eq_true (G.tab Tj a)) hA ha;obtain⟨a',m,iq,⟨n1,n2,n3,n4,n5⟩,hs,eI,eS⟩:=h 0 0 nd r ⟨Int.le_refl 0, .inr ⟨rfl,rfl⟩⟩ ha hn YF;refine⟨a',m,iq,⟨n1,n2,n3,n4, ?_⟩,eI,eS⟩
 have hi:tV (KA G.out a')=false:=by
  cases hi:tV (KA G.out a')with
  |false=>rfl
  |true=>have:=hs hi;have:=(OA (G.mem a') hi).1;omega
 have ht:=of_decide_eq_true (G.tab OW a');rw[hi]at ht;exact eY ht rfl n5 n2
def JL (a:Nat):Prop:=∀(nd:List Node) (r:LI),a≤G.out.length→W nd≤4*a→Ac G.out (1018::1023::r) a→∃(a':Nat) (xs:LI) (iq:List Node),a<a'∧a'≤G.out.length∧xs.length+a≤a'∧W iq+4*a≤W nd+4*a'∧Ac G.out r a'∧
 (Evt fun n=>cV (S.tab n) (G.tI,(a:Int),nd,())=some (xs,(G.tI,(a':Int),iq,()),()))∧
 Evt fun n=>eB (S.tab n) (G.tS,(a:Int),nd,())=some (xs,(G.tS,(a':Int),iq,()),())
def L5 (Q:LI→Prop):Prop:=∀st a,Q st→a≤G.out.length→Ac G.out st a→KA G.out a=46→a<G.out.length∧∃Jr,Q Jr∧Ac G.out (1018::Jr) (a+1)
theorem J2 {Q:LI→Prop}(hQ:L5 G Q)(a0:Nat)(hX:∀a',a0<a'→JX G a'):∀(d a:Nat)(xs:LI)(nd:List Node)(st:LI),G.out.length<a+d→a0<a→a≤G.out.length→xs.length≤a→W nd≤4*a→Q st→Ac G.out st a→
  ∃(a':Nat) (ys:LI) (iq:List Node) (Jr:LI),a≤a'∧a'≤G.out.length∧ys.length+a≤xs.length+a'∧W iq+4*a≤W nd+4*a'∧Q Jr∧Ac G.out Jr a'∧KA G.out a'≠46∧
   (Evt fun n=>fU (S.tab n) (G.tI,(a:Int),nd,()) xs=some (Sum.inl ((G.tI,(a':Int),iq,()),ys,())))∧
   Evt fun n=>iz (S.tab n) (G.tS,(a:Int),nd,()) xs=some (Sum.inl ((G.tS,(a':Int),iq,()),ys,())):=by
 intro d
 induction d with
 |zero=>intro a xs nd st h h2 h3;omega
 |succ d ih=>
  intro a xs nd st hd h0 CC hx hn hq hA;have hL:=G.len
  by_cases hk:KA G.out a=46
  ·obtain⟨hl,Um,q1,hA⟩:=hQ st a hq CC hA hk;obtain⟨a1,m1,dF,⟨n1,n2,n3,n4,n5⟩,eI,eS⟩:=hX (a+1) (by omega) nd Um (by omega) (by omega) hA;obtain⟨a2,ys,ir,Qm,q1,q2,q3,q4,q5,q6,q7,qI,qS⟩:=ih a1 (xs++[(m1:Int)]) dF Um (by omega) (by omega) n2 (by simp;omega) (by omega) q1 n5;simp only[an9,ao0,ao2]at q3;refine⟨a2,ys,ir,Qm,by omega,q2,by omega,by omega,q5,q6,q7,((G.base.and eI).and qI).up fun n ⟨⟨B,h⟩,hq⟩=> ?_,((G.base.and eS).and qS).up fun n ⟨⟨B,h⟩,hq⟩=> ?_⟩
   ·show fU (S.step (S.tab n)) _ _=_;simp only[nB,B.eI _ _ _ CC,an8 hk,an7,cc,ap3,h];rw[ad (dY (by unfold lim;simp only[ao0,ao2];omega))];exact hq
   ·show iz (S.step (S.tab n)) _ _=_;simp only[pf,B.eS _ _ _ CC,an8 hk,an7,cc,ap3,h];rw[ad (dY (by unfold lim;simp only[ao0,ao2];omega))];exact hq
  ·refine⟨a,xs,nd,st,aq2 _,CC,aq2 _,aq2 _,hq,hA,hk,G.base.up fun n B=> ?_,G.base.up fun n B=> ?_⟩
   ·show fU (S.step (S.tab n)) _ _=_;simp only[nB,B.eI _ _ _ CC,an6 hk,an7,cd,ao8]
   ·show iz (S.step (S.tab n)) _ _=_;simp only[pf,B.eS _ _ _ CC,an6 hk,an7,cd,ao8]
theorem FK {Q:LI→Prop}(hQ:L5 G Q){a:Nat}(hX:∀a',a≤a'→JX G a'){nd:List Node}{st:LI}(ha:a≤G.out.length)(hn:W nd≤4*a)(hq:Q st)(hA:Ac G.out (1018::st) a):
  ∃(a':Nat) (xs:LI) (iq:List Node) (Jr:LI),a<a'∧a'≤G.out.length∧xs.length+a≤a'∧W iq+4*a≤W nd+4*a'∧Q Jr∧Ac G.out Jr a'∧KA G.out a'≠46∧
   (Evt fun n=>cV (S.tab n) (G.tI,(a:Int),nd,())=some (xs,(G.tI,(a':Int),iq,()),()))∧
   Evt fun n=>eB (S.tab n) (G.tS,(a:Int),nd,())=some (xs,(G.tS,(a':Int),iq,()),()):=by
 have hL:=G.len;obtain⟨a1,m1,dF,⟨n1,n2,n3,n4,n5⟩,eI,eS⟩:=hX a (aq2 _) nd st ha hn hA;obtain⟨a2,ys,ir,Qm,q1,q2,q3,q4,q5,q6,q7,qI,qS⟩:=J2 G hQ a (fun a' h=>hX a' (by omega)) (G.out.length+1) a1 [(m1:Int)] dF st (by omega) n1 n2 (by simp;omega) (by omega) hq n5;simp only[ao0,ao2]at q3;refine⟨a2,ys,ir,Qm,by omega,q2,by omega,by omega,q5,q6,q7,(eI.and qI).up fun n ⟨h,hq⟩=> ?_,(eS.and qS).up fun n ⟨h,hq⟩=> ?_⟩
 ·show cV (S.step (S.tab n)) _=_;simp only[vv,h,hq,an7,aN,aq0]
 ·show eB (S.step (S.tab n)) _=_;simp only[yU,h,hq,an7,aN,aq0]
theorem xa {a:Nat}(hX:∀a',a≤a'→JX G a'):JL G a:=by
 intro nd r ha hn hA
 have hQ:L5 G (fun st=>st=1023::r):=fun st a' e M5 Jv hk=>by
  subst e;have ht:=of_decide_eq_true (G.tab Lh a');rw[an8 hk]at ht;obtain⟨hl,hA⟩:=bZ ht rfl Jv M5;exact⟨hl,_,rfl,hA⟩
 obtain⟨a1,xs,dF,Um,q1,q2,q3,q4,rfl,q6,q7,qI,qS⟩:=FK G hQ hX ha hn rfl hA;have ht:=of_decide_eq_true (G.tab Lh a1);rw[an6 q7]at ht;exact⟨a1,xs,dF,q1,q2,q3,q4,eY ht rfl q6 q2,qI,qS⟩
def MU (F:LI):Prop:=∀s∈F,∃f∈F,∃c∈F,stI s 48= .left [1,f]∧stI s 44= .left [1018,45,f]∧stI s 40= .left [1022,41,c]
theorem Ib (tk:ak.den)(st:StT)(x0 x1 x2 x3 x4 x5:Int)(x6:LI)(x7:List LI):∀(r pre ks:LI),(pre++r).length≤70000→ks.length+r.length≤140000→
  Evt fun n=>gQ (S.tab n) st tk (x0,x1,x2,x3,x4,x5,x6,x7,ks,()) (pre++r) ((pre++r).length:Int) (pre.length:Int)=some (Sum.inl (st,tk,(x0,x1,x2,x3,x4,x5,x6,x7,ks++r,()),()))
 |[],pre,ks,_,_=>aD.up fun n _=>by
  rw[mH,az (by simp)];simp
 |m::r,pre,ks,hl,hk=>by
  have ih:=Ib tk st x0 x1 x2 x3 x4 x5 x6 x7 r (pre++[m]) (ks++[m]) (by simpa using hl) (by simp at hk⊢;omega);have hlen:(pre++m::r).length=pre.length+(r.length+1):=(by simp);have e1:(pre++[m])++r=pre++m::r:=(by simp);have e2:(pre++[m]).length=pre.length+1:=(by simp);have hg:(pre++m::r).getD (pre.length:Int).toNat 0=m:=pG pre _ _ 0;rw[e1,e2]at ih
  refine ih.up fun n h=> ?_
  simp only[ao0]at hk;rw[mH,aL (by omega),ad (al (by omega))];dsimp only;rw[ad (dY (by unfold lim;simp only[ao0,ao2];omega)),bD (by omega),hg,h];simp
theorem Oq {F:LI}(hF:MU F){b:Nat}(hb:b<G.out.length)(r:LI)(hX:∀a',b<a'→JX G a'):∀(d a m:Nat)(nd:List Node)(s:Int),G.out.length<a+d→b<a→a≤G.out.length→nd.length=m+1→W nd≤4*a→s∈F→Ac G.out (s::r) a→
  ∃(a' m':Nat) (iq:List Node) (s':Int),a≤a'∧a'≤G.out.length∧iq.length=m'+1∧W iq+4*a≤W nd+4*a'∧s'∈F∧Ac G.out (s'::r) a'∧(KA G.out a'≠48∧KA G.out a'≠44∧KA G.out a'≠40)∧
   (Evt fun n=>bN (S.tab n) (G.tI,(a:Int),nd,()) ↑b (m:Int)=some (Sum.inl ((G.tI,(a':Int),iq,()),(m':Int),())))∧
   Evt fun n=>bG (S.tab n) (G.tS,(a:Int),nd,()) ↑m (tkA G.out b)=some (Sum.inl ((G.tS,(a':Int),iq,()),(m':Int),())):=by
 intro d
 induction d with
 |zero=>intro a m nd s h h2 h3;omega
 |succ d ih=>
  intro a m nd s hd h0 CC hm hn hs hA;have hL:=G.len;obtain⟨f,hf,c,hc,t1,t2,t3⟩:=hF s hs
  by_cases k1:KA G.out a=48
  ·obtain⟨hl,hA⟩:=bZ t1 k1 hA CC;obtain⟨ox,_,hA⟩:=iM hA (by omega) (by decide);have CF:=iL (nd:=nd) (x:=(33,(tkA G.out b).2.1,(tkA G.out (a+1)).2.2.1,(tkA G.out b).2.2.2.1,0,0,(tkA G.out (a+1)).2.2.2.2.2.1,[],[(m:Int)],())) (Ro (G.Qq _) (by simp));obtain⟨a2,m2,ir,s2,q1,q2,q3,q4,q5,q6,q7,qI,qS⟩:=ih (a+1+1) nd.length (nd++[(33,(tkA G.out b).2.1,(tkA G.out (a+1)).2.2.1,(tkA G.out b).2.2.2.1,0,0,(tkA G.out (a+1)).2.2.2.2.2.1,[],[(m:Int)],())]) f (by omega) (by omega) (by omega) (by simp) (by omega) hf hA;refine⟨a2,m2,ir,s2,by omega,q2,q3,by omega,q5,q6,q7,(G.base.and qI).up fun n ⟨B,hq⟩=> ?_,(G.base.and qS).up fun n ⟨B,hq⟩=> ?_⟩
   ·show bN (S.step (S.tab n)) _ _ _=_;simp only[fP,B.kI _ _ CC,an8 k1,an7,cc,B.tI _ _ hl,B.tI _ _ ox,B.cI _ _ _ _ ox hb (show nd.length≤300000 by have:=hJ nd;omega)];exact hq
   ·show bG (S.step (S.tab n)) _ _ _=_;simp only[fo,B.nS,B.kS _ _ CC,an8 k1,an7,cc,B.tS _ _ hl,B.tS _ _ ox,B.aS _ _ _ ox (show nd.length≤300000 by have:=hJ nd;omega)];exact hq
  by_cases k2:KA G.out a=44
  ·obtain⟨hl,hA⟩:=bZ t2 k2 hA CC;obtain⟨a1,m1,dF,⟨n1,n2,n3,n4,n5⟩,eI,eS⟩:=hX (a+1) (by omega) nd (45::f::r) (by omega) (by omega) hA;obtain⟨ox,_,hA⟩:=iM n5 n2 (by decide);have CF:=iL (nd:=dF) (x:=(32,(tkA G.out b).2.1,(tkA G.out a1).2.2.1,(tkA G.out b).2.2.2.1,0,0,[],[],[(m:Int),(m1:Int)],())) (vh (by simp));obtain⟨a2,m2,ir,s2,q1,q2,q3,q4,q5,q6,q7,qI,qS⟩:=ih (a1+1) dF.length (dF++[(32,(tkA G.out b).2.1,(tkA G.out a1).2.2.1,(tkA G.out b).2.2.2.1,0,0,[],[],[(m:Int),(m1:Int)],())]) f (by omega) (by omega) (by omega) (by simp) (by omega) hf hA;refine⟨a2,m2,ir,s2,by omega,q2,q3,by omega,q5,q6,q7,((G.base.and eI).and qI).up fun n ⟨⟨B,h⟩,hq⟩=> ?_,((G.base.and eS).and qS).up fun n ⟨⟨B,h⟩,hq⟩=> ?_⟩
   ·show bN (S.step (S.tab n)) _ _ _=_;simp only[fP,B.kI _ _ CC,an6 k1,an8 k2,an7,cc,cd,B.tI _ _ hl,h,B.tI _ _ ox,B.cI _ _ _ _ ox hb (show dF.length≤300000 by have:=hJ dF;omega)];exact hq
   ·show bG (S.step (S.tab n)) _ _ _=_;simp only[fo,B.nS,B.kS _ _ CC,an6 k1,an8 k2,an7,cc,cd,B.tS _ _ hl,h,B.tS _ _ ox];rw[ad (by rfl),B.aS _ _ _ ox (show dF.length≤300000 by have:=hJ dF;omega)];exact hq
  by_cases k3:KA G.out a=40
  ·obtain⟨hl,hA⟩:=bZ t3 k3 hA CC
   by_cases k4:KA G.out (a+1)=41
   ·have hA:=eY (s:=1022) (k:=41) (by kernel_rfl) k4 hA (by omega);obtain⟨ox,_,hA⟩:=iM hA (by omega) (by decide);have CF:=iL (nd:=nd) (x:=(34,(tkA G.out b).2.1,(tkA G.out (a+1)).2.2.1,(tkA G.out b).2.2.2.1,0,0,[],[],[(m:Int)],())) (vh (by simp));obtain⟨a2,m2,ir,s2,q1,q2,q3,q4,q5,q6,q7,qI,qS⟩:=ih (a+1+1) nd.length (nd++[(34,(tkA G.out b).2.1,(tkA G.out (a+1)).2.2.1,(tkA G.out b).2.2.2.1,0,0,[],[],[(m:Int)],())]) c (by omega) (by omega) (by omega) (by simp) (by omega) hc hA;refine⟨a2,m2,ir,s2,by omega,q2,q3,by omega,q5,q6,q7,(G.base.and qI).up fun n ⟨B,hq⟩=> ?_,(G.base.and qS).up fun n ⟨B,hq⟩=> ?_⟩
    ·show bN (S.step (S.tab n)) _ _ _=_;simp only[fP,B.kI _ _ CC,an6 k1,an6 k2,an8 k3,an8 k4,aq3,an7,cc,cd,B.tI _ _ hl,B.kI (a+1) _ hl,B.tI _ _ ox,B.cI _ _ _ _ ox hb (show nd.length≤300000 by have:=hJ nd;omega)];exact hq
    ·show bG (S.step (S.tab n)) _ _ _=_;simp only[fo,B.nS,B.kS _ _ CC,an6 k1,an6 k2,an8 k3,an8 k4,aq3,an7,cc,cd,B.tS _ _ hl,B.kS (a+1) _ hl,B.tS _ _ ox,B.aS _ _ _ ox (show nd.length≤300000 by have:=hJ nd;omega)];exact hq
   ·have YF:Ac G.out (1018::([1023]++(41::c::r))) (a+1):=by
     have ht:=of_decide_eq_true (G.tab SV (a+1))
     cases hu:je (KA G.out (a+1))with
     |true=>rw[hu]at ht;exact Ea ht hA (by omega)
     |false=>
      rw[hu]at ht;exact absurd (iM (eY ht rfl hA (by omega)) (by omega) (by decide)).2.1 k4
    obtain⟨a1,xs,dF,n1,n2,n3,n4,n5,eI,eS⟩:=xa G (fun a' h=>hX a' (by omega)) nd (41::c::r) (by omega) (by omega) YF;obtain⟨ox,_,hA⟩:=iM n5 n2 (by decide);have CF:=iL (nd:=dF) (x:=(34,(tkA G.out b).2.1,(tkA G.out a1).2.2.1,(tkA G.out b).2.2.2.1,0,0,[],[],(m:Int)::xs,())) (vh (by simp only[an9,ao0,ao2];omega));obtain⟨a2,m2,ir,s2,q1,q2,q3,q4,q5,q6,q7,qI,qS⟩:=ih (a1+1) dF.length (dF++[(34,(tkA G.out b).2.1,(tkA G.out a1).2.2.1,(tkA G.out b).2.2.2.1,0,0,[],[],(m:Int)::xs,())]) c (by omega) (by omega) (by omega) (by simp) (by omega) hc hA;have PV:=Ib (tkA G.out b) (G.tS,(a1:Int),dF,()) 34 (tkA G.out b).2.1 0 (tkA G.out b).2.2.2.1 0 0 [] [] xs [] [(m:Int)] (by simp;omega) (by simp;omega);refine⟨a2,m2,ir,s2,by omega,q2,q3,by omega,q5,q6,q7,((G.base.and eI).and qI).up fun n ⟨⟨B,h⟩,hq⟩=> ?_,(((G.base.and eS).and qS).and PV).up fun n ⟨⟨⟨B,h⟩,hq⟩,hk⟩=> ?_⟩
    ·show bN (S.step (S.tab n)) _ _ _=_;simp only[fP,B.kI _ _ CC,an6 k1,an6 k2,an8 k3,an6 k4,aq5,an7,cc,cd,B.tI _ _ hl,B.kI (a+1) _ hl,h,B.tI _ _ ox,B.cI _ _ _ _ ox hb (show dF.length≤300000 by have:=hJ dF;omega)];rw[ad (dY (by unfold lim;simp only[ao0,ao2];omega))];exact hq
    ·show bG (S.step (S.tab n)) _ _ _=_;have hk:gQ (S.tab n) (G.tS,(a1:Int),dF,()) (tkA G.out b) (34,(tkA G.out b).2.1,0,(tkA G.out b).2.2.2.1,0,0,[],[],[(m:Int)],()) xs (xs.length:Int) 0=_:=hk;simp only[fo,B.nS,B.kS _ _ CC,an6 k1,an6 k2,an8 k3,an6 k4,aq5,an7,cc,cd,B.tS _ _ hl,B.kS (a+1) _ hl,h,hk,aN,aq0,B.tS _ _ ox,B.aS _ _ _ ox (show dF.length≤300000 by have:=hJ dF;omega)];exact hq
  refine⟨a,m,nd,s,aq2 _,CC,hm,aq2 _,hs,hA,⟨k1,k2,k3⟩,G.base.up fun n B=> ?_,G.base.up fun n B=> ?_⟩
  ·show bN (S.step (S.tab n)) _ _ _=_;simp only[fP,B.kI _ _ CC,an6 k1,an6 k2,an6 k3,an7,cd]
  ·show bG (S.step (S.tab n)) _ _ _=_;simp only[fo,B.nS,B.kS _ _ CC,an6 k1,an6 k2,an6 k3,an7,cd]
end Go.Abs.D
end

section
namespace Go.Abs.D
variable(G:Toks)
def JBs (F:LI)(a:Nat):Prop:=∀(nd:List Node) (r:LI) (s0:Int),s0∈F→a<G.out.length→W nd≤4*a→((KA G.out a=1∧Ac G.out (s0::r) (a+1))∨(KA G.out a=40∧Ac G.out (1018::41::s0::r) (a+1)))→
 ∃(a' m:Nat) (iq:List Node) (s':Int),s'∈F∧Nx G (s'::r) a nd a' iq m∧(KA G.out a'≠48∧KA G.out a'≠44∧KA G.out a'≠40)∧
  (Evt fun n=>eQ (S.tab n) (G.tI,(a:Int),nd,())=some ((m:Int),(G.tI,(a':Int),iq,()),()))∧
  Evt fun n=>dr (S.tab n) (G.tS,(a:Int),nd,())=some ((m:Int),(G.tS,(a':Int),iq,()),())
theorem Cj {F:LI}(hF:MU F){a:Nat}(hX:∀a',a<a'→JX G a'):JBs G F a:=by
 intro nd r s0 Wr ha hn hA;have hL:=G.len
 have tail:∀(a1 m1:Nat) (dF:List Node),a<a1→a1≤G.out.length→dF.length=m1+1→W dF≤4*a1→Ac G.out (s0::r) a1→
   ∃(a' m':Nat) (iq:List Node) (s':Int),a1≤a'∧a'≤G.out.length∧iq.length=m'+1∧W iq+4*a1≤W dF+4*a'∧s'∈F∧Ac G.out (s'::r) a'∧(KA G.out a'≠48∧KA G.out a'≠44∧KA G.out a'≠40)∧
   (Evt fun n=>cR (S.tab n) (G.tI,(a1:Int),dF,()) ↑a (m1:Int)=some (Sum.inl ((G.tI,(a':Int),iq,()),(m':Int),())))∧
   Evt fun n=>dS (S.tab n) (G.tS,(a1:Int),dF,()) ↑m1 (tkA G.out a)=some (Sum.inl ((G.tS,(a':Int),iq,()),(m':Int),())):=fun a1 m1 dF h1 h2 h3 h4 h5=>by
  obtain⟨a2,m2,ir,s2,q1,q2,q3,q4,q5,q6,q7,qI,qS⟩:=Oq G hF ha r hX (G.out.length+1) a1 m1 dF s0 (by omega) h1 h2 h3 h4 Wr h5;refine⟨a2,m2,ir,s2,q1,q2,q3,q4,q5,q6,q7,qI.up fun n h=> ?_,qS.up fun n h=> ?_⟩
  ·show cR (S.step (S.tab n)) _ _ _=_;simp only[tf,h,an7,aN,aq0]
  ·show dS (S.step (S.tab n)) _ _ _=_;simp only[sH,h,an7,aN,aq0]
 rcases hA with⟨hk,hA⟩|⟨hk,hA⟩
 ·have Y0:KA G.out a≠40:=(by omega);have CF:=iL (nd:=nd) (x:=(26,(tkA G.out a).2.1,(tkA G.out a).2.2.1,(tkA G.out a).2.2.2.1,0,0,(tkA G.out a).2.2.2.2.2.1,[],[],())) (Ro (G.Qq _) (by simp));obtain⟨a2,m2,ir,s2,q1,q2,q3,q4,q5,q6,q7,qI,qS⟩:=tail (a+1) nd.length (nd++[(26,(tkA G.out a).2.1,(tkA G.out a).2.2.1,(tkA G.out a).2.2.2.1,0,0,(tkA G.out a).2.2.2.2.2.1,[],[],())]) (by omega) (by omega) (by simp) (by omega) hA;refine⟨a2,m2,ir,s2,q5,⟨by omega,q2,q3,by omega,q6⟩,q7,(G.base.and qI).up fun n ⟨B,hq⟩=> ?_,(G.base.and qS).up fun n ⟨B,hq⟩=> ?_⟩
  ·show eQ (S.step (S.tab n)) _=_;simp only[mD,B.eI _ _ _ (Nat.le_of_lt ha),an6 Y0,an7,cd,ao8,B.tI _ _ ha,B.cI _ _ _ _ ha ha (show nd.length≤300000 by have:=hJ nd;omega)];have hq:cR (S.tab n) (G.tI,((a+1:Nat):Int),nd++[Hj G.out a (a+1) (26,0,0,0,0,0,(tkA G.out a).2.2.2.2.2.1,[],[],())],()) ↑a (nd.length:Int)=_:=hq;simp only[hq,an7,aN,aq0]
  ·show dr (S.step (S.tab n)) _=_;simp only[lP,B.tS _ _ ha,G.kdA ha,an8 hk,an7,cc,B.nS,B.aS _ _ _ ha (show nd.length≤300000 by have:=hJ nd;omega),hq,aN,aq0]
 ·obtain⟨a1,m1,dF,⟨n1,n2,n3,n4,n5⟩,eI,eS⟩:=hX (a+1) (by omega) nd (41::s0::r) (by omega) (by omega) hA;obtain⟨ox,_,hA⟩:=iM n5 n2 (by decide);have RO:KA G.out a≠1:=(by omega);have kY:(decide ((0:Int)≤(m1:Int))&&decide ((m1:Int)<(dF.length:Int)))=true:=al (by omega)
  by_cases e:(at_ (τ:=ae) dF ↑m1).1=34∨(at_ (τ:=ae) dF ↑m1).1=27
  ·have CF:=iL (nd:=dF) (x:=(37,(tkA G.out a).2.1,(tkA G.out a1).2.2.1,(tkA G.out a).2.2.2.1,0,0,[],[],[(m1:Int)],())) (vh (by simp));obtain⟨a2,m2,ir,s2,q1,q2,q3,q4,q5,q6,q7,qI,qS⟩:=tail (a1+1) dF.length (dF++[(37,(tkA G.out a).2.1,(tkA G.out a1).2.2.1,(tkA G.out a).2.2.2.1,0,0,[],[],[(m1:Int)],())]) (by omega) (by omega) (by simp) (by omega) hA;refine⟨a2,m2,ir,s2,q5,⟨by omega,q2,q3,by omega,q6⟩,q7,((G.base.and eI).and qI).up fun n ⟨⟨B,h⟩,hq⟩=> ?_,((G.base.and eS).and qS).up fun n ⟨⟨B,h⟩,hq⟩=> ?_⟩
   ·show eQ (S.step (S.tab n)) _=_;have hq:cR (S.tab n) (G.tI,((a1+1:Nat):Int),dF++[Hj G.out a (a1+1) (37,0,0,0,0,0,[],[],[(m1:Int)],())],()) ↑a (dF.length:Int)=_:=hq;simp only[mD,B.eI _ _ _ (Nat.le_of_lt ha),an8 hk,an7,cc,ap3,h,B.tI _ _ ox];rw[ad kY]
    by_cases e1:(at_ (τ:=ae) dF ↑m1).1=34
    ·simp only[an8 e1,cc,B.cI _ _ _ _ ox ha (show dF.length≤300000 by have:=hJ dF;omega),an7,hq,aN,aq0]
    ·simp only[an6 e1,an8 (e.resolve_left e1),cd,cc,B.cI _ _ _ _ ox ha (show dF.length≤300000 by have:=hJ dF;omega),an7,hq,aN,aq0]
   ·show dr (S.step (S.tab n)) _=_;simp only[lP,B.tS _ _ ha,G.kdA ha,an6 RO,an7,cd,h,B.tS _ _ ox];rw[ad kY]
    by_cases e1:(at_ (τ:=ae) dF ↑m1).1=34
    ·simp only[an8 e1,cc,B.nS,B.aS _ _ _ ox (show dF.length≤300000 by have:=hJ dF;omega),an7,hq,aN,aq0]
    ·simp only[an6 e1,an8 (e.resolve_left e1),cd,cc,B.nS,B.aS _ _ _ ox (show dF.length≤300000 by have:=hJ dF;omega),an7,hq,aN,aq0]
  ·obtain⟨a2,m2,ir,s2,q1,q2,q3,q4,q5,q6,q7,qI,qS⟩:=tail (a1+1) m1 dF (by omega) (by omega) n3 (by omega) hA
   have e1:(at_ (τ:=ae) dF ↑m1).1≠34:=fun h=>e (.inl h)
   have e2:(at_ (τ:=ae) dF ↑m1).1≠27:=fun h=>e (.inr h)
   refine⟨a2,m2,ir,s2,q5,⟨by omega,q2,q3,by omega,q6⟩,q7,((G.base.and eI).and qI).up fun n ⟨⟨B,h⟩,hq⟩=> ?_,((G.base.and eS).and qS).up fun n ⟨⟨B,h⟩,hq⟩=> ?_⟩
   ·show eQ (S.step (S.tab n)) _=_;simp only[mD,B.eI _ _ _ (Nat.le_of_lt ha),an8 hk,an7,cc,ap3,h,B.tI _ _ ox];rw[ad kY];simp only[an6 e1,an6 e2,cd,hq,an7,aN,aq0]
   ·show dr (S.step (S.tab n)) _=_;simp only[lP,B.tS _ _ ha,G.kdA ha,an6 RO,an7,cd,h,B.tS _ _ ox];rw[ad kY];simp only[an6 e1,an6 e2,cd,hq,an7,aN,aq0]
def TN (q:LI):Prop:=q=[1024]∨q=[1025]∨q=[1026]∨q=[]
theorem VM:(kinds.all fun k=>decide (stI 1024 k=bif decide (k=49)then .left []else bif decide (k=1)then .left [1025]else .gone)&&(decide (stI 1025 k=bif decide (k=46)then .left [1026]else .gone)&&decide (stI 1026 k=bif decide (k=1)then .left [1025]else bif decide (k=49)then .left []else .no)))=true:=by kernel_rfl
theorem Oc {q r:LI}(hq:TN q){a:Nat}(ha:a≤G.out.length)(h:Ac G.out (q++41::r) a):(KA G.out a=41∧a<G.out.length∧Ac G.out r (a+1))∨(KA G.out a≠41∧a<G.out.length∧∃q',TN q'∧Ac G.out (q'++41::r) (a+1)):=by
 have ht:=G.tab VM a;simp only[ao3,ao1]at ht;obtain⟨t1,t2,t3⟩:=ht
 have fin:Ac G.out (41::r) a→KA G.out a=41∧a<G.out.length∧Ac G.out r (a+1):=fun h=>by
  obtain⟨h1,h2,h3⟩:=iM h ha (by decide);exact⟨h2,h1,h3⟩
 rcases hq with rfl|rfl|rfl|rfl
 ·by_cases k1:KA G.out a=49
  ·rw[an8 k1]at t1;obtain⟨hl,h⟩:=bZ t1 rfl h ha;exact .inr ⟨by omega,hl,[], .inr (.inr (.inr rfl)),h⟩
  rw[an6 k1]at t1
  by_cases k2:KA G.out a=1
  ·rw[an8 k2]at t1;obtain⟨hl,h⟩:=bZ t1 rfl h ha;exact .inr ⟨by omega,hl,[1025], .inr (.inl rfl),h⟩
  rw[an6 k2]at t1;exact .inl (fin (eY t1 rfl h ha))
 ·by_cases k1:KA G.out a=46
  ·rw[an8 k1]at t2;obtain⟨hl,h⟩:=bZ t2 rfl h ha;exact .inr ⟨by omega,hl,[1026], .inr (.inr (.inl rfl)),h⟩
  rw[an6 k1]at t2;exact .inl (fin (eY t2 rfl h ha))
 ·by_cases k2:KA G.out a=1
  ·rw[an8 k2]at t3;obtain⟨hl,h⟩:=bZ t3 rfl h ha;exact .inr ⟨by omega,hl,[1025], .inr (.inl rfl),h⟩
  rw[an6 k2]at t3
  by_cases k1:KA G.out a=49
  ·rw[an8 k1]at t3;obtain⟨hl,h⟩:=bZ t3 rfl h ha;exact .inr ⟨by omega,hl,[], .inr (.inr (.inr rfl)),h⟩
  rw[an6 k1]at t3;exact(qk t3 rfl h ha).elim
 ·exact .inl (fin h)
def nmO (ns:List LI)(a:Nat):Prop:=(∀m∈ns,∀c∈m,isByte c)∧ns.length≤a
theorem nmO.snoc {ns:List LI}{a b:Nat}(h:nmO ns a)(ab5:a<b){m:LI}(hm:∀c∈m,isByte c):nmO (ns++[m]) b:=
 ⟨fun x hx=>by
  rcases aq6.1 hx with hx|hx
  ·exact h.1 x hx
  ·rw[List.mem_singleton.1 hx];exact hm,by have:=h.2;simp;omega⟩
theorem nmO.up {ns:List LI}{a b:Nat}(h:nmO ns a)(ab5:a≤b):nmO ns b:=⟨h.1,Nat.le_trans h.2 ab5⟩
theorem NW (b:Nat)(nd:List Node)(f ln:Int)(r:LI):∀(d a:Nat)(q:LI)(op:Int)(ns:List LI),G.out.length<a+d→a≤G.out.length→TN q→nmO ns a→Ac G.out (q++41::r) a→
  ∃(a':Nat) (Vy:Int) (Pw:List LI),a≤a'∧a'<G.out.length∧Ac G.out r (a'+1)∧nmO Pw a'∧
   (Evt fun n=>df (S.tab n) (G.tI,(a:Int),nd,()) ↑b (36,0,0,0,op,0,[],ns,[],())=some (Sum.inl ((G.tI,((a'+1:Nat):Int),nd,()),(b:Int),(36,0,0,0,Vy,0,[],Pw,[],()),())))∧
   Evt fun n=>eR (S.tab n) (G.tS,(a:Int),nd,()) (36,f,0,ln,op,0,[],ns,[],())=some (Sum.inl ((G.tS,(a':Int),nd,()),(36,f,0,ln,Vy,0,[],Pw,[],()),())):=by
 intro d
 induction d with
 |zero=>intro a q op ns h h2;omega
 |succ d ih=>
  intro a q op ns hd ha hq Eu hA;have hL:=G.len
  rcases Oc G hq ha hA with⟨hk,hl,h⟩|⟨hk,hl,q',Nt,h⟩
  ·refine⟨a,op,ns,aq2 _,hl,h,Eu,G.base.up fun n B=> ?_,G.base.up fun n B=> ?_⟩
   ·show df (S.step (S.tab n)) _ _ _=_;simp only[kz,B.eI _ _ _ ha,an8 hk,an7,aq3,cd,ap3]
   ·show eR (S.step (S.tab n)) _ _=_;simp only[mC,B.kS _ _ ha,an8 hk,an7,aq3,cd]
  ·by_cases k1:KA G.out a=1
   ·have k2:KA G.out a≠49:=(by omega);obtain⟨a',Vy,Pw,p1,p2,p3,p4,pI,pS⟩:=ih (a+1) q' op (ns++[(tkA G.out a).2.2.2.2.2.1]) (by omega) (by omega) Nt (Eu.snoc (by omega) (G.Qq _)) h;refine⟨a',Vy,Pw,by omega,p2,p3,p4,(G.base.and pI).up fun n ⟨B,hp⟩=> ?_,(G.base.and pS).up fun n ⟨B,hp⟩=> ?_⟩
    ·show df (S.step (S.tab n)) _ _ _=_;simp only[kz,B.eI _ _ _ ha,an6 hk,an7,aq5,cc,ao8,B.tI _ _ hl,G.kdA hl,an6 k2,an8 k1,cd];rw[ad (dY (by have:=Eu.2;unfold lim;simp only[ao0,ao2];omega))];exact hp
    ·show eR (S.step (S.tab n)) _ _=_;simp only[mC,B.kS _ _ ha,an6 hk,an7,aq5,cc,B.tS _ _ hl,G.kdA hl,an8 k1];rw[ad (dY (by have:=Eu.2;unfold lim;simp only[ao0,ao2];omega))];exact hp
   ·obtain⟨a',Vy,Pw,p1,p2,p3,p4,pI,pS⟩:=ih (a+1) q' (bif decide (KA G.out a=49)then 1 else op) ns (by omega) (by omega) Nt (Eu.up (by omega)) h;refine⟨a',Vy,Pw,by omega,p2,p3,p4,(G.base.and pI).up fun n ⟨B,hp⟩=> ?_,(G.base.and pS).up fun n ⟨B,hp⟩=> ?_⟩
    ·show df (S.step (S.tab n)) _ _ _=_;simp only[kz,B.eI _ _ _ ha,an6 hk,an7,aq5,cc,ao8,B.tI _ _ hl,G.kdA hl,an6 k1]
     cases PH:decide (KA G.out a=49)with
     |true=>rw[PH]at hp;rw[cc];exact hp
     |false=>rw[PH]at hp;rw[cd,cd];exact hp
    ·show eR (S.step (S.tab n)) _ _=_;simp only[mC,B.kS _ _ ha,an6 hk,an7,aq5,cc,B.tS _ _ hl,G.kdA hl,an6 k1,cd]
     cases PH:decide (KA G.out a=49)with
     |true=>rw[PH]at hp;rw[cc];exact hp
     |false=>rw[PH]at hp;rw[cd];exact hp
def JF (b a:Nat):Prop:=∀(nd:List Node) (r:LI),b<G.out.length→a≤G.out.length→W nd≤4*a→Ac G.out (1028::r) a→∃(a' m:Nat) (iq:List Node),Nx G r a nd a' iq m∧
 (Evt fun n=>ke (S.tab n) (G.tI,(a:Int),nd,()) (b:Int)=some ((m:Int),(G.tI,(a':Int),iq,()),(),()))∧
 Evt fun n=>mN (S.tab n) (G.tS,(a:Int),nd,()) (36,(tkA G.out b).2.1,0,(tkA G.out b).2.2.2.1,0,0,[],[],[],())=some ((m:Int),(G.tS,(a':Int),iq,()),uN,())
theorem OT:(kinds.all fun k=>decide (stI 1028 k=bif decide (k=40)then .left [1024,41,1027]else .no))=true:=by kernel_rfl
theorem GI:(kinds.all fun k=>decide (stI 1027 k=bif decide (k=42)then .left [1000,43]else .no))=true:=by kernel_rfl
theorem NZ {b a:Nat}(hB:∀a',a<a'→JN G bR cW [1027] a'):JF G b a:=by
 intro nd r hb ha hn hA;have hL:=G.len;have ht:=of_decide_eq_true (G.tab OT a)
 by_cases hk:KA G.out a=40
 ·rw[an8 hk]at ht;obtain⟨hl,hA⟩:=bZ ht rfl hA ha;obtain⟨a1,op,ns,p1,p2,p3,Eu,pI,pS⟩:=NW G b nd (tkA G.out b).2.1 (tkA G.out b).2.2.2.1 (1027::r) (G.out.length+1) (a+1) [1024] 0 [] (by omega) (by omega) (.inl rfl) ⟨(fun _ h=>nomatch h),by simp⟩ hA;obtain⟨a2,m,ir,⟨n1,n2,n3,n4,n5⟩,eI,eS⟩:=hB (a1+1) (by omega) nd r (by omega) (by omega) p3;obtain⟨c,rfl⟩:∃c,a2=c+1:=⟨a2 - 1,by omega⟩;have CF:=iL (nd:=ir) (x:=(36,(tkA G.out b).2.1,(tkA G.out c).2.2.1,(tkA G.out b).2.2.2.1,op,0,[],ns,[(m:Int)],())) (Rq Eu.1 (by have:=Eu.2;omega) (by simp));refine⟨c+1,ir.length,ir++[(36,(tkA G.out b).2.1,(tkA G.out c).2.2.1,(tkA G.out b).2.2.2.1,op,0,[],ns,[(m:Int)],())],⟨by omega,n2,by simp,by omega,n5⟩,((G.base.and pI).and eI).up fun n ⟨⟨B,hp⟩,h⟩=> ?_,((G.base.and pS).and eS).up fun n ⟨⟨B,hp⟩,h⟩=> ?_⟩
  ·show ke (S.step (S.tab n)) _ _=_;simp only[xp,B.tI _ _ hl,an7,hp,aN,aq0,h,B.cI _ _ _ _ (show c<G.out.length by omega) hb (show ir.length≤300000 by have:=hJ ir;omega)];rfl
  ·show mN (S.step (S.tab n)) _ _=_;simp only[Av,B.tS _ _ hl,an7,hp,aN,aq0,B.tS _ _ p2,h,B.aS _ _ _ (show c<G.out.length by omega) (show ir.length≤300000 by have:=hJ ir;omega)]
 ·rw[an6 hk]at ht;exact(qk ht rfl hA ha).elim
end Go.Abs.D
end

section
namespace Go.Abs.D
variable(G:Toks)
def JT (a:Nat):Prop:=∀(nd:List Node) (r:LI),a≤G.out.length→W nd≤4*a→Ac G.out (1000::43::r) a→∃(a':Nat) (xs:LI) (iq:List Node),a≤a'∧a'<G.out.length∧Ac G.out r (a'+1)∧(xs.length≤a'∧W iq+4*a≤W nd+4*a')∧
 (Evt fun n=>fk (S.tab n) (G.tI,(a:Int),nd,())=some (xs,(G.tI,(a':Int),iq,()),()))∧
 Evt fun n=>ie (S.tab n) (G.tS,(a:Int),nd,()) 43=some (xs,(G.tS,(a':Int),iq,()),(),())
theorem Mq {a:Nat}(hT:JT G (a+1)):JN G bR cW [1027] a:=by
 intro nd r ha hn hA;have hL:=G.len;have ht:=of_decide_eq_true (G.tab GI a)
 by_cases hk:KA G.out a=42
 ·rw[an8 hk]at ht;obtain⟨hl,hA⟩:=bZ ht rfl hA ha;obtain⟨a1,xs,dF,n1,n2,n3,⟨n5,n4⟩,eI,eS⟩:=hT nd r (by omega) (by omega) hA;have CF:=iL (nd:=dF) (x:=(1,(tkA G.out a).2.1,(tkA G.out a1).2.2.1,(tkA G.out a).2.2.2.1,0,0,[],[],xs,())) (vh (by omega));refine⟨a1+1,dF.length,dF++[(1,(tkA G.out a).2.1,(tkA G.out a1).2.2.1,(tkA G.out a).2.2.2.1,0,0,[],[],xs,())],⟨by omega,by omega,by simp,by omega,n3⟩,(G.base.and eI).up fun n ⟨B,h⟩=> ?_,(G.base.and eS).up fun n ⟨B,h⟩=> ?_⟩
  ·show bR (S.step (S.tab n)) _=_;simp only[vF,B.tI _ _ hl,an7,h,B.tI _ _ n2,B.cI _ _ _ _ n2 hl (show dF.length≤300000 by have:=hJ dF;omega)];rfl
  ·show cW (S.step (S.tab n)) _=_;simp only[yY,B.tS _ _ hl,an7,B.nS,h,B.tS _ _ n2,B.aS _ _ _ n2 (show dF.length≤300000 by have:=hJ dF;omega)]
 ·rw[an6 hk]at ht;exact(qk ht rfl hA ha).elim
theorem Re:(kinds.all fun k=>decide (stI 1032 k=bif decide (k=44)then .left [1018,45,47,1018]else bif decide (k=48)then .left [1,47,1018]else stI 1018 k))=true:=by kernel_rfl
theorem Lt:(kinds.all fun k=>decide (stI 1029 k=bif je k||(decide (k=44)||decide (k=48))then(stI 1032 k).then [1030] .no else .gone)&&(decide (stI 1031 k=stI 1029 k)&&decide (stI 1030 k=bif decide (k=46)then .left [1031]else .gone)))=true:=by kernel_rfl
theorem TC:(kinds.all fun k=>decide (stI 1018 k≠ .gone))=true:=by kernel_rfl
structure Entry (a:Nat)(nd:List Node)(a' m:Nat)(iq:List Node):Prop where
 spec:Evt fun n=>kg (S.tab n) (G.tS,(a:Int),nd,())=some ((m:Int),(G.tS,(a':Int),iq,()),())
 impl:Evt fun n=>∀(b:Int) (ks:LI) (T:S.Tab),T=S.tab n→ks.length≤70000→bO (S.step T) (G.tI,(a:Int),nd,()) b (35,0,0,0,0,0,[],[],ks,())=
  (bP T (G.tI,(a':Int),iq,()) 46).bind fun d=>bO T d.2.1 b (35,0,0,0,0,0,[],[],ks++[(m:Int)],())
theorem A7 {α:Type}{l:List α}{x:α}(h:l.length≤140000):fits (l.length+[x].length)=true:=dY (by unfold lim;simp only[ao0,ao2];omega)
theorem MP {a:Nat}(ha:a≤G.out.length)(hX:∀a',a≤a'→JX G a'){nd:List Node}(hn:W nd≤4*a){r:LI}(RB:KA G.out a≠43)(hA:Ac G.out (1032::r) a):∃(a' m:Nat)(iq:List Node),a<a'∧a'≤G.out.length∧W iq+4*a≤W nd+4*a'∧Ac G.out r a'∧Entry G a nd a' m iq:=by
 have hL:=G.len;have ht:=of_decide_eq_true (G.tab Re a)
 have Cd:∀a:Nat,a≤G.out.length→(decide ((0:Int)≤(a:Int))&&decide ((a:Int)<(G.tS.length:Int)))=true:=fun a h=>al (by rw[G.lS];omega)
 by_cases k1:KA G.out a=44
 ·rw[an8 k1]at ht;have k2:KA G.out a≠48:=(by omega);obtain⟨hl,hA⟩:=bZ ht rfl hA ha;obtain⟨a1,m1,dF,⟨n1,n2,n3,n4,n5⟩,eI,eS⟩:=hX (a+1) (by omega) nd _ (by omega) (by omega) hA;obtain⟨oD,_,hA⟩:=iM n5 n2 (by decide);obtain⟨ox,_,hA⟩:=iM hA (by omega) (by decide);obtain⟨a2,m2,ir,⟨p1,p2,p3,p4,p5⟩,fI,fS⟩:=hX (a1+1+1) (by omega) dF _ (by omega) (by omega) hA;obtain⟨c,rfl⟩:∃c,a2=c+1:=⟨a2 - 1,by omega⟩;have hc:c<G.out.length:=(by omega);have CF:=iL (nd:=ir) (x:=(41,(tkA G.out a).2.1,(tkA G.out c).2.2.1,(tkA G.out a).2.2.2.1,0,0,[],[],[(m1:Int),(m2:Int)],())) (vh (by simp));refine⟨c+1,ir.length,ir++[(41,(tkA G.out a).2.1,(tkA G.out c).2.2.1,(tkA G.out a).2.2.2.1,0,0,[],[],[(m1:Int),(m2:Int)],())],by omega,p2,by omega,p5, ?_, ?_⟩
  ·have hj:Evt fun n=>fM (S.tab n) (G.tS,((a1+1+1:Nat):Int),dF,()) (41,(tkA G.out a).2.1,0,(tkA G.out a).2.2.2.1,0,0,[],[],[]++[(m1:Int)],())=some (Sum.inl ((G.tS,((c+1:Nat):Int),ir++[(41,(tkA G.out a).2.1,(tkA G.out c).2.2.1,(tkA G.out a).2.2.2.1,0,0,[],[],[(m1:Int),(m2:Int)],())],()),(ir.length:Int),())):=
    (G.base.and fS).up fun n ⟨B,h⟩=>by
     simp only[lp,h,an7];rw[ad (by rfl),B.aS _ _ _ hc (show ir.length≤300000 by have:=hJ ir;omega)];rfl
   refine((G.base.and eS).and hj).up fun n ⟨⟨B,h⟩,hj⟩=> ?_
   show kg (S.step (S.tab n)) _=_;rw[nQ];dsimp only;rw[ad (Cd a ha),G.aS a hl];simp only[B.nS,B.eS _ _ _ ha,an6 k2,an8 k1,an7,cd,cc,ao8,ap3,h,B.tS _ _ oD,B.tS _ _ ox];rw[ad (by rfl),hj];rfl
  ·refine((G.base.and eI).and fI).mono fun n ⟨⟨B,h⟩,h2⟩ b ks T hT Fs=> ?_
   subst hT;simp only[iw,B.eI a _ _ ha,an6 RB,an7,aq5,cc,ao8,B.kI a _ ha,an8 k1,B.tI _ _ hl,h,B.tI _ _ oD,B.tI _ _ ox,h2,B.cI _ _ _ _ hc hl (show ir.length≤300000 by have:=hJ ir;omega)];rw[ad (A7 (by omega))];rfl
 by_cases k2:KA G.out a=48
 ·rw[an6 k1,an8 k2]at ht;obtain⟨hl,hA⟩:=bZ ht rfl hA ha;obtain⟨oD,_,hA⟩:=iM hA (by omega) (by decide);obtain⟨ox,_,hA⟩:=iM hA (by omega) (by decide);obtain⟨a2,m2,ir,⟨p1,p2,p3,p4,p5⟩,fI,fS⟩:=hX (a+1+1+1) (by omega) nd _ (by omega) (by omega) hA;obtain⟨c,rfl⟩:∃c,a2=c+1:=⟨a2 - 1,by omega⟩;have hc:c<G.out.length:=(by omega);have CF:=iL (nd:=ir) (x:=(42,(tkA G.out a).2.1,(tkA G.out c).2.2.1,(tkA G.out a).2.2.2.1,0,0,(tkA G.out (a+1)).2.2.2.2.2.1,[],[(m2:Int)],())) (Ro (G.Qq _) (by simp));refine⟨c+1,ir.length,ir++[(42,(tkA G.out a).2.1,(tkA G.out c).2.2.1,(tkA G.out a).2.2.2.1,0,0,(tkA G.out (a+1)).2.2.2.2.2.1,[],[(m2:Int)],())],by omega,p2,by omega,p5, ?_, ?_⟩
  ·have hj:Evt fun n=>fM (S.tab n) (G.tS,((a+1+1+1:Nat):Int),nd,()) (42,(tkA G.out a).2.1,0,(tkA G.out a).2.2.2.1,0,0,(tkA G.out (a+1)).2.2.2.2.2.1,[],[],())=some (Sum.inl ((G.tS,((c+1:Nat):Int),ir++[(42,(tkA G.out a).2.1,(tkA G.out c).2.2.1,(tkA G.out a).2.2.2.1,0,0,(tkA G.out (a+1)).2.2.2.2.2.1,[],[(m2:Int)],())],()),(ir.length:Int),())):=
    (G.base.and fS).up fun n ⟨B,h⟩=>by
     simp only[lp,h,an7];rw[ad (by rfl),B.aS _ _ _ hc (show ir.length≤300000 by have:=hJ ir;omega)];rfl
   refine(G.base.and hj).up fun n ⟨B,hj⟩=> ?_
   show kg (S.step (S.tab n)) _=_;rw[nQ];dsimp only;rw[ad (Cd a ha),G.aS a hl];simp only[B.nS,B.eS _ _ _ ha,an8 k2,an7,cc,ap3,B.tS _ _ oD,B.tS _ _ ox,hj,aN,aq0]
  ·refine(G.base.and fI).mono fun n ⟨B,h2⟩ b ks T hT Fs=> ?_
   subst hT;simp only[iw,B.eI a _ _ ha,an6 RB,an7,aq5,cc,cd,ao8,B.kI a _ ha,an6 k1,an8 k2,B.tI _ _ hl,B.tI _ _ oD,B.tI _ _ ox,h2,B.cI _ _ _ _ hc hl (show ir.length≤300000 by have:=hJ ir;omega)];rw[ad (A7 (by omega))];rfl
 ·rw[an6 k1,an6 k2]at ht
  have hA:Ac G.out (1018::r) a:=by
   rcases tL ha hA with⟨l,e,hl,h⟩|⟨e,h⟩
   ·rw[ht]at e;exact Sb e hl h
   ·rw[ht]at e;exact absurd e (of_decide_eq_true (G.tab TC a))
  obtain⟨a2,m2,ir,⟨p1,p2,p3,p4,p5⟩,fI,fS⟩:=hX a (aq2 _) nd r ha hn hA;obtain⟨c,rfl⟩:∃c,a2=c+1:=⟨a2 - 1,by omega⟩;have hc:c<G.out.length:=(by omega);have hl:a<G.out.length:=(by omega);have CF:=iL (nd:=ir) (x:=(40,(tkA G.out a).2.1,(tkA G.out c).2.2.1,(tkA G.out a).2.2.2.1,0,0,[],[],[(m2:Int)],())) (vh (by simp));refine⟨c+1,ir.length,ir++[(40,(tkA G.out a).2.1,(tkA G.out c).2.2.1,(tkA G.out a).2.2.2.1,0,0,[],[],[(m2:Int)],())],by omega,p2,by omega,p5, ?_, ?_⟩
  ·have hj:Evt fun n=>fM (S.tab n) (G.tS,(a:Int),nd,()) (40,(tkA G.out a).2.1,0,(tkA G.out a).2.2.2.1,0,0,[],[],[],())=some (Sum.inl ((G.tS,((c+1:Nat):Int),ir++[(40,(tkA G.out a).2.1,(tkA G.out c).2.2.1,(tkA G.out a).2.2.2.1,0,0,[],[],[(m2:Int)],())],()),(ir.length:Int),())):=
    (G.base.and fS).up fun n ⟨B,h⟩=>by
     simp only[lp,h,an7];rw[ad (by rfl),B.aS _ _ _ hc (show ir.length≤300000 by have:=hJ ir;omega)];rfl
   refine(G.base.and hj).up fun n ⟨B,hj⟩=> ?_
   show kg (S.step (S.tab n)) _=_;rw[nQ];dsimp only;rw[ad (Cd a ha),G.aS a hl];simp only[B.nS,B.eS _ _ _ ha,an6 k2,an6 k1,an7,cd,ao8,hj,aN,aq0]
  ·refine(G.base.and fI).mono fun n ⟨B,h2⟩ b ks T hT Fs=> ?_
   subst hT;simp only[iw,B.eI a _ _ ha,an6 RB,an7,aq5,cc,cd,ao8,B.kI a _ ha,an6 k1,an6 k2,h2,B.cI _ _ _ _ hc hl (show ir.length≤300000 by have:=hJ ir;omega)];rw[ad (A7 (by omega))];rfl
theorem JR (b:Nat)(f ln:Int)(r:LI):∀(d a:Nat)(ks:LI)(nd:List Node)(q:Int),G.out.length<a+d→(∀a',a≤a'→JX G a')→a≤G.out.length→ks.length≤a→W nd≤4*a→(q=1029∨q=1031∨(q=1030∧KA G.out a≠46))→Ac G.out (q::43::r) a→
  ∃(a':Nat) (Nr:LI) (iq:List Node),a≤a'∧a'<G.out.length∧W iq+4*a≤W nd+4*a'∧(Nr.length≤a'∧Ac G.out r (a'+1))∧
   (Evt fun n=>bO (S.tab n) (G.tI,(a:Int),nd,()) ↑b (35,0,0,0,0,0,[],[],ks,())=some (Sum.inl ((G.tI,((a'+1:Nat):Int),iq,()),(b:Int),(35,0,0,0,0,0,[],[],Nr,()),())))∧
   Evt fun n=>fj (S.tab n) (G.tS,(a:Int),nd,()) (35,f,0,ln,0,0,[],[],ks,())=some (Sum.inl ((G.tS,(a':Int),iq,()),(35,f,0,ln,0,0,[],[],Nr,()),())):=by
 intro d
 induction d with
 |zero=>intro a ks nd q h _ h2;omega
 |succ d ih=>
  intro a ks nd q hd hX ha Fs hn hq hA;have hL:=G.len;have ht:=G.tab Lt a;simp only[ao3,ao1]at ht;obtain⟨t1,t2,t3⟩:=ht
  have fin:Ac G.out (43::r) a→∃(a':Nat) (Nr:LI) (iq:List Node),a≤a'∧a'<G.out.length∧W iq+4*a≤W nd+4*a'∧(Nr.length≤a'∧Ac G.out r (a'+1))∧
   (Evt fun n=>bO (S.tab n) (G.tI,(a:Int),nd,()) ↑b (35,0,0,0,0,0,[],[],ks,())=some (Sum.inl ((G.tI,((a'+1:Nat):Int),iq,()),(b:Int),(35,0,0,0,0,0,[],[],Nr,()),())))∧
   Evt fun n=>fj (S.tab n) (G.tS,(a:Int),nd,()) (35,f,0,ln,0,0,[],[],ks,())=some (Sum.inl ((G.tS,(a':Int),iq,()),(35,f,0,ln,0,0,[],[],Nr,()),())):=fun h=>by
   obtain⟨hl,hk,h⟩:=iM h ha (by decide);refine⟨a,ks,nd,aq2 _,hl,aq2 _,⟨Fs,h⟩,G.base.up fun n B=> ?_,G.base.up fun n B=> ?_⟩
   ·show bO (S.step (S.tab n)) _ _ _=_;simp only[iw,B.eI a _ _ ha,an8 hk,an7,aq3,cd,ap3]
   ·show fj (S.step (S.tab n)) _ _=_;simp only[lR,B.kS a _ ha,an8 hk,an7,aq3,cd]
  by_cases Fq:q=1030∧KA G.out a≠46
  ·obtain⟨rfl,Et⟩:=Fq;rw[an6 Et]at t3;exact fin (eY t3 rfl hA ha)
  ·have hs:stI q (KA G.out a)=stI 1029 (KA G.out a):=by
    rcases hq with rfl|rfl|h
    ·rfl
    ·exact t2
    ·exact absurd h Fq
   cases hu:(je (KA G.out a)||(decide (KA G.out a=44)||decide (KA G.out a=48)))with
   |false=>rw[hu]at t1;exact fin (eY (hs.trans t1) rfl hA ha)
   |true=>
    rw[hu]at t1;have hA:=Ea (hs.trans t1) hA ha
    have RB:KA G.out a≠43:=fun e=>by rw[e]at hu;exact absurd hu (by decide)
    obtain⟨a1,m,dF,n1,n2,n3,n4,hE⟩:=MP G ha hX hn RB hA
    by_cases Et:KA G.out a1=46
    ·have hr:=of_decide_eq_true (show decide (stI 1030 (KA G.out a1)=bif decide (KA G.out a1=46)then .left [1031]else .gone)=true by
      have:=G.tab Lt a1;simp only[ao3]at this
      exact this.2.2)
     rw[an8 Et]at hr;obtain⟨oD,hA⟩:=bZ hr rfl n4 n2;obtain⟨a2,WA,ir,p1,p2,p3,p4,pI,pS⟩:=ih (a1+1) (ks++[(m:Int)]) dF 1031 (by omega) (fun a' h=>hX a' (by omega)) (by omega) (by simp;omega) (by omega) (.inr (.inl rfl)) hA;refine⟨a2,WA,ir,by omega,p2,by omega,p4,((G.base.and hE.impl).and pI).up fun n ⟨⟨B,h⟩,hp⟩=> ?_,((G.base.and hE.spec).and pS).up fun n ⟨⟨B,h⟩,hp⟩=> ?_⟩
     ·show bO (S.step (S.tab n)) _ _ _=_;rw[h _ _ _ rfl (by omega),B.eI _ _ _ n2,an8 Et];exact hp
     ·show fj (S.step (S.tab n)) _ _=_;simp only[lR,B.kS a _ ha,an6 RB,an7,aq5,cc,h];rw[ad (A7 (by omega)),B.eS _ _ _ n2,an8 Et];exact hp
    ·obtain⟨a2,WA,ir,p1,p2,p3,p4,pI,pS⟩:=ih a1 (ks++[(m:Int)]) dF 1030 (by omega) (fun a' h=>hX a' (by omega)) n2 (by simp;omega) (by omega) (.inr (.inr ⟨rfl,Et⟩)) n4;refine⟨a2,WA,ir,by omega,p2,by omega,p4,((G.base.and hE.impl).and pI).up fun n ⟨⟨B,h⟩,hp⟩=> ?_,((G.base.and hE.spec).and pS).up fun n ⟨⟨B,h⟩,hp⟩=> ?_⟩
     ·show bO (S.step (S.tab n)) _ _ _=_;rw[h _ _ _ rfl (by omega),B.eI _ _ _ n2,an6 Et];exact hp
     ·show fj (S.step (S.tab n)) _ _=_;simp only[lR,B.kS a _ ha,an6 RB,an7,aq5,cc,h];rw[ad (A7 (by omega)),B.eS _ _ _ n2,an6 Et];exact hp
theorem XU:MU [1021]:=fun s hs=>by
 obtain rfl:=List.mem_singleton.1 hs;exact⟨1021,List.mem_singleton.2 rfl,1021,List.mem_singleton.2 rfl,by kernel_rfl,by kernel_rfl,by kernel_rfl⟩
theorem QD:(kinds.all fun k=>decide (k=48)||decide (k=44)||decide (k=40)||decide (stI 1021 k= .gone))=true:=by kernel_rfl
theorem X6:(kinds.all fun k=> !rN k||decide (Jg 0 [((25:Int),(21:Int)),(50,22),(62,19),(69,20)] k=unK k))=true:=by kernel_rfl
theorem QM {a:Nat}(hX:∀a',a<a'→JX G a')(hU:JN G bV c8 [1020] (a+1))(hF:∀a',a<a'→JF G a a'):JN G bV c8 [1020] a:=by
 intro nd r ha hn hA;have hL:=G.len;have hA:Ac G.out (1020::r) a:=hA;have ht:=of_decide_eq_true (G.tab S2 a);have EH:(decide ((0:Int)≤(a:Int))&&decide ((a:Int)<(G.tI.length:Int)))=true:=al (by rw[G.lI];omega);have Qo:=G.tab SY a
 cases hp:rN (KA G.out a)with
 |true=>
  rw[hp]at ht Qo;simp only[aq3,ap0,ao3,at0,ao5]at Qo;obtain⟨⟨_,k1⟩,EL⟩:=Qo;obtain⟨hl,hA⟩:=bZ ht rfl hA ha;obtain⟨a1,m1,dF,⟨n1,n2,n3,n4,n5⟩,eI,eS⟩:=hU nd r (by omega) (by omega) hA;obtain⟨c,rfl⟩:∃c,a1=c+1:=⟨a1 - 1,by omega⟩;have hc:c<G.out.length:=(by omega);have XQ:=G.tab X6 a;rw[hp]at XQ;have XQ:=of_decide_eq_true (show decide (Jg 0 [((25:Int),(21:Int)),(50,22),(62,19),(69,20)] (KA G.out a)=unK (KA G.out a))=true from XQ);have CF:=iL (nd:=dF) (x:=(30,(tkA G.out a).2.1,(tkA G.out c).2.2.1,(tkA G.out a).2.2.2.1,unK (KA G.out a),0,[],[],[(m1:Int)],())) (vh (by simp));refine⟨c+1,dF.length,dF++[(30,(tkA G.out a).2.1,(tkA G.out c).2.2.1,(tkA G.out a).2.2.2.1,unK (KA G.out a),0,[],[],[(m1:Int)],())],⟨by omega,n2,by simp,by omega,n5⟩,(G.base.and eI).up fun n ⟨B,h⟩=> ?_,(G.base.and eS).up fun n ⟨B,h⟩=> ?_⟩
  ·show bV (S.step (S.tab n)) _=_;rw[cu];dsimp only;rw[ad EH,G.kI a ha,B.pI,hp];simp only[an7,cc,B.tI _ _ hl,h,XQ,B.cI _ _ _ _ hc hl (show dF.length≤300000 by have:=hJ dF;omega)];rfl
  ·show c8 (S.step (S.tab n)) _=_;simp only[cP,B.kS a _ ha,an6 k1,an6 EL,an7,cd,B.tS _ _ hl,G.kdA hl,B.pS,hp,cc,h,B.nS,B.sS,B.aS _ _ _ hc (show dF.length≤300000 by have:=hJ dF;omega)]
 |false=>
  rw[hp]at ht
  have open_:∀hl:a<G.out.length,((KA G.out a=1∧Ac G.out (1021::r) (a+1))∨(KA G.out a=40∧Ac G.out (1018::41::1021::r) (a+1)))→∃(a' m:Nat) (iq:List Node),Nx G r a nd a' iq m∧
    (Evt fun n=>bV (S.tab n) (G.tI,(a:Int),nd,())=some ((m:Int),(G.tI,(a':Int),iq,()),()))∧Evt fun n=>c8 (S.tab n) (G.tS,(a:Int),nd,())=some ((m:Int),(G.tS,(a':Int),iq,()),()):=fun hl EI=>by
   obtain⟨a1,m1,dF,s',Sz,⟨n1,n2,n3,n4,n5⟩,⟨q1,q2,q3⟩,eI,eS⟩:=Cj G XU hX nd r 1021 (List.mem_singleton.2 rfl) hl hn EI;obtain rfl:=List.mem_singleton.1 Sz;have hg:=G.tab QD a1;rw[an6 q1,an6 q2,an6 q3]at hg;refine⟨a1,m1,dF,⟨n1,n2,n3,n4,eY (of_decide_eq_true hg) rfl n5 n2⟩,(G.base.and eI).up fun n ⟨B,h⟩=> ?_,(G.base.and eS).up fun n ⟨B,h⟩=> ?_⟩
   ·show bV (S.step (S.tab n)) _=_;rw[cu];dsimp only;rw[ad EH,G.kI a ha,B.pI,hp]
    have jj:∀k:Int,k≠1→k≠40→KA G.out a≠k:=fun k h1 h2 e=>by rcases EI with⟨e',_⟩|⟨e',_⟩<;>omega
    simp only[an7,cd,an6 (jj 2 (by decide) (by decide)),an6 (jj 3 (by decide) (by decide)),an6 (jj 4 (by decide) (by decide)),an6 (jj 24 (by decide) (by decide)),an6 (jj 29 (by decide) (by decide)),an6 (jj 17 (by decide) (by decide)),an6 (jj 49 (by decide) (by decide)),an6 (jj 18 (by decide) (by decide)),an6 (jj 42 (by decide) (by decide)),h]
   ·show c8 (S.step (S.tab n)) _=_
    rcases EI with⟨e,_⟩|⟨e,_⟩
    ·simp only[cP,B.kS a _ ha,an8 e,an7,cc,h]
    ·have e1:KA G.out a≠1:=(by omega);simp only[cP,B.kS a _ ha,an8 e,an6 e1,an7,cc,cd,h]
  by_cases k1:KA G.out a=1
  ·rw[an8 k1]at ht;obtain⟨hl,hA⟩:=bZ ht rfl hA ha;exact open_ hl (.inl ⟨k1,hA⟩)
  by_cases EL:KA G.out a=40
  ·rw[an6 k1,an8 EL]at ht;obtain⟨hl,hA⟩:=bZ ht rfl hA ha;exact open_ hl (.inr ⟨EL,hA⟩)
  rw[an6 k1,an6 EL]at ht
  by_cases k18:KA G.out a=18
  ·rw[an8 k18]at ht;obtain⟨hl,hA⟩:=bZ ht rfl hA ha;obtain⟨a1,m1,dF,⟨n1,n2,n3,n4,n5⟩,eI,eS⟩:=hF (a+1) (by omega) nd r hl (by omega) (by omega) hA;refine⟨a1,m1,dF,⟨by omega,n2,n3,by omega,n5⟩,(G.base.and eI).up fun n ⟨B,h⟩=> ?_,(G.base.and eS).up fun n ⟨B,h⟩=> ?_⟩
   ·show bV (S.step (S.tab n)) _=_;rw[cu];dsimp only;rw[ad EH,G.kI a ha,B.pI,hp]
    have jj:∀k:Int,k≠18→KA G.out a≠k:=fun k h1 e=>by omega
    simp only[an7,cd,cc,an6 (jj 2 (by decide)),an6 (jj 3 (by decide)),an6 (jj 4 (by decide)),an6 (jj 24 (by decide)),an6 (jj 29 (by decide)),an6 (jj 17 (by decide)),an6 (jj 49 (by decide)),an8 k18,B.tI _ _ hl,h]
   ·show c8 (S.step (S.tab n)) _=_
    have jj:∀k:Int,k≠18→KA G.out a≠k:=fun k h1 e=>by omega
    simp only[cP,B.kS a _ ha,an6 k1,an6 EL,an7,cd,cc,B.tS _ _ hl,G.kdA hl,B.pS,hp,an6 (jj 2 (by decide)),an6 (jj 3 (by decide)),an6 (jj 4 (by decide)),an6 (jj 24 (by decide)),an6 (jj 29 (by decide)),an6 (jj 17 (by decide)),an6 (jj 49 (by decide)),an8 k18,B.nS,h]
  rw[an6 k18]at ht
  by_cases k42:KA G.out a=42
  ·rw[an8 k42]at ht;obtain⟨hl,hA⟩:=bZ ht rfl hA ha;obtain⟨a1,ks,dF,n1,n2,n3,⟨n5,n4⟩,eI,eS⟩:=JR G a (tkA G.out a).2.1 (tkA G.out a).2.2.2.1 r (G.out.length+1) (a+1) [] nd 1029 (by omega) (fun a' h=>hX a' (by omega)) (by omega) (by simp) (by omega) (.inl rfl) hA
   have hT:Evt fun n=>nT (S.tab n) (G.tI,(a:Int),nd,())=some ((dF.length:Int),(G.tI,((a1+1:Nat):Int),dF++[(35,(tkA G.out a).2.1,(tkA G.out a1).2.2.1,(tkA G.out a).2.2.2.1,0,0,[],[],ks,())],()),()):=(G.base.and eI).up fun n ⟨B,h⟩=>by
    simp only[vt,B.tI _ _ hl,an7,h,aN,aq0,B.cI _ _ _ _ n2 hl (show dF.length≤300000 by have:=hJ dF;omega)];rfl
   have CF:=iL (nd:=dF) (x:=(35,(tkA G.out a).2.1,(tkA G.out a1).2.2.1,(tkA G.out a).2.2.2.1,0,0,[],[],ks,())) (vh (by omega));refine⟨a1+1,dF.length,dF++[(35,(tkA G.out a).2.1,(tkA G.out a1).2.2.1,(tkA G.out a).2.2.2.1,0,0,[],[],ks,())],⟨by omega,by omega,by simp,by omega,n4⟩,(G.base.and hT).up fun n ⟨B,h⟩=> ?_,(G.base.and eS).up fun n ⟨B,h⟩=> ?_⟩
   ·show bV (S.step (S.tab n)) _=_;rw[cu];dsimp only;rw[ad EH,G.kI a ha,B.pI,hp]
    have jj:∀k:Int,k≠42→KA G.out a≠k:=fun k h1 e=>by omega
    simp only[an7,cd,cc,an6 (jj 2 (by decide)),an6 (jj 3 (by decide)),an6 (jj 4 (by decide)),an6 (jj 24 (by decide)),an6 (jj 29 (by decide)),an6 (jj 17 (by decide)),an6 (jj 49 (by decide)),an6 (jj 18 (by decide)),an8 k42,h]
   ·show c8 (S.step (S.tab n)) _=_
    have jj:∀k:Int,k≠42→KA G.out a≠k:=fun k h1 e=>by omega
    simp only[cP,B.kS a _ ha,an6 k1,an6 EL,an7,cd,cc,B.tS _ _ hl,G.kdA hl,B.pS,hp,an6 (jj 2 (by decide)),an6 (jj 3 (by decide)),an6 (jj 4 (by decide)),an6 (jj 24 (by decide)),an6 (jj 29 (by decide)),an6 (jj 17 (by decide)),an6 (jj 49 (by decide)),an6 (jj 18 (by decide)),B.nS,h,aN,aq0,B.tS _ _ n2,B.aS _ _ _ n2 (show dF.length≤300000 by have:=hJ dF;omega)]
  rw[an6 k42]at ht
  cases hu:je (KA G.out a)with
  |false=>rw[hu]at ht;exact(qk ht rfl hA ha).elim
  |true=>
   rw[hu]at ht;obtain⟨hl,hA⟩:=bZ ht rfl hA ha
   have leaf:∀(ki:Int) (x5:Int) (x6:LI) (aa1:∀c∈x6,isByte c),(∀(T:S.Tab),PW G.out G.tI G.tS T→bV (S.step T) (G.tI,(a:Int),nd,())=(cF T (ki,0,0,0,0,x5,x6,[],[],()) (G.tI,(a:Int),nd,()) ↑a).bind fun d=>some (d.1,d.2.2.1,()))→
     (∀(T:S.Tab),PW G.out G.tI G.tS T→c8 (S.step T) (G.tS,(a:Int),nd,())=(aE T (G.tS,((a+1:Nat):Int),nd,()) (ki,(tkA G.out a).2.1,0,(tkA G.out a).2.2.2.1,0,x5,x6,[],[],())).bind fun d=>some (d.1,d.2.1,()))→
     ∃(a' m:Nat) (iq:List Node),Nx G r a nd a' iq m∧(Evt fun n=>bV (S.tab n) (G.tI,(a:Int),nd,())=some ((m:Int),(G.tI,(a':Int),iq,()),()))∧Evt fun n=>c8 (S.tab n) (G.tS,(a:Int),nd,())=some ((m:Int),(G.tS,(a':Int),iq,()),()):=fun ki x5 x6 aa1 h1 h2=>by
    have CF:=iL (nd:=nd) (x:=(ki,(tkA G.out a).2.1,(tkA G.out a).2.2.1,(tkA G.out a).2.2.2.1,0,x5,x6,[],[],())) (Ro aa1 (by simp));refine⟨a+1,nd.length,nd++[(ki,(tkA G.out a).2.1,(tkA G.out a).2.2.1,(tkA G.out a).2.2.2.1,0,x5,x6,[],[],())],⟨by omega,by omega,by simp,by omega,hA⟩,G.base.up fun n B=> ?_,G.base.up fun n B=> ?_⟩
    ·show bV (S.step (S.tab n)) _=_;rw[h1 _ B,B.uI _ _ _ _ hl hl (show nd.length≤300000 by have:=hJ nd;omega)];rfl
    ·show c8 (S.step (S.tab n)) _=_;rw[h2 _ B,B.aS _ _ _ hl (show nd.length≤300000 by have:=hJ nd;omega)];rfl
   by_cases k2:KA G.out a=2
   ·exact leaf 23 (tkA G.out a).2.2.2.2.1 [] (fun _ h=>nomatch h) (fun T B=>by rw[cu];dsimp only;rw[ad EH,G.kI a ha,B.pI,hp];simp only[an7,cd,cc,G.aI a hl,an8 k2]) (fun T B=>by simp only[cP,B.kS a _ ha,an6 k1,an6 EL,an7,cd,cc,B.tS _ _ hl,G.kdA hl,B.pS,hp,an8 k2,B.nS])
   by_cases k3:KA G.out a=3
   ·exact leaf 24 0 (tkA G.out a).2.2.2.2.2.1 (G.Qq _) (fun T B=>by rw[cu];dsimp only;rw[ad EH,G.kI a ha,B.pI,hp];simp only[an7,cd,cc,G.aI a hl,an6 k2,an8 k3]) (fun T B=>by simp only[cP,B.kS a _ ha,an6 k1,an6 EL,an7,cd,cc,B.tS _ _ hl,G.kdA hl,B.pS,hp,an6 k2,an8 k3,B.nS])
   by_cases k4:KA G.out a=4
   ·exact leaf 25 0 (tkA G.out a).2.2.2.2.2.1 (G.Qq _) (fun T B=>by rw[cu];dsimp only;rw[ad EH,G.kI a ha,B.pI,hp];simp only[an7,cd,cc,G.aI a hl,an6 k2,an6 k3,an8 k4]) (fun T B=>by simp only[cP,B.kS a _ ha,an6 k1,an6 EL,an7,cd,cc,B.tS _ _ hl,G.kdA hl,B.pS,hp,an6 k2,an6 k3,an8 k4,B.nS])
   by_cases k24:KA G.out a=24
   ·exact leaf 20 0 [] (fun _ h=>nomatch h) (fun T B=>by rw[cu];dsimp only;rw[ad EH,G.kI a ha,B.pI,hp];simp only[an7,cd,cc,G.aI a hl,an6 k2,an6 k3,an6 k4,an8 k24]) (fun T B=>by simp only[cP,B.kS a _ ha,an6 k1,an6 EL,an7,cd,cc,B.tS _ _ hl,G.kdA hl,B.pS,hp,an6 k2,an6 k3,an6 k4,an8 k24,B.nS])
   by_cases k29:KA G.out a=29
   ·exact leaf 21 0 [] (fun _ h=>nomatch h) (fun T B=>by rw[cu];dsimp only;rw[ad EH,G.kI a ha,B.pI,hp];simp only[an7,cd,cc,G.aI a hl,an6 k2,an6 k3,an6 k4,an6 k24,an8 k29]) (fun T B=>by simp only[cP,B.kS a _ ha,an6 k1,an6 EL,an7,cd,cc,B.tS _ _ hl,G.kdA hl,B.pS,hp,an6 k2,an6 k3,an6 k4,an6 k24,an8 k29,B.nS])
   by_cases k17:KA G.out a=17
   ·exact leaf 22 0 [] (fun _ h=>nomatch h) (fun T B=>by rw[cu];dsimp only;rw[ad EH,G.kI a ha,B.pI,hp];simp only[an7,cd,cc,G.aI a hl,an6 k2,an6 k3,an6 k4,an6 k24,an6 k29,an8 k17]) (fun T B=>by simp only[cP,B.kS a _ ha,an6 k1,an6 EL,an7,cd,cc,B.tS _ _ hl,G.kdA hl,B.pS,hp,an6 k2,an6 k3,an6 k4,an6 k24,an6 k29,an8 k17,B.nS])
   by_cases k49:KA G.out a=49
   ·exact leaf 27 0 [] (fun _ h=>nomatch h) (fun T B=>by rw[cu];dsimp only;rw[ad EH,G.kI a ha,B.pI,hp];simp only[an7,cd,cc,G.aI a hl,an6 k2,an6 k3,an6 k4,an6 k24,an6 k29,an6 k17,an8 k49]) (fun T B=>by simp only[cP,B.kS a _ ha,an6 k1,an6 EL,an7,cd,cc,B.tS _ _ hl,G.kdA hl,B.pS,hp,an6 k2,an6 k3,an6 k4,an6 k24,an6 k29,an6 k17,an8 k49,B.nS])
   exfalso
   unfold je at hu;rw[hp,an6 k1,an6 EL,an6 k18,an6 k42,an6 k2,an6 k3,an6 k4,an6 k24,an6 k29,an6 k17,an6 k49]at hu;cases hu
end Go.Abs.D
end

section
namespace Go.Abs.D
variable(G:Toks)
def I3 (Q:LI→Prop):Prop:=∀st a,Q st→a≤G.out.length→Ac G.out st a→KA G.out a=46→a<G.out.length∧∃Jr,Q Jr∧Ac G.out (1::Jr) (a+1)
theorem J8 {Q:LI→Prop}(hQ:I3 G Q)(nd:List Node):∀(d a:Nat)(st:LI)(ns:List LI),G.out.length<a+d→a≤G.out.length→nmO ns a→Q st→Ac G.out st a→
  ∃(a':Nat) (Jr:LI) (Pw:List LI),a≤a'∧a'≤G.out.length∧Q Jr∧Ac G.out Jr a'∧KA G.out a'≠46∧nmO Pw a'∧
   (Evt fun n=>fT (S.tab n) (G.tI,(a:Int),nd,()) ns=some (Sum.inl ((G.tI,(a':Int),nd,()),Pw,())))∧
   Evt fun n=>∀t,fg (S.tab n) (G.tS,(a:Int),nd,()) t ns=some (Sum.inl ((G.tS,(a':Int),nd,()),Pw,())):=by
 intro d
 induction d with
 |zero=>intro a st ns h h2;omega
 |succ d ih=>
  intro a st ns hd ha hn hq hA;have hL:=G.len
  by_cases hk:KA G.out a=46
  ·obtain⟨hl,Um,q1,WI⟩:=hQ st a hq ha hA hk;obtain⟨oD,_,WI⟩:=iM WI (by omega) (by decide);obtain⟨a2,Qm,Zw,p1,p2,p3,p4,p5,p6,pI,pS⟩:=ih (a+1+1) Um (ns++[(tkA G.out (a+1)).2.2.2.2.2.1]) (by omega) (by omega) (hn.snoc (by omega) (G.Qq _)) q1 WI;refine⟨a2,Qm,Zw,by omega,p2,p3,p4,p5,p6,(G.base.and pI).up fun n ⟨B,h⟩=> ?_,(G.base.and pS).up fun n ⟨B,h⟩ t=> ?_⟩
   ·show fT (S.step (S.tab n)) _ _=_;simp only[nz,B.eI _ _ _ ha,an8 hk,an7,cc,ap3,B.tI _ _ oD];rw[ad (A7 (by have:=hn.2;omega))];exact h
   ·show fg (S.step (S.tab n)) _ _ _=_;simp only[lT,B.eS _ _ _ ha,an8 hk,an7,cc,ap3,B.tS _ _ oD];rw[ad (A7 (by have:=hn.2;omega))];exact h _
  ·refine⟨a,st,ns,aq2 _,ha,hq,hA,hk,hn,G.base.up fun n B=> ?_,G.base.up fun n B t=> ?_⟩
   ·show fT (S.step (S.tab n)) _ _=_;simp only[nz,B.eI _ _ _ ha,an6 hk,an7,cd,ao8]
   ·show fg (S.step (S.tab n)) _ _ _=_;simp only[lT,B.eS _ _ _ ha,an6 hk,an7,cd,ao8]
theorem AN {Q:LI→Prop}(hQ:I3 G Q)(nd:List Node){a:Nat}{st:LI}(ha:a≤G.out.length)(hq:Q st)(hA:Ac G.out (1::st) a):
  ∃(a':Nat) (Jr:LI) (ns:List LI),a<a'∧a'≤G.out.length∧Q Jr∧Ac G.out Jr a'∧KA G.out a'≠46∧nmO ns a'∧
   (Evt fun n=>iA (S.tab n) (G.tI,(a:Int),nd,())=some (ns,(G.tI,(a':Int),nd,()),()))∧
   Evt fun n=>gy (S.tab n) (G.tS,(a:Int),nd,())=some (ns,(G.tS,(a':Int),nd,()),()):=by
 obtain⟨hl,_,hA⟩:=iM hA ha (by decide);obtain⟨a2,Qm,Zw,p1,p2,p3,p4,p5,p6,pI,pS⟩:=J8 G hQ nd (G.out.length+1) (a+1) st [(tkA G.out a).2.2.2.2.2.1] (by omega) (by omega) ⟨fun x hx=>by rw[List.mem_singleton.1 hx];exact G.Qq _,by simp⟩ hq hA;refine⟨a2,Qm,Zw,by omega,p2,p3,p4,p5,p6,(G.base.and pI).up fun n ⟨B,h⟩=> ?_,(G.base.and pS).up fun n ⟨B,h⟩=> ?_⟩
 ·show iA (S.step (S.tab n)) _=_;simp only[vE,B.tI _ _ hl,an7,h,aN,aq0]
 ·show gy (S.step (S.tab n)) _=_;simp only[r4,B.tS _ _ hl,an7,h,aN,aq0]
abbrev JB (a:Nat):Prop:=JN G bR cW [1027] a
theorem Th:(kinds.all fun k=>decide (stI 1003 k=bif decide (k=15)then .left [1018,1027,1003]else bif decide (k=16)then .left [1027]else .gone))=true:=by kernel_rfl
def JC (a:Nat):Prop:=∀(nd:List Node) (r:LI),a<G.out.length→W nd≤4*a→Ac G.out (1018::1027::1003::r) (a+1)→∃(a' m:Nat) (iq:List Node),Nx G r a nd a' iq m∧
 (Evt fun n=>fJ (S.tab n) (G.tI,(a:Int),nd,())=some ((m:Int),(G.tI,(a':Int),iq,()),()))∧
 Evt fun n=>iH (S.tab n) (G.tS,((a+1:Nat):Int),nd,()) (tkA G.out a)=some ((m:Int),(G.tS,(a':Int),iq,()),((),(),(),(),(),(),()),())
theorem MS {a:Nat}(hX:∀a',a<a'→JX G a')(hB:∀a',a<a'→JB G a')(hC:∀a',a<a'→JC G a'):JC G a:=by
 intro nd r hl hn hA;have hL:=G.len;obtain⟨a1,m1,dF,⟨n1,n2,n3,n4,n5⟩,eI,eS⟩:=hX (a+1) (by omega) nd _ (by omega) (by omega) hA;obtain⟨a2,m2,ir,⟨p1,p2,p3,p4,p5⟩,fI,fS⟩:=hB a1 (by omega) dF (1003::r) n2 (by omega) n5;have ht:=of_decide_eq_true (G.tab Th a2)
 by_cases k1:KA G.out a2=15
 ·rw[an8 k1]at ht;obtain⟨ox,hA⟩:=bZ ht rfl p5 p2;obtain⟨a3,m3,nL,⟨q1,q2,q3,q4,q5⟩,gI,gS⟩:=hC a2 (by omega) ir r ox (by omega) hA;obtain⟨c,rfl⟩:∃c,a3=c+1:=⟨a3 - 1,by omega⟩;have hc:c<G.out.length:=(by omega);have CF:=iL (nd:=nL) (x:=(7,(tkA G.out a).2.1,(tkA G.out c).2.2.1,(tkA G.out a).2.2.2.1,0,0,[],[],[(m1:Int),(m2:Int),(m3:Int)],())) (vh (by simp));refine⟨c+1,nL.length,nL++[(7,(tkA G.out a).2.1,(tkA G.out c).2.2.1,(tkA G.out a).2.2.2.1,0,0,[],[],[(m1:Int),(m2:Int),(m3:Int)],())],⟨by omega,q2,by simp,by omega,q5⟩, ?_, ?_⟩
  ·refine(((G.base.and eI).and fI).and gI).up fun n ⟨⟨⟨B,h1⟩,h2⟩,h3⟩=> ?_
   show fJ (S.step (S.tab n)) _=_;simp only[ll,B.tI _ _ hl,an7,h1,h2];rw[ad (by rfl),B.kI _ _ p2];simp only[an7,an8 k1,cc,h3];rw[ad (by rfl),B.cI _ _ _ _ hc hl (show nL.length≤300000 by have:=hJ nL;omega)];rfl
  ·refine(((G.base.and eS).and fS).and gS).up fun n ⟨⟨⟨B,h1⟩,h2⟩,h3⟩=> ?_
   show iH (S.step (S.tab n)) _ _=_;simp only[ni,B.nS,an7,h1,h2,B.kS _ _ p2,an8 k1,cc,B.tS _ _ ox,h3];rw[ad (by rfl),B.aS _ _ _ hc (show nL.length≤300000 by have:=hJ nL;omega)];rfl
 rw[an6 k1]at ht
 by_cases k2:KA G.out a2=16
 ·rw[an8 k2]at ht;obtain⟨ox,hA⟩:=bZ ht rfl p5 p2;obtain⟨a3,m3,nL,⟨q1,q2,q3,q4,q5⟩,gI,gS⟩:=hB (a2+1) (by omega) ir r (by omega) (by omega) hA;obtain⟨c,rfl⟩:∃c,a3=c+1:=⟨a3 - 1,by omega⟩;have hc:c<G.out.length:=(by omega);have CF:=iL (nd:=nL) (x:=(7,(tkA G.out a).2.1,(tkA G.out c).2.2.1,(tkA G.out a).2.2.2.1,0,0,[],[],[(m1:Int),(m2:Int),(m3:Int)],())) (vh (by simp));refine⟨c+1,nL.length,nL++[(7,(tkA G.out a).2.1,(tkA G.out c).2.2.1,(tkA G.out a).2.2.2.1,0,0,[],[],[(m1:Int),(m2:Int),(m3:Int)],())],⟨by omega,q2,by simp,by omega,q5⟩, ?_, ?_⟩
  ·refine(((G.base.and eI).and fI).and gI).up fun n ⟨⟨⟨B,h1⟩,h2⟩,h3⟩=> ?_
   show fJ (S.step (S.tab n)) _=_;simp only[ll,B.tI _ _ hl,an7,h1,h2];rw[ad (by rfl),B.kI _ _ p2];simp only[an7,an6 k1,cd,B.eI _ _ _ p2,an8 k2,cc,ap3,h3];rw[ad (by rfl),B.cI _ _ _ _ hc hl (show nL.length≤300000 by have:=hJ nL;omega)];rfl
  ·refine(((G.base.and eS).and fS).and gS).up fun n ⟨⟨⟨B,h1⟩,h2⟩,h3⟩=> ?_
   show iH (S.step (S.tab n)) _ _=_;simp only[ni,B.nS,an7,h1,h2,B.kS _ _ p2,an6 k1,cd,B.eS _ _ _ p2,an8 k2,cc,ap3,h3];rw[ad (by rfl),B.aS _ _ _ hc (show nL.length≤300000 by have:=hJ nL;omega)];rfl
 ·rw[an6 k2]at ht;obtain⟨c,rfl⟩:∃c,a2=c+1:=⟨a2 - 1,by omega⟩;have hc:c<G.out.length:=(by omega);have CF:=iL (nd:=ir) (x:=(7,(tkA G.out a).2.1,(tkA G.out c).2.2.1,(tkA G.out a).2.2.2.1,0,0,[],[],[(m1:Int),(m2:Int)],())) (vh (by simp));refine⟨c+1,ir.length,ir++[(7,(tkA G.out a).2.1,(tkA G.out c).2.2.1,(tkA G.out a).2.2.2.1,0,0,[],[],[(m1:Int),(m2:Int)],())],⟨by omega,p2,by simp,by omega,eY ht rfl p5 p2⟩, ?_, ?_⟩
  ·refine((G.base.and eI).and fI).up fun n ⟨⟨B,h1⟩,h2⟩=> ?_
   show fJ (S.step (S.tab n)) _=_;simp only[ll,B.tI _ _ hl,an7,h1,h2];rw[ad (by rfl),B.kI _ _ p2];simp only[an7,an6 k1,cd,B.eI _ _ _ p2,an6 k2,ao8,B.cI _ _ _ _ hc hl (show ir.length≤300000 by have:=hJ ir;omega)];rfl
  ·refine((G.base.and eS).and fS).up fun n ⟨⟨B,h1⟩,h2⟩=> ?_
   show iH (S.step (S.tab n)) _ _=_;simp only[ni,B.nS,an7,h1,h2,B.kS _ _ p2,an6 k1,cd,B.eS _ _ _ p2,an6 k2,ao8,B.aS _ _ _ hc (show ir.length≤300000 by have:=hJ ir;omega)]
theorem X4:MU [1009,1010,1011]:=fun s hs=>by
 refine⟨1009,by simp,1010,by simp, ?_⟩;simp only[ar5,List.not_mem_nil,or_false]at hs
 rcases hs with rfl|rfl|rfl<;>exact⟨by kernel_rfl,by kernel_rfl,by kernel_rfl⟩
theorem X3:MU [1013,1014]:=fun s hs=>by
 refine⟨1013,by simp,1014,by simp, ?_⟩;simp only[ar5,List.not_mem_nil,or_false]at hs
 rcases hs with rfl|rfl<;>exact⟨by kernel_rfl,by kernel_rfl,by kernel_rfl⟩
theorem Yc:MU [1016,1017]:=fun s hs=>by
 refine⟨1016,by simp,1017,by simp, ?_⟩;simp only[ar5,List.not_mem_nil,or_false]at hs
 rcases hs with rfl|rfl<;>exact⟨by kernel_rfl,by kernel_rfl,by kernel_rfl⟩
def sfx (k:Int):Bool:=decide (k=48)||decide (k=44)||decide (k=40)
theorem O9:(kinds.all fun k=>sfx k||((decide (stI 1009 k=bif decide (k=47)then .left [1018,1023]else bif decide (k=46)then .left [1012]else .no)&&(decide (stI 1010 k= .gone)&&decide (stI 1011 k= .no)))&&
 ((decide (stI 1013 k=bif decide (k=47)then .left [1018,1023]else bif decide (k=46)then .left [1012]else .no)&&decide (stI 1014 k= .no))&&(decide (stI 1016 k= .no)&&decide (stI 1017 k= .gone)))))=true:=by kernel_rfl
theorem N8:(kinds.all fun k=>decide (stI 1012 k=bif decide (k=1)then .left [1013]else bif decide (k=40)then .left [1018,41,1014]else .no))=true:=by kernel_rfl
theorem Toks.TH {a:Nat}(h:KA G.out a≠48∧KA G.out a≠44∧KA G.out a≠40):sfx (KA G.out a)=false:=by
 unfold sfx;rw[an6 h.1,an6 h.2.1,an6 h.2.2];rfl
theorem JK {a:Nat}{s:Int}{r:LI}(hs:s=1009∨s=1013∨s=1014)(ha:a≤G.out.length)(h:KA G.out a≠48∧KA G.out a≠44∧KA G.out a≠40)(hA:Ac G.out (s::r) a):
  a<G.out.length∧((KA G.out a=47∧Ac G.out (1018::1023::r) (a+1))∨(KA G.out a=46∧Ac G.out (1012::r) (a+1))):=by
 have ht:=G.tab O9 a;rw[G.TH h]at ht;simp only[ap0,ao3,ao1]at ht;obtain⟨⟨t1,_⟩,⟨t2,t3⟩,_⟩:=ht
 have go:∀{s:Int},stI s (KA G.out a)=(bif decide (KA G.out a=47)then .left [1018,1023]else bif decide (KA G.out a=46)then .left [1012]else .no)→Ac G.out (s::r) a→a<G.out.length∧((KA G.out a=47∧Ac G.out (1018::1023::r) (a+1))∨(KA G.out a=46∧Ac G.out (1012::r) (a+1))):=fun e hA=>by
  by_cases k1:KA G.out a=47
  ·rw[an8 k1]at e;obtain⟨hl,hA⟩:=bZ e rfl hA ha;exact⟨hl, .inl ⟨k1,hA⟩⟩
  rw[an6 k1]at e
  by_cases k2:KA G.out a=46
  ·rw[an8 k2]at e;obtain⟨hl,hA⟩:=bZ e rfl hA ha;exact⟨hl, .inr ⟨k2,hA⟩⟩
  rw[an6 k2]at e;exact(qk e rfl hA ha).elim
 rcases hs with rfl|rfl|rfl
 ·exact go t1 hA
 ·exact go t2 hA
 ·exact(qk t3 rfl hA ha).elim
theorem F4 {a:Nat}{r:LI}(ha:a≤G.out.length)(hA:Ac G.out (1012::r) a):∃s0,s0∈([1013,1014]:LI)∧a<G.out.length∧((KA G.out a=1∧Ac G.out (s0::r) (a+1))∨(KA G.out a=40∧Ac G.out (1018::41::s0::r) (a+1))):=by
 have ht:=of_decide_eq_true (G.tab N8 a)
 by_cases k1:KA G.out a=1
 ·rw[an8 k1]at ht;obtain⟨hl,hA⟩:=bZ ht rfl hA ha;exact⟨1013,by simp,hl, .inl ⟨k1,hA⟩⟩
 rw[an6 k1]at ht
 by_cases k2:KA G.out a=40
 ·rw[an8 k2]at ht;obtain⟨hl,hA⟩:=bZ ht rfl hA ha;exact⟨1014,by simp,hl, .inr ⟨k2,hA⟩⟩
 rw[an6 k2]at ht;exact(qk ht rfl hA ha).elim
theorem targets (b:Int)(f ln:Int)(r:LI):∀(d a:Nat)(ks:LI)(nd:List Node)(s:Int),G.out.length<a+d→(∀a',a≤a'→JX G a')→a≤G.out.length→ks.length≤a→W nd≤4*a→(s=1009∨s=1013∨s=1014)→(KA G.out a≠48∧KA G.out a≠44∧KA G.out a≠40)→Ac G.out (s::r) a→
  ∃(a':Nat) (Nr:LI) (iq:List Node),a≤a'∧a'<G.out.length∧KA G.out a'=47∧Nr.length≤a'∧W iq+4*a≤W nd+4*a'∧Ac G.out (1018::1023::r) (a'+1)∧
   (Evt fun n=>ep (S.tab n) (G.tI,(a:Int),nd,()) b ks=some (Sum.inl ((G.tI,(a':Int),iq,()),b,Nr,())))∧
   Evt fun n=>ey (S.tab n) (G.tS,(a:Int),nd,()) (5,f,0,ln,0,(ks.length:Int),[],[],ks,())=some (Sum.inl ((G.tS,(a':Int),iq,()),(5,f,0,ln,0,(Nr.length:Int),[],[],Nr,()),())):=by
 intro d
 induction d with
 |zero=>intro a ks nd s h _ h2;omega
 |succ d ih=>
  intro a ks nd s hd hX ha Fs hn hs hk hA;have hL:=G.len;obtain⟨hl,EI⟩:=JK G hs ha hk hA
  rcases EI with⟨k1,hA⟩|⟨k1,hA⟩
  ·have k2:KA G.out a≠46:=(by omega);refine⟨a,ks,nd,aq2 _,hl,k1,Fs,aq2 _,hA,G.base.up fun n B=> ?_,G.base.up fun n B=> ?_⟩
   ·show ep (S.step (S.tab n)) _ _ _=_;simp only[nC,B.eI _ _ _ ha,an6 k2,an7,cd,ao8]
   ·show ey (S.step (S.tab n)) _ _=_;simp only[oz,B.eS _ _ _ ha,an6 k2,an7,cd,ao8]
  ·obtain⟨s0,Wr,oD,hc⟩:=F4 G (by omega) hA;obtain⟨a1,m1,dF,s1,Nu,⟨n1,n2,n3,n4,n5⟩,RO,eI,eS⟩:=Cj G X3 (fun a' h=>hX a' (by omega)) nd r s0 Wr oD (by omega) hc;obtain⟨a2,WA,ir,p1,p2,p3,p4,p5,p6,pI,pS⟩:=ih a1 (ks++[(m1:Int)]) dF s1 (by omega) (fun a' h=>hX a' (by omega)) n2 (by simp;omega) (by omega) (by simp only[ar5,List.not_mem_nil,or_false]at Nu;exact .inr Nu) RO n5;refine⟨a2,WA,ir,by omega,p2,p3,p4,by omega,p6,((G.base.and eI).and pI).up fun n ⟨⟨B,h⟩,hp⟩=> ?_,((G.base.and eS).and pS).up fun n ⟨⟨B,h⟩,hp⟩=> ?_⟩
   ·show ep (S.step (S.tab n)) _ _ _=_;simp only[nC,B.eI _ _ _ ha,an8 k1,an7,cc,ap3,h];rw[ad (A7 (by omega))];exact hp
   ·show ey (S.step (S.tab n)) _ _=_;simp only[oz,B.eS _ _ _ ha,an8 k1,an7,cc,ap3,h];rw[ad (A7 (by omega)),bD (by omega)];have e:(ks++[(m1:Int)]).length=ks.length+1:=(by simp);rw[e]at hp;exact hp
theorem IS (st:StT)(x0 x1 x2 x3 x4 x5:Int)(x6:LI)(x7:List LI):∀(r pre ks:LI),(pre++r).length≤70000→ks.length+r.length≤140000→
  Evt fun n=>gG (S.tab n) st (x0,x1,x2,x3,x4,x5,x6,x7,ks,()) (pre++r) ((pre++r).length:Int) (pre.length:Int)=some (Sum.inl (st,(x0,x1,x2,x3,x4,x5,x6,x7,ks++r,()),()))
 |[],pre,ks,_,_=>aD.up fun n _=>by
  rw[nM,az (by simp)];simp
 |m::r,pre,ks,hl,hk=>by
  have ih:=IS st x0 x1 x2 x3 x4 x5 x6 x7 r (pre++[m]) (ks++[m]) (by simpa using hl) (by simp at hk⊢;omega);have hlen:(pre++m::r).length=pre.length+(r.length+1):=(by simp);have e1:(pre++[m])++r=pre++m::r:=(by simp);have e2:(pre++[m]).length=pre.length+1:=(by simp);have hg:(pre++m::r).getD (pre.length:Int).toNat 0=m:=pG pre _ _ 0;rw[e1,e2]at ih
  refine ih.up fun n h=> ?_
  simp only[ao0]at hk;rw[nM,aL (by omega),ad (al (by omega))];dsimp only;rw[ad (dY (by unfold lim;simp only[ao0,ao2];omega)),bD (by omega),hg,h];simp
end Go.Abs.D
end

section
namespace Go.Abs.D
variable(G:Toks)
def rOk (r:LI):Prop:=r=[]∨∃r',r=43::r'
theorem Kx {out:List ak.den}{a:Nat}(ha:a≤out.length)(h:Ac out [] a):a=out.length∧KA out a=6:=by
 obtain⟨b,h1,h2⟩:=h
 rcases Nat.lt_or_ge a out.length with hl|hl
 ·have Vg:a<(out.map kd).length:=(by simpa using hl);rw[List.drop_eq_getElem_cons Vg]at h1;cases h1
 ·refine⟨by omega, ?_⟩;unfold KA;rw[ap9,List.getElem?_eq_none (by simpa using hl)];rfl
theorem LS {r:LI}(h:rOk r){a:Nat}(ha:a≤G.out.length)(hA:Ac G.out r a):KA G.out a=43∨KA G.out a=6:=by
 rcases h with rfl|⟨r',rfl⟩
 ·exact .inr (Kx ha hA).2
 ·exact .inl (iM hA ha (by decide)).2.1
theorem Lr:(kinds.all fun k=>decide (stI 1001 k=bif decide (k=5)then .left [1000]else .gone)&&(decide (stI 1002 k=bif decide (k=47)then .left [1018,1023]else .gone)&&(decide (stI 1008 k=bif decide (k=46)then .left [1]else .gone)&&
 (decide (stI 1015 k=bif decide (k=1)then .left [1016]else bif decide (k=40)then .left [1018,41,1016]else .no)&&(decide (stI 1004 k=bif decide (k=47)then .left [1018,46,1018,1005,1027]else bif decide (k=46)then .left [1,1006,21,1018,1027]else bif decide (k=21)then .left [1018,1027]else .no)&&
 decide (stI 1005 k=bif decide (k=46)then .left [1018]else .gone))))))=true:=by kernel_rfl
theorem QC:(kinds.all fun k=>decide (k=22)||decide (k=13)||decide (k=18)||decide (k=20)||decide (k=31)||decide (k=19)||decide (k=11)||decide (k=23)||decide (k=27)||decide (k=30)||decide (k=28)||decide (k=14)||decide (k=42)||decide (k=1)||decide (k=40)||decide (k=5)||decide (stI 1000 k= .gone))=true:=by kernel_rfl
theorem OF:stI 1000 22= .left [1,1006,1002,1001]∧stI 1000 13= .left [1,47,1018,1001]∧stI 1000 18= .left [1,1028,1001]∧stI 1000 20= .left [1018,1027,1003,1001]∧stI 1000 31= .left [1018,1027,1001]∧stI 1000 19= .left [1,1004,1001]∧stI 1000 11= .left [1001]∧stI 1000 23= .left [1001]∧
 stI 1000 27= .left [1007,1001]∧stI 1000 30= .left [1027,12,1,1008,1027,1001]∧stI 1000 28= .left [1018,1001]∧stI 1000 14= .left [1015,1001]∧stI 1000 42=(stI 1027 42).then [1001] .no∧stI 1000 1= .left [1009,1001]∧stI 1000 40= .left [1018,41,1011,1001]∧stI 1000 5= .left [1000]:=by
 refine⟨?_, ?_, ?_, ?_, ?_, ?_, ?_, ?_, ?_, ?_, ?_, ?_, ?_, ?_, ?_, ?_⟩<;>kernel_rfl
def JS (a:Nat):Prop:=∀(nd:List Node) (r:LI),rOk r→a≤G.out.length→W nd≤4*a→Ac G.out (1000::r) a→KA G.out a≠5→KA G.out a≠43→KA G.out a≠6→∃(a' m:Nat) (iq:List Node),Nx1 G (1001::r) a nd a' iq m∧
 (Evt fun n=>aY (S.tab n) (G.tI,(a:Int),nd,())=some ((m:Int),(G.tI,(a':Int),iq,()),()))∧
 Evt fun n=>bB (S.tab n) (G.tS,(a:Int),nd,())=some ((m:Int),(G.tS,(a':Int),iq,()),())
theorem kne {x k:Int}(h:x=k){j:Int}(hj:k≠j):decide (x=j)=false:=an6 (by omega)
theorem xe {a:Nat}(hX:∀a',a<a'→JX G a'){nd:List Node}{r:LI}(hr:rOk r)(hl:a<G.out.length)(hn:W nd≤4*a){s0:Int}(Wr:s0∈([1009,1010,1011]:LI))
  (hc:(KA G.out a=1∧Ac G.out (s0::1001::r) (a+1))∨(KA G.out a=40∧Ac G.out (1018::41::s0::1001::r) (a+1))):∃(a' m:Nat) (iq:List Node),Nx1 G (1001::r) a nd a' iq m∧
 (Evt fun n=>aY (S.tab n) (G.tI,(a:Int),nd,())=some ((m:Int),(G.tI,(a':Int),iq,()),()))∧
 Evt fun n=>bB (S.tab n) (G.tS,(a:Int),nd,())=some ((m:Int),(G.tS,(a':Int),iq,()),()):=by
 have hL:=G.len;have ha:=Nat.le_of_lt hl
 have jj:∀k:Int,1≠k→40≠k→decide (KA G.out a=k)=false:=fun k h1 h2=>by rcases hc with⟨e,_⟩|⟨e,_⟩<;>exact an6 (by omega)
 have ab0:=jj 22 (by decide) (by decide);have ab6:=jj 13 (by decide) (by decide);have ZO:=jj 18 (by decide) (by decide);have aa8:=jj 20 (by decide) (by decide);have Z3:=jj 31 (by decide) (by decide);have ac4:=jj 19 (by decide) (by decide);have ZS:=jj 11 (by decide) (by decide);have n23:=jj 23 (by decide) (by decide);have aa0:=jj 27 (by decide) (by decide);have ZK:=jj 30 (by decide) (by decide);have Z4:=jj 28 (by decide) (by decide);have aa5:=jj 14 (by decide) (by decide);have Xu:=jj 42 (by decide) (by decide)
 have Cd:∀a:Nat,a≤G.out.length→(decide ((0:Int)≤(a:Int))&&decide ((a:Int)<(G.tS.length:Int)))=true:=fun a h=>al (by rw[G.lS];omega)
 have ZU:∀{a' m:Nat} {iq:List Node},(Evt fun n=>jw (S.tab n) (G.tS,(a:Int),nd,())=some ((m:Int),(G.tS,(a':Int),iq,()),()))→Evt fun n=>bB (S.tab n) (G.tS,(a:Int),nd,())=some ((m:Int),(G.tS,(a':Int),iq,()),()):=fun h=>(G.base.and h).up fun n ⟨B,h⟩=>by
  show bB (S.step (S.tab n)) _=_
  rcases hc with⟨e,_⟩|⟨e,_⟩
  ·simp only[bF,B.kS _ _ ha,an7,Xu,cd,an8 e,cc,h]
  ·simp only[bF,B.kS _ _ ha,an7,Xu,cd,kne e (show(40:Int)≠1 by decide),an8 e,cc,h]
 obtain⟨a1,m1,dF,s1,Nu,⟨n1,n2,n3,n4,n5⟩,RO,eI,eS⟩:=Cj G X4 hX nd (1001::r) s0 Wr hl hn hc;simp only[ar5,List.not_mem_nil,or_false]at Nu;have ht:=G.tab O9 a1;rw[G.TH RO]at ht;simp only[ap0,ao3,ao1]at ht;obtain⟨⟨t1,t2,t3⟩,_⟩:=ht
 by_cases hk:KA G.out a1=46∨KA G.out a1=47
 ·
  have h9:s1=1009:=by
   rcases Nu with rfl|rfl|rfl
   ·rfl
   ·have hA:=eY t2 rfl n5 n2;have h5:=G.tab Lr a1;simp only[ao3,ao1]at h5;have h5:=h5.1;rw[show decide (KA G.out a1=5)=false from an6 (by omega)]at h5
    rcases LS G hr n2 (eY h5 rfl hA n2)with h|h<;>omega
   ·exact(qk t3 rfl n5 n2).elim
  subst h9;obtain⟨a2,ks,ir,p1,p2,p3,p4,p5,p6,pI,pS⟩:=targets G ↑a (tkA G.out a).2.1 (tkA G.out a).2.2.2.1 (1001::r) (G.out.length+1) a1 [(m1:Int)] dF 1009 (by omega) (fun a' h=>hX a' (by omega)) n2 (by simp;omega) (by omega) (.inl rfl) RO n5;obtain⟨a3,xs,nL,q1,q2,q3,q4,q5,gI,gS⟩:=xa G (fun a' h=>hX a' (by omega)) ir (1001::r) (by omega) (by omega) p6;obtain⟨c,rfl⟩:∃c,a3=c+1:=⟨a3 - 1,by omega⟩;have U4:c<G.out.length:=(by omega);have PV:=IS (G.tS,((c+1:Nat):Int),nL,()) 5 (tkA G.out a).2.1 0 (tkA G.out a).2.2.2.1 0 (ks.length:Int) [] [] xs [] ks (by simp;omega) (by omega);have CF:=iL (nd:=nL) (x:=(5,(tkA G.out a).2.1,(tkA G.out c).2.2.1,(tkA G.out a).2.2.2.1,0,(ks.length:Int),[],[],ks++xs,())) (vh (by simp only[an9,ao0,ao2];omega));refine⟨c+1,nL.length,nL++[(5,(tkA G.out a).2.1,(tkA G.out c).2.2.1,(tkA G.out a).2.2.2.1,0,(ks.length:Int),[],[],ks++xs,())],⟨by omega,q2,by simp,by omega,q5⟩, ?_, ?_⟩
  ·refine(((G.base.and eI).and pI).and gI).up fun n ⟨⟨⟨B,h1⟩,h2⟩,h3⟩=> ?_
   show aY (S.step (S.tab n)) _=_;simp only[bc,B.kI _ _ ha,an7,ab0,ab6,ZO,aa8,Z3,ac4,ZS,n23,aa0,ZK,Z4,aa5,Xu,cd,h1,B.kI _ _ n2]
   by_cases Pz:KA G.out a1=46
   ·simp only[an8 Pz,aq3,cd,h2,an7,aN,aq0,B.tI _ _ p2,h3];rw[ad (dY (by unfold lim;omega)),B.cI _ _ _ _ U4 hl (show nL.length≤300000 by have:=hJ nL;omega)];rfl
   ·simp only[an6 Pz,an8 (hk.resolve_left Pz),aq3,aq5,cd,cc,h2,an7,aN,aq0,B.tI _ _ p2,h3];rw[ad (dY (by unfold lim;omega)),B.cI _ _ _ _ U4 hl (show nL.length≤300000 by have:=hJ nL;omega)];rfl
  ·refine ZU (((((G.base.and eS).and pS).and gS).and PV).up fun n ⟨⟨⟨⟨B,h1⟩,h2⟩,h3⟩,h4⟩=> ?_);show jw (S.step (S.tab n)) _=_;have h4:gG (S.tab n) (G.tS,((c+1:Nat):Int),nL,()) (5,(tkA G.out a).2.1,0,(tkA G.out a).2.2.2.1,0,(ks.length:Int),[],[],ks,()) xs (xs.length:Int) 0=_:=h4;have h2:ey (S.tab n) (G.tS,(a1:Int),dF,()) (5,(tkA G.out a).2.1,0,(tkA G.out a).2.2.2.1,0,1,[],[],[(m1:Int)],())=_:=h2;rw[ri];dsimp only;rw[ad (Cd a ha),G.aS a hl];simp only[B.nS,an7,h1];rw[ad (Cd a1 n2),G.kS a1 n2]
   by_cases Pz:KA G.out a1=46
   ·simp only[an8 Pz,aq3,cd,h2,an7,aN,aq0,B.tS _ _ p2,h3,h4,B.aS _ _ _ U4 (show nL.length≤300000 by have:=hJ nL;omega)]
   ·simp only[an6 Pz,aq5,cc];rw[ad (Cd a1 n2)];simp only[an8 (hk.resolve_left Pz),aq3,cd,h2,an7,aN,aq0,B.tS _ _ p2,h3,h4,B.aS _ _ _ U4 (show nL.length≤300000 by have:=hJ nL;omega)]
 ·have Pz:KA G.out a1≠46:=fun h=>hk (.inl h)
  have Yr:KA G.out a1≠47:=fun h=>hk (.inr h)
  have hA:Ac G.out (1001::r) a1:=by
   rcases Nu with rfl|rfl|rfl
   ·rw[an6 Yr,an6 Pz]at t1;exact(qk t1 rfl n5 n2).elim
   ·exact eY t2 rfl n5 n2
   ·exact(qk t3 rfl n5 n2).elim
  obtain⟨c,rfl⟩:∃c,a1=c+1:=⟨a1 - 1,by omega⟩;have U4:c<G.out.length:=(by omega);have CF:=iL (nd:=dF) (x:=(6,(tkA G.out a).2.1,(tkA G.out c).2.2.1,(tkA G.out a).2.2.2.1,0,0,[],[],[(m1:Int)],())) (vh (by simp));refine⟨c+1,dF.length,dF++[(6,(tkA G.out a).2.1,(tkA G.out c).2.2.1,(tkA G.out a).2.2.2.1,0,0,[],[],[(m1:Int)],())],⟨by omega,n2,by simp,by omega,hA⟩, ?_, ?_⟩
  ·refine(G.base.and eI).up fun n ⟨B,h1⟩=> ?_
   show aY (S.step (S.tab n)) _=_;simp only[bc,B.kI _ _ ha,an7,ab0,ab6,ZO,aa8,Z3,ac4,ZS,n23,aa0,ZK,Z4,aa5,Xu,cd,h1,B.kI _ _ n2,an6 Pz,an6 Yr,aq5,cc,B.cI _ _ _ _ U4 hl (show dF.length≤300000 by have:=hJ dF;omega)];rfl
  ·refine ZU ((G.base.and eS).up fun n ⟨B,h1⟩=> ?_);show jw (S.step (S.tab n)) _=_;rw[ri];dsimp only;rw[ad (Cd a ha),G.aS a hl];simp only[B.nS,an7,h1];rw[ad (Cd (c+1) n2),G.kS (c+1) n2];simp only[an6 Pz,aq5,cc];rw[ad (Cd (c+1) n2)];simp only[an6 Yr,aq5,cc,an7,B.aS _ _ _ U4 (show dF.length≤300000 by have:=hJ dF;omega)]
end Go.Abs.D
end
