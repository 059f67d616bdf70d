/- What is here: what a fixed kind is written as, on both sides. -/
import Derived.Test.YtkmplfkiafonkaaGreatDoorA5
set_option linter.unusedVariables false
set_option linter.unusedSimpArgs false
set_option maxRecDepth 100000
open Go.IntKind (i64 u64 u8)
section
namespace Go.Abs.D
def fxI (t:Int):LI:=bif decide (0<=t)&&decide (t<=78)then fx t.toNat else []
def tq (t:Int)(k:Nat):Bool:=decide (k<30)&& !decide (((sgn (bh.getD k []):Nat):Int)=t)
def S1 (t:Int):LI:=bif decide (stop (tq t) 30 0<30)then bh.getD (stop (tq t) 30 0) []else []
theorem LF (t:Int):Evt λn=>eM (S.tab n) t bh 30 0=some (bif decide (stop (tq t) 30 0<30)then Sum.inl (bh.getD (stop (tq t) 30 0) [],())else Sum.inr (Sum.inl ())):=by
 have hp:Evt λn=>∀f∈bh,j2 (S.tab n) f=some ((sgn f:Int),aa):=Az bh sign_one
 refine adv (F:=λT (j:Nat)=>eM T t bh 30 ↑j) (q:=tq t) (N:=30) (p:=λT=>∀f∈bh,j2 T f=some ((sgn f:Int),aa))
  (out:=λk=>bif decide (k<30)then Sum.inl (bh.getD k [],())else Sum.inr (Sum.inl ())) hp (λj h=>by unfold tq;rw[aB9 (by omega)];rfl) ?_ ?_ 30 0 (by omega)
 ·intro T j hs hq;unfold tq at hq;simp only[aC6,aC4,aH3,aC8]at hq;have hj:j<bh.length:=hq.1
  have hm:bh.getD j []∈bh:=by
   rw[aE2,aE1 hj];exact aG7 hj
  show eM (S.step T) t bh 30 j=eM T t bh 30 ((j+1:Nat):Int);have Gt:=hq.1;rw[sE,ad (by simp only[aC4];omega),ad (an hj),Int.toNat_natCast,hs _ hm,aC0,aB (aB9 hq.2),bH (by omega)]
 ·intro T j hs hq;show eM (S.step T) t bh 30 j=_;rw[sE]
  by_cases Gt:j<30
  ·have hj:j<bh.length:=Gt
   have hm:bh.getD j []∈bh:=by
    rw[aE2,aE1 hj];exact aG7 hj
   unfold tq at hq;rw[aC1 Gt,aC9,Bool.not_eq_false',aC4]at hq;rw[ad (by simp only[aC4];omega),ad (an hj),Int.toNat_natCast,hs _ hm,aC0,aN hq,aC1 Gt];rfl
  ·rw[aB (by simp only[aC8];omega),aB9 Gt];rfl
theorem TR:∀k:Nat,k<30->5<=sgn (bh.getD k [])/\sgn (bh.getD k [])<=78:=by
 have h:∀k:Fin 30,5<=sgn (bh.getD k.1 [])/\sgn (bh.getD k.1 [])<=78:=by decide+kernel
 exact λk hk=>h ⟨k,hk⟩
theorem PC (t:Int)(h5:t≠5)(hw:¬ (10<=t/\t<=31)):S1 t=fxI t:=by
 by_cases h:0<=t/\t<=78
 ·have key:∀k:Fin 79,k.1≠5->¬ (10<=k.1/\k.1<=31)->S1 (k.1:Int)=fxI (k.1:Int):=by decide+kernel
  have:=key ⟨t.toNat,by omega⟩ (by show t.toNat≠5;omega) (by show¬ (10<=t.toNat/\t.toNat<=31);omega);have e:((t.toNat:Nat):Int)=t:=Int.toNat_of_nonneg h.1;simpa only[e]using this
 ·have sy:∀k,k<30->tq t k=true:=λk hk=>by
   have:=TR k hk;unfold tq;rw[aC1 hk,aC9,aB9 (by omega)];rfl
  have mB:¬ stop (tq t) 30 0<30:=λgX=>by
   have:=pY (q:=tq t) (N:=30) (λj hj=>by unfold tq;rw[aB9 (by omega)];rfl) 30 0 (by omega);rw[sy _ gX]at this;cases this
  unfold S1 fxI;rw[aB9 mB,show(decide (0<=t)&&decide (t<=78))=false by simp only[aG9,aC8];omega];rfl
theorem BE:Evt λn=>Base1 (S.tab n):=Evt.up (Evt.of (p:=λ_=>True) λ_=>trivial) λn _=>u9 _
theorem Ok (t:Int)(h1: -9223372036854775808<=t)(h2:t<=9223372036854775807):Evt λn=>cC (S.tab n) t=some (fxI t,aa):=by
 by_cases h5:t=5
 ·subst h5
  refine aG.up λn _=> ?_
  rw[wG,ad (by rfl)];rfl
 refine((LF t).and (J0.and BE)).up λn ⟨h7,ac4,hb⟩=> ?_
 rw[wG,aM h5,hb.words,aC0]
 by_cases hw:10<=t/\t<=31
 ·have e:i64.wrap (t - 10)=((t.toNat - 10:Nat):Int):=by rw[wrap64 _ (by omega) (by omega)];omega
  have wl:i64.wrap (10+((Lx.words.length:Nat):Int))=32:=rfl;rw[ad (aC1 hw.1)];show brk (decide (t<i64.wrap (10+((Lx.words.length:Nat):Int)))) (brk (decide (0<=i64.wrap (t - 10))&&decide (i64.wrap (t - 10)<((Lx.words.length:Nat):Int))) (some (Lx.words.getD (i64.wrap (t - 10)).toNat [],aa)) none) _=_;rw[wl,aN (by omega),e,ad (an (show t.toNat - 10<Lx.words.length by show t.toNat - 10<22;omega)),Int.toNat_natCast];unfold fxI fx;rw[aC1 (show 0<=t by omega),aC1 (show t<=78 by omega),aC1 (show 10<=t.toNat by omega),aC1 (show t.toNat<=31 by omega)];rfl
 ·have fin:(mH (S.tab n)).bind (λd23=>(eM (S.tab n) t d23.1 (d23.1.length:Int) (0:Int)).bind (bB (λy7=>some (y7.1,aa)) (λy7=>some (([]:LI),aa))))=some (fxI t,aa):=by
   rw[ac4,aC0];show(eM (S.tab n) t bh 30 0).bind _=_;rw[h7,aC0,<-PC t h5 hw];unfold S1;cases decide (stop (tq t) 30 0<30)<;>rfl
  by_cases yg:10<=t
  ·rw[aN yg];have wl:i64.wrap (10+((Lx.words.length:Nat):Int))=32:=rfl;show brk (decide (t<i64.wrap (10+((Lx.words.length:Nat):Int)))) _ _=_;rw[wl,aM (by omega)];exact fin
  ·rw[aM yg];exact fin
end Go.Abs.D
end

section
namespace Go.Abs.D
def cq (s:LI)(i:Nat)(f:LI)(n:Nat):Bool:=decide (n<f.length)&&(decide (i+n<s.length)&&decide (f.getD n 0=get s (i+n)))
def cp (s:LI)(i:Nat)(f:LI):Nat:=stop (cq s i f) f.length 0
theorem L8 {s:LI}{i:Nat}{f:LI}:∀j,f.length<=j->cq s i f j=false:=λj h=>by unfold cq;rw[aB9 (by omega)];rfl
theorem Il {s:LI}{i:Nat}{f:LI}{n:Nat}(h:n<cp s i f):cq s i f n=true:=nx _ _ _ (aG8 _) h
theorem Vd (s:LI)(i:Nat)(f:LI):cq s i f (cp s i f)=false:=pY L8 _ _ (by omega)
theorem XI {s:LI}{i:Nat}{f:LI}{j:Nat}(h:∀n,n<j->cq s i f n=true):j<=cp s i f:=by
 rcases Nat.lt_or_ge (cp s i f) j with hl|hl
 ·have:=h _ hl;rw[Vd]at this;cases this
 ·exact hl
theorem U0 (s:LI)(i:Nat)(f:LI):cp s i f<=f.length:=se L8 _ _ (aG8 _)
theorem XS {s:LI}{i:Nat}(hi:i<=s.length)(f:LI):i+cp s i f<=s.length:=by
 rcases Nat.eq_zero_or_pos (cp s i f)with h|h
 ·omega
 ·have:=Il (s:=s) (i:=i) (f:=f) (n:=cp s i f - 1) (by omega);unfold cq at this;simp only[aC6,aC4]at this;omega
def lq (s:LI)(i n:Nat):Bool:=wq s (i+n)
def idl (s:LI)(i:Nat):Nat:=stop (lq s i) s.length 0
theorem U1 {s:LI}{i:Nat}:∀j,s.length<=j->lq s i j=false:=λj h=>qm _ (by omega)
theorem MX (s:LI)(i:Nat):lq s i (idl s i)=false:=pY U1 _ _ (by omega)
theorem Qn {s:LI}{i j:Nat}(h:∀n,n<j->lq s i n=true):j<=idl s i:=by
 rcases Nat.lt_or_ge (idl s i) j with hl|hl
 ·have:=h _ hl;rw[MX]at this;cases this
 ·exact hl
theorem Qj {s:LI}{i j:Nat}(h:lq s i j=false):idl s i<=j:=by
 rcases Nat.lt_or_ge j (idl s i)with hl|hl
 ·have:=nx (q:=lq s i) s.length 0 j (aG8 _) hl;rw[h]at this;cases this
 ·exact hl
theorem Qu {s:LI}{i:Nat}(hi:i<=s.length):i+idl s i<=s.length:=by
 have:=Qj (s:=s) (i:=i) (j:=s.length - i) (qm _ (by omega));omega
def mxK (can:Int->Bool)(s:LI)(i:Nat):Nat->Nat->Nat
 |0,acc=>acc
 |m+1,acc=>mxK can s i m (bif decide (fx (78 - m)=[])then acc else bif can ((78 - m:Nat):Int)then max acc (cp s i (fx (78 - m)))else acc)
theorem QI (s:LI)(i:Nat):cp s i []=0:=rfl
theorem Iu {can:Int->Bool}{s:LI}{i j:Nat}(hj:1<=j):∀(m acc:Nat),m<=78->(j<=mxK can s i m acc↔j<=acc\/∃k:Nat,79 - m<=k/\k<=78/\can (k:Int)=true/\j<=cp s i (fx k))
 |0,acc,_=>⟨λh=> .inl h,λh=>h.elim id λ⟨k,h1,h2,_⟩=>by omega⟩
 |m+1,acc,hm=>by
  unfold mxK;rw[Iu hj m _ (by omega)]
  have key:(j<=(bif decide (fx (78 - m)=[])then acc else bif can ((78 - m:Nat):Int)then max acc (cp s i (fx (78 - m)))else acc))↔j<=acc\/(can ((78 - m:Nat):Int)=true/\j<=cp s i (fx (78 - m))):=by
   by_cases hf:fx (78 - m)=[]
   ·rw[aC1 hf,hf,QI,aD6];exact⟨λh=> .inl h,λh=>h.elim id λh=>by omega⟩
   ·rw[aB9 hf,aD1]
    cases hc:can ((78 - m:Nat):Int)with
    |true=>
     rw[aD6];constructor
     ·intro h
      rcases Nat.le_total (cp s i (fx (78 - m))) acc with h'|h'
      ·rw[Nat.max_eq_left h']at h;exact .inl h
      ·rw[Nat.max_eq_right h']at h;exact .inr ⟨rfl,h⟩
     ·rintro(h|⟨_,h⟩)<;>omega
    |false=>
     rw[aD1];exact⟨λh=> .inl h,λh=>h.elim id λh=>by cases h.1⟩
  rw[key];constructor
  ·rintro((h|h)|⟨k,h1,h2,h3,h4⟩)
   ·exact .inl h
   ·exact .inr ⟨78 - m,by omega,by omega,h⟩
   ·exact .inr ⟨k,by omega,h2,h3,h4⟩
  ·rintro(h|⟨k,h1,h2,h3,h4⟩)
   ·exact .inl (.inl h)
   ·by_cases e:k=78 - m
    ·subst e;exact .inl (.inr ⟨h3,h4⟩)
    ·exact .inr ⟨k,by omega,h2,h3,h4⟩
def m0 (s:LI)(i:Nat):Nat:=bif decide (get s i=45)then 1 else 0
def jw (can:Int->Bool)(s:LI)(i:Nat):Nat:=bif bC (get s i)&&can 1 then max (mxK can s i 78 (m0 s i)) (idl s i)else mxK can s i 78 (m0 s i)
def Fu (p:LI)(k:Int):Bool:=
 (decide (k=1)&&bC (get p 0))||(((decide (k=2)||decide (k=3))&&aR (get p 0))||((decide (k=4)&&decide (get p 0=34))||(decide (p.length<=(fxI k).length)&&decide (bJ (fxI k) 0 p.length=p))))
def Gj (kinds:LI)(p:LI):Bool:=(decide (p.length=1)&&decide (get p 0=45))||kinds.any (Fu p)
theorem Hv:∀k:Nat,k<=78->bC ((fx k).getD 0 0)=true->∀c∈fx k,bC c=true:=by
 have h:∀k:Fin 79,bC ((fx k.1).getD 0 0)=true->(fx k.1).all bC=true:=by decide+kernel
 exact λk hk h' c hc=>List.all_eq_true.1 (h ⟨k,by omega⟩ h') c hc
theorem PR (f:LI)(n:Nat):f.getD n 0=get f n:=rfl
theorem uD {s:LI}{a b n:Nat}(h:a+n<b):get (bJ s a b) n=get s (a+n):=by
 unfold get bJ;rw[aE2,List.getElem?_drop,List.getElem?_take_of_lt h,aE2]
theorem Ot {a b:LI}(hl:a.length=b.length)(h:∀n,n<a.length->get a n=get b n):a=b:=by
 apply List.ext_getElem hl
 intro n h1 h2;have:=h n h1;unfold get at this;rw[aE2,aE2,aE1 h1,aE1 h2]at this;exact this
theorem QN {s:LI}{i j:Nat}(hj:i+j<=s.length)(f:LI):(decide ((bJ s i (i+j)).length<=f.length)&&decide (bJ f 0 (bJ s i (i+j)).length=bJ s i (i+j)))=true↔j<=cp s i f:=by
 have hl:(bJ s i (i+j)).length=j:=by rw[lr hj];omega
 rw[hl,aC6,aC4,aC4];constructor
 ·rintro⟨h1,h2⟩
  refine XI λn hn=> ?_
  unfold cq;rw[aC1 (show n<f.length by omega),aC1 (show i+n<s.length by omega),aC9,aC9,aC4,PR];have e:get (bJ f 0 j) n=get (bJ s i (i+j)) n:=congrArg (λl=>get l n) h2;rw[uD (by omega),uD (by omega),Nat.zero_add]at e;exact e
 ·intro h;have h1:=U0 s i f;refine⟨by omega,Ot (by rw[hl,lr (by omega)];omega) λn hn=> ?_⟩;rw[lr (by omega)]at hn;have:=Il (s:=s) (i:=i) (f:=f) (n:=n) (by omega);unfold cq at this;simp only[aC6,aC4]at this;rw[uD (by omega),uD (by omega),Nat.zero_add];exact this.2.2
theorem Nv {k:Nat}(h:k<=78):fxI (k:Int)=fx k:=by
 unfold fxI;rw[aC1 (by omega),aC1 (by omega),Int.toNat_natCast];rfl
structure WrongAt (can:Int->Bool)(c:Int):Prop where
 num:aR c=true->can 2=false/\can 3=false
 str:c=34->can 4=false
theorem GG {c:Int}(h:bC c=true):aR c=false/\c≠34/\c≠45:=by
 refine⟨zV h,λe=> ?_,λe=> ?_⟩<;>(subst e;cases h)
theorem P8 {can:Int->Bool}{s:LI}{i j:Nat}(hw:WrongAt can (get s i))(hn:(bC (get s i)&&can 1)=false)(hj:1<=j)(hl:i+j<=s.length):Gj (pick can 78) (bJ s i (i+j))=true↔j<=mxK can s i 78 (m0 s i):=by
 have hlen:(bJ s i (i+j)).length=j:=by rw[lr hl];omega
 have hg:get (bJ s i (i+j)) 0=get s i:=by rw[uD (by omega)];rfl
 rw[Iu hj 78 _ (aE5 _)];unfold Gj;rw[aG0,hlen,hg,aC6,aC4,aC4,List.any_eq_true]
 have e0:(j=1/\get s i=45)↔j<=m0 s i:=by
  unfold m0
  by_cases h:get s i=45
  ·rw[aC1 h,aD6];exact⟨λh=>by omega,λh'=>⟨by omega,h⟩⟩
  ·rw[aB9 h,aD1];exact⟨λh'=>absurd h'.2 h,λh=>by omega⟩
 rw[e0];refine or_congr Iff.rfl ⟨?_, ?_⟩
 ·rintro⟨k,hk,hb⟩;obtain⟨hc,hk78⟩:=E4 hk;have ZF:0<=k\/k<0:=(by omega);unfold Fu at hb;rw[hg]at hb;simp only[aG0]at hb
  rcases hb with hb|hb|hb|hb
  ·rw[aC6,aC4]at hb;rw[<-hb.1,hc,hb.2]at hn;cases hn
  ·rw[aC6,aG0,aC4,aC4]at hb;have:=hw.num hb.2
   rcases hb.1 with e|e
   ·rw[<-e,hc]at this;cases this.1
   ·rw[<-e,hc]at this;cases this.2
  ·rw[aC6,aC4,aC4]at hb;have:=hw.str hb.2;rw[<-hb.1,hc]at this;cases this
  ·have h1:=(QN hl (fxI k)).1 hb
   have Za:1<=k:=by
    rcases Int.lt_or_le k 1 with h|h
    ·have e:fxI k=[]:=by
      by_cases h0:k=0
      ·rw[h0];rfl
      ·unfold fxI;rw[aB9 (by omega)];rfl
     rw[e,QI]at h1;omega
    ·exact h
   have ek:((k.toNat:Nat):Int)=k:=Int.toNat_of_nonneg (by omega);refine⟨k.toNat,by omega,by omega,by rw[ek];exact hc, ?_⟩;rw[<-Nv (by omega),ek];exact h1
 ·rintro⟨k,h1,h2,h3,h4⟩;refine⟨(k:Int),EO (aE5 _) (by omega) (by omega) h3, ?_⟩;unfold Fu;rw[(QN hl (fxI ↑k)).2 (by rw[Nv h2];exact h4)];simp only[aD8]
theorem OB {can:Int->Bool}{s:LI}{i j:Nat}(hn:(bC (get s i)&&can 1)=true)(hj:1<=j)(hl:i+j<=s.length):Gj (pick can 78) (bJ s i (i+j))=true:=by
 have hg:get (bJ s i (i+j)) 0=get s i:=by rw[uD (by omega)];rfl
 rw[aC6]at hn;unfold Gj;rw[aG0,List.any_eq_true];refine .inr ⟨1,EO (aE5 _) (by omega) (by omega) hn.2, ?_⟩;unfold Fu;rw[hg,hn.1];rfl
theorem UF {s:LI}{i k:Nat}(hl:bC (get s i)=true)(hk:k<=78):cp s i (fx k)<=idl s i:=by
 refine Qn λn hn=> ?_
 have h0:=Il (s:=s) (i:=i) (f:=fx k) (n:=0) (by omega);have h1:=Il hn;unfold cq at h0 h1;simp only[aC6,aC4]at h0 h1;have hw:=Hv k hk (by rw[h0.2.2];exact hl)
 have hm:(fx k).getD n 0∈fx k:=by
  rw[aE2,aE1 h1.1];exact aG7 _
 have:=hw _ hm;unfold lq wq;rw[<-h1.2.2,this];rfl
theorem QH {can:Int->Bool}{s:LI}{i:Nat}(hl:bC (get s i)=true):mxK can s i 78 (m0 s i)<=idl s i:=by
 rcases Nat.eq_zero_or_pos (mxK can s i 78 (m0 s i))with h|h
 ·omega
 ·rcases(Iu (can:=can) (s:=s) (i:=i) h 78 (m0 s i) (aE5 _)).1 (aE5 _)with h'|⟨k,_,h2,_,h4⟩
  ·have e:m0 s i=0:=by unfold m0;rw[aB9 (GG hl).2.2];rfl
   omega
  ·exact Nat.le_trans h4 (UF hl h2)
theorem TN {can:Int->Bool}{s:LI}{i:Nat}(hi:i<s.length):i+mxK can s i 78 (m0 s i)<=s.length:=by
 rcases Nat.eq_zero_or_pos (mxK can s i 78 (m0 s i))with h|h
 ·omega
 ·rcases(Iu (can:=can) (s:=s) (i:=i) h 78 (m0 s i) (aE5 _)).1 (aE5 _)with h'|⟨k,_,h2,_,h4⟩
  ·have e:m0 s i<=1:=by unfold m0;cases decide (get s i=45)<;>simp
   omega
  ·have:=XS (s:=s) (i:=i) (by omega) (fx k);omega
theorem E7 {can:Int->Bool}{s:LI}{i:Nat}(hi:i<s.length)(hw:WrongAt can (get s i)):
  i+jw can s i<=s.length/\(bC (get s i)=true->jw can s i<=idl s i)/\
  (∀j,1<=j->i+j<=s.length->(bC (get s i)=true->j<=idl s i)->(Gj (pick can 78) (bJ s i (i+j))=true↔j<=jw can s i)):=by
 unfold jw
 cases hn:bC (get s i)&&can 1 with
 |false=>
  rw[aD1];exact⟨TN hi,QH,λj hj hl _=>P8 hw hn hj hl⟩
 |true=>
  have hl:bC (get s i)=true:=by rw[aC6]at hn;exact hn.1
  have h1:=QH (can:=can) hl;rw[aD6,Nat.max_eq_right h1];exact⟨Qu (by omega),λ_=>aE5 _,λj hj Uc Wu=>⟨λ_=>Wu hl,λ_=>OB hn hj Uc⟩⟩
end Go.Abs.D
end

section
namespace Go.Abs.D
theorem PN (kinds:LI)(hk:∀k∈kinds,0<=k/\k<=78):Evt λn=>∀k∈kinds,cC (S.tab n) k=some (fxI k,aa):=by
 have h:Evt λn=>∀k∈kinds,(0<=k/\k<=78)->cC (S.tab n) k=some (fxI k,aa):=Az kinds λk=>by
  by_cases h:0<=k/\k<=78
  ·exact(Ok k (by omega) (by omega)).mono λn h' _=>h'
  ·exact Evt.of λn h'=>absurd h' h
 exact h.mono λn h k hm=>h k hm (hk k hm)
def tB (p:LI)(k:Int):Bool:=decide (p.length<=(fxI k).length)&&decide (bJ (fxI k) 0 p.length=p)
theorem ve {T:S.Tab}{p:LI}{k:Int}(ht:cC T k=some (fxI k,aa)){R N:Option ((Bool×Unit)⊕(Unit)⊕Empty)}:
  ((cC T k).bind λd52=>brk (decide ((p.length:Int)<=(d52.1.length:Int))) (brk (bounds d52.1.length 0 (p.length:Int)) (brk (decide ((sub d52.1 0 (p.length:Int))=p)) R N) none) N)=bif tB p k then R else N:=by
 rw[ht,aC0];unfold tB
 by_cases h:p.length<=(fxI k).length
 ·have Un:bounds (fxI k).length 0 (p.length:Int)=true:=dZ (i:=0) (aG8 _) h;have Gs:sub (fxI k) 0 (p.length:Int)=bJ (fxI k) 0 p.length:=rfl;dsimp only;rw[ad (by simp only[aC4];omega),ad Un,Gs,aC1 h,aC9]
  cases decide (bJ (fxI k) 0 p.length=p)with
  |true=>rw[ad rfl];rfl
  |false=>rw[aB rfl];rfl
 ·dsimp only;rw[aB (by simp only[aC8];omega),aB9 h];rfl
theorem EA {T:S.Tab}(hb:Base1 T){p kinds:LI}(hp:0<p.length){j:Nat}(hj:j<kinds.length)(ht:cC T (kinds.getD j 0)=some (fxI (kinds.getD j 0),aa))(hl:kinds.length<=100):
  aL (S.step T) p kinds (kinds.length:Int) (j:Int)=bif Fu p (kinds.getD j 0)then some (Sum.inl (true,()))else aL T p kinds (kinds.length:Int) ((j+1:Nat):Int):=by
 have qf:decide ((0:Int)<(p.length:Int))=true:=by simp only[aC4];omega
 have g0:p.getD 0 0=get p 0:=rfl;rw[rM,ad (by simp only[aC4];omega),ad (an hj),Int.toNat_natCast,bH (by omega),g0]
 generalize kinds.getD j 0=k at ht⊢
 generalize aL T p kinds (kinds.length:Int) ((j+1:Nat):Int)=N
 have e:Fu p k=((decide (k=1)&&bC (get p 0))||(((decide (k=2)||decide (k=3))&&aR (get p 0))||((decide (k=4)&&decide (get p 0=34))||tB p k))):=rfl;rw[e]
 by_cases h1:k=1
 ·have h2:¬ k=2:=(by omega);have h3:¬ k=3:=(by omega);have h4:¬ k=4:=(by omega);rw[aN h1,ad qf,hb.sletter,aC0,aC1 h1,aB9 h2,aB9 h3,aB9 h4]
  cases bC (get p 0)with
  |true=>rw[ad (by rfl)];rfl
  |false=>rw[aB (by rfl),aB rfl,aB rfl,aB rfl,ve ht];rfl
 rw[aM h1,aB9 h1]
 by_cases h2:k=2
 ·have h3:¬ k=3:=(by omega);have h4:¬ k=4:=(by omega);rw[aN h2,ad qf,hb.sdigit,aC0,aC1 h2,aB9 h4]
  cases aR (get p 0)with
  |true=>rw[ad (by rfl)];rfl
  |false=>rw[aB (by rfl),aB rfl,ve ht,aD0];rfl
 rw[aM h2,aB9 h2]
 by_cases h3:k=3
 ·have h4:¬ k=4:=(by omega);rw[aN h3,ad qf,hb.sdigit,aC0,aC1 h3,aB9 h4]
  cases aR (get p 0)with
  |true=>rw[ad (by rfl)];rfl
  |false=>rw[aB (by rfl),aB rfl,ve ht];rfl
 rw[aM h3,aB9 h3]
 by_cases h4:k=4
 ·rw[aN h4,ad qf,aC1 h4]
  by_cases c:get p 0=34
  ·rw[aN c,aC1 c];rfl
  ·rw[aM c,aB9 c,ve ht];rfl
 rw[aM h4,aB9 h4,ve ht];rfl
def bq (p kinds:LI)(j:Nat):Bool:=decide (j<kinds.length)&& !Fu p (kinds.getD j 0)
theorem Qy {p kinds:LI}:∀j,kinds.length<=j->bq p kinds j=false:=λj h=>by unfold bq;rw[aB9 (by omega)];rfl
theorem Qb (p kinds:LI):kinds.any (Fu p)=decide (stop (bq p kinds) kinds.length 0<kinds.length):=by
 have Te:=pY (q:=bq p kinds) Qy kinds.length 0 (by omega)
 by_cases h:stop (bq p kinds) kinds.length 0<kinds.length
 ·rw[aC1 h]
  generalize stop (bq p kinds) kinds.length 0=m at Te h
  unfold bq at Te;rw[aC1 h,aC9,Bool.not_eq_false']at Te;refine List.any_eq_true.2 ⟨_, ?_,Te⟩;rw[aE2,aE1 h];exact aG7 _
 ·rw[aB9 h]
  refine List.any_eq_false.2 λk hk=> ?_
  obtain⟨j,hj,rfl⟩:=List.getElem_of_mem hk;have:=nx (q:=bq p kinds) kinds.length 0 j (aG8 _) (by omega);unfold bq at this;rw[aC1 hj,aC9,aH3,aE2,aE1 hj]at this;exact(by simpa using this)
theorem PM {p kinds:LI}(hp:0<p.length)(hk:∀k∈kinds,0<=k/\k<=78)(hl:kinds.length<=100):Evt λn=>aL (S.tab n) p kinds (kinds.length:Int) 0=some (bif kinds.any (Fu p)then Sum.inl (true,())else Sum.inr (Sum.inl ())):=by
 have YL:Evt λn=>Base1 (S.tab n)/\∀k∈kinds,cC (S.tab n) k=some (fxI k,aa):=BE.and (PN kinds hk)
 rw[Qb]
 refine adv (F:=λT (j:Nat)=>aL T p kinds (kinds.length:Int) ↑j) (q:=bq p kinds) (N:=kinds.length) (p:=λT=>Base1 T/\∀k∈kinds,cC T k=some (fxI k,aa))
  (out:=λj=>bif decide (j<kinds.length)then Sum.inl (true,())else Sum.inr (Sum.inl ())) YL Qy ?_ ?_ kinds.length 0 (by omega)
 ·intro T j ⟨hb,ht⟩ hq;unfold bq at hq;simp only[aC6,aC4,aH3]at hq
  have hm:kinds.getD j 0∈kinds:=by
   rw[aE2,aE1 hq.1];exact aG7 _
  show aL (S.step T) p kinds _ _=aL T p kinds _ _;rw[EA hb hp hq.1 (ht _ hm) hl,hq.2];rfl
 ·intro T j ⟨hb,ht⟩ hq;show aL (S.step T) p kinds _ _=_
  by_cases hj:j<kinds.length
  ·unfold bq at hq;rw[aC1 hj,aC9,Bool.not_eq_false']at hq
   have hm:kinds.getD j 0∈kinds:=by
    rw[aE2,aE1 hj];exact aG7 _
   rw[EA hb hp hj (ht _ hm) hl,hq,aC1 hj];rfl
  ·rw[rM,aB (by simp only[aC8];omega),aB9 hj];rfl
theorem P5 {p kinds:LI}(hp:0<p.length)(hk:∀k∈kinds,0<=k/\k<=78)(hl:kinds.length<=100):Evt λn=>qH (S.tab n) kinds p=some (Gj kinds p,ab):=
 (PM hp hk hl).up λn h=>by
  have g0:p.getD 0 0=get p 0:=rfl
  have fin:((aL (S.tab n) p kinds (kinds.length:Int) 0).bind (bB (λy4=>some (y4.1,ab)) (λy4=>some (false,ab))))=some (kinds.any (Fu p),ab):=by
   rw[h];cases kinds.any (Fu p)<;>rfl
  unfold Gj;rw[CK,g0]
  by_cases h1:p.length=1
  ·rw[ad (by simp only[aC4];omega),ad (by simp only[aC4];omega),aC1 h1]
   by_cases Hb:get p 0=45
   ·rw[aN Hb,aC1 Hb];rfl
   ·rw[aM Hb,aB9 Hb];exact fin
  ·rw[aB (by simp only[aC8];omega),aB9 h1];exact fin
theorem Lc {p:Int->Bool}:∀k∈pick p 78,0<=k/\k<=78:=λk h=>by
 have:=(E4 h).2
 have h0:∀(m:Nat) (k:Int),k∈pick p m->0<=k:=λm=>by
  induction m with
  |zero=>intro k h;cases h
  |succ m ih=>
   intro k h;unfold pick at h
   rcases aE9.1 h with h|h
   ·cases hp:p ((78 - m:Nat):Int)with
    |true=>
     rw[hp]at h;have:k=((78 - m:Nat):Int):=(by simpa using h);omega
    |false=>rw[hp]at h;cases h
   ·exact ih k h
 exact⟨h0 78 k h,this⟩
variable{s:LI}(hs:s.length<=65536)
include hs
theorem PU {can:Int->Bool}{i:Nat}(hi:i<s.length)(hw:WrongAt can (get s i)):∀(d n:Nat),s.length - (i+n)<=d->n<=jw can s i->(bC (get s i)=true->n<idl s i)->Evt λm=>cG (S.tab m) s ↑i (pick can 78) (n:Int)=some (Sum.inl ((i:Int),(jw can s i:Int),())):=by
 obtain⟨l1,l2,l3⟩:=E7 hi hw;intro d
 induction d with
 |zero=>
  intro n hd hn ac5;have e:n=jw can s i:=(by omega)
  refine aG.up λm hb=> ?_
  show cG (S.step (S.tab m)) _ _ _ _=_;rw[kW,wrap64 _ (by omega) (by omega),aB (by simp only[aC8];omega),e]
 |succ d ih=>
  intro n hd hn ac5
  by_cases hl:i+n<s.length
  ·have w1:i64.wrap ((i:Int)+(n:Int))=((i+n:Nat):Int):=by rw[wrap64 _ (by omega) (by omega)];omega
   have w2:i64.wrap (((i+n:Nat):Int)+1)=((i+(n+1):Nat):Int):=by rw[wrap64 _ (by omega) (by omega)];omega
   have w3:i64.wrap ((n:Int)+1)=((n+1:Nat):Int):=bH (by omega)
   have w4:i64.wrap ((i:Int)+((n+1:Nat):Int))=((i+(n+1):Nat):Int):=by rw[wrap64 _ (by omega) (by omega)];omega
   have O4:=P5 (p:=bJ s i (i+(n+1))) (kinds:=pick can 78) (by rw[lr (by omega)];omega) Lc (Nat.le_trans (Kj 78) (by omega));have YY:=l3 (n+1) (by omega) (by omega) (λh=>by have:=ac5 h;omega)
   have start:∀T:S.Tab,qH T (pick can 78) (bJ s i (i+(n+1)))=some (Gj (pick can 78) (bJ s i (i+(n+1))),ab)->Base1 T->cG (S.step T) s ↑i (pick can 78) (n:Int)=_:=λT I1 hb=>by
    rw[kW,w1,ad (by simp only[aC4];omega),w2,ad (dZ (by omega) (by omega)),oy,I1,aC0,ad (an hi),aJ,hb.sletter,aC0,w3,w4,hb.look,aC0]
   by_cases hle:n+1<=jw can s i
   ·have ae7:=YY.2 hle;rw[ae7]at O4 start
    have next:=λh=>ih (n+1) (by omega) hle h
    by_cases hlet:bC (get s i)=true
    ·by_cases xC:lq s i (n+1)=true
     ·refine((next (λh=>by
       have h1:=ac5 h
       rcases Nat.lt_or_ge (n+1) (idl s i)with h'|h'
       ·exact h'
       ·have:idl s i=n+1:=(by omega);have e:=MX s i
        rw[this,xC]at e;cases e)).and (O4.and BE)).up λm ⟨hx,I1,hb⟩=> ?_
      show cG (S.step (S.tab m)) _ _ _ _=_;rw[start _ I1 hb,ad rfl,hlet,ad rfl,hb.sletter,aC0];unfold lq wq at xC
      cases oI:bC (get s (i+(n+1)))with
      |true=>rw[aB (by rfl)];exact hx
      |false=>
       rw[oI,aD3]at xC;rw[ad (by rfl),aC0,hb.sdigit,aC0,xC,aB (by rfl)];exact hx
     ·have xC:lq s i (n+1)=false:=(by simpa using xC);have h1:=Qj xC;have h2:=l2 hlet;have e:jw can s i=n+1:=(by omega)
      refine(O4.and BE).up λm ⟨I1,hb⟩=> ?_
      show cG (S.step (S.tab m)) _ _ _ _=_;rw[start _ I1 hb,ad rfl,hlet,ad rfl,hb.sletter,aC0];unfold lq wq at xC;rw[Bool.or_eq_false_iff]at xC;rw[xC.1,ad (by rfl),aC0,hb.sdigit,aC0,xC.2,ad (by rfl),e]
    ·have Zm:bC (get s i)=false:=(by simpa using hlet)
     refine((next (λh=>absurd h hlet)).and (O4.and BE)).up λm ⟨hx,I1,hb⟩=> ?_
     show cG (S.step (S.tab m)) _ _ _ _=_;rw[start _ I1 hb,ad rfl,Zm,aB rfl];exact hx
   ·have ax2:Gj (pick can 78) (bJ s i (i+(n+1)))=false:=by
     cases hx:Gj (pick can 78) (bJ s i (i+(n+1)))with
     |true=>exact absurd (YY.1 hx) hle
     |false=>rfl
    have e:jw can s i=n:=(by omega);rw[ax2]at O4 start
    refine(O4.and BE).up λm ⟨I1,hb⟩=> ?_
    show cG (S.step (S.tab m)) _ _ _ _=_;rw[kW,w1,ad (by simp only[aC4];omega),w2,ad (dZ (by omega) (by omega)),oy,I1,aC0,aB rfl,e]
  ·have e:n=jw can s i:=(by omega)
   refine aG.up λm hb=> ?_
   show cG (S.step (S.tab m)) _ _ _ _=_;rw[kW,wrap64 _ (by omega) (by omega),aB (by simp only[aC8];omega),e]
omit hs in
theorem SL {i:Nat}(h:bC (get s i)=true):0<idl s i:=by
 have:lq s i 0=true:=by unfold lq wq;rw[Nat.add_zero,h];rfl
 exact Qn (j:=1) λn hn=>by
  have:n=0:=(by omega);subst this;assumption
theorem Py {can:Int->Bool}{i:Nat}(hi:i<s.length)(hw:WrongAt can (get s i)):Evt λn=>qM (S.tab n) s ↑i (pick can 78)=some (((i+jw can s i:Nat):Int),aT):=
 (PU hs hi hw s.length 0 (by omega) (aG8 _) SL).up λn h=>by
  obtain⟨l1,_,_⟩:=E7 hi hw;have h:cG (S.tab n) s ↑i (pick can 78) 0=_:=h;rw[CQ,h];simp only[aC0,aO,aE3];rw[wrap64 _ (by omega) (by omega)];rfl
theorem Js (a:LI)(i:Nat)(hi:i<=s.length)(t7 t8:Int)(f:LI)(hf:f.length<=100):Evt λn=>gq (S.tab n) a s ↑i t7 t8 f 0=some (Sum.inl (a,s,(i:Int),t7,t8,(cp s i f:Int),())):=
 adv (F:=λT j=>gq T a s ↑i t7 t8 f ↑j) (q:=cq s i f) (N:=f.length) (p:=λ_=>True) (out:=λj=>Sum.inl (a,s,(i:Int),t7,t8,(j:Int),())) (Evt.of λ_=>trivial) L8
  (λT j _ hq=>by
   unfold cq at hq;simp only[aC6,aC4]at hq
   have w:i64.wrap ((i:Int)+(j:Int))=((i+j:Nat):Int):=by rw[wrap64 _ (by omega) (by omega)];omega
   show gq (S.step T) _ _ _ _ _ _ _=gq T _ _ _ _ _ _ _
   rw[qA,ad (by simp only[aC4];omega),w,ad (by simp only[aC4];omega),ad (an hq.1),ad (an hq.2.1),Int.toNat_natCast,aJ,ad (aC1 hq.2.2),bH (by omega)])
  (λT j _ hq=>by
   show gq (S.step T) _ _ _ _ _ _ _=_;rw[qA]
   by_cases h1:j<f.length
   ·have w:i64.wrap ((i:Int)+(j:Int))=((i+j:Nat):Int):=by rw[wrap64 _ (by omega) (by omega)];omega
    rw[ad (by simp only[aC4];omega),w]
    by_cases h2:i+j<s.length
    ·unfold cq at hq;rw[aC1 h1,aC1 h2,aC9,aC9]at hq;rw[ad (by simp only[aC4];omega),ad (an h1),ad (an h2),Int.toNat_natCast,aJ,aB hq]
    ·rw[aB (by simp only[aC8];omega)]
   ·rw[aB (by simp only[aC8];omega)]) f.length 0 (by omega)
omit hs in
theorem Yd {R:Type}{F:S.Tab->Nat->Option R}{q:Nat->Bool}{out:Nat->R}{N:Nat}{p:S.Tab->Prop}(hp:Evt λn=>p (S.tab n))(hN:q N=false)
  (h1:∀T j,j<N->p T->q j=true->F (S.step T) j=F T (j+1)) (h2:∀T j,j<=N->p T->q j=false->F (S.step T) j=some (out j)):
  ∀(k j:Nat),N<=j+k->j<=N->Evt λn=>F (S.tab n) j=some (out (stop q k j))
 |0,j,hk,hj=>hp.up λn h=>by
  have e:j=N:=(by omega);show F (S.step (S.tab n)) j=_;rw[h2 _ _ hj h (by rw[e];exact hN)];rfl
 |k+1,j,hk,hj=>by
  cases hq:q j with
  |false=>
   refine hp.up λn h=> ?_
   show F (S.step (S.tab n)) j=_;rw[h2 _ _ hj h hq,xN hq]
  |true=>
   have gX:j<N:=by
    rcases Nat.lt_or_ge j N with h|h
    ·exact h
    ·have:j=N:=(by omega);rw[this,hN]at hq;cases hq
   refine((Yd hp hN h1 h2 k (j+1) (by omega) (by omega)).and hp).up λn ⟨ih,h⟩=> ?_
   show F (S.step (S.tab n)) j=_
   have e:stop q (k+1) j=stop q k (j+1):=by
    show(bif q j then stop q k (j+1)else j)=_;rw[hq];rfl
   rw[h1 _ _ gX h hq,ih,e]
theorem I6 (i:Nat)(hi:i<=s.length)(t7:Int):Evt λn=>fb (S.tab n) s ↑i t7 0=some (Sum.inl (t7,(idl s i:Int),())):=
 Yd (F:=λT j=>fb T s ↑i t7 ↑j) (q:=lq s i) (N:=s.length) (p:=λT=>Base2 T) (out:=λj=>Sum.inl (t7,(j:Int),())) aG (qm _ (by omega))
  (λT j hj hb hq=>by
   have hl:i+j<s.length:=by
    rcases Nat.lt_or_ge (i+j) s.length with h|h
    ·exact h
    ·have:=qm (s:=s) _ h;unfold lq at hq;rw[this]at hq;cases hq
   have w:i64.wrap ((i:Int)+(j:Int))=((i+j:Nat):Int):=by rw[wrap64 _ (by omega) (by omega)];omega
   show fb (S.step T) _ _ _ _=fb T _ _ _ _;rw[qB,w,ad (by simp only[aC4];omega),ad (an hl),aJ,hb.iletter,aC0,bH (by omega)];unfold lq wq at hq
   cases h:bC (get s (i+j))with
   |true=>rw[ad (by rfl)]
   |false=>
    rw[h,aD3]at hq
    rw[aB (by rfl),ad (an hl),hb.idigit,aC0,hq,ad (by rfl)])
  (λT j hj hb hq=>by
   have w:i64.wrap ((i:Int)+(j:Int))=((i+j:Nat):Int):=by rw[wrap64 _ (by omega) (by omega)];omega
   show fb (S.step T) _ _ _ _=_;rw[qB,w]
   by_cases hl:i+j<s.length
   ·unfold lq wq at hq;rw[Bool.or_eq_false_iff]at hq;rw[ad (by simp only[aC4];omega),ad (an hl),aJ,hb.iletter,aC0,hq.1,aB (by rfl),ad (an hl),hb.idigit,aC0,hq.2,aB (by rfl)]
   ·rw[aB (by simp only[aC8];omega)]) s.length 0 (by omega) (by omega)
omit hs in
theorem UR:∀k:Nat,k<=78->(fx k).length<=100:=by
 have h:∀k:Fin 79,(fx k.1).length<=100:=by decide+kernel
 exact λk hk=>h ⟨k,by omega⟩
theorem vc (a:LI)(ha:gdI a)(i:Nat)(hi:i<=s.length):∀(m acc:Nat),m<=78->Evt λn=>iU (S.tab n) (a++[6]) s ↑i ↑acc ((79 - m:Nat):Int)=some (Sum.inl (a++[6],s,(i:Int),(mxK (qt a) s i m acc:Int),()))
 |0,acc,_=>aG.up λn _=>by
  rw[kX,aB (by decide)];rfl
 |m+1,acc,hm=>by
  have e:(79 - (m+1):Nat)=78 - m:=(by omega)
  have w:i64.wrap (((78 - m:Nat):Int)+1)=((79 - m:Nat):Int):=by rw[wrap64 _ (by omega) (by omega)];omega
  have d:decide (((78 - m:Nat):Int)<=78)=true:=by simp only[aC4];omega
  have ah9:=Kn;rw[e];unfold mxK
  by_cases hf:fx (78 - m)=[]
  ·refine((vc a ha i hi m acc (by omega)).and ah9).up λn ⟨h,hx⟩=> ?_
   rw[kX,ad d,hx _ (by omega),aC0,aN hf,w,h,aC1 hf];rfl
  ·have hc:=Ff (k:=((78 - m:Nat):Int)) (by omega) (by omega) a ha;have hk:vS (gO a ((78 - m:Nat):Int)) (decide ((6:Int)=((78 - m:Nat):Int)))=qt a ((78 - m:Nat):Int):=rfl;rw[hk]at hc;rw[aB9 hf]
   cases Zq:qt a ((78 - m:Nat):Int)with
   |false=>
    rw[Zq]at hc
    refine(((vc a ha i hi m acc (by omega)).and ah9).and hc).up λn ⟨⟨h,hx⟩,hc⟩=> ?_
    rw[kX,ad d,hx _ (by omega),aC0,aM hf,hc,aC0,ad (by rfl),w,h];rfl
   |true=>
    rw[Zq]at hc
    have af0:(if((cp s i (fx (78 - m)):Nat):Int)>(acc:Int)then((cp s i (fx (78 - m)):Nat):Int)else(acc:Int))=((max acc (cp s i (fx (78 - m))):Nat):Int):=by
     by_cases h:acc<cp s i (fx (78 - m))
     ·rw[aG3 (by omega),Nat.max_eq_right (by omega)]
     ·rw[aF4 (by omega),Nat.max_eq_left (by omega)]
    refine((((vc a ha i hi m (max acc (cp s i (fx (78 - m)))) (by omega)).and ah9).and hc).and (Js hs (a++[6]) i hi ↑acc ((78 - m:Nat):Int) (fx (78 - m)) (UR _ (by omega)))).up λn ⟨⟨⟨h,hx⟩,hc⟩,yg⟩=> ?_
    rw[kX,ad d,hx _ (by omega),aC0,aM hf,hc,aC0,aB (by rfl),yg,aC0];simp only[aO,aE3];rw[af0,w,h];rfl
theorem LG (a:LI)(ha:gdI a)(i:Nat)(hi:i<s.length):Evt λn=>kZ (S.tab n) (a++[6]) s (i:Int)=some ((jw (qt a) s i:Int),aT):=by
 have ax6:Evt λn=>jL (S.tab n) (a++[6]) s ↑i (m0 s i:Int)=some (Sum.inl ((jw (qt a) s i:Int),())):=by
  have hc:=Ff (k:=1) (by decide) (by decide) a ha;have hk:vS (gO a 1) (decide ((6:Int)=1))=qt a 1:=rfl;rw[hk]at hc
  refine((((vc hs a ha i (by omega) 78 (m0 s i) (aE5 _)).and hc).and (I6 hs i (by omega) (mxK (qt a) s i 78 (m0 s i):Int))).and aG).up λn ⟨⟨⟨h5,hc⟩,OU⟩,hb⟩=> ?_
  have h5:iU (S.tab n) (a++[6]) s ↑i (m0 s i:Int) 1=_:=h5;rw[yW,h5,aC0];simp only[aO,aE3];rw[ad (an hi),aJ,hb.iletter,aC0];unfold jw
  cases bC (get s i)with
  |false=>rw[aB (by rfl)];rfl
  |true=>
   rw[ad (by rfl),hc,aC0]
   cases qt a 1 with
   |false=>rw[aB (by rfl)];rfl
   |true=>
    rw[ad (by rfl),OU,aC0]
    have af0:(if((idl s i:Nat):Int)>((mxK (qt a) s i 78 (m0 s i):Nat):Int)then((idl s i:Nat):Int)else((mxK (qt a) s i 78 (m0 s i):Nat):Int))=((max (mxK (qt a) s i 78 (m0 s i)) (idl s i):Nat):Int):=by
     by_cases h:mxK (qt a) s i 78 (m0 s i)<idl s i
     ·rw[aG3 (by omega),Nat.max_eq_right (by omega)]
     ·rw[aF4 (by omega),Nat.max_eq_left (by omega)]
    simp only[aE3,aE4,aD6];rw[af0]
 refine ax6.up λn h=> ?_
 rw[CF,ad (an hi),aJ];unfold m0 at h
 by_cases Hb:get s i=45
 ·rw[aC1 Hb]at h;have h:jL (S.tab n) (a++[6]) s ↑i 1=_:=h;rw[aN Hb,h];rfl
 ·rw[aB9 Hb]at h;have h:jL (S.tab n) (a++[6]) s ↑i 0=_:=h;rw[aM Hb,h];rfl
end Go.Abs.D
end

section
namespace Go.Abs.D
theorem JZ {s:LI}{i j:Nat}{f:Bool}{e:Nat}(h:sw s i j f= .inl e):e<=s.length:=by
 unfold sw at h
 cases h5:decide (get s j=101)with
 |false=>rw[h5]at h;cases h
 |true=>
  rw[h5]at h;have hj:=dH (of_decide_eq_true h5) (by decide)
  cases hd:aR (get s (lz s j))with
  |true=>rw[hd]at h;cases h
  |false=>
   rw[hd]at h
   injection h with h
   subst h;unfold lz
   cases h1:decide (get s (j+1)=43)with
   |true=>have:=dH (of_decide_eq_true h1) (by decide);show j+2<=_;omega
   |false=>
    cases h2:decide (get s (j+1)=45)with
    |true=>have:=dH (of_decide_eq_true h2) (by decide);show j+2<=_;omega
    |false=>show j+1<=_;omega
theorem Au {s:LI}:∀(k j:Nat)(o:LI)(e:Nat),j<=s.length->eB s k j o= .inl e->e<=s.length
 |0,j,o,e,hj,h=>by injection h with h;omega
 |k+1,j,o,e,hj,h=>by
  have Pc:=Au (s:=s) k (j+1);have MC:=Au (s:=s) k (j+2);have ae2:=Au (s:=s) k (j+4);unfold eB at h
  by_cases hl:s.length<=j
  ·rw[aC1 hl]at h;injection h with h;omega
  rw[aB9 hl]at h
  cases h1:decide (get s j=10)with
  |true=>rw[h1]at h;injection h with h;omega
  |false=>
  rw[h1]at h
  cases h1:decide (get s j=34)with
  |true=>rw[h1]at h;cases h
  |false=>
  rw[h1]at h
  cases h1:decide (get s j=92)with
  |false=>rw[h1]at h;exact Pc _ _ (by omega) h
  |true=>
  rw[h1]at h
  cases h1:decide (get s (j+1)=110)with
  |true=>have:=dH (of_decide_eq_true h1) (by decide);rw[h1]at h;exact MC _ _ (by omega) h
  |false=>
  rw[h1]at h
  cases h1:decide (get s (j+1)=116)with
  |true=>have:=dH (of_decide_eq_true h1) (by decide);rw[h1]at h;exact MC _ _ (by omega) h
  |false=>
  rw[h1]at h
  cases h1:decide (get s (j+1)=34)with
  |true=>have:=dH (of_decide_eq_true h1) (by decide);rw[h1]at h;exact MC _ _ (by omega) h
  |false=>
  rw[h1]at h
  cases h1:decide (get s (j+1)=92)with
  |true=>have:=dH (of_decide_eq_true h1) (by decide);rw[h1]at h;exact MC _ _ (by omega) h
  |false=>
  rw[h1]at h
  cases h1:decide (get s (j+1)=120)with
  |false=>rw[h1]at h;injection h with h;omega
  |true=>
  have:=dH (of_decide_eq_true h1) (by decide);rw[h1]at h
  cases h1:gy (get s (j+2))with
  |false=>rw[h1]at h;injection h with h;omega
  |true=>
  have:=uu h1;rw[h1]at h
  cases h1:gy (get s (j+3))with
  |false=>rw[h1]at h;injection h with h;omega
  |true=>have:=uu h1;rw[h1]at h;exact ae2 _ _ (by omega) h
theorem Ob {s:LI}{i e:Nat}(hi:i<s.length)(h:kL s i= .inl e):e<=s.length:=by
 unfold kL at h
 cases hl:bC (get s i)with
 |true=>rw[hl]at h;cases h
 |false=>
  rw[hl]at h
  cases hd:aR (get s i)with
  |true=>
   rw[hd]at h;have h:iZ s i= .inl e:=h;unfold iZ at h
   have fr:∀j,sj s i j= .inl e->e<=s.length:=λj h=>by
    unfold sj at h
    cases h5:decide (get s j=46)&&aR (get s (j+1))with
    |true=>rw[h5]at h;exact JZ h
    |false=>rw[h5]at h;exact JZ h
   cases h0:decide (get s i=48)&&decide (get s (i+1)=120)with
   |false=>rw[h0]at h;exact fr _ h
   |true=>
    rw[h0]at h;rw[aC6]at h0;have:=dH (of_decide_eq_true h0.2) (by decide);have h1:j8 s (i+18) (i+2)<=s.length:=se BH _ _ (by omega);have h:ic s i= .inl e:=h;unfold ic at h
    by_cases he:j8 s (i+18) (i+2)=i+2
    ·simp only[he,if_true]at h;injection h with h;omega
    ·simp only[he,aH6]at h
     cases hx:gy (get s (j8 s (i+18) (i+2)))with
     |true=>simp only[hx,if_true]at h;injection h with h;omega
     |false=>simp only[hx,aG2,aH6]at h;cases h
  |false=>
   rw[hd]at h
   cases zC:decide (get s i=34)with
   |true=>
    rw[zC]at h;have h:Gf i (eB s s.length (i+1) [])= .inl e:=h
    cases hr:eB s s.length (i+1) []with
    |inl e'=>rw[hr]at h;injection h with h;subst h;exact Au _ _ _ _ (by omega) hr
    |inr y=>rw[hr]at h;cases h
   |false=>
    rw[zC]at h;have h:qc i (ja (p3 s i))= .inl e:=h;unfold qc at h
    cases hk:decide ((ja (p3 s i)).1=0)with
    |true=>rw[hk]at h;injection h with h;omega
    |false=>rw[hk]at h;cases h
end Go.Abs.D
end

section
namespace Go.Abs.D
def nq (s:LI)(j:Nat):Bool:=decide (j<s.length)&& !decide (get s j=10)
def Gi (s:LI)(j:Nat):Nat:=stop (nq s) s.length j
def blk (s:LI):Nat->Nat->Nat
 |0,j=>j
 |k+1,j=>
  bif decide (s.length<=j)then j else
  bif decide (get s j=32)then blk s k (j+1)else
  bif decide (get s j=9)then blk s k (j+1)else
  bif decide (get s j=13)then blk s k (j+1)else
  bif decide (get s j=45)&&decide (get s (j+1)=45)then blk s k (Gi s j)else j
def blank (s:LI)(j:Nat):Nat:=blk s s.length j
theorem BF {s:LI}:∀j,s.length<=j->nq s j=false:=λj h=>by unfold nq;rw[aB9 (by omega)];rfl
theorem QS {s:LI}{j:Nat}(h:j<=s.length):Gi s j<=s.length:=se BF _ _ h
theorem TP {s:LI}{j:Nat}(h:get s j=45):j<Gi s j:=by
 have hl:=dH h (by decide)
 have hq:nq s j=true:=by unfold nq;rw[aC1 hl,h];rfl
 have:=qU (q:=nq s) s.length (j+1);have e:=G0 (q:=nq s) (N:=s.length) BF (k:=s.length) (j:=j) (by omega) hq;unfold Gi;omega
theorem Mb {s:LI}:∀(k j:Nat),j<=s.length->blk s k j<=s.length/\j<=blk s k j
 |0,j,h=>⟨h,aE5 _⟩
 |k+1,j,h=>by
  unfold blk
  by_cases hl:s.length<=j
  ·rw[aC1 hl];exact⟨h,aE5 _⟩
  have ih:=Mb (s:=s) k (j+1) (by omega);rw[aB9 hl];simp only[aD1]
  cases decide (get s j=32)with
  |true=>exact⟨ih.1,by have:=ih.2;simp only[aD6];omega⟩
  |false=>
  cases decide (get s j=9)with
  |true=>exact⟨ih.1,by have:=ih.2;simp only[aD6,aD1];omega⟩
  |false=>
  cases decide (get s j=13)with
  |true=>exact⟨ih.1,by have:=ih.2;simp only[aD6,aD1];omega⟩
  |false=>
  cases decide (get s j=45)&&decide (get s (j+1)=45)with
  |true=>
   have ih:=Mb (s:=s) k (Gi s j) (QS h);have:=qU (q:=nq s) s.length j;refine⟨ih.1, ?_⟩;have:=ih.2;simp only[aD6,aD1];unfold Gi at this⊢;omega
  |false=>exact⟨h,aE5 _⟩
variable{s:LI}(hs:s.length<=2097152)
include hs
theorem Lf (j:Nat):Evt λn=>jt (S.tab n) s (j:Int)=some (Sum.inl (s,(Gi s j:Int),())):=
 adv (F:=λT j=>jt T s ↑j) (out:=λj=>Sum.inl (s,(j:Int),())) aG BF
  (λT j h hq=>by
   have hj:=lX BF hq;unfold nq at hq;rw[aC6]at hq;show jt (S.step T) s j=jt T s ((j+1:Nat):Int)
   rw[tW,ad (by simpa using hj),ad (an hj),aJ,ad hq.2,bH (by omega)])
  (λT j h hq=>by
   show jt (S.step T) s j=_;rw[tW]
   by_cases hj:j<s.length
   ·unfold nq at hq;rw[aC1 hj,aC9]at hq;rw[ad (by simpa using hj),ad (an hj),aJ,aB hq]
   ·rw[aB (by simpa using hj)]) s.length j (by omega)
theorem LJ (j:Nat):Evt λn=>gp (S.tab n) s (j:Int)=some (Sum.inl (s,(Gi s j:Int),())):=
 adv (F:=λT j=>gp T s ↑j) (out:=λj=>Sum.inl (s,(j:Int),())) aG BF
  (λT j h hq=>by
   have hj:=lX BF hq;unfold nq at hq;rw[aC6]at hq;show gp (S.step T) s j=gp T s ((j+1:Nat):Int)
   rw[qx,ad (by simpa using hj),ad (an hj),aJ,ad hq.2,bH (by omega)])
  (λT j h hq=>by
   show gp (S.step T) s j=_;rw[qx]
   by_cases hj:j<s.length
   ·unfold nq at hq;rw[aC1 hj,aC9]at hq;rw[ad (by simpa using hj),ad (an hj),aJ,aB hq]
   ·rw[aB (by simpa using hj)]) s.length j (by omega)
def BR (e:Nat)(y:(Int×Unit)⊕(Int×Unit)⊕Empty):Prop:=y= .inl ((e:Int),())\/y= .inr (.inl ((e:Int),()))
omit hs in
theorem SD {j:Nat}(hj:j<s.length):pS s j [45,45]=(decide (get s j=45)&&decide (get s (j+1)=45)):=by
 unfold pS;rw[show([45,45]:LI).length=2 from rfl]
 by_cases h:2<=s.length - j
 ·rw[Al (s:=s) (by omega),aC1 h,aC9];simp
 ·rw[aB9 h,ir (show s.length<=j+1 by omega),show decide ((0:Int)=45)=false from rfl,aD0];rfl
theorem oV:∀(k j:Nat),s.length<=j+k->j<=s.length->Evt λn=>∃y,de (S.tab n) s (j:Int)=some y/\BR (blk s k j) y
 |0,j,hk,hj=>by
  refine aG.up λn hb=> ?_
  show∃y,de (S.step (S.tab n)) _ _=_/\_;rw[jx,aB (by simp only[aC8];omega)];exact⟨_,rfl, .inr rfl⟩
 |k+1,j,hk,hj=>by
  by_cases hl:s.length<=j
  ·refine aG.up λn hb=> ?_
   show∃y,de (S.step (S.tab n)) _ _=_/\_;rw[jx,aB (by simp only[aC8];omega)];refine⟨_,rfl, .inr ?_⟩;unfold blk;rw[aC1 hl];rfl
  have tL:j<s.length:=(by omega);have ng:=an tL
  have gX:decide ((j:Int)<(s.length:Int))=true:=by simp only[aC4];omega
  have w1:i64.wrap ((j:Int)+1)=((j+1:Nat):Int):=bH (by omega);have ih:=oV k (j+1) (by omega) (by omega);unfold blk;rw[aB9 hl]
  by_cases c1:get s j=32
  ·refine ih.up λn h=> ?_
   show∃y,de (S.step (S.tab n)) _ _=_/\_;rw[jx,ad gX,ad ng,aJ,aN c1,w1,aC1 c1];exact h
  by_cases c2:get s j=9
  ·refine ih.up λn h=> ?_
   show∃y,de (S.step (S.tab n)) _ _=_/\_;rw[jx,ad gX,ad ng,aJ,aM c1,ad ng,aN c2,w1,aC1 c2,aB9 c1];exact h
  by_cases c3:get s j=13
  ·refine ih.up λn h=> ?_
   show∃y,de (S.step (S.tab n)) _ _=_/\_;rw[jx,ad gX,ad ng,aJ,aM c1,ad ng,aM c2,ad ng,aN c3,w1,aC1 c3,aB9 c2,aB9 c1];exact h
  rw[aB9 c1,aB9 c2,aB9 c3]
  have start:∀n,(∀f:LI,jY (S.tab n) (sub s ↑j (s.length:Int)) f=some (pS s j f,ab))->de (S.step (S.tab n)) s (j:Int)=_:=λn hp=>by
   rw[jx,ad gX,ad ng,aJ,aM c1,ad ng,aM c2,ad ng,aM c3,ad (dZ (by omega) (aE5 _)),hp,aC0,SD (s:=s) tL]
  cases hd:decide (get s j=45)&&decide (get s (j+1)=45)with
  |true=>
   have Hb:get s j=45:=by
    rw[aC6,aC4]at hd;exact hd.1
   have hg:=TP Hb;have hle:=QS (s:=s) (j:=j) hj;have ih:=oV k (Gi s j) (by omega) hle
   refine((ih.and (Lf hs j)).and (Bw hs tL)).up λn ⟨⟨h,h6⟩,hp⟩=> ?_
   show∃y,de (S.step (S.tab n)) _ _=_/\_;rw[start n hp,hd,ad (by rfl),h6];exact h
  |false=>
   refine(Bw hs tL).up λn hp=> ?_
   show∃y,de (S.step (S.tab n)) _ _=_/\_;rw[start n hp,hd,aB (by rfl)];exact⟨_,rfl, .inl rfl⟩
theorem oh:∀(k j:Nat),s.length<=j+k->j<=s.length->Evt λn=>∃y,bX (S.tab n) s (j:Int)=some y/\BR (blk s k j) y
 |0,j,hk,hj=>by
  refine aG.up λn hb=> ?_
  show∃y,bX (S.step (S.tab n)) _ _=_/\_;rw[dV,aB (by simp only[aC8];omega)];exact⟨_,rfl, .inr rfl⟩
 |k+1,j,hk,hj=>by
  by_cases hl:s.length<=j
  ·refine aG.up λn hb=> ?_
   show∃y,bX (S.step (S.tab n)) _ _=_/\_;rw[dV,aB (by simp only[aC8];omega)];refine⟨_,rfl, .inr ?_⟩;unfold blk;rw[aC1 hl];rfl
  have tL:j<s.length:=(by omega);have ng:=an tL
  have gX:decide ((j:Int)<(s.length:Int))=true:=by simp only[aC4];omega
  have w1:i64.wrap ((j:Int)+1)=((j+1:Nat):Int):=bH (by omega);have ih:=oh k (j+1) (by omega) (by omega);unfold blk;rw[aB9 hl]
  by_cases c1:get s j=32
  ·refine ih.up λn h=> ?_
   show∃y,bX (S.step (S.tab n)) _ _=_/\_;rw[dV,ad gX,ad ng,aJ,aN c1,w1,aC1 c1];exact h
  by_cases c2:get s j=9
  ·refine ih.up λn h=> ?_
   show∃y,bX (S.step (S.tab n)) _ _=_/\_;rw[dV,ad gX,ad ng,aJ,aM c1,aN c2,w1,aC1 c2,aB9 c1];exact h
  by_cases c3:get s j=13
  ·refine ih.up λn h=> ?_
   show∃y,bX (S.step (S.tab n)) _ _=_/\_;rw[dV,ad gX,ad ng,aJ,aM c1,aM c2,aN c3,w1,aC1 c3,aB9 c2,aB9 c1];exact h
  rw[aB9 c1,aB9 c2,aB9 c3]
  by_cases Hb:¬ get s j=45
  ·rw[aB9 Hb]
   refine aG.up λn hb=> ?_
   show∃y,bX (S.step (S.tab n)) _ _=_/\_;rw[dV,ad gX,ad ng,aJ,aM c1,aM c2,aM c3,ad (by rw[aB9 Hb];rfl)];exact⟨_,rfl, .inl rfl⟩
  replace Hb:=Decidable.not_not.1 Hb
  by_cases FH:¬ get s (j+1)=45
  ·rw[aB9 FH,aD0]
   refine aG.up λn hb=> ?_
   show∃y,bX (S.step (S.tab n)) _ _=_/\_;rw[dV,ad gX,ad ng,aJ,aM c1,aM c2,aM c3,aB (by rw[aC1 Hb];rfl),w1,hb.look,aC0,ad (by rw[aB9 FH];rfl)];exact⟨_,rfl, .inl rfl⟩
  replace FH:=Decidable.not_not.1 FH
  have hg:=TP Hb;have hle:=QS (s:=s) (j:=j) hj;have ih:=oh k (Gi s j) (by omega) hle
  refine((ih.and (LJ hs j)).and aG).up λn ⟨⟨h,h6⟩,hb⟩=> ?_
  show∃y,bX (S.step (S.tab n)) _ _=_/\_;rw[dV,ad gX,ad ng,aJ,aM c1,aM c2,aM c3,aB (by rw[aC1 Hb];rfl),w1,hb.look,aC0,aB (by rw[aC1 FH];rfl),h6,aC1 Hb,aC1 FH];exact h
theorem py {j:Nat}(hj:j<=s.length):Evt λn=>jB (S.tab n) s (j:Int)=some ((blank s j:Int),ab):=
 (oV hs s.length j (by omega) hj).up λn ⟨y,h,hr⟩=>by
  rw[FU,h,aC0]
  rcases hr with rfl|rfl<;>rfl
theorem rX {j:Nat}(hj:j<=s.length):Evt λn=>jr (S.tab n) s (j:Int)=some ((blank s j:Int),ab):=
 (oh hs s.length j (by omega) hj).up λn ⟨y,h,hr⟩=>by
  rw[AW,h,aC0]
  rcases hr with rfl|rfl<;>rfl
end Go.Abs.D
end

section
namespace Go.Abs.D
theorem aa8:∀k:Nat,k<30->sgn (bh.getD k [])≠6:=by
 have h:∀k:Fin 30,sgn (bh.getD k.1 [])≠6:=by decide+kernel
 exact λk hk=>h ⟨k,hk⟩
theorem Bo {s:LI}{i:Nat}{t:al.den}(h:kL s i= .inr t):1<=kd t/\kd t<=78/\kd t≠6/\(get s i=34->kd t=4):=by
 unfold kL at h
 cases hl:bC (get s i)with
 |true=>
  rw[hl]at h
  injection h with h
  subst h;have zC:get s i≠34:=(GG hl).2.1;unfold Ge;simp only;split
  ·rename_i hk;have hk:uG (sub s ↑i (tJ s i:Int))<22:=hk;exact⟨by show(1:Int)<=((10+uG (sub s ↑i (tJ s i:Int)):Nat):Int);omega,by show((10+uG (sub s ↑i (tJ s i:Int)):Nat):Int)<=78;omega,by show((10+uG (sub s ↑i (tJ s i:Int)):Nat):Int)≠6;omega,λe=>absurd e zC⟩
  ·exact⟨by show(1:Int)<=1;decide,by show(1:Int)<=78;decide,by show(1:Int)≠6;decide,λe=>absurd e zC⟩
 |false=>
  rw[hl]at h
  cases hd:aR (get s i)with
  |true=>
   rw[hd]at h
   have zC:get s i≠34:=λe=>by rw[e]at hd;cases hd
   rcases Ko h with h|h
   ·have h:kd t=2:=h;rw[h];exact⟨by decide,by decide,by decide,λe=>absurd e zC⟩
   ·have h:kd t=3:=h;rw[h];exact⟨by decide,by decide,by decide,λe=>absurd e zC⟩
  |false=>
   rw[hd]at h
   cases zC:decide (get s i=34)with
   |true=>
    rw[zC]at h;have h:Gf i (eB s s.length (i+1) [])= .inr t:=h
    cases hr:eB s s.length (i+1) []with
    |inl e=>rw[hr]at h;cases h
    |inr y=>
     rw[hr]at h;obtain⟨e,r⟩:=y
     injection h with h
     subst h;exact⟨by show(1:Int)<=4;decide,by show(4:Int)<=78;decide,by show(4:Int)≠6;decide,λ_=>rfl⟩
   |false=>
    have ae1:get s i≠34:=of_decide_eq_false zC;rw[zC]at h;have h:qc i (ja (p3 s i))= .inr t:=h;unfold qc ja at h
    cases hk:decide (lf (p3 s i)<30)with
    |false=>rw[hk]at h;cases h
    |true=>
     rw[hk]at h;simp only[aD6]at h;rw[aB9 (Dr _)]at h
     injection h with h
     subst h;have hk:=of_decide_eq_true hk;have h1:=TR _ hk;have h2:=aa8 _ hk;refine⟨?_, ?_, ?_,λe=>absurd e ae1⟩
     ·show(1:Int)<=((sgn _:Nat):Int);omega
     ·show((sgn _:Nat):Int)<=78;omega
     ·show((sgn _:Nat):Int)≠6;omega
def lnd (t:al.den)(line:Int):al.den:=(t.1,t.2.1,t.2.2.1,line,t.2.2.2.2)
def foldI (a:LI):LI->Option (LI)
 |[]=>some a
 |k::ks=>match gO a k with| .left l=>foldI l ks|_=>none
theorem zi:∀(ks:LI)(a b l:LI)(k:Int),foldI a ks=some b->gO b k= .left l->foldI a (ks++[k])=some l
 |[],a,b,l,k,h,ho=>by
  injection h with h
  subst h;show(match gO a k with| .left l=>foldI l []|_=>none)=_;rw[ho];rfl
 |k'::ks,a,b,l,k,h,ho=>by
  have h:(match gO a k' with| .left l=>foldI l ks|_=>none)=some b:=h;show(match gO a k' with| .left l=>foldI l (ks++[k])|_=>none)=some l
  cases hx:gO a k' with
  |no=>rw[hx]at h;cases h
  |gone=>rw[hx]at h;cases h
  |left m=>rw[hx]at h;exact zi ks m b l k h ho
def Vy (s:LI)(t:al.den):Prop:=
 (∃(i:Nat) (line:Nat) (t0:al.den),i<s.length/\line<=i+1/\get s i≠10/\kL s i= .inr t0/\t=lnd t0 line)\/
 (∃(i:Nat) (line:Nat),i<s.length/\line<=i+1/\get s i=10/\t=(5,(i:Int),((i+1:Nat):Int),(line:Int),0,([]:LI),()))
theorem EH {can:Int->Bool}{s:LI}{i:Nat}(hi:i<s.length):i+jw can s i<=s.length:=by
 unfold jw;have h1:=TN (can:=can) hi;have h2:=Qu (s:=s) (Nat.le_of_lt hi)
 cases bC (get s i)&&can 1 with
 |true=>show i+max _ _<=_;omega
 |false=>exact h1
theorem GL {p q:Int->Bool}(h:∀k:Int,0<=k->k<=78->p k=q k)(s:LI)(i:Nat):∀m acc:Nat,m<=78->mxK p s i m acc=mxK q s i m acc
 |0,_,_=>rfl
 |m+1,acc,hm=>by
  unfold mxK;rw[h _ (by omega) (by omega),GL h s i m _ (by omega)]
theorem I8 {p q:Int->Bool}(h:∀k:Int,0<=k->k<=78->p k=q k)(s:LI)(i:Nat):jw p s i=jw q s i:=by
 unfold jw;rw[GL h s i 78 _ (aE5 _),h 1 (by decide) (by decide)]
theorem TH:gdI [1000]:=λx hx=>by
 have e:x=1000:=(by simpa using hx)
 have h:Q4 1000=true:=by kernel_rfl
 rw[e];exact H6 h
theorem Z6:gdS [100]:=λx hx=>by
 have e:x=100:=(by simpa using hx)
 have h:Q5 100=true:=by kernel_rfl
 rw[e];exact h
theorem LZ {s:LI}{j:Nat}(h:j<=s.length):blank s j<=s.length/\j<=blank s j:=Mb _ _ h
variable{s:LI}(hs:s.length<=65536)(yM:∀c∈s,isByte c)
include hs
theorem GU {b:LI}{cs:Cls}{top:Int}(hb:gdS b)(hr:Reads cs top (b++[6]))(zB:cs.length<=1999900){i:Nat}(hi:i<s.length)(hw:WrongAt (iE b) (get s i))(out:List al.den)(line:Int):
  Evt λn=>∀(tok:al.den) (t12 t13 t14:Int),tok.1≠7->eU (S.tab n) (cs,()) s top out line ↑i tok t12 t13 t14 false=some (Sum.inr (Sum.inl ((cs,()),[],top,((i+jw (iE b) s i:Nat):Int),()))):=
 ((Vn cs zB b top hb hr).and (Py hs hi hw)).up λn ⟨hm,hx⟩ tok t12 t13 t14 h7=>by
  rw[kV,ad (by rfl),aM h7,ad (by rfl),hm,aC0];dsimp only;rw[hx,aC0]
omit hs in
theorem SC (cs:Cls)(top:Int)(i:Nat)(out:List al.den)(line:Int):Evt λn=>∀(tok:al.den)(e:Nat)(t13 t14:Int),tok.1≠7->eU (S.tab n) (cs,()) s top out line ↑i tok ↑e t13 t14 true=some (Sum.inr (Sum.inl ((cs,()),[],top,(e:Int),()))):=
 aG.up λn _ tok e t13 t14 h7=>by
  rw[kV,aB (by rfl),aB (by rfl),ad (by simp only[aC4];omega)]
theorem Kp (cs:Cls)(top:Int)(i:Nat)(out:List al.den)(ho:out.length<=70000)(line:Int)(tok:al.den){e:Nat}(he:tok.2.2.1=(e:Int))(IU:e<=s.length)(t13 t14:Int):Evt λn=>eU (S.tab n) (cs,()) s top out line ↑i tok (-1) t13 t14 true=some (Sum.inr (Sum.inr (Sum.inl ((cs,()),s,t14,out++[(t13,tok.2)],line,(blank s e:Int),())))):=
 (rX (s:=s) (by omega) (j:=e) IU).up λn He=>by
  rw[kV,aB (by rfl),aB (by rfl),aB (by rfl),ad (bc (by unfold lim;simp;omega)),he,He,aC0]
theorem N2 (cs:Cls)(top:Int)(i:Nat)(out:List al.den)(line:Int)(tok:al.den){e:Nat}(he:tok.2.2.1=(e:Int))(h7:tok.1=7)(IU:e<=s.length)(t12 t13 t14:Int):Evt λn=>eU (S.tab n) (cs,()) s top out line ↑i tok t12 t13 t14 false=some (Sum.inl ((cs,()),s,top,out,line,(blank s e:Int),())):=
 (rX (s:=s) (by omega) (j:=e) IU).up λn He=>by
  rw[kV,ad (by rfl),aN h7,he,He,aC0]
abbrev W16:Type:=((List gz.den×Unit)×LI×Int×List al.den×Int×Int×Unit)⊕((List gz.den×Unit)×List al.den×gz.den)⊕((List gz.den×Unit)×LI×Int×List al.den×Int×Int×Unit)⊕Empty
omit hs in
theorem Np (y:W16):OH (λkv=>some (Sum.inl kv:W16)) (λkv=>some (Sum.inr (Sum.inl kv))) (λkv=>some (Sum.inr (Sum.inr (Sum.inl kv)))) y=some y:=by
 rcases y with y|y|y|y
 ·rfl
 ·rfl
 ·rfl
 ·exact y.elim
omit hs in
theorem xk {k:Int}(hk:1<=k){cs ds:Cls}{top ko:Int}{ok:Bool}{out:List al.den}{line:Int}{i:Nat}{n:Nat}(hF:kf (S.tab n) (cs,()) top k=some ((ko,ok,()),(ds,()),(),(),())){tok:al.den}{t12:Int}{y:W16}
  (h:eU (S.tab n) (ds,()) s top out line (i:Int) tok t12 k ko ok=some y):bY (S.step (S.tab n)) (cs,()) s top out line ↑i tok t12 k=some y:=by
 rw[rS,ad (by simp only[aC4];omega),hF,aC0];dsimp only;rw[h,aC0];exact Np y
omit hs in
theorem Pw {cs:Cls}{top:Int}{out:List al.den}{line:Int}{i:Nat}{n:Nat}{tok:al.den}{t12:Int}{y:W16}
  (h:eU (S.tab n) (cs,()) s top out line (i:Int) tok t12 0 top false=some y):bY (S.step (S.tab n)) (cs,()) s top out line ↑i tok t12 0=some y:=by
 rw[rS,aB (by rfl)];show(eU (S.tab n) (cs,()) s top out line ↑i tok t12 0 top false).bind _=_;rw[h,aC0];exact Np y
theorem NF {b:LI}{cs:Cls}{top:Int}(hb:gdS b)(hr:Reads cs top (b++[6]))(zB:cs.length<=1999800){i:Nat}(hi:i<s.length){k:Int}(h1:1<=k)(az0:k<=78)(hw:iE b k=false->WrongAt (iE b) (get s i))(out:List al.den)(line:Int)(e:Nat):
  Evt λn=>∀(tok:al.den) (t12:Int),tok.1≠7->(iE b k=true->t12=(e:Int))->∃c t,bY (S.tab n) (cs,()) s top out line ↑i tok t12 k=some (Sum.inr (Sum.inl (c,[],t,((bif iE b k then e else i+jw (iE b) s i:Nat):Int),()))):=by
 obtain⟨ds,ko,hd,_,hF⟩:=AD (k:=k) (by omega) az0 cs (by omega) b top hb.ok hr;have hk:vS (pj b k) (decide ((6:Int)=k))=iE b k:=rfl;rw[hk]at hF
 cases hc:iE b k with
 |false=>
  rw[hc]at hF
  exact(hF.and (GU hs hb hr.mono (by simp;omega) hi (hw hc) out line)).up λn ⟨hF,FM⟩ tok t12 h7 _=>⟨_,_,xk h1 hF (FM tok t12 k ko h7)⟩
 |true=>
  rw[hc]at hF
  refine(hF.and (SC (s:=s) (cs++ds) top i out line)).up λn ⟨hF,FM⟩ tok t12 h7 ht=> ?_
  rw[ht rfl];exact⟨_,_,xk h1 hF (FM tok e k ko h7)⟩
def XP (s:LI)(out:List al.den)(line i:Nat)(a:LI)(cs:Cls)(top:Int):Prop:=
 (∃p:Nat,p<=s.length/\(Evt λn=>∃l,bn (S.tab n) s out (a++[6]) (line:Int) (i:Int)=some (Sum.inl ([],l,(p:Int),())))/\
  Evt λn=>∃c t,aU (S.tab n) (cs,()) s top out (line:Int) (i:Int)=some (Sum.inl (c,[],t,(p:Int),())))\/
 (∃(BT:List al.den) (a' b':LI) (BP:Cls) (ko:Int) (yN:Nat),gdI a'/\gdS b'/\NI a'=NS b'/\Reads BP ko (b'++[6])/\BP.length<=1999900/\BT.length<=s.length/\yN<=s.length+1/\
  foldI [1000] (BT.map kd)=some a'/\(∀t∈BT,Vy s t)/\
  (Evt λn=>bn (S.tab n) s out (a++[6]) (line:Int) (i:Int)=some (Sum.inr (Sum.inl (BT,a'++[6],()))))/\
  Evt λn=>aU (S.tab n) (cs,()) s top out (line:Int) (i:Int)=some (Sum.inr (Sum.inl ((BP,()),s,ko,BT,(yN:Int),()))))
include yM in
theorem Sj:∀(d i line:Nat)(out:List al.den)(a b:LI)(cs:Cls)(top:Int),s.length<i+d->i<=s.length->line<=i+1->out.length<=i->gdI a->gdS b->NI a=NS b->Reads cs top (b++[6])->cs.length<=20*i+2->
    foldI [1000] (out.map kd)=some a->(∀t∈out,Vy s t)->XP s out line i a cs top:=by
  have T9:s.length<=2097152:=(by omega);intro d
  induction d with
  |zero=>intro i line out a b cs top hd hi;omega
  |succ d ih=>
    intro i line out a b cs top hd hi Ui ho ha hb hn hr zB hf ZA
    by_cases hl:s.length<=i
    ·
      refine .inr ⟨out,a,b,cs,top,line,ha,hb,hn,hr,by omega,by omega,by omega,hf,ZA,aG.up λn _=> ?_,aG.up λn _=> ?_⟩
      · show bn (S.step (S.tab n)) _ _ _ _ _=_
        rw[nF,aB (by simp only[aC8];omega)]
      · show aU (S.step (S.tab n)) _ _ _ _ _ _=_
        rw[lU,aB (by simp only[aC8];omega)]
    have tL:i<s.length:=(by omega)
    have gX:decide ((i:Int)<(s.length:Int))=true:=by simp only[aC4];omega
    have ng:=an tL;have w1:i64.wrap ((i:Int)+1)=((i+1:Nat):Int):=bH (by omega);have wl:i64.wrap ((line:Int)+1)=((line+1:Nat):Int):=bH (by omega)
    have pk:∀x:al.den,fits (out.length+([x]:List al.den).length)=true:=λx=>bc (by unfold lim;simp only[aH4];omega)
    have KY:∀k:Int,0<=k->k<=78->qt a k=iE b k:=λk h0 h1=>JG ha hb hn h0 h1
    by_cases yg:get s i=10
    ·
      have K7:=LZ (s:=s) (j:=i+1) (by omega);obtain⟨ds,ko,VT,hR,hF⟩:=AD (k:=5) (by decide) (by decide) cs (by omega) b top hb.ok hr;have hk:vS (pj b 5) (decide ((6:Int)=5))=iE b 5:=rfl;rw[hk]at hF;have oE:=Ff (k:=5) (by decide) (by decide) a ha;have hk:vS (gO a 5) (decide ((6:Int)=5))=qt a 5:=rfl;rw[hk,KY 5 (by decide) (by decide)]at oE
      cases hc:iE b 5 with
      |false=>
        rw[hc]at hF oE;have ih:=ih (blank s (i+1)) (line+1) out a b (cs++ds) top (by omega) K7.1 (by omega) (by omega) ha hb hn hr.mono (by simp;omega) hf ZA
        have Cz:∀n,j5 (S.tab n) (a++[6]) 5=some (false,ab)->jB (S.tab n) s ((i+1:Nat):Int)=some ((blank s (i+1):Int),ab)->bn (S.step (S.tab n)) s out (a++[6]) (line:Int) (i:Int)=bn (S.tab n) s out (a++[6]) ((line+1:Nat):Int) (blank s (i+1):Int):=λn oE He=>by
          rw[nF,ad gX,ad ng,aJ,aN yg,oE,aC0,aB (by rfl),w1,He,aC0,wl]
        have KV:Evt λn=>bY (S.tab n) (cs,()) s top out ((line+1:Nat):Int) ↑i (7,(i:Int),((i+1:Nat):Int),(line:Int),0,([]:LI),()) (-1) 5=some (Sum.inl ((cs++ds,()),s,top,out,((line+1:Nat):Int),(blank s (i+1):Int),())):=
          (hF.and (N2 hs (cs++ds) top i out ((line+1:Nat):Int) (7,(i:Int),((i+1:Nat):Int),(line:Int),0,([]:LI),()) (e:=i+1) rfl rfl (by omega) (-1) 5 ko)).up λn ⟨hF,FM⟩=>xk (by decide) hF FM
        have CA:∀n,dX (S.tab n) s (i:Int)=some (((7,(i:Int),((i+1:Nat):Int),0,0,([]:LI),()), -1,()),ab)->bY (S.tab n) (cs,()) s top out ((line+1:Nat):Int) ↑i (7,(i:Int),((i+1:Nat):Int),(line:Int),0,([]:LI),()) (-1) 5=some (Sum.inl ((cs++ds,()),s,top,out,((line+1:Nat):Int),(blank s (i+1):Int),()))->
            aU (S.step (S.tab n)) (cs,()) s top out (line:Int) (i:Int)=aU (S.tab n) (cs++ds,()) s top out ((line+1:Nat):Int) (blank s (i+1):Int):=λn C4 sB=>by
          rw[lU,ad gX,C4,aC0];dsimp only;rw[ad (by rfl),wl,sB];rfl
        have C4:=wL T9 tL yg;have He:=py (s:=s) T9 (j:=i+1) (by omega)
        rcases ih with⟨p,hp,e1,e2⟩|⟨BT,a',b',BP,FD,yN,g1,g2,g3,g4,g5,g6,g7,g8,g9,e1,e2⟩
        · refine .inl ⟨p,hp,((e1.and oE).and He).up λn ⟨⟨⟨l,h⟩,hc⟩,hk⟩=>⟨l, ?_⟩,((e2.and C4).and KV).up λn ⟨⟨⟨c,t,h⟩,C4⟩,sB⟩=>⟨c,t, ?_⟩⟩
          · show bn (S.step (S.tab n)) _ _ _ _ _=_
            rw[Cz n hc hk,h]
          · show aU (S.step (S.tab n)) _ _ _ _ _ _=_
            rw[CA n C4 sB,h]
        · refine .inr ⟨BT,a',b',BP,FD,yN,g1,g2,g3,g4,g5,g6,g7,g8,g9,((e1.and oE).and He).up λn ⟨⟨h,hc⟩,hk⟩=> ?_,((e2.and C4).and KV).up λn ⟨⟨h,C4⟩,sB⟩=> ?_⟩
          · show bn (S.step (S.tab n)) _ _ _ _ _=_
            rw[Cz n hc hk,h]
          · show aU (S.step (S.tab n)) _ _ _ _ _ _=_
            rw[CA n C4 sB,h]
      |true=>
        rw[hc]at hF oE;obtain⟨l,m,Tu,ai2,gl,gm,YC⟩:=GZ ha hb hn (k:=5) (by decide) (by decide) (by decide) (by rw[KY 5 (by decide) (by decide)];exact hc);have mB:=Dq (k:=5) (by decide) (by decide) (by decide) a ha;rw[Tu]at mB
        have ih:=ih (blank s (i+1)) (line+1) (out++[(5,(i:Int),((i+1:Nat):Int),(line:Int),0,([]:LI),())]) l m (cs++ds) ko (by omega) K7.1 (by omega) (by simp;omega) gl gm YC (hR m ai2) (by simp;omega)
          (by rw[List.map_append];exact zi _ _ a l 5 hf Tu) (λt ht=>(aE9.1 ht).elim (ZA t) λht=> .inr ⟨i,line,tL,Ui,yg,by simpa using ht⟩)
        have Cz:∀n,j5 (S.tab n) (a++[6]) 5=some (true,ab)->o9 (S.tab n) (a++[6]) 5=some (l++[6],ab)->jB (S.tab n) s ((i+1:Nat):Int)=some ((blank s (i+1):Int),ab)->bn (S.step (S.tab n)) s out (a++[6]) (line:Int) (i:Int)=bn (S.tab n) s (out++[(5,(i:Int),((i+1:Nat):Int),(line:Int),0,([]:LI),())]) (l++[6]) ((line+1:Nat):Int) (blank s (i+1):Int):=λn oE mB He=>by
          rw[nF,ad gX,ad ng,aJ,aN yg,oE,aC0,ad (by rfl),mB,aC0,ad (pk _),w1,He,aC0,wl]
        have KV:Evt λn=>bY (S.tab n) (cs,()) s top out ((line+1:Nat):Int) ↑i (7,(i:Int),((i+1:Nat):Int),(line:Int),0,([]:LI),()) (-1) 5=some (Sum.inr (Sum.inr (Sum.inl ((cs++ds,()),s,ko,out++[(5,(i:Int),((i+1:Nat):Int),(line:Int),0,([]:LI),())],((line+1:Nat):Int),(blank s (i+1):Int),())))):=
          (hF.and (Kp hs (cs++ds) top i out (by omega) ((line+1:Nat):Int) (7,(i:Int),((i+1:Nat):Int),(line:Int),0,([]:LI),()) (e:=i+1) rfl (by omega) 5 ko)).up λn ⟨hF,FM⟩=>xk (by decide) hF FM
        have CA:∀n,dX (S.tab n) s (i:Int)=some (((7,(i:Int),((i+1:Nat):Int),0,0,([]:LI),()), -1,()),ab)->bY (S.tab n) (cs,()) s top out ((line+1:Nat):Int) ↑i (7,(i:Int),((i+1:Nat):Int),(line:Int),0,([]:LI),()) (-1) 5=some (Sum.inr (Sum.inr (Sum.inl ((cs++ds,()),s,ko,out++[(5,(i:Int),((i+1:Nat):Int),(line:Int),0,([]:LI),())],((line+1:Nat):Int),(blank s (i+1):Int),()))))->
            aU (S.step (S.tab n)) (cs,()) s top out (line:Int) (i:Int)=aU (S.tab n) (cs++ds,()) s ko (out++[(5,(i:Int),((i+1:Nat):Int),(line:Int),0,([]:LI),())]) ((line+1:Nat):Int) (blank s (i+1):Int):=λn C4 sB=>by
          rw[lU,ad gX,C4,aC0];dsimp only;rw[ad (by rfl),wl,sB];rfl
        have C4:=wL T9 tL yg;have He:=py (s:=s) T9 (j:=i+1) (by omega)
        rcases ih with⟨p,hp,e1,e2⟩|⟨BT,a',b',BP,FD,yN,g1,g2,g3,g4,g5,g6,g7,g8,g9,e1,e2⟩
        · refine .inl ⟨p,hp,(((e1.and oE).and mB).and He).up λn ⟨⟨⟨⟨l',h⟩,hc⟩,mB⟩,hk⟩=>⟨l', ?_⟩,((e2.and C4).and KV).up λn ⟨⟨⟨c,t,h⟩,C4⟩,sB⟩=>⟨c,t, ?_⟩⟩
          · show bn (S.step (S.tab n)) _ _ _ _ _=_
            rw[Cz n hc mB hk,h]
          · show aU (S.step (S.tab n)) _ _ _ _ _ _=_
            rw[CA n C4 sB,h]
        · refine .inr ⟨BT,a',b',BP,FD,yN,g1,g2,g3,g4,g5,g6,g7,g8,g9,(((e1.and oE).and mB).and He).up λn ⟨⟨⟨h,hc⟩,mB⟩,hk⟩=> ?_,((e2.and C4).and KV).up λn ⟨⟨h,C4⟩,sB⟩=> ?_⟩
          · show bn (S.step (S.tab n)) _ _ _ _ _=_
            rw[Cz n hc mB hk,h]
          · show aU (S.step (S.tab n)) _ _ _ _ _ _=_
            rw[CA n C4 sB,h]
    have Fy:=uR T9 tL yg;have MF:=Co T9 yM tL;have KQ:=LG hs a ha i tL;rw[I8 KY s i]at KQ
    have wI:∀n,kZ (S.tab n) (a++[6]) s (i:Int)=some ((jw (iE b) s i:Int),aT)->WrongAt (iE b) (get s i)->((kZ (S.tab n) (a++[6]) s ↑i).bind λd61=>some (Sum.inl (([]:List al.den),a++[6],i64.wrap ((i:Int)+d61.1),())))=(some (Sum.inl ([],a++[6],((i+jw (iE b) s i:Nat):Int),())):Option ((List al.den×LI×Int×Unit)⊕(List al.den×LI×Unit)⊕Empty)):=λn h hw=>by
      obtain⟨l1,_,_⟩:=E7 tL hw;rw[h,aC0];dsimp only;rw[wrap64 _ (by omega) (by omega)];rfl
    have MA:∀n t' bd,iB (S.tab n) s (i:Int)=some ((t',bd,()),ab)->bn (S.step (S.tab n)) s out (a++[6]) (line:Int) (i:Int)=_:=λn t' bd h=>by
      rw[nF,ad gX,ad ng,aJ,aM yg,h,aC0]
    have BU:∀n (t':al.den) (bd:Int),dX (S.tab n) s (i:Int)=some ((t',bd,()),ab)->t'.1≠7->aU (S.step (S.tab n)) (cs,()) s top out (line:Int) (i:Int)=(bY (S.tab n) (cs,()) s top out (line:Int) ↑i (t'.1,t'.2.1,t'.2.2.1,(line:Int),t'.2.2.2.2) bd t'.1).bind (OH
       (λmQ=>aU (S.tab n) mQ.1 mQ.2.1 mQ.2.2.1 mQ.2.2.2.1 mQ.2.2.2.2.1 mQ.2.2.2.2.2.1)
       (λmQ=>some (Sum.inl mQ))
       (λmQ=>aU (S.tab n) mQ.1 mQ.2.1 mQ.2.2.1 mQ.2.2.2.1 mQ.2.2.2.2.1 mQ.2.2.2.2.2.1)):=λn t' bd h h7=>by
      rw[lU,ad gX,h,aC0];dsimp only;rw[aM h7]
    have Tj:∀n (t':al.den) (bd:Bool) (k:Int) (e:Nat),t'.1=k->k≠0->iB (S.tab n) s (i:Int)=some ((t',bd,()),ab)->j5 (S.tab n) (a++[6]) k=some (iE b k,ab)->kZ (S.tab n) (a++[6]) s (i:Int)=some ((jw (iE b) s i:Int),aT)->(iE b k=true->bd=true/\t'.2.2.1=(e:Int))->(iE b k=false->WrongAt (iE b) (get s i))->
        bn (S.step (S.tab n)) s out (a++[6]) (line:Int) (i:Int)=some (Sum.inl ([],a++[6],((bif iE b k then e else i+jw (iE b) s i:Nat):Int),())):=λn t' bd k e hk h0 hx hc RW h1 h2=>by
      rw[MA n t' bd hx];dsimp only;rw[aM (by rw[hk];exact h0)];rw[hk,hc,aC0]
      cases hv:iE b k with
      |false=>
        rw[ad (by rfl)];exact wI n RW (h2 hv)
      |true=>
        obtain⟨rfl,e2⟩:=h1 hv;rw[aB (by rfl),ad rfl,e2];rfl
    have RO:∀k:Int,0<=k->k<=78->Evt λn=>j5 (S.tab n) (a++[6]) k=some (iE b k,ab):=λk h0 h1=>by
      have oE:=Ff h0 h1 a ha;have hk:vS (gO a k) (decide ((6:Int)=k))=qt a k:=rfl;rw[hk,KY k h0 h1]at oE;exact oE
    cases hx:kL s i with
    |inl e=>
      rw[hx]at Fy MF;have IV:iE b 2=iE b 3:=BB hb
      have pe:∀c:Bool,(bif c then e else i+jw (iE b) s i)<=s.length:=λc=>by cases c;exact EH tL;exact Ob tL hx
      cases hd:aR (get s i)with
      |true=>
        have zC:get s i≠34:=λe=>by rw[e]at hd;cases hd
        have hw:iE b 2=false->WrongAt (iE b) (get s i):=λh=>⟨λ_=>⟨h,by rw[<-IV];exact h⟩,λe=>absurd e zC⟩
        have kind:∀k:Int,kB (get s i) k=true->k=2\/k=3:=λk h=>by
          unfold kB at h;rw[hd]at h;have h:k23 k=true:=h;unfold k23 at h;simpa only[aG0,aC4]using h
        refine .inl ⟨bif iE b 2 then e else i+jw (iE b) s i,pe (iE b 2),((((RO 2 (by decide) (by decide)).and (RO 3 (by decide) (by decide))).and KQ).and MF).up λn ⟨⟨⟨c2,c3⟩,RW⟩,t',bd,h,hR⟩=>⟨a++[6], ?_⟩, ?_⟩
        · show bn (S.step (S.tab n)) _ _ _ _ _=_
          obtain⟨r1,r2,r3⟩:bd=true/\t'.2.2.1=(e:Int)/\kB (get s i) t'.1=true:=hR
          rcases kind _ r3 with hk|hk
          · exact Tj n t' bd 2 e hk (by decide) h c2 RW (λ_=>⟨r1,r2⟩) hw
          · rw[IV]
            exact Tj n t' bd 3 e hk (by decide) h c3 RW (λ_=>⟨r1,r2⟩) (λh=>hw (by rw[IV];exact h))
        · refine(((NF hs hb hr (by omega) tL (k:=2) (by decide) (by decide) hw out line e).and (NF hs hb hr (by omega) tL (k:=3) (by decide) (by decide) (λh=>hw (by rw[IV];exact h)) out line e)).and Fy).up λn ⟨⟨b2,b3⟩,t',bd,h,hR⟩=> ?_
          obtain⟨r1,r3⟩:bd=(e:Int)/\kB (get s i) t'.1=true:=hR;show∃c t,aU (S.step (S.tab n)) _ _ _ _ _ _=_
          rcases kind _ r3 with hk|hk
          · obtain⟨c,t,hh⟩:=b2 (t'.1,t'.2.1,t'.2.2.1,(line:Int),t'.2.2.2.2) bd (by show t'.1≠7;rw[hk];decide) (λ_=>r1)
            rw[BU n t' bd h (by rw[hk];decide)];rw[<-hk]at hh;refine⟨c,t, ?_⟩;rw[hh,hk];rfl
          · obtain⟨c,t,hh⟩:=b3 (t'.1,t'.2.1,t'.2.2.1,(line:Int),t'.2.2.2.2) bd (by show t'.1≠7;rw[hk];decide) (λ_=>r1)
            rw[BU n t' bd h (by rw[hk];decide)];rw[<-hk]at hh;refine⟨c,t, ?_⟩;rw[hh,hk,IV];rfl
      |false=>
        by_cases zC:get s i=34
        · have hw:iE b 4=false->WrongAt (iE b) (get s i):=λh=>⟨λe=>(by rw[hd]at e;cases e),λ_=>h⟩
          have kind:∀k:Int,kB (get s i) k=true->k=4:=λk h=>by
            unfold kB at h;rw[hd,aC1 zC]at h;exact of_decide_eq_true h
          refine .inl ⟨bif iE b 4 then e else i+jw (iE b) s i,pe (iE b 4),(((RO 4 (by decide) (by decide)).and KQ).and MF).up λn ⟨⟨c4,RW⟩,t',bd,h,hR⟩=>⟨a++[6], ?_⟩,((NF hs hb hr (by omega) tL (k:=4) (by decide) (by decide) hw out line e).and Fy).up λn ⟨b4,t',bd,h,hR⟩=> ?_⟩
          · show bn (S.step (S.tab n)) _ _ _ _ _=_
            obtain⟨r1,r2,r3⟩:bd=true/\t'.2.2.1=(e:Int)/\kB (get s i) t'.1=true:=hR;exact Tj n t' bd 4 e (kind _ r3) (by decide) h c4 RW (λ_=>⟨r1,r2⟩) hw
          · obtain⟨r1,r3⟩:bd=(e:Int)/\kB (get s i) t'.1=true:=hR
            show∃c t,aU (S.step (S.tab n)) _ _ _ _ _ _=_;have hk:=kind _ r3;obtain⟨c,t,hh⟩:=b4 (t'.1,t'.2.1,t'.2.2.1,(line:Int),t'.2.2.2.2) bd (by show t'.1≠7;rw[hk];decide) (λ_=>r1);rw[BU n t' bd h (by rw[hk];decide)];rw[<-hk]at hh;refine⟨c,t, ?_⟩;rw[hh,hk];rfl
        · have hw:WrongAt (iE b) (get s i):=⟨λe=>(by rw[hd]at e;cases e),λe=>absurd e zC⟩
          have kind:∀k:Int,kB (get s i) k=true->k=0:=λk h=>by
            unfold kB at h;rw[hd,aB9 zC]at h;exact of_decide_eq_true h
          refine .inl ⟨i+jw (iE b) s i,EH tL,(KQ.and MF).up λn ⟨RW,t',bd,h,hR⟩=>⟨a++[6], ?_⟩, ?_⟩
          · show bn (S.step (S.tab n)) _ _ _ _ _=_
            obtain⟨r1,r2,r3⟩:bd=true/\t'.2.2.1=(e:Int)/\kB (get s i) t'.1=true:=hR;rw[MA n t' bd h];dsimp only;rw[aN (kind _ r3)];exact wI n RW hw
          · have sB:Evt λn=>∀(tok:al.den) (t12:Int),tok.1≠7->bY (S.tab n) (cs,()) s top out (line:Int) ↑i tok t12 0=some (Sum.inr (Sum.inl ((cs,()),[],top,((i+jw (iE b) s i:Nat):Int),()))):=
              (GU hs hb hr (by omega) tL hw out line).up λn FM tok t12 h7=>Pw (FM tok t12 0 top h7)
            refine(sB.and Fy).up λn ⟨sB,t',bd,h,hR⟩=>⟨(cs,()),top, ?_⟩
            obtain⟨r1,r3⟩:bd=(e:Int)/\kB (get s i) t'.1=true:=hR;have hk:=kind _ r3;rw[BU n t' bd h (by rw[hk];decide)];have hh:=sB (t'.1,t'.2.1,t'.2.2.1,(line:Int),t'.2.2.2.2) bd (by show t'.1≠7;rw[hk];decide);rw[<-hk]at hh;rw[hh];rfl
    |inr t=>
      rw[hx]at Fy MF;obtain⟨k1,WV,k6,WU⟩:=Bo hx;obtain⟨⟨e,he,hie,IU⟩,h7⟩:=GK T9 tL hx
      cases hc:iE b (kd t)with
      |false=>
        have IV:iE b 2=iE b 3:=BB hb
        have hw:WrongAt (iE b) (get s i):=⟨λhd=>by
            have hl:bC (get s i)=false:=by
              cases h:bC (get s i)with
              |false=>rfl
              |true=>rw[zV h]at hd;cases hd
            rcases(Aw hx).2.1 hl hd with e|e
            · rw[e]at hc;exact⟨hc,by rw[<-IV];exact hc⟩
            · rw[e]at hc;exact⟨by rw[IV];exact hc,hc⟩,λe=>by rw[WU e]at hc;exact hc⟩
        refine .inl ⟨i+jw (iE b) s i,EH tL,(((RO (kd t) (by omega) WV).and KQ).and MF).up λn ⟨⟨ck,RW⟩,t',bd,h,hR⟩=>⟨a++[6], ?_⟩,((NF hs hb hr (by omega) tL k1 WV (λ_=>hw) out line 0).and Fy).up λn ⟨b4,t',bd,h,hR⟩=> ?_⟩
        · show bn (S.step (S.tab n)) _ _ _ _ _=_
          obtain⟨r1,r2⟩:bd=false/\t'=t:=hR;subst r2;have:=Tj n t' bd (kd t') 0 rfl (by omega) h ck RW (λe=>by rw[hc]at e;cases e) (λ_=>hw);rw[hc]at this;exact this
        · obtain⟨r1,r2⟩:bd= -1/\t'=t:=hR
          subst r2;show∃c t,aU (S.step (S.tab n)) _ _ _ _ _ _=_;obtain⟨c,t,hh⟩:=b4 (t'.1,t'.2.1,t'.2.2.1,(line:Int),t'.2.2.2.2) bd h7 (λe=>by rw[hc]at e;cases e);rw[BU n t' bd h h7];rw[hc]at hh;have hh:bY (S.tab n) (cs,()) s top out (line:Int) ↑i (t'.1,t'.2.1,t'.2.2.1,(line:Int),t'.2.2.2.2) bd t'.1=_:=hh;exact⟨c,t,by rw[hh];rfl⟩
      |true=>
        have K7:=LZ (s:=s) (j:=e) IU;obtain⟨ds,ko,VT,hR,hF⟩:=AD (k:=kd t) (by omega) WV cs (by omega) b top hb.ok hr;have hk:vS (pj b (kd t)) (decide ((6:Int)=kd t))=iE b (kd t):=rfl;rw[hk,hc]at hF;obtain⟨l,m,Tu,ai2,gl,gm,YC⟩:=GZ ha hb hn (k:=kd t) (by omega) WV k6 (by rw[KY _ (by omega) WV];exact hc);have mB:=Dq (k:=kd t) (by omega) WV k6 a ha;rw[Tu]at mB;have oE:=RO (kd t) (by omega) WV;rw[hc]at oE
        have ih:=ih (blank s e) line (out++[lnd t line]) l m (cs++ds) ko (by omega) K7.1 (by omega) (by simp;omega) gl gm YC (hR m ai2) (by simp;omega)
          (by rw[List.map_append];exact zi _ _ a l (kd t) hf Tu) (λx ht=>(aE9.1 ht).elim (ZA x) λht=> .inl ⟨i,line,t,tL,Ui,yg,hx,by simpa using ht⟩)
        have He:=py (s:=s) T9 (j:=e) IU
        have Cz:∀n,iB (S.tab n) s (i:Int)=some ((t,false,()),ab)->j5 (S.tab n) (a++[6]) (kd t)=some (true,ab)->o9 (S.tab n) (a++[6]) (kd t)=some (l++[6],ab)->jB (S.tab n) s (e:Int)=some ((blank s e:Int),ab)->bn (S.step (S.tab n)) s out (a++[6]) (line:Int) (i:Int)=bn (S.tab n) s (out++[lnd t line]) (l++[6]) (line:Int) (blank s e:Int):=λn Mx oE mB He=>by
          have oE:j5 (S.tab n) (a++[6]) t.1=_:=oE;have mB:o9 (S.tab n) (a++[6]) t.1=_:=mB
          have ZF:¬ t.1=0:=λe=>by have e:kd t=0:=e;omega
          rw[MA n t false Mx];dsimp only;rw[aM ZF,oE,aC0,aB (by rfl),aB rfl,mB,aC0,ad (pk _),he,He,aC0];unfold lnd;rw[he]
        have KV:Evt λn=>bY (S.tab n) (cs,()) s top out (line:Int) ↑i (t.1,t.2.1,t.2.2.1,(line:Int),t.2.2.2.2) (-1) (kd t)=some (Sum.inr (Sum.inr (Sum.inl ((cs++ds,()),s,ko,out++[lnd t line],(line:Int),(blank s e:Int),())))):=
          (hF.and (Kp hs (cs++ds) top i out (by omega) (line:Int) (t.1,t.2.1,t.2.2.1,(line:Int),t.2.2.2.2) (e:=e) he IU (kd t) ko)).up λn ⟨hF,FM⟩=>xk k1 hF FM
        have CA:∀n,dX (S.tab n) s (i:Int)=some ((t, -1,()),ab)->bY (S.tab n) (cs,()) s top out (line:Int) ↑i (t.1,t.2.1,t.2.2.1,(line:Int),t.2.2.2.2) (-1) (kd t)=some (Sum.inr (Sum.inr (Sum.inl ((cs++ds,()),s,ko,out++[lnd t line],(line:Int),(blank s e:Int),()))))->
            aU (S.step (S.tab n)) (cs,()) s top out (line:Int) (i:Int)=aU (S.tab n) (cs++ds,()) s ko (out++[lnd t line]) (line:Int) (blank s e:Int):=λn C4 sB=>by
          have sB:bY (S.tab n) (cs,()) s top out (line:Int) ↑i (t.1,t.2.1,t.2.2.1,(line:Int),t.2.2.2.2) (-1) t.1=_:=sB;rw[BU n t (-1) C4 h7,sB];rfl
        have Ul:Evt λn=>iB (S.tab n) s (i:Int)=some ((t,false,()),ab):=MF.mono λn ⟨t',bd,h,hR⟩=>by
          obtain⟨r1,r2⟩:bd=false/\t'=t:=hR;rw[r1,r2]at h;exact h
        have Rq:Evt λn=>dX (S.tab n) s (i:Int)=some ((t, -1,()),ab):=Fy.mono λn ⟨t',bd,h,hR⟩=>by
          obtain⟨r1,r2⟩:bd= -1/\t'=t:=hR;rw[r1,r2]at h;exact h
        rcases ih with⟨p,hp,e1,e2⟩|⟨BT,a',b',BP,FD,yN,g1,g2,g3,g4,g5,g6,g7,g8,g9,e1,e2⟩
        · refine .inl ⟨p,hp,((((e1.and Ul).and oE).and mB).and He).up λn ⟨⟨⟨⟨⟨l',h⟩,Mx⟩,hc⟩,mB⟩,hk⟩=>⟨l', ?_⟩,((e2.and Rq).and KV).up λn ⟨⟨⟨c,t,h⟩,C4⟩,sB⟩=>⟨c,t, ?_⟩⟩
          · show bn (S.step (S.tab n)) _ _ _ _ _=_
            rw[Cz n Mx hc mB hk,h]
          · show aU (S.step (S.tab n)) _ _ _ _ _ _=_
            rw[CA n C4 sB,h]
        · refine .inr ⟨BT,a',b',BP,FD,yN,g1,g2,g3,g4,g5,g6,g7,g8,g9,((((e1.and Ul).and oE).and mB).and He).up λn ⟨⟨⟨⟨h,Mx⟩,hc⟩,mB⟩,hk⟩=> ?_,((e2.and Rq).and KV).up λn ⟨⟨h,C4⟩,sB⟩=> ?_⟩
          · show bn (S.step (S.tab n)) _ _ _ _ _=_
            rw[Cz n Mx hc mB hk,h]
          · show aU (S.step (S.tab n)) _ _ _ _ _ _=_
            rw[CA n C4 sB,h]
include yM in
theorem SQ:(∃p:Nat,p<=s.length/\(Evt λn=>∃l,qZ (S.tab n) s=some (([],l,(p:Int),()),aa))/\Evt λn=>∃c t,nW (S.tab n) ([],()) s=some (([],t,(p:Int),()),c,(),()))\/
  (∃(out:List al.den) (a b:LI) (cs:Cls) (top:Int) (line:Nat),gdI a/\gdS b/\NI a=NS b/\Reads cs top (b++[6])/\cs.length<=1999900/\out.length<=s.length/\line<=s.length+1/\
   foldI [1000] (out.map kd)=some a/\(∀t∈out,Vy s t)/\
   (Evt λn=>qZ (S.tab n) s=some ((out,a++[6],(-1:Int),()),aa))/\
   Evt λn=>nW (S.tab n) ([],()) s=some ((out++[(6,(s.length:Int),(s.length:Int),(line:Int),0,([]:LI),())],top,(-1:Int),()),(cs,()),(),())):=by
 have K7:=LZ (s:=s) (j:=0) (by omega);have ZK:Reads [(6,(-1:Int),()),(100,(0:Int),())] 1 ([100]++[6]):=⟨1,0,rfl,rfl,0, -1,rfl,rfl,rfl⟩
 have Rk:Evt λn=>rW (S.tab n) ([],())=some (1,([(6,(-1:Int),()),(100,(0:Int),())],()),()):=
  ((ET [] (by simp) (-1) 6).and (ET [(6,(-1:Int),())] (by simp) 0 100)).up λn ⟨h1,h2⟩=>by
   rw[zQ,h1,aC0];show(lL (S.tab n) ([(6,(-1:Int),())],()) 0 100).bind _=_;rw[h2];rfl
 have T7:Evt λn=>uU (S.tab n)=some ([1000,6],fE):=aG.up λn _=>by
  rw[CC]
 have NQ:=py (s:=s) (by omega) (j:=0) (by omega);have am5:=rX (s:=s) (by omega) (j:=0) (by omega)
 have hw:=Sj hs yM (s.length+1) (blank s 0) 1 [] [1000] [100] [(6,(-1:Int),()),(100,(0:Int),())] 1 (by omega) K7.1 (by omega) (by simp)
  TH Z6 (by kernel_rfl) ZK (by simp) rfl (λt ht=>by cases ht)
 rcases hw with⟨p,hp,e1,e2⟩|⟨BT,a',b',BP,FD,yN,g1,g2,g3,g4,g5,g6,g7,g8,g9,e1,e2⟩
 ·refine .inl ⟨p,hp,((e1.and T7).and NQ).up λn ⟨⟨⟨l,h⟩,hm⟩,hk⟩=>⟨l, ?_⟩,((e2.and Rk).and am5).up λn ⟨⟨⟨c,t,h⟩,hm⟩,hk⟩=>⟨c,t, ?_⟩⟩
  ·show qZ (S.step (S.tab n)) _=_;have hk:jB (S.tab n) s 0=_:=hk;have h:bn (S.tab n) s [] [1000,6] 1 (blank s 0:Int)=_:=h;rw[zR,hm,aC0,hk,aC0];dsimp only;rw[h];rfl
  ·show nW (S.step (S.tab n)) _ _=_;have hk:jr (S.tab n) s 0=_:=hk;have h:aU (S.tab n) ([(6,(-1:Int),()),(100,(0:Int),())],()) s 1 [] 1 (blank s 0:Int)=_:=h;rw[wT,hm,aC0,hk,aC0];dsimp only;rw[h];rfl
 ·refine .inr ⟨BT,a',b',BP,FD,yN,g1,g2,g3,g4,g5,g6,g7,g8,g9,((e1.and T7).and NQ).up λn ⟨⟨h,hm⟩,hk⟩=> ?_,((e2.and Rk).and am5).up λn ⟨⟨h,hm⟩,hk⟩=> ?_⟩
  ·show qZ (S.step (S.tab n)) _=_;have hk:jB (S.tab n) s 0=_:=hk;have h:bn (S.tab n) s [] [1000,6] 1 (blank s 0:Int)=_:=h;rw[zR,hm,aC0,hk,aC0];dsimp only;rw[h];rfl
  ·show nW (S.step (S.tab n)) _ _=_;have hk:jr (S.tab n) s 0=_:=hk;have h:aU (S.tab n) ([(6,(-1:Int),()),(100,(0:Int),())],()) s 1 [] 1 (blank s 0:Int)=_:=h;rw[wT,hm,aC0,hk,aC0];dsimp only;rw[h,aC0];simp only[bB,aF2,aE3];rw[ad (bc (by unfold lim;simp;omega))]
end Go.Abs.D
end

section
namespace Go.Abs.D
def KA (out:List al.den)(a:Nat):Int:=(out.map kd).getD a 6
def Ac (out:List al.den)(st:LI)(a:Nat):Prop:=∃b,foldI st ((out.map kd).drop a)=some b/\gO b 6= .gone
theorem uB {out:List al.den}{s:Int}{r:LI}{a:Nat}(ha:a<=out.length)(h:Ac out (s::r) a):
  (∃l,stI s (KA out a)= .left l/\a<out.length/\Ac out (l++r) (a+1))\/(stI s (KA out a)= .gone/\Ac out r a):=by
 obtain⟨b,h1,h2⟩:=h
 have ho:∀k,gO (s::r) k=(stI s k).then r (gO r k):=λk=>gu stI s r k
 rcases Nat.lt_or_ge a out.length with hl|hl
 ·have Wt:a<(out.map kd).length:=(by simpa using hl)
  have hd:(out.map kd).drop a=KA out a::(out.map kd).drop (a+1):=by
   rw[List.drop_eq_getElem_cons Wt];unfold KA;rw[aE2,aE1 Wt];rfl
  rw[hd]at h1;have h1:(match gO (s::r) (KA out a)with| .left l=>foldI l ((out.map kd).drop (a+1))|_=>none)=some b:=h1;rw[ho]at h1
  cases hs:stI s (KA out a)with
  |no=>rw[hs]at h1;cases h1
  |gone=>
   rw[hs]at h1;refine .inr ⟨rfl,b, ?_,h2⟩;rw[hd];exact h1
  |left l=>rw[hs]at h1;exact .inl ⟨l,rfl,hl,b,h1,h2⟩
 ·have hk:KA out a=6:=by
   unfold KA;rw[aE2,List.getElem?_eq_none (by simpa using hl)];rfl
  have hd:(out.map kd).drop a=[]:=List.drop_eq_nil_of_le (by simpa using hl);rw[hd]at h1
  injection h1 with h1
  subst h1;rw[ho]at h2;rw[hk]
  cases hs:stI s 6 with
  |no=>rw[hs]at h2;cases h2
  |left l=>rw[hs]at h2;cases h2
  |gone=>rw[hs]at h2;exact .inr ⟨rfl,r,by rw[hd];rfl,h2⟩
theorem jb {out:List al.den}{s:Int}{r:LI}{a:Nat}(h:Ac out (s::r) a)(ha:a<=out.length)(hs:s<=78):a<out.length/\KA out a=s/\Ac out r (a+1):=by
 rcases uB ha h with⟨l,e,hl,h⟩|⟨e,h⟩
 ·rw[s6 hs]at e
  cases hd:decide (s=KA out a)with
  |false=>rw[hd]at e;cases e
  |true=>
   rw[hd]at e
   injection e with e
   subst e;exact⟨hl,(of_decide_eq_true hd).symm,h⟩
 ·rw[s6 hs]at e;cases hd:decide (s=KA out a)<;>(rw[hd]at e;cases e)
theorem b9 {out:List al.den}{s k:Int}{l r:LI}{a:Nat}(e:stI s k= .left l)(hk:KA out a=k)(h:Ac out (s::r) a)(ha:a<=out.length):a<out.length/\Ac out (l++r) (a+1):=by
 subst hk
 rcases uB ha h with⟨l',e',hl,h⟩|⟨e',h⟩
 ·rw[e]at e';injection e' with e';subst e';exact⟨hl,h⟩
 ·rw[e]at e';cases e'
theorem fi {out:List al.den}{s k:Int}{r:LI}{a:Nat}(e:stI s k= .gone)(hk:KA out a=k)(h:Ac out (s::r) a)(ha:a<=out.length):Ac out r a:=by
 subst hk
 rcases uB ha h with⟨l',e',hl,h⟩|⟨e',h⟩
 ·rw[e]at e';cases e'
 ·exact h
theorem qD {out:List al.den}{s k:Int}{r:LI}{a:Nat}(e:stI s k= .no)(hk:KA out a=k)(h:Ac out (s::r) a)(ha:a<=out.length):False:=by
 subst hk
 rcases uB ha h with⟨l',e',hl,h⟩|⟨e',h⟩<;>(rw[e]at e';cases e')
def pw (k:Int):Int:=bif decide (k=26)then 1 else bif decide (k=10)then 2 else([9,9,10,10,10,10,7,5,6,8,8,4,3,3,3,3,3,3]:LI).getD (k - 61).toNat 0
def pr (k:Int):Int:=bif decide (k=72)then 4 else pw k+1
def unK (k:Int):Int:=bif decide (k=25)then 21 else bif decide (k=50)then 22 else bif decide (k=69)then 20 else 19
theorem U3:(kinds.all λk=>decide (stI 1020 k=bif sh k then .left [1020]else bif decide (k=1)then .left [1021]else bif decide (k=40)then .left [1018,41,1021]else bif decide (k=18)then .left [1028]else bif decide (k=42)then .left [1029,43]else bif ju k then .left []else .no))=true:=by kernel_rfl
theorem Vj:(kinds.all λk=>decide (stI 1018 k=(stI 1020 k).then [1019] .no))=true:=by kernel_rfl
theorem Qz:(kinds.all λk=>decide (stI 1019 k=bif uL k then .left [1020,1019]else .gone))=true:=by kernel_rfl
theorem M0:(kinds.all λk=>decide (stI 1023 k=bif decide (k=46)then .left [1018,1023]else .gone))=true:=by kernel_rfl
theorem Vq:(kinds.all λk=>decide (stI 1022 k=bif ju k then(stI 1018 k).then [1023] .no else .gone))=true:=by kernel_rfl
theorem X5:(kinds.all λk=>decide (stI 1007 k=bif ju k then(stI 1018 k).then [1023] .no else .gone))=true:=by kernel_rfl
theorem Dg:(kinds.all λk=>decide (stI 1006 k=bif decide (k=46)then .left [1,1006]else .gone))=true:=by kernel_rfl
theorem UI:(kinds.all λk=> !sh k||(ju k&& !decide (k=1)&& !decide (k=40)))=true:=by kernel_rfl
theorem TO:(kinds.all λk=>(uL k==Mq k)&&(!uL k||(decide (1<=pw k)&&decide (pw k<=10))))=true:=by kernel_rfl
end Go.Abs.D
end

section
namespace Go.Abs.D
abbrev Node:Type:=aj.den
@[reducible] def rg (n:Int):Prop:= -9223372036854775808<=n/\n<=9223372036854775807
structure RgI (x:aj.den):Prop where
 f1:rg x.1
 f2:rg x.2.1
 f3:rg x.2.2.1
 f4:rg x.2.2.2.1
 f5:rg x.2.2.2.2.1
 f6:rg x.2.2.2.2.2.1
end Go.Abs.D
end

section
set_option maxRecDepth 100000
namespace Go.Abs.D
abbrev StT:Type:=List al.den×Int×List Node×Unit
def uN:Unit×Unit×Unit×Unit×Unit×Unit×Unit×Unit×Unit×Unit:=((),(),(),(),(),(),(),(),(),())
def tkA (ts:List al.den)(a:Nat):al.den:=at_ (τ:=al) ts ↑a
def IG (ts:List al.den)(b a:Nat)(x:Node):Node:=(x.1,(tkA ts b).2.1,(tkA ts (a - 1)).2.2.1,(tkA ts b).2.2.2.1,x.2.2.2.2)
structure PBs (ts:List al.den)(L:Nat)(T:S.Tab):Prop where
 kI:∀(a:Nat) nd,a<=L->bO T (ts,(a:Int),nd,())=some ((tkA ts a).1,(ts,(a:Int),nd,()),())
 tI:∀(a:Nat) nd,a<L->aw T (ts,(a:Int),nd,())=some (tkA ts a,(ts,((a+1:Nat):Int),nd,()),())
 eI:∀(a:Nat) nd k,a<=L->bR T (ts,(a:Int),nd,()) k=some (decide ((tkA ts a).1=k),(ts,(((bif decide ((tkA ts a).1=k)then a+1 else a):Nat):Int),nd,()),(),())
 cI:∀(a b:Nat) nd x,a<L->b<L->nd.length<=300000->au T (ts,((a+1:Nat):Int),nd,()) (b:Int) x=some ((nd.length:Int),(ts,((a+1:Nat):Int),nd++[IG ts b (a+1) x],()),(),uN,())
 aI:∀(a:Int) nd x,nd.length<=300000->gU T (ts,a,nd,()) x=some ((nd.length:Int),(ts,a,nd++[x],()),uN,())
 kS:∀(a:Nat) nd,a<=L->bZ T (ts,(a:Int),nd,())=some ((tkA ts a).1,(ts,(a:Int),nd,()),())
 tS:∀(a:Nat) nd,a<L->aP T (ts,(a:Int),nd,())=some (tkA ts a,(ts,((a+1:Nat):Int),nd,()),())
 eS:∀(a:Nat) nd k,a<=L->gW T (ts,(a:Int),nd,()) k=some (decide ((tkA ts a).1=k),(ts,(((bif decide ((tkA ts a).1=k)then a+1 else a):Nat):Int),nd,()),(),())
 aS:∀(a:Nat) nd x,a<L->nd.length<=300000->aH T (ts,((a+1:Nat):Int),nd,()) x=some ((nd.length:Int),(ts,((a+1:Nat):Int),nd++[(x.1,x.2.1,(tkA ts a).2.2.1,x.2.2.2)],()),uN,())
 nS:∀k t,bl T k t=some ((k,t.2.1,0,t.2.2.2.1,0,0,([]:LI),[],[],()),b8)
 uI:∀(x:Node) (a b:Nat) nd,a<L->b<L->nd.length<=300000->cJ T x (ts,(a:Int),nd,()) (b:Int)=some ((nd.length:Int),uN,(ts,((a+1:Nat):Int),nd++[IG ts b (a+1) x],()),(b:Int),())
 pI:∀k:Int,bw T k=some (sh k,aa)
 pS:∀k:Int,bM T k=some (sh k,aa)
 bI:∀k:Int,dB T k=some (ju k,aa)
 bS:∀k:Int,cB T k=some (ju k,aa)
 iS:∀k:Int,jZ T k=some (Mq k,aa)
 sS:∀k:Int,qL T k=some (unK k,aa)
 wS:∀k:Int,k∈kinds->uL k=true->qF T k=some ((pw k,pr k,()),aa)
 wI:∀k:Int,k∈kinds->uY T k=some (bif uL k then pw k else 0,aa)
theorem Vs (T:S.Tab):(kinds.all λk=> !uL k||decide (qF (S.step (S.step T)) k=some ((pw k,pr k,()),aa)))=true:=by kernel_rfl
theorem U6 (T:S.Tab):(kinds.all λk=>decide (uY (S.step (S.step T)) k=some (bif uL k then pw k else 0,aa)))=true:=by kernel_rfl
theorem NC {a:Nat}(h:a<=4194304):i64.wrap (((a+1:Nat):Int) - 1)=(a:Int):=by
 rw[wrap64 _ (by omega) (by omega)];omega
structure PB1 (ts:List al.den)(L:Nat)(T:S.Tab):Prop where
 kI:∀(a:Nat) nd,a<=L->bO T (ts,(a:Int),nd,())=some ((tkA ts a).1,(ts,(a:Int),nd,()),())
 tI:∀(a:Nat) nd,a<L->aw T (ts,(a:Int),nd,())=some (tkA ts a,(ts,((a+1:Nat):Int),nd,()),())
 aI:∀(a:Int) nd x,nd.length<=300000->gU T (ts,a,nd,()) x=some ((nd.length:Int),(ts,a,nd++[x],()),uN,())
 kS:∀(a:Nat) nd,a<=L->bZ T (ts,(a:Int),nd,())=some ((tkA ts a).1,(ts,(a:Int),nd,()),())
 pI:∀k:Int,bw T k=some (sh k,aa)
 pS:∀k:Int,bM T k=some (sh k,aa)
theorem pb1 {ts:List al.den}{L:Nat}(hl:ts.length=L+1)(hL:L<=65536)(T:S.Tab):PB1 ts L (S.step T):=by
 refine⟨λa nd ha=> ?_,λa nd ha=> ?_,λa nd x hn=> ?_,λa nd ha=> ?_,λk=> ?_,λk=> ?_⟩
 ·rw[xW];dsimp only;exact ad (an (by omega))
 ·rw[x8];dsimp only;rw[bH (by omega),NC (by omega),ad (an (by omega))];rfl
 ·rw[yQ];dsimp only;rw[ad (bc (by unfold lim;simp only[aC3,aC5];omega)),wrap64 _ (by simp only[aC2,aC3,aC5];omega) (by simp only[aC2,aC3,aC5];omega)];simp only[aC2,aC3,aC5];rw[show((nd.length+(0+1):Nat):Int) - 1=(nd.length:Int)by omega]
 ·rw[AT];dsimp only;exact ad (an (by omega))
 ·rw[ri];simp only[dO,sh];cases decide (k=25)<;>cases decide (k=50)<;>cases decide (k=62)<;>rfl
 ·rw[tZ];simp only[dO,sh];cases decide (k=25)<;>cases decide (k=50)<;>cases decide (k=62)<;>rfl
structure PB2 (ts:List al.den)(L:Nat)(T:S.Tab):Prop extends PB1 ts L T where
 cI:∀(a b:Nat) nd x,a<L->b<L->nd.length<=300000->au T (ts,((a+1:Nat):Int),nd,()) (b:Int) x=some ((nd.length:Int),(ts,((a+1:Nat):Int),nd++[IG ts b (a+1) x],()),(),uN,())
theorem pb2 {ts:List al.den}{L:Nat}(hl:ts.length=L+1)(hL:L<=65536){T:S.Tab}(h:PB1 ts L T):PB2 ts L (S.step T):=by
 refine⟨pb1 hl hL T,λa b nd x ha hb hn=> ?_⟩;rw[wx];dsimp only;rw[NC (by omega),ad (an (by omega)),ad (an (by omega)),ad (an (by omega)),h.aI _ _ _ hn];rfl
theorem pb3 {ts:List al.den}{L:Nat}(hl:ts.length=L+1)(hL:L<=65536){T0:S.Tab}(h:PB2 ts L (S.step T0)):PBs ts L (S.step (S.step T0)):=by
 have h1:=pb2 hl hL h.toPB1;refine⟨h1.kI,h1.tI,λa nd k ha=> ?_,h1.cI,h1.aI,h1.kS,λa nd ha=> ?_,λa nd k ha=> ?_,λa nd x ha hn=> ?_,λk t=> ?_,λx a b nd ha hb hn=> ?_,h1.pI,h1.pS,λk=> ?_,λk=> ?_,λk=> ?_,λk=> ?_,λk hk hi=> ?_,λk hk=> ?_⟩
 ·rw[yR,h.kI _ _ ha,aC0];dsimp only
  cases decide ((tkA ts a).1=k)with
  |true=>rw[ad rfl,bH (by omega)];rfl
  |false=>rw[aB rfl];rfl
 ·rw[A9];dsimp only;rw[bH (by omega),NC (by omega),ad (an (by omega))];rfl
 ·rw[D1,h.kS _ _ ha,aC0];dsimp only
  cases decide ((tkA ts a).1=k)with
  |true=>rw[aB (by rfl),bH (by omega)];rfl
  |false=>rw[ad (by rfl)];rfl
 ·rw[CR];dsimp only;rw[NC (by omega),ad (an (by omega)),ad (bc (by unfold lim;simp only[aC3,aC5];omega)),wrap64 _ (by simp only[aC2,aC3,aC5];omega) (by simp only[aC2,aC3,aC5];omega)];simp only[aC2,aC3,aC5];rw[show((nd.length+(0+1):Nat):Int) - 1=(nd.length:Int)by omega];rfl
 ·rw[DE]
 ·rw[vK,h.tI _ _ ha,aC0];dsimp only;rw[h.cI _ _ _ _ ha hb hn];rfl
 ·rw[uj];simp only[dO,h.pI,aC0,ju];cases decide (k=1)<;>cases decide (k=40)<;>cases decide (k=2)<;>cases decide (k=3)<;>cases decide (k=4)<;>cases decide (k=24)<;>cases decide (k=29)<;>cases decide (k=17)<;>cases decide (k=49)<;>cases decide (k=18)<;>cases decide (k=42)<;>rfl
 ·rw[tT];simp only[dO,h.pS,aC0,ju];cases decide (k=1)<;>cases decide (k=40)<;>cases decide (k=2)<;>cases decide (k=3)<;>cases decide (k=4)<;>cases decide (k=24)<;>cases decide (k=29)<;>cases decide (k=17)<;>cases decide (k=49)<;>cases decide (k=18)<;>cases decide (k=42)<;>rfl
 ·rw[vA];simp only[dO,Mq];cases decide (k=10)<;>cases decide (k=26)<;>rfl
 ·rw[CG];simp only[dO,unK];cases decide (k=25)<;>cases decide (k=50)<;>cases decide (k=69)<;>rfl
 ·have:=List.all_eq_true.1 (Vs T0) k hk;rw[hi]at this;exact of_decide_eq_true this
 ·exact of_decide_eq_true (List.all_eq_true.1 (U6 T0) k hk)
theorem TZ {ts:List al.den}{L:Nat}(hl:ts.length=L+1)(hL:L<=65536):Evt λn=>PBs ts L (S.tab n):=
 ⟨3,λn hn=>by
  obtain⟨m,rfl⟩:∃m,n=m+3:=⟨n - 3,by omega⟩
  exact pb3 hl hL (pb2 hl hL (pb1 hl hL (S.tab m)))⟩
end Go.Abs.D
end

section
namespace Go.Abs.D
variable{s:LI}(yM:∀c∈s,isByte c)
include yM
theorem M3 (k:Int)(hk:k=1\/k=3)(hlen:s.length<=40):Evt λn=>xJ (S.tab n) s k=some (fz k s,ab):=by
 by_cases h0:s=[]
 ·subst h0
  exact aG.up λn _=>by
   rw[Af,ad (by simp)];rfl
 have qf:0<s.length:=List.length_pos_iff.2 h0
 have gX:decide ((0:Int)<(s.length:Int))=true:=by simp only[aC4];omega
 have IT:fz k s=one k s:=by
  unfold fz one;rw[aC1 qf,aC1 hlen];rfl
 rw[IT]
 have fin:∀n,(∃t' b,iB (S.tab n) s ((0:Nat):Int)=some ((t',b,()),ab)/\IR (kB (get s 0)) (kL s 0) t' b)->
   ((iB (S.tab n) s (0:Int)).bind λd28=>brk (!d28.1.2.1) (brk (decide (d28.1.1.1=k)) (some (decide (d28.1.1.2.2.1=(s.length:Int)),ab)) (some (false,ab))) (some (false,ab)))=some (one k s,ab):=λn ⟨t',b,h,hr⟩=>by
  have h:iB (S.tab n) s (0:Int)=_:=h;rw[h,aC0];unfold one
  cases hx:kL s 0 with
  |inl e=>
   rw[hx]at hr;obtain⟨rfl,_⟩:b=true/\_:=hr;rw[aB (by rfl)]
  |inr t=>
   rw[hx]at hr;obtain⟨rfl,rfl⟩:b=false/\t'=t:=hr;rw[ad (by rfl)];simp only
   cases decide (t'.1=k)with
   |true=>rw[ad rfl];rfl
   |false=>rw[aB rfl];rfl
 refine((Co (s:=s) (by omega) yM (i:=0) qf).and aG).up λn ⟨h,hb⟩=> ?_
 have g0:s.getD 0 0=get s 0:=rfl;rw[Af,aB (by simpa using h0),ad gX,g0]
 by_cases uO:get s 0=34
 ·rw[aB (by rw[aC1 uO];rfl)];exact fin n h
 rw[ad (by rw[aB9 uO];rfl),ad gX,hb.iletter,aC0]
 cases hl:bC (get s 0)with
 |true=>rw[aB (by rfl)];exact fin n h
 |false=>
  rw[ad (by rfl),ad gX,hb.idigit,aC0]
  cases hd:aR (get s 0)with
  |true=>rw[aB (by rfl)];exact fin n h
  |false=>
   rw[ad (by rfl)];unfold one
   cases hx:kL s 0 with
   |inl e=>rfl
   |inr t=>
    have:=(Aw hx).2.2 hl hd;simp only
    have jy:kd t≠k:=by rcases hk with rfl|rfl<;>omega
    rw[aB9 (show¬ (t.1=k)from jy)];rfl
theorem Cc:Evt λn=>ig (S.tab n) s=some (fz 1 s,aa):=by
 by_cases h:s.length<=40
 ·refine(M3 yM 1 (.inl rfl) h).up λn h1=> ?_
  rw[tX,ad (by simp only[aC4];omega),h1];rfl
 ·refine aG.up λn _=> ?_
  unfold fz;rw[tX,aB (by simp only[aC8];omega),aB9 h,aD0];rfl
theorem Hl:Evt λn=>oq (S.tab n) s=some (fz 3 s,aa):=by
 by_cases h:s.length<=40
 ·refine(M3 yM 3 (.inr rfl) h).up λn h1=> ?_
  rw[sR,ad (by simp only[aC4];omega),h1];rfl
 ·refine aG.up λn _=> ?_
  unfold fz;rw[sR,aB (by simp only[aC8];omega),aB9 h,aD0];rfl
omit yM in
theorem GP:Evt λn=>ij (S.tab n) s=some (fz 1 s,aa):=by
 by_cases h0:s.length=0
 ·refine aG.up λn _=> ?_
  unfold fz;rw[oX,ad (by simp only[aC4];omega),aB9 (show¬ 0<s.length by omega)];rfl
 by_cases h:¬ s.length<=40
 ·refine aG.up λn _=> ?_
  unfold fz;rw[oX,aB (by simp only[aC8];omega),ad (by simp only[aC4];omega),aB9 h,aD0];rfl
 replace h:=Decidable.not_not.1 h
 have qf:0<s.length:=(by omega)
 have gX:decide ((0:Int)<(s.length:Int))=true:=by simp only[aC4];omega
 have g0:s.getD 0 0=get s 0:=rfl
 have IT:fz 1 s=one 1 s:=by
  unfold fz one;rw[aC1 qf,aC1 h];rfl
 rw[IT]
 have start:∀n,Base2 (S.tab n)->ij (S.step (S.tab n)) s=_:=λn hb=>by
  rw[oX,aB (by simp only[aC8];omega),aB (by simp only[aC8];omega),ad gX,g0,hb.sletter,aC0]
 cases hl:bC (get s 0)with
 |false=>
  refine aG.up λn hb=> ?_
  rw[start n hb,hl,ad (by rfl)];unfold one
  cases hx:kL s 0 with
  |inl e=>rfl
  |inr t=>
   have hk:=Aw hx
   have:kd t≠1:=by
    cases hd:aR (get s 0)with
    |true=>rcases hk.2.1 hl hd with h|h<;>omega
    |false=>have:=hk.2.2 hl hd;omega
   simp only;rw[aB9 (show¬ (t.1=1)from this)];rfl
 |true=>
  have yg:get s 0≠10:=λe=>by rw[e]at hl;cases hl
  refine((uR (s:=s) (by omega) qf yg).and aG).up λn ⟨⟨t',b,h1,hr⟩,hb⟩=> ?_
  have h1:dX (S.tab n) s (0:Int)=_:=h1;rw[start n hb,hl,aB (by rfl),h1,aC0];unfold one
  cases hx:kL s 0 with
  |inl e=>
   rw[hx]at hr;have hr:b=(e:Int):=hr.1;subst hr;rw[aB (by simp only[aC8];omega)]
  |inr t=>
   rw[hx]at hr;obtain⟨rfl,rfl⟩:b= -1/\t'=t:=hr;rw[ad (show decide ((-1:Int)<0)=true from rfl)];simp only
   cases decide (t'.1=1)with
   |true=>rw[ad rfl];rfl
   |false=>rw[aB rfl];rfl
omit yM in
theorem Qa:Evt λn=>ov (S.tab n) s=some (fz 3 s,aa):=by
 by_cases h0:s.length=0
 ·refine aG.up λn _=> ?_
  unfold fz;rw[qi,ad (by simp only[aC4];omega),aB9 (show¬ 0<s.length by omega)];rfl
 by_cases h:¬ s.length<=40
 ·refine aG.up λn _=> ?_
  unfold fz;rw[qi,aB (by simp only[aC8];omega),ad (by simp only[aC4];omega),aB9 h,aD0];rfl
 replace h:=Decidable.not_not.1 h
 have qf:0<s.length:=(by omega)
 have gX:decide ((0:Int)<(s.length:Int))=true:=by simp only[aC4];omega
 have g0:s.getD 0 0=get s 0:=rfl
 have IT:fz 3 s=one 3 s:=by
  unfold fz one;rw[aC1 qf,aC1 h];rfl
 rw[IT]
 have start:∀n,Base2 (S.tab n)->ov (S.step (S.tab n)) s=_:=λn hb=>by
  rw[qi,aB (by simp only[aC8];omega),aB (by simp only[aC8];omega),ad gX,g0,hb.sdigit,aC0]
 cases hd:aR (get s 0)with
 |false=>
  refine aG.up λn hb=> ?_
  rw[start n hb,hd,ad (by rfl)];unfold one
  cases hx:kL s 0 with
  |inl e=>rfl
  |inr t=>
   have hk:=Aw hx
   have:kd t≠3:=by
    cases hl:bC (get s 0)with
    |true=>rcases hk.1 hl with h|h<;>omega
    |false=>have:=hk.2.2 hl hd;omega
   simp only;rw[aB9 (show¬ (t.1=3)from this)];rfl
 |true=>
  have yg:get s 0≠10:=λe=>by rw[e]at hd;cases hd
  refine((uR (s:=s) (by omega) qf yg).and aG).up λn ⟨⟨t',b,h1,hr⟩,hb⟩=> ?_
  have h1:dX (S.tab n) s (0:Int)=_:=h1;rw[start n hb,hd,aB (by rfl),h1,aC0];unfold one
  cases hx:kL s 0 with
  |inl e=>
   rw[hx]at hr;have hr:b=(e:Int):=hr.1;subst hr;rw[aB (by simp only[aC8];omega)]
  |inr t=>
   rw[hx]at hr;obtain⟨rfl,rfl⟩:b= -1/\t'=t:=hr;rw[ad (show decide ((-1:Int)<0)=true from rfl)];simp only
   cases decide (t'.1=3)with
   |true=>rw[ad rfl];rfl
   |false=>rw[aB rfl];rfl
end Go.Abs.D
end

section
namespace Go.Abs.D
def jv (k:Int):Bool:=decide (20<=k)&&decide (k<=37)
def cS (k:Int):Bool:=decide (1<=k)&&decide (k<=16)
def pg (k:Int):Bool:=decide (40<=k)&&decide (k<=42)
def gL (k:Int):Bool:=decide (k=26)||(decide (k=32)||decide (k=33))
def PL (a b c d:Bool)(nn op num:Int)(text:LI):Bool:=(a||decide (nn=0))&&((b||decide (op=0))&&((c||decide (num=0))&&(d||decide (text=[]))))
def EX (ks:LI)(i j:Nat):Bool:=(bJ ks i j).all jv
def BS (ks:LI):Bool:=decide (1<=ks.length)&&(jv (get ks 0)&& !decide (get ks 0=27))
theorem ai {ρ:Type}{x y:Option ρ}:brk true x y=x:=ad rfl
theorem ae {ρ:Type}{x y:Option ρ}:brk false x y=y:=aB rfl
theorem dG {β:Type}{b c:Bool}:brk b (some (Sum.inl (c,()))) (some (Sum.inl (false,()):(Bool×Unit)⊕β))=some (Sum.inl (b&&c,())):=by cases b<;>simp[ai,ae]
theorem dE {β:Type}{b c:Bool}:brk (!b) (some (Sum.inl (false,()):(Bool×Unit)⊕β)) (some (Sum.inl (c,())))=some (Sum.inl (b&&c,())):=by cases b<;>simp[ai,ae]
theorem dD {β:Type}{a b:Bool}:brk a (some (Sum.inl (true,()):(Bool×Unit)⊕β)) (some (Sum.inl (b,())))=some (Sum.inl (a||b,())):=by cases a<;>simp[ai,ae]
theorem dF {β:Type}{a b c:Bool}:brk a (some (Sum.inl (c,()):(Bool×Unit)⊕β)) (some (Sum.inl (b&&c,())))=some (Sum.inl ((a||b)&&c,())):=by cases a<;>simp[ai,ae]
theorem dC {ρ:Type}{a b:Bool}{x y:Option ρ}:brk a x (brk b x y)=brk (a||b) x y:=by cases a<;>simp[ai,ae]
abbrev An:Type:=(Bool×Unit)⊕(Unit)⊕Empty
def An.val (y:An):Bool:=y.elim (λy=>y.1) λ_=>false
structure IF (T:S.Tab)(ks:LI)(nn op num:Int)(text:LI):Prop where
 pl:∀a b c d,aW T a b c d nn op num text=some (PL a b c d nn op num text,(),(),(),(),nn,op,num,text,())
 ex01:1<=ks.length->aV T 0 1 ks=some (EX ks 0 1,(),(),ks,())
 ex02:2<=ks.length->aV T 0 2 ks=some (EX ks 0 2,(),(),ks,())
 ex0n:aV T 0 (ks.length:Int) ks=some (EX ks 0 ks.length,(),(),ks,())
 ex0m:1<=ks.length->aV T 0 (i64.wrap ((ks.length:Int) - 1)) ks=some (EX ks 0 (ks.length - 1),(),(),ks,())
 WS:1<=num->num<=ks.length->aV T num (ks.length:Int) ks=some (EX ks num.toNat ks.length,(),(),ks,())
 bs:lG T (ks.length:Int) ks=some (BS ks,(ks.length:Int),ks,())
 gn:ig T text=some (fz 1 text,aa)
 gf:oq T text=some (fz 3 text,aa)
 inn:∀v lo hi,jF T v lo hi=some (decide (lo<=v)&&decide (v<=hi),aT)
 l26:fN T nn op num text ks (ks.length:Int) 0=some (bif ks.all cS then Sum.inr (Sum.inl (nn,op,num,text,()))else Sum.inl (false,()))
 l97:fK T nn op num text ks (ks.length:Int) 0=some (bif ks.all pg then Sum.inr (Sum.inl (nn,op,num,text,()))else Sum.inl (false,()))
 aj6:1<=num->num<=ks.length->cF T ks num (ks.length:Int) (sub ks 0 num) ((sub ks 0 num).length:Int) 0=some (bif(bJ ks 0 num.toNat).all gL then Sum.inr (Sum.inl (ks,num,(ks.length:Int),()))else Sum.inl (false,()))
variable{ks:LI}{nn op num:Int}{text:LI}
def R84 (ks:LI)(nn op num:Int)(text:LI)(kind:Int)(fl:Bool):An:=
 bif fl then Sum.inl (PL false false false false nn op num text&&(decide ((ks.length:Int)=2)&&(EX ks 0 2)),())else
 bif decide (kind=30)then Sum.inl (PL false true false false nn op num text&&((decide ((19:Int)<=op)&&decide (op<=22))&&(decide ((ks.length:Int)=1)&&(EX ks 0 1))),())else
 bif decide (kind=31)then Sum.inl (PL false true false false nn op num text&&((decide ((1:Int)<=op)&&decide (op<=18))&&(decide ((ks.length:Int)=2)&&(EX ks 0 2))),())else
 bif decide (kind=32)then Sum.inl (PL false false false false nn op num text&&(decide ((ks.length:Int)=2)&&(BS ks&&(EX ks 0 2))),())else
 bif decide (kind=33)then Sum.inl (PL false false false true nn op num text&&(decide ((ks.length:Int)=1)&&(BS ks&&(fz 1 text))),())else
 bif decide (kind=34)then Sum.inl (PL false false false false nn op num text&&(BS ks&&(EX ks 0 ks.length)),())else
 bif decide (kind=35)then Sum.inl (ks.all pg&&(PL false false false false nn op num text),())else
 bif decide (kind=36)then Sum.inl (PL true true false false nn op num text&&((decide ((0:Int)<=op)&&decide (op<=1))&&(decide ((ks.length:Int)=1)&&(decide (ks.getD 0 0=1)))),())else
 bif decide (kind=37)then Sum.inl (PL false false false false nn op num text&&(decide ((ks.length:Int)=1)&&((decide (ks.getD 0 0=34)||decide (ks.getD 0 0=27)))),())else
 bif decide (kind=42)then Sum.inl (PL false false false true nn op num text&&(decide ((ks.length:Int)=1)&&(EX ks 0 1&&(fz 1 text))),())else
 Sum.inr (Sum.inl ())
theorem r84 {T:S.Tab}(h:IF T ks nn op num text)(hl:ks.length<=200)(kind:Int)(fl:Bool):iT (S.step T) ks nn op num text (ks.length:Int) kind fl=some (R84 ks nn op num text kind fl):=by
 rw[yT];unfold R84
 cases fl with
 |true=>
  rw[ai,aD6]
  by_cases Gw:ks.length=2
  ·have hz:(ks.length:Int)=2:=(by omega);have hw:i64.wrap ((2:Int) - 1)=1:=(by decide);have hm:ks.length - 1=1:=(by omega);have e1:=h.ex01 (by omega);have e2:=h.ex02 (by omega);have e3:=h.ex0m (by omega);have e4:=h.ex0n;have e5:=h.bs;rw[hz,hw]at e3;rw[hz]at e4 e5;simp only[hw,hz,hm,e1,e2,e3,e4,e5,h.pl,h.inn,h.gn,h.gf,aC0,ai,ae,dC,dG,dE,dD,dF,aC9,aD4,aD2,aD0,aD5,aD3,aD7,aD8,eq_self,decide_true,decide_false,Int.reduceLT,Int.reduceLE,Int.reduceEq,Int.reduceToNat,aE4]
   try rfl
  have d2:decide ((ks.length:Int)=2)=false:=aB9 (by omega);simp only[d2,h.pl,h.inn,h.gn,h.gf,h.ex0n,h.bs,aC0,ai,ae,dC,dG,dE,dD,dF,aC9,aD4,aD2,aD0,aD5,aD3,aD7,aD8]
 |false=>
  rw[ae,aD1]
  by_cases k30:kind=30
  ·rw[aC1 k30,ai,aD6]
   by_cases IM:ks.length=1
   ·have hz:(ks.length:Int)=1:=(by omega);have hw:i64.wrap ((1:Int) - 1)=0:=(by decide);have hm:ks.length - 1=0:=(by omega);have e1:=h.ex01 (by omega);have e3:=h.ex0m (by omega);have e4:=h.ex0n;have e5:=h.bs;rw[hz,hw]at e3;rw[hz]at e4 e5;simp only[hw,hz,hm,e1,e3,e4,e5,h.pl,h.inn,h.gn,h.gf,aC0,ai,ae,dC,dG,dE,dD,dF,aC9,aD4,aD2,aD0,aD5,aD3,aD7,aD8,eq_self,decide_true,decide_false,Int.reduceLT,Int.reduceLE,Int.reduceEq,Int.reduceToNat,aE4]
    try rfl
   have d1:decide ((ks.length:Int)=1)=false:=aB9 (by omega);simp only[d1,h.pl,h.inn,h.gn,h.gf,h.ex0n,h.bs,aC0,ai,ae,dC,dG,dE,dD,dF,aC9,aD4,aD2,aD0,aD5,aD3,aD7,aD8]
  rw[aB9 k30,ae,aD1]
  by_cases k31:kind=31
  ·rw[aC1 k31,ai,aD6]
   by_cases Gw:ks.length=2
   ·have hz:(ks.length:Int)=2:=(by omega);have hw:i64.wrap ((2:Int) - 1)=1:=(by decide);have hm:ks.length - 1=1:=(by omega);have e1:=h.ex01 (by omega);have e2:=h.ex02 (by omega);have e3:=h.ex0m (by omega);have e4:=h.ex0n;have e5:=h.bs;rw[hz,hw]at e3;rw[hz]at e4 e5;simp only[hw,hz,hm,e1,e2,e3,e4,e5,h.pl,h.inn,h.gn,h.gf,aC0,ai,ae,dC,dG,dE,dD,dF,aC9,aD4,aD2,aD0,aD5,aD3,aD7,aD8,eq_self,decide_true,decide_false,Int.reduceLT,Int.reduceLE,Int.reduceEq,Int.reduceToNat,aE4]
    try rfl
   have d2:decide ((ks.length:Int)=2)=false:=aB9 (by omega);simp only[d2,h.pl,h.inn,h.gn,h.gf,h.ex0n,h.bs,aC0,ai,ae,dC,dG,dE,dD,dF,aC9,aD4,aD2,aD0,aD5,aD3,aD7,aD8]
  rw[aB9 k31,ae,aD1]
  by_cases k32:kind=32
  ·rw[aC1 k32,ai,aD6]
   by_cases Gw:ks.length=2
   ·have hz:(ks.length:Int)=2:=(by omega);have hw:i64.wrap ((2:Int) - 1)=1:=(by decide);have hm:ks.length - 1=1:=(by omega);have e1:=h.ex01 (by omega);have e2:=h.ex02 (by omega);have e3:=h.ex0m (by omega);have e4:=h.ex0n;have e5:=h.bs;rw[hz,hw]at e3;rw[hz]at e4 e5;simp only[hw,hz,hm,e1,e2,e3,e4,e5,h.pl,h.inn,h.gn,h.gf,aC0,ai,ae,dC,dG,dE,dD,dF,aC9,aD4,aD2,aD0,aD5,aD3,aD7,aD8,eq_self,decide_true,decide_false,Int.reduceLT,Int.reduceLE,Int.reduceEq,Int.reduceToNat,aE4]
    try rfl
   have d2:decide ((ks.length:Int)=2)=false:=aB9 (by omega);simp only[d2,h.pl,h.inn,h.gn,h.gf,h.ex0n,h.bs,aC0,ai,ae,dC,dG,dE,dD,dF,aC9,aD4,aD2,aD0,aD5,aD3,aD7,aD8]
  rw[aB9 k32,ae,aD1]
  by_cases k33:kind=33
  ·rw[aC1 k33,ai,aD6]
   by_cases IM:ks.length=1
   ·have hz:(ks.length:Int)=1:=(by omega);have hw:i64.wrap ((1:Int) - 1)=0:=(by decide);have hm:ks.length - 1=0:=(by omega);have e1:=h.ex01 (by omega);have e3:=h.ex0m (by omega);have e4:=h.ex0n;have e5:=h.bs;rw[hz,hw]at e3;rw[hz]at e4 e5;simp only[hw,hz,hm,e1,e3,e4,e5,h.pl,h.inn,h.gn,h.gf,aC0,ai,ae,dC,dG,dE,dD,dF,aC9,aD4,aD2,aD0,aD5,aD3,aD7,aD8,eq_self,decide_true,decide_false,Int.reduceLT,Int.reduceLE,Int.reduceEq,Int.reduceToNat,aE4]
    try rfl
   have d1:decide ((ks.length:Int)=1)=false:=aB9 (by omega);simp only[d1,h.pl,h.inn,h.gn,h.gf,h.ex0n,h.bs,aC0,ai,ae,dC,dG,dE,dD,dF,aC9,aD4,aD2,aD0,aD5,aD3,aD7,aD8]
  rw[aB9 k33,ae,aD1]
  by_cases WU:kind=34
  ·rw[aC1 WU,ai,aD6];simp only[h.pl,h.inn,h.gn,h.gf,h.ex0n,h.bs,aC0,ai,ae,dC,dG,dE,dD,dF,aC9,aD4,aD2,aD0,aD5,aD3,aD7,aD8]
  rw[aB9 WU,ae,aD1]
  by_cases k35:kind=35
  ·rw[aC1 k35,ai,aD6];rw[h.l97]
   cases ks.all pg with
   |true=>simp only[aD6,aC0,bB,aE3,aF2,h.pl,aC9]
   |false=>rfl
  rw[aB9 k35,ae,aD1]
  by_cases k36:kind=36
  ·rw[aC1 k36,ai,aD6]
   by_cases IM:ks.length=1
   ·have hz:(ks.length:Int)=1:=(by omega);have hw:i64.wrap ((1:Int) - 1)=0:=(by decide);have hm:ks.length - 1=0:=(by omega);have e1:=h.ex01 (by omega);have e3:=h.ex0m (by omega);have e4:=h.ex0n;have e5:=h.bs;rw[hz,hw]at e3;rw[hz]at e4 e5;simp only[hw,hz,hm,e1,e3,e4,e5,h.pl,h.inn,h.gn,h.gf,aC0,ai,ae,dC,dG,dE,dD,dF,aC9,aD4,aD2,aD0,aD5,aD3,aD7,aD8,eq_self,decide_true,decide_false,Int.reduceLT,Int.reduceLE,Int.reduceEq,Int.reduceToNat,aE4]
    try rfl
   have d1:decide ((ks.length:Int)=1)=false:=aB9 (by omega);simp only[d1,h.pl,h.inn,h.gn,h.gf,h.ex0n,h.bs,aC0,ai,ae,dC,dG,dE,dD,dF,aC9,aD4,aD2,aD0,aD5,aD3,aD7,aD8]
  rw[aB9 k36,ae,aD1]
  by_cases k37:kind=37
  ·rw[aC1 k37,ai,aD6]
   by_cases IM:ks.length=1
   ·have hz:(ks.length:Int)=1:=(by omega);have hw:i64.wrap ((1:Int) - 1)=0:=(by decide);have hm:ks.length - 1=0:=(by omega);have e1:=h.ex01 (by omega);have e3:=h.ex0m (by omega);have e4:=h.ex0n;have e5:=h.bs;rw[hz,hw]at e3;rw[hz]at e4 e5;simp only[hw,hz,hm,e1,e3,e4,e5,h.pl,h.inn,h.gn,h.gf,aC0,ai,ae,dC,dG,dE,dD,dF,aC9,aD4,aD2,aD0,aD5,aD3,aD7,aD8,eq_self,decide_true,decide_false,Int.reduceLT,Int.reduceLE,Int.reduceEq,Int.reduceToNat,aE4]
    try rfl
   have d1:decide ((ks.length:Int)=1)=false:=aB9 (by omega);simp only[d1,h.pl,h.inn,h.gn,h.gf,h.ex0n,h.bs,aC0,ai,ae,dC,dG,dE,dD,dF,aC9,aD4,aD2,aD0,aD5,aD3,aD7,aD8]
  rw[aB9 k37,ae,aD1]
  by_cases k42:kind=42
  ·rw[aC1 k42,ai,aD6]
   by_cases IM:ks.length=1
   ·have hz:(ks.length:Int)=1:=(by omega);have hw:i64.wrap ((1:Int) - 1)=0:=(by decide);have hm:ks.length - 1=0:=(by omega);have e1:=h.ex01 (by omega);have e3:=h.ex0m (by omega);have e4:=h.ex0n;have e5:=h.bs;rw[hz,hw]at e3;rw[hz]at e4 e5;simp only[hw,hz,hm,e1,e3,e4,e5,h.pl,h.inn,h.gn,h.gf,aC0,ai,ae,dC,dG,dE,dD,dF,aC9,aD4,aD2,aD0,aD5,aD3,aD7,aD8,eq_self,decide_true,decide_false,Int.reduceLT,Int.reduceLE,Int.reduceEq,Int.reduceToNat,aE4]
    try rfl
   have d1:decide ((ks.length:Int)=1)=false:=aB9 (by omega);simp only[d1,h.pl,h.inn,h.gn,h.gf,h.ex0n,h.bs,aC0,ai,ae,dC,dG,dE,dD,dF,aC9,aD4,aD2,aD0,aD5,aD3,aD7,aD8]
  rw[aB9 k42,ae,aD1]
def R72 (ks:LI)(nn op num:Int)(text:LI)(kind:Int)(fl:Bool):An:=
 bif fl then Sum.inl (PL false false false false nn op num text&&(decide ((ks.length:Int)=1)&&(EX ks 0 1)),())else
 bif decide (kind=23)then Sum.inl (PL false false true false nn op num text&&(decide ((ks.length:Int)=0)),())else
 bif decide (kind=24)then Sum.inl (PL false false false true nn op num text&&(decide ((ks.length:Int)=0)&&(fz 3 text)),())else
 bif decide (kind=25)then Sum.inl (PL false false false true nn op num text&&(decide ((ks.length:Int)=0)&&(decide ((text.length:Int)<=4000))),())else
 bif decide (kind=26)then Sum.inl (PL false false false true nn op num text&&(decide ((ks.length:Int)=0)&&(fz 1 text)),())else
 bif decide (kind=28)then R84 ks nn op num text kind true else
 bif decide (kind=29)then R84 ks nn op num text kind true else
 R84 ks nn op num text kind (decide (kind=41))
theorem r72 {T:S.Tab}(h:IF T ks nn op num text)(hl:ks.length<=200)(kind:Int)(Y9:∀fl,iT T ks nn op num text (ks.length:Int) kind fl=some (R84 ks nn op num text kind fl))(fl:Bool):jK (S.step T) ks nn op num text (ks.length:Int) kind fl=some (R72 ks nn op num text kind fl):=by
 rw[yV];unfold R72
 cases fl with
 |true=>
  rw[ai,aD6]
  by_cases IM:ks.length=1
  ·have hz:(ks.length:Int)=1:=(by omega);have hw:i64.wrap ((1:Int) - 1)=0:=(by decide);have hm:ks.length - 1=0:=(by omega);have e1:=h.ex01 (by omega);have e3:=h.ex0m (by omega);have e4:=h.ex0n;have e5:=h.bs;rw[hz,hw]at e3;rw[hz]at e4 e5;simp only[hw,hz,hm,e1,e3,e4,e5,h.pl,h.inn,h.gn,h.gf,aC0,ai,ae,dC,dG,dE,dD,dF,aC9,aD4,aD2,aD0,aD5,aD3,aD7,aD8,eq_self,decide_true,decide_false,Int.reduceLT,Int.reduceLE,Int.reduceEq,Int.reduceToNat,aE4]
   try rfl
  have d1:decide ((ks.length:Int)=1)=false:=aB9 (by omega);simp only[d1,h.pl,h.inn,h.gn,h.gf,h.ex0n,h.bs,aC0,ai,ae,dC,dG,dE,dD,dF,aC9,aD4,aD2,aD0,aD5,aD3,aD7,aD8]
 |false=>
  rw[ae,aD1]
  by_cases k23:kind=23
  ·rw[aC1 k23,ai,aD6];simp only[h.pl,h.inn,h.gn,h.gf,h.ex0n,h.bs,aC0,ai,ae,dC,dG,dE,dD,dF,aC9,aD4,aD2,aD0,aD5,aD3,aD7,aD8]
  rw[aB9 k23,ae,aD1]
  by_cases k24:kind=24
  ·rw[aC1 k24,ai,aD6];simp only[h.pl,h.inn,h.gn,h.gf,h.ex0n,h.bs,aC0,ai,ae,dC,dG,dE,dD,dF,aC9,aD4,aD2,aD0,aD5,aD3,aD7,aD8]
  rw[aB9 k24,ae,aD1]
  by_cases k25:kind=25
  ·rw[aC1 k25,ai,aD6];simp only[h.pl,h.inn,h.gn,h.gf,h.ex0n,h.bs,aC0,ai,ae,dC,dG,dE,dD,dF,aC9,aD4,aD2,aD0,aD5,aD3,aD7,aD8]
  rw[aB9 k25,ae,aD1]
  by_cases k26:kind=26
  ·rw[aC1 k26,ai,aD6];simp only[h.pl,h.inn,h.gn,h.gf,h.ex0n,h.bs,aC0,ai,ae,dC,dG,dE,dD,dF,aC9,aD4,aD2,aD0,aD5,aD3,aD7,aD8]
  rw[aB9 k26,ae,aD1]
  by_cases k28:kind=28
  ·rw[aC1 k28,ai,aD6,Y9]
   cases hR:R84 ks nn op num text kind true with
   |inl y=>rfl
   |inr y=>cases y with
    |inl y=>rfl
    |inr y=>exact y.elim
  rw[aB9 k28,ae,aD1]
  by_cases k29:kind=29
  ·rw[aC1 k29,ai,aD6,Y9]
   cases hR:R84 ks nn op num text kind true with
   |inl y=>rfl
   |inr y=>cases y with
    |inl y=>rfl
    |inr y=>exact y.elim
  rw[aB9 k29,ae,aD1];rw[Y9]
  cases hR:R84 ks nn op num text kind (decide (kind=41))with
  |inl y=>rfl
  |inr y=>cases y with
   |inl y=>rfl
   |inr y=>exact y.elim
def R65 (ks:LI)(nn op num:Int)(text:LI)(kind:Int)(fl:Bool):An:=
 bif fl then Sum.inl (PL false false false false nn op num text&&(decide ((ks.length:Int)=0)),())else
 bif decide (kind=13)then Sum.inl (PL false false false false nn op num text&&(EX ks 0 ks.length),())else
 bif decide (kind=14)then Sum.inl (PL true false false false nn op num text&&((decide (nn=1)||decide (nn=2))&&(decide ((ks.length:Int)=2)&&(decide (ks.getD 0 0=1)&&(decide (ks.getD 1 0=1))))),())else
 bif decide (kind=15)then R72 ks nn op num text kind true else
 R72 ks nn op num text kind (decide (kind=40))
theorem r65 {T:S.Tab}(h:IF T ks nn op num text)(hl:ks.length<=200)(kind:Int)(ZO:∀fl,jK T ks nn op num text (ks.length:Int) kind fl=some (R72 ks nn op num text kind fl))(fl:Bool):eV (S.step T) ks nn op num text (ks.length:Int) kind fl=some (R65 ks nn op num text kind fl):=by
 rw[yO];unfold R65
 cases fl with
 |true=>
  rw[ai,aD6];simp only[h.pl,h.inn,h.gn,h.gf,h.ex0n,h.bs,aC0,ai,ae,dC,dG,dE,dD,dF,aC9,aD4,aD2,aD0,aD5,aD3,aD7,aD8]
 |false=>
  rw[ae,aD1]
  by_cases k13:kind=13
  ·rw[aC1 k13,ai,aD6];simp only[h.pl,h.inn,h.gn,h.gf,h.ex0n,h.bs,aC0,ai,ae,dC,dG,dE,dD,dF,aC9,aD4,aD2,aD0,aD5,aD3,aD7,aD8]
  rw[aB9 k13,ae,aD1]
  by_cases k14:kind=14
  ·rw[aC1 k14,ai,aD6]
   by_cases Gw:ks.length=2
   ·have hz:(ks.length:Int)=2:=(by omega);have hw:i64.wrap ((2:Int) - 1)=1:=(by decide);have hm:ks.length - 1=1:=(by omega);have e1:=h.ex01 (by omega);have e2:=h.ex02 (by omega);have e3:=h.ex0m (by omega);have e4:=h.ex0n;have e5:=h.bs;rw[hz,hw]at e3;rw[hz]at e4 e5;simp only[hw,hz,hm,e1,e2,e3,e4,e5,h.pl,h.inn,h.gn,h.gf,aC0,ai,ae,dC,dG,dE,dD,dF,aC9,aD4,aD2,aD0,aD5,aD3,aD7,aD8,eq_self,decide_true,decide_false,Int.reduceLT,Int.reduceLE,Int.reduceEq,Int.reduceToNat,aE4]
    try rfl
   have d2:decide ((ks.length:Int)=2)=false:=aB9 (by omega);simp only[d2,h.pl,h.inn,h.gn,h.gf,h.ex0n,h.bs,aC0,ai,ae,dC,dG,dE,dD,dF,aC9,aD4,aD2,aD0,aD5,aD3,aD7,aD8]
  rw[aB9 k14,ae,aD1]
  by_cases k15:kind=15
  ·rw[aC1 k15,ai,aD6,ZO]
   cases hR:R72 ks nn op num text kind true with
   |inl y=>rfl
   |inr y=>cases y with
    |inl y=>rfl
    |inr y=>exact y.elim
  rw[aB9 k15,ae,aD1];rw[ZO]
  cases hR:R72 ks nn op num text kind (decide (kind=40))with
  |inl y=>rfl
  |inr y=>cases y with
   |inl y=>rfl
   |inr y=>exact y.elim
def R50 (ks:LI)(nn op num:Int)(text:LI)(kind:Int)(fl:Bool):An:=
 bif fl then Sum.inl (PL false false false false nn op num text&&(decide ((ks.length:Int)=1)&&(decide (ks.getD 0 0=34))),())else
 bif decide (kind=7)then Sum.inl (PL false false false false nn op num text&&((decide ((ks.length:Int)=2)||decide ((ks.length:Int)=3))&&(EX ks 0 1&&(decide (ks.getD 1 0=1)&&((decide ((ks.length:Int)=2)||(decide (ks.getD 2 0=1)||decide (ks.getD 2 0=7))))))),())else
 bif decide (kind=8)then Sum.inl (PL false false false false nn op num text&&(decide ((ks.length:Int)=2)&&(EX ks 0 1&&(decide (ks.getD 1 0=1)))),())else
 bif decide (kind=9)then Sum.inl (PL true false false false nn op num text&&(decide (nn=1)&&((decide ((ks.length:Int)=3)||decide ((ks.length:Int)=4))&&(EX ks 0 (ks.length - 1)&&(decide (ks.getD (ks.length - 1) 0=1))))),())else
 bif decide (kind=10)then Sum.inl (PL true false false false nn op num text&&(decide (1<=nn)&&(decide ((ks.length:Int)=2)&&(EX ks 0 1&&(decide (ks.getD 1 0=1))))),())else
 bif decide (kind=11)then R65 ks nn op num text kind true else
 bif decide (kind=12)then R65 ks nn op num text kind true else
 bif decide (kind=20)then R65 ks nn op num text kind true else
 bif decide (kind=21)then R65 ks nn op num text kind true else
 bif decide (kind=22)then R65 ks nn op num text kind true else
 R65 ks nn op num text kind (decide (kind=27))
theorem r50 {T:S.Tab}(h:IF T ks nn op num text)(hl:ks.length<=200)(kind:Int)(Us:∀fl,eV T ks nn op num text (ks.length:Int) kind fl=some (R65 ks nn op num text kind fl))(fl:Bool):lk (S.step T) ks nn op num text (ks.length:Int) kind fl=some (R50 ks nn op num text kind fl):=by
 rw[yZ];unfold R50
 cases fl with
 |true=>
  rw[ai,aD6]
  by_cases IM:ks.length=1
  ·have hz:(ks.length:Int)=1:=(by omega);have hw:i64.wrap ((1:Int) - 1)=0:=(by decide);have hm:ks.length - 1=0:=(by omega);have e1:=h.ex01 (by omega);have e3:=h.ex0m (by omega);have e4:=h.ex0n;have e5:=h.bs;rw[hz,hw]at e3;rw[hz]at e4 e5;simp only[hw,hz,hm,e1,e3,e4,e5,h.pl,h.inn,h.gn,h.gf,aC0,ai,ae,dC,dG,dE,dD,dF,aC9,aD4,aD2,aD0,aD5,aD3,aD7,aD8,eq_self,decide_true,decide_false,Int.reduceLT,Int.reduceLE,Int.reduceEq,Int.reduceToNat,aE4]
   try rfl
  have d1:decide ((ks.length:Int)=1)=false:=aB9 (by omega);simp only[d1,h.pl,h.inn,h.gn,h.gf,h.ex0n,h.bs,aC0,ai,ae,dC,dG,dE,dD,dF,aC9,aD4,aD2,aD0,aD5,aD3,aD7,aD8]
 |false=>
  rw[ae,aD1]
  by_cases k7:kind=7
  ·rw[aC1 k7,ai,aD6]
   by_cases Gw:ks.length=2
   ·have hz:(ks.length:Int)=2:=(by omega);have hw:i64.wrap ((2:Int) - 1)=1:=(by decide);have hm:ks.length - 1=1:=(by omega);have e1:=h.ex01 (by omega);have e2:=h.ex02 (by omega);have e3:=h.ex0m (by omega);have e4:=h.ex0n;have e5:=h.bs;rw[hz,hw]at e3;rw[hz]at e4 e5;simp only[hw,hz,hm,e1,e2,e3,e4,e5,h.pl,h.inn,h.gn,h.gf,aC0,ai,ae,dC,dG,dE,dD,dF,aC9,aD4,aD2,aD0,aD5,aD3,aD7,aD8,eq_self,decide_true,decide_false,Int.reduceLT,Int.reduceLE,Int.reduceEq,Int.reduceToNat,aE4]
    try rfl
   by_cases hn3:ks.length=3
   ·have hz:(ks.length:Int)=3:=(by omega);have hw:i64.wrap ((3:Int) - 1)=2:=(by decide);have hm:ks.length - 1=2:=(by omega);have e1:=h.ex01 (by omega);have e2:=h.ex02 (by omega);have e3:=h.ex0m (by omega);have e4:=h.ex0n;have e5:=h.bs;rw[hz,hw]at e3;rw[hz]at e4 e5;simp only[hw,hz,hm,e1,e2,e3,e4,e5,h.pl,h.inn,h.gn,h.gf,aC0,ai,ae,dC,dG,dE,dD,dF,aC9,aD4,aD2,aD0,aD5,aD3,aD7,aD8,eq_self,decide_true,decide_false,Int.reduceLT,Int.reduceLE,Int.reduceEq,Int.reduceToNat,aE4]
    try rfl
   have d2:decide ((ks.length:Int)=2)=false:=aB9 (by omega);have d3:decide ((ks.length:Int)=3)=false:=aB9 (by omega);simp only[d2,d3,h.pl,h.inn,h.gn,h.gf,h.ex0n,h.bs,aC0,ai,ae,dC,dG,dE,dD,dF,aC9,aD4,aD2,aD0,aD5,aD3,aD7,aD8]
  rw[aB9 k7,ae,aD1]
  by_cases k8:kind=8
  ·rw[aC1 k8,ai,aD6]
   by_cases Gw:ks.length=2
   ·have hz:(ks.length:Int)=2:=(by omega);have hw:i64.wrap ((2:Int) - 1)=1:=(by decide);have hm:ks.length - 1=1:=(by omega);have e1:=h.ex01 (by omega);have e2:=h.ex02 (by omega);have e3:=h.ex0m (by omega);have e4:=h.ex0n;have e5:=h.bs;rw[hz,hw]at e3;rw[hz]at e4 e5;simp only[hw,hz,hm,e1,e2,e3,e4,e5,h.pl,h.inn,h.gn,h.gf,aC0,ai,ae,dC,dG,dE,dD,dF,aC9,aD4,aD2,aD0,aD5,aD3,aD7,aD8,eq_self,decide_true,decide_false,Int.reduceLT,Int.reduceLE,Int.reduceEq,Int.reduceToNat,aE4]
    try rfl
   have d2:decide ((ks.length:Int)=2)=false:=aB9 (by omega);simp only[d2,h.pl,h.inn,h.gn,h.gf,h.ex0n,h.bs,aC0,ai,ae,dC,dG,dE,dD,dF,aC9,aD4,aD2,aD0,aD5,aD3,aD7,aD8]
  rw[aB9 k8,ae,aD1]
  by_cases k9:kind=9
  ·rw[aC1 k9,ai,aD6]
   by_cases hn3:ks.length=3
   ·have hz:(ks.length:Int)=3:=(by omega);have hw:i64.wrap ((3:Int) - 1)=2:=(by decide);have hm:ks.length - 1=2:=(by omega);have e1:=h.ex01 (by omega);have e2:=h.ex02 (by omega);have e3:=h.ex0m (by omega);have e4:=h.ex0n;have e5:=h.bs;rw[hz,hw]at e3;rw[hz]at e4 e5;simp only[hw,hz,hm,e1,e2,e3,e4,e5,h.pl,h.inn,h.gn,h.gf,aC0,ai,ae,dC,dG,dE,dD,dF,aC9,aD4,aD2,aD0,aD5,aD3,aD7,aD8,eq_self,decide_true,decide_false,Int.reduceLT,Int.reduceLE,Int.reduceEq,Int.reduceToNat,aE4]
    try rfl
   by_cases hn4:ks.length=4
   ·have hz:(ks.length:Int)=4:=(by omega);have hw:i64.wrap ((4:Int) - 1)=3:=(by decide);have hm:ks.length - 1=3:=(by omega);have e1:=h.ex01 (by omega);have e2:=h.ex02 (by omega);have e3:=h.ex0m (by omega);have e4:=h.ex0n;have e5:=h.bs;rw[hz,hw]at e3;rw[hz]at e4 e5;simp only[hw,hz,hm,e1,e2,e3,e4,e5,h.pl,h.inn,h.gn,h.gf,aC0,ai,ae,dC,dG,dE,dD,dF,aC9,aD4,aD2,aD0,aD5,aD3,aD7,aD8,eq_self,decide_true,decide_false,Int.reduceLT,Int.reduceLE,Int.reduceEq,Int.reduceToNat,aE4]
    try rfl
   have d3:decide ((ks.length:Int)=3)=false:=aB9 (by omega);have d4:decide ((ks.length:Int)=4)=false:=aB9 (by omega);simp only[d3,d4,h.pl,h.inn,h.gn,h.gf,h.ex0n,h.bs,aC0,ai,ae,dC,dG,dE,dD,dF,aC9,aD4,aD2,aD0,aD5,aD3,aD7,aD8]
  rw[aB9 k9,ae,aD1]
  by_cases k10:kind=10
  ·rw[aC1 k10,ai,aD6]
   by_cases Gw:ks.length=2
   ·have hz:(ks.length:Int)=2:=(by omega);have hw:i64.wrap ((2:Int) - 1)=1:=(by decide);have hm:ks.length - 1=1:=(by omega);have e1:=h.ex01 (by omega);have e2:=h.ex02 (by omega);have e3:=h.ex0m (by omega);have e4:=h.ex0n;have e5:=h.bs;rw[hz,hw]at e3;rw[hz]at e4 e5;simp only[hw,hz,hm,e1,e2,e3,e4,e5,h.pl,h.inn,h.gn,h.gf,aC0,ai,ae,dC,dG,dE,dD,dF,aC9,aD4,aD2,aD0,aD5,aD3,aD7,aD8,eq_self,decide_true,decide_false,Int.reduceLT,Int.reduceLE,Int.reduceEq,Int.reduceToNat,aE4]
    try rfl
   have d2:decide ((ks.length:Int)=2)=false:=aB9 (by omega);simp only[d2,h.pl,h.inn,h.gn,h.gf,h.ex0n,h.bs,aC0,ai,ae,dC,dG,dE,dD,dF,aC9,aD4,aD2,aD0,aD5,aD3,aD7,aD8]
  rw[aB9 k10,ae,aD1]
  by_cases k11:kind=11
  ·rw[aC1 k11,ai,aD6,Us]
   cases hR:R65 ks nn op num text kind true with
   |inl y=>rfl
   |inr y=>cases y with
    |inl y=>rfl
    |inr y=>exact y.elim
  rw[aB9 k11,ae,aD1]
  by_cases k12:kind=12
  ·rw[aC1 k12,ai,aD6,Us]
   cases hR:R65 ks nn op num text kind true with
   |inl y=>rfl
   |inr y=>cases y with
    |inl y=>rfl
    |inr y=>exact y.elim
  rw[aB9 k12,ae,aD1]
  by_cases k20:kind=20
  ·rw[aC1 k20,ai,aD6,Us]
   cases hR:R65 ks nn op num text kind true with
   |inl y=>rfl
   |inr y=>cases y with
    |inl y=>rfl
    |inr y=>exact y.elim
  rw[aB9 k20,ae,aD1]
  by_cases T8:kind=21
  ·rw[aC1 T8,ai,aD6,Us]
   cases hR:R65 ks nn op num text kind true with
   |inl y=>rfl
   |inr y=>cases y with
    |inl y=>rfl
    |inr y=>exact y.elim
  rw[aB9 T8,ae,aD1]
  by_cases k22:kind=22
  ·rw[aC1 k22,ai,aD6,Us]
   cases hR:R65 ks nn op num text kind true with
   |inl y=>rfl
   |inr y=>cases y with
    |inl y=>rfl
    |inr y=>exact y.elim
  rw[aB9 k22,ae,aD1];rw[Us]
  cases hR:R65 ks nn op num text kind (decide (kind=27))with
  |inl y=>rfl
  |inr y=>cases y with
   |inl y=>rfl
   |inr y=>exact y.elim
end Go.Abs.D
end

section
namespace Go.Abs.D
abbrev Tr:Type:=List aj.den×Unit
abbrev AnS:Type:=(Bool×Unit)⊕(Tr×aj.den×Int×Unit)⊕Empty
theorem ku {β:Type}{a c:Bool}:brk a (some (Sum.inl (false,()):(Bool×Unit)⊕β)) (some (Sum.inl (c,())))=some (Sum.inl (!a&&c,())):=by cases a<;>simp[ai,ae]
def NM (names:List LI)(a b:Int):Bool:=decide (a<=(names.length:Int))&&(decide ((names.length:Int)<=b)&&names.all (fz 1))
structure SF (T:S.Tab)(t:Tr)(x:aj.den)(ks:LI)(names:List LI)(op num:Int)(text:LI):Prop where
 xop:x.2.2.2.2.1=op
 xnum:x.2.2.2.2.2.1=num
 xtext:x.2.2.2.2.2.2.1=text
 xlen:x.2.2.2.2.2.2.2.2.1.length=ks.length
 pl:∀a b c d,bf T x a b c d=some (PL d a b c (names.length:Int) op num text,bA)
 nm:∀a b,iq T x a b=some (NM names a b,kF)
 ex01:1<=ks.length->aY T t x 0 1=some (EX ks 0 1,cK)
 ex02:2<=ks.length->aY T t x 0 2=some (EX ks 0 2,cK)
 ex0n:aY T t x 0 (ks.length:Int)=some (EX ks 0 ks.length,cK)
 ex0m:1<=ks.length->aY T t x 0 (i64.wrap ((ks.length:Int) - 1))=some (EX ks 0 (ks.length - 1),cK)
 WS:1<=num->num<=ks.length->aY T t x num (ks.length:Int)=some (EX ks num.toNat ks.length,cK)
 k0:1<=ks.length->bT T t x 0=some (ks.getD 0 0,j0)
 k1:2<=ks.length->bT T t x 1=some (ks.getD 1 0,j0)
 k2:3<=ks.length->bT T t x 2=some (ks.getD 2 0,j0)
 km:1<=ks.length->bT T t x (i64.wrap ((ks.length:Int) - 1))=some (ks.getD (ks.length - 1) 0,j0)
 gn:ij T text=some (fz 1 text,aa)
 gf:ov T text=some (fz 3 text,aa)
 l5:dr T t x (ks.length:Int) 0=some (bif ks.all cS then Sum.inr (Sum.inl (x,()))else Sum.inl (false,()))
 l31:cM T t x (ks.length:Int) 0=some (bif ks.all pg then Sum.inr (Sum.inl (x,()))else Sum.inl (false,()))
 ae6:1<=num->num<=ks.length->cV T t x (ks.length:Int) 0=some (bif(bJ ks 0 num.toNat).all gL then Sum.inr (Sum.inl (t,x,(ks.length:Int),()))else Sum.inl (false,()))
variable{t:Tr}{x:aj.den}{ks:LI}{names:List LI}{op num:Int}{text:LI}
def Q41 (t:Tr)(x:aj.den)(ks:LI)(names:List LI)(op num:Int)(text:LI)(kind:Int)(fl:Bool):AnS:=
 bif fl then Sum.inl (PL false false false false (names.length:Int) op num text&&(decide ((ks.length:Int)=0)),())else
 bif decide (kind=13)then Sum.inl (PL false false false false (names.length:Int) op num text&&(EX ks 0 ks.length),())else
 bif decide (kind=14)then Sum.inl (PL true false false false (names.length:Int) op num text&&(NM names 1 2&&(decide ((ks.length:Int)=2)&&(decide (ks.getD 0 0=1)&&(decide (ks.getD 1 0=1))))),())else
 Sum.inr (Sum.inl (t,x,(ks.length:Int),()))
theorem q41 {T:S.Tab}(h:SF T t x ks names op num text)(hl:ks.length<=200)(kind:Int)(fl:Bool):gg (S.step T) t x (ks.length:Int) kind fl=some (Q41 t x ks names op num text kind fl):=by
 rw[tR];unfold Q41
 cases fl with
 |true=>
  rw[ai,aD6];simp only[h.xop,h.xnum,h.xtext,h.pl,h.nm,h.gn,h.gf,h.ex0n,aC0,ai,ae,dC,dG,ku,dE,dD,dF,aC9,aD4,aD2,aD0,aD5,aD3,aD7,aD8,aE6,aE8,aF9]
 |false=>
  rw[ae,aD1]
  by_cases k13:kind=13
  ·rw[aC1 k13,ai,aD6];simp only[h.xop,h.xnum,h.xtext,h.pl,h.nm,h.gn,h.gf,h.ex0n,aC0,ai,ae,dC,dG,ku,dE,dD,dF,aC9,aD4,aD2,aD0,aD5,aD3,aD7,aD8,aE6,aE8,aF9]
  rw[aB9 k13,ae,aD1]
  by_cases k14:kind=14
  ·rw[aC1 k14,ai,aD6]
   by_cases Gw:ks.length=2
   ·have hz:(ks.length:Int)=2:=(by omega);have hw:i64.wrap ((2:Int) - 1)=1:=(by decide);have hm:ks.length - 1=1:=(by omega);have e0:=h.ex01 (by omega);have e1:=h.k0 (by omega);have e2:=h.ex02 (by omega);have e3:=h.k1 (by omega);have m0:=h.ex0m (by omega);have m1:=h.km (by omega);have m2:=h.ex0n;rw[hz,hw]at m0 m1;rw[hz]at m2;simp only[hw,hz,hm,e0,e1,e2,e3,m0,m1,m2,h.xop,h.xnum,h.xtext,h.pl,h.nm,h.gn,h.gf,aC0,ai,ae,dC,dG,ku,dE,dD,dF,aC9,aD4,aD2,aD0,aD5,aD3,aD7,aD8,aE6,aE8,aF9,eq_self,decide_true,decide_false,Int.reduceLT,Int.reduceLE,Int.reduceEq,Int.reduceToNat,aE4]
    try rfl
   have d2:decide ((ks.length:Int)=2)=false:=aB9 (by omega);simp only[d2,h.xop,h.xnum,h.xtext,h.pl,h.nm,h.gn,h.gf,h.ex0n,aC0,ai,ae,dC,dG,ku,dE,dD,dF,aC9,aD4,aD2,aD0,aD5,aD3,aD7,aD8,aE6,aE8,aF9]
  rw[aB9 k14,ae,aD1]
def Q28 (t:Tr)(x:aj.den)(ks:LI)(names:List LI)(op num:Int)(text:LI)(kind:Int)(fl:Bool):AnS:=
 bif fl then Sum.inl (PL false false false false (names.length:Int) op num text&&(decide ((ks.length:Int)=1)&&(decide (ks.getD 0 0=34))),())else
 bif decide (kind=7)then Sum.inl (PL false false false false (names.length:Int) op num text&&(!decide ((ks.length:Int)<2)&&(!decide ((3:Int)<(ks.length:Int))&&(EX ks 0 1&&(decide (ks.getD 1 0=1)&&((decide ((ks.length:Int)=2)||(decide (ks.getD 2 0=1)||decide (ks.getD 2 0=7)))))))),())else
 bif decide (kind=8)then Sum.inl (PL false false false false (names.length:Int) op num text&&(decide ((ks.length:Int)=2)&&(EX ks 0 1&&(decide (ks.getD 1 0=1)))),())else
 bif decide (kind=9)then Sum.inl (PL true false false false (names.length:Int) op num text&&(NM names 1 1&&((decide ((ks.length:Int)=3)||decide ((ks.length:Int)=4))&&(EX ks 0 (ks.length - 1)&&(decide (ks.getD (ks.length - 1) 0=1))))),())else
 bif decide (kind=10)then Sum.inl (PL true false false false (names.length:Int) op num text&&(NM names 1 200&&(decide ((ks.length:Int)=2)&&(EX ks 0 1&&(decide (ks.getD 1 0=1))))),())else
 bif decide (kind=11)then Q41 t x ks names op num text kind true else
 Q41 t x ks names op num text kind (decide (kind=12))
theorem q28 {T:S.Tab}(h:SF T t x ks names op num text)(hl:ks.length<=200)(kind:Int)(Zz:∀fl,gg T t x (ks.length:Int) kind fl=some (Q41 t x ks names op num text kind fl))(fl:Bool):iw (S.step T) t x (ks.length:Int) kind fl=some (Q28 t x ks names op num text kind fl):=by
 rw[tP];unfold Q28
 cases fl with
 |true=>
  rw[ai,aD6]
  by_cases IM:ks.length=1
  ·have hz:(ks.length:Int)=1:=(by omega);have hw:i64.wrap ((1:Int) - 1)=0:=(by decide);have hm:ks.length - 1=0:=(by omega);have e0:=h.ex01 (by omega);have e1:=h.k0 (by omega);have m0:=h.ex0m (by omega);have m1:=h.km (by omega);have m2:=h.ex0n;rw[hz,hw]at m0 m1;rw[hz]at m2;simp only[hw,hz,hm,e0,e1,m0,m1,m2,h.xop,h.xnum,h.xtext,h.pl,h.nm,h.gn,h.gf,aC0,ai,ae,dC,dG,ku,dE,dD,dF,aC9,aD4,aD2,aD0,aD5,aD3,aD7,aD8,aE6,aE8,aF9,eq_self,decide_true,decide_false,Int.reduceLT,Int.reduceLE,Int.reduceEq,Int.reduceToNat,aE4]
   try rfl
  have d1:decide ((ks.length:Int)=1)=false:=aB9 (by omega);simp only[d1,h.xop,h.xnum,h.xtext,h.pl,h.nm,h.gn,h.gf,h.ex0n,aC0,ai,ae,dC,dG,ku,dE,dD,dF,aC9,aD4,aD2,aD0,aD5,aD3,aD7,aD8,aE6,aE8,aF9]
 |false=>
  rw[ae,aD1]
  by_cases k7:kind=7
  ·rw[aC1 k7,ai,aD6]
   by_cases Gw:ks.length=2
   ·have hz:(ks.length:Int)=2:=(by omega);have hw:i64.wrap ((2:Int) - 1)=1:=(by decide);have hm:ks.length - 1=1:=(by omega);have e0:=h.ex01 (by omega);have e1:=h.k0 (by omega);have e2:=h.ex02 (by omega);have e3:=h.k1 (by omega);have m0:=h.ex0m (by omega);have m1:=h.km (by omega);have m2:=h.ex0n;rw[hz,hw]at m0 m1;rw[hz]at m2;simp only[hw,hz,hm,e0,e1,e2,e3,m0,m1,m2,h.xop,h.xnum,h.xtext,h.pl,h.nm,h.gn,h.gf,aC0,ai,ae,dC,dG,ku,dE,dD,dF,aC9,aD4,aD2,aD0,aD5,aD3,aD7,aD8,aE6,aE8,aF9,eq_self,decide_true,decide_false,Int.reduceLT,Int.reduceLE,Int.reduceEq,Int.reduceToNat,aE4]
    try rfl
   by_cases hn3:ks.length=3
   ·have hz:(ks.length:Int)=3:=(by omega);have hw:i64.wrap ((3:Int) - 1)=2:=(by decide);have hm:ks.length - 1=2:=(by omega);have e0:=h.ex01 (by omega);have e1:=h.k0 (by omega);have e2:=h.ex02 (by omega);have e3:=h.k1 (by omega);have e4:=h.k2 (by omega);have m0:=h.ex0m (by omega);have m1:=h.km (by omega);have m2:=h.ex0n;rw[hz,hw]at m0 m1;rw[hz]at m2;simp only[hw,hz,hm,e0,e1,e2,e3,e4,m0,m1,m2,h.xop,h.xnum,h.xtext,h.pl,h.nm,h.gn,h.gf,aC0,ai,ae,dC,dG,ku,dE,dD,dF,aC9,aD4,aD2,aD0,aD5,aD3,aD7,aD8,aE6,aE8,aF9,eq_self,decide_true,decide_false,Int.reduceLT,Int.reduceLE,Int.reduceEq,Int.reduceToNat,aE4]
    try rfl
   by_cases hn:ks.length<2
   ·have d1:decide ((ks.length:Int)<2)=true:=aC1 (by omega);simp only[d1,h.xop,h.xnum,h.xtext,h.pl,h.nm,h.gn,h.gf,h.ex0n,aC0,ai,ae,dC,dG,ku,dE,dD,dF,aC9,aD4,aD2,aD0,aD5,aD3,aD7,aD8,aE6,aE8,aF9]
   ·have d1:decide ((ks.length:Int)<2)=false:=aB9 (by omega);have d2:decide ((3:Int)<(ks.length:Int))=true:=aC1 (by omega);simp only[d1,d2,h.xop,h.xnum,h.xtext,h.pl,h.nm,h.gn,h.gf,h.ex0n,aC0,ai,ae,dC,dG,ku,dE,dD,dF,aC9,aD4,aD2,aD0,aD5,aD3,aD7,aD8,aE6,aE8,aF9]
  rw[aB9 k7,ae,aD1]
  by_cases k8:kind=8
  ·rw[aC1 k8,ai,aD6]
   by_cases Gw:ks.length=2
   ·have hz:(ks.length:Int)=2:=(by omega);have hw:i64.wrap ((2:Int) - 1)=1:=(by decide);have hm:ks.length - 1=1:=(by omega);have e0:=h.ex01 (by omega);have e1:=h.k0 (by omega);have e2:=h.ex02 (by omega);have e3:=h.k1 (by omega);have m0:=h.ex0m (by omega);have m1:=h.km (by omega);have m2:=h.ex0n;rw[hz,hw]at m0 m1;rw[hz]at m2;simp only[hw,hz,hm,e0,e1,e2,e3,m0,m1,m2,h.xop,h.xnum,h.xtext,h.pl,h.nm,h.gn,h.gf,aC0,ai,ae,dC,dG,ku,dE,dD,dF,aC9,aD4,aD2,aD0,aD5,aD3,aD7,aD8,aE6,aE8,aF9,eq_self,decide_true,decide_false,Int.reduceLT,Int.reduceLE,Int.reduceEq,Int.reduceToNat,aE4]
    try rfl
   have d2:decide ((ks.length:Int)=2)=false:=aB9 (by omega);simp only[d2,h.xop,h.xnum,h.xtext,h.pl,h.nm,h.gn,h.gf,h.ex0n,aC0,ai,ae,dC,dG,ku,dE,dD,dF,aC9,aD4,aD2,aD0,aD5,aD3,aD7,aD8,aE6,aE8,aF9]
  rw[aB9 k8,ae,aD1]
  by_cases k9:kind=9
  ·rw[aC1 k9,ai,aD6]
   by_cases hn3:ks.length=3
   ·have hz:(ks.length:Int)=3:=(by omega);have hw:i64.wrap ((3:Int) - 1)=2:=(by decide);have hm:ks.length - 1=2:=(by omega);have e0:=h.ex01 (by omega);have e1:=h.k0 (by omega);have e2:=h.ex02 (by omega);have e3:=h.k1 (by omega);have e4:=h.k2 (by omega);have m0:=h.ex0m (by omega);have m1:=h.km (by omega);have m2:=h.ex0n;rw[hz,hw]at m0 m1;rw[hz]at m2;simp only[hw,hz,hm,e0,e1,e2,e3,e4,m0,m1,m2,h.xop,h.xnum,h.xtext,h.pl,h.nm,h.gn,h.gf,aC0,ai,ae,dC,dG,ku,dE,dD,dF,aC9,aD4,aD2,aD0,aD5,aD3,aD7,aD8,aE6,aE8,aF9,eq_self,decide_true,decide_false,Int.reduceLT,Int.reduceLE,Int.reduceEq,Int.reduceToNat,aE4]
    try rfl
   by_cases hn4:ks.length=4
   ·have hz:(ks.length:Int)=4:=(by omega);have hw:i64.wrap ((4:Int) - 1)=3:=(by decide);have hm:ks.length - 1=3:=(by omega);have e0:=h.ex01 (by omega);have e1:=h.k0 (by omega);have e2:=h.ex02 (by omega);have e3:=h.k1 (by omega);have e4:=h.k2 (by omega);have m0:=h.ex0m (by omega);have m1:=h.km (by omega);have m2:=h.ex0n;rw[hz,hw]at m0 m1;rw[hz]at m2;simp only[hw,hz,hm,e0,e1,e2,e3,e4,m0,m1,m2,h.xop,h.xnum,h.xtext,h.pl,h.nm,h.gn,h.gf,aC0,ai,ae,dC,dG,ku,dE,dD,dF,aC9,aD4,aD2,aD0,aD5,aD3,aD7,aD8,aE6,aE8,aF9,eq_self,decide_true,decide_false,Int.reduceLT,Int.reduceLE,Int.reduceEq,Int.reduceToNat,aE4]
    try rfl
   have d3:decide ((ks.length:Int)=3)=false:=aB9 (by omega);have d4:decide ((ks.length:Int)=4)=false:=aB9 (by omega);simp only[d3,d4,h.xop,h.xnum,h.xtext,h.pl,h.nm,h.gn,h.gf,h.ex0n,aC0,ai,ae,dC,dG,ku,dE,dD,dF,aC9,aD4,aD2,aD0,aD5,aD3,aD7,aD8,aE6,aE8,aF9]
  rw[aB9 k9,ae,aD1]
  by_cases k10:kind=10
  ·rw[aC1 k10,ai,aD6]
   by_cases Gw:ks.length=2
   ·have hz:(ks.length:Int)=2:=(by omega);have hw:i64.wrap ((2:Int) - 1)=1:=(by decide);have hm:ks.length - 1=1:=(by omega);have e0:=h.ex01 (by omega);have e1:=h.k0 (by omega);have e2:=h.ex02 (by omega);have e3:=h.k1 (by omega);have m0:=h.ex0m (by omega);have m1:=h.km (by omega);have m2:=h.ex0n;rw[hz,hw]at m0 m1;rw[hz]at m2;simp only[hw,hz,hm,e0,e1,e2,e3,m0,m1,m2,h.xop,h.xnum,h.xtext,h.pl,h.nm,h.gn,h.gf,aC0,ai,ae,dC,dG,ku,dE,dD,dF,aC9,aD4,aD2,aD0,aD5,aD3,aD7,aD8,aE6,aE8,aF9,eq_self,decide_true,decide_false,Int.reduceLT,Int.reduceLE,Int.reduceEq,Int.reduceToNat,aE4]
    try rfl
   have d2:decide ((ks.length:Int)=2)=false:=aB9 (by omega);simp only[d2,h.xop,h.xnum,h.xtext,h.pl,h.nm,h.gn,h.gf,h.ex0n,aC0,ai,ae,dC,dG,ku,dE,dD,dF,aC9,aD4,aD2,aD0,aD5,aD3,aD7,aD8,aE6,aE8,aF9]
  rw[aB9 k10,ae,aD1]
  by_cases k11:kind=11
  ·rw[aC1 k11,ai,aD6,Zz]
   cases hR:Q41 t x ks names op num text kind true with
   |inl y=>rfl
   |inr y=>cases y with
    |inl y=>rfl
    |inr y=>exact y.elim
  rw[aB9 k11,ae,aD1];rw[Zz]
  cases hR:Q41 t x ks names op num text kind (decide (kind=12))with
  |inl y=>rfl
  |inr y=>cases y with
   |inl y=>rfl
   |inr y=>exact y.elim
def Q18 (t:Tr)(x:aj.den)(ks:LI)(names:List LI)(op num:Int)(text:LI)(kind:Int)(fl:Bool):AnS:=
 bif fl then Sum.inl (decide ((ks.length:Int)=2)&&(EX ks 0 2&&(PL false false false false (names.length:Int) op num text)),())else
 bif decide (kind=32)then Sum.inl (decide ((ks.length:Int)=2)&&(EX ks 0 2&&(!decide (ks.getD 0 0=27)&&(PL false false false false (names.length:Int) op num text))),())else
 bif decide (kind=30)then Sum.inl (decide ((ks.length:Int)=1)&&(EX ks 0 1&&(PL false true false false (names.length:Int) op num text&&(decide ((19:Int)<=op)&&(decide (op<=22))))),())else
 bif decide (kind=31)then Sum.inl (decide ((ks.length:Int)=2)&&(EX ks 0 2&&(PL false true false false (names.length:Int) op num text&&(decide ((1:Int)<=op)&&(decide (op<=18))))),())else
 bif decide (kind=33)then Sum.inl (decide ((ks.length:Int)=1)&&(EX ks 0 1&&(!decide (ks.getD 0 0=27)&&(PL false false false true (names.length:Int) op num text&&(fz 1 text)))),())else
 bif decide (kind=34)then Sum.inl (decide ((1:Int)<=(ks.length:Int))&&(EX ks 0 ks.length&&(!decide (ks.getD 0 0=27)&&(PL false false false false (names.length:Int) op num text))),())else
 bif decide (kind=35)then Sum.inl (ks.all pg&&(PL false false false false (names.length:Int) op num text),())else
 bif decide (kind=36)then Sum.inl (decide ((ks.length:Int)=1)&&(decide (ks.getD 0 0=1)&&(PL true true false false (names.length:Int) op num text&&(NM names 0 200&&((decide (op=0)||decide (op=1)))))),())else
 bif decide (kind=37)then Sum.inl (decide ((ks.length:Int)=1)&&((decide (ks.getD 0 0=34)||decide (ks.getD 0 0=27))&&(PL false false false false (names.length:Int) op num text)),())else
 bif decide (kind=40)then Sum.inl (decide ((ks.length:Int)=1)&&(EX ks 0 1&&(PL false false false false (names.length:Int) op num text)),())else
 bif decide (kind=41)then Sum.inl (decide ((ks.length:Int)=2)&&(EX ks 0 2&&(PL false false false false (names.length:Int) op num text)),())else
 Sum.inr (Sum.inl (t,x,(ks.length:Int),()))
theorem q18 {T:S.Tab}(h:SF T t x ks names op num text)(hl:ks.length<=200)(kind:Int)(fl:Bool):fA (S.step T) t x (ks.length:Int) kind fl=some (Q18 t x ks names op num text kind fl):=by
 rw[tg];unfold Q18
 cases fl with
 |true=>
  rw[ai,aD6]
  by_cases Gw:ks.length=2
  ·have hz:(ks.length:Int)=2:=(by omega);have hw:i64.wrap ((2:Int) - 1)=1:=(by decide);have hm:ks.length - 1=1:=(by omega);have e0:=h.ex01 (by omega);have e1:=h.k0 (by omega);have e2:=h.ex02 (by omega);have e3:=h.k1 (by omega);have m0:=h.ex0m (by omega);have m1:=h.km (by omega);have m2:=h.ex0n;rw[hz,hw]at m0 m1;rw[hz]at m2;simp only[hw,hz,hm,e0,e1,e2,e3,m0,m1,m2,h.xop,h.xnum,h.xtext,h.pl,h.nm,h.gn,h.gf,aC0,ai,ae,dC,dG,ku,dE,dD,dF,aC9,aD4,aD2,aD0,aD5,aD3,aD7,aD8,aE6,aE8,aF9,eq_self,decide_true,decide_false,Int.reduceLT,Int.reduceLE,Int.reduceEq,Int.reduceToNat,aE4]
   try rfl
  have d2:decide ((ks.length:Int)=2)=false:=aB9 (by omega);simp only[d2,h.xop,h.xnum,h.xtext,h.pl,h.nm,h.gn,h.gf,h.ex0n,aC0,ai,ae,dC,dG,ku,dE,dD,dF,aC9,aD4,aD2,aD0,aD5,aD3,aD7,aD8,aE6,aE8,aF9]
 |false=>
  rw[ae,aD1]
  by_cases k32:kind=32
  ·rw[aC1 k32,ai,aD6]
   by_cases Gw:ks.length=2
   ·have hz:(ks.length:Int)=2:=(by omega);have hw:i64.wrap ((2:Int) - 1)=1:=(by decide);have hm:ks.length - 1=1:=(by omega);have e0:=h.ex01 (by omega);have e1:=h.k0 (by omega);have e2:=h.ex02 (by omega);have e3:=h.k1 (by omega);have m0:=h.ex0m (by omega);have m1:=h.km (by omega);have m2:=h.ex0n;rw[hz,hw]at m0 m1;rw[hz]at m2;simp only[hw,hz,hm,e0,e1,e2,e3,m0,m1,m2,h.xop,h.xnum,h.xtext,h.pl,h.nm,h.gn,h.gf,aC0,ai,ae,dC,dG,ku,dE,dD,dF,aC9,aD4,aD2,aD0,aD5,aD3,aD7,aD8,aE6,aE8,aF9,eq_self,decide_true,decide_false,Int.reduceLT,Int.reduceLE,Int.reduceEq,Int.reduceToNat,aE4]
    try rfl
   have d2:decide ((ks.length:Int)=2)=false:=aB9 (by omega);simp only[d2,h.xop,h.xnum,h.xtext,h.pl,h.nm,h.gn,h.gf,h.ex0n,aC0,ai,ae,dC,dG,ku,dE,dD,dF,aC9,aD4,aD2,aD0,aD5,aD3,aD7,aD8,aE6,aE8,aF9]
  rw[aB9 k32,ae,aD1]
  by_cases k30:kind=30
  ·rw[aC1 k30,ai,aD6]
   by_cases IM:ks.length=1
   ·have hz:(ks.length:Int)=1:=(by omega);have hw:i64.wrap ((1:Int) - 1)=0:=(by decide);have hm:ks.length - 1=0:=(by omega);have e0:=h.ex01 (by omega);have e1:=h.k0 (by omega);have m0:=h.ex0m (by omega);have m1:=h.km (by omega);have m2:=h.ex0n;rw[hz,hw]at m0 m1;rw[hz]at m2;simp only[hw,hz,hm,e0,e1,m0,m1,m2,h.xop,h.xnum,h.xtext,h.pl,h.nm,h.gn,h.gf,aC0,ai,ae,dC,dG,ku,dE,dD,dF,aC9,aD4,aD2,aD0,aD5,aD3,aD7,aD8,aE6,aE8,aF9,eq_self,decide_true,decide_false,Int.reduceLT,Int.reduceLE,Int.reduceEq,Int.reduceToNat,aE4]
    try rfl
   have d1:decide ((ks.length:Int)=1)=false:=aB9 (by omega);simp only[d1,h.xop,h.xnum,h.xtext,h.pl,h.nm,h.gn,h.gf,h.ex0n,aC0,ai,ae,dC,dG,ku,dE,dD,dF,aC9,aD4,aD2,aD0,aD5,aD3,aD7,aD8,aE6,aE8,aF9]
  rw[aB9 k30,ae,aD1]
  by_cases k31:kind=31
  ·rw[aC1 k31,ai,aD6]
   by_cases Gw:ks.length=2
   ·have hz:(ks.length:Int)=2:=(by omega);have hw:i64.wrap ((2:Int) - 1)=1:=(by decide);have hm:ks.length - 1=1:=(by omega);have e0:=h.ex01 (by omega);have e1:=h.k0 (by omega);have e2:=h.ex02 (by omega);have e3:=h.k1 (by omega);have m0:=h.ex0m (by omega);have m1:=h.km (by omega);have m2:=h.ex0n;rw[hz,hw]at m0 m1;rw[hz]at m2;simp only[hw,hz,hm,e0,e1,e2,e3,m0,m1,m2,h.xop,h.xnum,h.xtext,h.pl,h.nm,h.gn,h.gf,aC0,ai,ae,dC,dG,ku,dE,dD,dF,aC9,aD4,aD2,aD0,aD5,aD3,aD7,aD8,aE6,aE8,aF9,eq_self,decide_true,decide_false,Int.reduceLT,Int.reduceLE,Int.reduceEq,Int.reduceToNat,aE4]
    try rfl
   have d2:decide ((ks.length:Int)=2)=false:=aB9 (by omega);simp only[d2,h.xop,h.xnum,h.xtext,h.pl,h.nm,h.gn,h.gf,h.ex0n,aC0,ai,ae,dC,dG,ku,dE,dD,dF,aC9,aD4,aD2,aD0,aD5,aD3,aD7,aD8,aE6,aE8,aF9]
  rw[aB9 k31,ae,aD1]
  by_cases k33:kind=33
  ·rw[aC1 k33,ai,aD6]
   by_cases IM:ks.length=1
   ·have hz:(ks.length:Int)=1:=(by omega);have hw:i64.wrap ((1:Int) - 1)=0:=(by decide);have hm:ks.length - 1=0:=(by omega);have e0:=h.ex01 (by omega);have e1:=h.k0 (by omega);have m0:=h.ex0m (by omega);have m1:=h.km (by omega);have m2:=h.ex0n;rw[hz,hw]at m0 m1;rw[hz]at m2;simp only[hw,hz,hm,e0,e1,m0,m1,m2,h.xop,h.xnum,h.xtext,h.pl,h.nm,h.gn,h.gf,aC0,ai,ae,dC,dG,ku,dE,dD,dF,aC9,aD4,aD2,aD0,aD5,aD3,aD7,aD8,aE6,aE8,aF9,eq_self,decide_true,decide_false,Int.reduceLT,Int.reduceLE,Int.reduceEq,Int.reduceToNat,aE4]
    try rfl
   have d1:decide ((ks.length:Int)=1)=false:=aB9 (by omega);simp only[d1,h.xop,h.xnum,h.xtext,h.pl,h.nm,h.gn,h.gf,h.ex0n,aC0,ai,ae,dC,dG,ku,dE,dD,dF,aC9,aD4,aD2,aD0,aD5,aD3,aD7,aD8,aE6,aE8,aF9]
  rw[aB9 k33,ae,aD1]
  by_cases WU:kind=34
  ·rw[aC1 WU,ai,aD6]
   by_cases hn:1<=ks.length
   ·have d1:decide ((1:Int)<=(ks.length:Int))=true:=aC1 (by omega);have e1:=h.k0 hn;simp only[d1,e1,h.xop,h.xnum,h.xtext,h.pl,h.nm,h.gn,h.gf,h.ex0n,aC0,ai,ae,dC,dG,ku,dE,dD,dF,aC9,aD4,aD2,aD0,aD5,aD3,aD7,aD8,aE6,aE8,aF9]
   ·have d1:decide ((1:Int)<=(ks.length:Int))=false:=aB9 (by omega);simp only[d1,h.xop,h.xnum,h.xtext,h.pl,h.nm,h.gn,h.gf,h.ex0n,aC0,ai,ae,dC,dG,ku,dE,dD,dF,aC9,aD4,aD2,aD0,aD5,aD3,aD7,aD8,aE6,aE8,aF9]
  rw[aB9 WU,ae,aD1]
  by_cases k35:kind=35
  ·rw[aC1 k35,ai,aD6];simp only[h.xlen];rw[h.l31]
   cases ks.all pg with
   |true=>simp only[aD6,aC0,bB,aE3,aF2,h.pl,aC9]
   |false=>rfl
  rw[aB9 k35,ae,aD1]
  by_cases k36:kind=36
  ·rw[aC1 k36,ai,aD6]
   by_cases IM:ks.length=1
   ·have hz:(ks.length:Int)=1:=(by omega);have hw:i64.wrap ((1:Int) - 1)=0:=(by decide);have hm:ks.length - 1=0:=(by omega);have e0:=h.ex01 (by omega);have e1:=h.k0 (by omega);have m0:=h.ex0m (by omega);have m1:=h.km (by omega);have m2:=h.ex0n;rw[hz,hw]at m0 m1;rw[hz]at m2;simp only[hw,hz,hm,e0,e1,m0,m1,m2,h.xop,h.xnum,h.xtext,h.pl,h.nm,h.gn,h.gf,aC0,ai,ae,dC,dG,ku,dE,dD,dF,aC9,aD4,aD2,aD0,aD5,aD3,aD7,aD8,aE6,aE8,aF9,eq_self,decide_true,decide_false,Int.reduceLT,Int.reduceLE,Int.reduceEq,Int.reduceToNat,aE4]
    try rfl
   have d1:decide ((ks.length:Int)=1)=false:=aB9 (by omega);simp only[d1,h.xop,h.xnum,h.xtext,h.pl,h.nm,h.gn,h.gf,h.ex0n,aC0,ai,ae,dC,dG,ku,dE,dD,dF,aC9,aD4,aD2,aD0,aD5,aD3,aD7,aD8,aE6,aE8,aF9]
  rw[aB9 k36,ae,aD1]
  by_cases k37:kind=37
  ·rw[aC1 k37,ai,aD6]
   by_cases IM:ks.length=1
   ·have hz:(ks.length:Int)=1:=(by omega);have hw:i64.wrap ((1:Int) - 1)=0:=(by decide);have hm:ks.length - 1=0:=(by omega);have e0:=h.ex01 (by omega);have e1:=h.k0 (by omega);have m0:=h.ex0m (by omega);have m1:=h.km (by omega);have m2:=h.ex0n;rw[hz,hw]at m0 m1;rw[hz]at m2;simp only[hw,hz,hm,e0,e1,m0,m1,m2,h.xop,h.xnum,h.xtext,h.pl,h.nm,h.gn,h.gf,aC0,ai,ae,dC,dG,ku,dE,dD,dF,aC9,aD4,aD2,aD0,aD5,aD3,aD7,aD8,aE6,aE8,aF9,eq_self,decide_true,decide_false,Int.reduceLT,Int.reduceLE,Int.reduceEq,Int.reduceToNat,aE4]
    try rfl
   have d1:decide ((ks.length:Int)=1)=false:=aB9 (by omega);simp only[d1,h.xop,h.xnum,h.xtext,h.pl,h.nm,h.gn,h.gf,h.ex0n,aC0,ai,ae,dC,dG,ku,dE,dD,dF,aC9,aD4,aD2,aD0,aD5,aD3,aD7,aD8,aE6,aE8,aF9]
  rw[aB9 k37,ae,aD1]
  by_cases FO:kind=40
  ·rw[aC1 FO,ai,aD6]
   by_cases IM:ks.length=1
   ·have hz:(ks.length:Int)=1:=(by omega);have hw:i64.wrap ((1:Int) - 1)=0:=(by decide);have hm:ks.length - 1=0:=(by omega);have e0:=h.ex01 (by omega);have e1:=h.k0 (by omega);have m0:=h.ex0m (by omega);have m1:=h.km (by omega);have m2:=h.ex0n;rw[hz,hw]at m0 m1;rw[hz]at m2;simp only[hw,hz,hm,e0,e1,m0,m1,m2,h.xop,h.xnum,h.xtext,h.pl,h.nm,h.gn,h.gf,aC0,ai,ae,dC,dG,ku,dE,dD,dF,aC9,aD4,aD2,aD0,aD5,aD3,aD7,aD8,aE6,aE8,aF9,eq_self,decide_true,decide_false,Int.reduceLT,Int.reduceLE,Int.reduceEq,Int.reduceToNat,aE4]
    try rfl
   have d1:decide ((ks.length:Int)=1)=false:=aB9 (by omega);simp only[d1,h.xop,h.xnum,h.xtext,h.pl,h.nm,h.gn,h.gf,h.ex0n,aC0,ai,ae,dC,dG,ku,dE,dD,dF,aC9,aD4,aD2,aD0,aD5,aD3,aD7,aD8,aE6,aE8,aF9]
  rw[aB9 FO,ae,aD1]
  by_cases k41:kind=41
  ·rw[aC1 k41,ai,aD6]
   by_cases Gw:ks.length=2
   ·have hz:(ks.length:Int)=2:=(by omega);have hw:i64.wrap ((2:Int) - 1)=1:=(by decide);have hm:ks.length - 1=1:=(by omega);have e0:=h.ex01 (by omega);have e1:=h.k0 (by omega);have e2:=h.ex02 (by omega);have e3:=h.k1 (by omega);have m0:=h.ex0m (by omega);have m1:=h.km (by omega);have m2:=h.ex0n;rw[hz,hw]at m0 m1;rw[hz]at m2;simp only[hw,hz,hm,e0,e1,e2,e3,m0,m1,m2,h.xop,h.xnum,h.xtext,h.pl,h.nm,h.gn,h.gf,aC0,ai,ae,dC,dG,ku,dE,dD,dF,aC9,aD4,aD2,aD0,aD5,aD3,aD7,aD8,aE6,aE8,aF9,eq_self,decide_true,decide_false,Int.reduceLT,Int.reduceLE,Int.reduceEq,Int.reduceToNat,aE4]
    try rfl
   have d2:decide ((ks.length:Int)=2)=false:=aB9 (by omega);simp only[d2,h.xop,h.xnum,h.xtext,h.pl,h.nm,h.gn,h.gf,h.ex0n,aC0,ai,ae,dC,dG,ku,dE,dD,dF,aC9,aD4,aD2,aD0,aD5,aD3,aD7,aD8,aE6,aE8,aF9]
  rw[aB9 k41,ae,aD1]
def Q7 (t:Tr)(x:aj.den)(ks:LI)(names:List LI)(op num:Int)(text:LI)(kind:Int)(fl:Bool):AnS:=
 bif fl then Sum.inl (decide ((ks.length:Int)=0)&&(PL false false false false (names.length:Int) op num text),())else
 bif decide (kind=23)then Sum.inl (decide ((ks.length:Int)=0)&&(PL false false true false (names.length:Int) op num text),())else
 bif decide (kind=24)then Sum.inl (decide ((ks.length:Int)=0)&&(PL false false false true (names.length:Int) op num text&&(fz 3 text)),())else
 bif decide (kind=25)then Sum.inl (decide ((ks.length:Int)=0)&&(PL false false false true (names.length:Int) op num text&&(decide ((text.length:Int)<=4000))),())else
 bif decide (kind=26)then Sum.inl (decide ((ks.length:Int)=0)&&(PL false false false true (names.length:Int) op num text&&(fz 1 text)),())else
 bif decide (kind=28)then Q18 t x ks names op num text kind true else
 Q18 t x ks names op num text kind (decide (kind=29))
theorem q7 {T:S.Tab}(h:SF T t x ks names op num text)(hl:ks.length<=200)(kind:Int)(Wc:∀fl,fA T t x (ks.length:Int) kind fl=some (Q18 t x ks names op num text kind fl))(fl:Bool):eH (S.step T) t x (ks.length:Int) kind fl=some (Q7 t x ks names op num text kind fl):=by
 rw[tQ];unfold Q7
 cases fl with
 |true=>
  rw[ai,aD6];simp only[h.xop,h.xnum,h.xtext,h.pl,h.nm,h.gn,h.gf,h.ex0n,aC0,ai,ae,dC,dG,ku,dE,dD,dF,aC9,aD4,aD2,aD0,aD5,aD3,aD7,aD8,aE6,aE8,aF9]
 |false=>
  rw[ae,aD1]
  by_cases k23:kind=23
  ·rw[aC1 k23,ai,aD6];simp only[h.xop,h.xnum,h.xtext,h.pl,h.nm,h.gn,h.gf,h.ex0n,aC0,ai,ae,dC,dG,ku,dE,dD,dF,aC9,aD4,aD2,aD0,aD5,aD3,aD7,aD8,aE6,aE8,aF9]
  rw[aB9 k23,ae,aD1]
  by_cases k24:kind=24
  ·rw[aC1 k24,ai,aD6];simp only[h.xop,h.xnum,h.xtext,h.pl,h.nm,h.gn,h.gf,h.ex0n,aC0,ai,ae,dC,dG,ku,dE,dD,dF,aC9,aD4,aD2,aD0,aD5,aD3,aD7,aD8,aE6,aE8,aF9]
  rw[aB9 k24,ae,aD1]
  by_cases k25:kind=25
  ·rw[aC1 k25,ai,aD6];simp only[h.xop,h.xnum,h.xtext,h.pl,h.nm,h.gn,h.gf,h.ex0n,aC0,ai,ae,dC,dG,ku,dE,dD,dF,aC9,aD4,aD2,aD0,aD5,aD3,aD7,aD8,aE6,aE8,aF9]
  rw[aB9 k25,ae,aD1]
  by_cases k26:kind=26
  ·rw[aC1 k26,ai,aD6];simp only[h.xop,h.xnum,h.xtext,h.pl,h.nm,h.gn,h.gf,h.ex0n,aC0,ai,ae,dC,dG,ku,dE,dD,dF,aC9,aD4,aD2,aD0,aD5,aD3,aD7,aD8,aE6,aE8,aF9]
  rw[aB9 k26,ae,aD1]
  by_cases k28:kind=28
  ·rw[aC1 k28,ai,aD6,Wc]
   cases hR:Q18 t x ks names op num text kind true with
   |inl y=>rfl
   |inr y=>cases y with
    |inl y=>rfl
    |inr y=>exact y.elim
  rw[aB9 k28,ae,aD1];rw[Wc]
  cases hR:Q18 t x ks names op num text kind (decide (kind=29))with
  |inl y=>rfl
  |inr y=>cases y with
   |inl y=>rfl
   |inr y=>exact y.elim
end Go.Abs.D
end

section
namespace Go.Abs.D
theorem Gm {R α:Type}{F:S.Tab->Nat->Option R}{P:α->Bool}{l:List α}{yes no:R}{q:S.Tab->Prop}(hq:Evt λn=>q (S.tab n))
  (hs:∀T j (h:j<l.length),q T->F (S.step T) j=bif P l[j]then F T (j+1)else some no) (he:∀T,q T->F (S.step T) l.length=some yes):
  ∀k j,j+k=l.length->Evt λn=>F (S.tab n) j=some (bif(l.drop j).all P then yes else no)
 |0,j,h=>hq.up λn hT=>by
  show F (S.step (S.tab n)) j=_;have:j=l.length:=(by omega);subst this;rw[he _ hT,List.drop_length];rfl
 |k+1,j,h=>by
  have hj:j<l.length:=(by omega)
  refine(hq.and (Gm hq hs he k (j+1) (by omega))).up λn ⟨hT,ih⟩=> ?_
  show F (S.step (S.tab n)) j=_;rw[hs _ j hj hT,List.drop_eq_getElem_cons hj,List.all_cons]
  cases hp:P l[j]with
  |true=>rw[aD6,ih,aC9]
  |false=>rfl
theorem tF {l:LI}{j:Nat}(h:j<l.length):l.getD (j:Int).toNat 0=l[j]:=by
 rw[Int.toNat_natCast,aE2,aE1 h];rfl
theorem MO {l:List LI}{j:Nat}(h:j<l.length):l.getD (j:Int).toNat []=l[j]:=by
 rw[Int.toNat_natCast,aE2,aE1 h];rfl
theorem OD:Evt λn=>∀v,sW (S.tab n) v=some (cS v,aa):=G7.up λn h v=>by
 rw[DO,h];rfl
theorem GS:Evt λn=>∀v,pT (S.tab n) v=some (jv v,aa):=G7.up λn h v=>by
 rw[D3,h];rfl
theorem XH:Evt λn=>∀a b c d nn op num text,aW (S.tab n) a b c d nn op num text=some (PL a b c d nn op num text,(),(),(),(),nn,op,num,text,()):=aG.up λn _ a b c d nn op num text=>by
 rw[Be];unfold PL
 generalize decide (nn=0)=p
 generalize decide (op=0)=q
 generalize decide (num=0)=r
 generalize decide (text=[])=s
 cases a<;>cases b<;>cases c<;>cases d<;>cases p<;>cases q<;>cases r<;>simp only[ai,ae,aD7,aD3,aC9,aD2]
theorem Ps (ks l:LI)(hl:l.length<=2097152):Evt λn=>gr (S.tab n) ks l (l.length:Int) 0=some (bif l.all jv then Sum.inr (Sum.inl (ks,()))else Sum.inl (ks,false,())):=by
 have:=Gm (F:=λT j=>gr T ks l (l.length:Int) ↑j) (P:=jv) (l:=l) (yes:=Sum.inr (Sum.inl (ks,()))) (no:=Sum.inl (ks,false,())) (q:=λT=>∀v,pT T v=some (jv v,aa)) GS
  (λT j h hT=>by
   show gr (S.step T) _ _ _ _=bif _ then gr T ks l (l.length:Int) ((j+1:Nat):Int)else _
   rw[qz,aN (by omega),ad (an h),tF h,hT,aC0,bH (by omega)]
   cases jv l[j]with
   |true=>rw[aB (by rfl)];rfl
   |false=>rw[ad (by rfl)];rfl)
  (λT hT=>by
   show gr (S.step T) _ _ _ _=_
   rw[qz,aB (by simp)]) l.length 0 (by omega)
 rw[List.drop_zero]at this;exact this
theorem Kt (ks:LI)(hl:ks.length<=200)(i j:Nat)(h1:i<=j)(h2:j<=ks.length):Evt λn=>aV (S.tab n) ↑i ↑j ks=some (EX ks i j,(),(),ks,()):=by
 have hs:(bJ ks i j).length<=2097152:=by rw[lr h2];omega
 refine(Ps ks (bJ ks i j) hs).up λn h=> ?_
 rw[AV,ad (dZ h1 h2),oy,h];unfold EX;cases(bJ ks i j).all jv<;>rfl
theorem XN (ks:LI)(hl:ks.length<=200):Evt λn=>lG (S.tab n) (ks.length:Int) ks=some (BS ks,(ks.length:Int),ks,()):=GS.up λn h=>by
 rw[Bi];unfold BS
 by_cases h0:1<=ks.length
 ·have d1:decide ((0:Int)<(ks.length:Int))=true:=aC1 (by omega);rw[aN (by omega),ad d1,h,aC0,aC1 h0];have g0:ks.getD 0 0=get ks 0:=rfl;rw[g0]
  cases jv (get ks 0)with
  |true=>rw[ad (by rfl),ad d1];rfl
  |false=>rw[aB (by rfl)];rfl
 ·rw[aM (by omega),aB9 h0];rfl
theorem UP (nn op num:Int)(text:LI)(l:LI)(hl:l.length<=2097152):Evt λn=>fN (S.tab n) nn op num text l (l.length:Int) 0=some (bif l.all cS then Sum.inr (Sum.inl (nn,op,num,text,()))else Sum.inl (false,())):=by
 have:=Gm (F:=λT j=>fN T nn op num text l (l.length:Int) ↑j) (P:=cS) (l:=l) (yes:=Sum.inr (Sum.inl (nn,op,num,text,()))) (no:=Sum.inl (false,())) (q:=λT=>∀v,sW T v=some (cS v,aa)) OD
  (λT j h hT=>by
   show fN (S.step T) _ _ _ _ _ _ _=bif _ then fN T nn op num text l (l.length:Int) ((j+1:Nat):Int)else _
   rw[rN,aN (by omega),ad (an h),tF h,hT,aC0,bH (by omega)]
   cases cS l[j]with
   |true=>rw[aB (by rfl)];rfl
   |false=>rw[ad (by rfl)];rfl)
  (λT hT=>by
   show fN (S.step T) _ _ _ _ _ _ _=_
   rw[rN,aB (by simp)]) l.length 0 (by omega)
 rw[List.drop_zero]at this;exact this
theorem UE (nn op num:Int)(text:LI)(l:LI)(hl:l.length<=2097152):Evt λn=>fK (S.tab n) nn op num text l (l.length:Int) 0=some (bif l.all pg then Sum.inr (Sum.inl (nn,op,num,text,()))else Sum.inl (false,())):=by
 have:=Gm (F:=λT j=>fK T nn op num text l (l.length:Int) ↑j) (P:=pg) (l:=l) (yes:=Sum.inr (Sum.inl (nn,op,num,text,()))) (no:=Sum.inl (false,())) (q:=λT=>∀v lo hi,jF T v lo hi=some (decide (lo<=v)&&decide (v<=hi),aT)) G7
  (λT j h hT=>by
   show fK (S.step T) _ _ _ _ _ _ _=bif _ then fK T nn op num text l (l.length:Int) ((j+1:Nat):Int)else _
   rw[rr,aN (by omega),ad (an h),tF h,hT,aC0,bH (by omega)];show brk (!pg l[j]) _ _=_
   cases pg l[j]with
   |true=>rw[aB (by rfl)];rfl
   |false=>rw[ad (by rfl)];rfl)
  (λT hT=>by
   show fK (S.step T) _ _ _ _ _ _ _=_
   rw[rr,aB (by simp)]) l.length 0 (by omega)
 rw[List.drop_zero]at this;exact this
theorem UD (ks:LI)(num nk:Int)(l:LI)(hl:l.length<=2097152):Evt λn=>cF (S.tab n) ks num nk l (l.length:Int) 0=some (bif l.all gL then Sum.inr (Sum.inl (ks,num,nk,()))else Sum.inl (false,())):=by
 have:=Gm (F:=λT j=>cF T ks num nk l (l.length:Int) ↑j) (P:=gL) (l:=l) (yes:=Sum.inr (Sum.inl (ks,num,nk,()))) (no:=Sum.inl (false,())) (q:=Base2) aG
  (λT j h hT=>by
   show cF (S.step T) _ _ _ _ _ _=bif _ then cF T ks num nk l (l.length:Int) ((j+1:Nat):Int)else _
   rw[rm,aN (by omega),ad (an h),tF h,bH (by omega)];unfold gL
   cases decide (l[j]=26)with
   |true=>rw[aB (by rfl)];rfl
   |false=>
    rw[ad (by rfl)]
    cases decide (l[j]=32)with
    |true=>rw[aB (by rfl)];rfl
    |false=>
     rw[ad (by rfl)]
     cases decide (l[j]=33)with
     |true=>rw[aB (by rfl)];rfl
     |false=>rw[ad (by rfl)];rfl)
  (λT hT=>by
   show cF (S.step T) _ _ _ _ _ _=_
   rw[rm,aB (by simp)]) l.length 0 (by omega)
 rw[List.drop_zero]at this;exact this
theorem Evt.imp {p:Prop}{q:Nat->Prop}(h:p->Evt q):Evt λn=>p->q n:=by
 by_cases hp:p
 ·exact(h hp).mono λn h _=>h
 ·exact Evt.of λn h=>absurd h hp
theorem Yc (ks:LI)(hl:ks.length<=200)(nn op num:Int)(text:LI)(hb:∀c∈text,isByte c):Evt λn=>IF (S.tab n) ks nn op num text:=by
 have hw:1<=ks.length->i64.wrap ((ks.length:Int) - 1)=((ks.length - 1:Nat):Int):=λh=>by rw[wrap64 _ (by omega) (by omega)];omega
 have a1:=XH
 have a2:Evt λn=>1<=ks.length->aV (S.tab n) 0 1 ks=some (EX ks 0 1,(),(),ks,()):=Evt.imp λh=>Kt ks hl 0 1 (by omega) h
 have a3:Evt λn=>2<=ks.length->aV (S.tab n) 0 2 ks=some (EX ks 0 2,(),(),ks,()):=Evt.imp λh=>Kt ks hl 0 2 (by omega) h
 have a4:Evt λn=>aV (S.tab n) 0 (ks.length:Int) ks=some (EX ks 0 ks.length,(),(),ks,()):=Kt ks hl 0 ks.length (by omega) (aE5 _)
 have a5:Evt λn=>1<=ks.length->aV (S.tab n) 0 (i64.wrap ((ks.length:Int) - 1)) ks=some (EX ks 0 (ks.length - 1),(),(),ks,()):=Evt.imp λh=>by
  rw[hw h];exact Kt ks hl 0 (ks.length - 1) (by omega) (by omega)
 have a6:Evt λn=>(1<=num/\num<=ks.length)->aV (S.tab n) num (ks.length:Int) ks=some (EX ks num.toNat ks.length,(),(),ks,()):=Evt.imp λh=>by
  have:=Kt ks hl num.toNat ks.length (by omega) (aE5 _);rw[Int.toNat_of_nonneg (by omega)]at this;exact this
 have a7:=XN ks hl;have a8:=Cc (s:=text) hb;have a9:=Hl (s:=text) hb;have b1:=G7;have b2:=UP nn op num text ks (by omega);have b3:=UE nn op num text ks (by omega)
 have b4:Evt λn=>(1<=num/\num<=ks.length)->cF (S.tab n) ks num (ks.length:Int) (sub ks 0 num) ((sub ks 0 num).length:Int) 0=some (bif(bJ ks 0 num.toNat).all gL then Sum.inr (Sum.inl (ks,num,(ks.length:Int),()))else Sum.inl (false,())):=Evt.imp λh=>by
  have e:sub ks 0 num=bJ ks 0 num.toNat:=rfl;rw[e];exact UD ks num ks.length _ (by rw[lr (by omega)];omega)
 refine((((a1.and a2).and (a3.and a4)).and ((a5.and a6).and (a7.and a8))).and (((a9.and b1).and (b2.and b3)).and b4)).mono λn ⟨⟨⟨⟨a1,a2⟩,a3,a4⟩,⟨a5,a6⟩,a7,a8⟩,⟨⟨a9,b1⟩,b2,b3⟩,b4⟩=> ?_
 exact⟨λa b c d=>a1 a b c d nn op num text,a2,a3,a4,a5,λh1 h2=>a6 ⟨h1,h2⟩,a7,a8,a9,b1,b2,b3,λh1 h2=>b4 ⟨h1,h2⟩⟩
end Go.Abs.D
end

section
namespace Go.Abs.D
def ak (x:aj.den):LI:=x.2.2.2.2.2.2.2.2.1
def aK (x:aj.den):List LI:=x.2.2.2.2.2.2.2.1
def jD (ns:List aj.den)(k:Int):Int:=(at_ (τ:=aj) ns k).1
def ax (ns:List aj.den)(x:aj.den):LI:=(ak x).map (jD ns)
theorem Dt {ns:List aj.den}{x:aj.den}{j:Nat}(h:j<(ak x).length):(ax ns x).getD j 0=jD ns ((ak x)[j]):=by
 unfold ax;rw[aE2,List.getElem?_map,aE1 h];rfl
theorem Jy {x:aj.den}{j:Nat}(h:j<(ak x).length):x.2.2.2.2.2.2.2.2.1.getD (j:Int).toNat 0=(ak x)[j]:=tF h
theorem HV:Evt λn=>∀v,mo (S.tab n) v=some (cS v,aa):=aG.up λn _ v=>by
 rw[DG];unfold cS
 cases decide ((1:Int)<=v)with
 |true=>rw[ad rfl];rfl
 |false=>rw[aB rfl];rfl
theorem SN:Evt λn=>∀v,wW (S.tab n) v=some (jv v,aa):=aG.up λn _ v=>by
 rw[DW];unfold jv
 cases decide ((20:Int)<=v)with
 |true=>rw[ad rfl];rfl
 |false=>rw[aB rfl];rfl
theorem Ou:Evt λn=>∀v,tp (S.tab n) v=some (gL v,aa):=aG.up λn _ v=>by
 rw[Bf];unfold gL
 cases decide (v=26)with
 |true=>rw[ad rfl];rfl
 |false=>
  rw[aB rfl]
  cases decide (v=32)with
  |true=>rw[ad rfl];rfl
  |false=>rw[aB rfl];rfl
theorem SA (x:aj.den):Evt λn=>∀a b c d,bf (S.tab n) x a b c d=some (PL d a b c ((aK x).length:Int) x.2.2.2.2.1 x.2.2.2.2.2.1 x.2.2.2.2.2.2.1,bA):=aG.up λn _ a b c d=>by
 rw[D4];unfold PL aK
 generalize decide ((x.2.2.2.2.2.2.2.1.length:Int)=0)=p
 generalize decide (x.2.2.2.2.1=0)=q
 generalize decide (x.2.2.2.2.2.1=0)=r
 generalize decide (x.2.2.2.2.2.2.1=[])=s
 cases a<;>cases b<;>cases c<;>cases d<;>cases q<;>cases r<;>cases s<;>simp only[ai,ae,aD7,aD3,aC9,aD2,aD4,aD0]
theorem Jc (l:List LI)(hl:l.length<=2097152):Evt λn=>fJ (S.tab n) l (l.length:Int) 0=some (bif l.all (fz 1)then Sum.inr (Sum.inl ())else Sum.inl (false,())):=by
 have:=Gm (F:=λT j=>fJ T l (l.length:Int) ↑j) (P:=fz 1) (l:=l) (yes:=Sum.inr (Sum.inl ())) (no:=Sum.inl (false,())) (q:=λT=>∀s∈l,ij T s=some (fz 1 s,aa)) (Az l λs=>GP (s:=s))
  (λT j h hT=>by
   show fJ (S.step T) _ _ _=bif _ then fJ T l (l.length:Int) ((j+1:Nat):Int)else _
   rw[rB,aN (by omega),ad (an h),MO h,hT _ (aG7 h),aC0,bH (by omega)]
   cases fz 1 l[j]with
   |true=>rw[aB (by rfl)];rfl
   |false=>rw[ad (by rfl)];rfl)
  (λT hT=>by
   show fJ (S.step T) _ _ _=_
   rw[rB,aB (by simp)]) l.length 0 (by omega)
 rw[List.drop_zero]at this;exact this
theorem P7 (x:aj.den)(hl:(aK x).length<=2097152):Evt λn=>∀a b,iq (S.tab n) x a b=some (NM (aK x) a b,kF):=(Jc (aK x) hl).up λn h a b=>by
 have h:fJ (S.tab n) x.2.2.2.2.2.2.2.1 (x.2.2.2.2.2.2.2.1.length:Int) 0=_:=h;rw[CU,h];unfold NM
 by_cases h1:a<=((aK x).length:Int)
 ·have d1:decide ((x.2.2.2.2.2.2.2.1.length:Int)<a)=false:=aB9 (by unfold aK at h1;omega);rw[aB d1,aC1 h1]
  by_cases h2:((aK x).length:Int)<=b
  ·have d2:decide (b<(x.2.2.2.2.2.2.2.1.length:Int))=false:=aB9 (by unfold aK at h2;omega);rw[aB d2,aC1 h2];cases(aK x).all (fz 1)<;>rfl
  ·have d2:decide (b<(x.2.2.2.2.2.2.2.1.length:Int))=true:=aC1 (by unfold aK at h2;omega);rw[ad d2,aB9 h2];rfl
 ·have d1:decide ((x.2.2.2.2.2.2.2.1.length:Int)<a)=true:=aC1 (by unfold aK at h1;omega);rw[ad d1,aB9 h1];rfl
variable{ns:List aj.den}{x:aj.den}(hk:∀k∈ak x,0<=k/\k<(ns.length:Int))(hl:(ak x).length<=200)
include hk
theorem Qq {j:Nat}(h:j<(ak x).length):(decide ((0:Int)<=(ak x)[j])&&decide ((ak x)[j]<(ns.length:Int)))=true:=by
 have:=hk _ (aG7 h);rw[aC1 this.1,aC1 this.2];rfl
theorem IA:Evt λn=>∀j:Nat,j<(ak x).length->bT (S.tab n) (ns,()) x (j:Int)=some ((ax ns x).getD j 0,j0):=aG.up λn _ j h=>by
 have hi:(decide ((0:Int)<=(j:Int))&&decide ((j:Int)<(x.2.2.2.2.2.2.2.2.1.length:Int)))=true:=an h;rw[F5,ad hi,Jy h,ad (Qq hk h),Dt h];rfl
include hl
theorem Cl (j:Nat)(hj:j<=(ak x).length):∀(k i:Nat),i+k=j->Evt λn=>nE (S.tab n) ↑j (ns,()) x (i:Int)=some (bif EX (ax ns x) i j then Sum.inr (Sum.inl ())else Sum.inl (false,()))
 |0,i,h=>aG.up λn _=>by
  have:i=j:=(by omega);subst this;rw[rP,aB (by simp)];unfold EX;rw[mz];rfl
 |k+1,i,h=>by
  have hi:i<(ak x).length:=(by omega)
  refine((Cl j hj k (i+1) (by omega)).and SN).up λn ⟨ih,he⟩=> ?_
  have ng:(decide ((0:Int)<=(i:Int))&&decide ((i:Int)<(x.2.2.2.2.2.2.2.2.1.length:Int)))=true:=an hi
  have hx:EX (ax ns x) i j=(jv (jD ns (ak x)[i])&&EX (ax ns x) (i+1) j):=by
   unfold EX bJ
   have qX:i<((ax ns x).take j).length:=by rw[aF5];unfold ax;rw[List.length_map];omega
   rw[List.drop_eq_getElem_cons qX,List.all_cons]
   congr 2
   rw[List.getElem_take];unfold ax;rw[List.getElem_map]
  rw[rP,aN (by omega),ad ng,Jy hi,ad (Qq hk hi),bH (by omega),hx];have e:(at_ (τ:=aj) (ns,()).1 (ak x)[i]).1=jD ns (ak x)[i]:=rfl;rw[e,he,aC0]
  cases jv (jD ns (ak x)[i])with
  |true=>rw[aB (by rfl),ih];rfl
  |false=>rw[ad (by rfl)];rfl
theorem xl (i j:Nat)(h1:i<=j)(h2:j<=(ak x).length):Evt λn=>aY (S.tab n) (ns,()) x ↑i (j:Int)=some (EX (ax ns x) i j,cK):=(Cl hk hl j h2 (j - i) i (by omega)).up λn h=>by
 rw[CX,h];cases EX (ax ns x) i j<;>rfl
theorem UK:Evt λn=>dr (S.tab n) (ns,()) x ((ak x).length:Int) 0=some (bif(ax ns x).all cS then Sum.inr (Sum.inl (x,()))else Sum.inl (false,())):=by
 have:=Gm (F:=λT j=>dr T (ns,()) x ((ak x).length:Int) ↑j) (P:=λk=>cS (jD ns k)) (l:=ak x) (yes:=Sum.inr (Sum.inl (x,()))) (no:=Sum.inl (false,()))
  (q:=λT=>(∀v,mo T v=some (cS v,aa))/\∀j:Nat,j<(ak x).length->bT T (ns,()) x (j:Int)=some ((ax ns x).getD j 0,j0)) (HV.and (IA hk))
  (λT j h hT=>by
   show dr (S.step T) _ _ _ _=bif _ then dr T (ns,()) x ((ak x).length:Int) ((j+1:Nat):Int)else _
   rw[oe,aN (by omega),hT.2 j h,aC0,Dt h,hT.1,aC0,bH (by omega)]
   cases cS (jD ns (ak x)[j])with
   |true=>rw[aB (by rfl)];rfl
   |false=>rw[ad (by rfl)];rfl)
  (λT hT=>by
   show dr (S.step T) _ _ _ _=_
   rw[oe,aB (by simp)]) (ak x).length 0 (by omega)
 rw[List.drop_zero]at this;unfold ax;rw[List.all_map];exact this
theorem Se:Evt λn=>cM (S.tab n) (ns,()) x ((ak x).length:Int) 0=some (bif(ax ns x).all pg then Sum.inr (Sum.inl (x,()))else Sum.inl (false,())):=by
 have:=Gm (F:=λT j=>cM T (ns,()) x ((ak x).length:Int) ↑j) (P:=λk=>pg (jD ns k)) (l:=ak x) (yes:=Sum.inr (Sum.inl (x,()))) (no:=Sum.inl (false,()))
  (q:=λT=>∀j:Nat,j<(ak x).length->bT T (ns,()) x (j:Int)=some ((ax ns x).getD j 0,j0)) (IA hk)
  (λT j h hT=>by
   show cM (S.step T) _ _ _ _=bif _ then cM T (ns,()) x ((ak x).length:Int) ((j+1:Nat):Int)else _
   rw[ni,aN (by omega),hT j h,aC0,Dt h,bH (by omega)];simp only;unfold pg
   by_cases h1:40<=jD ns (ak x)[j]
   ·rw[aM (by omega),aC1 h1]
    by_cases h2:jD ns (ak x)[j]<=42
    ·rw[aM (by omega),aC1 h2];rfl
    ·rw[aN (by omega),aB9 h2];rfl
   ·rw[aN (by omega),aB9 h1];rfl)
  (λT hT=>by
   show cM (S.step T) _ _ _ _=_
   rw[ni,aB (by simp)]) (ak x).length 0 (by omega)
 rw[List.drop_zero]at this;unfold ax;rw[List.all_map];exact this
theorem Nb (m:Nat)(hm:x.2.2.2.2.2.1=(m:Int))(KT:m<=(ak x).length)(nk:Int):∀(k i:Nat),i+k=m->Evt λn=>cV (S.tab n) (ns,()) x nk (i:Int)=some (bif(bJ (ax ns x) i m).all gL then Sum.inr (Sum.inl ((ns,()),x,nk,()))else Sum.inl (false,()))
 |0,i,h=>aG.up λn _=>by
  have:i=m:=(by omega);subst this;rw[nR,hm,aB (by simp),mz];rfl
 |k+1,i,h=>by
  have hi:i<(ak x).length:=(by omega)
  refine((Nb m hm KT nk k (i+1) (by omega)).and (Ou.and (IA hk))).up λn ⟨ih,ht,ai7⟩=> ?_
  have hx:(bJ (ax ns x) i m).all gL=(gL (jD ns (ak x)[i])&&(bJ (ax ns x) (i+1) m).all gL):=by
   unfold bJ
   have qX:i<((ax ns x).take m).length:=by rw[aF5];unfold ax;rw[List.length_map];omega
   rw[List.drop_eq_getElem_cons qX,List.all_cons]
   congr 2
   rw[List.getElem_take];unfold ax;rw[List.getElem_map]
  rw[nR,hm,aN (by omega),ai7 i hi,aC0,Dt hi,ht,aC0,bH (by omega),hx]
  cases gL (jD ns (ak x)[i])with
  |true=>rw[aB (by rfl),ih];rfl
  |false=>rw[ad (by rfl)];rfl
theorem TU (hn:(aK x).length<=2097152):Evt λn=>SF (S.tab n) (ns,()) x (ax ns x) (aK x) x.2.2.2.2.1 x.2.2.2.2.2.1 x.2.2.2.2.2.2.1:=by
 have hlen:(ax ns x).length=(ak x).length:=by unfold ax;rw[List.length_map]
 have hw:1<=(ax ns x).length->i64.wrap (((ax ns x).length:Int) - 1)=(((ax ns x).length - 1:Nat):Int):=λh=>by rw[wrap64 _ (by omega) (by omega)];omega
 have a1:=SA x;have a2:=P7 x hn
 have a3:Evt λn=>1<=(ax ns x).length->aY (S.tab n) (ns,()) x 0 1=some (EX (ax ns x) 0 1,cK):=Evt.imp λh=>xl hk hl 0 1 (by omega) (by omega)
 have a4:Evt λn=>2<=(ax ns x).length->aY (S.tab n) (ns,()) x 0 2=some (EX (ax ns x) 0 2,cK):=Evt.imp λh=>xl hk hl 0 2 (by omega) (by omega)
 have a5:Evt λn=>aY (S.tab n) (ns,()) x 0 ((ax ns x).length:Int)=some (EX (ax ns x) 0 (ax ns x).length,cK):=xl hk hl 0 (ax ns x).length (by omega) (by omega)
 have a6:Evt λn=>1<=(ax ns x).length->aY (S.tab n) (ns,()) x 0 (i64.wrap (((ax ns x).length:Int) - 1))=some (EX (ax ns x) 0 ((ax ns x).length - 1),cK):=Evt.imp λh=>by
  rw[hw h];exact xl hk hl 0 ((ax ns x).length - 1) (by omega) (by omega)
 have a7:Evt λn=>(1<=x.2.2.2.2.2.1/\x.2.2.2.2.2.1<=((ax ns x).length:Int))->aY (S.tab n) (ns,()) x x.2.2.2.2.2.1 ((ax ns x).length:Int)=some (EX (ax ns x) (Int.toNat x.2.2.2.2.2.1) (ax ns x).length,cK):=by
  have aux:∀z:Int,Evt λn=>(1<=z/\z<=((ax ns x).length:Int))->aY (S.tab n) (ns,()) x z ((ax ns x).length:Int)=some (EX (ax ns x) z.toNat (ax ns x).length,cK):=λz=>Evt.imp λ⟨h1,h2⟩=>by
   obtain⟨m,rfl⟩:∃m:Nat,z=m:=⟨z.toNat,by omega⟩;exact xl hk hl m (ax ns x).length (by omega) (by omega)
  exact aux x.2.2.2.2.2.1
 have a8:=IA hk;have a9:=GP (s:=x.2.2.2.2.2.2.1);have b1:=Qa (s:=x.2.2.2.2.2.2.1);have b2:=UK hk hl;have b3:=Se hk hl
 have b4:Evt λn=>(1<=x.2.2.2.2.2.1/\x.2.2.2.2.2.1<=((ax ns x).length:Int))->cV (S.tab n) (ns,()) x ((ax ns x).length:Int) 0=some (bif(bJ (ax ns x) 0 (Int.toNat x.2.2.2.2.2.1)).all gL then Sum.inr (Sum.inl ((ns,()),x,((ax ns x).length:Int),()))else Sum.inl (false,())):=by
  have aux:∀z:Int,x.2.2.2.2.2.1=z->Evt λn=>(1<=z/\z<=((ax ns x).length:Int))->cV (S.tab n) (ns,()) x ((ax ns x).length:Int) 0=some (bif(bJ (ax ns x) 0 z.toNat).all gL then Sum.inr (Sum.inl ((ns,()),x,((ax ns x).length:Int),()))else Sum.inl (false,())):=λz hz=>Evt.imp λ⟨h1,h2⟩=>by
   obtain⟨m,rfl⟩:∃m:Nat,z=m:=⟨z.toNat,by omega⟩;exact Nb hk hl m hz (by omega) _ m 0 (by omega)
  exact aux x.2.2.2.2.2.1 rfl
 refine((((a1.and a2).and (a3.and a4)).and ((a5.and a6).and (a7.and a8))).and (((a9.and b1).and (b2.and b3)).and b4)).mono λn ⟨⟨⟨⟨a1,a2⟩,a3,a4⟩,⟨a5,a6⟩,a7,a8⟩,⟨⟨a9,b1⟩,b2,b3⟩,b4⟩=> ?_
 rw[<-hlen]at b2 b3;exact⟨rfl,rfl,rfl,hlen.symm,a1,a2,a3,a4,a5,a6,λh1 h2=>a7 ⟨h1,h2⟩,λh=>a8 0 (by omega),λh=>a8 1 (by omega),λh=>a8 2 (by omega),λh=>by rw[hw h];exact a8 _ (by omega),a9,b1,b2,b3,λh1 h2=>b4 ⟨h1,h2⟩⟩
end Go.Abs.D
end

section
namespace Go.Abs.D
def KI (ks:LI)(names:List LI)(op num:Int)(text:LI)(kind:Int):Bool:=
 bif decide (kind=1)then ks.all cS&&PL false false false false (names.length:Int) op num text else
 bif decide (kind=2)then PL true false false false (names.length:Int) op num text&&(decide ((1:Int)<=(names.length:Int))&&EX ks 0 ks.length)else
 bif decide (kind=3)then PL true false false false (names.length:Int) op num text&&(decide ((names.length:Int)=1)&&(decide ((ks.length:Int)=1)&&EX ks 0 1))else
 bif decide (kind=4)then PL true false false false (names.length:Int) op num text&&(decide ((names.length:Int)=1)&&(decide ((ks.length:Int)=1)&&decide (ks.getD 0 0=36)))else
 bif decide (kind=5)then PL false false true false (names.length:Int) op num text&&(decide (1<=num)&&(decide (num<(ks.length:Int))&&((bJ ks 0 num.toNat).all gL&&EX ks num.toNat ks.length)))else
 bif decide (kind=6)then(R50 ks (names.length:Int) op num text kind true).val else(R50 ks (names.length:Int) op num text kind (decide (kind=16))).val
def An2 (y:AnS)(b:Bool):Bool:=y.elim (λy=>y.1) λ_=>b
def KS (t:Tr)(x:aj.den)(ks:LI)(names:List LI)(op num:Int)(text:LI)(kind:Int):Bool:=
 bif decide (kind=1)then ks.all cS&&PL false false false false (names.length:Int) op num text else
 bif decide (kind=2)then PL true false false false (names.length:Int) op num text&&(NM names 1 200&&EX ks 0 ks.length)else
 bif decide (kind=3)then PL true false false false (names.length:Int) op num text&&(NM names 1 1&&(decide ((ks.length:Int)=1)&&EX ks 0 1))else
 bif decide (kind=4)then PL true false false false (names.length:Int) op num text&&(NM names 1 1&&(decide ((ks.length:Int)=1)&&decide (ks.getD 0 0=36)))else
 bif decide (kind=5)then PL false false true false (names.length:Int) op num text&&(decide (1<=num)&&(decide (num<(ks.length:Int))&&((bJ ks 0 num.toNat).all gL&&EX ks num.toNat ks.length)))else
 An2 (bif decide (kind=6)then Q28 t x ks names op num text kind true else Q28 t x ks names op num text kind (decide (kind=16))) (bif decide (kind=15)then PL false false false false (names.length:Int) op num text&&(decide ((ks.length:Int)=1)&&EX ks 0 1)else false)
def KE (t:Tr)(x:aj.den)(ks:LI)(names:List LI)(op num:Int)(text:LI)(kind:Int):Bool:=
 An2 (bif decide (kind=20)then Q7 t x ks names op num text kind true else bif decide (kind=21)then Q7 t x ks names op num text kind true else bif decide (kind=22)then Q7 t x ks names op num text kind true else Q7 t x ks names op num text kind (decide (kind=27)))
  (bif decide (kind=42)then decide ((ks.length:Int)=1)&&(EX ks 0 1&&(PL false false false true (names.length:Int) op num text&&fz 1 text))else false)
theorem Of {ks:LI}{nn op num:Int}{text:LI}{kind:Int}(h:kind<1\/42<kind\/(16<kind/\kind<20)\/(37<kind/\kind<40)):(R50 ks nn op num text kind (decide (kind=16))).val=false:=by
 have ne:∀c:Int,(1<=c/\c<=16)\/(20<=c/\c<=37)\/(40<=c/\c<=42)->decide (kind=c)=false:=λc hc=>aB9 (by omega)
 unfold R50;rw[ne 16 (by omega),ne 7 (by omega),ne 8 (by omega),ne 9 (by omega),ne 10 (by omega),ne 11 (by omega),ne 12 (by omega),ne 20 (by omega),ne 21 (by omega),ne 22 (by omega),ne 27 (by omega)];simp only[aD1];unfold R65;rw[ne 13 (by omega),ne 14 (by omega),ne 15 (by omega),ne 40 (by omega)];simp only[aD1];unfold R72;rw[ne 23 (by omega),ne 24 (by omega),ne 25 (by omega),ne 26 (by omega),ne 28 (by omega),ne 29 (by omega),ne 41 (by omega)];simp only[aD1];unfold R84;rw[ne 30 (by omega),ne 31 (by omega),ne 32 (by omega),ne 33 (by omega),ne 34 (by omega),ne 35 (by omega),ne 36 (by omega),ne 37 (by omega),ne 42 (by omega)];rfl
theorem Lh {t:Tr}{x:aj.den}{ks:LI}{names:List LI}{op num:Int}{text:LI}{kind:Int}(h:kind<1\/42<kind\/(16<kind/\kind<20)\/(37<kind/\kind<40)):KE t x ks names op num text kind=false:=by
 have ne:∀c:Int,(1<=c/\c<=16)\/(20<=c/\c<=37)\/(40<=c/\c<=42)->decide (kind=c)=false:=λc hc=>aB9 (by omega)
 unfold KE;rw[ne 20 (by omega),ne 21 (by omega),ne 22 (by omega),ne 27 (by omega),ne 42 (by omega)];simp only[aD1];unfold Q7;rw[ne 23 (by omega),ne 24 (by omega),ne 25 (by omega),ne 26 (by omega),ne 28 (by omega),ne 29 (by omega)];simp only[aD1];unfold Q18;rw[ne 30 (by omega),ne 31 (by omega),ne 32 (by omega),ne 33 (by omega),ne 34 (by omega),ne 35 (by omega),ne 36 (by omega),ne 37 (by omega),ne 40 (by omega),ne 41 (by omega)];rfl
theorem SW {α:Type}{l:List α}(h:l.length=1):∃a,l=[a]:=by
 match l,h with
 |[a],_=>exact⟨a,rfl⟩
theorem SY {α:Type}{l:List α}(h:l.length=2):∃a b,l=[a,b]:=by
 match l,h with
 |[a,b],_=>exact⟨a,b,rfl⟩
theorem UX (a:Int):EX [a] 0 1=jv a:=by simp[EX,bJ]
theorem U9 (a b:Int):EX [a,b] 0 2=(jv a&&jv b):=by simp[EX,bJ]
theorem U2 (a:Int)(r:LI):EX (a::r) 0 (a::r).length=(jv a&&r.all jv):=by
 unfold EX bJ;rw[List.take_length,List.drop_zero,List.all_cons]
theorem bs1 (ks:LI):(decide ((ks.length:Int)=1)&&BS ks)=(decide ((ks.length:Int)=1)&&(EX ks 0 1&& !decide (ks.getD 0 0=27))):=by
 by_cases h:ks.length=1
 ·obtain⟨a,rfl⟩:=SW h;rw[UX];rfl
 ·rw[aB9 (show¬ (ks.length:Int)=1 by omega)];rfl
theorem bs2 (ks:LI):(decide ((ks.length:Int)=2)&&(BS ks&&EX ks 0 2))=(decide ((ks.length:Int)=2)&&(EX ks 0 2&& !decide (ks.getD 0 0=27))):=by
 by_cases h:ks.length=2
 ·obtain⟨a,b,rfl⟩:=SY h;rw[U9];show(true&&(true&&(jv a&& !decide (a=27))&&(jv a&&jv b)))=(true&&(jv a&&jv b&& !decide (a=27)));cases jv a<;>cases jv b<;>cases decide (a=27)<;>rfl
 ·rw[aB9 (show¬ (ks.length:Int)=2 by omega)];rfl
theorem bsn (ks:LI):(BS ks&&EX ks 0 ks.length)=(decide ((1:Int)<=(ks.length:Int))&&(EX ks 0 ks.length&& !decide (ks.getD 0 0=27))):=by
 cases ks with
 |nil=>rfl
 |cons a r=>
  rw[U2,aC1 (show(1:Int)<=((a::r).length:Int)by simp;omega)];show(true&&(jv a&& !decide (a=27))&&(jv a&&r.all jv))=(true&&(jv a&&r.all jv&& !decide (a=27)));cases jv a<;>cases r.all jv<;>cases decide (a=27)<;>rfl
theorem n23 (n:Int)(h0:0<=n)(Z:Bool):(!decide (n<2)&&(!decide ((3:Int)<n)&&Z))=((decide (n=2)||decide (n=3))&&Z):=by
 by_cases h2:n=2
 ·subst h2;rfl
 by_cases h3:n=3
 ·subst h3;rfl
 rw[aB9 h2,aB9 h3]
 by_cases h:n<2
 ·rw[aC1 h];rfl
 ·rw[aC1 (show(3:Int)<n by omega)];simp
theorem un (names:List LI)(b c d:Bool)(op num:Int)(text:LI)(Z:Bool):
  (decide ((names.length:Int)<=200)&&(names.all (fz 1)&&(PL false b c d (names.length:Int) op num text&&Z)))=(PL false b c d (names.length:Int) op num text&&Z):=by
 cases names with
 |nil=>rfl
 |cons m r=>
  have:PL false b c d ((m::r).length:Int) op num text=false:=by
   unfold PL;rw[aB9 (show¬ ((m::r).length:Int)=0 by simp;omega)];rfl
  rw[this];simp
theorem un2 (names:List LI)(b c d:Bool)(op num:Int)(text:LI)(Z:Bool):
  (decide ((names.length:Int)<=200)&&(names.all (fz 1)&&(Z&&PL false b c d (names.length:Int) op num text)))=(Z&&PL false b c d (names.length:Int) op num text):=by
 rw[Bool.and_comm Z,un]
theorem nm1 (names:List LI)(p Z:Bool):(decide ((names.length:Int)<=200)&&(names.all (fz 1)&&(p&&(decide ((names.length:Int)=1)&&Z))))=(p&&(NM names 1 1&&Z)):=by
 unfold NM
 by_cases h:(names.length:Int)=1
 ·rw[h];show(true&&(names.all (fz 1)&&(p&&(true&&Z))))=(p&&((true&&(true&&names.all (fz 1)))&&Z));cases names.all (fz 1)<;>cases p<;>rfl
 ·rw[aB9 h]
  have:(decide ((1:Int)<=(names.length:Int))&&(decide ((names.length:Int)<=1)&&names.all (fz 1)))=false:=by
   by_cases h1:(1:Int)<=(names.length:Int)
   ·rw[aB9 (show¬ (names.length:Int)<=1 by omega)];simp
   ·rw[aB9 h1];rfl
  rw[this];simp
theorem nm2 (names:List LI)(p Z:Bool):(decide ((names.length:Int)<=200)&&(names.all (fz 1)&&(p&&((decide ((names.length:Int)=1)||decide ((names.length:Int)=2))&&Z))))=(p&&(NM names 1 2&&Z)):=by
 unfold NM
 by_cases h:(names.length:Int)=1
 ·rw[h];show(true&&(names.all (fz 1)&&(p&&(true&&Z))))=(p&&((true&&(true&&names.all (fz 1)))&&Z));cases names.all (fz 1)<;>cases p<;>rfl
 by_cases h':(names.length:Int)=2
 ·rw[h'];show(true&&(names.all (fz 1)&&(p&&(true&&Z))))=(p&&((true&&(true&&names.all (fz 1)))&&Z));cases names.all (fz 1)<;>cases p<;>rfl
 ·rw[aB9 h,aB9 h']
  have:(decide ((1:Int)<=(names.length:Int))&&(decide ((names.length:Int)<=2)&&names.all (fz 1)))=false:=by
   by_cases h1:(1:Int)<=(names.length:Int)
   ·rw[aB9 (show¬ (names.length:Int)<=2 by omega)];simp
   ·rw[aB9 h1];rfl
  rw[this];simp
theorem nmn (names:List LI)(p Z:Bool):(decide ((names.length:Int)<=200)&&(names.all (fz 1)&&(p&&(decide ((1:Int)<=(names.length:Int))&&Z))))=(p&&(NM names 1 200&&Z)):=by
 unfold NM
 generalize decide ((names.length:Int)<=200)=a
 generalize names.all (fz 1)=b
 generalize decide ((1:Int)<=(names.length:Int))=c
 cases a<;>cases b<;>cases c<;>cases p<;>rfl
theorem nm0 (names:List LI):NM names 0 200=(decide ((names.length:Int)<=200)&&names.all (fz 1)):=by
 unfold NM;rw[aC1 (show(0:Int)<=(names.length:Int)by omega)];rfl
theorem ZZ (op:Int):(decide ((0:Int)<=op)&&decide (op<=1))=(decide (op=0)||decide (op=1)):=by
 by_cases h0:op=0
 ·subst h0;rfl
 by_cases h1:op=1
 ·subst h1;rfl
 rw[aB9 h0,aB9 h1]
 by_cases h:(0:Int)<=op
 ·rw[aB9 (show¬ op<=1 by omega)];simp
 ·rw[aB9 h];rfl
theorem alike (t:Tr)(x:aj.den)(ks:LI)(names:List LI)(op num:Int)(text:LI)(kind:Int):
  (decide ((names.length:Int)<=200)&&(names.all (fz 1)&&KI ks names op num text kind))=bif cS kind then KS t x ks names op num text kind else KE t x ks names op num text kind:=by
 by_cases ho:kind<1\/42<kind\/(16<kind/\kind<20)\/(37<kind/\kind<40)
 ·have hs:cS kind=false:=by
   unfold cS;rw[aG9,aC8,aC8];omega
  have ne:∀c:Int,(1<=c/\c<=16)->decide (kind=c)=false:=λc hc=>aB9 (by omega)
  rw[hs,aD1,Lh ho];unfold KI;rw[ne 1 (by omega),ne 2 (by omega),ne 3 (by omega),ne 4 (by omega),ne 5 (by omega),ne 6 (by omega)];simp only[aD1];rw[Of ho,aD0,aD0]
 have hk:kind=1\/kind=2\/kind=3\/kind=4\/kind=5\/kind=6\/kind=7\/kind=8\/kind=9\/kind=10\/kind=11\/kind=12\/kind=13\/kind=14\/kind=15\/kind=16\/kind=20\/kind=21\/kind=22\/kind=23\/kind=24\/kind=25\/kind=26\/kind=27\/kind=28\/kind=29\/kind=30\/kind=31\/kind=32\/kind=33\/kind=34\/kind=35\/kind=36\/kind=37\/kind=40\/kind=41\/kind=42:=(by omega);clear ho
 rcases hk with rfl|rfl|rfl|rfl|rfl|rfl|rfl|rfl|rfl|rfl|rfl|rfl|rfl|rfl|rfl|rfl|rfl|rfl|rfl|rfl|rfl|rfl|rfl|rfl|rfl|rfl|rfl|rfl|rfl|rfl|rfl|rfl|rfl|rfl|rfl|rfl|rfl
 ·simp only[KI,KS,KE,cS,R50,R65,R72,R84,Q28,Q41,Q7,Q18,An.val,An2,Int.reduceEq,Int.reduceLE,decide_true,decide_false,aD6,aD1,aE3,aF2,aE4,aD4,aC9,aD0,aD2,aD7,aD8,aD5,aD3];rw[un2]
 ·simp only[KI,KS,KE,cS,R50,R65,R72,R84,Q28,Q41,Q7,Q18,An.val,An2,Int.reduceEq,Int.reduceLE,decide_true,decide_false,aD6,aD1,aE3,aF2,aE4,aD4,aC9,aD0,aD2,aD7,aD8,aD5,aD3];rw[nmn]
 ·simp only[KI,KS,KE,cS,R50,R65,R72,R84,Q28,Q41,Q7,Q18,An.val,An2,Int.reduceEq,Int.reduceLE,decide_true,decide_false,aD6,aD1,aE3,aF2,aE4,aD4,aC9,aD0,aD2,aD7,aD8,aD5,aD3];rw[nm1]
 ·simp only[KI,KS,KE,cS,R50,R65,R72,R84,Q28,Q41,Q7,Q18,An.val,An2,Int.reduceEq,Int.reduceLE,decide_true,decide_false,aD6,aD1,aE3,aF2,aE4,aD4,aC9,aD0,aD2,aD7,aD8,aD5,aD3];rw[nm1]
 ·simp only[KI,KS,KE,cS,R50,R65,R72,R84,Q28,Q41,Q7,Q18,An.val,An2,Int.reduceEq,Int.reduceLE,decide_true,decide_false,aD6,aD1,aE3,aF2,aE4,aD4,aC9,aD0,aD2,aD7,aD8,aD5,aD3];rw[un]
 ·simp only[KI,KS,KE,cS,R50,R65,R72,R84,Q28,Q41,Q7,Q18,An.val,An2,Int.reduceEq,Int.reduceLE,decide_true,decide_false,aD6,aD1,aE3,aF2,aE4,aD4,aC9,aD0,aD2,aD7,aD8,aD5,aD3];rw[un]
 ·simp only[KI,KS,KE,cS,R50,R65,R72,R84,Q28,Q41,Q7,Q18,An.val,An2,Int.reduceEq,Int.reduceLE,decide_true,decide_false,aD6,aD1,aE3,aF2,aE4,aD4,aC9,aD0,aD2,aD7,aD8,aD5,aD3];rw[un];rw[n23 _ (by omega)]
 ·simp only[KI,KS,KE,cS,R50,R65,R72,R84,Q28,Q41,Q7,Q18,An.val,An2,Int.reduceEq,Int.reduceLE,decide_true,decide_false,aD6,aD1,aE3,aF2,aE4,aD4,aC9,aD0,aD2,aD7,aD8,aD5,aD3];rw[un]
 ·simp only[KI,KS,KE,cS,R50,R65,R72,R84,Q28,Q41,Q7,Q18,An.val,An2,Int.reduceEq,Int.reduceLE,decide_true,decide_false,aD6,aD1,aE3,aF2,aE4,aD4,aC9,aD0,aD2,aD7,aD8,aD5,aD3];rw[nm1]
 ·simp only[KI,KS,KE,cS,R50,R65,R72,R84,Q28,Q41,Q7,Q18,An.val,An2,Int.reduceEq,Int.reduceLE,decide_true,decide_false,aD6,aD1,aE3,aF2,aE4,aD4,aC9,aD0,aD2,aD7,aD8,aD5,aD3];rw[nmn]
 ·simp only[KI,KS,KE,cS,R50,R65,R72,R84,Q28,Q41,Q7,Q18,An.val,An2,Int.reduceEq,Int.reduceLE,decide_true,decide_false,aD6,aD1,aE3,aF2,aE4,aD4,aC9,aD0,aD2,aD7,aD8,aD5,aD3];rw[un]
 ·simp only[KI,KS,KE,cS,R50,R65,R72,R84,Q28,Q41,Q7,Q18,An.val,An2,Int.reduceEq,Int.reduceLE,decide_true,decide_false,aD6,aD1,aE3,aF2,aE4,aD4,aC9,aD0,aD2,aD7,aD8,aD5,aD3];rw[un]
 ·simp only[KI,KS,KE,cS,R50,R65,R72,R84,Q28,Q41,Q7,Q18,An.val,An2,Int.reduceEq,Int.reduceLE,decide_true,decide_false,aD6,aD1,aE3,aF2,aE4,aD4,aC9,aD0,aD2,aD7,aD8,aD5,aD3];rw[un]
 ·simp only[KI,KS,KE,cS,R50,R65,R72,R84,Q28,Q41,Q7,Q18,An.val,An2,Int.reduceEq,Int.reduceLE,decide_true,decide_false,aD6,aD1,aE3,aF2,aE4,aD4,aC9,aD0,aD2,aD7,aD8,aD5,aD3];rw[nm2]
 ·simp only[KI,KS,KE,cS,R50,R65,R72,R84,Q28,Q41,Q7,Q18,An.val,An2,Int.reduceEq,Int.reduceLE,decide_true,decide_false,aD6,aD1,aE3,aF2,aE4,aD4,aC9,aD0,aD2,aD7,aD8,aD5,aD3];rw[un]
 ·simp only[KI,KS,KE,cS,R50,R65,R72,R84,Q28,Q41,Q7,Q18,An.val,An2,Int.reduceEq,Int.reduceLE,decide_true,decide_false,aD6,aD1,aE3,aF2,aE4,aD4,aC9,aD0,aD2,aD7,aD8,aD5,aD3];rw[un]
 ·simp only[KI,KS,KE,cS,R50,R65,R72,R84,Q28,Q41,Q7,Q18,An.val,An2,Int.reduceEq,Int.reduceLE,decide_true,decide_false,aD6,aD1,aE3,aF2,aE4,aD4,aC9,aD0,aD2,aD7,aD8,aD5,aD3];rw[un]
  ac_rfl
 ·simp only[KI,KS,KE,cS,R50,R65,R72,R84,Q28,Q41,Q7,Q18,An.val,An2,Int.reduceEq,Int.reduceLE,decide_true,decide_false,aD6,aD1,aE3,aF2,aE4,aD4,aC9,aD0,aD2,aD7,aD8,aD5,aD3];rw[un]
  ac_rfl
 ·simp only[KI,KS,KE,cS,R50,R65,R72,R84,Q28,Q41,Q7,Q18,An.val,An2,Int.reduceEq,Int.reduceLE,decide_true,decide_false,aD6,aD1,aE3,aF2,aE4,aD4,aC9,aD0,aD2,aD7,aD8,aD5,aD3];rw[un]
  ac_rfl
 ·simp only[KI,KS,KE,cS,R50,R65,R72,R84,Q28,Q41,Q7,Q18,An.val,An2,Int.reduceEq,Int.reduceLE,decide_true,decide_false,aD6,aD1,aE3,aF2,aE4,aD4,aC9,aD0,aD2,aD7,aD8,aD5,aD3];rw[un]
  ac_rfl
 ·simp only[KI,KS,KE,cS,R50,R65,R72,R84,Q28,Q41,Q7,Q18,An.val,An2,Int.reduceEq,Int.reduceLE,decide_true,decide_false,aD6,aD1,aE3,aF2,aE4,aD4,aC9,aD0,aD2,aD7,aD8,aD5,aD3];rw[un]
  ac_rfl
 ·simp only[KI,KS,KE,cS,R50,R65,R72,R84,Q28,Q41,Q7,Q18,An.val,An2,Int.reduceEq,Int.reduceLE,decide_true,decide_false,aD6,aD1,aE3,aF2,aE4,aD4,aC9,aD0,aD2,aD7,aD8,aD5,aD3];rw[un]
  ac_rfl
 ·simp only[KI,KS,KE,cS,R50,R65,R72,R84,Q28,Q41,Q7,Q18,An.val,An2,Int.reduceEq,Int.reduceLE,decide_true,decide_false,aD6,aD1,aE3,aF2,aE4,aD4,aC9,aD0,aD2,aD7,aD8,aD5,aD3];rw[un]
  ac_rfl
 ·simp only[KI,KS,KE,cS,R50,R65,R72,R84,Q28,Q41,Q7,Q18,An.val,An2,Int.reduceEq,Int.reduceLE,decide_true,decide_false,aD6,aD1,aE3,aF2,aE4,aD4,aC9,aD0,aD2,aD7,aD8,aD5,aD3];rw[un]
  ac_rfl
 ·simp only[KI,KS,KE,cS,R50,R65,R72,R84,Q28,Q41,Q7,Q18,An.val,An2,Int.reduceEq,Int.reduceLE,decide_true,decide_false,aD6,aD1,aE3,aF2,aE4,aD4,aC9,aD0,aD2,aD7,aD8,aD5,aD3];rw[un]
  ac_rfl
 ·simp only[KI,KS,KE,cS,R50,R65,R72,R84,Q28,Q41,Q7,Q18,An.val,An2,Int.reduceEq,Int.reduceLE,decide_true,decide_false,aD6,aD1,aE3,aF2,aE4,aD4,aC9,aD0,aD2,aD7,aD8,aD5,aD3];rw[un]
  ac_rfl
 ·simp only[KI,KS,KE,cS,R50,R65,R72,R84,Q28,Q41,Q7,Q18,An.val,An2,Int.reduceEq,Int.reduceLE,decide_true,decide_false,aD6,aD1,aE3,aF2,aE4,aD4,aC9,aD0,aD2,aD7,aD8,aD5,aD3];rw[un]
  ac_rfl
 ·simp only[KI,KS,KE,cS,R50,R65,R72,R84,Q28,Q41,Q7,Q18,An.val,An2,Int.reduceEq,Int.reduceLE,decide_true,decide_false,aD6,aD1,aE3,aF2,aE4,aD4,aC9,aD0,aD2,aD7,aD8,aD5,aD3];rw[un]
  ac_rfl
 ·simp only[KI,KS,KE,cS,R50,R65,R72,R84,Q28,Q41,Q7,Q18,An.val,An2,Int.reduceEq,Int.reduceLE,decide_true,decide_false,aD6,aD1,aE3,aF2,aE4,aD4,aC9,aD0,aD2,aD7,aD8,aD5,aD3];rw[un];rw[bs2]
  ac_rfl
 ·simp only[KI,KS,KE,cS,R50,R65,R72,R84,Q28,Q41,Q7,Q18,An.val,An2,Int.reduceEq,Int.reduceLE,decide_true,decide_false,aD6,aD1,aE3,aF2,aE4,aD4,aC9,aD0,aD2,aD7,aD8,aD5,aD3];rw[un];rw[<-Bool.and_assoc (decide _) (BS ks),bs1]
  ac_rfl
 ·simp only[KI,KS,KE,cS,R50,R65,R72,R84,Q28,Q41,Q7,Q18,An.val,An2,Int.reduceEq,Int.reduceLE,decide_true,decide_false,aD6,aD1,aE3,aF2,aE4,aD4,aC9,aD0,aD2,aD7,aD8,aD5,aD3];rw[un];rw[bsn]
  ac_rfl
 ·simp only[KI,KS,KE,cS,R50,R65,R72,R84,Q28,Q41,Q7,Q18,An.val,An2,Int.reduceEq,Int.reduceLE,decide_true,decide_false,aD6,aD1,aE3,aF2,aE4,aD4,aC9,aD0,aD2,aD7,aD8,aD5,aD3];rw[un2]
 ·simp only[KI,KS,KE,cS,R50,R65,R72,R84,Q28,Q41,Q7,Q18,An.val,An2,Int.reduceEq,Int.reduceLE,decide_true,decide_false,aD6,aD1,aE3,aF2,aE4,aD4,aC9,aD0,aD2,aD7,aD8,aD5,aD3];rw[nm0,ZZ]
  ac_rfl
 ·simp only[KI,KS,KE,cS,R50,R65,R72,R84,Q28,Q41,Q7,Q18,An.val,An2,Int.reduceEq,Int.reduceLE,decide_true,decide_false,aD6,aD1,aE3,aF2,aE4,aD4,aC9,aD0,aD2,aD7,aD8,aD5,aD3];rw[un]
  ac_rfl
 ·simp only[KI,KS,KE,cS,R50,R65,R72,R84,Q28,Q41,Q7,Q18,An.val,An2,Int.reduceEq,Int.reduceLE,decide_true,decide_false,aD6,aD1,aE3,aF2,aE4,aD4,aC9,aD0,aD2,aD7,aD8,aD5,aD3];rw[un]
  ac_rfl
 ·simp only[KI,KS,KE,cS,R50,R65,R72,R84,Q28,Q41,Q7,Q18,An.val,An2,Int.reduceEq,Int.reduceLE,decide_true,decide_false,aD6,aD1,aE3,aF2,aE4,aD4,aC9,aD0,aD2,aD7,aD8,aD5,aD3];rw[un]
  ac_rfl
 ·simp only[KI,KS,KE,cS,R50,R65,R72,R84,Q28,Q41,Q7,Q18,An.val,An2,Int.reduceEq,Int.reduceLE,decide_true,decide_false,aD6,aD1,aE3,aF2,aE4,aD4,aC9,aD0,aD2,aD7,aD8,aD5,aD3];rw[un]
  ac_rfl
end Go.Abs.D
end

section
namespace Go.Abs.D
theorem s7 (l:List aj.den)(j:Nat)(h:j<l.length):at_ (τ:=aj) l (j:Int)=l[j]:=by
 show(l.getD (j:Int).toNat _)=_;rw[Int.toNat_natCast,aE2,aE1 h];rfl
def inR (i:Nat)(k:Int):Bool:=decide (0<=k)&&decide (k<(i:Int))
def okN (ns:List aj.den)(i:Nat)(x:aj.den):Bool:=
 bif decide (x.2.1<0)then false else
 bif decide (x.2.2.1<x.2.1)then false else
 bif decide (x.2.2.2.1<0)then false else
 bif decide (200<(ak x).length)then false else
 bif(ak x).all (inR i)then(bif cS x.1 then KS (ns,()) x (ax ns x) (aK x) x.2.2.2.2.1 x.2.2.2.2.2.1 x.2.2.2.2.2.2.1 x.1 else KE (ns,()) x (ax ns x) (aK x) x.2.2.2.2.1 x.2.2.2.2.2.1 x.2.2.2.2.2.2.1 x.1)else false
structure NodeOk (x:aj.den):Prop where
 text:∀c∈x.2.2.2.2.2.2.1,isByte c
 names:∀m∈aK x,∀c∈m,isByte c
 nn:(aK x).length<=2097152
 nk:(ak x).length<=2097152
theorem X7 {T:S.Tab}(ks:LI)(z:Int)(hl:ks.length<=200)(WS:1<=z->z<=ks.length->aV T z (ks.length:Int) ks=some (EX ks z.toNat ks.length,(),(),ks,()))
  (aj6:1<=z->z<=ks.length->cF T ks z (ks.length:Int) (sub ks 0 z) ((sub ks 0 z).length:Int) 0=some (bif(bJ ks 0 z.toNat).all gL then Sum.inr (Sum.inl (ks,z,(ks.length:Int),()))else Sum.inl (false,()))):
  brk (decide (z<1)) (some (false,az)) (brk (decide (i64.wrap ((ks.length:Int) - 1)<z)) (some (false,az)) (brk (bounds ks.length 0 z) ((cF T ks z (ks.length:Int) (sub ks 0 z) ((sub ks 0 z).length:Int) 0).bind (bB (λRh=>some (Rh.1,az)) (λRh=>(aV T Rh.2.1 Rh.2.2.1 Rh.1).bind λd204=>some (d204.1,az)))) none))=
   some (true&&(decide (1<=z)&&(decide (z<(ks.length:Int))&&((bJ ks 0 z.toNat).all gL&&EX ks z.toNat ks.length))),az):=by
 have wk:i64.wrap ((ks.length:Int) - 1)=(ks.length:Int) - 1:=wrap64 _ (by omega) (by omega);rw[wk,aC9]
 by_cases h1:1<=z
 ·rw[aM (by omega),aC1 h1]
  by_cases h2:z<(ks.length:Int)
  ·have hb:bounds ks.length 0 z=true:=by
    unfold bounds;rw[aC1 (show(0:Int)<=0 by omega),aC1 (show(0:Int)<=z by omega),aC1 (show z<=(ks.length:Int)by omega)];rfl
   rw[aM (by omega),aC1 h2,ad hb,aj6 h1 (by omega)]
   cases(bJ ks 0 z.toNat).all gL with
   |true=>
    simp only[aD6,aC0,bB,aF2,aE3];rw[WS h1 (by omega)];rfl
   |false=>rfl
  ·rw[aN (by omega),aB9 h2];rfl
 ·rw[aN (by omega),aB9 h1];rfl
variable{ns:List aj.den}{i:Nat}{x:aj.den}(hx:NodeOk x)(hi:i<ns.length)(hn:ns.length<=3000)
include hi hn
theorem Qg (hl:(ak x).length<=200):∀(k j:Nat),j+k=(ak x).length->Evt λn=>kD (S.tab n) ↑i (ns,()) x ((ax ns x).take j) (ak x) ((ak x).length:Int) (j:Int)=some (bif((ak x).drop j).all (inR i)then Sum.inr (Sum.inl (x,ax ns x,()))else Sum.inl (false,()))
 |0,j,h=>aG.up λn _=>by
  have:j=(ak x).length:=(by omega);subst this;rw[sM,aB (by simp),List.drop_length]
  have:(ax ns x).take (ak x).length=ax ns x:=by
   rw[List.take_of_length_le];unfold ax;rw[List.length_map];exact aE5 _
  rw[this];rfl
 |k+1,j,h=>by
  have hj:j<(ak x).length:=(by omega)
  have WZ:j<(ax ns x).length:=by unfold ax;rw[List.length_map];exact hj
  refine((Qg hl k (j+1) (by omega)).and G7).up λn ⟨ih,ng⟩=> ?_
  have wi:i64.wrap ((i:Int) - 1)=(i:Int) - 1:=wrap64 _ (by omega) (by omega);rw[sM,aN (by omega),ad (an hj),tF hj,wi,ng,aC0,List.drop_eq_getElem_cons hj,List.all_cons,bH (by omega)]
  have e:(decide ((0:Int)<=(ak x)[j])&&decide ((ak x)[j]<=(i:Int) - 1))=inR i (ak x)[j]:=by
   unfold inR
   congr 1
   by_cases h:(ak x)[j]<(i:Int)
   ·rw[aC1 h,aC1 (by omega)]
   ·rw[aB9 h,aB9 (by omega)]
  rw[e]
  cases hr:inR i (ak x)[j]with
  |false=>rw[ad (by rfl)];rfl
  |true=>
   unfold inR at hr;rw[aC6,aC4,aC4]at hr
   have e2:(ax ns x).take (j+1)=(ax ns x).take j++[jD ns (ak x)[j]]:=by
    have hm:(ax ns x)[j]=jD ns (ak x)[j]:=List.getElem_map ..;rw[List.take_add_one,aE1 WZ,hm];rfl
   have ef:fits (((ax ns x).take j).length+([(at_ (τ:=aj) (ns,()).1 (ak x)[j]).1]:LI).length)=true:=bc (by
    unfold lim
    rw[aF5,aH4];omega)
   rw[aB (by rfl),ad (by
    show(decide ((0:Int)<=(ak x)[j])&&decide ((ak x)[j]<(ns.length:Int)))=true
    rw[aC1 hr.1,aC1 (by omega)];rfl),ad ef]
   rw[e2]at ih;exact ih
omit hi hn in
theorem SI (hx:NodeOk x)(ks:LI):Evt λn=>du (S.tab n) x ks (aK x) ((aK x).length:Int) 0=some (bif(aK x).all (fz 1)then Sum.inr (Sum.inl (x,ks,()))else Sum.inl (false,())):=by
 have hg:∀(l:List LI),(∀m∈l,∀c∈m,isByte c)->Evt λn=>∀m∈l,ig (S.tab n) m=some (fz 1 m,aa):=by
  intro l
  induction l with
  |nil=>intro _;exact Evt.of λ_ m h=>by cases h
  |cons a l ih=>
   intro h
   refine((Cc (s:=a) (h a (aE0 ..))).and (ih λm hm=>h m (aD9 _ hm))).mono λn ⟨h1,h2⟩ m hm=> ?_
   rcases aF8.1 hm with rfl|hm
   ·exact h1
   ·exact h2 m hm
 have aq1:=hx.nn
 have:=Gm (F:=λT j=>du T x ks (aK x) ((aK x).length:Int) ↑j) (P:=fz 1) (l:=aK x) (yes:=Sum.inr (Sum.inl (x,ks,()))) (no:=Sum.inl (false,())) (q:=λT=>∀m∈aK x,ig T m=some (fz 1 m,aa)) (hg _ hx.names)
  (λT j h hT=>by
   show du (S.step T) _ _ _ _ _=bif _ then du T x ks (aK x) ((aK x).length:Int) ((j+1:Nat):Int)else _
   rw[rz,aN (by omega),ad (an h),MO h,hT _ (aG7 h),aC0,bH (by omega)]
   cases fz 1 (aK x)[j]with
   |true=>rw[aB (by rfl)];rfl
   |false=>rw[ad (by rfl)];rfl)
  (λT hT=>by
   show du (S.step T) _ _ _ _ _=_
   rw[rz,aB (by simp)]) (aK x).length 0 (by omega)
 rw[List.drop_zero]at this;exact this
omit hi hn in
theorem Sl (hl:(ak x).length<=200):Evt λn=>dR (S.tab n) ↑i (ns,()) x (ak x) ((ak x).length:Int) 0=some (bif(ak x).all (inR i)then Sum.inr (Sum.inl ((ns,()),x,()))else Sum.inl (false,())):=by
 have:=Gm (F:=λT j=>dR T ↑i (ns,()) x (ak x) ((ak x).length:Int) ↑j) (P:=inR i) (l:=ak x) (yes:=Sum.inr (Sum.inl ((ns,()),x,()))) (no:=Sum.inl (false,())) (q:=Base2) aG
  (λT j h hT=>by
   show dR (S.step T) _ _ _ _ _ _=bif _ then dR T ↑i (ns,()) x (ak x) ((ak x).length:Int) ((j+1:Nat):Int)else _
   rw[qC,aN (by omega),ad (an h),tF h,bH (by omega)];unfold inR
   by_cases h1:(0:Int)<=(ak x)[j]
   ·rw[aM (by omega),aC1 h1]
    by_cases h2:(ak x)[j]<(i:Int)
    ·rw[aM (by omega),aC1 h2];rfl
    ·rw[aN (by omega),aB9 h2];rfl
   ·rw[aN (by omega),aB9 h1];rfl)
  (λT hT=>by
   show dR (S.step T) _ _ _ _ _ _=_
   rw[qC,aB (by simp)]) (ak x).length 0 (by omega)
 rw[List.drop_zero]at this;exact this
include hx
theorem DZ (ai9:ns[i]=x):Evt λn=>j3 (S.tab n) (ns,()) (i:Int)=some (okN ns i x,az):=by
 have Hf:at_ (τ:=aj) ns (i:Int)=x:=by rw[s7 _ _ hi];exact ai9
 have ak2:at_ (τ:=aj) ((ns,()):Tr).1 (i:Int)=x:=Hf
 have start:∀n,j3 (S.step (S.tab n)) (ns,()) (i:Int)=_:=λn=>by
  rw[DK,ad (an hi),ak2]
 unfold okN
 by_cases c1:x.2.1<0
 ·refine aG.up λn _=> ?_
  rw[start,aN c1,aC1 c1];rfl
 by_cases c2:x.2.2.1<x.2.1
 ·refine aG.up λn _=> ?_
  rw[start,aM c1,aN c2,aB9 c1,aC1 c2];rfl
 by_cases c3:x.2.2.2.1<0
 ·refine aG.up λn _=> ?_
  rw[start,aM c1,aM c2,aN c3,aB9 c1,aB9 c2,aC1 c3];rfl
 rw[aB9 c1,aB9 c2,aB9 c3]
 by_cases c4:200<(ak x).length
 ·refine aG.up λn _=> ?_
  have d4:decide ((200:Int)<(x.2.2.2.2.2.2.2.2.1.length:Int))=true:=aC1 (by unfold ak at c4;omega);rw[start,aM c1,aM c2,aM c3,ad d4,aC1 c4];rfl
 have d4:decide ((200:Int)<(x.2.2.2.2.2.2.2.2.1.length:Int))=false:=aB9 (by unfold ak at c4;omega);rw[aB9 c4];simp only[aD1];have hl:(ak x).length<=200:=(by omega)
 have Gn:(ax ns x).length<=200:=by unfold ax;rw[List.length_map];exact hl
 rw[<-alike]
 by_cases c5:¬ ((aK x).length:Int)<=200
 ·have d5:decide ((200:Int)<(x.2.2.2.2.2.2.2.1.length:Int))=true:=aC1 (by unfold aK at c5;omega)
  refine aG.up λn _=> ?_
  rw[start,aM c1,aM c2,aM c3,aB d4,ad d5,aB9 c5];cases(ak x).all (inR i)<;>rfl
 replace c5:=Decidable.not_not.1 c5
 have d5:decide ((200:Int)<(x.2.2.2.2.2.2.2.1.length:Int))=false:=aB9 (by unfold aK at c5;omega);rw[aC1 c5,aC9];have h6:=Qg hi hn hl (ak x).length 0 (by omega);rw[List.drop_zero]at h6
 have step2:∀n,j3 (S.step (S.tab n)) (ns,()) (i:Int)=_:=λn=>by
  rw[start,aM c1,aM c2,aM c3,aB d4,aB d5]
 cases hr:(ak x).all (inR i)with
 |false=>
  rw[hr]at h6
  refine h6.up λn h=> ?_
  have h:kD (S.tab n) ↑i (ns,()) x [] x.2.2.2.2.2.2.2.2.1 (x.2.2.2.2.2.2.2.2.1.length:Int) 0=_:=h;rw[step2,h];rfl
 |true=>
  rw[hr]at h6;have Hh:=SI hx (ax ns x);have Zu:=Yc (ax ns x) Gn ((aK x).length:Int) x.2.2.2.2.1 x.2.2.2.2.2.1 x.2.2.2.2.2.2.1 hx.text
  have vJ:∀n,kD (S.tab n) ↑i (ns,()) x [] x.2.2.2.2.2.2.2.2.1 (x.2.2.2.2.2.2.2.2.1.length:Int) 0=some (Sum.inr (Sum.inl (x,ax ns x,())))->j3 (S.step (S.tab n)) (ns,()) (i:Int)=_:=λn h=>by
   rw[step2,h,aC0]
  cases ao9:(aK x).all (fz 1)with
  |false=>
   rw[ao9]at Hh
   refine(h6.and Hh).up λn ⟨h,Hh⟩=> ?_
   have Hh:du (S.tab n) x (ax ns x) x.2.2.2.2.2.2.2.1 (x.2.2.2.2.2.2.2.1.length:Int) 0=_:=Hh;rw[vJ n h];show(du (S.tab n) x (ax ns x) x.2.2.2.2.2.2.2.1 (x.2.2.2.2.2.2.2.1.length:Int) 0).bind _=_;rw[Hh];rfl
  |true=>
   rw[ao9]at Hh
   have Y9:Evt λn=>∀fl,iT (S.tab n) (ax ns x) ((aK x).length:Int) x.2.2.2.2.1 x.2.2.2.2.2.1 x.2.2.2.2.2.2.1 ((ax ns x).length:Int) x.1 fl=some (R84 (ax ns x) ((aK x).length:Int) x.2.2.2.2.1 x.2.2.2.2.2.1 x.2.2.2.2.2.2.1 x.1 fl):=Zu.up λn h fl=>r84 h Gn x.1 fl
   have ZO:Evt λn=>∀fl,jK (S.tab n) (ax ns x) ((aK x).length:Int) x.2.2.2.2.1 x.2.2.2.2.2.1 x.2.2.2.2.2.2.1 ((ax ns x).length:Int) x.1 fl=some (R72 (ax ns x) ((aK x).length:Int) x.2.2.2.2.1 x.2.2.2.2.2.1 x.2.2.2.2.2.2.1 x.1 fl):=(Zu.and Y9).up λn ⟨h,h'⟩ fl=>r72 h Gn x.1 h' fl
   have Us:Evt λn=>∀fl,eV (S.tab n) (ax ns x) ((aK x).length:Int) x.2.2.2.2.1 x.2.2.2.2.2.1 x.2.2.2.2.2.2.1 ((ax ns x).length:Int) x.1 fl=some (R65 (ax ns x) ((aK x).length:Int) x.2.2.2.2.1 x.2.2.2.2.2.1 x.2.2.2.2.2.2.1 x.1 fl):=(Zu.and ZO).up λn ⟨h,h'⟩ fl=>r65 h Gn x.1 h' fl
   have ZL:Evt λn=>∀fl,lk (S.tab n) (ax ns x) ((aK x).length:Int) x.2.2.2.2.1 x.2.2.2.2.2.1 x.2.2.2.2.2.2.1 ((ax ns x).length:Int) x.1 fl=some (R50 (ax ns x) ((aK x).length:Int) x.2.2.2.2.1 x.2.2.2.2.2.1 x.2.2.2.2.2.2.1 x.1 fl):=(Zu.and Us).up λn ⟨h,h'⟩ fl=>r50 h Gn x.1 h' fl
   refine((h6.and Hh).and (Zu.and ZL)).up λn ⟨⟨h,Hh⟩,hI,ZL⟩=> ?_
   have Hh:du (S.tab n) x (ax ns x) x.2.2.2.2.2.2.2.1 (x.2.2.2.2.2.2.2.1.length:Int) 0=_:=Hh;rw[vJ n h];show(du (S.tab n) x (ax ns x) x.2.2.2.2.2.2.2.1 (x.2.2.2.2.2.2.2.1.length:Int) 0).bind _=_;rw[Hh];simp only[aD6,aC0,bB,aF2,aE3];have aq1:(x.2.2.2.2.2.2.2.1.length:Int)=((aK x).length:Int):=rfl;rw[aq1];unfold KI
   by_cases k1:x.1=1
   ·rw[aN k1,aC1 k1,aD6,hI.l26]
    cases(ax ns x).all cS with
    |true=>simp only[aD6,aC0,bB,aF2,aE3,hI.pl,aC9]
    |false=>rfl
   rw[aM k1,aB9 k1,aD1]
   by_cases k2:x.1=2
   ·rw[aN k2,aC1 k2,aD6,hI.pl,hI.ex0n];simp only[aC0]
    cases PL true false false false ((aK x).length:Int) x.2.2.2.2.1 x.2.2.2.2.2.1 x.2.2.2.2.2.2.1 with
    |false=>rw[ae];rfl
    |true=>
     rw[ai]
     cases decide ((1:Int)<=((aK x).length:Int))with
     |false=>rw[ae];rfl
     |true=>rw[ai];rfl
   rw[aM k2,aB9 k2,aD1]
   by_cases k3:x.1=3
   ·rw[aN k3,aC1 k3,aD6,hI.pl];simp only[aC0]
    cases PL true false false false ((aK x).length:Int) x.2.2.2.2.1 x.2.2.2.2.2.1 x.2.2.2.2.2.2.1 with
    |false=>rw[ae];rfl
    |true=>
     rw[ai]
     cases decide (((aK x).length:Int)=1)with
     |false=>rw[ae];rfl
     |true=>
      rw[ai]
      by_cases h1:(ax ns x).length=1
      ·rw[aN (by omega),hI.ex01 (by omega),aC1 (show((ax ns x).length:Int)=1 by omega)];rfl
      ·rw[aM (by omega),aB9 (show¬ ((ax ns x).length:Int)=1 by omega)];rfl
   rw[aM k3,aB9 k3,aD1]
   by_cases k4:x.1=4
   ·rw[aN k4,aC1 k4,aD6,hI.pl];simp only[aC0]
    cases PL true false false false ((aK x).length:Int) x.2.2.2.2.1 x.2.2.2.2.2.1 x.2.2.2.2.2.2.1 with
    |false=>rw[ae];rfl
    |true=>
     rw[ai]
     cases decide (((aK x).length:Int)=1)with
     |false=>rw[ae];rfl
     |true=>
      rw[ai]
      by_cases h1:(ax ns x).length=1
      ·rw[aN (by omega),aN (by omega),aC1 (show((ax ns x).length:Int)=1 by omega)];rfl
      ·rw[aM (by omega),aB9 (show¬ ((ax ns x).length:Int)=1 by omega)];rfl
   rw[aM k4,aB9 k4,aD1]
   by_cases k5:x.1=5
   ·rw[aN k5,aC1 k5,aD6,hI.pl];simp only[aC0]
    cases PL false false true false ((aK x).length:Int) x.2.2.2.2.1 x.2.2.2.2.2.1 x.2.2.2.2.2.2.1 with
    |false=>rw[ad (by rfl)];rfl
    |true=>
     rw[aB (by rfl)];exact X7 (ax ns x) x.2.2.2.2.2.1 Gn hI.WS hI.aj6
   rw[aM k5,aB9 k5,aD1]
   by_cases k6:x.1=6
   ·rw[aN k6,aC1 k6,aD6,ZL]
    cases hR:R50 (ax ns x) ((aK x).length:Int) x.2.2.2.2.1 x.2.2.2.2.2.1 x.2.2.2.2.2.2.1 x.1 true with
    |inl y=>rfl
    |inr y=>cases y with
     |inl y=>rfl
     |inr y=>exact y.elim
   ·rw[aM k6,aB9 k6,aD1,ZL]
    cases hR:R50 (ax ns x) ((aK x).length:Int) x.2.2.2.2.1 x.2.2.2.2.2.1 x.2.2.2.2.2.2.1 x.1 (decide (x.1=16))with
    |inl y=>rfl
    |inr y=>cases y with
     |inl y=>rfl
     |inr y=>exact y.elim
end Go.Abs.D
end

section
namespace Go.Abs.D
structure PW (out gI gS:List al.den)(T:S.Tab):Prop where
 kI:∀(a:Nat) nd,a<=out.length->bO T (gI,(a:Int),nd,())=some (KA out a,(gI,(a:Int),nd,()),())
 tI:∀(a:Nat) nd,a<out.length->aw T (gI,(a:Int),nd,())=some (tkA out a,(gI,((a+1:Nat):Int),nd,()),())
 eI:∀(a:Nat) nd k,a<=out.length->bR T (gI,(a:Int),nd,()) k=some (decide (KA out a=k),(gI,(((bif decide (KA out a=k)then a+1 else a):Nat):Int),nd,()),(),())
 cI:∀(a b:Nat) nd x,a<out.length->b<out.length->nd.length<=300000->au T (gI,((a+1:Nat):Int),nd,()) (b:Int) x=some ((nd.length:Int),(gI,((a+1:Nat):Int),nd++[IG out b (a+1) x],()),(),uN,())
 aI:∀(a:Int) nd x,nd.length<=300000->gU T (gI,a,nd,()) x=some ((nd.length:Int),(gI,a,nd++[x],()),uN,())
 kS:∀(a:Nat) nd,a<=out.length->bZ T (gS,(a:Int),nd,())=some (KA out a,(gS,(a:Int),nd,()),())
 tS:∀(a:Nat) nd,a<out.length->aP T (gS,(a:Int),nd,())=some (tkA out a,(gS,((a+1:Nat):Int),nd,()),())
 eS:∀(a:Nat) nd k,a<=out.length->gW T (gS,(a:Int),nd,()) k=some (decide (KA out a=k),(gS,(((bif decide (KA out a=k)then a+1 else a):Nat):Int),nd,()),(),())
 aS:∀(a:Nat) nd x,a<out.length->nd.length<=300000->aH T (gS,((a+1:Nat):Int),nd,()) x=some ((nd.length:Int),(gS,((a+1:Nat):Int),nd++[(x.1,x.2.1,(tkA out a).2.2.1,x.2.2.2)],()),uN,())
 nS:∀k t,bl T k t=some ((k,t.2.1,0,t.2.2.2.1,0,0,([]:LI),[],[],()),b8)
 uI:∀(x:Node) (a b:Nat) nd,a<out.length->b<out.length->nd.length<=300000->cJ T x (gI,(a:Int),nd,()) (b:Int)=some ((nd.length:Int),uN,(gI,((a+1:Nat):Int),nd++[IG out b (a+1) x],()),(b:Int),())
 pI:∀k:Int,bw T k=some (sh k,aa)
 pS:∀k:Int,bM T k=some (sh k,aa)
 bI:∀k:Int,dB T k=some (ju k,aa)
 bS:∀k:Int,cB T k=some (ju k,aa)
 iS:∀k:Int,jZ T k=some (Mq k,aa)
 sS:∀k:Int,qL T k=some (unK k,aa)
 wS:∀k:Int,k∈kinds->uL k=true->qF T k=some ((pw k,pr k,()),aa)
 wI:∀k:Int,k∈kinds->uY T k=some (bif uL k then pw k else 0,aa)
theorem tG {out:List al.den}{e:al.den}{a:Nat}(h:a<out.length):tkA (out++[e]) a=tkA out a:=by
 unfold tkA at_;rw[Int.toNat_natCast,aE2,aE2,List.getElem?_append_left h]
theorem BG {out:List al.den}{e:al.den}(he:e.1=6){a:Nat}(h:a<=out.length):(tkA (out++[e]) a).1=KA out a:=by
 unfold KA
 rcases Nat.lt_or_ge a out.length with hl|hl
 ·rw[tG hl];unfold tkA at_;rw[Int.toNat_natCast,aE2,aE2,List.getElem?_map,aE1 hl];rfl
 ·have:a=out.length:=(by omega);subst this;unfold tkA at_;rw[Int.toNat_natCast,my,he,aE2,List.getElem?_eq_none (by simp)];rfl
theorem XM {out:List al.den}{eI eS:al.den}(hI:eI.1=6)(hS:eS.1=6)(hL:out.length<=65536):Evt λn=>PW out (out++[eI]) (out++[eS]) (S.tab n):=
 ((TZ (ts:=out++[eI]) (L:=out.length) (by simp) hL).and (TZ (ts:=out++[eS]) (L:=out.length) (by simp) hL)).mono λn ⟨p,q⟩=>
  ⟨λa nd h=>by rw[p.kI _ _ h,BG hI h],λa nd h=>by rw[p.tI _ _ h,tG h],λa nd k h=>by rw[p.eI _ _ _ h,BG hI h],
   λa b nd x h h2 h3=>by rw[p.cI _ _ _ _ h h2 h3];unfold IG;rw[tG h2,tG (show a+1 - 1<_ by omega)],p.aI,
   λa nd h=>by rw[q.kS _ _ h,BG hS h],λa nd h=>by rw[q.tS _ _ h,tG h],λa nd k h=>by rw[q.eS _ _ _ h,BG hS h],
   λa nd x h h2=>by rw[q.aS _ _ _ h h2,tG h],q.nS,λx a b nd h h2 h3=>by rw[p.uI _ _ _ _ h h2 h3];unfold IG;rw[tG h2,tG (show a+1 - 1<_ by omega)],
   p.pI,q.pS,p.bI,q.bS,q.iS,q.sS,q.wS,p.wI⟩
def vD (x:Node):Prop:=NodeOk x/\RgI x
noncomputable def W (nd:List Node):Nat:=open Classical in if∀x∈nd,vD x then nd.length else nd.length+1000000
theorem iu (nd:List Node):nd.length<=W nd:=by unfold W;split<;>omega
theorem aa5 {nd:List Node}(h:W nd<1000000):∀x∈nd,vD x:=by
 unfold W at h;split at h
 ·assumption
 ·omega
theorem iY {nd:List Node}{x:Node}(hx:vD x):W (nd++[x])<=W nd+1:=by
 unfold W
 by_cases h:∀y∈nd,vD y
 ·rw[aG3 h,aG3 λy hy=>by
   rcases aE9.1 hy with hy|hy
   ·exact h y hy
   ·rw[List.mem_singleton.1 hy];exact hx]
  simp only[aC2,aC3,aC5];omega
 ·rw[aF4 h];split<;>(simp only[aC2,aC3,aC5];omega)
structure TokR (z:al.den):Prop where
 f:rg z.2.1
 t:rg z.2.2.1
 l:rg z.2.2.2.1
 n:rg z.2.2.2.2.1
@[reducible] def rg3 (a b c:Int):Prop:=rg a/\rg b/\rg c
theorem MI (n:Int):rg (i64.wrap n):=by
 unfold rg;rw[IntKind.wrap_i64];omega
structure Toks where
 out:List al.den
 tI:List al.den
 tS:List al.den
 lI:tI.length=out.length+1
 lS:tS.length=out.length+1
 aI:∀a:Nat,a<out.length->at_ (τ:=al) tI (a:Int)=tkA out a
 aS:∀a:Nat,a<out.length->at_ (τ:=al) tS (a:Int)=tkA out a
 kI:∀a:Nat,a<=out.length->(at_ (τ:=al) tI (a:Int)).1=KA out a
 kS:∀a:Nat,a<=out.length->(at_ (τ:=al) tS (a:Int)).1=KA out a
 len:out.length<=65536
 kind:∀a:Nat,0<=KA out a/\KA out a<=78
 R8:∀a:Nat,∀c∈(tkA out a).2.2.2.2.2.1,isByte c
 ZU:∀a:Nat,TokR (tkA out a)
 base:Evt λn=>PW out tI tS (S.tab n)
variable(G:Toks)
theorem nok {b c:Nat}{k op num:Int}(hr:rg3 k op num){text:LI}{names:List LI}{kids:LI}(h1:∀c∈text,isByte c)(h2:∀m∈names,∀c∈m,isByte c)(h3:names.length<=2097152)(h4:kids.length<=2097152):
  vD (k,(tkA G.out b).2.1,(tkA G.out c).2.2.1,(tkA G.out b).2.2.2.1,op,num,text,names,kids,()):=⟨⟨h1,h2,h3,h4⟩,hr.1,(G.ZU b).f,(G.ZU c).t,(G.ZU b).l,hr.2.1,hr.2.2⟩
theorem vT {b c:Nat}{k op num:Int}(hr:rg3 k op num){kids:LI}(h4:kids.length<=2097152):vD (k,(tkA G.out b).2.1,(tkA G.out c).2.2.1,(tkA G.out b).2.2.2.1,op,num,[],[],kids,()):=nok G hr (λ_ h=>nomatch h) (λ_ h=>nomatch h) (by simp) h4
theorem S8 {b c:Nat}{k op num:Int}(hr:rg3 k op num){text kids:LI}(h1:∀c∈text,isByte c)(h4:kids.length<=2097152):vD (k,(tkA G.out b).2.1,(tkA G.out c).2.2.1,(tkA G.out b).2.2.2.1,op,num,text,[],kids,()):=nok G hr h1 (λ_ h=>nomatch h) (by simp) h4
theorem S0 {b c:Nat}{k op num:Int}(hr:rg3 k op num){names:List LI}{kids:LI}(h2:∀m∈names,∀c∈m,isByte c)(h3:names.length<=2097152)(h4:kids.length<=2097152):vD (k,(tkA G.out b).2.1,(tkA G.out c).2.2.1,(tkA G.out b).2.2.2.1,op,num,[],names,kids,()):=nok G hr (λ_ h=>nomatch h) h2 h3 h4
theorem Toks.mem (a:Nat):KA G.out a∈kinds:=jf (G.kind a).1 (G.kind a).2
theorem Toks.kdA {a:Nat}(h:a<G.out.length):(tkA G.out a).1=KA G.out a:=by rw[<-G.aI a h];exact G.kI a (Nat.le_of_lt h)
def Nx (r:LI)(a:Nat)(nd:List Node)(a':Nat)(iF:List Node)(m:Nat):Prop:=a<a'/\a'<=G.out.length/\iF.length=m+1/\W iF+4*a+2<=W nd+4*a'/\Ac G.out r a'
def Nx1 (r:LI)(a:Nat)(nd:List Node)(a':Nat)(iF:List Node)(m:Nat):Prop:=a<a'/\a'<=G.out.length/\iF.length=m+1/\W iF+4*a+1<=W nd+4*a'/\Ac G.out r a'
def JN (fI fS:S.Tab->StT->Option (Int×StT×Unit))(s:LI)(a:Nat):Prop:=
 ∀(nd:List Node) (r:LI),a<=G.out.length->W nd<=4*a->Ac G.out (s++r) a->∃(a' m:Nat) (iF:List Node),Nx G r a nd a' iF m/\(Evt λn=>fI (S.tab n) (G.tI,(a:Int),nd,())=some ((m:Int),(G.tI,(a':Int),iF,()),()))/\
  Evt λn=>fS (S.tab n) (G.tS,(a:Int),nd,())=some ((m:Int),(G.tS,(a':Int),iF,()),())
def rel (l l':Int):Prop:=0<=l'/\(l=l'+1\/(l=0/\l'=0))
def JE (a:Nat):Prop:=∀(l l':Int) (nd:List Node) (r:LI),rel l l'->a<=G.out.length->W nd<=4*a->Ac G.out (1020::1019::r) a->∃(a' m:Nat) (iF:List Node),Nx G (1019::r) a nd a' iF m/\(uL (KA G.out a')=true->pw (KA G.out a')<l)/\
  (Evt λn=>bD (S.tab n) (G.tI,(a:Int),nd,()) l'=some ((m:Int),(G.tI,(a':Int),iF,()),(),()))/\
  Evt λn=>cR (S.tab n) (G.tS,(a:Int),nd,()) l=some ((m:Int),(G.tS,(a':Int),iF,()),(),())
theorem UO {k:Int}(hk:k∈kinds)(hi:uL k=true):rel (pr k) (bif decide (k=72)then pw k - 1 else pw k):=by
 have h:(kinds.all λk=> !uL k||(decide (0<=(bif decide (k=72)then pw k - 1 else pw k))&&decide (pr k=(bif decide (k=72)then pw k - 1 else pw k)+1)))=true:=by kernel_rfl
 have:=List.all_eq_true.1 h k hk;rw[hi]at this;simp only[aE6,aD3,aC6,aC4]at this;exact⟨this.1, .inl this.2⟩
theorem Qi {k:Int}(hk:k∈kinds)(hi:uL k=true):1<=pw k/\pw k<=10/\Mq k=true:=by
 have:=List.all_eq_true.1 TO k hk;rw[hi]at this;simp only[aE6,aD3,aC6,aC4,beq_iff_eq]at this;exact⟨this.2.1,this.2.2,this.1.symm⟩
theorem Od {a:Nat}(ha:a<G.out.length){l l':Int}(hl:rel l l')(r:LI)(hE:∀a',a<a'->JE G a'):∀(d a1 m1:Nat)(dK:List Node),G.out.length<a1+d->a<a1->a1<=G.out.length->dK.length=m1+1->W dK<=4*a1->Ac G.out (1019::r) a1->
  ∃(a2 m2:Nat) (iI:List Node),a1<=a2/\a2<=G.out.length/\iI.length=m2+1/\W iI+4*a1<=W dK+4*a2/\Ac G.out (1019::r) a2/\(uL (KA G.out a2)=true->pw (KA G.out a2)<l)/\
   (Evt λn=>dU (S.tab n) (G.tI,(a1:Int),dK,()) l' ↑a (m1:Int)=some (Sum.inl ((G.tI,(a2:Int),iI,()),(m2:Int),())))/\
   Evt λn=>fe (S.tab n) (G.tS,(a1:Int),dK,()) l (tkA G.out a) (m1:Int)=some (bif uL (KA G.out a2)then Sum.inl ((G.tS,(a2:Int),iI,()),(m2:Int),())else Sum.inr (Sum.inl ((G.tS,(a2:Int),iI,()),(m2:Int),()))):=by
 intro d
 induction d with
 |zero=>intro a1 m1 dK h h2 h3;omega
 |succ d ih=>
  intro a1 m1 dK hd sB Rl hm hn hA;have hk:=G.mem a1;have hL:=G.len
  cases hi:uL (KA G.out a1)with
  |false=>
   refine⟨a1,m1,dK,aE5 _,Rl,hm,aE5 _,hA,λh=>absurd (hi.symm.trans h) (by decide),G.base.up λn B=> ?_,G.base.up λn B=> ?_⟩
   ·show dU (S.step (S.tab n)) _ _ _ _=_;rw[kR,B.kI _ _ Rl,aC0];dsimp only;rw[B.wI _ hk,aC0,hi];exact ad (aC1 hl.1)
   ·show fe (S.step (S.tab n)) _ _ _ _=_
    have hs:Mq (KA G.out a1)=false:=by
     have:=List.all_eq_true.1 TO _ hk;rw[hi]at this;simp only[aC6,beq_iff_eq]at this;exact this.1.symm
    rw[mY,B.kS _ _ Rl,aC0];dsimp only;rw[B.iS,aC0,hs,hi];exact aB rfl
  |true=>
   obtain⟨w1,w2,ws⟩:=Qi hk hi
   by_cases hw:pw (KA G.out a1)<l
   ·refine⟨a1,m1,dK,aE5 _,Rl,hm,aE5 _,hA,λ_=>hw,G.base.up λn B=> ?_,G.base.up λn B=> ?_⟩
    ·show dU (S.step (S.tab n)) _ _ _ _=_;rw[kR,B.kI _ _ Rl,aC0];dsimp only;rw[B.wI _ hk,aC0,hi];exact aN (show pw (KA G.out a1)<=l' by rcases hl with⟨h0,h|h⟩<;>omega)
    ·show fe (S.step (S.tab n)) _ _ _ _=_;rw[mY,B.kS _ _ Rl,aC0];dsimp only;rw[B.iS,aC0,ws,ad (by rfl),B.kS _ _ Rl,aC0];dsimp only;rw[B.wS _ hk hi,aC0,hi];exact aN hw
   ·have au5:¬ pw (KA G.out a1)<=l':=by rcases hl with⟨h0,h|h⟩<;>omega
    have ht:stI 1019 (KA G.out a1)= .left [1020,1019]:=by
     have:=of_decide_eq_true (List.all_eq_true.1 Qz _ hk);rw[hi]at this;exact this
    obtain⟨af2,Yy⟩:=b9 ht rfl hA Rl;obtain⟨a3,m3,n9,⟨n1,n2,n3,n4,n5⟩,_,eI,eS⟩:=hE (a1+1) (by omega) (pr (KA G.out a1)) _ dK r (UO hk hi) (by omega) (by omega) Yy;obtain⟨c,rfl⟩:∃c,a3=c+1:=⟨a3 - 1,by omega⟩;have hc:c<G.out.length:=(by omega)
    have h3:n9.length<=300000:=by have:=iu n9;omega
    generalize hN:(bif decide (KA G.out a1=10)then(28,(tkA G.out a).2.1,(tkA G.out c).2.2.1,(tkA G.out a).2.2.2.1,0,0,([]:LI),[],[(m1:Int),(m3:Int)],())else
     bif decide (KA G.out a1=26)then(29,(tkA G.out a).2.1,(tkA G.out c).2.2.1,(tkA G.out a).2.2.2.1,0,0,([]:LI),[],[(m1:Int),(m3:Int)],())else
     ((31,(tkA G.out a).2.1,(tkA G.out c).2.2.1,(tkA G.out a).2.2.2.1,i64.wrap (KA G.out a1 - 60),0,([]:LI),[],[(m1:Int),(m3:Int)],()):Node))=N
    have az1:vD N:=by rw[<-hN];cases decide (KA G.out a1=10)<;>cases decide (KA G.out a1=26)<;>first|exact vT G (by decide) (by simp)|exact vT G ⟨by decide,MI _,by decide⟩ (by simp)
    have Dw:=iY (nd:=n9) az1;obtain⟨a2,m2,iI,q1,q2,q3,q4,q5,q6,qI,qS⟩:=ih (c+1) n9.length (n9++[N]) (by omega) (by omega) (by omega) (by simp) (by omega) n5;refine⟨a2,m2,iI,by omega,q2,q3,by omega,q5,q6, ?_, ?_⟩
    ·have BW:Evt λn=>jV (S.tab n) (G.tI,((a1+1:Nat):Int),dK,()) l' ↑a ↑m1 (KA G.out a1) (bif decide (KA G.out a1=72)then pw (KA G.out a1) - 1 else pw (KA G.out a1))=some (Sum.inl ((G.tI,((c+1:Nat):Int),n9++[N],()),l',(a:Int),(n9.length:Int),())):=(G.base.and eI).up λn ⟨B,h⟩=>by
      rw[tN,h,aC0];dsimp only
      by_cases e1:KA G.out a1=10
      ·rw[aN e1,aM (by omega),B.cI _ _ _ _ hc ha h3,<-hN,aC1 e1];rfl
      ·rw[aM e1]
       by_cases e2:KA G.out a1=26
       ·rw[aN e2,B.cI _ _ _ _ hc ha h3,<-hN,aB9 e1,aC1 e2];rfl
       ·rw[aM e2,B.cI _ _ _ _ hc ha h3,<-hN,aB9 e1,aB9 e2];rfl
     refine((G.base.and BW).and qI).up λn ⟨⟨B,h⟩,hq⟩=> ?_
     show dU (S.step (S.tab n)) _ _ _ _=_;rw[kR,B.kI _ _ Rl,aC0];dsimp only;rw[B.wI _ hk,aC0,hi];simp only[aD6];rw[aM au5,B.tI _ _ af2,aC0];dsimp only
     by_cases e:KA G.out a1=72
     ·rw[aC1 e]at h⊢;rw[ad rfl,wrap64 _ (by omega) (by omega)];simp only[aD6]at h;rw[h];exact hq
     ·rw[aB9 e]at h⊢;rw[aB rfl];simp only[aD1]at h;rw[h];exact hq
    ·refine((G.base.and eS).and qS).up λn ⟨⟨B,h⟩,hq⟩=> ?_
     show fe (S.step (S.tab n)) _ _ _ _=_;rw[mY,B.kS _ _ Rl,aC0];dsimp only;rw[B.iS,aC0,ws,ad (by rfl),B.kS _ _ Rl,aC0];dsimp only;rw[B.wS _ hk hi,aC0];dsimp only;rw[aM hw,B.tS _ _ af2,aC0];dsimp only;rw[h,aC0,B.nS,aC0];dsimp only;rw[G.kdA af2]
     by_cases e1:KA G.out a1=10
     ·rw[aN e1,B.aS _ _ _ hc h3,aC0];rw[aC1 e1]at hN;rw[<-hN]at hq;exact hq
     ·rw[aM e1];rw[aB9 e1]at hN
      by_cases e2:KA G.out a1=26
      ·rw[aN e2,B.aS _ _ _ hc h3,aC0];rw[aC1 e2]at hN;rw[<-hN]at hq;exact hq
      ·rw[aM e2,B.aS _ _ _ hc h3,aC0];rw[aB9 e2]at hN;rw[<-hN]at hq;exact hq
theorem Pm {a:Nat}(hU:JN G bW dc [1020] a)(hE:∀a',a<a'->JE G a'):JE G a:=by
 intro l l' nd r hl ha hn hA;obtain⟨a1,m1,dK,⟨n1,n2,n3,n4,n5⟩,eI,eS⟩:=hU nd (1019::r) ha hn hA;have hL:=G.len;have Dv:a<G.out.length:=(by omega);obtain⟨a2,m2,iI,q1,q2,q3,q4,q5,q6,qI,qS⟩:=Od G Dv hl r hE (G.out.length+1) a1 m1 dK (by omega) n1 n2 n3 (by omega) n5;refine⟨a2,m2,iI,⟨by omega,q2,q3,by omega,q5⟩,q6,(eI.and qI).up λn ⟨h1,h2⟩=> ?_,(eS.and qS).up λn ⟨h1,h2⟩=> ?_⟩
 ·show bD (S.step (S.tab n)) _ _=_;rw[x9,h1,aC0];dsimp only;rw[h2];rfl
 ·show cR (S.step (S.tab n)) _ _=_;have ng:(decide ((0:Int)<=(a:Int))&&decide ((a:Int)<(G.tS.length:Int)))=true:=an (by rw[G.lS];omega);rw[A5];dsimp only;rw[ad ng,h1,aC0];dsimp only;rw[G.aS _ Dv,h2];cases uL (KA G.out a2)<;>rfl
end Go.Abs.D
end

section
namespace Go.Abs.D
theorem cc {ρ:Type}(x y:Option ρ):brk true x y=x:=ad rfl
theorem cg {ρ:Type}(x y:Option ρ):brk false x y=y:=aB rfl
theorem TY {out:List al.den}{s:Int}{l r:LI}{a:Nat}(e:stI s (KA out a)= .left l)(ha:a<out.length)(h:Ac out (l++r) (a+1)):Ac out (s::r) a:=by
 obtain⟨b,h1,h2⟩:=h;have Wt:a<(out.map kd).length:=(by simpa using ha)
 have hd:(out.map kd).drop a=KA out a::(out.map kd).drop (a+1):=by
  rw[List.drop_eq_getElem_cons Wt];unfold KA;rw[aE2,aE1 Wt];rfl
 refine⟨b, ?_,h2⟩;rw[hd];show(match gO (s::r) (KA out a)with| .left l=>foldI l ((out.map kd).drop (a+1))|_=>none)=some b;rw[show gO (s::r) (KA out a)=(stI s (KA out a)).then r (gO r (KA out a))from gu stI s r _,e];exact h1
theorem Fh {out:List al.den}{s s':Int}{q r:LI}{a:Nat}(e:stI s (KA out a)=(stI s' (KA out a)).then q .no)(h:Ac out (s::r) a)(ha:a<=out.length):Ac out (s'::(q++r)) a:=by
 rcases uB ha h with⟨l,e',hl,h⟩|⟨e',h⟩
 ·rw[e]at e'
  cases hs:stI s' (KA out a)with
  |no=>rw[hs]at e';cases e'
  |gone=>rw[hs]at e';cases e'
  |left l0=>
   rw[hs]at e'
   injection e' with e'
   subst e';exact TY hs hl (by rw[aC7]at h;exact h)
 ·rw[e]at e';cases hs:stI s' (KA out a)<;>(rw[hs]at e';cases e')
variable(G:Toks)
theorem Toks.tab {p:Int->Bool}(h:kinds.all p=true)(a:Nat):p (KA G.out a)=true:=List.all_eq_true.1 h _ (G.mem a)
def JX (a:Nat):Prop:=∀(nd:List Node) (r:LI),a<=G.out.length->W nd<=4*a->Ac G.out (1018::r) a->∃(a' m:Nat) (iF:List Node),Nx G r a nd a' iF m/\
 (Evt λn=>bD (S.tab n) (G.tI,(a:Int),nd,()) 0=some ((m:Int),(G.tI,(a':Int),iF,()),(),()))/\
 Evt λn=>cR (S.tab n) (G.tS,(a:Int),nd,()) 0=some ((m:Int),(G.tS,(a':Int),iF,()),(),())
theorem Sr {a:Nat}(h:JE G a):JX G a:=by
 intro nd r ha hn hA;have ac3:=Fh (of_decide_eq_true (G.tab Vj a)) hA ha;obtain⟨a',m,iF,⟨n1,n2,n3,n4,n5⟩,hs,eI,eS⟩:=h 0 0 nd r ⟨Int.le_refl 0, .inr ⟨rfl,rfl⟩⟩ ha hn ac3;refine⟨a',m,iF,⟨n1,n2,n3,n4, ?_⟩,eI,eS⟩
 have hi:uL (KA G.out a')=false:=by
  cases hi:uL (KA G.out a')with
  |false=>rfl
  |true=>have:=hs hi;have:=(Qi (G.mem a') hi).1;omega
 have ht:=of_decide_eq_true (G.tab Qz a');rw[hi]at ht;exact fi ht rfl n5 n2
def JL (a:Nat):Prop:=∀(nd:List Node) (r:LI),a<=G.out.length->W nd<=4*a->Ac G.out (1018::1023::r) a->∃(a':Nat) (xs:LI) (iF:List Node),a<a'/\a'<=G.out.length/\xs.length+a<=a'/\W iF+4*a<=W nd+4*a'/\Ac G.out r a'/\
 (Evt λn=>cZ (S.tab n) (G.tI,(a:Int),nd,())=some (xs,(G.tI,(a':Int),iF,()),()))/\
 Evt λn=>eO (S.tab n) (G.tS,(a:Int),nd,())=some (xs,(G.tS,(a':Int),iF,()),())
def NA (Q:LI->Prop):Prop:=∀st a,Q st->a<=G.out.length->Ac G.out st a->KA G.out a=46->a<G.out.length/\∃KW,Q KW/\Ac G.out (1018::KW) (a+1)
theorem Lr {Q:LI->Prop}(hQ:NA G Q)(a0:Nat)(hX:∀a',a0<a'->JX G a'):∀(d a:Nat)(xs:LI)(nd:List Node)(st:LI),G.out.length<a+d->a0<a->a<=G.out.length->xs.length<=a->W nd<=4*a->Q st->Ac G.out st a->
  ∃(a':Nat) (ys:LI) (iF:List Node) (KW:LI),a<=a'/\a'<=G.out.length/\ys.length+a<=xs.length+a'/\W iF+4*a<=W nd+4*a'/\Q KW/\Ac G.out KW a'/\KA G.out a'≠46/\
   (Evt λn=>gi (S.tab n) (G.tI,(a:Int),nd,()) xs=some (Sum.inl ((G.tI,(a':Int),iF,()),ys,())))/\
   Evt λn=>iP (S.tab n) (G.tS,(a:Int),nd,()) xs=some (Sum.inl ((G.tS,(a':Int),iF,()),ys,())):=by
 intro d
 induction d with
 |zero=>intro a xs nd st h h2 h3;omega
 |succ d ih=>
  intro a xs nd st hd h0 Dv hx hn hq hA;have hL:=G.len
  by_cases hk:KA G.out a=46
  ·obtain⟨hl,WC,q1,hA⟩:=hQ st a hq Dv hA hk;obtain⟨a1,m1,dK,⟨n1,n2,n3,n4,n5⟩,eI,eS⟩:=hX (a+1) (by omega) nd WC (by omega) (by omega) hA;obtain⟨a2,ys,iI,RY,q1,q2,q3,q4,q5,q6,q7,qI,qS⟩:=ih a1 (xs++[(m1:Int)]) dK WC (by omega) (by omega) n2 (by simp;omega) (by omega) q1 n5;simp only[aC2,aC3,aC5]at q3;refine⟨a2,ys,iI,RY,by omega,q2,by omega,by omega,q5,q6,q7,((G.base.and eI).and qI).up λn ⟨⟨B,h⟩,hq⟩=> ?_,((G.base.and eS).and qS).up λn ⟨⟨B,h⟩,hq⟩=> ?_⟩
   ·show gi (S.step (S.tab n)) _ _=_;simp only[nQ,B.eI _ _ _ Dv,aC1 hk,aC0,cc,aD6,h];rw[ad (bc (by unfold lim;simp only[aC3,aC5];omega))];exact hq
   ·show iP (S.step (S.tab n)) _ _=_;simp only[pH,B.eS _ _ _ Dv,aC1 hk,aC0,cc,aD6,h];rw[ad (bc (by unfold lim;simp only[aC3,aC5];omega))];exact hq
  ·refine⟨a,xs,nd,st,aE5 _,Dv,aE5 _,aE5 _,hq,hA,hk,G.base.up λn B=> ?_,G.base.up λn B=> ?_⟩
   ·show gi (S.step (S.tab n)) _ _=_;simp only[nQ,B.eI _ _ _ Dv,aB9 hk,aC0,cg,aD1]
   ·show iP (S.step (S.tab n)) _ _=_;simp only[pH,B.eS _ _ _ Dv,aB9 hk,aC0,cg,aD1]
theorem G1 {Q:LI->Prop}(hQ:NA G Q){a:Nat}(hX:∀a',a<=a'->JX G a'){nd:List Node}{st:LI}(ha:a<=G.out.length)(hn:W nd<=4*a)(hq:Q st)(hA:Ac G.out (1018::st) a):
  ∃(a':Nat) (xs:LI) (iF:List Node) (KW:LI),a<a'/\a'<=G.out.length/\xs.length+a<=a'/\W iF+4*a<=W nd+4*a'/\Q KW/\Ac G.out KW a'/\KA G.out a'≠46/\
   (Evt λn=>cZ (S.tab n) (G.tI,(a:Int),nd,())=some (xs,(G.tI,(a':Int),iF,()),()))/\
   Evt λn=>eO (S.tab n) (G.tS,(a:Int),nd,())=some (xs,(G.tS,(a':Int),iF,()),()):=by
 have hL:=G.len;obtain⟨a1,m1,dK,⟨n1,n2,n3,n4,n5⟩,eI,eS⟩:=hX a (aE5 _) nd st ha hn hA;obtain⟨a2,ys,iI,RY,q1,q2,q3,q4,q5,q6,q7,qI,qS⟩:=Lr G hQ a (λa' h=>hX a' (by omega)) (G.out.length+1) a1 [(m1:Int)] dK st (by omega) n1 n2 (by simp;omega) (by omega) hq n5;simp only[aC3,aC5]at q3;refine⟨a2,ys,iI,RY,by omega,q2,by omega,by omega,q5,q6,q7,(eI.and qI).up λn ⟨h,hq⟩=> ?_,(eS.and qS).up λn ⟨h,hq⟩=> ?_⟩
 ·show cZ (S.step (S.tab n)) _=_;simp only[wj,h,hq,aC0,aO,aE3]
 ·show eO (S.step (S.tab n)) _=_;simp only[zF,h,hq,aC0,aO,aE3]
theorem xL {a:Nat}(hX:∀a',a<=a'->JX G a'):JL G a:=by
 intro nd r ha hn hA
 have hQ:NA G (λst=>st=1023::r):=λst a' e OS K5 hk=>by
  subst e;have ht:=of_decide_eq_true (G.tab M0 a');rw[aC1 hk]at ht;obtain⟨hl,hA⟩:=b9 ht rfl K5 OS;exact⟨hl,_,rfl,hA⟩
 obtain⟨a1,xs,dK,WC,q1,q2,q3,q4,rfl,q6,q7,qI,qS⟩:=G1 G hQ hX ha hn rfl hA;have ht:=of_decide_eq_true (G.tab M0 a1);rw[aB9 q7]at ht;exact⟨a1,xs,dK,q1,q2,q3,q4,fi ht rfl q6 q2,qI,qS⟩
def OK (F:LI):Prop:=∀s∈F,∃f∈F,∃c∈F,stI s 48= .left [1,f]/\stI s 44= .left [1018,45,f]/\stI s 40= .left [1022,41,c]
theorem Ks (tk:al.den)(st:StT)(x0 x1 x2 x3 x4 x5:Int)(x6:LI)(x7:List LI):∀(r pre ks:LI),(pre++r).length<=70000->ks.length+r.length<=140000->
  Evt λn=>hD (S.tab n) st tk (x0,x1,x2,x3,x4,x5,x6,x7,ks,()) (pre++r) ((pre++r).length:Int) (pre.length:Int)=some (Sum.inl (st,tk,(x0,x1,x2,x3,x4,x5,x6,x7,ks++r,()),()))
 |[],pre,ks,_,_=>aG.up λn _=>by
  rw[nh,aB (by simp)];simp
 |m::r,pre,ks,hl,hk=>by
  have ih:=Ks tk st x0 x1 x2 x3 x4 x5 x6 x7 r (pre++[m]) (ks++[m]) (by simpa using hl) (by simp at hk⊢;omega);have hlen:(pre++m::r).length=pre.length+(r.length+1):=(by simp);have e1:(pre++[m])++r=pre++m::r:=(by simp);have e2:(pre++[m]).length=pre.length+1:=(by simp);have hg:(pre++m::r).getD (pre.length:Int).toNat 0=m:=my pre _ _ 0;rw[e1,e2]at ih
  refine ih.up λn h=> ?_
  simp only[aC3]at hk;rw[nh,aN (by omega),ad (an (by omega))];dsimp only;rw[ad (bc (by unfold lim;simp only[aC3,aC5];omega)),bH (by omega),hg,h];simp
theorem Pq {F:LI}(hF:OK F){b:Nat}(hb:b<G.out.length)(r:LI)(hX:∀a',b<a'->JX G a'):∀(d a m:Nat)(nd:List Node)(s:Int),G.out.length<a+d->b<a->a<=G.out.length->nd.length=m+1->W nd<=4*a->s∈F->Ac G.out (s::r) a->
  ∃(a' m':Nat) (iF:List Node) (s':Int),a<=a'/\a'<=G.out.length/\iF.length=m'+1/\W iF+4*a<=W nd+4*a'/\s'∈F/\Ac G.out (s'::r) a'/\(KA G.out a'≠48/\KA G.out a'≠44/\KA G.out a'≠40)/\
   (Evt λn=>bP (S.tab n) (G.tI,(a:Int),nd,()) ↑b (m:Int)=some (Sum.inl ((G.tI,(a':Int),iF,()),(m':Int),())))/\
   Evt λn=>bK (S.tab n) (G.tS,(a:Int),nd,()) ↑m (tkA G.out b)=some (Sum.inl ((G.tS,(a':Int),iF,()),(m':Int),())):=by
 intro d
 induction d with
 |zero=>intro a m nd s h h2 h3;omega
 |succ d ih=>
  intro a m nd s hd h0 Dv hm hn hs hA;have hL:=G.len;obtain⟨f,hf,c,hc,t1,t2,t3⟩:=hF s hs
  by_cases k1:KA G.out a=48
  ·obtain⟨hl,hA⟩:=b9 t1 k1 hA Dv;obtain⟨oI,_,hA⟩:=jb hA (by omega) (by decide);have Dw:=iY (nd:=nd) (x:=(33,(tkA G.out b).2.1,(tkA G.out (a+1)).2.2.1,(tkA G.out b).2.2.2.1,0,0,(tkA G.out (a+1)).2.2.2.2.2.1,[],[(m:Int)],())) (S8 G (by decide) (G.R8 _) (by simp));obtain⟨a2,m2,iI,s2,q1,q2,q3,q4,q5,q6,q7,qI,qS⟩:=ih (a+1+1) nd.length (nd++[(33,(tkA G.out b).2.1,(tkA G.out (a+1)).2.2.1,(tkA G.out b).2.2.2.1,0,0,(tkA G.out (a+1)).2.2.2.2.2.1,[],[(m:Int)],())]) f (by omega) (by omega) (by omega) (by simp) (by omega) hf hA;refine⟨a2,m2,iI,s2,by omega,q2,q3,by omega,q5,q6,q7,(G.base.and qI).up λn ⟨B,hq⟩=> ?_,(G.base.and qS).up λn ⟨B,hq⟩=> ?_⟩
   ·show bP (S.step (S.tab n)) _ _ _=_;simp only[fY,B.kI _ _ Dv,aC1 k1,aC0,cc,B.tI _ _ hl,B.tI _ _ oI,B.cI _ _ _ _ oI hb (show nd.length<=300000 by have:=iu nd;omega)];exact hq
   ·show bK (S.step (S.tab n)) _ _ _=_;simp only[fB,B.nS,B.kS _ _ Dv,aC1 k1,aC0,cc,B.tS _ _ hl,B.tS _ _ oI,B.aS _ _ _ oI (show nd.length<=300000 by have:=iu nd;omega)];exact hq
  by_cases k2:KA G.out a=44
  ·obtain⟨hl,hA⟩:=b9 t2 k2 hA Dv;obtain⟨a1,m1,dK,⟨n1,n2,n3,n4,n5⟩,eI,eS⟩:=hX (a+1) (by omega) nd (45::f::r) (by omega) (by omega) hA;obtain⟨oI,_,hA⟩:=jb n5 n2 (by decide);have Dw:=iY (nd:=dK) (x:=(32,(tkA G.out b).2.1,(tkA G.out a1).2.2.1,(tkA G.out b).2.2.2.1,0,0,[],[],[(m:Int),(m1:Int)],())) (vT G (by decide) (by simp));obtain⟨a2,m2,iI,s2,q1,q2,q3,q4,q5,q6,q7,qI,qS⟩:=ih (a1+1) dK.length (dK++[(32,(tkA G.out b).2.1,(tkA G.out a1).2.2.1,(tkA G.out b).2.2.2.1,0,0,[],[],[(m:Int),(m1:Int)],())]) f (by omega) (by omega) (by omega) (by simp) (by omega) hf hA;refine⟨a2,m2,iI,s2,by omega,q2,q3,by omega,q5,q6,q7,((G.base.and eI).and qI).up λn ⟨⟨B,h⟩,hq⟩=> ?_,((G.base.and eS).and qS).up λn ⟨⟨B,h⟩,hq⟩=> ?_⟩
   ·show bP (S.step (S.tab n)) _ _ _=_;simp only[fY,B.kI _ _ Dv,aB9 k1,aC1 k2,aC0,cc,cg,B.tI _ _ hl,h,B.tI _ _ oI,B.cI _ _ _ _ oI hb (show dK.length<=300000 by have:=iu dK;omega)];exact hq
   ·show bK (S.step (S.tab n)) _ _ _=_;simp only[fB,B.nS,B.kS _ _ Dv,aB9 k1,aC1 k2,aC0,cc,cg,B.tS _ _ hl,h,B.tS _ _ oI];rw[ad (by rfl),B.aS _ _ _ oI (show dK.length<=300000 by have:=iu dK;omega)];exact hq
  by_cases k3:KA G.out a=40
  ·obtain⟨hl,hA⟩:=b9 t3 k3 hA Dv
   by_cases k4:KA G.out (a+1)=41
   ·have hA:=fi (s:=1022) (k:=41) (by kernel_rfl) k4 hA (by omega);obtain⟨oI,_,hA⟩:=jb hA (by omega) (by decide);have Dw:=iY (nd:=nd) (x:=(34,(tkA G.out b).2.1,(tkA G.out (a+1)).2.2.1,(tkA G.out b).2.2.2.1,0,0,[],[],[(m:Int)],())) (vT G (by decide) (by simp));obtain⟨a2,m2,iI,s2,q1,q2,q3,q4,q5,q6,q7,qI,qS⟩:=ih (a+1+1) nd.length (nd++[(34,(tkA G.out b).2.1,(tkA G.out (a+1)).2.2.1,(tkA G.out b).2.2.2.1,0,0,[],[],[(m:Int)],())]) c (by omega) (by omega) (by omega) (by simp) (by omega) hc hA;refine⟨a2,m2,iI,s2,by omega,q2,q3,by omega,q5,q6,q7,(G.base.and qI).up λn ⟨B,hq⟩=> ?_,(G.base.and qS).up λn ⟨B,hq⟩=> ?_⟩
    ·show bP (S.step (S.tab n)) _ _ _=_;simp only[fY,B.kI _ _ Dv,aB9 k1,aB9 k2,aC1 k3,aC1 k4,aE6,aC0,cc,cg,B.tI _ _ hl,B.kI (a+1) _ hl,B.tI _ _ oI,B.cI _ _ _ _ oI hb (show nd.length<=300000 by have:=iu nd;omega)];exact hq
    ·show bK (S.step (S.tab n)) _ _ _=_;simp only[fB,B.nS,B.kS _ _ Dv,aB9 k1,aB9 k2,aC1 k3,aC1 k4,aE6,aC0,cc,cg,B.tS _ _ hl,B.kS (a+1) _ hl,B.tS _ _ oI,B.aS _ _ _ oI (show nd.length<=300000 by have:=iu nd;omega)];exact hq
   ·have ac3:Ac G.out (1018::([1023]++(41::c::r))) (a+1):=by
     have ht:=of_decide_eq_true (G.tab Vq (a+1))
     cases hu:ju (KA G.out (a+1))with
     |true=>rw[hu]at ht;exact Fh ht hA (by omega)
     |false=>
      rw[hu]at ht;exact absurd (jb (fi ht rfl hA (by omega)) (by omega) (by decide)).2.1 k4
    obtain⟨a1,xs,dK,n1,n2,n3,n4,n5,eI,eS⟩:=xL G (λa' h=>hX a' (by omega)) nd (41::c::r) (by omega) (by omega) ac3;obtain⟨oI,_,hA⟩:=jb n5 n2 (by decide);have Dw:=iY (nd:=dK) (x:=(34,(tkA G.out b).2.1,(tkA G.out a1).2.2.1,(tkA G.out b).2.2.2.1,0,0,[],[],(m:Int)::xs,())) (vT G (by decide) (by simp only[aC2,aC3,aC5];omega));obtain⟨a2,m2,iI,s2,q1,q2,q3,q4,q5,q6,q7,qI,qS⟩:=ih (a1+1) dK.length (dK++[(34,(tkA G.out b).2.1,(tkA G.out a1).2.2.1,(tkA G.out b).2.2.2.1,0,0,[],[],(m:Int)::xs,())]) c (by omega) (by omega) (by omega) (by simp) (by omega) hc hA;have Ri:=Ks (tkA G.out b) (G.tS,(a1:Int),dK,()) 34 (tkA G.out b).2.1 0 (tkA G.out b).2.2.2.1 0 0 [] [] xs [] [(m:Int)] (by simp;omega) (by simp;omega);refine⟨a2,m2,iI,s2,by omega,q2,q3,by omega,q5,q6,q7,((G.base.and eI).and qI).up λn ⟨⟨B,h⟩,hq⟩=> ?_,(((G.base.and eS).and qS).and Ri).up λn ⟨⟨⟨B,h⟩,hq⟩,hk⟩=> ?_⟩
    ·show bP (S.step (S.tab n)) _ _ _=_;simp only[fY,B.kI _ _ Dv,aB9 k1,aB9 k2,aC1 k3,aB9 k4,aE8,aC0,cc,cg,B.tI _ _ hl,B.kI (a+1) _ hl,h,B.tI _ _ oI,B.cI _ _ _ _ oI hb (show dK.length<=300000 by have:=iu dK;omega)];rw[ad (bc (by unfold lim;simp only[aC3,aC5];omega))];exact hq
    ·show bK (S.step (S.tab n)) _ _ _=_;have hk:hD (S.tab n) (G.tS,(a1:Int),dK,()) (tkA G.out b) (34,(tkA G.out b).2.1,0,(tkA G.out b).2.2.2.1,0,0,[],[],[(m:Int)],()) xs (xs.length:Int) 0=_:=hk;simp only[fB,B.nS,B.kS _ _ Dv,aB9 k1,aB9 k2,aC1 k3,aB9 k4,aE8,aC0,cc,cg,B.tS _ _ hl,B.kS (a+1) _ hl,h,hk,aO,aE3,B.tS _ _ oI,B.aS _ _ _ oI (show dK.length<=300000 by have:=iu dK;omega)];exact hq
  refine⟨a,m,nd,s,aE5 _,Dv,hm,aE5 _,hs,hA,⟨k1,k2,k3⟩,G.base.up λn B=> ?_,G.base.up λn B=> ?_⟩
  ·show bP (S.step (S.tab n)) _ _ _=_;simp only[fY,B.kI _ _ Dv,aB9 k1,aB9 k2,aB9 k3,aC0,cg]
  ·show bK (S.step (S.tab n)) _ _ _=_;simp only[fB,B.nS,B.kS _ _ Dv,aB9 k1,aB9 k2,aB9 k3,aC0,cg]
end Go.Abs.D
end

section
namespace Go.Abs.D
variable(G:Toks)
def JBs (F:LI)(a:Nat):Prop:=∀(nd:List Node) (r:LI) (s0:Int),s0∈F->a<G.out.length->W nd<=4*a->((KA G.out a=1/\Ac G.out (s0::r) (a+1))\/(KA G.out a=40/\Ac G.out (1018::41::s0::r) (a+1)))->
 ∃(a' m:Nat) (iF:List Node) (s':Int),s'∈F/\Nx G (s'::r) a nd a' iF m/\(KA G.out a'≠48/\KA G.out a'≠44/\KA G.out a'≠40)/\
  (Evt λn=>eX (S.tab n) (G.tI,(a:Int),nd,())=some ((m:Int),(G.tI,(a':Int),iF,()),()))/\
  Evt λn=>dz (S.tab n) (G.tS,(a:Int),nd,())=some ((m:Int),(G.tS,(a':Int),iF,()),())
theorem C9 {F:LI}(hF:OK F){a:Nat}(hX:∀a',a<a'->JX G a'):JBs G F a:=by
 intro nd r s0 Y2 ha hn hA;have hL:=G.len
 have tail:∀(a1 m1:Nat) (dK:List Node),a<a1->a1<=G.out.length->dK.length=m1+1->W dK<=4*a1->Ac G.out (s0::r) a1->
   ∃(a' m':Nat) (iF:List Node) (s':Int),a1<=a'/\a'<=G.out.length/\iF.length=m'+1/\W iF+4*a1<=W dK+4*a'/\s'∈F/\Ac G.out (s'::r) a'/\(KA G.out a'≠48/\KA G.out a'≠44/\KA G.out a'≠40)/\
   (Evt λn=>cW (S.tab n) (G.tI,(a1:Int),dK,()) ↑a (m1:Int)=some (Sum.inl ((G.tI,(a':Int),iF,()),(m':Int),())))/\
   Evt λn=>dY (S.tab n) (G.tS,(a1:Int),dK,()) ↑m1 (tkA G.out a)=some (Sum.inl ((G.tS,(a':Int),iF,()),(m':Int),())):=λa1 m1 dK h1 h2 h3 h4 h5=>by
  obtain⟨a2,m2,iI,s2,q1,q2,q3,q4,q5,q6,q7,qI,qS⟩:=Pq G hF ha r hX (G.out.length+1) a1 m1 dK s0 (by omega) h1 h2 h3 h4 Y2 h5;refine⟨a2,m2,iI,s2,q1,q2,q3,q4,q5,q6,q7,qI.up λn h=> ?_,qS.up λn h=> ?_⟩
  ·show cW (S.step (S.tab n)) _ _ _=_;simp only[tM,h,aC0,aO,aE3]
  ·show dY (S.step (S.tab n)) _ _ _=_;simp only[tf,h,aC0,aO,aE3]
 rcases hA with⟨hk,hA⟩|⟨hk,hA⟩
 ·have ag2:KA G.out a≠40:=(by omega);have Dw:=iY (nd:=nd) (x:=(26,(tkA G.out a).2.1,(tkA G.out a).2.2.1,(tkA G.out a).2.2.2.1,0,0,(tkA G.out a).2.2.2.2.2.1,[],[],())) (S8 G (by decide) (G.R8 _) (by simp));obtain⟨a2,m2,iI,s2,q1,q2,q3,q4,q5,q6,q7,qI,qS⟩:=tail (a+1) nd.length (nd++[(26,(tkA G.out a).2.1,(tkA G.out a).2.2.1,(tkA G.out a).2.2.2.1,0,0,(tkA G.out a).2.2.2.2.2.1,[],[],())]) (by omega) (by omega) (by simp) (by omega) hA;refine⟨a2,m2,iI,s2,q5,⟨by omega,q2,q3,by omega,q6⟩,q7,(G.base.and qI).up λn ⟨B,hq⟩=> ?_,(G.base.and qS).up λn ⟨B,hq⟩=> ?_⟩
  ·show eX (S.step (S.tab n)) _=_;simp only[mW,B.eI _ _ _ (Nat.le_of_lt ha),aB9 ag2,aC0,cg,aD1,B.tI _ _ ha,B.cI _ _ _ _ ha ha (show nd.length<=300000 by have:=iu nd;omega)];have hq:cW (S.tab n) (G.tI,((a+1:Nat):Int),nd++[IG G.out a (a+1) (26,0,0,0,0,0,(tkA G.out a).2.2.2.2.2.1,[],[],())],()) ↑a (nd.length:Int)=_:=hq;simp only[hq,aC0,aO,aE3]
  ·show dz (S.step (S.tab n)) _=_;simp only[me,B.tS _ _ ha,G.kdA ha,aC1 hk,aC0,cc,B.nS,B.aS _ _ _ ha (show nd.length<=300000 by have:=iu nd;omega),hq,aO,aE3]
 ·obtain⟨a1,m1,dK,⟨n1,n2,n3,n4,n5⟩,eI,eS⟩:=hX (a+1) (by omega) nd (41::s0::r) (by omega) (by omega) hA;obtain⟨oI,_,hA⟩:=jb n5 n2 (by decide);have Tk:KA G.out a≠1:=(by omega);have ng:(decide ((0:Int)<=(m1:Int))&&decide ((m1:Int)<(dK.length:Int)))=true:=an (by omega)
  by_cases e:(at_ (τ:=aj) dK ↑m1).1=34\/(at_ (τ:=aj) dK ↑m1).1=27
  ·have Dw:=iY (nd:=dK) (x:=(37,(tkA G.out a).2.1,(tkA G.out a1).2.2.1,(tkA G.out a).2.2.2.1,0,0,[],[],[(m1:Int)],())) (vT G (by decide) (by simp));obtain⟨a2,m2,iI,s2,q1,q2,q3,q4,q5,q6,q7,qI,qS⟩:=tail (a1+1) dK.length (dK++[(37,(tkA G.out a).2.1,(tkA G.out a1).2.2.1,(tkA G.out a).2.2.2.1,0,0,[],[],[(m1:Int)],())]) (by omega) (by omega) (by simp) (by omega) hA;refine⟨a2,m2,iI,s2,q5,⟨by omega,q2,q3,by omega,q6⟩,q7,((G.base.and eI).and qI).up λn ⟨⟨B,h⟩,hq⟩=> ?_,((G.base.and eS).and qS).up λn ⟨⟨B,h⟩,hq⟩=> ?_⟩
   ·show eX (S.step (S.tab n)) _=_;have hq:cW (S.tab n) (G.tI,((a1+1:Nat):Int),dK++[IG G.out a (a1+1) (37,0,0,0,0,0,[],[],[(m1:Int)],())],()) ↑a (dK.length:Int)=_:=hq;simp only[mW,B.eI _ _ _ (Nat.le_of_lt ha),aC1 hk,aC0,cc,aD6,h,B.tI _ _ oI];rw[ad ng]
    by_cases e1:(at_ (τ:=aj) dK ↑m1).1=34
    ·simp only[aC1 e1,cc,B.cI _ _ _ _ oI ha (show dK.length<=300000 by have:=iu dK;omega),aC0,hq,aO,aE3]
    ·simp only[aB9 e1,aC1 (e.resolve_left e1),cg,cc,B.cI _ _ _ _ oI ha (show dK.length<=300000 by have:=iu dK;omega),aC0,hq,aO,aE3]
   ·show dz (S.step (S.tab n)) _=_;simp only[me,B.tS _ _ ha,G.kdA ha,aB9 Tk,aC0,cg,h,B.tS _ _ oI];rw[ad ng]
    by_cases e1:(at_ (τ:=aj) dK ↑m1).1=34
    ·simp only[aC1 e1,cc,B.nS,B.aS _ _ _ oI (show dK.length<=300000 by have:=iu dK;omega),aC0,hq,aO,aE3]
    ·simp only[aB9 e1,aC1 (e.resolve_left e1),cg,cc,B.nS,B.aS _ _ _ oI (show dK.length<=300000 by have:=iu dK;omega),aC0,hq,aO,aE3]
  ·obtain⟨a2,m2,iI,s2,q1,q2,q3,q4,q5,q6,q7,qI,qS⟩:=tail (a1+1) m1 dK (by omega) (by omega) n3 (by omega) hA
   have e1:(at_ (τ:=aj) dK ↑m1).1≠34:=λh=>e (.inl h)
   have e2:(at_ (τ:=aj) dK ↑m1).1≠27:=λh=>e (.inr h)
   refine⟨a2,m2,iI,s2,q5,⟨by omega,q2,q3,by omega,q6⟩,q7,((G.base.and eI).and qI).up λn ⟨⟨B,h⟩,hq⟩=> ?_,((G.base.and eS).and qS).up λn ⟨⟨B,h⟩,hq⟩=> ?_⟩
   ·show eX (S.step (S.tab n)) _=_;simp only[mW,B.eI _ _ _ (Nat.le_of_lt ha),aC1 hk,aC0,cc,aD6,h,B.tI _ _ oI];rw[ad ng];simp only[aB9 e1,aB9 e2,cg,hq,aC0,aO,aE3]
   ·show dz (S.step (S.tab n)) _=_;simp only[me,B.tS _ _ ha,G.kdA ha,aB9 Tk,aC0,cg,h,B.tS _ _ oI];rw[ad ng];simp only[aB9 e1,aB9 e2,cg,hq,aC0,aO,aE3]
def VF (q:LI):Prop:=q=[1024]\/q=[1025]\/q=[1026]\/q=[]
theorem Ya:(kinds.all λk=>decide (stI 1024 k=bif decide (k=49)then .left []else bif decide (k=1)then .left [1025]else .gone)&&(decide (stI 1025 k=bif decide (k=46)then .left [1026]else .gone)&&decide (stI 1026 k=bif decide (k=1)then .left [1025]else bif decide (k=49)then .left []else .no)))=true:=by kernel_rfl
theorem Po {q r:LI}(hq:VF q){a:Nat}(ha:a<=G.out.length)(h:Ac G.out (q++41::r) a):(KA G.out a=41/\a<G.out.length/\Ac G.out r (a+1))\/(KA G.out a≠41/\a<G.out.length/\∃q',VF q'/\Ac G.out (q'++41::r) (a+1)):=by
 have ht:=G.tab Ya a;simp only[aC6,aC4]at ht;obtain⟨t1,t2,t3⟩:=ht
 have fin:Ac G.out (41::r) a->KA G.out a=41/\a<G.out.length/\Ac G.out r (a+1):=λh=>by
  obtain⟨h1,h2,h3⟩:=jb h ha (by decide);exact⟨h2,h1,h3⟩
 rcases hq with rfl|rfl|rfl|rfl
 ·by_cases k1:KA G.out a=49
  ·rw[aC1 k1]at t1;obtain⟨hl,h⟩:=b9 t1 rfl h ha;exact .inr ⟨by omega,hl,[], .inr (.inr (.inr rfl)),h⟩
  rw[aB9 k1]at t1
  by_cases k2:KA G.out a=1
  ·rw[aC1 k2]at t1;obtain⟨hl,h⟩:=b9 t1 rfl h ha;exact .inr ⟨by omega,hl,[1025], .inr (.inl rfl),h⟩
  rw[aB9 k2]at t1;exact .inl (fin (fi t1 rfl h ha))
 ·by_cases k1:KA G.out a=46
  ·rw[aC1 k1]at t2;obtain⟨hl,h⟩:=b9 t2 rfl h ha;exact .inr ⟨by omega,hl,[1026], .inr (.inr (.inl rfl)),h⟩
  rw[aB9 k1]at t2;exact .inl (fin (fi t2 rfl h ha))
 ·by_cases k2:KA G.out a=1
  ·rw[aC1 k2]at t3;obtain⟨hl,h⟩:=b9 t3 rfl h ha;exact .inr ⟨by omega,hl,[1025], .inr (.inl rfl),h⟩
  rw[aB9 k2]at t3
  by_cases k1:KA G.out a=49
  ·rw[aC1 k1]at t3;obtain⟨hl,h⟩:=b9 t3 rfl h ha;exact .inr ⟨by omega,hl,[], .inr (.inr (.inr rfl)),h⟩
  rw[aB9 k1]at t3;exact(qD t3 rfl h ha).elim
 ·exact .inl (fin h)
def nmO (ns:List LI)(a:Nat):Prop:=(∀m∈ns,∀c∈m,isByte c)/\ns.length<=a
theorem nmO.snoc {ns:List LI}{a b:Nat}(h:nmO ns a)(ao0:a<b){m:LI}(hm:∀c∈m,isByte c):nmO (ns++[m]) b:=
 ⟨λx hx=>by
  rcases aE9.1 hx with hx|hx
  ·exact h.1 x hx
  ·rw[List.mem_singleton.1 hx];exact hm,by have:=h.2;simp;omega⟩
theorem nmO.up {ns:List LI}{a b:Nat}(h:nmO ns a)(ao0:a<=b):nmO ns b:=⟨h.1,Nat.le_trans h.2 ao0⟩
theorem Pk (b:Nat)(nd:List Node)(f ln:Int)(r:LI):∀(d a:Nat)(q:LI)(op:Int)(ns:List LI),G.out.length<a+d->a<=G.out.length->VF q->nmO ns a->rg op->Ac G.out (q++41::r) a->
  ∃(a':Nat) (WA:Int) (RK:List LI),a<=a'/\a'<G.out.length/\Ac G.out r (a'+1)/\(nmO RK a'/\rg WA)/\
   (Evt λn=>dm (S.tab n) (G.tI,(a:Int),nd,()) ↑b (36,0,0,0,op,0,[],ns,[],())=some (Sum.inl ((G.tI,((a'+1:Nat):Int),nd,()),(b:Int),(36,0,0,0,WA,0,[],RK,[],()),())))/\
   Evt λn=>fg (S.tab n) (G.tS,(a:Int),nd,()) (36,f,0,ln,op,0,[],ns,[],())=some (Sum.inl ((G.tS,(a':Int),nd,()),(36,f,0,ln,WA,0,[],RK,[],()),())):=by
 intro d
 induction d with
 |zero=>intro a q op ns h h2;omega
 |succ d ih=>
  intro a q op ns hd ha hq FC Y1 hA;have hL:=G.len
  rcases Po G hq ha hA with⟨hk,hl,h⟩|⟨hk,hl,q',Pd,h⟩
  ·refine⟨a,op,ns,aE5 _,hl,h,⟨FC,Y1⟩,G.base.up λn B=> ?_,G.base.up λn B=> ?_⟩
   ·show dm (S.step (S.tab n)) _ _ _=_;simp only[kQ,B.eI _ _ _ ha,aC1 hk,aC0,aE6,cg,aD6]
   ·show fg (S.step (S.tab n)) _ _=_;simp only[mT,B.kS _ _ ha,aC1 hk,aC0,aE6,cg]
  ·by_cases k1:KA G.out a=1
   ·have k2:KA G.out a≠49:=(by omega);obtain⟨a',WA,RK,p1,p2,p3,p4,pI,pS⟩:=ih (a+1) q' op (ns++[(tkA G.out a).2.2.2.2.2.1]) (by omega) (by omega) Pd (FC.snoc (by omega) (G.R8 _)) Y1 h;refine⟨a',WA,RK,by omega,p2,p3,p4,(G.base.and pI).up λn ⟨B,hp⟩=> ?_,(G.base.and pS).up λn ⟨B,hp⟩=> ?_⟩
    ·show dm (S.step (S.tab n)) _ _ _=_;simp only[kQ,B.eI _ _ _ ha,aB9 hk,aC0,aE8,cc,aD1,B.tI _ _ hl,G.kdA hl,aB9 k2,aC1 k1,cg];rw[ad (bc (by have:=FC.2;unfold lim;simp only[aC3,aC5];omega))];exact hp
    ·show fg (S.step (S.tab n)) _ _=_;simp only[mT,B.kS _ _ ha,aB9 hk,aC0,aE8,cc,B.tS _ _ hl,G.kdA hl,aC1 k1];rw[ad (bc (by have:=FC.2;unfold lim;simp only[aC3,aC5];omega))];exact hp
   ·obtain⟨a',WA,RK,p1,p2,p3,p4,pI,pS⟩:=ih (a+1) q' (bif decide (KA G.out a=49)then 1 else op) ns (by omega) (by omega) Pd (FC.up (by omega)) (by cases decide (KA G.out a=49);exact Y1;exact(by decide:rg 1)) h;refine⟨a',WA,RK,by omega,p2,p3,p4,(G.base.and pI).up λn ⟨B,hp⟩=> ?_,(G.base.and pS).up λn ⟨B,hp⟩=> ?_⟩
    ·show dm (S.step (S.tab n)) _ _ _=_;simp only[kQ,B.eI _ _ _ ha,aB9 hk,aC0,aE8,cc,aD1,B.tI _ _ hl,G.kdA hl,aB9 k1]
     cases Rg:decide (KA G.out a=49)with
     |true=>rw[Rg]at hp;rw[cc];exact hp
     |false=>rw[Rg]at hp;rw[cg,cg];exact hp
    ·show fg (S.step (S.tab n)) _ _=_;simp only[mT,B.kS _ _ ha,aB9 hk,aC0,aE8,cc,B.tS _ _ hl,G.kdA hl,aB9 k1,cg]
     cases Rg:decide (KA G.out a=49)with
     |true=>rw[Rg]at hp;rw[cc];exact hp
     |false=>rw[Rg]at hp;rw[cg];exact hp
def JF (b a:Nat):Prop:=∀(nd:List Node) (r:LI),b<G.out.length->a<=G.out.length->W nd<=4*a->Ac G.out (1028::r) a->∃(a' m:Nat) (iF:List Node),Nx G r a nd a' iF m/\
 (Evt λn=>kC (S.tab n) (G.tI,(a:Int),nd,()) (b:Int)=some ((m:Int),(G.tI,(a':Int),iF,()),(),()))/\
 Evt λn=>nr (S.tab n) (G.tS,(a:Int),nd,()) (36,(tkA G.out b).2.1,0,(tkA G.out b).2.2.2.1,0,0,[],[],[],())=some ((m:Int),(G.tS,(a':Int),iF,()),uN,())
theorem QB:(kinds.all λk=>decide (stI 1028 k=bif decide (k=40)then .left [1024,41,1027]else .no))=true:=by kernel_rfl
theorem HS:(kinds.all λk=>decide (stI 1027 k=bif decide (k=42)then .left [1000,43]else .no))=true:=by kernel_rfl
theorem Pj {b a:Nat}(hB:∀a',a<a'->JN G bV da [1027] a'):JF G b a:=by
 intro nd r hb ha hn hA;have hL:=G.len;have ht:=of_decide_eq_true (G.tab QB a)
 by_cases hk:KA G.out a=40
 ·rw[aC1 hk]at ht;obtain⟨hl,hA⟩:=b9 ht rfl hA ha;obtain⟨a1,op,ns,p1,p2,p3,⟨FC,Y1⟩,pI,pS⟩:=Pk G b nd (tkA G.out b).2.1 (tkA G.out b).2.2.2.1 (1027::r) (G.out.length+1) (a+1) [1024] 0 [] (by omega) (by omega) (.inl rfl) ⟨(λ_ h=>nomatch h),by simp⟩ (by decide) hA;obtain⟨a2,m,iI,⟨n1,n2,n3,n4,n5⟩,eI,eS⟩:=hB (a1+1) (by omega) nd r (by omega) (by omega) p3;obtain⟨c,rfl⟩:∃c,a2=c+1:=⟨a2 - 1,by omega⟩;have Dw:=iY (nd:=iI) (x:=(36,(tkA G.out b).2.1,(tkA G.out c).2.2.1,(tkA G.out b).2.2.2.1,op,0,[],ns,[(m:Int)],())) (S0 G ⟨by decide,Y1,by decide⟩ FC.1 (by have:=FC.2;omega) (by simp));refine⟨c+1,iI.length,iI++[(36,(tkA G.out b).2.1,(tkA G.out c).2.2.1,(tkA G.out b).2.2.2.1,op,0,[],ns,[(m:Int)],())],⟨by omega,n2,by simp,by omega,n5⟩,((G.base.and pI).and eI).up λn ⟨⟨B,hp⟩,h⟩=> ?_,((G.base.and pS).and eS).up λn ⟨⟨B,hp⟩,h⟩=> ?_⟩
  ·show kC (S.step (S.tab n)) _ _=_;simp only[xZ,B.tI _ _ hl,aC0,hp,aO,aE3,h,B.cI _ _ _ _ (show c<G.out.length by omega) hb (show iI.length<=300000 by have:=iu iI;omega)];rfl
  ·show nr (S.step (S.tab n)) _ _=_;simp only[AY,B.tS _ _ hl,aC0,hp,aO,aE3,B.tS _ _ p2,h,B.aS _ _ _ (show c<G.out.length by omega) (show iI.length<=300000 by have:=iu iI;omega)]
 ·rw[aB9 hk]at ht;exact(qD ht rfl hA ha).elim
end Go.Abs.D
end
