/- What is here: nodeOk on both sides: the same. -/
import Derived.Test.YtkmplfkiafonkaaGreatDoorR4
set_option linter.unusedVariables false
set_option linter.unusedSimpArgs false
set_option maxRecDepth 100000
open Go.IntKind (i64 u64 u8)
section
namespace Go.Abs.D
theorem kx (l:List aa.den)(j:Nat)(h:j<l.length):at_ (τ:=aa) l (j:Int)=l[j]:=by
 show(l.getD (j:Int).toNat _)=_;rw[Int.toNat_natCast,Wm,Wl h];rfl
def inR (i:Nat)(k:Int):Bool:=decide (0≤k)&&decide (k<(i:Int))
def okN (ns:List aa.den)(i:Nat)(x:aa.den):Bool:=
 bif decide (x.2.1<0)then false else
 bif decide (x.2.2.1<x.2.1)then false else
 bif decide (x.2.2.2.1<0)then false else
 bif decide (200<(ab x).length)then false else
 bif(ab x).all (inR i)then(bif bN x.1 then KS (ns,()) x (af ns x) (al x) x.2.2.2.2.1 x.2.2.2.2.2.1 x.2.2.2.2.2.2.1 x.1 else KE (ns,()) x (af ns x) (al x) x.2.2.2.2.1 x.2.2.2.2.2.1 x.2.2.2.2.2.2.1 x.1)else false
structure NodeOk (x:aa.den):Prop where
 text:∀c∈x.2.2.2.2.2.2.1,isByte c
 names:∀m∈al x,∀c∈m,isByte c
 nn:(al x).length≤2097152
 nk:(ab x).length≤2097152
theorem Pk {T:S.Tab}(ks:LI)(z:Int)(hl:ks.length≤200)(OU:1≤z→z≤ks.length→aL T z (ks.length:Int) ks=some (EX ks z.toNat ks.length,(),(),ks,()))
  (Tc:1≤z→z≤ks.length→bG T ks z (ks.length:Int) (sub ks 0 z) ((sub ks 0 z).length:Int) 0=some (bif(bB ks 0 z.toNat).all dc then Sum.inr (Sum.inl (ks,z,(ks.length:Int),()))else Sum.inl (false,()))):
  brk (decide (z<1)) (some (false,aD)) (brk (decide (i64.wrap ((ks.length:Int) - 1)<z)) (some (false,aD)) (brk (bounds ks.length 0 z) ((bG T ks z (ks.length:Int) (sub ks 0 z) ((sub ks 0 z).length:Int) 0).bind (bC (fun KX=>some (KX.1,aD)) (fun KX=>(aL T KX.2.1 KX.2.2.1 KX.1).bind fun d204=>some (d204.1,aD)))) none))=
   some (true&&(decide (1≤z)&&(decide (z<(ks.length:Int))&&((bB ks 0 z.toNat).all dc&&EX ks z.toNat ks.length))),aD):=by
 have wk:i64.wrap ((ks.length:Int) - 1)=(ks.length:Int) - 1:=wrap64 _ (by omega) (by omega);rw[wk,V9]
 by_cases h1:1≤z
 ·rw[ae (by omega),VY h1]
  by_cases h2:z<(ks.length:Int)
  ·have hb:bounds ks.length 0 z=true:=by
    unfold bounds;rw[VY (show(0:Int)≤0 by omega),VY (show(0:Int)≤z by omega),VY (show z≤(ks.length:Int)by omega)];rfl
   rw[ae (by omega),VY h2,aj hb,Tc h1 (by omega)]
   cases(bB ks 0 z.toNat).all dc with
   |true=>
    simp only[Wg,VX,bC,Wx,Wn];rw[OU h1 (by omega)];rfl
   |false=>rfl
  ·rw[ak (by omega),VW h2];rfl
 ·rw[ak (by omega),VW h1];rfl
variable{ns:List aa.den}{i:Nat}{x:aa.den}(hx:NodeOk x)(hi:i<ns.length)(hn:ns.length≤3000)
include hi hn
theorem JB (hl:(ab x).length≤200):∀(k j:Nat),j+k=(ab x).length→Evt fun n=>ia (S.tab n) ↑i (ns,()) x ((af ns x).take j) (ab x) ((ab x).length:Int) (j:Int)=some (bif((ab x).drop j).all (inR i)then Sum.inr (Sum.inl (x,af ns x,()))else Sum.inl (false,()))
 |0,j,h=>aB.up fun n _=>by
  have:j=(ab x).length:=(by omega);subst this;rw[pn,ay (by simp),List.drop_length]
  have:(af ns x).take (ab x).length=af ns x:=by
   rw[List.take_of_length_le];unfold af;rw[List.length_map];exact Wp _
  rw[this];rfl
 |k+1,j,h=>by
  have hj:j<(ab x).length:=(by omega)
  have Hr:j<(af ns x).length:=by unfold af;rw[List.length_map];exact hj
  refine((JB hl k (j+1) (by omega)).and AW).up fun n ⟨ih,rI⟩=> ?_
  have wi:i64.wrap ((i:Int) - 1)=(i:Int) - 1:=wrap64 _ (by omega) (by omega);rw[pn,ak (by omega),aj (av hj),oY hj,wi,rI,VX,List.drop_eq_getElem_cons hj,List.all_cons,bf (by omega)]
  have e:(decide ((0:Int)≤(ab x)[j])&&decide ((ab x)[j]≤(i:Int) - 1))=inR i (ab x)[j]:=by
   unfold inR
   congr 1
   by_cases h:(ab x)[j]<(i:Int)
   ·rw[VY h,VY (by omega)]
   ·rw[VW h,VW (by omega)]
  rw[e]
  cases hr:inR i (ab x)[j]with
  |false=>rw[aj (by rfl)];rfl
  |true=>
   unfold inR at hr;rw[V6,V4,V4]at hr
   have e2:(af ns x).take (j+1)=(af ns x).take j++[fO ns (ab x)[j]]:=by
    have hm:(af ns x)[j]=fO ns (ab x)[j]:=List.getElem_map ..;rw[List.take_add_one,Wl Hr,hm];rfl
   have ef:fits (((af ns x).take j).length+([(at_ (τ:=aa) (ns,()).1 (ab x)[j]).1]:LI).length)=true:=dZ (by
    unfold lim
    rw[WA,WW];omega)
   rw[ay (by rfl),aj (by
    show(decide ((0:Int)≤(ab x)[j])&&decide ((ab x)[j]<(ns.length:Int)))=true
    rw[VY hr.1,VY (by omega)];rfl),aj ef]
   rw[e2]at ih;exact ih
omit hi hn in
theorem K8 (hx:NodeOk x)(ks:LI):Evt fun n=>bX (S.tab n) x ks (al x) ((al x).length:Int) 0=some (bif(al x).all (cL 1)then Sum.inr (Sum.inl (x,ks,()))else Sum.inl (false,())):=by
 have hg:∀(l:List LI),(∀m∈l,∀c∈m,isByte c)→Evt fun n=>∀m∈l,eE (S.tab n) m=some (cL 1 m,gq):=by
  intro l
  induction l with
  |nil=>intro _;exact Evt.of fun _ m h=>by cases h
  |cons a l ih=>
   intro h
   refine((sG (s:=a) (h a (Wk ..))).and (ih fun m hm=>h m (Wj _ hm))).mono fun n ⟨h1,h2⟩ m hm=> ?_
   rcases WE.1 hm with rfl|hm
   ·exact h1
   ·exact h2 m hm
 have Gv:=hx.nn
 have:=xx (F:=fun T j=>bX T x ks (al x) ((al x).length:Int) ↑j) (P:=cL 1) (l:=al x) (yes:=Sum.inr (Sum.inl (x,ks,()))) (no:=Sum.inl (false,())) (q:=fun T=>∀m∈al x,eE T m=some (cL 1 m,gq)) (hg _ hx.names)
  (fun T j h hT=>by
   show bX (S.step T) _ _ _ _ _=bif _ then bX T x ks (al x) ((al x).length:Int) ((j+1:Nat):Int)else _
   rw[od,ak (by omega),aj (av h),GO h,hT _ (WO h),VX,bf (by omega)]
   cases cL 1 (al x)[j]with
   |true=>rw[ay (by rfl)];rfl
   |false=>rw[aj (by rfl)];rfl)
  (fun T hT=>by
   show bX (S.step T) _ _ _ _ _=_
   rw[od,ay (by simp)]) (al x).length 0 (by omega)
 rw[List.drop_zero]at this;exact this
omit hi hn in
theorem K7 (hl:(ab x).length≤200):Evt fun n=>cA (S.tab n) ↑i (ns,()) x (ab x) ((ab x).length:Int) 0=some (bif(ab x).all (inR i)then Sum.inr (Sum.inl ((ns,()),x,()))else Sum.inl (false,())):=by
 have:=xx (F:=fun T j=>cA T ↑i (ns,()) x (ab x) ((ab x).length:Int) ↑j) (P:=inR i) (l:=ab x) (yes:=Sum.inr (Sum.inl ((ns,()),x,()))) (no:=Sum.inl (false,())) (q:=Base2) aB
  (fun T j h hT=>by
   show cA (S.step T) _ _ _ _ _ _=bif _ then cA T ↑i (ns,()) x (ab x) ((ab x).length:Int) ((j+1:Nat):Int)else _
   rw[nq,ak (by omega),aj (av h),oY h,bf (by omega)];unfold inR
   by_cases h1:(0:Int)≤(ab x)[j]
   ·rw[ae (by omega),VY h1]
    by_cases h2:(ab x)[j]<(i:Int)
    ·rw[ae (by omega),VY h2];rfl
    ·rw[ak (by omega),VW h2];rfl
   ·rw[ak (by omega),VW h1];rfl)
  (fun T hT=>by
   show cA (S.step T) _ _ _ _ _ _=_
   rw[nq,ay (by simp)]) (ab x).length 0 (by omega)
 rw[List.drop_zero]at this;exact this
include hx
theorem yV (S2:ns[i]=x):Evt fun n=>gN (S.tab n) (ns,()) (i:Int)=some (okN ns i x,aD):=by
 have Fp:at_ (τ:=aa) ns (i:Int)=x:=by rw[kx _ _ hi];exact S2
 have SY:at_ (τ:=aa) ((ns,()):Tr).1 (i:Int)=x:=Fp
 have start:∀n,gN (S.step (S.tab n)) (ns,()) (i:Int)=_:=fun n=>by
  rw[yZ,aj (av hi),SY]
 unfold okN
 by_cases c1:x.2.1<0
 ·refine aB.up fun n _=> ?_
  rw[start,ak c1,VY c1];rfl
 by_cases c2:x.2.2.1<x.2.1
 ·refine aB.up fun n _=> ?_
  rw[start,ae c1,ak c2,VW c1,VY c2];rfl
 by_cases c3:x.2.2.2.1<0
 ·refine aB.up fun n _=> ?_
  rw[start,ae c1,ae c2,ak c3,VW c1,VW c2,VY c3];rfl
 rw[VW c1,VW c2,VW c3]
 by_cases c4:200<(ab x).length
 ·refine aB.up fun n _=> ?_
  have d4:decide ((200:Int)<(x.2.2.2.2.2.2.2.2.1.length:Int))=true:=VY (by unfold ab at c4;omega);rw[start,ae c1,ae c2,ae c3,aj d4,VY c4];rfl
 have d4:decide ((200:Int)<(x.2.2.2.2.2.2.2.2.1.length:Int))=false:=VW (by unfold ab at c4;omega);rw[VW c4];simp only[Wb];have hl:(ab x).length≤200:=(by omega)
 have ID:(af ns x).length≤200:=by unfold af;rw[List.length_map];exact hl
 rw[←alike]
 by_cases c5:¬ ((al x).length:Int)≤200
 ·have d5:decide ((200:Int)<(x.2.2.2.2.2.2.2.1.length:Int))=true:=VY (by unfold al at c5;omega)
  refine aB.up fun n _=> ?_
  rw[start,ae c1,ae c2,ae c3,ay d4,aj d5,VW c5];cases(ab x).all (inR i)<;>rfl
 replace c5:=Decidable.not_not.1 c5
 have d5:decide ((200:Int)<(x.2.2.2.2.2.2.2.1.length:Int))=false:=VW (by unfold al at c5;omega);rw[VY c5,V9];have h6:=JB hi hn hl (ab x).length 0 (by omega);rw[List.drop_zero]at h6
 have step2:∀n,gN (S.step (S.tab n)) (ns,()) (i:Int)=_:=fun n=>by
  rw[start,ae c1,ae c2,ae c3,ay d4,ay d5]
 cases hr:(ab x).all (inR i)with
 |false=>
  rw[hr]at h6
  refine h6.up fun n h=> ?_
  have h:ia (S.tab n) ↑i (ns,()) x [] x.2.2.2.2.2.2.2.2.1 (x.2.2.2.2.2.2.2.2.1.length:Int) 0=_:=h;rw[step2,h];rfl
 |true=>
  rw[hr]at h6;have rH:=K8 hx (af ns x);have Qr:=Py (af ns x) ID ((al x).length:Int) x.2.2.2.2.1 x.2.2.2.2.2.1 x.2.2.2.2.2.2.1 hx.text
  have rT:∀n,ia (S.tab n) ↑i (ns,()) x [] x.2.2.2.2.2.2.2.2.1 (x.2.2.2.2.2.2.2.2.1.length:Int) 0=some (Sum.inr (Sum.inl (x,af ns x,())))→gN (S.step (S.tab n)) (ns,()) (i:Int)=_:=fun n h=>by
   rw[step2,h,VX]
  cases Up:(al x).all (cL 1)with
  |false=>
   rw[Up]at rH
   refine(h6.and rH).up fun n ⟨h,rH⟩=> ?_
   have rH:bX (S.tab n) x (af ns x) x.2.2.2.2.2.2.2.1 (x.2.2.2.2.2.2.2.1.length:Int) 0=_:=rH;rw[rT n h];show(bX (S.tab n) x (af ns x) x.2.2.2.2.2.2.2.1 (x.2.2.2.2.2.2.2.1.length:Int) 0).bind _=_;rw[rH];rfl
  |true=>
   rw[Up]at rH
   have PZ:Evt fun n=>∀fl,fC (S.tab n) (af ns x) ((al x).length:Int) x.2.2.2.2.1 x.2.2.2.2.2.1 x.2.2.2.2.2.2.1 ((af ns x).length:Int) x.1 fl=some (R84 (af ns x) ((al x).length:Int) x.2.2.2.2.1 x.2.2.2.2.2.1 x.2.2.2.2.2.2.1 x.1 fl):=Qr.up fun n h fl=>r84 h ID x.1 fl
   have Rt:Evt fun n=>∀fl,gx (S.tab n) (af ns x) ((al x).length:Int) x.2.2.2.2.1 x.2.2.2.2.2.1 x.2.2.2.2.2.2.1 ((af ns x).length:Int) x.1 fl=some (R72 (af ns x) ((al x).length:Int) x.2.2.2.2.1 x.2.2.2.2.2.1 x.2.2.2.2.2.2.1 x.1 fl):=(Qr.and PZ).up fun n ⟨h,h'⟩ fl=>r72 h ID x.1 h' fl
   have MT:Evt fun n=>∀fl,cX (S.tab n) (af ns x) ((al x).length:Int) x.2.2.2.2.1 x.2.2.2.2.2.1 x.2.2.2.2.2.2.1 ((af ns x).length:Int) x.1 fl=some (R65 (af ns x) ((al x).length:Int) x.2.2.2.2.1 x.2.2.2.2.2.1 x.2.2.2.2.2.2.1 x.1 fl):=(Qr.and Rt).up fun n ⟨h,h'⟩ fl=>r65 h ID x.1 h' fl
   have Rl:Evt fun n=>∀fl,iF (S.tab n) (af ns x) ((al x).length:Int) x.2.2.2.2.1 x.2.2.2.2.2.1 x.2.2.2.2.2.2.1 ((af ns x).length:Int) x.1 fl=some (R50 (af ns x) ((al x).length:Int) x.2.2.2.2.1 x.2.2.2.2.2.1 x.2.2.2.2.2.2.1 x.1 fl):=(Qr.and MT).up fun n ⟨h,h'⟩ fl=>r50 h ID x.1 h' fl
   refine((h6.and rH).and (Qr.and Rl)).up fun n ⟨⟨h,rH⟩,hI,Rl⟩=> ?_
   have rH:bX (S.tab n) x (af ns x) x.2.2.2.2.2.2.2.1 (x.2.2.2.2.2.2.2.1.length:Int) 0=_:=rH;rw[rT n h];show(bX (S.tab n) x (af ns x) x.2.2.2.2.2.2.2.1 (x.2.2.2.2.2.2.2.1.length:Int) 0).bind _=_;rw[rH];simp only[Wg,VX,bC,Wx,Wn];have Gv:(x.2.2.2.2.2.2.2.1.length:Int)=((al x).length:Int):=rfl;rw[Gv];unfold KI
   by_cases k1:x.1=1
   ·rw[ak k1,VY k1,Wg,hI.l26]
    cases(af ns x).all bN with
    |true=>simp only[Wg,VX,bC,Wx,Wn,hI.pl,V9]
    |false=>rfl
   rw[ae k1,VW k1,Wb]
   by_cases k2:x.1=2
   ·rw[ak k2,VY k2,Wg,hI.pl,hI.ex0n];simp only[VX]
    cases PL true false false false ((al x).length:Int) x.2.2.2.2.1 x.2.2.2.2.2.1 x.2.2.2.2.2.2.1 with
    |false=>rw[ah];rfl
    |true=>
     rw[an]
     cases decide ((1:Int)≤((al x).length:Int))with
     |false=>rw[ah];rfl
     |true=>rw[an];rfl
   rw[ae k2,VW k2,Wb]
   by_cases k3:x.1=3
   ·rw[ak k3,VY k3,Wg,hI.pl];simp only[VX]
    cases PL true false false false ((al x).length:Int) x.2.2.2.2.1 x.2.2.2.2.2.1 x.2.2.2.2.2.2.1 with
    |false=>rw[ah];rfl
    |true=>
     rw[an]
     cases decide (((al x).length:Int)=1)with
     |false=>rw[ah];rfl
     |true=>
      rw[an]
      by_cases h1:(af ns x).length=1
      ·rw[ak (by omega),hI.ex01 (by omega),VY (show((af ns x).length:Int)=1 by omega)];rfl
      ·rw[ae (by omega),VW (show¬ ((af ns x).length:Int)=1 by omega)];rfl
   rw[ae k3,VW k3,Wb]
   by_cases k4:x.1=4
   ·rw[ak k4,VY k4,Wg,hI.pl];simp only[VX]
    cases PL true false false false ((al x).length:Int) x.2.2.2.2.1 x.2.2.2.2.2.1 x.2.2.2.2.2.2.1 with
    |false=>rw[ah];rfl
    |true=>
     rw[an]
     cases decide (((al x).length:Int)=1)with
     |false=>rw[ah];rfl
     |true=>
      rw[an]
      by_cases h1:(af ns x).length=1
      ·rw[ak (by omega),ak (by omega),VY (show((af ns x).length:Int)=1 by omega)];rfl
      ·rw[ae (by omega),VW (show¬ ((af ns x).length:Int)=1 by omega)];rfl
   rw[ae k4,VW k4,Wb]
   by_cases k5:x.1=5
   ·rw[ak k5,VY k5,Wg,hI.pl];simp only[VX]
    cases PL false false true false ((al x).length:Int) x.2.2.2.2.1 x.2.2.2.2.2.1 x.2.2.2.2.2.2.1 with
    |false=>rw[aj (by rfl)];rfl
    |true=>
     rw[ay (by rfl)];exact Pk (af ns x) x.2.2.2.2.2.1 ID hI.OU hI.Tc
   rw[ae k5,VW k5,Wb]
   by_cases k6:x.1=6
   ·rw[ak k6,VY k6,Wg,Rl]
    cases hR:R50 (af ns x) ((al x).length:Int) x.2.2.2.2.1 x.2.2.2.2.2.1 x.2.2.2.2.2.2.1 x.1 true with
    |inl y=>rfl
    |inr y=>cases y with
     |inl y=>rfl
     |inr y=>exact y.elim
   ·rw[ae k6,VW k6,Wb,Rl]
    cases hR:R50 (af ns x) ((al x).length:Int) x.2.2.2.2.1 x.2.2.2.2.2.1 x.2.2.2.2.2.2.1 x.1 (decide (x.1=16))with
    |inl y=>rfl
    |inr y=>cases y with
     |inl y=>rfl
     |inr y=>exact y.elim
end Go.Abs.D
end

section
namespace Go.Abs.D
variable{ns:List aa.den}{i:Nat}{x:aa.den}(hx:NodeOk x)(hi:i<ns.length)(hn:ns.length≤3000)
theorem Nr {T:S.Tab}(t:Tr)(x:aa.den)(ks:LI)(z:Int)(hz:x.2.2.2.2.2.1=z)(hl:ks.length≤200)(OU:1≤z→z≤ks.length→aN T t x z (ks.length:Int)=some (EX ks z.toNat ks.length,bI))
  (TQ:1≤z→z≤ks.length→bR T t x (ks.length:Int) 0=some (bif(bB ks 0 z.toNat).all dc then Sum.inr (Sum.inl (t,x,(ks.length:Int),()))else Sum.inl (false,()))):
  brk (decide (z<1)) (some (false,az)) (brk (decide ((ks.length:Int)≤z)) (some (false,az)) ((bR T t x (ks.length:Int) 0).bind (bC (fun qT=>some (qT.1,az)) (fun qT=>(aN T qT.1 qT.2.1 qT.2.1.2.2.2.2.2.1 qT.2.2.1).bind fun d112=>some (d112.1,az)))))=
   some (true&&(decide (1≤z)&&(decide (z<(ks.length:Int))&&((bB ks 0 z.toNat).all dc&&EX ks z.toNat ks.length))),az):=by
 rw[V9]
 by_cases h1:1≤z
 ·rw[ae (by omega),VY h1]
  by_cases h2:z<(ks.length:Int)
  ·rw[ae (by omega),VY h2,TQ h1 (by omega)]
   cases(bB ks 0 z.toNat).all dc with
   |true=>
    simp only[Wg,VX,bC,Wx,Wn];rw[hz,OU h1 (by omega)];rfl
   |false=>rfl
  ·rw[ak (by omega),VW h2];rfl
 ·rw[ak (by omega),VW h1];rfl
theorem RX {T:S.Tab}{t:Tr}{x:aa.den}{ks:LI}{names:List LI}{op num:Int}{text:LI}(h:SF T t x ks names op num text):cO (S.step T) t x (ks.length:Int)=some (Sum.inl (bif decide (x.1=15)then PL false false false false (names.length:Int) op num text&&(decide ((ks.length:Int)=1)&&EX ks 0 1)else false,())):=by
 rw[qt]
 by_cases k:x.1=15
 ·rw[ak k,VY k,Wg,h.pl];simp only[VX]
  cases PL false false false false (names.length:Int) op num text with
  |false=>rw[ah];rfl
  |true=>
   rw[an]
   by_cases h1:ks.length=1
   ·rw[ak (by omega),h.ex01 (by omega),VY (show(ks.length:Int)=1 by omega)];rfl
   ·rw[ae (by omega),VW (show¬ (ks.length:Int)=1 by omega)];rfl
 ·rw[ae k,VW k];rfl
theorem RV {T:S.Tab}{t:Tr}{x:aa.den}{ks:LI}{names:List LI}{op num:Int}{text:LI}(h:SF T t x ks names op num text):bK (S.step T) t x (ks.length:Int)=some (Sum.inl (bif decide (x.1=42)then decide ((ks.length:Int)=1)&&(EX ks 0 1&&(PL false false false true (names.length:Int) op num text&&cL 1 text))else false,())):=by
 rw[pW]
 by_cases k:x.1=42
 ·rw[ak k,VY k,Wg]
  by_cases h1:ks.length=1
  ·rw[ak (by omega),h.ex01 (by omega),VY (show(ks.length:Int)=1 by omega)];simp only[VX,h.pl]
   cases EX ks 0 1 with
   |false=>rw[ah];rfl
   |true=>
    rw[an]
    cases PL false false false true (names.length:Int) op num text with
    |false=>rw[ah];rfl
    |true=>
     rw[an,h.xtext,h.gn];rfl
  ·rw[ae (by omega),VW (show¬ (ks.length:Int)=1 by omega)];rfl
 ·rw[ae k,VW k];rfl
def A4 (t:Tr)(x:aa.den)(ks:LI)(y:AnS):Prop:=(∃b,y=Sum.inl (b,()))∨y=Sum.inr (Sum.inl (t,x,(ks.length:Int),()))
theorem jf {t:Tr}{x:aa.den}{ks:LI}{c:Bool}{a b:AnS}(ha:A4 t x ks a)(hb:A4 t x ks b):A4 t x ks (bif c then a else b):=by cases c<;>assumption
theorem mX {t:Tr}{x:aa.den}{ks:LI}(b:Bool):A4 t x ks (Sum.inl (b,())):= .inl ⟨b,rfl⟩
theorem JH {t:Tr}{x:aa.den}{ks:LI}:A4 t x ks (Sum.inr (Sum.inl (t,x,(ks.length:Int),()))):= .inr rfl
section
variable{t:Tr}{ks:LI}{names:List LI}{op num:Int}{text:LI}{kind:Int}
theorem J3 (fl:Bool):A4 t x ks (Q18 t x ks names op num text kind fl):=by
 unfold Q18
 repeat refine jf (mX _) ?_
 exact JH
theorem Hk (fl:Bool):A4 t x ks (Q7 t x ks names op num text kind fl):=by
 unfold Q7;exact jf (mX _) (jf (mX _) (jf (mX _) (jf (mX _) (jf (mX _) (jf (J3 _) (J3 _))))))
theorem J2 (fl:Bool):A4 t x ks (Q41 t x ks names op num text kind fl):=by
 unfold Q41
 repeat refine jf (mX _) ?_
 exact JH
theorem JK (fl:Bool):A4 t x ks (Q28 t x ks names op num text kind fl):=by
 unfold Q28;exact jf (mX _) (jf (mX _) (jf (mX _) (jf (mX _) (jf (mX _) (jf (J2 _) (J2 _))))))
end
section
variable(hk:∀k∈ab x,0≤k∧k<(ns.length:Int))(hl:(ab x).length≤200)
include hx hk hl
theorem Bn:Evt fun n=>jc (S.tab n) (ns,()) x=some (KE (ns,()) x (af ns x) (al x) x.2.2.2.2.1 x.2.2.2.2.2.1 x.2.2.2.2.2.2.1 x.1,bq):=by
 have ID:(af ns x).length≤200:=by unfold af;rw[List.length_map];exact hl
 have L9:=Mq hk hl hx.nn
 have Om:Evt fun n=>∀fl,dw (S.tab n) (ns,()) x ((af ns x).length:Int) x.1 fl=some (Q18 (ns,()) x (af ns x) (al x) x.2.2.2.2.1 x.2.2.2.2.2.1 x.2.2.2.2.2.2.1 x.1 fl):=L9.up fun n h fl=>q18 h ID x.1 fl
 have h7:Evt fun n=>∀fl,cP (S.tab n) (ns,()) x ((af ns x).length:Int) x.1 fl=some (Q7 (ns,()) x (af ns x) (al x) x.2.2.2.2.1 x.2.2.2.2.2.1 x.2.2.2.2.2.2.1 x.1 fl):=(L9.and Om).up fun n ⟨h,h'⟩ fl=>q7 h ID x.1 h' fl
 have Oj:Evt fun n=>bK (S.tab n) (ns,()) x ((af ns x).length:Int)=_:=L9.up fun n h=>RV h
 refine((h7.and Oj).and L9).up fun n ⟨⟨h7,Oj⟩,hF⟩=> ?_
 have hlen:(x.2.2.2.2.2.2.2.2.1.length:Int)=((af ns x).length:Int):=(by rw[hF.xlen])
 have fin:∀y:AnS,A4 (ns,()) x (af ns x) y→((some y:Option AnS).bind (bC (fun y7=>some (y7.1,bq)) (fun y7=>(bK (S.tab n) y7.1 y7.2.1 y7.2.2.1).bind (aR (fun gi=>some (gi.1,bq))))))=some (An2 y (bif decide (x.1=42)then decide (((af ns x).length:Int)=1)&&(EX (af ns x) 0 1&&(PL false false false true ((al x).length:Int) x.2.2.2.2.1 x.2.2.2.2.2.1 x.2.2.2.2.2.2.1&&cL 1 x.2.2.2.2.2.2.1))else false),bq):=fun y hy=>by
  rcases hy with⟨b,rfl⟩|rfl
  ·rfl
  ·show(bK (S.tab n) (ns,()) x ((af ns x).length:Int)).bind _=_;rw[Oj];rfl
 rw[sj];rw[hlen];unfold KE
 by_cases k20:x.1=20
 ·rw[ak k20,VY k20,h7];exact fin _ (Hk _)
 rw[ae k20,VW k20]
 by_cases k21:x.1=21
 ·rw[ak k21,VY k21,h7];exact fin _ (Hk _)
 rw[ae k21,VW k21]
 by_cases k22:x.1=22
 ·rw[ak k22,VY k22,h7];exact fin _ (Hk _)
 rw[ae k22,VW k22,h7];exact fin _ (Hk _)
theorem CR:Evt fun n=>jJ (S.tab n) (ns,()) x=some (KS (ns,()) x (af ns x) (al x) x.2.2.2.2.1 x.2.2.2.2.2.1 x.2.2.2.2.2.2.1 x.1,az):=by
 have ID:(af ns x).length≤200:=by unfold af;rw[List.length_map];exact hl
 have L9:=Mq hk hl hx.nn
 have DT:Evt fun n=>∀fl,dX (S.tab n) (ns,()) x ((af ns x).length:Int) x.1 fl=some (Q41 (ns,()) x (af ns x) (al x) x.2.2.2.2.1 x.2.2.2.2.2.1 x.2.2.2.2.2.2.1 x.1 fl):=L9.up fun n h fl=>q41 h ID x.1 fl
 have lM:Evt fun n=>∀fl,fb (S.tab n) (ns,()) x ((af ns x).length:Int) x.1 fl=some (Q28 (ns,()) x (af ns x) (al x) x.2.2.2.2.1 x.2.2.2.2.2.1 x.2.2.2.2.2.2.1 x.1 fl):=(L9.and DT).up fun n ⟨h,h'⟩ fl=>q28 h ID x.1 h' fl
 have Oj:Evt fun n=>cO (S.tab n) (ns,()) x ((af ns x).length:Int)=_:=L9.up fun n h=>RX h
 refine((lM.and Oj).and L9).up fun n ⟨⟨lM,Oj⟩,hF⟩=> ?_
 have hlen:(x.2.2.2.2.2.2.2.2.1.length:Int)=((af ns x).length:Int):=(by rw[hF.xlen])
 have fin:∀y:AnS,A4 (ns,()) x (af ns x) y→((some y:Option AnS).bind (bC (fun CA=>some (CA.1,az)) (fun CA=>(cO (S.tab n) CA.1 CA.2.1 CA.2.2.1).bind (aR (fun gi=>some (gi.1,az))))))=some (An2 y (bif decide (x.1=15)then PL false false false false ((al x).length:Int) x.2.2.2.2.1 x.2.2.2.2.2.1 x.2.2.2.2.2.2.1&&(decide (((af ns x).length:Int)=1)&&EX (af ns x) 0 1)else false),az):=fun y hy=>by
  rcases hy with⟨b,rfl⟩|rfl
  ·rfl
  ·show(cO (S.tab n) (ns,()) x ((af ns x).length:Int)).bind _=_;rw[Oj];rfl
 rw[tG];rw[hlen];unfold KS
 by_cases k1:x.1=1
 ·rw[ak k1,VY k1,hF.l5]
  cases(af ns x).all bN with
  |true=>simp only[Wg,VX,bC,Wx,Wn,hF.pl,V9]
  |false=>rfl
 rw[ae k1,VW k1,Wb]
 by_cases k2:x.1=2
 ·rw[ak k2,VY k2,Wg,hF.pl,hF.nm,hF.ex0n];simp only[VX]
  cases PL true false false false ((al x).length:Int) x.2.2.2.2.1 x.2.2.2.2.2.1 x.2.2.2.2.2.2.1 with
  |false=>rw[ah];rfl
  |true=>
   rw[an]
   cases NM (al x) 1 200 with
   |false=>rw[ah];rfl
   |true=>rw[an];rfl
 rw[ae k2,VW k2,Wb]
 by_cases k3:x.1=3
 ·rw[ak k3,VY k3,Wg,hF.pl,hF.nm];simp only[VX]
  cases PL true false false false ((al x).length:Int) x.2.2.2.2.1 x.2.2.2.2.2.1 x.2.2.2.2.2.2.1 with
  |false=>rw[ah];rfl
  |true=>
   rw[an]
   cases NM (al x) 1 1 with
   |false=>rw[ah];rfl
   |true=>
    rw[an]
    by_cases h1:(af ns x).length=1
    ·rw[ak (by omega),hF.ex01 (by omega),VY (show((af ns x).length:Int)=1 by omega)];rfl
    ·rw[ae (by omega),VW (show¬ ((af ns x).length:Int)=1 by omega)];rfl
 rw[ae k3,VW k3,Wb]
 by_cases k4:x.1=4
 ·rw[ak k4,VY k4,Wg,hF.pl,hF.nm];simp only[VX]
  cases PL true false false false ((al x).length:Int) x.2.2.2.2.1 x.2.2.2.2.2.1 x.2.2.2.2.2.2.1 with
  |false=>rw[ah];rfl
  |true=>
   rw[an]
   cases NM (al x) 1 1 with
   |false=>rw[ah];rfl
   |true=>
    rw[an]
    by_cases h1:(af ns x).length=1
    ·rw[ak (by omega),hF.k0 (by omega),VY (show((af ns x).length:Int)=1 by omega)];rfl
    ·rw[ae (by omega),VW (show¬ ((af ns x).length:Int)=1 by omega)];rfl
 rw[ae k4,VW k4,Wb]
 by_cases k5:x.1=5
 ·rw[ak k5,VY k5,Wg,hF.pl];simp only[VX]
  cases PL false false true false ((al x).length:Int) x.2.2.2.2.1 x.2.2.2.2.2.1 x.2.2.2.2.2.2.1 with
  |false=>rw[aj (by rfl)];rfl
  |true=>
   rw[ay (by rfl)];exact Nr (ns,()) x (af ns x) x.2.2.2.2.2.1 rfl ID hF.OU hF.TQ
 rw[ae k5,VW k5,Wb]
 by_cases k6:x.1=6
 ·rw[ak k6,VY k6,Wg,lM];exact fin _ (JK _)
 ·rw[ae k6,VW k6,Wb,lM];exact fin _ (JK _)
end
include hx hi
theorem zl (S2:ns[i]=x):Evt fun n=>eY (S.tab n) (ns,()) (i:Int)=some (okN ns i x,cw):=by
 have Fp:at_ (τ:=aa) ((ns,()):Tr).1 (i:Int)=x:=by
  show at_ (τ:=aa) ns (i:Int)=x;rw[kx _ _ hi];exact S2
 have start:∀n,eY (S.step (S.tab n)) (ns,()) (i:Int)=_:=fun n=>by
  rw[xa,aj (av hi),Fp]
 unfold okN
 by_cases c1:x.2.1<0
 ·refine aB.up fun n _=> ?_
  rw[start,ak c1,VY c1];rfl
 by_cases c2:x.2.2.1<x.2.1
 ·refine aB.up fun n _=> ?_
  rw[start,ae c1,ak c2,VW c1,VY c2];rfl
 by_cases c3:x.2.2.2.1<0
 ·refine aB.up fun n _=> ?_
  rw[start,ae c1,ae c2,ak c3,VW c1,VW c2,VY c3];rfl
 rw[VW c1,VW c2,VW c3]
 by_cases c4:200<(ab x).length
 ·refine aB.up fun n _=> ?_
  have d4:decide ((200:Int)<(x.2.2.2.2.2.2.2.2.1.length:Int))=true:=VY (by unfold ab at c4;omega);rw[start,ae c1,ae c2,ae c3,aj d4,VY c4];rfl
 have d4:decide ((200:Int)<(x.2.2.2.2.2.2.2.2.1.length:Int))=false:=VW (by unfold ab at c4;omega);rw[VW c4];simp only[Wb];have hl:(ab x).length≤200:=(by omega);have h5:=K7 (ns:=ns) (i:=i) (x:=x) hl
 have step2:∀n,eY (S.step (S.tab n)) (ns,()) (i:Int)=_:=fun n=>by
  rw[start,ae c1,ae c2,ae c3,ay d4]
 cases hr:(ab x).all (inR i)with
 |false=>
  rw[hr]at h5
  refine h5.up fun n h=> ?_
  have h:cA (S.tab n) ↑i (ns,()) x x.2.2.2.2.2.2.2.2.1 (x.2.2.2.2.2.2.2.2.1.length:Int) 0=_:=h;rw[step2,h];rfl
 |true=>
  rw[hr]at h5
  have hk:∀k∈ab x,0≤k∧k<(ns.length:Int):=fun k Vl=>by
   have:=List.all_eq_true.1 hr k Vl;unfold inR at this;rw[V6,V4,V4]at this;omega
  have rT:∀n,cA (S.tab n) ↑i (ns,()) x x.2.2.2.2.2.2.2.2.1 (x.2.2.2.2.2.2.2.2.1.length:Int) 0=some (Sum.inr (Sum.inl ((ns,()),x,())))→eY (S.step (S.tab n)) (ns,()) (i:Int)=_:=fun n h=>by
   rw[step2,h,VX]
  cases hs:bN x.1 with
  |true=>
   refine((h5.and Dd).and (CR hx hk hl)).up fun n ⟨⟨h,nw⟩,hS⟩=> ?_
   rw[rT n h];show(jx (S.tab n) x.1).bind _=_;rw[nw,VX,hs,aj (by rfl)];show(jJ (S.tab n) (ns,()) x).bind _=_;rw[hS];rfl
  |false=>
   refine((h5.and Dd).and (Bn hx hk hl)).up fun n ⟨⟨h,nw⟩,hE⟩=> ?_
   rw[rT n h];show(jx (S.tab n) x.1).bind _=_;rw[nw,VX,hs,ay (by rfl)];show(jc (S.tab n) (ns,()) x).bind _=_;rw[hE];rfl
end Go.Abs.D
end

section
namespace Go.Abs.D
def wD (ns:List aa.den)(j:Nat):Bool:=match ns[j]? with|some x=>okN ns j x|none=>false
def okQ (ns:List aa.den)(j:Nat):Bool:=decide (j<ns.length)&&wD ns j
theorem GS {ns:List aa.den}:∀j,ns.length≤j→okQ ns j=false:=fun j h=>by unfold okQ;rw[VW (by omega)];rfl
def r7 (ns:List aa.den):Nat:=stop (okQ ns) ns.length 0
abbrev Fa:Type:=Int×Int×Unit
section
variable{ns:List aa.den}(hN:∀x∈ns,NodeOk x)(hn:ns.length≤3000)
include hN hn
theorem IX:Evt fun n=>∀j∈List.range ns.length,gN (S.tab n) (ns,()) (j:Int)=some (wD ns j,aD):=by
 have:∀(l:List Nat),(∀j∈l,j<ns.length)→Evt fun n=>∀j∈l,gN (S.tab n) (ns,()) (j:Int)=some (wD ns j,aD):=by
  intro l
  induction l with
  |nil=>intro _;exact Evt.of fun _ j h=>by cases h
  |cons a l ih=>
   intro h;have ha:=h a (Wk ..)
   have e:wD ns a=okN ns a ns[a]:=by unfold wD;rw[Wl ha]
   refine((yV (hN _ (WO ha)) ha hn rfl).and (ih fun j hj=>h j (Wj _ hj))).mono fun n ⟨h1,h2⟩ j hj=> ?_
   rcases WE.1 hj with rfl|hj
   ·rw[e];exact h1
   ·exact h2 j hj
 exact this _ fun j hj=>List.mem_range.1 hj
omit hn in
theorem IV:Evt fun n=>∀j∈List.range ns.length,eY (S.tab n) (ns,()) (j:Int)=some (wD ns j,cw):=by
 have:∀(l:List Nat),(∀j∈l,j<ns.length)→Evt fun n=>∀j∈l,eY (S.tab n) (ns,()) (j:Int)=some (wD ns j,cw):=by
  intro l
  induction l with
  |nil=>intro _;exact Evt.of fun _ j h=>by cases h
  |cons a l ih=>
   intro h;have ha:=h a (Wk ..)
   have e:wD ns a=okN ns a ns[a]:=by unfold wD;rw[Wl ha]
   refine((zl (hN _ (WO ha)) ha rfl).and (ih fun j hj=>h j (Wj _ hj))).mono fun n ⟨h1,h2⟩ j hj=> ?_
   rcases WE.1 hj with rfl|hj
   ·rw[e];exact h1
   ·exact h2 j hj
 exact this _ fun j hj=>List.mem_range.1 hj
theorem Nn (z:Int)(f:Fa):Evt fun n=>dz (S.tab n) (ns,()) f z (ns.length:Int) 0=some (bif decide (r7 ns<ns.length)then Sum.inl ((2,(r7 ns:Int),()),())else Sum.inr (Sum.inl ((ns,()),f,z,()))):=
 adv (F:=fun T (j:Nat)=>dz T (ns,()) f z (ns.length:Int) ↑j) (q:=okQ ns) (N:=ns.length)
  (out:=fun j=>bif decide (j<ns.length)then Sum.inl ((2,(j:Int),()),())else Sum.inr (Sum.inl ((ns,()),f,z,())))
  (p:=fun T=>∀j∈List.range ns.length,gN T (ns,()) (j:Int)=some (wD ns j,aD)) (IX hN hn) GS
  (fun T j h hq=>by
   unfold okQ at hq;rw[V6,V4]at hq;show dz (S.step T) _ _ _ _ _=dz T (ns,()) f z (ns.length:Int) ((j+1:Nat):Int)
   rw[po,ak (by omega),h j (List.mem_range.2 hq.1),VX,hq.2,ay (by rfl),bf (by omega)])
  (fun T j h hq=>by
   show dz (S.step T) _ _ _ _ _=_;rw[po]
   by_cases hj:j<ns.length
   ·unfold okQ at hq;rw[VY hj,V9]at hq;rw[ak (by omega),h j (List.mem_range.2 hj),VX,hq,aj (by rfl),VY hj];rfl
   ·rw[ae (by omega),VW hj];rfl) ns.length 0 (by omega)
theorem ND (f:Fa):Evt fun n=>dA (S.tab n) (ns,()) f (ns.length:Int) 0=some (bif decide (r7 ns<ns.length)then Sum.inl ((2,(r7 ns:Int),()),())else Sum.inr (Sum.inl ((ns,()),f,()))):=
 adv (F:=fun T (j:Nat)=>dA T (ns,()) f (ns.length:Int) ↑j) (q:=okQ ns) (N:=ns.length)
  (out:=fun j=>bif decide (j<ns.length)then Sum.inl ((2,(j:Int),()),())else Sum.inr (Sum.inl ((ns,()),f,())))
  (p:=fun T=>∀j∈List.range ns.length,eY T (ns,()) (j:Int)=some (wD ns j,cw)) (IV hN) GS
  (fun T j h hq=>by
   unfold okQ at hq;rw[V6,V4]at hq;show dA (S.step T) _ _ _ _=dA T (ns,()) f (ns.length:Int) ((j+1:Nat):Int)
   rw[pa,ak (by omega),h j (List.mem_range.2 hq.1),VX,hq.2,ay (by rfl),bf (by omega)])
  (fun T j h hq=>by
   show dA (S.step T) _ _ _ _=_;rw[pa]
   by_cases hj:j<ns.length
   ·unfold okQ at hq;rw[VY hj,V9]at hq;rw[ak (by omega),h j (List.mem_range.2 hj),VX,hq,aj (by rfl),VY hj];rfl
   ·rw[ae (by omega),VW hj];rfl) ns.length 0 (by omega)
omit hN hn in
theorem tD (hb:¬ r7 ns<ns.length)(j:Nat)(hj:j<ns.length):∀k∈ab ns[j],0≤k∧k<(j:Int):=by
 have hq:okQ ns j=true:=oV ns.length 0 j (WQ _) (by unfold r7 at hb;omega);unfold okQ wD at hq;rw[VY hj,V9,Wl hj]at hq;have hq:okN ns j ns[j]=true:=hq;intro k hk
 have nd:(ab ns[j]).all (inR j)=true:=by
  cases h:(ab ns[j]).all (inR j)with
  |true=>rfl
  |false=>
   unfold okN at hq;rw[h]at hq
   revert hq
   cases decide (Prod.fst ns[j].2<0)<;>cases decide (Prod.fst (Prod.snd ns[j].2)<Prod.fst ns[j].2)<;>cases decide (Prod.fst (Prod.snd (Prod.snd ns[j].2))<0)<;>cases decide (200<(ab ns[j]).length)<;>intro h<;>cases h
 have:=List.all_eq_true.1 nd k hk;unfold inR at this;rw[V6,V4,V4]at this;exact this
end
def dk (i:Nat):LI→LI→LI
 |[],d=>d
 |k::r,d=>dk i r (d.set k.toNat (i64.wrap (d.getD i 0+1)))
theorem DF (i:Nat):∀(r d:LI),(dk i r d).length=d.length
 |[],d=>rfl
 |k::r,d=>by unfold dk;rw[DF];simp
def qk (ns:List aa.den):Nat→LI→LI
 |0,d=>d
 |i+1,d=>qk ns i (match ns[i]? with|some x=>dk i (ab x) d|none=>d)
theorem Cp {ns:List aa.den}{i:Nat}(h:i<ns.length)(d:LI):qk ns (i+1) d=qk ns i (dk i (ab ns[i]) d):=by
 show qk ns i (match ns[i]? with|some x=>dk i (ab x) d|none=>d)=_;rw[Wl h]
theorem Hc (t:Tr)(f:Fa)(i:Nat):∀(r pre d:LI),i<d.length→(∀k∈r,0≤k∧k<(d.length:Int))→(pre++r).length≤2097152→
  Evt fun n=>gA (S.tab n) t f d ↑i (pre++r) ((pre++r).length:Int) (pre.length:Int)=some (Sum.inl (t,f,dk i r d,(i:Int),()))
 |[],pre,d,hi,hk,hl=>aB.up fun n _=>by
  rw[nX,ay (by simp)];rfl
 |k::r,pre,d,hi,hk,hl=>by
  obtain⟨k0,k1⟩:=hk k (Wk ..);have ih:=Hc t f i r (pre++[k]) (d.set k.toNat (i64.wrap (d.getD i 0+1))) (by simpa using hi) (fun c hc=>by rw[List.length_set];exact hk c (Wj _ hc)) (by simpa using hl)
  refine ih.up fun n h=> ?_
  have hlen:(pre++k::r).length=pre.length+(r.length+1):=(by simp);have hg:(pre++k::r).getD (pre.length:Int).toNat 0=k:=PY pre k r;have hd:(decide ((0:Int)≤(i:Int))&&decide ((i:Int)<(d.length:Int)))=true:=av hi
  have L8:(decide ((0:Int)≤k)&&decide (k<(d.length:Int)))=true:=by rw[VY k0,VY k1];rfl
  rw[nX,ak (by omega),aj (av (by omega)),aj hd,hg,aj L8,bf (by omega)];have e1:(pre++[k])++r=pre++k::r:=(by simp);have e2:(pre++[k]).length=pre.length+1:=(by simp);rw[e1,e2]at h;exact h
theorem Hf (t:Tr)(f:Fa)(i:Nat):∀(r pre d:LI),i<d.length→(∀k∈r,0≤k∧k<(d.length:Int))→(pre++r).length≤2097152→
  Evt fun n=>gz (S.tab n) t f d ↑i (pre++r) ((pre++r).length:Int) (pre.length:Int)=some (Sum.inl (t,f,dk i r d,(i:Int),()))
 |[],pre,d,hi,hk,hl=>aB.up fun n _=>by
  rw[om,ay (by simp)];rfl
 |k::r,pre,d,hi,hk,hl=>by
  obtain⟨k0,k1⟩:=hk k (Wk ..);have ih:=Hf t f i r (pre++[k]) (d.set k.toNat (i64.wrap (d.getD i 0+1))) (by simpa using hi) (fun c hc=>by rw[List.length_set];exact hk c (Wj _ hc)) (by simpa using hl)
  refine ih.up fun n h=> ?_
  have hlen:(pre++k::r).length=pre.length+(r.length+1):=(by simp);have hg:(pre++k::r).getD (pre.length:Int).toNat 0=k:=PY pre k r;have hd:(decide ((0:Int)≤(i:Int))&&decide ((i:Int)<(d.length:Int)))=true:=av hi
  have L8:(decide ((0:Int)≤k)&&decide (k<(d.length:Int)))=true:=by rw[VY k0,VY k1];rfl
  rw[om,ak (by omega),aj (av (by omega)),aj hd,hg,aj L8,bf (by omega)];have e1:(pre++[k])++r=pre++k::r:=(by simp);have e2:(pre++[k]).length=pre.length+1:=(by simp);rw[e1,e2]at h;exact h
section
variable{ns:List aa.den}(hN:∀x∈ns,NodeOk x)(hn:ns.length≤3000)(hb:¬ r7 ns<ns.length)
include hN hn hb
theorem GX (f:Fa):∀(i:Nat)(d:LI),i≤ns.length→d.length=ns.length→Evt fun n=>iK (S.tab n) (ns,()) f d ((i:Int) - 1)=some (Sum.inl (f,qk ns i d,()))
 |0,d,hi,hd=>aB.up fun n _=>by
  rw[oA,ay (by decide)];rfl
 |i+1,d,hi,hd=>by
  have qm:i<ns.length:=(by omega);have hx:=hN _ (WO qm);have hk:=tD hb i qm;have ma:=Hc (ns,()) f i (ab ns[i]) [] d (by omega) (fun k h=>by have:=hk k h;omega) (by have:=hx.nk;simpa using this);have ih:=GX f i (dk i (ab ns[i]) d) (by omega) (by rw[DF];exact hd)
  refine(ma.and ih).up fun n ⟨h,h2⟩=> ?_
  have e0:(((i+1:Nat):Int) - 1)=(i:Int):=(by omega);have Fp:at_ (τ:=aa) ((ns,()):Tr).1 (i:Int)=ns[i]:=kx ns i qm;rw[e0,oA,ak (by omega),aj (av qm),Fp];have h:gA (S.tab n) (ns,()) f d ↑i (ab ns[i]) ((ab ns[i]).length:Int) 0=_:=h;show(gA (S.tab n) (ns,()) f d ↑i (ab ns[i]) ((ab ns[i]).length:Int) 0).bind _=_;rw[h];simp only[VX,aR,Wn];rw[wrap64 _ (by omega) (by omega),h2,Cp qm]
theorem G7 (f:Fa):∀(i:Nat)(d:LI),i≤ns.length→d.length=ns.length→Evt fun n=>iH (S.tab n) (ns,()) f d ((i:Int) - 1)=some (Sum.inl (f,qk ns i d,()))
 |0,d,hi,hd=>aB.up fun n _=>by
  rw[n8,ay (by decide)];rfl
 |i+1,d,hi,hd=>by
  have qm:i<ns.length:=(by omega);have hx:=hN _ (WO qm);have hk:=tD hb i qm;have ma:=Hf (ns,()) f i (ab ns[i]) [] d (by omega) (fun k h=>by have:=hk k h;omega) (by have:=hx.nk;simpa using this);have ih:=G7 f i (dk i (ab ns[i]) d) (by omega) (by rw[DF];exact hd)
  refine(ma.and ih).up fun n ⟨h,h2⟩=> ?_
  have e0:(((i+1:Nat):Int) - 1)=(i:Int):=(by omega);have Fp:at_ (τ:=aa) ((ns,()):Tr).1 (i:Int)=ns[i]:=kx ns i qm;rw[e0,n8,ak (by omega),aj (av qm),Fp];have h:gz (S.tab n) (ns,()) f d ↑i (ab ns[i]) ((ab ns[i]).length:Int) 0=_:=h;show(gz (S.tab n) (ns,()) f d ↑i (ab ns[i]) ((ab ns[i]).length:Int) 0).bind _=_;rw[h];simp only[VX,aR,Wn];rw[wrap64 _ (by omega) (by omega),h2,Cp qm]
end
def mL (d:LI)(j:Nat):Bool:=decide (j<d.length)&& !decide ((100:Int)<get d j)
theorem Cb {d:LI}:∀j,d.length≤j→mL d j=false:=fun j h=>by unfold mL;rw[VW (by omega)];rfl
theorem Lp (f:Fa)(d:LI)(hd:d.length≤3000):Evt fun n=>dH (S.tab n) f d (d.length:Int) 0=some (bif decide (stop (mL d) d.length 0<d.length)then Sum.inl ((4,(stop (mL d) d.length 0:Int),()),())else Sum.inr (Sum.inl (f,()))):=
 adv (F:=fun T (j:Nat)=>dH T f d (d.length:Int) ↑j) (q:=mL d) (N:=d.length) (out:=fun j=>bif decide (j<d.length)then Sum.inl ((4,(j:Int),()),())else Sum.inr (Sum.inl (f,()))) (p:=Base2) aB Cb
  (fun T j h hq=>by
   unfold mL at hq;rw[V6,V4,WV,V8]at hq;show dH (S.step T) _ _ _ _=dH T f d (d.length:Int) ((j+1:Nat):Int)
   rw[oD,ak (by omega),aj (av hq.1),aI,ay (VW hq.2),bf (by omega)])
  (fun T j h hq=>by
   show dH (S.step T) _ _ _ _=_;rw[oD]
   by_cases hj:j<d.length
   ·unfold mL at hq;rw[VY hj,V9,Bool.not_eq_false']at hq;rw[ak (by omega),aj (av hj),aI,aj hq,VY hj];rfl
   ·rw[ae (by omega),VW hj];rfl) d.length 0 (by omega)
theorem Lg (f:Fa)(d:LI)(hd:d.length≤3000):Evt fun n=>dN (S.tab n) f d (d.length:Int) 0=some (bif decide (stop (mL d) d.length 0<d.length)then Sum.inl ((4,(stop (mL d) d.length 0:Int),()),())else Sum.inr (Sum.inl (f,()))):=
 adv (F:=fun T (j:Nat)=>dN T f d (d.length:Int) ↑j) (q:=mL d) (N:=d.length) (out:=fun j=>bif decide (j<d.length)then Sum.inl ((4,(j:Int),()),())else Sum.inr (Sum.inl (f,()))) (p:=Base2) aB Cb
  (fun T j h hq=>by
   unfold mL at hq;rw[V6,V4,WV,V8]at hq;show dN (S.step T) _ _ _ _=dN T f d (d.length:Int) ((j+1:Nat):Int)
   rw[n7,ak (by omega),aj (av hq.1),aI,ay (VW hq.2),bf (by omega)])
  (fun T j h hq=>by
   show dN (S.step T) _ _ _ _=_;rw[n7]
   by_cases hj:j<d.length
   ·unfold mL at hq;rw[VY hj,V9,Bool.not_eq_false']at hq;rw[ak (by omega),aj (av hj),aI,aj hq,VY hj];rfl
   ·rw[ae (by omega),VW hj];rfl) d.length 0 (by omega)
theorem AL (ns:List aa.den):∀(i:Nat)(d:LI),(qk ns i d).length=d.length
 |0,d=>rfl
 |i+1,d=>by
  unfold qk;rw[AL];split
  ·exact DF ..
  ·rfl
end Go.Abs.D
end

section
namespace Go.Abs.D
theorem lE (l:LI)(i j:Nat)(v:Int)(h:i<l.length):get (l.set i v) j=if j=i then v else get l j:=by
 unfold get;rw[Wm,Wm,List.getElem?_set]
 by_cases e:i=j
 ·subst e;rw[WK rfl,WK h,WK rfl];rfl
 ·rw[Wz e,Wz (fun h=>e h.symm)]
def gV (st kids:LI):Nat→Int→Option Int
 |0,a=>some a
 |m+1,a=>bif decide (get kids m=a - 1)then gV st kids m (get st (get kids m).toNat)else none
def mY (sz kids:LI):Nat→Int→Int×Bool
 |0,a=>(a,true)
 |m+1,a=>bif decide (get kids m=a - 1)&& !decide (get sz (get kids m).toNat=0)then mY sz kids m (a - get sz (get kids m).toNat)else(a,false)
theorem GL (t:Tr)(f:Fa)(z:Int)(st:LI)(i:Int)(x:aa.den)(l:List aa.den)(u v:Int)(hk:∀k∈ab x,0≤k∧k<(st.length:Int))(hs:∀j,0≤get st j∧get st j≤3000)(hl:(ab x).length≤2097152):
  ∀(m:Nat) (a:Int),m≤(ab x).length→0≤a→a≤3000→Evt fun n=>gu (S.tab n) t f z st i x a ((m:Int) - 1) l u v=some (match gV st (ab x) m a with|none=>Sum.inl ((3,i,()),())|some a=>Sum.inr (Sum.inl (t,f,z,st,i,a,l,u,v,())))
 |0,a,hm,h0,h1=>aB.up fun n _=>by
  rw[kz,ay (by decide)];rfl
 |m+1,a,hm,h0,h1=>by
  have IE:m<(ab x).length:=(by omega);have rI:(decide ((0:Int)≤(m:Int))&&decide ((m:Int)<(x.2.2.2.2.2.2.2.2.1.length:Int)))=true:=av IE;have hg:x.2.2.2.2.2.2.2.2.1.getD (m:Int).toNat 0=get (ab x) m:=rfl;have Te:get (ab x) m=(ab x)[m]:=oY IE;have e0:((m+1:Nat):Int) - 1=(m:Int):=(by omega);have wa:i64.wrap (a - 1)=a - 1:=wrap64 _ (by omega) (by omega);have wm:i64.wrap ((m:Int) - 1)=(m:Int) - 1:=wrap64 _ (by omega) (by omega)
  by_cases hc:get (ab x) m=a - 1
  ·have qo:=hk _ (WO IE);rw[←Te]at qo;have Rz:=hs (get (ab x) m).toNat
   have L8:(decide ((0:Int)≤get (ab x) m)&&decide (get (ab x) m<(st.length:Int)))=true:=by rw[VY qo.1,VY qo.2];rfl
   refine(GL t f z st i x l u v hk hs hl m (get st (get (ab x) m).toNat) (by omega) Rz.1 Rz.2).up fun n h=> ?_
   rw[e0,kz,ak (by omega),aj rI,hg,wa,ay (by rw[VY hc];rfl),aj rI,aj L8,wm]
   have nw:gV st (ab x) (m+1) a=gV st (ab x) m (get st (get (ab x) m).toNat):=by
    show(bif decide (get (ab x) m=a - 1)then _ else _)=_;rw[VY hc];rfl
   rw[nw];exact h
  ·refine aB.up fun n _=> ?_
   rw[e0,kz,ak (by omega),aj rI,hg,wa,aj (by rw[VW hc];rfl)]
   have nw:gV st (ab x) (m+1) a=none:=by
    show(bif decide (get (ab x) m=a - 1)then _ else _)=_;rw[VW hc];rfl
   rw[nw]
theorem J7 (sz:LI)(i:Int)(x:aa.den)(l:List aa.den)(u v:Int)(hk:∀k∈ab x,0≤k∧k<(sz.length:Int))(hs:∀j,0≤get sz j∧get sz j≤3000)(hl:(ab x).length≤200):
  ∀(m:Nat) (a:Int),m≤(ab x).length→3000*(m:Int)≤a+1000000→a≤3000→Evt fun n=>gy (S.tab n) sz i x a true ((m:Int) - 1) l u v=some (Sum.inl (sz,i,(mY sz (ab x) m a).1,(mY sz (ab x) m a).2,l,u,v,()))
 |0,a,hm,h0,h1=>aB.up fun n _=>by
  rw[iw,ay (by decide)];rfl
 |m+1,a,hm,h0,h1=>by
  have IE:m<(ab x).length:=(by omega);have rI:(decide ((0:Int)≤(m:Int))&&decide ((m:Int)<(x.2.2.2.2.2.2.2.2.1.length:Int)))=true:=av IE;have hg:x.2.2.2.2.2.2.2.2.1.getD (m:Int).toNat 0=get (ab x) m:=rfl;have Te:get (ab x) m=(ab x)[m]:=oY IE;have e0:((m+1:Nat):Int) - 1=(m:Int):=(by omega);have wa:i64.wrap (a - 1)=a - 1:=wrap64 _ (by omega) (by omega);have wm:i64.wrap ((m:Int) - 1)=(m:Int) - 1:=wrap64 _ (by omega) (by omega)
  have nw:mY sz (ab x) (m+1) a=bif decide (get (ab x) m=a - 1)&& !decide (get sz (get (ab x) m).toNat=0)then mY sz (ab x) m (a - get sz (get (ab x) m).toNat)else(a,false):=rfl
  by_cases hc:get (ab x) m=a - 1
  ·have qo:=hk _ (WO IE);rw[←Te]at qo;have Rz:=hs (get (ab x) m).toNat
   have L8:(decide ((0:Int)≤get (ab x) m)&&decide (get (ab x) m<(sz.length:Int)))=true:=by rw[VY qo.1,VY qo.2];rfl
   have Us:sz.getD (get (ab x) m).toNat 0=get sz (get (ab x) m).toNat:=rfl
   by_cases hz:get sz (get (ab x) m).toNat=0
   ·refine aB.up fun n _=> ?_
    rw[e0,iw,ak (by omega),aj rI,hg,wa,ay (by rw[VY hc];rfl),aj L8,Us,ak hz,nw,VY hz,Wq,Wa];rfl
   ·have wz:i64.wrap (a - get sz (get (ab x) m).toNat)=a - get sz (get (ab x) m).toNat:=wrap64 _ (by omega) (by omega)
    refine(J7 sz i x l u v hk hs hl m (a - get sz (get (ab x) m).toNat) (by omega) (by omega) (by omega)).up fun n h=> ?_
    rw[e0,iw,ak (by omega),aj rI,hg,wa,ay (by rw[VY hc];rfl),aj L8,Us,ae hz,aj L8,wz,wm,nw,VY hc,VW hz];exact h
  ·refine aB.up fun n _=> ?_
   rw[e0,iw,ak (by omega),aj rI,hg,wa,aj (by rw[VW hc];rfl),nw,VW hc];rfl
def aT (ns:List aa.den)(i:Nat):LI:=match ns[i]? with|some x=>ab x|none=>[]
theorem nP {ns:List aa.den}{i:Nat}(h:i<ns.length):aT ns i=ab ns[i]:=by unfold aT;rw[Wl h]
def imS (ns:List aa.den):Nat→LI→Nat⊕Unit
 |0,_=> .inr ()
 |r+1,st=>match gV st (aT ns (ns.length - (r+1))) (aT ns (ns.length - (r+1))).length ((ns.length - (r+1):Nat):Int)with
  |none=> .inl (ns.length - (r+1))
  |some a=>bif decide (r=0)&& !decide (a=0)then .inl (ns.length - (r+1))else imS ns r (st.set (ns.length - (r+1)) a)
def szS (ns:List aa.den):Nat→LI→LI
 |0,sz=>sz
 |r+1,sz=>szS ns r (bif(mY sz (aT ns (ns.length - (r+1))) (aT ns (ns.length - (r+1))).length ((ns.length - (r+1):Nat):Int)).2 then sz.set (ns.length - (r+1)) (((ns.length - (r+1):Nat):Int) - (mY sz (aT ns (ns.length - (r+1))) (aT ns (ns.length - (r+1))).length ((ns.length - (r+1):Nat):Int)).1+1)else sz)
def zq (sz:LI)(j:Nat):Bool:=decide (j<sz.length)&& !decide (get sz j=0)
def Fg (sz:LI):Nat⊕Unit:=
 bif decide (stop (zq sz) sz.length 0<sz.length)then .inl (stop (zq sz) sz.length 0)else bif !decide (get sz (sz.length - 1)=(sz.length:Int))then .inl (sz.length - 1)else .inr ()
theorem AR {sz:LI}:∀j,sz.length≤j→zq sz j=false:=fun j h=>by unfold zq;rw[VW (by omega)];rfl
structure RelN (n i:Nat)(st sz:LI):Prop where
 l1:st.length=n
 l2:sz.length=n
 lo:∀j,j<i→get sz j=(j:Int) - get st j+1∧0≤get st j∧get st j≤(j:Int)
 hi:∀j,i≤j→get sz j=0∧get st j=0
theorem Am {n i:Nat}{st sz kids:LI}(R:RelN n i st sz):∀(m:Nat)(a:Int),0≤a→a≤(i:Int)→(∀j,j<m→0≤get kids j∧get kids j<(i:Int))→
  (∀b,gV st kids m a=some b→mY sz kids m a=(b,true)∧0≤b∧b≤(i:Int))∧(gV st kids m a=none→(mY sz kids m a).2=false)
 |0,a,h0,h1,hk=>⟨fun b h=>by injection h with h;subst h;exact⟨rfl,h0,h1⟩,fun h=>by cases h⟩
 |m+1,a,h0,h1,hk=>by
  obtain⟨k0,k1⟩:=hk m (by omega);unfold gV mY
  by_cases hc:get kids m=a - 1
  ·obtain⟨e1,e2,e3⟩:=R.lo (get kids m).toNat (by omega);have e4:((get kids m).toNat:Int)=get kids m:=Int.toNat_of_nonneg k0;rw[e4]at e1 e3;have hz:¬ get sz (get kids m).toNat=0:=(by omega);have ea:a - get sz (get kids m).toNat=get st (get kids m).toNat:=(by omega);rw[VY hc,VW hz];simp only[Wg,V9,Wt];rw[ea]
   exact Am R m _ e2 (by omega) fun j hj=>hk j (by omega)
  ·rw[VW hc];exact⟨(fun b h=>by cases h),fun _=>rfl⟩
theorem Dm (ns:List aa.den):∀(r:Nat)(sz:LI),(szS ns r sz).length=sz.length
 |0,sz=>rfl
 |r+1,sz=>by
  unfold szS;rw[Dm];cases(mY sz (aT ns (ns.length - (r+1))) (aT ns (ns.length - (r+1))).length ((ns.length - (r+1):Nat):Int)).2<;>simp
theorem GG (ns:List aa.den):∀(r:Nat)(sz:LI)(j:Nat),r≤ns.length→sz.length=ns.length→j<ns.length - r→get (szS ns r sz) j=get sz j
 |0,sz,j,_,_,_=>rfl
 |r+1,sz,j,hr,hl,hj=>by
  unfold szS
  rw[GG ns r _ j (by omega) (by
   cases(mY sz (aT ns (ns.length - (r+1))) (aT ns (ns.length - (r+1))).length ((ns.length - (r+1):Nat):Int)).2<;>simp[hl]) (by omega)]
  cases(mY sz (aT ns (ns.length - (r+1))) (aT ns (ns.length - (r+1))).length ((ns.length - (r+1):Nat):Int)).2 with
  |false=>rfl
  |true=>
   simp only[Wg];rw[lE _ _ _ _ (by omega),Wz (by omega)]
theorem Dc {q:Nat→Bool}{N m:Nat}(hN:∀j,N≤j→q j=false)(h1:∀j,j<m→q j=true)(h2:q m=false):stop q N 0=m:=by
 have a:=v8 (q:=q) hN N 0 (by omega)
 have b:¬ stop q N 0<m:=fun h=>by rw[h1 _ h]at a;cases a
 have c:¬ m<stop q N 0:=fun h=>by
  have:=oV N 0 m (WQ _) h;rw[h2]at this;cases this
 omega
theorem Nq (ns:List aa.den)(hk:∀i,i<ns.length→∀j,j<(aT ns i).length→0≤get (aT ns i) j∧get (aT ns i) j<(i:Int)):∀(r:Nat)(st sz:LI),r+1≤ns.length→RelN ns.length (ns.length - (r+1)) st sz→imS ns (r+1) st=Fg (szS ns (r+1) sz):=by
 intro r
 induction r with
 |zero=>
  intro st sz hr R;have hS:=Am R (aT ns (ns.length - 1)).length ((ns.length - 1:Nat):Int) (by omega) (Int.le_refl _) (hk (ns.length - 1) (by omega));show(match gV st (aT ns (ns.length - 1)) (aT ns (ns.length - 1)).length ((ns.length - 1:Nat):Int)with|none=>_|some a=>_)=Fg (bif(mY sz (aT ns (ns.length - 1)) (aT ns (ns.length - 1)).length ((ns.length - 1:Nat):Int)).2 then sz.set (ns.length - 1) (((ns.length - 1:Nat):Int) - (mY sz (aT ns (ns.length - 1)) (aT ns (ns.length - 1)).length ((ns.length - 1:Nat):Int)).1+1)else sz)
  cases hc:gV st (aT ns (ns.length - 1)) (aT ns (ns.length - 1)).length ((ns.length - 1:Nat):Int)with
  |none=>
   rw[hS.2 hc,Wb]
   have nw:stop (zq sz) sz.length 0=ns.length - 1:=Dc AR (fun j hj=>by
    unfold zq;have:=R.lo j hj
    rw[VY (by have:=R.l2;omega),VW (by omega)];rfl) (by
    unfold zq
    rw[VY (R.hi _ (Wp _)).1];simp)
   unfold Fg;rw[nw,VY (show ns.length - 1<sz.length by have:=R.l2;omega)];rfl
  |some a=>
   obtain⟨e,a0,a1⟩:=hS.1 a hc;rw[e];simp only[Wg];have K5:=R.l2
   have hlen:(sz.set (ns.length - 1) (((ns.length - 1:Nat):Int) - a+1)).length=ns.length:=by rw[List.length_set];exact K5
   have nw:stop (zq (sz.set (ns.length - 1) (((ns.length - 1:Nat):Int) - a+1))) ns.length 0=ns.length:=Dc (fun j hj=>AR j (by omega)) (fun j hj=>by
    unfold zq;rw[lE _ _ _ _ (by omega),VY (by omega)]
    by_cases Pe:j=ns.length - 1
    ·rw[WK Pe,VW (by omega)];rfl
    ·have:=R.lo j (by omega)
     rw[Wz Pe,VW (by omega)];rfl) (AR _ (by omega))
   unfold Fg;rw[hlen,nw,VW (Nat.lt_irrefl _),Wb,lE _ _ _ _ (by omega),WK rfl];show(bif decide (0=0)&& !decide (a=0)then Sum.inl (ns.length - 1)else Sum.inr ())=_
   by_cases ha:a=0
   ·rw[VY ha,VY (show((ns.length - 1:Nat):Int) - a+1=(ns.length:Int)by omega)];rfl
   ·rw[VW ha,VW (show¬ ((ns.length - 1:Nat):Int) - a+1=(ns.length:Int)by omega)];rfl
 |succ r ih=>
  intro st sz hr R;have hS:=Am R (aT ns (ns.length - (r+1+1))).length ((ns.length - (r+1+1):Nat):Int) (by omega) (Int.le_refl _) (hk (ns.length - (r+1+1)) (by omega));have lO:=R.l1;have K5:=R.l2;show(match gV st (aT ns (ns.length - (r+1+1))) (aT ns (ns.length - (r+1+1))).length ((ns.length - (r+1+1):Nat):Int)with|none=>_|some a=>_)=Fg (szS ns (r+1) (bif(mY sz (aT ns (ns.length - (r+1+1))) (aT ns (ns.length - (r+1+1))).length ((ns.length - (r+1+1):Nat):Int)).2 then sz.set (ns.length - (r+1+1)) (((ns.length - (r+1+1):Nat):Int) - (mY sz (aT ns (ns.length - (r+1+1))) (aT ns (ns.length - (r+1+1))).length ((ns.length - (r+1+1):Nat):Int)).1+1)else sz))
  cases hc:gV st (aT ns (ns.length - (r+1+1))) (aT ns (ns.length - (r+1+1))).length ((ns.length - (r+1+1):Nat):Int)with
  |none=>
   rw[hS.2 hc,Wb]
   have hlen:(szS ns (r+1) sz).length=ns.length:=by rw[Dm];exact K5
   have KO:=fun j hj=>GG ns (r+1) sz j (by omega) K5 hj
   have nw:stop (zq (szS ns (r+1) sz)) ns.length 0=ns.length - (r+1+1):=Dc (fun j hj=>AR j (by omega)) (fun j hj=>by
    unfold zq;have:=R.lo j hj
    rw[KO j (by omega),VY (by omega),VW (by omega)];rfl) (by
    unfold zq
    rw[KO _ (by omega),VY (R.hi _ (Wp _)).1];simp)
   unfold Fg;rw[hlen,nw,VY (show ns.length - (r+1+1)<ns.length by omega)];rfl
  |some a=>
   obtain⟨e,a0,a1⟩:=hS.1 a hc;rw[e];simp only[Wg];show(bif decide (r+1=0)&& !decide (a=0)then _ else imS ns (r+1) (st.set (ns.length - (r+1+1)) a))=_;rw[VW (show¬ r+1=0 by omega),Wc,Wb];refine ih _ _ (by omega) ⟨by rw[List.length_set];exact lO,by rw[List.length_set];exact K5,fun j hj=> ?_,fun j hj=> ?_⟩
   ·rw[lE _ _ _ _ (by omega),lE _ _ _ _ (by omega)]
    by_cases hji:j=ns.length - (r+1+1)
    ·rw[WK hji,WK hji];subst hji;exact⟨rfl,a0,a1⟩
    ·rw[Wz hji,Wz hji];exact R.lo j (by omega)
   ·rw[lE _ _ _ _ (by omega),lE _ _ _ _ (by omega),Wz (by omega),Wz (by omega)];exact R.hi j (by omega)
end Go.Abs.D
end

section
namespace Go.Abs.D
theorem EL {st kids:LI}(hs:∀j,0≤get st j∧get st j≤3000):∀(m:Nat)(a b:Int),0≤a→a≤3000→gV st kids m a=some b→0≤b∧b≤3000
 |0,a,b,h0,h1,h=>by injection h with h;subst h;exact⟨h0,h1⟩
 |m+1,a,b,h0,h1,h=>by
  unfold gV at h
  cases hc:decide (get kids m=a - 1)with
  |true=>
   rw[hc]at h;exact EL hs m _ b (hs _).1 (hs _).2 h
  |false=>rw[hc]at h;cases h
theorem GV {sz kids:LI}(hs:∀j:Nat,0≤get sz j∧get sz j≤(j:Int)+1):∀(m:Nat)(a:Int),0≤a→(∀j,j<m→0≤get kids j)→0≤(mY sz kids m a).1∧(mY sz kids m a).1≤a
 |0,a,h0,_=>⟨h0,Int.le_refl _⟩
 |m+1,a,h0,hk=>by
  unfold mY
  by_cases hc:get kids m=a - 1
  ·have Rz:=hs (get kids m).toNat;have k0:=hk m (by omega);have e4:((get kids m).toNat:Int)=get kids m:=Int.toNat_of_nonneg k0;rw[VY hc]
   cases hz:decide (get sz (get kids m).toNat=0)with
   |true=>exact⟨h0,Int.le_refl _⟩
   |false=>
    have:=GV hs m (a - get sz (get kids m).toNat) (by omega) fun j hj=>hk j (by omega)
    simp only[V9,Wt,Wg];exact⟨this.1,by omega⟩
  ·rw[VW hc];exact⟨h0,Int.le_refl _⟩
section
variable{ns:List aa.den}(hN:∀x∈ns,NodeOk x)(hn:ns.length≤3000)(hb:¬ r7 ns<ns.length)
include hN hn hb
omit hN hn in
theorem B7 (i:Nat)(hi:i<ns.length):∀j,j<(aT ns i).length→0≤get (aT ns i) j∧get (aT ns i) j<(i:Int):=by
 intro j hj;rw[nP hi]at hj⊢;have:=tD hb i hi _ (WO hj);have e:get (ab ns[i]) j=(ab ns[i])[j]:=oY hj;rw[e];exact this
theorem GH (f:Fa):∀(r:Nat)(st:LI),r≤ns.length→st.length=ns.length→(∀j,0≤get st j∧get st j≤3000)→
    Evt fun n=>bY (S.tab n) (ns,()) f (ns.length:Int) st ns (ns.length:Int) ((ns.length - r:Nat):Int)=some (match imS ns r st with| .inl j=>Sum.inl ((3,(j:Int),()),())| .inr _=>Sum.inr (Sum.inl ((ns,()),f,(ns.length:Int),())))
  |0,st,hr,hl,hs=>aB.up fun n _=>by
    rw[oa,ay (by simp)];rfl
  |r+1,st,hr,hl,hs=>by
    have hi:ns.length - (r+1)<ns.length:=(by omega)
    generalize hii:ns.length - (r+1)=i at hi
    have hx:=hN _ (WO hi);have Ry:=nP hi;have wR:=GL (ns,()) f (ns.length:Int) st ↑i ns[i] ns (ns.length:Int) ↑i (fun k h=>by have:=tD hb i hi k h;omega) hs hx.nk (ab ns[i]).length ↑i (Wp _) (by omega) (by omega);have Fp:at_ (τ:=aa) ns (i:Int)=ns[i]:=kx ns i hi;have wk:i64.wrap (((ab ns[i]).length:Int) - 1)=((ab ns[i]).length:Int) - 1:=wrap64 _ (by omega) (by have:=hx.nk;omega)
    have start:∀n,bY (S.step (S.tab n)) (ns,()) f (ns.length:Int) st ns (ns.length:Int) (i:Int)=(gu (S.tab n) (ns,()) f (ns.length:Int) st ↑i ns[i] (i:Int) (((ab ns[i]).length:Int) - 1) ns (ns.length:Int) ↑i).bind (bC (fun l9=>some (Sum.inl l9)) (fun l9=>brk (decide ((0:Int)≤l9.2.2.2.2.1)&&decide (l9.2.2.2.2.1<(l9.2.2.2.1.length:Int))) (
   brk (decide (l9.2.2.2.2.1=i64.wrap (l9.2.2.1 - (1:Int)))) (
    brk (!decide (l9.2.2.2.2.2.1=(0:Int))) (
     some (Sum.inl (((3:Int),l9.2.2.2.2.1,()),()))) (
     bY (S.tab n) l9.1 l9.2.1 l9.2.2.1 (l9.2.2.2.1.set l9.2.2.2.2.1.toNat l9.2.2.2.2.2.1) l9.2.2.2.2.2.2.1 l9.2.2.2.2.2.2.2.1 (i64.wrap (l9.2.2.2.2.2.2.2.2.1+(1:Int))))) (
    bY (S.tab n) l9.1 l9.2.1 l9.2.2.1 (l9.2.2.2.1.set l9.2.2.2.2.1.toNat l9.2.2.2.2.2.1) l9.2.2.2.2.2.2.1 l9.2.2.2.2.2.2.2.1 (i64.wrap (l9.2.2.2.2.2.2.2.2.1+(1:Int))))) none)):=fun n=>by
      rw[oa,ak (by omega),aj (av hi),Fp];show(gu (S.tab n) (ns,()) f (ns.length:Int) st ↑i ns[i] (i:Int) (i64.wrap (((ab ns[i]).length:Int) - 1)) ns (ns.length:Int) ↑i).bind _=_;rw[wk]
    have Sf:imS ns (r+1) st=match gV st (aT ns i) (aT ns i).length ↑i with
      |none=> .inl i
      |some a=>bif decide (r=0)&& !decide (a=0)then .inl i else imS ns r (st.set i a):=by
      show(match gV st (aT ns (ns.length - (r+1))) (aT ns (ns.length - (r+1))).length ((ns.length - (r+1):Nat):Int)with|none=>_|some a=>_)=_;rw[hii]
    rw[Sf,Ry]
    cases hc:gV st (ab ns[i]) (ab ns[i]).length ↑i with
    |none=>
      rw[hc]at wR
      refine wR.up fun n h=> ?_
      rw[start,h];rfl
    |some a=>
      rw[hc]at wR;obtain⟨a0,a1⟩:=EL hs _ _ _ (by omega) (by omega) hc
      have ih:=GH f r (st.set i a) (by omega) (by rw[List.length_set];exact hl) (fun j=>by
        rw[lE _ _ _ _ (by omega)];split
        · exact⟨a0,a1⟩
        · exact hs j)
      have ei:ns.length - r=i+1:=(by omega);rw[ei]at ih
      refine(wR.and ih).up fun n ⟨h,ih⟩=> ?_
      have w1:i64.wrap ((ns.length:Int) - 1)=(ns.length:Int) - 1:=wrap64 _ (by omega) (by omega);have rI:(decide ((0:Int)≤(i:Int))&&decide ((i:Int)<(st.length:Int)))=true:=av (by omega);rw[start,h];simp only[VX,bC,Wx,Wn,Int.toNat_natCast];rw[aj rI,w1,bf (by omega)]
      by_cases hr0:r=0
      · rw[ak (by omega),VY hr0]
        by_cases ha:a=0
        · rw[ay (by rw[VY ha];rfl),VY ha]
          exact ih
        · rw[aj (by rw[VW ha];rfl),VW ha];rfl
      · rw[ae (by omega),VW hr0,Wc,Wb]
        exact ih
theorem Ge:∀(r:Nat)(sz:LI),r≤ns.length→sz.length=ns.length→(∀j:Nat,0≤get sz j∧get sz j≤(j:Int)+1)→
  Evt fun n=>cU (S.tab n) sz ns (ns.length:Int) ((ns.length - r:Nat):Int)=some (Sum.inl (szS ns r sz,()))
 |0,sz,hr,hl,hs=>aB.up fun n _=>by
  rw[ox,ay (by simp)];rfl
 |r+1,sz,hr,hl,hs=>by
  have hi:ns.length - (r+1)<ns.length:=(by omega)
  generalize hii:ns.length - (r+1)=i at hi
  have hx:=hN _ (WO hi);have Ry:=nP hi;have Qu:=B7 hb i hi;rw[Ry]at Qu
  have VK:∀j,0≤get sz j∧get sz j≤3000:=fun j=>by
   have:=hs j
   rcases Nat.lt_or_ge j sz.length with h|h
   ·omega
   ·rw[fA h];omega
  have UJ:(ab ns[i]).length≤200:=by
   have hq:okQ ns i=true:=oV ns.length 0 i (WQ _) (by unfold r7 at hb;omega);unfold okQ wD at hq;rw[VY hi,V9,Wl hi]at hq;have hq:okN ns i ns[i]=true:=hq
   rcases Nat.lt_or_ge 200 (ab ns[i]).length with h|h
   ·unfold okN at hq;rw[VY h]at hq
    revert hq
    cases decide (Prod.fst ns[i].2<0)<;>cases decide (Prod.fst (Prod.snd ns[i].2)<Prod.fst ns[i].2)<;>cases decide (Prod.fst (Prod.snd (Prod.snd ns[i].2))<0)<;>intro h<;>cases h
   ·exact h
  have h8:=J7 sz ↑i ns[i] ns (ns.length:Int) ↑i (fun k h=>by have:=tD hb i hi k h;omega) VK UJ (ab ns[i]).length ↑i (Wp _) (by omega) (by omega);have Fp:at_ (τ:=aa) ns (i:Int)=ns[i]:=kx ns i hi;have wk:i64.wrap (((ab ns[i]).length:Int) - 1)=((ab ns[i]).length:Int) - 1:=wrap64 _ (by omega) (by omega);obtain⟨y0,y1⟩:=GV (kids:=ab ns[i]) hs (ab ns[i]).length ↑i (by omega) (fun j hj=>(Qu j hj).1)
  have iE:szS ns (r+1) sz=szS ns r (bif(mY sz (ab ns[i]) (ab ns[i]).length ↑i).2 then sz.set i ((i:Int) - (mY sz (ab ns[i]) (ab ns[i]).length ↑i).1+1)else sz):=by
   show szS ns r (bif(mY sz (aT ns (ns.length - (r+1))) (aT ns (ns.length - (r+1))).length ((ns.length - (r+1):Nat):Int)).2 then sz.set (ns.length - (r+1)) (((ns.length - (r+1):Nat):Int) - (mY sz (aT ns (ns.length - (r+1))) (aT ns (ns.length - (r+1))).length ((ns.length - (r+1):Nat):Int)).1+1)else sz)=_;rw[hii,Ry]
  rw[iE]
  generalize hy:mY sz (ab ns[i]) (ab ns[i]).length (i:Int)=y at h8 y0 y1
  obtain⟨b,ok⟩:=y;simp only at y0 y1 h8;have ei:ns.length - r=i+1:=(by omega)
  have start:∀n,gy (S.tab n) sz ↑i ns[i] (i:Int) true (((ab ns[i]).length:Int) - 1) ns (ns.length:Int) (i:Int)=some (Sum.inl (sz,(i:Int),b,ok,ns,(ns.length:Int),(i:Int),()))→cU (S.step (S.tab n)) sz ns (ns.length:Int) (i:Int)=brk ok (brk (decide ((0:Int)≤(i:Int))&&decide ((i:Int)<(sz.length:Int))) (cU (S.tab n) (sz.set i (i64.wrap ((i64.wrap ((i:Int) - b))+(1:Int)))) ns (ns.length:Int) (i64.wrap ((i:Int)+(1:Int)))) none) (cU (S.tab n) sz ns (ns.length:Int) (i64.wrap ((i:Int)+(1:Int)))):=fun n h=>by
   rw[ox,ak (by omega),aj (av hi),Fp];show(gy (S.tab n) sz ↑i ns[i] (i:Int) true (i64.wrap (((ab ns[i]).length:Int) - 1)) ns (ns.length:Int) ↑i).bind _=_;rw[wk,h];rfl
  cases ok with
  |true=>
   have ih:=Ge r (sz.set i ((i:Int) - b+1)) (by omega) (by rw[List.length_set];exact hl) (fun j=>by
    rw[lE _ _ _ _ (by omega)];split
    ·rename_i e;subst e;omega
    ·exact hs j)
   rw[ei]at ih
   refine(h8.and ih).up fun n ⟨h,ih⟩=> ?_
   have rI:(decide ((0:Int)≤(i:Int))&&decide ((i:Int)<(sz.length:Int)))=true:=av (by omega);rw[start n h,an,aj rI,wrap64 ((i:Int) - b) (by omega) (by omega),wrap64 ((i:Int) - b+1) (by omega) (by omega),bf (by omega)];exact ih
  |false=>
   have ih:=Ge r sz (by omega) hl hs;rw[ei]at ih
   refine(h8.and ih).up fun n ⟨h,ih⟩=> ?_
   rw[start n h,ah,bf (by omega)];exact ih
end
theorem yF (n j:Nat):get (List.replicate n (0:Int)) j=0:=by
 unfold get;rw[Wm,List.getElem?_replicate];split<;>rfl
theorem Ll (t:Tr)(f:Fa)(sz:LI)(hl:sz.length≤3000):Evt fun n=>cu (S.tab n) t f sz sz (sz.length:Int) 0=some (bif decide (stop (zq sz) sz.length 0<sz.length)then Sum.inl ((3,(stop (zq sz) sz.length 0:Int),()),())else Sum.inr (Sum.inl (t,f,sz,()))):=
 adv (F:=fun T (j:Nat)=>cu T t f sz sz (sz.length:Int) ↑j) (q:=zq sz) (N:=sz.length) (out:=fun j=>bif decide (j<sz.length)then Sum.inl ((3,(j:Int),()),())else Sum.inr (Sum.inl (t,f,sz,()))) (p:=Base2) aB AR
  (fun T j h hq=>by
   unfold zq at hq;rw[V6,V4,WV,V8]at hq;show cu (S.step T) _ _ _ _ _ _=cu T t f sz sz (sz.length:Int) ((j+1:Nat):Int)
   rw[og,ak (by omega),aj (av hq.1),aI,ay (VW hq.2),bf (by omega)])
  (fun T j h hq=>by
   show cu (S.step T) _ _ _ _ _ _=_;rw[og]
   by_cases hj:j<sz.length
   ·unfold zq at hq;rw[VY hj,V9,Bool.not_eq_false']at hq;rw[ak (by omega),aj (av hj),aI,aj hq,VY hj];rfl
   ·rw[ae (by omega),VW hj];rfl) sz.length 0 (by omega)
def lI (ns:List aa.den):Fa:=
 bif decide (ns.length=0)then(1,0,())else
 bif decide (3000<ns.length)then(1,0,())else
 bif !decide (fO ns ((ns.length - 1:Nat):Int)=1)then(1,0,())else
 bif decide (r7 ns<ns.length)then(2,(r7 ns:Int),())else
 match imS ns ns.length (List.replicate ns.length 0)with
 | .inl j=>(3,(j:Int),())
 | .inr _=>bif decide (stop (mL (qk ns ns.length (List.replicate ns.length 0))) ns.length 0<ns.length)then(4,(stop (mL (qk ns ns.length (List.replicate ns.length 0))) ns.length 0:Int),())else(0,0,())
section
variable{ns:List aa.den}(hN:∀x∈ns,NodeOk x)
include hN
theorem yW:Evt fun n=>kR (S.tab n) (ns,())=some (lI ns,fR):=by
 unfold lI
 by_cases c0:ns.length=0
 ·refine aB.up fun n _=> ?_
  have d:decide ((((ns,()):Tr).1.length:Int)=0)=true:=VY (by show(ns.length:Int)=0;omega);rw[oK,aj d,VY c0];rfl
 have d0:decide ((((ns,()):Tr).1.length:Int)=0)=false:=VW (by show¬ (ns.length:Int)=0;omega);rw[VW c0]
 by_cases c1:3000<ns.length
 ·refine aB.up fun n _=> ?_
  have d:decide ((3000:Int)<(((ns,()):Tr).1.length:Int))=true:=VY (by show(3000:Int)<(ns.length:Int);omega);rw[oK,ay d0,aj d,VY c1];rfl
 have hn:ns.length≤3000:=(by omega);have d1:decide ((3000:Int)<(((ns,()):Tr).1.length:Int))=false:=VW (by show¬ (3000:Int)<(ns.length:Int);omega);rw[VW c1]
 have wn:i64.wrap ((((ns,()):Tr).1.length:Int) - 1)=((ns.length - 1:Nat):Int):=by
  show i64.wrap ((ns.length:Int) - 1)=_;rw[wrap64 _ (by omega) (by omega)];omega
 have rI:(decide ((0:Int)≤((ns.length - 1:Nat):Int))&&decide (((ns.length - 1:Nat):Int)<(((ns,()):Tr).1.length:Int)))=true:=av (show ns.length - 1<ns.length by omega)
 have start:∀n,kR (S.step (S.tab n)) (ns,())=_:=fun n=>by
  rw[oK,ay d0,ay d1,wn,aj rI]
 by_cases c2:¬ fO ns ((ns.length - 1:Nat):Int)=1
 ·refine aB.up fun n _=> ?_
  rw[start,aj (by
   show(!decide (fO ns ((ns.length - 1:Nat):Int)=1))=true
   rw[VW c2];rfl),VW c2];rfl
 replace c2:=Decidable.not_not.1 c2
 rw[VY c2]
 have step2:∀n,kR (S.step (S.tab n)) (ns,())=_:=fun n=>by
  rw[start,ay (by
   show(!decide (fO ns ((ns.length - 1:Nat):Int)=1))=false
   rw[VY c2];rfl)]
 have h5:=Nn hN hn (ns.length:Int) (0,0,())
 by_cases c3:r7 ns<ns.length
 ·refine h5.up fun n h=> ?_
  rw[VY c3]at h;rw[step2,VY c3];show(dz (S.tab n) (ns,()) (0,0,()) (ns.length:Int) (ns.length:Int) 0).bind _=_;rw[h];rfl
 rw[VW c3]at h5⊢;have qU:=GH hN hn c3 (0,0,()) ns.length (List.replicate ns.length 0) (Wp _) (by simp) (fun j=>by rw[yF];omega);rw[Nat.sub_self]at qU
 have Fj:(decide ((0:Int)≤(ns.length:Int))&&decide ((ns.length:Int)≤(ns.length:Int))&&decide ((ns.length:Int)≤(lim:Int)))=true:=by
  rw[VY (show(0:Int)≤(ns.length:Int)by omega),VY (show(ns.length:Int)≤(ns.length:Int)by omega),VY (show(ns.length:Int)≤(lim:Int)by unfold lim;omega)];rfl
 have rT:∀n,dz (S.tab n) (ns,()) (0,0,()) (((ns,()):Tr).1.length:Int) (((ns,()):Tr).1.length:Int) 0=some (Sum.inr (Sum.inl ((ns,()),(0,0,()),(ns.length:Int),())))→kR (S.step (S.tab n)) (ns,())=_:=fun n h=>by
  rw[step2,h,VX]
 simp only[Wb,Wq]
 cases hc:imS ns ns.length (List.replicate ns.length 0)with
 |inl j=>
  rw[hc]at qU
  refine(h5.and qU).up fun n ⟨h,h'⟩=> ?_
  rw[rT n h];show brk (decide ((0:Int)≤(ns.length:Int))&&decide ((ns.length:Int)≤(ns.length:Int))&&decide ((ns.length:Int)≤(lim:Int))) ((bY (S.tab n) (ns,()) (0,0,()) (ns.length:Int) (List.replicate ns.length 0) ns (ns.length:Int) 0).bind _) _=_;have h':bY (S.tab n) (ns,()) (0,0,()) (ns.length:Int) (List.replicate ns.length 0) ns (ns.length:Int) 0=_:=h';rw[aj Fj,h'];rfl
 |inr u=>
  rw[hc]at qU;have Ba:=GX hN hn c3 (0,0,()) ns.length (List.replicate ns.length 0) (Wp _) (by simp)
  have Qq:(qk ns ns.length (List.replicate ns.length 0)).length=ns.length:=by rw[AL];simp
  have x7:=Lp (0,0,()) (qk ns ns.length (List.replicate ns.length 0)) (by omega);rw[Qq]at x7
  refine((h5.and qU).and (Ba.and x7)).up fun n ⟨⟨h,h'⟩,Ba,x7⟩=> ?_
  rw[rT n h];show brk (decide ((0:Int)≤(ns.length:Int))&&decide ((ns.length:Int)≤(ns.length:Int))&&decide ((ns.length:Int)≤(lim:Int))) ((bY (S.tab n) (ns,()) (0,0,()) (ns.length:Int) (List.replicate ns.length 0) ns (ns.length:Int) 0).bind _) _=_;have h':bY (S.tab n) (ns,()) (0,0,()) (ns.length:Int) (List.replicate ns.length 0) ns (ns.length:Int) 0=_:=h';rw[aj Fj,h',VX];show brk (decide ((0:Int)≤(ns.length:Int))&&decide ((ns.length:Int)≤(ns.length:Int))&&decide ((ns.length:Int)≤(lim:Int))) ((iK (S.tab n) (ns,()) (0,0,()) (List.replicate ns.length 0) (i64.wrap ((ns.length:Int) - 1))).bind _) _=_;rw[aj Fj,wrap64 _ (by omega) (by omega),Ba,VX];show(dH (S.tab n) (0,0,()) (qk ns ns.length (List.replicate ns.length 0)) ((qk ns ns.length (List.replicate ns.length 0)).length:Int) 0).bind _=_;rw[Qq,x7,VX];cases decide (stop (mL (qk ns ns.length (List.replicate ns.length 0))) ns.length 0<ns.length)<;>rfl
theorem zf:Evt fun n=>kP (S.tab n) (ns,())=some (lI ns,dD):=by
 unfold lI
 by_cases c0:ns.length=0
 ·refine aB.up fun n _=> ?_
  have d:decide ((((ns,()):Tr).1.length:Int)=0)=true:=VY (by show(ns.length:Int)=0;omega);rw[oG,aj d,VY c0];rfl
 have d0:decide ((((ns,()):Tr).1.length:Int)=0)=false:=VW (by show¬ (ns.length:Int)=0;omega);rw[VW c0]
 by_cases c1:3000<ns.length
 ·refine aB.up fun n _=> ?_
  have d:decide ((3000:Int)<(((ns,()):Tr).1.length:Int))=true:=VY (by show(3000:Int)<(ns.length:Int);omega);rw[oG,ay d0,aj d,VY c1];rfl
 have hn:ns.length≤3000:=(by omega);have d1:decide ((3000:Int)<(((ns,()):Tr).1.length:Int))=false:=VW (by show¬ (3000:Int)<(ns.length:Int);omega);rw[VW c1]
 have wn:i64.wrap ((((ns,()):Tr).1.length:Int) - 1)=((ns.length - 1:Nat):Int):=by
  show i64.wrap ((ns.length:Int) - 1)=_;rw[wrap64 _ (by omega) (by omega)];omega
 have rI:(decide ((0:Int)≤((ns.length - 1:Nat):Int))&&decide (((ns.length - 1:Nat):Int)<(((ns,()):Tr).1.length:Int)))=true:=av (show ns.length - 1<ns.length by omega)
 have start:∀n,kP (S.step (S.tab n)) (ns,())=_:=fun n=>by
  rw[oG,ay d0,ay d1,wn,aj rI]
 by_cases c2:¬ fO ns ((ns.length - 1:Nat):Int)=1
 ·refine aB.up fun n _=> ?_
  rw[start,aj (by
   show(!decide (fO ns ((ns.length - 1:Nat):Int)=1))=true
   rw[VW c2];rfl),VW c2];rfl
 replace c2:=Decidable.not_not.1 c2
 rw[VY c2]
 have step2:∀n,kP (S.step (S.tab n)) (ns,())=_:=fun n=>by
  rw[start,ay (by
   show(!decide (fO ns ((ns.length - 1:Nat):Int)=1))=false
   rw[VY c2];rfl)]
 have h4:=ND hN hn (0,0,())
 by_cases c3:r7 ns<ns.length
 ·refine h4.up fun n h=> ?_
  rw[VY c3]at h;rw[step2,VY c3];show(dA (S.tab n) (ns,()) (0,0,()) (ns.length:Int) 0).bind _=_;rw[h];rfl
 rw[VW c3]at h4⊢;have h3:=Ge hN hn c3 ns.length (List.replicate ns.length 0) (Wp _) (by simp) (fun j=>by rw[yF];omega);rw[Nat.sub_self]at h3
 have Fj:(decide ((0:Int)≤(ns.length:Int))&&decide ((ns.length:Int)≤(ns.length:Int))&&decide ((ns.length:Int)≤(lim:Int)))=true:=by
  rw[VY (show(0:Int)≤(ns.length:Int)by omega),VY (show(ns.length:Int)≤(ns.length:Int)by omega),VY (show(ns.length:Int)≤(lim:Int)by unfold lim;omega)];rfl
 have DP:Evt fun n=>jM (S.tab n) (ns,())=some (szS ns ns.length (List.replicate ns.length 0),sn):=h3.up fun n h=>by
  rw[yu,aj Fj];show(cU (S.tab n) (List.replicate ns.length 0) ns (ns.length:Int) 0).bind _=_;have h:cU (S.tab n) (List.replicate ns.length 0) ns (ns.length:Int) 0=_:=h;rw[h];rfl
 have Gs:(szS ns ns.length (List.replicate ns.length 0)).length=ns.length:=by rw[Dm];simp
 have nQ:=Ll (ns,()) (0,0,()) (szS ns ns.length (List.replicate ns.length 0)) (by omega)
 have Q8:imS ns ns.length (List.replicate ns.length 0)=Fg (szS ns ns.length (List.replicate ns.length 0)):=by
  obtain⟨r,hr⟩:∃r,ns.length=r+1:=⟨ns.length - 1,by omega⟩;have:=Nq ns (B7 c3) r (List.replicate ns.length 0) (List.replicate ns.length 0) (by omega) ⟨by simp,by simp,fun j hj=>by omega,fun j _=>⟨yF ..,yF ..⟩⟩;rw[←hr]at this;exact this
 rw[Q8];simp only[Wb,Wq]
 generalize iE:szS ns ns.length (List.replicate ns.length 0)=sz at DP Gs nQ
 have rT:∀n,dA (S.tab n) (ns,()) (0,0,()) (((ns,()):Tr).1.length:Int) 0=some (Sum.inr (Sum.inl ((ns,()),(0,0,()),())))→kP (S.step (S.tab n)) (ns,())=_:=fun n h=>by
  rw[step2,h,VX]
 unfold Fg
 cases hz:decide (stop (zq sz) sz.length 0<sz.length)with
 |true=>
  rw[hz]at nQ
  refine((h4.and DP).and nQ).up fun n ⟨⟨h,h'⟩,nQ⟩=> ?_
  rw[rT n h];show(jM (S.tab n) (ns,())).bind _=_;rw[h',VX];show(cu (S.tab n) (ns,()) (0,0,()) sz sz (sz.length:Int) 0).bind _=_;rw[nQ];rfl
 |false=>
  rw[hz]at nQ
  have wz:i64.wrap ((sz.length:Int) - 1)=((sz.length - 1:Nat):Int):=by rw[wrap64 _ (by omega) (by omega)];omega
  have Qw:(decide ((0:Int)≤((sz.length - 1:Nat):Int))&&decide (((sz.length - 1:Nat):Int)<(sz.length:Int)))=true:=av (show sz.length - 1<sz.length by omega)
  cases o8:decide (get sz (sz.length - 1)=(sz.length:Int))with
  |false=>
   refine((h4.and DP).and nQ).up fun n ⟨⟨h,h'⟩,nQ⟩=> ?_
   rw[rT n h];show(jM (S.tab n) (ns,())).bind _=_;rw[h',VX];show(cu (S.tab n) (ns,()) (0,0,()) sz sz (sz.length:Int) 0).bind _=_;rw[nQ,VX];show brk (decide ((0:Int)≤i64.wrap ((sz.length:Int) - 1))&&decide (i64.wrap ((sz.length:Int) - 1)<(sz.length:Int))) (brk (!decide (sz.getD (i64.wrap ((sz.length:Int) - 1)).toNat 0=(sz.length:Int))) (some ((3,i64.wrap ((sz.length:Int) - 1),()),dD)) _) _=_;rw[wz,aj Qw,aI,o8,aj (by rfl)];rfl
  |true=>
   have vl:=G7 hN hn c3 (0,0,()) ns.length (List.replicate ns.length 0) (Wp _) (by simp)
   have Qq:(qk ns ns.length (List.replicate ns.length 0)).length=ns.length:=by rw[AL];simp
   have lM:=Lg (0,0,()) (qk ns ns.length (List.replicate ns.length 0)) (by omega);rw[Qq]at lM
   refine(((h4.and DP).and nQ).and (vl.and lM)).up fun n ⟨⟨⟨h,h'⟩,nQ⟩,vl,lM⟩=> ?_
   rw[rT n h];show(jM (S.tab n) (ns,())).bind _=_;rw[h',VX];show(cu (S.tab n) (ns,()) (0,0,()) sz sz (sz.length:Int) 0).bind _=_;rw[nQ,VX];show brk (decide ((0:Int)≤i64.wrap ((sz.length:Int) - 1))&&decide (i64.wrap ((sz.length:Int) - 1)<(sz.length:Int))) (brk (!decide (sz.getD (i64.wrap ((sz.length:Int) - 1)).toNat 0=(sz.length:Int))) (some ((3,i64.wrap ((sz.length:Int) - 1),()),dD)) _) _=_;rw[wz,aj Qw,aI,o8,ay (by rfl)];show brk (decide ((0:Int)≤(ns.length:Int))&&decide ((ns.length:Int)≤(ns.length:Int))&&decide ((ns.length:Int)≤(lim:Int))) ((iH (S.tab n) (ns,()) (0,0,()) (List.replicate ns.length 0) (i64.wrap ((ns.length:Int) - 1))).bind _) _=_;rw[aj Fj,wrap64 _ (by omega) (by omega),vl,VX];show(dN (S.tab n) (0,0,()) (qk ns ns.length (List.replicate ns.length 0)) ((qk ns ns.length (List.replicate ns.length 0)).length:Int) 0).bind _=_;rw[Qq,lM,VX];cases decide (stop (mL (qk ns ns.length (List.replicate ns.length 0))) ns.length 0<ns.length)<;>rfl
end
end Go.Abs.D
end

section

end

section

end

section
namespace Go.Abs.D
theorem C8 {α:Type}(pre:List α)(x y:α)(r:List α):(pre++x::r).set pre.length y=pre++y::r:=by
 rw[List.set_append_right _ _ (Wp _),Nat.sub_self];rfl
end Go.Abs.D
end

section
namespace Go.Abs.D
def szL:List LI→Int→Int
 |[],l=>l
 |m::r,l=>bif decide (l - (m.length:Int)<0)then -1 else szL r (l - (m.length:Int))
def tK (names:List LI)(l:Int):Int:=bif decide (l - (names.length:Int)<0)then -1 else szL names (l - (names.length:Int))
def BL (kids:LI)(l:Int):Int:=bif decide (l - (kids.length:Int)<0)then -1 else l - (kids.length:Int)
def xv (x:aa.den)(l:Int):Int:=
 bif decide (l - (List.length (α:=Int) x.2.2.2.2.2.2.1:Int)<0)then -1 else
 bif decide (tK (al x) (l - (List.length (α:=Int) x.2.2.2.2.2.2.1:Int))<0)then -1 else
 bif decide (BL (ab x) (tK (al x) (l - (List.length (α:=Int) x.2.2.2.2.2.2.1:Int)))<0)then -1 else BL (ab x) (tK (al x) (l - (List.length (α:=Int) x.2.2.2.2.2.2.1:Int)))
def Fb:List aa.den→Int→Int
 |[],l=>l
 |x::r,l=>bif decide (xv x l<0)then -1 else Fb r (xv x l)
def Fi (ns:List aa.den)(l:Int):Int:=bif decide (l - (ns.length:Int)<0)then -1 else Fb ns (l - (ns.length:Int))
theorem E3 {l:Int}{n:Nat}(h0:0≤l)(h1:l≤1048576)(hn:n≤maxLen):i64.wrap (l - (n:Int))=l - (n:Int):=by
 unfold maxLen at hn;exact wrap64 _ (by omega) (by omega)
theorem Jy:∀(r:List LI)(l:Int),szL r l≤l∨szL r l= -1
 |[],l=> .inl (Int.le_refl _)
 |m::r,l=>by
  unfold szL
  by_cases h:l - (m.length:Int)<0
  ·rw[VY h];exact .inr rfl
  ·rw[VW h]
   rcases Jy r (l - (m.length:Int))with h|h
   ·left;simp only[Wb];omega
   ·right;exact h
theorem xC:∀(r pre:List LI)(l:Int),0≤l→l≤1048576→(∀m∈r,m.length≤maxLen)→(pre++r).length≤2097152→
  Evt fun n=>∃y,cJ (S.tab n) (pre++r) l (pre.length:Int)=some y∧(y= .inl (szL r l,())∨y= .inr (.inl (szL r l,())))
 |[],pre,l,_,_,_,_=>aB.up fun n _=>by
  show∃y,cJ (S.step (S.tab n)) _ _ _=_∧_;rw[mC,ay (by simp)];exact⟨_,rfl, .inr rfl⟩
 |m::r,pre,l,h0,h1,hm,hl=>by
  have hlen:(pre++m::r).length=pre.length+(r.length+1):=(by simp);have hg:(pre++m::r).getD (pre.length:Int).toNat []=m:=fZ pre m r [];have w:=E3 h0 h1 (hm m (Wk ..))
  have start:∀n,cJ (S.step (S.tab n)) (pre++m::r) l (pre.length:Int)=_:=fun n=>by
   rw[mC,ak (by omega),aj (av (by omega)),hg,w,bf (by omega)]
  unfold szL
  by_cases h:l - (m.length:Int)<0
  ·refine aB.up fun n _=> ?_
   show∃y,cJ (S.step (S.tab n)) _ _ _=_∧_;rw[start,ak h,VY h];exact⟨_,rfl, .inl rfl⟩
  ·have ih:=xC r (pre++[m]) (l - (m.length:Int)) (by omega) (by omega) (fun x hx=>hm x (Wj _ hx)) (by simpa using hl)
   refine ih.up fun n ih=> ?_
   show∃y,cJ (S.step (S.tab n)) _ _ _=_∧_;rw[start,ae h,VW h];have e1:(pre++[m])++r=pre++m::r:=(by simp);have e2:(pre++[m]).length=pre.length+1:=(by simp);rw[e1,e2]at ih;exact ih
theorem Jx (names:List LI)(l:Int)(h0:0≤l)(h1:l≤1048576)(hm:∀m∈names,m.length≤maxLen)(hn:names.length≤maxLen):Evt fun n=>jv (S.tab n) names l=some (tK names l,jL):=by
 have w:=E3 h0 h1 hn;unfold tK
 by_cases h:l - (names.length:Int)<0
 ·refine aB.up fun n _=> ?_
  rw[ph,w,ak h,VY h];rfl
 ·refine(xC names [] (l - (names.length:Int)) (by omega) (by omega) hm (by simp only[List.nil_append];omega)).up fun n ⟨y,h',hy⟩=> ?_
  have h':cJ (S.tab n) names (l - (names.length:Int)) 0=some y:=h';rw[ph,w,ae h,VW h,h',VX]
  rcases hy with rfl|rfl<;>rfl
theorem Jv (kids:LI)(l:Int)(h0:0≤l)(h1:l≤1048576)(hn:kids.length≤maxLen):Evt fun n=>pH (S.tab n) kids l=some (BL kids l,qh):=aB.up fun n _=>by
 unfold BL;rw[zr,E3 h0 h1 hn]
 by_cases h:l - (kids.length:Int)<0
 ·rw[ak h,VY h];rfl
 ·rw[ae h,VW h];rfl
structure Read (x:aa.den):Prop where
 text:(∀c∈x.2.2.2.2.2.2.1,isByte c)∧List.length (α:=Int) x.2.2.2.2.2.2.1≤maxLen
 names:(∀m∈al x,(∀c∈m,isByte c)∧m.length≤maxLen)∧(al x).length≤maxLen
 kids:(ab x).length≤maxLen
theorem Hg {names:List LI}{l:Int}(h:0≤tK names l):tK names l≤l∧(names.length:Int)≤l:=by
 unfold tK at h⊢
 by_cases hd:l - (names.length:Int)<0
 ·rw[VY hd]at h;exact absurd (show(0:Int)≤ -1 from h) (by decide)
 ·rw[VW hd]at h⊢;simp only[Wb]at h⊢
  rcases Jy names (l - (names.length:Int))with h'|h'
  ·omega
  ·rw[h']at h;exact absurd (show(0:Int)≤ -1 from h) (by decide)
theorem LL {kids:LI}{l:Int}(h:0≤BL kids l):BL kids l≤l∧(kids.length:Int)≤l:=by
 unfold BL at h⊢
 by_cases hd:l - (kids.length:Int)<0
 ·rw[VY hd]at h;exact absurd (show(0:Int)≤ -1 from h) (by decide)
 ·rw[VW hd]at h⊢;simp only[Wb]at h⊢;omega
theorem G4 {x:aa.den}{l:Int}(h:0≤xv x l):xv x l≤l∧((al x).length:Int)≤l∧((ab x).length:Int)≤l∧(List.length (α:=Int) x.2.2.2.2.2.2.1:Int)≤l:=by
 unfold xv at h⊢
 by_cases h1:l - (List.length (α:=Int) x.2.2.2.2.2.2.1:Int)<0
 ·rw[VY h1]at h;exact absurd (show(0:Int)≤ -1 from h) (by decide)
 rw[VW h1]at h⊢
 by_cases h2:tK (al x) (l - (List.length (α:=Int) x.2.2.2.2.2.2.1:Int))<0
 ·rw[VY h2]at h;exact absurd (show(0:Int)≤ -1 from h) (by decide)
 rw[VW h2]at h⊢
 by_cases h3:BL (ab x) (tK (al x) (l - (List.length (α:=Int) x.2.2.2.2.2.2.1:Int)))<0
 ·rw[VY h3]at h;exact absurd (show(0:Int)≤ -1 from h) (by decide)
 rw[VW h3]at h⊢;simp only[Wb]at h⊢;have a:=Hg (show 0≤tK (al x) (l - (List.length (α:=Int) x.2.2.2.2.2.2.1:Int))by omega);have b:=LL (show 0≤BL (ab x) (tK (al x) (l - (List.length (α:=Int) x.2.2.2.2.2.2.1:Int)))by omega);omega
theorem HD {x:aa.den}(hx:Read x)(l:Int)(h0:0≤l)(h1:l≤1048576):Evt fun n=>pD (S.tab n) x l=some (xv x l,iV):=by
 have w:=E3 h0 h1 hx.text.2;unfold xv
 by_cases c1:l - (List.length (α:=Int) x.2.2.2.2.2.2.1:Int)<0
 ·refine aB.up fun n _=> ?_
  rw[oJ,w,ak c1,VY c1];rfl
 have hs:=Jx (al x) (l - (List.length (α:=Int) x.2.2.2.2.2.2.1:Int)) (by omega) (by omega) (fun m hm=>(hx.names.1 m hm).2) hx.names.2;rw[VW c1]
 by_cases c2:tK (al x) (l - (List.length (α:=Int) x.2.2.2.2.2.2.1:Int))<0
 ·refine hs.up fun n hs=> ?_
  rw[oJ,w,ae c1];show(jv (S.tab n) (al x) _).bind _=_;rw[hs,VX,ak c2,VY c2];rfl
 have a:=Hg (show 0≤tK (al x) (l - (List.length (α:=Int) x.2.2.2.2.2.2.1:Int))by omega);have hi:=Jv (ab x) (tK (al x) (l - (List.length (α:=Int) x.2.2.2.2.2.2.1:Int))) (by omega) (by omega) hx.kids;rw[VW c2]
 refine(hs.and hi).up fun n ⟨hs,hi⟩=> ?_
 rw[oJ,w,ae c1];show(jv (S.tab n) (al x) _).bind _=_;rw[hs,VX,ae c2];show(pH (S.tab n) (ab x) _).bind _=_;rw[hi,VX]
 by_cases c3:BL (ab x) (tK (al x) (l - (List.length (α:=Int) x.2.2.2.2.2.2.1:Int)))<0
 ·rw[ak c3,VY c3];rfl
 ·rw[ae c3,VW c3];rfl
theorem Ai:∀(r pre:List aa.den)(l:Int),0≤l→l≤1048576→(∀x∈r,Read x)→(pre++r).length≤2097152→
  Evt fun n=>∃y,dM (S.tab n) (pre++r) l (pre.length:Int)=some y∧(y= .inl (Fb r l,())∨y= .inr (.inl (Fb r l,())))
 |[],pre,l,_,_,_,_=>aB.up fun n _=>by
  show∃y,dM (S.step (S.tab n)) _ _ _=_∧_;rw[ow,ay (by simp)];exact⟨_,rfl, .inr rfl⟩
 |x::r,pre,l,h0,h1,hm,hl=>by
  have hlen:(pre++x::r).length=pre.length+(r.length+1):=(by simp)
  have hg:at_ (τ:=aa) (pre++x::r) (pre.length:Int)=x:=by rw[kx _ _ (by omega)];simp
  have hz:=HD (hm x (Wk ..)) l h0 h1
  have start:∀n,pD (S.tab n) x l=some (xv x l,iV)→dM (S.step (S.tab n)) (pre++x::r) l (pre.length:Int)=_:=fun n hz=>by
   rw[ow,ak (by omega),aj (av (by omega)),hg,hz,VX,bf (by omega)]
  unfold Fb
  by_cases h:xv x l<0
  ·refine hz.up fun n hz=> ?_
   show∃y,dM (S.step (S.tab n)) _ _ _=_∧_;rw[start n hz,ak h,VY h];exact⟨_,rfl, .inl rfl⟩
  ·have hle:=G4 (show 0≤xv x l by omega);have ih:=Ai r (pre++[x]) (xv x l) (by omega) (by omega) (fun y hy=>hm y (Wj _ hy)) (by simpa using hl)
   refine(hz.and ih).up fun n ⟨hz,ih⟩=> ?_
   show∃y,dM (S.step (S.tab n)) _ _ _=_∧_;rw[start n hz,ae h,VW h];have e1:(pre++[x])++r=pre++x::r:=(by simp);have e2:(pre++[x]).length=pre.length+1:=(by simp);rw[e1,e2]at ih;exact ih
theorem Eu:∀(r:List aa.den)(l:Int),0≤Fb r l→l≤1048576→∀x∈r,((al x).length:Int)≤1048576∧((ab x).length:Int)≤1048576∧(List.length (α:=Int) x.2.2.2.2.2.2.1:Int)≤1048576
 |[],l,_,_,x,hx=>by cases hx
 |y::r,l,h,h1,x,hx=>by
  unfold Fb at h
  by_cases hd:xv y l<0
  ·rw[VY hd]at h;exact absurd (show(0:Int)≤ -1 from h) (by decide)
  rw[VW hd]at h;have hle:=G4 (show 0≤xv y l by omega)
  rcases WE.1 hx with rfl|hx
  ·omega
  ·exact Eu r _ h (by omega) x hx
theorem HX (ns:List aa.den)(hN:∀x∈ns,Read x)(hn:ns.length≤maxLen):Evt fun n=>sQ (S.tab n) (ns,()) 1048576=some (bif decide (Fi ns 1048576<0)then -1 else Fi ns 1048576,qe):=by
 have w:=E3 (l:=1048576) (by decide) (by decide) hn
 have hS:Evt fun n=>ny (S.tab n) ns 1048576=some (Fi ns 1048576,ll):=by
  unfold Fi
  by_cases h:1048576 - (ns.length:Int)<0
  ·refine aB.up fun n _=> ?_
   rw[rN,w,ak h,VY h];rfl
  ·refine(Ai ns [] (1048576 - (ns.length:Int)) (by omega) (by omega) hN (by simp only[List.nil_append];omega)).up fun n ⟨y,h',hy⟩=> ?_
   have h':dM (S.tab n) ns (1048576 - (ns.length:Int)) 0=some y:=h';rw[rN,w,ae h,VW h,h',VX]
   rcases hy with rfl|rfl<;>rfl
 refine hS.up fun n h=> ?_
 rw[zk];show(ny (S.tab n) ns 1048576).bind _=_;rw[h,VX]
 by_cases hd:Fi ns 1048576<0
 ·rw[ak hd,VY hd];rfl
 ·rw[ae hd,VW hd];rfl
theorem xG:∀(r pre:List LI),(pre++r).length≤2097152→Evt fun n=>gH (S.tab n) (pre++r) (pre++List.replicate r.length []) (pre.length:Int)=some (Sum.inl (pre++r,()))
 |[],pre,hl=>aB.up fun n _=>by
  rw[my,ay (by simp)];simp
 |m::r,pre,hl=>by
  have hlen:(pre++m::r).length=pre.length+(r.length+1):=(by simp);have ih:=xG r (pre++[m]) (by simpa using hl)
  refine ih.up fun n h=> ?_
  have hg:(pre++m::r).getD (pre.length:Int).toNat []=m:=fZ pre m r [];have e1:(pre++[m])++r=pre++m::r:=(by simp);have e2:(pre++[m]).length=pre.length+1:=(by simp);have e3:(pre++[m])++List.replicate r.length []=pre++m::List.replicate r.length []:=(by simp);rw[e1,e2,e3]at h;rw[my,ak (by omega),aj (av (by omega)),V0,List.replicate_succ,aj (av (by simp)),hg,Int.toNat_natCast,C8,bf (by omega)];exact h
theorem Kg {k:Nat}(h:k≤2097152):(decide ((0:Int)≤(k:Int))&&decide ((k:Int)≤(k:Int))&&decide ((k:Int)≤(lim:Int)))=true:=by
 rw[VY (show(0:Int)≤(k:Int)by omega),VY (show(k:Int)≤(k:Int)by omega),VY (show(k:Int)≤(lim:Int)by unfold lim;omega)];rfl
theorem I6 (l:List LI)(hl:l.length≤2097152):Evt fun n=>lq (S.tab n) l=some (l,qD):=(xG l [] (by simpa using hl)).up fun n h=>by
 have h:gH (S.tab n) l (List.replicate l.length []) 0=some (Sum.inl (l,())):=h;rw[vw,aj (Kg hl),Int.toNat_natCast,h];rfl
theorem xI:∀(r pre:LI),(pre++r).length≤2097152→Evt fun n=>ju (S.tab n) (pre++r) (pre++List.replicate r.length 0) (pre.length:Int)=some (Sum.inl (pre++r,()))
 |[],pre,hl=>aB.up fun n _=>by
  rw[py,ay (by simp)];simp
 |m::r,pre,hl=>by
  have hlen:(pre++m::r).length=pre.length+(r.length+1):=(by simp);have ih:=xI r (pre++[m]) (by simpa using hl)
  refine ih.up fun n h=> ?_
  have hg:(pre++m::r).getD (pre.length:Int).toNat 0=m:=fZ pre m r 0;have e1:(pre++[m])++r=pre++m::r:=(by simp);have e2:(pre++[m]).length=pre.length+1:=(by simp);have e3:(pre++[m])++List.replicate r.length 0=pre++m::List.replicate r.length 0:=(by simp);rw[e1,e2,e3]at h;rw[py,ak (by omega),aj (av (by omega)),V0,List.replicate_succ,aj (av (by simp)),hg,Int.toNat_natCast,C8,bf (by omega)];exact h
theorem Jc (l:LI)(hl:l.length≤2097152):Evt fun n=>pB (S.tab n) l=some (l,tU):=(xI l [] (by simpa using hl)).up fun n h=>by
 have h:ju (S.tab n) l (List.replicate l.length 0) 0=some (Sum.inl (l,())):=h;rw[yX,aj (Kg hl),Int.toNat_natCast,h];rfl
theorem H7 {x:aa.den}(hx:NodeOk x):Evt fun n=>sW (S.tab n) x=some (x,tQ):=((I6 (al x) hx.nn).and (Jc (ab x) hx.nk)).up fun n ⟨h1,h2⟩=>by
 rw[zA];show(lq (S.tab n) (al x)).bind _=_;rw[h1,VX];show(pB (S.tab n) (ab x)).bind _=_;rw[h2];rfl
theorem uu (d:aa.den):∀(r pre:List aa.den),(∀x∈r,NodeOk x)→(pre++r).length≤2097152→Evt fun n=>iG (S.tab n) (pre++r) (pre++List.replicate r.length d) (pre.length:Int)=some (Sum.inl (pre++r,()))
 |[],pre,_,hl=>aB.up fun n _=>by
  rw[oC,ay (by simp)];simp
 |x::r,pre,hN,hl=>by
  have hlen:(pre++x::r).length=pre.length+(r.length+1):=(by simp);have ih:=uu d r (pre++[x]) (fun y hy=>hN y (Wj _ hy)) (by simpa using hl)
  refine(ih.and (H7 (hN x (Wk ..)))).up fun n ⟨h,hx⟩=> ?_
  have hg:at_ (τ:=aa) (pre++x::r) (pre.length:Int)=x:=by rw[kx _ _ (by omega)];simp
  have e1:(pre++[x])++r=pre++x::r:=(by simp);have e2:(pre++[x]).length=pre.length+1:=(by simp);have e3:(pre++[x])++List.replicate r.length d=pre++x::List.replicate r.length d:=(by simp);rw[e1,e2,e3]at h;rw[oC,ak (by omega),aj (av (by omega)),hg,hx,VX,V0,List.replicate_succ,aj (av (by simp)),Int.toNat_natCast,C8,bf (by omega)];exact h
theorem HQ (ns:List aa.den)(hN:∀x∈ns,NodeOk x)(hl:ns.length≤2097152):Evt fun n=>mF (S.tab n) (ns,())=some ((ns,()),ui):=by
 have h1:Evt fun n=>nB (S.tab n) ns=some (ns,sA):=(uu _ ns [] hN (by simpa using hl)).up fun n h=>by
  rw[yd,aj (Kg hl),Int.toNat_natCast];have h:iG (S.tab n) ns (List.replicate ns.length ((0:Int),(0:Int),(0:Int),(0:Int),(0:Int),(0:Int),([]:LI),[],[],())) 0=some (Sum.inl (ns,())):=h;rw[h];rfl
 exact h1.up fun n h=>by
  rw[yY];show(nB (S.tab n) ns).bind _=_;rw[h];rfl
theorem FJ (l:List LI)(hl:l.length≤2097152):Evt fun n=>lh (S.tab n) l l=some (true,jK):=by
 have:=xx (F:=fun T j=>dh T l l ↑j) (P:=fun _=>true) (l:=l) (yes:=Sum.inr (Sum.inl ())) (no:=Sum.inl (false,())) (q:=Base2) aB
  (fun T j h hT=>by
   show dh (S.step T) _ _ _=bif true then dh T l l ((j+1:Nat):Int)else _
   rw[mB,ak (by omega),aj (av h),aj (av h),ay (by simp),bf (by omega)];rfl)
  (fun T hT=>by
   show dh (S.step T) _ _ _=_
   rw[mB,ay (by simp)]) l.length 0 (by omega)
 refine this.up fun n h=> ?_
 have e:(l.drop 0).all (fun _=>true)=true:=(by simp);rw[e]at h;have h:dh (S.tab n) l l 0=_:=h;rw[vt,ay (by simp),h];rfl
theorem FT (l:LI)(hl:l.length≤2097152):Evt fun n=>pC (S.tab n) l l=some (true,ml):=by
 have:=xx (F:=fun T j=>fh T l l ↑j) (P:=fun _=>true) (l:=l) (yes:=Sum.inr (Sum.inl ())) (no:=Sum.inl (false,())) (q:=Base2) aB
  (fun T j h hT=>by
   show fh (S.step T) _ _ _=bif true then fh T l l ((j+1:Nat):Int)else _
   rw[pg,ak (by omega),aj (av h),aj (av h),ay (by simp),bf (by omega)];rfl)
  (fun T hT=>by
   show fh (S.step T) _ _ _=_
   rw[pg,ay (by simp)]) l.length 0 (by omega)
 refine this.up fun n h=> ?_
 have e:(l.drop 0).all (fun _=>true)=true:=(by simp);rw[e]at h;have h:fh (S.tab n) l l 0=_:=h;rw[zC,ay (by simp),h];rfl
theorem D9 {x:aa.den}(hx:NodeOk x):Evt fun n=>mE (S.tab n) x x=some (true,cB):=((FJ (al x) hx.nn).and (FT (ab x) hx.nk)).up fun n ⟨h1,h2⟩=>by
 have d:∀(x:Int),(!decide (x=x))=false:=fun x=>by simp
 have d':∀(x:LI),(!decide (x=x))=false:=fun x=>by simp
 have h1:lh (S.tab n) x.2.2.2.2.2.2.2.1 x.2.2.2.2.2.2.2.1=_:=h1;have h2:pC (S.tab n) x.2.2.2.2.2.2.2.2.1 x.2.2.2.2.2.2.2.2.1=_:=h2;rw[zc,ay (d _),ay (d _),ay (d _),ay (d _),ay (d _),ay (d _),ay (d' _),h1,VX,ay (by rfl),h2,VX,ay (by rfl)]
theorem D8 (ns:List aa.den)(hN:∀x∈ns,NodeOk x)(hl:ns.length≤2097152):Evt fun n=>sT (S.tab n) (ns,()) (ns,())=some (true,p8):=by
 have nd:∀(l:List aa.den),(∀x∈l,NodeOk x)→Evt fun n=>∀x∈l,mE (S.tab n) x x=some (true,cB):=by
  intro l
  induction l with
  |nil=>intro _;exact Evt.of fun _ j h=>by cases h
  |cons a l ih=>
   intro h
   refine((D9 (h a (Wk ..))).and (ih fun j hj=>h j (Wj _ hj))).mono fun n ⟨h1,h2⟩ j hj=> ?_
   rcases WE.1 hj with rfl|hj
   ·exact h1
   ·exact h2 j hj
 have:=xx (F:=fun T j=>eP T ns ns ↑j) (P:=fun _=>true) (l:=ns) (yes:=Sum.inr (Sum.inl ())) (no:=Sum.inl (false,())) (q:=fun T=>∀x∈ns,mE T x x=some (true,cB)) (nd ns hN)
  (fun T j h hT=>by
   show eP (S.step T) _ _ _=bif true then eP T ns ns ((j+1:Nat):Int)else _
   rw[oE,ak (by omega),aj (av h),aj (av h),kx _ _ h,hT _ (WO h),VX,ay (by rfl),bf (by omega)];rfl)
  (fun T hT=>by
   show eP (S.step T) _ _ _=_
   rw[oE,ay (by simp)]) ns.length 0 (by omega)
 have h2:Evt fun n=>nF (S.tab n) ns ns=some (true,lj):=this.up fun n h=>by
  have e:(ns.drop 0).all (fun _=>true)=true:=(by simp);rw[e]at h;have h:eP (S.tab n) ns ns 0=_:=h;rw[yk,ay (by simp),h];rfl
 exact h2.up fun n h=>by
  rw[zm];show(nF (S.tab n) ns ns).bind _=_;rw[h,VX,ay (by rfl)]
theorem guard (ns:List aa.den)(hN:∀x∈ns,Read x)(h:¬ Fi ns 1048576<0):(∀x∈ns,NodeOk x)∧ns.length≤2097152:=by
 unfold Fi at h
 by_cases hd:1048576 - (ns.length:Int)<0
 ·rw[VY hd]at h;exact absurd (show(-1:Int)<0 by decide) h
 rw[VW hd]at h;have h:¬ Fb ns (1048576 - (ns.length:Int))<0:=h;refine⟨fun x hx=> ?_,by omega⟩;obtain⟨h1,h2,h3⟩:=Eu ns (1048576 - (ns.length:Int)) (by omega) (by omega) x hx;have hr:=hN x hx;exact⟨hr.text.1,fun m hm=>(hr.names.1 m hm).1,by omega,by omega⟩
end Go.Abs.D
end

section
namespace Go.Abs.D
def Bd (names:List LI)(text:LI):Prop:=text.length≤4000∧names.length≤200∧∀m∈names,m.length≤40
theorem EK {k:Int}{s:LI}(h:cL k s=true):s.length≤40:=by
 unfold cL at h;simp only[V6,V4]at h;exact h.1.2
theorem Pv {names:List LI}{a b:Int}(h:NM names a b=true)(hb:b≤200):names.length≤200∧∀m∈names,m.length≤40:=by
 unfold NM at h;simp only[V6,V4,List.all_eq_true]at h;exact⟨by omega,fun m hm=>EK (h.2.2 m hm)⟩
def Ws (names:List LI)(text:LI)(b:Bool):Prop:=b=true→Bd names text
variable{ks:LI}{names:List LI}{op num:Int}{text:LI}{kind:Int}{t:Tr}{x:aa.den}
theorem Ie {a b:Bool}(h:Ws names text b):Ws names text (a&&b):=fun k=>h (by cases a<;>simp_all)
theorem Gg {a b:Bool}(h:Ws names text a):Ws names text (a&&b):=fun k=>h (by cases a<;>simp_all)
theorem Fh:Ws names text false:=fun k=>by cases k
theorem qR {b c:Bool}:Ws names text (PL false b c false (names.length:Int) op num text):=fun k=>by
 unfold PL at k;simp only[Wd,V6,V4]at k;obtain⟨h1,_,_,h2⟩:=k;subst h2;have:names=[]:=WL (by omega);subst this;exact⟨by simp,by simp,fun m hm=>by cases hm⟩
theorem Cv {b c:Bool}{X:Bool}{lo hi:Int}(hh:hi≤200):Ws names text (PL true b c false (names.length:Int) op num text&&(NM names lo hi&&X)):=fun k=>by
 simp only[V6]at k;obtain⟨k,k2,_⟩:=k;unfold PL at k;simp only[Wd,V6,V4]at k;obtain⟨_,_,_,h2⟩:=k;subst h2;have:=Pv k2 hh;exact⟨by simp,this⟩
theorem rS {b c:Bool}{X:Bool}(hX:X=true→text.length≤4000):Ws names text (PL false b c true (names.length:Int) op num text&&X):=fun k=>by
 simp only[V6]at k;obtain⟨k,k2⟩:=k;unfold PL at k;simp only[Wd,V6,V4]at k;obtain⟨h1,_⟩:=k;have:names=[]:=WL (by omega);subst this;exact⟨hX k2,by simp,fun m hm=>by cases hm⟩
theorem xq {k:Int}(h:cL k text=true):text.length≤4000:=by have:=EK h;omega
theorem u6 {c a b:Bool}(h1:Ws names text a)(h2:Ws names text b):Ws names text (bif c then a else b):=by cases c<;>assumption
theorem ew {c:Bool}{a b:AnS}{d:Bool}(h1:Ws names text (An2 a d))(h2:Ws names text (An2 b d)):Ws names text (An2 (bif c then a else b) d):=by cases c<;>assumption
theorem fN {b d:Bool}(h:Ws names text b):Ws names text (An2 (Sum.inl (b,())) d):=h
theorem J4 {y:(Tr×aa.den×Int×Unit)}{d:Bool}(h:Ws names text d):Ws names text (An2 (Sum.inr (Sum.inl y)) d):=h
theorem Mz {fl d:Bool}(hd:Ws names text d):Ws names text (An2 (Q41 t x ks names op num text kind fl) d):=by
 unfold Q41;refine ew (fN ?_) (ew (fN ?_) (ew (fN ?_) (J4 hd)))<;>(repeat first|exact qR|exact Gg qR|exact Cv (by decide)|exact rS xq|exact rS (fun h=>by have:=of_decide_eq_true h;omega)|exact Fh|apply Ie)
theorem Mx {fl d:Bool}(hd:Ws names text d):Ws names text (An2 (Q28 t x ks names op num text kind fl) d):=by
 unfold Q28;refine ew (fN ?_) (ew (fN ?_) (ew (fN ?_) (ew (fN ?_) (ew (fN ?_) (ew (Mz hd) (Mz hd))))))<;>(repeat first|exact qR|exact Gg qR|exact Cv (by decide)|exact rS xq|exact rS (fun h=>by have:=of_decide_eq_true h;omega)|exact Fh|apply Ie)
theorem MC {fl d:Bool}(hd:Ws names text d):Ws names text (An2 (Q18 t x ks names op num text kind fl) d):=by
 unfold Q18;refine ew (fN ?_) (ew (fN ?_) (ew (fN ?_) (ew (fN ?_) (ew (fN ?_) (ew (fN ?_) (ew (fN ?_) (ew (fN ?_) (ew (fN ?_) (ew (fN ?_) (ew (fN ?_) (J4 hd)))))))))))<;>(repeat first|exact qR|exact Gg qR|exact Cv (by decide)|exact rS xq|exact rS (fun h=>by have:=of_decide_eq_true h;omega)|exact Fh|apply Ie)
theorem LY {fl d:Bool}(hd:Ws names text d):Ws names text (An2 (Q7 t x ks names op num text kind fl) d):=by
 unfold Q7;refine ew (fN ?_) (ew (fN ?_) (ew (fN ?_) (ew (fN ?_) (ew (fN ?_) (ew (MC hd) (MC hd))))))<;>(repeat first|exact qR|exact Gg qR|exact Cv (by decide)|exact rS xq|exact rS (fun h=>by have:=of_decide_eq_true h;omega)|exact Fh|apply Ie)
theorem RT:Ws names text (KS t x ks names op num text kind):=by
 unfold KS;have hd:Ws names text (bif decide (kind=15)then PL false false false false (names.length:Int) op num text&&(decide ((ks.length:Int)=1)&&EX ks 0 1)else false):=u6 (Gg qR) Fh;refine u6 ?_ (u6 ?_ (u6 ?_ (u6 ?_ (u6 ?_ (ew (Mx hd) (Mx hd))))))<;>(repeat first|exact qR|exact Gg qR|exact Cv (by decide)|exact rS xq|exact rS (fun h=>by have:=of_decide_eq_true h;omega)|exact Fh|apply Ie)
theorem Sc:Ws names text (KE t x ks names op num text kind):=by
 unfold KE;have hd:Ws names text (bif decide (kind=42)then decide ((ks.length:Int)=1)&&(EX ks 0 1&&(PL false false false true (names.length:Int) op num text&&cL 1 text))else false):=u6 (by(repeat first|exact qR|exact Gg qR|exact Cv (by decide)|exact rS xq|exact rS (fun h=>by have:=of_decide_eq_true h;omega)|exact Fh|apply Ie)) Fh;exact ew (LY hd) (ew (LY hd) (ew (LY hd) (LY hd)))
theorem ik {ns:List aa.den}{i:Nat}{x:aa.den}(h:okN ns i x=true):Bd (al x) x.2.2.2.2.2.2.1∧(ab x).length≤200∧∀k∈ab x,0≤k∧k<(i:Int):=by
 unfold okN at h
 by_cases c1:x.2.1<0
 ·rw[VY c1]at h;cases h
 by_cases c2:x.2.2.1<x.2.1
 ·rw[VW c1,VY c2]at h;cases h
 by_cases c3:x.2.2.2.1<0
 ·rw[VW c1,VW c2,VY c3]at h;cases h
 by_cases c4:200<(ab x).length
 ·rw[VW c1,VW c2,VW c3,VY c4]at h;cases h
 rw[VW c1,VW c2,VW c3,VW c4]at h;simp only[Wb]at h
 cases ha:(ab x).all (inR i)with
 |false=>rw[ha]at h;cases h
 |true=>
  rw[ha,Wg]at h;refine⟨?_,by omega,fun k hk=> ?_⟩
  ·cases hs:bN x.1 with
   |true=>rw[hs]at h;exact RT h
   |false=>rw[hs]at h;exact Sc h
  ·have:=List.all_eq_true.1 ha k hk;unfold inR at this;simpa using this
end Go.Abs.D
end

section
namespace Go.Abs.D
theorem qN {ns:List aa.den}(h:(lI ns).1=0):lI ns=(0,0,())∧0<ns.length∧ns.length≤3000∧∀(j:Nat)(hj:j<ns.length),∀k∈ab ns[j],0≤k∧k<(j:Int):=by
 unfold lI at h⊢
 by_cases c0:ns.length=0
 ·rw[VY c0]at h;exact absurd (show(1:Int)=0 from h) (by decide)
 rw[VW c0]at h⊢
 by_cases c1:3000<ns.length
 ·rw[VY c1]at h;exact absurd (show(1:Int)=0 from h) (by decide)
 rw[VW c1]at h⊢
 by_cases c2:fO ns ((ns.length - 1:Nat):Int)=1
 ·rw[VY c2]at h⊢
  by_cases c3:r7 ns<ns.length
  ·rw[VY c3]at h;exact absurd (show(2:Int)=0 from h) (by decide)
  rw[VW c3]at h⊢;refine⟨?_,by omega,by omega,fun j hj=>tD c3 j hj⟩;simp only[Wq,Wb]at h⊢
  cases hi:imS ns ns.length (List.replicate ns.length 0)with
  |inl j=>rw[hi]at h;exact absurd (show(3:Int)=0 from h) (by decide)
  |inr _=>
   rw[hi]at h;simp only at h⊢
   cases hd:decide (stop (mL (qk ns ns.length (List.replicate ns.length 0))) ns.length 0<ns.length)with
   |true=>rw[hd]at h;exact absurd (show(4:Int)=0 from h) (by decide)
   |false=>rfl
 ·rw[VW c2]at h;exact absurd (show(1:Int)=0 from h) (by decide)
theorem BF {ns:List aa.den}(hN:∀x∈ns,NodeOk x):Evt fun n=>uL (S.tab n) (ns,())=some (decide ((lI ns).1=0),vS):=(yW hN).up fun n h=>by
 rw[Bx,h,VX]
 by_cases c:(lI ns).1=0
 ·have:=(qN c).1;rw[this];rfl
 ·simp only[VW c,Wc]
theorem HP {ns:List aa.den}(h:(lI ns).1=0)(j:Nat)(hj:j<ns.length):okN ns j ns[j]=true:=by
 have hb:¬ r7 ns<ns.length:=by
  unfold lI at h
  by_cases c0:ns.length=0
  ·omega
  rw[VW c0]at h
  by_cases c1:3000<ns.length
  ·rw[VY c1]at h;exact absurd (show(1:Int)=0 from h) (by decide)
  rw[VW c1]at h
  by_cases c2:fO ns ((ns.length - 1:Nat):Int)=1
  ·rw[VY c2]at h
   by_cases c3:r7 ns<ns.length
   ·rw[VY c3]at h;exact absurd (show(2:Int)=0 from h) (by decide)
   exact c3
  ·rw[VW c2]at h;exact absurd (show(1:Int)=0 from h) (by decide)
 have hq:okQ ns j=true:=oV ns.length 0 j (WQ _) (by unfold r7 at hb;omega);unfold okQ wD at hq;rw[VY hj,V9,Wl hj]at hq;exact hq
end Go.Abs.D
end

section
namespace Go.Abs.D
def fxI (t:Int):LI:=bif decide (0≤t)&&decide (t≤78)then fx t.toNat else []
theorem Cg (t:Int):Evt fun n=>kE (S.tab n) t=some (fxI t,iz):=by
 by_cases h:0≤t∧t≤78
 ·refine ES.mono fun n hf=> ?_
  have:=hf t.toNat (by omega);rw[Int.toNat_of_nonneg h.1]at this;unfold fxI;rw[VY h.1,VY h.2];exact this
 ·refine AW.up fun n hi=> ?_
  have e:(decide (0≤t)&&decide (t≤78))=false:=by simp only[WR,V8];omega
  unfold fxI
  rw[e,uv,hi,VX,ay (by simp only[WR,V8];omega),hi,VX,ay (by simp only[WR,V8];omega),
   hi,VX,ay (by simp only[WR,V8];omega),ay (by simp only[V8];omega)];rfl
def tq (t:Int)(k:Nat):Bool:=decide (k<30)&& !decide (((sgn (aS.getD k []):Nat):Int)=t)
def LS (t:Int):LI:=bif decide (stop (tq t) 30 0<30)then aS.getD (stop (tq t) 30 0) []else []
theorem FL (t:Int):Evt fun n=>cQ (S.tab n) t aS 30 0=some (bif decide (stop (tq t) 30 0<30)then Sum.inl (aS.getD (stop (tq t) 30 0) [],())else Sum.inr (Sum.inl ())):=by
 have hp:Evt fun n=>∀f∈aS,gM (S.tab n) f=some ((sgn f:Int),fT):=yI aS sign_one
 refine adv (F:=fun T (j:Nat)=>cQ T t aS 30 ↑j) (q:=tq t) (N:=30) (p:=fun T=>∀f∈aS,gM T f=some ((sgn f:Int),fT))
  (out:=fun k=>bif decide (k<30)then Sum.inl (aS.getD k [],())else Sum.inr (Sum.inl ())) hp (fun j h=>by unfold tq;rw[VW (by omega)];rfl) ?_ ?_ 30 0 (by omega)
 ·intro T j hs hq;unfold tq at hq;simp only[V6,V4,WV,V8]at hq;have hj:j<aS.length:=hq.1
  have hm:aS.getD j []∈aS:=by
   rw[Wm,Wl hj];exact WO hj
  show cQ (S.step T) t aS 30 j=cQ T t aS 30 ((j+1:Nat):Int);have ma:=hq.1;rw[pe,aj (by simp only[V4];omega),aj (av hj),Int.toNat_natCast,hs _ hm,VX,ay (VW hq.2),bf (by omega)]
 ·intro T j hs hq;show cQ (S.step T) t aS 30 j=_;rw[pe]
  by_cases ma:j<30
  ·have hj:j<aS.length:=ma
   have hm:aS.getD j []∈aS:=by
    rw[Wm,Wl hj];exact WO hj
   unfold tq at hq;rw[VY ma,V9,Bool.not_eq_false',V4]at hq;rw[aj (by simp only[V4];omega),aj (av hj),Int.toNat_natCast,hs _ hm,VX,ak hq,VY ma];rfl
  ·rw[ay (by simp only[V8];omega),VW ma];rfl
theorem Pq:∀k:Nat,k<30→5≤sgn (aS.getD k [])∧sgn (aS.getD k [])≤78:=by
 have h:∀k:Fin 30,5≤sgn (aS.getD k.1 [])∧sgn (aS.getD k.1 [])≤78:=by decide+kernel
 exact fun k hk=>h ⟨k,hk⟩
theorem Jg (t:Int)(h5:t≠5)(hw:¬ (10≤t∧t≤31)):LS t=fxI t:=by
 by_cases h:0≤t∧t≤78
 ·have key:∀k:Fin 79,k.1≠5→¬ (10≤k.1∧k.1≤31)→LS (k.1:Int)=fxI (k.1:Int):=by decide+kernel
  have:=key ⟨t.toNat,by omega⟩ (by show t.toNat≠5;omega) (by show¬ (10≤t.toNat∧t.toNat≤31);omega);have e:((t.toNat:Nat):Int)=t:=Int.toNat_of_nonneg h.1;simpa only[e]using this
 ·have nd:∀k,k<30→tq t k=true:=fun k hk=>by
   have:=Pq k hk;unfold tq;rw[VY hk,V9,VW (by omega)];rfl
  have nw:¬ stop (tq t) 30 0<30:=fun fP=>by
   have:=v8 (q:=tq t) (N:=30) (fun j hj=>by unfold tq;rw[VW (by omega)];rfl) 30 0 (by omega);rw[nd _ fP]at this;cases this
  unfold LS fxI;rw[VW nw,show(decide (0≤t)&&decide (t≤78))=false by simp only[WR,V8];omega];rfl
theorem Nw:Evt fun n=>Base1 (S.tab n):=Evt.up (Evt.of (p:=fun _=>True) fun _=>trivial) fun n _=>rk _
theorem HM (t:Int)(h1: -9223372036854775808≤t)(h2:t≤9223372036854775807):Evt fun n=>sP (S.tab n) t=some (fxI t,dE):=by
 by_cases h5:t=5
 ·subst h5
  refine aB.up fun n _=> ?_
  rw[sD,aj (by rfl)];rfl
 refine((FL t).and (EI.and Nw)).up fun n ⟨h7,M8,hb⟩=> ?_
 rw[sD,ae h5,hb.words,VX]
 by_cases hw:10≤t∧t≤31
 ·have e:i64.wrap (t - 10)=((t.toNat - 10:Nat):Int):=by rw[wrap64 _ (by omega) (by omega)];omega
  have wl:i64.wrap (10+((Lx.words.length:Nat):Int))=32:=rfl;rw[aj (VY hw.1)];show brk (decide (t<i64.wrap (10+((Lx.words.length:Nat):Int)))) (brk (decide (0≤i64.wrap (t - 10))&&decide (i64.wrap (t - 10)<((Lx.words.length:Nat):Int))) (some (Lx.words.getD (i64.wrap (t - 10)).toNat [],dE)) none) _=_;rw[wl,ak (by omega),e,aj (av (show t.toNat - 10<Lx.words.length by show t.toNat - 10<22;omega)),Int.toNat_natCast];unfold fxI fx;rw[VY (show 0≤t by omega),VY (show t≤78 by omega),VY (show 10≤t.toNat by omega),VY (show t.toNat≤31 by omega)];rfl
 ·have fin:(jP (S.tab n)).bind (fun d23=>(cQ (S.tab n) t d23.1 (d23.1.length:Int) (0:Int)).bind (bC (fun y7=>some (y7.1,dE)) (fun y7=>some (([]:LI),dE))))=some (fxI t,dE):=by
   rw[M8,VX];show(cQ (S.tab n) t aS 30 0).bind _=_;rw[h7,VX,←Jg t h5 hw];unfold LS;cases decide (stop (tq t) 30 0<30)<;>rfl
  by_cases tF:10≤t
  ·rw[ak tF];have wl:i64.wrap (10+((Lx.words.length:Nat):Int))=32:=rfl;show brk (decide (t<i64.wrap (10+((Lx.words.length:Nat):Int)))) _ _=_;rw[wl,ae (by omega)];exact fin
  ·rw[ae tF];exact fin
end Go.Abs.D
end

section
namespace Go.Abs.D
open Go.Proofs
def tJ:LI:=[48,49,50,51,52,53,54,55,56,57,97,98,99,100,101,102]
def esc (c:Int):LI:=
 if c=10 then [92,110]else if c=9 then [92,116]else if c=34 then [92,34]else if c=92 then [92,92]
 else if c<32∨126<c then [92,120,tJ.getD (c/16).toNat 0,tJ.getD (c % 16).toNat 0]else [c]
theorem yQ (c:Int):(esc c).length≤4:=by
 unfold esc
 repeat' split
 all_goals simp
theorem Fy (T:S.Tab)(t0 t4:LI)(i c:Int)(h0:0≤i)(hi:i<t0.length)(hl:t0.length≤4000)(hc:t0.getD i.toNat 0=c)(hb:isByte c)(hf:t4.length+4≤lim):
  bQ (S.step T) t0 tJ t4 i=bQ T t0 tJ (t4++esc c) (i+1):=by
 rw[ot];obtain⟨Cx,It⟩:=hb;have w:i64.wrap (i+1)=i+1:=wrap64 _ (by omega) (by omega);have hh:(tJ.length:Int)=16:=rfl;simp only[hc,PO c ⟨Cx,It⟩,Hn c ⟨Cx,It⟩,w,hh,dF,h0,hi,decide_true,We,Wg,V0,V5];have f4:fits (t4.length+(0+1+1+1+1))=true:=dZ (by omega);have f2:fits (t4.length+(0+1+1))=true:=dZ (by omega);have TS:fits (t4.length+2)=true:=dZ (by omega);have f1:fits (t4.length+(0+1))=true:=dZ (by omega)
 have a1:(decide (0≤c/16)&&decide (c/16<16))=true:=by
  simp only[V6,V4];omega
 have a2:(decide (0≤c % 16)&&decide (c % 16<16))=true:=by
  simp only[V6,V4];omega
 unfold esc
 by_cases h1:c=10
 ·simp[h1,TS]
 by_cases h2:c=9
 ·simp[h2,TS]
 by_cases h3:c=34
 ·simp[h3,f2]
 by_cases h4:c=92
 ·simp[h4,f2]
 by_cases h5:c<32
 ·simp only[h1,h2,h3,h4,h5,a1,a2,f4,decide_true,decide_false,Wg,Wb,if_true,WY,true_or]
 by_cases h6:126<c
 ·simp only[h1,h2,h3,h4,h5,h6,a1,a2,f4,decide_true,decide_false,Wg,Wb,if_true,WY,or_true]
 ·simp only[h1,h2,h3,h4,h5,h6,f1,decide_false,Wg,Wb,WY,or_self]
theorem PV (l:LI)(x:Int)(h0:0≤x)(h1:x<l.length):sub l x (x+1)=[l.getD x.toNat 0]:=by
 unfold sub;have e:(x+1).toNat=x.toNat+1:=(by omega);have hl:x.toNat<l.length:=(by omega);rw[e,Wm,Wl hl,Option.getD_some]
 apply List.ext_getElem?
 intro j;rw[List.getElem?_drop,List.getElem?_take]
 cases j with
 |zero=>rw[WK (by omega)];simp[hl]
 |succ j=>rw[Wz (by omega)];simp
theorem Jo (c:Int):Bld.idx [10,9,34,92] c 0=if c=10 then 0 else if c=9 then 1 else if c=34 then 2 else if c=92 then 3 else -1:=by
 simp only[Bld.idx]
 repeat' split
 all_goals simp_all[eq_comm]
theorem FV (T:S.Tab)(t0 t3:LI)(i c:Int)(h0:0≤i)(hi:i<t0.length)(hl:t0.length≤4000)(hc:t0.getD i.toNat 0=c)(hb:isByte c)(hf:t3.length+4≤lim)
  (P9:eH T [10,9,34,92] c=some (Bld.idx [10,9,34,92] c 0,(),(),())):
  eD (S.step T) t0 t3 i=eD T t0 (t3++esc c) (i+1):=by
 rw[qx];obtain⟨Cx,It⟩:=hb;have w:i64.wrap (i+1)=i+1:=wrap64 _ (by omega) (by omega);have hd:([48,49,50,51,52,53,54,55,56,57,97,98,99,100,101,102]:LI)=tJ:=rfl;have hh:(tJ.length:Int)=16:=rfl;have w1:u8.wrap (c/16+1)=c/16+1:=rP _ (by omega) (by omega);have w2:u8.wrap (c % 16+1)=c % 16+1:=rP _ (by omega) (by omega);have s1:sub tJ (c/16) (c/16+1)=[tJ.getD (c/16).toNat 0]:=PV _ _ (by omega) (by omega);have s2:sub tJ (c % 16) (c % 16+1)=[tJ.getD (c % 16).toNat 0]:=PV _ _ (by omega) (by omega)
 have b1:bounds 16 (c/16) (c/16+1)=true:=by
  unfold bounds;simp only[V6,V4];omega
 have b2:bounds 16 (c % 16) (c % 16+1)=true:=by
  unfold bounds;simp only[V6,V4];omega
 have f3:fits (2+1)=true:=rfl;have f4:fits (([92,120]++[tJ.getD (c/16).toNat 0]).length+1)=true:=rfl;have g1:fits (t3.length+1)=true:=dZ (by omega)
 have UH:∀x,fits ((t3++[x]).length+1)=true:=fun x=>dZ (by simp;omega)
 have g4:∀x y:Int,fits (t3.length+([92,120]++[x]++[y]).length)=true:=fun x y=>dZ (by simp;omega)
 simp only[hc,hd,PO c ⟨Cx,It⟩,Hn c ⟨Cx,It⟩,w,w1,w2,s1,s2,b1,b2,dF,h0,hi,decide_true,We,Wg,P9,Jo,WW,f3,f4,Bld.gT,Bld.fJ,g1,UH,g4,VX];unfold esc
 by_cases h1:c=10
 ·simp[h1]
 by_cases h2:c=9
 ·simp[h2]
 by_cases h3:c=34
 ·simp[h3]
 by_cases h4:c=92
 ·simp[h4]
 by_cases h5:c<32
 ·simp[h1,h2,h3,h4,h5]
 by_cases h6:126<c
 ·simp[h1,h2,h3,h4,h5,h6]
 ·simp[h1,h2,h3,h4,h5,h6]
def lH (s:LI):LI:=if 4000<s.length then []else [34]++s.flatMap esc++[34]
theorem B8:∀(l pre t4:LI),(∀c∈l,isByte c)→(pre++l).length≤4000→t4.length+4*l.length≤30000→
  Evt fun n=>bQ (S.tab n) (pre++l) tJ t4 (pre.length:Int)=some (Sum.inl (t4++l.flatMap esc,()))
 |[],pre,t4,_,hl,_=>Evt.up (Evt.of (p:=fun _=>True) fun _=>trivial) fun n _=>by
  rw[ot,ay (by simp)];simp
 |c::l,pre,t4,hb,hl,hf=>by
  have hlen:(pre++c::l).length=pre.length+(l.length+1):=(by simp);have e4:=yQ c;have ih:=B8 l (pre++[c]) (t4++esc c) (fun x hx=>hb x (Wj _ hx)) (by simp at hl⊢;omega) (by simp at hf⊢;omega)
  refine ih.up fun n h=> ?_
  rw[Fy (S.tab n) _ t4 (pre.length:Int) c (by omega) (by omega) hl (fZ pre c l 0) (hb c (Wk ..)) (by simp[lim]at hf⊢;omega)];rw[V7]at h;simp only[VZ,WW,List.singleton_append]at h
  push_cast at h
  rw[h,WX,V7]
theorem Nf (c:Int)(h:isByte c):Evt fun n=>eH (S.tab n) [10,9,34,92] c=some (Bld.idx [10,9,34,92] c 0,(),(),()):=
 Evt.up (Evt.up (Evt.of (p:=fun _=>True) fun _=>trivial) (q:=fun n=>fv (S.tab n) [10,9,34,92] c=some (Bld.idx [10,9,34,92] c 0,(),(),())) fun n _=>by
  rw[jj,Bld.oN,C6 h]
  rfl) fun n h=>by
  rw[mu,h];rfl
theorem BX:∀(l pre t3:LI),(∀c∈l,isByte c)→(pre++l).length≤4000→t3.length+4*l.length≤30000→
  Evt fun n=>eD (S.tab n) (pre++l) t3 (pre.length:Int)=some (Sum.inl (t3++l.flatMap esc,()))
 |[],pre,t3,_,hl,_=>Evt.up (Evt.of (p:=fun _=>True) fun _=>trivial) fun n _=>by
  rw[qx,ay (by simp)];simp
 |c::l,pre,t3,hb,hl,hf=>by
  have hlen:(pre++c::l).length=pre.length+(l.length+1):=(by simp);have e4:=yQ c;have ih:=BX l (pre++[c]) (t3++esc c) (fun x hx=>hb x (Wj _ hx)) (by simp at hl⊢;omega) (by simp at hf⊢;omega)
  refine(ih.and (Nf c (hb c (Wk ..)))).up fun n ⟨h,P9⟩=> ?_
  rw[FV (S.tab n) _ t3 (pre.length:Int) c (by omega) (by omega) hl (fZ pre c l 0) (hb c (Wk ..)) (by simp[lim]at hf⊢;omega) P9];rw[V7]at h;simp only[VZ,WW,List.singleton_append]at h
  push_cast at h
  rw[h,WX,V7]
theorem BW (c:Int)(h:isByte c):∀x∈esc c,isByte x:=by
 have hx:∀n:Nat,isByte (tJ.getD n 0):=by
  intro n;rw[Wm]
  cases e:tJ[n]? with
  |none=>exact⟨by decide,by decide⟩
  |some v=>
   have:=List.mem_of_getElem? e;have nd:∀v∈tJ,0≤v∧v<256:=(by decide);exact nd v this
 intro x MF;unfold esc at MF
 repeat' split at MF
 all_goals simp only[WE,List.not_mem_nil,or_false]at MF
 all_goals rcases MF with rfl|rfl|rfl|rfl
 all_goals first|exact hx _|exact h|exact⟨by omega,by omega⟩
theorem ET (l:LI):(l.flatMap esc).length≤4*l.length:=by
 induction l with
 |nil=>simp
 |cons c l ih=>
  have:=yQ c;rw[WX,VZ,V0];omega
theorem Fz (s:LI)(hb:∀c∈s,isByte c)(hl:¬ 4000<s.length):Evt fun n=>jQ (S.tab n) s=some (lH s,(),()):=by
 refine(B8 s [] [34] hb (by simpa using hl) (by simp;omega)).up fun n h=> ?_
 have h':bQ (S.tab n) s [48,49,50,51,52,53,54,55,56,57,97,98,99,100,101,102] [34] 0=some (Sum.inl ([34]++s.flatMap esc,())):=h;have:=ET s;rw[yi,h'];simp only[VX,aR,Wn];rw[aj (dZ (by simp only[lim,VZ,WW];omega)),wj]
 ·simp[lH,hl]
 ·intro c hc;simp only[Wu,WE,List.not_mem_nil,or_false,List.mem_flatMap]at hc
  rcases hc with(rfl|⟨a,ha,hc⟩)|rfl
  ·exact⟨by decide,by decide⟩
  ·exact BW a (hb a ha) c hc
  ·exact⟨by decide,by decide⟩
theorem zR (s:LI)(hb:∀c∈s,isByte c):Evt fun n=>oP (S.tab n) s=some (lH s,(),()):=by
 by_cases hl:4000<s.length
 ·exact Evt.up (Evt.of (p:=fun _=>True) fun _=>trivial) fun n _=>by
   rw[uk,aj (by simp;omega)];simp[lH,hl]
 ·refine(BX s [] [34] hb (by simpa using hl) (by simp;omega)).up fun n h=> ?_
  have h':eD (S.tab n) s [34] 0=some (Sum.inl ([34]++s.flatMap esc,())):=h;have:=ET s;rw[uk,ay (by simp;omega)];have w0:Bld.gT ([],34,())=some (true,[34],(),()):=rfl
  have w1:Bld.gT ([34]++s.flatMap esc,34,())=some (true,[34]++s.flatMap esc++[34],(),()):=by
   show(bif fits _ then _ else _)=_;rw[dZ (by simp only[lim,VZ,WW];omega)];rfl
  have DO:∀c∈[34]++s.flatMap esc++[34],isByte c:=by
   intro c hc;simp only[Wu,WE,List.not_mem_nil,or_false,List.mem_flatMap]at hc
   rcases hc with(rfl|⟨a,ha,hc⟩)|rfl
   ·exact⟨by decide,by decide⟩
   ·exact BW a (hb a ha) c hc
   ·exact⟨by decide,by decide⟩
  have w2:Bld.pP ([34]++s.flatMap esc++[34],())=some ([34]++s.flatMap esc++[34],(),()):=by
   show(bif fits _ then _ else _)=_;rw[dZ (by simp only[lim,VZ,WW];omega)];show some (List.map byte _,(),())=_;rw[wj DO]
  simp only[w0,VX,h',aR,Wn,w1,w2];simp[lH,hl]
end Go.Abs.D
end

section
namespace Go.Abs.D
def dec (n:Int):LI:=Lx.ints (Lib.itoa n)
def rdg:Nat→Nat→LI
 |0,_=>[]
 |k+1,m=>bif Nat.beq m 0 then []else(48+((m % 10:Nat):Int))::rdg k (m/10)
theorem Dn:∀(k m:Nat),(rdg k m).length≤k
 |0,m=>Wp _
 |k+1,m=>by
  unfold rdg;cases Nat.beq m 0
  ·have:=Dn k (m/10);simp only[Wb,V0];omega
  ·simp
theorem AK:∀(k m:Nat),∀c∈rdg k m,isByte c
 |0,m,c,h=>by simp[rdg]at h
 |k+1,m,c,h=>by
  unfold rdg at h;cases hm:Nat.beq m 0
  ·rw[hm]at h;simp only[Wb,WE]at h
   rcases h with rfl|h
   ·exact⟨by omega,by omega⟩
   ·exact AK k (m/10) c h
  ·rw[hm]at h;simp at h
theorem Er (m:Nat)(h:m<10):(((UInt8.ofNat (48+m)).toNat:Nat):Int)=48+(m:Int):=by
 rw[UInt8.toNat_ofNat'];omega
theorem Ds:∀(k m:Nat),0<m→m<10^k→(rdg k m).reverse=Lx.ints (Lib.decDigits m)
 |0,m,h0,h1=>by simp at h1;omega
 |k+1,m,h0,h1=>by
  unfold rdg
  have hb:Nat.beq m 0=false:=by
   cases h:Nat.beq m 0
   ·rfl
   ·have:=Nat.eq_of_beq_eq_true h;omega
  rw[hb];simp only[Wb,List.reverse_cons];have hp:10^(k+1)=10^k*10:=Nat.pow_succ ..
  by_cases hm:m<10
  ·have e0:m/10=0:=(by omega)
   have e1:rdg k (m/10)=[]:=by rw[e0];cases k<;>rfl
   rw[e1,Lib.decDigits,dif_pos hm];have e2:m % 10=m:=(by omega);rw[e2];unfold Lx.ints;simp only[List.reverse_nil,List.nil_append,List.map_cons,List.map_nil,Er m hm]
  ·have e3:Lib.decDigits m=Lib.decDigits (m/10)++[UInt8.ofNat (48+m % 10)]:=(by rw[Lib.decDigits,dif_neg hm]);rw[Ds k (m/10) (by omega) (by omega),e3];unfold Lx.ints;rw[List.map_append,List.map_cons,List.map_nil,Er _ (Nat.mod_lt _ (by decide))]
theorem tm (n:Int):n.tmod 10=if n<0 then -((n.natAbs % 10:Nat):Int)else((n.natAbs % 10:Nat):Int):=by
 by_cases h:n<0
 ·rw[WK h];obtain⟨m,rfl⟩:∃m:Int,n= -m:=⟨-n,by omega⟩;rw[Int.neg_tmod,Int.tmod_eq_emod_of_nonneg (by omega)];omega
 ·rw[Wz h,Int.tmod_eq_emod_of_nonneg (by omega)];omega
theorem td (n:Int):n.tdiv 10=if n<0 then -((n.natAbs/10:Nat):Int)else((n.natAbs/10:Nat):Int):=by
 by_cases h:n<0
 ·rw[WK h];obtain⟨m,rfl⟩:∃m:Int,n= -m:=⟨-n,by omega⟩;rw[Int.neg_tdiv,Int.tdiv_eq_ediv_of_nonneg (by omega)];omega
 ·rw[Wz h,Int.tdiv_eq_ediv_of_nonneg (by omega)];omega
theorem rL:∀(k:Nat)(n:Int)(neg:Bool)(o:LI),n.natAbs<10^k→ -9223372036854775808≤n→n≤9223372036854775807→o.length+k≤100→
  Evt fun N=>dn (S.tab N) n neg o=some (Sum.inl (neg,o++rdg k n.natAbs,()))
 |0,n,neg,o,h0,_,_,_=>aB.up fun N _=>by
  show dn (S.step (S.tab N)) _ _ _=_
  have:n=0:=by simp at h0;omega
  subst this;rw[jm,ay (by rfl)];simp[rdg]
 |k+1,n,neg,o,h0,h1,h2,ho=>by
  have hp:10^(k+1)=10^k*10:=Nat.pow_succ ..
  by_cases hn:n=0
  ·subst hn
   refine aB.up fun N _=> ?_
   show dn (S.step (S.tab N)) _ _ _=_;rw[jm,ay (by rfl)];simp[rdg]
  ·have hb:Nat.beq n.natAbs 0=false:=by
    cases h:Nat.beq n.natAbs 0
    ·rfl
    ·have:=Nat.eq_of_beq_eq_true h;omega
   have hq:(n.tdiv 10).natAbs=n.natAbs/10:=by rw[td];split<;>omega
   have Ub: -9223372036854775808≤n.tdiv 10:=by rw[td];split<;>omega
   have M3:n.tdiv 10≤9223372036854775807:=by rw[td];split<;>omega
   have ih:=rL k (n.tdiv 10) neg (o++[48+((n.natAbs % 10:Nat):Int)]) (by omega) Ub M3 (by simp;omega);have hf:fits (o.length+1)=true:=dZ (by unfold lim;omega);have w3:i64.wrap (n.tdiv 10)=n.tdiv 10:=wrap64 _ Ub (by omega);have fP:n.natAbs % 10<10:=Nat.mod_lt _ (by decide)
   refine ih.up fun N ih=> ?_
   show dn (S.step (S.tab N)) _ _ _=_;rw[jm,aj (by rw[VW hn];rfl),w3]
   have fin:o++[48+((n.natAbs % 10:Nat):Int)]++rdg k (n.tdiv 10).natAbs=o++rdg (k+1) n.natAbs:=by
    rw[hq]
    conv=>rhs;unfold rdg
    rw[hb];simp
   rw[fin]at ih
   by_cases tL:n.tmod 10<0
   ·have e1:0 - n.tmod 10=((n.natAbs % 10:Nat):Int):=by rw[tm]at tL⊢;split at tL<;>simp_all<;>omega
    have w1:i64.wrap (0 - n.tmod 10)=((n.natAbs % 10:Nat):Int):=(by rw[e1,wrap64 _ (by omega) (by omega)]);rw[ak tL,w1,wrap64 (48+((n.natAbs % 10:Nat):Int)) (by omega) (by omega),rP _ (by omega) (by omega),aj (by simpa using hf)];exact ih
   ·have e1:n.tmod 10=((n.natAbs % 10:Nat):Int):=by rw[tm]at tL⊢;split at tL<;>simp_all<;>omega
    rw[ae tL,e1,wrap64 (48+((n.natAbs % 10:Nat):Int)) (by omega) (by omega),rP _ (by omega) (by omega),aj (by simpa using hf)];exact ih
theorem qy (ds:LI)(hd:∀c∈ds,isByte c)(hl:ds.length≤100):∀(k:Nat)(o:LI),k≤ds.length→o.length+k≤200→
  Evt fun N=>eT (S.tab N) ds o ((k:Int) - 1)=some (Sum.inl (o++(ds.take k).reverse,()))
 |0,o,_,_=>aB.up fun N _=>by
  show eT (S.step (S.tab N)) _ _ _=_;rw[lS,ay (by simp)];simp
 |k+1,o,hk,ho=>by
  have fP:k<ds.length:=(by omega);have ih:=qy ds hd hl k (o++[ds[k]]) (by omega) (by simp;omega)
  refine ih.up fun N ih=> ?_
  show eT (S.step (S.tab N)) _ _ _=_;have e:((k+1:Nat):Int) - 1=(k:Int):=(by omega)
  have hg:ds.getD (k:Int).toNat 0=ds[k]:=by
   rw[Int.toNat_natCast,Wm,Wl fP];rfl
  have hm:([ds[k]]:LI).map byte=[ds[k]]:=wj fun c hc=>by
   have:c=ds[k]:=(by simpa using hc);subst this;exact hd _ (WO fP)
  rw[e,lS,aj (by simp only[V4];omega),aj (av fP),hg,hm,aj (dZ (by unfold lim;simp only[WW];omega)),wrap64 _ (by omega) (by omega),ih];rw[List.take_succ_eq_append_getElem fP,List.reverse_append,List.reverse_singleton,V7]
theorem qC (ds:LI)(hd:∀c∈ds,isByte c)(hl:ds.length≤100)(o:LI)(ho:o.length≤1):Evt fun N=>fW (S.tab N) ds o=some (Sum.inl (o++ds.reverse,())):=
 (qy ds hd hl ds.length o (Wp _) (by omega)).up fun N h=>by
  show fW (S.step (S.tab N)) _ _=_;rw[rW,wrap64 _ (by omega) (by omega),h,VX];simp[aR]
theorem F4 (n:Int)(h1: -9223372036854775808≤n)(h2:n≤9223372036854775807):n.natAbs<10^19:=by
 have:(10:Nat)^19=10000000000000000000:=(by decide);omega
theorem CC (n:Int)(h1: -9223372036854775808≤n)(h2:n≤9223372036854775807):Evt fun N=>jq (S.tab N) n=some (dec n,jI):=by
 by_cases hn:n=0
 ·subst hn
  refine aB.up fun N _=> ?_
  show jq (S.step (S.tab N)) _=_;rw[px,aj (by rfl)]
  have:dec 0=[48]:=by
   unfold dec Lib.itoa;rw[Wz (by decide),Lib.decDigits,dif_pos (by decide)];rfl
  rw[this]
 ·have a:=rL 19 n (decide (n<0)) [] (F4 n h1 h2) h1 h2 (by simp);have hl:=Dn 19 n.natAbs;have b1:=qC (rdg 19 n.natAbs) (AK _ _) (by omega) [45] (by simp);have b2:=qC (rdg 19 n.natAbs) (AK _ _) (by omega) [] (by simp);have hd:=Ds 19 n.natAbs (by omega) (F4 n h1 h2)
  refine((a.and b1).and b2).up fun N ⟨⟨a,b1⟩,b2⟩=> ?_
  show jq (S.step (S.tab N)) _=_;rw[px,ae hn,a,VX];simp only[aR,Wn,List.nil_append]
  by_cases tL:n<0
  ·rw[ak tL,b1,VX];simp only[Wn];rw[hd];unfold dec Lib.itoa;rw[WK tL];rfl
  ·rw[ae tL,b2,VX];simp only[Wn];rw[hd];unfold dec Lib.itoa;rw[Wz tL];have:n.natAbs=n.toNat:=(by omega);rw[this];rfl
theorem Lq (n:Int)(h1: -9223372036854775808≤n)(h2:n≤9223372036854775807):(dec n).length≤20:=by
 by_cases hn:n=0
 ·subst hn
  have:dec 0=[48]:=by
   unfold dec Lib.itoa;rw[Wz (by decide),Lib.decDigits,dif_pos (by decide)];rfl
  rw[this];decide
 ·have hd:=Ds 19 n.natAbs (by omega) (F4 n h1 h2);have hl:=Dn 19 n.natAbs
  have e:(Lx.ints (Lib.decDigits n.natAbs)).length≤19:=by rw[←hd,List.length_reverse];exact hl
  unfold dec Lib.itoa;split
  ·have e2:Lx.ints (45::Lib.decDigits n.natAbs)=45::Lx.ints (Lib.decDigits n.natAbs):=rfl;rw[e2,V0];omega
  ·have:n.toNat=n.natAbs:=(by omega);rw[this];omega
theorem Bs (n:Int)(h1: -9223372036854775808≤n)(h2:n≤9223372036854775807):Lx.kD (n,10,())=some (dec n,(),(),()):=by
 unfold Lx.kD;simp only[decide_true,VY h1,VY h2,Wo,Wg];rfl
end Go.Abs.D
end

section
namespace Go.Abs.D
theorem NK (x:Int)(h0:0≤x)(h1:x<18446744073709551616):intBits .and .u64 x 15=x % 16:=by
 obtain⟨m,rfl⟩:∃m:Nat,x=(m:Int):=⟨x.toNat,by omega⟩
 have e1:(BitVec.ofInt u64.bits ↑m&&&BitVec.ofInt u64.bits 15).toNat=m % 16:=by
  have hb:u64.bits=64:=rfl;rw[BitVec.toNat_and]
  have ea:(BitVec.ofInt u64.bits ↑m).toNat=m:=by
   rw[BitVec.toNat_ofInt,hb];omega
  have eb:(BitVec.ofInt u64.bits 15).toNat=15:=(by decide);rw[ea,eb];exact Nat.and_two_pow_sub_one_eq_mod m 4
 show u64.wrap _=_;rw[e1];have:u64.wrap ((m % 16:Nat):Int)=((m % 16:Nat):Int) % 18446744073709551616:=rfl;rw[this];omega
def kI:LI:=[48,49,50,51,52,53,54,55,56,57,97,98,99,100,101,102]
def hx:Nat→Nat→LI
 |0,_=>[]
 |k+1,m=>kI.getD (m/16^k % 16) 0::hx k m
theorem xU:∀n:Nat,n<16→Lx.hexDigit n=kI.getD n 0:=by
 have h:∀n:Fin 16,Lx.hexDigit n.1=kI.getD n.1 0:=(by decide)
 exact fun n hn=>h ⟨n,hn⟩
theorem D6:∀n:Nat,n<16→isByte (kI.getD n 0):=by
 have h:∀n:Fin 16,0≤kI.getD n.1 0∧kI.getD n.1 0<256:=(by decide)
 exact fun n hn=>h ⟨n,hn⟩
theorem G1:∀(k m:Nat),hx (k+1) m=hx k (m/16)++[kI.getD (m % 16) 0]
 |0,m=>by simp[hx]
 |k+1,m=>by
  have ih:=G1 k m;show kI.getD (m/16^(k+1) % 16) 0::hx (k+1) m=(kI.getD (m/16/16^k % 16) 0::hx k (m/16))++_;rw[ih,Nat.div_div_eq_div_mul,Nat.pow_succ,Nat.mul_comm 16];rfl
theorem zN:∀(k m:Nat)(acc:LI),(k=0∨16^k≤m)→m<16^(k+1)→Lx.pK (k+1) m acc=hx (k+1) m++acc
 |0,m,acc,_,h=>by
  have h:m<16:=(by simpa using h);unfold Lx.pK;have:Nat.blt m 16=true:=Nat.ble_eq_true_of_le h;simp only[this,Wg,hx];rw[xU _ (Nat.mod_lt _ (by decide))];simp
 |k+1,m,acc,h0,h=>by
  have hp:16^(k+1+1)=16^(k+1)*16:=Nat.pow_succ ..;have hp2:16^(k+1)=16^k*16:=Nat.pow_succ ..
  have h0:16^(k+1)≤m:=by rcases h0 with h|h;cases h;exact h
  have lR:0<16^k:=Nat.pow_pos (by decide);have S6:¬ m<16:=(by omega);unfold Lx.pK
  have:Nat.blt m 16=false:=by
   cases hb:Nat.blt m 16
   ·rfl
   ·exact absurd (Wr hb) S6
  simp only[this,Wb];rw[zN k (m/16) _ (.inr (by omega)) (by omega),G1 (k+1) m,xU _ (Nat.mod_lt _ (by decide))];simp
theorem xJ (n:Int)(h1: -9223372036854775808≤n)(h2:n≤9223372036854775807):∀(k:Nat)(o:LI),k≤16→o.length+k≤100→
  Evt fun N=>gS (S.tab N) n kI o (4*(k:Int) - 4)=some (Sum.inl (o++hx k (u64.wrap n).toNat,()))
 |0,o,_,_=>aB.up fun N _=>by
  show gS (S.step (S.tab N)) _ _ _ _=_;rw[qz,ay (by simp)];simp[hx]
 |k+1,o,hk,ho=>by
  have hu:u64.wrap n=n % 18446744073709551616:=rfl
  have KZ:0≤u64.wrap n:=by rw[hu];omega
  have mO:u64.wrap n<18446744073709551616:=by rw[hu];omega
  have ih:=xJ n h1 h2 k (o++[kI.getD ((u64.wrap n).toNat/16^k % 16) 0]) (by omega) (by simp;omega)
  generalize hU:u64.wrap n=u at KZ mO ih⊢
  obtain⟨m,rfl⟩:∃m:Nat,u=(m:Int):=⟨u.toNat,by omega⟩
  have w1:u64.wrap (4*((k+1:Nat):Int) - 4)=((4*k:Nat):Int):=by
   have e:u64.wrap (4*((k+1:Nat):Int) - 4)=(4*((k+1:Nat):Int) - 4) % 18446744073709551616:=rfl;rw[e];omega
  have Sh:min ((4*k:Nat):Int).toNat u64.bits=4*k:=by
   have:u64.bits=64:=rfl;rw[this,Int.toNat_natCast];omega
  have Md:(2:Int)^(4*k)=((16^k:Nat):Int):=by
   rw[Int.pow_mul]
   push_cast
   rfl
  have hdiv:(m:Int).fdiv (2^min ((4*k:Nat):Int).toNat u64.bits)=((m/16^k:Nat):Int):=by
   rw[Sh,Md,Int.fdiv_eq_ediv_of_nonneg _ (Int.natCast_nonneg _)];rfl
  have hle:m/16^k≤m:=Nat.div_le_self _ _
  have QC:∀q:Nat,q≤m→intBits .and .u64 ↑q 15=((q % 16:Nat):Int):=fun q hq=>by rw[NK _ (by omega) (by omega)];rfl
  have hand:intBits .and .u64 ((m/16^k:Nat):Int) 15=((m/16^k % 16:Nat):Int):=QC _ hle;have fP:m/16^k % 16<16:=Nat.mod_lt _ (by decide)
  have OP:([kI.getD (m/16^k % 16) 0]:LI).map byte=[kI.getD (m/16^k % 16) 0]:=wj fun c hc=>by
   have:c=kI.getD (m/16^k % 16) 0:=(by simpa using hc);subst this;exact D6 _ fP
  have e4:i64.wrap (4*((k+1:Nat):Int) - 4 - 4)=4*(k:Int) - 4:=by rw[wrap64 _ (by omega) (by omega)];omega
  refine ih.up fun N ih=> ?_
  show gS (S.step (S.tab N)) _ _ _ _=_
  rw[qz,hU,w1,hdiv,hand,aj (by simp only[V4];omega),aj (by simp only[V4];omega),Int.toNat_natCast,OP,
   aj (by show(decide (0≤((m/16^k % 16:Nat):Int))&&decide (((m/16^k % 16:Nat):Int)<16))=true;simp only[V6,V4];omega),
   aj (dZ (by unfold lim;simp only[WW];omega)),e4]
  have hn:(m:Int).toNat=m:=Int.toNat_natCast m;rw[hn]at ih⊢;rw[ih];simp[hx]
def wE (n:Int):LI:=bif decide (0≤n)then dec n else [48,120]++hx 16 (u64.wrap n).toNat
theorem Jw (n:Int)(h1: -9223372036854775808≤n)(h2:n≤9223372036854775807):Evt fun N=>oR (S.tab N) n=some (wE n,nD):=
 ((CC n h1 h2).and (xJ n h1 h2 16 [48,120] (by decide) (by decide))).up fun N ⟨a,b⟩=>by
  show oR (S.step (S.tab N)) _=_;unfold wE;rw[BC]
  by_cases h:0≤n
  ·rw[ak h,a,VY h];rfl
  ·rw[ae h,VW h];show(gS (S.tab N) n kI [48,120] (4*((16:Nat):Int) - 4)).bind _=_;rw[b];rfl
end Go.Abs.D
end

section
namespace Go.Abs.D
def Ig (x:aw.den):LI:=
 bif decide (x.1=1)then(bif cL 1 x.2.2.2.2.2.1 then x.2.2.2.2.2.1 else([]:LI))else
 bif decide (x.1=3)then(bif cL 3 x.2.2.2.2.2.1 then x.2.2.2.2.2.1 else([]:LI))else
 bif decide (x.1=2)then wE x.2.2.2.2.1 else
 bif decide (x.1=4)then lH x.2.2.2.2.2.1 else
 bif decide (x.1=7)then [10]else fxI x.1
structure TokIn (x:aw.den):Prop where
 kind: -9223372036854775808≤x.1∧x.1≤9223372036854775807
 num: -9223372036854775808≤x.2.2.2.2.1∧x.2.2.2.2.1≤9223372036854775807
 text:∀c∈(x.2.2.2.2.2.1:LI),isByte c
theorem Pm (n:Int)(h1: -9223372036854775808≤n)(h2:n<0):Lx.jw ([],u64.wrap n,16,false,false,())=some (([],hx 16 (u64.wrap n).toNat,()),(),(),(),(),(),()):=by
 have hu:u64.wrap n=n % 18446744073709551616:=rfl
 have a:(9223372036854775808:Int)≤u64.wrap n:=by rw[hu];omega
 have b:u64.wrap n≤18446744073709551615:=by rw[hu];omega
 have e15:(16:Nat)^15=1152921504606846976:=(by decide);have T4:(16:Nat)^16=18446744073709551616:=(by decide);unfold Lx.jw;simp only[decide_true,VY a,VY b,Wo,Wt,List.isEmpty_nil,Wg];rw[zN 15 _ [] (.inr (by omega)) (by omega),Wv]
theorem PI (n:Int)(h1: -9223372036854775808≤n)(h2:n<0):Evt fun N=>iy (S.tab N) (u64.wrap n) 16=some (hx 16 (u64.wrap n).toNat,mr):=by
 have hi:Evt fun N=>gB (S.tab N) (u64.wrap n) 16=some (hx 16 (u64.wrap n).toNat,ld):=aB.up fun N _=>by
  show gB (S.step (S.tab N)) _ _=_;rw[qq,ay (by rfl),Pm n h1 h2];rfl
 exact hi.up fun N h=>by
  show iy (S.step (S.tab N)) _ _=_;rw[rZ,h];rfl
theorem Gd:∀(k m:Nat),(hx k m).length=k
 |0,_=>rfl
 |k+1,m=>by simp[hx,Gd k m]
theorem Jm {x:aw.den}(h:TokIn x)(hl:List.length (α:=Int) x.2.2.2.2.2.1≤2097152):Evt fun n=>lp (S.tab n) x=some (Ig x,bZ):=by
 have hq:=zR x.2.2.2.2.2.1 h.text;have hg:=sG (s:=x.2.2.2.2.2.1) h.text;have hf:=vK (s:=x.2.2.2.2.2.1) h.text;have S9:=Cg x.1
 by_cases h1:x.1=1
 ·refine hg.up fun n hg=> ?_
  rw[gF,ak h1,hg,VX];unfold Ig;rw[VY h1];cases cL 1 x.2.2.2.2.2.1
  ·rw[ay (by rfl)];rfl
  ·rw[aj (by rfl)];rfl
 by_cases h3:x.1=3
 ·refine hf.up fun n hf=> ?_
  rw[gF,ae h1,ak h3,hf,VX];unfold Ig;rw[VW h1,VY h3];cases cL 3 x.2.2.2.2.2.1
  ·rw[ay (by rfl)];rfl
  ·rw[aj (by rfl)];rfl
 by_cases h2:x.1=2
 ·by_cases hn:0≤x.2.2.2.2.1
  ·refine aB.up fun n _=> ?_
   rw[gF,ae h1,ae h3,ak h2,ak hn,Bs _ h.num.1 h.num.2,VX];unfold Ig wE;rw[VW h1,VW h3,VY h2,VY hn];rfl
  ·refine(PI x.2.2.2.2.1 h.num.1 (Int.not_le.1 hn)).up fun n hu=> ?_
   rw[gF,ae h1,ae h3,ak h2,ae hn,hu,VX];dsimp only;rw[aj (dZ (by rw[Gd];decide))];unfold Ig wE;rw[VW h1,VW h3,VY h2,VW hn];rfl
 refine(hq.and S9).up fun n ⟨hq,S9⟩=> ?_
 rw[gF,ae h1,ae h3,ae h2,hq,S9];simp only[VX];unfold Ig;rw[VW h1,VW h3,VW h2]
 by_cases h4:x.1=4
 ·rw[ak h4,VY h4];rfl
 rw[ae h4,VW h4]
 by_cases h7:x.1=7
 ·rw[ak h7,VY h7];rfl
 ·rw[ae h7,VW h7];rfl
end Go.Abs.D
end

section
namespace Go.Abs.D
abbrev Node:Type:=aa.den
def kn (x:Node):Int:=x.1
def opn (x:Node):Int:=x.2.2.2.2.1
def kW (x:Node):Int:=x.2.2.2.2.2.1
def txn (x:Node):LI:=x.2.2.2.2.2.2.1
def ad (ns:List Node)(i:Int):Node:=at_ (τ:=aa) ns i
def bpw (op:Int):Int:=([0,9,9,10,10,10,10,7,5,6,8,8,4,3,3,3,3,3,3]:LI).getD op.toNat 0
def pwr (x:Node):Int:=bif decide (kn x=29)then 1 else bif decide (kn x=28)then 2 else bif decide (kn x=31)then bpw (opn x)else bif decide (kn x=30)then 11 else 12
def rgt (x:Node):Int:=bif decide (kn x=29)then 2 else bif decide (kn x=28)then 3 else bif decide (opn x=12)then 4 else bpw (opn x)+1
def lft (x:Node):Int:=bif decide (rgt x=pwr x)then pwr x+1 else pwr x
def kH (x:Node):LI:=bif decide (kn x=28)then [97,110,100]else bif decide (kn x=29)then [111,114]else fxI (60+opn x)
def paren (b:Bool)(s:LI):LI:=bif b then [40]++s++[41]else s
def bj:List LI→LI
 |[]=>[]
 |s::r=>s++r.flatMap fun t=>[44,32]++t
def kh (n:Nat):LI:=List.replicate n 9
def uZ (S:Int→Nat→LI)(kids:LI)(fm:Nat):LI:=
 bif kids.isEmpty then [123,125]else [123,10]++(kids.flatMap fun k=>kh (fm+1)++S k (fm+1)++[10])++kh fm++[125]
section
variable(ns:List Node)(E S:Int→Nat→LI)
def bA (i:Int)(fm:Nat):LI:=uZ S (ab (ad ns i)) fm
def fnT (x:Node)(fm:Nat):LI:=
 [40]++bj (al x++bif decide (opn x=1)then [[46,46,46]]else [])++[41,32]++bA ns S ((ab x).getD 0 0) fm
def cy (l:LI)(fm:Nat):LI:=bj (l.map fun k=>E k fm)
def nu (k:Int):Bool:=decide (k=26)||(decide (k=32)||(decide (k=33)||(decide (k=34)||decide (k=37))))
def rG (k:Int)(fm:Nat):LI:=paren (!nu (kn (ad ns k))) (E k fm)
def cS (x:Node)(fm:Nat):LI:=
 let k0:=(ab x).getD 0 0
 let k1:=(ab x).getD 1 0
 bif decide (kn x=20)then [110,105,108]else
 bif decide (kn x=21)then [116,114,117,101]else
 bif decide (kn x=22)then [102,97,108,115,101]else
 bif decide (kn x=27)then [46,46,46]else
 bif decide (kn x=23)then wE (kW x)else
 bif decide (kn x=24)||decide (kn x=26)then txn x else
 bif decide (kn x=25)then lH (txn x)else
 bif decide (kn x=28)||(decide (kn x=29)||decide (kn x=31))then
  paren (decide (pwr (ad ns k0)<lft x)) (E k0 fm)++([32]++kH x++[32])++paren (decide (pwr (ad ns k1)<rgt x)) (E k1 fm)else
 bif decide (kn x=30)then
  (bif decide (opn x=21)then [110,111,116,32]else bif decide (opn x=22)then [35]else bif decide (opn x=20)then [126]else
   [45]++bif decide (kn (ad ns k0)=30)&&decide (opn (ad ns k0)=19)then [32]else [])++paren (decide (pwr (ad ns k0)<11)) (E k0 fm)else
 bif decide (kn x=32)then rG ns E k0 fm++[91]++E k1 fm++[93]else
 bif decide (kn x=33)then rG ns E k0 fm++([46]++txn x)else
 bif decide (kn x=34)then rG ns E k0 fm++[40]++cy E (ab x).tail fm++[41]else
 bif decide (kn x=35)then [123]++cy E (ab x) fm++[125]else
 bif decide (kn x=36)then [102,110]++fnT ns S x fm else
 bif decide (kn x=37)then [40]++E k0 fm++[41]else
 bif decide (kn x=40)then E k0 fm else
 bif decide (kn x=41)then [91]++E k0 fm++[93,32,61,32]++E k1 fm else
 bif decide (kn x=42)then [46]++txn x++[32,61,32]++E k0 fm else []
def ifT (x:Node)(fm:Nat):LI:=
 let k2:=(ab x).getD 2 0
 [105,102,32]++E ((ab x).getD 0 0) fm++[32]++bA ns S ((ab x).getD 1 0) fm++
  bif decide ((ab x).length=3)then(bif decide (kn (ad ns k2)=7)then [32,101,108]++S k2 fm else [32,101,108,115,101,32]++bA ns S k2 fm)else []
def cY (x:Node)(i:Int)(fm:Nat):LI:=
 let k0:=(ab x).getD 0 0
 let k1:=(ab x).getD 1 0
 let O3:=bj (al x)
 bif decide (kn x=1)then uZ S (ab x) fm else
 bif decide (kn x=2)then [108,101,116,32]++O3++(bif(ab x).isEmpty then []else [32,61,32]++cy E (ab x) fm)else
 bif decide (kn x=3)then [99,111,110,115,116,32]++O3++[32,61,32]++E k0 fm else
 bif decide (kn x=4)then [102,110,32]++O3++fnT ns S (ad ns k0) fm else
 bif decide (kn x=5)then cy E ((ab x).take (kW x).toNat) fm++[32,61,32]++cy E ((ab x).drop (kW x).toNat) fm else
 bif decide (kn x=6)then E k0 fm else
 bif decide (kn x=16)then [100,101,102,101,114,32]++E k0 fm else
 bif decide (kn x=7)then ifT ns E S x fm else
 bif decide (kn x=8)then [119,104,105,108,101,32]++E k0 fm++[32]++bA ns S k1 fm else
 bif decide (kn x=9)then [102,111,114,32]++O3++[32,61,32]++cy E (ab x).dropLast fm++[32]++bA ns S ((ab x).getD ((ab x).length - 1) 0) fm else
 bif decide (kn x=10)then [102,111,114,32]++O3++[32,105,110,32]++E k0 fm++[32]++bA ns S k1 fm else
 bif decide (kn x=11)then [98,114,101,97,107]else
 bif decide (kn x=12)then [110,101,120,116]else
 bif decide (kn x=13)then [114,101,116,117,114,110]++(bif(ab x).isEmpty then []else [32]++cy E (ab x) fm)else
 bif decide (kn x=14)then [116,114,121,32]++bA ns S k0 fm++([32,99,97,116,99,104,32]++O3++[32])++bA ns S k1 fm else
 bif decide (kn x=15)then [116,104,114,111,119,32]++E k0 fm else []
end
def prP (ns:List Node):Nat→(Int→Nat→LI)×(Int→Nat→LI)
 |0=>(fun _ _=>[],fun _ _=>[])
 |m+1=>(fun i t=>cS ns (prP ns m).1 (prP ns m).2 (ad ns i) t,fun i t=>cY ns (prP ns m).1 (prP ns m).2 (ad ns i) i t)
def j3 (ns:List Node):LI:=(ab (ad ns ((ns.length - 1:Nat):Int))).flatMap fun k=>(prP ns ns.length).2 k 0++[10]
def Dy (ns:List Node):LI:=bif decide ((lI ns).1=0)then(bif decide (65536<(j3 ns).length)then []else(j3 ns).map byte)else []
end Go.Abs.D
end

section
namespace Go.Abs.D
theorem bM {ns:List Node}{i:Nat}{x:Node}(h:okN ns i x=true):(bif bN x.1 then KS (ns,()) x (af ns x) (al x) x.2.2.2.2.1 x.2.2.2.2.2.1 x.2.2.2.2.2.2.1 x.1 else KE (ns,()) x (af ns x) (al x) x.2.2.2.2.1 x.2.2.2.2.2.1 x.2.2.2.2.2.2.1 x.1)=true:=by
 unfold okN at h
 by_cases c1:x.2.1<0
 ·rw[VY c1]at h;cases h
 by_cases c2:x.2.2.1<x.2.1
 ·rw[VW c1,VY c2]at h;cases h
 by_cases c3:x.2.2.2.1<0
 ·rw[VW c1,VW c2,VY c3]at h;cases h
 by_cases c4:200<(ab x).length
 ·rw[VW c1,VW c2,VW c3,VY c4]at h;cases h
 rw[VW c1,VW c2,VW c3,VW c4]at h;simp only[Wb]at h
 cases ha:(ab x).all (inR i)with
 |false=>rw[ha]at h;cases h
 |true=>rw[ha,Wg]at h;exact h
theorem aZ (ns:List Node)(x:Node):(af ns x).length=(ab x).length:=by unfold af;simp
theorem iq {ns:List Node}{x:Node}{j:Nat}(hj:j<(ab x).length):(af ns x).getD j 0=kn (ad ns ((ab x).getD j 0)):=by
 unfold af;rw[Wm,List.getElem?_map,Wl hj,Wm,Wl hj];rfl
theorem JP {names:List LI}{a b:Int}(h:NM names a b=true):a≤(names.length:Int)∧(names.length:Int)≤b:=by
 unfold NM at h;simp only[V6,V4]at h;exact⟨h.1,h.2.1⟩
section
variable{ns:List Node}{i:Nat}{x:Node}(h:okN ns i x=true)
include h
theorem sh3 (hk:kn x=3):(ab x).length=1∧(al x).length=1:=by
 have h':=bM h;rw[show x.1=3 from hk]at h';have h':(PL true false false false ((al x).length:Int) x.2.2.2.2.1 x.2.2.2.2.2.1 x.2.2.2.2.2.2.1&&(NM (al x) 1 1&&(decide (((af ns x).length:Int)=1)&&EX (af ns x) 0 1)))=true:=h';simp only[V6,V4,aZ]at h';have:=JP h'.2.1;omega
theorem sh4 (hk:kn x=4):(ab x).length=1∧(al x).length=1∧kn (ad ns ((ab x).getD 0 0))=36:=by
 have h':=bM h;rw[show x.1=4 from hk]at h';have h':(PL true false false false ((al x).length:Int) x.2.2.2.2.1 x.2.2.2.2.2.1 x.2.2.2.2.2.2.1&&(NM (al x) 1 1&&(decide (((af ns x).length:Int)=1)&&decide ((af ns x).getD 0 0=36))))=true:=h';simp only[V6,V4,aZ]at h';have:=JP h'.2.1;have e:=iq (ns:=ns) (x:=x) (j:=0) (by omega);exact⟨by omega,by omega,by rw[←e];exact h'.2.2.2⟩
theorem sh5 (hk:kn x=5):1≤kW x∧kW x<((ab x).length:Int):=by
 have h':=bM h;rw[show x.1=5 from hk]at h';have h':(PL false false true false ((al x).length:Int) x.2.2.2.2.1 x.2.2.2.2.2.1 x.2.2.2.2.2.2.1&&(decide (1≤x.2.2.2.2.2.1)&&(decide (x.2.2.2.2.2.1<((af ns x).length:Int))&&((bB (af ns x) 0 (x.2.2.2.2.2.1).toNat).all dc&&EX (af ns x) (x.2.2.2.2.2.1).toNat (af ns x).length))))=true:=h';simp only[V6,V4,aZ]at h';exact⟨h'.2.1,h'.2.2.1⟩
theorem sh6 (hk:kn x=6):(ab x).length=1:=by
 have h':=bM h;rw[show x.1=6 from hk]at h';have h':(PL false false false false ((al x).length:Int) x.2.2.2.2.1 x.2.2.2.2.2.1 x.2.2.2.2.2.2.1&&(decide (((af ns x).length:Int)=1)&&(decide ((af ns x).getD 0 0=34))))=true:=h';simp only[V6,V4,aZ]at h';omega
theorem N3 (hk:kn x=16):(ab x).length=1:=by
 have h':=bM h;rw[show x.1=16 from hk]at h';have h':(PL false false false false ((al x).length:Int) x.2.2.2.2.1 x.2.2.2.2.2.1 x.2.2.2.2.2.2.1&&(decide (((af ns x).length:Int)=1)&&(decide ((af ns x).getD 0 0=34))))=true:=h';simp only[V6,V4,aZ]at h';omega
theorem NO (hk:kn x=15):(ab x).length=1:=by
 have h':=bM h;rw[show x.1=15 from hk]at h';have h':(PL false false false false ((al x).length:Int) x.2.2.2.2.1 x.2.2.2.2.2.1 x.2.2.2.2.2.2.1&&(decide (((af ns x).length:Int)=1)&&EX (af ns x) 0 1))=true:=h';simp only[V6,V4,aZ]at h';omega
theorem sh7 (hk:kn x=7):((ab x).length=2∨(ab x).length=3)∧kn (ad ns ((ab x).getD 1 0))=1∧((ab x).length=3→kn (ad ns ((ab x).getD 2 0))=1∨kn (ad ns ((ab x).getD 2 0))=7):=by
 have h':=bM h;rw[show x.1=7 from hk]at h';have h':(PL false false false false ((al x).length:Int) x.2.2.2.2.1 x.2.2.2.2.2.1 x.2.2.2.2.2.2.1&&(!decide (((af ns x).length:Int)<2)&&(!decide ((3:Int)<((af ns x).length:Int))&&(EX (af ns x) 0 1&&(decide ((af ns x).getD 1 0=1)&&((decide (((af ns x).length:Int)=2)||(decide ((af ns x).getD 2 0=1)||decide ((af ns x).getD 2 0=7)))))))))=true:=h';simp only[V6,WH,WV,V4,V8,aZ]at h';obtain⟨_,a,b,_,c,d⟩:=h';have e1:=iq (ns:=ns) (x:=x) (j:=1) (by omega);refine⟨by omega,by rw[←e1];exact c,fun h3=> ?_⟩;have e2:=iq (ns:=ns) (x:=x) (j:=2) (by omega);rw[←e2]
 rcases d with d|d
 ·omega
 ·exact d
theorem sh8 (hk:kn x=8):(ab x).length=2:=by
 have h':=bM h;rw[show x.1=8 from hk]at h';have h':(PL false false false false ((al x).length:Int) x.2.2.2.2.1 x.2.2.2.2.2.1 x.2.2.2.2.2.2.1&&(decide (((af ns x).length:Int)=2)&&(EX (af ns x) 0 1&&(decide ((af ns x).getD 1 0=1)))))=true:=h';simp only[V6,V4,aZ]at h';omega
theorem sh9 (hk:kn x=9):(ab x).length=3∨(ab x).length=4:=by
 have h':=bM h;rw[show x.1=9 from hk]at h';have h':(PL true false false false ((al x).length:Int) x.2.2.2.2.1 x.2.2.2.2.2.1 x.2.2.2.2.2.2.1&&(NM (al x) 1 1&&((decide (((af ns x).length:Int)=3)||decide (((af ns x).length:Int)=4))&&(EX (af ns x) 0 ((af ns x).length - 1)&&(decide ((af ns x).getD ((af ns x).length - 1) 0=1))))))=true:=h';simp only[V6,WH,V4,aZ]at h';omega
theorem NX (hk:kn x=10):(ab x).length=2:=by
 have h':=bM h;rw[show x.1=10 from hk]at h';have h':(PL true false false false ((al x).length:Int) x.2.2.2.2.1 x.2.2.2.2.2.1 x.2.2.2.2.2.2.1&&(NM (al x) 1 200&&(decide (((af ns x).length:Int)=2)&&(EX (af ns x) 0 1&&(decide ((af ns x).getD 1 0=1))))))=true:=h';simp only[V6,V4,aZ]at h';omega
theorem NV (hk:kn x=14):(ab x).length=2:=by
 have h':=bM h;rw[show x.1=14 from hk]at h';have h':(PL true false false false ((al x).length:Int) x.2.2.2.2.1 x.2.2.2.2.2.1 x.2.2.2.2.2.2.1&&(NM (al x) 1 2&&(decide (((af ns x).length:Int)=2)&&(decide ((af ns x).getD 0 0=1)&&(decide ((af ns x).getD 1 0=1))))))=true:=h';simp only[V6,V4,aZ]at h';omega
theorem RW (hk:kn x=25):(txn x).length≤4000:=(ik h).1.1
theorem NT (hk:kn x=28):(ab x).length=2:=by
 have h':=bM h;rw[show x.1=28 from hk]at h';have h':(decide (((af ns x).length:Int)=2)&&(EX (af ns x) 0 2&&(PL false false false false ((al x).length:Int) x.2.2.2.2.1 x.2.2.2.2.2.1 x.2.2.2.2.2.2.1)))=true:=h';simp only[V6,V4,aZ]at h';omega
theorem N6 (hk:kn x=29):(ab x).length=2:=by
 have h':=bM h;rw[show x.1=29 from hk]at h';have h':(decide (((af ns x).length:Int)=2)&&(EX (af ns x) 0 2&&(PL false false false false ((al x).length:Int) x.2.2.2.2.1 x.2.2.2.2.2.1 x.2.2.2.2.2.2.1)))=true:=h';simp only[V6,V4,aZ]at h';omega
theorem LV (hk:kn x=30):(ab x).length=1∧19≤opn x∧opn x≤22:=by
 have h':=bM h;rw[show x.1=30 from hk]at h';have h':(decide (((af ns x).length:Int)=1)&&(EX (af ns x) 0 1&&(PL false true false false ((al x).length:Int) x.2.2.2.2.1 x.2.2.2.2.2.1 x.2.2.2.2.2.2.1&&(decide ((19:Int)≤x.2.2.2.2.1)&&(decide (x.2.2.2.2.1≤22))))))=true:=h';simp only[V6,V4,aZ]at h';exact⟨by omega,h'.2.2.2.1,h'.2.2.2.2⟩
theorem yw (hk:kn x=31):(ab x).length=2∧1≤opn x∧opn x≤18:=by
 have h':=bM h;rw[show x.1=31 from hk]at h';have h':(decide (((af ns x).length:Int)=2)&&(EX (af ns x) 0 2&&(PL false true false false ((al x).length:Int) x.2.2.2.2.1 x.2.2.2.2.2.1 x.2.2.2.2.2.2.1&&(decide ((1:Int)≤x.2.2.2.2.1)&&(decide (x.2.2.2.2.1≤18))))))=true:=h';simp only[V6,V4,aZ]at h';exact⟨by omega,h'.2.2.2.1,h'.2.2.2.2⟩
theorem N2 (hk:kn x=32):(ab x).length=2:=by
 have h':=bM h;rw[show x.1=32 from hk]at h';have h':(decide (((af ns x).length:Int)=2)&&(EX (af ns x) 0 2&&(!decide ((af ns x).getD 0 0=27)&&(PL false false false false ((al x).length:Int) x.2.2.2.2.1 x.2.2.2.2.2.1 x.2.2.2.2.2.2.1))))=true:=h';simp only[V6,V4,aZ]at h';omega
theorem NY (hk:kn x=33):(ab x).length=1:=by
 have h':=bM h;rw[show x.1=33 from hk]at h';have h':(decide (((af ns x).length:Int)=1)&&(EX (af ns x) 0 1&&(!decide ((af ns x).getD 0 0=27)&&(PL false false false true ((al x).length:Int) x.2.2.2.2.1 x.2.2.2.2.2.1 x.2.2.2.2.2.2.1&&(cL 1 x.2.2.2.2.2.2.1)))))=true:=h';simp only[V6,V4,aZ]at h';omega
theorem NQ (hk:kn x=34):1≤(ab x).length:=by
 have h':=bM h;rw[show x.1=34 from hk]at h';have h':(decide ((1:Int)≤((af ns x).length:Int))&&(EX (af ns x) 0 (af ns x).length&&(!decide ((af ns x).getD 0 0=27)&&(PL false false false false ((al x).length:Int) x.2.2.2.2.1 x.2.2.2.2.2.1 x.2.2.2.2.2.2.1))))=true:=h';simp only[V6,V4,aZ]at h';omega
theorem R5 (hk:kn x=35):∀k∈ab x,j2 (kn (ad ns k))=true:=by
 have h':=bM h;rw[show x.1=35 from hk]at h';have h':((af ns x).all j2&&(PL false false false false ((al x).length:Int) x.2.2.2.2.1 x.2.2.2.2.2.1 x.2.2.2.2.2.2.1))=true:=h';rw[V6]at h';intro k hm;exact List.all_eq_true.1 h'.1 _ (List.mem_map.2 ⟨k,hm,rfl⟩)
theorem E9 (hk:kn x=36):(ab x).length=1∧kn (ad ns ((ab x).getD 0 0))=1:=by
 have h':=bM h;rw[show x.1=36 from hk]at h';have h':(decide (((af ns x).length:Int)=1)&&(decide ((af ns x).getD 0 0=1)&&(PL true true false false ((al x).length:Int) x.2.2.2.2.1 x.2.2.2.2.2.1 x.2.2.2.2.2.2.1&&(NM (al x) 0 200&&((decide (x.2.2.2.2.1=0)||decide (x.2.2.2.2.1=1)))))))=true:=h';simp only[V6,V4,aZ]at h';have e:=iq (ns:=ns) (x:=x) (j:=0) (by omega);exact⟨by omega,by rw[←e];exact h'.2.1⟩
theorem N0 (hk:kn x=37):(ab x).length=1:=by
 have h':=bM h;rw[show x.1=37 from hk]at h';have h':(decide (((af ns x).length:Int)=1)&&((decide ((af ns x).getD 0 0=34)||decide ((af ns x).getD 0 0=27))&&(PL false false false false ((al x).length:Int) x.2.2.2.2.1 x.2.2.2.2.2.1 x.2.2.2.2.2.2.1)))=true:=h';simp only[V6,V4,aZ]at h';omega
theorem NU (hk:kn x=40):(ab x).length=1:=by
 have h':=bM h;rw[show x.1=40 from hk]at h';have h':(decide (((af ns x).length:Int)=1)&&(EX (af ns x) 0 1&&(PL false false false false ((al x).length:Int) x.2.2.2.2.1 x.2.2.2.2.2.1 x.2.2.2.2.2.2.1)))=true:=h';simp only[V6,V4,aZ]at h';omega
theorem N8 (hk:kn x=41):(ab x).length=2:=by
 have h':=bM h;rw[show x.1=41 from hk]at h';have h':(decide (((af ns x).length:Int)=2)&&(EX (af ns x) 0 2&&(PL false false false false ((al x).length:Int) x.2.2.2.2.1 x.2.2.2.2.2.1 x.2.2.2.2.2.2.1)))=true:=h';simp only[V6,V4,aZ]at h';omega
theorem N7 (hk:kn x=42):(ab x).length=1:=by
 have h':=bM h;rw[show x.1=42 from hk]at h';have h':(decide (((af ns x).length:Int)=1)&&(EX (af ns x) 0 1&&(PL false false false true ((al x).length:Int) x.2.2.2.2.1 x.2.2.2.2.2.1 x.2.2.2.2.2.2.1&&cL 1 x.2.2.2.2.2.2.1)))=true:=h';simp only[V6,V4,aZ]at h';omega
end
end Go.Abs.D
end

section
namespace Go.Abs.D
def MX:Nat:=100000000000
abbrev PT1:Type:=(List Node×Unit)×LI×Unit
def pst (ns:List Node)(acc:LI):PT1:=((ns,()),acc,())
theorem kj {n:Nat}(h:n≤MX):fits n=true:=dZ (by unfold lim;unfold MX at h;omega)
theorem vX:∀xs:List LI,Lx.s7 xs [44,32]=bj xs
 |[]=>rfl
 |[x]=>by unfold bj;simp[Lx.s7]
 |x::y::r=>by
  have ih:=vX (y::r);unfold Lx.s7;rw[ih];unfold bj;simp
theorem BZ:∀n:Nat,Lx.Gl [9] n=kh n
 |0=>rfl
 |n+1=>by
  unfold Lx.Gl kh;rw[BZ n,List.replicate_succ];rfl
theorem EG (xs:List LI)(h1:xs.length≤MX)(h2:(bj xs).length≤MX):Lx.s9 (xs,([44,32]:LI),())=some (bj xs,(),(),()):=by
 unfold Lx.s9;dsimp only;rw[vX,kj h1,kj h2];rfl
theorem G3 (n:Nat)(h:n≤100000):Lx.pM (([9]:LI),(n:Int),())=some (kh n,(),(),()):=by
 unfold Lx.pM;dsimp only;rw[VY (by omega),VY (by omega),Int.toNat_natCast,BZ,dZ (by unfold lim;simp;omega)];rfl
theorem iN (n:Nat):(kh n).length=n:=by unfold kh;simp
theorem iQ (ns:List Node):Evt fun n=>∀acc s:LI,acc.length+s.length≤MX→ar (S.tab n) (pst ns acc) s=some ((),pst ns (acc++s),(),()):=aB.up fun n _ acc s h=>by
 have e:Bld.fJ (acc,s,())=some (((s.length:Int),true,()),acc++s,(),()):=by
  unfold Bld.fJ;dsimp only;rw[kj h];rfl
 rw[vC];show(Bld.fJ (acc,s,())).bind _=_;rw[e];rfl
theorem Np (T:S.Tab):((List.range 18).all fun n=>decide (oO (S.step (S.step (S.step T))) (61+(n:Int))=some (bpw (1+(n:Int)),q9)))=true:=by kernel_rfl
theorem IS:Evt fun n=>∀op:Int,1≤op→op≤18→oO (S.tab n) (60+op)=some (bpw op,q9):=by
 have h:Evt fun n=>∀op:Int,1≤op→op≤18→oO (S.tab (n+3)) (60+op)=some (bpw op,q9):=Evt.of fun n op h1 h2=>by
  have:=of_decide_eq_true (List.all_eq_true.1 (Np (S.tab n)) (op.toNat - 1) (List.mem_range.2 (by omega)));have e1:(61:Int)+((op.toNat - 1:Nat):Int)=60+op:=(by omega);have e2:(1:Int)+((op.toNat - 1:Nat):Int)=op:=(by omega);rw[e1,e2]at this;exact this
 obtain⟨N,h⟩:=h
 exact⟨N+3,fun n hn=>by
  have e:n - 3+3=n:=(by omega);rw[←e]
  exact h (n - 3) (by omega)⟩
def ipw (x:Node):Int:=bif decide (kn x=29)then 1 else bif decide (kn x=28)then 2 else bif decide (kn x=31)then bpw (opn x)else 99
theorem yD (op:Int)(h1:1≤op)(h2:op≤18):3≤bpw op∧bpw op≤10∧(bpw op=4↔op=12):=by
 have h:∀k:Fin 19,1≤k.1→3≤bpw (k.1:Int)∧bpw (k.1:Int)≤10∧(bpw (k.1:Int)=4↔(k.1:Int)=12):=by decide+kernel
 have:=h ⟨op.toNat,by omega⟩ (by show 1≤op.toNat;omega);have e:((op.toNat:Nat):Int)=op:=(by omega);simpa only[e]using this
def PE (ns:List Node)(k:Int)(t:Nat)(s:LI):Prop:=Evt fun n=>∀acc:LI,acc.length+s.length≤MX→aQ (S.tab n) (pst ns acc) k (t:Int)=some ((),pst ns (acc++s),(),(),())
def PS (ns:List Node)(k:Int)(t:Nat)(s:LI):Prop:=Evt fun n=>∀acc:LI,acc.length+s.length≤MX→fw (S.tab n) (pst ns acc) k (t:Int)=some ((),pst ns (acc++s),(),(),())
def PB (ns:List Node)(k:Int)(t:Nat)(s:LI):Prop:=Evt fun n=>∀acc:LI,acc.length+s.length≤MX→bm (S.tab n) (pst ns acc) k (t:Int)=some ((),pst ns (acc++s),(),(),())
section
variable{ns:List Node}(cE:∀i:Nat,i<ns.length→okN ns i (ad ns (i:Int))=true)
include cE
theorem Df:Evt fun n=>∀(acc:LI)(k:Nat),k<ns.length→eU (S.tab n) (pst ns acc) (k:Int)=some (ipw (ad ns ↑k),pst ns acc,(),()):=IS.up fun n hp acc k hk=>by
 rw[rU];show brk (decide ((0:Int)≤(k:Int))&&decide ((k:Int)<(ns.length:Int))) (brk (decide (kn (ad ns ↑k)=29)) _ (brk (decide (kn (ad ns ↑k)=28)) _ (brk (decide (kn (ad ns ↑k)=31)) ((oO (S.tab n) (i64.wrap (60+opn (ad ns ↑k)))).bind _) _))) _=_;rw[aj (av hk)];unfold ipw
 by_cases nv:kn (ad ns ↑k)=29
 ·rw[ak nv,VY nv];rfl
 rw[ae nv,VW nv]
 by_cases lM:kn (ad ns ↑k)=28
 ·rw[ak lM,VY lM];rfl
 rw[ae lM,VW lM]
 by_cases nM:kn (ad ns ↑k)=31
 ·obtain⟨_,h1,h2⟩:=yw (cE k hk) nM;rw[ak nM,VY nM,wrap64 _ (by omega) (by omega),hp _ h1 h2];rfl
 ·rw[ae nM,VW nM];rfl
omit cE in
theorem qH {k:Int}{t:Nat}{s:LI}(h:PE ns k t s):Evt fun n=>∀(acc:LI)(yes:Bool),acc.length+(paren yes s).length≤MX→aE (S.tab n) (pst ns acc) k ↑t yes=some ((),pst ns (acc++paren yes s),(),(),(),()):=
 ((iQ ns).and h).up fun n ⟨hw,hE⟩ acc yes hb=>by
  rw[qW]
  cases yes with
  |true=>
   have hb:acc.length+([40]++s++[41]:LI).length≤MX:=hb;simp only[VZ,V0,V5]at hb;rw[aj rfl,hw _ _ (by simp only[V0,V5];omega),VX];dsimp only;rw[hE _ (by simp only[VZ,V0,V5];omega),VX,aj rfl];dsimp only;rw[hw _ _ (by simp only[VZ,V0,V5];omega),VX];show some ((),pst ns (((acc++[40])++s)++[41]),(),(),(),())=some ((),pst ns (acc++([40]++s++[41])),(),(),(),());simp only[V7]
  |false=>
   have hb:acc.length+s.length≤MX:=hb;rw[ay rfl,hE _ hb,VX,ay rfl];rfl
omit cE in
theorem Ar {k:Nat}(hk:k<ns.length){t:Nat}{s:LI}(h:PE ns (k:Int) t s):Evt fun n=>∀(acc:LI),acc.length+(paren (!nu (kn (ad ns ↑k))) s).length≤MX→fX (S.tab n) (pst ns acc) ↑k (t:Int)=some ((),pst ns (acc++paren (!nu (kn (ad ns ↑k))) s),(),(),()):=by
 have j7:Evt fun n=>∀(acc:LI) (b:Bool),acc.length+(paren (!b) s).length≤MX→aY (S.tab n) (pst ns acc) ↑k ↑t b=some (Sum.inl (pst ns (acc++paren (!b) s),())):=(qH h).up fun n hw acc b hb=>by
  rw[pT]
  cases b with
  |true=>rw[aj rfl,hw _ false hb];rfl
  |false=>rw[ay rfl,hw _ true hb];rfl
 refine j7.up fun n hj acc hb=> ?_
 have done:∀b:Bool,nu (kn (ad ns ↑k))=b→((aY (S.tab n) (pst ns acc) ↑k ↑t b).bind (aR (fun y7=>some ((),y7.1,(),(),()))))=some ((),pst ns (acc++paren (!nu (kn (ad ns ↑k))) s),(),(),()):=fun b e=>by
  rw[e]at hb⊢;rw[hj _ _ hb];rfl
 rw[rY];show brk (decide ((0:Int)≤(k:Int))&&decide ((k:Int)<(ns.length:Int))) (brk (decide (kn (ad ns ↑k)=26)) ((aY (S.tab n) (pst ns acc) ↑k ↑t (decide (kn (ad ns ↑k)=26))).bind _) (brk (decide (kn (ad ns ↑k)=32)) ((aY (S.tab n) (pst ns acc) ↑k ↑t (decide (kn (ad ns ↑k)=32))).bind _) (brk (decide (kn (ad ns ↑k)=33)) ((aY (S.tab n) (pst ns acc) ↑k ↑t (decide (kn (ad ns ↑k)=33))).bind _) (brk (decide (kn (ad ns ↑k)=34)) ((aY (S.tab n) (pst ns acc) ↑k ↑t (decide (kn (ad ns ↑k)=34))).bind _) ((aY (S.tab n) (pst ns acc) ↑k ↑t (decide (kn (ad ns ↑k)=37))).bind _))))) _=_;rw[aj (av hk)]
 by_cases BO:kn (ad ns ↑k)=26
 ·rw[ak BO,VY BO];exact done true (by unfold nu;rw[BO];rfl)
 rw[ae BO]
 by_cases h32:kn (ad ns ↑k)=32
 ·rw[ak h32,VY h32];exact done true (by unfold nu;rw[h32];rfl)
 rw[ae h32]
 by_cases h33:kn (ad ns ↑k)=33
 ·rw[ak h33,VY h33];exact done true (by unfold nu;rw[h33];rfl)
 rw[ae h33]
 by_cases ve:kn (ad ns ↑k)=34
 ·rw[ak ve,VY ve];exact done true (by unfold nu;rw[ve];rfl)
 rw[ae ve];exact done _ (by unfold nu;rw[VW BO,VW h32,VW h33,VW ve];rfl)
omit cE in
theorem GD (E:Int→Nat→LI)(t:Nat):∀(r pre:LI),pre≠[]→(pre++r).length≤100000→(∀k∈r,PE ns k t (E k t))→Evt fun n=>∀acc:LI,acc.length+(r.flatMap fun k=>[44,32]++E k t).length≤MX→
  cr (S.tab n) (pst ns acc) ↑t (pre++r) ((pre++r).length:Int) (pre.length:Int)=some (Sum.inl (pst ns (acc++r.flatMap fun k=>[44,32]++E k t),()))
 |[],pre,hp,hl,_=>aB.up fun n _ acc _=>by
  rw[fo,ay (by simp)];simp
 |m::r,pre,hp,hl,h=>by
  have hlen:(pre++m::r).length=pre.length+(r.length+1):=(by simp);have lR:0<pre.length:=List.length_pos_iff.2 hp;have ih:=GD E t r (pre++[m]) (by simp) (by simpa using hl) (fun k hk=>h k (Wj _ hk))
  refine((ih.and (iQ ns)).and (h m (Wk ..))).up fun n ⟨⟨ih,hw⟩,hE⟩ acc hb=> ?_
  rw[WX]at hb⊢;simp only[VZ,V0,V5]at hb;have hg:(pre++m::r).getD (pre.length:Int).toNat 0=m:=fZ pre _ _ 0;rw[fo,ak (by omega),aj (av (by omega)),ak (by omega),hw _ _ (by simp only[V0,V5];omega),VX,hg];dsimp only;rw[hE _ (by simp only[VZ,V0,V5];omega),VX,bf (by omega)];dsimp only;have e1:(pre++[m])++r=pre++m::r:=(by simp);have e2:(pre++[m]).length=pre.length+1:=(by simp);rw[e1,e2]at ih;rw[ih _ (by simp only[VZ,V0,V5];omega)];simp only[V7]
omit cE in
theorem rC (E:Int→Nat→LI)(t:Nat)(kids:LI)(hl:kids.length≤100000)(h:∀k∈kids,PE ns k t (E k t)):Evt fun n=>∀acc:LI,acc.length+(cy E kids t).length≤MX→
  cI (S.tab n) (pst ns acc) kids (t:Int)=some ((),pst ns (acc++cy E kids t),(),(),()):=by
 have l0:Evt fun n=>∀acc:LI,acc.length+(cy E kids t).length≤MX→cr (S.tab n) (pst ns acc) ↑t kids (kids.length:Int) 0=some (Sum.inl (pst ns (acc++cy E kids t),())):=by
  cases kids with
  |nil=>
   refine aB.up fun n _ acc _=> ?_
   rw[fo,ay (by simp)];unfold cy bj;simp
  |cons m r=>
   have hlen:(m::r).length=r.length+1:=(by simp)
   refine((GD E t r [m] (by simp) (by simpa using hl) (fun k hk=>h k (Wj _ hk))).and (h m (Wk ..))).up fun n ⟨h1,hE⟩ acc hb=> ?_
   have e:cy E (m::r) t=E m t++r.flatMap fun k=>[44,32]++E k t:=by
    unfold cy;rw[List.map_cons];show E m t++(r.map fun k=>E k t).flatMap (fun t=>[44,32]++t)=_;rw[List.flatMap_map]
   rw[e]at hb⊢;rw[VZ]at hb;rw[fo,ak (by omega),aj (by simp only[V6,V4];omega),ay (by decide)];show(aQ (S.tab n) (pst ns acc) m ↑t).bind _=_;rw[hE _ (by omega),VX];have h1:∀acc:LI,acc.length+(r.flatMap fun k=>[44,32]++E k t).length≤MX→cr (S.tab n) (pst ns acc) ↑t (m::r) ((m::r).length:Int) 1=_:=h1;show cr (S.tab n) (pst ns (acc++E m t)) ↑t (m::r) ((m::r).length:Int) 1=_;rw[h1 _ (by rw[VZ];omega),V7]
 refine l0.up fun n h acc hb=> ?_
 rw[sd,h _ hb];rfl
omit cE in
theorem Ex (G:Int→Nat→LI)(t:Nat)(ht:t≤10000):∀(r pre:LI),(pre++r).length≤100000→(∀k∈r,PS ns k (t+1) (G k (t+1)))→Evt fun n=>∀acc:LI,acc.length+(r.flatMap fun k=>kh (t+1)++G k (t+1)++[10]).length≤MX→
  dt (S.tab n) (pst ns acc) ↑t (pre++r) ((pre++r).length:Int) (pre.length:Int)=some (Sum.inl (pst ns (acc++r.flatMap fun k=>kh (t+1)++G k (t+1)++[10]),(t:Int),()))
 |[],pre,hl,_=>aB.up fun n _ acc _=>by
  rw[j6,ay (by simp)];simp
 |m::r,pre,hl,h=>by
  have hlen:(pre++m::r).length=pre.length+(r.length+1):=(by simp);have ih:=Ex G t ht r (pre++[m]) (by simpa using hl) (fun k hk=>h k (Wj _ hk))
  refine((ih.and (iQ ns)).and (h m (Wk ..))).up fun n ⟨⟨ih,hw⟩,hE⟩ acc hb=> ?_
  rw[WX]at hb⊢;simp only[VZ,V0,V5]at hb;have hg:(pre++m::r).getD (pre.length:Int).toNat 0=m:=fZ pre _ _ 0;have w1:i64.wrap ((t:Int)+1)=((t+1:Nat):Int):=bf (by omega);rw[j6,ak (by omega),aj (av (by omega)),w1,G3 (t+1) (by omega),VX];dsimp only;rw[hw _ _ (by omega),VX,hg];dsimp only;rw[hE _ (by simp only[VZ];omega),VX];dsimp only;rw[hw _ _ (by simp only[VZ,V0,V5];omega),VX,bf (by omega)];dsimp only;have e1:(pre++[m])++r=pre++m::r:=(by simp);have e2:(pre++[m]).length=pre.length+1:=(by simp);rw[e1,e2]at ih;rw[ih _ (by simp only[VZ,V0,V5];omega)];simp only[V7]
omit cE in
theorem Jr (G:Int→Nat→LI){b:Nat}(hb:b<ns.length)(t:Nat)(ht:t≤10000)(hl:(ab (ad ns (b:Int))).length≤100000)(h:∀k∈ab (ad ns (b:Int)),PS ns k (t+1) (G k (t+1))):PB ns ↑b t (bA ns G ↑b t):=by
 refine((Ex G t ht (ab (ad ns ↑b)) [] (by simpa using hl) h).and (iQ ns)).up fun n ⟨h5,hw⟩ acc BR=> ?_
 unfold bA uZ at BR⊢;rw[rV];show brk (decide ((0:Int)≤(b:Int))&&decide ((b:Int)<(ns.length:Int))) (brk (decide (((ab (ad ns ↑b)).length:Int)=0)) _ ((ar (S.tab n) (pst ns acc) ([123,10]:LI)).bind fun d24=>(dt (S.tab n) d24.2.1 ↑t (ab (ad ns ↑b)) ((ab (ad ns ↑b)).length:Int) 0).bind _)) _=_;rw[aj (av hb)]
 by_cases h0:ab (ad ns ↑b)=[]
 ·rw[h0]at BR⊢;rw[aj (by rfl),hw _ _ (by simpa using BR)];rfl
 ·have nL:(ab (ad ns ↑b)).isEmpty=false:=(by simpa using h0);have On:(ab (ad ns ↑b)).length≠0:=(by simpa using h0);rw[nL,Wb]at BR⊢;simp only[VZ,V0,V5,iN]at BR;rw[ae (by omega),hw _ _ (by simp only[V0,V5];omega),VX];dsimp only;have h5:∀acc:LI,acc.length+((ab (ad ns ↑b)).flatMap fun k=>kh (t+1)++G k (t+1)++[10]).length≤MX→dt (S.tab n) (pst ns acc) ↑t (ab (ad ns ↑b)) ((ab (ad ns ↑b)).length:Int) 0=_:=h5;rw[h5 _ (by simp only[VZ,V0,V5];omega),VX];simp only[aR,Wn];rw[G3 t (by omega),VX,aj (kj (by simp only[iN];unfold MX;omega))];dsimp only;rw[hw _ _ (by simp only[VZ,V0,V5,iN];omega),VX];simp only[V7]
theorem Mv (G:Int→Nat→LI){i b:Nat}(hi:i<ns.length)(qn:kn (ad ns (i:Int))=36)(OD:(ab (ad ns (i:Int))).getD 0 0=(b:Int))(t:Nat)(hB:PB ns (b:Int) t (bA ns G (b:Int) t)):
  Evt fun n=>∀acc:LI,acc.length+(fnT ns G (ad ns ↑i) t).length≤MX→iJ (S.tab n) (pst ns acc) ↑i (t:Int)=some ((),pst ns (acc++fnT ns G (ad ns ↑i) t),(),(),()):=by
 obtain⟨RA,_⟩:=E9 (cE i hi) qn;have TX:=(ik (cE i hi)).1.2.1
 refine(hB.and (iQ ns)).up fun n ⟨hB,hw⟩ acc hb=> ?_
 unfold fnT at hb⊢;rw[OD]at hb⊢
 have lR:decide ((0:Int)<((ab (ad ns ↑i)).length:Int))=true:=by simp only[V4];omega
 have fin:∀xs:List LI,xs.length≤1000→acc.length+([40]++bj xs++[41,32]++bA ns G ↑b t:LI).length≤MX→
   ((Lx.s9 (xs,([44,32]:LI),())).bind fun d27=>
    brk (fits (1+d27.1.length)) (brk (fits ((([40]:LI)++d27.1).length+2)) ((ar (S.tab n) (pst ns acc) ((([40]:LI)++d27.1)++([41,32]:LI))).bind fun d30=>
     brk (decide (0<((ab (ad ns ↑i)).length:Int))) ((bm (S.tab n) d30.2.1 ((ab (ad ns ↑i)).getD 0 0) ↑t).bind fun d37=>(some ((),d37.2.1,(),(),()):Option (Unit×PT1×Unit×Unit×Unit))) none) none) none)=some ((),pst ns (acc++([40]++bj xs++[41,32]++bA ns G ↑b t)),(),(),()):=fun xs QA hb=>by
  simp only[VZ,V0,V5]at hb;rw[EG xs (by unfold MX;omega) (by omega),VX];dsimp only;rw[aj (kj (by omega)),aj (kj (by simp only[VZ,V0,V5];omega)),hw _ _ (by simp only[VZ,V0,V5];omega),VX,aj lR,OD];dsimp only;rw[hB _ (by simp only[VZ,V0,V5];omega),VX];simp only[V7]
 rw[uy];show brk (decide ((0:Int)≤(i:Int))&&decide ((i:Int)<(ns.length:Int))) (brk (fits (0+(al (ad ns ↑i)).length)) (brk (decide (opn (ad ns ↑i)=1)) (brk (fits ((al (ad ns ↑i)).length+1)) _ _) _) _) _=_;rw[aj (av hi),aj (kj (by unfold MX;omega))]
 by_cases h1:opn (ad ns ↑i)=1
 ·rw[VY h1]at hb⊢;rw[aj rfl,aj (kj (by unfold MX;omega))];exact fin (al (ad ns ↑i)++[[46,46,46]]) (by simp;omega) hb
 ·rw[VW h1]at hb⊢;rw[ay rfl];rw[Wb,Wv]at hb⊢;exact fin (al (ad ns ↑i)) (by omega) hb
end
end Go.Abs.D
end

section
namespace Go.Abs.D
def A0 (x:Node):Prop:=(-9223372036854775808≤kW x∧kW x≤9223372036854775807)∧∀c∈txn x,isByte c
theorem mU {ρ:Type}{x y:Option ρ}:brk true x y=x:=aj rfl
theorem dT {ρ:Type}{x y:Option ρ}:brk false x y=y:=ay rfl
def JR (ns:List Node)(acc:LI):Option ((PT1×Unit)⊕Empty):=some (Sum.inl (pst ns acc,()))
section
variable{ns:List Node}{x:Node}{i:Nat}{t:Nat}
theorem NG (cE:∀i:Nat,i<ns.length→okN ns i (ad ns (i:Int))=true)(kids:LI){k0:Nat}(h0:kids.getD 0 0=(k0:Int))(hk:k0<ns.length)(hl:0<kids.length){s:LI}(hE:PE ns (k0:Int) t s):
  Evt fun n=>∀acc:LI,acc.length+(paren (decide (pwr (ad ns ↑k0)<11)) s).length≤MX→bc (S.tab n) (pst ns acc) ↑t kids=JR ns (acc++paren (decide (pwr (ad ns ↑k0)<11)) s):=by
 have he:decide (ipw (ad ns ↑k0)<99)=decide (pwr (ad ns ↑k0)<11):=by
  unfold ipw pwr
  by_cases nv:kn (ad ns ↑k0)=29
  ·rw[VY nv];rfl
  by_cases lM:kn (ad ns ↑k0)=28
  ·rw[VW nv,VY lM];rfl
  by_cases nM:kn (ad ns ↑k0)=31
  ·obtain⟨_,h1,h2⟩:=yw (cE k0 hk) nM;have:=yD _ h1 h2;rw[VW nv,VW lM,VY nM];simp only[Wg,Wb];rw[VY (by omega),VY (by omega)]
  rw[VW nv,VW lM,VW nM];cases decide (kn (ad ns ↑k0)=30)<;>rfl
 refine((Df cE).and (qH hE)).up fun n ⟨hp,hw⟩ acc hb=> ?_
 rw[pV,ak (by omega),ak (by omega),h0,hp _ _ hk,VX];dsimp only;rw[he,hw _ _ hb];rfl
theorem J8 (cE:∀i:Nat,i<ns.length→okN ns i (ad ns (i:Int))=true)(hx:okN ns i x=true)(hk:kn x=28∨kn x=29∨kn x=31){k0:Nat}(h0:k0<ns.length):
  (decide (ipw (ad ns ↑k0)<ipw x)||((decide (kn x=31)&&decide (opn x=12))&&decide (ipw (ad ns ↑k0)=ipw x)))=decide (pwr (ad ns ↑k0)<lft x)∧
  (decide (ipw (ad ns ↑k0)<ipw x)||(!(decide (kn x=31)&&decide (opn x=12))&&decide (ipw (ad ns ↑k0)=ipw x)))=decide (pwr (ad ns ↑k0)<rgt x):=by
 have Vi:ipw x=pwr x∧1≤pwr x∧pwr x≤10∧(rgt x=pwr x+bif decide (kn x=31)&&decide (opn x=12)then 0 else 1):=by
  unfold ipw pwr rgt
  rcases hk with h|h|h
  ·rw[h];exact⟨rfl,show(1:Int)≤2 by decide,show(2:Int)≤10 by decide,rfl⟩
  ·rw[h];exact⟨rfl,show(1:Int)≤1 by decide,show(1:Int)≤10 by decide,rfl⟩
  ·obtain⟨_,h1,h2⟩:=yw hx h;have hr:=yD _ h1 h2;rw[h];refine⟨rfl, ?_, ?_, ?_⟩
   ·show(1:Int)≤bpw (opn x);omega
   ·show bpw (opn x)≤10;omega
   ·show(bif decide (opn x=12)then(4:Int)else bpw (opn x)+1)=bpw (opn x)+bif decide (opn x=12)then 0 else 1
    by_cases qU:opn x=12
    ·rw[VY qU,qU];rfl
    ·rw[VW qU];rfl
 have OD:(ipw (ad ns ↑k0)=pwr (ad ns ↑k0)∧pwr (ad ns ↑k0)≤10)∨(ipw (ad ns ↑k0)=99∧11≤pwr (ad ns ↑k0)):=by
  unfold ipw pwr
  by_cases nv:kn (ad ns ↑k0)=29
  ·rw[VY nv];exact .inl ⟨rfl,show(1:Int)≤10 by decide⟩
  by_cases lM:kn (ad ns ↑k0)=28
  ·rw[VW nv,VY lM];exact .inl ⟨rfl,show(2:Int)≤10 by decide⟩
  by_cases nM:kn (ad ns ↑k0)=31
  ·obtain⟨_,h1,h2⟩:=yw (cE k0 h0) nM;have:=yD _ h1 h2;rw[VW nv,VW lM,VY nM];simp only[Wg,Wb];exact .inl ⟨trivial,by omega⟩
  rw[VW nv,VW lM,VW nM];cases decide (kn (ad ns ↑k0)=30)
  ·exact .inr ⟨rfl,show(11:Int)≤12 by decide⟩
  ·exact .inr ⟨rfl,show(11:Int)≤11 by decide⟩
 obtain⟨e1,e2,e3,e4⟩:=Vi
 have hl:lft x=bif decide (kn x=31)&&decide (opn x=12)then pwr x+1 else pwr x:=by
  unfold lft
  cases hj:decide (kn x=31)&&decide (opn x=12)with
  |true=>rw[hj]at e4;rw[VY (by rw[e4];simp)]
  |false=>rw[hj]at e4;rw[VW (by rw[e4];simp only[Wb];omega)];try rfl
 rw[hl,e4,e1];cases decide (kn x=31)&&decide (opn x=12)<;>simp only[Wg,Wb,Wc,V9,Wf,Wq,Wt]<;>constructor<;>rw[Bool.eq_iff_iff]<;>simp only[WH,V4]<;>omega
theorem JD (cE:∀i:Nat,i<ns.length→okN ns i (ad ns (i:Int))=true)(hx:okN ns i x=true)(hk:kn x=28∨kn x=29∨kn x=31){k0 k1:Nat}(h0:(ab x).getD 0 0=(k0:Int))(h1:(ab x).getD 1 0=(k1:Int))(MR:k0<ns.length)(RA:k1<ns.length)(hl:(ab x).length=2)
  {s0 s1 sg:LI} (fB:PE ns (k0:Int) t s0) (yy:PE ns (k1:Int) t s1):
  Evt fun n=>∀acc:LI,acc.length+(paren (decide (pwr (ad ns ↑k0)<lft x)) s0++([32]++sg++[32])++paren (decide (pwr (ad ns ↑k1)<rgt x)) s1).length≤MX→
   du (S.tab n) (pst ns acc) ↑t (ab x) (ipw x) (decide (kn x=31)&&decide (opn x=12)) sg=JR ns (acc++(paren (decide (pwr (ad ns ↑k0)<lft x)) s0++([32]++sg++[32])++paren (decide (pwr (ad ns ↑k1)<rgt x)) s1)):=by
 obtain⟨a0,_⟩:=J8 cE hx hk MR;obtain⟨_,b1⟩:=J8 cE hx hk RA
 refine(((Df cE).and (iQ ns)).and ((qH fB).and (qH yy))).up fun n ⟨⟨hp,hw⟩,w0,w1⟩ acc hb=> ?_
 have M6:decide ((0:Int)<((ab x).length:Int))=true:=by simp only[V4];omega
 have MV:decide ((1:Int)<((ab x).length:Int))=true:=by simp only[V4];omega
 simp only[VZ,V0,V5]at hb
 have right:∀A:LI,A.length+(paren (decide (pwr (ad ns ↑k1)<rgt x)) s1).length≤MX→(brk (decide (ipw (ad ns ↑k1)<ipw x)) ((aE (S.tab n) (pst ns A) ↑k1 ↑t true).bind fun d140=>some (Sum.inl (d140.2.1,())))
   (brk (!(decide (kn x=31)&&decide (opn x=12))) ((aE (S.tab n) (pst ns A) ↑k1 ↑t (decide (ipw (ad ns ↑k1)=ipw x))).bind fun d140=>some (Sum.inl (d140.2.1,()))) ((aE (S.tab n) (pst ns A) ↑k1 ↑t false).bind fun d140=>some (Sum.inl (d140.2.1,())))))=JR ns (A++paren (decide (pwr (ad ns ↑k1)<rgt x)) s1):=fun A hA=>by
  rw[←b1]at hA⊢
  cases c1:decide (ipw (ad ns ↑k1)<ipw x)with
  |true=>
   rw[c1,Wh]at hA;rw[mU,w1 _ true hA,Wh];rfl
  |false=>
   rw[c1,Wd]at hA;rw[dT,Wd]
   cases c2:decide (kn x=31)&&decide (opn x=12)with
   |true=>
    rw[c2,Wq,Wc]at hA;rw[Wq,dT,w1 _ false hA,Wc];rfl
   |false=>
    rw[c2,Wt,V9]at hA;rw[Wt,mU,w1 _ _ hA,V9];rfl
 have Ql:∀A:LI,A.length+(1+sg.length+1)+(paren (decide (pwr (ad ns ↑k1)<rgt x)) s1).length≤MX→(brk (fits (1+sg.length)) (brk (fits ((([32]:LI)++sg).length+1)) ((ar (S.tab n) (pst ns A) ((([32]:LI)++sg)++([32]:LI))).bind fun d122=>
   brk (decide (1<((ab x).length:Int))) (brk (decide (ipw (ad ns ↑k1)<ipw x)) ((aE (S.tab n) d122.2.1 ↑k1 ↑t true).bind fun d140=>some (Sum.inl (d140.2.1,())))
   (brk (!(decide (kn x=31)&&decide (opn x=12))) ((aE (S.tab n) d122.2.1 ↑k1 ↑t (decide (ipw (ad ns ↑k1)=ipw x))).bind fun d140=>some (Sum.inl (d140.2.1,()))) ((aE (S.tab n) d122.2.1 ↑k1 ↑t false).bind fun d140=>some (Sum.inl (d140.2.1,()))))) none) none) none)=JR ns (A++([32]++sg++[32])++paren (decide (pwr (ad ns ↑k1)<rgt x)) s1):=fun A hA=>by
  rw[aj (kj (by omega)),aj (kj (by simp only[VZ,V0,V5];omega)),hw _ _ (by simp only[VZ,V0,V5];omega),VX,aj MV];dsimp only;exact right _ (by simp only[VZ,V0,V5];omega)
 rw[pU,aj M6,h0,hp _ _ MR,VX,aj MV,h1];dsimp only;rw[hp _ _ RA,VX,aj M6];dsimp only;rw[←a0]at hb⊢
 cases c1:decide (ipw (ad ns ↑k0)<ipw x)with
 |true=>
  rw[c1,Wh]at hb;rw[mU,w0 _ true (by omega),VX,Wh];dsimp only;refine(Ql _ (by simp only[VZ];omega)).trans ?_;simp only[V7]
 |false=>
  rw[c1,Wd]at hb;rw[dT,Wd]
  cases c2:decide (kn x=31)&&decide (opn x=12)with
  |true=>
   rw[c2,V9]at hb;rw[c2]at Ql;rw[mU,w0 _ _ (by omega),VX,V9];dsimp only;refine(Ql _ (by simp only[VZ];omega)).trans ?_;simp only[V7]
  |false=>
   rw[c2,Wc]at hb;rw[c2]at Ql;rw[dT,w0 _ false (by omega),VX,Wc];dsimp only;refine(Ql _ (by simp only[VZ];omega)).trans ?_;simp only[V7]
end
end Go.Abs.D
end

section
namespace Go.Abs.D
theorem aG {x:Node}{j:Nat}(h:j<(ab x).length):(ab x).getD j 0∈ab x:=by
 rw[Wm,Wl h];exact WO _
theorem kV {ns:List Node}{i:Nat}(hi:i<ns.length)(acc:LI):(decide ((0:Int)≤(i:Int))&&decide ((i:Int)<((pst ns acc).1.1.length:Int)))=true:=av hi
section
variable{ns:List Node}(cE:∀i:Nat,i<ns.length→okN ns i (ad ns (i:Int))=true)
include cE
def LX (ns:List Node)(E:Int→Nat→LI)(x:Node)(t:Nat):LI:=
 paren (decide (pwr (ad ns ((ab x).getD 0 0))<lft x)) (E ((ab x).getD 0 0) t)++([32]++kH x++[32])++paren (decide (pwr (ad ns ((ab x).getD 1 0))<rgt x)) (E ((ab x).getD 1 0) t)
theorem Lf {i:Nat}(hi:i<ns.length){t:Nat}{E:Int→Nat→LI}(hk:kn (ad ns (i:Int))=28∨kn (ad ns (i:Int))=29∨kn (ad ns (i:Int))=31)(hE:∀k∈ab (ad ns (i:Int)),PE ns k t (E k t))
  (gk:∀k∈ab (ad ns (i:Int)),∃j:Nat,k=(j:Int)∧j<i):
  Evt fun n=>∀acc:LI,acc.length+(LX ns E (ad ns ↑i) t).length≤MX→dy (S.tab n) (pst ns acc) ↑i ↑t (ad ns ↑i) (ab (ad ns ↑i)) (kn (ad ns ↑i)) true=JR ns (acc++LX ns E (ad ns ↑i) t):=by
 have hx:=cE i hi
 have hl:(ab (ad ns ↑i)).length=2:=by
  rcases hk with h|h|h
  ·exact NT hx h
  ·exact N6 hx h
  ·exact(yw hx h).1
 have m0:=aG (x:=ad ns ↑i) (j:=0) (by omega);have m1:=aG (x:=ad ns ↑i) (j:=1) (by omega);obtain⟨k0,e0,b0⟩:=gk _ m0;obtain⟨k1,e1,b1⟩:=gk _ m1;have fB:=hE _ m0;have yy:=hE _ m1;unfold LX;rw[e0]at fB⊢;rw[e1]at yy⊢;have Md:=Df cE
 by_cases nM:(ad ns ↑i).1=31
 ·have IB:kn (ad ns ↑i)=31:=nM;obtain⟨_,o1,o2⟩:=yw hx IB;have QP:i64.wrap (60+(ad ns ↑i).2.2.2.2.1)=60+(ad ns ↑i).2.2.2.2.1:=wrap64 (60+opn (ad ns ↑i)) (by omega) (by omega)
  have M8:kH (ad ns ↑i)=fxI (60+(ad ns ↑i).2.2.2.2.1):=by unfold kH;rw[IB];rfl
  have j:=JD (t:=t) (sg:=kH (ad ns ↑i)) cE hx hk e0 e1 (by omega) (by omega) hl fB yy
  refine((Md.and j).and (Cg (60+(ad ns ↑i).2.2.2.2.1))).up fun n ⟨⟨hp,hj⟩,hf⟩ acc hb=> ?_
  have hj:=hj acc hb
  have SZ:(decide (kn (ad ns ↑i)=31)&&decide (opn (ad ns ↑i)=12))=decide ((ad ns ↑i).2.2.2.2.1=12):=by rw[VY IB];rfl
  rw[SZ]at hj;rw[aH,mU,hp _ _ hi,VX,ak nM,ak nM,QP,hf,VX];dsimp only;rw[←M8,hj];rfl
 ·have IB:¬ kn (ad ns ↑i)=31:=nM;have j:=JD (t:=t) (sg:=kH (ad ns ↑i)) cE hx hk e0 e1 (by omega) (by omega) hl fB yy
  refine(Md.and j).up fun n ⟨hp,hj⟩ acc hb=> ?_
  have hj:=hj acc hb;rw[VW IB,Wc]at hj
  have M8:kH (ad ns ↑i)=Ff ([]:LI) [(28,([97,110,100]:LI)),(29,([111,114]:LI))] (ad ns ↑i).1:=by
   rcases hk with h|h|h
   ·have h':(ad ns ↑i).1=28:=h;unfold kH;rw[h,h'];rfl
   ·have h':(ad ns ↑i).1=29:=h;unfold kH;rw[h,h'];rfl
   ·exact absurd h IB
  rw[aH,mU,hp _ _ hi,VX,ae nM,ae nM];dsimp only;rw[←M8,hj];rfl
omit cE in
theorem J9 {i:Nat}(hi:i<ns.length){t:Nat}{s:LI}(vl:¬ (ad ns (i:Int)).1=20)(Be:¬ (ad ns (i:Int)).1=21)(wL:¬ (ad ns (i:Int)).1=22)(Ba:¬ (ad ns (i:Int)).1=27)(wO:¬ (ad ns (i:Int)).1=23)
  (J:Evt fun n=>∀acc:LI,acc.length+s.length≤MX→dr (S.tab n) (pst ns acc) (i:Int) (t:Int) (ad ns (i:Int)) (ab (ad ns (i:Int))) (ad ns (i:Int)).1 (decide ((ad ns (i:Int)).1=24)||decide ((ad ns (i:Int)).1=26))=JR ns (acc++s)):PE ns ↑i t s:=
 J.up fun n h acc hb=>by
  have h:=h acc hb;have hx:at_ (τ:=aa) (pst ns acc).1.1 (i:Int)=ad ns ↑i:=rfl;rw[dW,hx,aj (kV hi acc),ae vl,ae Be,ae wL,ae Ba,ae wO]
  by_cases r8:(ad ns ↑i).1=24
  ·rw[VY r8,Wh]at h;rw[ak r8,VY r8];show(dr (S.tab n) (pst ns acc) ↑i ↑t (ad ns ↑i) (ab (ad ns ↑i)) (ad ns ↑i).1 true).bind _=_;rw[h];rfl
  ·rw[VW r8,Wd]at h;rw[ae r8];show(dr (S.tab n) (pst ns acc) ↑i ↑t (ad ns ↑i) (ab (ad ns ↑i)) (ad ns ↑i).1 (decide ((ad ns ↑i).1=26))).bind _=_;rw[h];rfl
omit cE in
theorem Pt {i:Nat}(hi:i<ns.length){t:Nat}{s:LI}(vl:¬ (ad ns (i:Int)).1=20)(Be:¬ (ad ns (i:Int)).1=21)(wL:¬ (ad ns (i:Int)).1=22)(Ba:¬ (ad ns (i:Int)).1=27)(wO:¬ (ad ns (i:Int)).1=23)
  (r8:¬ (ad ns (i:Int)).1=24) (BO:¬ (ad ns (i:Int)).1=26) (Gm:¬ (ad ns (i:Int)).1=25)
  (J:Evt fun n=>∀acc:LI,acc.length+s.length≤MX→dy (S.tab n) (pst ns acc) (i:Int) (t:Int) (ad ns (i:Int)) (ab (ad ns (i:Int))) (ad ns (i:Int)).1 (decide ((ad ns (i:Int)).1=28)||(decide ((ad ns (i:Int)).1=29)||decide ((ad ns (i:Int)).1=31)))=JR ns (acc++s)):PE ns ↑i t s:=by
 refine J9 hi vl Be wL Ba wO (J.up fun n h acc hb=> ?_);have h:=h acc hb;rw[VW r8,VW BO,gQ,Wf,dT,ae Gm]
 by_cases lM:(ad ns ↑i).1=28
 ·rw[VY lM,Wh]at h;rw[ak lM,VY lM,h];rfl
 rw[VW lM,Wd]at h;rw[ae lM]
 by_cases nv:(ad ns ↑i).1=29
 ·rw[VY nv,Wh]at h;rw[ak nv,VY nv,h];rfl
 rw[VW nv,Wd]at h;rw[ae nv,h];rfl
theorem IN {i:Nat}(hi:i<ns.length)(A9:A0 (ad ns (i:Int))){t:Nat}{E G:Int→Nat→LI}(hE:∀k∈ab (ad ns (i:Int)),PE ns k t (E k t))
  (M1:kn (ad ns (i:Int))=36→PB ns ((ab (ad ns (i:Int))).getD 0 0) t (bA ns G ((ab (ad ns (i:Int))).getD 0 0) t)) (gk:∀k∈ab (ad ns (i:Int)),∃j:Nat,k=(j:Int)∧j<i):
  PE ns ↑i t (cS ns E G (ad ns ↑i) t):=by
 have fI:=cE i hi;have Ht:=(ik fI).2.1
 have leaf:∀s:LI,(∀(n:Nat) (acc:LI),aQ (S.step (S.tab n)) (pst ns acc) ↑i (t:Int)=(ar (S.tab n) (pst ns acc) s).bind fun d=>some ((),d.2.1,(),(),()))→PE ns ↑i t s:=fun s h=>(iQ ns).up fun n hw acc hb=>by
  rw[h,hw _ _ hb];rfl
 have hx:∀acc,at_ (τ:=aa) (pst ns acc).1.1 (i:Int)=ad ns ↑i:=fun _=>rfl
 by_cases vl:(ad ns ↑i).1=20
 ·have hk:kn (ad ns ↑i)=20:=vl;unfold cS;rw[hk]
  exact leaf [110,105,108] fun n acc=>by rw[dW,hx,aj (kV hi acc),ak vl]
 by_cases Be:(ad ns ↑i).1=21
 ·have hk:kn (ad ns ↑i)=21:=Be;unfold cS;rw[hk]
  exact leaf [116,114,117,101] fun n acc=>by rw[dW,hx,aj (kV hi acc),ae vl,ak Be]
 by_cases wL:(ad ns ↑i).1=22
 ·have hk:kn (ad ns ↑i)=22:=wL;unfold cS;rw[hk]
  exact leaf [102,97,108,115,101] fun n acc=>by rw[dW,hx,aj (kV hi acc),ae vl,ae Be,ak wL]
 by_cases Ba:(ad ns ↑i).1=27
 ·have hk:kn (ad ns ↑i)=27:=Ba;unfold cS;rw[hk]
  exact leaf [46,46,46] fun n acc=>by rw[dW,hx,aj (kV hi acc),ae vl,ae Be,ae wL,ak Ba]
 by_cases wO:(ad ns ↑i).1=23
 ·have hk:kn (ad ns ↑i)=23:=wO;unfold cS;rw[hk];show PE ns ↑i t (wE (kW (ad ns ↑i)));have Sk:=Jm (x:=(2,0,0,0,kW (ad ns ↑i),([]:LI),())) ⟨show -9223372036854775808≤(2:Int)∧(2:Int)≤9223372036854775807 by decide,A9.1,fun c hc=>by cases hc⟩ (WQ _)
  refine((iQ ns).and Sk).up fun n ⟨hw,ht⟩ acc hb=> ?_
  have ht:lp (S.tab n) (2,0,0,0,(ad ns ↑i).2.2.2.2.2.1,([]:LI),())=some (wE (kW (ad ns ↑i)),bZ):=ht;rw[dW,hx,aj (kV hi acc),ae vl,ae Be,ae wL,ae Ba,ak wO,ht,VX];dsimp only;rw[hw _ _ hb];rfl
 by_cases Rq:(ad ns ↑i).1=24∨(ad ns ↑i).1=26
 ·have e:cS ns E G (ad ns ↑i) t=txn (ad ns ↑i):=by
   unfold cS
   rcases Rq with h|h
   ·rw[show kn (ad ns ↑i)=24 from h];rfl
   ·rw[show kn (ad ns ↑i)=26 from h];rfl
  rw[e];refine J9 hi vl Be wL Ba wO ((iQ ns).up fun n hw acc hb=> ?_);have hd:(decide ((ad ns ↑i).1=24)||decide ((ad ns ↑i).1=26))=true:=(by simpa using Rq);rw[hd,gQ,mU];show(ar (S.tab n) (pst ns acc) (txn (ad ns ↑i))).bind _=_;rw[hw _ _ hb];rfl
 have r8:¬ (ad ns ↑i).1=24:=fun h=>Rq (.inl h)
 have BO:¬ (ad ns ↑i).1=26:=fun h=>Rq (.inr h)
 by_cases Gm:(ad ns ↑i).1=25
 ·have hk:kn (ad ns ↑i)=25:=Gm;unfold cS;rw[hk];show PE ns ↑i t (lH (txn (ad ns ↑i)));refine J9 hi vl Be wL Ba wO (((iQ ns).and (zR _ A9.2)).up fun n ⟨hw,hq⟩ acc hb=> ?_);have hq:oP (S.tab n) (ad ns ↑i).2.2.2.2.2.2.1=_:=hq;rw[VW r8,VW BO,gQ,Wf,dT,ak Gm,hq,VX];dsimp only;rw[hw _ _ hb];rfl
 have Fw:=fun(s:LI) J=>Pt hi (t:=t) (s:=s) vl Be wL Ba wO r8 BO Gm J
 by_cases Iq:(ad ns ↑i).1=28∨(ad ns ↑i).1=29∨(ad ns ↑i).1=31
 ·have e:cS ns E G (ad ns ↑i) t=LX ns E (ad ns ↑i) t:=by
   unfold cS
   rcases Iq with h|h|h
   ·rw[show kn (ad ns ↑i)=28 from h];rfl
   ·rw[show kn (ad ns ↑i)=29 from h];rfl
   ·rw[show kn (ad ns ↑i)=31 from h];rfl
  rw[e];have hd:(decide ((ad ns ↑i).1=28)||(decide ((ad ns ↑i).1=29)||decide ((ad ns ↑i).1=31)))=true:=(by simpa using Iq);refine Fw _ ?_;rw[hd];exact Lf cE hi Iq hE gk
 have lM:¬ (ad ns ↑i).1=28:=fun h=>Iq (.inl h)
 have nv:¬ (ad ns ↑i).1=29:=fun h=>Iq (.inr (.inl h))
 have nM:¬ (ad ns ↑i).1=31:=fun h=>Iq (.inr (.inr h))
 have hd:(decide ((ad ns ↑i).1=28)||(decide ((ad ns ↑i).1=29)||decide ((ad ns ↑i).1=31)))=false:=by rw[VW lM,VW nv,VW nM];rfl
 rw[hd]at Fw
 by_cases ma:(ad ns ↑i).1=30
 ·have hk:kn (ad ns ↑i)=30:=ma;obtain⟨hl,o1,o2⟩:=LV fI hk;have m0:=aG (x:=ad ns ↑i) (j:=0) (by omega);obtain⟨k0,e0,b0⟩:=gk _ m0;have fB:=hE _ m0;rw[e0]at fB;have Rj:=NG cE (ab (ad ns ↑i)) e0 (by omega) (by omega) fB
  have lR:decide ((0:Int)<((ab (ad ns ↑i)).length:Int))=true:=by simp only[V4];omega
  have pre:∀p:LI,∀n:Nat,(∀acc s:LI,acc.length+s.length≤MX→ar (S.tab n) (pst ns acc) s=some ((),pst ns (acc++s),(),()))→(∀acc:LI,acc.length+(paren (decide (pwr (ad ns ↑k0)<11)) (E ↑k0 t)).length≤MX→bc (S.tab n) (pst ns acc) ↑t (ab (ad ns ↑i))=JR ns (acc++paren (decide (pwr (ad ns ↑k0)<11)) (E ↑k0 t)))→
    ∀acc:LI,acc.length+(p++paren (decide (pwr (ad ns ↑k0)<11)) (E ↑k0 t)).length≤MX→((ar (S.tab n) (pst ns acc) p).bind fun d=>(bc (S.tab n) d.2.1 ↑t (ab (ad ns ↑i))).bind (aR fun Fk=>some (Sum.inl Fk)))=JR ns (acc++(p++paren (decide (pwr (ad ns ↑k0)<11)) (E ↑k0 t))):=fun p n hw hj acc hb=>by
   rw[VZ]at hb;rw[hw _ _ (by omega),VX];dsimp only;rw[hj _ (by rw[VZ];omega),←V7];rfl
  unfold cS;rw[hk,e0]
  by_cases p21:(ad ns ↑i).2.2.2.2.1=21
  ·rw[show opn (ad ns ↑i)=21 from p21];refine Fw ([110,111,116,32]++paren (decide (pwr (ad ns ↑k0)<11)) (E ↑k0 t)) (((iQ ns).and Rj).up fun n ⟨hw,hj⟩ acc hb=> ?_);rw[aH,dT,ak ma,ak p21];exact pre _ n hw hj acc hb
  by_cases p19:(ad ns ↑i).2.2.2.2.1=19
  ·rw[show opn (ad ns ↑i)=19 from p19];show PE ns ↑i t (([45]++bif decide (kn (ad ns ↑k0)=30)&&decide (opn (ad ns ↑k0)=19)then [32]else [])++paren (decide (pwr (ad ns ↑k0)<11)) (E ↑k0 t));refine Fw _ (((iQ ns).and Rj).up fun n ⟨hw,hj⟩ acc hb=> ?_)
   have RD:∀acc,at_ (τ:=aa) (pst ns acc).1.1 (k0:Int)=ad ns ↑k0:=fun _=>rfl
   have hn:=kV (ns:=ns) (show k0<ns.length by omega);simp only[VZ,V0,V5]at hb;rw[aH,dT,ak ma,ae p21,ak p19,hw _ _ (by simp only[V0,V5];omega),VX,aj lR,e0];dsimp only;rw[aj (hn _),RD]
   have tail:∀A:LI,A.length+(paren (decide (pwr (ad ns ↑k0)<11)) (E ↑k0 t)).length≤MX→((bc (S.tab n) (pst ns A) ↑t (ab (ad ns ↑i))).bind (aR fun Fk=>some (Sum.inl Fk)))=JR ns (A++paren (decide (pwr (ad ns ↑k0)<11)) (E ↑k0 t)):=fun A hA=>by rw[hj A hA];rfl
   by_cases q30:(ad ns ↑k0).1=30
   ·rw[show kn (ad ns ↑k0)=30 from q30]at hb⊢;rw[ak q30]
    by_cases Qv:(ad ns ↑k0).2.2.2.2.1=19
    ·rw[show opn (ad ns ↑k0)=19 from Qv]at hb⊢;have hb:acc.length+(0+1+(0+1)+(paren (decide (pwr (ad ns ↑k0)<11)) (E ↑k0 t)).length)≤MX:=hb;rw[ak Qv,hw _ _ (by simp only[VZ,V0,V5];omega),VX];dsimp only;refine(tail _ (by simp only[VZ,V0,V5];omega)).trans ?_;show JR ns (acc++[45]++[32]++_)=JR ns (acc++([45]++[32]++_));simp only[V7]
    ·have:(decide ((30:Int)=30)&&decide (opn (ad ns ↑k0)=19))=false:=by rw[VW (show¬ opn (ad ns ↑k0)=19 from Qv)];rfl
     rw[this]at hb⊢;have hb:acc.length+(0+1+0+(paren (decide (pwr (ad ns ↑k0)<11)) (E ↑k0 t)).length)≤MX:=hb;rw[ae Qv];refine(tail _ (by simp only[VZ,V0,V5];omega)).trans ?_;show JR ns (acc++[45]++_)=JR ns (acc++([45]++[]++_));simp only[V7,Wv,List.nil_append]
   ·have:(decide (kn (ad ns ↑k0)=30)&&decide (opn (ad ns ↑k0)=19))=false:=by rw[VW (show¬ kn (ad ns ↑k0)=30 from q30)];rfl
    rw[this]at hb⊢;have hb:acc.length+(0+1+0+(paren (decide (pwr (ad ns ↑k0)<11)) (E ↑k0 t)).length)≤MX:=hb;rw[ae q30];refine(tail _ (by simp only[VZ,V0,V5];omega)).trans ?_;show JR ns (acc++[45]++_)=JR ns (acc++([45]++[]++_));simp only[V7,Wv,List.nil_append]
  by_cases p22:(ad ns ↑i).2.2.2.2.1=22
  ·rw[show opn (ad ns ↑i)=22 from p22];refine Fw ([35]++paren (decide (pwr (ad ns ↑k0)<11)) (E ↑k0 t)) (((iQ ns).and Rj).up fun n ⟨hw,hj⟩ acc hb=> ?_);rw[aH,dT,ak ma,ae p21,ae p19,ak p22];exact pre _ n hw hj acc hb
  have OK:(ad ns ↑i).2.2.2.2.1=20:=by
   have q21:¬ opn (ad ns ↑i)=21:=p21;have Qv:¬ opn (ad ns ↑i)=19:=p19;have q22:¬ opn (ad ns ↑i)=22:=p22;show opn (ad ns ↑i)=20;omega
  rw[show opn (ad ns ↑i)=20 from OK];refine Fw ([126]++paren (decide (pwr (ad ns ↑k0)<11)) (E ↑k0 t)) (((iQ ns).and Rj).up fun n ⟨hw,hj⟩ acc hb=> ?_);rw[aH,dT,ak ma,ae p21,ae p19,ae p22,ak OK];exact pre _ n hw hj acc hb
 by_cases h32:(ad ns ↑i).1=32
 ·have hk:kn (ad ns ↑i)=32:=h32;have hl:=N2 fI hk;have m0:=aG (x:=ad ns ↑i) (j:=0) (by omega);have m1:=aG (x:=ad ns ↑i) (j:=1) (by omega);obtain⟨k0,e0,b0⟩:=gk _ m0;have fB:=hE _ m0;have yy:=hE _ m1;rw[e0]at fB;unfold cS;rw[hk,e0];refine Fw (rG ns E ↑k0 t++[91]++E ((ab (ad ns ↑i)).getD 1 0) t++[93]) ((((iQ ns).and (Ar (show k0<ns.length by omega) fB)).and yy).up fun n ⟨⟨hw,hB⟩,yy⟩ acc hb=> ?_);unfold rG at hb⊢;simp only[VZ,V0,V5]at hb;rw[aH,dT,ae ma,ak h32,ak (by omega),e0,hB _ (by omega),VX];dsimp only;rw[hw _ _ (by simp only[VZ,V0,V5];omega),VX,ak (by omega)];dsimp only;rw[yy _ (by simp only[VZ,V0,V5];omega),VX];dsimp only;rw[hw _ _ (by simp only[VZ,V0,V5];omega),VX];show JR ns _=JR ns _;simp only[V7]
 by_cases h33:(ad ns ↑i).1=33
 ·have hk:kn (ad ns ↑i)=33:=h33;have hl:=NY fI hk;have m0:=aG (x:=ad ns ↑i) (j:=0) (by omega);obtain⟨k0,e0,b0⟩:=gk _ m0;have fB:=hE _ m0;rw[e0]at fB;unfold cS;rw[hk,e0];refine Fw (rG ns E ↑k0 t++([46]++txn (ad ns ↑i))) (((iQ ns).and (Ar (show k0<ns.length by omega) fB)).up fun n ⟨hw,hB⟩ acc hb=> ?_);unfold rG at hb⊢;simp only[VZ,V0,V5]at hb;have mN:fits (1+(ad ns ↑i).2.2.2.2.2.2.1.length)=true:=kj (show 1+(txn (ad ns ↑i)).length≤MX by omega);rw[aH,dT,ae ma,ae h32,ak h33,ak (by omega),e0,hB _ (by omega),VX,aj mN];dsimp only;show(ar (S.tab n) (pst ns (acc++paren (!nu (kn (ad ns ↑k0))) (E ↑k0 t))) ([46]++txn (ad ns ↑i))).bind _=_;rw[hw _ _ (by simp only[VZ,V0,V5];omega),VX];show JR ns _=JR ns _;simp only[V7]
 by_cases ve:(ad ns ↑i).1=34
 ·have hk:kn (ad ns ↑i)=34:=ve;have hl:=NQ fI hk;have m0:=aG (x:=ad ns ↑i) (j:=0) (by omega);obtain⟨k0,e0,b0⟩:=gk _ m0;have fB:=hE _ m0;rw[e0]at fB
  have BN:sub (ab (ad ns ↑i)) 1 ((ab (ad ns ↑i)).length:Int)=(ab (ad ns ↑i)).tail:=by
   show((ab (ad ns ↑i)).take (ab (ad ns ↑i)).length).drop 1=_;rw[List.take_length,List.drop_one]
  have Mb:bounds (ab (ad ns ↑i)).length 1 ((ab (ad ns ↑i)).length:Int)=true:=b9 (i:=1) hl (Wp _);have hL:=rC (ns:=ns) E t (ab (ad ns ↑i)).tail (by simp;omega) (fun k hm=>hE k (List.mem_of_mem_tail hm));unfold cS;rw[hk,e0];refine Fw (rG ns E ↑k0 t++[40]++cy E (ab (ad ns ↑i)).tail t++[41]) ((((iQ ns).and (Ar (show k0<ns.length by omega) fB)).and hL).up fun n ⟨⟨hw,hB⟩,hL⟩ acc hb=> ?_);unfold rG at hb⊢;simp only[VZ,V0,V5]at hb;rw[aH,dT,ae ma,ae h32,ae h33,ak ve,ak (by omega),e0,hB _ (by omega),VX];dsimp only;rw[hw _ _ (by simp only[VZ,V0,V5];omega),VX,aj Mb,BN];dsimp only;rw[hL _ (by simp only[VZ,V0,V5];omega),VX];dsimp only;rw[hw _ _ (by simp only[VZ,V0,V5];omega),VX];show JR ns _=JR ns _;simp only[V7]
 by_cases x7:(ad ns ↑i).1=35
 ·have hk:kn (ad ns ↑i)=35:=x7;have hL:=rC (ns:=ns) E t (ab (ad ns ↑i)) (by omega) hE;unfold cS;rw[hk];refine Fw ([123]++cy E (ab (ad ns ↑i)) t++[125]) (((iQ ns).and hL).up fun n ⟨hw,hL⟩ acc hb=> ?_);simp only[VZ,V0,V5]at hb;rw[aH,dT,ae ma,ae h32,ae h33,ae ve,ak x7,hw _ _ (by simp only[VZ,V0,V5];omega),VX];dsimp only;rw[hL _ (by simp only[VZ,V0,V5];omega),VX];dsimp only;rw[hw _ _ (by simp only[VZ,V0,V5];omega),VX];show JR ns _=JR ns _;simp only[V7]
 by_cases qn:(ad ns ↑i).1=36
 ·have hk:kn (ad ns ↑i)=36:=qn;obtain⟨hl,_⟩:=E9 fI hk;have m0:=aG (x:=ad ns ↑i) (j:=0) (by omega);obtain⟨k0,e0,b0⟩:=gk _ m0;have hB:=M1 hk;rw[e0]at hB;have hF:=Mv cE G hi hk e0 t hB;unfold cS;rw[hk];refine Fw ([102,110]++fnT ns G (ad ns ↑i) t) (((iQ ns).and hF).up fun n ⟨hw,hF⟩ acc hb=> ?_);simp only[VZ,V0,V5]at hb;rw[aH,dT,ae ma,ae h32,ae h33,ae ve,ae x7,ak qn,hw _ _ (by simp only[VZ,V0,V5];omega),VX];dsimp only;rw[hF _ (by simp only[VZ,V0,V5];omega),VX];show JR ns _=JR ns _;simp only[V7]
 by_cases h37:(ad ns ↑i).1=37
 ·have hk:kn (ad ns ↑i)=37:=h37;have hl:=N0 fI hk;have m0:=aG (x:=ad ns ↑i) (j:=0) (by omega);have fB:=hE _ m0;unfold cS;rw[hk];refine Fw ([40]++E ((ab (ad ns ↑i)).getD 0 0) t++[41]) ((qH fB).up fun n hw acc hb=> ?_);rw[aH,dT,ae ma,ae h32,ae h33,ae ve,ae x7,ae qn,ak h37,ak (by omega),hw _ true hb];rfl
 by_cases Cy:(ad ns ↑i).1=40
 ·have hk:kn (ad ns ↑i)=40:=Cy;have hl:=NU fI hk;have m0:=aG (x:=ad ns ↑i) (j:=0) (by omega);have fB:=hE _ m0;unfold cS;rw[hk];refine Fw (E ((ab (ad ns ↑i)).getD 0 0) t) (fB.up fun n hw acc hb=> ?_);rw[aH,dT,ae ma,ae h32,ae h33,ae ve,ae x7,ae qn,ae h37,ak Cy,ak (by omega),hw _ hb];rfl
 by_cases DT:(ad ns ↑i).1=41
 ·have hk:kn (ad ns ↑i)=41:=DT;have hl:=N8 fI hk;have fB:=hE _ (aG (x:=ad ns ↑i) (j:=0) (by omega));have yy:=hE _ (aG (x:=ad ns ↑i) (j:=1) (by omega));unfold cS;rw[hk];refine Fw ([91]++E ((ab (ad ns ↑i)).getD 0 0) t++[93,32,61,32]++E ((ab (ad ns ↑i)).getD 1 0) t) ((((iQ ns).and fB).and yy).up fun n ⟨⟨hw,fB⟩,yy⟩ acc hb=> ?_);simp only[VZ,V0,V5]at hb;rw[aH,dT,ae ma,ae h32,ae h33,ae ve,ae x7,ae qn,ae h37,ae Cy,ak DT,hw _ _ (by simp only[VZ,V0,V5];omega),VX,ak (by omega)];dsimp only;rw[fB _ (by simp only[VZ,V0,V5];omega),VX];dsimp only;rw[hw _ _ (by simp only[VZ,V0,V5];omega),VX,ak (by omega)];dsimp only;rw[yy _ (by simp only[VZ,V0,V5];omega),VX];show JR ns _=JR ns _;simp only[V7]
 by_cases KG:(ad ns ↑i).1=42
 ·have hk:kn (ad ns ↑i)=42:=KG;have hl:=N7 fI hk;have fB:=hE _ (aG (x:=ad ns ↑i) (j:=0) (by omega));unfold cS;rw[hk];refine Fw ([46]++txn (ad ns ↑i)++[32,61,32]++E ((ab (ad ns ↑i)).getD 0 0) t) (((iQ ns).and fB).up fun n ⟨hw,fB⟩ acc hb=> ?_);simp only[VZ,V0,V5]at hb;have f1:fits (1+(ad ns ↑i).2.2.2.2.2.2.1.length)=true:=kj (show 1+(txn (ad ns ↑i)).length≤MX by omega);have f2:fits ((([46]:LI)++(ad ns ↑i).2.2.2.2.2.2.1).length+3)=true:=kj (show(([46]:LI)++txn (ad ns ↑i)).length+3≤MX by simp only[VZ,V0,V5];omega);rw[aH,dT,ae ma,ae h32,ae h33,ae ve,ae x7,ae qn,ae h37,ae Cy,ae DT,ak KG,aj f1,aj f2];show(ar (S.tab n) (pst ns acc) ([46]++txn (ad ns ↑i)++[32,61,32])).bind _=_;rw[hw _ _ (by simp only[VZ,V0,V5];omega),VX,ak (by omega)];dsimp only;rw[fB _ (by simp only[VZ,V0,V5];omega),VX];show JR ns _=JR ns _;simp only[V7]
 ·have e:cS ns E G (ad ns ↑i) t=[]:=by
   unfold cS
   have d:∀c:Int,¬ (ad ns ↑i).1=c→decide (kn (ad ns ↑i)=c)=false:=fun c h=>VW h
   rw[d _ vl,d _ Be,d _ wL,d _ Ba,d _ wO,d _ r8,d _ BO,d _ Gm,d _ lM,d _ nv,d _ nM,d _ ma,d _ h32,d _ h33,d _ ve,d _ x7,d _ qn,d _ h37,d _ Cy,d _ DT,d _ KG];rfl
  rw[e];refine Fw [] (aB.up fun n _ acc _=> ?_);rw[aH,dT,ae ma,ae h32,ae h33,ae ve,ae x7,ae qn,ae h37,ae Cy,ae DT,ae KG,Wv];rfl
end
end Go.Abs.D
end

section
namespace Go.Abs.D
def PC (ns:List Node)(k:Int)(t:Nat)(s:LI):Prop:=Evt fun n=>∀acc:LI,acc.length+s.length≤MX→gX (S.tab n) (pst ns acc) (ad ns k) (t:Int)=some ((),pst ns (acc++s),((),(),(),(),(),(),(),(),(),()),(),())
def PF (ns:List Node)(k:Int)(t:Nat)(s:LI):Prop:=Evt fun n=>∀acc:LI,acc.length+s.length≤MX→iJ (S.tab n) (pst ns acc) k (t:Int)=some ((),pst ns (acc++s),(),(),())
theorem H4 {l:List LI}{c:Nat}(h:∀m∈l,m.length≤c):(l.flatMap fun t=>[44,32]++t).length≤l.length*(c+2):=by
 induction l with
 |nil=>simp
 |cons a r ih=>
  have ih:=ih fun m hm=>h m (Wj _ hm)
  have ha:=h a (Wk ..);rw[WX];simp only[VZ,V0,V5];rw[Nat.succ_mul];omega
theorem zL {l:List LI}{c:Nat}(h:∀m∈l,m.length≤c):(bj l).length≤l.length*(c+2):=by
 cases l with
 |nil=>simp[bj]
 |cons a r=>
  have ha:=h a (Wk ..)
  have:=H4 (l:=r) fun m hm=>h m (Wj _ hm)
  show(a++r.flatMap fun t=>[44,32]++t).length≤_;rw[VZ,V0,Nat.succ_mul];omega
theorem vY {ns:List Node}{i:Nat}{x:Node}(h:okN ns i x=true):(al x).length≤200∧(bj (al x)).length≤8400:=by
 have hb:=(ik h).1;have:=zL hb.2.2;have h2:=hb.2.1;refine⟨h2,Nat.le_trans this ?_⟩;have:(al x).length*(40+2)≤200*(40+2):=Nat.mul_le_mul_right _ h2;omega
section
variable{ns:List Node}(cE:∀i:Nat,i<ns.length→okN ns i (ad ns (i:Int))=true)
include cE
theorem FB {i:Nat}(hi:i<ns.length)(hk:kn (ad ns (i:Int))=7){t:Nat}{E G:Int→Nat→LI}(hE:∀k∈ab (ad ns (i:Int)),PE ns k t (E k t))(hB:∀k∈ab (ad ns (i:Int)),PB ns k t (bA ns G k t))
  (hC:∀k∈ab (ad ns (i:Int)),kn (ad ns k)=7→PC ns k t (G k t)) (gk:∀k∈ab (ad ns (i:Int)),∃j:Nat,k=(j:Int)∧j<i):PC ns ↑i t (ifT ns E G (ad ns ↑i) t):=by
 obtain⟨hl,_,_⟩:=sh7 (cE i hi) hk;have m0:=aG (x:=ad ns ↑i) (j:=0) (by omega);have m1:=aG (x:=ad ns ↑i) (j:=1) (by omega);have qo:(ad ns ↑i).2.2.2.2.2.2.2.2.1=ab (ad ns ↑i):=rfl
 by_cases h3:(ab (ad ns ↑i)).length=3
 ·have m2:=aG (x:=ad ns ↑i) (j:=2) (by omega);obtain⟨k2,e2,b2⟩:=gk _ m2
  have RD:∀acc,at_ (τ:=aa) (pst ns acc).1.1 (k2:Int)=ad ns ↑k2:=fun _=>rfl
  have QU:∀acc,(decide ((0:Int)≤(k2:Int))&&decide ((k2:Int)<((pst ns acc).1.1.length:Int)))=true:=kV (by omega);have Q6:=hC _ m2;have Qt:=hB _ m2;rw[e2]at Q6 Qt;unfold ifT;rw[VY h3,e2];dsimp only
  by_cases h7:(ad ns ↑k2).1=7
  ·have Io:kn (ad ns ↑k2)=7:=h7;rw[Io];show PC ns ↑i t ([105,102,32]++E ((ab (ad ns ↑i)).getD 0 0) t++[32]++bA ns G ((ab (ad ns ↑i)).getD 1 0) t++([32,101,108]++G ↑k2 t))
   refine((((iQ ns).and (hE _ m0)).and (hB _ m1)).and (Q6 Io)).up fun n ⟨⟨⟨hw,h0⟩,h1⟩,h2⟩ acc hb=> ?_
   simp only[VZ,V0,V5]at hb;rw[iu,qo,hw _ _ (by simp only[V0,V5];omega),VX,ak (by omega)];dsimp only;rw[h0 _ (by simp only[VZ,V0,V5];omega),VX];dsimp only;rw[hw _ _ (by simp only[VZ,V0,V5];omega),VX,ak (by omega)];dsimp only;rw[h1 _ (by simp only[VZ,V0,V5];omega),VX,ak (by omega),ak (by omega),e2];dsimp only;rw[aj (QU _),RD,ak h7,hw _ _ (by simp only[VZ,V0,V5];omega),VX];dsimp only;rw[h2 _ (by simp only[VZ,V0,V5];omega),VX];simp only[V7]
  ·have Io:¬ kn (ad ns ↑k2)=7:=h7;rw[VW Io];show PC ns ↑i t ([105,102,32]++E ((ab (ad ns ↑i)).getD 0 0) t++[32]++bA ns G ((ab (ad ns ↑i)).getD 1 0) t++([32,101,108,115,101,32]++bA ns G ↑k2 t))
   refine((((iQ ns).and (hE _ m0)).and (hB _ m1)).and Qt).up fun n ⟨⟨⟨hw,h0⟩,h1⟩,h2⟩ acc hb=> ?_
   simp only[VZ,V0,V5]at hb;rw[iu,qo,hw _ _ (by simp only[V0,V5];omega),VX,ak (by omega)];dsimp only;rw[h0 _ (by simp only[VZ,V0,V5];omega),VX];dsimp only;rw[hw _ _ (by simp only[VZ,V0,V5];omega),VX,ak (by omega)];dsimp only;rw[h1 _ (by simp only[VZ,V0,V5];omega),VX,ak (by omega),ak (by omega),e2];dsimp only;rw[aj (QU _),RD,ae h7,hw _ _ (by simp only[VZ,V0,V5];omega),VX,ak (by omega)];dsimp only;rw[h2 _ (by simp only[VZ,V0,V5];omega),VX];simp only[V7]
 ·unfold ifT;rw[VW h3];show PC ns ↑i t ([105,102,32]++E ((ab (ad ns ↑i)).getD 0 0) t++[32]++bA ns G ((ab (ad ns ↑i)).getD 1 0) t++[]);rw[Wv]
  refine(((iQ ns).and (hE _ m0)).and (hB _ m1)).up fun n ⟨⟨hw,h0⟩,h1⟩ acc hb=> ?_
  simp only[VZ,V0,V5]at hb;rw[iu,qo,hw _ _ (by simp only[V0,V5];omega),VX,ak (by omega)];dsimp only;rw[h0 _ (by simp only[VZ,V0,V5];omega),VX];dsimp only;rw[hw _ _ (by simp only[VZ,V0,V5];omega),VX,ak (by omega)];dsimp only;rw[h1 _ (by simp only[VZ,V0,V5];omega),VX,ae (by omega)];simp only[V7]
theorem Ji {i:Nat}(hi:i<ns.length){t:Nat}{E G:Int→Nat→LI}(hE:∀k∈ab (ad ns (i:Int)),PE ns k t (E k t))(hB:∀k∈ab (ad ns (i:Int)),PB ns k t (bA ns G k t))
  (Q0:PB ns (i:Int) t (bA ns G (i:Int) t)) (hF:∀k∈ab (ad ns (i:Int)),kn (ad ns k)=36→PF ns k t (fnT ns G (ad ns k) t))
  (hC:kn (ad ns (i:Int))=7→PC ns (i:Int) t (ifT ns E G (ad ns (i:Int)) t)) (gk:∀k∈ab (ad ns (i:Int)),∃j:Nat,k=(j:Int)∧j<i):
  PS ns ↑i t (cY ns E G (ad ns ↑i) ↑i t):=by
 have fI:=cE i hi;have Ht:=(ik fI).2.1;obtain⟨Bg,yT⟩:=vY fI;have hj:Lx.s9 (al (ad ns ↑i),([44,32]:LI),())=some (bj (al (ad ns ↑i)),(),(),()):=EG _ (by unfold MX;omega) (by unfold MX;omega)
 have hx:∀acc,at_ (τ:=aa) (pst ns acc).1.1 (i:Int)=ad ns ↑i:=fun _=>rfl
 have qo:(ad ns ↑i).2.2.2.2.2.2.2.2.1=ab (ad ns ↑i):=rfl;have Gv:(ad ns ↑i).2.2.2.2.2.2.2.1=al (ad ns ↑i):=rfl
 by_cases h1:(ad ns ↑i).1=1
 ·have hk:kn (ad ns ↑i)=1:=h1;unfold cY;rw[hk];show PS ns ↑i t (bA ns G ↑i t)
  refine Q0.up fun n h acc hb=> ?_
  rw[bd,hx,Gv,aj (kV hi acc),hj,VX];dsimp only;rw[ak h1,h _ hb];rfl
 by_cases h2:(ad ns ↑i).1=2
 ·have hk:kn (ad ns ↑i)=2:=h2;have hL:=rC (ns:=ns) E t (ab (ad ns ↑i)) (by omega) hE;unfold cY;rw[hk];show PS ns ↑i t ([108,101,116,32]++bj (al (ad ns ↑i))++(bif(ab (ad ns ↑i)).isEmpty then []else [32,61,32]++cy E (ab (ad ns ↑i)) t))
  refine((iQ ns).and hL).up fun n ⟨hw,hL⟩ acc hb=> ?_
  rw[bd,hx,Gv,qo,aj (kV hi acc),hj,VX];dsimp only;rw[ae h1,ak h2,aj (kj (by unfold MX;omega))]
  by_cases h0:ab (ad ns ↑i)=[]
  ·rw[h0]at hb⊢;have hb:acc.length+([108,101,116,32]++bj (al (ad ns ↑i))++[]:LI).length≤MX:=hb;rw[Wv]at hb;rw[hw _ _ hb,VX,ay (by rfl)];show _=some ((),pst ns (acc++([108,101,116,32]++bj (al (ad ns ↑i))++[])),(),(),());rw[Wv]
  ·have nL:(ab (ad ns ↑i)).isEmpty=false:=(by simpa using h0);have On:(ab (ad ns ↑i)).length≠0:=(by simpa using h0);rw[nL,Wb]at hb⊢;simp only[VZ,V0,V5]at hb;rw[hw _ _ (by simp only[VZ,V0,V5];omega),VX,ak (by omega)];dsimp only;rw[hw _ _ (by simp only[VZ,V0,V5];omega),VX];dsimp only;rw[hL _ (by simp only[VZ,V0,V5];omega),VX];simp only[V7]
 by_cases h3:(ad ns ↑i).1=3
 ·have hk:kn (ad ns ↑i)=3:=h3;obtain⟨hl,_⟩:=sh3 fI hk;have fB:=hE _ (aG (x:=ad ns ↑i) (j:=0) (by omega));unfold cY;rw[hk];show PS ns ↑i t ([99,111,110,115,116,32]++bj (al (ad ns ↑i))++[32,61,32]++E ((ab (ad ns ↑i)).getD 0 0) t)
  refine((iQ ns).and fB).up fun n ⟨hw,fB⟩ acc hb=> ?_
  simp only[VZ,V0,V5]at hb;rw[bd,hx,Gv,qo,aj (kV hi acc),hj,VX];dsimp only;rw[ae h1,ae h2,ak h3,aj (kj (by unfold MX;omega)),aj (kj (by simp only[VZ,V0,V5];unfold MX;omega)),hw _ _ (by simp only[VZ,V0,V5];omega),VX,ak (by omega)];dsimp only;rw[fB _ (by simp only[VZ,V0,V5];omega),VX];simp only[V7]
 by_cases h4:(ad ns ↑i).1=4
 ·have hk:kn (ad ns ↑i)=4:=h4;obtain⟨hl,_,qn⟩:=sh4 fI hk;have Mi:=hF _ (aG (x:=ad ns ↑i) (j:=0) (by omega)) qn;unfold cY;rw[hk];show PS ns ↑i t ([102,110,32]++bj (al (ad ns ↑i))++fnT ns G (ad ns ((ab (ad ns ↑i)).getD 0 0)) t)
  refine((iQ ns).and Mi).up fun n ⟨hw,Mi⟩ acc hb=> ?_
  simp only[VZ,V0,V5]at hb;rw[bd,hx,Gv,qo,aj (kV hi acc),hj,VX];dsimp only;rw[ae h1,ae h2,ae h3,ak h4,aj (kj (by unfold MX;omega)),hw _ _ (by simp only[VZ,V0,V5];omega),VX,ak (by omega)];dsimp only;rw[Mi _ (by simp only[VZ,V0,V5];omega),VX];simp only[V7]
 by_cases h5:(ad ns ↑i).1=5
 ·have hk:kn (ad ns ↑i)=5:=h5;obtain⟨n1,n2⟩:=sh5 fI hk;obtain⟨m,hm⟩:∃m:Nat,kW (ad ns ↑i)=(m:Int):=⟨(kW (ad ns ↑i)).toNat,by omega⟩;have MM:(ad ns ↑i).2.2.2.2.2.1=(m:Int):=hm;have OB:=rC (ns:=ns) E t ((ab (ad ns ↑i)).take m) (by simp;omega) (fun k h=>hE k (List.mem_of_mem_take h));have Mc:=rC (ns:=ns) E t ((ab (ad ns ↑i)).drop m) (by simp;omega) (fun k h=>hE k (List.mem_of_mem_drop h));have MZ:sub (ab (ad ns ↑i)) 0 (m:Int)=(ab (ad ns ↑i)).take m:=rfl
  have Tu:sub (ab (ad ns ↑i)) ↑m ((ab (ad ns ↑i)).length:Int)=(ab (ad ns ↑i)).drop m:=by
   show((ab (ad ns ↑i)).take (ab (ad ns ↑i)).length).drop m=_;rw[List.take_length]
  have It:bounds (ab (ad ns ↑i)).length 0 (m:Int)=true:=b9 (i:=0) (WQ _) (by omega);have Bi:bounds (ab (ad ns ↑i)).length ↑m ((ab (ad ns ↑i)).length:Int)=true:=b9 (by omega) (Wp _);unfold cY;rw[hk,hm];show PS ns ↑i t (cy E ((ab (ad ns ↑i)).take m) t++[32,61,32]++cy E ((ab (ad ns ↑i)).drop m) t)
  refine(((iQ ns).and OB).and Mc).up fun n ⟨⟨hw,OB⟩,Mc⟩ acc hb=> ?_
  simp only[VZ,V0,V5]at hb;rw[bd,hx,Gv,qo,MM,aj (kV hi acc),hj,VX];dsimp only;rw[ae h1,ae h2,ae h3,ae h4,ak h5,aj It,MZ,OB _ (by omega),VX];dsimp only;rw[hw _ _ (by simp only[VZ,V0,V5];omega),VX,aj Bi,Tu];dsimp only;rw[Mc _ (by simp only[VZ,V0,V5];omega),VX];simp only[V7]
 by_cases h6:(ad ns ↑i).1=6
 ·have hk:kn (ad ns ↑i)=6:=h6;have hl:=sh6 fI hk;have fB:=hE _ (aG (x:=ad ns ↑i) (j:=0) (by omega));unfold cY;rw[hk];show PS ns ↑i t (E ((ab (ad ns ↑i)).getD 0 0) t)
  refine fB.up fun n fB acc hb=> ?_
  rw[bd,hx,Gv,qo,aj (kV hi acc),hj,VX];dsimp only;rw[ae h1,ae h2,ae h3,ae h4,ae h5,ak h6,ak (by omega),fB _ hb];rfl
 by_cases wR:(ad ns ↑i).1=16
 ·have hk:kn (ad ns ↑i)=16:=wR;have hl:=N3 fI hk;have fB:=hE _ (aG (x:=ad ns ↑i) (j:=0) (by omega));unfold cY;rw[hk];show PS ns ↑i t ([100,101,102,101,114,32]++E ((ab (ad ns ↑i)).getD 0 0) t)
  refine((iQ ns).and fB).up fun n ⟨hw,fB⟩ acc hb=> ?_
  simp only[VZ,V0,V5]at hb;rw[bd,hx,Gv,qo,aj (kV hi acc),hj,VX];dsimp only;rw[ae h1,ae h2,ae h3,ae h4,ae h5,ae h6,ak wR,hw _ _ (by simp only[VZ,V0,V5];omega),VX,ak (by omega)];dsimp only;rw[fB _ (by simp only[VZ,V0,V5];omega),VX];simp only[V7]
 by_cases h7:(ad ns ↑i).1=7
 ·have hk:kn (ad ns ↑i)=7:=h7;have hC:=hC hk;unfold cY;rw[hk];show PS ns ↑i t (ifT ns E G (ad ns ↑i) t)
  refine hC.up fun n hC acc hb=> ?_
  rw[bd,hx,Gv,qo,aj (kV hi acc),hj,VX];dsimp only;rw[ae h1,ae h2,ae h3,ae h4,ae h5,ae h6,ae wR,ak h7,hC _ hb];rfl
 by_cases h8:(ad ns ↑i).1=8
 ·have hk:kn (ad ns ↑i)=8:=h8;have hl:=sh8 fI hk;have fB:=hE _ (aG (x:=ad ns ↑i) (j:=0) (by omega));have wT:=hB _ (aG (x:=ad ns ↑i) (j:=1) (by omega));unfold cY;rw[hk];show PS ns ↑i t ([119,104,105,108,101,32]++E ((ab (ad ns ↑i)).getD 0 0) t++[32]++bA ns G ((ab (ad ns ↑i)).getD 1 0) t)
  refine(((iQ ns).and fB).and wT).up fun n ⟨⟨hw,fB⟩,wT⟩ acc hb=> ?_
  simp only[VZ,V0,V5]at hb;rw[bd,hx,Gv,qo,aj (kV hi acc),hj,VX];dsimp only;rw[ae h1,ae h2,ae h3,ae h4,ae h5,ae h6,ae wR,ae h7,ak h8,hw _ _ (by simp only[VZ,V0,V5];omega),VX,ak (by omega)];dsimp only;rw[fB _ (by simp only[VZ,V0,V5];omega),VX];dsimp only;rw[hw _ _ (by simp only[VZ,V0,V5];omega),VX,ak (by omega)];dsimp only;rw[wT _ (by simp only[VZ,V0,V5];omega),VX];simp only[V7]
 by_cases h9:(ad ns ↑i).1=9
 ·have hk:kn (ad ns ↑i)=9:=h9;have hl:=sh9 fI hk;have SV:=hB _ (aG (x:=ad ns ↑i) (j:=(ab (ad ns ↑i)).length - 1) (by omega));have hL:=rC (ns:=ns) E t (ab (ad ns ↑i)).dropLast (by simp;omega) (fun k h=>hE k (List.dropLast_subset _ h))
  have QP:i64.wrap (((ab (ad ns ↑i)).length:Int) - 1)=(((ab (ad ns ↑i)).length - 1:Nat):Int):=by rw[wrap64 _ (by omega) (by omega)];omega
  have MZ:sub (ab (ad ns ↑i)) 0 (((ab (ad ns ↑i)).length - 1:Nat):Int)=(ab (ad ns ↑i)).dropLast:=by
   show((ab (ad ns ↑i)).take ((ab (ad ns ↑i)).length - 1)).drop 0=_;rw[List.drop_zero,List.dropLast_eq_take]
  have It:bounds (ab (ad ns ↑i)).length 0 (((ab (ad ns ↑i)).length - 1:Nat):Int)=true:=b9 (i:=0) (WQ _) (by omega);unfold cY;rw[hk];show PS ns ↑i t ([102,111,114,32]++bj (al (ad ns ↑i))++[32,61,32]++cy E (ab (ad ns ↑i)).dropLast t++[32]++bA ns G ((ab (ad ns ↑i)).getD ((ab (ad ns ↑i)).length - 1) 0) t)
  refine(((iQ ns).and hL).and SV).up fun n ⟨⟨hw,hL⟩,SV⟩ acc hb=> ?_
  simp only[VZ,V0,V5]at hb;rw[bd,hx,Gv,qo,QP,aj (kV hi acc),hj,VX];dsimp only;rw[ae h1,ae h2,ae h3,ae h4,ae h5,ae h6,ae wR,ae h7,ae h8,ak h9,aj (kj (by unfold MX;omega)),aj (kj (by simp only[VZ,V0,V5];unfold MX;omega)),hw _ _ (by simp only[VZ,V0,V5];omega),VX,aj It,MZ];dsimp only;rw[hL _ (by simp only[VZ,V0,V5];omega),VX];dsimp only;rw[hw _ _ (by simp only[VZ,V0,V5];omega),VX,aj (av (by omega)),Int.toNat_natCast];dsimp only;rw[SV _ (by simp only[VZ,V0,V5];omega),VX];simp only[V7]
 by_cases tF:(ad ns ↑i).1=10
 ·have hk:kn (ad ns ↑i)=10:=tF;have hl:=NX fI hk;have fB:=hE _ (aG (x:=ad ns ↑i) (j:=0) (by omega));have wT:=hB _ (aG (x:=ad ns ↑i) (j:=1) (by omega));unfold cY;rw[hk];show PS ns ↑i t ([102,111,114,32]++bj (al (ad ns ↑i))++[32,105,110,32]++E ((ab (ad ns ↑i)).getD 0 0) t++[32]++bA ns G ((ab (ad ns ↑i)).getD 1 0) t)
  refine(((iQ ns).and fB).and wT).up fun n ⟨⟨hw,fB⟩,wT⟩ acc hb=> ?_
  simp only[VZ,V0,V5]at hb;rw[bd,hx,Gv,qo,aj (kV hi acc),hj,VX];dsimp only;rw[ae h1,ae h2,ae h3,ae h4,ae h5,ae h6,ae wR,ae h7,ae h8,ae h9,ak tF,aj (kj (by unfold MX;omega)),aj (kj (by simp only[VZ,V0,V5];unfold MX;omega)),hw _ _ (by simp only[VZ,V0,V5];omega),VX,ak (by omega)];dsimp only;rw[fB _ (by simp only[VZ,V0,V5];omega),VX];dsimp only;rw[hw _ _ (by simp only[VZ,V0,V5];omega),VX,ak (by omega)];dsimp only;rw[wT _ (by simp only[VZ,V0,V5];omega),VX];simp only[V7]
 have chain:∀(n:Nat) (acc:LI),fw (S.step (S.tab n)) (pst ns acc) ↑i (t:Int)=_:=fun n acc=>by
  rw[bd,hx,Gv,qo,aj (kV hi acc),hj,VX,ae h1,ae h2,ae h3,ae h4,ae h5,ae h6,ae wR,ae h7,ae h8,ae h9,ae tF]
 by_cases nQ:(ad ns ↑i).1=11
 ·have hk:kn (ad ns ↑i)=11:=nQ;unfold cY;rw[hk];show PS ns ↑i t [98,114,101,97,107]
  refine(iQ ns).up fun n hw acc hb=> ?_
  rw[chain];dsimp only;rw[ak nQ,hw _ _ hb];rfl
 by_cases qU:(ad ns ↑i).1=12
 ·have hk:kn (ad ns ↑i)=12:=qU;unfold cY;rw[hk];show PS ns ↑i t [110,101,120,116]
  refine(iQ ns).up fun n hw acc hb=> ?_
  rw[chain];dsimp only;rw[ae nQ,ak qU,hw _ _ hb];rfl
 by_cases rH:(ad ns ↑i).1=13
 ·have hk:kn (ad ns ↑i)=13:=rH;have hL:=rC (ns:=ns) E t (ab (ad ns ↑i)) (by omega) hE;unfold cY;rw[hk];show PS ns ↑i t ([114,101,116,117,114,110]++(bif(ab (ad ns ↑i)).isEmpty then []else [32]++cy E (ab (ad ns ↑i)) t))
  refine((iQ ns).and hL).up fun n ⟨hw,hL⟩ acc hb=> ?_
  rw[chain];dsimp only;rw[ae nQ,ae qU,ak rH]
  by_cases h0:ab (ad ns ↑i)=[]
  ·rw[h0]at hb⊢;have hb:acc.length+([114,101,116,117,114,110]++[]:LI).length≤MX:=hb;rw[Wv]at hb;rw[hw _ _ hb,VX,ay (by rfl)];show _=some ((),pst ns (acc++([114,101,116,117,114,110]++[])),(),(),());rw[Wv]
  ·have nL:(ab (ad ns ↑i)).isEmpty=false:=(by simpa using h0);have On:(ab (ad ns ↑i)).length≠0:=(by simpa using h0);rw[nL,Wb]at hb⊢;simp only[VZ,V0,V5]at hb;rw[hw _ _ (by simp only[VZ,V0,V5];omega),VX,ak (by omega)];dsimp only;rw[hw _ _ (by simp only[VZ,V0,V5];omega),VX];dsimp only;rw[hL _ (by simp only[VZ,V0,V5];omega),VX];simp only[V7]
 by_cases wQ:(ad ns ↑i).1=14
 ·have hk:kn (ad ns ↑i)=14:=wQ;have hl:=NV fI hk;have OM:=hB _ (aG (x:=ad ns ↑i) (j:=0) (by omega));have wT:=hB _ (aG (x:=ad ns ↑i) (j:=1) (by omega));unfold cY;rw[hk];show PS ns ↑i t ([116,114,121,32]++bA ns G ((ab (ad ns ↑i)).getD 0 0) t++([32,99,97,116,99,104,32]++bj (al (ad ns ↑i))++[32])++bA ns G ((ab (ad ns ↑i)).getD 1 0) t)
  refine(((iQ ns).and OM).and wT).up fun n ⟨⟨hw,OM⟩,wT⟩ acc hb=> ?_
  simp only[VZ,V0,V5]at hb;rw[chain];dsimp only;rw[ae nQ,ae qU,ae rH,ak wQ,hw _ _ (by simp only[VZ,V0,V5];omega),VX,ak (by omega)];dsimp only;rw[OM _ (by simp only[VZ,V0,V5];omega),VX,aj (kj (by unfold MX;omega)),aj (kj (by simp only[VZ,V0,V5];unfold MX;omega))];dsimp only;rw[hw _ _ (by simp only[VZ,V0,V5];omega),VX,ak (by omega)];dsimp only;rw[wT _ (by simp only[VZ,V0,V5];omega),VX];simp only[V7]
 by_cases Cz:(ad ns ↑i).1=15
 ·have hk:kn (ad ns ↑i)=15:=Cz;have hl:=NO fI hk;have fB:=hE _ (aG (x:=ad ns ↑i) (j:=0) (by omega));unfold cY;rw[hk];show PS ns ↑i t ([116,104,114,111,119,32]++E ((ab (ad ns ↑i)).getD 0 0) t)
  refine((iQ ns).and fB).up fun n ⟨hw,fB⟩ acc hb=> ?_
  simp only[VZ,V0,V5]at hb;rw[chain];dsimp only;rw[ae nQ,ae qU,ae rH,ae wQ,ak Cz,hw _ _ (by simp only[VZ,V0,V5];omega),VX,ak (by omega)];dsimp only;rw[fB _ (by simp only[VZ,V0,V5];omega),VX];simp only[V7]
 ·have e:cY ns E G (ad ns ↑i) ↑i t=[]:=by
   unfold cY
   have d:∀c:Int,¬ (ad ns ↑i).1=c→decide (kn (ad ns ↑i)=c)=false:=fun c h=>VW h
   rw[d _ h1,d _ h2,d _ h3,d _ h4,d _ h5,d _ h6,d _ wR,d _ h7,d _ h8,d _ h9,d _ tF,d _ nQ,d _ qU,d _ rH,d _ wQ,d _ Cz];rfl
  rw[e]
  refine aB.up fun n _ acc _=> ?_
  rw[chain];dsimp only;rw[ae nQ,ae qU,ae rH,ae wQ,ae Cz,Wv]
end
end Go.Abs.D
end

section
namespace Go.Abs.D
theorem lK {ks:LI}{a b:Nat}(h:EX ks a b=true){j:Nat}(h1:a≤j)(h2:j<b)(h3:j<ks.length):ks.getD j 0<40:=by
 unfold EX at h
 have hm:ks.getD j 0∈bB ks a b:=by
  unfold bB;rw[Wm,Wl h3];show ks[j]∈_;rw[List.mem_iff_getElem];refine⟨j - a,by simp;omega, ?_⟩;simp only[List.getElem_drop,List.getElem_take]
  congr 1
  omega
 have:=List.all_eq_true.1 h _ hm;unfold fG at this;simp only[V6,V4]at this;omega
theorem Pp {ks:LI}{b:Nat}(h:(bB ks 0 b).all dc=true){j:Nat}(h2:j<b)(h3:j<ks.length):ks.getD j 0<40:=by
 have hm:ks.getD j 0∈bB ks 0 b:=by
  unfold bB;rw[Wm,Wl h3,List.drop_zero];show ks[j]∈_;rw[List.mem_iff_getElem];exact⟨j,by simp;omega,by simp only[List.getElem_take]⟩
 have:=List.all_eq_true.1 h _ hm;unfold dc at this;simp only[WH,V4]at this;omega
section
variable{ns:List Node}{i:Nat}{x:Node}(h:okN ns i x=true)
include h
theorem en2 (hk:kn x=2):∀j:Nat,j<(ab x).length→kn (ad ns ((ab x).getD j 0))<40:=by
 have h':=bM h;rw[show x.1=2 from hk]at h';have h':(PL true false false false ((al x).length:Int) x.2.2.2.2.1 x.2.2.2.2.2.1 x.2.2.2.2.2.2.1&&(NM (al x) 1 200&&EX (af ns x) 0 (af ns x).length))=true:=h';simp only[V6,WH,V4,aZ]at h';obtain⟨_,_,e⟩:=h';intro j hj;rw[←iq hj];exact lK e (WQ _) (by omega) (by rw[aZ];exact hj)
theorem en3 (hk:kn x=3):∀j:Nat,j<(ab x).length→kn (ad ns ((ab x).getD j 0))<40:=by
 have h':=bM h;rw[show x.1=3 from hk]at h';have h':(PL true false false false ((al x).length:Int) x.2.2.2.2.1 x.2.2.2.2.2.1 x.2.2.2.2.2.2.1&&(NM (al x) 1 1&&(decide (((af ns x).length:Int)=1)&&EX (af ns x) 0 1)))=true:=h';simp only[V6,WH,V4,aZ]at h';obtain⟨_,_,_,e⟩:=h';intro j hj;rw[←iq hj];exact lK e (WQ _) (by omega) (by rw[aZ];exact hj)
theorem en5 (hk:kn x=5):∀j:Nat,j<(ab x).length→kn (ad ns ((ab x).getD j 0))<40:=by
 have h':=bM h;rw[show x.1=5 from hk]at h';have h':(PL false false true false ((al x).length:Int) x.2.2.2.2.1 x.2.2.2.2.2.1 x.2.2.2.2.2.2.1&&(decide (1≤x.2.2.2.2.2.1)&&(decide (x.2.2.2.2.2.1<((af ns x).length:Int))&&((bB (af ns x) 0 (x.2.2.2.2.2.1).toNat).all dc&&EX (af ns x) (x.2.2.2.2.2.1).toNat (af ns x).length))))=true:=h';simp only[V6,WH,V4,aZ]at h';obtain⟨_,a1,a2,e1,e2⟩:=h';intro j hj;rw[←iq hj]
 by_cases c:j<(x.2.2.2.2.2.1).toNat
 ·exact Pp e1 c (by rw[aZ];exact hj)
 ·exact lK e2 (Nat.le_of_not_lt c) (by omega) (by rw[aZ];exact hj)
theorem en6 (hk:kn x=6):∀j:Nat,j<(ab x).length→kn (ad ns ((ab x).getD j 0))<40:=by
 have h':=bM h;rw[show x.1=6 from hk]at h';have h':(PL false false false false ((al x).length:Int) x.2.2.2.2.1 x.2.2.2.2.2.1 x.2.2.2.2.2.2.1&&(decide (((af ns x).length:Int)=1)&&(decide ((af ns x).getD 0 0=34))))=true:=h';simp only[V6,WH,V4,aZ]at h';obtain⟨_,_,e⟩:=h';intro j hj;rw[←iq hj,show j=0 by omega,e]
 decide
theorem RL (hk:kn x=16):∀j:Nat,j<(ab x).length→kn (ad ns ((ab x).getD j 0))<40:=by
 have h':=bM h;rw[show x.1=16 from hk]at h';have h':(PL false false false false ((al x).length:Int) x.2.2.2.2.1 x.2.2.2.2.2.1 x.2.2.2.2.2.2.1&&(decide (((af ns x).length:Int)=1)&&(decide ((af ns x).getD 0 0=34))))=true:=h';simp only[V6,WH,V4,aZ]at h';obtain⟨_,_,e⟩:=h';intro j hj;rw[←iq hj,show j=0 by omega,e]
 decide
theorem Sd (hk:kn x=15):∀j:Nat,j<(ab x).length→kn (ad ns ((ab x).getD j 0))<40:=by
 have h':=bM h;rw[show x.1=15 from hk]at h';have h':(PL false false false false ((al x).length:Int) x.2.2.2.2.1 x.2.2.2.2.2.1 x.2.2.2.2.2.2.1&&(decide (((af ns x).length:Int)=1)&&EX (af ns x) 0 1))=true:=h';simp only[V6,WH,V4,aZ]at h';obtain⟨_,_,e⟩:=h';intro j hj;rw[←iq hj];exact lK e (WQ _) (by omega) (by rw[aZ];exact hj)
theorem en7 (hk:kn x=7):0<(ab x).length→kn (ad ns ((ab x).getD 0 0))<40:=by
 have h':=bM h;rw[show x.1=7 from hk]at h';have h':(PL false false false false ((al x).length:Int) x.2.2.2.2.1 x.2.2.2.2.2.1 x.2.2.2.2.2.2.1&&(!decide (((af ns x).length:Int)<2)&&(!decide ((3:Int)<((af ns x).length:Int))&&(EX (af ns x) 0 1&&(decide ((af ns x).getD 1 0=1)&&((decide (((af ns x).length:Int)=2)||(decide ((af ns x).getD 2 0=1)||decide ((af ns x).getD 2 0=7)))))))))=true:=h';simp only[V6,WH,V4,aZ]at h';obtain⟨_,_,_,e,_,_⟩:=h';intro hj;rw[←iq hj];exact lK e (WQ _) (by omega) (by rw[aZ];exact hj)
theorem en8 (hk:kn x=8):0<(ab x).length→kn (ad ns ((ab x).getD 0 0))<40:=by
 have h':=bM h;rw[show x.1=8 from hk]at h';have h':(PL false false false false ((al x).length:Int) x.2.2.2.2.1 x.2.2.2.2.2.1 x.2.2.2.2.2.2.1&&(decide (((af ns x).length:Int)=2)&&(EX (af ns x) 0 1&&(decide ((af ns x).getD 1 0=1)))))=true:=h';simp only[V6,WH,V4,aZ]at h';obtain⟨_,_,e,_⟩:=h';intro hj;rw[←iq hj];exact lK e (WQ _) (by omega) (by rw[aZ];exact hj)
theorem en9 (hk:kn x=9):∀j:Nat,j<(ab x).length - 1→kn (ad ns ((ab x).getD j 0))<40:=by
 have h':=bM h;rw[show x.1=9 from hk]at h';have h':(PL true false false false ((al x).length:Int) x.2.2.2.2.1 x.2.2.2.2.2.1 x.2.2.2.2.2.2.1&&(NM (al x) 1 1&&((decide (((af ns x).length:Int)=3)||decide (((af ns x).length:Int)=4))&&(EX (af ns x) 0 ((af ns x).length - 1)&&(decide ((af ns x).getD ((af ns x).length - 1) 0=1))))))=true:=h';simp only[V6,WH,V4,aZ]at h';obtain⟨_,_,_,e,_⟩:=h';intro j hj;rw[←iq (by omega)];exact lK e (WQ _) (by omega) (by rw[aZ];omega)
theorem RH (hk:kn x=10):0<(ab x).length→kn (ad ns ((ab x).getD 0 0))<40:=by
 have h':=bM h;rw[show x.1=10 from hk]at h';have h':(PL true false false false ((al x).length:Int) x.2.2.2.2.1 x.2.2.2.2.2.1 x.2.2.2.2.2.2.1&&(NM (al x) 1 200&&(decide (((af ns x).length:Int)=2)&&(EX (af ns x) 0 1&&(decide ((af ns x).getD 1 0=1))))))=true:=h';simp only[V6,WH,V4,aZ]at h';obtain⟨_,_,_,e,_⟩:=h';intro hj;rw[←iq hj];exact lK e (WQ _) (by omega) (by rw[aZ];exact hj)
theorem RM (hk:kn x=13):∀j:Nat,j<(ab x).length→kn (ad ns ((ab x).getD j 0))<40:=by
 have h':=bM h;rw[show x.1=13 from hk]at h';have h':(PL false false false false ((al x).length:Int) x.2.2.2.2.1 x.2.2.2.2.2.1 x.2.2.2.2.2.2.1&&(EX (af ns x) 0 (af ns x).length))=true:=h';simp only[V6,WH,V4,aZ]at h';obtain⟨_,e⟩:=h';intro j hj;rw[←iq hj];exact lK e (WQ _) (by omega) (by rw[aZ];exact hj)
theorem RR (hk:kn x=28):∀j:Nat,j<(ab x).length→kn (ad ns ((ab x).getD j 0))<40:=by
 have h':=bM h;rw[show x.1=28 from hk]at h';have h':(decide (((af ns x).length:Int)=2)&&(EX (af ns x) 0 2&&(PL false false false false ((al x).length:Int) x.2.2.2.2.1 x.2.2.2.2.2.1 x.2.2.2.2.2.2.1)))=true:=h';simp only[V6,WH,V4,aZ]at h';obtain⟨_,e,_⟩:=h';intro j hj;rw[←iq hj];exact lK e (WQ _) (by omega) (by rw[aZ];exact hj)
theorem RO (hk:kn x=29):∀j:Nat,j<(ab x).length→kn (ad ns ((ab x).getD j 0))<40:=by
 have h':=bM h;rw[show x.1=29 from hk]at h';have h':(decide (((af ns x).length:Int)=2)&&(EX (af ns x) 0 2&&(PL false false false false ((al x).length:Int) x.2.2.2.2.1 x.2.2.2.2.2.1 x.2.2.2.2.2.2.1)))=true:=h';simp only[V6,WH,V4,aZ]at h';obtain⟨_,e,_⟩:=h';intro j hj;rw[←iq hj];exact lK e (WQ _) (by omega) (by rw[aZ];exact hj)
theorem RY (hk:kn x=30):∀j:Nat,j<(ab x).length→kn (ad ns ((ab x).getD j 0))<40:=by
 have h':=bM h;rw[show x.1=30 from hk]at h';have h':(decide (((af ns x).length:Int)=1)&&(EX (af ns x) 0 1&&(PL false true false false ((al x).length:Int) x.2.2.2.2.1 x.2.2.2.2.2.1 x.2.2.2.2.2.2.1&&(decide ((19:Int)≤x.2.2.2.2.1)&&(decide (x.2.2.2.2.1≤22))))))=true:=h';simp only[V6,WH,V4,aZ]at h';obtain⟨_,e,_⟩:=h';intro j hj;rw[←iq hj];exact lK e (WQ _) (by omega) (by rw[aZ];exact hj)
theorem RU (hk:kn x=31):∀j:Nat,j<(ab x).length→kn (ad ns ((ab x).getD j 0))<40:=by
 have h':=bM h;rw[show x.1=31 from hk]at h';have h':(decide (((af ns x).length:Int)=2)&&(EX (af ns x) 0 2&&(PL false true false false ((al x).length:Int) x.2.2.2.2.1 x.2.2.2.2.2.1 x.2.2.2.2.2.2.1&&(decide ((1:Int)≤x.2.2.2.2.1)&&(decide (x.2.2.2.2.1≤18))))))=true:=h';simp only[V6,WH,V4,aZ]at h';obtain⟨_,e,_⟩:=h';intro j hj;rw[←iq hj];exact lK e (WQ _) (by omega) (by rw[aZ];exact hj)
theorem PR (hk:kn x=32):∀j:Nat,j<(ab x).length→kn (ad ns ((ab x).getD j 0))<40:=by
 have h':=bM h;rw[show x.1=32 from hk]at h';have h':(decide (((af ns x).length:Int)=2)&&(EX (af ns x) 0 2&&(!decide ((af ns x).getD 0 0=27)&&(PL false false false false ((al x).length:Int) x.2.2.2.2.1 x.2.2.2.2.2.1 x.2.2.2.2.2.2.1))))=true:=h';simp only[V6,WH,V4,aZ]at h';obtain⟨_,e,_⟩:=h';intro j hj;rw[←iq hj];exact lK e (WQ _) (by omega) (by rw[aZ];exact hj)
theorem RK (hk:kn x=33):∀j:Nat,j<(ab x).length→kn (ad ns ((ab x).getD j 0))<40:=by
 have h':=bM h;rw[show x.1=33 from hk]at h';have h':(decide (((af ns x).length:Int)=1)&&(EX (af ns x) 0 1&&(!decide ((af ns x).getD 0 0=27)&&(PL false false false true ((al x).length:Int) x.2.2.2.2.1 x.2.2.2.2.2.1 x.2.2.2.2.2.2.1&&(cL 1 x.2.2.2.2.2.2.1)))))=true:=h';simp only[V6,WH,V4,aZ]at h';obtain⟨_,e,_⟩:=h';intro j hj;rw[←iq hj];exact lK e (WQ _) (by omega) (by rw[aZ];exact hj)
theorem PM (hk:kn x=34):∀j:Nat,j<(ab x).length→kn (ad ns ((ab x).getD j 0))<40:=by
 have h':=bM h;rw[show x.1=34 from hk]at h';have h':(decide ((1:Int)≤((af ns x).length:Int))&&(EX (af ns x) 0 (af ns x).length&&(!decide ((af ns x).getD 0 0=27)&&(PL false false false false ((al x).length:Int) x.2.2.2.2.1 x.2.2.2.2.2.1 x.2.2.2.2.2.2.1))))=true:=h';simp only[V6,WH,V4,aZ]at h';obtain⟨_,e,_⟩:=h';intro j hj;rw[←iq hj];exact lK e (WQ _) (by omega) (by rw[aZ];exact hj)
theorem R7 (hk:kn x=37):∀j:Nat,j<(ab x).length→kn (ad ns ((ab x).getD j 0))<40:=by
 have h':=bM h;rw[show x.1=37 from hk]at h';have h':(decide (((af ns x).length:Int)=1)&&((decide ((af ns x).getD 0 0=34)||decide ((af ns x).getD 0 0=27))&&(PL false false false false ((al x).length:Int) x.2.2.2.2.1 x.2.2.2.2.2.1 x.2.2.2.2.2.2.1)))=true:=h';simp only[V6,WH,V4,aZ]at h';obtain⟨_,e,_⟩:=h';intro j hj;rw[←iq hj,show j=0 by omega];omega
theorem RZ (hk:kn x=40):∀j:Nat,j<(ab x).length→kn (ad ns ((ab x).getD j 0))<40:=by
 have h':=bM h;rw[show x.1=40 from hk]at h';have h':(decide (((af ns x).length:Int)=1)&&(EX (af ns x) 0 1&&(PL false false false false ((al x).length:Int) x.2.2.2.2.1 x.2.2.2.2.2.1 x.2.2.2.2.2.2.1)))=true:=h';simp only[V6,WH,V4,aZ]at h';obtain⟨_,e,_⟩:=h';intro j hj;rw[←iq hj];exact lK e (WQ _) (by omega) (by rw[aZ];exact hj)
theorem PQ (hk:kn x=41):∀j:Nat,j<(ab x).length→kn (ad ns ((ab x).getD j 0))<40:=by
 have h':=bM h;rw[show x.1=41 from hk]at h';have h':(decide (((af ns x).length:Int)=2)&&(EX (af ns x) 0 2&&(PL false false false false ((al x).length:Int) x.2.2.2.2.1 x.2.2.2.2.2.1 x.2.2.2.2.2.2.1)))=true:=h';simp only[V6,WH,V4,aZ]at h';obtain⟨_,e,_⟩:=h';intro j hj;rw[←iq hj];exact lK e (WQ _) (by omega) (by rw[aZ];exact hj)
theorem RP (hk:kn x=42):∀j:Nat,j<(ab x).length→kn (ad ns ((ab x).getD j 0))<40:=by
 have h':=bM h;rw[show x.1=42 from hk]at h';have h':(decide (((af ns x).length:Int)=1)&&(EX (af ns x) 0 1&&(PL false false false true ((al x).length:Int) x.2.2.2.2.1 x.2.2.2.2.2.1 x.2.2.2.2.2.2.1&&cL 1 x.2.2.2.2.2.2.1)))=true:=h';simp only[V6,WH,V4,aZ]at h';obtain⟨_,e,_⟩:=h';intro j hj;rw[←iq hj];exact lK e (WQ _) (by omega) (by rw[aZ];exact hj)
end
end Go.Abs.D
end

section
namespace Go.Abs.D
abbrev WT1:Type:=(List Node×Unit)×LI×Int×Unit
def wst (ns:List Node)(acc:LI)(t:Nat):WT1:=((ns,()),acc,(t:Int),())
abbrev U9:Type:=Unit×Unit×Unit×Unit×Unit×Unit×Unit×Unit×Unit×Unit
def u9:U9:=((),(),(),(),(),(),(),(),(),())
theorem cg (ns:List Node)(t:Nat):Evt fun n=>∀acc s:LI,acc.length+s.length≤MX→au (S.tab n) (wst ns acc t) s=some ((),wst ns (acc++s) t,(),()):=aB.up fun n _ acc s h=>by
 rw[yc];show brk (fits (acc.length+s.length)) _ _=_;rw[aj (kj h)];rfl
theorem GR (ns:List Node)(t:Nat)(ht:t≤100000):∀m:Nat,m≤t→Evt fun n=>∀acc:LI,acc.length+m≤MX→hY (S.tab n) (wst ns acc t) ((t - m:Nat):Int)=some (Sum.inl (wst ns (acc++kh m) t,()))
 |0,_=>aB.up fun n _ acc _=>by
  rw[ni];show brk (decide (((t - 0:Nat):Int)<(t:Int))) _ _=_;rw[ae (by omega)];unfold kh;rw[List.replicate_zero,Wv]
 |m+1,h=>((GR ns t ht m (by omega)).and (cg ns t)).up fun n ⟨ih,hs⟩ acc hb=>by
  rw[ni];show brk (decide (((t - (m+1):Nat):Int)<(t:Int))) _ _=_;have e:t - (m+1)+1=t - m:=(by omega);rw[ak (by omega),hs _ _ (by simp only[VZ,V0,V5];omega),VX,bf (by omega),e];dsimp only;rw[ih _ (by simp only[VZ,V0,V5];omega)];unfold kh;rw[List.replicate_succ,V7];rfl
theorem G8 (ns:List Node)(t:Nat)(ht:t≤100000):Evt fun n=>∀acc:LI,acc.length+(1+t)≤MX→me (S.tab n) (wst ns acc t)=some ((),wst ns (acc++([10]++kh t)) t,()):=
 ((GR ns t ht t (Wp _)).and (cg ns t)).up fun n ⟨hl,hs⟩ acc hb=>by
  rw[Nat.sub_self]at hl;rw[wW,hs _ _ (by simp only[VZ,V0,V5];omega),VX];dsimp only;have:=hl (acc++[10]) (by simp only[VZ,V0,V5];omega);have this:hY (S.tab n) (wst ns (acc++[10]) t) 0=_:=this;rw[this,V7];rfl
theorem Nd (op:Int):0≤bpw op:=by
 unfold bpw
 have h:∀k:Fin 19,(0:Int)≤([0,9,9,10,10,10,10,7,5,6,8,8,4,3,3,3,3,3,3]:LI).getD k.1 0:=by decide+kernel
 by_cases c:op.toNat<19
 ·exact h ⟨op.toNat,c⟩
 ·rw[Wm,List.getElem?_eq_none (by simp only[V0,V5];omega)];exact Int.le_refl _
theorem Ga (x:Node):0≤pwr x:=by
 unfold pwr;have:=Nd (opn x);cases decide (kn x=29)<;>cases decide (kn x=28)<;>cases decide (kn x=31)<;>cases decide (kn x=30)<;>simp<;>omega
def RE (ns:List Node)(k:Int)(t:Nat)(s:LI):Prop:=Evt fun n=>∀(acc:LI) (least:Int),acc.length+(paren (decide (pwr (ad ns k)<least)) s).length≤MX→aJ (S.tab n) (wst ns acc t) k least=some ((),wst ns (acc++paren (decide (pwr (ad ns k)<least)) s) t,(),(),())
def RS (ns:List Node)(k:Int)(t:Nat)(s:LI):Prop:=Evt fun n=>∀acc:LI,acc.length+s.length≤MX→mb (S.tab n) (wst ns acc t) k=some ((),wst ns (acc++s) t,(),())
def RB (ns:List Node)(k:Int)(t:Nat)(s:LI):Prop:=Evt fun n=>∀acc:LI,acc.length+s.length≤MX→bH (S.tab n) (wst ns acc t) k=some ((),wst ns (acc++s) t,(),())
def RF (ns:List Node)(k:Int)(t:Nat)(s:LI):Prop:=Evt fun n=>∀acc:LI,acc.length+s.length≤MX→mj (S.tab n) (wst ns acc t) k=some ((),wst ns (acc++s) t,(),())
def RC (ns:List Node)(k:Int)(t:Nat)(s:LI):Prop:=Evt fun n=>∀acc w:LI,acc.length+(w++s).length≤MX→ko (S.tab n) (wst ns acc t) (ad ns k) w=some ((),wst ns (acc++(w++s)) t,u9,(),())
def RN (ns:List Node)(k:Int)(t:Nat)(s:LI):Prop:=Evt fun n=>∀(acc:LI) (a:LI) (b c:Int),acc.length+s.length≤MX→gG (S.tab n) (wst ns acc t) k a b c=some (Sum.inl (wst ns (acc++s) t,a,b,c,()))
theorem RE.zero {ns:List Node}{k:Int}{t:Nat}{s:LI}(h:RE ns k t s):Evt fun n=>∀acc:LI,acc.length+s.length≤MX→aJ (S.tab n) (wst ns acc t) k 0=some ((),wst ns (acc++s) t,(),(),()):=by
 refine h.mono fun n h acc hb=> ?_
 have e:decide (pwr (ad ns k)<0)=false:=by
  have:=Ga (ad ns k);simp only[V8];omega
 have:=h acc 0;rw[e]at this;exact this hb
theorem Ev (ns:List Node)(t:Nat):∀(r pre:List LI),pre≠[]→(pre++r).length≤100000→Evt fun n=>∀acc:LI,acc.length+(r.flatMap fun k=>[44,32]++k).length≤MX→
  dm (S.tab n) (wst ns acc t) (pre++r) ((pre++r).length:Int) (pre.length:Int)=some (Sum.inl (wst ns (acc++r.flatMap fun k=>[44,32]++k) t,()))
 |[],pre,hp,hl=>aB.up fun n _ acc _=>by
  rw[gD,ay (by simp)];simp
 |m::r,pre,hp,hl=>by
  have hlen:(pre++m::r).length=pre.length+(r.length+1):=(by simp);have lR:0<pre.length:=List.length_pos_iff.2 hp;have ih:=Ev ns t r (pre++[m]) (by simp) (by simpa using hl)
  refine(ih.and (cg ns t)).up fun n ⟨ih,hw⟩ acc hb=> ?_
  rw[WX]at hb⊢;simp only[VZ,V0,V5]at hb;have hg:(pre++m::r).getD (pre.length:Int).toNat []=m:=fZ pre _ _ [];rw[gD,ak (by omega),aj (av (by omega)),ak (by omega),hw _ _ (by simp only[VZ,V0,V5];omega),VX,hg];dsimp only;rw[hw _ _ (by simp only[VZ,V0,V5];omega),VX,bf (by omega)];dsimp only;have e1:(pre++[m])++r=pre++m::r:=(by simp);have e2:(pre++[m]).length=pre.length+1:=(by simp);rw[e1,e2]at ih;rw[ih _ (by simp only[VZ,V0,V5];omega)];simp only[V7]
theorem AA (ns:List Node)(t:Nat)(l:List LI)(hl:l.length≤100000):Evt fun n=>∀acc:LI,acc.length+(bj l).length≤MX→ic (S.tab n) (wst ns acc t) l=some ((),wst ns (acc++bj l) t,(),()):=by
 have l0:Evt fun n=>∀acc:LI,acc.length+(bj l).length≤MX→dm (S.tab n) (wst ns acc t) l (l.length:Int) 0=some (Sum.inl (wst ns (acc++bj l) t,())):=by
  cases l with
  |nil=>
   refine aB.up fun n _ acc _=> ?_
   rw[gD,ay (by simp)];unfold bj;simp
  |cons m r=>
   have hlen:(m::r).length=r.length+1:=(by simp)
   refine((Ev ns t r [m] (by simp) (by simpa using hl)).and (cg ns t)).up fun n ⟨h1,hw⟩ acc hb=> ?_
   have e:bj (m::r)=m++r.flatMap fun k=>[44,32]++k:=rfl
   rw[e]at hb⊢;rw[VZ]at hb;rw[gD,ak (by omega),aj (by simp only[V6,V4];omega),ay (by decide)];show(au (S.tab n) (wst ns acc t) m).bind _=_;rw[hw _ _ (by omega),VX];have h1:∀acc:LI,acc.length+(r.flatMap fun k=>[44,32]++k).length≤MX→dm (S.tab n) (wst ns acc t) (m::r) ((m::r).length:Int) 1=_:=h1;show dm (S.tab n) (wst ns (acc++m) t) (m::r) ((m::r).length:Int) 1=_;rw[h1 _ (by rw[VZ];omega),V7]
 refine l0.up fun n h acc hb=> ?_
 rw[vv,h _ hb];rfl
theorem EU (ns:List Node)(E:Int→Nat→LI)(t:Nat):∀(r pre:LI),pre≠[]→(pre++r).length≤100000→(∀k∈r,RE ns k t (E k t))→Evt fun n=>∀acc:LI,acc.length+(r.flatMap fun k=>[44,32]++E k t).length≤MX→
  di (S.tab n) (wst ns acc t) (pre++r) ((pre++r).length:Int) (pre.length:Int)=some (Sum.inl (wst ns (acc++r.flatMap fun k=>[44,32]++E k t) t,()))
 |[],pre,hp,hl,_=>aB.up fun n _ acc _=>by
  rw[gC,ay (by simp)];simp
 |m::r,pre,hp,hl,h=>by
  have hlen:(pre++m::r).length=pre.length+(r.length+1):=(by simp);have lR:0<pre.length:=List.length_pos_iff.2 hp;have ih:=EU ns E t r (pre++[m]) (by simp) (by simpa using hl) (fun k hk=>h k (Wj _ hk))
  refine((ih.and (cg ns t)).and (h m (Wk ..)).zero).up fun n ⟨⟨ih,hw⟩,hE⟩ acc hb=> ?_
  rw[WX]at hb⊢;simp only[VZ,V0,V5]at hb;have hg:(pre++m::r).getD (pre.length:Int).toNat 0=m:=fZ pre _ _ 0;rw[gC,ak (by omega),aj (av (by omega)),ak (by omega),hw _ _ (by simp only[VZ,V0,V5];omega),VX,hg];dsimp only;rw[hE _ (by simp only[VZ,V0,V5];omega),VX,bf (by omega)];dsimp only;have e1:(pre++[m])++r=pre++m::r:=(by simp);have e2:(pre++[m]).length=pre.length+1:=(by simp);rw[e1,e2]at ih;rw[ih _ (by simp only[VZ,V0,V5];omega)];simp only[V7]
theorem Af (E:Int→Nat→LI)(m:Int)(r:LI)(t:Nat):cy E (m::r) t=E m t++r.flatMap fun k=>[44,32]++E k t:=by
 unfold cy;rw[List.map_cons];show E m t++(r.map fun k=>E k t).flatMap (fun t=>[44,32]++t)=_;rw[List.flatMap_map]
theorem lY (ns:List Node)(E:Int→Nat→LI)(t:Nat)(kids:LI)(hl:kids.length≤100000)(h:∀k∈kids,RE ns k t (E k t)):Evt fun n=>∀acc:LI,acc.length+(cy E kids t).length≤MX→
  dC (S.tab n) (wst ns acc t) kids=some ((),wst ns (acc++cy E kids t) t,(),()):=by
 have l0:Evt fun n=>∀acc:LI,acc.length+(cy E kids t).length≤MX→di (S.tab n) (wst ns acc t) kids (kids.length:Int) 0=some (Sum.inl (wst ns (acc++cy E kids t) t,())):=by
  cases kids with
  |nil=>
   refine aB.up fun n _ acc _=> ?_
   rw[gC,ay (by simp)];unfold cy bj;simp
  |cons m r=>
   have hlen:(m::r).length=r.length+1:=(by simp)
   refine((EU ns E t r [m] (by simp) (by simpa using hl) (fun k hk=>h k (Wj _ hk))).and (h m (Wk ..)).zero).up fun n ⟨h1,hE⟩ acc hb=> ?_
   rw[Af]at hb⊢;rw[VZ]at hb;rw[gC,ak (by omega),aj (by simp only[V6,V4];omega),ay (by decide)];show(aJ (S.tab n) (wst ns acc t) m 0).bind _=_;rw[hE _ (by omega),VX];have h1:∀acc:LI,acc.length+(r.flatMap fun k=>[44,32]++E k t).length≤MX→di (S.tab n) (wst ns acc t) (m::r) ((m::r).length:Int) 1=_:=h1;show di (S.tab n) (wst ns (acc++E m t) t) (m::r) ((m::r).length:Int) 1=_;rw[h1 _ (by rw[VZ];omega),V7]
 refine l0.up fun n h acc hb=> ?_
 rw[vD,h _ hb];rfl
theorem J5 (f:Int→LI):∀l:LI,[10]++(l.flatMap fun k=>f k++[10])=(l.flatMap fun k=>[10]++f k)++[10]
 |[]=>rfl
 |k::l=>by
  have ih:=J5 f l;rw[WX,WX,V7 (f k),ih];simp only[V7]
theorem HH (G:Int→Nat→LI)(kids:LI)(t:Nat)(h:kids≠[]):uZ G kids t=[123]++(kids.flatMap fun k=>([10]++kh (t+1))++G k (t+1))++(([10]++kh t)++[125]):=by
 unfold uZ;have nL:kids.isEmpty=false:=(by simpa using h);rw[nL,Wb];have:=J5 (fun k=>kh (t+1)++G k (t+1)) kids;have e:([123,10]:LI)=[123]++[10]:=rfl;rw[e,V7 [123] [10],this];simp only[V7]
theorem Cj (ns:List Node)(G:Int→Nat→LI)(t:Nat)(ht:t≤10000):∀(r pre:LI),(pre++r).length≤100000→(∀k∈r,RS ns k t (G k t))→Evt fun n=>∀acc:LI,acc.length+(r.flatMap fun k=>([10]++kh t)++G k t).length≤MX→
  gI (S.tab n) (wst ns acc t) (pre++r) ((pre++r).length:Int) (pre.length:Int)=some (Sum.inl (wst ns (acc++r.flatMap fun k=>([10]++kh t)++G k t) t,()))
 |[],pre,hl,_=>aB.up fun n _ acc _=>by
  rw[mz,ay (by simp)];simp
 |m::r,pre,hl,h=>by
  have hlen:(pre++m::r).length=pre.length+(r.length+1):=(by simp);have ih:=Cj ns G t ht r (pre++[m]) (by simpa using hl) (fun k hk=>h k (Wj _ hk))
  refine((ih.and (G8 ns t (by omega))).and (h m (Wk ..))).up fun n ⟨⟨ih,hw⟩,hE⟩ acc hb=> ?_
  rw[WX]at hb⊢;simp only[VZ,V0,V5,iN]at hb;have hg:(pre++m::r).getD (pre.length:Int).toNat 0=m:=fZ pre _ _ 0;rw[mz,ak (by omega),aj (av (by omega)),hw _ (by omega),VX,hg];dsimp only;rw[hE _ (by simp only[VZ,V0,V5,iN];omega),VX,bf (by omega)];dsimp only;have e1:(pre++[m])++r=pre++m::r:=(by simp);have e2:(pre++[m]).length=pre.length+1:=(by simp);rw[e1,e2]at ih;rw[ih _ (by simp only[VZ,V0,V5,iN];omega)];simp only[V7]
theorem BU {ns:List Node}(G:Int→Nat→LI){b:Nat}(hb:b<ns.length)(t:Nat)(ht:t+1≤10000)(hl:(ab (ad ns (b:Int))).length≤100000)(h:∀k∈ab (ad ns (b:Int)),RS ns k (t+1) (G k (t+1))):RB ns ↑b t (bA ns G ↑b t):=by
 refine(((Cj ns G (t+1) ht (ab (ad ns ↑b)) [] (by simpa using hl) h).and (G8 ns t (by omega))).and ((cg ns t).and (cg ns t))).up fun n ⟨⟨h6,VS⟩,hw,_⟩ acc BR=> ?_
 have rI:(decide ((0:Int)≤(b:Int))&&decide ((b:Int)<((wst ns acc t).1.1.length:Int)))=true:=av hb;have hx:at_ (τ:=aa) (wst ns acc t).1.1 (b:Int)=ad ns ↑b:=rfl;have qo:(ad ns ↑b).2.2.2.2.2.2.2.2.1=ab (ad ns ↑b):=rfl;unfold bA at BR⊢;rw[vp,hx,qo,aj rI]
 by_cases h0:ab (ad ns ↑b)=[]
 ·rw[h0]at BR⊢;rw[aj (by rfl),hw _ _ (by simpa[uZ]using BR)];rfl
 ·have On:(ab (ad ns ↑b)).length≠0:=(by simpa using h0);rw[HH _ _ _ h0]at BR⊢;simp only[VZ,V0,V5,iN]at BR;rw[ae (by omega),hw _ _ (by simp only[VZ,V0,V5];omega),VX];dsimp only
  have e1:((wst ns (acc++[123]) t).1,(wst ns (acc++[123]) t).2.1,i64.wrap ((wst ns (acc++[123]) t).2.2.1+1),())=wst ns (acc++[123]) (t+1):=by
   show((ns,()),acc++[123],i64.wrap ((t:Int)+1),())=_;rw[bf (by omega)];rfl
  rw[e1];have h6:∀acc:LI,acc.length+((ab (ad ns ↑b)).flatMap fun k=>([10]++kh (t+1))++G k (t+1)).length≤MX→gI (S.tab n) (wst ns acc (t+1)) (ab (ad ns ↑b)) ((ab (ad ns ↑b)).length:Int) 0=_:=h6;rw[h6 _ (by simp only[VZ,V0,V5,iN];omega),VX];simp only[aR,Wn]
  have e2:∀a:LI,((wst ns a (t+1)).1,(wst ns a (t+1)).2.1,i64.wrap ((wst ns a (t+1)).2.2.1 - 1),())=wst ns a t:=fun a=>by
   show((ns,()),a,i64.wrap (((t+1:Nat):Int) - 1),())=_;rw[wrap64 _ (by omega) (by omega)];have:((t+1:Nat):Int) - 1=(t:Int):=(by omega);rw[this];rfl
  rw[e2,VS _ (by simp only[VZ,V0,V5,iN];omega),VX];dsimp only;rw[hw _ _ (by simp only[VZ,V0,V5,iN];omega),VX];simp only[V7]
theorem LB (T:S.Tab):((List.range 18).all fun n=>decide (iA (S.step (S.step (S.step T))) (61+(n:Int))=some ((bpw (1+(n:Int)),(bif decide (1+(n:Int)=12)then 4 else bpw (1+(n:Int))+1),()),oF)))=true:=by kernel_rfl
theorem zY:Evt fun n=>∀op:Int,1≤op→op≤18→iA (S.tab n) (60+op)=some ((bpw op,(bif decide (op=12)then 4 else bpw op+1),()),oF):=by
 have h:Evt fun n=>∀op:Int,1≤op→op≤18→iA (S.tab (n+3)) (60+op)=some ((bpw op,(bif decide (op=12)then 4 else bpw op+1),()),oF):=Evt.of fun n op h1 h2=>by
  have:=of_decide_eq_true (List.all_eq_true.1 (LB (S.tab n)) (op.toNat - 1) (List.mem_range.2 (by omega)));have e1:(61:Int)+((op.toNat - 1:Nat):Int)=60+op:=(by omega);have e2:(1:Int)+((op.toNat - 1:Nat):Int)=op:=(by omega);rw[e1,e2]at this;exact this
 obtain⟨N,h⟩:=h
 exact⟨N+3,fun n hn=>by
  have e:n - 3+3=n:=(by omega);rw[←e]
  exact h (n - 3) (by omega)⟩
section
variable{ns:List Node}(cE:∀i:Nat,i<ns.length→okN ns i (ad ns (i:Int))=true)
include cE
theorem EP:Evt fun n=>∀k:Nat,k<ns.length→qZ (S.tab n) (ad ns ↑k)=some (pwr (ad ns ↑k),ie):=zY.up fun n hp k hk=>by
 rw[x9];show brk (decide (kn (ad ns ↑k)=29)) _ (brk (decide (kn (ad ns ↑k)=28)) _ (brk (decide (kn (ad ns ↑k)=31)) ((iA (S.tab n) (i64.wrap (60+opn (ad ns ↑k)))).bind _) (brk (decide (kn (ad ns ↑k)=30)) _ _)))=_;unfold pwr
 by_cases nv:kn (ad ns ↑k)=29
 ·rw[ak nv,VY nv];rfl
 rw[ae nv,VW nv]
 by_cases lM:kn (ad ns ↑k)=28
 ·rw[ak lM,VY lM];rfl
 rw[ae lM,VW lM]
 by_cases nM:kn (ad ns ↑k)=31
 ·obtain⟨_,h1,h2⟩:=yw (cE k hk) nM;rw[ak nM,VY nM,wrap64 _ (by omega) (by omega),hp _ h1 h2];rfl
 rw[ae nM,VW nM]
 by_cases ma:kn (ad ns ↑k)=30
 ·rw[ak ma,VY ma];rfl
 ·rw[ae ma,VW ma];rfl
theorem FN:Evt fun n=>∀k:Nat,k<ns.length→(kn (ad ns ↑k)=28∨kn (ad ns ↑k)=29∨kn (ad ns ↑k)=31)→ly (S.tab n) (ad ns ↑k)=some (rgt (ad ns ↑k),js):=zY.up fun n hp k hk qo=>by
 rw[ye];show brk (decide (kn (ad ns ↑k)=29)) _ (brk (decide (kn (ad ns ↑k)=28)) _ ((iA (S.tab n) (i64.wrap (60+opn (ad ns ↑k)))).bind _))=_;unfold rgt
 by_cases nv:kn (ad ns ↑k)=29
 ·rw[ak nv,VY nv];rfl
 rw[ae nv,VW nv]
 by_cases lM:kn (ad ns ↑k)=28
 ·rw[ak lM,VY lM];rfl
 rw[ae lM,VW lM];have nM:kn (ad ns ↑k)=31:=(by omega);obtain⟨_,h1,h2⟩:=yw (cE k hk) nM;rw[wrap64 _ (by omega) (by omega),hp _ h1 h2];rfl
theorem Av {i:Nat}(hi:i<ns.length){t:Nat}{E:Int→Nat→LI}(hk:kn (ad ns (i:Int))=28∨kn (ad ns (i:Int))=29∨kn (ad ns (i:Int))=31)(hE:∀k∈ab (ad ns (i:Int)),kn (ad ns k)<40→RE ns k t (E k t))(gk:∀k∈ab (ad ns (i:Int)),∃j:Nat,k=(j:Int)∧j<i)(sg:LI):
  Evt fun n=>∀acc:LI,acc.length+(paren (decide (pwr (ad ns ((ab (ad ns ↑i)).getD 0 0))<lft (ad ns ↑i))) (E ((ab (ad ns ↑i)).getD 0 0) t)++sg++paren (decide (pwr (ad ns ((ab (ad ns ↑i)).getD 1 0))<rgt (ad ns ↑i))) (E ((ab (ad ns ↑i)).getD 1 0) t)).length≤MX→
   jt (S.tab n) (wst ns acc t) (ad ns ↑i) sg (pwr (ad ns ↑i))=some ((),wst ns (acc++(paren (decide (pwr (ad ns ((ab (ad ns ↑i)).getD 0 0))<lft (ad ns ↑i))) (E ((ab (ad ns ↑i)).getD 0 0) t)++sg++paren (decide (pwr (ad ns ((ab (ad ns ↑i)).getD 1 0))<rgt (ad ns ↑i))) (E ((ab (ad ns ↑i)).getD 1 0) t))) t,u9,(),(),()):=by
 have hx:=cE i hi
 have hl:(ab (ad ns ↑i)).length=2:=by
  rcases hk with h|h|h
  ·exact NT hx h
  ·exact N6 hx h
  ·exact(yw hx h).1
 have fP:∀j:Nat,j<(ab (ad ns ↑i)).length→kn (ad ns ((ab (ad ns ↑i)).getD j 0))<40:=by
  rcases hk with h|h|h
  ·exact RR hx h
  ·exact RO hx h
  ·exact RU hx h
 have hp12:pwr (ad ns ↑i)≤12:=by
  unfold pwr
  rcases hk with h|h|h
  ·rw[h];exact show(2:Int)≤12 by decide
  ·rw[h];exact show(1:Int)≤12 by decide
  ·obtain⟨_,h1,h2⟩:=yw hx h;have:=yD _ h1 h2;rw[h];show bpw (opn (ad ns ↑i))≤12;omega
 have Ip:=Ga (ad ns ↑i);have fB:=hE _ (aG (x:=(ad ns ↑i)) (j:=0) (by omega)) (fP 0 (by omega));have yy:=hE _ (aG (x:=(ad ns ↑i)) (j:=1) (by omega)) (fP 1 (by omega));have qo:(ad ns ↑i).2.2.2.2.2.2.2.2.1=ab (ad ns ↑i):=rfl
 refine(((FN cE).and (cg ns t)).and (fB.and yy)).up fun n ⟨⟨hr,hw⟩,fB,yy⟩ acc hb=> ?_
 simp only[VZ]at hb
 have fin:∀q:Int,lft (ad ns ↑i)=q→((aJ (S.tab n) (wst ns acc t) ((ab (ad ns ↑i)).getD 0 0) q).bind fun d22=>
   (au (S.tab n) d22.2.1 sg).bind fun d25=>
   brk (decide (1<((ab (ad ns ↑i)).length:Int))) (
   (some (rgt (ad ns ↑i),js)).bind fun d32=>
   (aJ (S.tab n) d25.2.1 ((ab (ad ns ↑i)).getD 1 0) d32.1).bind fun d33=>
   (some ((),d33.2.1,u9,(),(),()):Option (Unit×WT1×U9×Unit×Unit×Unit))) none)=some ((),wst ns (acc++(paren (decide (pwr (ad ns ((ab (ad ns ↑i)).getD 0 0))<lft (ad ns ↑i))) (E ((ab (ad ns ↑i)).getD 0 0) t)++sg++paren (decide (pwr (ad ns ((ab (ad ns ↑i)).getD 1 0))<rgt (ad ns ↑i))) (E ((ab (ad ns ↑i)).getD 1 0) t))) t,u9,(),(),()):=fun q hq=>by
  rw[←hq,fB _ _ (by omega),VX];dsimp only;rw[hw _ _ (by rw[VZ];omega),VX,ak (by omega),VX];dsimp only;rw[yy _ _ (by simp only[VZ];omega),VX];simp only[V7]
 rw[vA,hr i hi hk,VX,qo];dsimp only
 by_cases hc:rgt (ad ns ↑i)=pwr (ad ns ↑i)
 ·rw[ak hc,ak (by omega),wrap64 _ (by omega) (by omega)];exact fin _ (by unfold lft;rw[VY hc];rfl)
 ·rw[ae hc,ak (by omega)];exact fin _ (by unfold lft;rw[VW hc];rfl)
omit cE in
theorem HC:Evt fun n=>∀k:Int,sR (S.tab n) k=some (nu k,iU):=aB.up fun n _ k=>by
 rw[zt];unfold nu;cases decide (k=26)<;>cases decide (k=32)<;>cases decide (k=33)<;>cases decide (k=34)<;>simp only[mU,dT]<;>rfl
omit cE in
theorem Au {k:Nat}(hk:k<ns.length){t:Nat}{s:LI}(h:RE ns (k:Int) t s):Evt fun n=>∀(acc:LI),acc.length+(paren (!nu (kn (ad ns ↑k))) s).length≤MX→j9 (S.tab n) (wst ns acc t) (k:Int)=some ((),wst ns (acc++paren (!nu (kn (ad ns ↑k))) s) t,(),()):=by
 refine((HC.and (cg ns t)).and h.zero).up fun n ⟨⟨hB,hw⟩,hE⟩ acc hb=> ?_
 have rI:(decide ((0:Int)≤(k:Int))&&decide ((k:Int)<((wst ns acc t).1.1.length:Int)))=true:=av hk;have hx:(at_ (τ:=aa) (wst ns acc t).1.1 ↑k).1=kn (ad ns ↑k):=rfl;rw[w8,hx,hB,aj rI,VX];dsimp only
 cases hc:nu (kn (ad ns ↑k))with
 |true=>
  rw[hc]at hb;have hb:acc.length+s.length≤MX:=hb;rw[mU,hE _ hb];rfl
 |false=>
  rw[hc]at hb;have hb:acc.length+([40]++s++[41]:LI).length≤MX:=hb;simp only[VZ,V0,V5]at hb;rw[dT,hw _ _ (by simp only[VZ,V0,V5];omega),VX];dsimp only;rw[hE _ (by simp only[VZ,V0,V5];omega),VX];dsimp only;rw[hw _ _ (by simp only[VZ,V0,V5];omega),VX];show some ((),wst ns (((acc++[40])++s)++[41]) t,(),())=some ((),wst ns (acc++([40]++s++[41])) t,(),());simp only[V7]
end
end Go.Abs.D
end

section
namespace Go.Abs.D
theorem fF {ns:List Node}{i:Nat}(hi:i<ns.length)(acc:LI)(t:Nat):(decide ((0:Int)≤(i:Int))&&decide ((i:Int)<((wst ns acc t).1.1.length:Int)))=true:=av hi
theorem j5 (ns:List Node)(acc:LI)(t:Nat)(i:Int):at_ (τ:=aa) (wst ns acc t).1.1 i=ad ns i:=rfl
theorem ep (x:Node):x.2.2.2.2.2.2.2.2.1=ab x:=rfl
theorem mm (x:Node):x.2.2.2.2.2.2.2.1=al x:=rfl
theorem DZ (l:List LI)(s:LI):bj (l++[s])=bj l++(bif l.isEmpty then s else [44,32]++s):=by
 cases l with
 |nil=>simp[bj]
 |cons a r=>
  show a++(r++[s]).flatMap (fun t=>[44,32]++t)=(a++r.flatMap fun t=>[44,32]++t)++([44,32]++s);rw[List.flatMap_append,WX,List.flatMap_nil,Wv,V7]
def plT (x:Node):LI:=
 bif decide (kn x=20)then [110,105,108]else bif decide (kn x=21)then [116,114,117,101]else bif decide (kn x=22)then [102,97,108,115,101]else
 bif decide (kn x=23)then wE (kW x)else bif decide (kn x=24)then txn x else bif decide (kn x=26)then txn x else bif decide (kn x=25)then lH (txn x)else bif decide (kn x=27)then [46,46,46]else []
theorem JO (ns:List Node)(E:Int→Nat→LI)(t:Nat):∀(r pre:LI),pre≠[]→(pre++r).length≤100000→(∀k∈r,RN ns k t (E k t))→Evt fun n=>∀acc:LI,acc.length+(r.flatMap fun k=>[44,32]++E k t).length≤MX→
  dj (S.tab n) (wst ns acc t) (pre++r) ((pre++r).length:Int) (pre.length:Int)=some (Sum.inl (wst ns (acc++r.flatMap fun k=>[44,32]++E k t) t,()))
 |[],pre,hp,hl,_=>aB.up fun n _ acc _=>by
  rw[gE,ay (by simp)];simp
 |m::r,pre,hp,hl,h=>by
  have hlen:(pre++m::r).length=pre.length+(r.length+1):=(by simp);have lR:0<pre.length:=List.length_pos_iff.2 hp;have ih:=JO ns E t r (pre++[m]) (by simp) (by simpa using hl) (fun k hk=>h k (Wj _ hk))
  refine((ih.and (cg ns t)).and (h m (Wk ..))).up fun n ⟨⟨ih,hw⟩,hE⟩ acc hb=> ?_
  rw[WX]at hb⊢;simp only[VZ,V0,V5]at hb;have hg:(pre++m::r).getD (pre.length:Int).toNat 0=m:=fZ pre _ _ 0;rw[gE,ak (by omega),aj (av (by omega)),ak (by omega),hw _ _ (by simp only[VZ,V0,V5];omega),VX,hg];dsimp only;rw[hE _ _ _ _ (by simp only[VZ,V0,V5];omega),VX];simp only[aR,Wn];rw[bf (by omega)];have e1:(pre++[m])++r=pre++m::r:=(by simp);have e2:(pre++[m]).length=pre.length+1:=(by simp);rw[e1,e2]at ih;rw[ih _ (by simp only[VZ,V0,V5];omega)];simp only[V7]
theorem I5 (ns:List Node)(E:Int→Nat→LI)(t:Nat)(x:Node)(hl:(ab x).length≤100000)(h:∀k∈ab x,RN ns k t (E k t)):Evt fun n=>∀acc:LI,acc.length+([123]++cy E (ab x) t++[125]).length≤MX→
  oI (S.tab n) (wst ns acc t) x=some ((),wst ns (acc++([123]++cy E (ab x) t++[125])) t,u9,()):=by
 have l0:Evt fun n=>∀acc:LI,acc.length+(cy E (ab x) t).length≤MX→dj (S.tab n) (wst ns acc t) (ab x) ((ab x).length:Int) 0=some (Sum.inl (wst ns (acc++cy E (ab x) t) t,())):=by
  generalize ab x=kids at hl h⊢
  cases kids with
  |nil=>
   refine aB.up fun n _ acc _=> ?_
   rw[gE,ay (by simp)];unfold cy bj;simp
  |cons m r=>
   have hlen:(m::r).length=r.length+1:=(by simp)
   refine((JO ns E t r [m] (by simp) (by simpa using hl) (fun k hk=>h k (Wj _ hk))).and (h m (Wk ..))).up fun n ⟨h1,hE⟩ acc hb=> ?_
   rw[Af]at hb⊢;rw[VZ]at hb;rw[gE,ak (by omega),aj (by simp only[V6,V4];omega),ay (by decide)];show(gG (S.tab n) (wst ns acc t) m (m::r) ((m::r).length:Int) 0).bind _=_;rw[hE _ _ _ _ (by omega),VX];simp only[aR,Wn];have h1:∀acc:LI,acc.length+(r.flatMap fun k=>[44,32]++E k t).length≤MX→dj (S.tab n) (wst ns acc t) (m::r) ((m::r).length:Int) 1=_:=h1;show dj (S.tab n) (wst ns (acc++E m t) t) (m::r) ((m::r).length:Int) 1=_;rw[h1 _ (by rw[VZ];omega),V7]
 refine(l0.and (cg ns t)).up fun n ⟨h,hw⟩ acc hb=> ?_
 simp only[VZ,V0,V5]at hb;rw[vr,ep,hw _ _ (by simp only[VZ,V0,V5];omega),VX];dsimp only;rw[h _ (by simp only[VZ,V0,V5];omega),VX];simp only[aR,Wn];rw[hw _ _ (by simp only[VZ,V0,V5];omega),VX];simp only[V7]
theorem Jh (ns:List Node)(t:Nat){i:Nat}(hn:A0 (ad ns (i:Int)))(ho:okN ns i (ad ns (i:Int))=true):Evt fun n=>∀acc:LI,acc.length+(plT (ad ns ↑i)).length≤MX→oL (S.tab n) (wst ns acc t) (ad ns ↑i)=some ((),wst ns (acc++plT (ad ns ↑i)) t,u9,()):=by
 have hI:=Jw (kW (ad ns ↑i)) hn.1.1 hn.1.2
 have hQ:Evt fun n=>(ad ns ↑i).1=25→jQ (S.tab n) (txn (ad ns ↑i))=some (lH (txn (ad ns ↑i)),(),()):=by
  by_cases h:(ad ns ↑i).1=25
  ·have hl:=RW ho h
   exact(Fz (txn (ad ns ↑i)) hn.2 (by omega)).mono fun n e _=>e
  ·exact Evt.of fun n e=>absurd e h
 refine((cg ns t).and (hI.and hQ)).up fun n ⟨hw,hI,hQ⟩ acc hb=> ?_
 have hI:oR (S.tab n) (ad ns ↑i).2.2.2.2.2.1=some (wE (kW (ad ns ↑i)),nD):=hI;have hQ:(ad ns ↑i).1=25→jQ (S.tab n) (ad ns ↑i).2.2.2.2.2.2.1=some (lH (txn (ad ns ↑i)),(),()):=hQ;have OF:(ad ns ↑i).2.2.2.2.2.2.1=txn (ad ns ↑i):=rfl;rw[vy];unfold plT at hb⊢
 by_cases vl:(ad ns ↑i).1=20
 ·rw[VY (show kn (ad ns ↑i)=20 from vl),Wg]at hb⊢;rw[ak vl,hw _ _ hb];rfl
 rw[VW (show¬ kn (ad ns ↑i)=20 from vl),Wb]at hb⊢;rw[ae vl]
 by_cases Be:(ad ns ↑i).1=21
 ·rw[VY (show kn (ad ns ↑i)=21 from Be),Wg]at hb⊢;rw[ak Be,hw _ _ hb];rfl
 rw[VW (show¬ kn (ad ns ↑i)=21 from Be),Wb]at hb⊢;rw[ae Be]
 by_cases wL:(ad ns ↑i).1=22
 ·rw[VY (show kn (ad ns ↑i)=22 from wL),Wg]at hb⊢;rw[ak wL,hw _ _ hb];rfl
 rw[VW (show¬ kn (ad ns ↑i)=22 from wL),Wb]at hb⊢;rw[ae wL]
 by_cases wO:(ad ns ↑i).1=23
 ·rw[VY (show kn (ad ns ↑i)=23 from wO),Wg]at hb⊢;rw[ak wO,hI,VX];dsimp only;rw[hw _ _ hb];rfl
 rw[VW (show¬ kn (ad ns ↑i)=23 from wO),Wb]at hb⊢;rw[ae wO]
 by_cases r8:(ad ns ↑i).1=24
 ·rw[VY (show kn (ad ns ↑i)=24 from r8),Wg]at hb⊢;rw[ak r8,ak r8,OF,hw _ _ hb];rfl
 rw[VW (show¬ kn (ad ns ↑i)=24 from r8),Wb]at hb⊢;rw[ae r8]
 by_cases BO:(ad ns ↑i).1=26
 ·rw[VY (show kn (ad ns ↑i)=26 from BO),Wg]at hb⊢;rw[ak BO,OF,hw _ _ hb];rfl
 rw[VW (show¬ kn (ad ns ↑i)=26 from BO),Wb]at hb⊢;rw[ae BO]
 by_cases Gm:(ad ns ↑i).1=25
 ·rw[VY (show kn (ad ns ↑i)=25 from Gm),Wg]at hb⊢;rw[ak Gm,hQ Gm,VX];dsimp only;rw[hw _ _ hb];rfl
 rw[VW (show¬ kn (ad ns ↑i)=25 from Gm),Wb]at hb⊢;rw[ae Gm]
 by_cases Ba:(ad ns ↑i).1=27
 ·rw[VY (show kn (ad ns ↑i)=27 from Ba),Wg]at hb⊢;rw[ak Ba,hw _ _ hb];rfl
 rw[VW (show¬ kn (ad ns ↑i)=27 from Ba),Wb]at hb⊢;rw[ae Ba];rw[Wv]
section
variable{ns:List Node}(cE:∀i:Nat,i<ns.length→okN ns i (ad ns (i:Int))=true)
include cE
theorem Di (G:Int→Nat→LI){i:Nat}(hi:i<ns.length)(qn:kn (ad ns (i:Int))=36)(t:Nat)(hB:RB ns ((ab (ad ns (i:Int))).getD 0 0) t (bA ns G ((ab (ad ns (i:Int))).getD 0 0) t)):RF ns ↑i t (fnT ns G (ad ns ↑i) t):=by
 obtain⟨RA,_⟩:=E9 (cE i hi) qn;have TX:=(ik (cE i hi)).1.2.1
 have VA:∀a:Int,(ad ns ↑i).2.2.2.2.1=a↔opn (ad ns ↑i)=a:=fun _=>Iff.rfl
 refine((hB.and (cg ns t)).and (AA ns t (al (ad ns ↑i)) (by omega))).up fun n ⟨⟨hB,hw⟩,hn⟩ acc hb=> ?_
 unfold fnT at hb⊢
 have fin:∀a:LI,a.length+([41,32]++bA ns G ((ab (ad ns ↑i)).getD 0 0) t).length≤MX→((au (S.tab n) (wst ns a t) ([41,32]:LI)).bind fun d31=>
   brk (decide (0<((ab (ad ns ↑i)).length:Int))) (
   (bH (S.tab n) d31.2.1 ((ab (ad ns ↑i)).getD 0 0)).bind fun d37=>
   (some ((),d37.2.1,(),()):Option (Unit×WT1×Unit×Unit))) none)=some ((),wst ns (a++([41,32]++bA ns G ((ab (ad ns ↑i)).getD 0 0) t)) t,(),()):=fun a ha=>by
  simp only[VZ,V0,V5]at ha;rw[hw _ _ (by simp only[VZ,V0,V5];omega),VX,ak (by omega)];dsimp only;rw[hB _ (by simp only[VZ,V0,V5];omega),VX];simp only[V7]
 by_cases h1:(ad ns ↑i).2.2.2.2.1=1
 ·rw[VY ((VA 1).1 h1),Wg,DZ]at hb⊢
  cases Ku:al (ad ns ↑i)with
  |nil=>
   rw[Ku]at hb hn;simp only[show bj ([]:List LI)=[]from rfl,Wv,V5,Nat.add_zero]at hn;have hb:acc.length+([40]++([46,46,46])++[41,32]++bA ns G ((ab (ad ns ↑i)).getD 0 0) t:LI).length≤MX:=hb;simp only[VZ,V0,V5]at hb;rw[lX,j5,ep,mm,Ku,aj (fF hi acc t),hw _ _ (by simp only[VZ,V0,V5];omega),VX];dsimp only;rw[hn _ (by simp only[VZ,V0,V5];omega),VX,ak h1,ay (by rfl)];dsimp only;rw[hw _ _ (by simp only[VZ,V0,V5];omega),VX];dsimp only;rw[fin _ (by simp only[VZ,V0,V5];omega)];show some ((),wst ns (((acc++[40])++[46,46,46])++([41,32]++bA ns G ((ab (ad ns ↑i)).getD 0 0) t)) t,(),())=some ((),wst ns (acc++([40]++([]++[46,46,46])++[41,32]++bA ns G ((ab (ad ns ↑i)).getD 0 0) t)) t,(),());simp only[V7,List.nil_append]
  |cons a r=>
   have lR:decide ((0:Int)<((al (ad ns ↑i)).length:Int))=true:=by
    rw[Ku];simp only[V0,V4];omega
   have he:(al (ad ns ↑i)).isEmpty=false:=by rw[Ku];rfl
   rw[←Ku];rw[he,Wb]at hb⊢;simp only[VZ,V0,V5]at hb;rw[lX,j5,ep,mm,aj (fF hi acc t),hw _ _ (by simp only[VZ,V0,V5];omega),VX];dsimp only;rw[hn _ (by simp only[VZ,V0,V5];omega),VX,ak h1,aj lR];dsimp only;rw[hw _ _ (by simp only[VZ,V0,V5];omega),VX];dsimp only;rw[hw _ _ (by simp only[VZ,V0,V5];omega),VX];dsimp only;rw[fin _ (by simp only[VZ,V0,V5];omega)];simp only[V7]
 ·rw[VW (show¬ opn (ad ns ↑i)=1 from h1),Wb,Wv]at hb⊢;simp only[VZ,V0,V5]at hb;rw[lX,j5,ep,mm,aj (fF hi acc t),hw _ _ (by simp only[VZ,V0,V5];omega),VX];dsimp only;rw[hn _ (by simp only[VZ,V0,V5];omega),VX,ae h1];dsimp only;rw[fin _ (by simp only[VZ,V0,V5];omega)];simp only[V7]
theorem I1 {i:Nat}(hi:i<ns.length){t:Nat}{E G:Int→Nat→LI}(hk:kn (ad ns (i:Int))=40∨kn (ad ns (i:Int))=41∨kn (ad ns (i:Int))=42)(hE:∀k∈ab (ad ns (i:Int)),kn (ad ns k)<40→RE ns k t (E k t)):RN ns ↑i t (cS ns E G (ad ns ↑i) t):=by
 have fI:=cE i hi
 rcases hk with hk|hk|hk
 ·have hl:=NU fI hk
  have DT:¬ (ad ns ↑i).1=41:=fun e=>by have:=hk.symm.trans e;exact absurd this (by decide)
  have KG:¬ (ad ns ↑i).1=42:=fun e=>by have:=hk.symm.trans e;exact absurd this (by decide)
  unfold cS;rw[hk];show RN ns ↑i t (E ((ab (ad ns ↑i)).getD 0 0) t)
  refine((hE _ (aG (x:=(ad ns ↑i)) (j:=0) (by omega)) (RZ fI hk 0 (by omega))).zero).up fun n hE acc a b c hb=> ?_
  rw[jl,j5,ep,aj (fF hi acc t),ae DT,ae KG,ak (by omega),hE _ hb];rfl
 ·have hl:=N8 fI hk;unfold cS;rw[hk];show RN ns ↑i t ([91]++E ((ab (ad ns ↑i)).getD 0 0) t++[93,32,61,32]++E ((ab (ad ns ↑i)).getD 1 0) t)
  refine(((hE _ (aG (x:=(ad ns ↑i)) (j:=0) (by omega)) (PQ fI hk 0 (by omega))).zero.and (hE _ (aG (x:=(ad ns ↑i)) (j:=1) (by omega)) (PQ fI hk 1 (by omega))).zero).and (cg ns t)).up fun n ⟨⟨fB,yy⟩,hw⟩ acc a b c hb=> ?_
  simp only[VZ,V0,V5]at hb;rw[jl,j5,ep,aj (fF hi acc t),ak (show(ad ns ↑i).1=41 from hk),hw _ _ (by simp only[VZ,V0,V5];omega),VX,ak (by omega)];dsimp only;rw[fB _ (by simp only[VZ,V0,V5];omega),VX];dsimp only;rw[hw _ _ (by simp only[VZ,V0,V5];omega),VX,ak (by omega)];dsimp only;rw[yy _ (by simp only[VZ,V0,V5];omega),VX];simp only[V7]
 ·have hl:=N7 fI hk
  have DT:¬ (ad ns ↑i).1=41:=fun e=>by have:=hk.symm.trans e;exact absurd this (by decide)
  unfold cS;rw[hk];show RN ns ↑i t ([46]++txn (ad ns ↑i)++[32,61,32]++E ((ab (ad ns ↑i)).getD 0 0) t)
  refine((hE _ (aG (x:=(ad ns ↑i)) (j:=0) (by omega)) (RP fI hk 0 (by omega))).zero.and (cg ns t)).up fun n ⟨fB,hw⟩ acc a b c hb=> ?_
  simp only[VZ,V0,V5]at hb;have OF:(ad ns ↑i).2.2.2.2.2.2.1=txn (ad ns ↑i):=rfl;rw[jl,j5,ep,OF,aj (fF hi acc t),ae DT,ak (show(ad ns ↑i).1=42 from hk),aj (kj (by omega)),aj (kj (by simp only[VZ,V0,V5];omega)),hw _ _ (by simp only[VZ,V0,V5];omega),VX,ak (by omega)];dsimp only;rw[fB _ (by simp only[VZ,V0,V5];omega),VX];simp only[V7]
def LU (x y:Node):LI:=bif decide (opn x=21)then [110,111,116,32]else bif decide (opn x=22)then [35]else bif decide (opn x=20)then [126]else [45]++bif decide (kn y=30)&&decide (opn y=19)then [32]else []
theorem I0 {i:Nat}(hi:i<ns.length){t:Nat}{E:Int→Nat→LI}(hk:kn (ad ns (i:Int))=30){k0:Nat}(e0:(ab (ad ns (i:Int))).getD 0 0=(k0:Int))(MR:k0<ns.length)(hE:RE ns (k0:Int) t (E (k0:Int) t)):
  Evt fun n=>∀acc:LI,acc.length+(LU (ad ns ↑i) (ad ns ↑k0)++paren (decide (pwr (ad ns ↑k0)<11)) (E ↑k0 t)).length≤MX→oH (S.tab n) (wst ns acc t) (ad ns ↑i)=some ((),wst ns (acc++(LU (ad ns ↑i) (ad ns ↑k0)++paren (decide (pwr (ad ns ↑k0)<11)) (E ↑k0 t))) t,u9,()):=by
 obtain⟨hl,_,_⟩:=LV (cE i hi) hk
 have VU:Evt fun n=>∀acc:LI,acc.length+(paren (decide (pwr (ad ns ↑k0)<11)) (E ↑k0 t)).length≤MX→ct (S.tab n) (wst ns acc t) (ad ns ↑i)=some (Sum.inl (wst ns (acc++paren (decide (pwr (ad ns ↑k0)<11)) (E ↑k0 t)) t,())):=hE.up fun n hE acc hb=>by
  rw[rX,ep,e0,ak (by omega),hE _ 11 hb];rfl
 refine(VU.and (cg ns t)).up fun n ⟨hj,hw⟩ acc hb=> ?_
 have fin:∀w:LI,acc.length+(w++paren (decide (pwr (ad ns ↑k0)<11)) (E ↑k0 t)).length≤MX→((au (S.tab n) (wst ns acc t) w).bind fun d33=>(ct (S.tab n) d33.2.1 (ad ns ↑i)).bind (aR (fun wN=>(some ((),wN.1,u9,()):Option (Unit×WT1×U9×Unit)))))=some ((),wst ns (acc++(w++paren (decide (pwr (ad ns ↑k0)<11)) (E ↑k0 t))) t,u9,()):=fun w hb=>by
  rw[VZ]at hb;rw[hw _ _ (by omega),VX];dsimp only;rw[hj _ (by rw[VZ];omega),V7];rfl
 rw[vo,ep];unfold LU at hb⊢
 by_cases p21:(ad ns ↑i).2.2.2.2.1=21
 ·rw[VY (show opn (ad ns ↑i)=21 from p21)]at hb⊢;rw[ak p21];exact fin _ hb
 rw[VW (show¬ opn (ad ns ↑i)=21 from p21)]at hb⊢;rw[ae p21]
 by_cases p22:(ad ns ↑i).2.2.2.2.1=22
 ·rw[VY (show opn (ad ns ↑i)=22 from p22)]at hb⊢;rw[ak p22];exact fin _ hb
 rw[VW (show¬ opn (ad ns ↑i)=22 from p22)]at hb⊢;rw[ae p22]
 by_cases OK:(ad ns ↑i).2.2.2.2.1=20
 ·rw[VY (show opn (ad ns ↑i)=20 from OK)]at hb⊢;rw[ak OK];exact fin _ hb
 rw[VW (show¬ opn (ad ns ↑i)=20 from OK)]at hb⊢;rw[ae OK];rw[Wb,Wb,Wb]at hb⊢
 by_cases q:(ad ns ↑k0).1=30
 ·rw[VY (show kn (ad ns ↑k0)=30 from q),V9]at hb⊢
  by_cases r:(ad ns ↑k0).2.2.2.2.1=19
  ·rw[VY (show opn (ad ns ↑k0)=19 from r),Wg]at hb⊢;simp only[VZ,V0,V5]at hb;rw[hw _ _ (by simp only[VZ,V0,V5];omega),VX,ak (by omega),e0];dsimp only;rw[aj (fF MR _ t),j5,ak q,ak r,hw _ _ (by simp only[VZ,V0,V5];omega),VX];dsimp only;rw[hj _ (by simp only[VZ,V0,V5];omega),VX];simp only[aR,Wn,V7]
  ·rw[VW (show¬ opn (ad ns ↑k0)=19 from r),Wb,Wv]at hb⊢;simp only[VZ,V0,V5]at hb;rw[hw _ _ (by simp only[VZ,V0,V5];omega),VX,ak (by omega),e0];dsimp only;rw[aj (fF MR _ t),j5,ak q,ae r,hj _ (by simp only[VZ,V0,V5];omega),VX];simp only[aR,Wn,V7]
 ·rw[VW (show¬ kn (ad ns ↑k0)=30 from q),Wc,Wb,Wv]at hb⊢;simp only[VZ,V0,V5]at hb;rw[hw _ _ (by simp only[VZ,V0,V5];omega),VX,ak (by omega),e0];dsimp only;rw[aj (fF MR _ t),j5,ae q,hj _ (by simp only[VZ,V0,V5];omega),VX];simp only[aR,Wn,V7]
end
end Go.Abs.D
end

section
namespace Go.Abs.D
def RI (ns:List Node)(k:Int)(t:Nat)(s:LI):Prop:=Evt fun n=>∀(acc:LI) (least:Int),¬ pwr (ad ns k)<least→acc.length+s.length≤MX→aJ (S.tab n) (wst ns acc t) k least=some ((),wst ns (acc++s) t,(),(),())
section
variable{ns:List Node}(cE:∀i:Nat,i<ns.length→okN ns i (ad ns (i:Int))=true)
include cE
theorem RI.re {i:Nat}(hi:i<ns.length){t:Nat}{s:LI}(h:RI ns (i:Int) t s):RE ns ↑i t s:=by
 have h0:Evt fun n=>∀(acc:LI),acc.length+s.length≤MX→aJ (S.tab n) (wst ns acc t) ↑i 0=some ((),wst ns (acc++s) t,(),(),()):=h.mono fun n h acc hb=>h acc 0 (by have:=Ga (ad ns ↑i);omega) hb
 have h1:Evt fun n=>∀(acc:LI) (least:Int),pwr (ad ns ↑i)<least→acc.length+([40]++s++[41]:LI).length≤MX→aJ (S.tab n) (wst ns acc t) ↑i least=some ((),wst ns (acc++([40]++s++[41])) t,(),(),()):=((h0.and (cg ns t)).and (EP cE)).up fun n ⟨⟨h0,hw⟩,hp⟩ acc least hl hb=>by
  simp only[VZ,V0,V5]at hb;rw[bP,j5,aj (fF hi acc t),hp i hi,VX];dsimp only;rw[ak hl,hw _ _ (by simp only[VZ,V0,V5];omega),VX];dsimp only;rw[h0 _ (by simp only[VZ,V0,V5];omega),VX];dsimp only;rw[hw _ _ (by simp only[VZ,V0,V5];omega),VX];simp only[V7]
 refine(h.and h1).mono fun n ⟨h,h1⟩ acc least hb=> ?_
 by_cases hc:pwr (ad ns ↑i)<least
 ·rw[VY hc]at hb⊢;exact h1 acc least hc hb
 ·rw[VW hc]at hb⊢;exact h acc least hc hb
theorem Jq {i:Nat}(hi:i<ns.length)(hn:A0 (ad ns (i:Int))){t:Nat}{E G:Int→Nat→LI}(Cy:kn (ad ns (i:Int))<40)(hE:∀k∈ab (ad ns (i:Int)),kn (ad ns k)<40→RE ns k t (E k t))(hN:kn (ad ns (i:Int))=35→∀k∈ab (ad ns (i:Int)),RN ns k t (E k t))(hF:kn (ad ns (i:Int))=36→RF ns (i:Int) t (fnT ns G (ad ns (i:Int)) t))
  (gk:∀k∈ab (ad ns (i:Int)),∃j:Nat,k=(j:Int)∧j<i):RE ns ↑i t (cS ns E G (ad ns ↑i) t):=by
 refine RI.re cE hi ?_;have fI:=cE i hi;have Ht:=(ik fI).2.1;have hP:=EP cE
 by_cases lM:(ad ns ↑i).1=28
 ·have hk:kn (ad ns ↑i)=28:=lM;have hI:=Av cE hi (t:=t) (.inl hk) hE gk ([32,97,110,100,32]:LI)
  have e:cS ns E G (ad ns ↑i) t=paren (decide (pwr (ad ns ((ab (ad ns ↑i)).getD 0 0))<lft (ad ns ↑i))) (E ((ab (ad ns ↑i)).getD 0 0) t)++[32,97,110,100,32]++paren (decide (pwr (ad ns ((ab (ad ns ↑i)).getD 1 0))<rgt (ad ns ↑i))) (E ((ab (ad ns ↑i)).getD 1 0) t):=by
   unfold cS kH;rw[hk];rfl
  rw[e]
  refine(hP.and hI).up fun n ⟨hp,hI⟩ acc least hl hb=> ?_
  rw[bP,j5,aj (fF hi acc t),hp i hi,VX];dsimp only;rw[ae hl,ak lM,hI _ hb];rfl
 by_cases nv:(ad ns ↑i).1=29
 ·have hk:kn (ad ns ↑i)=29:=nv;have hI:=Av cE hi (t:=t) (.inr (.inl hk)) hE gk ([32,111,114,32]:LI)
  have e:cS ns E G (ad ns ↑i) t=paren (decide (pwr (ad ns ((ab (ad ns ↑i)).getD 0 0))<lft (ad ns ↑i))) (E ((ab (ad ns ↑i)).getD 0 0) t)++[32,111,114,32]++paren (decide (pwr (ad ns ((ab (ad ns ↑i)).getD 1 0))<rgt (ad ns ↑i))) (E ((ab (ad ns ↑i)).getD 1 0) t):=by
   unfold cS kH;rw[hk];rfl
  rw[e]
  refine(hP.and hI).up fun n ⟨hp,hI⟩ acc least hl hb=> ?_
  rw[bP,j5,aj (fF hi acc t),hp i hi,VX];dsimp only;rw[ae hl,ae lM,ak nv,hI _ hb];rfl
 by_cases nM:(ad ns ↑i).1=31
 ·have hk:kn (ad ns ↑i)=31:=nM;obtain⟨_,o1,o2⟩:=yw fI hk;have hI:=Av cE hi (t:=t) (.inr (.inr hk)) hE gk ([32]++fxI (60+opn (ad ns ↑i))++[32]);have hT:=HM (60+opn (ad ns ↑i)) (by omega) (by omega);have QP:i64.wrap (60+(ad ns ↑i).2.2.2.2.1)=60+opn (ad ns ↑i):=wrap64 (60+opn (ad ns ↑i)) (by omega) (by omega)
  have e:cS ns E G (ad ns ↑i) t=paren (decide (pwr (ad ns ((ab (ad ns ↑i)).getD 0 0))<lft (ad ns ↑i))) (E ((ab (ad ns ↑i)).getD 0 0) t)++([32]++fxI (60+opn (ad ns ↑i))++[32])++paren (decide (pwr (ad ns ((ab (ad ns ↑i)).getD 1 0))<rgt (ad ns ↑i))) (E ((ab (ad ns ↑i)).getD 1 0) t):=by
   unfold cS kH;rw[hk];rfl
  rw[e]
  refine((hP.and hI).and hT).up fun n ⟨⟨hp,hI⟩,hT⟩ acc least hl hb=> ?_
  have yz:=hb;simp only[VZ,V0,V5]at yz;rw[bP,j5,aj (fF hi acc t),hp i hi,VX];dsimp only;rw[ae hl,ae lM,ae nv,ak nM,QP,hT,VX,aj (kj (by dsimp only;omega)),aj (kj (by simp only[VZ,V0,V5];omega)),hI _ hb];rfl
 by_cases ma:(ad ns ↑i).1=30
 ·have hk:kn (ad ns ↑i)=30:=ma;obtain⟨lO,_,_⟩:=LV fI hk;have m0:=aG (x:=(ad ns ↑i)) (j:=0) (by omega);obtain⟨k0,e0,b0⟩:=gk _ m0;have fB:=hE _ m0 (RY fI hk 0 (by omega));rw[e0]at fB;have hU:=I0 cE hi hk e0 (show k0<ns.length by omega) fB
  have e:cS ns E G (ad ns ↑i) t=LU (ad ns ↑i) (ad ns ↑k0)++paren (decide (pwr (ad ns ↑k0)<11)) (E ↑k0 t):=by
   unfold cS;rw[hk,e0];rfl
  rw[e]
  refine(hP.and hU).up fun n ⟨hp,hU⟩ acc least hl hb=> ?_
  rw[bP,j5,aj (fF hi acc t),hp i hi,VX];dsimp only;rw[ae hl,ae lM,ae nv,ae nM,ak ma,hU _ hb];rfl
 by_cases h32:(ad ns ↑i).1=32
 ·have hk:kn (ad ns ↑i)=32:=h32;have lO:=N2 fI hk;have m0:=aG (x:=(ad ns ↑i)) (j:=0) (by omega);obtain⟨k0,e0,b0⟩:=gk _ m0;have fB:=hE _ m0 (PR fI hk 0 (by omega));rw[e0]at fB;have yy:=(hE _ (aG (x:=(ad ns ↑i)) (j:=1) (by omega)) (PR fI hk 1 (by omega))).zero;unfold cS;rw[hk,e0];show RI ns ↑i t (rG ns E ↑k0 t++[91]++E ((ab (ad ns ↑i)).getD 1 0) t++[93])
  refine((hP.and (Au (show k0<ns.length by omega) fB)).and (yy.and (cg ns t))).up fun n ⟨⟨hp,hB⟩,yy,hw⟩ acc least hl hb=> ?_
  unfold rG at hb⊢;simp only[VZ,V0,V5]at hb;rw[bP,j5,ep,aj (fF hi acc t),hp i hi,VX];dsimp only;rw[ae hl,ae lM,ae nv,ae nM,ae ma,ak h32,ak (by omega),e0,hB _ (by omega),VX];dsimp only;rw[hw _ _ (by simp only[VZ,V0,V5];omega),VX,ak (by omega)];dsimp only;rw[yy _ (by simp only[VZ,V0,V5];omega),VX];dsimp only;rw[hw _ _ (by simp only[VZ,V0,V5];omega),VX];simp only[V7]
 by_cases h33:(ad ns ↑i).1=33
 ·have hk:kn (ad ns ↑i)=33:=h33;have lO:=NY fI hk;have m0:=aG (x:=(ad ns ↑i)) (j:=0) (by omega);obtain⟨k0,e0,b0⟩:=gk _ m0;have fB:=hE _ m0 (RK fI hk 0 (by omega));rw[e0]at fB;have OF:(ad ns ↑i).2.2.2.2.2.2.1=txn (ad ns ↑i):=rfl;unfold cS;rw[hk,e0];show RI ns ↑i t (rG ns E ↑k0 t++([46]++txn (ad ns ↑i)))
  refine((hP.and (Au (show k0<ns.length by omega) fB)).and (cg ns t)).up fun n ⟨⟨hp,hB⟩,hw⟩ acc least hl hb=> ?_
  unfold rG at hb⊢;simp only[VZ,V0,V5]at hb;rw[bP,j5,ep,OF,aj (fF hi acc t),hp i hi,VX];dsimp only;rw[ae hl,ae lM,ae nv,ae nM,ae ma,ae h32,ak h33,ak (by omega),e0,hB _ (by omega),VX,aj (kj (by omega))];dsimp only;rw[hw _ _ (by simp only[VZ,V0,V5];omega),VX];simp only[V7]
 by_cases ve:(ad ns ↑i).1=34
 ·have hk:kn (ad ns ↑i)=34:=ve;have lO:=NQ fI hk;have m0:=aG (x:=(ad ns ↑i)) (j:=0) (by omega);obtain⟨k0,e0,b0⟩:=gk _ m0;have fB:=hE _ m0 (PM fI hk 0 (by omega));rw[e0]at fB
  have BN:sub (ab (ad ns ↑i)) 1 ((ab (ad ns ↑i)).length:Int)=(ab (ad ns ↑i)).tail:=by
   show((ab (ad ns ↑i)).take (ab (ad ns ↑i)).length).drop 1=_;rw[List.take_length,List.drop_one]
  have Mb:bounds (ab (ad ns ↑i)).length 1 ((ab (ad ns ↑i)).length:Int)=true:=b9 (i:=1) lO (Wp _)
  have hL:=lY ns E t (ab (ad ns ↑i)).tail (by simp;omega) (fun k hm=>by
   have MM:=List.mem_of_mem_tail hm;obtain⟨j,hj,ej⟩:=List.mem_iff_getElem.1 MM;have:=PM fI hk j hj;rw[Wm,Wl hj]at this
   exact hE k MM (by rw[←ej];exact this))
  unfold cS;rw[hk,e0];show RI ns ↑i t (rG ns E ↑k0 t++[40]++cy E (ab (ad ns ↑i)).tail t++[41])
  refine((hP.and (Au (show k0<ns.length by omega) fB)).and (hL.and (cg ns t))).up fun n ⟨⟨hp,hB⟩,hL,hw⟩ acc least hl hb=> ?_
  unfold rG at hb⊢;simp only[VZ,V0,V5]at hb;rw[bP,j5,ep,aj (fF hi acc t),hp i hi,VX];dsimp only;rw[ae hl,ae lM,ae nv,ae nM,ae ma,ae h32,ae h33,ak ve,ak (by omega),e0,hB _ (by omega),VX];dsimp only;rw[hw _ _ (by simp only[VZ,V0,V5];omega),VX,aj Mb,BN];dsimp only;rw[hL _ (by simp only[VZ,V0,V5];omega),VX];dsimp only;rw[hw _ _ (by simp only[VZ,V0,V5];omega),VX];simp only[V7]
 by_cases x7:(ad ns ↑i).1=35
 ·have hk:kn (ad ns ↑i)=35:=x7;have hT:=I5 ns E t (ad ns ↑i) (by omega) (hN hk);unfold cS;rw[hk];show RI ns ↑i t ([123]++cy E (ab (ad ns ↑i)) t++[125])
  refine(hP.and hT).up fun n ⟨hp,hT⟩ acc least hl hb=> ?_
  rw[bP,j5,aj (fF hi acc t),hp i hi,VX];dsimp only;rw[ae hl,ae lM,ae nv,ae nM,ae ma,ae h32,ae h33,ae ve,ak x7,hT _ hb];rfl
 by_cases qn:(ad ns ↑i).1=36
 ·have hk:kn (ad ns ↑i)=36:=qn;have hB:=hF hk;unfold cS;rw[hk];show RI ns ↑i t ([102,110]++fnT ns G (ad ns ↑i) t)
  refine((hP.and hB).and (cg ns t)).up fun n ⟨⟨hp,hB⟩,hw⟩ acc least hl hb=> ?_
  simp only[VZ,V0,V5]at hb;rw[bP,j5,aj (fF hi acc t),hp i hi,VX];dsimp only;rw[ae hl,ae lM,ae nv,ae nM,ae ma,ae h32,ae h33,ae ve,ae x7,ak qn,hw _ _ (by simp only[VZ,V0,V5];omega),VX];dsimp only;rw[hB _ (by simp only[VZ,V0,V5];omega),VX];simp only[V7]
 by_cases h37:(ad ns ↑i).1=37
 ·have hk:kn (ad ns ↑i)=37:=h37;have lO:=N0 fI hk;have fB:=(hE _ (aG (x:=(ad ns ↑i)) (j:=0) (by omega)) (R7 fI hk 0 (by omega))).zero;unfold cS;rw[hk];show RI ns ↑i t ([40]++E ((ab (ad ns ↑i)).getD 0 0) t++[41])
  refine((hP.and fB).and (cg ns t)).up fun n ⟨⟨hp,fB⟩,hw⟩ acc least hl hb=> ?_
  simp only[VZ,V0,V5]at hb;rw[bP,j5,ep,aj (fF hi acc t),hp i hi,VX];dsimp only;rw[ae hl,ae lM,ae nv,ae nM,ae ma,ae h32,ae h33,ae ve,ae x7,ae qn,ak h37,hw _ _ (by simp only[VZ,V0,V5];omega),VX,ak (by omega)];dsimp only;rw[fB _ (by simp only[VZ,V0,V5];omega),VX];dsimp only;rw[hw _ _ (by simp only[VZ,V0,V5];omega),VX];simp only[V7]
 have e:cS ns E G (ad ns ↑i) t=plT (ad ns ↑i):=by
  unfold cS plT
  have d:∀c:Int,¬ (ad ns ↑i).1=c→decide (kn (ad ns ↑i)=c)=false:=fun c h=>VW h
  have d40:∀c:Int,40≤c→decide (kn (ad ns ↑i)=c)=false:=fun c h=>VW (by omega)
  rw[d _ lM,d _ nv,d _ nM,d _ ma,d _ h32,d _ h33,d _ ve,d _ x7,d _ qn,d _ h37,d40 40 (by decide),d40 41 (by decide),d40 42 (by decide)]
  by_cases c20:kn (ad ns ↑i)=20
  ·rw[c20];rfl
  by_cases c21:kn (ad ns ↑i)=21
  ·rw[c21];rfl
  by_cases c22:kn (ad ns ↑i)=22
  ·rw[c22];rfl
  by_cases c27:kn (ad ns ↑i)=27
  ·rw[c27];rfl
  by_cases c23:kn (ad ns ↑i)=23
  ·rw[c23];rfl
  by_cases c24:kn (ad ns ↑i)=24
  ·rw[c24];rfl
  by_cases c26:kn (ad ns ↑i)=26
  ·rw[c26];rfl
  by_cases c25:kn (ad ns ↑i)=25
  ·rw[c25];rfl
  rw[VW c20,VW c21,VW c22,VW c27,VW c23,VW c24,VW c26,VW c25];rfl
 rw[e]
 refine(hP.and (Jh ns t hn fI)).up fun n ⟨hp,x8⟩ acc least hl hb=> ?_
 rw[bP,j5,aj (fF hi acc t),hp i hi,VX];dsimp only;rw[ae hl,ae lM,ae nv,ae nM,ae ma,ae h32,ae h33,ae ve,ae x7,ae qn,ae h37,x8 _ hb];rfl
end
end Go.Abs.D
end
