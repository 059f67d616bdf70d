/- What is here: the given nodeOk, piece by piece, as a law on numbers. -/
import Derived.Test.YtkappmlkcdbjnaaGreatDoorT4
set_option autoImplicit true
set_option relaxedAutoImplicit true
set_option linter.all false
set_option maxRecDepth 100000
open Go.IntKind (i64 u64 u8)
open And renaming intro → aM
open BitVec renaming ofInt → bn7
open Bool renaming and_eq_false_iff → cQ, and_eq_true → aA, and_false → aT, and_self → bP, false → aq, false_and → cF, false_eq_true → cf, false_or → bH, not_eq_true' → bU, not_false → bC, not_true → bM, or_eq_true → cO, true → av, true_and → bD, true_or → bo1
open Decidable renaming decide → I, not_not → bV
open Go.IntKind renaming i64 → ar, u64 → aJ, u8 → aO
open Go.Lib renaming decDigits → cS
open Int renaming le_refl → cM, reduceEq → ba, reduceLE → bc, toNat_natCast → bm
open List renaming all_cons → cE, all_eq_true → aK, append_assoc → aC, drop_eq_getElem_cons → bG, drop_zero → bY, eq_nil_of_length_eq_zero → bu, ext_getElem? → bn5, flatMap_cons → bE, getD_eq_getElem?_getD → aG, getElem?_drop → cJ, getElem?_eq_getElem → aL, getElem?_eq_none → bR, getElem?_map → bn4, getElem?_take → cT, getElem_mem → bF, length_append → au, length_cons → aw, length_map → cH, length_nil → ay, length_set → cA, length_singleton → cR, length_take → bl, map_append → bq2, map_cons → cw, mem_append → aP, mem_cons → bA, mem_cons_of_mem → aB, mem_cons_self → aD, mem_iff_getElem → bp2, mem_of_mem_drop → bn2, mem_of_mem_take → bn1, mem_range → cL, mem_singleton → cg, nil_append → cG, range → cN, replicate → aN, take_length → cy, take_of_length_le → bo4, take_succ_eq_append_getElem → cP
open Nat renaming beq → ax, blt → cd, eq_of_beq_eq_true → b8, le_of_ble_eq_true → aR, le_refl → aF, le_trans → bn8, lt_or_ge → bB, mod_lt → bs3, zero_le → aU
open Option renaming bind_some → al, none → az, some → U
open Sum renaming elim_inl → aH, elim_inr → aW, inl → an, inr → aE
section
namespace Go.Abs.D
def n7 (k:Int):Bool:=(20<=k)&&(k<=37)
def gB (k:Int):Bool:=(1<=k)&&(k<=16)
def iy (k:Int):Bool:=(40<=k)&&(k<=42)
def jv (k:Int):Bool:=(k=26)||(k=32||decide (k=33))
def PL (a b c d:Bool)(nn op num:Int)(text:LI):Bool:=(a||decide (nn=0))&&((b||decide (op=0))&&((c||decide (num=0))&&(d||decide (text=[]))))
def EX (ks:LI)(i j:Nat):Bool:=(eV ks i j).all n7
def BS (ks:LI):Bool:=(1<=ks.length)&&(n7 (get ks 0)&& !(get ks 0=27))
def ix:brk av x y=x:=c8 rfl
def gH:brk aq x y=y:=dz rfl
def aQ7:brk b (U (an (c,()))) (U (an (aq,()):(Bool×Unit)⊕β))=U (an (b&&c,())):=by cases b<;>simp[ix,gH]
def aQ4:brk (!b) (U (an (aq,()):(Bool×Unit)⊕β)) (U (an (c,())))=U (an (b&&c,())):=by cases b<;>simp[ix,gH]
def aQ3:brk a (U (an (av,()):(Bool×Unit)⊕β)) (U (an (b,())))=U (an (a||b,())):=by cases a<;>simp[ix,gH]
def aU2:brk a (U (an (c,()):(Bool×Unit)⊕β)) (U (an (b&&c,())))=U (an ((a||b)&&c,())):=by cases a<;>simp[ix,gH]
def aU0:brk a x (brk b x y)=brk (a||b) x y:=by cases a<;>simp[ix,gH]
def uY (h:c=av->a=U v)(k:c=aq->b=U w):brk c a b=U (bif c then v else w):=by
 cases c
 ·exact(dz rfl).trans (k rfl)
 ·exact(c8 rfl).trans (h rfl)
def BA:(∀{ρ:Type}{x y:Option ρ},brk av x y=x)/\(∀{ρ:Type}{x y:Option ρ},brk aq x y=y)/\(∀{ρ:Type}{a b:Bool}{x y:Option ρ},brk a x (brk b x y)=brk (a||b) x y)/\
  (∀{β:Type} {b c:Bool},brk b (U (an (c,()))) (U (an (aq,()):(Bool×Unit)⊕β))=U (an (b&&c,())))/\
  (∀{β:Type} {b c:Bool},brk (!b) (U (an (aq,()):(Bool×Unit)⊕β)) (U (an (c,())))=U (an (b&&c,())))/\
  (∀{β:Type} {a b:Bool},brk a (U (an (av,()):(Bool×Unit)⊕β)) (U (an (b,())))=U (an (a||b,())))/\
  (∀{β:Type} {a b c:Bool},brk a (U (an (c,()):(Bool×Unit)⊕β)) (U (an (b&&c,())))=U (an ((a||b)&&c,())))/\
  (∀a:Bool,(av&&a)=a)/\(∀a:Bool,(a&&av)=a)/\(∀a:Bool,(aq&&a)=aq)/\(∀a:Bool,(a&&aq)=aq)/\(∀a:Bool,(aq||a)=a)/\(∀a:Bool,(a||aq)=a)/\(∀a:Bool,(av||a)=av)/\(∀a:Bool,(a||av)=av):=
 ⟨ix,gH,aU0,aQ7,aQ4,aQ3,aU2,bD,Bool.and_true,cF,aT,bH,Bool.or_false,bo1,Bool.or_true⟩
def o2 (y:(Bool×Unit)⊕Unit⊕Empty):ep (λy=>U (an y)) (λ_=>U (aE (an ()))) y=U y:=by
 rcases y with y|y|y
 ·rfl
 ·rfl
 grind
def wr:ar.wrap 0=0/\ar.wrap 1=1/\ar.wrap 2=2/\ar.wrap 3=3:=by decide
abbrev An:Type:=(Bool×Unit)⊕(Unit)⊕Empty
def An.val (y:An):Bool:=y.elim (λy=>y.1) λ_=>aq
structure IF (T:S.Tab)(ks:LI)(nn op num:Int)(text:LI):Prop where
 pl:∀a b c d,dV T a b c d nn op num text=U (PL a b c d nn op num text,(),(),(),(),nn,op,num,text,())
 He:1<=ks.length->dU T 0 1 ks=U (EX ks 0 1,(),(),ks,())
 P3:2<=ks.length->dU T 0 2 ks=U (EX ks 0 2,(),(),ks,())
 Kc:dU T 0 (ks.length:Int) ks=U (EX ks 0 ks.length,(),(),ks,())
 Hf:1<=ks.length->dU T 0 (ar.wrap ((ks.length:Int) - 1)) ks=U (EX ks 0 (ks.length - 1),(),(),ks,())
 aH1:1<=num->num<=ks.length->dU T num (ks.length:Int) ks=U (EX ks num.toNat ks.length,(),(),ks,())
 bs:pH T (ks.length:Int) ks=U (BS ks,(ks.length:Int),ks,())
 gn:kH T text=U (jS 1 text,cV)
 gf:qv T text=U (jS 3 text,cV)
 aO8:∀v lo hi,ni T v lo hi=U (I (lo<=v)&&I (v<=hi),dR)
 l26:jU T nn op num text ks (ks.length:Int) 0=U (bif ks.all gB then aE (an (nn,op,num,text,()))else an (aq,()))
 aN6:jW T nn op num text ks (ks.length:Int) 0=U (bif ks.all iy then aE (an (nn,op,num,text,()))else an (aq,()))
 a45:1<=num->num<=ks.length->gk T ks num (ks.length:Int) (sub ks 0 num) ((sub ks 0 num).length:Int) 0=U (bif(eV ks 0 num.toNat).all jv then aE (an (ks,num,(ks.length:Int),()))else an (aq,()))
variable{ks:LI}{nn op num:Int}{text:LI}
def R84 (ks:LI)(nn op num:Int)(text:LI)(kind:Int)(fl:Bool):An:=
 bif fl then an (PL aq aq aq aq nn op num text&&((ks.length:Int)=2&&(EX ks 0 2)),())else
 bif(kind=30)then an (PL aq av aq aq nn op num text&&((19<=op&&op<=22)&&((ks.length:Int)=1&&(EX ks 0 1))),())else
 bif(kind=31)then an (PL aq av aq aq nn op num text&&((1<=op&&op<=18)&&((ks.length:Int)=2&&(EX ks 0 2))),())else
 bif(kind=32)then an (PL aq aq aq aq nn op num text&&((ks.length:Int)=2&&(BS ks&&(EX ks 0 2))),())else
 bif(kind=33)then an (PL aq aq aq av nn op num text&&((ks.length:Int)=1&&(BS ks&&(jS 1 text))),())else
 bif(kind=34)then an (PL aq aq aq aq nn op num text&&(BS ks&&(EX ks 0 ks.length)),())else
 bif(kind=35)then an (ks.all iy&&(PL aq aq aq aq nn op num text),())else
 bif(kind=36)then an (PL av av aq aq nn op num text&&((0<=op&&op<=1)&&((ks.length:Int)=1&&(ks.getD 0 0=1))),())else
 bif(kind=37)then an (PL aq aq aq aq nn op num text&&((ks.length:Int)=1&&(ks.getD 0 0=34||decide (ks.getD 0 0=27))),())else
 bif(kind=42)then an (PL aq aq aq av nn op num text&&((ks.length:Int)=1&&(EX ks 0 1&&(jS 1 text))),())else
 aE (an ())
def r84 (h:IF T ks nn op num text)(hl:ks.length<=200) (kind) (fl):mq (S.step T) ks nn op num text ks.length kind fl=U (R84 ks nn op num text kind fl):=by
 rw[C3];unfold R84;have A:=aM h.pl (aM h.aO8 (aM h.gn (aM h.gf (aM h.Kc (aM h.bs (aM h.aN6 (aM wr BA)))))))
 by_cases n1:ks.length=1
 ·have e3:=h.Hf;rw[n1,show((1:Nat):Int)=1 from rfl]at A e3⊢
  repeat' refine uY (λk=> ?_) (λk=> ?_)
  all_goals first|(done)|(cases c:ks.all iy<;>simp[A,c,ep])
 by_cases n2:ks.length=2
 ·have e3:=h.Hf;rw[n2,show((2:Nat):Int)=2 from rfl]at A e3⊢
  repeat' refine uY (λk=> ?_) (λk=> ?_)
  all_goals first|(done)|(cases c:ks.all iy<;>simp[A,c,ep])
 have m1:¬(ks.length:Int)=1:=(by omega);have m2:¬(ks.length:Int)=2:=(by omega)
 repeat' refine uY (λk=> ?_) (λk=> ?_)
 all_goals first|(simp[A,m1,m2];done)|(cases c:ks.all iy<;>simp[A,c,ep])
def R72 (ks:LI)(nn op num:Int)(text:LI)(kind:Int)(fl:Bool):An:=
 bif fl then an (PL aq aq aq aq nn op num text&&((ks.length:Int)=1&&(EX ks 0 1)),())else
 bif(kind=23)then an (PL aq aq av aq nn op num text&&((ks.length:Int)=0),())else
 bif(kind=24)then an (PL aq aq aq av nn op num text&&((ks.length:Int)=0&&(jS 3 text)),())else
 bif(kind=25)then an (PL aq aq aq av nn op num text&&((ks.length:Int)=0&&((text.length:Int)<=4000)),())else
 bif(kind=26)then an (PL aq aq aq av nn op num text&&((ks.length:Int)=0&&(jS 1 text)),())else
 bif(kind=28)then R84 ks nn op num text kind av else
 bif(kind=29)then R84 ks nn op num text kind av else
 R84 ks nn op num text kind (kind=41)
def r72 (h:IF T ks nn op num text)(hl:ks.length<=200) (kind) (a16:∀fl,mq T ks nn op num text ks.length kind fl=U (R84 ks nn op num text kind fl)) (fl):nx (S.step T) ks nn op num text ks.length kind fl=U (R72 ks nn op num text kind fl):=by
 rw[C9];unfold R72;have A:=aM h.pl (aM h.aO8 (aM h.gn (aM h.gf (aM h.Kc (aM h.bs (aM h.aN6 (aM wr (aM a16 BA))))))))
 by_cases n0:ks.length=0
 ·have e3:=h.Hf;rw[n0,show((0:Nat):Int)=0 from rfl]at A e3⊢
  repeat' refine uY (λk=> ?_) (λk=> ?_)
  all_goals first|(simp[A,o2,k];done)|(cases c)
 by_cases n1:ks.length=1
 ·have e3:=h.Hf;rw[n1,show((1:Nat):Int)=1 from rfl]at A e3⊢
  repeat' refine uY (λk=> ?_) (λk=> ?_)
  all_goals first|(simp[A,o2,k];done)|(cases c)
 have m1:¬(ks.length:Int)=1:=(by omega)
 repeat' refine uY (λk=> ?_) (λk=> ?_)
 all_goals first|(simp[A,o2,k,m1];done)|(cases c)
def R65 (ks:LI)(nn op num:Int)(text:LI)(kind:Int)(fl:Bool):An:=
 bif fl then an (PL aq aq aq aq nn op num text&&((ks.length:Int)=0),())else
 bif(kind=13)then an (PL aq aq aq aq nn op num text&&(EX ks 0 ks.length),())else
 bif(kind=14)then an (PL av aq aq aq nn op num text&&((nn=1||decide (nn=2))&&((ks.length:Int)=2&&(ks.getD 0 0=1&&(ks.getD 1 0=1)))),())else
 bif(kind=15)then R72 ks nn op num text kind av else
 R72 ks nn op num text kind (kind=40)
def r65 (h:IF T ks nn op num text)(hl:ks.length<=200) (kind) (aX1:∀fl,nx T ks nn op num text ks.length kind fl=U (R72 ks nn op num text kind fl)) (fl):jj (S.step T) ks nn op num text ks.length kind fl=U (R65 ks nn op num text kind fl):=by
 rw[De];have A:=aM h.pl (aM h.aO8 (aM h.gn (aM h.gf (aM h.Kc (aM h.bs (aM h.aN6 (aM wr (aM aX1 BA))))))))
 by_cases n0:ks.length=0
 ·have e3:=h.Hf;rw[n0,show((0:Nat):Int)=0 from rfl]at A e3⊢
  repeat' refine uY (λk=> ?_) (λk=> ?_)
  all_goals first|(simp[A,o2,k,n0];done)|(cases c)
 by_cases n2:ks.length=2
 ·have e3:=h.Hf;rw[n2,show((2:Nat):Int)=2 from rfl]at A e3⊢
  repeat' refine uY (λk=> ?_) (λk=> ?_)
  all_goals first|(simp[A,o2,k,n2];done)|(cases c)
 have m2:¬(ks.length:Int)=2:=(by omega)
 repeat' refine uY (λk=> ?_) (λk=> ?_)
 all_goals first|(simp[A,o2,k,m2];done)|(cases c)
def R50 (ks:LI)(nn op num:Int)(text:LI)(kind:Int)(fl:Bool):An:=
 bif fl then an (PL aq aq aq aq nn op num text&&((ks.length:Int)=1&&(ks.getD 0 0=34)),())else
 bif(kind=7)then an (PL aq aq aq aq nn op num text&&(((ks.length:Int)=2||decide ((ks.length:Int)=3))&&(EX ks 0 1&&(ks.getD 1 0=1&&((ks.length:Int)=2||(ks.getD 2 0=1||decide (ks.getD 2 0=7)))))),())else
 bif(kind=8)then an (PL aq aq aq aq nn op num text&&((ks.length:Int)=2&&(EX ks 0 1&&(ks.getD 1 0=1))),())else
 bif(kind=9)then an (PL av aq aq aq nn op num text&&(nn=1&&(((ks.length:Int)=3||decide ((ks.length:Int)=4))&&(EX ks 0 (ks.length - 1)&&(ks.getD (ks.length - 1) 0=1)))),())else
 bif(kind=10)then an (PL av aq aq aq nn op num text&&(1<=nn&&((ks.length:Int)=2&&(EX ks 0 1&&(ks.getD 1 0=1)))),())else
 bif(kind=11)then R65 ks nn op num text kind av else
 bif(kind=12)then R65 ks nn op num text kind av else
 bif(kind=20)then R65 ks nn op num text kind av else
 bif(kind=21)then R65 ks nn op num text kind av else
 bif(kind=22)then R65 ks nn op num text kind av else
 R65 ks nn op num text kind (kind=27)
def r50 (h:IF T ks nn op num text)(hl:ks.length<=200) (kind) (aZ6:∀fl,jj T ks nn op num text ks.length kind fl=U (R65 ks nn op num text kind fl)) (fl):pd (S.step T) ks nn op num text ks.length kind fl=U (R50 ks nn op num text kind fl):=by
 rw[C1];unfold R50;have A:=aM h.pl (aM h.aO8 (aM h.gn (aM h.gf (aM h.Kc (aM h.bs (aM h.aN6 (aM wr (aM aZ6 BA))))))))
 by_cases n1:ks.length=1
 ·have e1:=h.He;have e2:=h.P3;have e3:=h.Hf;rw[n1]at e1 e2;rw[n1,show((1:Nat):Int)=1 from rfl]at A e3⊢
  repeat' refine uY (λk=> ?_) (λk=> ?_)
  all_goals first|(simp[A,o2,k,n1];done)|(cases c)
 by_cases n2:ks.length=2
 ·have e1:=h.He;have e2:=h.P3;have e3:=h.Hf;rw[n2,show((2:Nat):Int)=2 from rfl]at A e3⊢
  repeat' refine uY (λk=> ?_) (λk=> ?_)
  all_goals first|(simp[A,o2,k,n2,e1];done)|(cases c)
 by_cases n3:ks.length=3
 ·have e1:=h.He;have e2:=h.P3;have e3:=h.Hf;rw[n3]at e1 e2;rw[n3,show((3:Nat):Int)=3 from rfl]at A e3⊢
  repeat' refine uY (λk=> ?_) (λk=> ?_)
  all_goals first|(simp[A,o2,k,n3,e1,e2];done)|(cases c)
 by_cases n4:ks.length=4
 ·have e1:=h.He;have e2:=h.P3;have e3:=h.Hf;rw[n4]at e1 e2;rw[n4,show((4:Nat):Int)=4 from rfl]at A e3⊢;rw[show ar.wrap (4 - 1)=3 by decide]at e3
  repeat' refine uY (λk=> ?_) (λk=> ?_)
  all_goals first|(simp[A,o2,k,n4,e1,e3];done)|(cases c)
 have m1:¬(ks.length:Int)=1:=(by omega);have m2:¬(ks.length:Int)=2:=(by omega);have m3:¬(ks.length:Int)=3:=(by omega);have m4:¬(ks.length:Int)=4:=(by omega)
 repeat' refine uY (λk=> ?_) (λk=> ?_)
 all_goals first|(simp[A,o2,k,m1,m2,m3,m4];done)|(cases c)
end Go.Abs.D
end

section
namespace Go.Abs.D
abbrev Tr:Type:=List cZ.den×Unit
abbrev AnS:Type:=(Bool×Unit)⊕(Tr×cZ.den×Int×Unit)⊕Empty
def Zd {β:Type}{a c:Bool}:brk a (U (an (aq,()):(Bool×Unit)⊕β)) (U (an (c,())))=U (an (!a&&c,())):=by cases a<;>simp[ix,gH]
def NM (names:List LI)(a b:Int):Bool:=(a<=names.length)&&(names.length<=b&&names.all (jS 1))
structure SF (T:S.Tab)(t:Tr)(x:cZ.den)(ks:LI)(names:List LI)(op num:Int)(text:LI):Prop where
 aN2:x.2.2.2.2.1=op
 ZC:x.2.2.2.2.2.1=num
 Qa:x.2.2.2.2.2.2.1=text
 UC:x.2.2.2.2.2.2.2.2.1.length=ks.length
 pl:∀a b c d,ed T x a b c d=U (PL d a b c (names.length:Int) op num text,eN)
 nm:∀a b,lJ T x a b=U (NM names a b,oC)
 He:1<=ks.length->dY T t x 0 1=U (EX ks 0 1,gr)
 P3:2<=ks.length->dY T t x 0 2=U (EX ks 0 2,gr)
 Kc:dY T t x 0 (ks.length:Int)=U (EX ks 0 ks.length,gr)
 Hf:1<=ks.length->dY T t x 0 (ar.wrap ((ks.length:Int) - 1))=U (EX ks 0 (ks.length - 1),gr)
 aH1:1<=num->num<=ks.length->dY T t x num (ks.length:Int)=U (EX ks num.toNat ks.length,gr)
 k0:1<=ks.length->ft T t x 0=U (ks.getD 0 0,nR)
 k1:2<=ks.length->ft T t x 1=U (ks.getD 1 0,nR)
 k2:3<=ks.length->ft T t x 2=U (ks.getD 2 0,nR)
 km:1<=ks.length->ft T t x (ar.wrap ((ks.length:Int) - 1))=U (ks.getD (ks.length - 1) 0,nR)
 gn:lF T text=U (jS 1 text,cV)
 gf:sO T text=U (jS 3 text,cV)
 l5:gX T t x (ks.length:Int) 0=U (bif ks.all gB then aE (an (x,()))else an (aq,()))
 aN3:gu T t x (ks.length:Int) 0=U (bif ks.all iy then aE (an (x,()))else an (aq,()))
 a34:1<=num->num<=ks.length->gK T t x (ks.length:Int) 0=U (bif(eV ks 0 num.toNat).all jv then aE (an (t,x,(ks.length:Int),()))else an (aq,()))
variable{t:Tr}{x:cZ.den}{ks:LI}{names:List LI}{op num:Int}{text:LI}
def bO {y:AnS}(h:o=U y):o.bind (ep (λy=>U (an y)) λy=>U (aE (an (y.1,y.2.1,y.2.2.1,()))))=U y:=by
 subst h
 rcases y with y|y|y
 ·rfl
 ·rfl
 grind
def Q41 (t:Tr)(x:cZ.den)(ks:LI)(names:List LI)(op num:Int)(text:LI)(kind:Int)(fl:Bool):AnS:=
 bif fl then an (PL aq aq aq aq names.length op num text&&((ks.length:Int)=0),())else
 bif(kind=13)then an (PL aq aq aq aq names.length op num text&&(EX ks 0 ks.length),())else
 bif(kind=14)then an (PL av aq aq aq names.length op num text&&(NM names 1 2&&((ks.length:Int)=2&&(ks.getD 0 0=1&&(ks.getD 1 0=1)))),())else
 aE (an (t,x,ks.length,()))
def q41 (h:SF T t x ks names op num text)(hl:ks.length<=200) (kind) (fl):kh (S.step T) t x ks.length kind fl=U (Q41 t x ks names op num text kind fl):=by
 rw[yu];unfold Q41;have A:=aM h.aN2 (aM h.UC (aM h.ZC (aM h.Qa (aM h.pl (aM h.nm (aM h.gn (aM h.gf (aM h.Kc (aM h.l5 (aM h.aN3 (aM wr (aM @Zd (BA)))))))))))));have E:=aM h.He (aM h.P3 (aM h.k0 (aM h.k1 h.k2)))
 by_cases n2:ks.length=2
 ·grind
 have m2:¬(ks.length:Int)=2:=(by omega)
 grind
def Q28 (t:Tr)(x:cZ.den)(ks:LI)(names:List LI)(op num:Int)(text:LI)(kind:Int)(fl:Bool):AnS:=
 bif fl then an (PL aq aq aq aq names.length op num text&&((ks.length:Int)=1&&(ks.getD 0 0=34)),())else
 bif(kind=7)then an (PL aq aq aq aq names.length op num text&&(!((ks.length:Int)<2)&&(!(3<(ks.length:Int))&&(EX ks 0 1&&(ks.getD 1 0=1&&((ks.length:Int)=2||(ks.getD 2 0=1||decide (ks.getD 2 0=7))))))),())else
 bif(kind=8)then an (PL aq aq aq aq names.length op num text&&((ks.length:Int)=2&&(EX ks 0 1&&(ks.getD 1 0=1))),())else
 bif(kind=9)then an (PL av aq aq aq names.length op num text&&(NM names 1 1&&(((ks.length:Int)=3||decide ((ks.length:Int)=4))&&(EX ks 0 (ks.length - 1)&&(ks.getD (ks.length - 1) 0=1)))),())else
 bif(kind=10)then an (PL av aq aq aq names.length op num text&&(NM names 1 200&&((ks.length:Int)=2&&(EX ks 0 1&&(ks.getD 1 0=1)))),())else
 bif(kind=11)then Q41 t x ks names op num text kind av else
 Q41 t x ks names op num text kind (kind=12)
def q28 (h:SF T t x ks names op num text)(hl:ks.length<=200) (kind) (Ks:∀fl,kh T t x ks.length kind fl=U (Q41 t x ks names op num text kind fl)) (fl):lO (S.step T) t x ks.length kind fl=U (Q28 t x ks names op num text kind fl):=by
 rw[yq];unfold Q28;have A:=aM h.aN2 (aM h.UC (aM h.ZC (aM h.Qa (aM h.pl (aM h.nm (aM h.gn (aM h.gf (aM h.Kc (aM h.l5 (aM h.aN3 (aM wr (aM wr (aM @Zd (BA))))))))))))));have E:=aM h.He (aM h.P3 (aM h.k0 (aM h.k1 h.k2)));have F:=aM h.Hf h.km
 by_cases n1:ks.length=1
 ·rw[n1]at E
  repeat' refine uY (λk=> ?_) (λk=> ?_)
  all_goals first|exact(bO (Ks _)).trans (by simp[k])|(simp[A,n1,E,F];done)|(cases c)
 by_cases n2:ks.length=2
 ·rw[n2]at E
  repeat' refine uY (λk=> ?_) (λk=> ?_)
  all_goals first|exact(bO (Ks _)).trans (by simp[k])|(simp[A,n2,E];done)|(cases c)
 by_cases n3:ks.length=3
 ·rw[n3]at E
  repeat' refine uY (λk=> ?_) (λk=> ?_)
  all_goals first|exact(bO (Ks _)).trans (by simp[k])|(simp[A,n3,E];done)|(cases c)
 by_cases n4:ks.length=4
 ·rw[n4]at E;rw[n4,show((4:Nat):Int)=4 from rfl]at A F Ks⊢;rw[show ar.wrap (4 - 1)=3 by decide]at F
  repeat' refine uY (λk=> ?_) (λk=> ?_)
  all_goals first|exact(bO (Ks _)).trans (by simp[k])|(simp[A,n4,E,F];done)|(cases c)
 have m1:¬(ks.length:Int)=1:=(by omega);have m2:¬(ks.length:Int)=2:=(by omega);have m3:¬(ks.length:Int)=3:=(by omega);have m4:¬(ks.length:Int)=4:=(by omega)
 have m5:((ks.length:Int)<2||decide (3<(ks.length:Int)))=true:=by simp;omega
 have m6:(!((ks.length:Int)<2)&& !(3<(ks.length:Int)))=false:=by rw[<-Bool.not_or,m5];rfl
 repeat' refine uY (λk=> ?_) (λk=> ?_)
 all_goals first|exact(bO (Ks _)).trans (by simp[k])|(simp[A,m1,m2,m3,m4,m5,<-Bool.and_assoc,m6];done)|(cases c)
def Q18 (t:Tr)(x:cZ.den)(ks:LI)(names:List LI)(op num:Int)(text:LI)(kind:Int)(fl:Bool):AnS:=
 bif fl then an ((ks.length:Int)=2&&(EX ks 0 2&&(PL aq aq aq aq names.length op num text)),())else
 bif(kind=32)then an ((ks.length:Int)=2&&(EX ks 0 2&&(!(ks.getD 0 0=27)&&(PL aq aq aq aq names.length op num text))),())else
 bif(kind=30)then an ((ks.length:Int)=1&&(EX ks 0 1&&(PL aq av aq aq names.length op num text&&(19<=op&&(op<=22)))),())else
 bif(kind=31)then an ((ks.length:Int)=2&&(EX ks 0 2&&(PL aq av aq aq names.length op num text&&(1<=op&&(op<=18)))),())else
 bif(kind=33)then an ((ks.length:Int)=1&&(EX ks 0 1&&(!(ks.getD 0 0=27)&&(PL aq aq aq av names.length op num text&&(jS 1 text)))),())else
 bif(kind=34)then an (1<=(ks.length:Int)&&(EX ks 0 ks.length&&(!(ks.getD 0 0=27)&&(PL aq aq aq aq names.length op num text))),())else
 bif(kind=35)then an (ks.all iy&&(PL aq aq aq aq names.length op num text),())else
 bif(kind=36)then an ((ks.length:Int)=1&&(ks.getD 0 0=1&&(PL av av aq aq names.length op num text&&(NM names 0 200&&(op=0||decide (op=1))))),())else
 bif(kind=37)then an ((ks.length:Int)=1&&((ks.getD 0 0=34||decide (ks.getD 0 0=27))&&(PL aq aq aq aq names.length op num text)),())else
 bif(kind=40)then an ((ks.length:Int)=1&&(EX ks 0 1&&(PL aq aq aq aq names.length op num text)),())else
 bif(kind=41)then an ((ks.length:Int)=2&&(EX ks 0 2&&(PL aq aq aq aq names.length op num text)),())else
 aE (an (t,x,ks.length,()))
def q18 (h:SF T t x ks names op num text)(hl:ks.length<=200) (kind) (fl):jM (S.step T) t x ks.length kind fl=U (Q18 t x ks names op num text kind fl):=by
 rw[xU];unfold Q18;have A:=aM h.aN2 (aM h.UC (aM h.ZC (aM h.Qa (aM h.pl (aM h.nm (aM h.gn (aM h.gf (aM h.Kc (aM h.l5 (aM h.aN3 (aM wr (aM @Zd (BA)))))))))))));have E:=aM h.He (aM h.P3 (aM h.k0 (aM h.k1 h.k2)))
 by_cases n0:ks.length=0
 ·rw[n0]at E
  repeat' refine uY (λk=> ?_) (λk=> ?_)
  all_goals first|(simp[A,n0];done)|(cases c:ks.all iy<;>simp[A,c,ep];done)
 by_cases n1:ks.length=1
 ·rw[n1]at E
  repeat' refine uY (λk=> ?_) (λk=> ?_)
  all_goals first|(simp[A,n1,E];done)|(cases c:ks.all iy<;>simp[A,c,ep];done)
 by_cases n2:ks.length=2
 ·rw[n2]at E
  repeat' refine uY (λk=> ?_) (λk=> ?_)
  all_goals first|(simp[A,n2,E];done)|(cases c:ks.all iy<;>simp[A,c,ep];done)
 have e0:=h.k0 (by omega);have m1:¬(ks.length:Int)=1:=(by omega);have m2:¬(ks.length:Int)=2:=(by omega)
 repeat' refine uY (λk=> ?_) (λk=> ?_)
 all_goals first|(simp[A,m1,m2,e0];done)|(cases c:ks.all iy<;>simp[A,c,ep];done)
def Q7 (t:Tr)(x:cZ.den)(ks:LI)(names:List LI)(op num:Int)(text:LI)(kind:Int)(fl:Bool):AnS:=
 bif fl then an ((ks.length:Int)=0&&(PL aq aq aq aq names.length op num text),())else
 bif(kind=23)then an ((ks.length:Int)=0&&(PL aq aq av aq names.length op num text),())else
 bif(kind=24)then an ((ks.length:Int)=0&&(PL aq aq aq av names.length op num text&&(jS 3 text)),())else
 bif(kind=25)then an ((ks.length:Int)=0&&(PL aq aq aq av names.length op num text&&((text.length:Int)<=4000)),())else
 bif(kind=26)then an ((ks.length:Int)=0&&(PL aq aq aq av names.length op num text&&(jS 1 text)),())else
 bif(kind=28)then Q18 t x ks names op num text kind av else
 Q18 t x ks names op num text kind (kind=29)
def q7 (h:SF T t x ks names op num text)(hl:ks.length<=200) (kind) (aq1:∀fl,jM T t x ks.length kind fl=U (Q18 t x ks names op num text kind fl)) (fl):iY (S.step T) t x ks.length kind fl=U (Q7 t x ks names op num text kind fl):=by
 rw[yt];have A:=aM h.aN2 (aM h.UC (aM h.ZC (aM h.Qa (aM h.pl (aM h.nm (aM h.gn (aM h.gf (aM h.Kc (aM h.l5 (aM h.aN3 (aM wr (aM wr (aM @Zd (BA))))))))))))))
 by_cases n0:ks.length=0
 ·repeat' refine uY (λk=> ?_) (λk=> ?_)
  all_goals first|exact(bO (aq1 _)).trans (by simp[k])|(done)|(cases c:ks.all iy<;>simp[A,c,ep];done)
 repeat' refine uY (λk=> ?_) (λk=> ?_)
 all_goals first|exact(bO (aq1 _)).trans (by simp[k])|(done)|(cases c:ks.all iy<;>simp[A,c,ep];done)
end Go.Abs.D
end

section
namespace Go.Abs.D
def K1 {R α:Type}{F:S.Tab->Nat->Option R}{P:α->Bool}{l:List α}{yes no:R}{q:S.Tab->Prop}(hq:Evt λn=>q (S.tab n))
  (hs:∀T j h,q T->F (S.step T) j=bif P l[j]then F T (j+1)else U no) (he:∀T,q T->F (S.step T) l.length=U yes):
  ∀k j,j+k=l.length->Evt λn=>F (S.tab n) j=U (bif(l.drop j).all P then yes else no)
 |0,j,h=>hq.up λn hT=>by
  simp_all
 |k+1,j,h=>by
  have hj:j<l.length:=(by omega)
  refine(hq.and (K1 hq hs he k (j+1) (by omega))).up λn ⟨hT,ih⟩=> ?_
  show F (S.step (S.tab n)) j=_;rw[hs _ j hj hT,bG hj,cE]
  grind
theorem xf {l:LI}(h:j<l.length):l.getD (j:Int).toNat 0=l[j]:=by
 simp_all
def S8 {l:List LI}(h:j<l.length):l.getD (j:Int).toNat []=l[j]:=by
 simp_all
def TE:Evt λn=>∀v,xJ (S.tab n) v=U (gB v,cV):=J3.up λn h v=>by
 rw[H6,h];rfl
def Lp:Evt λn=>∀v,uz (S.tab n) v=U (n7 v,cV):=J3.up λn h v=>by
 rw[HX,h];rfl
def aA4:Evt λn=>∀a b c d nn op num text,dV (S.tab n) a b c d nn op num text=U (PL a b c d nn op num text,(),(),(),(),nn,op,num,text,()):=dF.up λn _ a b c d nn op num text=>by
 rw[E4];unfold PL
 generalize I (nn=0)=p
 generalize I (op=0)=q
 generalize I (num=0)=r
 generalize I (text=[])=s
 cases a<;>cases b<;>cases c<;>cases d<;>cases p<;>cases q<;>cases r<;>simp[ix,gH]
def Vw (ks l) (hl:l.length<=2097152):Evt λn=>kv (S.tab n) ks l l.length 0=U (bif l.all n7 then aE (an (ks,()))else an (ks,aq,())):=by
 have:=K1 (F:=λT j=>kv T ks l l.length ↑j) (P:=n7) (l:=l) (yes:=aE (an (ks,()))) (no:=an (ks,aq,())) (q:=λT=>∀v,uz T v=U (n7 v,cV)) Lp
  (λT j h hT=>by
   show kv (S.step T) _ _ _ _=bif _ then kv T ks l l.length ((j+1))else _
   rw[vd,c8 (by simp_all),c8 (dm h),xf h,hT,al,eT (by omega)]
   grind [n7,dz,c8])
  (λT hT=>by
   grind [kv,vd,dz]) l.length 0 (by omega)
 simp_all
def PA (ks) (hl:ks.length<=200)(i j:Nat)(h1:i<=j)(h2:j<=ks.length):Evt λn=>dU (S.tab n) ↑i ↑j ks=U (EX ks i j,(),(),ks,()):=by
 have hs:(eV ks i j).length<=2097152:=by grind [pk]
 refine(Vw ks (eV ks i j) hs).up λn h=> ?_
 rw[Fs,c8 (fO h1 h2),sV,h];unfold EX;cases(eV ks i j).all n7<;>rfl
def az0 (ks) (hl:ks.length<=200):Evt λn=>pH (S.tab n) ks.length ks=U (BS ks,(ks.length:Int),ks,()):=Lp.up λn h=>by
 rw[Fe];unfold BS
 by_cases h0:1<=ks.length
 ·grind [n7,get,c8,dz]
 simp_all[dz,aa]
def ag0 (nn op num) (text) (l) (hl:l.length<=2097152):Evt λn=>jU (S.tab n) nn op num text l l.length 0=U (bif l.all gB then aE (an (nn,op,num,text,()))else an (aq,())):=by
 have:=K1 (F:=λT j=>jU T nn op num text l l.length ↑j) (P:=gB) (l:=l) (yes:=aE (an (nn,op,num,text,()))) (no:=an (aq,())) (q:=λT=>∀v,xJ T v=U (gB v,cV)) TE
  (λT j h hT=>by
   show jU (S.step T) _ _ _ _ _ _ _=bif _ then jU T nn op num text l l.length ((j+1))else _
   rw[wv,c8 (by simp_all),c8 (dm h),xf h,hT,al,eT (by omega)]
   grind [gB,dz,c8])
  (λT hT=>by
   grind [jU,wv,dz]) l.length 0 (by omega)
 simp_all
def ah8 (nn op num) (text) (l) (hl:l.length<=2097152):Evt λn=>jW (S.tab n) nn op num text l l.length 0=U (bif l.all iy then aE (an (nn,op,num,text,()))else an (aq,())):=by
 have:=K1 (F:=λT j=>jW T nn op num text l l.length ↑j) (P:=iy) (l:=l) (yes:=aE (an (nn,op,num,text,()))) (no:=an (aq,())) (q:=λT=>∀v lo hi,ni T v lo hi=U (lo<=v&&I (v<=hi),dR)) J3
  (λT j h hT=>by
   show jW (S.step T) _ _ _ _ _ _ _=bif _ then jW T nn op num text l l.length ((j+1))else _
   rw[wN,c8 (by simp_all),c8 (dm h),xf h,hT,al,eT (by omega)]
   grind [brk,iy,dz,c8])
  (λT hT=>by
   grind [jW,wN,dz]) l.length 0 (by omega)
 simp_all
def ak2 (ks) (num nk) (l) (hl:l.length<=2097152):Evt λn=>gk (S.tab n) ks num nk l l.length 0=U (bif l.all jv then aE (an (ks,num,nk,()))else an (aq,())):=by
 have:=K1 (F:=λT j=>gk T ks num nk l l.length ↑j) (P:=jv) (l:=l) (yes:=aE (an (ks,num,nk,()))) (no:=an (aq,())) (q:=Base2) dF
  (λT j h hT=>by
   show gk (S.step T) _ _ _ _ _ _=bif _ then gk T ks num nk l l.length ((j+1))else _
   rw[wB,c8 (by simp_all),c8 (dm h),xf h,eT (by omega)]
   grind [jv,decide,dz,c8])
  (λT hT=>by
   grind [gk,wB,dz]) l.length 0 (by omega)
 simp_all
theorem Evt.imp {p:Prop}(h:p->Evt q):Evt λn=>p->q n:=by
 by_cases hp:p
 all_goals simp_all[Evt.of,absurd]
def aB3 (ks) (hl:ks.length<=200) (nn op num) (text) (hb:∀c∈text,isByte c):Evt λn=>IF (S.tab n) ks nn op num text:=by
 have hw:1<=ks.length->ar.wrap (ks.length - 1)=((ks.length - 1:Nat)):=λh=>by grind [wrap64]
 have a1:=aA4
 have a2:Evt λn=>1<=ks.length->dU (S.tab n) 0 1 ks=U (EX ks 0 1,(),(),ks,()):=Evt.imp λh=>PA ks hl 0 1 (by omega) h
 have a3:Evt λn=>2<=ks.length->dU (S.tab n) 0 2 ks=U (EX ks 0 2,(),(),ks,()):=Evt.imp λh=>PA ks hl 0 2 (by omega) h
 have a4:Evt λn=>dU (S.tab n) 0 ks.length ks=U (EX ks 0 ks.length,(),(),ks,()):=PA ks hl 0 ks.length (by omega) (aF _)
 have a5:Evt λn=>1<=ks.length->dU (S.tab n) 0 (ar.wrap (ks.length - 1)) ks=U (EX ks 0 (ks.length - 1),(),(),ks,()):=Evt.imp λh=>by
  rw[hw h];exact PA ks hl 0 (ks.length - 1) (by omega) (by omega)
 have a6:Evt λn=>(1<=num/\num<=ks.length)->dU (S.tab n) num ks.length ks=U (EX ks num.toNat ks.length,(),(),ks,()):=Evt.imp λh=>by
  have:=PA ks hl num.toNat ks.length (by omega) (aF _)
  grind
 have a7:=az0 ks hl;have a8:=Bj (s:=text) hb;have a9:=Ef (s:=text) hb;have b1:=J3;have b2:=ag0 nn op num text ks (by omega);have b3:=ah8 nn op num text ks (by omega)
 have b4:Evt λn=>(1<=num/\num<=ks.length)->gk (S.tab n) ks num ks.length (sub ks 0 num) ((sub ks 0 num).length) 0=U (bif(eV ks 0 num.toNat).all jv then aE (an (ks,num,(ks.length:Int),()))else an (aq,())):=Evt.imp λh=>by
  have e:sub ks 0 num=eV ks 0 num.toNat:=rfl;exact ak2 ks num ks.length _ (by grind [pk])
 refine((((a1.and a2).and (a3.and a4)).and ((a5.and a6).and (a7.and a8))).and (((a9.and b1).and (b2.and b3)).and b4)).mono λn ⟨⟨⟨⟨a1,a2⟩,a3,a4⟩,⟨a5,a6⟩,a7,a8⟩,⟨⟨a9,b1⟩,b2,b3⟩,b4⟩=> ?_
 exact⟨λa b c d=>a1 a b c d nn op num text,a2,a3,a4,a5,λh1 h2=>a6 ⟨h1,h2⟩,a7,a8,a9,b1,b2,b3,λh1 h2=>b4 ⟨h1,h2⟩⟩
end Go.Abs.D
end

section
namespace Go.Abs.D
def nu (ns:List cZ.den)(k:Int):Int:=(at_ (τ:=cZ) ns k).1
def da (ns:List cZ.den)(x:cZ.den):LI:=(cX x).map (nu ns)
def HD (h:j<(cX x).length):(da ns x).getD j 0=nu ns ((cX x)[j]):=by
 simp_all[da,aG,bn4,aL]
def OP (h:j<(cX x).length):x.2.2.2.2.2.2.2.2.1.getD (j:Int).toNat 0=(cX x)[j]:=xf h
def MP:Evt λn=>∀v,qz (S.tab n) v=U (gB v,cV):=dF.up λn _ v=>by
 rw[Iq];unfold gB
 cases I (1<=v)with
 |true=>rw[c8 rfl];rfl
 |false=>rw[dz rfl];rfl
def Ye:Evt λn=>∀v,A9 (S.tab n) v=U (n7 v,cV):=dF.up λn _ v=>by
 rw[Ih];unfold n7
 cases I (20<=v)with
 |true=>rw[c8 rfl];rfl
 |false=>rw[dz rfl];rfl
def TR:Evt λn=>∀v,yc (S.tab n) v=U (jv v,cV):=dF.up λn _ v=>by
 rw[Fc];unfold jv
 cases I (v=26)with
 |true=>rw[c8 rfl];rfl
 |false=>
  rw[dz rfl]
  cases I (v=32)with
  |true=>rw[c8 rfl];rfl
  |false=>rw[dz rfl];rfl
def YK (x):Evt λn=>∀a b c d,ed (S.tab n) x a b c d=U (PL d a b c ((df x).length) x.2.2.2.2.1 x.2.2.2.2.2.1 x.2.2.2.2.2.2.1,eN):=dF.up λn _ a b c d=>by
 rw[HU];unfold PL df
 generalize I (x.2.2.2.2.2.2.2.1.length=0)=p
 generalize I (x.2.2.2.2.1=0)=q
 generalize I (x.2.2.2.2.2.1=0)=r
 generalize I (x.2.2.2.2.2.2.1=[])=s
 cases a<;>cases b<;>cases c<;>cases d<;>cases q<;>cases r<;>cases s<;>simp[ix,gH]
def Ok (l) (hl:l.length<=2097152):Evt λn=>j0 (S.tab n) l l.length 0=U (bif l.all (jS 1)then aE (an ())else an (aq,())):=by
 have:=K1 (F:=λT j=>j0 T l l.length ↑j) (P:=jS 1) (l:=l) (yes:=aE (an ())) (no:=an (aq,())) (q:=λT=>∀s∈l,lF T s=U (jS 1 s,cV)) (Ez l λs=>LU (s:=s))
  (λT j h hT=>by
   show j0 (S.step T) _ _ _=bif _ then j0 T l l.length ((j+1))else _
   rw[wx,c8 (by simp_all),c8 (dm h),S8 h,hT _ (bF h),al,eT (by omega)]
   grind [jS,dz,c8])
  (λT hT=>by
   grind [j0,wx,dz]) l.length 0 (by omega)
 simp_all
def U4 (x) (hl:(df x).length<=2097152):Evt λn=>∀a b,lJ (S.tab n) x a b=U (NM (df x) a b,oC):=(Ok (df x) hl).up λn h a b=>by
 have h:j0 (S.tab n) x.2.2.2.2.2.2.2.1 x.2.2.2.2.2.2.2.1.length 0=_:=h;rw[GN,h];unfold NM
 by_cases h1:a<=((df x).length)
 ·have d1:I (x.2.2.2.2.2.2.2.1.length<a)=false:=aa (by simp_all[df]);rw[dz d1,ab h1]
  by_cases h2:((df x).length)<=b
  ·have d2:I (b<x.2.2.2.2.2.2.2.1.length)=false:=aa (by simp_all[df]);rw[dz d2,ab h2];cases(df x).all (jS 1)<;>rfl
  grind [decide,ab,df,c8,aa]
 grind [decide,ab,df,c8,aa]
variable{ns:List cZ.den}{x:cZ.den}(hk:∀k∈cX x,0<=k/\k<(ns.length:Int))(hl:(cX x).length<=200)
include hk
def Wq (h:j<(cX x).length):(0<=(cX x)[j]&&(cX x)[j]<ns.length)=true:=by
 simp_all
def Nz:Evt λn=>∀j:Nat,j<(cX x).length->ft (S.tab n) (ns,()) x j=U ((da ns x).getD j 0,nR):=dF.up λn _ j h=>by
 have hi:(0<=(j:Int)&&j<(x.2.2.2.2.2.2.2.2.1.length:Int))=true:=dm h;rw[KQ,c8 hi,OP h,c8 (Wq hk h),HD h];rfl
include hl
def Gt (j) (hj:j<=(cX x).length):∀k i,i+k=j->Evt λn=>rM (S.tab n) ↑j (ns,()) x i=U (bif EX (da ns x) i j then aE (an ())else an (aq,()))
 |0,i,h=>dF.up λn _=>by
  simp_all[wC,dz,EX,qG]
 |k+1,i,h=>by
  have hi:i<(cX x).length:=(by omega)
  refine((Gt j hj k (i+1) (by omega)).and Ye).up λn ⟨ih,he⟩=> ?_
  have qY:(0<=(i:Int)&&i<(x.2.2.2.2.2.2.2.2.1.length:Int))=true:=dm hi
  have hx:EX (da ns x) i j=(n7 (nu ns (cX x)[i])&&EX (da ns x) (i+1) j):=by
   unfold EX eV
   have xn:i<((da ns x).take j).length:=by grind [bl,da,cH]
   simp_all[bG,cE,List.getElem_take,da,List.getElem_map]
  rw[wC,c8 (by grind),c8 qY,OP hi,c8 (Wq hk hi),eT (by omega),hx]
  grind [n7,nu,cX,dz,c8]
def Bk (i j) (h1:i<=j)(h2:j<=(cX x).length):Evt λn=>dY (S.tab n) (ns,()) x ↑i j=U (EX (da ns x) i j,gr):=(Gt hk hl j h2 (j - i) i (by omega)).up λn h=>by
 rw[GZ,h];cases EX (da ns x) i j<;>rfl
def ag3:Evt λn=>gX (S.tab n) (ns,()) x ((cX x).length) 0=U (bif(da ns x).all gB then aE (an (x,()))else an (aq,())):=by
 have:=K1 (F:=λT j=>gX T (ns,()) x ((cX x).length) ↑j) (P:=λk=>gB (nu ns k)) (l:=cX x) (yes:=aE (an (x,()))) (no:=an (aq,()))
  (q:=λT=>(∀v,qz T v=U (gB v,cV))/\∀j:Nat,j<(cX x).length->ft T (ns,()) x j=U ((da ns x).getD j 0,nR)) (MP.and (Nz hk))
  (λT j h hT=>by
   show gX (S.step T) _ _ _ _=bif _ then gX T (ns,()) x ((cX x).length) ((j+1))else _
   rw[sH,c8 (by simp_all),hT.2 j h,al,HD h,hT.1,al,eT (by omega)]
   grind [gB,nu,cX,dz,c8])
  (λT hT=>by
   grind [gX,sH,dz]) (cX x).length 0 (by omega)
 grind [da,List.all_map]
def YL:Evt λn=>gu (S.tab n) (ns,()) x ((cX x).length) 0=U (bif(da ns x).all iy then aE (an (x,()))else an (aq,())):=by
 have:=K1 (F:=λT j=>gu T (ns,()) x ((cX x).length) ↑j) (P:=λk=>iy (nu ns k)) (l:=cX x) (yes:=aE (an (x,()))) (no:=an (aq,()))
  (q:=λT=>∀j:Nat,j<(cX x).length->ft T (ns,()) x j=U ((da ns x).getD j 0,nR)) (Nz hk)
  (λT j h hT=>by
   show gu (S.step T) _ _ _ _=bif _ then gu T (ns,()) x ((cX x).length) ((j+1))else _
   rw[ry,c8 (by simp_all),hT j h,al,HD h,eT (by omega)];unfold iy
   by_cases h1:40<=nu ns (cX x)[j]
   ·by_cases h2:nu ns (cX x)[j]<=42
    all_goals simp_all[dz,aa,ab,c8]
   simp_all[c8,ab,aa])
  (λT hT=>by
   grind [gu,ry,dz]) (cX x).length 0 (by omega)
 grind [da,List.all_map]
def Sn (m:Nat)(hm:x.2.2.2.2.2.1=(m:Int))(To:m<=(cX x).length) (nk):∀k i,i+k=m->Evt λn=>gK (S.tab n) (ns,()) x nk i=U (bif(eV (da ns x) i m).all jv then aE (an ((ns,()),x,nk,()))else an (aq,()))
 |0,i,h=>dF.up λn _=>by
  simp_all[r9,dz,qG]
 |k+1,i,h=>by
  have hi:i<(cX x).length:=(by omega)
  refine((Sn m hm To nk k (i+1) (by omega)).and (TR.and (Nz hk))).up λn ⟨ih,ht,a05⟩=> ?_
  have hx:(eV (da ns x) i m).all jv=(jv (nu ns (cX x)[i])&&(eV (da ns x) (i+1) m).all jv):=by
   unfold eV
   have xn:i<((da ns x).take m).length:=by grind [bl,da,cH]
   simp_all[bG,cE,List.getElem_take,da,List.getElem_map]
  rw[r9,hm,c8 (by grind),a05 i hi,al,HD hi,ht,al,eT (by omega),hx]
  grind [jv,nu,cX,dz,c8]
def Z6 (hn:(df x).length<=2097152):Evt λn=>SF (S.tab n) (ns,()) x (da ns x) (df x) x.2.2.2.2.1 x.2.2.2.2.2.1 x.2.2.2.2.2.2.1:=by
 have hlen:(da ns x).length=(cX x).length:=by grind [da,cH]
 have hw:1<=(da ns x).length->ar.wrap (((da ns x).length) - 1)=(((da ns x).length - 1:Nat)):=λh=>by grind [wrap64]
 have a1:=YK x;have a2:=U4 x hn
 have a3:Evt λn=>1<=(da ns x).length->dY (S.tab n) (ns,()) x 0 1=U (EX (da ns x) 0 1,gr):=Evt.imp λh=>Bk hk hl 0 1 (by omega) (by omega)
 have a4:Evt λn=>2<=(da ns x).length->dY (S.tab n) (ns,()) x 0 2=U (EX (da ns x) 0 2,gr):=Evt.imp λh=>Bk hk hl 0 2 (by omega) (by omega)
 have a5:Evt λn=>dY (S.tab n) (ns,()) x 0 ((da ns x).length)=U (EX (da ns x) 0 (da ns x).length,gr):=Bk hk hl 0 (da ns x).length (by omega) (by omega)
 have a6:Evt λn=>1<=(da ns x).length->dY (S.tab n) (ns,()) x 0 (ar.wrap (((da ns x).length) - 1))=U (EX (da ns x) 0 ((da ns x).length - 1),gr):=Evt.imp λh=>by
  rw[hw h];exact Bk hk hl 0 ((da ns x).length - 1) (by omega) (by omega)
 have a7:Evt λn=>(1<=x.2.2.2.2.2.1/\x.2.2.2.2.2.1<=((da ns x).length))->dY (S.tab n) (ns,()) x x.2.2.2.2.2.1 ((da ns x).length)=U (EX (da ns x) (Int.toNat x.2.2.2.2.2.1) (da ns x).length,gr):=by
  have aux:∀z:Int,Evt λn=>(1<=z/\z<=((da ns x).length))->dY (S.tab n) (ns,()) x z ((da ns x).length)=U (EX (da ns x) z.toNat (da ns x).length,gr):=λz=>Evt.imp λ⟨h1,h2⟩=>by
   obtain⟨m,rfl⟩:∃m:Nat,z=m:=⟨z.toNat,by omega⟩;exact Bk hk hl m (da ns x).length (by omega) (by omega)
  simp_all
 have a8:=Nz hk;have a9:=LU (s:=x.2.2.2.2.2.2.1);have b1:=VF (s:=x.2.2.2.2.2.2.1);have b2:=ag3 hk hl;have b3:=YL hk hl
 have b4:Evt λn=>(1<=x.2.2.2.2.2.1/\x.2.2.2.2.2.1<=((da ns x).length))->gK (S.tab n) (ns,()) x ((da ns x).length) 0=U (bif(eV (da ns x) 0 (Int.toNat x.2.2.2.2.2.1)).all jv then aE (an ((ns,()),x,((da ns x).length:Int),()))else an (aq,())):=by
  have aux:∀z:Int,x.2.2.2.2.2.1=z->Evt λn=>(1<=z/\z<=((da ns x).length))->gK (S.tab n) (ns,()) x ((da ns x).length) 0=U (bif(eV (da ns x) 0 z.toNat).all jv then aE (an ((ns,()),x,((da ns x).length:Int),()))else an (aq,())):=λz hz=>Evt.imp λ⟨h1,h2⟩=>by
   obtain⟨m,rfl⟩:∃m:Nat,z=m:=⟨z.toNat,by omega⟩;exact Sn hk hl m hz (by omega) _ m 0 (by omega)
  exact aux x.2.2.2.2.2.1 rfl
 refine((((a1.and a2).and (a3.and a4)).and ((a5.and a6).and (a7.and a8))).and (((a9.and b1).and (b2.and b3)).and b4)).mono λn ⟨⟨⟨⟨a1,a2⟩,a3,a4⟩,⟨a5,a6⟩,a7,a8⟩,⟨⟨a9,b1⟩,b2,b3⟩,b4⟩=> ?_
 rw[<-hlen]at b2 b3;exact⟨rfl,rfl,rfl,hlen.symm,a1,a2,a3,a4,a5,a6,λh1 h2=>a7 ⟨h1,h2⟩,λh=>a8 0 (by omega),λh=>a8 1 (by omega),λh=>a8 2 (by omega),λh=>by rw[hw h];exact a8 _ (by omega),a9,b1,b2,b3,λh1 h2=>b4 ⟨h1,h2⟩⟩
end Go.Abs.D
end

section
namespace Go.Abs.D
def KI (ks:LI)(names:List LI)(op num:Int)(text:LI)(kind:Int):Bool:=
 bif(kind=1)then ks.all gB&&PL aq aq aq aq names.length op num text else
 bif(kind=2)then PL av aq aq aq names.length op num text&&(1<=(names.length:Int)&&EX ks 0 ks.length)else
 bif(kind=3)then PL av aq aq aq names.length op num text&&((names.length:Int)=1&&((ks.length:Int)=1&&EX ks 0 1))else
 bif(kind=4)then PL av aq aq aq names.length op num text&&((names.length:Int)=1&&((ks.length:Int)=1&&ks.getD 0 0=36))else
 bif(kind=5)then PL aq aq av aq names.length op num text&&(1<=num&&(num<ks.length&&((eV ks 0 num.toNat).all jv&&EX ks num.toNat ks.length)))else
 bif(kind=6)then(R50 ks names.length op num text kind av).val else(R50 ks names.length op num text kind (kind=16)).val
def An2 (y:AnS)(b:Bool):Bool:=y.elim (λy=>y.1) λ_=>b
def KS (t:Tr)(x:cZ.den)(ks:LI)(names:List LI)(op num:Int)(text:LI)(kind:Int):Bool:=
 bif(kind=1)then ks.all gB&&PL aq aq aq aq names.length op num text else
 bif(kind=2)then PL av aq aq aq names.length op num text&&(NM names 1 200&&EX ks 0 ks.length)else
 bif(kind=3)then PL av aq aq aq names.length op num text&&(NM names 1 1&&((ks.length:Int)=1&&EX ks 0 1))else
 bif(kind=4)then PL av aq aq aq names.length op num text&&(NM names 1 1&&((ks.length:Int)=1&&ks.getD 0 0=36))else
 bif(kind=5)then PL aq aq av aq names.length op num text&&(1<=num&&(num<ks.length&&((eV ks 0 num.toNat).all jv&&EX ks num.toNat ks.length)))else
 An2 (bif(kind=6)then Q28 t x ks names op num text kind av else Q28 t x ks names op num text kind (kind=16)) (bif(kind=15)then PL aq aq aq aq names.length op num text&&((ks.length:Int)=1&&EX ks 0 1)else aq)
def KE (t:Tr)(x:cZ.den)(ks:LI)(names:List LI)(op num:Int)(text:LI)(kind:Int):Bool:=
 An2 (bif(kind=20)then Q7 t x ks names op num text kind av else bif(kind=21)then Q7 t x ks names op num text kind av else bif(kind=22)then Q7 t x ks names op num text kind av else Q7 t x ks names op num text kind (kind=27))
  (bif(kind=42)then((ks.length:Int)=1)&&(EX ks 0 1&&(PL aq aq aq av names.length op num text&&jS 1 text))else aq)
def Uf (h:kind<1\/42<kind\/(16<kind/\kind<20)\/(37<kind/\kind<40)):(R50 ks nn op num text kind (kind=16)).val=false:=by
 have ne:∀c:Int,(1<=c/\c<=16)\/(20<=c/\c<=37)\/(40<=c/\c<=42)->I (kind=c)=false:=λc hc=>aa (by omega)
 unfold R50;rw[ne 16 (by omega),ne 7 (by omega),ne 8 (by omega),ne 9 (by omega),ne 10 (by omega),ne 11 (by omega),ne 12 (by omega),ne 20 (by omega),ne 21 (by omega),ne 22 (by omega),ne 27 (by omega)];unfold R65;rw[ne 13 (by omega),ne 14 (by omega),ne 15 (by omega),ne 40 (by omega)];unfold R72;rw[ne 23 (by omega),ne 24 (by omega),ne 25 (by omega),ne 26 (by omega),ne 28 (by omega),ne 29 (by omega),ne 41 (by omega)];unfold R84;rw[ne 30 (by omega),ne 31 (by omega),ne 32 (by omega),ne 33 (by omega),ne 34 (by omega),ne 35 (by omega),ne 36 (by omega),ne 37 (by omega),ne 42 (by omega)];rfl
def QE (h:kind<1\/42<kind\/(16<kind/\kind<20)\/(37<kind/\kind<40)):KE t x ks names op num text kind=false:=by
 have ne:∀c:Int,(1<=c/\c<=16)\/(20<=c/\c<=37)\/(40<=c/\c<=42)->I (kind=c)=false:=λc hc=>aa (by omega)
 unfold KE;rw[ne 20 (by omega),ne 21 (by omega),ne 22 (by omega),ne 27 (by omega),ne 42 (by omega)];unfold Q7;rw[ne 23 (by omega),ne 24 (by omega),ne 25 (by omega),ne 26 (by omega),ne 28 (by omega),ne 29 (by omega)];unfold Q18;rw[ne 30 (by omega),ne 31 (by omega),ne 32 (by omega),ne 33 (by omega),ne 34 (by omega),ne 35 (by omega),ne 36 (by omega),ne 37 (by omega),ne 40 (by omega),ne 41 (by omega)];rfl
def YS (h:l.length=1):∃a,l=[a]:=by
 match l,h with
 |[a],_=>simp
def Ys (h:l.length=2):∃a b,l=[a,b]:=by
 match l,h with
 |[a,b],_=>simp
def ah3 (a):EX [a] 0 1=n7 a:=by simp[EX,eV]
def ak1 (a b):EX [a,b] 0 2=(n7 a&&n7 b):=by simp[EX,eV]
def ai5 (a) (r:LI):EX (a::r) 0 (a::r).length=(n7 a&&r.all n7):=by
 grind [EX,eV,cy]
theorem bs1 (ks):((ks.length:Int)=1&&BS ks)=((ks.length:Int)=1&&(EX ks 0 1&& !(ks.getD 0 0=27))):=by
 by_cases h:ks.length=1
 ·obtain⟨a,rfl⟩:=YS h;rw[ah3];rfl
 grind
def bs2 (ks):((ks.length:Int)=2&&(BS ks&&EX ks 0 2))=((ks.length:Int)=2&&(EX ks 0 2&& !(ks.getD 0 0=27))):=by
 by_cases h:ks.length=2
 ·obtain⟨a,b,rfl⟩:=Ys h;rw[ak1];show(av&&(av&&(n7 a&& !(a=27))&&(n7 a&&n7 b)))=(av&&(n7 a&&n7 b&& !(a=27)))
  grind
 grind
def bsn (ks):(BS ks&&EX ks 0 ks.length)=(1<=(ks.length:Int)&&(EX ks 0 ks.length&& !(ks.getD 0 0=27))):=by
 cases ks with
 |nil=>rfl
 |cons a r=>
  rw[ai5,ab (show 1<=((a::r).length:Int)by grind)];show(av&&(n7 a&& !(a=27))&&(n7 a&&r.all n7))=(av&&(n7 a&&r.all n7&& !(a=27)))
  grind
def n23 (n) (h0:0<=n) (Z):(!(n<2)&&(!((3:Int)<n)&&Z))=((n=2||decide (n=3))&&Z):=by
 grind
def un (names:List LI) (b c d) (op num) (text) (Z):
  ((names.length:Int)<=200&&(names.all (jS 1)&&(PL aq b c d names.length op num text&&Z)))=(PL aq b c d names.length op num text&&Z):=by
 grind [PL,aa]
def un2 (names:List LI) (b c d) (op num) (text) (Z):
  ((names.length:Int)<=200&&(names.all (jS 1)&&(Z&&PL aq b c d names.length op num text)))=(Z&&PL aq b c d names.length op num text):=by
 rw[Bool.and_comm Z,un]
def nm1 (names) (p Z):((names.length:Int)<=200&&(names.all (jS 1)&&(p&&((names.length:Int)=1&&Z))))=(p&&(NM names 1 1&&Z)):=by
 grind [NM,jS,aa,decide]
def nm2 (names) (p Z):((names.length:Int)<=200&&(names.all (jS 1)&&(p&&(((names.length:Int)=1||decide ((names.length:Int)=2))&&Z))))=(p&&(NM names 1 2&&Z)):=by
 grind [NM,jS,aa,decide]
def nmn (names) (p Z):((names.length:Int)<=200&&(names.all (jS 1)&&(p&&(1<=(names.length:Int)&&Z))))=(p&&(NM names 1 200&&Z)):=by
 grind [NM,decide,jS]
def nm0 (names):NM names 0 200=((names.length:Int)<=200&&names.all (jS 1)):=by
 rfl
def aR6 (op):((0:Int)<=op&&op<=1)=(op=0||decide (op=1)):=by
 grind
def alike (t) (x) (ks) (names) (op num) (text) (kind):
  ((names.length:Int)<=200&&(names.all (jS 1)&&KI ks names op num text kind))=bif gB kind then KS t x ks names op num text kind else KE t x ks names op num text kind:=by
 by_cases ho:kind<1\/42<kind\/(16<kind/\kind<20)\/(37<kind/\kind<40)
 ·have hs:gB kind=false:=by
   grind [gB,cQ,ae]
  have ne:∀c:Int,(1<=c/\c<=16)->I (kind=c)=false:=λc hc=>aa (by omega)
  rw[hs,af,QE ho];unfold KI;rw[ne 1 (by omega),ne 2 (by omega),ne 3 (by omega),ne 4 (by omega),ne 5 (by omega),ne 6 (by omega)];simp only[af];rw[Uf ho,aT,aT]
 have hk:kind=1\/kind=2\/kind=3\/kind=4\/kind=5\/kind=6\/kind=7\/kind=8\/kind=9\/kind=10\/kind=11\/kind=12\/kind=13\/kind=14\/kind=15\/kind=16\/kind=20\/kind=21\/kind=22\/kind=23\/kind=24\/kind=25\/kind=26\/kind=27\/kind=28\/kind=29\/kind=30\/kind=31\/kind=32\/kind=33\/kind=34\/kind=35\/kind=36\/kind=37\/kind=40\/kind=41\/kind=42:=(by omega);clear ho
 rcases hk with rfl|rfl|rfl|rfl|rfl|rfl|rfl|rfl|rfl|rfl|rfl|rfl|rfl|rfl|rfl|rfl|rfl|rfl|rfl|rfl|rfl|rfl|rfl|rfl|rfl|rfl|rfl|rfl|rfl|rfl|rfl|rfl|rfl|rfl|rfl|rfl|rfl
 ·simp only[KI,KS,KE,gB,R50,R65,R72,R84,Q28,Q41,Q7,Q18,An.val,An2,ba,bc,decide_true,decide_false,ah,af,aH,aW,bP];rw[un2]
 ·simp only[KI,KS,KE,gB,R50,R65,R72,R84,Q28,Q41,Q7,Q18,An.val,An2,ba,bc,decide_true,decide_false,ah,af,aH,aW,bP];rw[nmn]
 ·simp only[KI,KS,KE,gB,R50,R65,R72,R84,Q28,Q41,Q7,Q18,An.val,An2,ba,bc,decide_true,decide_false,ah,af,aH,aW,bP];rw[nm1]
 ·simp only[KI,KS,KE,gB,R50,R65,R72,R84,Q28,Q41,Q7,Q18,An.val,An2,ba,bc,decide_true,decide_false,ah,af,aH,aW,bP];rw[nm1]
 ·simp only[KI,KS,KE,gB,R50,R65,R72,R84,Q28,Q41,Q7,Q18,An.val,An2,ba,bc,decide_true,decide_false,ah,af,aH,aW,bP];rw[un]
 ·simp only[KI,KS,KE,gB,R50,R65,R72,R84,Q28,Q41,Q7,Q18,An.val,An2,ba,bc,decide_true,decide_false,ah,af,aH,aW,bP];rw[un]
 ·simp only[KI,KS,KE,gB,R50,R65,R72,R84,Q28,Q41,Q7,Q18,An.val,An2,ba,bc,decide_true,decide_false,ah,af,aH,aW,bP];simp_all[un,n23]
 ·simp only[KI,KS,KE,gB,R50,R65,R72,R84,Q28,Q41,Q7,Q18,An.val,An2,ba,bc,decide_true,decide_false,ah,af,aH,aW,bP];rw[un]
 ·simp only[KI,KS,KE,gB,R50,R65,R72,R84,Q28,Q41,Q7,Q18,An.val,An2,ba,bc,decide_true,decide_false,ah,af,aH,aW,bP];rw[nm1]
 ·simp only[KI,KS,KE,gB,R50,R65,R72,R84,Q28,Q41,Q7,Q18,An.val,An2,ba,bc,decide_true,decide_false,ah,af,aH,aW,bP];rw[nmn]
 ·simp only[KI,KS,KE,gB,R50,R65,R72,R84,Q28,Q41,Q7,Q18,An.val,An2,ba,bc,decide_true,decide_false,ah,af,aH,aW,bP];rw[un]
 ·simp only[KI,KS,KE,gB,R50,R65,R72,R84,Q28,Q41,Q7,Q18,An.val,An2,ba,bc,decide_true,decide_false,ah,af,aH,aW,bP];rw[un]
 ·simp only[KI,KS,KE,gB,R50,R65,R72,R84,Q28,Q41,Q7,Q18,An.val,An2,ba,bc,decide_true,decide_false,ah,af,aH,aW,bP];rw[un]
 ·simp only[KI,KS,KE,gB,R50,R65,R72,R84,Q28,Q41,Q7,Q18,An.val,An2,ba,bc,decide_true,decide_false,ah,af,aH,aW,bP];rw[nm2]
 ·simp only[KI,KS,KE,gB,R50,R65,R72,R84,Q28,Q41,Q7,Q18,An.val,An2,ba,bc,decide_true,decide_false,ah,af,aH,aW,bP];rw[un]
 ·simp only[KI,KS,KE,gB,R50,R65,R72,R84,Q28,Q41,Q7,Q18,An.val,An2,ba,bc,decide_true,decide_false,ah,af,aH,aW,bP];rw[un]
 ·simp only[KI,KS,KE,gB,R50,R65,R72,R84,Q28,Q41,Q7,Q18,An.val,An2,ba,bc,decide_true,decide_false,ah,af,aH,aW,aT];rw[un]
  ac_rfl
 ·simp only[KI,KS,KE,gB,R50,R65,R72,R84,Q28,Q41,Q7,Q18,An.val,An2,ba,bc,decide_true,decide_false,ah,af,aH,aW,aT];rw[un]
  ac_rfl
 ·simp only[KI,KS,KE,gB,R50,R65,R72,R84,Q28,Q41,Q7,Q18,An.val,An2,ba,bc,decide_true,decide_false,ah,af,aH,aW,aT];rw[un]
  ac_rfl
 ·simp only[KI,KS,KE,gB,R50,R65,R72,R84,Q28,Q41,Q7,Q18,An.val,An2,ba,bc,decide_true,decide_false,ah,af,aH,aW,aT];rw[un]
  ac_rfl
 ·simp only[KI,KS,KE,gB,R50,R65,R72,R84,Q28,Q41,Q7,Q18,An.val,An2,ba,bc,decide_true,decide_false,ah,af,aH,aW,aT];rw[un]
  ac_rfl
 ·simp only[KI,KS,KE,gB,R50,R65,R72,R84,Q28,Q41,Q7,Q18,An.val,An2,ba,bc,decide_true,decide_false,ah,af,aH,aW,aT];rw[un]
  ac_rfl
 ·simp only[KI,KS,KE,gB,R50,R65,R72,R84,Q28,Q41,Q7,Q18,An.val,An2,ba,bc,decide_true,decide_false,ah,af,aH,aW,aT];rw[un]
  ac_rfl
 ·simp only[KI,KS,KE,gB,R50,R65,R72,R84,Q28,Q41,Q7,Q18,An.val,An2,ba,bc,decide_true,decide_false,ah,af,aH,aW,aT];rw[un]
  ac_rfl
 ·simp only[KI,KS,KE,gB,R50,R65,R72,R84,Q28,Q41,Q7,Q18,An.val,An2,ba,bc,decide_true,decide_false,ah,af,aH,aW,aT];rw[un]
  ac_rfl
 ·simp only[KI,KS,KE,gB,R50,R65,R72,R84,Q28,Q41,Q7,Q18,An.val,An2,ba,bc,decide_true,decide_false,ah,af,aH,aW,aT];rw[un]
  ac_rfl
 ·simp only[KI,KS,KE,gB,R50,R65,R72,R84,Q28,Q41,Q7,Q18,An.val,An2,ba,bc,decide_true,decide_false,ah,af,aH,aW,aT];rw[un]
  ac_rfl
 ·simp only[KI,KS,KE,gB,R50,R65,R72,R84,Q28,Q41,Q7,Q18,An.val,An2,ba,bc,decide_true,decide_false,ah,af,aH,aW,aT];rw[un]
  ac_rfl
 ·simp only[KI,KS,KE,gB,R50,R65,R72,R84,Q28,Q41,Q7,Q18,An.val,An2,ba,bc,decide_true,decide_false,ah,af,aH,aW,aT];rw[un];rw[bs2]
  ac_rfl
 ·simp only[KI,KS,KE,gB,R50,R65,R72,R84,Q28,Q41,Q7,Q18,An.val,An2,ba,bc,decide_true,decide_false,ah,af,aH,aW,aT];rw[un]
  grind [Bool.and_assoc,decide,BS,bs1]
 ·simp only[KI,KS,KE,gB,R50,R65,R72,R84,Q28,Q41,Q7,Q18,An.val,An2,ba,bc,decide_true,decide_false,ah,af,aH,aW,aT];rw[un];rw[bsn]
  ac_rfl
 ·simp only[KI,KS,KE,gB,R50,R65,R72,R84,Q28,Q41,Q7,Q18,An.val,An2,ba,bc,decide_true,decide_false,ah,af,aH,aW,aT];rw[un2]
 ·simp only[KI,KS,KE,gB,R50,R65,R72,R84,Q28,Q41,Q7,Q18,An.val,An2,ba,bc,decide_true,decide_false,ah,af,aH,aW,aT];rw[nm0,aR6]
  ac_rfl
 ·simp only[KI,KS,KE,gB,R50,R65,R72,R84,Q28,Q41,Q7,Q18,An.val,An2,ba,bc,decide_true,decide_false,ah,af,aH,aW,aT];rw[un]
  ac_rfl
 ·simp only[KI,KS,KE,gB,R50,R65,R72,R84,Q28,Q41,Q7,Q18,An.val,An2,ba,bc,decide_true,decide_false,ah,af,aH,aW,aT];rw[un]
  ac_rfl
 ·simp only[KI,KS,KE,gB,R50,R65,R72,R84,Q28,Q41,Q7,Q18,An.val,An2,ba,bc,decide_true,decide_false,ah,af,aH,aW,aT];rw[un]
  ac_rfl
 ·simp only[KI,KS,KE,gB,R50,R65,R72,R84,Q28,Q41,Q7,Q18,An.val,An2,ba,bc,decide_true,decide_false,ah,af,aH,aW,aT];rw[un]
  ac_rfl
end Go.Abs.D
end

section
namespace Go.Abs.D
def vH (l) (j:Nat)(h:j<l.length):at_ (τ:=cZ) l j=l[j]:=by
 show(l.getD (j:Int).toNat _)=_;simp_all
def inR (i:Nat)(k:Int):Bool:=(0<=k)&&(k<i)
def okN (ns:List cZ.den)(i:Nat)(x:cZ.den):Bool:=
 bif(x.2.1<0)then aq else
 bif(x.2.2.1<x.2.1)then aq else
 bif(x.2.2.2.1<0)then aq else
 bif(200<(cX x).length)then aq else
 bif(cX x).all (inR i)then(bif gB x.1 then KS (ns,()) x (da ns x) (df x) x.2.2.2.2.1 x.2.2.2.2.2.1 x.2.2.2.2.2.2.1 x.1 else KE (ns,()) x (da ns x) (df x) x.2.2.2.2.1 x.2.2.2.2.2.1 x.2.2.2.2.2.2.1 x.1)else aq
def az7 (ks) (z) (hl:ks.length<=200)(aH1:1<=z->z<=ks.length->dU T z ks.length ks=U (EX ks z.toNat ks.length,(),(),ks,()))
  (a45:1<=z->z<=ks.length->gk T ks z ks.length (sub ks 0 z) ((sub ks 0 z).length) 0=U (bif(eV ks 0 z.toNat).all jv then aE (an (ks,z,(ks.length:Int),()))else an (aq,()))):
  brk (z<1) (U (aq,dB)) (brk (ar.wrap (ks.length - 1)<z) (U (aq,dB)) (brk (bounds ks.length 0 z) ((gk T ks z ks.length (sub ks 0 z) ((sub ks 0 z).length) 0).bind (ep (λXp=>U (Xp.1,dB)) λXp=>(dU T Xp.2.1 Xp.2.2.1 Xp.1).bind λd204=>U (d204.1,dB))) az))=
   U (av&&(1<=z&&(z<ks.length&&((eV ks 0 z.toNat).all jv&&EX ks z.toNat ks.length))),dB):=by
 have wk:ar.wrap (ks.length - 1)=ks.length - 1:=wrap64 _ (by omega) (by omega)
 by_cases h1:1<=z
 ·rw[db (by omega),ab h1]
  by_cases h2:z<ks.length
  ·have hb:bounds ks.length 0 z=true:=by
    grind [bounds,ab]
   rw[db (by omega),ab h2,c8 hb,a45 h1 (by omega)]
   cases(eV ks 0 z.toNat).all jv with
   |true=>
    simp[ep]
    grind
   |false=>rfl
  grind [c8,ab,aa]
 simp_all[c8,ab,aa]
variable{ns:List cZ.den}{i:Nat}{x:cZ.den}(hx:NodeOk x)(hi:i<ns.length)(hn:ns.length<=3000)
include hi hn
def Wm (hl:(cX x).length<=200):∀k j,j+k=(cX x).length->Evt λn=>oD (S.tab n) ↑i (ns,()) x ((da ns x).take j) (cX x) ((cX x).length) j=U (bif((cX x).drop j).all (inR i)then aE (an (x,da ns x,()))else an (aq,()))
 |0,j,h=>dF.up λn _=>by
  have:j=(cX x).length:=(by omega);subst this;rw[xA,dz (by simp),List.drop_length];simp_all[da,cX,bo4,cH,aF]
 |k+1,j,h=>by
  have hj:j<(cX x).length:=(by omega)
  have Zq:j<(da ns x).length:=by simp_all[da,cH]
  refine((Wm hl k (j+1) (by omega)).and J3).up λn ⟨ih,qY⟩=> ?_
  have wi:ar.wrap (i - 1)=i - 1:=wrap64 _ (by omega) (by omega);rw[xA,c8 (by simp_all),c8 (dm hj),xf hj,wi,qY,al,bG hj,cE,eT (by omega)]
  have e:(0<=(cX x)[j]&&(cX x)[j]<=i - 1)=inR i (cX x)[j]:=by
   grind [inR,cX,ab,aa]
  rw[e]
  cases hr:inR i (cX x)[j]with
  |false=>simp_all[c8]
  |true=>
   have e2:(da ns x).take (j+1)=(da ns x).take j++[nu ns (cX x)[j]]:=by
    have hm:(da ns x)[j]=nu ns (cX x)[j]:=List.getElem_map ..;simp_all[List.take_add_one,aL]
   have ef:fits (((da ns x).take j).length+([(at_ (τ:=cZ) (ns,()).1 (cX x)[j]).1]).length)=true:=fU (by
    grind [lim,bl,cR])
   rw[dz (by rfl),c8 (by
    grind),c8 ef]
   rw[e2]at ih;exact ih
omit hi hn in
theorem YX (hx:NodeOk x)(ks:LI):Evt λn=>gZ (S.tab n) x ks (df x) ((df x).length:Int) 0=U (bif(df x).all (jS 1)then aE (an (x,ks,()))else an (aq,())):=by
 have hg:∀(l:List LI),(∀m∈l,∀c∈m,isByte c)->Evt λn=>∀m∈l,kH (S.tab n) m=U (jS 1 m,cV):=by
  intro l
  induction l with
  |nil=>simp_all[Evt.of]
  |cons a l ih=>
   intro h
   refine((Bj (s:=a) (h a (aD ..))).and (ih λm hm=>h m (aB _ hm))).mono λn ⟨h1,h2⟩ m hm=> ?_
   grind
 have RU:=hx.nn
 have:=K1 (F:=λT j=>gZ T x ks (df x) ((df x).length:Int) ↑j) (P:=jS 1) (l:=df x) (yes:=aE (an (x,ks,()))) (no:=an (aq,())) (q:=λT=>∀m∈df x,kH T m=U (jS 1 m,cV)) (hg _ hx.names)
  (λT j h hT=>by
   show gZ (S.step T) _ _ _ _ _=bif _ then gZ T x ks (df x) ((df x).length:Int) ((j+1:Nat):Int)else _
   rw[wg,c8 (by simp_all),c8 (dm h),S8 h,hT _ (bF h),al,eT (by omega)]
   grind [jS,df,dz,c8])
  (λT hT=>by
   grind [gZ,wg,dz]) (df x).length 0 (by omega)
 simp_all
omit hi hn in
theorem Yi (hl:(cX x).length<=200):Evt λn=>iC (S.tab n) ↑i (ns,()) x (cX x) ((cX x).length:Int) 0=U (bif(cX x).all (inR i)then aE (an ((ns,()),x,()))else an (aq,())):=by
 have:=K1 (F:=λT j=>iC T ↑i (ns,()) x (cX x) ((cX x).length:Int) ↑j) (P:=inR i) (l:=cX x) (yes:=aE (an ((ns,()),x,()))) (no:=an (aq,())) (q:=Base2) dF
  (λT j h hT=>by
   show iC (S.step T) _ _ _ _ _ _=bif _ then iC T ↑i (ns,()) x (cX x) ((cX x).length:Int) ((j+1:Nat):Int)else _
   rw[vh,c8 (by simp_all),c8 (dm h),xf h,eT (by omega)];unfold inR
   grind [cX,dz,aa,ab,c8])
  (λT hT=>by
   grind [iC,vh,dz]) (cX x).length 0 (by omega)
 simp_all
include hx
def Ii (a95:ns[i]=x):Evt λn=>nU (S.tab n) (ns,()) i=U (okN ns i x,dB):=by
 have L7:at_ (τ:=cZ) ns i=x:=by rw[vH _ _ hi];exact a95
 have a14:at_ (τ:=cZ) ((ns,())).1 i=x:=L7
 have start:∀n,nU (S.step (S.tab n)) (ns,()) i=_:=λn=>by
  rw[Im,c8 (dm hi),a14]
 unfold okN
 by_cases c1:x.2.1<0
 ·refine dF.up λn _=> ?_
  rw[start,dn c1,ab c1];rfl
 by_cases c2:x.2.2.1<x.2.1
 ·refine dF.up λn _=> ?_
  rw[start,db c1,dn c2,aa c1,ab c2];rfl
 by_cases c3:x.2.2.2.1<0
 ·refine dF.up λn _=> ?_
  rw[start,db c1,db c2,dn c3,aa c1,aa c2,ab c3];rfl
 rw[aa c1,aa c2,aa c3]
 by_cases c4:200<(cX x).length
 ·refine dF.up λn _=> ?_
  have d4:I (200<(x.2.2.2.2.2.2.2.2.1.length:Int))=true:=ab (by unfold cX at c4;omega);rw[start,db c1,db c2,db c3,c8 d4,ab c4];rfl
 have d4:I (200<(x.2.2.2.2.2.2.2.2.1.length:Int))=false:=aa (by unfold cX at c4;omega);rw[aa c4];simp;have hl:(cX x).length<=200:=(by omega)
 have Ld:(da ns x).length<=200:=by unfold da;rw[cH];exact hl
 rw[<-alike]
 by_cases c5:¬ ((df x).length:Int)<=200
 ·have d5:I (200<(x.2.2.2.2.2.2.2.1.length:Int))=true:=ab (by unfold df at c5;omega)
  refine dF.up λn _=> ?_
  rw[start,db c1,db c2,db c3,dz d4,c8 d5,aa c5];cases(cX x).all (inR i)<;>rfl
 replace c5:=bV.1 c5
 have d5:I (200<(x.2.2.2.2.2.2.2.1.length:Int))=false:=aa (by unfold df at c5;omega);rw[ab c5,bD];have h6:=Wm hi hn hl (cX x).length 0 (by omega);rw[bY]at h6
 have step2:∀n,nU (S.step (S.tab n)) (ns,()) i=_:=λn=>by
  rw[start,db c1,db c2,db c3,dz d4,dz d5]
 cases hr:(cX x).all (inR i)with
 |false=>
  rw[hr]at h6
  refine h6.up λn h=> ?_
  have h:oD (S.tab n) ↑i (ns,()) x [] x.2.2.2.2.2.2.2.2.1 x.2.2.2.2.2.2.2.2.1.length 0=_:=h;rw[step2,h];rfl
 |true=>
  rw[hr]at h6;have Ae:=YX hx (da ns x);have aL5:=aB3 (da ns x) Ld ((df x).length) x.2.2.2.2.1 x.2.2.2.2.2.1 x.2.2.2.2.2.2.1 hx.text
  have Af:∀n,oD (S.tab n) ↑i (ns,()) x [] x.2.2.2.2.2.2.2.2.1 x.2.2.2.2.2.2.2.2.1.length 0=U (aE (an (x,da ns x,())))->nU (S.step (S.tab n)) (ns,()) i=_:=λn h=>by
   rw[step2,h,al]
  cases a62:(df x).all (jS 1)with
  |false=>
   rw[a62]at Ae
   refine(h6.and Ae).up λn ⟨h,Ae⟩=> ?_
   have Ae:gZ (S.tab n) x (da ns x) x.2.2.2.2.2.2.2.1 x.2.2.2.2.2.2.2.1.length 0=_:=Ae;rw[Af n h];show(gZ (S.tab n) x (da ns x) x.2.2.2.2.2.2.2.1 x.2.2.2.2.2.2.2.1.length 0).bind _=_;rw[Ae];rfl
  |true=>
   rw[a62]at Ae
   have a16:Evt λn=>∀fl,mq (S.tab n) (da ns x) ((df x).length) x.2.2.2.2.1 x.2.2.2.2.2.1 x.2.2.2.2.2.2.1 ((da ns x).length) x.1 fl=U (R84 (da ns x) ((df x).length) x.2.2.2.2.1 x.2.2.2.2.2.1 x.2.2.2.2.2.2.1 x.1 fl):=aL5.up λn h fl=>r84 h Ld x.1 fl
   have aX1:Evt λn=>∀fl,nx (S.tab n) (da ns x) ((df x).length) x.2.2.2.2.1 x.2.2.2.2.2.1 x.2.2.2.2.2.2.1 ((da ns x).length) x.1 fl=U (R72 (da ns x) ((df x).length) x.2.2.2.2.1 x.2.2.2.2.2.1 x.2.2.2.2.2.2.1 x.1 fl):=(aL5.and a16).up λn ⟨h,h'⟩ fl=>r72 h Ld x.1 h' fl
   have aZ6:Evt λn=>∀fl,jj (S.tab n) (da ns x) ((df x).length) x.2.2.2.2.1 x.2.2.2.2.2.1 x.2.2.2.2.2.2.1 ((da ns x).length) x.1 fl=U (R65 (da ns x) ((df x).length) x.2.2.2.2.1 x.2.2.2.2.2.1 x.2.2.2.2.2.2.1 x.1 fl):=(aL5.and aX1).up λn ⟨h,h'⟩ fl=>r65 h Ld x.1 h' fl
   have aO5:Evt λn=>∀fl,pd (S.tab n) (da ns x) ((df x).length) x.2.2.2.2.1 x.2.2.2.2.2.1 x.2.2.2.2.2.2.1 ((da ns x).length) x.1 fl=U (R50 (da ns x) ((df x).length) x.2.2.2.2.1 x.2.2.2.2.2.1 x.2.2.2.2.2.2.1 x.1 fl):=(aL5.and aZ6).up λn ⟨h,h'⟩ fl=>r50 h Ld x.1 h' fl
   refine((h6.and Ae).and (aL5.and aO5)).up λn ⟨⟨h,Ae⟩,hI,aO5⟩=> ?_
   have Ae:gZ (S.tab n) x (da ns x) x.2.2.2.2.2.2.2.1 x.2.2.2.2.2.2.2.1.length 0=_:=Ae;rw[Af n h];show(gZ (S.tab n) x (da ns x) x.2.2.2.2.2.2.2.1 x.2.2.2.2.2.2.2.1.length 0).bind _=_;rw[Ae];simp[ep];have RU:x.2.2.2.2.2.2.2.1.length=((df x).length):=rfl;rw[RU];unfold KI
   by_cases k1:x.1=1
   ·rw[dn k1,ab k1,ah,hI.l26]
    cases(da ns x).all gB with
    |true=>simp[hI.pl]
    |false=>rfl
   rw[db k1,aa k1,af]
   by_cases k2:x.1=2
   ·rw[dn k2,ab k2,ah,hI.pl,hI.Kc];simp
    cases PL av aq aq aq ((df x).length) x.2.2.2.2.1 x.2.2.2.2.2.1 x.2.2.2.2.2.2.1 with
    |false=>rw[gH];rfl
    |true=>
     rw[ix]
     cases I (1<=((df x).length:Int))with
     |false=>rw[gH];rfl
     |true=>rw[ix];rfl
   rw[db k2,aa k2,af]
   by_cases k3:x.1=3
   ·rw[dn k3,ab k3,ah,hI.pl];simp
    cases PL av aq aq aq ((df x).length) x.2.2.2.2.1 x.2.2.2.2.2.1 x.2.2.2.2.2.2.1 with
    |false=>rw[gH];rfl
    |true=>
     rw[ix]
     cases I (((df x).length:Int)=1)with
     |false=>rw[gH];rfl
     |true=>
      rw[ix]
      by_cases h1:(da ns x).length=1
      ·rw[dn (by omega),hI.He (by omega),ab (show((da ns x).length:Int)=1 by omega)];rfl
      ·rw[db (by omega),aa (show¬ ((da ns x).length:Int)=1 by omega)];rfl
   rw[db k3,aa k3,af]
   by_cases k4:x.1=4
   ·rw[dn k4,ab k4,ah,hI.pl];simp
    cases PL av aq aq aq ((df x).length) x.2.2.2.2.1 x.2.2.2.2.2.1 x.2.2.2.2.2.2.1 with
    |false=>rw[gH];rfl
    |true=>
     rw[ix]
     cases I (((df x).length:Int)=1)with
     |false=>rw[gH];rfl
     |true=>
      rw[ix]
      by_cases h1:(da ns x).length=1
      ·rw[dn (by omega),dn (by omega),ab (show((da ns x).length:Int)=1 by omega)];rfl
      ·rw[db (by omega),aa (show¬ ((da ns x).length:Int)=1 by omega)];rfl
   rw[db k4,aa k4,af]
   by_cases k5:x.1=5
   ·rw[dn k5,ab k5,ah,hI.pl];simp
    cases PL aq aq av aq ((df x).length:Int) x.2.2.2.2.1 x.2.2.2.2.2.1 x.2.2.2.2.2.2.1 with
    |false=>rw[c8 (by rfl)];rfl
    |true=>
     rw[dz (by rfl)];exact az7 (da ns x) x.2.2.2.2.2.1 Ld hI.aH1 hI.a45
   rw[db k5,aa k5,af]
   by_cases k6:x.1=6
   ·rw[dn k6,ab k6,ah,aO5]
    cases hR:R50 (da ns x) ((df x).length:Int) x.2.2.2.2.1 x.2.2.2.2.2.1 x.2.2.2.2.2.2.1 x.1 av with
    |inl y=>rfl
    |inr y=>cases y with
     |inl y=>rfl
     |inr y=>exact y.elim
   ·rw[db k6,aa k6,af,aO5]
    cases hR:R50 (da ns x) ((df x).length:Int) x.2.2.2.2.1 x.2.2.2.2.2.1 x.2.2.2.2.2.2.1 x.1 (x.1=16)with
    |inl y=>rfl
    |inr y=>cases y with
     |inl y=>rfl
     |inr y=>exact y.elim
end Go.Abs.D
end

section
namespace Go.Abs.D
structure PW (out gI gS:List di.den)(T:S.Tab):Prop where
 kI:∀(a:Nat) nd,a<=out.length->fh T (gI,(a:Int),nd,())=U (KA out a,(gI,(a:Int),nd,()),())
 tI:∀(a:Nat) nd,a<out.length->dy T (gI,(a:Int),nd,())=U (tkA out a,(gI,((a+1:Nat):Int),nd,()),())
 eI:∀(a:Nat) nd k,a<=out.length->fo T (gI,(a:Int),nd,()) k=U (I (KA out a=k),(gI,(((bif I (KA out a=k)then a+1 else a):Nat):Int),nd,()),(),())
 cI:∀(a b:Nat) nd x,a<out.length->b<out.length->nd.length<=300000->dt T (gI,((a+1:Nat):Int),nd,()) (b:Int) x=U ((nd.length:Int),(gI,((a+1:Nat):Int),nd++[NC out b (a+1) x],()),(),uN,())
 aI:∀(a:Int) nd x,nd.length<=300000->lf T (gI,a,nd,()) x=U ((nd.length:Int),(gI,a,nd++[x],()),uN,())
 kS:∀(a:Nat) nd,a<=out.length->fC T (gS,(a:Int),nd,())=U (KA out a,(gS,(a:Int),nd,()),())
 tS:∀(a:Nat) nd,a<out.length->dN T (gS,(a:Int),nd,())=U (tkA out a,(gS,((a+1:Nat):Int),nd,()),())
 eS:∀(a:Nat) nd k,a<=out.length->lj T (gS,(a:Int),nd,()) k=U (I (KA out a=k),(gS,(((bif I (KA out a=k)then a+1 else a):Nat):Int),nd,()),(),())
 aS:∀(a:Nat) nd x,a<out.length->nd.length<=300000->dJ T (gS,((a+1:Nat):Int),nd,()) x=U ((nd.length:Int),(gS,((a+1:Nat):Int),nd++[(x.1,x.2.1,(tkA out a).2.2.1,x.2.2.2)],()),uN,())
 nS:∀k t,eG T k t=U ((k,t.2.1,0,t.2.2.2.1,0,0,([]:LI),[],[],()),fD)
 uI:∀(x:Node) (a b:Nat) nd,a<out.length->b<out.length->nd.length<=300000->gp T x (gI,(a:Int),nd,()) (b:Int)=U ((nd.length:Int),uN,(gI,((a+1:Nat):Int),nd++[NC out b (a+1) x],()),(b:Int),())
 pI:∀k:Int,eM T k=U (xR k,cV)
 pS:∀k:Int,fb T k=U (xR k,cV)
 bI:∀k:Int,ij T k=U (mS k,cV)
 bS:∀k:Int,fZ T k=U (mS k,cV)
 iS:∀k:Int,nQ T k=U (RG k,cV)
 sS:∀k:Int,vq T k=U (unK k,cV)
 wS:∀k:Int,k∈kinds->ze k=av->kR T k=U ((pw k,pr k,()),cV)
 wI:∀k:Int,k∈kinds->oZ T k=U (bif ze k then pw k else 0,cV)
theorem Bp (h:a<out.length):tkA (out++[e]) a=tkA out a:=by
 simp_all[tkA,at_,bm,aG,List.getElem?_append_left]
def FQ (he:e.1=6){a:Nat}(h:a<=out.length):(tkA (out++[e]) a).1=KA out a:=by
 unfold KA
 rcases bB a out.length with hl|hl
 ·rw[Bp hl];unfold tkA at_;rw[bm,aG,aG,bn4,aL hl];rfl
 ·have:a=out.length:=(by omega);unfold tkA at_;simp_all
def aB7 (hI:eI.1=6)(hS:eS.1=6)(hL:out.length<=65536):Evt λn=>PW out (out++[eI]) (out++[eS]) (S.tab n):=
 ((ZW (ts:=out++[eI]) (L:=out.length) (by simp) hL).and (ZW (ts:=out++[eS]) (L:=out.length) (by simp) hL)).mono λn ⟨p,q⟩=>
  ⟨λa nd h=>by rw[p.kI _ _ h,FQ hI h],λa nd h=>by rw[p.tI _ _ h,Bp h],λa nd k h=>by rw[p.eI _ _ _ h,FQ hI h],
   λa b nd x h h2 h3=>by rw[p.cI _ _ _ _ h h2 h3];grind [NC,Bp],p.aI,
   λa nd h=>by rw[q.kS _ _ h,FQ hS h],λa nd h=>by rw[q.tS _ _ h,Bp h],λa nd k h=>by rw[q.eS _ _ _ h,FQ hS h],
   λa nd x h h2=>by rw[q.aS _ _ _ h h2,Bp h],q.nS,λx a b nd h h2 h3=>by rw[p.uI _ _ _ _ h h2 h3];grind [NC,Bp],
   p.pI,q.pS,p.bI,q.bS,q.iS,q.sS,q.wS,p.wI⟩
def Bu (x:Node):Prop:=NodeOk x/\RgI x
noncomputable def W (nd:List Node):Nat:=open Classical in if∀x∈nd,Bu x then nd.length else nd.length+1000000
theorem lL (nd):nd.length<=W nd:=by grind [W]
def aS3 (h:W nd<1000000):∀x∈nd,Bu x:=by
 grind [W]
def mw (hx:Bu x):W (nd++[x])<=W nd+1:=by
 unfold W
 grind
structure TokR (z:di.den):Prop where
 f:rg z.2.1
 t:rg z.2.2.1
 l:rg z.2.2.2.1
 n:rg z.2.2.2.2.1
@[reducible] def rg3 (a b c:Int):Prop:=rg a/\rg b/\rg c
def SJ (n):rg (ar.wrap n):=by
 grind [IntKind.wrap_i64]
structure Toks where
 out:List di.den
 tI:List di.den
 tS:List di.den
 lI:tI.length=out.length+1
 lS:tS.length=out.length+1
 aI:∀a:Nat,a<out.length->at_ (τ:=di) tI (a:Int)=tkA out a
 aS:∀a:Nat,a<out.length->at_ (τ:=di) tS (a:Int)=tkA out a
 kI:∀a:Nat,a<=out.length->(at_ (τ:=di) tI (a:Int)).1=KA out a
 kS:∀a:Nat,a<=out.length->(at_ (τ:=di) tS (a:Int)).1=KA out a
 len:out.length<=65536
 kind:∀a:Nat,0<=KA out a/\KA out a<=78
 X5:∀a:Nat,∀c∈(tkA out a).2.2.2.2.2.1,isByte c
 aO7:∀a:Nat,TokR (tkA out a)
 base:Evt λn=>PW out tI tS (S.tab n)
variable(G:Toks)
def nok (hr:rg3 k op num){text:LI}{names:List LI}{kids:LI}(h1:∀c∈text,isByte c)(h2:∀m∈names,∀c∈m,isByte c)(h3:names.length<=2097152)(h4:kids.length<=2097152):
  Bu (k,(tkA G.out b).2.1,(tkA G.out c).2.2.1,(tkA G.out b).2.2.2.1,op,num,text,names,kids,()):=⟨⟨h1,h2,h3,h4⟩,hr.1,(G.aO7 b).f,(G.aO7 c).t,(G.aO7 b).l,hr.2.1,hr.2.2⟩
def Aw (hr:rg3 k op num){kids:LI}(h4:kids.length<=2097152):Bu (k,(tkA G.out b).2.1,(tkA G.out c).2.2.1,(tkA G.out b).2.2.2.1,op,num,[],[],kids,()):=nok G hr (λ_ h=>nomatch h) (λ_ h=>nomatch h) (by simp) h4
def Y8 (hr:rg3 k op num){text kids:LI}(h1:∀c∈text,isByte c)(h4:kids.length<=2097152):Bu (k,(tkA G.out b).2.1,(tkA G.out c).2.2.1,(tkA G.out b).2.2.2.1,op,num,text,[],kids,()):=nok G hr h1 (λ_ h=>nomatch h) (by simp) h4
def Y7 (hr:rg3 k op num){names:List LI}{kids:LI}(h2:∀m∈names,∀c∈m,isByte c)(h3:names.length<=2097152)(h4:kids.length<=2097152):Bu (k,(tkA G.out b).2.1,(tkA G.out c).2.2.1,(tkA G.out b).2.2.2.1,op,num,[],names,kids,()):=nok G hr (λ_ h=>nomatch h) h2 h3 h4
def Toks.mem (a):KA G.out a∈kinds:=mC (G.kind a).1 (G.kind a).2
def Toks.kdA (h:a<G.out.length):(tkA G.out a).1=KA G.out a:=by rw[<-G.aI a h];exact G.kI a (Nat.le_of_lt h)
def Nx (r:LI)(a:Nat)(nd:List Node)(a':Nat)(lX:List Node)(m:Nat):Prop:=a<a'/\a'<=G.out.length/\lX.length=m+1/\W lX+4*a+2<=W nd+4*a'/\Ac G.out r a'
def Nx1 (r:LI)(a:Nat)(nd:List Node)(a':Nat)(lX:List Node)(m:Nat):Prop:=a<a'/\a'<=G.out.length/\lX.length=m+1/\W lX+4*a+1<=W nd+4*a'/\Ac G.out r a'
def JN (fI fS:S.Tab->StT->Option (Int×StT×Unit))(s:LI)(a:Nat):Prop:=
 ∀nd r,a<=G.out.length->W nd<=4*a->Ac G.out (s++r) a->∃a' m lX,Nx G r a nd a' lX m/\(Evt λn=>fI (S.tab n) (G.tI,a,nd,())=U ((m:Int),(G.tI,(a':Int),lX,()),()))/\
  Evt λn=>fS (S.tab n) (G.tS,a,nd,())=U ((m:Int),(G.tS,(a':Int),lX,()),())
def rel (l l':Int):Prop:=0<=l'/\(l=l'+1\/(l=0/\l'=0))
def JE (a:Nat):Prop:=∀l l' nd (r:LI),rel l l'->a<=G.out.length->W nd<=4*a->Ac G.out (1020::1019::r) a->∃(a' m:Nat) (lX:List Node),Nx G (1019::r) a nd a' lX m/\(ze (KA G.out a')=av->pw (KA G.out a')<l)/\
  (Evt λn=>eQ (S.tab n) (G.tI,a,nd,()) l'=U ((m:Int),(G.tI,(a':Int),lX,()),(),()))/\
  Evt λn=>gA (S.tab n) (G.tS,a,nd,()) l=U ((m:Int),(G.tS,(a':Int),lX,()),(),())
def aj9 (hk:k∈kinds)(hi:ze k=av):rel (pr k) (bif(k=72)then pw k - 1 else pw k):=by
 have h:(kinds.all λk=> !ze k||(0<=(bif(k=72)then pw k - 1 else pw k)&&pr k=(bif(k=72)then pw k - 1 else pw k)+1))=true:=by kernel_rfl
 have:=aK.1 h k hk;rw[hi]at this;simp at this;exact⟨this.1, .inl this.2⟩
def Ww (hk:k∈kinds)(hi:ze k=av):1<=pw k/\pw k<=10/\RG k=true:=by
 have:=aK.1 aa5 k hk;simp_all
def TA (ha:a<G.out.length){l l':Int}(hl:rel l l')(r:LI)(hE:∀a',a<a'->JE G a'):∀d a1 m1 (iQ:List Node),G.out.length<a1+d->a<a1->a1<=G.out.length->iQ.length=m1+1->W iQ<=4*a1->Ac G.out (1019::r) a1->
  ∃(a2 m2:Nat) (mA:List Node),a1<=a2/\a2<=G.out.length/\mA.length=m2+1/\W mA+4*a1<=W iQ+4*a2/\Ac G.out (1019::r) a2/\(ze (KA G.out a2)=av->pw (KA G.out a2)<l)/\
   (Evt λn=>iF (S.tab n) (G.tI,a1,iQ,()) l' ↑a m1=U (an ((G.tI,(a2:Int),mA,()),(m2:Int),())))/\
   Evt λn=>jq (S.tab n) (G.tS,a1,iQ,()) l (tkA G.out a) m1=U (bif ze (KA G.out a2)then an ((G.tS,(a2:Int),mA,()),(m2:Int),())else aE (an ((G.tS,(a2:Int),mA,()),(m2:Int),()))):=by
 intro d
 induction d with
 |zero=>omega
 |succ d ih=>
  intro a1 m1 iQ hd rP XH hm hn hA;have hk:=G.mem a1;have hL:=G.len
  cases hi:ze (KA G.out a1)with
  |false=>
   refine⟨a1,m1,iQ,aF _,XH,hm,aF _,hA,λh=>absurd (hi.symm.trans h) (by decide),G.base.up λn B=> ?_,G.base.up λn B=> ?_⟩
   ·show iF (S.step (S.tab n)) _ _ _ _=_;rw[oP,B.kI _ _ XH,al];dsimp only;rw[B.wI _ hk,al,hi];exact c8 (ab hl.1)
   ·show jq (S.step (S.tab n)) _ _ _ _=_
    have hs:RG (KA G.out a1)=false:=by
     have:=aK.1 aa5 _ hk;rw[hi]at this;simp only[aA,beq_iff_eq]at this;exact this.1.symm
    rw[rf,B.kS _ _ XH,al];dsimp only;rw[B.iS,al,hs,hi];exact dz rfl
  |true=>
   obtain⟨w1,w2,ws⟩:=Ww hk hi
   by_cases hw:pw (KA G.out a1)<l
   ·refine⟨a1,m1,iQ,aF _,XH,hm,aF _,hA,λ_=>hw,G.base.up λn B=> ?_,G.base.up λn B=> ?_⟩
    ·show iF (S.step (S.tab n)) _ _ _ _=_;rw[oP,B.kI _ _ XH,al];dsimp only;rw[B.wI _ hk,al,hi];exact dn (show pw (KA G.out a1)<=l' by rcases hl with⟨h0,h|h⟩<;>omega)
    ·show jq (S.step (S.tab n)) _ _ _ _=_;rw[rf,B.kS _ _ XH,al];dsimp only;rw[B.iS,al,ws,c8 (by rfl),B.kS _ _ XH,al];dsimp only;rw[B.wS _ hk hi,al,hi];exact dn hw
   ·have be8:¬ pw (KA G.out a1)<=l':=by rcases hl with⟨h0,h|h⟩<;>omega
    have ht:stI 1019 (KA G.out a1)= .left [1020,1019]:=by
     have:=of_decide_eq_true (aK.1 WN _ hk);rw[hi]at this;exact this
    obtain⟨a23,aL3⟩:=fE ht rfl hA XH;obtain⟨a3,m3,sE,⟨n1,n2,n3,n4,n5⟩,_,eI,eS⟩:=hE (a1+1) (by omega) (pr (KA G.out a1)) _ iQ r (aj9 hk hi) (by omega) (by omega) aL3;obtain⟨c,rfl⟩:∃c,a3=c+1:=⟨a3 - 1,by omega⟩;have hc:c<G.out.length:=(by omega)
    have h3:sE.length<=300000:=by have:=lL sE;omega
    generalize hN:(bif I (KA G.out a1=10)then(28,(tkA G.out a).2.1,(tkA G.out c).2.2.1,(tkA G.out a).2.2.2.1,0,0,([]:LI),[],[(m1:Int),(m3:Int)],())else
     bif I (KA G.out a1=26)then(29,(tkA G.out a).2.1,(tkA G.out c).2.2.1,(tkA G.out a).2.2.2.1,0,0,([]:LI),[],[(m1:Int),(m3:Int)],())else
     ((31,(tkA G.out a).2.1,(tkA G.out c).2.2.1,(tkA G.out a).2.2.2.1,ar.wrap (KA G.out a1 - 60),0,([]:LI),[],[(m1:Int),(m3:Int)],()):Node))=N
    have bi3:Bu N:=by rw[<-hN];cases I (KA G.out a1=10)<;>cases I (KA G.out a1=26)<;>first|exact Aw G (by decide) (by simp)|exact Aw G ⟨by decide,SJ _,by decide⟩ (by simp)
    have HM:=mw (nd:=sE) bi3;obtain⟨a2,m2,mA,q1,q2,q3,q4,q5,q6,qI,qS⟩:=ih (c+1) sE.length (sE++[N]) (by omega) (by omega) (by omega) (by simp) (by omega) n5;refine⟨a2,m2,mA,by omega,q2,q3,by omega,q5,q6, ?_, ?_⟩
    ·have vR:Evt λn=>nK (S.tab n) (G.tI,((a1+1:Nat):Int),iQ,()) l' ↑a ↑m1 (KA G.out a1) (bif I (KA G.out a1=72)then pw (KA G.out a1) - 1 else pw (KA G.out a1))=U (an ((G.tI,((c+1:Nat):Int),sE++[N],()),l',(a:Int),(sE.length:Int),())):=(G.base.and eI).up λn ⟨B,h⟩=>by
      rw[yp,h,al];dsimp only
      by_cases e1:KA G.out a1=10
      ·rw[dn e1,db (by omega),B.cI _ _ _ _ hc ha h3,<-hN,ab e1];rfl
      ·rw[db e1]
       by_cases e2:KA G.out a1=26
       ·rw[dn e2,B.cI _ _ _ _ hc ha h3,<-hN,aa e1,ab e2];rfl
       ·rw[db e2,B.cI _ _ _ _ hc ha h3,<-hN,aa e1,aa e2];rfl
     refine((G.base.and vR).and qI).up λn ⟨⟨B,h⟩,hq⟩=> ?_
     show iF (S.step (S.tab n)) _ _ _ _=_;rw[oP,B.kI _ _ XH,al];dsimp only;rw[B.wI _ hk,al,hi];simp;rw[db be8,B.tI _ _ a23,al];dsimp only
     by_cases e:KA G.out a1=72
     ·rw[ab e]at h⊢;rw[c8 rfl,wrap64 _ (by omega) (by omega)];simp only[ah]at h;rw[h];exact hq
     ·rw[aa e]at h⊢;rw[dz rfl];simp only[af]at h;rw[h];exact hq
    ·refine((G.base.and eS).and qS).up λn ⟨⟨B,h⟩,hq⟩=> ?_
     show jq (S.step (S.tab n)) _ _ _ _=_;rw[rf,B.kS _ _ XH,al];dsimp only;rw[B.iS,al,ws,c8 (by rfl),B.kS _ _ XH,al];dsimp only;rw[B.wS _ hk hi,al];dsimp only;rw[db hw,B.tS _ _ a23,al];dsimp only;rw[h,al,B.nS,al];dsimp only;rw[G.kdA a23]
     by_cases e1:KA G.out a1=10
     ·rw[dn e1,B.aS _ _ _ hc h3,al];rw[ab e1]at hN;rw[<-hN]at hq;exact hq
     ·rw[db e1];rw[aa e1]at hN
      by_cases e2:KA G.out a1=26
      ·rw[dn e2,B.aS _ _ _ hc h3,al];rw[ab e2]at hN;rw[<-hN]at hq;exact hq
      ·rw[db e2,B.aS _ _ _ hc h3,al];rw[aa e2]at hN;rw[<-hN]at hq;exact hq
def VX (hU:JN G fz gQ [1020] a)(hE:∀a',a<a'->JE G a'):JE G a:=by
 intro l l' nd r hl ha hn hA;obtain⟨a1,m1,iQ,⟨n1,n2,n3,n4,n5⟩,eI,eS⟩:=hU nd (1019::r) ha hn hA;have HN:a<G.out.length:=(by omega);obtain⟨a2,m2,mA,q1,q2,q3,q4,q5,q6,qI,qS⟩:=TA G HN hl r hE (G.out.length+1) a1 m1 iQ (by omega) n1 n2 n3 (by omega) n5;refine⟨a2,m2,mA,⟨by omega,q2,q3,by omega,q5⟩,q6,(eI.and qI).up λn ⟨h1,h2⟩=> ?_,(eS.and qS).up λn ⟨h1,h2⟩=> ?_⟩
 ·show eQ (S.step (S.tab n)) _ _=_;rw[Cj,h1,al];rw[h2];rfl
 ·show gA (S.step (S.tab n)) _ _=_;have qY:(0<=(a:Int)&&a<(G.tS.length:Int))=true:=dm (by rw[G.lS];omega);rw[E6];rw[c8 qY,h1,al];rw[G.aS _ HN,h2];cases ze (KA G.out a2)<;>rfl
end Go.Abs.D
end

section
namespace Go.Abs.D
def fM (x y:Option ρ):brk av x y=x:=c8 rfl
def fG (x y:Option ρ):brk aq x y=y:=dz rfl
theorem Z3 (e:stI s (KA out a)= .left l)(ha:a<out.length)(h:Ac out (l++r) (a+1)):Ac out (s::r) a:=by
 obtain⟨b,h1,h2⟩:=h
 have hd:(out.map kd).drop a=KA out a::(out.map kd).drop (a+1):=by
  simp_all[bG,KA,aG,aL]
 refine⟨b, ?_,h2⟩;rw[hd];show(match kV (s::r) (KA out a)with| .left l=>foldI l ((out.map kd).drop (a+1))|_=>az)=U b;rw[show kV (s::r) (KA out a)=(stI s (KA out a)).then r (kV r (KA out a))from ky stI s r _,e];exact h1
def JW {q r:LI}(e:stI s (KA out a)=(stI s' (KA out a)).then q .no)(h:Ac out (s::r) a)(ha:a<=out.length):Ac out (s'::(q++r)) a:=by
 rcases yT ha h with⟨l,e',hl,h⟩|⟨e',h⟩
 ·rw[e]at e'
  cases hs:stI s' (KA out a)with
  |no=>rw[hs]at e';cases e'
  |gone=>rw[hs]at e';cases e'
  |left l0=>
   rw[hs]at e'
   injection e' with e'
   grind [Z3,aC]
 ·rw[e]at e';cases hs:stI s' (KA out a)<;>(rw[hs]at e';cases e')
variable(G:Toks)
def Toks.tab (h:kinds.all p=av) (a):p (KA G.out a)=true:=aK.1 h _ (G.mem a)
def JX (a:Nat):Prop:=∀nd (r:LI),a<=G.out.length->W nd<=4*a->Ac G.out (1018::r) a->∃a' m lX,Nx G r a nd a' lX m/\
 (Evt λn=>eQ (S.tab n) (G.tI,a,nd,()) 0=U ((m:Int),(G.tI,(a':Int),lX,()),(),()))/\
 Evt λn=>gA (S.tab n) (G.tS,a,nd,()) 0=U ((m:Int),(G.tS,(a':Int),lX,()),(),())
def YI (h:JE G a):JX G a:=by
 intro nd r ha hn hA;have a08:=JW (of_decide_eq_true (G.tab ah5 a)) hA ha;obtain⟨a',m,lX,⟨n1,n2,n3,n4,n5⟩,hs,eI,eS⟩:=h 0 0 nd r ⟨cM 0, .inr ⟨rfl,rfl⟩⟩ ha hn a08;refine⟨a',m,lX,⟨n1,n2,n3,n4, ?_⟩,eI,eS⟩
 have hi:ze (KA G.out a')=false:=by
  cases hi:ze (KA G.out a')with
  |false=>rfl
  |true=>have:=hs hi;have:=(Ww (G.mem a') hi).1;omega
 have ht:=of_decide_eq_true (G.tab WN a');rw[hi]at ht;exact jw ht rfl n5 n2
def JL (a:Nat):Prop:=∀nd (r:LI),a<=G.out.length->W nd<=4*a->Ac G.out (1018::1023::r) a->∃(a':Nat) (xs:LI) (lX:List Node),a<a'/\a'<=G.out.length/\xs.length+a<=a'/\W lX+4*a<=W nd+4*a'/\Ac G.out r a'/\
 (Evt λn=>gN (S.tab n) (G.tI,a,nd,())=U (xs,(G.tI,(a':Int),lX,()),()))/\
 Evt λn=>jd (S.tab n) (G.tS,a,nd,())=U (xs,(G.tS,(a':Int),lX,()),())
def Tj (Q:LI->Prop):Prop:=∀st a,Q st->a<=G.out.length->Ac G.out st a->KA G.out a=46->a<G.out.length/\∃EP,Q EP/\Ac G.out (1018::EP) (a+1)
def QO (hQ:Tj G Q) (a0) (hX:∀a',a0<a'->JX G a'):∀d a xs nd st,G.out.length<a+d->a0<a->a<=G.out.length->xs.length<=a->W nd<=4*a->Q st->Ac G.out st a->
  ∃a' ys lX EP,a<=a'/\a'<=G.out.length/\ys.length+a<=xs.length+a'/\W lX+4*a<=W nd+4*a'/\Q EP/\Ac G.out EP a'/\KA G.out a'≠46/\
   (Evt λn=>kg (S.tab n) (G.tI,a,nd,()) xs=U (an ((G.tI,(a':Int),lX,()),ys,())))/\
   Evt λn=>mc (S.tab n) (G.tS,a,nd,()) xs=U (an ((G.tS,(a':Int),lX,()),ys,())):=by
 intro d
 induction d with
 |zero=>omega
 |succ d ih=>
  intro a xs nd st hd h0 HN hx hn hq hA;have hL:=G.len
  by_cases hk:KA G.out a=46
  ·obtain⟨hl,av3,q1,hA⟩:=hQ st a hq HN hA hk;obtain⟨a1,m1,iQ,⟨n1,n2,n3,n4,n5⟩,eI,eS⟩:=hX (a+1) (by omega) nd av3 (by omega) (by omega) hA;obtain⟨a2,ys,mA,P7,q1,q2,q3,q4,q5,q6,q7,qI,qS⟩:=ih a1 (xs++[(m1:Int)]) iQ av3 (by omega) (by omega) n2 (by simp;omega) (by omega) q1 n5;simp at q3;refine⟨a2,ys,mA,P7,by omega,q2,by omega,by omega,q5,q6,q7,((G.base.and eI).and qI).up λn ⟨⟨B,h⟩,hq⟩=> ?_,((G.base.and eS).and qS).up λn ⟨⟨B,h⟩,hq⟩=> ?_⟩
   ·show kg (S.step (S.tab n)) _ _=_;simp only[r7,B.eI _ _ _ HN,ab hk,al,fM,ah,h];rw[c8 (fU (by unfold lim;simp;omega))];exact hq
   ·show mc (S.step (S.tab n)) _ _=_;simp only[ui,B.eS _ _ _ HN,ab hk,al,fM,ah,h];rw[c8 (fU (by unfold lim;simp;omega))];exact hq
  ·refine⟨a,xs,nd,st,aF _,HN,aF _,aF _,hq,hA,hk,G.base.up λn B=> ?_,G.base.up λn B=> ?_⟩
   ·show kg (S.step (S.tab n)) _ _=_;simp only[r7,B.eI _ _ _ HN,aa hk,al,fG,af]
   ·show mc (S.step (S.tab n)) _ _=_;simp only[ui,B.eS _ _ _ HN,aa hk,al,fG,af]
def LP (hQ:Tj G Q){a:Nat}(hX:∀a',a<=a'->JX G a'){nd:List Node}{st:LI}(ha:a<=G.out.length)(hn:W nd<=4*a)(hq:Q st)(hA:Ac G.out (1018::st) a):
  ∃a' xs lX EP,a<a'/\a'<=G.out.length/\xs.length+a<=a'/\W lX+4*a<=W nd+4*a'/\Q EP/\Ac G.out EP a'/\KA G.out a'≠46/\
   (Evt λn=>gN (S.tab n) (G.tI,a,nd,())=U (xs,(G.tI,(a':Int),lX,()),()))/\
   Evt λn=>jd (S.tab n) (G.tS,a,nd,())=U (xs,(G.tS,(a':Int),lX,()),()):=by
 obtain⟨a1,m1,iQ,⟨n1,n2,n3,n4,n5⟩,eI,eS⟩:=hX a (aF _) nd st ha hn hA;obtain⟨a2,ys,mA,P7,q1,q2,q3,q4,q5,q6,q7,qI,qS⟩:=QO G hQ a (λa' h=>hX a' (by omega)) (G.out.length+1) a1 [m1] iQ st (by omega) n1 n2 (by grind) (by omega) hq n5;simp at q3;refine⟨a2,ys,mA,P7,by omega,q2,by omega,by omega,q5,q6,q7,(eI.and qI).up λn ⟨h,hq⟩=> ?_,(eS.and qS).up λn ⟨h,hq⟩=> ?_⟩
 ·show gN (S.step (S.tab n)) _=_;simp[AT,h,hq,dH]
 ·show jd (S.step (S.tab n)) _=_;simp[DG,h,hq,dH]
def BQ (hX:∀a',a<=a'->JX G a'):JL G a:=by
 intro nd r ha hn hA
 have hQ:Tj G (λst=>st=1023::r):=λst a' e UH Ql hk=>by
  subst e;have ht:=of_decide_eq_true (G.tab Sk a');rw[ab hk]at ht;obtain⟨hl,hA⟩:=fE ht rfl Ql UH;simp_all
 obtain⟨a1,xs,iQ,av3,q1,q2,q3,q4,rfl,q6,q7,qI,qS⟩:=LP G hQ hX ha hn rfl hA;have ht:=of_decide_eq_true (G.tab Sk a1);rw[aa q7]at ht;exact⟨a1,xs,iQ,q1,q2,q3,q4,jw ht rfl q6 q2,qI,qS⟩
def Ut (F:LI):Prop:=∀s∈F,∃f∈F,∃c∈F,stI s 48= .left [1,f]/\stI s 44= .left [1018,45,f]/\stI s 40= .left [1022,41,c]
def OU (tk) (st:StT)(x0 x1 x2 x3 x4 x5:Int)(x6:LI)(x7:List LI):∀(r pre ks:LI),(pre++r).length<=70000->ks.length+r.length<=140000->
  Evt λn=>lp (S.tab n) st tk (x0,x1,x2,x3,x4,x5,x6,x7,ks,()) (pre++r) ((pre++r).length) pre.length=U (an (st,tk,(x0,x1,x2,x3,x4,x5,x6,x7,ks++r,()),()))
 |[],pre,ks,_,_=>dF.up λn _=>by
  simp_all[rz,dz]
 |m::r,pre,ks,hl,hk=>by
  have ih:=OU tk st x0 x1 x2 x3 x4 x5 x6 x7 r (pre++[m]) (ks++[m]) (by simpa using hl) (by simp at hk⊢;omega);have hlen:(pre++m::r).length=pre.length+(r.length+1):=(by simp);have e1:(pre++[m])++r=pre++m::r:=(by simp);have e2:(pre++[m]).length=pre.length+1:=(by simp);have hg:(pre++m::r).getD (pre.length:Int).toNat 0=m:=oH pre _ _ 0;rw[e1,e2]at ih
  refine ih.up λn h=> ?_
  rw[rz,c8 (by simp;omega),c8 (dm (by omega))];rw[c8 (fU (by unfold lim;simp;omega)),eT (by omega),hg,h];simp
def VV (hF:Ut F){b:Nat}(hb:b<G.out.length)(r:LI)(hX:∀a',b<a'->JX G a'):∀d a m (nd:List Node) s,G.out.length<a+d->b<a->a<=G.out.length->nd.length=m+1->W nd<=4*a->s∈F->Ac G.out (s::r) a->
  ∃(a' m':Nat) (lX:List Node) (s':Int),a<=a'/\a'<=G.out.length/\lX.length=m'+1/\W lX+4*a<=W nd+4*a'/\s'∈F/\Ac G.out (s'::r) a'/\(KA G.out a'≠48/\KA G.out a'≠44/\KA G.out a'≠40)/\
   (Evt λn=>fm (S.tab n) (G.tI,a,nd,()) ↑b m=U (an ((G.tI,(a':Int),lX,()),(m':Int),())))/\
   Evt λn=>eZ (S.tab n) (G.tS,(a:Int),nd,()) ↑m (tkA G.out b)=U (an ((G.tS,(a':Int),lX,()),(m':Int),())):=by
 intro d
 induction d with
 |zero=>omega
 |succ d ih=>
  intro a m nd s hd h0 HN hm hn hs hA;have hL:=G.len;obtain⟨f,hf,c,hc,t1,t2,t3⟩:=hF s hs
  by_cases k1:KA G.out a=48
  ·obtain⟨hl,hA⟩:=fE t1 k1 hA HN;obtain⟨uL,_,hA⟩:=my hA (by omega) (by decide);have HM:=mw (nd:=nd) (x:=(33,(tkA G.out b).2.1,(tkA G.out (a+1)).2.2.1,(tkA G.out b).2.2.2.1,0,0,(tkA G.out (a+1)).2.2.2.2.2.1,[],[(m:Int)],())) (Y8 G (by decide) (G.X5 _) (by simp));obtain⟨a2,m2,mA,s2,q1,q2,q3,q4,q5,q6,q7,qI,qS⟩:=ih (a+1+1) nd.length (nd++[(33,(tkA G.out b).2.1,(tkA G.out (a+1)).2.2.1,(tkA G.out b).2.2.2.1,0,0,(tkA G.out (a+1)).2.2.2.2.2.1,[],[(m:Int)],())]) f (by omega) (by omega) (by omega) (by simp) (by omega) hf hA;refine⟨a2,m2,mA,s2,by omega,q2,q3,by omega,q5,q6,q7,(G.base.and qI).up λn ⟨B,hq⟩=> ?_,(G.base.and qS).up λn ⟨B,hq⟩=> ?_⟩
   ·show fm (S.step (S.tab n)) _ _ _=_;simp only[ke,B.kI _ _ HN,ab k1,al,fM,B.tI _ _ hl,B.tI _ _ uL,B.cI _ _ _ _ uL hb (show nd.length<=300000 by have:=lL nd;omega)];exact hq
   ·show eZ (S.step (S.tab n)) _ _ _=_;simp only[jN,B.nS,B.kS _ _ HN,ab k1,al,fM,B.tS _ _ hl,B.tS _ _ uL,B.aS _ _ _ uL (show nd.length<=300000 by have:=lL nd;omega)];exact hq
  by_cases k2:KA G.out a=44
  ·obtain⟨hl,hA⟩:=fE t2 k2 hA HN;obtain⟨a1,m1,iQ,⟨n1,n2,n3,n4,n5⟩,eI,eS⟩:=hX (a+1) (by omega) nd (45::f::r) (by omega) (by omega) hA;obtain⟨uL,_,hA⟩:=my n5 n2 (by decide);have HM:=mw (nd:=iQ) (x:=(32,(tkA G.out b).2.1,(tkA G.out a1).2.2.1,(tkA G.out b).2.2.2.1,0,0,[],[],[(m:Int),(m1:Int)],())) (Aw G (by decide) (by simp));obtain⟨a2,m2,mA,s2,q1,q2,q3,q4,q5,q6,q7,qI,qS⟩:=ih (a1+1) iQ.length (iQ++[(32,(tkA G.out b).2.1,(tkA G.out a1).2.2.1,(tkA G.out b).2.2.2.1,0,0,[],[],[(m:Int),(m1:Int)],())]) f (by omega) (by omega) (by omega) (by simp) (by omega) hf hA;refine⟨a2,m2,mA,s2,by omega,q2,q3,by omega,q5,q6,q7,((G.base.and eI).and qI).up λn ⟨⟨B,h⟩,hq⟩=> ?_,((G.base.and eS).and qS).up λn ⟨⟨B,h⟩,hq⟩=> ?_⟩
   ·show fm (S.step (S.tab n)) _ _ _=_;simp only[ke,B.kI _ _ HN,aa k1,ab k2,al,fM,fG,B.tI _ _ hl,h,B.tI _ _ uL,B.cI _ _ _ _ uL hb (show iQ.length<=300000 by have:=lL iQ;omega)];exact hq
   ·show eZ (S.step (S.tab n)) _ _ _=_;simp only[jN,B.nS,B.kS _ _ HN,aa k1,ab k2,al,fM,fG,B.tS _ _ hl,h,B.tS _ _ uL];rw[c8 (by rfl),B.aS _ _ _ uL (show iQ.length<=300000 by have:=lL iQ;omega)];exact hq
  by_cases k3:KA G.out a=40
  ·obtain⟨hl,hA⟩:=fE t3 k3 hA HN
   by_cases k4:KA G.out (a+1)=41
   ·have hA:=jw (s:=1022) (k:=41) (by kernel_rfl) k4 hA (by omega);obtain⟨uL,_,hA⟩:=my hA (by omega) (by decide);have HM:=mw (nd:=nd) (x:=(34,(tkA G.out b).2.1,(tkA G.out (a+1)).2.2.1,(tkA G.out b).2.2.2.1,0,0,[],[],[(m:Int)],())) (Aw G (by decide) (by simp));obtain⟨a2,m2,mA,s2,q1,q2,q3,q4,q5,q6,q7,qI,qS⟩:=ih (a+1+1) nd.length (nd++[(34,(tkA G.out b).2.1,(tkA G.out (a+1)).2.2.1,(tkA G.out b).2.2.2.1,0,0,[],[],[(m:Int)],())]) c (by omega) (by omega) (by omega) (by simp) (by omega) hc hA;refine⟨a2,m2,mA,s2,by omega,q2,q3,by omega,q5,q6,q7,(G.base.and qI).up λn ⟨B,hq⟩=> ?_,(G.base.and qS).up λn ⟨B,hq⟩=> ?_⟩
    ·show fm (S.step (S.tab n)) _ _ _=_;simp only[ke,B.kI _ _ HN,aa k1,aa k2,ab k3,ab k4,bM,al,fM,fG,B.tI _ _ hl,B.kI (a+1) _ hl,B.tI _ _ uL,B.cI _ _ _ _ uL hb (show nd.length<=300000 by have:=lL nd;omega)];exact hq
    ·show eZ (S.step (S.tab n)) _ _ _=_;simp only[jN,B.nS,B.kS _ _ HN,aa k1,aa k2,ab k3,ab k4,bM,al,fM,fG,B.tS _ _ hl,B.kS (a+1) _ hl,B.tS _ _ uL,B.aS _ _ _ uL (show nd.length<=300000 by have:=lL nd;omega)];exact hq
   ·have a08:Ac G.out (1018::([1023]++(41::c::r))) (a+1):=by
     have ht:=of_decide_eq_true (G.tab af3 (a+1))
     cases hu:mS (KA G.out (a+1))with
     |true=>rw[hu]at ht;exact JW ht hA (by omega)
     |false=>
      rw[hu]at ht;exact absurd (my (jw ht rfl hA (by omega)) (by omega) (by decide)).2.1 k4
    obtain⟨a1,xs,iQ,n1,n2,n3,n4,n5,eI,eS⟩:=BQ G (λa' h=>hX a' (by omega)) nd (41::c::r) (by omega) (by omega) a08;obtain⟨uL,_,hA⟩:=my n5 n2 (by decide);have HM:=mw (nd:=iQ) (x:=(34,(tkA G.out b).2.1,(tkA G.out a1).2.2.1,(tkA G.out b).2.2.2.1,0,0,[],[],(m:Int)::xs,())) (Aw G (by decide) (by simp;omega));obtain⟨a2,m2,mA,s2,q1,q2,q3,q4,q5,q6,q7,qI,qS⟩:=ih (a1+1) iQ.length (iQ++[(34,(tkA G.out b).2.1,(tkA G.out a1).2.2.1,(tkA G.out b).2.2.2.1,0,0,[],[],(m:Int)::xs,())]) c (by omega) (by omega) (by omega) (by simp) (by omega) hc hA;have mm:=OU (tkA G.out b) (G.tS,(a1:Int),iQ,()) 34 (tkA G.out b).2.1 0 (tkA G.out b).2.2.2.1 0 0 [] [] xs [] [(m:Int)] (by simp;omega) (by simp;omega);refine⟨a2,m2,mA,s2,by omega,q2,q3,by omega,q5,q6,q7,((G.base.and eI).and qI).up λn ⟨⟨B,h⟩,hq⟩=> ?_,(((G.base.and eS).and qS).and mm).up λn ⟨⟨⟨B,h⟩,hq⟩,hk⟩=> ?_⟩
    ·show fm (S.step (S.tab n)) _ _ _=_;simp only[ke,B.kI _ _ HN,aa k1,aa k2,ab k3,aa k4,bC,al,fM,fG,B.tI _ _ hl,B.kI (a+1) _ hl,h,B.tI _ _ uL,B.cI _ _ _ _ uL hb (show iQ.length<=300000 by have:=lL iQ;omega)];rw[c8 (fU (by unfold lim;simp;omega))];exact hq
    ·show eZ (S.step (S.tab n)) _ _ _=_;have hk:lp (S.tab n) (G.tS,(a1:Int),iQ,()) (tkA G.out b) (34,(tkA G.out b).2.1,0,(tkA G.out b).2.2.2.1,0,0,[],[],[(m:Int)],()) xs (xs.length:Int) 0=_:=hk;simp only[jN,B.nS,B.kS _ _ HN,aa k1,aa k2,ab k3,aa k4,bC,al,fM,fG,B.tS _ _ hl,B.kS (a+1) _ hl,h,hk,dH,aH,B.tS _ _ uL,B.aS _ _ _ uL (show iQ.length<=300000 by have:=lL iQ;omega)];exact hq
  refine⟨a,m,nd,s,aF _,HN,hm,aF _,hs,hA,⟨k1,k2,k3⟩,G.base.up λn B=> ?_,G.base.up λn B=> ?_⟩
  ·show fm (S.step (S.tab n)) _ _ _=_;simp only[ke,B.kI _ _ HN,aa k1,aa k2,aa k3,al,fG]
  ·show eZ (S.step (S.tab n)) _ _ _=_;simp only[jN,B.nS,B.kS _ _ HN,aa k1,aa k2,aa k3,al,fG]
end Go.Abs.D
end

section
namespace Go.Abs.D
variable(G:Toks)
def JBs (F:LI)(a:Nat):Prop:=∀nd (r:LI) s0,s0∈F->a<G.out.length->W nd<=4*a->((KA G.out a=1/\Ac G.out (s0::r) (a+1))\/(KA G.out a=40/\Ac G.out (1018::41::s0::r) (a+1)))->
 ∃(a' m:Nat) (lX:List Node) (s':Int),s'∈F/\Nx G (s'::r) a nd a' lX m/\(KA G.out a'≠48/\KA G.out a'≠44/\KA G.out a'≠40)/\
  (Evt λn=>jr (S.tab n) (G.tI,a,nd,())=U ((m:Int),(G.tI,(a':Int),lX,()),()))/\
  Evt λn=>ie (S.tab n) (G.tS,a,nd,())=U ((m:Int),(G.tS,(a':Int),lX,()),())
def HG (hF:Ut F){a:Nat}(hX:∀a',a<a'->JX G a'):JBs G F a:=by
 intro nd r s0 ab7 ha hn hA;have hL:=G.len
 have tail:∀a1 m1 (iQ:List Node),a<a1->a1<=G.out.length->iQ.length=m1+1->W iQ<=4*a1->Ac G.out (s0::r) a1->
   ∃(a' m':Nat) (lX:List Node) (s':Int),a1<=a'/\a'<=G.out.length/\lX.length=m'+1/\W lX+4*a1<=W iQ+4*a'/\s'∈F/\Ac G.out (s'::r) a'/\(KA G.out a'≠48/\KA G.out a'≠44/\KA G.out a'≠40)/\
   (Evt λn=>gJ (S.tab n) (G.tI,a1,iQ,()) ↑a m1=U (an ((G.tI,(a':Int),lX,()),(m':Int),())))/\
   Evt λn=>iI (S.tab n) (G.tS,a1,iQ,()) ↑m1 (tkA G.out a)=U (an ((G.tS,(a':Int),lX,()),(m':Int),())):=λa1 m1 iQ h1 h2 h3 h4 h5=>by
  obtain⟨a2,m2,mA,s2,q1,q2,q3,q4,q5,q6,q7,qI,qS⟩:=VV G hF ha r hX (G.out.length+1) a1 m1 iQ s0 (by omega) h1 h2 h3 h4 ab7 h5;refine⟨a2,m2,mA,s2,q1,q2,q3,q4,q5,q6,q7,qI.up λn h=> ?_,qS.up λn h=> ?_⟩
  ·show gJ (S.step (S.tab n)) _ _ _=_;simp_all[yr,al,dH,aH]
  ·show iI (S.step (S.tab n)) _ _ _=_;simp_all[xT,al,dH,aH]
 rcases hA with⟨hk,hA⟩|⟨hk,hA⟩
 ·have a06:KA G.out a≠40:=(by omega);have HM:=mw (nd:=nd) (x:=(26,(tkA G.out a).2.1,(tkA G.out a).2.2.1,(tkA G.out a).2.2.2.1,0,0,(tkA G.out a).2.2.2.2.2.1,[],[],())) (Y8 G (by decide) (G.X5 _) (by simp));obtain⟨a2,m2,mA,s2,q1,q2,q3,q4,q5,q6,q7,qI,qS⟩:=tail (a+1) nd.length (nd++[(26,(tkA G.out a).2.1,(tkA G.out a).2.2.1,(tkA G.out a).2.2.2.1,0,0,(tkA G.out a).2.2.2.2.2.1,[],[],())]) (by omega) (by omega) (by simp) (by omega) hA;refine⟨a2,m2,mA,s2,q5,⟨by omega,q2,q3,by omega,q6⟩,q7,(G.base.and qI).up λn ⟨B,hq⟩=> ?_,(G.base.and qS).up λn ⟨B,hq⟩=> ?_⟩
  ·show jr (S.step (S.tab n)) _=_;simp only[q8,B.eI _ _ _ (Nat.le_of_lt ha),aa a06,al,fG,af,B.tI _ _ ha,B.cI _ _ _ _ ha ha (show nd.length<=300000 by have:=lL nd;omega)];have hq:gJ (S.tab n) (G.tI,((a+1:Nat):Int),nd++[NC G.out a (a+1) (26,0,0,0,0,0,(tkA G.out a).2.2.2.2.2.1,[],[],())],()) ↑a (nd.length:Int)=_:=hq;simp only[hq,al,dH,aH]
  ·show ie (S.step (S.tab n)) _=_;simp only[qh,B.tS _ _ ha,G.kdA ha,ab hk,al,fM,B.nS,B.aS _ _ _ ha (show nd.length<=300000 by have:=lL nd;omega),hq,dH,aH]
 ·obtain⟨a1,m1,iQ,⟨n1,n2,n3,n4,n5⟩,eI,eS⟩:=hX (a+1) (by omega) nd (41::s0::r) (by omega) (by omega) hA;obtain⟨uL,_,hA⟩:=my n5 n2 (by decide);have Tq:KA G.out a≠1:=(by omega);have qY:((0:Int)<=(m1:Int)&&(m1:Int)<(iQ.length:Int))=true:=dm (by omega)
  by_cases e:(at_ (τ:=cZ) iQ ↑m1).1=34\/(at_ (τ:=cZ) iQ ↑m1).1=27
  ·have HM:=mw (nd:=iQ) (x:=(37,(tkA G.out a).2.1,(tkA G.out a1).2.2.1,(tkA G.out a).2.2.2.1,0,0,[],[],[(m1:Int)],())) (Aw G (by decide) (by simp));obtain⟨a2,m2,mA,s2,q1,q2,q3,q4,q5,q6,q7,qI,qS⟩:=tail (a1+1) iQ.length (iQ++[(37,(tkA G.out a).2.1,(tkA G.out a1).2.2.1,(tkA G.out a).2.2.2.1,0,0,[],[],[(m1:Int)],())]) (by omega) (by omega) (by simp) (by omega) hA;refine⟨a2,m2,mA,s2,q5,⟨by omega,q2,q3,by omega,q6⟩,q7,((G.base.and eI).and qI).up λn ⟨⟨B,h⟩,hq⟩=> ?_,((G.base.and eS).and qS).up λn ⟨⟨B,h⟩,hq⟩=> ?_⟩
   ·show jr (S.step (S.tab n)) _=_;have hq:gJ (S.tab n) (G.tI,((a1+1:Nat):Int),iQ++[NC G.out a (a1+1) (37,0,0,0,0,0,[],[],[(m1:Int)],())],()) ↑a (iQ.length:Int)=_:=hq;simp only[q8,B.eI _ _ _ (Nat.le_of_lt ha),ab hk,al,fM,ah,h,B.tI _ _ uL];rw[c8 qY]
    by_cases e1:(at_ (τ:=cZ) iQ ↑m1).1=34
    ·simp only[ab e1,fM,B.cI _ _ _ _ uL ha (show iQ.length<=300000 by have:=lL iQ;omega),al,hq,dH,aH]
    ·simp only[aa e1,ab (e.resolve_left e1),fG,fM,B.cI _ _ _ _ uL ha (show iQ.length<=300000 by have:=lL iQ;omega),al,hq,dH,aH]
   ·show ie (S.step (S.tab n)) _=_;simp only[qh,B.tS _ _ ha,G.kdA ha,aa Tq,al,fG,h,B.tS _ _ uL];rw[c8 qY]
    by_cases e1:(at_ (τ:=cZ) iQ ↑m1).1=34
    ·simp only[ab e1,fM,B.nS,B.aS _ _ _ uL (show iQ.length<=300000 by have:=lL iQ;omega),al,hq,dH,aH]
    ·simp only[aa e1,ab (e.resolve_left e1),fG,fM,B.nS,B.aS _ _ _ uL (show iQ.length<=300000 by have:=lL iQ;omega),al,hq,dH,aH]
  ·obtain⟨a2,m2,mA,s2,q1,q2,q3,q4,q5,q6,q7,qI,qS⟩:=tail (a1+1) m1 iQ (by omega) (by omega) n3 (by omega) hA
   have e1:(at_ (τ:=cZ) iQ ↑m1).1≠34:=λh=>e (.inl h)
   have e2:(at_ (τ:=cZ) iQ ↑m1).1≠27:=λh=>e (.inr h)
   refine⟨a2,m2,mA,s2,q5,⟨by omega,q2,q3,by omega,q6⟩,q7,((G.base.and eI).and qI).up λn ⟨⟨B,h⟩,hq⟩=> ?_,((G.base.and eS).and qS).up λn ⟨⟨B,h⟩,hq⟩=> ?_⟩
   ·show jr (S.step (S.tab n)) _=_;simp only[q8,B.eI _ _ _ (Nat.le_of_lt ha),ab hk,al,fM,ah,h,B.tI _ _ uL];rw[c8 qY];simp only[aa e1,aa e2,fG,hq,al,dH,aH]
   ·show ie (S.step (S.tab n)) _=_;simp only[qh,B.tS _ _ ha,G.kdA ha,aa Tq,al,fG,h,B.tS _ _ uL];rw[c8 qY];simp only[aa e1,aa e2,fG,hq,al,dH,aH]
def al0 (q:LI):Prop:=q=[1024]\/q=[1025]\/q=[1026]\/q=[]
def aB5:(kinds.all λk=>I (stI 1024 k=bif(k=49)then .left []else bif(k=1)then .left [1025]else .gone)&&((stI 1025 k=bif(k=46)then .left [1026]else .gone)&&(stI 1026 k=bif(k=1)then .left [1025]else bif(k=49)then .left []else .no)))=true:=by kernel_rfl
def Ve (hq:al0 q){a:Nat}(ha:a<=G.out.length)(h:Ac G.out (q++41::r) a):(KA G.out a=41/\a<G.out.length/\Ac G.out r (a+1))\/(KA G.out a≠41/\a<G.out.length/\∃q',al0 q'/\Ac G.out (q'++41::r) (a+1)):=by
 have ht:=G.tab aB5 a;simp at ht;obtain⟨t1,t2,t3⟩:=ht
 have fin:Ac G.out (41::r) a->KA G.out a=41/\a<G.out.length/\Ac G.out r (a+1):=λh=>by
  obtain⟨h1,h2,h3⟩:=my h ha (by decide);simp_all
 rcases hq with rfl|rfl|rfl|rfl
 ·by_cases k1:KA G.out a=49
  ·rw[ab k1]at t1;obtain⟨hl,h⟩:=fE t1 rfl h ha;exact .inr ⟨by omega,hl,[], .inr (.inr (.inr rfl)),h⟩
  rw[aa k1]at t1
  by_cases k2:KA G.out a=1
  ·rw[ab k2]at t1;obtain⟨hl,h⟩:=fE t1 rfl h ha;exact .inr ⟨by omega,hl,[1025], .inr (.inl rfl),h⟩
  rw[aa k2]at t1;exact .inl (fin (jw t1 rfl h ha))
 ·by_cases k1:KA G.out a=46
  ·rw[ab k1]at t2;obtain⟨hl,h⟩:=fE t2 rfl h ha;exact .inr ⟨by omega,hl,[1026], .inr (.inr (.inl rfl)),h⟩
  rw[aa k1]at t2;exact .inl (fin (jw t2 rfl h ha))
 ·by_cases k2:KA G.out a=1
  ·rw[ab k2]at t3;obtain⟨hl,h⟩:=fE t3 rfl h ha;exact .inr ⟨by omega,hl,[1025], .inr (.inl rfl),h⟩
  rw[aa k2]at t3
  by_cases k1:KA G.out a=49
  ·rw[ab k1]at t3;obtain⟨hl,h⟩:=fE t3 rfl h ha;exact .inr ⟨by omega,hl,[], .inr (.inr (.inr rfl)),h⟩
  rw[aa k1]at t3;exact(vl t3 rfl h ha).elim
 simp_all
def nmO (ns:List LI)(a:Nat):Prop:=(∀m∈ns,∀c∈m,isByte c)/\ns.length<=a
def nmO.snoc (h:nmO ns a)(bb4:a<b){m:LI}(hm:∀c∈m,isByte c):nmO (ns++[m]) b:=
 ⟨λx hx=>by
  rcases aP.1 hx with hx|hx
  ·exact h.1 x hx
  simp_all,by have:=h.2;grind⟩
def nmO.up (h:nmO ns a)(bb4:a<=b):nmO ns b:=⟨h.1,bn8 h.2 bb4⟩
def Vx (b:Nat)(nd:List Node)(f ln:Int)(r:LI):∀d a q op ns,G.out.length<a+d->a<=G.out.length->al0 q->nmO ns a->rg op->Ac G.out (q++41::r) a->
  ∃a' av5 XT,a<=a'/\a'<G.out.length/\Ac G.out r (a'+1)/\(nmO XT a'/\rg av5)/\
   (Evt λn=>gW (S.tab n) (G.tI,a,nd,()) ↑b (36,0,0,0,op,0,[],ns,[],())=U (an ((G.tI,((a'+1:Nat):Int),nd,()),(b:Int),(36,0,0,0,av5,0,[],XT,[],()),())))/\
   Evt λn=>jn (S.tab n) (G.tS,a,nd,()) (36,f,0,ln,op,0,[],ns,[],())=U (an ((G.tS,(a':Int),nd,()),(36,f,0,ln,av5,0,[],XT,[],()),())):=by
 intro d
 induction d with
 |zero=>omega
 |succ d ih=>
  intro a q op ns hd ha hq Kh av1 hA;have hL:=G.len
  rcases Ve G hq ha hA with⟨hk,hl,h⟩|⟨hk,hl,q',ac6,h⟩
  ·refine⟨a,op,ns,aF _,hl,h,⟨Kh,av1⟩,G.base.up λn B=> ?_,G.base.up λn B=> ?_⟩
   ·show gW (S.step (S.tab n)) _ _ _=_;simp only[oQ,B.eI _ _ _ ha,ab hk,al,bM,fG,ah]
   ·show jn (S.step (S.tab n)) _ _=_;simp only[rh,B.kS _ _ ha,ab hk,al,bM,fG]
  ·by_cases k1:KA G.out a=1
   ·have k2:KA G.out a≠49:=(by omega);obtain⟨a',av5,XT,p1,p2,p3,p4,pI,pS⟩:=ih (a+1) q' op (ns++[(tkA G.out a).2.2.2.2.2.1]) (by omega) (by omega) ac6 (Kh.snoc (by omega) (G.X5 _)) av1 h;refine⟨a',av5,XT,by omega,p2,p3,p4,(G.base.and pI).up λn ⟨B,hp⟩=> ?_,(G.base.and pS).up λn ⟨B,hp⟩=> ?_⟩
    ·show gW (S.step (S.tab n)) _ _ _=_;simp only[oQ,B.eI _ _ _ ha,aa hk,al,bC,fM,af,B.tI _ _ hl,G.kdA hl,aa k2,ab k1,fG];rw[c8 (fU (by have:=Kh.2;unfold lim;simp;omega))];exact hp
    ·show jn (S.step (S.tab n)) _ _=_;simp only[rh,B.kS _ _ ha,aa hk,al,bC,fM,B.tS _ _ hl,G.kdA hl,ab k1];rw[c8 (fU (by have:=Kh.2;unfold lim;simp;omega))];exact hp
   ·obtain⟨a',av5,XT,p1,p2,p3,p4,pI,pS⟩:=ih (a+1) q' (bif(KA G.out a=49)then 1 else op) ns (by omega) (by omega) ac6 (Kh.up (by omega)) (by cases I (KA G.out a=49);exact av1;exact(by decide:rg 1)) h;refine⟨a',av5,XT,by omega,p2,p3,p4,(G.base.and pI).up λn ⟨B,hp⟩=> ?_,(G.base.and pS).up λn ⟨B,hp⟩=> ?_⟩
    ·show gW (S.step (S.tab n)) _ _ _=_;simp only[oQ,B.eI _ _ _ ha,aa hk,al,bC,fM,af,B.tI _ _ hl,G.kdA hl,aa k1]
     cases Xv:I (KA G.out a=49)with
     |true=>rw[Xv]at hp;rw[fM];exact hp
     |false=>rw[Xv]at hp;rw[fG,fG];exact hp
    ·show jn (S.step (S.tab n)) _ _=_;simp only[rh,B.kS _ _ ha,aa hk,al,bC,fM,B.tS _ _ hl,G.kdA hl,aa k1,fG]
     cases Xv:I (KA G.out a=49)with
     |true=>rw[Xv]at hp;rw[fM];exact hp
     |false=>rw[Xv]at hp;rw[fG];exact hp
def JF (b a:Nat):Prop:=∀nd (r:LI),b<G.out.length->a<=G.out.length->W nd<=4*a->Ac G.out (1028::r) a->∃a' m lX,Nx G r a nd a' lX m/\
 (Evt λn=>oA (S.tab n) (G.tI,a,nd,()) b=U ((m:Int),(G.tI,(a':Int),lX,()),(),()))/\
 Evt λn=>rB (S.tab n) (G.tS,a,nd,()) (36,(tkA G.out b).2.1,0,(tkA G.out b).2.2.2.1,0,0,[],[],[],())=U ((m:Int),(G.tS,(a':Int),lX,()),uN,())
def WO:(kinds.all λk=>I (stI 1028 k=bif(k=40)then .left [1024,41,1027]else .no))=true:=by kernel_rfl
def MZ:(kinds.all λk=>I (stI 1027 k=bif(k=42)then .left [1000,43]else .no))=true:=by kernel_rfl
def Vm (hB:∀a',a<a'->JN G fv gP [1027] a'):JF G b a:=by
 intro nd r hb ha hn hA;have hL:=G.len;have ht:=of_decide_eq_true (G.tab WO a)
 by_cases hk:KA G.out a=40
 ·rw[ab hk]at ht;obtain⟨hl,hA⟩:=fE ht rfl hA ha;obtain⟨a1,op,ns,p1,p2,p3,⟨Kh,av1⟩,pI,pS⟩:=Vx G b nd (tkA G.out b).2.1 (tkA G.out b).2.2.2.1 (1027::r) (G.out.length+1) (a+1) [1024] 0 [] (by omega) (by omega) (.inl rfl) ⟨(λ_ h=>nomatch h),by simp⟩ (by decide) hA;obtain⟨a2,m,mA,⟨n1,n2,n3,n4,n5⟩,eI,eS⟩:=hB (a1+1) (by omega) nd r (by omega) (by omega) p3;obtain⟨c,rfl⟩:∃c,a2=c+1:=⟨a2 - 1,by omega⟩;have HM:=mw (nd:=mA) (x:=(36,(tkA G.out b).2.1,(tkA G.out c).2.2.1,(tkA G.out b).2.2.2.1,op,0,[],ns,[m],())) (Y7 G ⟨by decide,av1,by decide⟩ Kh.1 (by have:=Kh.2;omega) (by simp));refine⟨c+1,mA.length,mA++[(36,(tkA G.out b).2.1,(tkA G.out c).2.2.1,(tkA G.out b).2.2.2.1,op,0,[],ns,[(m:Int)],())],⟨by omega,n2,by simp,by omega,n5⟩,((G.base.and pI).and eI).up λn ⟨⟨B,hp⟩,h⟩=> ?_,((G.base.and pS).and eS).up λn ⟨⟨B,hp⟩,h⟩=> ?_⟩
  ·show oA (S.step (S.tab n)) _ _=_;simp only[Cp,B.tI _ _ hl,al,hp,dH,aH,h,B.cI _ _ _ _ (show c<G.out.length by omega) hb (show mA.length<=300000 by grind [lL])];rfl
  ·show rB (S.step (S.tab n)) _ _=_;simp only[Fq,B.tS _ _ hl,al,hp,dH,aH,B.tS _ _ p2,h,B.aS _ _ _ (show c<G.out.length by omega) (show mA.length<=300000 by grind [lL])]
 ·rw[aa hk]at ht;exact(vl ht rfl hA ha).elim
end Go.Abs.D
end

section
namespace Go.Abs.D
variable(G:Toks)
def JT (a:Nat):Prop:=∀nd (r:LI),a<=G.out.length->W nd<=4*a->Ac G.out (1000::43::r) a->∃(a':Nat) (xs:LI) (lX:List Node),a<=a'/\a'<G.out.length/\Ac G.out r (a'+1)/\(xs.length<=a'/\W lX+4*a<=W nd+4*a')/\
 (Evt λn=>jB (S.tab n) (G.tI,a,nd,())=U (xs,(G.tI,(a':Int),lX,()),()))/\
 Evt λn=>lQ (S.tab n) (G.tS,a,nd,()) 43=U (xs,(G.tS,(a':Int),lX,()),(),())
def Ue (hT:JT G (a+1)):JN G fv gP [1027] a:=by
 intro nd r ha hn hA;have hL:=G.len;have ht:=of_decide_eq_true (G.tab MZ a)
 by_cases hk:KA G.out a=42
 ·rw[ab hk]at ht;obtain⟨hl,hA⟩:=fE ht rfl hA ha;obtain⟨a1,xs,iQ,n1,n2,n3,⟨n5,n4⟩,eI,eS⟩:=hT nd r (by omega) (by omega) hA;have HM:=mw (nd:=iQ) (x:=(1,(tkA G.out a).2.1,(tkA G.out a1).2.2.1,(tkA G.out a).2.2.2.1,0,0,[],[],xs,())) (Aw G (by decide) (by omega));refine⟨a1+1,iQ.length,iQ++[(1,(tkA G.out a).2.1,(tkA G.out a1).2.2.1,(tkA G.out a).2.2.2.1,0,0,[],[],xs,())],⟨by omega,by omega,by simp,by omega,n3⟩,(G.base.and eI).up λn ⟨B,h⟩=> ?_,(G.base.and eS).up λn ⟨B,h⟩=> ?_⟩
  ·show fv (S.step (S.tab n)) _=_;simp only[AD,B.tI _ _ hl,al,h,B.tI _ _ n2,B.cI _ _ _ _ n2 hl (show iQ.length<=300000 by grind [lL])];rfl
  ·show gP (S.step (S.tab n)) _=_;simp only[DO,B.tS _ _ hl,al,B.nS,h,B.tS _ _ n2,B.aS _ _ _ n2 (show iQ.length<=300000 by grind [lL])]
 ·rw[aa hk]at ht;exact(vl ht rfl hA ha).elim
def YH:(kinds.all λk=>I (stI 1032 k=bif(k=44)then .left [1018,45,47,1018]else bif(k=48)then .left [1,47,1018]else stI 1018 k))=true:=by kernel_rfl
def SQ:(kinds.all λk=>I (stI 1029 k=bif mS k||(k=44||decide (k=48))then(stI 1032 k).then [1030] .no else .gone)&&(stI 1031 k=stI 1029 k&&(stI 1030 k=bif(k=46)then .left [1031]else .gone)))=true:=by kernel_rfl
def ah1:(kinds.all λk=>I (stI 1018 k≠ .gone))=true:=by kernel_rfl
structure Entry (a:Nat)(nd:List Node)(a' m:Nat)(lX:List Node):Prop where
 spec:Evt λn=>oF (S.tab n) (G.tS,(a:Int),nd,())=U ((m:Int),(G.tS,(a':Int),lX,()),())
 impl:Evt λn=>∀(b:Int) (ks:LI) (T:S.Tab),T=S.tab n->ks.length<=70000->fk (S.step T) (G.tI,(a:Int),nd,()) b (35,0,0,0,0,0,[],[],ks,())=
  (fo T (G.tI,(a':Int),lX,()) 46).bind λd=>fk T d.2.1 b (35,0,0,0,0,0,[],[],ks++[(m:Int)],())
def FV {l:List α}(h:l.length<=140000):fits (l.length+[x].length)=true:=fU (by grind [lim])
def T5 (ha:a<=G.out.length)(hX:∀a',a<=a'->JX G a'){nd:List Node}(hn:W nd<=4*a){r:LI}(ac2:KA G.out a≠43)(hA:Ac G.out (1032::r) a):∃(a' m:Nat)(lX:List Node),a<a'/\a'<=G.out.length/\W lX+4*a<=W nd+4*a'/\Ac G.out r a'/\Entry G a nd a' m lX:=by
 have hL:=G.len;have ht:=of_decide_eq_true (G.tab YH a)
 have Hi:∀a:Nat,a<=G.out.length->(0<=(a:Int)&&a<(G.tS.length:Int))=true:=λa h=>dm (by rw[G.lS];omega)
 by_cases k1:KA G.out a=44
 ·rw[ab k1]at ht;have k2:KA G.out a≠48:=(by omega);obtain⟨hl,hA⟩:=fE ht rfl hA ha;obtain⟨a1,m1,iQ,⟨n1,n2,n3,n4,n5⟩,eI,eS⟩:=hX (a+1) (by omega) nd _ (by omega) (by omega) hA;obtain⟨om,_,hA⟩:=my n5 n2 (by decide);obtain⟨uL,_,hA⟩:=my hA (by omega) (by decide);obtain⟨a2,m2,mA,⟨p1,p2,p3,p4,p5⟩,fI,fS⟩:=hX (a1+1+1) (by omega) iQ _ (by omega) (by omega) hA;obtain⟨c,rfl⟩:∃c,a2=c+1:=⟨a2 - 1,by omega⟩;have hc:c<G.out.length:=(by omega);have HM:=mw (nd:=mA) (x:=(41,(tkA G.out a).2.1,(tkA G.out c).2.2.1,(tkA G.out a).2.2.2.1,0,0,[],[],[m1,m2],())) (Aw G (by decide) (by simp));refine⟨c+1,mA.length,mA++[(41,(tkA G.out a).2.1,(tkA G.out c).2.2.1,(tkA G.out a).2.2.2.1,0,0,[],[],[(m1:Int),(m2:Int)],())],by omega,p2,by omega,p5, ?_, ?_⟩
  ·have hj:Evt λn=>j5 (S.tab n) (G.tS,((a1+1+1:Nat):Int),iQ,()) (41,(tkA G.out a).2.1,0,(tkA G.out a).2.2.2.1,0,0,[],[],[]++[(m1:Int)],())=U (an ((G.tS,((c+1:Nat):Int),mA++[(41,(tkA G.out a).2.1,(tkA G.out c).2.2.1,(tkA G.out a).2.2.2.1,0,0,[],[],[(m1:Int),(m2:Int)],())],()),(mA.length:Int),())):=
    (G.base.and fS).up λn ⟨B,h⟩=>by
     simp only[pO,h,al];rw[c8 (by rfl),B.aS _ _ _ hc (show mA.length<=300000 by have:=lL mA;omega)];rfl
   refine((G.base.and eS).and hj).up λn ⟨⟨B,h⟩,hj⟩=> ?_
   show oF (S.step (S.tab n)) _=_;rw[sI];dsimp only;rw[c8 (Hi a ha),G.aS a hl];simp only[B.nS,B.eS _ _ _ ha,aa k2,ab k1,al,fG,fM,af,ah,h,B.tS _ _ om,B.tS _ _ uL];rw[c8 (by rfl),hj];rfl
  ·refine((G.base.and eI).and fI).mono λn ⟨⟨B,h⟩,h2⟩ b ks T hT Ld=> ?_
   subst hT;simp only[l6,B.eI a _ _ ha,aa ac2,al,bC,fM,af,B.kI a _ ha,ab k1,B.tI _ _ hl,h,B.tI _ _ om,B.tI _ _ uL,h2,B.cI _ _ _ _ hc hl (show mA.length<=300000 by have:=lL mA;omega)];rw[c8 (FV (by omega))];rfl
 by_cases k2:KA G.out a=48
 ·rw[aa k1,ab k2]at ht;obtain⟨hl,hA⟩:=fE ht rfl hA ha;obtain⟨om,_,hA⟩:=my hA (by omega) (by decide);obtain⟨uL,_,hA⟩:=my hA (by omega) (by decide);obtain⟨a2,m2,mA,⟨p1,p2,p3,p4,p5⟩,fI,fS⟩:=hX (a+1+1+1) (by omega) nd _ (by omega) (by omega) hA;obtain⟨c,rfl⟩:∃c,a2=c+1:=⟨a2 - 1,by omega⟩;have hc:c<G.out.length:=(by omega);have HM:=mw (nd:=mA) (x:=(42,(tkA G.out a).2.1,(tkA G.out c).2.2.1,(tkA G.out a).2.2.2.1,0,0,(tkA G.out (a+1)).2.2.2.2.2.1,[],[(m2:Int)],())) (Y8 G (by decide) (G.X5 _) (by simp));refine⟨c+1,mA.length,mA++[(42,(tkA G.out a).2.1,(tkA G.out c).2.2.1,(tkA G.out a).2.2.2.1,0,0,(tkA G.out (a+1)).2.2.2.2.2.1,[],[(m2:Int)],())],by omega,p2,by omega,p5, ?_, ?_⟩
  ·have hj:Evt λn=>j5 (S.tab n) (G.tS,((a+1+1+1:Nat):Int),nd,()) (42,(tkA G.out a).2.1,0,(tkA G.out a).2.2.2.1,0,0,(tkA G.out (a+1)).2.2.2.2.2.1,[],[],())=U (an ((G.tS,((c+1:Nat):Int),mA++[(42,(tkA G.out a).2.1,(tkA G.out c).2.2.1,(tkA G.out a).2.2.2.1,0,0,(tkA G.out (a+1)).2.2.2.2.2.1,[],[(m2:Int)],())],()),(mA.length:Int),())):=
    (G.base.and fS).up λn ⟨B,h⟩=>by
     simp only[pO,h,al];rw[c8 (by rfl),B.aS _ _ _ hc (show mA.length<=300000 by have:=lL mA;omega)];rfl
   refine(G.base.and hj).up λn ⟨B,hj⟩=> ?_
   show oF (S.step (S.tab n)) _=_;rw[sI];dsimp only;rw[c8 (Hi a ha),G.aS a hl];simp only[B.nS,B.eS _ _ _ ha,ab k2,al,fM,ah,B.tS _ _ om,B.tS _ _ uL,hj,dH,aH]
  ·refine(G.base.and fI).mono λn ⟨B,h2⟩ b ks T hT Ld=> ?_
   subst hT;simp only[l6,B.eI a _ _ ha,aa ac2,al,bC,fM,fG,af,B.kI a _ ha,aa k1,ab k2,B.tI _ _ hl,B.tI _ _ om,B.tI _ _ uL,h2,B.cI _ _ _ _ hc hl (show mA.length<=300000 by have:=lL mA;omega)];rw[c8 (FV (by omega))];rfl
 ·rw[aa k1,aa k2]at ht
  have hA:Ac G.out (1018::r) a:=by
   rcases yT ha hA with⟨l,e,hl,h⟩|⟨e,h⟩
   ·rw[ht]at e;exact Z3 e hl h
   ·rw[ht]at e;exact absurd e (of_decide_eq_true (G.tab ah1 a))
  obtain⟨a2,m2,mA,⟨p1,p2,p3,p4,p5⟩,fI,fS⟩:=hX a (aF _) nd r ha hn hA;obtain⟨c,rfl⟩:∃c,a2=c+1:=⟨a2 - 1,by omega⟩;have hc:c<G.out.length:=(by omega);have hl:a<G.out.length:=(by omega);have HM:=mw (nd:=mA) (x:=(40,(tkA G.out a).2.1,(tkA G.out c).2.2.1,(tkA G.out a).2.2.2.1,0,0,[],[],[(m2:Int)],())) (Aw G (by decide) (by simp));refine⟨c+1,mA.length,mA++[(40,(tkA G.out a).2.1,(tkA G.out c).2.2.1,(tkA G.out a).2.2.2.1,0,0,[],[],[(m2:Int)],())],by omega,p2,by omega,p5, ?_, ?_⟩
  ·have hj:Evt λn=>j5 (S.tab n) (G.tS,(a:Int),nd,()) (40,(tkA G.out a).2.1,0,(tkA G.out a).2.2.2.1,0,0,[],[],[],())=U (an ((G.tS,((c+1:Nat):Int),mA++[(40,(tkA G.out a).2.1,(tkA G.out c).2.2.1,(tkA G.out a).2.2.2.1,0,0,[],[],[(m2:Int)],())],()),(mA.length:Int),())):=
    (G.base.and fS).up λn ⟨B,h⟩=>by
     simp only[pO,h,al];rw[c8 (by rfl),B.aS _ _ _ hc (show mA.length<=300000 by have:=lL mA;omega)];rfl
   refine(G.base.and hj).up λn ⟨B,hj⟩=> ?_
   show oF (S.step (S.tab n)) _=_;rw[sI];dsimp only;rw[c8 (Hi a ha),G.aS a hl];simp only[B.nS,B.eS _ _ _ ha,aa k2,aa k1,al,fG,af,hj,dH,aH]
  ·refine(G.base.and fI).mono λn ⟨B,h2⟩ b ks T hT Ld=> ?_
   subst hT;simp only[l6,B.eI a _ _ ha,aa ac2,al,bC,fM,fG,af,B.kI a _ ha,aa k1,aa k2,h2,B.cI _ _ _ _ hc hl (show mA.length<=300000 by have:=lL mA;omega)];rw[c8 (FV (by omega))];rfl
def Qu (b:Nat)(f ln:Int)(r:LI):∀d a (ks:LI) nd q,G.out.length<a+d->(∀a',a<=a'->JX G a')->a<=G.out.length->ks.length<=a->W nd<=4*a->(q=1029\/q=1031\/(q=1030/\KA G.out a≠46))->Ac G.out (q::43::r) a->
  ∃(a':Nat) (UP:LI) (lX:List Node),a<=a'/\a'<G.out.length/\W lX+4*a<=W nd+4*a'/\(UP.length<=a'/\Ac G.out r (a'+1))/\
   (Evt λn=>fk (S.tab n) (G.tI,a,nd,()) ↑b (35,0,0,0,0,0,[],[],ks,())=U (an ((G.tI,((a'+1:Nat):Int),lX,()),(b:Int),(35,0,0,0,0,0,[],[],UP,()),())))/\
   Evt λn=>jE (S.tab n) (G.tS,a,nd,()) (35,f,0,ln,0,0,[],[],ks,())=U (an ((G.tS,(a':Int),lX,()),(35,f,0,ln,0,0,[],[],UP,()),())):=by
 intro d
 induction d with
 |zero=>omega
 |succ d ih=>
  intro a ks nd q hd hX ha Ld hn hq hA;have hL:=G.len;have ht:=G.tab SQ a;simp at ht;obtain⟨t1,t2,t3⟩:=ht
  have fin:Ac G.out (43::r) a->∃(a':Nat) (UP:LI) (lX:List Node),a<=a'/\a'<G.out.length/\W lX+4*a<=W nd+4*a'/\(UP.length<=a'/\Ac G.out r (a'+1))/\
   (Evt λn=>fk (S.tab n) (G.tI,a,nd,()) ↑b (35,0,0,0,0,0,[],[],ks,())=U (an ((G.tI,((a'+1:Nat):Int),lX,()),(b:Int),(35,0,0,0,0,0,[],[],UP,()),())))/\
   Evt λn=>jE (S.tab n) (G.tS,a,nd,()) (35,f,0,ln,0,0,[],[],ks,())=U (an ((G.tS,(a':Int),lX,()),(35,f,0,ln,0,0,[],[],UP,()),())):=λh=>by
   obtain⟨hl,hk,h⟩:=my h ha (by decide);refine⟨a,ks,nd,aF _,hl,aF _,⟨Ld,h⟩,G.base.up λn B=> ?_,G.base.up λn B=> ?_⟩
   ·show fk (S.step (S.tab n)) _ _ _=_;simp only[l6,B.eI a _ _ ha,ab hk,al,bM,fG,ah]
   ·show jE (S.step (S.tab n)) _ _=_;simp only[qo,B.kS a _ ha,ab hk,al,bM,fG]
  by_cases vL:q=1030/\KA G.out a≠46
  ·obtain⟨rfl,Lg⟩:=vL;rw[aa Lg]at t3;exact fin (jw t3 rfl hA ha)
  ·have hs:stI q (KA G.out a)=stI 1029 (KA G.out a):=by
    rcases hq with rfl|rfl|h
    ·rfl
    ·exact t2
    ·exact absurd h vL
   cases hu:(mS (KA G.out a)||(KA G.out a=44||decide (KA G.out a=48)))with
   |false=>rw[hu]at t1;exact fin (jw (hs.trans t1) rfl hA ha)
   |true=>
    rw[hu]at t1;have hA:=JW (hs.trans t1) hA ha
    have ac2:KA G.out a≠43:=λe=>by rw[e]at hu;exact absurd hu (by decide)
    obtain⟨a1,m,iQ,n1,n2,n3,n4,hE⟩:=T5 G ha hX hn ac2 hA
    by_cases Lg:KA G.out a1=46
    ·have hr:=of_decide_eq_true (show I (stI 1030 (KA G.out a1)=bif(KA G.out a1=46)then .left [1031]else .gone)=av by
      have:=G.tab SQ a1;simp only[aA]at this
      exact this.2.2)
     rw[ab Lg]at hr;obtain⟨om,hA⟩:=fE hr rfl n4 n2;obtain⟨a2,aJ7,mA,p1,p2,p3,p4,pI,pS⟩:=ih (a1+1) (ks++[(m:Int)]) iQ 1031 (by omega) (λa' h=>hX a' (by omega)) (by omega) (by simp;omega) (by omega) (.inr (.inl rfl)) hA;refine⟨a2,aJ7,mA,by omega,p2,by omega,p4,((G.base.and hE.impl).and pI).up λn ⟨⟨B,h⟩,hp⟩=> ?_,((G.base.and hE.spec).and pS).up λn ⟨⟨B,h⟩,hp⟩=> ?_⟩
     ·show fk (S.step (S.tab n)) _ _ _=_;rw[h _ _ _ rfl (by omega),B.eI _ _ _ n2,ab Lg];exact hp
     ·show jE (S.step (S.tab n)) _ _=_;simp only[qo,B.kS a _ ha,aa ac2,al,bC,fM,h];rw[c8 (FV (by omega)),B.eS _ _ _ n2,ab Lg];exact hp
    ·obtain⟨a2,aJ7,mA,p1,p2,p3,p4,pI,pS⟩:=ih a1 (ks++[(m:Int)]) iQ 1030 (by omega) (λa' h=>hX a' (by omega)) n2 (by simp;omega) (by omega) (.inr (.inr ⟨rfl,Lg⟩)) n4;refine⟨a2,aJ7,mA,by omega,p2,by omega,p4,((G.base.and hE.impl).and pI).up λn ⟨⟨B,h⟩,hp⟩=> ?_,((G.base.and hE.spec).and pS).up λn ⟨⟨B,h⟩,hp⟩=> ?_⟩
     ·show fk (S.step (S.tab n)) _ _ _=_;rw[h _ _ _ rfl (by omega),B.eI _ _ _ n2,aa Lg];exact hp
     ·show jE (S.step (S.tab n)) _ _=_;simp only[qo,B.kS a _ ha,aa ac2,al,bC,fM,h];rw[c8 (FV (by omega)),B.eS _ _ _ n2,aa Lg];exact hp
def aU4:Ut [1021]:=λs hs=>by
 obtain rfl:=cg.1 hs;exact⟨1021,cg.2 rfl,1021,cg.2 rfl,by kernel_rfl,by kernel_rfl,by kernel_rfl⟩
def Yf:(kinds.all λk=>I (k=48)||decide (k=44)||decide (k=40)||decide (stI 1021 k= .gone))=true:=by kernel_rfl
def aS0:(kinds.all λk=> !xR k||decide (J9 0 [(25,21),(50,22),(62,19),(69,20)] k=unK k))=true:=by kernel_rfl
def ai0 (k):rg (unK k):=by grind [unK,decide]
def Y4 (hX:∀a',a<a'->JX G a')(hU:JN G fz gQ [1020] (a+1))(hF:∀a',a<a'->JF G a a'):JN G fz gQ [1020] a:=by
 intro nd r ha hn hA;have hL:=G.len;have hA:Ac G.out (1020::r) a:=hA;have ht:=of_decide_eq_true (G.tab ai9 a);have Kn:(0<=(a:Int)&&a<(G.tI.length:Int))=true:=dm (by rw[G.lI];omega);have XZ:=G.tab aj3 a
 cases hp:xR (KA G.out a)with
 |true=>
  rw[hp]at ht XZ;simp only[bM,bH,aA,bU,ae]at XZ;obtain⟨⟨_,k1⟩,NX⟩:=XZ;obtain⟨hl,hA⟩:=fE ht rfl hA ha;obtain⟨a1,m1,iQ,⟨n1,n2,n3,n4,n5⟩,eI,eS⟩:=hU nd r (by omega) (by omega) hA;obtain⟨c,rfl⟩:∃c,a1=c+1:=⟨a1 - 1,by omega⟩;have hc:c<G.out.length:=(by omega);have aM6:=G.tab aS0 a;rw[hp]at aM6;have aM6:=of_decide_eq_true (show I (J9 0 [(25,21),(50,22),(62,19),(69,20)] (KA G.out a)=unK (KA G.out a))=av from aM6);have HM:=mw (nd:=iQ) (x:=(30,(tkA G.out a).2.1,(tkA G.out c).2.2.1,(tkA G.out a).2.2.2.1,unK (KA G.out a),0,[],[],[m1],())) (Aw G ⟨by decide,ai0 _,by decide⟩ (by simp));refine⟨c+1,iQ.length,iQ++[(30,(tkA G.out a).2.1,(tkA G.out c).2.2.1,(tkA G.out a).2.2.2.1,unK (KA G.out a),0,[],[],[(m1:Int)],())],⟨by omega,n2,by simp,by omega,n5⟩,(G.base.and eI).up λn ⟨B,h⟩=> ?_,(G.base.and eS).up λn ⟨B,h⟩=> ?_⟩
  ·show fz (S.step (S.tab n)) _=_;rw[fV];dsimp only;rw[c8 Kn,G.kI a ha,B.pI,hp];simp only[al,fM,B.tI _ _ hl,h,aM6,B.cI _ _ _ _ hc hl (show iQ.length<=300000 by grind [lL])];rfl
  ·show gQ (S.step (S.tab n)) _=_;simp only[gD,B.kS a _ ha,aa k1,aa NX,al,fG,B.tS _ _ hl,G.kdA hl,B.pS,hp,fM,h,B.nS,B.sS,B.aS _ _ _ hc (show iQ.length<=300000 by grind [lL])]
 |false=>
  rw[hp]at ht
  have open_:∀hl:a<G.out.length,((KA G.out a=1/\Ac G.out (1021::r) (a+1))\/(KA G.out a=40/\Ac G.out (1018::41::1021::r) (a+1)))->∃(a' m:Nat) (lX:List Node),Nx G r a nd a' lX m/\
    (Evt λn=>fz (S.tab n) (G.tI,(a:Int),nd,())=U ((m:Int),(G.tI,(a':Int),lX,()),()))/\Evt λn=>gQ (S.tab n) (G.tS,(a:Int),nd,())=U ((m:Int),(G.tS,(a':Int),lX,()),()):=λhl Kq=>by
   obtain⟨a1,m1,iQ,s',ad6,⟨n1,n2,n3,n4,n5⟩,⟨q1,q2,q3⟩,eI,eS⟩:=HG G aU4 hX nd r 1021 (cg.2 rfl) hl hn Kq;obtain rfl:=cg.1 ad6;have hg:=G.tab Yf a1;rw[aa q1,aa q2,aa q3]at hg;refine⟨a1,m1,iQ,⟨n1,n2,n3,n4,jw (of_decide_eq_true hg) rfl n5 n2⟩,(G.base.and eI).up λn ⟨B,h⟩=> ?_,(G.base.and eS).up λn ⟨B,h⟩=> ?_⟩
   ·show fz (S.step (S.tab n)) _=_;rw[fV];dsimp only;rw[c8 Kn,G.kI a ha,B.pI,hp]
    have mU:∀k:Int,k≠1->k≠40->KA G.out a≠k:=λk h1 h2 e=>by rcases Kq with⟨e',_⟩|⟨e',_⟩<;>omega
    simp only[al,fG,aa (mU 2 (by decide) (by decide)),aa (mU 3 (by decide) (by decide)),aa (mU 4 (by decide) (by decide)),aa (mU 24 (by decide) (by decide)),aa (mU 29 (by decide) (by decide)),aa (mU 17 (by decide) (by decide)),aa (mU 49 (by decide) (by decide)),aa (mU 18 (by decide) (by decide)),aa (mU 42 (by decide) (by decide)),h]
   ·show gQ (S.step (S.tab n)) _=_
    rcases Kq with⟨e,_⟩|⟨e,_⟩
    ·simp only[gD,B.kS a _ ha,ab e,al,fM,h]
    ·have e1:KA G.out a≠1:=(by omega);simp only[gD,B.kS a _ ha,ab e,aa e1,al,fM,fG,h]
  by_cases k1:KA G.out a=1
  ·rw[ab k1]at ht;obtain⟨hl,hA⟩:=fE ht rfl hA ha;exact open_ hl (.inl ⟨k1,hA⟩)
  by_cases NX:KA G.out a=40
  ·rw[aa k1,ab NX]at ht;obtain⟨hl,hA⟩:=fE ht rfl hA ha;exact open_ hl (.inr ⟨NX,hA⟩)
  rw[aa k1,aa NX]at ht
  by_cases k18:KA G.out a=18
  ·rw[ab k18]at ht;obtain⟨hl,hA⟩:=fE ht rfl hA ha;obtain⟨a1,m1,iQ,⟨n1,n2,n3,n4,n5⟩,eI,eS⟩:=hF (a+1) (by omega) nd r hl (by omega) (by omega) hA;refine⟨a1,m1,iQ,⟨by omega,n2,n3,by omega,n5⟩,(G.base.and eI).up λn ⟨B,h⟩=> ?_,(G.base.and eS).up λn ⟨B,h⟩=> ?_⟩
   ·show fz (S.step (S.tab n)) _=_;rw[fV];dsimp only;rw[c8 Kn,G.kI a ha,B.pI,hp]
    have mU:∀k:Int,k≠18->KA G.out a≠k:=λk h1 e=>by omega
    simp only[al,fG,fM,aa (mU 2 (by decide)),aa (mU 3 (by decide)),aa (mU 4 (by decide)),aa (mU 24 (by decide)),aa (mU 29 (by decide)),aa (mU 17 (by decide)),aa (mU 49 (by decide)),ab k18,B.tI _ _ hl,h]
   ·show gQ (S.step (S.tab n)) _=_
    have mU:∀k:Int,k≠18->KA G.out a≠k:=λk h1 e=>by omega
    simp only[gD,B.kS a _ ha,aa k1,aa NX,al,fG,fM,B.tS _ _ hl,G.kdA hl,B.pS,hp,aa (mU 2 (by decide)),aa (mU 3 (by decide)),aa (mU 4 (by decide)),aa (mU 24 (by decide)),aa (mU 29 (by decide)),aa (mU 17 (by decide)),aa (mU 49 (by decide)),ab k18,B.nS,h]
  rw[aa k18]at ht
  by_cases k42:KA G.out a=42
  ·rw[ab k42]at ht;obtain⟨hl,hA⟩:=fE ht rfl hA ha;obtain⟨a1,ks,iQ,n1,n2,n3,⟨n5,n4⟩,eI,eS⟩:=Qu G a (tkA G.out a).2.1 (tkA G.out a).2.2.2.1 r (G.out.length+1) (a+1) [] nd 1029 (by omega) (λa' h=>hX a' (by omega)) (by omega) (by simp) (by omega) (.inl rfl) hA
   have hT:Evt λn=>sJ (S.tab n) (G.tI,(a:Int),nd,())=U ((iQ.length:Int),(G.tI,((a1+1:Nat):Int),iQ++[(35,(tkA G.out a).2.1,(tkA G.out a1).2.2.1,(tkA G.out a).2.2.2.1,0,0,[],[],ks,())],()),()):=(G.base.and eI).up λn ⟨B,h⟩=>by
    simp only[AV,B.tI _ _ hl,al,h,dH,aH,B.cI _ _ _ _ n2 hl (show iQ.length<=300000 by have:=lL iQ;omega)];rfl
   have HM:=mw (nd:=iQ) (x:=(35,(tkA G.out a).2.1,(tkA G.out a1).2.2.1,(tkA G.out a).2.2.2.1,0,0,[],[],ks,())) (Aw G (by decide) (by omega));refine⟨a1+1,iQ.length,iQ++[(35,(tkA G.out a).2.1,(tkA G.out a1).2.2.1,(tkA G.out a).2.2.2.1,0,0,[],[],ks,())],⟨by omega,by omega,by simp,by omega,n4⟩,(G.base.and hT).up λn ⟨B,h⟩=> ?_,(G.base.and eS).up λn ⟨B,h⟩=> ?_⟩
   ·show fz (S.step (S.tab n)) _=_;rw[fV];dsimp only;rw[c8 Kn,G.kI a ha,B.pI,hp]
    have mU:∀k:Int,k≠42->KA G.out a≠k:=λk h1 e=>by omega
    simp only[al,fG,fM,aa (mU 2 (by decide)),aa (mU 3 (by decide)),aa (mU 4 (by decide)),aa (mU 24 (by decide)),aa (mU 29 (by decide)),aa (mU 17 (by decide)),aa (mU 49 (by decide)),aa (mU 18 (by decide)),ab k42,h]
   ·show gQ (S.step (S.tab n)) _=_
    have mU:∀k:Int,k≠42->KA G.out a≠k:=λk h1 e=>by omega
    simp only[gD,B.kS a _ ha,aa k1,aa NX,al,fG,B.tS _ _ hl,G.kdA hl,B.pS,hp,aa (mU 2 (by decide)),aa (mU 3 (by decide)),aa (mU 4 (by decide)),aa (mU 24 (by decide)),aa (mU 29 (by decide)),aa (mU 17 (by decide)),aa (mU 49 (by decide)),aa (mU 18 (by decide)),B.nS,h,dH,aH,B.tS _ _ n2,B.aS _ _ _ n2 (show iQ.length<=300000 by have:=lL iQ;omega)]
  rw[aa k42]at ht
  cases hu:mS (KA G.out a)with
  |false=>rw[hu]at ht;exact(vl ht rfl hA ha).elim
  |true=>
   rw[hu]at ht;obtain⟨hl,hA⟩:=fE ht rfl hA ha
   have leaf:∀(ki:Int) (x5:Int) (x6:LI) (a68:rg3 ki 0 x5) (a97:∀c∈x6,isByte c),(∀(T:S.Tab),PW G.out G.tI G.tS T->fz (S.step T) (G.tI,(a:Int),nd,())=(gp T (ki,0,0,0,0,x5,x6,[],[],()) (G.tI,(a:Int),nd,()) ↑a).bind λd=>U (d.1,d.2.2.1,()))->
     (∀(T:S.Tab),PW G.out G.tI G.tS T->gQ (S.step T) (G.tS,(a:Int),nd,())=(dJ T (G.tS,((a+1:Nat):Int),nd,()) (ki,(tkA G.out a).2.1,0,(tkA G.out a).2.2.2.1,0,x5,x6,[],[],())).bind λd=>U (d.1,d.2.1,()))->
     ∃(a' m:Nat) (lX:List Node),Nx G r a nd a' lX m/\(Evt λn=>fz (S.tab n) (G.tI,(a:Int),nd,())=U ((m:Int),(G.tI,(a':Int),lX,()),()))/\Evt λn=>gQ (S.tab n) (G.tS,(a:Int),nd,())=U ((m:Int),(G.tS,(a':Int),lX,()),()):=λki x5 x6 a68 a97 h1 h2=>by
    have HM:=mw (nd:=nd) (x:=(ki,(tkA G.out a).2.1,(tkA G.out a).2.2.1,(tkA G.out a).2.2.2.1,0,x5,x6,[],[],())) (Y8 G a68 a97 (by simp));refine⟨a+1,nd.length,nd++[(ki,(tkA G.out a).2.1,(tkA G.out a).2.2.1,(tkA G.out a).2.2.2.1,0,x5,x6,[],[],())],⟨by omega,by omega,by simp,by omega,hA⟩,G.base.up λn B=> ?_,G.base.up λn B=> ?_⟩
    ·show fz (S.step (S.tab n)) _=_;rw[h1 _ B,B.uI _ _ _ _ hl hl (show nd.length<=300000 by have:=lL nd;omega)];rfl
    ·show gQ (S.step (S.tab n)) _=_;rw[h2 _ B,B.aS _ _ _ hl (show nd.length<=300000 by have:=lL nd;omega)];rfl
   by_cases k2:KA G.out a=2
   ·exact leaf 23 (tkA G.out a).2.2.2.2.1 [] ⟨by decide,by decide,(G.aO7 a).n⟩ (λ_ h=>nomatch h) (λT B=>by rw[fV];dsimp only;rw[c8 Kn,G.kI a ha,B.pI,hp];simp only[al,fG,fM,G.aI a hl,ab k2]) (λT B=>by simp only[gD,B.kS a _ ha,aa k1,aa NX,al,fG,fM,B.tS _ _ hl,G.kdA hl,B.pS,hp,ab k2,B.nS])
   by_cases k3:KA G.out a=3
   ·exact leaf 24 0 (tkA G.out a).2.2.2.2.2.1 (by decide) (G.X5 _) (λT B=>by rw[fV];dsimp only;rw[c8 Kn,G.kI a ha,B.pI,hp];simp only[al,fG,fM,G.aI a hl,aa k2,ab k3]) (λT B=>by simp only[gD,B.kS a _ ha,aa k1,aa NX,al,fG,fM,B.tS _ _ hl,G.kdA hl,B.pS,hp,aa k2,ab k3,B.nS])
   by_cases k4:KA G.out a=4
   ·exact leaf 25 0 (tkA G.out a).2.2.2.2.2.1 (by decide) (G.X5 _) (λT B=>by rw[fV];dsimp only;rw[c8 Kn,G.kI a ha,B.pI,hp];simp only[al,fG,fM,G.aI a hl,aa k2,aa k3,ab k4]) (λT B=>by simp only[gD,B.kS a _ ha,aa k1,aa NX,al,fG,fM,B.tS _ _ hl,G.kdA hl,B.pS,hp,aa k2,aa k3,ab k4,B.nS])
   by_cases k24:KA G.out a=24
   ·exact leaf 20 0 [] (by decide) (λ_ h=>nomatch h) (λT B=>by rw[fV];dsimp only;rw[c8 Kn,G.kI a ha,B.pI,hp];simp only[al,fG,fM,G.aI a hl,aa k2,aa k3,aa k4,ab k24]) (λT B=>by simp only[gD,B.kS a _ ha,aa k1,aa NX,al,fG,fM,B.tS _ _ hl,G.kdA hl,B.pS,hp,aa k2,aa k3,aa k4,ab k24,B.nS])
   by_cases k29:KA G.out a=29
   ·exact leaf 21 0 [] (by decide) (λ_ h=>nomatch h) (λT B=>by rw[fV];dsimp only;rw[c8 Kn,G.kI a ha,B.pI,hp];simp only[al,fG,fM,G.aI a hl,aa k2,aa k3,aa k4,aa k24,ab k29]) (λT B=>by simp only[gD,B.kS a _ ha,aa k1,aa NX,al,fG,fM,B.tS _ _ hl,G.kdA hl,B.pS,hp,aa k2,aa k3,aa k4,aa k24,ab k29,B.nS])
   by_cases k17:KA G.out a=17
   ·exact leaf 22 0 [] (by decide) (λ_ h=>nomatch h) (λT B=>by rw[fV];dsimp only;rw[c8 Kn,G.kI a ha,B.pI,hp];simp only[al,fG,fM,G.aI a hl,aa k2,aa k3,aa k4,aa k24,aa k29,ab k17]) (λT B=>by simp only[gD,B.kS a _ ha,aa k1,aa NX,al,fG,fM,B.tS _ _ hl,G.kdA hl,B.pS,hp,aa k2,aa k3,aa k4,aa k24,aa k29,ab k17,B.nS])
   by_cases k49:KA G.out a=49
   ·exact leaf 27 0 [] (by decide) (λ_ h=>nomatch h) (λT B=>by rw[fV];dsimp only;rw[c8 Kn,G.kI a ha,B.pI,hp];simp only[al,fG,fM,G.aI a hl,aa k2,aa k3,aa k4,aa k24,aa k29,aa k17,ab k49]) (λT B=>by simp only[gD,B.kS a _ ha,aa k1,aa NX,al,fG,fM,B.tS _ _ hl,G.kdA hl,B.pS,hp,aa k2,aa k3,aa k4,aa k24,aa k29,aa k17,ab k49,B.nS])
   exfalso
   unfold mS at hu;rw[hp,aa k1,aa NX,aa k18,aa k42,aa k2,aa k3,aa k4,aa k24,aa k29,aa k17,aa k49]at hu;cases hu
end Go.Abs.D
end

section
namespace Go.Abs.D
variable(G:Toks)
def Px (Q:LI->Prop):Prop:=∀st a,Q st->a<=G.out.length->Ac G.out st a->KA G.out a=46->a<G.out.length/\∃EP,Q EP/\Ac G.out (1::EP) (a+1)
def QC (hQ:Px G Q)(nd:List Node):∀d a st ns,G.out.length<a+d->a<=G.out.length->nmO ns a->Q st->Ac G.out st a->
  ∃a' EP XT,a<=a'/\a'<=G.out.length/\Q EP/\Ac G.out EP a'/\KA G.out a'≠46/\nmO XT a'/\
   (Evt λn=>ko (S.tab n) (G.tI,a,nd,()) ns=U (an ((G.tI,(a':Int),nd,()),XT,())))/\
   Evt λn=>∀t,jy (S.tab n) (G.tS,a,nd,()) t ns=U (an ((G.tS,(a':Int),nd,()),XT,())):=by
 intro d
 induction d with
 |zero=>omega
 |succ d ih=>
  intro a st ns hd ha hn hq hA;have hL:=G.len
  by_cases hk:KA G.out a=46
  ·obtain⟨hl,av3,q1,aL3⟩:=hQ st a hq ha hA hk;obtain⟨om,_,aL3⟩:=my aL3 (by omega) (by decide);obtain⟨a2,P7,aY1,p1,p2,p3,p4,p5,p6,pI,pS⟩:=ih (a+1+1) av3 (ns++[(tkA G.out (a+1)).2.2.2.2.2.1]) (by omega) (by omega) (hn.snoc (by omega) (G.X5 _)) q1 aL3;refine⟨a2,P7,aY1,by omega,p2,p3,p4,p5,p6,(G.base.and pI).up λn ⟨B,h⟩=> ?_,(G.base.and pS).up λn ⟨B,h⟩ t=> ?_⟩
   ·show ko (S.step (S.tab n)) _ _=_;simp only[r8,B.eI _ _ _ ha,ab hk,al,fM,ah,B.tI _ _ om];rw[c8 (FV (by have:=hn.2;omega))];exact h
   ·show jy (S.step (S.tab n)) _ _ _=_;simp only[ql,B.eS _ _ _ ha,ab hk,al,fM,ah,B.tS _ _ om];rw[c8 (FV (by have:=hn.2;omega))];exact h _
  ·refine⟨a,st,ns,aF _,ha,hq,hA,hk,hn,G.base.up λn B=> ?_,G.base.up λn B t=> ?_⟩
   ·show ko (S.step (S.tab n)) _ _=_;simp only[r8,B.eI _ _ _ ha,aa hk,al,fG,af]
   ·show jy (S.step (S.tab n)) _ _ _=_;simp only[ql,B.eS _ _ _ ha,aa hk,al,fG,af]
def Fy (hQ:Px G Q)(nd:List Node){a:Nat}{st:LI}(ha:a<=G.out.length)(hq:Q st)(hA:Ac G.out (1::st) a):
  ∃(a':Nat) (EP:LI) (ns:List LI),a<a'/\a'<=G.out.length/\Q EP/\Ac G.out EP a'/\KA G.out a'≠46/\nmO ns a'/\
   (Evt λn=>me (S.tab n) (G.tI,a,nd,())=U (ns,(G.tI,(a':Int),nd,()),()))/\
   Evt λn=>kO (S.tab n) (G.tS,a,nd,())=U (ns,(G.tS,(a':Int),nd,()),()):=by
 obtain⟨hl,_,hA⟩:=my hA ha (by decide);obtain⟨a2,P7,aY1,p1,p2,p3,p4,p5,p6,pI,pS⟩:=QC G hQ nd (G.out.length+1) (a+1) st [(tkA G.out a).2.2.2.2.2.1] (by omega) (by omega) ⟨λx hx=>by rw[cg.1 hx];exact G.X5 _,by simp⟩ hq hA;refine⟨a2,P7,aY1,by omega,p2,p3,p4,p5,p6,(G.base.and pI).up λn ⟨B,h⟩=> ?_,(G.base.and pS).up λn ⟨B,h⟩=> ?_⟩
 ·show me (S.step (S.tab n)) _=_;simp only[AK,B.tI _ _ hl,al,h,dH,aH]
 ·show kO (S.step (S.tab n)) _=_;simp only[xr,B.tS _ _ hl,al,h,dH,aH]
abbrev JB (a:Nat):Prop:=JN G fv gP [1027] a
def ag2:(kinds.all λk=>I (stI 1003 k=bif(k=15)then .left [1018,1027,1003]else bif(k=16)then .left [1027]else .gone))=true:=by kernel_rfl
def JC (a:Nat):Prop:=∀nd (r:LI),a<G.out.length->W nd<=4*a->Ac G.out (1018::1027::1003::r) (a+1)->∃(a' m:Nat) (lX:List Node),Nx G r a nd a' lX m/\
 (Evt λn=>j3 (S.tab n) (G.tI,a,nd,())=U ((m:Int),(G.tI,(a':Int),lX,()),()))/\
 Evt λn=>mn (S.tab n) (G.tS,((a+1:Nat)),nd,()) (tkA G.out a)=U ((m:Int),(G.tS,(a':Int),lX,()),((),(),(),(),(),(),()),())
def TW (hX:∀a',a<a'->JX G a')(hB:∀a',a<a'->JB G a')(hC:∀a',a<a'->JC G a'):JC G a:=by
 intro nd r hl hn hA;have hL:=G.len;obtain⟨a1,m1,iQ,⟨n1,n2,n3,n4,n5⟩,eI,eS⟩:=hX (a+1) (by omega) nd _ (by omega) (by omega) hA;obtain⟨a2,m2,mA,⟨p1,p2,p3,p4,p5⟩,fI,fS⟩:=hB a1 (by omega) iQ (1003::r) n2 (by omega) n5;have ht:=of_decide_eq_true (G.tab ag2 a2)
 by_cases k1:KA G.out a2=15
 ·rw[ab k1]at ht;obtain⟨uL,hA⟩:=fE ht rfl p5 p2;obtain⟨a3,m3,sE,⟨q1,q2,q3,q4,q5⟩,gI,gS⟩:=hC a2 (by omega) mA r uL (by omega) hA;obtain⟨c,rfl⟩:∃c,a3=c+1:=⟨a3 - 1,by omega⟩;have hc:c<G.out.length:=(by omega);have HM:=mw (nd:=sE) (x:=(7,(tkA G.out a).2.1,(tkA G.out c).2.2.1,(tkA G.out a).2.2.2.1,0,0,[],[],[m1,m2,m3],())) (Aw G (by decide) (by simp));refine⟨c+1,sE.length,sE++[(7,(tkA G.out a).2.1,(tkA G.out c).2.2.1,(tkA G.out a).2.2.2.1,0,0,[],[],[(m1:Int),m2,m3],())],⟨by omega,q2,by simp,by omega,q5⟩, ?_, ?_⟩
  ·refine(((G.base.and eI).and fI).and gI).up λn ⟨⟨⟨B,h1⟩,h2⟩,h3⟩=> ?_
   show j3 (S.step (S.tab n)) _=_;simp only[pN,B.tI _ _ hl,al,h1,h2];rw[c8 (by rfl),B.kI _ _ p2];simp only[al,ab k1,fM,h3];rw[c8 (by rfl),B.cI _ _ _ _ hc hl (show sE.length<=300000 by grind [lL])];rfl
  ·refine(((G.base.and eS).and fS).and gS).up λn ⟨⟨⟨B,h1⟩,h2⟩,h3⟩=> ?_
   show mn (S.step (S.tab n)) _ _=_;simp only[rR,B.nS,al,h1,h2,B.kS _ _ p2,ab k1,fM,B.tS _ _ uL,h3];rw[c8 (by rfl),B.aS _ _ _ hc (show sE.length<=300000 by have:=lL sE;omega)];rfl
 rw[aa k1]at ht
 by_cases k2:KA G.out a2=16
 ·rw[ab k2]at ht;obtain⟨uL,hA⟩:=fE ht rfl p5 p2;obtain⟨a3,m3,sE,⟨q1,q2,q3,q4,q5⟩,gI,gS⟩:=hB (a2+1) (by omega) mA r (by omega) (by omega) hA;obtain⟨c,rfl⟩:∃c,a3=c+1:=⟨a3 - 1,by omega⟩;have hc:c<G.out.length:=(by omega);have HM:=mw (nd:=sE) (x:=(7,(tkA G.out a).2.1,(tkA G.out c).2.2.1,(tkA G.out a).2.2.2.1,0,0,[],[],[m1,m2,m3],())) (Aw G (by decide) (by simp));refine⟨c+1,sE.length,sE++[(7,(tkA G.out a).2.1,(tkA G.out c).2.2.1,(tkA G.out a).2.2.2.1,0,0,[],[],[(m1:Int),m2,(m3:Int)],())],⟨by omega,q2,by simp,by omega,q5⟩, ?_, ?_⟩
  ·refine(((G.base.and eI).and fI).and gI).up λn ⟨⟨⟨B,h1⟩,h2⟩,h3⟩=> ?_
   show j3 (S.step (S.tab n)) _=_;simp only[pN,B.tI _ _ hl,al,h1,h2];rw[c8 (by rfl),B.kI _ _ p2];simp only[al,aa k1,fG,B.eI _ _ _ p2,ab k2,fM,ah,h3];rw[c8 (by rfl),B.cI _ _ _ _ hc hl (show sE.length<=300000 by have:=lL sE;omega)];rfl
  ·refine(((G.base.and eS).and fS).and gS).up λn ⟨⟨⟨B,h1⟩,h2⟩,h3⟩=> ?_
   show mn (S.step (S.tab n)) _ _=_;simp only[rR,B.nS,al,h1,h2,B.kS _ _ p2,aa k1,fG,B.eS _ _ _ p2,ab k2,fM,ah,h3];rw[c8 (by rfl),B.aS _ _ _ hc (show sE.length<=300000 by have:=lL sE;omega)];rfl
 ·rw[aa k2]at ht;obtain⟨c,rfl⟩:∃c,a2=c+1:=⟨a2 - 1,by omega⟩;have hc:c<G.out.length:=(by omega);have HM:=mw (nd:=mA) (x:=(7,(tkA G.out a).2.1,(tkA G.out c).2.2.1,(tkA G.out a).2.2.2.1,0,0,[],[],[(m1:Int),(m2:Int)],())) (Aw G (by decide) (by simp));refine⟨c+1,mA.length,mA++[(7,(tkA G.out a).2.1,(tkA G.out c).2.2.1,(tkA G.out a).2.2.2.1,0,0,[],[],[(m1:Int),(m2:Int)],())],⟨by omega,p2,by simp,by omega,jw ht rfl p5 p2⟩, ?_, ?_⟩
  ·refine((G.base.and eI).and fI).up λn ⟨⟨B,h1⟩,h2⟩=> ?_
   show j3 (S.step (S.tab n)) _=_;simp only[pN,B.tI _ _ hl,al,h1,h2];rw[c8 (by rfl),B.kI _ _ p2];simp only[al,aa k1,fG,B.eI _ _ _ p2,aa k2,af,B.cI _ _ _ _ hc hl (show mA.length<=300000 by have:=lL mA;omega)];rfl
  ·refine((G.base.and eS).and fS).up λn ⟨⟨B,h1⟩,h2⟩=> ?_
   show mn (S.step (S.tab n)) _ _=_;simp only[rR,B.nS,al,h1,h2,B.kS _ _ p2,aa k1,fG,B.eS _ _ _ p2,aa k2,af,B.aS _ _ _ hc (show mA.length<=300000 by have:=lL mA;omega)]
def aR7:Ut [1009,1010,1011]:=λs hs=>by
 refine⟨1009,by simp,1010,by simp, ?_⟩;simp at hs
 rcases hs with rfl|rfl|rfl<;>exact⟨by kernel_rfl,by kernel_rfl,by kernel_rfl⟩
def aR8:Ut [1013,1014]:=λs hs=>by
 refine⟨1013,by simp,1014,by simp, ?_⟩;simp at hs
 rcases hs with rfl|rfl<;>exact⟨by kernel_rfl,by kernel_rfl,by kernel_rfl⟩
def aQ6:Ut [1016,1017]:=λs hs=>by
 refine⟨1016,by simp,1017,by simp, ?_⟩;simp at hs
 rcases hs with rfl|rfl<;>exact⟨by kernel_rfl,by kernel_rfl,by kernel_rfl⟩
def sfx (k:Int):Bool:=(k=48)||decide (k=44)||decide (k=40)
def WX:(kinds.all λk=>sfx k||(((stI 1009 k=bif(k=47)then .left [1018,1023]else bif(k=46)then .left [1012]else .no)&&(stI 1010 k= .gone&&stI 1011 k= .no))&&
 (((stI 1013 k=bif(k=47)then .left [1018,1023]else bif(k=46)then .left [1012]else .no)&&stI 1014 k= .no)&&(stI 1016 k= .no&&stI 1017 k= .gone))))=true:=by kernel_rfl
def Vv:(kinds.all λk=>I (stI 1012 k=bif(k=1)then .left [1013]else bif(k=40)then .left [1018,41,1014]else .no))=true:=by kernel_rfl
def Toks.al5 (h:KA G.out a≠48/\KA G.out a≠44/\KA G.out a≠40):sfx (KA G.out a)=false:=by
 simp_all[sfx,aa]
def Qz (hs:s=1009\/s=1013\/s=1014)(ha:a<=G.out.length)(h:KA G.out a≠48/\KA G.out a≠44/\KA G.out a≠40)(hA:Ac G.out (s::r) a):
  a<G.out.length/\((KA G.out a=47/\Ac G.out (1018::1023::r) (a+1))\/(KA G.out a=46/\Ac G.out (1012::r) (a+1))):=by
 have ht:=G.tab WX a;rw[G.al5 h]at ht;simp at ht;obtain⟨⟨t1,_⟩,⟨t2,t3⟩,_⟩:=ht
 have go:∀{s:Int},stI s (KA G.out a)=(bif(KA G.out a=47)then .left [1018,1023]else bif(KA G.out a=46)then .left [1012]else .no)->Ac G.out (s::r) a->a<G.out.length/\((KA G.out a=47/\Ac G.out (1018::1023::r) (a+1))\/(KA G.out a=46/\Ac G.out (1012::r) (a+1))):=λe hA=>by
  by_cases k1:KA G.out a=47
  ·rw[ab k1]at e;obtain⟨hl,hA⟩:=fE e rfl hA ha;simp_all
  rw[aa k1]at e
  by_cases k2:KA G.out a=46
  ·rw[ab k2]at e;obtain⟨hl,hA⟩:=fE e rfl hA ha;simp_all
  rw[aa k2]at e;exact(vl e rfl hA ha).elim
 rcases hs with rfl|rfl|rfl
 ·grind
 ·grind
 ·exact(vl t3 rfl hA ha).elim
def Mn (ha:a<=G.out.length)(hA:Ac G.out (1012::r) a):∃s0,s0∈[1013,1014]/\a<G.out.length/\((KA G.out a=1/\Ac G.out (s0::r) (a+1))\/(KA G.out a=40/\Ac G.out (1018::41::s0::r) (a+1))):=by
 have ht:=of_decide_eq_true (G.tab Vv a)
 by_cases k1:KA G.out a=1
 ·rw[ab k1]at ht;obtain⟨hl,hA⟩:=fE ht rfl hA ha;simp_all
 rw[aa k1]at ht
 by_cases k2:KA G.out a=40
 ·rw[ab k2]at ht;obtain⟨hl,hA⟩:=fE ht rfl hA ha;simp_all
 rw[aa k2]at ht;exact(vl ht rfl hA ha).elim
def targets (b) (f ln:Int)(r:LI):∀d a ks nd s,G.out.length<a+d->(∀a',a<=a'->JX G a')->a<=G.out.length->ks.length<=a->W nd<=4*a->(s=1009\/s=1013\/s=1014)->(KA G.out a≠48/\KA G.out a≠44/\KA G.out a≠40)->Ac G.out (s::r) a->
  ∃(a':Nat) (UP:LI) (lX:List Node),a<=a'/\a'<G.out.length/\KA G.out a'=47/\UP.length<=a'/\W lX+4*a<=W nd+4*a'/\Ac G.out (1018::1023::r) (a'+1)/\
   (Evt λn=>iZ (S.tab n) (G.tI,a,nd,()) b ks=U (an ((G.tI,(a':Int),lX,()),b,UP,())))/\
   Evt λn=>ja (S.tab n) (G.tS,a,nd,()) (5,f,0,ln,0,(ks.length:Int),[],[],ks,())=U (an ((G.tS,(a':Int),lX,()),(5,f,0,ln,0,(UP.length:Int),[],[],UP,()),())):=by
 intro d
 induction d with
 |zero=>omega
 |succ d ih=>
  intro a ks nd s hd hX ha Ld hn hs hk hA;have hL:=G.len;obtain⟨hl,Kq⟩:=Qz G hs ha hk hA
  rcases Kq with⟨k1,hA⟩|⟨k1,hA⟩
  ·have k2:KA G.out a≠46:=(by omega);refine⟨a,ks,nd,aF _,hl,k1,Ld,aF _,hA,G.base.up λn B=> ?_,G.base.up λn B=> ?_⟩
   ·show iZ (S.step (S.tab n)) _ _ _=_;simp only[sd,B.eI _ _ _ ha,aa k2,al,fG,af]
   ·show ja (S.step (S.tab n)) _ _=_;simp only[tf,B.eS _ _ _ ha,aa k2,al,fG,af]
  ·obtain⟨s0,ab7,om,hc⟩:=Mn G (by omega) hA;obtain⟨a1,m1,iQ,s1,N1,⟨n1,n2,n3,n4,n5⟩,Tq,eI,eS⟩:=HG G aR8 (λa' h=>hX a' (by omega)) nd r s0 ab7 om (by omega) hc;obtain⟨a2,aJ7,mA,p1,p2,p3,p4,p5,p6,pI,pS⟩:=ih a1 (ks++[(m1:Int)]) iQ s1 (by omega) (λa' h=>hX a' (by omega)) n2 (by simp;omega) (by omega) (by simp at N1;exact .inr N1) Tq n5;refine⟨a2,aJ7,mA,by omega,p2,p3,p4,by omega,p6,((G.base.and eI).and pI).up λn ⟨⟨B,h⟩,hp⟩=> ?_,((G.base.and eS).and pS).up λn ⟨⟨B,h⟩,hp⟩=> ?_⟩
   ·show iZ (S.step (S.tab n)) _ _ _=_;simp only[sd,B.eI _ _ _ ha,ab k1,al,fM,ah,h];rw[c8 (FV (by omega))];exact hp
   ·show ja (S.step (S.tab n)) _ _=_;simp only[tf,B.eS _ _ _ ha,ab k1,al,fM,ah,h];rw[c8 (FV (by omega)),eT (by omega)];have e:(ks++[(m1:Int)]).length=ks.length+1:=(by simp);rw[e]at hp;exact hp
def O8 (st:StT)(x0 x1 x2 x3 x4 x5:Int)(x6:LI)(x7:List LI):∀(r pre ks:LI),(pre++r).length<=70000->ks.length+r.length<=140000->
  Evt λn=>kX (S.tab n) st (x0,x1,x2,x3,x4,x5,x6,x7,ks,()) (pre++r) ((pre++r).length) pre.length=U (an (st,(x0,x1,x2,x3,x4,x5,x6,x7,ks++r,()),()))
 |[],pre,ks,_,_=>dF.up λn _=>by
  simp_all[sG,dz]
 |m::r,pre,ks,hl,hk=>by
  have ih:=O8 st x0 x1 x2 x3 x4 x5 x6 x7 r (pre++[m]) (ks++[m]) (by simp_all) (by grind);have hlen:(pre++m::r).length=pre.length+(r.length+1):=(by simp)
  refine ih.up λn h=> ?_
  rw[sG,c8 (by grind),c8 (dm (by omega))]
  grind [c8,fU,lim,eT]
end Go.Abs.D
end

section
namespace Go.Abs.D
variable(G:Toks)
def rOk (r:LI):Prop:=r=[]\/∃r',r=43::r'
def Rv (ha:a<=out.length)(h:Ac out [] a):a=out.length/\KA out a=6:=by
 obtain⟨b,h1,h2⟩:=h
 rcases bB a out.length with hl|hl
 ·have bd8:a<(out.map kd).length:=by simp_all
  rw[bG bd8]at h1;cases h1
 grind [KA,bR]
def Sm (h:rOk r){a:Nat}(ha:a<=G.out.length)(hA:Ac G.out r a):KA G.out a=43\/KA G.out a=6:=by
 rcases h with rfl|⟨r',rfl⟩
 ·simp_all[Rv]
 ·exact .inl (my hA ha (by decide)).2.1
def Sw:(kinds.all λk=>I (stI 1001 k=bif(k=5)then .left [1000]else .gone)&&((stI 1002 k=bif(k=47)then .left [1018,1023]else .gone)&&((stI 1008 k=bif(k=46)then .left [1]else .gone)&&
 ((stI 1015 k=bif(k=1)then .left [1016]else bif(k=40)then .left [1018,41,1016]else .no)&&((stI 1004 k=bif(k=47)then .left [1018,46,1018,1005,1027]else bif(k=46)then .left [1,1006,21,1018,1027]else bif(k=21)then .left [1018,1027]else .no)&&
 (stI 1005 k=bif(k=46)then .left [1018]else .gone))))))=true:=by kernel_rfl
def YJ:(kinds.all λk=>I (k=22)||decide (k=13)||decide (k=18)||decide (k=20)||decide (k=31)||decide (k=19)||decide (k=11)||decide (k=23)||decide (k=27)||decide (k=30)||decide (k=28)||decide (k=14)||decide (k=42)||decide (k=1)||decide (k=40)||decide (k=5)||decide (stI 1000 k= .gone))=true:=by kernel_rfl
def Wb:stI 1000 22= .left [1,1006,1002,1001]/\stI 1000 13= .left [1,47,1018,1001]/\stI 1000 18= .left [1,1028,1001]/\stI 1000 20= .left [1018,1027,1003,1001]/\stI 1000 31= .left [1018,1027,1001]/\stI 1000 19= .left [1,1004,1001]/\stI 1000 11= .left [1001]/\stI 1000 23= .left [1001]/\
 stI 1000 27= .left [1007,1001]/\stI 1000 30= .left [1027,12,1,1008,1027,1001]/\stI 1000 28= .left [1018,1001]/\stI 1000 14= .left [1015,1001]/\stI 1000 42=(stI 1027 42).then [1001] .no/\stI 1000 1= .left [1009,1001]/\stI 1000 40= .left [1018,41,1011,1001]/\stI 1000 5= .left [1000]:=by
 refine⟨?_, ?_, ?_, ?_, ?_, ?_, ?_, ?_, ?_, ?_, ?_, ?_, ?_, ?_, ?_, ?_⟩<;>kernel_rfl
def JS (a:Nat):Prop:=∀nd r,rOk r->a<=G.out.length->W nd<=4*a->Ac G.out (1000::r) a->KA G.out a≠5->KA G.out a≠43->KA G.out a≠6->∃a' m lX,Nx1 G (1001::r) a nd a' lX m/\
 (Evt λn=>dZ (S.tab n) (G.tI,a,nd,())=U ((m:Int),(G.tI,(a':Int),lX,()),()))/\
 Evt λn=>eR (S.tab n) (G.tS,a,nd,())=U ((m:Int),(G.tS,(a':Int),lX,()),())
def kne (h:x=k){j:Int}(hj:k≠j):I (x=j)=false:=aa (by omega)
def BY (hX:∀a',a<a'->JX G a'){nd:List Node}{r:LI}(hr:rOk r)(hl:a<G.out.length)(hn:W nd<=4*a){s0:Int}(ab7:s0∈[1009,1010,1011])
  (hc:(KA G.out a=1/\Ac G.out (s0::1001::r) (a+1))\/(KA G.out a=40/\Ac G.out (1018::41::s0::1001::r) (a+1))):∃a' m lX,Nx1 G (1001::r) a nd a' lX m/\
 (Evt λn=>dZ (S.tab n) (G.tI,a,nd,())=U ((m:Int),(G.tI,(a':Int),lX,()),()))/\
 Evt λn=>eR (S.tab n) (G.tS,(a:Int),nd,())=U ((m:Int),(G.tS,(a':Int),lX,()),()):=by
 have hL:=G.len;have ha:=Nat.le_of_lt hl
 have mU:∀k:Int,1≠k->40≠k->I (KA G.out a=k)=false:=λk h1 h2=>by grind
 have a55:=mU 22 (by decide) (by decide);have a63:=mU 13 (by decide) (by decide);have ba7:=mU 18 (by decide) (by decide);have a57:=mU 20 (by decide) (by decide);have a79:=mU 31 (by decide) (by decide);have a64:=mU 19 (by decide) (by decide);have a52:=mU 11 (by decide) (by decide);have n23:=mU 23 (by decide) (by decide);have a56:=mU 27 (by decide) (by decide);have a90:=mU 30 (by decide) (by decide);have bb0:=mU 28 (by decide) (by decide);have ba6:=mU 14 (by decide) (by decide);have aQ1:=mU 42 (by decide) (by decide)
 have Hi:∀a:Nat,a<=G.out.length->(I ((0:Int)<=(a:Int))&&I ((a:Int)<(G.tS.length:Int)))=true:=λa h=>dm (by rw[G.lS];omega)
 have a83:∀{a' m:Nat} {lX:List Node},(Evt λn=>ny (S.tab n) (G.tS,(a:Int),nd,())=U ((m:Int),(G.tS,(a':Int),lX,()),()))->Evt λn=>eR (S.tab n) (G.tS,(a:Int),nd,())=U ((m:Int),(G.tS,(a':Int),lX,()),()):=λh=>(G.base.and h).up λn ⟨B,h⟩=>by
  show eR (S.step (S.tab n)) _=_
  rcases hc with⟨e,_⟩|⟨e,_⟩
  ·simp only[eX,B.kS _ _ ha,al,aQ1,fG,ab e,fM,h]
  ·simp only[eX,B.kS _ _ ha,al,aQ1,fG,kne e (show(40:Int)≠1 by decide),ab e,fM,h]
 obtain⟨a1,m1,iQ,s1,N1,⟨n1,n2,n3,n4,n5⟩,Tq,eI,eS⟩:=HG G aR7 hX nd (1001::r) s0 ab7 hl hn hc;simp only[bA,List.not_mem_nil,or_false]at N1;have ht:=G.tab WX a1;rw[G.al5 Tq]at ht;simp only[bH,aA,ad]at ht;obtain⟨⟨t1,t2,t3⟩,_⟩:=ht
 by_cases hk:KA G.out a1=46\/KA G.out a1=47
 ·
  have h9:s1=1009:=by
   rcases N1 with rfl|rfl|rfl
   ·rfl
   ·have hA:=jw t2 rfl n5 n2;have h5:=G.tab Sw a1;simp only[aA,ad]at h5;have h5:=h5.1;rw[show I (KA G.out a1=5)=aq from aa (by omega)]at h5
    rcases Sm G hr n2 (jw h5 rfl hA n2)with h|h<;>omega
   ·exact(vl t3 rfl n5 n2).elim
  subst h9;obtain⟨a2,ks,mA,p1,p2,p3,p4,p5,p6,pI,pS⟩:=targets G ↑a (tkA G.out a).2.1 (tkA G.out a).2.2.2.1 (1001::r) (G.out.length+1) a1 [(m1:Int)] iQ 1009 (by omega) (λa' h=>hX a' (by omega)) n2 (by simp;omega) (by omega) (.inl rfl) Tq n5;obtain⟨a3,xs,sE,q1,q2,q3,q4,q5,gI,gS⟩:=BQ G (λa' h=>hX a' (by omega)) mA (1001::r) (by omega) (by omega) p6;obtain⟨c,rfl⟩:∃c,a3=c+1:=⟨a3 - 1,by omega⟩;have as0:c<G.out.length:=(by omega);have mm:=O8 (G.tS,((c+1:Nat):Int),sE,()) 5 (tkA G.out a).2.1 0 (tkA G.out a).2.2.2.1 0 (ks.length:Int) [] [] xs [] ks (by simp;omega) (by omega);have HM:=mw (nd:=sE) (x:=(5,(tkA G.out a).2.1,(tkA G.out c).2.2.1,(tkA G.out a).2.2.2.1,0,(ks.length:Int),[],[],ks++xs,())) (Aw G ⟨by decide,by decide,by unfold rg;omega⟩ (by simp only[au];omega));refine⟨c+1,sE.length,sE++[(5,(tkA G.out a).2.1,(tkA G.out c).2.2.1,(tkA G.out a).2.2.2.1,0,(ks.length:Int),[],[],ks++xs,())],⟨by omega,q2,by simp,by omega,q5⟩, ?_, ?_⟩
  ·refine(((G.base.and eI).and pI).and gI).up λn ⟨⟨⟨B,h1⟩,h2⟩,h3⟩=> ?_
   show dZ (S.step (S.tab n)) _=_;simp only[eE,B.kI _ _ ha,al,a55,a63,ba7,a57,a79,a64,a52,n23,a56,a90,bb0,ba6,aQ1,fG,h1,B.kI _ _ n2]
   by_cases XU:KA G.out a1=46
   ·simp only[ab XU,bM,fG,h2,al,dH,aH,B.tI _ _ p2,h3];rw[c8 (fU (by unfold lim;omega)),B.cI _ _ _ _ as0 hl (show sE.length<=300000 by have:=lL sE;omega)];rfl
   ·simp only[aa XU,ab (hk.resolve_left XU),bM,bC,fG,fM,h2,al,dH,aH,B.tI _ _ p2,h3];rw[c8 (fU (by unfold lim;omega)),B.cI _ _ _ _ as0 hl (show sE.length<=300000 by have:=lL sE;omega)];rfl
  ·refine a83 (((((G.base.and eS).and pS).and gS).and mm).up λn ⟨⟨⟨⟨B,h1⟩,h2⟩,h3⟩,h4⟩=> ?_);show ny (S.step (S.tab n)) _=_;have h4:kX (S.tab n) (G.tS,((c+1:Nat):Int),sE,()) (5,(tkA G.out a).2.1,0,(tkA G.out a).2.2.2.1,0,(ks.length:Int),[],[],ks,()) xs (xs.length:Int) 0=_:=h4;have h2:ja (S.tab n) (G.tS,(a1:Int),iQ,()) (5,(tkA G.out a).2.1,0,(tkA G.out a).2.2.2.1,0,1,[],[],[(m1:Int)],())=_:=h2;rw[vX];dsimp only;rw[c8 (Hi a ha),G.aS a hl];simp only[B.nS,al,h1];rw[c8 (Hi a1 n2),G.kS a1 n2]
   by_cases XU:KA G.out a1=46
   ·simp only[ab XU,bM,fG,h2,al,dH,aH,B.tS _ _ p2,h3,h4,B.aS _ _ _ as0 (show sE.length<=300000 by have:=lL sE;omega)]
   ·simp only[aa XU,bC,fM];rw[c8 (Hi a1 n2)];simp only[ab (hk.resolve_left XU),bM,fG,h2,al,dH,aH,B.tS _ _ p2,h3,h4,B.aS _ _ _ as0 (show sE.length<=300000 by have:=lL sE;omega)]
 ·have XU:KA G.out a1≠46:=λh=>hk (.inl h)
  have aV4:KA G.out a1≠47:=λh=>hk (.inr h)
  have hA:Ac G.out (1001::r) a1:=by
   rcases N1 with rfl|rfl|rfl
   ·rw[aa aV4,aa XU]at t1;exact(vl t1 rfl n5 n2).elim
   ·exact jw t2 rfl n5 n2
   ·exact(vl t3 rfl n5 n2).elim
  obtain⟨c,rfl⟩:∃c,a1=c+1:=⟨a1 - 1,by omega⟩;have as0:c<G.out.length:=(by omega);have HM:=mw (nd:=iQ) (x:=(6,(tkA G.out a).2.1,(tkA G.out c).2.2.1,(tkA G.out a).2.2.2.1,0,0,[],[],[(m1:Int)],())) (Aw G (by decide) (by simp));refine⟨c+1,iQ.length,iQ++[(6,(tkA G.out a).2.1,(tkA G.out c).2.2.1,(tkA G.out a).2.2.2.1,0,0,[],[],[(m1:Int)],())],⟨by omega,n2,by simp,by omega,hA⟩, ?_, ?_⟩
  ·refine(G.base.and eI).up λn ⟨B,h1⟩=> ?_
   show dZ (S.step (S.tab n)) _=_;simp only[eE,B.kI _ _ ha,al,a55,a63,ba7,a57,a79,a64,a52,n23,a56,a90,bb0,ba6,aQ1,fG,h1,B.kI _ _ n2,aa XU,aa aV4,bC,fM,B.cI _ _ _ _ as0 hl (show iQ.length<=300000 by have:=lL iQ;omega)];rfl
  ·refine a83 ((G.base.and eS).up λn ⟨B,h1⟩=> ?_);show ny (S.step (S.tab n)) _=_;rw[vX];dsimp only;rw[c8 (Hi a ha),G.aS a hl];simp only[B.nS,al,h1];rw[c8 (Hi (c+1) n2),G.kS (c+1) n2];simp only[aa XU,bC,fM];rw[c8 (Hi (c+1) n2)];simp only[aa aV4,bC,fM,al,B.aS _ _ _ as0 (show iQ.length<=300000 by have:=lL iQ;omega)]
end Go.Abs.D
end

section
namespace Go.Abs.D
variable(G:Toks)
def Toks.By (a):stI 1001 (KA G.out a)=(bif(KA G.out a=5)then .left [1000]else .gone)/\stI 1002 (KA G.out a)=(bif(KA G.out a=47)then .left [1018,1023]else .gone)/\stI 1008 (KA G.out a)=(bif(KA G.out a=46)then .left [1]else .gone)/\
  stI 1015 (KA G.out a)=(bif(KA G.out a=1)then .left [1016]else bif(KA G.out a=40)then .left [1018,41,1016]else .no)/\
  stI 1004 (KA G.out a)=(bif(KA G.out a=47)then .left [1018,46,1018,1005,1027]else bif(KA G.out a=46)then .left [1,1006,21,1018,1027]else bif(KA G.out a=21)then .left [1018,1027]else .no)/\
  stI 1005 (KA G.out a)=(bif(KA G.out a=46)then .left [1018]else .gone):=by
 have h:=G.tab Sw a;simp_all
def tZ (hl:a<G.out.length){a1:Nat} (iQ) (h1:a<a1)(h2:a1<=G.out.length)(h3:W iQ+4*a+2<=W nd+4*a1)(hn:W nd<=4*a)(h4:Ac G.out (1001::r) a1) (ki op x5) (ns) (ks:LI)(hr:rg3 ki op x5)(Kh:nmO ns 70000)(Ld:ks.length<=70000)
  (eI:Evt λn=>dZ (S.tab (n+1)) (G.tI,a,nd,())=(dt (S.tab n) (G.tI,a1,iQ,()) a (ki,0,0,0,op,x5,[],ns,ks,())).bind λd=>U (d.1,d.2.1,()))
  (eS:Evt λn=>eR (S.tab (n+1)) (G.tS,a,nd,())=(dJ (S.tab n) (G.tS,a1,iQ,()) (ki,(tkA G.out a).2.1,0,(tkA G.out a).2.2.2.1,op,x5,[],ns,ks,())).bind λd=>U (d.1,d.2.1,())):
  ∃(a' m:Nat) (lX:List Node),Nx1 G (1001::r) a nd a' lX m/\(Evt λn=>dZ (S.tab n) (G.tI,a,nd,())=U ((m:Int),(G.tI,(a':Int),lX,()),()))/\
   Evt λn=>eR (S.tab n) (G.tS,a,nd,())=U ((m:Int),(G.tS,(a':Int),lX,()),()):=by
 have hL:=G.len;obtain⟨c,rfl⟩:∃c,a1=c+1:=⟨a1 - 1,by omega⟩;have hc:c<G.out.length:=(by omega);have HM:=mw (nd:=iQ) (x:=(ki,(tkA G.out a).2.1,(tkA G.out c).2.2.1,(tkA G.out a).2.2.2.1,op,x5,[],ns,ks,())) (Y7 G hr Kh.1 (by have:=Kh.2;omega) (by omega));refine⟨c+1,iQ.length,iQ++[(ki,(tkA G.out a).2.1,(tkA G.out c).2.2.1,(tkA G.out a).2.2.2.1,op,x5,[],ns,ks,())],⟨by omega,h2,by simp,by omega,h4⟩,(G.base.and eI).up λn ⟨B,h⟩=> ?_,(G.base.and eS).up λn ⟨B,h⟩=> ?_⟩
 ·rw[h,B.cI _ _ _ _ hc hl (show iQ.length<=300000 by grind [lL])];rfl
 ·rw[h,B.aS _ _ _ hc (show iQ.length<=300000 by grind [lL])];rfl
def VS (hX:∀a',a<a'->JX G a')(hB:∀a',a<a'->JB G a')(ZM:JB G a)(hC:JC G a)(hF:∀b a',a<a'->JF G b a'):JS G a:=by
 intro nd r hr ha hn hA h5 ac2 h6;have hL:=G.len;obtain⟨bk5,bf6,bd0,bk6,bj1,bc7,be2,bh3,bi9,bc6,bk9,be7,ba1,s1,be9,_⟩:=Wb
 have Hi:∀a:Nat,a<=G.out.length->(0<=(a:Int)&&(a:Int)<(G.tS.length:Int))=true:=λa h=>dm (by rw[G.lS];omega)
 by_cases k22:KA G.out a=22
 ·obtain⟨hl,hA⟩:=fE bk5 k22 hA ha
  have hQ:Px G (λst=>st=1006::1002::1001::r):=λst a' e UH Ql hk=>by
   subst e;have ht:=of_decide_eq_true (G.tab HJ a');rw[ab hk]at ht;obtain⟨hl,hA⟩:=fE ht rfl Ql UH;exact⟨hl,_,rfl,hA⟩
  obtain⟨a1,av3,ns,n1,n2,rfl,n4,n5,n6,eI,eS⟩:=Fy G hQ nd (show a+1<=_ by omega) rfl hA;have ht:=of_decide_eq_true (G.tab HJ a1);rw[aa n5]at ht;have hA:=jw ht rfl n4 n2;have ax5:=(G.By a1).2.1
  by_cases Tm:KA G.out a1=47
  ·rw[ab Tm]at ax5;obtain⟨om,hA⟩:=fE ax5 rfl hA n2;obtain⟨a2,xs,mA,p1,p2,p3,p4,p5,fI,fS⟩:=BQ G (λa' h=>hX a' (by omega)) nd (1001::r) (show a1+1<=_ by omega) (by omega) hA;refine tZ G hl mA (by omega) p2 (by omega) hn p5 2 0 0 ns xs (by decide) (n6.up (by omega)) (by omega) (((G.base.and eI).and fI).mono λn ⟨⟨B,h1⟩,h2⟩=> ?_) (((G.base.and eS).and fS).mono λn ⟨⟨B,h1⟩,h2⟩=> ?_)
   ·show dZ (S.step (S.tab n)) _=_;simp only[eE,B.kI _ _ ha,al,ab k22,fM,B.tI _ _ hl,h1,B.eI _ _ _ n2,ab Tm,ah,h2]
   ·show eR (S.step (S.tab n)) _=_;simp only[eX,B.kS _ _ ha,al,kne k22 (show(22:Int)≠42 by decide),kne k22 (show(22:Int)≠1 by decide),kne k22 (show(22:Int)≠40 by decide),fG,B.tS _ _ hl,G.kdA hl,ab k22,fM,B.nS,h1,B.eS _ _ _ n2,ab Tm,ah,h2]
  ·rw[aa Tm]at ax5;refine tZ G hl nd (by omega) n2 (by omega) hn (jw ax5 rfl hA n2) 2 0 0 ns [] (by decide) (n6.up (by omega)) (by simp) ((G.base.and eI).mono λn ⟨B,h1⟩=> ?_) ((G.base.and eS).mono λn ⟨B,h1⟩=> ?_)
   ·show dZ (S.step (S.tab n)) _=_;simp only[eE,B.kI _ _ ha,al,ab k22,fM,fG,B.tI _ _ hl,h1,B.eI _ _ _ n2,aa Tm,af]
   ·show eR (S.step (S.tab n)) _=_;simp only[eX,B.kS _ _ ha,al,kne k22 (show(22:Int)≠42 by decide),kne k22 (show(22:Int)≠1 by decide),kne k22 (show(22:Int)≠40 by decide),fG,B.tS _ _ hl,G.kdA hl,ab k22,fM,B.nS,h1,B.eS _ _ _ n2,aa Tm,af]
 by_cases k13:KA G.out a=13
 ·obtain⟨hl,hA⟩:=fE bf6 k13 hA ha;obtain⟨om,_,hA⟩:=my hA (by omega) (by decide);have Tm:=(my hA (by omega) (by decide)).2.1;obtain⟨uL,_,hA⟩:=my hA (by omega) (by decide);obtain⟨a2,m,mA,⟨p1,p2,p3,p4,p5⟩,fI,fS⟩:=hX (a+1+1+1) (by omega) nd (1001::r) (by omega) (by omega) hA
  have ad2:Evt λn=>kO (S.tab n) (G.tS,((a+1:Nat):Int),nd,())=U ([(tkA G.out (a+1)).2.2.2.2.2.1],(G.tS,((a+1+1:Nat):Int),nd,()),()):=by
   have h3:Evt λn=>∀t,jy (S.tab n) (G.tS,((a+1+1:Nat):Int),nd,()) t [(tkA G.out (a+1)).2.2.2.2.2.1]=U (an ((G.tS,((a+1+1:Nat):Int),nd,()),[(tkA G.out (a+1)).2.2.2.2.2.1],())):=G.base.up λn B t=>by
    show jy (S.step (S.tab n)) _ _ _=_;simp only[ql,B.eS (a+1+1) _ _ (show a+1+1<=_ by omega),kne Tm (show(47:Int)≠46 by decide),al,fG,af]
   exact(G.base.and h3).up λn ⟨B,h⟩=>by
    show kO (S.step (S.tab n)) _=_;simp only[xr,B.tS _ _ om,al,h,dH,aH]
  refine tZ G hl mA (by omega) p2 (by omega) hn p5 3 0 0 [(tkA G.out (a+1)).2.2.2.2.2.1] [(m:Int)] (by decide) ⟨λx hx=>by rw[cg.1 hx];exact G.X5 _,by simp⟩ (by simp) ((G.base.and fI).mono λn ⟨B,h1⟩=> ?_) (((G.base.and fS).and ad2).mono λn ⟨⟨B,h1⟩,h2⟩=> ?_)
  ·show dZ (S.step (S.tab n)) _=_;simp only[eE,B.kI _ _ ha,al,aa k22,fG,ab k13,fM,B.tI _ _ hl,B.tI _ _ om,B.tI _ _ uL,h1]
  ·show eR (S.step (S.tab n)) _=_;simp only[eX,B.kS _ _ ha,al,kne k13 (show(13:Int)≠42 by decide),kne k13 (show(13:Int)≠1 by decide),kne k13 (show(13:Int)≠40 by decide),fG,B.tS _ _ hl,G.kdA hl,aa k22,ab k13,fM,B.nS,h2,B.tS _ _ uL,h1]
 by_cases k18:KA G.out a=18
 ·obtain⟨hl,hA⟩:=fE bd0 k18 hA ha;obtain⟨om,_,hA⟩:=my hA (by omega) (by decide)
  have uL:a+1+1<G.out.length:=by
   have ht:=of_decide_eq_true (G.tab WO (a+1+1))
   by_cases hk:KA G.out (a+1+1)=40
   ·rw[ab hk]at ht;exact(fE ht rfl hA (by omega)).1
   ·rw[aa hk]at ht;exact(vl ht rfl hA (by omega)).elim
  obtain⟨a2,m,mA,⟨p1,p2,p3,p4,p5⟩,fI,fS⟩:=hF (a+1+1) (a+1+1) (by omega) nd (1001::r) uL (by omega) (by omega) hA;refine tZ G hl mA (by omega) p2 (by omega) hn p5 4 0 0 [(tkA G.out (a+1)).2.2.2.2.2.1] [(m:Int)] (by decide) ⟨λx hx=>by rw[cg.1 hx];exact G.X5 _,by simp⟩ (by simp) ((G.base.and fI).mono λn ⟨B,h1⟩=> ?_) ((G.base.and fS).mono λn ⟨B,h1⟩=> ?_)
  ·show dZ (S.step (S.tab n)) _=_;simp only[eE,B.kI _ _ ha,al,aa k22,aa k13,fG,ab k18,fM,B.tI _ _ hl,B.tI _ _ om,h1]
  ·show eR (S.step (S.tab n)) _=_;simp only[eX,B.kS _ _ ha,al,kne k18 (show(18:Int)≠42 by decide),kne k18 (show(18:Int)≠1 by decide),kne k18 (show(18:Int)≠40 by decide),fG,B.tS _ _ hl,G.kdA hl,aa k22,aa k13,ab k18,fM,B.nS,B.tS _ _ om];rw[c8 (Hi (a+1+1) (by omega)),G.aS _ uL,h1];rfl
 by_cases k20:KA G.out a=20
 ·obtain⟨hl,hA⟩:=fE bk6 k20 hA ha;obtain⟨a2,m,mA,⟨p1,p2,p3,p4,p5⟩,fI,fS⟩:=hC nd (1001::r) hl hn hA;refine⟨a2,m,mA,⟨p1,p2,p3,by omega,p5⟩,(G.base.and fI).up λn ⟨B,h⟩=> ?_,(G.base.and fS).up λn ⟨B,h⟩=> ?_⟩
  ·show dZ (S.step (S.tab n)) _=_;simp only[eE,B.kI _ _ ha,al,aa k22,aa k13,aa k18,fG,ab k20,fM,h]
  ·show eR (S.step (S.tab n)) _=_;simp only[eX,B.kS _ _ ha,al,kne k20 (show(20:Int)≠42 by decide),kne k20 (show(20:Int)≠1 by decide),kne k20 (show(20:Int)≠40 by decide),fG,B.tS _ _ hl,G.kdA hl,aa k22,aa k13,aa k18,ab k20,fM,h]
 by_cases k31:KA G.out a=31
 ·obtain⟨hl,hA⟩:=fE bj1 k31 hA ha;obtain⟨a1,m1,iQ,⟨n1,n2,n3,n4,n5⟩,eI,eS⟩:=hX (a+1) (by omega) nd _ (by omega) (by omega) hA;obtain⟨a2,m2,mA,⟨p1,p2,p3,p4,p5⟩,fI,fS⟩:=hB a1 (by omega) iQ (1001::r) n2 (by omega) n5;refine tZ G hl mA (by omega) p2 (by omega) hn p5 8 0 0 [] [(m1:Int),(m2:Int)] (by decide) ⟨(λ_ h=>nomatch h),by simp⟩ (by simp) (((G.base.and eI).and fI).mono λn ⟨⟨B,h1⟩,h2⟩=> ?_) (((G.base.and eS).and fS).mono λn ⟨⟨B,h1⟩,h2⟩=> ?_)
  ·show dZ (S.step (S.tab n)) _=_;simp only[eE,B.kI _ _ ha,al,aa k22,aa k13,aa k18,aa k20,fG,ab k31,fM,B.tI _ _ hl,h1,h2]
  ·show eR (S.step (S.tab n)) _=_;simp only[eX,B.kS _ _ ha,al,kne k31 (show(31:Int)≠42 by decide),kne k31 (show(31:Int)≠1 by decide),kne k31 (show(31:Int)≠40 by decide),fG,B.tS _ _ hl,G.kdA hl,aa k22,aa k13,aa k18,aa k20,ab k31,fM,B.nS,h1,h2]
 by_cases k19:KA G.out a=19
 ·obtain⟨hl,hA⟩:=fE bc7 k19 hA ha
  have hQ:Px G (λst=>st=1004::1001::r\/st=1006::21::1018::1027::1001::r):=λst a' e UH Ql hk=>by
   rcases e with rfl|rfl
   ·have ht:=(G.By a').2.2.2.2.1;rw[kne hk (show(46:Int)≠47 by decide),ab hk]at ht;obtain⟨hl,hA⟩:=fE ht rfl Ql UH;exact⟨hl,_, .inr rfl,hA⟩
   ·have ht:=of_decide_eq_true (G.tab HJ a');rw[ab hk]at ht;obtain⟨hl,hA⟩:=fE ht rfl Ql UH;exact⟨hl,_, .inr rfl,hA⟩
  obtain⟨a1,av3,ns,n1,n2,qc,n4,n5,Kh,eI,eS⟩:=Fy G hQ nd (show a+1<=_ by omega) (.inl rfl) hA
  have Kq:(KA G.out a1=47/\a1<G.out.length/\Ac G.out (1018::46::1018::1005::1027::1001::r) (a1+1))\/(KA G.out a1=21/\a1<G.out.length/\Ac G.out (1018::1027::1001::r) (a1+1)):=by
   rcases qc with rfl|rfl
   ·have ht:=(G.By a1).2.2.2.2.1
    by_cases q1:KA G.out a1=47
    ·rw[ab q1]at ht;obtain⟨hl,hA⟩:=fE ht rfl n4 n2;exact .inl ⟨q1,hl,hA⟩
    rw[aa q1,aa n5]at ht
    by_cases q2:KA G.out a1=21
    ·rw[ab q2]at ht;obtain⟨hl,hA⟩:=fE ht rfl n4 n2;exact .inr ⟨q2,hl,hA⟩
    rw[aa q2]at ht;exact(vl ht rfl n4 n2).elim
   ·have ht:=of_decide_eq_true (G.tab HJ a1);rw[aa n5]at ht;obtain⟨hl,h1,hA⟩:=my (jw ht rfl n4 n2) n2 (by decide);exact .inr ⟨h1,hl,hA⟩
  rcases Kq with⟨Tm,om,hA⟩|⟨k21,om,hA⟩
  ·have hQ:Tj G (λst=>st=46::1018::1005::1027::1001::r\/st=1005::1027::1001::r\/st=1027::1001::r):=λst a' e UH Ql hk=>by
    rcases e with rfl|rfl|rfl
    ·obtain⟨hl,_,hA⟩:=my Ql UH (by decide);exact⟨hl,_, .inr (.inl rfl),hA⟩
    ·have ht:=(G.By a').2.2.2.2.2;rw[ab hk]at ht;obtain⟨hl,hA⟩:=fE ht rfl Ql UH;exact⟨hl,_, .inr (.inr rfl),hA⟩
    ·have ht:=of_decide_eq_true (G.tab MZ a');rw[kne hk (show(46:Int)≠42 by decide)]at ht;exact(vl ht rfl Ql UH).elim
   obtain⟨a2,xs,mA,P7,p1,p2,p3,p4,p5,p6,p7,fI,fS⟩:=LP G hQ (λa' h=>hX a' (by omega)) (show a1+1<=_ by omega) (show W nd<=4*(a1+1)by omega) (.inl rfl) hA
   have hA:Ac G.out (1027::1001::r) a2:=by
    rcases p5 with rfl|rfl|rfl
    ·exact absurd (my p6 p2 (by decide)).2.1 p7
    ·have ht:=(G.By a2).2.2.2.2.2;rw[aa p7]at ht;exact jw ht rfl p6 p2
    ·exact p6
   obtain⟨a3,m,sE,⟨q1,q2,q3,q4,q5⟩,gI,gS⟩:=hB a2 (by omega) mA (1001::r) p2 (by omega) hA
   have bc8:Evt λn=>oe (S.tab (n+1)) (G.tS,((a+1:Nat):Int),nd,()) (tkA G.out a)=(dJ (S.tab n) (G.tS,(a3:Int),sE,()) (9,(tkA G.out a).2.1,0,(tkA G.out a).2.2.2.1,0,0,[],ns,xs++[(m:Int)],())).bind λd=>U (d.1,d.2.1,((),(),(),(),(),(),()),()):=
    (((G.base.and eS).and fS).and gS).mono λn ⟨⟨⟨B,h1⟩,h2⟩,h3⟩=>by
     show oe (S.step (S.tab n)) _ _=_;simp only[yK,h1,al,B.nS,B.tS _ _ om,G.kdA om,ab Tm,fM,h2,h3];rw[c8 (FV (by omega))]
   obtain⟨c,rfl⟩:∃c,a3=c+1:=⟨a3 - 1,by omega⟩;have hc:c<G.out.length:=(by omega);have HM:=mw (nd:=sE) (x:=(9,(tkA G.out a).2.1,(tkA G.out c).2.2.1,(tkA G.out a).2.2.2.1,0,0,[],ns,xs++[(m:Int)],())) (Y7 G (by decide) Kh.1 (by have:=Kh.2;omega) (by simp only[au,aw,ay];omega));refine⟨c+1,sE.length,sE++[(9,(tkA G.out a).2.1,(tkA G.out c).2.2.1,(tkA G.out a).2.2.2.1,0,0,[],ns,xs++[(m:Int)],())],⟨by omega,q2,by simp,by omega,q5⟩, ?_, ?_⟩
   ·refine(((G.base.and eI).and fI).and gI).up λn ⟨⟨⟨B,h1⟩,h2⟩,h3⟩=> ?_
    show dZ (S.step (S.tab n)) _=_;simp only[eE,B.kI _ _ ha,al,aa k22,aa k13,aa k18,aa k20,aa k31,fG,ab k19,fM,B.tI _ _ hl,h1,B.eI _ _ _ n2,ab Tm,ah,h2,h3];rw[c8 (FV (by omega)),B.cI _ _ _ _ hc hl (show sE.length<=300000 by have:=lL sE;omega)];rfl
   ·have ao7:Evt λn=>oe (S.tab n) (G.tS,((a+1:Nat):Int),nd,()) (tkA G.out a)=U ((sE.length:Int),(G.tS,((c+1:Nat):Int),sE++[(9,(tkA G.out a).2.1,(tkA G.out c).2.2.1,(tkA G.out a).2.2.2.1,0,0,[],ns,xs++[(m:Int)],())],()),((),(),(),(),(),(),()),()):=
     (G.base.and bc8).up λn ⟨B,h⟩=>by rw[h,B.aS _ _ _ hc (show sE.length<=300000 by have:=lL sE;omega)];rfl
    refine(G.base.and ao7).up λn ⟨B,h⟩=> ?_
    show eR (S.step (S.tab n)) _=_;simp only[eX,B.kS _ _ ha,al,kne k19 (show(19:Int)≠42 by decide),kne k19 (show(19:Int)≠1 by decide),kne k19 (show(19:Int)≠40 by decide),fG,B.tS _ _ hl,G.kdA hl,aa k22,aa k13,aa k18,aa k20,aa k31,ab k19,fM,h]
  ·have Tm:KA G.out a1≠47:=(by omega);obtain⟨a2,m1,mA,⟨p1,p2,p3,p4,p5⟩,fI,fS⟩:=hX (a1+1) (by omega) nd _ (by omega) (by omega) hA;obtain⟨a3,m,sE,⟨q1,q2,q3,q4,q5⟩,gI,gS⟩:=hB a2 (by omega) mA (1001::r) p2 (by omega) p5;obtain⟨c,rfl⟩:∃c,a3=c+1:=⟨a3 - 1,by omega⟩;have hc:c<G.out.length:=(by omega);have HM:=mw (nd:=sE) (x:=(10,(tkA G.out a).2.1,(tkA G.out c).2.2.1,(tkA G.out a).2.2.2.1,0,0,[],ns,[(m1:Int),(m:Int)],())) (Y7 G (by decide) Kh.1 (by have:=Kh.2;omega) (by simp));refine⟨c+1,sE.length,sE++[(10,(tkA G.out a).2.1,(tkA G.out c).2.2.1,(tkA G.out a).2.2.2.1,0,0,[],ns,[(m1:Int),(m:Int)],())],⟨by omega,q2,by simp,by omega,q5⟩, ?_, ?_⟩
   ·refine(((G.base.and eI).and fI).and gI).up λn ⟨⟨⟨B,h1⟩,h2⟩,h3⟩=> ?_
    show dZ (S.step (S.tab n)) _=_;simp only[eE,B.kI _ _ ha,al,aa k22,aa k13,aa k18,aa k20,aa k31,fG,ab k19,fM,B.tI _ _ hl,h1,B.eI _ _ _ n2,aa Tm,af,B.tI _ _ om,h2,h3,B.cI _ _ _ _ hc hl (show sE.length<=300000 by have:=lL sE;omega)];rfl
   ·have ao7:Evt λn=>oe (S.tab n) (G.tS,((a+1:Nat):Int),nd,()) (tkA G.out a)=U ((sE.length:Int),(G.tS,((c+1:Nat):Int),sE++[(10,(tkA G.out a).2.1,(tkA G.out c).2.2.1,(tkA G.out a).2.2.2.1,0,0,[],ns,[(m1:Int),(m:Int)],())],()),((),(),(),(),(),(),()),()):=
     (((G.base.and eS).and fS).and gS).up λn ⟨⟨⟨B,h1⟩,h2⟩,h3⟩=>by
      show oe (S.step (S.tab n)) _ _=_;simp only[yK,h1,al,B.nS,B.tS _ _ om,G.kdA om,aa Tm,fG,h2,h3];rw[c8 (by rfl),B.aS _ _ _ hc (show sE.length<=300000 by have:=lL sE;omega)];rfl
    refine(G.base.and ao7).up λn ⟨B,h⟩=> ?_
    show eR (S.step (S.tab n)) _=_;simp only[eX,B.kS _ _ ha,al,kne k19 (show(19:Int)≠42 by decide),kne k19 (show(19:Int)≠1 by decide),kne k19 (show(19:Int)≠40 by decide),fG,B.tS _ _ hl,G.kdA hl,aa k22,aa k13,aa k18,aa k20,aa k31,ab k19,fM,h]
 by_cases k11:KA G.out a=11
 ·obtain⟨hl,hA⟩:=fE be2 k11 hA ha;refine tZ G hl nd (Nat.lt_succ_self a) hl (by omega) hn hA 11 0 0 [] [] (by decide) ⟨(λ_ h=>nomatch h),by simp⟩ (by simp) (G.base.mono λn B=> ?_) (G.base.mono λn B=> ?_)
  ·show dZ (S.step (S.tab n)) _=_;simp only[eE,B.kI _ _ ha,al,aa k22,aa k13,aa k18,aa k20,aa k31,aa k19,fG,ab k11,fM,B.tI _ _ hl]
  ·show eR (S.step (S.tab n)) _=_;simp only[eX,B.kS _ _ ha,al,kne k11 (show(11:Int)≠42 by decide),kne k11 (show(11:Int)≠1 by decide),kne k11 (show(11:Int)≠40 by decide),fG,B.tS _ _ hl,G.kdA hl,aa k22,aa k13,aa k18,aa k20,aa k31,aa k19,ab k11,fM,B.nS]
 by_cases k23:KA G.out a=23
 ·obtain⟨hl,hA⟩:=fE bh3 k23 hA ha;refine tZ G hl nd (Nat.lt_succ_self a) hl (by omega) hn hA 12 0 0 [] [] (by decide) ⟨(λ_ h=>nomatch h),by simp⟩ (by simp) (G.base.mono λn B=> ?_) (G.base.mono λn B=> ?_)
  ·show dZ (S.step (S.tab n)) _=_;simp only[eE,B.kI _ _ ha,al,aa k22,aa k13,aa k18,aa k20,aa k31,aa k19,aa k11,fG,ab k23,fM,B.tI _ _ hl]
  ·show eR (S.step (S.tab n)) _=_;simp only[eX,B.kS _ _ ha,al,kne k23 (show(23:Int)≠42 by decide),kne k23 (show(23:Int)≠1 by decide),kne k23 (show(23:Int)≠40 by decide),fG,B.tS _ _ hl,G.kdA hl,aa k22,aa k13,aa k18,aa k20,aa k31,aa k19,aa k11,ab k23,fM,B.nS]
 by_cases k27:KA G.out a=27
 ·obtain⟨hl,hA⟩:=fE bi9 k27 hA ha;have ht:=of_decide_eq_true (G.tab aA6 (a+1))
  have hI:∀(n:Nat),PW G.out G.tI G.tS (S.tab n)->dZ (S.step (S.tab n)) (G.tI,(a:Int),nd,())=brk (mS (KA G.out (a+1))) ((gN (S.tab n) (G.tI,((a+1:Nat):Int),nd,())).bind λd=>(dt (S.tab n) d.2.1 ↑a (13,0,0,0,0,0,[],[],d.1,())).bind λd=>U (d.1,d.2.1,())) ((dt (S.tab n) (G.tI,((a+1:Nat):Int),nd,()) ↑a (13,0,0,0,0,0,[],[],[],())).bind λd=>U (d.1,d.2.1,())):=λn B=>by
   simp only[eE,B.kI _ _ ha,al,aa k22,aa k13,aa k18,aa k20,aa k31,aa k19,aa k11,aa k23,fG,ab k27,fM,B.tI _ _ hl,B.kI (a+1) _ hl,B.bI]
  have hS:∀(n:Nat),PW G.out G.tI G.tS (S.tab n)->eR (S.step (S.tab n)) (G.tS,(a:Int),nd,())=brk (mS (KA G.out (a+1))) ((jd (S.tab n) (G.tS,((a+1:Nat):Int),nd,())).bind λd=>(dJ (S.tab n) d.2.1 (13,(tkA G.out a).2.1,0,(tkA G.out a).2.2.2.1,0,0,[],[],d.1,())).bind λd=>U (d.1,d.2.1,())) ((dJ (S.tab n) (G.tS,((a+1:Nat):Int),nd,()) (13,(tkA G.out a).2.1,0,(tkA G.out a).2.2.2.1,0,0,[],[],[],())).bind λd=>U (d.1,d.2.1,())):=λn B=>by
   simp only[eX,B.kS _ _ ha,al,kne k27 (show(27:Int)≠42 by decide),kne k27 (show(27:Int)≠1 by decide),kne k27 (show(27:Int)≠40 by decide),fG,B.tS _ _ hl,G.kdA hl,aa k22,aa k13,aa k18,aa k20,aa k31,aa k19,aa k11,aa k23,ab k27,fM,B.nS,B.kS (a+1) _ hl,B.bS]
  cases hu:mS (KA G.out (a+1))with
  |true=>
   rw[hu]at ht;obtain⟨a2,xs,mA,p1,p2,p3,p4,p5,fI,fS⟩:=BQ G (λa' h=>hX a' (by omega)) nd (1001::r) (show a+1<=_ by omega) (by omega) (JW ht hA (by omega));refine tZ G hl mA (by omega) p2 (by omega) hn p5 13 0 0 [] xs (by decide) ⟨(λ_ h=>nomatch h),by simp⟩ (by omega) ((G.base.and fI).mono λn ⟨B,h⟩=> ?_) ((G.base.and fS).mono λn ⟨B,h⟩=> ?_)
   ·exact(hI n B).trans (by rw[hu,fM,h];rfl)
   ·exact(hS n B).trans (by rw[hu,fM,h];rfl)
  |false=>
   rw[hu]at ht;refine tZ G hl nd (Nat.lt_succ_self a) hl (by omega) hn (jw ht rfl hA (by omega)) 13 0 0 [] [] (by decide) ⟨(λ_ h=>nomatch h),by simp⟩ (by simp) (G.base.mono λn B=> ?_) (G.base.mono λn B=> ?_)
   ·exact(hI n B).trans (by rw[hu,fG])
   ·exact(hS n B).trans (by rw[hu,fG])
 by_cases k30:KA G.out a=30
 ·obtain⟨hl,hA⟩:=fE bc6 k30 hA ha;obtain⟨a1,m1,iQ,⟨n1,n2,n3,n4,n5⟩,eI,eS⟩:=hB (a+1) (by omega) nd _ (by omega) (by omega) hA;obtain⟨om,_,hA⟩:=my n5 n2 (by decide)
  have hQ:Px G (λst=>st=1008::1027::1001::r\/st=1027::1001::r):=λst a' e UH Ql hk=>by
   rcases e with rfl|rfl
   ·have ht:=(G.By a').2.2.1;rw[ab hk]at ht;obtain⟨hl,hA⟩:=fE ht rfl Ql UH;exact⟨hl,_, .inr rfl,hA⟩
   ·have ht:=of_decide_eq_true (G.tab MZ a');rw[kne hk (show(46:Int)≠42 by decide)]at ht;exact(vl ht rfl Ql UH).elim
  obtain⟨a2,P7,ns,p1,p2,qc,p4,p5,p6,fI,fS⟩:=Fy G hQ iQ (show a1+1<=_ by omega) (.inl rfl) hA
  have hA:Ac G.out (1027::1001::r) a2:=by
   rcases qc with rfl|rfl
   ·have ht:=(G.By a2).2.2.1;rw[aa p5]at ht;exact jw ht rfl p4 p2
   ·exact p4
  obtain⟨a3,m,sE,⟨q1,q2,q3,q4,q5⟩,gI,gS⟩:=hB a2 (by omega) iQ (1001::r) p2 (by omega) hA;refine tZ G hl sE (by omega) q2 (by omega) hn q5 14 0 0 ns [(m1:Int),(m:Int)] (by decide) (p6.up (by omega)) (by simp) ((((G.base.and eI).and fI).and gI).mono λn ⟨⟨⟨B,h1⟩,h2⟩,h3⟩=> ?_) ((((G.base.and eS).and fS).and gS).mono λn ⟨⟨⟨B,h1⟩,h2⟩,h3⟩=> ?_)
  ·show dZ (S.step (S.tab n)) _=_;simp only[eE,B.kI _ _ ha,al,aa k22,aa k13,aa k18,aa k20,aa k31,aa k19,aa k11,aa k23,aa k27,fG,ab k30,fM,B.tI _ _ hl,h1,B.tI _ _ om,h2,h3]
  ·show eR (S.step (S.tab n)) _=_;simp only[eX,B.kS _ _ ha,al,kne k30 (show(30:Int)≠42 by decide),kne k30 (show(30:Int)≠1 by decide),kne k30 (show(30:Int)≠40 by decide),fG,B.tS _ _ hl,G.kdA hl,aa k22,aa k13,aa k18,aa k20,aa k31,aa k19,aa k11,aa k23,aa k27,ab k30,fM,h1,B.tS _ _ om,B.nS,h2,h3]
 by_cases k28:KA G.out a=28
 ·obtain⟨hl,hA⟩:=fE bk9 k28 hA ha;obtain⟨a1,m1,iQ,⟨n1,n2,n3,n4,n5⟩,eI,eS⟩:=hX (a+1) (by omega) nd _ (by omega) (by omega) hA;obtain⟨c,rfl⟩:∃c,a1=c+1:=⟨a1 - 1,by omega⟩;have hc:c<G.out.length:=(by omega);have HM:=mw (nd:=iQ) (x:=(15,(tkA G.out a).2.1,(tkA G.out c).2.2.1,(tkA G.out a).2.2.2.1,0,0,[],[],[(m1:Int)],())) (Aw G (by decide) (by simp));refine⟨c+1,iQ.length,iQ++[(15,(tkA G.out a).2.1,(tkA G.out c).2.2.1,(tkA G.out a).2.2.2.1,0,0,[],[],[(m1:Int)],())],⟨by omega,n2,by simp,by omega,n5⟩, ?_, ?_⟩
  ·refine(G.base.and eI).up λn ⟨B,h1⟩=> ?_
   show dZ (S.step (S.tab n)) _=_;simp only[eE,B.kI _ _ ha,al,aa k22,aa k13,aa k18,aa k20,aa k31,aa k19,aa k11,aa k23,aa k27,aa k30,fG,ab k28,fM,B.tI _ _ hl,h1,B.cI _ _ _ _ hc hl (show iQ.length<=300000 by have:=lL iQ;omega)];rfl
  ·have hj:Evt λn=>kK (S.tab n) (G.tS,((a+1:Nat):Int),nd,()) (tkA G.out a) 15=U (an ((G.tS,((c+1:Nat):Int),iQ++[(15,(tkA G.out a).2.1,(tkA G.out c).2.2.1,(tkA G.out a).2.2.2.1,0,0,[],[],[(m1:Int)],())],()),(iQ.length:Int),())):=(G.base.and eS).up λn ⟨B,h1⟩=>by
    show kK (S.step (S.tab n)) _ _ _=_;simp only[ug,B.nS,al,G.kdA hl,kne k28 (show(28:Int)≠14 by decide),fG,h1,B.aS _ _ _ hc (show iQ.length<=300000 by have:=lL iQ;omega)]
   refine(G.base.and hj).up λn ⟨B,h1⟩=> ?_
   show eR (S.step (S.tab n)) _=_;simp only[eX,B.kS _ _ ha,al,kne k28 (show(28:Int)≠42 by decide),kne k28 (show(28:Int)≠1 by decide),kne k28 (show(28:Int)≠40 by decide),kne k28 (show(28:Int)≠14 by decide),fG,B.tS _ _ hl,G.kdA hl,aa k22,aa k13,aa k18,aa k20,aa k31,aa k19,aa k11,aa k23,aa k27,aa k30,h1,dH,aH]
 by_cases k14:KA G.out a=14
 ·obtain⟨hl,hA⟩:=fE be7 k14 hA ha;have ht:=(G.By (a+1)).2.2.2.1
  have ZS:a+1<G.out.length/\((KA G.out (a+1)=1/\Ac G.out (1016::1001::r) (a+1+1))\/(KA G.out (a+1)=40/\Ac G.out (1018::41::1016::1001::r) (a+1+1))):=by
   by_cases q1:KA G.out (a+1)=1
   ·rw[ab q1]at ht;obtain⟨hl,hA⟩:=fE ht rfl hA (by omega);exact⟨hl, .inl ⟨q1,hA⟩⟩
   rw[aa q1]at ht
   by_cases q2:KA G.out (a+1)=40
   ·rw[ab q2]at ht;obtain⟨hl,hA⟩:=fE ht rfl hA (by omega);exact⟨hl, .inr ⟨q2,hA⟩⟩
   rw[aa q2]at ht;exact(vl ht rfl hA (by omega)).elim
  obtain⟨a1,m1,iQ,s1,N1,⟨n1,n2,n3,n4,n5⟩,Tq,eI,eS⟩:=HG G aQ6 (λa' h=>hX a' (by omega)) nd (1001::r) 1016 (by simp) ZS.1 (by omega) ZS.2
  have hA:Ac G.out (1001::r) a1:=by
   have ht:=G.tab WX a1;rw[G.al5 Tq]at ht;simp only[bH,aA,ad]at ht;simp only[bA,List.not_mem_nil,or_false]at N1
   rcases N1 with rfl|rfl
   ·exact(vl ht.2.2.1 rfl n5 n2).elim
   ·exact jw ht.2.2.2 rfl n5 n2
  obtain⟨c,rfl⟩:∃c,a1=c+1:=⟨a1 - 1,by omega⟩;have hc:c<G.out.length:=(by omega);have HM:=mw (nd:=iQ) (x:=(16,(tkA G.out a).2.1,(tkA G.out c).2.2.1,(tkA G.out a).2.2.2.1,0,0,[],[],[(m1:Int)],())) (Aw G (by decide) (by simp));refine⟨c+1,iQ.length,iQ++[(16,(tkA G.out a).2.1,(tkA G.out c).2.2.1,(tkA G.out a).2.2.2.1,0,0,[],[],[(m1:Int)],())],⟨by omega,n2,by simp,by omega,hA⟩, ?_, ?_⟩
  ·refine(G.base.and eI).up λn ⟨B,h1⟩=> ?_
   show dZ (S.step (S.tab n)) _=_;simp only[eE,B.kI _ _ ha,al,aa k22,aa k13,aa k18,aa k20,aa k31,aa k19,aa k11,aa k23,aa k27,aa k30,aa k28,fG,ab k14,fM,B.tI _ _ hl,h1,B.cI _ _ _ _ hc hl (show iQ.length<=300000 by have:=lL iQ;omega)];rfl
  ·have hj:Evt λn=>kK (S.tab n) (G.tS,((a+1:Nat):Int),nd,()) (tkA G.out a) 16=U (an ((G.tS,((c+1:Nat):Int),iQ++[(16,(tkA G.out a).2.1,(tkA G.out c).2.2.1,(tkA G.out a).2.2.2.1,0,0,[],[],[(m1:Int)],())],()),(iQ.length:Int),())):=(G.base.and eS).up λn ⟨B,h1⟩=>by
    show kK (S.step (S.tab n)) _ _ _=_;simp only[ug,B.nS,al,G.kdA hl,ab k14,fM,h1,B.aS _ _ _ hc (show iQ.length<=300000 by have:=lL iQ;omega)]
   refine(G.base.and hj).up λn ⟨B,h1⟩=> ?_
   show eR (S.step (S.tab n)) _=_;simp only[eX,B.kS _ _ ha,al,kne k14 (show(14:Int)≠42 by decide),kne k14 (show(14:Int)≠1 by decide),kne k14 (show(14:Int)≠40 by decide),fG,B.tS _ _ hl,G.kdA hl,aa k22,aa k13,aa k18,aa k20,aa k31,aa k19,aa k11,aa k23,aa k27,aa k30,ab k14,fM,h1,dH,aH]
 by_cases k42:KA G.out a=42
 ·have hA:Ac G.out (1027::([1001]++r)) a:=by rw[<-k42]at ba1;exact JW ba1 hA ha
  obtain⟨a2,m,mA,⟨p1,p2,p3,p4,p5⟩,fI,fS⟩:=ZM nd (1001::r) ha hn hA;refine⟨a2,m,mA,⟨p1,p2,p3,by omega,p5⟩,(G.base.and fI).up λn ⟨B,h⟩=> ?_,(G.base.and fS).up λn ⟨B,h⟩=> ?_⟩
  ·show dZ (S.step (S.tab n)) _=_;simp only[eE,B.kI _ _ ha,al,aa k22,aa k13,aa k18,aa k20,aa k31,aa k19,aa k11,aa k23,aa k27,aa k30,aa k28,aa k14,fG,ab k42,fM,h]
  ·show eR (S.step (S.tab n)) _=_;simp only[eX,B.kS _ _ ha,al,ab k42,fM,h]
 by_cases k1:KA G.out a=1
 ·obtain⟨hl,hA⟩:=fE s1 k1 hA ha;exact BY G hX hr hl hn (by simp) (.inl ⟨k1,hA⟩)
 by_cases NX:KA G.out a=40
 ·obtain⟨hl,hA⟩:=fE be9 NX hA ha;exact BY G hX hr hl hn (s0:=1011) (by simp) (.inr ⟨NX,hA⟩)
 exfalso
 have ht:=G.tab YJ a;rw[aa k22,aa k13,aa k18,aa k20,aa k31,aa k19,aa k11,aa k23,aa k27,aa k30,aa k28,aa k14,aa k42,aa k1,aa NX,aa h5]at ht
 rcases Sm G hr ha (jw (of_decide_eq_true ht) rfl hA ha)with h|h
 all_goals omega
end Go.Abs.D
end

section
namespace Go.Abs.D
variable(G:Toks)
def Nr:stI 1000 43= .gone/\stI 1000 6= .gone:=⟨by kernel_rfl,by kernel_rfl⟩
def aQ5 (nd:List Node) (u) (hu:u≠5)(r:LI):∀d a q xs,G.out.length<a+d->a<=G.out.length->(q=1000\/q=1001)->Ac G.out (q::r) a->
  ∃a1 q1,a<=a1/\a1<=G.out.length/\(q1=1000\/q1=1001)/\Ac G.out (q1::r) a1/\KA G.out a1≠5/\
   (Evt λn=>kf (S.tab n) (G.tI,a,nd,()) xs=U (an ((G.tI,(a1:Int),nd,()),xs,())))/\
   ∀X,(Evt λn=>gM (S.tab n) (G.tS,a1,nd,()) u xs=U X)->Evt λn=>gM (S.tab n) (G.tS,a,nd,()) u xs=U X:=by
 intro d
 induction d with
 |zero=>omega
 |succ d ih=>
  intro a q xs hd ha hq hA
  by_cases hk:KA G.out a=5
  ·have hA:a<G.out.length/\Ac G.out (1000::r) (a+1):=by
    rcases hq with rfl|rfl
    ·exact fE Wb.2.2.2.2.2.2.2.2.2.2.2.2.2.2.2 hk hA ha
    ·have ht:=(G.By a).1;rw[ab hk]at ht;exact fE ht rfl hA ha
   obtain⟨a1,q1,p1,p2,p3,p4,p5,pI,pS⟩:=ih (a+1) 1000 xs (by omega) (by omega) (.inl rfl) hA.2;refine⟨a1,q1,by omega,p2,p3,p4,p5,(G.base.and pI).up λn ⟨B,h⟩=> ?_,λX hX=>(G.base.and (pS X hX)).up λn ⟨B,h⟩=> ?_⟩
   ·show kf (S.step (S.tab n)) _ _=_;simp only[se,B.eI _ _ _ ha,ab hk,al,fM,ah,h]
   ·show gM (S.step (S.tab n)) _ _ _=_;simp only[qk,B.kS _ _ ha,al,kne hk (show 5≠u from λe=>hu e.symm),bC,fM,B.eS _ _ _ ha,ab hk,ah,h]
  ·refine⟨a,q,aF _,ha,hq,hA,hk,G.base.up λn B=> ?_,λX hX=>hX⟩;show kf (S.step (S.tab n)) _ _=_;simp only[se,B.eI _ _ _ ha,aa hk,al,fG,af]
def IL (u) (r:LI)(aP4:(u=43/\∃r',r=43::r')\/(u=6/\r=[])) (a0) (hS:∀a,a0<=a->JS G a):∀d a q xs nd,G.out.length<a+d->a0<=a->a<=G.out.length->xs.length<=a->W nd<=4*a->(q=1000\/q=1001)->Ac G.out (q::r) a->
  ∃a' XY lX,a<=a'/\a'<=G.out.length/\Ac G.out r a'/\(XY.length<=a'/\W lX+4*a<=W nd+4*a')/\
   (Evt λn=>hY (S.tab n) (G.tI,a,nd,()) xs=U (an ((G.tI,(a':Int),lX,()),XY,())))/\
   Evt λn=>gM (S.tab n) (G.tS,a,nd,()) u xs=U (an ((G.tS,(a':Int),lX,()),XY,())):=by
 have hr:rOk r:=aP4.elim (λh=> .inr h.2) λh=> .inl h.2
 have bj3:u≠5:=(by omega)
 have aw2:∀a,a<=G.out.length->Ac G.out r a->KA G.out a=u:=λa ha hA=>by
  rcases aP4 with⟨rfl,r',rfl⟩|⟨rfl,rfl⟩
  ·exact(my hA ha (by decide)).2.1
  simp_all[Rv]
 intro d
 induction d with
 |zero=>omega
 |succ d ih=>
  intro a q xs nd hd h0 ha hx hn hq hA;have hL:=G.len;obtain⟨a1,q1,p1,p2,p3,p4,p5,pI,pS⟩:=aQ5 G nd u bj3 r (G.out.length+1) a q xs (by omega) ha hq hA
  by_cases hk:KA G.out a1=u
  ·have hA:Ac G.out r a1:=by
    rcases p3 with rfl|rfl
    ·rcases aP4 with⟨rfl,_⟩|⟨rfl,_⟩
     ·exact jw Nr.1 hk p4 p2
     ·exact jw Nr.2 hk p4 p2
    ·have ht:=(G.By a1).1;rw[aa p5]at ht;exact jw ht rfl p4 p2
   refine⟨a1,xs,nd,p1,p2,hA,⟨by omega,by omega⟩,(G.base.and pI).up λn ⟨B,h⟩=> ?_,pS _ (G.base.up λn B=> ?_)⟩
   ·show hY (S.step (S.tab n)) _ _=_;simp only[qf,h,al,dH,aH,B.kI _ _ p2]
    rcases aP4 with⟨rfl,_⟩|⟨rfl,_⟩
    ·simp only[ab hk,fM]
    ·simp only[kne hk (show 6≠43 by decide),ab hk,fG,fM]
   ·show gM (S.step (S.tab n)) _ _ _=_;simp only[qk,B.kS _ _ p2,al,ab hk,bM,fG]
  ·have bb1:q1=1000:=by
    rcases p3 with h|rfl
    ·exact h
    ·have ht:=(G.By a1).1;rw[aa p5]at ht;exact absurd (aw2 _ p2 (jw ht rfl p4 p2)) hk
   subst bb1
   have a69:KA G.out a1≠43:=λe=>hk (aw2 _ p2 (jw Nr.1 e p4 p2))
   have k6:KA G.out a1≠6:=λe=>hk (aw2 _ p2 (jw Nr.2 e p4 p2))
   obtain⟨a2,m,mA,⟨n1,n2,n3,n4,n5⟩,eI,eS⟩:=hS a1 (by omega) nd r hr p2 (by omega) p4 p5 a69 k6;obtain⟨a3,bh0,sE,q1,q2,q3,q4,qI,qS⟩:=ih a2 1001 (xs++[(m:Int)]) mA (by omega) (by omega) n2 (by simp;omega) (by omega) (.inr rfl) n5;refine⟨a3,bh0,sE,by omega,q2,q3,⟨q4.1,by omega⟩,(((G.base.and pI).and eI).and qI).up λn ⟨⟨⟨B,h1⟩,h2⟩,h3⟩=> ?_,pS _ (((G.base.and eS).and qS).up λn ⟨⟨B,h2⟩,h3⟩=> ?_)⟩
   ·show hY (S.step (S.tab n)) _ _=_;simp only[qf,h1,al,dH,aH,B.kI _ _ p2,aa a69,aa k6,fG,h2];rw[c8 (FV (by omega))];exact h3
   ·show gM (S.step (S.tab n)) _ _ _=_;simp only[qk,B.kS _ _ p2,al,aa hk,bC,fM,B.eS _ _ _ p2,aa p5,af,fG,h2];rw[c8 (FV (by omega))];exact h3
def Vo (hS:∀a',a<=a'->JS G a'):JT G a:=by
 intro nd r ha hn hA;obtain⟨a',xs,lX,p1,p2,p3,p4,pI,pS⟩:=IL G 43 (43::r) (.inl ⟨rfl,r,rfl⟩) a hS (G.out.length+1) a 1000 [] nd (by omega) (aF _) ha (by simp) hn (.inl rfl) hA;obtain⟨hl,_,hA⟩:=my p3 p2 (by decide);refine⟨a',xs,lX,p1,hl,hA,p4,pI.up λn h=> ?_,pS.up λn h=> ?_⟩
 ·show jB (S.step (S.tab n)) _=_;simp[um,h,dH]
 ·show lQ (S.step (S.tab n)) _ _=_;simp[xt,h,dH]
structure All (a:Nat):Prop where
 x:JX G a
 e:JE G a
 u:JN G fz gQ [1020] a
 b:JB G a
 c:JC G a
 f:∀b,JF G b a
 s:JS G a
def ah0:∀d a,G.out.length<a+d->All G a:=by
 intro d
 induction d with
 |zero=>
  intro a h;exact⟨λnd r h2=>by omega,λl l' nd r _ h2=>by omega,λnd r h2=>by omega,λnd r h2=>by omega,λnd r h2=>by omega,λb nd r _ h2=>by omega,λnd r _ h2=>by omega⟩
 |succ d ih=>
  intro a h
  have IH:∀a',a<a'->All G a':=λa' h'=>ih a' (by omega)
  have hX:∀a',a<a'->JX G a':=λa' h=>(IH a' h).x
  have hB:∀a',a<a'->JB G a':=λa' h=>(IH a' h).b
  have u:=Y4 G hX (IH (a+1) (by omega)).u (λa' h=>(IH a' h).f a);have e:=VX G u (λa' h=>(IH a' h).e);have b:JB G a:=Ue G (Vo G λa' h=>(IH a' (by omega)).s);have c:=TW G hX hB (λa' h=>(IH a' h).c);exact⟨YI G e,e,u,b,c,λb=>Vm G hB,VS G hX hB b c λb a' h=>(IH a' h).f b⟩
theorem w0:W []=0:=by rfl
def QL (hA:Ac G.out [1000] 0):∃(xs:LI)(nd:List Node),xs.length<=65536/\nd.length<=4*G.out.length/\(∀x∈nd,Bu x)/\
  (Evt λn=>jB (S.tab n) (G.tI,0,[],())=U (xs,(G.tI,(G.out.length:Int),nd,()),()))/\
  Evt λn=>lQ (S.tab n) (G.tS,0,[],()) 6=U (xs,(G.tS,(G.out.length:Int),nd,()),(),()):=by
 obtain⟨a',xs,lX,p1,p2,p3,p4,pI,pS⟩:=IL G 6 [] (.inr ⟨rfl,rfl⟩) 0 (λa _=>(ah0 G (G.out.length+1) a (by omega)).s) (G.out.length+1) 0 1000 [] [] (by omega) (aF _) (aU _) (by simp) (by grind [w0]) (.inl rfl) hA;obtain rfl:=(Rv p2 p3).1;have hL:=G.len;rw[w0]at p4;refine⟨xs,lX,by omega,by grind [lL],aS3 (by omega),pI.up λn h=> ?_,pS.up λn h=> ?_⟩
 ·show jB (S.step (S.tab n)) _=_;simp_all[hY,um,dH]
 ·show lQ (S.step (S.tab n)) _ _=_;simp_all[gM,xt,dH]
end Go.Abs.D
end

section
namespace Go.Abs.D
variable{ns:List cZ.den}{i:Nat}{x:cZ.den}(hx:NodeOk x)(hi:i<ns.length)(hn:ns.length<=3000)
theorem ak7 (t:Tr)(x:cZ.den) (ks) (z:Int)(hz:x.2.2.2.2.2.1=z)(hl:ks.length<=200)(aH1:1<=z->z<=ks.length->dY T t x z ks.length=U (EX ks z.toNat ks.length,gr))
  (a34:1<=z->z<=ks.length->gK T t x ks.length 0=U (bif(eV ks 0 z.toNat).all jv then aE (an (t,x,(ks.length:Int),()))else an (aq,()))):
  brk (z<1) (U (aq,du)) (brk (ks.length<=z) (U (aq,du)) ((gK T t x ks.length 0).bind (ep (λzi=>U (zi.1,du)) λzi=>(dY T zi.1 zi.2.1 zi.2.1.2.2.2.2.2.1 zi.2.2.1).bind λd112=>U (d112.1,du))))=
   U (av&&(1<=z&&(z<ks.length&&((eV ks 0 z.toNat).all jv&&EX ks z.toNat ks.length))),du):=by
 by_cases h1:1<=z
 ·rw[db (by omega),ab h1]
  by_cases h2:z<ks.length
  ·rw[db (by omega),ab h2,a34 h1 (by omega)]
   cases(eV ks 0 z.toNat).all jv with
   |true=>
    simp[ep]
    grind
   |false=>rfl
  simp_all[c8,ab,aa]
 simp_all[c8,ab,aa]
theorem aT3 (h:SF T t x ks names op num text):iX (S.step T) t x ks.length=U (an (bif(x.1=15)then PL aq aq aq aq names.length op num text&&((ks.length:Int)=1&&EX ks 0 1)else aq,())):=by
 rw[yn]
 by_cases k:x.1=15
 ·rw[dn k,ab k,ah,h.pl];simp
  cases PL aq aq aq aq names.length op num text with
  |false=>rw[gH];rfl
  |true=>
   rw[ix]
   by_cases h1:ks.length=1
   ·rw[dn (by omega),h.He (by omega),ab (show(ks.length:Int)=1 by omega)];rfl
   grind [dz,aa]
 simp_all[dz,aa]
theorem aQ8 (h:SF T t x ks names op num text):gw (S.step T) t x ks.length=U (an (bif(x.1=42)then((ks.length:Int)=1)&&(EX ks 0 1&&(PL aq aq aq av names.length op num text&&jS 1 text))else aq,())):=by
 rw[xW]
 by_cases k:x.1=42
 ·rw[dn k,ab k,ah]
  by_cases h1:ks.length=1
  ·rw[dn (by omega),h.He (by omega),ab (show(ks.length:Int)=1 by omega)];simp[h.pl]
   cases EX ks 0 1 with
   |false=>rw[gH];rfl
   |true=>
    rw[ix]
    cases PL aq aq aq av names.length op num text with
    |false=>rw[gH];rfl
    |true=>
     rw[ix,h.Qa,h.gn];rfl
  grind [dz,aa]
 simp_all[dz,aa]
def J5 (t:Tr)(x:cZ.den)(ks:LI)(y:AnS):Prop:=(∃b,y=an (b,()))\/y=aE (an (t,x,(ks.length:Int),()))
def pY (ha:J5 t x ks a)(hb:J5 t x ks b):J5 t x ks (bif c then a else b):=by grind
def uV (b):J5 t x ks (an (b,())):= .inl ⟨b,rfl⟩
def WI:J5 t x ks (aE (an (t,x,ks.length,()))):= .inr rfl
section
variable{t:Tr}{ks:LI}{names:List LI}{op num:Int}{text:LI}{kind:Int}
def Wv (fl):J5 t x ks (Q18 t x ks names op num text kind fl):=by
 repeat refine pY (uV _) ?_
 exact WI
theorem az1 (fl):J5 t x ks (Q7 t x ks names op num text kind fl):=by
 exact pY (uV _) (pY (uV _) (pY (uV _) (pY (uV _) (pY (uV _) (pY (Wv _) (Wv _))))))
def Wo (fl):J5 t x ks (Q41 t x ks names op num text kind fl):=by
 repeat refine pY (uV _) ?_
 exact WI
def Wh (fl):J5 t x ks (Q28 t x ks names op num text kind fl):=by
 exact pY (uV _) (pY (uV _) (pY (uV _) (pY (uV _) (pY (uV _) (pY (Wo _) (Wo _))))))
end
section
variable(hk:∀k∈cX x,0<=k/\k<(ns.length:Int))(hl:(cX x).length<=200)
include hx hk hl
def KV:Evt λn=>pX (S.tab n) (ns,()) x=U (KE (ns,()) x (da ns x) (df x) x.2.2.2.2.1 x.2.2.2.2.2.1 x.2.2.2.2.2.2.1 x.1,du):=by
 have Ld:(da ns x).length<=200:=by simp_all[da,cH]
 have Zz:=Z6 hk hl hx.nn
 have aq1:Evt λn=>∀fl,jM (S.tab n) (ns,()) x ((da ns x).length) x.1 fl=U (Q18 (ns,()) x (da ns x) (df x) x.2.2.2.2.1 x.2.2.2.2.2.1 x.2.2.2.2.2.2.1 x.1 fl):=Zz.up λn h fl=>q18 h Ld x.1 fl
 have h7:Evt λn=>∀fl,iY (S.tab n) (ns,()) x ((da ns x).length) x.1 fl=U (Q7 (ns,()) x (da ns x) (df x) x.2.2.2.2.1 x.2.2.2.2.2.1 x.2.2.2.2.2.2.1 x.1 fl):=(Zz.and aq1).up λn ⟨h,h'⟩ fl=>q7 h Ld x.1 h' fl
 have Lg:Evt λn=>gw (S.tab n) (ns,()) x ((da ns x).length)=_:=Zz.up λn h=>aQ8 h
 refine((h7.and Lg).and Zz).up λn ⟨⟨h7,Lg⟩,hF⟩=> ?_
 have hlen:x.2.2.2.2.2.2.2.2.1.length=((da ns x).length):=(by rw[hF.UC])
 have fin:∀y:AnS,J5 (ns,()) x (da ns x) y->((U y).bind (ep (λy7=>U (y7.1,du)) λy7=>(gw (S.tab n) y7.1 y7.2.1 y7.2.2.1).bind (dH λnj=>U (nj.1,du))))=U (An2 y (bif(x.1=42)then(((da ns x).length:Int)=1)&&(EX (da ns x) 0 1&&(PL aq aq aq av ((df x).length) x.2.2.2.2.1 x.2.2.2.2.2.1 x.2.2.2.2.2.2.1&&jS 1 x.2.2.2.2.2.2.1))else aq),du):=λy hy=>by
  rcases hy with⟨b,rfl⟩|rfl
  ·rfl
  ·show(gw (S.tab n) (ns,()) x ((da ns x).length)).bind _=_;rw[Lg];rfl
 rw[AQ];unfold KE
 grind [c8,ab,az1,dz,aa]
theorem Mz:Evt λn=>qL (S.tab n) (ns,()) x=U (KS (ns,()) x (da ns x) (df x) x.2.2.2.2.1 x.2.2.2.2.2.1 x.2.2.2.2.2.2.1 x.1,du):=by
 have Ld:(da ns x).length<=200:=by unfold da;rw[cH];exact hl
 have Zz:=Z6 hk hl hx.nn
 have Ks:Evt λn=>∀fl,kh (S.tab n) (ns,()) x ((da ns x).length) x.1 fl=U (Q41 (ns,()) x (da ns x) (df x) x.2.2.2.2.1 x.2.2.2.2.2.1 x.2.2.2.2.2.2.1 x.1 fl):=Zz.up λn h fl=>q41 h Ld x.1 fl
 have uJ:Evt λn=>∀fl,lO (S.tab n) (ns,()) x ((da ns x).length) x.1 fl=U (Q28 (ns,()) x (da ns x) (df x) x.2.2.2.2.1 x.2.2.2.2.2.1 x.2.2.2.2.2.2.1 x.1 fl):=(Zz.and Ks).up λn ⟨h,h'⟩ fl=>q28 h Ld x.1 h' fl
 have Lg:Evt λn=>iX (S.tab n) (ns,()) x ((da ns x).length)=_:=Zz.up λn h=>aT3 h
 refine((uJ.and Lg).and Zz).up λn ⟨⟨uJ,Lg⟩,hF⟩=> ?_
 have hlen:x.2.2.2.2.2.2.2.2.1.length=((da ns x).length):=(by rw[hF.UC])
 have fin:∀y:AnS,J5 (ns,()) x (da ns x) y->((U y).bind (ep (λL6=>U (L6.1,du)) λL6=>(iX (S.tab n) L6.1 L6.2.1 L6.2.2.1).bind (dH λnj=>U (nj.1,du))))=U (An2 y (bif(x.1=15)then PL aq aq aq aq ((df x).length) x.2.2.2.2.1 x.2.2.2.2.2.1 x.2.2.2.2.2.2.1&&(((da ns x).length:Int)=1&&EX (da ns x) 0 1)else aq),du):=λy hy=>by
  rcases hy with⟨b,rfl⟩|rfl
  ·rfl
  ·show(iX (S.tab n) (ns,()) x ((da ns x).length)).bind _=_;rw[Lg];rfl
 rw[Ck];rw[hlen];unfold KS
 by_cases k1:x.1=1
 ·rw[dn k1,ab k1,hF.l5]
  cases(da ns x).all gB with
  |true=>simp[ep,hF.pl]
  |false=>rfl
 rw[db k1,aa k1,af]
 by_cases k2:x.1=2
 ·rw[dn k2,ab k2,ah,hF.pl,hF.nm,hF.Kc];simp
  cases PL av aq aq aq ((df x).length) x.2.2.2.2.1 x.2.2.2.2.2.1 x.2.2.2.2.2.2.1 with
  |false=>rw[gH];rfl
  |true=>
   rw[ix]
   cases NM (df x) 1 200 with
   |false=>rw[gH];rfl
   |true=>rw[ix];rfl
 rw[db k2,aa k2,af]
 by_cases k3:x.1=3
 ·rw[dn k3,ab k3,ah,hF.pl,hF.nm];simp
  cases PL av aq aq aq ((df x).length) x.2.2.2.2.1 x.2.2.2.2.2.1 x.2.2.2.2.2.2.1 with
  |false=>rw[gH];rfl
  |true=>
   rw[ix]
   cases NM (df x) 1 1 with
   |false=>rw[gH];rfl
   |true=>
    rw[ix]
    by_cases h1:(da ns x).length=1
    ·rw[dn (by omega),hF.He (by omega),ab (show((da ns x).length:Int)=1 by omega)];rfl
    ·rw[db (by omega),aa (show¬ ((da ns x).length:Int)=1 by omega)];rfl
 rw[db k3,aa k3,af]
 by_cases k4:x.1=4
 ·rw[dn k4,ab k4,ah,hF.pl,hF.nm];simp
  cases PL av aq aq aq ((df x).length) x.2.2.2.2.1 x.2.2.2.2.2.1 x.2.2.2.2.2.2.1 with
  |false=>rw[gH];rfl
  |true=>
   rw[ix]
   cases NM (df x) 1 1 with
   |false=>rw[gH];rfl
   |true=>
    rw[ix]
    by_cases h1:(da ns x).length=1
    ·rw[dn (by omega),hF.k0 (by omega),ab (show((da ns x).length:Int)=1 by omega)];rfl
    ·rw[db (by omega),aa (show¬ ((da ns x).length:Int)=1 by omega)];rfl
 rw[db k4,aa k4,af]
 by_cases k5:x.1=5
 ·rw[dn k5,ab k5,ah,hF.pl];simp
  cases PL aq aq av aq ((df x).length) x.2.2.2.2.1 x.2.2.2.2.2.1 x.2.2.2.2.2.2.1 with
  |false=>rw[c8 (by rfl)];rfl
  |true=>
   rw[dz (by rfl)];exact ak7 (ns,()) x (da ns x) x.2.2.2.2.2.1 rfl Ld hF.aH1 hF.a34
 rw[db k5,aa k5,af]
 by_cases k6:x.1=6
 ·rw[dn k6,ab k6,ah,uJ];exact fin _ (Wh _)
 ·rw[db k6,aa k6,af,uJ];exact fin _ (Wh _)
end
include hx hi
def HQ (a95:ns[i]=x):Evt λn=>lH (S.tab n) (ns,()) i=U (okN ns i x,dB):=by
 have L7:at_ (τ:=cZ) ((ns,())).1 i=x:=by
  simp_all[at_,cZ,vH]
 have start:∀n,lH (S.step (S.tab n)) (ns,()) i=_:=λn=>by
  rw[E9,c8 (dm hi),L7]
 unfold okN
 by_cases c1:x.2.1<0
 ·refine dF.up λn _=> ?_
  simp_all[start,c8,ab]
 by_cases c2:x.2.2.1<x.2.1
 ·refine dF.up λn _=> ?_
  simp_all[start,dz,aa,c8,ab]
 by_cases c3:x.2.2.2.1<0
 ·refine dF.up λn _=> ?_
  simp_all[start,dz,aa,c8,ab]
 rw[aa c1,aa c2,aa c3]
 by_cases c4:200<(cX x).length
 ·refine dF.up λn _=> ?_
  have d4:I (200<(x.2.2.2.2.2.2.2.2.1.length:Int))=true:=ab (by grind [cX]);simp_all[start,dz,aa,c8,ab]
 have d4:I (200<(x.2.2.2.2.2.2.2.2.1.length:Int))=false:=aa (by grind [cX]);rw[aa c4];have hl:(cX x).length<=200:=(by omega);have h5:=Yi (ns:=ns) (i:=i) (x:=x) hl
 have step2:∀n,lH (S.step (S.tab n)) (ns,()) i=_:=λn=>by
  rw[start,db c1,db c2,db c3,dz d4]
 cases hr:(cX x).all (inR i)with
 |false=>
  rw[hr]at h5
  refine h5.up λn h=> ?_
  have h:iC (S.tab n) ↑i (ns,()) x x.2.2.2.2.2.2.2.2.1 x.2.2.2.2.2.2.2.2.1.length 0=_:=h;rw[step2,h];rfl
 |true=>
  rw[hr]at h5
  have hk:∀k∈cX x,0<=k/\k<ns.length:=λk be3=>by
   have:=aK.1 hr k be3;unfold inR at this;rw[aA,ad,ad]at this;omega
  have Af:∀n,iC (S.tab n) ↑i (ns,()) x x.2.2.2.2.2.2.2.2.1 x.2.2.2.2.2.2.2.2.1.length 0=U (aE (an ((ns,()),x,())))->lH (S.step (S.tab n)) (ns,()) i=_:=λn h=>by
   rw[step2,h,al]
  cases hs:gB x.1 with
  |true=>
   refine((h5.and MP).and (Mz hx hk hl)).up λn ⟨⟨h,qc⟩,hS⟩=> ?_
   rw[Af n h];show(qz (S.tab n) x.1).bind _=_;rw[qc,al,hs,c8 (by rfl)];show(qL (S.tab n) (ns,()) x).bind _=_;rw[hS];rfl
  |false=>
   refine((h5.and MP).and (KV hx hk hl)).up λn ⟨⟨h,qc⟩,hE⟩=> ?_
   rw[Af n h];show(qz (S.tab n) x.1).bind _=_;rw[qc,al,hs,dz (by rfl)];show(pX (S.tab n) (ns,()) x).bind _=_;rw[hE];rfl
end Go.Abs.D
end

section
namespace Go.Abs.D
def EL (ns:List cZ.den)(j:Nat):Bool:=match ns[j]? with|some x=>okN ns j x|none=>aq
def okQ (ns:List cZ.den)(j:Nat):Bool:=(j<ns.length)&&EL ns j
def Ss:∀j,ns.length<=j->okQ ns j=false:=λj h=>by simp_all[okQ,aa]
def BG (ns:List cZ.den):Nat:=stop (okQ ns) ns.length 0
abbrev Fa:Type:=Int×Int×Unit
section
variable{ns:List cZ.den}(hN:∀x∈ns,NodeOk x)(hn:ns.length<=3000)
include hN hn
def VK:Evt λn=>∀j∈cN ns.length,nU (S.tab n) (ns,()) j=U (EL ns j,dB):=by
 have:∀(l:List Nat),(∀j∈l,j<ns.length)->Evt λn=>∀j∈l,nU (S.tab n) (ns,()) j=U (EL ns j,dB):=by
  intro l
  induction l with
  |nil=>simp_all[Evt.of]
  |cons a l ih=>
   intro h;have ha:=h a (aD ..)
   have e:EL ns a=okN ns a ns[a]:=by simp_all[EL,aL]
   refine((Ii (hN _ (bF ha)) ha hn rfl).and (ih λj hj=>h j (aB _ hj))).mono λn ⟨h1,h2⟩ j hj=> ?_
   grind
 exact this _ λj hj=>cL.1 hj
omit hn in
theorem Vz:Evt λn=>∀j∈cN ns.length,lH (S.tab n) (ns,()) (j:Int)=U (EL ns j,dB):=by
 have:∀(l:List Nat),(∀j∈l,j<ns.length)->Evt λn=>∀j∈l,lH (S.tab n) (ns,()) (j:Int)=U (EL ns j,dB):=by
  intro l
  induction l with
  |nil=>simp_all[Evt.of]
  |cons a l ih=>
   intro h;have ha:=h a (aD ..)
   have e:EL ns a=okN ns a ns[a]:=by simp_all[EL,aL]
   refine((HQ (hN _ (bF ha)) ha rfl).and (ih λj hj=>h j (aB _ hj))).mono λn ⟨h1,h2⟩ j hj=> ?_
   grind
 exact this _ λj hj=>cL.1 hj
def ai8 (z) (f:Fa):Evt λn=>jO (S.tab n) (ns,()) f z ns.length 0=U (bif(BG ns<ns.length)then an ((2,(BG ns:Int),()),())else aE (an ((ns,()),f,z,()))):=
 adv (F:=λT j=>jO T (ns,()) f z ns.length ↑j) (q:=okQ ns) (N:=ns.length)
  (out:=λj=>bif(j<ns.length)then an ((2,j,()),())else aE (an ((ns,()),f,z,())))
  (p:=λT=>∀j∈cN ns.length,nU T (ns,()) j=U (EL ns j,dB)) (VK hN hn) Ss
  (λT j h hq=>by
   unfold okQ at hq;rw[aA,ad]at hq;show jO (S.step T) _ _ _ _ _=jO T (ns,()) f z ns.length ((j+1:Nat))
   rw[xu,c8 (by simp_all),h j (cL.2 hq.1),al,hq.2,dz (by rfl),eT (by omega)])
  (λT j h hq=>by
   show jO (S.step T) _ _ _ _ _=_;rw[xu]
   by_cases hj:j<ns.length
   ·unfold okQ at hq;simp_all[c8,cL,al,hq,ab]
   simp_all[dz,aa]) ns.length 0 (by omega)
def af8 (f:Fa):Evt λn=>jR (S.tab n) (ns,()) f ns.length 0=U (bif(BG ns<ns.length)then an ((2,(BG ns:Int),()),())else aE (an ((ns,()),f,()))):=
 adv (F:=λT j=>jR T (ns,()) f ns.length ↑j) (q:=okQ ns) (N:=ns.length)
  (out:=λj=>bif(j<ns.length)then an ((2,j,()),())else aE (an ((ns,()),f,())))
  (p:=λT=>∀j∈cN ns.length,lH T (ns,()) j=U (EL ns j,dB)) (Vz hN) Ss
  (λT j h hq=>by
   unfold okQ at hq;rw[aA,ad]at hq;show jR (S.step T) _ _ _ _=jR T (ns,()) f ns.length ((j+1:Nat))
   rw[xC,c8 (by simp_all),h j (cL.2 hq.1),al,hq.2,dz (by rfl),eT (by omega)])
  (λT j h hq=>by
   show jR (S.step T) _ _ _ _=_;rw[xC]
   by_cases hj:j<ns.length
   ·unfold okQ at hq;simp_all[c8,cL,al,hq,ab]
   simp_all[dz,aa]) ns.length 0 (by omega)
omit hN hn in
theorem Cc (hb:¬ BG ns<ns.length)(j:Nat)(hj:j<ns.length):∀k∈cX ns[j],0<=k/\k<(j:Int):=by
 have hq:okQ ns j=true:=rD ns.length 0 j (aU _) (by grind [BG]);unfold okQ EL at hq;intro k hk
 have Ay:(cX ns[j]).all (inR j)=true:=by
  cases h:(cX ns[j]).all (inR j)with
  |true=>rfl
  |false=>
   unfold okN at hq;simp_all
 simp_all[aK,inR,aA,ad]
end
def dk (i:Nat):LI->LI->LI
 |[],d=>d
 |k::r,d=>dk i r (d.set k.toNat (ar.wrap (d.getD i 0+1)))
def No (i):∀r d,(dk i r d).length=d.length
 |[],d=>rfl
 |k::r,d=>by simp_all[dk,No]
def zd (ns:List cZ.den):Nat->LI->LI
 |0,d=>d
 |i+1,d=>zd ns i (match ns[i]? with|some x=>dk i (cX x) d|none=>d)
theorem Lr (h:i<ns.length) (d):zd ns (i+1) d=zd ns i (dk i (cX ns[i]) d):=by
 simp_all[zd,dk,cX,aL]
def Se (t:Tr)(f:Fa) (i):∀(r pre d:LI),i<d.length->(∀k∈r,0<=k/\k<d.length)->(pre++r).length<=2097152->
  Evt λn=>ph (S.tab n) t f d ↑i (pre++r) ((pre++r).length) pre.length=U (an (t,f,dk i r d,(i:Int),()))
 |[],pre,d,hi,hk,hl=>dF.up λn _=>by
  rw[wQ,dz (by simp)];rfl
 |k::r,pre,d,hi,hk,hl=>by
  have ih:=Se t f i r (pre++[k]) (d.set k.toNat (ar.wrap (d.getD i 0+1))) (by simp_all) (λc hc=>by simp_all) (by simp_all)
  refine ih.up λn h=> ?_
  have hlen:(pre++k::r).length=pre.length+(r.length+1):=(by simp);have hg:(pre++k::r).getD (pre.length:Int).toNat 0=k:=aE0 pre k r;have hd:(0<=(i:Int)&&i<(d.length:Int))=true:=dm hi
  have ZI:(0<=k&&k<d.length)=true:=by simp_all
  rw[wQ,c8 (by grind),c8 (dm (by omega)),c8 hd,hg,c8 ZI,eT (by omega)];have e1:(pre++[k])++r=pre++k::r:=(by simp);have e2:(pre++[k]).length=pre.length+1:=(by simp);rw[e1,e2]at h;exact h
def SH (t:Tr)(f:Fa) (i):∀(r pre d:LI),i<d.length->(∀k∈r,0<=k/\k<d.length)->(pre++r).length<=2097152->
  Evt λn=>pb (S.tab n) t f d ↑i (pre++r) ((pre++r).length) pre.length=U (an (t,f,dk i r d,(i:Int),()))
 |[],pre,d,hi,hk,hl=>dF.up λn _=>by
  rw[wH,dz (by simp)];rfl
 |k::r,pre,d,hi,hk,hl=>by
  have ih:=SH t f i r (pre++[k]) (d.set k.toNat (ar.wrap (d.getD i 0+1))) (by simp_all) (λc hc=>by simp_all) (by simp_all)
  refine ih.up λn h=> ?_
  have hlen:(pre++k::r).length=pre.length+(r.length+1):=(by simp);have hg:(pre++k::r).getD (pre.length:Int).toNat 0=k:=aE0 pre k r;have hd:(0<=(i:Int)&&i<(d.length:Int))=true:=dm hi
  have ZI:(0<=k&&k<d.length)=true:=by simp_all
  rw[wH,c8 (by grind),c8 (dm (by omega)),c8 hd,hg,c8 ZI,eT (by omega)];have e1:(pre++[k])++r=pre++k::r:=(by simp);have e2:(pre++[k]).length=pre.length+1:=(by simp);rw[e1,e2]at h;exact h
section
variable{ns:List cZ.den}(hN:∀x∈ns,NodeOk x)(hn:ns.length<=3000)(hb:¬ BG ns<ns.length)
include hN hn hb
def SE (f:Fa):∀i d,i<=ns.length->d.length=ns.length->Evt λn=>pa (S.tab n) (ns,()) f d (i - 1)=U (an (f,zd ns i d,()))
 |0,d,hi,hd=>dF.up λn _=>by
  rw[wJ,dz (by decide)];rfl
 |i+1,d,hi,hd=>by
  have xn:i<ns.length:=(by omega);have hx:=hN _ (bF xn);have hk:=Cc hb i xn;have vL:=Se (ns,()) f i (cX ns[i]) [] d (by omega) (λk h=>by grind) (by have:=hx.nk;simp_all);have ih:=SE f i (dk i (cX ns[i]) d) (by omega) (by simp_all[No])
  refine(vL.and ih).up λn ⟨h,h2⟩=> ?_
  have e0:(((i+1:Nat)) - 1)=(i:Int):=(by omega);have L7:at_ (τ:=cZ) ((ns,())).1 i=ns[i]:=vH ns i xn;rw[e0,wJ,c8 (by rfl),c8 (dm xn),L7];show(ph (S.tab n) (ns,()) f d ↑i (cX ns[i]) ((cX ns[i]).length) 0).bind _=_;simp[dH]
  grind [wrap64,Lr]
def Sq (f:Fa):∀i d,i<=ns.length->d.length=ns.length->Evt λn=>pj (S.tab n) (ns,()) f d (i - 1)=U (an (f,zd ns i d,()))
 |0,d,hi,hd=>dF.up λn _=>by
  rw[wo,dz (by decide)];rfl
 |i+1,d,hi,hd=>by
  have xn:i<ns.length:=(by omega);have hx:=hN _ (bF xn);have hk:=Cc hb i xn;have vL:=SH (ns,()) f i (cX ns[i]) [] d (by omega) (λk h=>by grind) (by have:=hx.nk;simp_all);have ih:=Sq f i (dk i (cX ns[i]) d) (by omega) (by simp_all[No])
  refine(vL.and ih).up λn ⟨h,h2⟩=> ?_
  have e0:(((i+1:Nat)) - 1)=(i:Int):=(by omega);have L7:at_ (τ:=cZ) ((ns,())).1 i=ns[i]:=vH ns i xn;rw[e0,wo,c8 (by rfl),c8 (dm xn),L7];show(pb (S.tab n) (ns,()) f d ↑i (cX ns[i]) ((cX ns[i]).length) 0).bind _=_;simp[dH]
  grind [wrap64,Lr]
end
def vj (d:LI)(j:Nat):Bool:=(j<d.length)&& !(100<get d j)
def LW:∀j,d.length<=j->vj d j=false:=λj h=>by simp_all[vj,aa]
def Yr (f:Fa) (d) (hd:d.length<=3000):Evt λn=>jT (S.tab n) f d d.length 0=U (bif(stop (vj d) d.length 0<d.length)then an ((4,(stop (vj d) d.length 0:Int),()),())else aE (an (f,()))):=
 adv (F:=λT j=>jT T f d d.length ↑j) (q:=vj d) (N:=d.length) (out:=λj=>bif(j<d.length)then an ((4,j,()),())else aE (an (f,()))) (p:=Base2) dF LW
  (λT j h hq=>by
   unfold vj at hq;rw[aA,ad,bU,ae]at hq;show jT (S.step T) _ _ _ _=jT T f d d.length ((j+1:Nat))
   rw[wc,c8 (by simp_all),c8 (dm hq.1),dK,dz (aa hq.2),eT (by omega)])
  (λT j h hq=>by
   show jT (S.step T) _ _ _ _=_;rw[wc]
   by_cases hj:j<d.length
   ·unfold vj at hq
    grind [c8,dm,dK,hq,ab]
   simp_all[dz,aa]) d.length 0 (by omega)
def Y1 (f:Fa) (d) (hd:d.length<=3000):Evt λn=>jZ (S.tab n) f d d.length 0=U (bif(stop (vj d) d.length 0<d.length)then an ((4,(stop (vj d) d.length 0:Int),()),())else aE (an (f,()))):=
 adv (F:=λT j=>jZ T f d d.length ↑j) (q:=vj d) (N:=d.length) (out:=λj=>bif(j<d.length)then an ((4,j,()),())else aE (an (f,()))) (p:=Base2) dF LW
  (λT j h hq=>by
   unfold vj at hq;rw[aA,ad,bU,ae]at hq;show jZ (S.step T) _ _ _ _=jZ T f d d.length ((j+1:Nat))
   rw[wO,c8 (by simp_all),c8 (dm hq.1),dK,dz (aa hq.2),eT (by omega)])
  (λT j h hq=>by
   show jZ (S.step T) _ _ _ _=_;rw[wO]
   by_cases hj:j<d.length
   ·unfold vj at hq
    grind [c8,dm,dK,hq,ab]
   simp_all[dz,aa]) d.length 0 (by omega)
def JD (ns):∀i d,(zd ns i d).length=d.length
 |0,d=>rfl
 |i+1,d=>by
  unfold zd;rw[JD];split
  ·exact No ..
  ·rfl
end Go.Abs.D
end

section
namespace Go.Abs.D
def sU (l) (i j) (v) (h:i<l.length):get (l.set i v) j=if j=i then v else get l j:=by
 unfold get
 grind
def oM (st kids:LI):Nat->Int->Option Int
 |0,a=>U a
 |m+1,a=>bif(get kids m=a - 1)then oM st kids m (get st (get kids m).toNat)else az
def vK (sz kids:LI):Nat->Int->Int×Bool
 |0,a=>(a,av)
 |m+1,a=>bif(get kids m=a - 1)&& !(get sz (get kids m).toNat=0)then vK sz kids m (a - get sz (get kids m).toNat)else(a,aq)
def S4 (t:Tr)(f:Fa) (z) (st) (i) (x) (l) (u v) (hk:∀k∈cX x,0<=k/\k<st.length)(hs:∀j,0<=get st j/\get st j<=3000)(hl:(cX x).length<=2097152):
  ∀m a,m<=(cX x).length->0<=a->a<=3000->Evt λn=>nC (S.tab n) t f z st i x a (m - 1) l u v=U (match oM st (cX x) m a with|none=>an ((3,i,()),())|some a=>aE (an (t,f,z,st,i,a,l,u,v,())))
 |0,a,hm,h0,h1=>dF.up λn _=>by
  rw[rQ,dz (by decide)];rfl
 |m+1,a,hm,h0,h1=>by
  have To:m<(cX x).length:=(by omega);have qY:(0<=(m:Int)&&m<(x.2.2.2.2.2.2.2.2.1.length:Int))=true:=dm To;have hg:x.2.2.2.2.2.2.2.2.1.getD (m:Int).toNat 0=get (cX x) m:=rfl;have bl3:get (cX x) m=(cX x)[m]:=xf To;have e0:((m+1:Nat)) - 1=(m:Int):=(by omega);have wa:ar.wrap (a - 1)=a - 1:=wrap64 _ (by omega) (by omega);have wm:ar.wrap (m - 1)=m - 1:=wrap64 _ (by omega) (by omega)
  by_cases hc:get (cX x) m=a - 1
  ·have aP2:=hs (get (cX x) m).toNat
   have ZI:(0<=get (cX x) m&&get (cX x) m<st.length)=true:=by simp_all
   refine(S4 t f z st i x l u v hk hs hl m (get st (get (cX x) m).toNat) (by omega) aP2.1 aP2.2).up λn h=> ?_
   rw[e0,rQ,c8 (by rfl),c8 qY,hg,wa,dz (by simp_all),c8 qY,c8 ZI,wm]
   grind [oM,cX,get,decide,ab]
  ·refine dF.up λn _=> ?_
   rw[e0,rQ,c8 (by rfl),c8 qY,hg,wa,c8 (by simp_all)]
   grind [oM,cX,decide,get,aa]
def V7 (sz) (i) (x) (l) (u v) (hk:∀k∈cX x,0<=k/\k<sz.length)(hs:∀j,0<=get sz j/\get sz j<=3000)(hl:(cX x).length<=200):
  ∀m a,m<=(cX x).length->3000*(m:Int)<=a+1000000->a<=3000->Evt λn=>nA (S.tab n) sz i x a av (m - 1) l u v=U (an (sz,i,(vK sz (cX x) m a).1,(vK sz (cX x) m a).2,l,u,v,()))
 |0,a,hm,h0,h1=>dF.up λn _=>by
  rw[oU,dz (by decide)];rfl
 |m+1,a,hm,h0,h1=>by
  have To:m<(cX x).length:=(by omega);have qY:(0<=(m:Int)&&m<(x.2.2.2.2.2.2.2.2.1.length:Int))=true:=dm To;have hg:x.2.2.2.2.2.2.2.2.1.getD (m:Int).toNat 0=get (cX x) m:=rfl;have bl3:get (cX x) m=(cX x)[m]:=xf To;have e0:((m+1:Nat)) - 1=(m:Int):=(by omega);have wa:ar.wrap (a - 1)=a - 1:=wrap64 _ (by omega) (by omega);have wm:ar.wrap (m - 1)=m - 1:=wrap64 _ (by omega) (by omega)
  have qc:vK sz (cX x) (m+1) a=bif(get (cX x) m=a - 1)&& !(get sz (get (cX x) m).toNat=0)then vK sz (cX x) m (a - get sz (get (cX x) m).toNat)else(a,aq):=rfl
  by_cases hc:get (cX x) m=a - 1
  ·have aP2:=hs (get (cX x) m).toNat
   have ZI:(0<=get (cX x) m&&get (cX x) m<sz.length)=true:=by simp_all
   have a84:sz.getD (get (cX x) m).toNat 0=get sz (get (cX x) m).toNat:=rfl
   by_cases hz:get sz (get (cX x) m).toNat=0
   ·refine dF.up λn _=> ?_
    rw[e0,oU,c8 (by rfl),c8 qY,hg,wa,dz (by simp_all),c8 ZI,a84,dn hz,qc,ab hz,bM,aT];rfl
   ·have wz:ar.wrap (a - get sz (get (cX x) m).toNat)=a - get sz (get (cX x) m).toNat:=wrap64 _ (by omega) (by omega)
    refine(V7 sz i x l u v hk hs hl m (a - get sz (get (cX x) m).toNat) (by omega) (by omega) (by omega)).up λn h=> ?_
    rw[e0,oU,c8 (by rfl),c8 qY,hg,wa,dz (by simp_all),c8 ZI,a84,db hz,c8 ZI,wz,wm,qc,ab hc,aa hz];exact h
  ·refine dF.up λn _=> ?_
   simp_all[oU,c8,ad,aa]
def eO (ns:List cZ.den)(i:Nat):LI:=match ns[i]? with|some x=>cX x|none=>[]
theorem vM (h:i<ns.length):eO ns i=cX ns[i]:=by simp_all[eO,aL]
def imS (ns:List cZ.den):Nat->LI->Nat⊕Unit
 |0,_=> .inr ()
 |r+1,st=>match oM st (eO ns (ns.length - (r+1))) (eO ns (ns.length - (r+1))).length ((ns.length - (r+1):Nat))with
  |none=> .inl (ns.length - (r+1))
  |some a=>bif(r=0)&& !(a=0)then .inl (ns.length - (r+1))else imS ns r (st.set (ns.length - (r+1)) a)
def szS (ns:List cZ.den):Nat->LI->LI
 |0,sz=>sz
 |r+1,sz=>szS ns r (bif(vK sz (eO ns (ns.length - (r+1))) (eO ns (ns.length - (r+1))).length ((ns.length - (r+1):Nat))).2 then sz.set (ns.length - (r+1)) (((ns.length - (r+1):Nat)) - (vK sz (eO ns (ns.length - (r+1))) (eO ns (ns.length - (r+1))).length ((ns.length - (r+1):Nat))).1+1)else sz)
def zq (sz:LI)(j:Nat):Bool:=(j<sz.length)&& !(get sz j=0)
def PO (sz:LI):Nat⊕Unit:=
 bif(stop (zq sz) sz.length 0<sz.length)then .inl (stop (zq sz) sz.length 0)else bif !(get sz (sz.length - 1)=sz.length)then .inl (sz.length - 1)else .inr ()
def JM:∀j,sz.length<=j->zq sz j=false:=λj h=>by simp_all[zq,aa]
structure RelN (n i:Nat)(st sz:LI):Prop where
 l1:st.length=n
 l2:sz.length=n
 lo:∀j,j<i->get sz j=(j:Int) - get st j+1/\0<=get st j/\get st j<=(j:Int)
 hi:∀j,i<=j->get sz j=0/\get st j=0
def JH (R:RelN n i st sz):∀m a,0<=a->a<=(i:Int)->(∀j,j<m->0<=get kids j/\get kids j<i)->
  (∀b,oM st kids m a=U b->vK sz kids m a=(b,av)/\0<=b/\b<=i)/\(oM st kids m a=az->(vK sz kids m a).2=aq)
 |0,a,h0,h1,hk=>⟨λb h=>by injection h with h;subst h;exact⟨rfl,h0,h1⟩,λh=>by cases h⟩
 |m+1,a,h0,h1,hk=>by
  obtain⟨k0,k1⟩:=hk m (by omega);unfold oM vK
  by_cases hc:get kids m=a - 1
  ·obtain⟨e1,e2,e3⟩:=R.lo (get kids m).toNat (by omega);have hz:¬ get sz (get kids m).toNat=0:=(by omega);have ea:a - get sz (get kids m).toNat=get st (get kids m).toNat:=(by omega);rw[ab hc,aa hz];rw[ea]
   exact JH R m _ e2 (by omega) λj hj=>hk j (by omega)
  simp_all
def M0 (ns):∀r sz,(szS ns r sz).length=sz.length
 |0,sz=>rfl
 |r+1,sz=>by
  unfold szS;rw[M0];cases(vK sz (eO ns (ns.length - (r+1))) (eO ns (ns.length - (r+1))).length ((ns.length - (r+1):Nat))).2<;>simp
def S0 (ns):∀r sz j,r<=ns.length->sz.length=ns.length->j<ns.length - r->get (szS ns r sz) j=get sz j
 |0,sz,j,_,_,_=>rfl
 |r+1,sz,j,hr,hl,hj=>by
  unfold szS
  rw[S0 ns r _ j (by omega) (by
   grind) (by omega)]
  cases(vK sz (eO ns (ns.length - (r+1))) (eO ns (ns.length - (r+1))).length ((ns.length - (r+1):Nat))).2 with
  |false=>rfl
  |true=>
   simp;rw[sU _ _ _ _ (by omega),ai (by omega)]
def M7 (hN:∀j,N<=j->q j=aq)(h1:∀j,j<m->q j=av)(h2:q m=aq):stop q N 0=m:=by
 have a:=uE (q:=q) hN N 0 (by omega)
 have b:¬ stop q N 0<m:=λh=>by simp_all
 have c:¬ m<stop q N 0:=λh=>by
  have:=rD N 0 m (aU _) h;simp_all
 omega
def af7 (ns) (hk:∀i,i<ns.length->∀j,j<(eO ns i).length->0<=get (eO ns i) j/\get (eO ns i) j<i):∀r st sz,r+1<=ns.length->RelN ns.length (ns.length - (r+1)) st sz->imS ns (r+1) st=PO (szS ns (r+1) sz):=by
 intro r
 induction r with
 |zero=>
  intro st sz hr R;have hS:=JH R (eO ns (ns.length - 1)).length ((ns.length - 1:Nat)) (by omega) (cM _) (hk (ns.length - 1) (by omega));show(match oM st (eO ns (ns.length - 1)) (eO ns (ns.length - 1)).length ((ns.length - 1:Nat))with|none=>_|some a=>_)=PO (bif(vK sz (eO ns (ns.length - 1)) (eO ns (ns.length - 1)).length ((ns.length - 1:Nat))).2 then sz.set (ns.length - 1) (((ns.length - 1:Nat)) - (vK sz (eO ns (ns.length - 1)) (eO ns (ns.length - 1)).length ((ns.length - 1:Nat))).1+1)else sz)
  cases hc:oM st (eO ns (ns.length - 1)) (eO ns (ns.length - 1)).length ((ns.length - 1:Nat))with
  |none=>
   rw[hS.2 hc,af]
   have qc:stop (zq sz) sz.length 0=ns.length - 1:=M7 JM (λj hj=>by
    unfold zq;have:=R.lo j hj
    rw[ab (by have:=R.l2;omega),aa (by omega)];rfl) (by
    unfold zq
    rw[ab (R.hi _ (aF _)).1];simp)
   unfold PO;rw[qc,ab (show ns.length - 1<sz.length by have:=R.l2;omega)];rfl
  |some a=>
   obtain⟨e,a0,a1⟩:=hS.1 a hc;rw[e];simp only[ah];have uL:=R.l2
   have hlen:(sz.set (ns.length - 1) (((ns.length - 1:Nat)) - a+1)).length=ns.length:=by simp_all
   have qc:stop (zq (sz.set (ns.length - 1) (((ns.length - 1:Nat)) - a+1))) ns.length 0=ns.length:=M7 (λj hj=>JM j (by omega)) (λj hj=>by
    unfold zq;rw[sU _ _ _ _ (by omega),ab (by omega)]
    by_cases aG4:j=ns.length - 1
    ·grind
    ·have:=R.lo j (by omega)
     grind) (JM _ (by omega))
   unfold PO;rw[hlen,qc,aa (Nat.lt_irrefl _),af,sU _ _ _ _ (by omega),aj rfl];show(bif(0=0)&& !(a=0)then an (ns.length - 1)else aE ())=_
   grind
 |succ r ih=>
  intro st sz hr R;have hS:=JH R (eO ns (ns.length - (r+1+1))).length ((ns.length - (r+1+1):Nat):Int) (by omega) (cM _) (hk (ns.length - (r+1+1)) (by omega));have om:=R.l1;have uL:=R.l2;show(match oM st (eO ns (ns.length - (r+1+1))) (eO ns (ns.length - (r+1+1))).length ((ns.length - (r+1+1):Nat):Int)with|none=>_|some a=>_)=PO (szS ns (r+1) (bif(vK sz (eO ns (ns.length - (r+1+1))) (eO ns (ns.length - (r+1+1))).length ((ns.length - (r+1+1):Nat):Int)).2 then sz.set (ns.length - (r+1+1)) (((ns.length - (r+1+1):Nat):Int) - (vK sz (eO ns (ns.length - (r+1+1))) (eO ns (ns.length - (r+1+1))).length ((ns.length - (r+1+1):Nat):Int)).1+1)else sz))
  cases hc:oM st (eO ns (ns.length - (r+1+1))) (eO ns (ns.length - (r+1+1))).length ((ns.length - (r+1+1):Nat):Int)with
  |none=>
   rw[hS.2 hc,af]
   have hlen:(szS ns (r+1) sz).length=ns.length:=by simp_all[M0]
   have ZV:=λj hj=>S0 ns (r+1) sz j (by omega) uL hj
   have qc:stop (zq (szS ns (r+1) sz)) ns.length 0=ns.length - (r+1+1):=M7 (λj hj=>JM j (by omega)) (λj hj=>by
    unfold zq;have:=R.lo j hj
    grind [ab,aa]) (by
    unfold zq
    rw[ZV _ (by omega),ab (R.hi _ (aF _)).1];simp)
   grind [PO,ab]
  |some a=>
   obtain⟨e,a0,a1⟩:=hS.1 a hc;rw[e];simp only[ah];show(bif(r+1=0)&& !(a=0)then _ else imS ns (r+1) (st.set (ns.length - (r+1+1)) a))=_;refine ih _ _ (by omega) ⟨by simp_all,by simp_all,λj hj=> ?_,λj hj=> ?_⟩
   ·rw[sU _ _ _ _ (by omega),sU _ _ _ _ (by omega)]
    by_cases ao2:j=ns.length - (r+1+1)
    ·rw[aj ao2,aj ao2];subst ao2;exact⟨rfl,a0,a1⟩
    ·rw[ai ao2,ai ao2];exact R.lo j (by omega)
   ·rw[sU _ _ _ _ (by omega),sU _ _ _ _ (by omega),ai (by omega),ai (by omega)];exact R.hi j (by omega)
end Go.Abs.D
end

section
namespace Go.Abs.D
def OK (hs:∀j,0<=get st j/\get st j<=3000):∀m a b,0<=a->a<=3000->oM st kids m a=U b->0<=b/\b<=3000
 |0,a,b,h0,h1,h=>by injection h with h;omega
 |m+1,a,b,h0,h1,h=>by
  unfold oM at h
  cases hc:I (get kids m=a - 1)with
  |true=>
   rw[hc]at h;exact OK hs m _ b (hs _).1 (hs _).2 h
  |false=>simp_all
def SA (hs:∀j:Nat,0<=get sz j/\get sz j<=j+1):∀m a,0<=a->(∀j,j<m->0<=get kids j)->0<=(vK sz kids m a).1/\(vK sz kids m a).1<=a
 |0,a,h0,_=>⟨h0,cM _⟩
 |m+1,a,h0,hk=>by
  unfold vK
  by_cases hc:get kids m=a - 1
  ·have aP2:=hs (get kids m).toNat;have k0:=hk m (by omega)
   cases hz:I (get sz (get kids m).toNat=0)with
   |true=>simp_all
   |false=>
    have:=SA hs m (a - get sz (get kids m).toNat) (by omega) λj hj=>hk j (by omega)
    grind
  simp_all
section
variable{ns:List cZ.den}(hN:∀x∈ns,NodeOk x)(hn:ns.length<=3000)(hb:¬ BG ns<ns.length)
include hN hn hb
omit hN hn in
theorem Lm (i:Nat)(hi:i<ns.length):∀j,j<(eO ns i).length->0<=get (eO ns i) j/\get (eO ns i) j<(i:Int):=by
 intro j hj;rw[vM hi]at hj⊢;have:=Cc hb i hi _ (bF hj)
 grind [get,cX,xf]
def Si (f:Fa):∀r st,r<=ns.length->st.length=ns.length->(∀j,0<=get st j/\get st j<=3000)->
    Evt λn=>hD (S.tab n) (ns,()) f ns.length st ns ns.length ((ns.length - r:Nat))=U (match imS ns r st with| .inl j=>an ((3,(j:Int),()),())| .inr _=>aE (an ((ns,()),f,ns.length,())))
  |0,st,hr,hl,hs=>dF.up λn _=>by
    rw[wG,dz (by simp)];rfl
  |r+1,st,hr,hl,hs=>by
    have hi:ns.length - (r+1)<ns.length:=(by omega)
    generalize hii:ns.length - (r+1)=i at hi
    have hx:=hN _ (bF hi);have aP0:=vM hi;have zT:=S4 (ns,()) f ns.length st ↑i ns[i] ns ns.length ↑i (λk h=>by have:=Cc hb i hi k h;omega) hs hx.nk (cX ns[i]).length ↑i (aF _) (by omega) (by omega);have L7:at_ (τ:=cZ) ns i=ns[i]:=vH ns i hi;have wk:ar.wrap (((cX ns[i]).length) - 1)=((cX ns[i]).length) - 1:=wrap64 _ (by omega) (by have:=hx.nk;omega)
    have start:∀n,hD (S.step (S.tab n)) (ns,()) f ns.length st ns ns.length i=(nC (S.tab n) (ns,()) f ns.length st ↑i ns[i] i (((cX ns[i]).length) - 1) ns ns.length ↑i).bind (ep (λov=>U (an ov)) (λov=>brk (0<=ov.2.2.2.2.1&&ov.2.2.2.2.1<ov.2.2.2.1.length) (
   brk (ov.2.2.2.2.1=ar.wrap (ov.2.2.1 - 1)) (
    brk (!(ov.2.2.2.2.2.1=0)) (
     U (an ((3,ov.2.2.2.2.1,()),()))) (
     hD (S.tab n) ov.1 ov.2.1 ov.2.2.1 (ov.2.2.2.1.set ov.2.2.2.2.1.toNat ov.2.2.2.2.2.1) ov.2.2.2.2.2.2.1 ov.2.2.2.2.2.2.2.1 (ar.wrap (ov.2.2.2.2.2.2.2.2.1+1)))) (
    hD (S.tab n) ov.1 ov.2.1 ov.2.2.1 (ov.2.2.2.1.set ov.2.2.2.2.1.toNat ov.2.2.2.2.2.1) ov.2.2.2.2.2.2.1 ov.2.2.2.2.2.2.2.1 (ar.wrap (ov.2.2.2.2.2.2.2.2.1+1)))) az)):=λn=>by
      rw[wG,c8 (by simp_all),c8 (dm hi),L7];simp_all[nC,cX,bind]
    have ac4:imS ns (r+1) st=match oM st (eO ns i) (eO ns i).length ↑i with
      |none=> .inl i
      |some a=>bif(r=0)&& !(a=0)then .inl i else imS ns r (st.set i a):=by
      show(match oM st (eO ns (ns.length - (r+1))) (eO ns (ns.length - (r+1))).length ((ns.length - (r+1):Nat))with|none=>_|some a=>_)=_
      grind
    rw[ac4,aP0]
    cases hc:oM st (cX ns[i]) (cX ns[i]).length ↑i with
    |none=>
      rw[hc]at zT
      refine zT.up λn h=> ?_
      rw[start,h];rfl
    |some a=>
      rw[hc]at zT;obtain⟨a0,a1⟩:=OK hs _ _ _ (by omega) (by omega) hc
      have ih:=Si f r (st.set i a) (by omega) (by rw[cA];exact hl) (λj=>by
        rw[sU _ _ _ _ (by omega)];split
        · exact⟨a0,a1⟩
        · exact hs j)
      have ei:ns.length - r=i+1:=(by omega);rw[ei]at ih
      refine(zT.and ih).up λn ⟨h,ih⟩=> ?_
      have w1:ar.wrap (ns.length - 1)=ns.length - 1:=wrap64 _ (by omega) (by omega);have qY:(0<=(i:Int)&&(i:Int)<(st.length:Int))=true:=dm (by omega);rw[start,h];simp only[al,ep,aW,aH,bm];rw[c8 qY,w1,eT (by omega)]
      by_cases aN7:r=0
      · rw[dn (by omega),ab aN7]
        by_cases ha:a=0
        · rw[dz (by rw[ab ha];rfl),ab ha]
          exact ih
        · rw[c8 (by rw[aa ha];rfl),aa ha];rfl
      · rw[db (by omega),aa aN7,cF,af]
        exact ih
theorem Ri:∀r sz,r<=ns.length->sz.length=ns.length->(∀j:Nat,0<=get sz j/\get sz j<=(j:Int)+1)->
  Evt λn=>jg (S.tab n) sz ns ns.length ((ns.length - r:Nat))=U (an (szS ns r sz,()))
 |0,sz,hr,hl,hs=>dF.up λn _=>by
  rw[wF,dz (by simp)];rfl
 |r+1,sz,hr,hl,hs=>by
  have hi:ns.length - (r+1)<ns.length:=(by omega)
  generalize hii:ns.length - (r+1)=i at hi
  have aP0:=vM hi;have aN9:=Lm hb i hi;rw[aP0]at aN9
  have bf1:∀j,0<=get sz j/\get sz j<=3000:=λj=>by
   grind [bB,lK]
  have be6:(cX ns[i]).length<=200:=by
   have hq:okQ ns i=true:=rD ns.length 0 i (aU _) (by grind [BG]);unfold okQ EL at hq
   rcases bB 200 (cX ns[i]).length with h|h
   ·unfold okN at hq;simp_all
   omega
  have h8:=V7 sz ↑i ns[i] ns ns.length ↑i (λk h=>by have:=Cc hb i hi k h;omega) bf1 be6 (cX ns[i]).length ↑i (aF _) (by omega) (by omega);have L7:at_ (τ:=cZ) ns i=ns[i]:=vH ns i hi;have wk:ar.wrap (((cX ns[i]).length) - 1)=((cX ns[i]).length) - 1:=wrap64 _ (by omega) (by omega);obtain⟨y0,y1⟩:=SA (kids:=cX ns[i]) hs (cX ns[i]).length ↑i (by omega) (λj hj=>(aN9 j hj).1)
  have rr:szS ns (r+1) sz=szS ns r (bif(vK sz (cX ns[i]) (cX ns[i]).length ↑i).2 then sz.set i (i - (vK sz (cX ns[i]) (cX ns[i]).length ↑i).1+1)else sz):=by
   show szS ns r (bif(vK sz (eO ns (ns.length - (r+1))) (eO ns (ns.length - (r+1))).length ((ns.length - (r+1):Nat))).2 then sz.set (ns.length - (r+1)) (((ns.length - (r+1):Nat)) - (vK sz (eO ns (ns.length - (r+1))) (eO ns (ns.length - (r+1))).length ((ns.length - (r+1):Nat))).1+1)else sz)=_;rw[hii,aP0]
  rw[rr]
  generalize hy:vK sz (cX ns[i]) (cX ns[i]).length i=y at h8 y0 y1
  obtain⟨b,ok⟩:=y;simp at y0 y1 h8;have ei:ns.length - r=i+1:=(by omega)
  have start:∀n,nA (S.tab n) sz ↑i ns[i] i av (((cX ns[i]).length) - 1) ns ns.length i=U (an (sz,(i:Int),b,ok,ns,(ns.length:Int),(i:Int),()))->jg (S.step (S.tab n)) sz ns ns.length i=brk ok (brk (0<=(i:Int)&&i<(sz.length:Int)) (jg (S.tab n) (sz.set i (ar.wrap (ar.wrap (i - b)+1))) ns ns.length (ar.wrap (i+1))) az) (jg (S.tab n) sz ns ns.length (ar.wrap (i+1))):=λn h=>by
   rw[wF,c8 (by simp;omega),c8 (dm hi),L7];show(nA (S.tab n) sz ↑i ns[i] i av (ar.wrap (((cX ns[i]).length) - 1)) ns ns.length ↑i).bind _=_;rw[wk,h];rfl
  cases ok with
  |true=>
   have ih:=Ri r (sz.set i (i - b+1)) (by omega) (by rw[cA];exact hl) (λj=>by
    rw[sU _ _ _ _ (by omega)];split
    ·rename_i e;subst e;omega
    ·exact hs j)
   rw[ei]at ih
   refine(h8.and ih).up λn ⟨h,ih⟩=> ?_
   have qY:(0<=(i:Int)&&(i:Int)<(sz.length:Int))=true:=dm (by omega);rw[start n h,ix,c8 qY,wrap64 ((i:Int) - b) (by omega) (by omega),wrap64 ((i:Int) - b+1) (by omega) (by omega),eT (by omega)];exact ih
  |false=>
   have ih:=Ri r sz (by omega) hl hs;rw[ei]at ih
   refine(h8.and ih).up λn ⟨h,ih⟩=> ?_
   rw[start n h,gH,eT (by omega)];exact ih
end
def Hz (n j):get (aN n 0) j=0:=by
 grind [get]
def YN (t:Tr)(f:Fa) (sz) (hl:sz.length<=3000):Evt λn=>ir (S.tab n) t f sz sz sz.length 0=U (bif(stop (zq sz) sz.length 0<sz.length)then an ((3,(stop (zq sz) sz.length 0:Int),()),())else aE (an (t,f,sz,()))):=
 adv (F:=λT j=>ir T t f sz sz sz.length ↑j) (q:=zq sz) (N:=sz.length) (out:=λj=>bif(j<sz.length)then an ((3,j,()),())else aE (an (t,f,sz,()))) (p:=Base2) dF JM
  (λT j h hq=>by
   unfold zq at hq;rw[aA,ad,bU,ae]at hq;show ir (S.step T) _ _ _ _ _ _=ir T t f sz sz sz.length ((j+1:Nat))
   rw[wD,c8 (by simp_all),c8 (dm hq.1),dK,dz (aa hq.2),eT (by omega)])
  (λT j h hq=>by
   show ir (S.step T) _ _ _ _ _ _=_;rw[wD]
   by_cases hj:j<sz.length
   ·unfold zq at hq
    grind [c8,dm,dK,hq,ab]
   simp_all[dz,aa]) sz.length 0 (by omega)
def pn (ns:List cZ.den):Fa:=
 bif(ns.length=0)then(1,0,())else
 bif(3000<ns.length)then(1,0,())else
 bif !(nu ns ((ns.length - 1:Nat))=1)then(1,0,())else
 bif(BG ns<ns.length)then(2,(BG ns),())else
 match imS ns ns.length (aN ns.length 0)with
 | .inl j=>(3,j,())
 | .inr _=>bif(stop (vj (zd ns ns.length (aN ns.length 0))) ns.length 0<ns.length)then(4,(stop (vj (zd ns ns.length (aN ns.length 0))) ns.length 0),())else(0,0,())
section
variable{ns:List cZ.den}(hN:∀x∈ns,NodeOk x)
include hN
def Ib:Evt λn=>sw (S.tab n) (ns,())=U (pn ns,dO):=by
 unfold pn
 by_cases c0:ns.length=0
 ·refine dF.up λn _=> ?_
  grind [decide,ab,wV,c8]
 have d0:I ((((ns,())).1.length:Int)=0)=false:=aa (by simp_all);rw[aa c0]
 by_cases c1:3000<ns.length
 ·refine dF.up λn _=> ?_
  grind [decide,ab,wV,dz,c8]
 have hn:ns.length<=3000:=(by omega);have d1:I (3000<(((ns,())).1.length:Int))=false:=aa (by show¬ 3000<(ns.length:Int);omega);rw[aa c1]
 have wn:ar.wrap ((((ns,())).1.length) - 1)=((ns.length - 1:Nat)):=by
  show ar.wrap (ns.length - 1)=_;rw[wrap64 _ (by omega) (by omega)];omega
 have qY:(0<=((ns.length - 1:Nat):Int)&&((ns.length - 1:Nat))<(((ns,())).1.length:Int))=true:=dm (show ns.length - 1<ns.length by omega)
 have start:∀n,sw (S.step (S.tab n)) (ns,())=_:=λn=>by
  rw[wV,dz d0,dz d1,wn,c8 qY]
 by_cases c2:¬ nu ns ((ns.length - 1:Nat):Int)=1
 ·refine dF.up λn _=> ?_
  rw[start,c8 (by
   show(!(nu ns ((ns.length - 1:Nat):Int)=1))=av
   rw[aa c2];rfl),aa c2];rfl
 replace c2:=bV.1 c2
 rw[ab c2]
 have step2:∀n,sw (S.step (S.tab n)) (ns,())=_:=λn=>by
  rw[start,dz (by
   show(!(nu ns ((ns.length - 1:Nat):Int)=1))=aq
   rw[ab c2];rfl)]
 have h5:=ai8 hN hn (ns.length:Int) (0,0,())
 by_cases c3:BG ns<ns.length
 ·refine h5.up λn h=> ?_
  rw[ab c3]at h;rw[step2,ab c3];show(jO (S.tab n) (ns,()) (0,0,()) (ns.length:Int) (ns.length:Int) 0).bind _=_;rw[h];rfl
 rw[aa c3]at h5⊢;have rP:=Si hN hn c3 (0,0,()) ns.length (aN ns.length 0) (aF _) (by simp) (λj=>by rw[Hz];omega);rw[Nat.sub_self]at rP
 have PZ:((0:Int)<=(ns.length:Int)&&(ns.length:Int)<=(ns.length:Int)&&(ns.length:Int)<=(lim:Int))=true:=by
  rw[ab (show(0:Int)<=(ns.length:Int)by omega),ab (show(ns.length:Int)<=(ns.length:Int)by omega),ab (show(ns.length:Int)<=(lim:Int)by unfold lim;omega)];rfl
 have Af:∀n,jO (S.tab n) (ns,()) (0,0,()) (((ns,()):Tr).1.length:Int) (((ns,()):Tr).1.length:Int) 0=U (aE (an ((ns,()),(0,0,()),(ns.length:Int),())))->sw (S.step (S.tab n)) (ns,())=_:=λn h=>by
  rw[step2,h,al]
 simp
 cases hc:imS ns ns.length (aN ns.length 0)with
 |inl j=>
  rw[hc]at rP
  refine(h5.and rP).up λn ⟨h,h'⟩=> ?_
  rw[Af n h];show brk ((0:Int)<=(ns.length:Int)&&(ns.length:Int)<=(ns.length:Int)&&(ns.length:Int)<=(lim:Int)) ((hD (S.tab n) (ns,()) (0,0,()) (ns.length:Int) (aN ns.length 0) ns (ns.length:Int) 0).bind _) _=_;have h':hD (S.tab n) (ns,()) (0,0,()) (ns.length:Int) (aN ns.length 0) ns (ns.length:Int) 0=_:=h';rw[c8 PZ,h'];rfl
 |inr u=>
  rw[hc]at rP;have Kg:=SE hN hn c3 (0,0,()) ns.length (aN ns.length 0) (aF _) (by simp)
  have ar3:(zd ns ns.length (aN ns.length 0)).length=ns.length:=by rw[JD];simp
  have Hj:=Yr (0,0,()) (zd ns ns.length (aN ns.length 0)) (by omega);rw[ar3]at Hj
  refine((h5.and rP).and (Kg.and Hj)).up λn ⟨⟨h,h'⟩,Kg,Hj⟩=> ?_
  rw[Af n h];show brk ((0:Int)<=(ns.length:Int)&&(ns.length:Int)<=(ns.length:Int)&&(ns.length:Int)<=(lim:Int)) ((hD (S.tab n) (ns,()) (0,0,()) (ns.length:Int) (aN ns.length 0) ns (ns.length:Int) 0).bind _) _=_;have h':hD (S.tab n) (ns,()) (0,0,()) (ns.length:Int) (aN ns.length 0) ns (ns.length:Int) 0=_:=h';rw[c8 PZ,h',al];show brk ((0:Int)<=(ns.length:Int)&&(ns.length:Int)<=(ns.length:Int)&&(ns.length:Int)<=(lim:Int)) ((pa (S.tab n) (ns,()) (0,0,()) (aN ns.length 0) (ar.wrap ((ns.length:Int) - 1))).bind _) _=_;rw[c8 PZ,wrap64 _ (by omega) (by omega),Kg,al];show(jT (S.tab n) (0,0,()) (zd ns ns.length (aN ns.length 0)) ((zd ns ns.length (aN ns.length 0)).length:Int) 0).bind _=_;rw[ar3,Hj,al];cases I (stop (vj (zd ns ns.length (aN ns.length 0))) ns.length 0<ns.length)<;>rfl
def A4:Evt λn=>qA (S.tab n) (ns,())=U (pn ns,dO):=by
 unfold pn
 by_cases c0:ns.length=0
 ·refine dF.up λn _=> ?_
  have d:I ((((ns,())).1.length:Int)=0)=true:=ab (by show(ns.length:Int)=0;omega);rw[wZ,c8 d,ab c0];rfl
 have d0:I ((((ns,())).1.length:Int)=0)=false:=aa (by show¬ (ns.length:Int)=0;omega);rw[aa c0]
 by_cases c1:3000<ns.length
 ·refine dF.up λn _=> ?_
  have d:I (3000<(((ns,())).1.length:Int))=true:=ab (by show 3000<(ns.length:Int);omega);rw[wZ,dz d0,c8 d,ab c1];rfl
 have hn:ns.length<=3000:=(by omega);have d1:I (3000<(((ns,())).1.length:Int))=false:=aa (by show¬ 3000<(ns.length:Int);omega);rw[aa c1]
 have wn:ar.wrap ((((ns,())).1.length) - 1)=((ns.length - 1:Nat)):=by
  show ar.wrap (ns.length - 1)=_;rw[wrap64 _ (by omega) (by omega)];omega
 have qY:(0<=((ns.length - 1:Nat):Int)&&((ns.length - 1:Nat):Int)<(((ns,()):Tr).1.length:Int))=true:=dm (show ns.length - 1<ns.length by omega)
 have start:∀n,qA (S.step (S.tab n)) (ns,())=_:=λn=>by
  rw[wZ,dz d0,dz d1,wn,c8 qY]
 by_cases c2:¬ nu ns ((ns.length - 1:Nat):Int)=1
 ·refine dF.up λn _=> ?_
  rw[start,c8 (by
   show(!(nu ns ((ns.length - 1:Nat):Int)=1))=av
   rw[aa c2];rfl),aa c2];rfl
 replace c2:=bV.1 c2
 rw[ab c2]
 have step2:∀n,qA (S.step (S.tab n)) (ns,())=_:=λn=>by
  rw[start,dz (by
   show(!(nu ns ((ns.length - 1:Nat):Int)=1))=aq
   rw[ab c2];rfl)]
 have h4:=af8 hN hn (0,0,())
 by_cases c3:BG ns<ns.length
 ·refine h4.up λn h=> ?_
  rw[ab c3]at h;rw[step2,ab c3];show(jR (S.tab n) (ns,()) (0,0,()) (ns.length:Int) 0).bind _=_;rw[h];rfl
 rw[aa c3]at h4⊢;have h3:=Ri hN hn c3 ns.length (aN ns.length 0) (aF _) (by simp) (λj=>by rw[Hz];omega);rw[Nat.sub_self]at h3
 have PZ:((0:Int)<=(ns.length:Int)&&(ns.length:Int)<=(ns.length:Int)&&(ns.length:Int)<=(lim:Int))=true:=by
  rw[ab (show(0:Int)<=(ns.length:Int)by omega),ab (show(ns.length:Int)<=(ns.length:Int)by omega),ab (show(ns.length:Int)<=(lim:Int)by unfold lim;omega)];rfl
 have NR:Evt λn=>qR (S.tab n) (ns,())=U (szS ns ns.length (aN ns.length 0),dO):=h3.up λn h=>by
  rw[G1,c8 PZ];show(jg (S.tab n) (aN ns.length 0) ns (ns.length:Int) 0).bind _=_;have h:jg (S.tab n) (aN ns.length 0) ns (ns.length:Int) 0=_:=h;rw[h];rfl
 have RQ:(szS ns ns.length (aN ns.length 0)).length=ns.length:=by rw[M0];simp
 have vR:=YN (ns,()) (0,0,()) (szS ns ns.length (aN ns.length 0)) (by omega)
 have aG2:imS ns ns.length (aN ns.length 0)=PO (szS ns ns.length (aN ns.length 0)):=by
  obtain⟨r,hr⟩:∃r,ns.length=r+1:=⟨ns.length - 1,by omega⟩;have:=af7 ns (Lm c3) r (aN ns.length 0) (aN ns.length 0) (by omega) ⟨by simp,by simp,λj hj=>by omega,λj _=>⟨Hz ..,Hz ..⟩⟩;rw[<-hr]at this;exact this
 rw[aG2];simp
 generalize rr:szS ns ns.length (aN ns.length 0)=sz at NR RQ vR
 have Af:∀n,jR (S.tab n) (ns,()) (0,0,()) (((ns,()):Tr).1.length:Int) 0=U (aE (an ((ns,()),(0,0,()),())))->qA (S.step (S.tab n)) (ns,())=_:=λn h=>by
  rw[step2,h,al]
 unfold PO
 cases hz:I (stop (zq sz) sz.length 0<sz.length)with
 |true=>
  rw[hz]at vR
  refine((h4.and NR).and vR).up λn ⟨⟨h,h'⟩,vR⟩=> ?_
  rw[Af n h];show(qR (S.tab n) (ns,())).bind _=_;rw[h',al];show(ir (S.tab n) (ns,()) (0,0,()) sz sz (sz.length:Int) 0).bind _=_;rw[vR];rfl
 |false=>
  rw[hz]at vR
  have wz:ar.wrap ((sz.length:Int) - 1)=((sz.length - 1:Nat):Int):=by rw[wrap64 _ (by omega) (by omega)];omega
  have aI5:((0:Int)<=((sz.length - 1:Nat):Int)&&((sz.length - 1:Nat):Int)<(sz.length:Int))=true:=dm (show sz.length - 1<sz.length by omega)
  cases xk:I (get sz (sz.length - 1)=(sz.length:Int))with
  |false=>
   refine((h4.and NR).and vR).up λn ⟨⟨h,h'⟩,vR⟩=> ?_
   rw[Af n h];show(qR (S.tab n) (ns,())).bind _=_;rw[h',al];show(ir (S.tab n) (ns,()) (0,0,()) sz sz (sz.length:Int) 0).bind _=_;rw[vR,al];show brk ((0:Int)<=ar.wrap ((sz.length:Int) - 1)&&ar.wrap ((sz.length:Int) - 1)<(sz.length:Int)) (brk (!(sz.getD (ar.wrap ((sz.length:Int) - 1)).toNat 0=(sz.length:Int))) (U ((3,ar.wrap ((sz.length:Int) - 1),()),dO)) _) _=_;rw[wz,c8 aI5,dK,xk,c8 (by rfl)];rfl
  |true=>
   have DC:=Sq hN hn c3 (0,0,()) ns.length (aN ns.length 0) (aF _) (by simp)
   have ar3:(zd ns ns.length (aN ns.length 0)).length=ns.length:=by rw[JD];simp
   have uJ:=Y1 (0,0,()) (zd ns ns.length (aN ns.length 0)) (by omega);rw[ar3]at uJ
   refine(((h4.and NR).and vR).and (DC.and uJ)).up λn ⟨⟨⟨h,h'⟩,vR⟩,DC,uJ⟩=> ?_
   rw[Af n h];show(qR (S.tab n) (ns,())).bind _=_;rw[h',al];show(ir (S.tab n) (ns,()) (0,0,()) sz sz (sz.length:Int) 0).bind _=_;rw[vR,al];show brk ((0:Int)<=ar.wrap ((sz.length:Int) - 1)&&ar.wrap ((sz.length:Int) - 1)<(sz.length:Int)) (brk (!(sz.getD (ar.wrap ((sz.length:Int) - 1)).toNat 0=(sz.length:Int))) (U ((3,ar.wrap ((sz.length:Int) - 1),()),dO)) _) _=_;rw[wz,c8 aI5,dK,xk,dz (by rfl)];show brk ((0:Int)<=(ns.length:Int)&&(ns.length:Int)<=(ns.length:Int)&&(ns.length:Int)<=(lim:Int)) ((pj (S.tab n) (ns,()) (0,0,()) (aN ns.length 0) (ar.wrap ((ns.length:Int) - 1))).bind _) _=_;rw[c8 PZ,wrap64 _ (by omega) (by omega),DC,al];show(jZ (S.tab n) (0,0,()) (zd ns ns.length (aN ns.length 0)) ((zd ns ns.length (aN ns.length 0)).length:Int) 0).bind _=_;rw[ar3,uJ,al];cases I (stop (vj (zd ns ns.length (aN ns.length 0))) ns.length 0<ns.length)<;>rfl
end
end Go.Abs.D
end

section
namespace Go.Abs.D
def Bd (names:List LI)(text:LI):Prop:=text.length<=4000/\names.length<=200/\∀m∈names,m.length<=40
theorem Pj (h:jS k s=av):s.length<=40:=by
 simp_all[jS]
def aA9 (h:NM names a b=av)(hb:b<=200):names.length<=200/\∀m∈names,m.length<=40:=by
 grind [NM,Pj]
def Ws (names:List LI)(text:LI)(b:Bool):Prop:=b=av->Bd names text
variable{ks:LI}{names:List LI}{op num:Int}{text:LI}{kind:Int}{t:Tr}{x:cZ.den}
def Uj (h:Ws names text b):Ws names text (a&&b):=λk=>h (by simp_all)
def RK (h:Ws names text a):Ws names text (a&&b):=λk=>h (by simp_all)
def PM:Ws names text false:=λk=>by cases k
def zc:Ws names text (PL aq b c aq names.length op num text):=λk=>by
 unfold PL at k;simp only[bH,aA,ad]at k;obtain⟨h1,_,_,h2⟩:=k;subst h2;have:names=[]:=bu (by omega);subst this;exact⟨by simp,by simp,λm hm=>by grind⟩
def LZ (hh:hi<=200):Ws names text (PL av b c aq names.length op num text&&(NM names lo hi&&X)):=λk=>by
 simp at k;obtain⟨k,k2,_⟩:=k;unfold PL at k;simp only[bH,aA,ad]at k;obtain⟨_,_,_,h2⟩:=k;subst h2;have:=aA9 k2 hh;exact⟨by simp,this⟩
def Ad (hX:X=av->text.length<=4000):Ws names text (PL aq b c av names.length op num text&&X):=λk=>by
 simp at k;obtain⟨k,k2⟩:=k;unfold PL at k;simp only[bH,aA,ad]at k;have:names=[]:=bu (by omega);subst this;exact⟨hX k2,by simp,λm hm=>by grind⟩
def FR (h:jS k text=av):text.length<=4000:=by grind [Pj]
theorem Dv (h1:Ws names text a)(h2:Ws names text b):Ws names text (bif c then a else b):=by grind
theorem kC (h1:Ws names text (An2 a d))(h2:Ws names text (An2 b d)):Ws names text (An2 (bif c then a else b) d):=by grind
def mJ (h:Ws names text b):Ws names text (An2 (an (b,())) d):=h
def Wy (h:Ws names text d):Ws names text (An2 (aE (an y)) d):=h
def Z8 (hd:Ws names text d):Ws names text (An2 (Q41 t x ks names op num text kind fl) d):=by
 refine kC (mJ ?_) (kC (mJ ?_) (kC (mJ ?_) (Wy hd)))<;>(repeat first|exact zc|exact RK zc|simp_all[LZ]|exact Ad FR|exact Ad (λh=>by omega)|exact PM|apply Uj)
def ab4 (hd:Ws names text d):Ws names text (An2 (Q28 t x ks names op num text kind fl) d):=by
 refine kC (mJ ?_) (kC (mJ ?_) (kC (mJ ?_) (kC (mJ ?_) (kC (mJ ?_) (kC (Z8 hd) (Z8 hd))))))<;>(repeat first|exact zc|exact RK zc|simp_all[LZ]|exact Ad FR|exact Ad (λh=>by omega)|exact PM|apply Uj)
def aa6 (hd:Ws names text d):Ws names text (An2 (Q18 t x ks names op num text kind fl) d):=by
 refine kC (mJ ?_) (kC (mJ ?_) (kC (mJ ?_) (kC (mJ ?_) (kC (mJ ?_) (kC (mJ ?_) (kC (mJ ?_) (kC (mJ ?_) (kC (mJ ?_) (kC (mJ ?_) (kC (mJ ?_) (Wy hd)))))))))))<;>(repeat first|exact zc|exact RK zc|exact LZ (by decide)|exact Ad FR|exact Ad (λh=>by omega)|exact PM|apply Uj)
def Zk (hd:Ws names text d):Ws names text (An2 (Q7 t x ks names op num text kind fl) d):=by
 refine kC (mJ ?_) (kC (mJ ?_) (kC (mJ ?_) (kC (mJ ?_) (kC (mJ ?_) (kC (aa6 hd) (aa6 hd))))))<;>(repeat first|exact zc|exact RK zc|exact LZ (by decide)|exact Ad FR|exact Ad (λh=>by have:=of_decide_eq_true h;omega)|exact PM|apply Uj)
def aS6:Ws names text (KS t x ks names op num text kind):=by
 have hd:Ws names text (bif(kind=15)then PL aq aq aq aq names.length op num text&&((ks.length:Int)=1&&EX ks 0 1)else aq):=Dv (RK zc) PM;refine Dv ?_ (Dv ?_ (Dv ?_ (Dv ?_ (Dv ?_ (kC (ab4 hd) (ab4 hd))))))<;>(repeat first|exact zc|exact RK zc|exact LZ (by decide)|exact Ad FR|exact Ad (λh=>by omega)|exact PM|apply Uj)
def aQ2:Ws names text (KE t x ks names op num text kind):=by
 have hd:Ws names text (bif(kind=42)then((ks.length:Int)=1)&&(EX ks 0 1&&(PL aq aq aq av names.length op num text&&jS 1 text))else aq):=Dv (by(repeat first|exact zc|exact RK zc|exact LZ (by decide)|exact Ad FR|exact Ad (λh=>by omega)|exact PM|apply Uj)) PM;exact kC (Zk hd) (kC (Zk hd) (kC (Zk hd) (Zk hd)))
def oK (h:okN ns i x=av):Bd (df x) x.2.2.2.2.2.2.1/\(cX x).length<=200/\∀k∈cX x,0<=k/\k<i:=by
 unfold okN at h
 by_cases c1:x.2.1<0
 ·simp_all
 by_cases c2:x.2.2.1<x.2.1
 ·simp_all
 by_cases c3:x.2.2.2.1<0
 ·simp_all
 by_cases c4:200<(cX x).length
 ·simp_all
 rw[aa c1,aa c2,aa c3,aa c4]at h
 cases ha:(cX x).all (inR i)with
 |false=>simp_all
 |true=>
  rw[ha,ah]at h;refine⟨?_,by omega,λk hk=> ?_⟩
  ·cases hs:gB x.1 with
   |true=>rw[hs]at h;exact aS6 h
   |false=>rw[hs]at h;exact aQ2 h
  simp_all[aK,inR]
end Go.Abs.D
end

section
namespace Go.Abs.D
def yX (h:(pn ns).1=0):pn ns=(0,0,())/\0<ns.length/\ns.length<=3000/\∀j (hj:j<ns.length),∀k∈cX ns[j],0<=k/\k<j:=by
 unfold pn at h⊢
 by_cases c0:ns.length=0
 ·simp_all
 by_cases c1:3000<ns.length
 ·simp_all
 by_cases c2:nu ns ((ns.length - 1:Nat))=1
 ·by_cases c3:BG ns<ns.length
  ·simp_all
  refine⟨?_,by omega,by omega,λj hj=>Cc c3 j hj⟩
  grind
 simp_all
def CO (hN:∀x∈ns,NodeOk x):Evt λn=>zA (S.tab n) (ns,())=U (I ((pn ns).1=0),dO):=(Ib hN).up λn h=>by
 rw[Kw,h,al]
 by_cases c:(pn ns).1=0
 all_goals simp_all[yX,aa,cF]
def TU (h:(pn ns).1=0) (j) (hj:j<ns.length):okN ns j ns[j]=true:=by
 have hb:¬ BG ns<ns.length:=by
  unfold pn at h
  grind
 have hq:okQ ns j=true:=rD ns.length 0 j (aU _) (by grind [BG]);unfold okQ EL at hq;simp_all
end Go.Abs.D
end

section
namespace Go.Abs.D
theorem FG {s:LI}(Hh:∀c∈s,isByte c) (a b):∀c∈sub s a b,isByte c:=λc hc=>Hh c (bn1 (bn2 hc))
theorem QY (Hh:∀c∈s,isByte c) (a b):∀c∈eV s a b,isByte c:=λc hc=>Hh c (bn1 (bn2 hc))
theorem Oo (Hh:∀c∈s,isByte c) (i j) (f):∀c∈(mY s i j f).2.2.2.2.2.1,isByte c:=by
 grind [mY,decide,dv,eV,QY]
theorem U7 (Hh:∀c∈s,isByte c){i:Nat}{t:di.den}(h:oh s i= .inr t):∀c∈t.2.2.2.2.2.1,isByte c:=by
 unfold oh at h
 have ex:∀{j f},xh s i j f= .inr t->∀c∈t.2.2.2.2.2.1,isByte c:=λ{j f} h=>by
  unfold xh at h
  grind [decide,get,dT,qa,Oo]
 have fr:∀j,xj s i j= .inr t->∀c∈t.2.2.2.2.2.1,isByte c:=λj h=>by
  grind [xj,decide,get,dT]
 cases h0:(get s i=48)&&(get s (i+1)=120)with
 |false=>grind
 |true=>
  unfold mZ at h
  grind
def VC (Hh:∀c∈s,isByte c){i:Nat}{t:di.den}(h:oL s i= .inr t):∀c∈t.2.2.2.2.2.1,isByte c:=by
 unfold oL at h
 cases hl:eW (get s i)with
 |true=>
  grind [KW,FG]
 |false=>
  rw[hl]at h
  cases hd:dT (get s i)with
  |true=>grind [U7]
  |false=>
   rw[hd]at h
   cases ue:I (get s i=34)with
   |true=>
    rw[ue]at h;have h:K3 i (iP s s.length (i+1) [])= .inr t:=h
    cases hr:iP s s.length (i+1) []with
    |inl e=>rw[hr]at h;cases h
    |inr y=>
     rw[hr]at h
     injection h with h
     intro c hc
     grind [byte,isByte]
   |false=>
    grind [Bw,oJ,p3,decide]
theorem no6:(allI.all λs=>kinds.all λk=>match stI s k with| .left l=> !l.contains 6|_=>av)=true:=by kernel_rfl
theorem aS5:(allI.all λs=> !isLeft (stI s 6))=true:=by kernel_rfl
def aa2 (h0:0<=k)(h1:k<=78):∀{a l:LI},gdI a->6∉a->kV a k= .left l->6∉l
 |[],_,_,_,e=>by cases e
 |s::r,l,ha,h6,e=>by
  have e:(stI s k).then r (kV r k)= .left l:=(ky stI s r k).symm.trans e
  have hr:6∉r:=λh=>h6 (aB _ h)
  cases hs:stI s k with
  |no=>rw[hs]at e;cases e
  |gone=>rw[hs]at e;exact aa2 h0 h1 (λx hx=>ha x (aB _ hx)) hr e
  |left m=>
   rw[hs]at e
   injection e with e
   subst e;intro hm
   rcases aP.1 hm with hm|hm
   ·rcases ha s (aD ..)with ht|ht
    ·grind [xQ,decide]
    grind [aK,no6,mC,List.contains_iff_mem]
   simp_all
def aa0:∀ks {a b:LI},(∀k∈ks,0<=k/\k<=78)->gdI a->6∉a->foldI a ks=U b->6∉b
 |[],a,b,_,_,h6,e=>by injection e with e;simp_all
 |k::ks,a,b,hk,ha,h6,e=>by
  have e:(match kV a k with| .left l=>foldI l ks|_=>az)=U b:=e;obtain⟨k0,k1⟩:=hk k (aD ..)
  cases ho:kV a k with
  |no=>rw[ho]at e;cases e
  |gone=>rw[ho]at e;cases e
  |left l=>rw[ho]at e;exact aa0 ks (λx hx=>hk x (aB _ hx)) (Jl k0 k1 ha ho) (aa2 k0 k1 ha h6 ho) e
def OV:∀{a:LI},gdI a->6∉a->yk a 6=av->kV a 6= .gone
 |[],_,_,_=>rfl
 |s::r,ha,h6,h=>by
  have ho:kV (s::r) 6=(stI s 6).then r (kV r 6):=ky stI s r 6
  have hr:6∉r:=λh=>h6 (aB _ h)
  unfold yk at h;rw[ho]at h⊢
  have hs:isLeft (stI s 6)=false:=by
   rcases ha s (aD ..)with ht|ht
   ·rw[xQ ht.2,aa (show s≠6 from λe=>h6 (by simp_all))];rfl
   grind [aK,aS5]
  cases hq:stI s 6 with
  |no=>rw[hq]at h;cases h
  |left l=>rw[hq]at hs;cases hs
  |gone=>rw[hq]at h;exact OV (λx hx=>ha x (aB _ hx)) hr h
theorem Qy (f) (hd:f=aq->digits s i j):(mY s i j f).2.1=(i:Int)/\rg (mY s i j f).2.2.2.2.1:=by
 unfold mY
 cases f with
 |true=>grind
 |false=>
  cases hl:I (dv 0 (eV s i j)<9223372036854775808)with
  |false=>grind
  |true=>
   have h1:=GA (eV s i j) 0 (cM 0) (hd rfl)
   grind
def Yo (hi:i<s.length){t:di.den}(h:oL s i= .inr t):t.2.1=(i:Int)/\rg t.2.2.2.2.1:=by
 unfold oL at h
 cases hl:eW (get s i)with
 |true=>
  rw[hl]at h
  injection h with h
  subst h;unfold KW
  grind
 |false=>
  rw[hl]at h
  cases hd:dT (get s i)with
  |true=>
   rw[hd]at h
   have ex:∀{j f},(f=aq->digits s i j)->xh s i j f= .inr t->t.2.1=i/\rg t.2.2.2.2.1:=λ{j f} hf h=>by
    unfold xh at h
    grind [decide,get,dT,qa,Qy]
   have d1:digits s i (i+1):=λc hc=>by
    refine Ep (p:=dT) (a:=i) 1 (by omega) (λk h1 h2=> ?_) c hc
    grind
   have fr:∀j,digits s i j->xj s i j= .inr t->t.2.1=i/\rg t.2.2.2.2.1:=λj hj h=>by
    grind [xj,decide,get,dT]
   unfold oh at h
   cases h0:(get s i=48)&&(get s (i+1)=120)with
   |false=>
    grind [decide,get,Di]
   |true=>
    rw[h0]at h;unfold mZ at h
    by_cases he:py s (i+18) (i+2)=i+2
    ·simp_all
    ·simp[he]at h
     cases hx:jm (get s (py s (i+18) (i+2)))with
     |true=>simp_all
     |false=>simp only[hx,cf,if_false]at h;injection h with h;subst h;exact⟨rfl,SJ _⟩
  |false=>
   rw[hd]at h
   cases ue:I (get s i=34)with
   |true=>
    rw[ue]at h;have h:K3 i (iP s s.length (i+1) [])= .inr t:=h
    cases hr:iP s s.length (i+1) []with
    |inl e=>rw[hr]at h;cases h
    |inr y=>rw[hr]at h;injection h with h;grind
   |false=>
    rw[ue]at h;unfold Bw at h
    grind
def VQ (Hh:∀c∈s,isByte c):∃(c p:Int)(ns:List Node),(∀x∈ns,Bu x)/\ns.length<=300000/\((c=0->(pn ns).1=0)/\(c≠0->ns=[]))/\((c=0\/c=2)\/c=1/\0<=p/\p<=s.length)/\
  (Evt λn=>qB (S.tab n) s=U ((c,p,(ns,()),()),cV))/\Evt λn=>qC (S.tab n) s=U ((c,p,(ns,()),()),cV):=by
 by_cases hs:65536<s.length
 ·refine⟨2,0,[],(λ_ h=>nomatch h),by simp,⟨λh=>absurd h (by decide),λ_=>rfl⟩, .inl (.inr rfl),dF.up λn _=> ?_,dF.up λn _=> ?_⟩
  ·show qB (S.step (S.tab n)) _=_;rw[tN,c8 (by simp;omega)]
  ·show qC (S.step (S.tab n)) _=_;rw[tK,c8 (by simp;omega)]
 have hs:s.length<=65536:=(by omega)
 have hd:I (65536<(s.length:Int))=false:=by simp;omega
 rcases Yh hs Hh with⟨p,hp,e1,e2⟩|⟨out,a,b,cs,top,line,ga,gb,hn,hr,ES,h6,h7,h8,h9,e1,e2⟩
 ·refine⟨1,p,[],(λ_ h=>nomatch h),by simp,⟨λh=>absurd h (by decide),λ_=>rfl⟩, .inr ⟨rfl,by omega,by omega⟩, ?_,e1.up λn ⟨l,h⟩=> ?_⟩
  ·have h2:Evt λn=>pF (S.tab n) s=U (([],(p:Int),()),cV):=e2.up λn ⟨c,t,h⟩=>by
    show pF (S.step (S.tab n)) _=_;rw[yI,h,al];dsimp only;rw[dn (show(0:Int)<=(p:Int)by omega)]
   refine h2.up λn h=> ?_
   show qB (S.step (S.tab n)) _=_;rw[tN,dz hd,h,al];dsimp only;rw[dn (show(0:Int)<=(p:Int)by omega)]
  ·show qC (S.step (S.tab n)) _=_;rw[tK,dz hd,h,al];dsimp only;rw[dn (show(0:Int)<=(p:Int)by omega)]
 have bm9:∀t∈out,1<=kd t/\kd t<=78:=λt ht=>by
  rcases h9 t ht with⟨i,line,t0,hi,_,_,hl,rfl⟩|⟨i,line,_,_,_,rfl⟩
  ·exact⟨(Fw hl).1,(Fw hl).2.1⟩
  ·exact⟨by show(1:Int)<=5;decide,by show(5:Int)<=78;decide⟩
 have Zp:∀t∈out,∀c∈t.2.2.2.2.2.1,isByte c:=λt ht=>by
  rcases h9 t ht with⟨i,line,t0,hi,_,_,hl,rfl⟩|⟨i,line,_,_,_,rfl⟩
  ·have:=VC Hh hl;exact this
  ·exact λ_ h=>nomatch h
 have bm7:∀t∈out,TokR t:=λt ht=>by
  rcases h9 t ht with⟨i,line,t0,hi,bj8,_,hl,rfl⟩|⟨i,line,hi,bj8,_,rfl⟩
  ·obtain⟨r1,r2⟩:=Yo hi hl;obtain⟨⟨e,he,_,NP⟩,_⟩:=Ly (by omega) hi hl;exact⟨(by show rg t0.2.1;rw[r1];exact⟨by omega,by omega⟩),(by show rg t0.2.2.1;rw[he];exact⟨by omega,by omega⟩),⟨by show _<=(line:Int);omega,by show(line:Int)<=_;omega⟩,r2⟩
  ·exact⟨⟨by show _<=(i:Int);omega,by show(i:Int)<=_;omega⟩,⟨by show _<=((i+1:Nat):Int);omega,by show((i+1:Nat):Int)<=_;omega⟩,⟨by show _<=(line:Int);omega,by show(line:Int)<=_;omega⟩,(by decide:rg 0)⟩
 have Qb:=OT ga gb hn (k:=6) (by decide) (by decide);obtain⟨ds,oq,_,_,XI⟩:=EC (k:=6) (by decide) (by decide) cs ES b top gb.ok hr;have s6:=JQ (k:=6) (by decide) (by decide) a ga
 have XI:Evt λn=>od (S.tab n) (cs,()) top 6=U ((oq,lV b 6,()),(cs++ds,()),(),(),()):=XI
 have s6:Evt λn=>nY (S.tab n) (a++[6]) 6=U (yk a 6,cW):=s6
 have UK:Evt λn=>pF (S.tab n) s=U (bif yk a 6 then((out++[(6,(s.length:Int),(s.length:Int),(line:Int),0,[],())],(-1:Int),()),cV)else(([],(s.length:Int),()),cV)):=(e2.and XI).up λn ⟨h,hf⟩=>by
  show pF (S.step (S.tab n)) _=_;rw[yI,h,al];dsimp only;rw[dz (by rfl),hf,al];dsimp only;rw[<-Qb]
  cases yk a 6 with
  |true=>exact dz rfl
  |false=>exact c8 rfl
 cases hc:yk a 6 with
 |false=>
  rw[hc]at UK s6;refine⟨1,(s.length:Int),[],(λ_ h=>nomatch h),by simp,⟨λh=>absurd h (by decide),λ_=>rfl⟩, .inr ⟨rfl,by omega,by omega⟩,UK.up λn h=> ?_,(e1.and s6).up λn ⟨h,h2⟩=> ?_⟩
  ·show qB (S.step (S.tab n)) _=_;rw[tN,dz hd,h];simp only[af,al];rw[dn (show(0:Int)<=(s.length:Int)by omega)]
  ·show qC (S.step (S.tab n)) _=_;rw[tK,dz hd,h,al];dsimp only;rw[dz (by rfl),h2,al];exact c8 rfl
 |true=>
  rw[hc]at UK s6
  have Ch:∀k∈out.map kd,0<=k/\k<=78:=λk hk=>by
   obtain⟨t,ht,rfl⟩:=List.mem_map.1 hk;have:=bm9 t ht;exact⟨by omega,this.2⟩
  have a05:∀a:Nat,0<=KA out a/\KA out a<=78:=λa=>by
   unfold KA
   rcases bB a (out.map kd).length with h|h
   ·rw[aG,aL h];exact Ch _ (bF h)
   ·rw[aG,bR h];exact⟨by decide,by decide⟩
  have ZL:∀a:Nat,∀c∈(tkA out a).2.2.2.2.2.1,isByte c:=λa=>by
   unfold tkA at_;rw[bm]
   rcases bB a out.length with h|h
   ·rw[aG,aL h];exact Zp _ (bF h)
   ·rw[aG,bR h];exact λ_ h=>nomatch h
  have bm0:∀a:Nat,TokR (tkA out a):=λa=>by
   unfold tkA at_;rw[bm]
   rcases bB a out.length with h|h
   ·rw[aG,aL h];exact bm7 _ (bF h)
   ·rw[aG,bR h];exact⟨by decide,by decide,by decide,by decide⟩
  have hL:out.length<=65536:=(by omega)
  let eI:di.den:=(6,0,0,0,0,[],())
  let eS:di.den:=(6,(s.length:Int),(s.length:Int),(line:Int),0,[],())
  let G:Toks:=⟨out,out++[eI],out++[eS],(by simp),(by simp),(λa h=>Bp h),(λa h=>Bp h),(λa h=>FQ rfl h),(λa h=>FQ rfl h),hL,a05,ZL,bm0,aB7 rfl rfl hL⟩
  have hA:Ac out [1000] 0:=⟨a,by rw[bY];exact h8,OV ga (aa0 _ Ch aa3 (by decide) h8) hc⟩;obtain⟨xs,nd,q1,q2,q3,qI,qS⟩:=QL G hA;have q2:nd.length<=4*out.length:=q2
  have hw:=λx hx=>q3 x hx
  generalize Kh:nd++[((1,0,(s.length:Int),1,0,0,[],[],xs,()):Node)]=ns
  have ay2:∀x∈ns,Bu x:=λx hx=>by
   rw[<-Kh]at hx
   rcases aP.1 hx with hx|hx
   ·exact q3 x hx
   ·rw[cg.1 hx];exact⟨⟨(λ_ h=>nomatch h),(λ_ h=>nomatch h),aU _,by show xs.length<=_;omega⟩,(by decide:rg 1),(by decide:rg 0),⟨by show _<=(s.length:Int);omega,by show(s.length:Int)<=_;omega⟩,(by decide:rg 1),(by decide:rg 0),(by decide:rg 0)⟩
  have hN:∀x∈ns,NodeOk x:=λx hx=>(ay2 x hx).1
  have N0:ns.length=nd.length+1:=by rw[<-Kh];simp
  have aq2:Evt λn=>vB (S.tab n) s (out++[(6,(s.length:Int),(s.length:Int),(line:Int),0,[],())])=U ((ns,()),cW):=qS.up λn h=>by
   have h:lQ (S.tab n) (out++[(6,(s.length:Int),(s.length:Int),(line:Int),0,[],())],0,[],()) 6=_:=h;show vB (S.step (S.tab n)) _ _=_;rw[GJ,h,al];dsimp only;rw[c8 (fU (by unfold lim;simp;omega)),Kh]
  have aU8:Evt λn=>lf (S.tab n) (G.tI,(out.length:Int),nd,()) (1,0,(s.length:Int),1,0,0,[],[],xs,())=U ((nd.length:Int),(G.tI,(out.length:Int),ns,()),uN,()):=
   G.base.mono λn B=>by rw[B.aI _ _ _ (by omega),Kh]
  have RW:Evt λn=>qB (S.tab n) s=U (bif((pn ns).1=0)then((0,0,(ns,()),()),cV)else((2,0,([],()),()),cV)):=((UK.and aq2).and (A4 hN)).up λn ⟨⟨h1,h2⟩,h3⟩=>by
   show qB (S.step (S.tab n)) _=_;rw[tN,dz hd,h1];simp;rw[dz (by rfl),h2,al];dsimp only;rw[h3,Option.map_some,al]
   cases I ((pn ns).1=0)with
   |true=>exact dz rfl
   |false=>exact c8 rfl
  have ac4:Evt λn=>qC (S.tab n) s=U (bif((pn ns).1=0)then((0,0,(ns,()),()),cV)else((2,0,([],()),()),cV)):=((((e1.and s6).and qI).and aU8).and (CO hN)).up λn ⟨⟨⟨⟨h1,h2⟩,h3⟩,h4⟩,h5⟩=>by
   have h3:jB (S.tab n) (out++[(6,0,0,0,0,[],())],0,[],())=_:=h3;have h4:lf (S.tab n) (G.tI,(G.out.length:Int),nd,()) _=_:=h4;show qC (S.step (S.tab n)) _=_;rw[tK,dz hd,h1,al];dsimp only;rw[dz (by rfl),h2,al];dsimp only;rw[dz (by rfl),c8 (fU (by unfold lim;simp;omega)),h3,al];dsimp only;rw[h4,al];dsimp only;rw[h5,Option.map_some,al]
   cases I ((pn ns).1=0)with
   |true=>exact dz rfl
   |false=>exact c8 rfl
  cases ht:I ((pn ns).1=0)with
  |true=>
   rw[ht]at RW ac4;exact⟨0,0,ns,ay2,by omega,⟨λ_=>of_decide_eq_true ht,λh=>absurd rfl h⟩, .inl (.inl rfl),RW,ac4⟩
  |false=>
   rw[ht]at RW ac4;exact⟨2,0,[],(λ_ h=>nomatch h),by simp,⟨λh=>absurd h (by decide),λ_=>rfl⟩, .inl (.inr rfl),RW,ac4⟩
end Go.Abs.D
end

section
namespace Go.Abs.D
open Go.Proofs
def Cq:LI:=[48,49,50,51,52,53,54,55,56,57,97,98,99,100,101,102]
def esc (c:Int):LI:=
 if c=10 then [92,110]else if c=9 then [92,116]else if c=34 then [92,34]else if c=92 then [92,92]
 else if c<32\/126<c then [92,120,Cq.getD (c/16).toNat 0,Cq.getD (c % 16).toNat 0]else [c]
theorem HE (c):(esc c).length<=4:=by
 grind [esc]
def Q2 (T) (t0 t4) (i c) (h0:0<=i)(hi:i<t0.length)(hl:t0.length<=4000)(hc:t0.getD i.toNat 0=c)(hb:isByte c)(hf:t4.length+4<=lim):
  gG (S.step T) t0 Cq t4 i=gG T t0 Cq (t4++esc c) (i+1):=by
 rw[v8];obtain⟨L9,UB⟩:=hb;have w:ar.wrap (i+1)=i+1:=wrap64 _ (by omega) (by omega);have hh:Cq.length=16:=rfl;simp only[hc,aD9 c ⟨L9,UB⟩,Tb c ⟨L9,UB⟩,w,hh,iJ,h0,hi,decide_true,Bool.and_true,ah,aw,ay]
 grind [fits,fU,decide,esc]
def aD6 (l:LI)(x:Int)(h0:0<=x)(h1:x<l.length):sub l x (x+1)=[l.getD x.toNat 0]:=by
 unfold sub
 apply bn5
 intro j;rw[cJ,cT]
 grind
def VD (c):Bld.idx [10,9,34,92] c 0=if c=10 then 0 else if c=9 then 1 else if c=34 then 2 else if c=92 then 3 else -1:=by
 simp only[Bld.idx]
 grind
def Qt (T) (t0 t3) (i c) (h0:0<=i)(hi:i<t0.length)(hl:t0.length<=4000)(hc:t0.getD i.toNat 0=c)(hb:isByte c)(hf:t3.length+4<=lim)
  (aJ8:kM T [10,9,34,92] c=U (Bld.idx [10,9,34,92] c 0,(),(),())):
  lG (S.step T) t0 t3 i=lG T t0 (t3++esc c) (i+1):=by
 rw[yH];obtain⟨L9,UB⟩:=hb;have w:ar.wrap (i+1)=i+1:=wrap64 _ (by omega) (by omega);have hd:[48,49,50,51,52,53,54,55,56,57,97,98,99,100,101,102]=Cq:=rfl;have hh:Cq.length=16:=rfl;have w1:aO.wrap (c/16+1)=c/16+1:=Bx _ (by omega) (by omega);have w2:aO.wrap (c % 16+1)=c % 16+1:=Bx _ (by omega) (by omega);have s1:sub Cq (c/16) (c/16+1)=[Cq.getD (c/16).toNat 0]:=aD6 _ _ (by omega) (by omega);have s2:sub Cq (c % 16) (c % 16+1)=[Cq.getD (c % 16).toNat 0]:=aD6 _ _ (by omega) (by omega)
 have b1:bounds 16 (c/16) (c/16+1)=true:=by
  unfold bounds;simp;omega
 have b2:bounds 16 (c % 16) (c % 16+1)=true:=by
  unfold bounds;simp;omega
 have f3:fits (2+1)=true:=rfl;have f4:fits (([92,120]++[Cq.getD (c/16).toNat 0]).length+1)=true:=rfl;have g1:fits (t3.length+1)=true:=fU (by omega)
 have bh5:∀x,fits ((t3++[x]).length+1)=true:=λx=>fU (by simp;omega)
 have g4:∀x y:Int,fits (t3.length+([92,120]++[x]++[y]).length)=true:=λx y=>fU (by simp;omega)
 simp only[hc,hd,aD9 c ⟨L9,UB⟩,Tb c ⟨L9,UB⟩,w,w1,w2,s1,s2,b1,b2,iJ,h0,hi,decide_true,Bool.and_true,ah,aJ8,VD,cR,f3,f4,Bld.og,Bld.mH,g1,bh5,g4,al];unfold esc
 by_cases h1:c=10
 ·simp[h1]
 by_cases h2:c=9
 ·simp[h2]
 by_cases h3:c=34
 ·simp[h3]
 by_cases h4:c=92
 ·simp[h4]
 by_cases h5:c<32
 ·simp[h1,h2,h3,h4,h5]
 by_cases h6:126<c
 ·simp[h1,h2,h3,h4,h5,h6]
 ·simp[h1,h2,h3,h4,h5,h6]
def sW (s:LI):LI:=if 4000<s.length then []else [34]++s.flatMap esc++[34]
def LS:∀l pre t4,(∀c∈l,isByte c)->(pre++l).length<=4000->t4.length+4*l.length<=30000->
  Evt λn=>gG (S.tab n) (pre++l) Cq t4 pre.length=U (an (t4++l.flatMap esc,()))
 |[],pre,t4,_,hl,_=>Evt.up (Evt.of (p:=λ_=>True) λ_=>trivial) λn _=>by
  simp_all[v8,dz]
 |c::l,pre,t4,hb,hl,hf=>by
  have hlen:(pre++c::l).length=pre.length+(l.length+1):=(by simp);have e4:=HE c;have ih:=LS l (pre++[c]) (t4++esc c) (λx hx=>hb x (aB _ hx)) (by simp_all) (by grind)
  refine ih.up λn h=> ?_
  rw[Q2 (S.tab n) _ t4 pre.length c (by omega) (by omega) hl (oH pre c l 0) (hb c (aD ..)) (by grind [lim])];simp_all
def af0 (c) (h:isByte c):Evt λn=>kM (S.tab n) [10,9,34,92] c=U (Bld.idx [10,9,34,92] c 0,(),(),()):=
 Evt.up (Evt.up (Evt.of (p:=λ_=>True) λ_=>trivial) (q:=λn=>l9 (S.tab n) [10,9,34,92] c=U (Bld.idx [10,9,34,92] c 0,(),(),())) λn _=>by
  grind [qe,Bld.w7,MW]) λn h=>by
  grind [ur]
def LD:∀l pre t3,(∀c∈l,isByte c)->(pre++l).length<=4000->t3.length+4*l.length<=30000->
  Evt λn=>lG (S.tab n) (pre++l) t3 pre.length=U (an (t3++l.flatMap esc,()))
 |[],pre,t3,_,hl,_=>Evt.up (Evt.of (p:=λ_=>True) λ_=>trivial) λn _=>by
  simp_all[yH,dz]
 |c::l,pre,t3,hb,hl,hf=>by
  have hlen:(pre++c::l).length=pre.length+(l.length+1):=(by simp);have e4:=HE c;have ih:=LD l (pre++[c]) (t3++esc c) (λx hx=>hb x (aB _ hx)) (by simp_all) (by grind)
  refine(ih.and (af0 c (hb c (aD ..)))).up λn ⟨h,aJ8⟩=> ?_
  rw[Qt (S.tab n) _ t3 pre.length c (by omega) (by omega) hl (oH pre c l 0) (hb c (aD ..)) (by grind [lim]) aJ8];simp_all
theorem LJ (c) (h:isByte c):∀x∈esc c,isByte x:=by
 have hx:∀n:Nat,isByte (Cq.getD n 0):=by
  intro n;rw[aG]
  cases e:Cq[n]? with
  |none=>exact⟨by decide,by decide⟩
  |some v=>
   have:=List.mem_of_getElem? e;have Ay:∀v∈Cq,0<=v/\v<256:=(by decide);exact Ay v this
 intro x XC;unfold esc at XC
 repeat' split at XC
 all_goals simp at XC
 all_goals rcases XC with rfl|rfl|rfl|rfl
 all_goals first|exact hx _|exact h|exact⟨by omega,by omega⟩
def OJ (l:LI):(l.flatMap esc).length<=4*l.length:=by
 induction l with
 |nil=>simp
 |cons c l ih=>
  grind [HE,au,aw]
def QW (s) (hb:∀c∈s,isByte c)(hl:¬ 4000<s.length):Evt λn=>qQ (S.tab n) s=U (sW s,(),()):=by
 refine(LS s [] [34] hb (by simp_all) (by grind)).up λn h=> ?_
 have h':gG (S.tab n) s [48,49,50,51,52,53,54,55,56,57,97,98,99,100,101,102] [34] 0=U (an ([34]++s.flatMap esc,())):=h;have:=OJ s;rw[GU,h'];simp only[al,dH,aH];rw[c8 (fU (by grind [lim,au,cR])),Es]
 ·grind [sW]
 ·intro c hc;simp only[aP,bA,List.not_mem_nil,or_false,List.mem_flatMap]at hc
  rcases hc with(rfl|⟨a,ha,hc⟩)|rfl
  ·exact⟨by decide,by decide⟩
  ·grind [LJ]
  ·exact⟨by decide,by decide⟩
def I6 (s) (hb:∀c∈s,isByte c):Evt λn=>xa (S.tab n) s=U (sW s,(),()):=by
 by_cases hl:4000<s.length
 ·exact Evt.up (Evt.of (p:=λ_=>True) λ_=>trivial) λn _=>by
   grind [CB,c8,sW]
 ·refine(LD s [] [34] hb (by simp_all) (by grind)).up λn h=> ?_
  have:=OJ s;rw[CB,dz (by grind)];have w0:Bld.og ([],34,())=U (av,[34],(),()):=rfl
  have w1:Bld.og ([34]++s.flatMap esc,34,())=U (av,[34]++s.flatMap esc++[34],(),()):=by
   show(bif fits _ then _ else _)=_
   grind [fU,lim,au,cR]
  have NU:∀c∈[34]++s.flatMap esc++[34],isByte c:=by
   intro c hc;simp only[aP,bA,List.not_mem_nil,or_false,List.mem_flatMap]at hc
   rcases hc with(rfl|⟨a,ha,hc⟩)|rfl
   ·exact⟨by decide,by decide⟩
   ·grind [LJ]
   ·exact⟨by decide,by decide⟩
  have w2:Bld.xN ([34]++s.flatMap esc++[34],())=U ([34]++s.flatMap esc++[34],(),()):=by
   show(bif fits _ then _ else _)=_;rw[fU (by simp only[lim,au,cR];omega)];show U (List.map byte _,(),())=_;rw[Es NU]
  simp_all[al,dH,aH,sW]
end Go.Abs.D
end

section
namespace Go.Abs.D
def dec (n:Int):LI:=Lx.ints (Lib.itoa n)
def rdg:Nat->Nat->LI
 |0,_=>[]
 |k+1,m=>bif ax m 0 then []else(48+((m % 10:Nat)))::rdg k (m/10)
def MK:∀k m,(rdg k m).length<=k
 |0,m=>aF _
 |k+1,m=>by
  unfold rdg;cases ax m 0
  ·have:=MK k (m/10);simp;omega
  ·simp
def Jj:∀k m,∀c∈rdg k m,isByte c
 |0,m,c,h=>by grind [rdg]
 |k+1,m,c,h=>by
  unfold rdg at h;cases hm:ax m 0
  ·rw[hm]at h;simp at h
   rcases h with rfl|h
   ·exact⟨by omega,by omega⟩
   ·exact Jj k (m/10) c h
  simp_all
theorem OX (m) (h:m<10):(((UInt8.ofNat (48+m)).toNat))=48+(m:Int):=by
 grind [UInt8.toNat_ofNat']
def M6:∀k m,0<m->m<10^k->(rdg k m).reverse=Lx.ints (cS m)
 |0,m,h0,h1=>by omega
 |k+1,m,h0,h1=>by
  unfold rdg
  have hb:ax m 0=false:=by
   grind [ax,b8]
  rw[hb];simp only[af,List.reverse_cons]
  by_cases hm:m<10
  ·have e0:m/10=0:=(by omega)
   have e1:rdg k (m/10)=[]:=by rw[e0];cases k<;>rfl
   rw[e1,cS,dif_pos hm];have e2:m % 10=m:=(by omega);rw[e2];unfold Lx.ints
   grind [List.reverse_nil,OX]
  ·have e3:cS m=cS (m/10)++[UInt8.ofNat (48+m % 10)]:=(by rw[cS,dif_neg hm]);rw[M6 k (m/10) (by omega) (by omega),e3];unfold Lx.ints
   grind [OX,bs3]
def zY:∀k n neg o,n.natAbs<10^k-> -9223372036854775808<=n->n<=9223372036854775807->o.length+k<=100->
  Evt λN=>jC (S.tab N) n neg o=U (an (neg,o++rdg k n.natAbs,()))
 |0,n,neg,o,h0,_,_,_=>dF.up λN _=>by
  grind [jC,qj,dz,rdg]
 |k+1,n,neg,o,h0,h1,h2,ho=>by
  by_cases hn:n=0
  ·subst hn
   refine dF.up λN _=> ?_
   show jC (S.step (S.tab N)) _ _ _=_;simp_all[qj,dz,rdg]
  ·have hb:ax n.natAbs 0=false:=by
    grind [ax,b8]
   have hq:(n.tdiv 10).natAbs=n.natAbs/10:=by grind
   have a50: -9223372036854775808<=n.tdiv 10:=(by omega);have aG8:n.tdiv 10<=9223372036854775807:=(by omega);have ih:=zY k (n.tdiv 10) neg (o++[48+((n.natAbs % 10:Nat):Int)]) (by omega) a50 aG8 (by grind);have hf:fits (o.length+1)=true:=fU (by grind [lim]);have w3:ar.wrap (n.tdiv 10)=n.tdiv 10:=wrap64 _ a50 (by omega)
   refine ih.up λN ih=> ?_
   show jC (S.step (S.tab N)) _ _ _=_;rw[qj,c8 (by simp_all),w3]
   have fin:o++[48+((n.natAbs % 10:Nat):Int)]++rdg k (n.tdiv 10).natAbs=o++rdg (k+1) n.natAbs:=by
    simp_all[hq,rdg]
   rw[fin]at ih
   by_cases NZ:n.tmod 10<0
   ·grind [wrap64,c8,ab,Bx]
   ·grind [dz,aa,wrap64,Bx,c8]
def yF (ds) (hd:∀c∈ds,isByte c)(hl:ds.length<=100):∀k (o:LI),k<=ds.length->o.length+k<=200->
  Evt λN=>lD (S.tab N) ds o (k - 1)=U (an (o++(ds.take k).reverse,()))
 |0,o,_,_=>dF.up λN _=>by
  grind [lD,tc,dz]
 |k+1,o,hk,ho=>by
  have mL:k<ds.length:=(by omega);have ih:=yF ds hd hl k (o++[ds[k]]) (by omega) (by grind)
  refine ih.up λN ih=> ?_
  show lD (S.step (S.tab N)) _ _ _=_;have e:((k+1:Nat)) - 1=(k:Int):=(by omega)
  have hg:ds.getD (k:Int).toNat 0=ds[k]:=by
   simp_all
  have hm:([ds[k]]).map byte=[ds[k]]:=Es λc hc=>by
   simp_all
  rw[e,tc,c8 (by rfl),c8 (dm mL),hg,hm,c8 (fU (by grind [lim])),wrap64 _ (by omega) (by omega),ih];rw[cP mL,List.reverse_append,List.reverse_singleton,aC]
def yJ (ds) (hd:∀c∈ds,isByte c)(hl:ds.length<=100) (o) (ho:o.length<=1):Evt λN=>mW (S.tab N) ds o=U (an (o++ds.reverse,())):=
 (yF ds hd hl ds.length o (aF _) (by omega)).up λN h=>by
  show mW (S.step (S.tab N)) _ _=_;rw[Aj,wrap64 _ (by omega) (by omega),h,al];simp[dH]
def Rb (n) (h1: -9223372036854775808<=n)(h2:n<=9223372036854775807):n.natAbs<10^19:=by
 omega
def My (n) (h1: -9223372036854775808<=n)(h2:n<=9223372036854775807):Evt λN=>qq (S.tab N) n=U (dec n,cV):=by
 by_cases hn:n=0
 ·subst hn
  refine dF.up λN _=> ?_
  show qq (S.step (S.tab N)) _=_;rw[xw,c8 (by rfl)]
  have:dec 0=[48]:=by
   unfold dec Lib.itoa;rw[ai (by decide),cS,dif_pos (by decide)];rfl
  grind
 ·have a:=zY 19 n (n<0) [] (Rb n h1 h2) h1 h2 (by simp);have hl:=MK 19 n.natAbs;have b1:=yJ (rdg 19 n.natAbs) (Jj _ _) (by omega) [45] (by simp);have b2:=yJ (rdg 19 n.natAbs) (Jj _ _) (by omega) [] (by simp);have hd:=M6 19 n.natAbs (by omega) (Rb n h1 h2)
  refine((a.and b1).and b2).up λN ⟨⟨a,b1⟩,b2⟩=> ?_
  show qq (S.step (S.tab N)) _=_;rw[xw,db hn,a,al];simp[dH]
  by_cases NZ:n<0
  ·rw[dn NZ,b1,al];rw[hd];unfold dec Lib.itoa;rw[aj NZ];rfl
  ·rw[db NZ,b2,al];unfold dec Lib.itoa
   grind
def Yk (n) (h1: -9223372036854775808<=n)(h2:n<=9223372036854775807):(dec n).length<=20:=by
 by_cases hn:n=0
 ·have:dec 0=[48]:=by
   unfold dec Lib.itoa;rw[ai (by decide),cS,dif_pos (by decide)];rfl
  simp_all
 ·have hd:=M6 19 n.natAbs (by omega) (Rb n h1 h2);have hl:=MK 19 n.natAbs
  have e:(Lx.ints (cS n.natAbs)).length<=19:=by grind
  unfold dec Lib.itoa;split
  ·have e2:Lx.ints (45::cS n.natAbs)=45::Lx.ints (cS n.natAbs):=rfl;simp_all
  grind
def KG (n) (h1: -9223372036854775808<=n)(h2:n<=9223372036854775807):Lx.rV (n,10,())=U (dec n,(),(),()):=by
 unfold Lx.rV;simp only[decide_true,ab h1,ab h2,bP,ah];rfl
end Go.Abs.D
end

section
namespace Go.Abs.D
def af5 (x) (h0:0<=x)(h1:x<18446744073709551616):intBits .and .u64 x 15=x % 16:=by
 obtain⟨m,rfl⟩:∃m:Nat,x=m:=⟨x.toNat,by omega⟩
 have e1:(bn7 aJ.bits ↑m&&&bn7 aJ.bits 15).toNat=m % 16:=by
  have hb:aJ.bits=64:=rfl;rw[BitVec.toNat_and]
  have ea:(bn7 aJ.bits ↑m).toNat=m:=by
   rw[BitVec.toNat_ofInt,hb];omega
  have eb:(bn7 aJ.bits 15).toNat=15:=(by decide);rw[ea,eb];exact Nat.and_two_pow_sub_one_eq_mod m 4
 show aJ.wrap _=_;rw[e1];have:aJ.wrap ((m % 16:Nat))=((m % 16)) % 18446744073709551616:=rfl;rw[this];omega
def rX:LI:=[48,49,50,51,52,53,54,55,56,57,97,98,99,100,101,102]
def hx:Nat->Nat->LI
 |0,_=>[]
 |k+1,m=>rX.getD (m/16^k % 16) 0::hx k m
def Gd:∀n:Nat,n<16->Lx.hexDigit n=rX.getD n 0:=by
 have h:∀n:Fin 16,Lx.hexDigit n.1=rX.getD n.1 0:=(by decide)
 exact λn hn=>h ⟨n,hn⟩
def N3:∀n:Nat,n<16->isByte (rX.getD n 0):=by
 have h:∀n:Fin 16,0<=rX.getD n.1 0/\rX.getD n.1 0<256:=(by decide)
 exact λn hn=>h ⟨n,hn⟩
def SI:∀k m,hx (k+1) m=hx k (m/16)++[rX.getD (m % 16) 0]
 |0,m=>by simp[hx]
 |k+1,m=>by
  have ih:=SI k m;show rX.getD (m/16^(k+1) % 16) 0::hx (k+1) m=(rX.getD (m/16/16^k % 16) 0::hx k (m/16))++_;rw[ih,Nat.div_div_eq_div_mul,Nat.pow_succ,Nat.mul_comm 16];rfl
def I4:∀k m (acc:LI),(k=0\/16^k<=m)->m<16^(k+1)->Lx.xL (k+1) m acc=hx (k+1) m++acc
 |0,m,acc,_,h=>by
  have h:m<16:=(by simpa using h);unfold Lx.xL;have:cd m 16=true:=Nat.ble_eq_true_of_le h;simp only[this,ah,hx];rw[Gd _ (bs3 _ (by decide))];simp
 |k+1,m,acc,h0,h=>by
  have hp:16^(k+1+1)=16^(k+1)*16:=Nat.pow_succ ..;have hp2:16^(k+1)=16^k*16:=Nat.pow_succ ..
  have h0:16^(k+1)<=m:=by rcases h0 with h|h;cases h;exact h
  have sF:0<16^k:=Nat.pow_pos (by decide);have a27:¬ m<16:=(by omega);unfold Lx.xL
  have:cd m 16=false:=by
   cases hb:cd m 16
   ·rfl
   ·exact absurd (aR hb) a27
  simp only[this,af];rw[I4 k (m/16) _ (.inr (by omega)) (by omega),SI (k+1) m,Gd _ (bs3 _ (by decide))];simp
def Gm (n) (h1: -9223372036854775808<=n)(h2:n<=9223372036854775807):∀k (o:LI),k<=16->o.length+k<=100->
  Evt λN=>oa (S.tab N) n rX o (4*k - 4)=U (an (o++hx k (aJ.wrap n).toNat,()))
 |0,o,_,_=>dF.up λN _=>by
  show oa (S.step (S.tab N)) _ _ _ _=_;rw[yz,dz (by simp)];simp[hx]
 |k+1,o,hk,ho=>by
  have hu:aJ.wrap n=n % 18446744073709551616:=rfl
  have Sc:0<=aJ.wrap n:=by rw[hu];omega
  have sC:aJ.wrap n<18446744073709551616:=by rw[hu];omega
  have ih:=Gm n h1 h2 k (o++[rX.getD ((aJ.wrap n).toNat/16^k % 16) 0]) (by omega) (by simp;omega)
  generalize hU:aJ.wrap n=u at Sc sC ih⊢
  obtain⟨m,rfl⟩:∃m:Nat,u=m:=⟨u.toNat,by omega⟩
  have w1:aJ.wrap (4*((k+1:Nat)) - 4)=((4*k:Nat)):=by
   have e:aJ.wrap (4*((k+1:Nat)) - 4)=(4*((k+1)) - 4) % 18446744073709551616:=rfl;rw[e];omega
  have aX2:min ((4*k:Nat):Int).toNat aJ.bits=4*k:=by
   have:aJ.bits=64:=rfl;rw[this,bm];omega
  have Zx:2^(4*k)=((16^k:Nat):Int):=by
   rw[Int.pow_mul]
   push_cast
   rfl
  have hdiv:(m:Int).fdiv (2^min ((4*k:Nat):Int).toNat aJ.bits)=((m/16^k:Nat)):=by
   rw[aX2,Zx,Int.fdiv_eq_ediv_of_nonneg _ (Int.natCast_nonneg _)];rfl
  have hle:m/16^k<=m:=Nat.div_le_self _ _
  have aK4:∀q:Nat,q<=m->intBits .and .u64 ↑q 15=((q % 16:Nat)):=λq hq=>by rw[af5 _ (by omega) (by omega)];rfl
  have hand:intBits .and .u64 ((m/16^k:Nat)) 15=((m/16^k % 16:Nat)):=aK4 _ hle;have mL:m/16^k % 16<16:=bs3 _ (by decide)
  have ao5:[rX.getD (m/16^k % 16) 0].map byte=[rX.getD (m/16^k % 16) 0]:=Es λc hc=>by
   have:c=rX.getD (m/16^k % 16) 0:=(by simpa using hc);subst this;exact N3 _ mL
  have e4:ar.wrap (4*((k+1:Nat)) - 4 - 4)=4*k - 4:=by rw[wrap64 _ (by omega) (by omega)];omega
  refine ih.up λN ih=> ?_
  show oa (S.step (S.tab N)) _ _ _ _=_
  rw[yz,hU,w1,hdiv,hand,c8 (by simp;omega),c8 (by simp;omega),bm,ao5,
   c8 (by show(0<=((m/16^k % 16))&&((m/16^k % 16):Int)<16)=av;simp;omega),
   c8 (fU (by unfold lim;simp;omega)),e4]
  have hn:(m:Int).toNat=m:=bm m;rw[hn]at ih⊢;rw[ih];simp[hx]
def EG (n:Int):LI:=bif(0<=n)then dec n else [48,120]++hx 16 (aJ.wrap n).toNat
def Vl (n) (h1: -9223372036854775808<=n)(h2:n<=9223372036854775807):Evt λN=>w8 (S.tab N) n=U (EG n,cV):=
 ((My n h1 h2).and (Gm n h1 h2 16 [48,120] (by decide) (by decide))).up λN ⟨a,b⟩=>by
  show w8 (S.step (S.tab N)) _=_;unfold EG;rw[KN]
  by_cases h:0<=n
  ·rw[dn h,a,ab h];rfl
  ·rw[db h,aa h];show(oa (S.tab N) n rX [48,120] (4*((16:Nat)) - 4)).bind _=_;rw[b];rfl
def Rp:∀k m,(hx k m).length=k
 |0,_=>rfl
 |k+1,m=>by simp[hx,Rp k m]
end Go.Abs.D
end

section
namespace Go.Abs.D
def kn (x:Node):Int:=x.1
def opn (x:Node):Int:=x.2.2.2.2.1
def sD (x:Node):Int:=x.2.2.2.2.2.1
def txn (x:Node):LI:=x.2.2.2.2.2.2.1
def cY (ns:List Node)(i:Int):Node:=at_ (τ:=cZ) ns i
def bpw (op:Int):Int:=[0,9,9,10,10,10,10,7,5,6,8,8,4,3,3,3,3,3,3].getD op.toNat 0
def pwr (x:Node):Int:=bif(kn x=29)then 1 else bif(kn x=28)then 2 else bif(kn x=31)then bpw (opn x)else bif(kn x=30)then 11 else 12
def rgt (x:Node):Int:=bif(kn x=29)then 2 else bif(kn x=28)then 3 else bif(opn x=12)then 4 else bpw (opn x)+1
def lft (x:Node):Int:=bif(rgt x=pwr x)then pwr x+1 else pwr x
def rZ (x:Node):LI:=bif(kn x=28)then [97,110,100]else bif(kn x=29)then [111,114]else fxI (60+opn x)
def paren (b:Bool)(s:LI):LI:=bif b then [40]++s++[41]else s
def fu:List LI->LI
 |[]=>[]
 |s::r=>s++r.flatMap λt=>[44,32]++t
def rH (n:Nat):LI:=aN n 9
def Dt (S:Int->Nat->LI)(kids:LI)(lY:Nat):LI:=
 bif kids.isEmpty then [123,125]else [123,10]++(kids.flatMap λk=>rH (lY+1)++S k (lY+1)++[10])++rH lY++[125]
section
variable(ns:List Node)(E S:Int->Nat->LI)
def fR (i:Int)(lY:Nat):LI:=Dt S (cX (cY ns i)) lY
def fnT (x:Node)(lY:Nat):LI:=
 [40]++fu (df x++bif(opn x=1)then [[46,46,46]]else [])++[41,32]++fR ns S ((cX x).getD 0 0) lY
def iO (l:LI)(lY:Nat):LI:=fu (l.map λk=>E k lY)
def Ab (k:Int):Bool:=(k=26)||(k=32||(k=33||(k=34||decide (k=37))))
def zO (k:Int)(lY:Nat):LI:=paren (!Ab (kn (cY ns k))) (E k lY)
def je (x:Node)(lY:Nat):LI:=
 let k0:=(cX x).getD 0 0
 let k1:=(cX x).getD 1 0
 bif(kn x=20)then [110,105,108]else
 bif(kn x=21)then [116,114,117,101]else
 bif(kn x=22)then [102,97,108,115,101]else
 bif(kn x=27)then [46,46,46]else
 bif(kn x=23)then EG (sD x)else
 bif(kn x=24)||decide (kn x=26)then txn x else
 bif(kn x=25)then sW (txn x)else
 bif(kn x=28)||(kn x=29||decide (kn x=31))then
  paren (pwr (cY ns k0)<lft x) (E k0 lY)++([32]++rZ x++[32])++paren (pwr (cY ns k1)<rgt x) (E k1 lY)else
 bif(kn x=30)then
  (bif(opn x=21)then [110,111,116,32]else bif(opn x=22)then [35]else bif(opn x=20)then [126]else
   [45]++bif(kn (cY ns k0)=30)&&(opn (cY ns k0)=19)then [32]else [])++paren (pwr (cY ns k0)<11) (E k0 lY)else
 bif(kn x=32)then zO ns E k0 lY++[91]++E k1 lY++[93]else
 bif(kn x=33)then zO ns E k0 lY++([46]++txn x)else
 bif(kn x=34)then zO ns E k0 lY++[40]++iO E (cX x).tail lY++[41]else
 bif(kn x=35)then [123]++iO E (cX x) lY++[125]else
 bif(kn x=36)then [102,110]++fnT ns S x lY else
 bif(kn x=37)then [40]++E k0 lY++[41]else
 bif(kn x=40)then E k0 lY else
 bif(kn x=41)then [91]++E k0 lY++[93,32,61,32]++E k1 lY else
 bif(kn x=42)then [46]++txn x++[32,61,32]++E k0 lY else []
def ifT (x:Node)(lY:Nat):LI:=
 let k2:=(cX x).getD 2 0
 [105,102,32]++E ((cX x).getD 0 0) lY++[32]++fR ns S ((cX x).getD 1 0) lY++
  bif((cX x).length=3)then(bif(kn (cY ns k2)=7)then [32,101,108]++S k2 lY else [32,101,108,115,101,32]++fR ns S k2 lY)else []
def jH (x:Node)(i:Int)(lY:Nat):LI:=
 let k0:=(cX x).getD 0 0
 let k1:=(cX x).getD 1 0
 let ay7:=fu (df x)
 bif(kn x=1)then Dt S (cX x) lY else
 bif(kn x=2)then [108,101,116,32]++ay7++(bif(cX x).isEmpty then []else [32,61,32]++iO E (cX x) lY)else
 bif(kn x=3)then [99,111,110,115,116,32]++ay7++[32,61,32]++E k0 lY else
 bif(kn x=4)then [102,110,32]++ay7++fnT ns S (cY ns k0) lY else
 bif(kn x=5)then iO E ((cX x).take (sD x).toNat) lY++[32,61,32]++iO E ((cX x).drop (sD x).toNat) lY else
 bif(kn x=6)then E k0 lY else
 bif(kn x=16)then [100,101,102,101,114,32]++E k0 lY else
 bif(kn x=7)then ifT ns E S x lY else
 bif(kn x=8)then [119,104,105,108,101,32]++E k0 lY++[32]++fR ns S k1 lY else
 bif(kn x=9)then [102,111,114,32]++ay7++[32,61,32]++iO E (cX x).dropLast lY++[32]++fR ns S ((cX x).getD ((cX x).length - 1) 0) lY else
 bif(kn x=10)then [102,111,114,32]++ay7++[32,105,110,32]++E k0 lY++[32]++fR ns S k1 lY else
 bif(kn x=11)then [98,114,101,97,107]else
 bif(kn x=12)then [110,101,120,116]else
 bif(kn x=13)then [114,101,116,117,114,110]++(bif(cX x).isEmpty then []else [32]++iO E (cX x) lY)else
 bif(kn x=14)then [116,114,121,32]++fR ns S k0 lY++([32,99,97,116,99,104,32]++ay7++[32])++fR ns S k1 lY else
 bif(kn x=15)then [116,104,114,111,119,32]++E k0 lY else []
end
def prP (ns:List Node):Nat->(Int->Nat->LI)×(Int->Nat->LI)
 |0=>(λ_ _=>[],λ_ _=>[])
 |m+1=>(λi t=>je ns (prP ns m).1 (prP ns m).2 (cY ns i) t,λi t=>jH ns (prP ns m).1 (prP ns m).2 (cY ns i) i t)
def rj (ns:List Node):LI:=(cX (cY ns ((ns.length - 1:Nat)))).flatMap λk=>(prP ns ns.length).2 k 0++[10]
def FK (ns:List Node):LI:=bif((pn ns).1=0)then(bif(65536<(rj ns).length)then []else(rj ns).map byte)else []
end Go.Abs.D
end

section
namespace Go.Abs.D
def gz (h:okN ns i x=av):(bif gB x.1 then KS (ns,()) x (da ns x) (df x) x.2.2.2.2.1 x.2.2.2.2.2.1 x.2.2.2.2.2.2.1 x.1 else KE (ns,()) x (da ns x) (df x) x.2.2.2.2.1 x.2.2.2.2.2.1 x.2.2.2.2.2.2.1 x.1)=true:=by
 unfold okN at h;simp_all
theorem fi (ns:List Node)(x:Node):(da ns x).length=(cX x).length:=by grind [da]
theorem po (hj:j<(cX x).length):(da ns x).getD j 0=kn (cY ns ((cX x).getD j 0)):=by
 unfold da;rw[aG,bn4,aL hj,aG,aL hj];rfl
def Wj (h:NM names a b=av):a<=names.length/\names.length<=b:=by
 simp_all[NM]
section
variable{ns:List Node}{i:Nat}{x:Node}(h:okN ns i x=av)
include h
def sh3 (hk:kn x=3):(cX x).length=1/\(df x).length=1:=by
 have h':=gz h;rw[show x.1=3 from hk]at h';have h':(PL av aq aq aq ((df x).length) x.2.2.2.2.1 x.2.2.2.2.2.1 x.2.2.2.2.2.2.1&&(NM (df x) 1 1&&(((da ns x).length:Int)=1&&EX (da ns x) 0 1)))=true:=h';simp[fi]at h';have:=Wj h'.2.1;omega
def sh4 (hk:kn x=4):(cX x).length=1/\(df x).length=1/\kn (cY ns ((cX x).getD 0 0))=36:=by
 have h':=gz h;rw[show x.1=4 from hk]at h';have h':(PL av aq aq aq ((df x).length) x.2.2.2.2.1 x.2.2.2.2.2.1 x.2.2.2.2.2.2.1&&(NM (df x) 1 1&&(((da ns x).length:Int)=1&&(da ns x).getD 0 0=36)))=true:=h';simp[fi]at h';have:=Wj h'.2.1;have e:=po (ns:=ns) (x:=x) (j:=0) (by omega)
 grind
def sh5 (hk:kn x=5):1<=sD x/\sD x<((cX x).length):=by
 have h':=gz h;rw[show x.1=5 from hk]at h';have h':(PL aq aq av aq ((df x).length) x.2.2.2.2.1 x.2.2.2.2.2.1 x.2.2.2.2.2.2.1&&(1<=x.2.2.2.2.2.1&&(x.2.2.2.2.2.1<((da ns x).length)&&((eV (da ns x) 0 (x.2.2.2.2.2.1).toNat).all jv&&EX (da ns x) (x.2.2.2.2.2.1).toNat (da ns x).length))))=true:=h';simp[fi]at h';exact⟨h'.2.1,h'.2.2.1⟩
def sh6 (hk:kn x=6):(cX x).length=1:=by
 have h':=gz h;rw[show x.1=6 from hk]at h';have h':(PL aq aq aq aq ((df x).length) x.2.2.2.2.1 x.2.2.2.2.2.1 x.2.2.2.2.2.2.1&&(((da ns x).length:Int)=1&&((da ns x).getD 0 0=34)))=true:=h'
 grind [fi]
def am2 (hk:kn x=16):(cX x).length=1:=by
 have h':=gz h;rw[show x.1=16 from hk]at h';have h':(PL aq aq aq aq ((df x).length) x.2.2.2.2.1 x.2.2.2.2.2.1 x.2.2.2.2.2.2.1&&(((da ns x).length:Int)=1&&((da ns x).getD 0 0=34)))=true:=h'
 grind [fi]
def al9 (hk:kn x=15):(cX x).length=1:=by
 have h':=gz h;rw[show x.1=15 from hk]at h';have h':(PL aq aq aq aq ((df x).length) x.2.2.2.2.1 x.2.2.2.2.2.1 x.2.2.2.2.2.2.1&&(((da ns x).length:Int)=1&&EX (da ns x) 0 1))=true:=h'
 grind [fi]
def sh7 (hk:kn x=7):((cX x).length=2\/(cX x).length=3)/\kn (cY ns ((cX x).getD 1 0))=1/\((cX x).length=3->kn (cY ns ((cX x).getD 2 0))=1\/kn (cY ns ((cX x).getD 2 0))=7):=by
 have h':=gz h;rw[show x.1=7 from hk]at h';have h':(PL aq aq aq aq ((df x).length) x.2.2.2.2.1 x.2.2.2.2.2.1 x.2.2.2.2.2.2.1&&(!(((da ns x).length:Int)<2)&&(!(3<((da ns x).length:Int))&&(EX (da ns x) 0 1&&((da ns x).getD 1 0=1&&(((da ns x).length:Int)=2||((da ns x).getD 2 0=1||decide ((da ns x).getD 2 0=7))))))))=true:=h'
 grind [fi,po]
def sh8 (hk:kn x=8):(cX x).length=2:=by
 have h':=gz h;rw[show x.1=8 from hk]at h';have h':(PL aq aq aq aq ((df x).length) x.2.2.2.2.1 x.2.2.2.2.2.1 x.2.2.2.2.2.2.1&&(((da ns x).length:Int)=2&&(EX (da ns x) 0 1&&((da ns x).getD 1 0=1))))=true:=h'
 grind [fi]
def sh9 (hk:kn x=9):(cX x).length=3\/(cX x).length=4:=by
 have h':=gz h;rw[show x.1=9 from hk]at h';have h':(PL av aq aq aq ((df x).length) x.2.2.2.2.1 x.2.2.2.2.2.1 x.2.2.2.2.2.2.1&&(NM (df x) 1 1&&((((da ns x).length:Int)=3||decide (((da ns x).length:Int)=4))&&(EX (da ns x) 0 ((da ns x).length - 1)&&((da ns x).getD ((da ns x).length - 1) 0=1)))))=true:=h'
 grind [fi]
def an2 (hk:kn x=10):(cX x).length=2:=by
 have h':=gz h;rw[show x.1=10 from hk]at h';have h':(PL av aq aq aq ((df x).length) x.2.2.2.2.1 x.2.2.2.2.2.1 x.2.2.2.2.2.2.1&&(NM (df x) 1 200&&(((da ns x).length:Int)=2&&(EX (da ns x) 0 1&&((da ns x).getD 1 0=1)))))=true:=h'
 grind [fi]
def am0 (hk:kn x=14):(cX x).length=2:=by
 have h':=gz h;rw[show x.1=14 from hk]at h';have h':(PL av aq aq aq ((df x).length) x.2.2.2.2.1 x.2.2.2.2.2.1 x.2.2.2.2.2.2.1&&(NM (df x) 1 2&&(((da ns x).length:Int)=2&&((da ns x).getD 0 0=1&&((da ns x).getD 1 0=1)))))=true:=h'
 grind [fi]
def aU6 (hk:kn x=25):(txn x).length<=4000:=(oK h).1.1
theorem al4 (hk:kn x=28):(cX x).length=2:=by
 have h':=gz h;rw[show x.1=28 from hk]at h';have h':(((da ns x).length:Int)=2&&(EX (da ns x) 0 2&&(PL aq aq aq aq ((df x).length) x.2.2.2.2.1 x.2.2.2.2.2.1 x.2.2.2.2.2.2.1)))=true:=h'
 grind [fi]
theorem an3 (hk:kn x=29):(cX x).length=2:=by
 have h':=gz h;rw[show x.1=29 from hk]at h';have h':(((da ns x).length:Int)=2&&(EX (da ns x) 0 2&&(PL aq aq aq aq ((df x).length) x.2.2.2.2.1 x.2.2.2.2.2.1 x.2.2.2.2.2.2.1)))=true:=h'
 grind [fi]
def Za (hk:kn x=30):(cX x).length=1/\19<=opn x/\opn x<=22:=by
 have h':=gz h;rw[show x.1=30 from hk]at h';have h':(((da ns x).length:Int)=1&&(EX (da ns x) 0 1&&(PL aq av aq aq ((df x).length) x.2.2.2.2.1 x.2.2.2.2.2.1 x.2.2.2.2.2.2.1&&(19<=x.2.2.2.2.1&&(x.2.2.2.2.1<=22)))))=true:=h';simp[fi]at h';exact⟨by omega,h'.2.2.2.1,h'.2.2.2.2⟩
theorem Hb (hk:kn x=31):(cX x).length=2/\1<=opn x/\opn x<=18:=by
 have h':=gz h;rw[show x.1=31 from hk]at h';have h':(((da ns x).length:Int)=2&&(EX (da ns x) 0 2&&(PL aq av aq aq ((df x).length) x.2.2.2.2.1 x.2.2.2.2.2.1 x.2.2.2.2.2.2.1&&(1<=x.2.2.2.2.1&&(x.2.2.2.2.1<=18)))))=true:=h';simp[fi]at h';exact⟨by omega,h'.2.2.2.1,h'.2.2.2.2⟩
def am8 (hk:kn x=32):(cX x).length=2:=by
 have h':=gz h;rw[show x.1=32 from hk]at h';have h':(((da ns x).length:Int)=2&&(EX (da ns x) 0 2&&(!((da ns x).getD 0 0=27)&&(PL aq aq aq aq ((df x).length) x.2.2.2.2.1 x.2.2.2.2.2.1 x.2.2.2.2.2.2.1))))=true:=h'
 grind [fi]
def am3 (hk:kn x=33):(cX x).length=1:=by
 have h':=gz h;rw[show x.1=33 from hk]at h';have h':(((da ns x).length:Int)=1&&(EX (da ns x) 0 1&&(!((da ns x).getD 0 0=27)&&(PL aq aq aq av ((df x).length) x.2.2.2.2.1 x.2.2.2.2.2.1 x.2.2.2.2.2.2.1&&(jS 1 x.2.2.2.2.2.2.1)))))=true:=h'
 grind [fi]
def ak8 (hk:kn x=34):1<=(cX x).length:=by
 have h':=gz h;rw[show x.1=34 from hk]at h';have h':(1<=((da ns x).length:Int)&&(EX (da ns x) 0 (da ns x).length&&(!((da ns x).getD 0 0=27)&&(PL aq aq aq aq ((df x).length) x.2.2.2.2.1 x.2.2.2.2.2.1 x.2.2.2.2.2.2.1))))=true:=h'
 grind [fi]
def aR1 (hk:kn x=35):∀k∈cX x,iy (kn (cY ns k))=true:=by
 have h':=gz h;rw[show x.1=35 from hk]at h';have h':((da ns x).all iy&&(PL aq aq aq aq ((df x).length) x.2.2.2.2.1 x.2.2.2.2.2.1 x.2.2.2.2.2.2.1))=true:=h';rw[aA]at h';intro k hm;exact aK.1 h'.1 _ (List.mem_map.2 ⟨k,hm,rfl⟩)
def PI (hk:kn x=36):(cX x).length=1/\kn (cY ns ((cX x).getD 0 0))=1:=by
 have h':=gz h;rw[show x.1=36 from hk]at h';have h':(((da ns x).length:Int)=1&&((da ns x).getD 0 0=1&&(PL av av aq aq ((df x).length) x.2.2.2.2.1 x.2.2.2.2.2.1 x.2.2.2.2.2.2.1&&(NM (df x) 0 200&&(x.2.2.2.2.1=0||decide (x.2.2.2.2.1=1))))))=true:=h'
 grind [fi,po]
def al8 (hk:kn x=37):(cX x).length=1:=by
 have h':=gz h;rw[show x.1=37 from hk]at h';have h':(((da ns x).length:Int)=1&&(((da ns x).getD 0 0=34||decide ((da ns x).getD 0 0=27))&&(PL aq aq aq aq ((df x).length) x.2.2.2.2.1 x.2.2.2.2.2.1 x.2.2.2.2.2.2.1)))=true:=h'
 grind [fi]
def an1 (hk:kn x=40):(cX x).length=1:=by
 have h':=gz h;rw[show x.1=40 from hk]at h';have h':(((da ns x).length:Int)=1&&(EX (da ns x) 0 1&&(PL aq aq aq aq ((df x).length) x.2.2.2.2.1 x.2.2.2.2.2.1 x.2.2.2.2.2.2.1)))=true:=h'
 grind [fi]
def al6 (hk:kn x=41):(cX x).length=2:=by
 have h':=gz h;rw[show x.1=41 from hk]at h';have h':(((da ns x).length:Int)=2&&(EX (da ns x) 0 2&&(PL aq aq aq aq ((df x).length) x.2.2.2.2.1 x.2.2.2.2.2.1 x.2.2.2.2.2.2.1)))=true:=h'
 grind [fi]
def am9 (hk:kn x=42):(cX x).length=1:=by
 have h':=gz h;rw[show x.1=42 from hk]at h';have h':(((da ns x).length:Int)=1&&(EX (da ns x) 0 1&&(PL aq aq aq av ((df x).length) x.2.2.2.2.1 x.2.2.2.2.2.1 x.2.2.2.2.2.2.1&&jS 1 x.2.2.2.2.2.2.1)))=true:=h'
 grind [fi]
end
end Go.Abs.D
end

section
namespace Go.Abs.D
def MX:Nat:=100000000000
def r6 (h:n<=MX):fits n=true:=fU (by grind [lim,MX])
theorem rF (n):(rH n).length=n:=by grind [rH]
def HH (op) (h1:1<=op)(h2:op<=18):3<=bpw op/\bpw op<=10/\(bpw op=4↔op=12):=by
 have h:∀k:Fin 19,1<=k.1->3<=bpw k.1/\bpw k.1<=10/\(bpw k.1=4↔k.1=12):=by decide+kernel
 have:=h ⟨op.toNat,by omega⟩ (by grind)
 grind
def J0 (x:Node):Prop:=(-9223372036854775808<=sD x/\sD x<=9223372036854775807)/\∀c∈txn x,isByte c
theorem uT:brk av x y=x:=c8 rfl
theorem j8:brk aq x y=y:=dz rfl
def dP (h:j<(cX x).length):(cX x).getD j 0∈cX x:=by
 simp_all
def Ud {l:List LI}(h:∀m∈l,m.length<=c):(l.flatMap λt=>[44,32]++t).length<=l.length*(c+2):=by
 induction l with
 |nil=>simp
 |cons a r ih=>
  grind [au,aw,ay,Nat.succ_mul]
def I9 (h:∀m∈l,m.length<=c):(fu l).length<=l.length*(c+2):=by
 cases l with
 |nil=>simp[fu]
 |cons a r=>
  have:=Ud (l:=r) λm hm=>h m (aB _ hm)
  show(a++r.flatMap λt=>[44,32]++t).length<=_
  grind [au,aw,Nat.succ_mul]
def Ew (h:okN ns i x=av):(df x).length<=200/\(fu (df x)).length<=8400:=by
 have hb:=(oK h).1;have:=I9 hb.2.2;have h2:=hb.2.1;omega
end Go.Abs.D
end

section
namespace Go.Abs.D
def sX (h:EX ks a b=av){j:Nat}(h1:a<=j)(h2:j<b)(h3:j<ks.length):ks.getD j 0<40:=by
 have hm:ks.getD j 0∈eV ks a b:=by
  unfold eV;rw[aG,aL h3];show ks[j]∈_;rw[bp2];refine⟨j - a,by grind, ?_⟩;simp_all
 have:=aK.1 h _ hm;unfold n7 at this
 grind
def az8 (h:(eV ks 0 b).all jv=av){j:Nat}(h2:j<b)(h3:j<ks.length):ks.getD j 0<40:=by
 have hm:ks.getD j 0∈eV ks 0 b:=by
  grind [eV,aL,bp2]
 have:=aK.1 h _ hm;unfold jv at this
 grind
section
variable{ns:List Node}{i:Nat}{x:Node}(h:okN ns i x=av)
include h
def en2 (hk:kn x=2):∀j:Nat,j<(cX x).length->kn (cY ns ((cX x).getD j 0))<40:=by
 have h':=gz h;rw[show x.1=2 from hk]at h';have h':(PL av aq aq aq ((df x).length) x.2.2.2.2.1 x.2.2.2.2.2.1 x.2.2.2.2.2.2.1&&(NM (df x) 1 200&&EX (da ns x) 0 (da ns x).length))=true:=h';simp[fi]at h';obtain⟨_,_,e⟩:=h';intro j hj;rw[<-po hj];exact sX e (aU _) (by omega) (by simp_all[fi])
def en3 (hk:kn x=3):∀j:Nat,j<(cX x).length->kn (cY ns ((cX x).getD j 0))<40:=by
 have h':=gz h;rw[show x.1=3 from hk]at h';have h':(PL av aq aq aq ((df x).length) x.2.2.2.2.1 x.2.2.2.2.2.1 x.2.2.2.2.2.2.1&&(NM (df x) 1 1&&(((da ns x).length:Int)=1&&EX (da ns x) 0 1)))=true:=h';simp[fi]at h';obtain⟨_,_,_,e⟩:=h';intro j hj;rw[<-po hj];exact sX e (aU _) (by omega) (by simp_all[fi])
def en5 (hk:kn x=5):∀j:Nat,j<(cX x).length->kn (cY ns ((cX x).getD j 0))<40:=by
 have h':=gz h;rw[show x.1=5 from hk]at h';have h':(PL aq aq av aq ((df x).length) x.2.2.2.2.1 x.2.2.2.2.2.1 x.2.2.2.2.2.2.1&&(1<=x.2.2.2.2.2.1&&(x.2.2.2.2.2.1<((da ns x).length)&&((eV (da ns x) 0 (x.2.2.2.2.2.1).toNat).all jv&&EX (da ns x) (x.2.2.2.2.2.1).toNat (da ns x).length))))=true:=h';simp only[aA,ad,fi]at h';obtain⟨_,a1,a2,e1,e2⟩:=h';intro j hj;rw[<-po hj]
 by_cases c:j<(x.2.2.2.2.2.1).toNat
 ·exact az8 e1 c (by simp_all[fi])
 ·exact sX e2 (Nat.le_of_not_lt c) (by omega) (by simp_all[fi])
def en6 (hk:kn x=6):∀j:Nat,j<(cX x).length->kn (cY ns ((cX x).getD j 0))<40:=by
 have h':=gz h;rw[show x.1=6 from hk]at h';have h':(PL aq aq aq aq ((df x).length) x.2.2.2.2.1 x.2.2.2.2.2.1 x.2.2.2.2.2.2.1&&(((da ns x).length:Int)=1&&((da ns x).getD 0 0=34)))=true:=h';simp only[aA,ad,fi]at h'
 grind [po]
def aS1 (hk:kn x=16):∀j:Nat,j<(cX x).length->kn (cY ns ((cX x).getD j 0))<40:=by
 have h':=gz h;rw[show x.1=16 from hk]at h';have h':(PL aq aq aq aq ((df x).length) x.2.2.2.2.1 x.2.2.2.2.2.1 x.2.2.2.2.2.2.1&&(((da ns x).length:Int)=1&&((da ns x).getD 0 0=34)))=true:=h';simp only[aA,ad,fi]at h'
 grind [po]
def aU5 (hk:kn x=15):∀j:Nat,j<(cX x).length->kn (cY ns ((cX x).getD j 0))<40:=by
 have h':=gz h;rw[show x.1=15 from hk]at h';have h':(PL aq aq aq aq ((df x).length) x.2.2.2.2.1 x.2.2.2.2.2.1 x.2.2.2.2.2.2.1&&(((da ns x).length:Int)=1&&EX (da ns x) 0 1))=true:=h';simp[fi]at h';obtain⟨_,_,e⟩:=h';intro j hj;rw[<-po hj];exact sX e (aU _) (by omega) (by simp_all[fi])
def en7 (hk:kn x=7):0<(cX x).length->kn (cY ns ((cX x).getD 0 0))<40:=by
 have h':=gz h;rw[show x.1=7 from hk]at h';have h':(PL aq aq aq aq ((df x).length) x.2.2.2.2.1 x.2.2.2.2.2.1 x.2.2.2.2.2.2.1&&(!(((da ns x).length:Int)<2)&&(!(3<((da ns x).length:Int))&&(EX (da ns x) 0 1&&((da ns x).getD 1 0=1&&(((da ns x).length:Int)=2||((da ns x).getD 2 0=1||decide ((da ns x).getD 2 0=7))))))))=true:=h';simp at h';obtain⟨_,_,_,e,_,_⟩:=h';intro hj;rw[<-po hj];exact sX e (aU _) (by omega) (by omega)
def en8 (hk:kn x=8):0<(cX x).length->kn (cY ns ((cX x).getD 0 0))<40:=by
 have h':=gz h;rw[show x.1=8 from hk]at h';have h':(PL aq aq aq aq ((df x).length) x.2.2.2.2.1 x.2.2.2.2.2.1 x.2.2.2.2.2.2.1&&(((da ns x).length:Int)=2&&(EX (da ns x) 0 1&&((da ns x).getD 1 0=1))))=true:=h';simp at h';obtain⟨_,_,e,_⟩:=h';intro hj;rw[<-po hj];exact sX e (aU _) (by omega) (by omega)
def en9 (hk:kn x=9):∀j:Nat,j<(cX x).length - 1->kn (cY ns ((cX x).getD j 0))<40:=by
 have h':=gz h;rw[show x.1=9 from hk]at h';have h':(PL av aq aq aq ((df x).length) x.2.2.2.2.1 x.2.2.2.2.2.1 x.2.2.2.2.2.2.1&&(NM (df x) 1 1&&((((da ns x).length:Int)=3||decide (((da ns x).length:Int)=4))&&(EX (da ns x) 0 ((da ns x).length - 1)&&((da ns x).getD ((da ns x).length - 1) 0=1)))))=true:=h';simp[fi]at h';obtain⟨_,_,_,e,_⟩:=h';intro j hj;rw[<-po (by omega)];exact sX e (aU _) (by omega) (by grind)
def aR9 (hk:kn x=10):0<(cX x).length->kn (cY ns ((cX x).getD 0 0))<40:=by
 have h':=gz h;rw[show x.1=10 from hk]at h';have h':(PL av aq aq aq ((df x).length) x.2.2.2.2.1 x.2.2.2.2.2.1 x.2.2.2.2.2.2.1&&(NM (df x) 1 200&&(((da ns x).length:Int)=2&&(EX (da ns x) 0 1&&((da ns x).getD 1 0=1)))))=true:=h';simp at h';obtain⟨_,_,_,e,_⟩:=h';intro hj;rw[<-po hj];exact sX e (aU _) (by omega) (by omega)
def aR3 (hk:kn x=13):∀j:Nat,j<(cX x).length->kn (cY ns ((cX x).getD j 0))<40:=by
 have h':=gz h;rw[show x.1=13 from hk]at h';have h':(PL aq aq aq aq ((df x).length) x.2.2.2.2.1 x.2.2.2.2.2.1 x.2.2.2.2.2.2.1&&(EX (da ns x) 0 (da ns x).length))=true:=h';simp[fi]at h';obtain⟨_,e⟩:=h';intro j hj;rw[<-po hj];exact sX e (aU _) (by omega) (by simp_all[fi])
def aS2 (hk:kn x=28):∀j:Nat,j<(cX x).length->kn (cY ns ((cX x).getD j 0))<40:=by
 have h':=gz h;rw[show x.1=28 from hk]at h';have h':(((da ns x).length:Int)=2&&(EX (da ns x) 0 2&&(PL aq aq aq aq ((df x).length) x.2.2.2.2.1 x.2.2.2.2.2.1 x.2.2.2.2.2.2.1)))=true:=h';simp[fi]at h';obtain⟨_,e,_⟩:=h';intro j hj;rw[<-po hj];exact sX e (aU _) (by omega) (by simp_all[fi])
def aR4 (hk:kn x=29):∀j:Nat,j<(cX x).length->kn (cY ns ((cX x).getD j 0))<40:=by
 have h':=gz h;rw[show x.1=29 from hk]at h';have h':(((da ns x).length:Int)=2&&(EX (da ns x) 0 2&&(PL aq aq aq aq ((df x).length) x.2.2.2.2.1 x.2.2.2.2.2.1 x.2.2.2.2.2.2.1)))=true:=h';simp[fi]at h';obtain⟨_,e,_⟩:=h';intro j hj;rw[<-po hj];exact sX e (aU _) (by omega) (by simp_all[fi])
def aT7 (hk:kn x=30):∀j:Nat,j<(cX x).length->kn (cY ns ((cX x).getD j 0))<40:=by
 have h':=gz h;rw[show x.1=30 from hk]at h';have h':(((da ns x).length:Int)=1&&(EX (da ns x) 0 1&&(PL aq av aq aq ((df x).length) x.2.2.2.2.1 x.2.2.2.2.2.1 x.2.2.2.2.2.2.1&&(19<=x.2.2.2.2.1&&(x.2.2.2.2.1<=22)))))=true:=h';simp[fi]at h';obtain⟨_,e,_⟩:=h';intro j hj;rw[<-po hj];exact sX e (aU _) (by omega) (by simp_all[fi])
def aT9 (hk:kn x=31):∀j:Nat,j<(cX x).length->kn (cY ns ((cX x).getD j 0))<40:=by
 have h':=gz h;rw[show x.1=31 from hk]at h';have h':(((da ns x).length:Int)=2&&(EX (da ns x) 0 2&&(PL aq av aq aq ((df x).length) x.2.2.2.2.1 x.2.2.2.2.2.1 x.2.2.2.2.2.2.1&&(1<=x.2.2.2.2.1&&(x.2.2.2.2.1<=18)))))=true:=h';simp[fi]at h';obtain⟨_,e,_⟩:=h';intro j hj;rw[<-po hj];exact sX e (aU _) (by omega) (by simp_all[fi])
def aE2 (hk:kn x=32):∀j:Nat,j<(cX x).length->kn (cY ns ((cX x).getD j 0))<40:=by
 have h':=gz h;rw[show x.1=32 from hk]at h';have h':(((da ns x).length:Int)=2&&(EX (da ns x) 0 2&&(!((da ns x).getD 0 0=27)&&(PL aq aq aq aq ((df x).length) x.2.2.2.2.1 x.2.2.2.2.2.1 x.2.2.2.2.2.2.1))))=true:=h';simp[fi]at h';obtain⟨_,e,_⟩:=h';intro j hj;rw[<-po hj];exact sX e (aU _) (by omega) (by simp_all[fi])
def aR5 (hk:kn x=33):∀j:Nat,j<(cX x).length->kn (cY ns ((cX x).getD j 0))<40:=by
 have h':=gz h;rw[show x.1=33 from hk]at h';have h':(((da ns x).length:Int)=1&&(EX (da ns x) 0 1&&(!((da ns x).getD 0 0=27)&&(PL aq aq aq av ((df x).length) x.2.2.2.2.1 x.2.2.2.2.2.1 x.2.2.2.2.2.2.1&&(jS 1 x.2.2.2.2.2.2.1)))))=true:=h';simp[fi]at h';obtain⟨_,e,_⟩:=h';intro j hj;rw[<-po hj];exact sX e (aU _) (by omega) (by simp_all[fi])
def aC9 (hk:kn x=34):∀j:Nat,j<(cX x).length->kn (cY ns ((cX x).getD j 0))<40:=by
 have h':=gz h;rw[show x.1=34 from hk]at h';have h':(1<=((da ns x).length:Int)&&(EX (da ns x) 0 (da ns x).length&&(!((da ns x).getD 0 0=27)&&(PL aq aq aq aq ((df x).length) x.2.2.2.2.1 x.2.2.2.2.2.1 x.2.2.2.2.2.2.1))))=true:=h';simp[fi]at h';obtain⟨_,e,_⟩:=h';intro j hj;rw[<-po hj];exact sX e (aU _) (by omega) (by simp_all[fi])
def aT4 (hk:kn x=37):∀j:Nat,j<(cX x).length->kn (cY ns ((cX x).getD j 0))<40:=by
 have h':=gz h;rw[show x.1=37 from hk]at h';have h':(((da ns x).length:Int)=1&&(((da ns x).getD 0 0=34||decide ((da ns x).getD 0 0=27))&&(PL aq aq aq aq ((df x).length) x.2.2.2.2.1 x.2.2.2.2.2.1 x.2.2.2.2.2.2.1)))=true:=h';simp only[aA,cO,ad,fi]at h'
 grind [po]
def aT5 (hk:kn x=40):∀j:Nat,j<(cX x).length->kn (cY ns ((cX x).getD j 0))<40:=by
 have h':=gz h;rw[show x.1=40 from hk]at h';have h':(((da ns x).length:Int)=1&&(EX (da ns x) 0 1&&(PL aq aq aq aq ((df x).length) x.2.2.2.2.1 x.2.2.2.2.2.1 x.2.2.2.2.2.2.1)))=true:=h';simp[fi]at h';obtain⟨_,e,_⟩:=h';intro j hj;rw[<-po hj];exact sX e (aU _) (by omega) (by simp_all[fi])
def aE3 (hk:kn x=41):∀j:Nat,j<(cX x).length->kn (cY ns ((cX x).getD j 0))<40:=by
 have h':=gz h;rw[show x.1=41 from hk]at h';have h':(((da ns x).length:Int)=2&&(EX (da ns x) 0 2&&(PL aq aq aq aq ((df x).length) x.2.2.2.2.1 x.2.2.2.2.2.1 x.2.2.2.2.2.2.1)))=true:=h';simp[fi]at h';obtain⟨_,e,_⟩:=h';intro j hj;rw[<-po hj];exact sX e (aU _) (by omega) (by simp_all[fi])
def aR2 (hk:kn x=42):∀j:Nat,j<(cX x).length->kn (cY ns ((cX x).getD j 0))<40:=by
 have h':=gz h;rw[show x.1=42 from hk]at h';have h':(((da ns x).length:Int)=1&&(EX (da ns x) 0 1&&(PL aq aq aq av ((df x).length) x.2.2.2.2.1 x.2.2.2.2.2.1 x.2.2.2.2.2.2.1&&jS 1 x.2.2.2.2.2.2.1)))=true:=h';simp[fi]at h';obtain⟨_,e,_⟩:=h';intro j hj;rw[<-po hj];exact sX e (aU _) (by omega) (by simp_all[fi])
end
end Go.Abs.D
end

