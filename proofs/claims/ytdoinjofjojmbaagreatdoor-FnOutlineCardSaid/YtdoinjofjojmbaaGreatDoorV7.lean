/- What is here: numbers as texts, decimal. -/
import Derived.Test.YtdoinjofjojmbaaGreatDoorV6
import Derived.Test.YtdoinjofjojmbaaGreatDoorCards
set_option linter.all false
set_option maxRecDepth 100000
open Go.IntKind (i64 u64 u8)
open BitVec renaming ofInt → cw
open Bool renaming and_eq_true → aA, and_self → bK, false → ar, false_and → a47, false_or → cH, true → av, true_and → ct
open Decidable renaming decide → I
open Go.IntKind renaming i64 → aq, u64 → aH
open Go.Lib renaming decDigits → cJ
open Int renaming le_refl → bF, le_trans → a38, toNat_natCast → bq
open List renaming all_eq_true → aW, append_assoc → aI, append_nil → aU, drop_zero → cc, eq_nil_of_length_eq_zero → bn, flatMap_cons → bE, getD_eq_getElem?_getD → aG, getElem?_eq_getElem → aJ, getElem?_eq_some_iff → bw, getElem?_map → a05, getElem_mem → bm, length_append → ax, length_cons → az, length_drop → bL, length_map → bT, length_nil → aB, length_pos_iff → cp, length_singleton → bu, length_take → bl, map_cons → bW, mem_append → aL, mem_cons → bA, mem_cons_of_mem → aD, mem_cons_self → aF, mem_flatMap → a33, mem_iff_getElem → a26, mem_map → cG, mem_of_mem_drop → cD, mem_of_mem_take → cC, mem_range → a03, mem_singleton → bD, nil_append → bS, not_mem_nil → a35, range → a09, replicate → aM, take_length → ck, take_succ_eq_append_getElem → cu
open Nat renaming beq → aw, eq_of_beq_eq_true → bV, le_refl → aC, le_trans → bX, mul_le_mul → a13, mul_one → a57, zero_add → cj, zero_le → aX
open Option renaming bind_some → au, none → ay, some → J
open Sum renaming elim_inl → aO, inl → an, inr → aE
section
namespace Go.Abs.D
def dec (n:Int):LI:=Lx.ints (Lib.itoa n)
def rdg:Nat->Nat->LI
 |0,_=>[]
 |k+1,m=>bif aw m 0 then []else(48+((m % 10:Nat):Int))::rdg k (m/10)
theorem K7:∀(k m:Nat),(rdg k m).length<=k
 |0,m=>aC _
 |k+1,m=>by
  unfold rdg;cases aw m 0
  ·have:=K7 k (m/10);simp;omega
  ·simp
theorem HR:∀(k m:Nat),∀c∈rdg k m,isByte c
 |0,m,c,h=>by grind [rdg]
 |k+1,m,c,h=>by
  unfold rdg at h;cases hm:aw m 0
  ·rw[hm]at h;simp at h
   rcases h with rfl|h
   ·exact⟨by omega,by omega⟩
   ·exact HR k (m/10) c h
  simp_all
theorem MG (m:Nat)(h:m<10):(((UInt8.ofNat (48+m)).toNat:Nat):Int)=48+(m:Int):=by
 grind [UInt8.toNat_ofNat']
theorem K4:∀(k m:Nat),0<m->m<10^k->(rdg k m).reverse=Lx.ints (cJ m)
 |0,m,h0,h1=>by omega
 |k+1,m,h0,h1=>by
  unfold rdg
  have hb:aw m 0=false:=by
   grind [aw,bV]
  rw[hb];simp only[ah,List.reverse_cons]
  by_cases hm:m<10
  ·have e0:m/10=0:=(by omega)
   have e1:rdg k (m/10)=[]:=by rw[e0];cases k<;>rfl
   rw[e1,cJ,dif_pos hm];have e2:m % 10=m:=(by omega);rw[e2];unfold Lx.ints
   grind [List.reverse_nil,MG]
  ·have e3:cJ m=cJ (m/10)++[UInt8.ofNat (48+m % 10)]:=(by rw[cJ,dif_neg hm]);rw[K4 k (m/10) (by omega) (by omega),e3];unfold Lx.ints
   grind [MG,Nat.mod_lt]
theorem tm (n:Int):n.tmod 10=if n<0 then -((n.natAbs % 10:Nat):Int)else((n.natAbs % 10:Nat):Int):=by
 grind
theorem xS:∀(k:Nat) (n:Int) (neg:Bool) (o:LI),n.natAbs<10^k-> -9223372036854775808<=n->n<=9223372036854775807->o.length+k<=100->
  Evt λN=>ik (S.tab N) n neg o=J (an (neg,o++rdg k n.natAbs,()))
 |0,n,neg,o,h0,_,_,_=>dt.up λN _=>by
  grind [ik,ot,dm,rdg]
 |k+1,n,neg,o,h0,h1,h2,ho=>by
  by_cases hn:n=0
  ·subst hn
   refine dt.up λN _=> ?_
   show ik (S.step (S.tab N)) _ _ _=_;simp_all[ot,dm,rdg]
  ·have hb:aw n.natAbs 0=false:=by
    grind [aw,bV]
   have hq:(n.tdiv 10).natAbs=n.natAbs/10:=by grind
   have aP0: -9223372036854775808<=n.tdiv 10:=(by omega);have as1:n.tdiv 10<=9223372036854775807:=(by omega);have ih:=xS k (n.tdiv 10) neg (o++[48+((n.natAbs % 10:Nat):Int)]) (by omega) aP0 as1 (by grind);have hf:fits (o.length+1)=true:=dE (by grind [lim]);have w3:aq.wrap (n.tdiv 10)=n.tdiv 10:=wrap64 _ aP0 (by omega)
   refine ih.up λN ih=> ?_
   show ik (S.step (S.tab N)) _ _ _=_;rw[ot,cU (by simp_all),w3]
   have fin:o++[48+((n.natAbs % 10:Nat):Int)]++rdg k (n.tdiv 10).natAbs=o++rdg (k+1) n.natAbs:=by
    simp_all[hq,rdg]
   rw[fin]at ih
   by_cases LQ:n.tmod 10<0
   ·grind [wrap64,cU,ab,xX]
   ·grind [dm,aa,wrap64,xX,cU]
theorem wD (ds:LI)(hd:∀c∈ds,isByte c)(hl:ds.length<=100):∀(k:Nat) (o:LI),k<=ds.length->o.length+k<=200->
  Evt λN=>jx (S.tab N) ds o ((k:Int) - 1)=J (an (o++(ds.take k).reverse,()))
 |0,o,_,_=>dt.up λN _=>by
  grind [jx,qM,dm]
 |k+1,o,hk,ho=>by
  have kI:k<ds.length:=(by omega);have ih:=wD ds hd hl k (o++[ds[k]]) (by omega) (by grind)
  refine ih.up λN ih=> ?_
  show jx (S.step (S.tab N)) _ _ _=_;have e:((k+1:Nat):Int) - 1=(k:Int):=(by omega)
  have hg:ds.getD (k:Int).toNat 0=ds[k]:=by
   simp_all
  have hm:([ds[k]]:LI).map byte=[ds[k]]:=wY λc hc=>by
   simp_all
  rw[e,qM,cU (by rfl),cU (db kI),hg,hm,cU (dE (by grind [lim])),wrap64 _ (by omega) (by omega),ih];rw[cu kI,List.reverse_append,List.reverse_singleton,aI]
theorem wA (ds:LI)(hd:∀c∈ds,isByte c)(hl:ds.length<=100)(o:LI)(ho:o.length<=1):Evt λN=>kO (S.tab N) ds o=J (an (o++ds.reverse,())):=
 (wD ds hd hl ds.length o (aC _) (by omega)).up λN h=>by
  show kO (S.step (S.tab N)) _ _=_;rw[yk,wrap64 _ (by omega) (by omega),h,au];simp[dB]
theorem Pq (n:Int)(h1: -9223372036854775808<=n)(h2:n<=9223372036854775807):n.natAbs<10^19:=by
 omega
theorem qx (n:Int)(h1: -9223372036854775808<=n)(h2:n<=9223372036854775807):Evt λN=>gJ (S.tab N) n=J (dec n,cO):=by
 by_cases hn:n=0
 ·subst hn
  refine dt.up λN _=> ?_
  show gJ (S.step (S.tab N)) _=_;rw[ve,cU (by rfl)]
  have:dec 0=[48]:=by
   unfold dec Lib.itoa;rw[aj (by decide),cJ,dif_pos (by decide)];rfl
  grind
 ·have a:=xS 19 n (I (n<0)) [] (Pq n h1 h2) h1 h2 (by simp);have hl:=K7 19 n.natAbs;have b1:=wA (rdg 19 n.natAbs) (HR _ _) (by omega) [45] (by simp);have b2:=wA (rdg 19 n.natAbs) (HR _ _) (by omega) [] (by simp);have hd:=K4 19 n.natAbs (by omega) (Pq n h1 h2)
  refine((a.and b1).and b2).up λN ⟨⟨a,b1⟩,b2⟩=> ?_
  show gJ (S.step (S.tab N)) _=_;rw[ve,da hn,a,au];simp[dB]
  by_cases LQ:n<0
  ·rw[dA LQ,b1,au];rw[hd];unfold dec Lib.itoa;rw[ak LQ];rfl
  ·rw[da LQ,b2,au];unfold dec Lib.itoa
   grind
theorem js (n:Int)(h1: -9223372036854775808<=n)(h2:n<=9223372036854775807):(dec n).length<=20:=by
 by_cases hn:n=0
 ·have:dec 0=[48]:=by
   unfold dec Lib.itoa;rw[aj (by decide),cJ,dif_pos (by decide)];rfl
  simp_all
 ·have hd:=K4 19 n.natAbs (by omega) (Pq n h1 h2);have hl:=K7 19 n.natAbs
  have e:(Lx.ints (cJ n.natAbs)).length<=19:=by grind
  unfold dec Lib.itoa;split
  ·have e2:Lx.ints (45::cJ n.natAbs)=45::Lx.ints (cJ n.natAbs):=rfl;simp_all
  grind
theorem Nb (n:Int):∀c∈dec n,isByte c:=by
 intro c hc;obtain⟨b,_,rfl⟩:=cG.1 hc;have:=b.toNat_lt;exact⟨by omega,by omega⟩
theorem IK (n:Int)(h1: -9223372036854775808<=n)(h2:n<=9223372036854775807):Lx.pT (n,10,())=J (dec n,(),(),()):=by
 unfold Lx.pT;simp only[decide_true,ab h1,ab h2,bK,ai];rfl
theorem si (n:Int)(h1: -9223372036854775808<=n)(h2:n<=9223372036854775807):Lx.sZ (n,())=J (dec n,(),()):=by
 unfold Lx.sZ;simp only[ab h1,ab h2,bK,ai];rfl
end Go.Abs.D
end

section
namespace Go.Abs.D
theorem YK (x:Int)(h0:0<=x)(h1:x<18446744073709551616):intBits .and .u64 x 15=x % 16:=by
 obtain⟨m,rfl⟩:∃m:Nat,x=(m:Int):=⟨x.toNat,by omega⟩
 have e1:(cw aH.bits ↑m&&&cw aH.bits 15).toNat=m % 16:=by
  have hb:aH.bits=64:=rfl;rw[BitVec.toNat_and]
  have ea:(cw aH.bits ↑m).toNat=m:=by
   rw[BitVec.toNat_ofInt,hb];omega
  have eb:(cw aH.bits 15).toNat=15:=(by decide);rw[ea,eb];exact Nat.and_two_pow_sub_one_eq_mod m 4
 show aH.wrap _=_;rw[e1];have:aH.wrap ((m % 16:Nat):Int)=((m % 16:Nat):Int) % 18446744073709551616:=rfl;rw[this];omega
def vW:LI:=[48,49,50,51,52,53,54,55,56,57,97,98,99,100,101,102]
def hx:Nat->Nat->LI
 |0,_=>[]
 |k+1,m=>vW.getD (m/16^k % 16) 0::hx k m
theorem Me:∀n:Nat,n<16->isByte (vW.getD n 0):=by
 have h:∀n:Fin 16,0<=vW.getD n.1 0/\vW.getD n.1 0<256:=(by decide)
 exact λn hn=>h ⟨n,hn⟩
theorem E1 (n:Int)(h1: -9223372036854775808<=n)(h2:n<=9223372036854775807):∀(k:Nat) (o:LI),k<=16->o.length+k<=100->
  Evt λN=>mf (S.tab N) n vW o (4*(k:Int) - 4)=J (an (o++hx k (aH.wrap n).toNat,()))
 |0,o,_,_=>dt.up λN _=>by
  show mf (S.step (S.tab N)) _ _ _ _=_;rw[wF,dm (by simp)];simp[hx]
 |k+1,o,hk,ho=>by
  have hu:aH.wrap n=n % 18446744073709551616:=rfl
  have P9:0<=aH.wrap n:=by rw[hu];omega
  have qf:aH.wrap n<18446744073709551616:=by rw[hu];omega
  have ih:=E1 n h1 h2 k (o++[vW.getD ((aH.wrap n).toNat/16^k % 16) 0]) (by omega) (by simp;omega)
  generalize hU:aH.wrap n=u at P9 qf ih⊢
  obtain⟨m,rfl⟩:∃m:Nat,u=(m:Int):=⟨u.toNat,by omega⟩
  have w1:aH.wrap (4*((k+1:Nat):Int) - 4)=((4*k:Nat):Int):=by
   have e:aH.wrap (4*((k+1:Nat):Int) - 4)=(4*((k+1:Nat):Int) - 4) % 18446744073709551616:=rfl;rw[e];omega
  have aK2:min ((4*k:Nat):Int).toNat aH.bits=4*k:=by
   have:aH.bits=64:=rfl;rw[this,bq];omega
  have aI2:(2:Int)^(4*k)=((16^k:Nat):Int):=by
   rw[Int.pow_mul]
   push_cast
   rfl
  have hdiv:(m:Int).fdiv (2^min ((4*k:Nat):Int).toNat aH.bits)=((m/16^k:Nat):Int):=by
   rw[aK2,aI2,Int.fdiv_eq_ediv_of_nonneg _ (Int.natCast_nonneg _)];rfl
  have hle:m/16^k<=m:=Nat.div_le_self _ _
  have ao5:∀q:Nat,q<=m->intBits .and .u64 ↑q 15=((q % 16:Nat):Int):=λq hq=>by rw[YK _ (by omega) (by omega)];rfl
  have hand:intBits .and .u64 ((m/16^k:Nat):Int) 15=((m/16^k % 16:Nat):Int):=ao5 _ hle;have kI:m/16^k % 16<16:=Nat.mod_lt _ (by decide)
  have aa9:([vW.getD (m/16^k % 16) 0]:LI).map byte=[vW.getD (m/16^k % 16) 0]:=wY λc hc=>by
   have:c=vW.getD (m/16^k % 16) 0:=(by simpa using hc);subst this;exact Me _ kI
  have e4:aq.wrap (4*((k+1:Nat):Int) - 4 - 4)=4*(k:Int) - 4:=by rw[wrap64 _ (by omega) (by omega)];omega
  refine ih.up λN ih=> ?_
  show mf (S.step (S.tab N)) _ _ _ _=_
  rw[wF,hU,w1,hdiv,hand,cU (by simp only[ae];omega),cU (by simp only[ae];omega),bq,aa9,
   cU (by show(I (0<=((m/16^k % 16:Nat):Int))&&I (((m/16^k % 16:Nat):Int)<16))=av;simp only[aA,ae];omega),
   cU (dE (by unfold lim;simp only[bu];omega)),e4]
  have hn:(m:Int).toNat=m:=bq m;rw[hn]at ih⊢;rw[ih];simp[hx]
def LB (n:Int):LI:=bif I (0<=n)then dec n else [48,120]++hx 16 (aH.wrap n).toNat
theorem TA (n:Int)(h1: -9223372036854775808<=n)(h2:n<=9223372036854775807):Evt λN=>uI (S.tab N) n=J (LB n,cO):=
 ((qx n h1 h2).and (E1 n h1 h2 16 [48,120] (by decide) (by decide))).up λN ⟨a,b⟩=>by
  show uI (S.step (S.tab N)) _=_;unfold LB;rw[IG]
  by_cases h:0<=n
  ·rw[dA h,a,ab h];rfl
  ·rw[da h,aa h];show(mf (S.tab N) n vW [48,120] (4*((16:Nat):Int) - 4)).bind _=_;rw[b];rfl
theorem Uc:∀(k m:Nat),(hx k m).length=k
 |0,_=>rfl
 |k+1,m=>by simp[hx,Uc k m]
end Go.Abs.D
end

section
namespace Go.Abs.D
def kn (x:Node):Int:=x.1
def opn (x:Node):Int:=x.2.2.2.2.1
def wc (x:Node):Int:=x.2.2.2.2.2.1
def txn (x:Node):LI:=x.2.2.2.2.2.2.1
def cS (ns:List Node)(i:Int):Node:=at_ (τ:=cR) ns i
def bpw (op:Int):Int:=([0,9,9,10,10,10,10,7,5,6,8,8,4,3,3,3,3,3,3]:LI).getD op.toNat 0
def pwr (x:Node):Int:=bif I (kn x=29)then 1 else bif I (kn x=28)then 2 else bif I (kn x=31)then bpw (opn x)else bif I (kn x=30)then 11 else 12
def rgt (x:Node):Int:=bif I (kn x=29)then 2 else bif I (kn x=28)then 3 else bif I (opn x=12)then 4 else bpw (opn x)+1
def lft (x:Node):Int:=bif I (rgt x=pwr x)then pwr x+1 else pwr x
def BW (x:Node):LI:=bif I (kn x=28)then [97,110,100]else bif I (kn x=29)then [111,114]else fxI (60+opn x)
def paren (b:Bool)(s:LI):LI:=bif b then [40]++s++[41]else s
def fX:List LI->LI
 |[]=>[]
 |s::r=>s++r.flatMap λt=>[44,32]++t
def uS (n:Nat):LI:=aM n 9
def Ei (S:Int->Nat->LI)(kids:LI)(j0:Nat):LI:=
 bif kids.isEmpty then [123,125]else [123,10]++(kids.flatMap λk=>uS (j0+1)++S k (j0+1)++[10])++uS j0++[125]
section
variable(ns:List Node)(E S:Int->Nat->LI)
def gK (i:Int)(j0:Nat):LI:=Ei S (cP (cS ns i)) j0
def fnT (x:Node)(j0:Nat):LI:=
 [40]++fX (cW x++bif I (opn x=1)then [[46,46,46]]else [])++[41,32]++gK ns S ((cP x).getD 0 0) j0
def jH (l:LI)(j0:Nat):LI:=fX (l.map λk=>E k j0)
def J0 (k:Int):Bool:=I (k=26)||(I (k=32)||(I (k=33)||(I (k=34)||decide (k=37))))
def Ev (k:Int)(j0:Nat):LI:=paren (!J0 (kn (cS ns k))) (E k j0)
def n7 (x:Node)(j0:Nat):LI:=
 let k0:=(cP x).getD 0 0
 let k1:=(cP x).getD 1 0
 bif I (kn x=20)then [110,105,108]else
 bif I (kn x=21)then [116,114,117,101]else
 bif I (kn x=22)then [102,97,108,115,101]else
 bif I (kn x=27)then [46,46,46]else
 bif I (kn x=23)then LB (wc x)else
 bif I (kn x=24)||decide (kn x=26)then txn x else
 bif I (kn x=25)then mI (txn x)else
 bif I (kn x=28)||(I (kn x=29)||decide (kn x=31))then
  paren (I (pwr (cS ns k0)<lft x)) (E k0 j0)++([32]++BW x++[32])++paren (I (pwr (cS ns k1)<rgt x)) (E k1 j0)else
 bif I (kn x=30)then
  (bif I (opn x=21)then [110,111,116,32]else bif I (opn x=22)then [35]else bif I (opn x=20)then [126]else
   [45]++bif I (kn (cS ns k0)=30)&&I (opn (cS ns k0)=19)then [32]else [])++paren (I (pwr (cS ns k0)<11)) (E k0 j0)else
 bif I (kn x=32)then Ev ns E k0 j0++[91]++E k1 j0++[93]else
 bif I (kn x=33)then Ev ns E k0 j0++([46]++txn x)else
 bif I (kn x=34)then Ev ns E k0 j0++[40]++jH E (cP x).tail j0++[41]else
 bif I (kn x=35)then [123]++jH E (cP x) j0++[125]else
 bif I (kn x=36)then [102,110]++fnT ns S x j0 else
 bif I (kn x=37)then [40]++E k0 j0++[41]else
 bif I (kn x=40)then E k0 j0 else
 bif I (kn x=41)then [91]++E k0 j0++[93,32,61,32]++E k1 j0 else
 bif I (kn x=42)then [46]++txn x++[32,61,32]++E k0 j0 else []
def ifT (x:Node)(j0:Nat):LI:=
 let k2:=(cP x).getD 2 0
 [105,102,32]++E ((cP x).getD 0 0) j0++[32]++gK ns S ((cP x).getD 1 0) j0++
  bif I ((cP x).length=3)then(bif I (kn (cS ns k2)=7)then [32,101,108]++S k2 j0 else [32,101,108,115,101,32]++gK ns S k2 j0)else []
def n8 (x:Node)(i:Int)(j0:Nat):LI:=
 let k0:=(cP x).getD 0 0
 let k1:=(cP x).getD 1 0
 let ac2:=fX (cW x)
 bif I (kn x=1)then Ei S (cP x) j0 else
 bif I (kn x=2)then [108,101,116,32]++ac2++(bif(cP x).isEmpty then []else [32,61,32]++jH E (cP x) j0)else
 bif I (kn x=3)then [99,111,110,115,116,32]++ac2++[32,61,32]++E k0 j0 else
 bif I (kn x=4)then [102,110,32]++ac2++fnT ns S (cS ns k0) j0 else
 bif I (kn x=5)then jH E ((cP x).take (wc x).toNat) j0++[32,61,32]++jH E ((cP x).drop (wc x).toNat) j0 else
 bif I (kn x=6)then E k0 j0 else
 bif I (kn x=16)then [100,101,102,101,114,32]++E k0 j0 else
 bif I (kn x=7)then ifT ns E S x j0 else
 bif I (kn x=8)then [119,104,105,108,101,32]++E k0 j0++[32]++gK ns S k1 j0 else
 bif I (kn x=9)then [102,111,114,32]++ac2++[32,61,32]++jH E (cP x).dropLast j0++[32]++gK ns S ((cP x).getD ((cP x).length - 1) 0) j0 else
 bif I (kn x=10)then [102,111,114,32]++ac2++[32,105,110,32]++E k0 j0++[32]++gK ns S k1 j0 else
 bif I (kn x=11)then [98,114,101,97,107]else
 bif I (kn x=12)then [110,101,120,116]else
 bif I (kn x=13)then [114,101,116,117,114,110]++(bif(cP x).isEmpty then []else [32]++jH E (cP x) j0)else
 bif I (kn x=14)then [116,114,121,32]++gK ns S k0 j0++([32,99,97,116,99,104,32]++ac2++[32])++gK ns S k1 j0 else
 bif I (kn x=15)then [116,104,114,111,119,32]++E k0 j0 else []
end
def prP (ns:List Node):Nat->(Int->Nat->LI)×(Int->Nat->LI)
 |0=>(λ_ _=>[],λ_ _=>[])
 |m+1=>(λi t=>n7 ns (prP ns m).1 (prP ns m).2 (cS ns i) t,λi t=>n8 ns (prP ns m).1 (prP ns m).2 (cS ns i) i t)
def zt (ns:List Node):LI:=(cP (cS ns ((ns.length - 1:Nat):Int))).flatMap λk=>(prP ns ns.length).2 k 0++[10]
def El (ns:List Node):LI:=bif I ((kg ns).1=0)then(bif I (65536<(zt ns).length)then []else(zt ns).map byte)else []
end Go.Abs.D
end

section
namespace Go.Abs.D
theorem ft {ns:List Node}{i:Nat}{x:Node}(h:okN ns i x=av):(bif fo x.1 then KS (ns,()) x (cT ns x) (cW x) x.2.2.2.2.1 x.2.2.2.2.2.1 x.2.2.2.2.2.2.1 x.1 else KE (ns,()) x (cT ns x) (cW x) x.2.2.2.2.1 x.2.2.2.2.2.1 x.2.2.2.2.2.2.1 x.1)=true:=by
 unfold okN at h;simp_all
theorem ew (ns:List Node)(x:Node):(cT ns x).length=(cP x).length:=by grind [cT]
theorem nw {ns:List Node}{x:Node}{j:Nat}(hj:j<(cP x).length):(cT ns x).getD j 0=kn (cS ns ((cP x).getD j 0)):=by
 unfold cT;rw[aG,a05,aJ hj,aG,aJ hj];rfl
theorem UB {names:List LI}{a b:Int}(h:NM names a b=av):a<=(names.length:Int)/\(names.length:Int)<=b:=by
 simp_all[NM]
section
variable{ns:List Node}{i:Nat}{x:Node}(h:okN ns i x=av)
include h
theorem sh3 (hk:kn x=3):(cP x).length=1/\(cW x).length=1:=by
 have h':=ft h;rw[show x.1=3 from hk]at h';have h':(PL av ar ar ar ((cW x).length:Int) x.2.2.2.2.1 x.2.2.2.2.2.1 x.2.2.2.2.2.2.1&&(NM (cW x) 1 1&&(I (((cT ns x).length:Int)=1)&&EX (cT ns x) 0 1)))=true:=h';simp[ew]at h';have:=UB h'.2.1;omega
theorem sh4 (hk:kn x=4):(cP x).length=1/\(cW x).length=1/\kn (cS ns ((cP x).getD 0 0))=36:=by
 have h':=ft h;rw[show x.1=4 from hk]at h';have h':(PL av ar ar ar ((cW x).length:Int) x.2.2.2.2.1 x.2.2.2.2.2.1 x.2.2.2.2.2.2.1&&(NM (cW x) 1 1&&(I (((cT ns x).length:Int)=1)&&I ((cT ns x).getD 0 0=36))))=true:=h';simp[ew]at h';have:=UB h'.2.1;have e:=nw (ns:=ns) (x:=x) (j:=0) (by omega)
 grind
theorem sh5 (hk:kn x=5):1<=wc x/\wc x<((cP x).length:Int):=by
 have h':=ft h;rw[show x.1=5 from hk]at h';have h':(PL ar ar av ar ((cW x).length:Int) x.2.2.2.2.1 x.2.2.2.2.2.1 x.2.2.2.2.2.2.1&&(I (1<=x.2.2.2.2.2.1)&&(I (x.2.2.2.2.2.1<((cT ns x).length:Int))&&((eR (cT ns x) 0 (x.2.2.2.2.2.1).toNat).all gV&&EX (cT ns x) (x.2.2.2.2.2.1).toNat (cT ns x).length))))=true:=h';simp[ew]at h';exact⟨h'.2.1,h'.2.2.1⟩
theorem sh6 (hk:kn x=6):(cP x).length=1:=by
 have h':=ft h;rw[show x.1=6 from hk]at h';have h':(PL ar ar ar ar ((cW x).length:Int) x.2.2.2.2.1 x.2.2.2.2.2.1 x.2.2.2.2.2.2.1&&(I (((cT ns x).length:Int)=1)&&(I ((cT ns x).getD 0 0=34))))=true:=h'
 grind [ew]
theorem ai5 (hk:kn x=16):(cP x).length=1:=by
 have h':=ft h;rw[show x.1=16 from hk]at h';have h':(PL ar ar ar ar ((cW x).length:Int) x.2.2.2.2.1 x.2.2.2.2.2.1 x.2.2.2.2.2.2.1&&(I (((cT ns x).length:Int)=1)&&(I ((cT ns x).getD 0 0=34))))=true:=h'
 grind [ew]
theorem ah5 (hk:kn x=15):(cP x).length=1:=by
 have h':=ft h;rw[show x.1=15 from hk]at h';have h':(PL ar ar ar ar ((cW x).length:Int) x.2.2.2.2.1 x.2.2.2.2.2.1 x.2.2.2.2.2.2.1&&(I (((cT ns x).length:Int)=1)&&EX (cT ns x) 0 1))=true:=h'
 grind [ew]
theorem sh7 (hk:kn x=7):((cP x).length=2\/(cP x).length=3)/\kn (cS ns ((cP x).getD 1 0))=1/\((cP x).length=3->kn (cS ns ((cP x).getD 2 0))=1\/kn (cS ns ((cP x).getD 2 0))=7):=by
 have h':=ft h;rw[show x.1=7 from hk]at h';have h':(PL ar ar ar ar ((cW x).length:Int) x.2.2.2.2.1 x.2.2.2.2.2.1 x.2.2.2.2.2.2.1&&(!I (((cT ns x).length:Int)<2)&&(!I ((3:Int)<((cT ns x).length:Int))&&(EX (cT ns x) 0 1&&(I ((cT ns x).getD 1 0=1)&&((I (((cT ns x).length:Int)=2)||(I ((cT ns x).getD 2 0=1)||decide ((cT ns x).getD 2 0=7)))))))))=true:=h'
 grind [ew,nw]
theorem sh8 (hk:kn x=8):(cP x).length=2:=by
 have h':=ft h;rw[show x.1=8 from hk]at h';have h':(PL ar ar ar ar ((cW x).length:Int) x.2.2.2.2.1 x.2.2.2.2.2.1 x.2.2.2.2.2.2.1&&(I (((cT ns x).length:Int)=2)&&(EX (cT ns x) 0 1&&(I ((cT ns x).getD 1 0=1)))))=true:=h'
 grind [ew]
theorem sh9 (hk:kn x=9):(cP x).length=3\/(cP x).length=4:=by
 have h':=ft h;rw[show x.1=9 from hk]at h';have h':(PL av ar ar ar ((cW x).length:Int) x.2.2.2.2.1 x.2.2.2.2.2.1 x.2.2.2.2.2.2.1&&(NM (cW x) 1 1&&((I (((cT ns x).length:Int)=3)||decide (((cT ns x).length:Int)=4))&&(EX (cT ns x) 0 ((cT ns x).length - 1)&&(I ((cT ns x).getD ((cT ns x).length - 1) 0=1))))))=true:=h'
 grind [ew]
theorem ai3 (hk:kn x=10):(cP x).length=2:=by
 have h':=ft h;rw[show x.1=10 from hk]at h';have h':(PL av ar ar ar ((cW x).length:Int) x.2.2.2.2.1 x.2.2.2.2.2.1 x.2.2.2.2.2.2.1&&(NM (cW x) 1 200&&(I (((cT ns x).length:Int)=2)&&(EX (cT ns x) 0 1&&(I ((cT ns x).getD 1 0=1))))))=true:=h'
 grind [ew]
theorem aj1 (hk:kn x=14):(cP x).length=2:=by
 have h':=ft h;rw[show x.1=14 from hk]at h';have h':(PL av ar ar ar ((cW x).length:Int) x.2.2.2.2.1 x.2.2.2.2.2.1 x.2.2.2.2.2.2.1&&(NM (cW x) 1 2&&(I (((cT ns x).length:Int)=2)&&(I ((cT ns x).getD 0 0=1)&&(I ((cT ns x).getD 1 0=1))))))=true:=h'
 grind [ew]
theorem ax7 (hk:kn x=25):(txn x).length<=4000:=(ph h).1.1
theorem ai8 (hk:kn x=28):(cP x).length=2:=by
 have h':=ft h;rw[show x.1=28 from hk]at h';have h':(I (((cT ns x).length:Int)=2)&&(EX (cT ns x) 0 2&&(PL ar ar ar ar ((cW x).length:Int) x.2.2.2.2.1 x.2.2.2.2.2.1 x.2.2.2.2.2.2.1)))=true:=h'
 grind [ew]
theorem ah9 (hk:kn x=29):(cP x).length=2:=by
 have h':=ft h;rw[show x.1=29 from hk]at h';have h':(I (((cT ns x).length:Int)=2)&&(EX (cT ns x) 0 2&&(PL ar ar ar ar ((cW x).length:Int) x.2.2.2.2.1 x.2.2.2.2.2.1 x.2.2.2.2.2.2.1)))=true:=h'
 grind [ew]
theorem ZF (hk:kn x=30):(cP x).length=1/\19<=opn x/\opn x<=22:=by
 have h':=ft h;rw[show x.1=30 from hk]at h';have h':(I (((cT ns x).length:Int)=1)&&(EX (cT ns x) 0 1&&(PL ar av ar ar ((cW x).length:Int) x.2.2.2.2.1 x.2.2.2.2.2.1 x.2.2.2.2.2.2.1&&(I ((19:Int)<=x.2.2.2.2.1)&&(I (x.2.2.2.2.1<=22))))))=true:=h';simp[ew]at h';exact⟨by omega,h'.2.2.2.1,h'.2.2.2.2⟩
theorem Sw (hk:kn x=31):(cP x).length=2/\1<=opn x/\opn x<=18:=by
 have h':=ft h;rw[show x.1=31 from hk]at h';have h':(I (((cT ns x).length:Int)=2)&&(EX (cT ns x) 0 2&&(PL ar av ar ar ((cW x).length:Int) x.2.2.2.2.1 x.2.2.2.2.2.1 x.2.2.2.2.2.2.1&&(I ((1:Int)<=x.2.2.2.2.1)&&(I (x.2.2.2.2.1<=18))))))=true:=h';simp[ew]at h';exact⟨by omega,h'.2.2.2.1,h'.2.2.2.2⟩
theorem aj4 (hk:kn x=32):(cP x).length=2:=by
 have h':=ft h;rw[show x.1=32 from hk]at h';have h':(I (((cT ns x).length:Int)=2)&&(EX (cT ns x) 0 2&&(!I ((cT ns x).getD 0 0=27)&&(PL ar ar ar ar ((cW x).length:Int) x.2.2.2.2.1 x.2.2.2.2.2.1 x.2.2.2.2.2.2.1))))=true:=h'
 grind [ew]
theorem aj0 (hk:kn x=33):(cP x).length=1:=by
 have h':=ft h;rw[show x.1=33 from hk]at h';have h':(I (((cT ns x).length:Int)=1)&&(EX (cT ns x) 0 1&&(!I ((cT ns x).getD 0 0=27)&&(PL ar ar ar av ((cW x).length:Int) x.2.2.2.2.1 x.2.2.2.2.2.1 x.2.2.2.2.2.2.1&&(iY 1 x.2.2.2.2.2.2.1)))))=true:=h'
 grind [ew]
theorem ai0 (hk:kn x=34):1<=(cP x).length:=by
 have h':=ft h;rw[show x.1=34 from hk]at h';have h':(I ((1:Int)<=((cT ns x).length:Int))&&(EX (cT ns x) 0 (cT ns x).length&&(!I ((cT ns x).getD 0 0=27)&&(PL ar ar ar ar ((cW x).length:Int) x.2.2.2.2.1 x.2.2.2.2.2.1 x.2.2.2.2.2.2.1))))=true:=h'
 grind [ew]
theorem aw9 (hk:kn x=35):∀k∈cP x,gm (kn (cS ns k))=true:=by
 have h':=ft h;rw[show x.1=35 from hk]at h';have h':((cT ns x).all gm&&(PL ar ar ar ar ((cW x).length:Int) x.2.2.2.2.1 x.2.2.2.2.2.1 x.2.2.2.2.2.2.1))=true:=h';rw[aA]at h';intro k hm;exact aW.1 h'.1 _ (cG.2 ⟨k,hm,rfl⟩)
theorem W8 (hk:kn x=36):(cP x).length=1/\kn (cS ns ((cP x).getD 0 0))=1:=by
 have h':=ft h;rw[show x.1=36 from hk]at h';have h':(I (((cT ns x).length:Int)=1)&&(I ((cT ns x).getD 0 0=1)&&(PL av av ar ar ((cW x).length:Int) x.2.2.2.2.1 x.2.2.2.2.2.1 x.2.2.2.2.2.2.1&&(NM (cW x) 0 200&&((I (x.2.2.2.2.1=0)||decide (x.2.2.2.2.1=1)))))))=true:=h'
 grind [ew,nw]
theorem ah7 (hk:kn x=37):(cP x).length=1:=by
 have h':=ft h;rw[show x.1=37 from hk]at h';have h':(I (((cT ns x).length:Int)=1)&&((I ((cT ns x).getD 0 0=34)||decide ((cT ns x).getD 0 0=27))&&(PL ar ar ar ar ((cW x).length:Int) x.2.2.2.2.1 x.2.2.2.2.2.1 x.2.2.2.2.2.2.1)))=true:=h'
 grind [ew]
theorem ai9 (hk:kn x=40):(cP x).length=1:=by
 have h':=ft h;rw[show x.1=40 from hk]at h';have h':(I (((cT ns x).length:Int)=1)&&(EX (cT ns x) 0 1&&(PL ar ar ar ar ((cW x).length:Int) x.2.2.2.2.1 x.2.2.2.2.2.1 x.2.2.2.2.2.2.1)))=true:=h'
 grind [ew]
theorem ai4 (hk:kn x=41):(cP x).length=2:=by
 have h':=ft h;rw[show x.1=41 from hk]at h';have h':(I (((cT ns x).length:Int)=2)&&(EX (cT ns x) 0 2&&(PL ar ar ar ar ((cW x).length:Int) x.2.2.2.2.1 x.2.2.2.2.2.1 x.2.2.2.2.2.2.1)))=true:=h'
 grind [ew]
theorem ah6 (hk:kn x=42):(cP x).length=1:=by
 have h':=ft h;rw[show x.1=42 from hk]at h';have h':(I (((cT ns x).length:Int)=1)&&(EX (cT ns x) 0 1&&(PL ar ar ar av ((cW x).length:Int) x.2.2.2.2.1 x.2.2.2.2.2.1 x.2.2.2.2.2.2.1&&iY 1 x.2.2.2.2.2.2.1)))=true:=h'
 grind [ew]
end
end Go.Abs.D
end

section
namespace Go.Abs.D
def MX:Nat:=100000000000
theorem LC {n:Nat}(h:n<=MX):fits n=true:=dE (by grind [lim,MX])
theorem uP (n:Nat):(uS n).length=n:=by grind [uS]
theorem Wc (op:Int)(h1:1<=op)(h2:op<=18):3<=bpw op/\bpw op<=10/\(bpw op=4↔op=12):=by
 have h:∀k:Fin 19,1<=k.1->3<=bpw (k.1:Int)/\bpw (k.1:Int)<=10/\(bpw (k.1:Int)=4↔(k.1:Int)=12):=by decide+kernel
 have:=h ⟨op.toNat,by omega⟩ (by grind)
 grind
def NS (x:Node):Prop:=(-9223372036854775808<=wc x/\wc x<=9223372036854775807)/\∀c∈txn x,isByte c
theorem Ie {ρ:Type}{x y:Option ρ}:brk av x y=x:=cU rfl
theorem uQ {ρ:Type}{x y:Option ρ}:brk ar x y=y:=dm rfl
theorem eC {x:Node}{j:Nat}(h:j<(cP x).length):(cP x).getD j 0∈cP x:=by
 simp_all
theorem Sg {l:List LI}{c:Nat}(h:∀m∈l,m.length<=c):(l.flatMap λt=>[44,32]++t).length<=l.length*(c+2):=by
 induction l with
 |nil=>simp
 |cons a r ih=>
  grind [ax,az,aB,Nat.succ_mul]
theorem GY {l:List LI}{c:Nat}(h:∀m∈l,m.length<=c):(fX l).length<=l.length*(c+2):=by
 cases l with
 |nil=>simp[fX]
 |cons a r=>
  have:=Sg (l:=r) λm hm=>h m (aD _ hm)
  show(a++r.flatMap λt=>[44,32]++t).length<=_
  grind [ax,az,Nat.succ_mul]
theorem Hz {ns:List Node}{i:Nat}{x:Node}(h:okN ns i x=av):(cW x).length<=200/\(fX (cW x)).length<=8400:=by
 have hb:=(ph h).1;have:=GY hb.2.2;have h2:=hb.2.1;omega
end Go.Abs.D
end

section
namespace Go.Abs.D
theorem qE {ks:LI}{a b:Nat}(h:EX ks a b=av){j:Nat}(h1:a<=j)(h2:j<b)(h3:j<ks.length):ks.getD j 0<40:=by
 have hm:ks.getD j 0∈eR ks a b:=by
  unfold eR;rw[aG,aJ h3];show ks[j]∈_;rw[a26];refine⟨j - a,by grind, ?_⟩;simp_all
 have:=aW.1 h _ hm;unfold mc at this
 grind
theorem ag9 {ks:LI}{b:Nat}(h:(eR ks 0 b).all gV=av){j:Nat}(h2:j<b)(h3:j<ks.length):ks.getD j 0<40:=by
 have hm:ks.getD j 0∈eR ks 0 b:=by
  grind [eR,aJ,a26]
 have:=aW.1 h _ hm;unfold gV at this
 grind
section
variable{ns:List Node}{i:Nat}{x:Node}(h:okN ns i x=av)
include h
theorem en2 (hk:kn x=2):∀j:Nat,j<(cP x).length->kn (cS ns ((cP x).getD j 0))<40:=by
 have h':=ft h;rw[show x.1=2 from hk]at h';have h':(PL av ar ar ar ((cW x).length:Int) x.2.2.2.2.1 x.2.2.2.2.2.1 x.2.2.2.2.2.2.1&&(NM (cW x) 1 200&&EX (cT ns x) 0 (cT ns x).length))=true:=h';simp[ew]at h';obtain⟨_,_,e⟩:=h';intro j hj;rw[<-nw hj];exact qE e (aX _) (by omega) (by simp_all[ew])
theorem en3 (hk:kn x=3):∀j:Nat,j<(cP x).length->kn (cS ns ((cP x).getD j 0))<40:=by
 have h':=ft h;rw[show x.1=3 from hk]at h';have h':(PL av ar ar ar ((cW x).length:Int) x.2.2.2.2.1 x.2.2.2.2.2.1 x.2.2.2.2.2.2.1&&(NM (cW x) 1 1&&(I (((cT ns x).length:Int)=1)&&EX (cT ns x) 0 1)))=true:=h';simp[ew]at h';obtain⟨_,_,_,e⟩:=h';intro j hj;rw[<-nw hj];exact qE e (aX _) (by omega) (by simp_all[ew])
theorem en5 (hk:kn x=5):∀j:Nat,j<(cP x).length->kn (cS ns ((cP x).getD j 0))<40:=by
 have h':=ft h;rw[show x.1=5 from hk]at h';have h':(PL ar ar av ar ((cW x).length:Int) x.2.2.2.2.1 x.2.2.2.2.2.1 x.2.2.2.2.2.2.1&&(I (1<=x.2.2.2.2.2.1)&&(I (x.2.2.2.2.2.1<((cT ns x).length:Int))&&((eR (cT ns x) 0 (x.2.2.2.2.2.1).toNat).all gV&&EX (cT ns x) (x.2.2.2.2.2.1).toNat (cT ns x).length))))=true:=h';simp only[aA,ae,ew]at h';obtain⟨_,a1,a2,e1,e2⟩:=h';intro j hj;rw[<-nw hj]
 by_cases c:j<(x.2.2.2.2.2.1).toNat
 ·exact ag9 e1 c (by simp_all[ew])
 ·exact qE e2 (Nat.le_of_not_lt c) (by omega) (by simp_all[ew])
theorem en6 (hk:kn x=6):∀j:Nat,j<(cP x).length->kn (cS ns ((cP x).getD j 0))<40:=by
 have h':=ft h;rw[show x.1=6 from hk]at h';have h':(PL ar ar ar ar ((cW x).length:Int) x.2.2.2.2.1 x.2.2.2.2.2.1 x.2.2.2.2.2.2.1&&(I (((cT ns x).length:Int)=1)&&(I ((cT ns x).getD 0 0=34))))=true:=h';simp only[aA,ae,ew]at h'
 grind [nw]
theorem ay0 (hk:kn x=16):∀j:Nat,j<(cP x).length->kn (cS ns ((cP x).getD j 0))<40:=by
 have h':=ft h;rw[show x.1=16 from hk]at h';have h':(PL ar ar ar ar ((cW x).length:Int) x.2.2.2.2.1 x.2.2.2.2.2.1 x.2.2.2.2.2.2.1&&(I (((cT ns x).length:Int)=1)&&(I ((cT ns x).getD 0 0=34))))=true:=h';simp only[aA,ae,ew]at h'
 grind [nw]
theorem ax3 (hk:kn x=15):∀j:Nat,j<(cP x).length->kn (cS ns ((cP x).getD j 0))<40:=by
 have h':=ft h;rw[show x.1=15 from hk]at h';have h':(PL ar ar ar ar ((cW x).length:Int) x.2.2.2.2.1 x.2.2.2.2.2.1 x.2.2.2.2.2.2.1&&(I (((cT ns x).length:Int)=1)&&EX (cT ns x) 0 1))=true:=h';simp[ew]at h';obtain⟨_,_,e⟩:=h';intro j hj;rw[<-nw hj];exact qE e (aX _) (by omega) (by simp_all[ew])
theorem en7 (hk:kn x=7):0<(cP x).length->kn (cS ns ((cP x).getD 0 0))<40:=by
 have h':=ft h;rw[show x.1=7 from hk]at h';have h':(PL ar ar ar ar ((cW x).length:Int) x.2.2.2.2.1 x.2.2.2.2.2.1 x.2.2.2.2.2.2.1&&(!I (((cT ns x).length:Int)<2)&&(!I ((3:Int)<((cT ns x).length:Int))&&(EX (cT ns x) 0 1&&(I ((cT ns x).getD 1 0=1)&&((I (((cT ns x).length:Int)=2)||(I ((cT ns x).getD 2 0=1)||decide ((cT ns x).getD 2 0=7)))))))))=true:=h';simp at h';obtain⟨_,_,_,e,_,_⟩:=h';intro hj;rw[<-nw hj];exact qE e (aX _) (by omega) (by omega)
theorem en8 (hk:kn x=8):0<(cP x).length->kn (cS ns ((cP x).getD 0 0))<40:=by
 have h':=ft h;rw[show x.1=8 from hk]at h';have h':(PL ar ar ar ar ((cW x).length:Int) x.2.2.2.2.1 x.2.2.2.2.2.1 x.2.2.2.2.2.2.1&&(I (((cT ns x).length:Int)=2)&&(EX (cT ns x) 0 1&&(I ((cT ns x).getD 1 0=1)))))=true:=h';simp at h';obtain⟨_,_,e,_⟩:=h';intro hj;rw[<-nw hj];exact qE e (aX _) (by omega) (by omega)
theorem en9 (hk:kn x=9):∀j:Nat,j<(cP x).length - 1->kn (cS ns ((cP x).getD j 0))<40:=by
 have h':=ft h;rw[show x.1=9 from hk]at h';have h':(PL av ar ar ar ((cW x).length:Int) x.2.2.2.2.1 x.2.2.2.2.2.1 x.2.2.2.2.2.2.1&&(NM (cW x) 1 1&&((I (((cT ns x).length:Int)=3)||decide (((cT ns x).length:Int)=4))&&(EX (cT ns x) 0 ((cT ns x).length - 1)&&(I ((cT ns x).getD ((cT ns x).length - 1) 0=1))))))=true:=h';simp[ew]at h';obtain⟨_,_,_,e,_⟩:=h';intro j hj;rw[<-nw (by omega)];exact qE e (aX _) (by omega) (by grind)
theorem az2 (hk:kn x=10):0<(cP x).length->kn (cS ns ((cP x).getD 0 0))<40:=by
 have h':=ft h;rw[show x.1=10 from hk]at h';have h':(PL av ar ar ar ((cW x).length:Int) x.2.2.2.2.1 x.2.2.2.2.2.1 x.2.2.2.2.2.2.1&&(NM (cW x) 1 200&&(I (((cT ns x).length:Int)=2)&&(EX (cT ns x) 0 1&&(I ((cT ns x).getD 1 0=1))))))=true:=h';simp at h';obtain⟨_,_,_,e,_⟩:=h';intro hj;rw[<-nw hj];exact qE e (aX _) (by omega) (by omega)
theorem az1 (hk:kn x=13):∀j:Nat,j<(cP x).length->kn (cS ns ((cP x).getD j 0))<40:=by
 have h':=ft h;rw[show x.1=13 from hk]at h';have h':(PL ar ar ar ar ((cW x).length:Int) x.2.2.2.2.1 x.2.2.2.2.2.1 x.2.2.2.2.2.2.1&&(EX (cT ns x) 0 (cT ns x).length))=true:=h';simp[ew]at h';obtain⟨_,e⟩:=h';intro j hj;rw[<-nw hj];exact qE e (aX _) (by omega) (by simp_all[ew])
theorem az7 (hk:kn x=28):∀j:Nat,j<(cP x).length->kn (cS ns ((cP x).getD j 0))<40:=by
 have h':=ft h;rw[show x.1=28 from hk]at h';have h':(I (((cT ns x).length:Int)=2)&&(EX (cT ns x) 0 2&&(PL ar ar ar ar ((cW x).length:Int) x.2.2.2.2.1 x.2.2.2.2.2.1 x.2.2.2.2.2.2.1)))=true:=h';simp[ew]at h';obtain⟨_,e,_⟩:=h';intro j hj;rw[<-nw hj];exact qE e (aX _) (by omega) (by simp_all[ew])
theorem az0 (hk:kn x=29):∀j:Nat,j<(cP x).length->kn (cS ns ((cP x).getD j 0))<40:=by
 have h':=ft h;rw[show x.1=29 from hk]at h';have h':(I (((cT ns x).length:Int)=2)&&(EX (cT ns x) 0 2&&(PL ar ar ar ar ((cW x).length:Int) x.2.2.2.2.1 x.2.2.2.2.2.1 x.2.2.2.2.2.2.1)))=true:=h';simp[ew]at h';obtain⟨_,e,_⟩:=h';intro j hj;rw[<-nw hj];exact qE e (aX _) (by omega) (by simp_all[ew])
theorem ax5 (hk:kn x=30):∀j:Nat,j<(cP x).length->kn (cS ns ((cP x).getD j 0))<40:=by
 have h':=ft h;rw[show x.1=30 from hk]at h';have h':(I (((cT ns x).length:Int)=1)&&(EX (cT ns x) 0 1&&(PL ar av ar ar ((cW x).length:Int) x.2.2.2.2.1 x.2.2.2.2.2.1 x.2.2.2.2.2.2.1&&(I ((19:Int)<=x.2.2.2.2.1)&&(I (x.2.2.2.2.1<=22))))))=true:=h';simp[ew]at h';obtain⟨_,e,_⟩:=h';intro j hj;rw[<-nw hj];exact qE e (aX _) (by omega) (by simp_all[ew])
theorem ax2 (hk:kn x=31):∀j:Nat,j<(cP x).length->kn (cS ns ((cP x).getD j 0))<40:=by
 have h':=ft h;rw[show x.1=31 from hk]at h';have h':(I (((cT ns x).length:Int)=2)&&(EX (cT ns x) 0 2&&(PL ar av ar ar ((cW x).length:Int) x.2.2.2.2.1 x.2.2.2.2.2.1 x.2.2.2.2.2.2.1&&(I ((1:Int)<=x.2.2.2.2.1)&&(I (x.2.2.2.2.1<=18))))))=true:=h';simp[ew]at h';obtain⟨_,e,_⟩:=h';intro j hj;rw[<-nw hj];exact qE e (aX _) (by omega) (by simp_all[ew])
theorem aj9 (hk:kn x=32):∀j:Nat,j<(cP x).length->kn (cS ns ((cP x).getD j 0))<40:=by
 have h':=ft h;rw[show x.1=32 from hk]at h';have h':(I (((cT ns x).length:Int)=2)&&(EX (cT ns x) 0 2&&(!I ((cT ns x).getD 0 0=27)&&(PL ar ar ar ar ((cW x).length:Int) x.2.2.2.2.1 x.2.2.2.2.2.1 x.2.2.2.2.2.2.1))))=true:=h';simp[ew]at h';obtain⟨_,e,_⟩:=h';intro j hj;rw[<-nw hj];exact qE e (aX _) (by omega) (by simp_all[ew])
theorem aA2 (hk:kn x=33):∀j:Nat,j<(cP x).length->kn (cS ns ((cP x).getD j 0))<40:=by
 have h':=ft h;rw[show x.1=33 from hk]at h';have h':(I (((cT ns x).length:Int)=1)&&(EX (cT ns x) 0 1&&(!I ((cT ns x).getD 0 0=27)&&(PL ar ar ar av ((cW x).length:Int) x.2.2.2.2.1 x.2.2.2.2.2.1 x.2.2.2.2.2.2.1&&(iY 1 x.2.2.2.2.2.2.1)))))=true:=h';simp[ew]at h';obtain⟨_,e,_⟩:=h';intro j hj;rw[<-nw hj];exact qE e (aX _) (by omega) (by simp_all[ew])
theorem ah8 (hk:kn x=34):∀j:Nat,j<(cP x).length->kn (cS ns ((cP x).getD j 0))<40:=by
 have h':=ft h;rw[show x.1=34 from hk]at h';have h':(I ((1:Int)<=((cT ns x).length:Int))&&(EX (cT ns x) 0 (cT ns x).length&&(!I ((cT ns x).getD 0 0=27)&&(PL ar ar ar ar ((cW x).length:Int) x.2.2.2.2.1 x.2.2.2.2.2.1 x.2.2.2.2.2.2.1))))=true:=h';simp[ew]at h';obtain⟨_,e,_⟩:=h';intro j hj;rw[<-nw hj];exact qE e (aX _) (by omega) (by simp_all[ew])
theorem az6 (hk:kn x=37):∀j:Nat,j<(cP x).length->kn (cS ns ((cP x).getD j 0))<40:=by
 have h':=ft h;rw[show x.1=37 from hk]at h';have h':(I (((cT ns x).length:Int)=1)&&((I ((cT ns x).getD 0 0=34)||decide ((cT ns x).getD 0 0=27))&&(PL ar ar ar ar ((cW x).length:Int) x.2.2.2.2.1 x.2.2.2.2.2.1 x.2.2.2.2.2.2.1)))=true:=h';simp only[aA,Bool.or_eq_true,ae,ew]at h'
 grind [nw]
theorem ax9 (hk:kn x=40):∀j:Nat,j<(cP x).length->kn (cS ns ((cP x).getD j 0))<40:=by
 have h':=ft h;rw[show x.1=40 from hk]at h';have h':(I (((cT ns x).length:Int)=1)&&(EX (cT ns x) 0 1&&(PL ar ar ar ar ((cW x).length:Int) x.2.2.2.2.1 x.2.2.2.2.2.1 x.2.2.2.2.2.2.1)))=true:=h';simp[ew]at h';obtain⟨_,e,_⟩:=h';intro j hj;rw[<-nw hj];exact qE e (aX _) (by omega) (by simp_all[ew])
theorem ak0 (hk:kn x=41):∀j:Nat,j<(cP x).length->kn (cS ns ((cP x).getD j 0))<40:=by
 have h':=ft h;rw[show x.1=41 from hk]at h';have h':(I (((cT ns x).length:Int)=2)&&(EX (cT ns x) 0 2&&(PL ar ar ar ar ((cW x).length:Int) x.2.2.2.2.1 x.2.2.2.2.2.1 x.2.2.2.2.2.2.1)))=true:=h';simp[ew]at h';obtain⟨_,e,_⟩:=h';intro j hj;rw[<-nw hj];exact qE e (aX _) (by omega) (by simp_all[ew])
theorem az4 (hk:kn x=42):∀j:Nat,j<(cP x).length->kn (cS ns ((cP x).getD j 0))<40:=by
 have h':=ft h;rw[show x.1=42 from hk]at h';have h':(I (((cT ns x).length:Int)=1)&&(EX (cT ns x) 0 1&&(PL ar ar ar av ((cW x).length:Int) x.2.2.2.2.1 x.2.2.2.2.2.1 x.2.2.2.2.2.2.1&&iY 1 x.2.2.2.2.2.2.1)))=true:=h';simp[ew]at h';obtain⟨_,e,_⟩:=h';intro j hj;rw[<-nw hj];exact qE e (aX _) (by omega) (by simp_all[ew])
end
end Go.Abs.D
end

section
namespace Go.Abs.D
abbrev WT1:Type:=(List Node×Unit)×LI×Int×Unit
def wst (ns:List Node)(acc:LI)(t:Nat):WT1:=((ns,()),acc,(t:Int),())
abbrev U9:Type:=Unit×Unit×Unit×Unit×Unit×Unit×Unit×Unit×Unit×Unit
def u9:U9:=((),(),(),(),(),(),(),(),(),())
theorem fV (ns:List Node)(t:Nat):Evt λn=>∀acc s:LI,acc.length+s.length<=MX->cY (S.tab n) (wst ns acc t) s=J ((),wst ns (acc++s) t,(),()):=dt.up λn _ acc s h=>by
 rw[Fv];show brk (fits (acc.length+s.length)) _ _=_;rw[cU (LC h)];rfl
theorem QF (ns:List Node)(t:Nat)(ht:t<=100000):∀m:Nat,m<=t->Evt λn=>∀acc:LI,acc.length+m<=MX->mA (S.tab n) (wst ns acc t) ((t - m:Nat):Int)=J (an (wst ns (acc++uS m) t,()))
 |0,_=>dt.up λn _ acc _=>by
  rw[sV];show brk (I (((t - 0:Nat):Int)<(t:Int))) _ _=_;simp_all[dm,af,uS,List.replicate_zero,aU]
 |m+1,h=>((QF ns t ht m (by omega)).and (fV ns t)).up λn ⟨ih,hs⟩ acc hb=>by
  rw[sV];show brk (I (((t - (m+1):Nat):Int)<(t:Int))) _ _=_;have e:t - (m+1)+1=t - m:=(by omega);rw[cU (by grind),hs _ _ (by grind),au,dX (by omega),e]
  grind [uS,aI]
theorem QZ (ns:List Node)(t:Nat)(ht:t<=100000):Evt λn=>∀acc:LI,acc.length+(1+t)<=MX->rA (S.tab n) (wst ns acc t)=J ((),wst ns (acc++([10]++uS t)) t,()):=
 ((QF ns t ht t (aC _)).and (fV ns t)).up λn ⟨hl,hs⟩ acc hb=>by
  rw[Nat.sub_self]at hl;rw[DL,hs _ _ (by grind),au];have:=hl (acc++[10]) (by grind);have this:mA (S.tab n) (wst ns (acc++[10]) t) 0=_:=this;rw[this,aI];rfl
theorem Y1 (op:Int):0<=bpw op:=by
 unfold bpw
 have h:∀k:Fin 19,(0:Int)<=([0,9,9,10,10,10,10,7,5,6,8,8,4,3,3,3,3,3,3]:LI).getD k.1 0:=by decide+kernel
 by_cases c:op.toNat<19
 ·exact h ⟨op.toNat,c⟩
 simp_all
theorem PD (x:Node):0<=pwr x:=by
 unfold pwr;have:=Y1 (opn x)
 grind
def RE (ns:List Node)(k:Int)(t:Nat)(s:LI):Prop:=Evt λn=>∀(acc:LI) (least:Int),acc.length+(paren (I (pwr (cS ns k)<least)) s).length<=MX->dG (S.tab n) (wst ns acc t) k least=J ((),wst ns (acc++paren (I (pwr (cS ns k)<least)) s) t,(),(),())
def PRS (ns:List Node)(k:Int)(t:Nat)(s:LI):Prop:=Evt λn=>∀acc:LI,acc.length+s.length<=MX->ry (S.tab n) (wst ns acc t) k=J ((),wst ns (acc++s) t,(),())
def RB (ns:List Node)(k:Int)(t:Nat)(s:LI):Prop:=Evt λn=>∀acc:LI,acc.length+s.length<=MX->fe (S.tab n) (wst ns acc t) k=J ((),wst ns (acc++s) t,(),())
def RF (ns:List Node)(k:Int)(t:Nat)(s:LI):Prop:=Evt λn=>∀acc:LI,acc.length+s.length<=MX->rB (S.tab n) (wst ns acc t) k=J ((),wst ns (acc++s) t,(),())
def RC (ns:List Node)(k:Int)(t:Nat)(s:LI):Prop:=Evt λn=>∀acc w:LI,acc.length+(w++s).length<=MX->pJ (S.tab n) (wst ns acc t) (cS ns k) w=J ((),wst ns (acc++(w++s)) t,u9,(),())
def RN (ns:List Node)(k:Int)(t:Nat)(s:LI):Prop:=Evt λn=>∀(acc:LI) (a:LI) (b c:Int),acc.length+s.length<=MX->lN (S.tab n) (wst ns acc t) k a b c=J (an (wst ns (acc++s) t,a,b,c,()))
theorem RE.zero {ns:List Node}{k:Int}{t:Nat}{s:LI}(h:RE ns k t s):Evt λn=>∀acc:LI,acc.length+s.length<=MX->dG (S.tab n) (wst ns acc t) k 0=J ((),wst ns (acc++s) t,(),(),()):=by
 refine h.mono λn h acc hb=> ?_
 have e:I (pwr (cS ns k)<0)=false:=by
  have:=PD (cS ns k);simp_all
 have:=h acc 0;rw[e]at this;exact this hb
theorem Nq (ns:List Node)(t:Nat):∀(r pre:List LI),pre≠[]->(pre++r).length<=100000->Evt λn=>∀acc:LI,acc.length+(r.flatMap λk=>[44,32]++k).length<=MX->
  ie (S.tab n) (wst ns acc t) (pre++r) ((pre++r).length:Int) (pre.length:Int)=J (an (wst ns (acc++r.flatMap λk=>[44,32]++k) t,()))
 |[],pre,hp,hl=>dt.up λn _ acc _=>by
  simp_all[lF,dm]
 |m::r,pre,hp,hl=>by
  have hlen:(pre++m::r).length=pre.length+(r.length+1):=(by simp);have tu:0<pre.length:=cp.2 hp;have ih:=Nq ns t r (pre++[m]) (by simp) (by simpa using hl)
  refine(ih.and (fV ns t)).up λn ⟨ih,hw⟩ acc hb=> ?_
  rw[bE]at hb⊢;simp only[ax,az,aB]at hb;have hg:(pre++m::r).getD (pre.length:Int).toNat []=m:=ju pre _ _ [];rw[lF,cU (by simp;omega),cU (db (by omega)),cU (by simp;omega),hw _ _ (by simp;omega),au,hg];rw[hw _ _ (by simp;omega),au,dX (by omega)];have e1:(pre++[m])++r=pre++m::r:=(by simp);have e2:(pre++[m]).length=pre.length+1:=(by simp);rw[e1,e2]at ih;rw[ih _ (by simp only[ax,az,aB];omega)];simp
theorem HY (ns:List Node)(t:Nat)(l:List LI)(hl:l.length<=100000):Evt λn=>∀acc:LI,acc.length+(fX l).length<=MX->mC (S.tab n) (wst ns acc t) l=J ((),wst ns (acc++fX l) t,(),()):=by
 have l0:Evt λn=>∀acc:LI,acc.length+(fX l).length<=MX->ie (S.tab n) (wst ns acc t) l (l.length:Int) 0=J (an (wst ns (acc++fX l) t,())):=by
  cases l with
  |nil=>
   refine dt.up λn _ acc _=> ?_
   simp_all[lF,dm,fX]
  |cons m r=>
   have hlen:(m::r).length=r.length+1:=(by simp)
   refine((Nq ns t r [m] (by simp) (by simpa using hl)).and (fV ns t)).up λn ⟨h1,hw⟩ acc hb=> ?_
   have e:fX (m::r)=m++r.flatMap λk=>[44,32]++k:=rfl
   rw[e]at hb⊢;rw[ax]at hb;rw[lF,dA (by omega),cU (by simp only[aA,ae];omega),dm (by decide)];show(cY (S.tab n) (wst ns acc t) m).bind _=_;rw[hw _ _ (by omega),au];have h1:∀acc:LI,acc.length+(r.flatMap λk=>[44,32]++k).length<=MX->ie (S.tab n) (wst ns acc t) (m::r) ((m::r).length:Int) 1=_:=h1;show ie (S.tab n) (wst ns (acc++m) t) (m::r) ((m::r).length:Int) 1=_;rw[h1 _ (by rw[ax];omega),aI]
 refine l0.up λn h acc hb=> ?_
 rw[Cj,h _ hb];rfl
theorem MZ (ns:List Node)(E:Int->Nat->LI)(t:Nat):∀(r pre:LI),pre≠[]->(pre++r).length<=100000->(∀k∈r,RE ns k t (E k t))->Evt λn=>∀acc:LI,acc.length+(r.flatMap λk=>[44,32]++E k t).length<=MX->
  ic (S.tab n) (wst ns acc t) (pre++r) ((pre++r).length:Int) (pre.length:Int)=J (an (wst ns (acc++r.flatMap λk=>[44,32]++E k t) t,()))
 |[],pre,hp,hl,_=>dt.up λn _ acc _=>by
  simp_all[lH,dm]
 |m::r,pre,hp,hl,h=>by
  have hlen:(pre++m::r).length=pre.length+(r.length+1):=(by simp);have tu:0<pre.length:=cp.2 hp;have ih:=MZ ns E t r (pre++[m]) (by simp) (by simpa using hl) (λk hk=>h k (aD _ hk))
  refine((ih.and (fV ns t)).and (h m (aF ..)).zero).up λn ⟨⟨ih,hw⟩,hE⟩ acc hb=> ?_
  rw[bE]at hb⊢;simp only[ax,az,aB]at hb;have hg:(pre++m::r).getD (pre.length:Int).toNat 0=m:=ju pre _ _ 0;rw[lH,cU (by simp;omega),cU (db (by omega)),cU (by simp;omega),hw _ _ (by simp;omega),au,hg];dsimp only;rw[hE _ (by simp;omega),au,dX (by omega)];dsimp only
  grind [ax,az,aB]
theorem Hd (E:Int->Nat->LI)(m:Int)(r:LI)(t:Nat):jH E (m::r) t=E m t++r.flatMap λk=>[44,32]++E k t:=by
 show E m t++(r.map λk=>E k t).flatMap (λt=>[44,32]++t)=_;rw[List.flatMap_map]
theorem q8 (ns:List Node)(E:Int->Nat->LI)(t:Nat)(kids:LI)(hl:kids.length<=100000)(h:∀k∈kids,RE ns k t (E k t)):Evt λn=>∀acc:LI,acc.length+(jH E kids t).length<=MX->
  iq (S.tab n) (wst ns acc t) kids=J ((),wst ns (acc++jH E kids t) t,(),()):=by
 have l0:Evt λn=>∀acc:LI,acc.length+(jH E kids t).length<=MX->ic (S.tab n) (wst ns acc t) kids (kids.length:Int) 0=J (an (wst ns (acc++jH E kids t) t,())):=by
  cases kids with
  |nil=>
   refine dt.up λn _ acc _=> ?_
   simp_all[lH,dm,jH,fX]
  |cons m r=>
   refine((MZ ns E t r [m] (by simp) (by simp_all) (λk hk=>h k (aD _ hk))).and (h m (aF ..)).zero).up λn ⟨h1,hE⟩ acc hb=> ?_
   rw[Hd]at hb⊢;rw[ax]at hb;rw[lH,cU (by simp),cU (by simp),dm (by decide)];show(dG (S.tab n) (wst ns acc t) m 0).bind _=_;rw[hE _ (by omega),au];have h1:∀acc:LI,acc.length+(r.flatMap λk=>[44,32]++E k t).length<=MX->ic (S.tab n) (wst ns acc t) (m::r) ((m::r).length:Int) 1=_:=h1;show ic (S.tab n) (wst ns (acc++E m t) t) (m::r) ((m::r).length:Int) 1=_
   grind
 refine l0.up λn h acc hb=> ?_
 rw[CC,h _ hb];rfl
theorem UI (f:Int->LI):∀l:LI,[10]++(l.flatMap λk=>f k++[10])=(l.flatMap λk=>[10]++f k)++[10]
 |[]=>rfl
 |k::l=>by
  simp_all[UI,bE,aI]
theorem RD (G:Int->Nat->LI)(kids:LI)(t:Nat)(h:kids≠[]):Ei G kids t=[123]++(kids.flatMap λk=>([10]++uS (t+1))++G k (t+1))++(([10]++uS t)++[125]):=by
 unfold Ei
 have yu:kids.isEmpty=false:=by simp_all
 rw[yu,ah];have:=UI (λk=>uS (t+1)++G k (t+1)) kids;simp_all
theorem JO (ns:List Node)(G:Int->Nat->LI)(t:Nat)(ht:t<=10000):∀(r pre:LI),(pre++r).length<=100000->(∀k∈r,PRS ns k t (G k t))->Evt λn=>∀acc:LI,acc.length+(r.flatMap λk=>([10]++uS t)++G k t).length<=MX->
  lL (S.tab n) (wst ns acc t) (pre++r) ((pre++r).length:Int) (pre.length:Int)=J (an (wst ns (acc++r.flatMap λk=>([10]++uS t)++G k t) t,()))
 |[],pre,hl,_=>dt.up λn _ acc _=>by
  simp_all[r5,dm]
 |m::r,pre,hl,h=>by
  have hlen:(pre++m::r).length=pre.length+(r.length+1):=(by simp);have ih:=JO ns G t ht r (pre++[m]) (by simpa using hl) (λk hk=>h k (aD _ hk))
  refine((ih.and (QZ ns t (by omega))).and (h m (aF ..))).up λn ⟨⟨ih,hw⟩,hE⟩ acc hb=> ?_
  rw[bE]at hb⊢;simp only[ax,az,aB,uP]at hb;have hg:(pre++m::r).getD (pre.length:Int).toNat 0=m:=ju pre _ _ 0;rw[r5,cU (by simp;omega),cU (db (by omega)),hw _ (by omega),au,hg];rw[hE _ (by simp[uP];omega),au,dX (by omega)];have e1:(pre++[m])++r=pre++m::r:=(by simp);have e2:(pre++[m]).length=pre.length+1:=(by simp);rw[e1,e2]at ih;rw[ih _ (by simp only[ax,az,aB,uP];omega)];simp
theorem Jk {ns:List Node}(G:Int->Nat->LI){b:Nat}(hb:b<ns.length)(t:Nat)(ht:t+1<=10000)(hl:(cP (cS ns (b:Int))).length<=100000)(h:∀k∈cP (cS ns (b:Int)),PRS ns k (t+1) (G k (t+1))):RB ns ↑b t (gK ns G ↑b t):=by
 refine(((JO ns G (t+1) ht (cP (cS ns ↑b)) [] (by simp_all) h).and (QZ ns t (by omega))).and ((fV ns t).and (fV ns t))).up λn ⟨⟨h6,aV2⟩,hw,_⟩ acc P5=> ?_
 have rL:(I ((0:Int)<=(b:Int))&&I ((b:Int)<((wst ns acc t).1.1.length:Int)))=true:=db hb;have hx:at_ (τ:=cR) (wst ns acc t).1.1 (b:Int)=cS ns ↑b:=rfl;have FJ:(cS ns ↑b).2.2.2.2.2.2.2.2.1=cP (cS ns ↑b):=rfl;unfold gK at P5⊢;rw[Cz,hx,FJ,cU rL]
 by_cases h0:cP (cS ns ↑b)=[]
 ·simp_all[cU,Ei]
 ·rw[RD _ _ _ h0]at P5⊢;simp only[ax,az,aB,uP]at P5;rw[dm (by simp;omega),hw _ _ (by simp;omega),au]
  have e1:((wst ns (acc++[123]) t).1,(wst ns (acc++[123]) t).2.1,aq.wrap ((wst ns (acc++[123]) t).2.2.1+1),())=wst ns (acc++[123]) (t+1):=by
   show((ns,()),acc++[123],aq.wrap ((t:Int)+1),())=_;rw[dX (by omega)];rfl
  rw[e1];have h6:∀acc:LI,acc.length+((cP (cS ns ↑b)).flatMap λk=>([10]++uS (t+1))++G k (t+1)).length<=MX->lL (S.tab n) (wst ns acc (t+1)) (cP (cS ns ↑b)) ((cP (cS ns ↑b)).length:Int) 0=_:=h6;rw[h6 _ (by simp only[ax,az,aB];omega),au];simp only[dB,aO]
  have e2:∀a:LI,((wst ns a (t+1)).1,(wst ns a (t+1)).2.1,aq.wrap ((wst ns a (t+1)).2.2.1 - 1),())=wst ns a t:=λa=>by
   show((ns,()),a,aq.wrap (((t+1:Nat):Int) - 1),())=_;rw[wrap64 _ (by omega) (by omega)];have:((t+1:Nat):Int) - 1=(t:Int):=(by omega);rw[this];rfl
  rw[e2,aV2 _ (by simp only[ax,az,aB];omega),au];rw[hw _ _ (by simp only[ax,az,aB,uP];omega),au];simp
theorem Wv (T:S.Tab):((a09 18).all λn=>I (jQ (S.step (S.step (S.step T))) (61+(n:Int))=J ((bpw (1+(n:Int)),(bif I (1+(n:Int)=12)then 4 else bpw (1+(n:Int))+1),()),cO)))=true:=by kernel_rfl
theorem GU:Evt λn=>∀op:Int,1<=op->op<=18->jQ (S.tab n) (60+op)=J ((bpw op,(bif I (op=12)then 4 else bpw op+1),()),cO):=by
 have h:Evt λn=>∀op:Int,1<=op->op<=18->jQ (S.tab (n+3)) (60+op)=J ((bpw op,(bif I (op=12)then 4 else bpw op+1),()),cO):=Evt.of λn op h1 h2=>by
  have:=of_decide_eq_true (aW.1 (Wv (S.tab n)) (op.toNat - 1) (a03.2 (by omega)))
  grind
 obtain⟨N,h⟩:=h
 exact⟨N+3,λn hn=>by
  have e:n - 3+3=n:=(by omega);rw[<-e]
  grind⟩
section
variable{ns:List Node}(kM:∀i:Nat,i<ns.length->okN ns i (cS ns (i:Int))=av)
include kM
theorem Ni:Evt λn=>∀k:Nat,k<ns.length->xl (S.tab n) (cS ns ↑k)=J (pwr (cS ns ↑k),fQ):=GU.up λn hp k hk=>by
 rw[FD];show brk (I (kn (cS ns ↑k)=29)) _ (brk (I (kn (cS ns ↑k)=28)) _ (brk (I (kn (cS ns ↑k)=31)) ((jQ (S.tab n) (aq.wrap (60+opn (cS ns ↑k)))).bind _) (brk (I (kn (cS ns ↑k)=30)) _ _)))=_;unfold pwr
 by_cases h29:kn (cS ns ↑k)=29
 ·simp_all[cU,ab]
 rw[da h29,aa h29]
 by_cases Ah:kn (cS ns ↑k)=28
 ·simp_all[cU,ab]
 rw[da Ah,aa Ah]
 by_cases J4:kn (cS ns ↑k)=31
 ·obtain⟨_,h1,h2⟩:=Sw (kM k hk) J4
  grind [cU,ab,wrap64]
 by_cases Dq:kn (cS ns ↑k)=30
 all_goals simp_all[cU,ab,dm,aa]
theorem OE:Evt λn=>∀k:Nat,k<ns.length->(kn (cS ns ↑k)=28\/kn (cS ns ↑k)=29\/kn (cS ns ↑k)=31)->qv (S.tab n) (cS ns ↑k)=J (rgt (cS ns ↑k),fQ):=GU.up λn hp k hk FJ=>by
 rw[Fs];show brk (I (kn (cS ns ↑k)=29)) _ (brk (I (kn (cS ns ↑k)=28)) _ ((jQ (S.tab n) (aq.wrap (60+opn (cS ns ↑k)))).bind _))=_;unfold rgt
 by_cases h29:kn (cS ns ↑k)=29
 ·simp_all[cU,ab]
 rw[da h29,aa h29]
 by_cases Ah:kn (cS ns ↑k)=28
 ·simp_all[cU,ab]
 rw[da Ah,aa Ah];have J4:kn (cS ns ↑k)=31:=(by omega);obtain⟨_,h1,h2⟩:=Sw (kM k hk) J4
 grind [wrap64]
theorem HL {i:Nat}(hi:i<ns.length){t:Nat}{E:Int->Nat->LI}(hk:kn (cS ns (i:Int))=28\/kn (cS ns (i:Int))=29\/kn (cS ns (i:Int))=31)(hE:∀k∈cP (cS ns (i:Int)),kn (cS ns k)<40->RE ns k t (E k t))(xb:∀k∈cP (cS ns (i:Int)),∃j:Nat,k=(j:Int)/\j<i)(sg:LI):
  Evt λn=>∀acc:LI,acc.length+(paren (I (pwr (cS ns ((cP (cS ns ↑i)).getD 0 0))<lft (cS ns ↑i))) (E ((cP (cS ns ↑i)).getD 0 0) t)++sg++paren (I (pwr (cS ns ((cP (cS ns ↑i)).getD 1 0))<rgt (cS ns ↑i))) (E ((cP (cS ns ↑i)).getD 1 0) t)).length<=MX->
   ox (S.tab n) (wst ns acc t) (cS ns ↑i) sg (pwr (cS ns ↑i))=J ((),wst ns (acc++(paren (I (pwr (cS ns ((cP (cS ns ↑i)).getD 0 0))<lft (cS ns ↑i))) (E ((cP (cS ns ↑i)).getD 0 0) t)++sg++paren (I (pwr (cS ns ((cP (cS ns ↑i)).getD 1 0))<rgt (cS ns ↑i))) (E ((cP (cS ns ↑i)).getD 1 0) t))) t,u9,(),(),()):=by
 have hx:=kM i hi
 have hl:(cP (cS ns ↑i)).length=2:=by
  rcases hk with h|h|h
  ·exact ai8 hx h
  ·exact ah9 hx h
  ·exact(Sw hx h).1
 have kI:∀j:Nat,j<(cP (cS ns ↑i)).length->kn (cS ns ((cP (cS ns ↑i)).getD j 0))<40:=by
  rcases hk with h|h|h
  ·exact az7 hx h
  ·exact az0 hx h
  ·exact ax2 hx h
 have hp12:pwr (cS ns ↑i)<=12:=by
  unfold pwr
  rcases hk with h|h|h
  ·rw[h];exact show(2:Int)<=12 by decide
  ·rw[h];exact show(1:Int)<=12 by decide
  ·obtain⟨_,h1,h2⟩:=Sw hx h;have:=Wc _ h1 h2;rw[h];show bpw (opn (cS ns ↑i))<=12;omega
 have yq:=PD (cS ns ↑i);have s6:=hE _ (eC (x:=(cS ns ↑i)) (j:=0) (by omega)) (kI 0 (by omega));have Vw:=hE _ (eC (x:=(cS ns ↑i)) (j:=1) (by omega)) (kI 1 (by omega));have FJ:(cS ns ↑i).2.2.2.2.2.2.2.2.1=cP (cS ns ↑i):=rfl
 refine(((OE kM).and (fV ns t)).and (s6.and Vw)).up λn ⟨⟨hr,hw⟩,s6,Vw⟩ acc hb=> ?_
 simp only[ax]at hb
 have fin:∀q:Int,lft (cS ns ↑i)=q->((dG (S.tab n) (wst ns acc t) ((cP (cS ns ↑i)).getD 0 0) q).bind λd22=>
   (cY (S.tab n) d22.2.1 sg).bind λd25=>
   brk (I (1<((cP (cS ns ↑i)).length:Int))) (
   (J (rgt (cS ns ↑i),fQ)).bind λd32=>
   (dG (S.tab n) d25.2.1 ((cP (cS ns ↑i)).getD 1 0) d32.1).bind λd33=>
   (J ((),d33.2.1,u9,(),(),()):Option (Unit×WT1×U9×Unit×Unit×Unit))) ay)=J ((),wst ns (acc++(paren (I (pwr (cS ns ((cP (cS ns ↑i)).getD 0 0))<lft (cS ns ↑i))) (E ((cP (cS ns ↑i)).getD 0 0) t)++sg++paren (I (pwr (cS ns ((cP (cS ns ↑i)).getD 1 0))<rgt (cS ns ↑i))) (E ((cP (cS ns ↑i)).getD 1 0) t))) t,u9,(),(),()):=λq hq=>by
  rw[<-hq,s6 _ _ (by omega),au];rw[hw _ _ (by rw[ax];omega),au,cU (by simp;omega),au];dsimp only;rw[Vw _ _ (by simp only[ax];omega),au];simp
 rw[Cy,hr i hi hk,au,FJ]
 by_cases hc:rgt (cS ns ↑i)=pwr (cS ns ↑i)
 ·rw[dA hc,cU (by simp;omega),wrap64 _ (by omega) (by omega)];exact fin _ (by unfold lft;rw[ab hc];rfl)
 ·rw[da hc,cU (by simp;omega)];exact fin _ (by unfold lft;rw[aa hc];rfl)
omit kM in
theorem RA:Evt λn=>∀k:Int,zc (S.tab n) k=J (J0 k,cO):=dt.up λn _ k=>by
 grind [GJ,J0,decide,Ie,uQ]
omit kM in
theorem HM {k:Nat}(hk:k<ns.length){t:Nat}{s:LI}(h:RE ns (k:Int) t s):Evt λn=>∀(acc:LI),acc.length+(paren (!J0 (kn (cS ns ↑k))) s).length<=MX->py (S.tab n) (wst ns acc t) (k:Int)=J ((),wst ns (acc++paren (!J0 (kn (cS ns ↑k))) s) t,(),()):=by
 refine((RA.and (fV ns t)).and h.zero).up λn ⟨⟨hB,hw⟩,hE⟩ acc hb=> ?_
 have rL:(I ((0:Int)<=(k:Int))&&I ((k:Int)<((wst ns acc t).1.1.length:Int)))=true:=db hk;have hx:(at_ (τ:=cR) (wst ns acc t).1.1 ↑k).1=kn (cS ns ↑k):=rfl;rw[DS,hx,hB,cU rL,au]
 cases hc:J0 (kn (cS ns ↑k))with
 |true=>
  rw[hc]at hb;rw[Ie,hE _ hb];rfl
 |false=>
  rw[hc]at hb;have hb:acc.length+([40]++s++[41]:LI).length<=MX:=hb;simp at hb;rw[uQ,hw _ _ (by simp;omega),au];rw[hE _ (by simp;omega),au];rw[hw _ _ (by simp;omega),au];show J ((),wst ns (((acc++[40])++s)++[41]) t,(),())=J ((),wst ns (acc++([40]++s++[41])) t,(),());simp
end
end Go.Abs.D
end

section
namespace Go.Abs.D
theorem kx {ns:List Node}{i:Nat}(hi:i<ns.length)(acc:LI)(t:Nat):(I ((0:Int)<=(i:Int))&&I ((i:Int)<((wst ns acc t).1.1.length:Int)))=true:=db hi
theorem pj (ns:List Node)(acc:LI)(t:Nat)(i:Int):at_ (τ:=cR) (wst ns acc t).1.1 i=cS ns i:=rfl
theorem iX (x:Node):x.2.2.2.2.2.2.2.2.1=cP x:=rfl
theorem rG (x:Node):x.2.2.2.2.2.2.2.1=cW x:=rfl
theorem Ml (l:List LI)(s:LI):fX (l++[s])=fX l++(bif l.isEmpty then s else [44,32]++s):=by
 cases l with
 |nil=>simp[fX]
 |cons a r=>
  show a++(r++[s]).flatMap (λt=>[44,32]++t)=(a++r.flatMap λt=>[44,32]++t)++([44,32]++s);simp
def plT (x:Node):LI:=
 bif I (kn x=20)then [110,105,108]else bif I (kn x=21)then [116,114,117,101]else bif I (kn x=22)then [102,97,108,115,101]else
 bif I (kn x=23)then LB (wc x)else bif I (kn x=24)then txn x else bif I (kn x=26)then txn x else bif I (kn x=25)then mI (txn x)else bif I (kn x=27)then [46,46,46]else []
theorem Ux (ns:List Node)(E:Int->Nat->LI)(t:Nat):∀(r pre:LI),pre≠[]->(pre++r).length<=100000->(∀k∈r,RN ns k t (E k t))->Evt λn=>∀acc:LI,acc.length+(r.flatMap λk=>[44,32]++E k t).length<=MX->
  ig (S.tab n) (wst ns acc t) (pre++r) ((pre++r).length:Int) (pre.length:Int)=J (an (wst ns (acc++r.flatMap λk=>[44,32]++E k t) t,()))
 |[],pre,hp,hl,_=>dt.up λn _ acc _=>by
  simp_all[lE,dm]
 |m::r,pre,hp,hl,h=>by
  have hlen:(pre++m::r).length=pre.length+(r.length+1):=(by simp);have tu:0<pre.length:=cp.2 hp;have ih:=Ux ns E t r (pre++[m]) (by simp) (by simpa using hl) (λk hk=>h k (aD _ hk))
  refine((ih.and (fV ns t)).and (h m (aF ..))).up λn ⟨⟨ih,hw⟩,hE⟩ acc hb=> ?_
  rw[bE]at hb⊢;simp only[ax,az,aB]at hb;have hg:(pre++m::r).getD (pre.length:Int).toNat 0=m:=ju pre _ _ 0;rw[lE,cU (by simp;omega),cU (db (by omega)),cU (by simp;omega),hw _ _ (by simp;omega),au,hg];rw[hE _ _ _ _ (by simp;omega),au];simp only[dB,aO];rw[dX (by omega)];have e1:(pre++[m])++r=pre++m::r:=(by simp);have e2:(pre++[m]).length=pre.length+1:=(by simp);rw[e1,e2]at ih;rw[ih _ (by simp only[ax,az,aB];omega)];simp
theorem TV (ns:List Node)(E:Int->Nat->LI)(t:Nat)(x:Node)(hl:(cP x).length<=100000)(h:∀k∈cP x,RN ns k t (E k t)):Evt λn=>∀acc:LI,acc.length+([123]++jH E (cP x) t++[125]).length<=MX->
  ur (S.tab n) (wst ns acc t) x=J ((),wst ns (acc++([123]++jH E (cP x) t++[125])) t,u9,()):=by
 have l0:Evt λn=>∀acc:LI,acc.length+(jH E (cP x) t).length<=MX->ig (S.tab n) (wst ns acc t) (cP x) ((cP x).length:Int) 0=J (an (wst ns (acc++jH E (cP x) t) t,())):=by
  generalize cP x=kids at hl h⊢
  cases kids with
  |nil=>
   refine dt.up λn _ acc _=> ?_
   simp_all[lE,dm,jH,fX]
  |cons m r=>
   have hlen:(m::r).length=r.length+1:=(by simp)
   refine((Ux ns E t r [m] (by simp) (by simpa using hl) (λk hk=>h k (aD _ hk))).and (h m (aF ..))).up λn ⟨h1,hE⟩ acc hb=> ?_
   rw[Hd]at hb⊢;rw[ax]at hb;rw[lE,dA (by omega),cU (by simp only[aA,ae];omega),dm (by decide)];show(lN (S.tab n) (wst ns acc t) m (m::r) ((m::r).length:Int) 0).bind _=_;rw[hE _ _ _ _ (by omega),au];have h1:∀acc:LI,acc.length+(r.flatMap λk=>[44,32]++E k t).length<=MX->ig (S.tab n) (wst ns acc t) (m::r) ((m::r).length:Int) 1=_:=h1;show ig (S.tab n) (wst ns (acc++E m t) t) (m::r) ((m::r).length:Int) 1=_;rw[h1 _ (by rw[ax];omega),aI]
 refine(l0.and (fV ns t)).up λn ⟨h,hw⟩ acc hb=> ?_
 simp at hb;rw[Cs,iX,hw _ _ (by simp;omega),au];rw[h _ (by simp;omega),au];simp[dB];rw[hw _ _ (by simp;omega),au];simp
theorem S9 (ns:List Node)(t:Nat){i:Nat}(hn:NS (cS ns (i:Int)))(ho:okN ns i (cS ns (i:Int))=av):Evt λn=>∀acc:LI,acc.length+(plT (cS ns ↑i)).length<=MX->uz (S.tab n) (wst ns acc t) (cS ns ↑i)=J ((),wst ns (acc++plT (cS ns ↑i)) t,u9,()):=by
 have hI:=TA (wc (cS ns ↑i)) hn.1.1 hn.1.2
 have hQ:Evt λn=>(cS ns ↑i).1=25->lV (S.tab n) (txn (cS ns ↑i))=J (mI (txn (cS ns ↑i)),(),()):=by
  by_cases h:(cS ns ↑i).1=25
  ·have hl:=ax7 ho h
   exact(Hi (txn (cS ns ↑i)) hn.2 (by omega)).mono λn e _=>e
  ·exact Evt.of λn e=>absurd e h
 refine((fV ns t).and (hI.and hQ)).up λn ⟨hw,hI,hQ⟩ acc hb=> ?_
 have hI:uI (S.tab n) (cS ns ↑i).2.2.2.2.2.1=J (LB (wc (cS ns ↑i)),cO):=hI;have hQ:(cS ns ↑i).1=25->lV (S.tab n) (cS ns ↑i).2.2.2.2.2.2.1=J (mI (txn (cS ns ↑i)),(),()):=hQ;have Z1:(cS ns ↑i).2.2.2.2.2.2.1=txn (cS ns ↑i):=rfl;rw[Cf];unfold plT at hb⊢
 by_cases P3:(cS ns ↑i).1=20
 ·rw[ab (show kn (cS ns ↑i)=20 from P3),ai]at hb⊢;rw[dA P3,hw _ _ hb];rfl
 rw[aa (show¬ kn (cS ns ↑i)=20 from P3),ah]at hb⊢;rw[da P3]
 by_cases XE:(cS ns ↑i).1=21
 ·rw[ab (show kn (cS ns ↑i)=21 from XE),ai]at hb⊢;rw[dA XE,hw _ _ hb];rfl
 rw[aa (show¬ kn (cS ns ↑i)=21 from XE),ah]at hb⊢;rw[da XE]
 by_cases P4:(cS ns ↑i).1=22
 ·rw[ab (show kn (cS ns ↑i)=22 from P4),ai]at hb⊢;rw[dA P4,hw _ _ hb];rfl
 rw[aa (show¬ kn (cS ns ↑i)=22 from P4),ah]at hb⊢;rw[da P4]
 by_cases On:(cS ns ↑i).1=23
 ·rw[ab (show kn (cS ns ↑i)=23 from On),ai]at hb⊢;rw[dA On,hI,au];dsimp only;rw[hw _ _ hb];rfl
 rw[aa (show¬ kn (cS ns ↑i)=23 from On),ah]at hb⊢;rw[da On]
 by_cases FM:(cS ns ↑i).1=24
 ·rw[ab (show kn (cS ns ↑i)=24 from FM),ai]at hb⊢;rw[dA FM,dA FM,Z1,hw _ _ hb];rfl
 rw[aa (show¬ kn (cS ns ↑i)=24 from FM),ah]at hb⊢;rw[da FM]
 by_cases Xx:(cS ns ↑i).1=26
 ·rw[ab (show kn (cS ns ↑i)=26 from Xx),ai]at hb⊢;rw[dA Xx,Z1,hw _ _ hb];rfl
 rw[aa (show¬ kn (cS ns ↑i)=26 from Xx),ah]at hb⊢;rw[da Xx]
 by_cases h25:(cS ns ↑i).1=25
 ·rw[ab (show kn (cS ns ↑i)=25 from h25),ai]at hb⊢;rw[dA h25,hQ h25,au];rw[hw _ _ hb];rfl
 rw[aa (show¬ kn (cS ns ↑i)=25 from h25),ah]at hb⊢;rw[da h25]
 by_cases Vr:(cS ns ↑i).1=27
 ·rw[ab (show kn (cS ns ↑i)=27 from Vr),ai]at hb⊢;rw[dA Vr,hw _ _ hb];rfl
 rw[aa (show¬ kn (cS ns ↑i)=27 from Vr),ah]at hb⊢;rw[da Vr];rw[aU]
section
variable{ns:List Node}(kM:∀i:Nat,i<ns.length->okN ns i (cS ns (i:Int))=av)
include kM
theorem KX (G:Int->Nat->LI){i:Nat}(hi:i<ns.length)(AK:kn (cS ns (i:Int))=36)(t:Nat)(hB:RB ns ((cP (cS ns (i:Int))).getD 0 0) t (gK ns G ((cP (cS ns (i:Int))).getD 0 0) t)):RF ns ↑i t (fnT ns G (cS ns ↑i) t):=by
 obtain⟨aJ2,_⟩:=W8 (kM i hi) AK;have aB9:=(ph (kM i hi)).1.2.1
 have ZH:∀a:Int,(cS ns ↑i).2.2.2.2.1=a↔opn (cS ns ↑i)=a:=λ_=>Iff.rfl
 refine((hB.and (fV ns t)).and (HY ns t (cW (cS ns ↑i)) (by omega))).up λn ⟨⟨hB,hw⟩,hn⟩ acc hb=> ?_
 unfold fnT at hb⊢
 have fin:∀a:LI,a.length+([41,32]++gK ns G ((cP (cS ns ↑i)).getD 0 0) t).length<=MX->((cY (S.tab n) (wst ns a t) ([41,32]:LI)).bind λd31=>
   brk (I (0<((cP (cS ns ↑i)).length:Int))) (
   (fe (S.tab n) d31.2.1 ((cP (cS ns ↑i)).getD 0 0)).bind λd37=>
   (J ((),d37.2.1,(),()):Option (Unit×WT1×Unit×Unit))) ay)=J ((),wst ns (a++([41,32]++gK ns G ((cP (cS ns ↑i)).getD 0 0) t)) t,(),()):=λa ha=>by
  simp only[ax,az,aB]at ha;rw[hw _ _ (by simp only[az,aB];omega),au,dA (by omega)];dsimp only;rw[hB _ (by simp only[ax,az,aB];omega),au];simp only[aI]
 by_cases h1:(cS ns ↑i).2.2.2.2.1=1
 ·rw[ab ((ZH 1).1 h1),ai,Ml]at hb⊢
  cases Vk:cW (cS ns ↑i)with
  |nil=>
   rw[Vk]at hb hn;simp[show fX ([]:List LI)=[]from rfl]at hn;have hb:acc.length+([40]++([46,46,46])++[41,32]++gK ns G ((cP (cS ns ↑i)).getD 0 0) t:LI).length<=MX:=hb;simp only[ax,az,aB]at hb;rw[qT,pj,iX,rG,Vk,cU (kx hi acc t),hw _ _ (by simp;omega),au];dsimp only;rw[hn _ (by simp;omega),au,dA h1,dm (by rfl)];dsimp only;rw[hw _ _ (by simp;omega),au];dsimp only;rw[fin _ (by simp only[ax,az,aB];omega)];show J ((),wst ns (((acc++[40])++[46,46,46])++([41,32]++gK ns G ((cP (cS ns ↑i)).getD 0 0) t)) t,(),())=J ((),wst ns (acc++([40]++([]++[46,46,46])++[41,32]++gK ns G ((cP (cS ns ↑i)).getD 0 0) t)) t,(),());simp
  |cons a r=>
   have tu:I ((0:Int)<((cW (cS ns ↑i)).length:Int))=true:=by
    rw[Vk];simp only[az,ae];omega
   have he:(cW (cS ns ↑i)).isEmpty=false:=by rw[Vk];rfl
   rw[<-Vk];rw[he,ah]at hb⊢;simp only[ax,az,aB]at hb;rw[qT,pj,iX,rG,cU (kx hi acc t),hw _ _ (by simp;omega),au];dsimp only;rw[hn _ (by simp;omega),au,dA h1,cU tu];dsimp only;rw[hw _ _ (by simp;omega),au];dsimp only;rw[hw _ _ (by simp;omega),au];dsimp only;rw[fin _ (by simp only[ax,az,aB];omega)];simp
 ·rw[aa (show¬ opn (cS ns ↑i)=1 from h1),ah,aU]at hb⊢;simp only[ax,az,aB]at hb;rw[qT,pj,iX,rG,cU (kx hi acc t),hw _ _ (by simp;omega),au];dsimp only;rw[hn _ (by simp;omega),au,da h1];dsimp only;rw[fin _ (by simp only[ax,az,aB];omega)];simp
theorem TH {i:Nat}(hi:i<ns.length){t:Nat}{E G:Int->Nat->LI}(hk:kn (cS ns (i:Int))=40\/kn (cS ns (i:Int))=41\/kn (cS ns (i:Int))=42)(hE:∀k∈cP (cS ns (i:Int)),kn (cS ns k)<40->RE ns k t (E k t)):RN ns ↑i t (n7 ns E G (cS ns ↑i) t):=by
 have ny:=kM i hi
 rcases hk with hk|hk|hk
 ·have hl:=ai9 ny hk
  have Oq:¬ (cS ns ↑i).1=41:=λe=>by have:=hk.symm.trans e;omega
  have S1:¬ (cS ns ↑i).1=42:=λe=>by have:=hk.symm.trans e;omega
  unfold n7;rw[hk];show RN ns ↑i t (E ((cP (cS ns ↑i)).getD 0 0) t)
  refine((hE _ (eC (x:=(cS ns ↑i)) (j:=0) (by omega)) (ax9 ny hk 0 (by omega))).zero).up λn hE acc a b c hb=> ?_
  rw[om,pj,iX,cU (kx hi acc t),da Oq,da S1,cU (by simp_all),hE _ hb];rfl
 ·have hl:=ai4 ny hk;unfold n7;rw[hk];show RN ns ↑i t ([91]++E ((cP (cS ns ↑i)).getD 0 0) t++[93,32,61,32]++E ((cP (cS ns ↑i)).getD 1 0) t)
  refine(((hE _ (eC (x:=(cS ns ↑i)) (j:=0) (by omega)) (ak0 ny hk 0 (by omega))).zero.and (hE _ (eC (x:=(cS ns ↑i)) (j:=1) (by omega)) (ak0 ny hk 1 (by omega))).zero).and (fV ns t)).up λn ⟨⟨s6,Vw⟩,hw⟩ acc a b c hb=> ?_
  simp only[ax,az,aB]at hb;rw[om,pj,iX,cU (kx hi acc t),dA (show(cS ns ↑i).1=41 from hk),hw _ _ (by simp;omega),au,cU (by simp;omega)];dsimp only;rw[s6 _ (by simp only[ax,az,aB];omega),au];rw[hw _ _ (by simp only[ax,az,aB];omega),au,cU (by simp;omega)];dsimp only;rw[Vw _ (by simp only[ax,az,aB];omega),au];simp
 ·have hl:=ah6 ny hk
  have Oq:¬ (cS ns ↑i).1=41:=λe=>by have:=hk.symm.trans e;exact absurd this (by decide)
  unfold n7;rw[hk];show RN ns ↑i t ([46]++txn (cS ns ↑i)++[32,61,32]++E ((cP (cS ns ↑i)).getD 0 0) t)
  refine((hE _ (eC (x:=(cS ns ↑i)) (j:=0) (by omega)) (az4 ny hk 0 (by omega))).zero.and (fV ns t)).up λn ⟨s6,hw⟩ acc a b c hb=> ?_
  simp only[ax,az,aB]at hb;have Z1:(cS ns ↑i).2.2.2.2.2.2.1=txn (cS ns ↑i):=rfl;rw[om,pj,iX,Z1,cU (kx hi acc t),da Oq,dA (show(cS ns ↑i).1=42 from hk),cU (LC (by omega)),cU (LC (by simp;omega)),hw _ _ (by simp;omega),au,cU (by simp;omega)];dsimp only;rw[s6 _ (by simp only[ax,az,aB];omega),au];simp
def Xh (x y:Node):LI:=bif I (opn x=21)then [110,111,116,32]else bif I (opn x=22)then [35]else bif I (opn x=20)then [126]else [45]++bif I (kn y=30)&&I (opn y=19)then [32]else []
theorem Tv {i:Nat}(hi:i<ns.length){t:Nat}{E:Int->Nat->LI}(hk:kn (cS ns (i:Int))=30){k0:Nat}(e0:(cP (cS ns (i:Int))).getD 0 0=(k0:Int))(SY:k0<ns.length)(hE:RE ns (k0:Int) t (E (k0:Int) t)):
  Evt λn=>∀acc:LI,acc.length+(Xh (cS ns ↑i) (cS ns ↑k0)++paren (I (pwr (cS ns ↑k0)<11)) (E ↑k0 t)).length<=MX->uy (S.tab n) (wst ns acc t) (cS ns ↑i)=J ((),wst ns (acc++(Xh (cS ns ↑i) (cS ns ↑k0)++paren (I (pwr (cS ns ↑k0)<11)) (E ↑k0 t))) t,u9,()):=by
 obtain⟨hl,_,_⟩:=ZF (kM i hi) hk
 have aR0:Evt λn=>∀acc:LI,acc.length+(paren (I (pwr (cS ns ↑k0)<11)) (E ↑k0 t)).length<=MX->fW (S.tab n) (wst ns acc t) (cS ns ↑i)=J (an (wst ns (acc++paren (I (pwr (cS ns ↑k0)<11)) (E ↑k0 t)) t,())):=hE.up λn hE acc hb=>by
  rw[yi,iX,e0,cU (by simp;omega),hE _ 11 hb];rfl
 refine(aR0.and (fV ns t)).up λn ⟨hj,hw⟩ acc hb=> ?_
 have fin:∀w:LI,acc.length+(w++paren (I (pwr (cS ns ↑k0)<11)) (E ↑k0 t)).length<=MX->((cY (S.tab n) (wst ns acc t) w).bind λd33=>(fW (S.tab n) d33.2.1 (cS ns ↑i)).bind (dB (λmn=>(J ((),mn.1,u9,()):Option (Unit×WT1×U9×Unit)))))=J ((),wst ns (acc++(w++paren (I (pwr (cS ns ↑k0)<11)) (E ↑k0 t))) t,u9,()):=λw hb=>by
  rw[ax]at hb;rw[hw _ _ (by omega),au];dsimp only;rw[hj _ (by rw[ax];omega),aI];rfl
 rw[Ce,iX];unfold Xh at hb⊢
 by_cases p21:(cS ns ↑i).2.2.2.2.1=21
 ·rw[ab (show opn (cS ns ↑i)=21 from p21)]at hb⊢;rw[dA p21];exact fin _ hb
 rw[aa (show¬ opn (cS ns ↑i)=21 from p21)]at hb⊢;rw[da p21]
 by_cases p22:(cS ns ↑i).2.2.2.2.1=22
 ·rw[ab (show opn (cS ns ↑i)=22 from p22)]at hb⊢;rw[dA p22];exact fin _ hb
 rw[aa (show¬ opn (cS ns ↑i)=22 from p22)]at hb⊢;rw[da p22]
 by_cases p20:(cS ns ↑i).2.2.2.2.1=20
 ·rw[ab (show opn (cS ns ↑i)=20 from p20)]at hb⊢;rw[dA p20];exact fin _ hb
 rw[aa (show¬ opn (cS ns ↑i)=20 from p20)]at hb⊢;rw[da p20];rw[ah,ah,ah]at hb⊢
 by_cases q:(cS ns ↑k0).1=30
 ·rw[ab (show kn (cS ns ↑k0)=30 from q),ct]at hb⊢
  by_cases r:(cS ns ↑k0).2.2.2.2.1=19
  ·rw[ab (show opn (cS ns ↑k0)=19 from r),ai]at hb⊢;simp at hb;rw[hw _ _ (by simp;omega),au,cU (by simp;omega),e0];dsimp only;rw[cU (kx SY _ t),pj,dA q,dA r,hw _ _ (by simp;omega),au];dsimp only;rw[hj _ (by simp;omega),au];simp[dB]
  ·rw[aa (show¬ opn (cS ns ↑k0)=19 from r),ah,aU]at hb⊢;simp at hb;rw[hw _ _ (by simp;omega),au,cU (by simp;omega),e0];dsimp only;rw[cU (kx SY _ t),pj,dA q,da r,hj _ (by simp;omega),au];simp[dB]
 ·rw[aa (show¬ kn (cS ns ↑k0)=30 from q),a47,ah,aU]at hb⊢;simp at hb;rw[hw _ _ (by simp;omega),au,cU (by simp;omega),e0];dsimp only;rw[cU (kx SY _ t),pj,da q,hj _ (by simp;omega),au];simp[dB]
end
end Go.Abs.D
end

section
namespace Go.Abs.D
def PRI (ns:List Node)(k:Int)(t:Nat)(s:LI):Prop:=Evt λn=>∀(acc:LI) (least:Int),¬ pwr (cS ns k)<least->acc.length+s.length<=MX->dG (S.tab n) (wst ns acc t) k least=J ((),wst ns (acc++s) t,(),(),())
section
variable{ns:List Node}(kM:∀i:Nat,i<ns.length->okN ns i (cS ns (i:Int))=av)
include kM
theorem PRI.re {i:Nat}(hi:i<ns.length){t:Nat}{s:LI}(h:PRI ns (i:Int) t s):RE ns ↑i t s:=by
 have h0:Evt λn=>∀(acc:LI),acc.length+s.length<=MX->dG (S.tab n) (wst ns acc t) ↑i 0=J ((),wst ns (acc++s) t,(),(),()):=h.mono λn h acc hb=>h acc 0 (by simp_all[PD,cS]) hb
 have h1:Evt λn=>∀(acc:LI) (least:Int),pwr (cS ns ↑i)<least->acc.length+([40]++s++[41]:LI).length<=MX->dG (S.tab n) (wst ns acc t) ↑i least=J ((),wst ns (acc++([40]++s++[41])) t,(),(),()):=((h0.and (fV ns t)).and (Ni kM)).up λn ⟨⟨h0,hw⟩,hp⟩ acc least hl hb=>by
  simp at hb;rw[fy,pj,cU (kx hi acc t),hp i hi,au];rw[dA hl,hw _ _ (by simp;omega),au];rw[h0 _ (by simp;omega),au];rw[hw _ _ (by simp;omega),au];simp
 refine(h.and h1).mono λn ⟨h,h1⟩ acc least hb=> ?_
 by_cases hc:pwr (cS ns ↑i)<least
 ·rw[ab hc]at hb⊢;exact h1 acc least hc hb
 ·rw[aa hc]at hb⊢;exact h acc least hc hb
theorem TD {i:Nat}(hi:i<ns.length)(hn:NS (cS ns (i:Int))){t:Nat}{E G:Int->Nat->LI}(SJ:kn (cS ns (i:Int))<40)(hE:∀k∈cP (cS ns (i:Int)),kn (cS ns k)<40->RE ns k t (E k t))(hN:kn (cS ns (i:Int))=35->∀k∈cP (cS ns (i:Int)),RN ns k t (E k t))(hF:kn (cS ns (i:Int))=36->RF ns (i:Int) t (fnT ns G (cS ns (i:Int)) t))
  (xb:∀k∈cP (cS ns (i:Int)),∃j:Nat,k=(j:Int)/\j<i):RE ns ↑i t (n7 ns E G (cS ns ↑i) t):=by
 refine PRI.re kM hi ?_;have ny:=kM i hi;have Yi:=(ph ny).2.1;have hP:=Ni kM
 by_cases Ah:(cS ns ↑i).1=28
 ·have hk:kn (cS ns ↑i)=28:=Ah;have hI:=HL kM hi (t:=t) (.inl hk) hE xb ([32,97,110,100,32]:LI)
  have e:n7 ns E G (cS ns ↑i) t=paren (I (pwr (cS ns ((cP (cS ns ↑i)).getD 0 0))<lft (cS ns ↑i))) (E ((cP (cS ns ↑i)).getD 0 0) t)++[32,97,110,100,32]++paren (I (pwr (cS ns ((cP (cS ns ↑i)).getD 1 0))<rgt (cS ns ↑i))) (E ((cP (cS ns ↑i)).getD 1 0) t):=by
   unfold n7 BW;rw[hk];rfl
  rw[e]
  refine(hP.and hI).up λn ⟨hp,hI⟩ acc least hl hb=> ?_
  rw[fy,pj,cU (kx hi acc t),hp i hi,au];dsimp only;rw[da hl,dA Ah,hI _ hb];rfl
 by_cases h29:(cS ns ↑i).1=29
 ·have hk:kn (cS ns ↑i)=29:=h29;have hI:=HL kM hi (t:=t) (.inr (.inl hk)) hE xb ([32,111,114,32]:LI)
  have e:n7 ns E G (cS ns ↑i) t=paren (I (pwr (cS ns ((cP (cS ns ↑i)).getD 0 0))<lft (cS ns ↑i))) (E ((cP (cS ns ↑i)).getD 0 0) t)++[32,111,114,32]++paren (I (pwr (cS ns ((cP (cS ns ↑i)).getD 1 0))<rgt (cS ns ↑i))) (E ((cP (cS ns ↑i)).getD 1 0) t):=by
   unfold n7 BW;rw[hk];rfl
  rw[e]
  refine(hP.and hI).up λn ⟨hp,hI⟩ acc least hl hb=> ?_
  rw[fy,pj,cU (kx hi acc t),hp i hi,au];dsimp only;rw[da hl,da Ah,dA h29,hI _ hb];rfl
 by_cases J4:(cS ns ↑i).1=31
 ·have hk:kn (cS ns ↑i)=31:=J4;obtain⟨_,o1,o2⟩:=Sw ny hk;have hI:=HL kM hi (t:=t) (.inr (.inr hk)) hE xb ([32]++fxI (60+opn (cS ns ↑i))++[32]);have hT:=Jy (60+opn (cS ns ↑i)) (by omega) (by omega);have aV3:aq.wrap (60+(cS ns ↑i).2.2.2.2.1)=60+opn (cS ns ↑i):=wrap64 (60+opn (cS ns ↑i)) (by omega) (by omega)
  have e:n7 ns E G (cS ns ↑i) t=paren (I (pwr (cS ns ((cP (cS ns ↑i)).getD 0 0))<lft (cS ns ↑i))) (E ((cP (cS ns ↑i)).getD 0 0) t)++([32]++fxI (60+opn (cS ns ↑i))++[32])++paren (I (pwr (cS ns ((cP (cS ns ↑i)).getD 1 0))<rgt (cS ns ↑i))) (E ((cP (cS ns ↑i)).getD 1 0) t):=by
   unfold n7 BW;rw[hk];rfl
  rw[e]
  refine((hP.and hI).and hT).up λn ⟨⟨hp,hI⟩,hT⟩ acc least hl hb=> ?_
  have Om:=hb;simp only[ax,az,aB]at Om;rw[fy,pj,cU (kx hi acc t),hp i hi,au];dsimp only;rw[da hl,da Ah,da h29,dA J4,aV3,hT,au,cU (LC (by dsimp only;omega)),cU (LC (by simp only[ax,az,aB];omega)),hI _ hb];rfl
 by_cases Dq:(cS ns ↑i).1=30
 ·have hk:kn (cS ns ↑i)=30:=Dq;obtain⟨nJ,_,_⟩:=ZF ny hk;have m0:=eC (x:=(cS ns ↑i)) (j:=0) (by omega);obtain⟨k0,e0,b0⟩:=xb _ m0;have s6:=hE _ m0 (ax5 ny hk 0 (by omega));rw[e0]at s6;have hU:=Tv kM hi hk e0 (show k0<ns.length by omega) s6
  have e:n7 ns E G (cS ns ↑i) t=Xh (cS ns ↑i) (cS ns ↑k0)++paren (I (pwr (cS ns ↑k0)<11)) (E ↑k0 t):=by
   unfold n7;rw[hk,e0];rfl
  rw[e]
  refine(hP.and hU).up λn ⟨hp,hU⟩ acc least hl hb=> ?_
  rw[fy,pj,cU (kx hi acc t),hp i hi,au];dsimp only;rw[da hl,da Ah,da h29,da J4,dA Dq,hU _ hb];rfl
 by_cases h32:(cS ns ↑i).1=32
 ·have hk:kn (cS ns ↑i)=32:=h32;have nJ:=aj4 ny hk;have m0:=eC (x:=(cS ns ↑i)) (j:=0) (by omega);obtain⟨k0,e0,b0⟩:=xb _ m0;have s6:=hE _ m0 (aj9 ny hk 0 (by omega));rw[e0]at s6;have Vw:=(hE _ (eC (x:=(cS ns ↑i)) (j:=1) (by omega)) (aj9 ny hk 1 (by omega))).zero;unfold n7;rw[hk,e0];show PRI ns ↑i t (Ev ns E ↑k0 t++[91]++E ((cP (cS ns ↑i)).getD 1 0) t++[93])
  refine((hP.and (HM (show k0<ns.length by omega) s6)).and (Vw.and (fV ns t))).up λn ⟨⟨hp,hB⟩,Vw,hw⟩ acc least hl hb=> ?_
  unfold Ev at hb⊢;simp only[ax,az,aB]at hb;rw[fy,pj,iX,cU (kx hi acc t),hp i hi,au];dsimp only;rw[da hl,da Ah,da h29,da J4,da Dq,dA h32,dA (by omega),e0,hB _ (by omega),au];dsimp only;rw[hw _ _ (by simp only[ax,az,aB];omega),au,dA (by omega)];dsimp only;rw[Vw _ (by simp only[ax,az,aB];omega),au];dsimp only;rw[hw _ _ (by simp only[ax,az,aB];omega),au];simp only[aI]
 by_cases SH:(cS ns ↑i).1=33
 ·have hk:kn (cS ns ↑i)=33:=SH;have nJ:=aj0 ny hk;have m0:=eC (x:=(cS ns ↑i)) (j:=0) (by omega);obtain⟨k0,e0,b0⟩:=xb _ m0;have s6:=hE _ m0 (aA2 ny hk 0 (by omega));rw[e0]at s6;have Z1:(cS ns ↑i).2.2.2.2.2.2.1=txn (cS ns ↑i):=rfl;unfold n7;rw[hk,e0];show PRI ns ↑i t (Ev ns E ↑k0 t++([46]++txn (cS ns ↑i)))
  refine((hP.and (HM (show k0<ns.length by omega) s6)).and (fV ns t)).up λn ⟨⟨hp,hB⟩,hw⟩ acc least hl hb=> ?_
  unfold Ev at hb⊢;simp only[ax,az,aB]at hb;rw[fy,pj,iX,Z1,cU (kx hi acc t),hp i hi,au];dsimp only;rw[da hl,da Ah,da h29,da J4,da Dq,da h32,dA SH,dA (by omega),e0,hB _ (by omega),au,cU (LC (by omega))];dsimp only;rw[hw _ _ (by simp only[ax,az,aB];omega),au];simp only[aI]
 by_cases Dm:(cS ns ↑i).1=34
 ·have hk:kn (cS ns ↑i)=34:=Dm;have nJ:=ai0 ny hk;have m0:=eC (x:=(cS ns ↑i)) (j:=0) (by omega);obtain⟨k0,e0,b0⟩:=xb _ m0;have s6:=hE _ m0 (ah8 ny hk 0 (by omega));rw[e0]at s6
  have Oh:sub (cP (cS ns ↑i)) 1 ((cP (cS ns ↑i)).length:Int)=(cP (cS ns ↑i)).tail:=by
   show((cP (cS ns ↑i)).take (cP (cS ns ↑i)).length).drop 1=_;rw[ck,List.drop_one]
  have Xt:bounds (cP (cS ns ↑i)).length 1 ((cP (cS ns ↑i)).length:Int)=true:=fS (i:=1) nJ (aC _)
  have hL:=q8 ns E t (cP (cS ns ↑i)).tail (by simp;omega) (λk hm=>by
   have ad5:=List.mem_of_mem_tail hm;obtain⟨j,hj,ej⟩:=a26.1 ad5;have:=ah8 ny hk j hj;rw[aG,aJ hj]at this
   exact hE k ad5 (by rw[<-ej];exact this))
  unfold n7;rw[hk,e0];show PRI ns ↑i t (Ev ns E ↑k0 t++[40]++jH E (cP (cS ns ↑i)).tail t++[41])
  refine((hP.and (HM (show k0<ns.length by omega) s6)).and (hL.and (fV ns t))).up λn ⟨⟨hp,hB⟩,hL,hw⟩ acc least hl hb=> ?_
  unfold Ev at hb⊢;simp only[ax,az,aB]at hb;rw[fy,pj,iX,cU (kx hi acc t),hp i hi,au];dsimp only;rw[da hl,da Ah,da h29,da J4,da Dq,da h32,da SH,dA Dm,dA (by omega),e0,hB _ (by omega),au];dsimp only;rw[hw _ _ (by simp only[ax,az,aB];omega),au,cU Xt,Oh];dsimp only;rw[hL _ (by simp only[ax,az,aB];omega),au];dsimp only;rw[hw _ _ (by simp;omega),au];simp
 by_cases Qb:(cS ns ↑i).1=35
 ·have hk:kn (cS ns ↑i)=35:=Qb;have hT:=TV ns E t (cS ns ↑i) (by omega) (hN hk);unfold n7;rw[hk];show PRI ns ↑i t ([123]++jH E (cP (cS ns ↑i)) t++[125])
  refine(hP.and hT).up λn ⟨hp,hT⟩ acc least hl hb=> ?_
  rw[fy,pj,cU (kx hi acc t),hp i hi,au];dsimp only;rw[da hl,da Ah,da h29,da J4,da Dq,da h32,da SH,da Dm,dA Qb,hT _ hb];rfl
 by_cases AK:(cS ns ↑i).1=36
 ·have hk:kn (cS ns ↑i)=36:=AK;have hB:=hF hk;unfold n7;rw[hk];show PRI ns ↑i t ([102,110]++fnT ns G (cS ns ↑i) t)
  refine((hP.and hB).and (fV ns t)).up λn ⟨⟨hp,hB⟩,hw⟩ acc least hl hb=> ?_
  simp at hb;rw[fy,pj,cU (kx hi acc t),hp i hi,au];dsimp only;rw[da hl,da Ah,da h29,da J4,da Dq,da h32,da SH,da Dm,da Qb,dA AK,hw _ _ (by simp;omega),au];dsimp only;rw[hB _ (by simp;omega),au];simp
 by_cases h37:(cS ns ↑i).1=37
 ·have hk:kn (cS ns ↑i)=37:=h37;have nJ:=ah7 ny hk;have s6:=(hE _ (eC (x:=(cS ns ↑i)) (j:=0) (by omega)) (az6 ny hk 0 (by omega))).zero;unfold n7;rw[hk];show PRI ns ↑i t ([40]++E ((cP (cS ns ↑i)).getD 0 0) t++[41])
  refine((hP.and s6).and (fV ns t)).up λn ⟨⟨hp,s6⟩,hw⟩ acc least hl hb=> ?_
  simp only[ax,az,aB]at hb;rw[fy,pj,iX,cU (kx hi acc t),hp i hi,au];dsimp only;rw[da hl,da Ah,da h29,da J4,da Dq,da h32,da SH,da Dm,da Qb,da AK,dA h37,hw _ _ (by simp;omega),au,cU (by simp;omega)];dsimp only;rw[s6 _ (by simp only[ax,az,aB];omega),au];dsimp only;rw[hw _ _ (by simp only[ax,az,aB];omega),au];simp
 have e:n7 ns E G (cS ns ↑i) t=plT (cS ns ↑i):=by
  unfold n7 plT
  have d:∀c:Int,¬ (cS ns ↑i).1=c->I (kn (cS ns ↑i)=c)=false:=λc h=>aa h
  have d40:∀c:Int,40<=c->I (kn (cS ns ↑i)=c)=false:=λc h=>aa (by omega)
  rw[d _ Ah,d _ h29,d _ J4,d _ Dq,d _ h32,d _ SH,d _ Dm,d _ Qb,d _ AK,d _ h37,d40 40 (by decide),d40 41 (by decide),d40 42 (by decide)]
  by_cases c20:kn (cS ns ↑i)=20
  ·rw[c20];rfl
  by_cases c21:kn (cS ns ↑i)=21
  ·rw[c21];rfl
  by_cases c22:kn (cS ns ↑i)=22
  ·rw[c22];rfl
  by_cases c27:kn (cS ns ↑i)=27
  ·rw[c27];rfl
  by_cases c23:kn (cS ns ↑i)=23
  ·rw[c23];rfl
  by_cases c24:kn (cS ns ↑i)=24
  ·rw[c24];rfl
  by_cases c26:kn (cS ns ↑i)=26
  ·rw[c26];rfl
  by_cases c25:kn (cS ns ↑i)=25
  ·rw[c25];rfl
  rw[aa c20,aa c21,aa c22,aa c27,aa c23,aa c24,aa c26,aa c25];rfl
 rw[e]
 refine(hP.and (S9 ns t hn ny)).up λn ⟨hp,Ew⟩ acc least hl hb=> ?_
 rw[fy,pj,cU (kx hi acc t),hp i hi,au];simp_all[dm,aa]
end
end Go.Abs.D
end

section
namespace Go.Abs.D
def ifR (ns:List Node)(E G:Int->Nat->LI)(x:Node)(t:Nat):LI:=
 E ((cP x).getD 0 0) t++[32]++gK ns G ((cP x).getD 1 0) t++
  bif I ((cP x).length=3)then(bif I (kn (cS ns ((cP x).getD 2 0))=7)then [32,101,108]++G ((cP x).getD 2 0) t else [32,101,108,115,101,32]++gK ns G ((cP x).getD 2 0) t)else []
theorem XR (ns:List Node)(E G:Int->Nat->LI)(x:Node)(t:Nat):ifT ns E G x t=[105,102,32]++ifR ns E G x t:=by
 rfl
theorem PE {x:Node}{P:Int->Prop}(h:∀j:Nat,j<(cP x).length->P ((cP x).getD j 0)):∀k∈cP x,P k:=λk hm=>by
 grind [a26,aJ]
section
variable{ns:List Node}(kM:∀i:Nat,i<ns.length->okN ns i (cS ns (i:Int))=av)
include kM
theorem Sh {i:Nat}(hi:i<ns.length)(hk:kn (cS ns (i:Int))=7){t:Nat}{E G:Int->Nat->LI}(hE:∀k∈cP (cS ns (i:Int)),kn (cS ns k)<40->RE ns k t (E k t))(hB:∀k∈cP (cS ns (i:Int)),RB ns k t (gK ns G k t))
  (hC:∀k∈cP (cS ns (i:Int)),kn (cS ns k)=7->∃r,G k t=[105,102,32]++r/\RC ns k t r) (xb:∀k∈cP (cS ns (i:Int)),∃j:Nat,k=(j:Int)/\j<i):RC ns ↑i t (ifR ns E G (cS ns ↑i) t):=by
 obtain⟨hl,_,_⟩:=sh7 (kM i hi) hk;have m0:=eC (x:=(cS ns ↑i)) (j:=0) (by omega);have m1:=eC (x:=(cS ns ↑i)) (j:=1) (by omega);have s6:=(hE _ m0 (en7 (kM i hi) hk (by omega))).zero;have Oo:=hB _ m1;unfold ifR
 by_cases h3:(cP (cS ns ↑i)).length=3
 ·have m2:=eC (x:=(cS ns ↑i)) (j:=2) (by omega);obtain⟨k2,e2,b2⟩:=xb _ m2;have aN3:=hC _ m2;have aO7:=hB _ m2;rw[e2]at aN3 aO7;rw[ab h3,e2,ai]
  by_cases h7:(cS ns ↑k2).1=7
  ·have Yt:kn (cS ns ↑k2)=7:=h7;obtain⟨r,hr,hR⟩:=aN3 Yt;rw[ab Yt,ai,hr];show RC ns ↑i t (E ((cP (cS ns ↑i)).getD 0 0) t++[32]++gK ns G ((cP (cS ns ↑i)).getD 1 0) t++([32,101,108,105,102,32]++r))
   refine(((fV ns t).and s6).and (Oo.and hR)).up λn ⟨⟨hw,h0⟩,h1,h2⟩ acc w hb=> ?_
   simp only[ax,az,aB]at hb;rw[pQ,iX,hw _ _ (by omega),au,dA (by omega)];dsimp only;rw[h0 _ (by simp only[ax];omega),au];dsimp only;rw[hw _ _ (by simp only[ax,az,aB];omega),au,dA (by omega)];dsimp only;rw[h1 _ (by simp only[ax,az,aB];omega),au,da (by omega),dA (by omega),e2];dsimp only;rw[cU (kx (by omega) _ t),pj,dA h7,h2 _ _ (by simp only[ax,az,aB];omega),au];simp only[aI]
  ·have Yt:¬ kn (cS ns ↑k2)=7:=h7;rw[aa Yt,ah]
   refine(((fV ns t).and s6).and (Oo.and aO7)).up λn ⟨⟨hw,h0⟩,h1,h2⟩ acc w hb=> ?_
   simp only[ax,az,aB]at hb;rw[pQ,iX,hw _ _ (by omega),au,dA (by omega)];dsimp only;rw[h0 _ (by simp only[ax];omega),au];dsimp only;rw[hw _ _ (by simp only[ax,az,aB];omega),au,dA (by omega)];dsimp only;rw[h1 _ (by simp only[ax,az,aB];omega),au,da (by omega),dA (by omega),e2];dsimp only;rw[cU (kx (by omega) _ t),pj,da h7,hw _ _ (by simp only[ax,az,aB];omega),au,cU (by simp;omega)];dsimp only;rw[h2 _ (by simp only[ax,az,aB];omega),au];simp
 ·rw[aa h3,ah,aU]
  refine(((fV ns t).and s6).and Oo).up λn ⟨⟨hw,h0⟩,h1⟩ acc w hb=> ?_
  simp only[ax,az,aB]at hb;rw[pQ,iX,hw _ _ (by omega),au,cU (by simp;omega)];dsimp only;rw[h0 _ (by simp only[ax];omega),au];dsimp only;rw[hw _ _ (by simp only[ax,az,aB];omega),au,cU (by simp;omega)];dsimp only;rw[h1 _ (by simp only[ax,az,aB];omega),au,cU (by simp;omega)];simp
def RJ (ns:List Node)(i:Int)(t:Nat)(s:LI)(f:Bool):Prop:=Evt λn=>∀acc:LI,acc.length+s.length<=MX->nL (S.tab n) (wst ns acc t) (cS ns i) (cS ns i).1 f=J (an (wst ns (acc++s) t,()))
theorem Wf {i:Nat}(hi:i<ns.length){t:Nat}{E G:Int->Nat->LI}(hE:∀k∈cP (cS ns (i:Int)),kn (cS ns k)<40->RE ns k t (E k t))(hB:∀k∈cP (cS ns (i:Int)),RB ns k t (gK ns G k t))(h1:¬ (cS ns (i:Int)).1=1)(h2:¬ (cS ns (i:Int)).1=2)(h3:¬ (cS ns (i:Int)).1=3)(h4:¬ (cS ns (i:Int)).1=4)(h5:¬ (cS ns (i:Int)).1=5)(h6:¬ (cS ns (i:Int)).1=6)(h7:¬ (cS ns (i:Int)).1=7)(h8:¬ (cS ns (i:Int)).1=8):
  RJ ns ↑i t (n8 ns E G (cS ns ↑i) ↑i t) (I ((cS ns ↑i).1=9)||decide ((cS ns ↑i).1=10)):=by
 have ny:=kM i hi;have Yi:=(ph ny).2.1;obtain⟨Oc,YB⟩:=Hz ny;have aq1:=HY ns t (cW (cS ns ↑i)) (by omega)
 by_cases h9:(cS ns ↑i).1=9
 ·have hk:kn (cS ns ↑i)=9:=h9;have hl:=sh9 ny hk;have kI:=en9 ny hk
  have hL:=q8 ns E t (cP (cS ns ↑i)).dropLast (by simp;omega) (λk hm=>by
   obtain⟨j,hj,ej⟩:=a26.1 hm;have Ys:j<(cP (cS ns ↑i)).length - 1:=(by simpa using hj);rw[List.getElem_dropLast]at ej;have SJ:=kI j Ys;rw[aG,aJ (by omega)]at SJ;have SJ:kn (cS ns (cP (cS ns ↑i))[j])<40:=SJ;rw[ej]at SJ
   exact hE k (by rw[<-ej];exact bm _) SJ)
  have Oo:=hB _ (eC (x:=(cS ns ↑i)) (j:=(cP (cS ns ↑i)).length - 1) (by omega))
  have aK1:aq.wrap (((cP (cS ns ↑i)).length:Int) - 1)=(((cP (cS ns ↑i)).length - 1:Nat):Int):=by rw[wrap64 _ (by omega) (by omega)];omega
  have Xt:bounds (cP (cS ns ↑i)).length 0 (((cP (cS ns ↑i)).length - 1:Nat):Int)=true:=fS (i:=0) (aX _) (by omega)
  have hs:sub (cP (cS ns ↑i)) 0 (((cP (cS ns ↑i)).length - 1:Nat):Int)=(cP (cS ns ↑i)).dropLast:=by
   show((cP (cS ns ↑i)).take ((cP (cS ns ↑i)).length - 1)).drop 0=_;rw[cc,List.dropLast_eq_take]
  unfold n8;rw[hk,ab h9,Bool.true_or];show RJ ns ↑i t ([102,111,114,32]++fX (cW (cS ns ↑i))++[32,61,32]++jH E (cP (cS ns ↑i)).dropLast t++[32]++gK ns G ((cP (cS ns ↑i)).getD ((cP (cS ns ↑i)).length - 1) 0) t) av
  refine(((fV ns t).and aq1).and (hL.and Oo)).up λn ⟨⟨hw,hn⟩,hL,hB⟩ acc hb=> ?_
  simp only[ax,az,aB]at hb;rw[eW,iX,rG,Ie,hw _ _ (by simp only[az,aB];omega),au];dsimp only;rw[hn _ (by simp only[ax,az,aB];omega),au,dA h9];dsimp only;rw[hw _ _ (by simp only[ax,az,aB];omega),au,aK1,cU Xt,hs];dsimp only;rw[hL _ (by simp only[ax,az,aB];omega),au];dsimp only;rw[hw _ _ (by simp only[ax,az,aB];omega),au,cU (db (by omega)),bq];dsimp only;rw[hB _ (by simp only[ax,az,aB];omega),au];simp only[aI]
 by_cases AH:(cS ns ↑i).1=10
 ·have hk:kn (cS ns ↑i)=10:=AH;have hl:=ai3 ny hk
  obtain⟨k0,k1,FJ⟩:∃k0 k1,cP (cS ns ↑i)=[k0,k1]:=by
   match hm:cP (cS ns ↑i),hl with
   |[a,b],_=>exact⟨a,b,rfl⟩
  have kI:=az2 ny hk (by omega);have Oo:=hB _ (eC (x:=(cS ns ↑i)) (j:=1) (by omega));have s6:=hE _ (eC (x:=(cS ns ↑i)) (j:=0) (by omega)) kI;rw[FJ]at Oo s6
  have hL:=q8 ns E t [k0] (by simp) (λk hm=>by
   rw[bD]at hm
   rw[hm];exact s6)
  have ab2:jH E [k0] t=E k0 t:=by unfold jH fX;simp
  rw[ab2]at hL;unfold n8;rw[hk,aa h9,cH,ab AH,FJ];show RJ ns ↑i t ([102,111,114,32]++fX (cW (cS ns ↑i))++[32,105,110,32]++E k0 t++[32]++gK ns G k1 t) av
  refine(((fV ns t).and aq1).and (hL.and Oo)).up λn ⟨⟨hw,hn⟩,hL,hB⟩ acc hb=> ?_
  simp only[ax,az,aB]at hb;rw[eW,iX,rG,FJ,Ie,hw _ _ (by simp only[az,aB];omega),au];dsimp only;rw[hn _ (by simp only[ax,az,aB];omega),au,da h9];dsimp only;rw[hw _ _ (by simp only[ax,az,aB];omega),au,cU (by rfl)];dsimp only;have hL:∀acc:LI,acc.length+(E k0 t).length<=MX->iq (S.tab n) (wst ns acc t) (sub [k0,k1] 0 (aq.wrap (([k0,k1].length:Int) - 1)))=J ((),wst ns (acc++E k0 t) t,(),()):=hL;rw[hL _ (by simp only[ax,az,aB];omega),au];dsimp only;rw[hw _ _ (by simp only[ax,az,aB];omega),au,cU (by rfl)];dsimp only;have hB:∀acc:LI,acc.length+(gK ns G k1 t).length<=MX->fe (S.tab n) (wst ns acc t) ([k0,k1].getD (aq.wrap (([k0,k1].length:Int) - 1)).toNat 0)=J ((),wst ns (acc++gK ns G k1 t) t,(),()):=hB;rw[hB _ (by simp only[ax,az,aB];omega),au];simp only[aI]
 rw[aa h9,aa AH,cH]
 by_cases yp:(cS ns ↑i).1=11
 ·have hk:kn (cS ns ↑i)=11:=yp;unfold n8;rw[hk];show RJ ns ↑i t [98,114,101,97,107] ar
  refine(fV ns t).up λn hw acc hb=> ?_
  rw[eW,uQ,dA yp,hw _ _ hb];rfl
 by_cases uZ:(cS ns ↑i).1=12
 ·have hk:kn (cS ns ↑i)=12:=uZ;unfold n8;rw[hk];show RJ ns ↑i t [110,101,120,116] ar
  refine(fV ns t).up λn hw acc hb=> ?_
  rw[eW,uQ,da yp,dA uZ,hw _ _ hb];rfl
 by_cases Ca:(cS ns ↑i).1=13
 ·have hk:kn (cS ns ↑i)=13:=Ca;have hL:=q8 ns E t (cP (cS ns ↑i)) (by omega) (λk hm=>hE k hm (PE (P:=λk=>kn (cS ns k)<40) (az1 ny hk) k hm));unfold n8;rw[hk];show RJ ns ↑i t ([114,101,116,117,114,110]++(bif(cP (cS ns ↑i)).isEmpty then []else [32]++jH E (cP (cS ns ↑i)) t)) ar
  refine((fV ns t).and hL).up λn ⟨hw,hL⟩ acc hb=> ?_
  by_cases h0:cP (cS ns ↑i)=[]
  ·rw[h0]at hb⊢;have hb:acc.length+([114,101,116,117,114,110]:LI).length<=MX:=hb;rw[eW,iX,h0,uQ,da yp,da uZ,dA Ca,hw _ _ hb,au,dm (by rfl)];rfl
  ·have yu:(cP (cS ns ↑i)).isEmpty=false:=(by simpa using h0);have ab2:(cP (cS ns ↑i)).length≠0:=(by simpa using h0);rw[yu,ah]at hb⊢;simp only[ax,az,aB]at hb;rw[eW,iX,uQ,da yp,da uZ,dA Ca,hw _ _ (by simp only[az,aB];omega),au,dA (by omega)];dsimp only;rw[hw _ _ (by simp only[ax,az,aB];omega),au];dsimp only;rw[hL _ (by simp only[ax,az,aB];omega),au];simp only[aI]
 by_cases ED:(cS ns ↑i).1=14
 ·have hk:kn (cS ns ↑i)=14:=ED;have hl:=aj1 ny hk;have am1:=hB _ (eC (x:=(cS ns ↑i)) (j:=0) (by omega));have Oo:=hB _ (eC (x:=(cS ns ↑i)) (j:=1) (by omega));unfold n8;rw[hk];show RJ ns ↑i t ([116,114,121,32]++gK ns G ((cP (cS ns ↑i)).getD 0 0) t++([32,99,97,116,99,104,32]++fX (cW (cS ns ↑i))++[32])++gK ns G ((cP (cS ns ↑i)).getD 1 0) t) ar
  refine(((fV ns t).and aq1).and (am1.and Oo)).up λn ⟨⟨hw,hn⟩,am1,Oo⟩ acc hb=> ?_
  simp only[ax,az,aB]at hb;rw[eW,iX,rG,uQ,da yp,da uZ,da Ca,dA ED,hw _ _ (by simp only[az,aB];omega),au,dA (by omega)];dsimp only;rw[am1 _ (by simp only[ax,az,aB];omega),au];dsimp only;rw[hw _ _ (by simp only[ax,az,aB];omega),au];dsimp only;rw[hn _ (by simp only[ax,az,aB];omega),au];dsimp only;rw[hw _ _ (by simp only[ax,az,aB];omega),au,dA (by omega)];dsimp only;rw[Oo _ (by simp only[ax,az,aB];omega),au];simp only[aI]
 by_cases ID:(cS ns ↑i).1=15
 ·have hk:kn (cS ns ↑i)=15:=ID;have hl:=ah5 ny hk;have s6:=(hE _ (eC (x:=(cS ns ↑i)) (j:=0) (by omega)) (ax3 ny hk 0 (by omega))).zero;unfold n8;rw[hk];show RJ ns ↑i t ([116,104,114,111,119,32]++E ((cP (cS ns ↑i)).getD 0 0) t) ar
  refine((fV ns t).and s6).up λn ⟨hw,s6⟩ acc hb=> ?_
  simp only[ax,az,aB]at hb;rw[eW,iX,uQ,da yp,da uZ,da Ca,da ED,dA ID,hw _ _ (by simp only[az,aB];omega),au,dA (by omega)];dsimp only;rw[s6 _ (by simp only[ax,az,aB];omega),au];simp only[aI]
 by_cases Aj:(cS ns ↑i).1=16
 ·have hk:kn (cS ns ↑i)=16:=Aj;have hl:=ai5 ny hk;have s6:=(hE _ (eC (x:=(cS ns ↑i)) (j:=0) (by omega)) (ay0 ny hk 0 (by omega))).zero;unfold n8;rw[hk];show RJ ns ↑i t ([100,101,102,101,114,32]++E ((cP (cS ns ↑i)).getD 0 0) t) ar
  refine((fV ns t).and s6).up λn ⟨hw,s6⟩ acc hb=> ?_
  simp only[ax,az,aB]at hb;rw[eW,iX,uQ,da yp,da uZ,da Ca,da ED,da ID,dA Aj,hw _ _ (by simp only[az,aB];omega),au,dA (by omega)];dsimp only;rw[s6 _ (by simp only[ax,az,aB];omega),au];simp only[aI]
 have e:n8 ns E G (cS ns ↑i) ↑i t=[]:=by
  unfold n8
  have d:∀c:Int,¬ (cS ns ↑i).1=c->I (kn (cS ns ↑i)=c)=false:=λc h=>aa h
  rw[d _ h1,d _ h2,d _ h3,d _ h4,d _ h5,d _ h6,d _ Aj,d _ h7,d _ h8,d _ h9,d _ AH,d _ yp,d _ uZ,d _ Ca,d _ ED,d _ ID];rfl
 rw[e]
 refine(fV ns t).up λn _ acc hb=> ?_
 simp_all[eW,uQ,dm,aa,aU]
end
end Go.Abs.D
end

section
namespace Go.Abs.D
theorem Lf {l:LI}{j:Nat}(h:j<l.length):get l j=l[j]:=uR h
theorem EH {st Jd kids:LI}{i:Nat}(hs:∀j,j<i->get Jd j=get st j):∀(m:Nat) (a:Int),(∀j,j<m->0<=get kids j/\get kids j<(i:Int))->kK Jd kids m a=kK st kids m a
 |0,_,_=>rfl
 |m+1,a,hk=>by
  unfold kK;rw[hs _ (by simp_all),EH hs m _ λj hj=>hk j (by omega)]
theorem Q0 (ns:List cR.den)(hk:∀i,i<ns.length->∀j,j<(dO ns i).length->0<=get (dO ns i) j/\get (dO ns i) j<(i:Int)):∀(r:Nat) (st:LI),r<=ns.length->st.length=ns.length->imS ns r st= .inr ()->
  ∃Jd,(∀j,j<ns.length - r->get Jd j=get st j)/\(∀i,ns.length - r<=i->i<ns.length->kK Jd (dO ns i) (dO ns i).length (i:Int)=J (get Jd i))/\(0<r->get Jd (ns.length - 1)=0)
 |0,st,_,_,_=>⟨st,λ_ _=>rfl,λi h1 h2=>by omega,λh=>by omega⟩
 |r+1,st,hr,hl,h=>by
  unfold imS at h;split at h
  ·cases h
  ·rename_i a ha;have kI:ns.length - (r+1)<ns.length:=(by omega)
   cases hb:I (r=0)&& !I (a=0)with
   |true=>simp_all
   |false=>
    rw[hb]at h;obtain⟨Jd,h1,h2,h3⟩:=Q0 ns hk r _ (by omega) (by simp_all) h
    have XN:∀j,j<ns.length - (r+1)->get Jd j=get st j:=λj hj=>by
     rw[h1 j (by omega),pM _ _ _ _ (by omega),aj (by omega)]
    refine⟨Jd,XN,λi Yn aJ8=> ?_,λ_=> ?_⟩
    rotate_left
    ·rcases Nat.eq_zero_or_pos r with h0|h0
     ·subst h0;have e:ns.length - 1<ns.length - 0:=(by omega);rw[h1 _ e,pM _ _ _ _ (by omega),ak rfl];simpa using hb
     ·exact h3 h0
    by_cases hi:i=ns.length - (r+1)
    ·subst hi;rw[EH XN _ _ (hk _ kI),ha,h1 _ (by omega),pM _ _ _ _ (by omega),ak rfl]
    grind
theorem Jn {ns:List cR.den}(h:(kg ns).1=0):∃st:LI,(∀i,i<ns.length->kK st (dO ns i) (dO ns i).length (i:Int)=J (get st i))/\get st (ns.length - 1)=0:=by
 obtain⟨_,h0,h3,hk⟩:=nu h
 have L6:∀i,i<ns.length->∀j,j<(dO ns i).length->0<=get (dO ns i) j/\get (dO ns i) j<(i:Int):=λi hi j hj=>by
  grind [qb,Lf,bm]
 unfold kg at h
 by_cases c0:ns.length=0
 ·omega
 rw[aa (show¬ 3000<ns.length by omega)]at h
 by_cases c2:ld ns ((ns.length - 1:Nat):Int)=1
 ·by_cases c3:zE ns<ns.length
  ·simp_all
  cases hi:imS ns ns.length (aM ns.length 0)with
  |inl j=>simp_all
  |inr _=>
   obtain⟨Jd,_,h2,h3⟩:=Q0 ns L6 ns.length _ (aC _) (by simp) hi;exact⟨Jd,λi hi=>h2 i (by omega) hi,h3 h0⟩
 simp_all
theorem Nv {ns:List cR.den}(h:(kg ns).1=0):∃st:LI,∀i,i<ns.length->kK st (dO ns i) (dO ns i).length (i:Int)=J (get st i):=by
 obtain⟨st,h,_⟩:=Jn h;exact⟨st,h⟩
theorem xw {st kids:LI}{L:Int->Nat}(hL:∀j,j<kids.length->0<=get kids j/\(L (get kids j):Int)+get st (get kids j).toNat<=get kids j+1):∀(m:Nat) (a b:Int),m<=kids.length->kK st kids m a=J b->(((kids.take m).map L).sum:Int)+b<=a
 |0,a,b,_,h=>by
  injection h with h
  simp_all
 |m+1,a,b,hm,h=>by
  have PY:m<kids.length:=(by omega);unfold kK at h
  by_cases hc:get kids m=a - 1
  ·rw[ab hc]at h;have ih:=xw hL m _ b (by omega) h;rw[cu PY,List.map_append,List.sum_append,bW,List.map_nil,List.sum_cons,List.sum_nil]
   grind [Lf]
  simp_all
section
variable{ns:List cR.den}(hk:∀(j:Nat) (hj:j<ns.length),∀k∈cP ns[j],0<=k/\k<(j:Int)){st:LI}(pH:∀i,i<ns.length->kK st (dO ns i) (dO ns i).length (i:Int)=J (get st i))
include hk in
theorem H4 (i:Nat)(hi:i<ns.length)(j:Nat)(hj:j<(dO ns i).length):∃k:Nat,get (dO ns i) j=(k:Int)/\k<i:=by
 rw[qb hi]at hj⊢;rw[Lf hj];have:=hk i hi _ (bm hj);exact⟨((cP ns[i])[j]).toNat,by omega,by omega⟩
include hk pH in
theorem US:∀(n i:Nat),i<n->i<ns.length->0<=get st i
 |0,i,h,_=>absurd h (by omega)
 |n+1,i,h,hi=>by
  have key:∀(m:Nat) (a b:Int),m<=(dO ns i).length->0<=a->kK st (dO ns i) m a=J b->0<=b:=by
   intro m
   induction m with
   |zero=>intro a b _ h0 h;injection h with h;omega
   |succ m ih=>
    intro a b hm h0 h;unfold kK at h
    by_cases hc:get (dO ns i) m=a - 1
    ·rw[ab hc]at h;obtain⟨k,FJ,kI⟩:=H4 hk i hi m (by omega);rw[FJ]at h;exact ih _ b (by omega) (US n k (by omega) (by omega)) h
    ·rw[aa hc]at h;cases h
  exact key _ _ _ (aC _) (by omega) (pH i hi)
include hk pH in
theorem Rb:∀(n i:Nat),i<n->i<ns.length->get st i<=(i:Int)
 |0,i,h,_=>absurd h (by omega)
 |n+1,i,h,hi=>by
  have:=xw (st:=st) (kids:=dO ns i) (L:=λ_=>0) (λj hj=>by
   obtain⟨k,FJ,kI⟩:=H4 hk i hi j hj;have:=Rb n k (by omega) (by omega)
   grind) (dO ns i).length i (get st i) (aC _) (pH i hi)
  omega
end
end Go.Abs.D
end

section
namespace Go.Abs.D
def WB:Nat:=3000000
def Ja (st:LI)(k:Int):Nat:=(k+1 - get st k.toNat).toNat
def uK (st:LI)(k:Int):Nat:=WB*Ja st k
def uT (st:LI)(l:LI):Nat:=(l.map (uK st)).sum
theorem tw (st:LI)(k:Int)(l:LI):uT st (k::l)=uK st k+uT st l:=by rfl
theorem MP (st:LI)(a b:LI):uT st (a++b)=uT st a+uT st b:=by grind [uT]
theorem Lt {st l:LI}(h:1<=l.length):uK st (l.getD 0 0)<=uT st l:=by
 match l,h with
 |a::r,_=>simp_all[tw,uK]
theorem Lr {st l:LI}(h:2<=l.length):uK st (l.getD 0 0)+uK st (l.getD 1 0)<=uT st l:=by
 match l,h with
 |a::b::r,_=>simp_all[tw,uK]
theorem Y0 {st l:LI}(h:3<=l.length):uK st (l.getD 0 0)+uK st (l.getD 1 0)+uK st (l.getD 2 0)<=uT st l:=by
 match l,h with
 |a::b::c::r,_=>grind [tw,uK]
theorem WD {st l:LI}(h:1<=l.length):uK st (l.getD 0 0)+uT st l.tail=uT st l:=by
 match l,h with
 |a::r,_=>rfl
theorem VQ (st l:LI)(m:Nat):uT st (l.take m)+uT st (l.drop m)=uT st l:=by rw[<-MP,List.take_append_drop]
theorem VY {st l:LI}(h:1<=l.length):uT st l.dropLast+uK st (l.getD (l.length - 1) 0)=uT st l:=by
 have e:l=l.dropLast++[l.getD (l.length - 1) 0]:=by
  have yu:l≠[]:=λe=>by simp_all
  grind [List.dropLast_concat_getLast,aJ]
 grind [MP,uT]
theorem Lh {st:LI}(f:Int->LI)(c:Nat):∀(l:LI),(∀k∈l,(f k).length<=uK st k+c)->(l.flatMap f).length<=uT st l+c*l.length
 |[],_=>by simp
 |k::l,h=>by
  have ih:=Lh f c l λx hx=>h x (aD _ hx)
  grind [ax,tw,az,Nat.mul_succ]
theorem wX {st:LI}(E:Int->Nat->LI)(t:Nat)(l:LI)(h:∀k∈l,(E k t).length<=uK st k):(jH E l t).length<=uT st l+2*l.length:=by
 unfold jH
 cases l with
 |nil=>simp[fX]
 |cons a r=>
  have:=Lh (st:=st) (λk=>[44,32]++E k t) 2 r λk hk=>by
   simp_all
  show(E a t++(r.map λk=>E k t).flatMap λt=>[44,32]++t).length<=_
  grind [List.flatMap_map,ax,tw,az,Nat.mul_succ]
theorem zV (b:Bool)(s:LI):(paren b s).length<=s.length+2:=by
 cases b
 ·exact Nat.le_add_right _ _
 ·show([40]++s++[41]).length<=_;simp
section
variable{ns:List Node}(kM:∀i:Nat,i<ns.length->okN ns i (cS ns (i:Int))=av){st:LI}(AG:∀i:Nat,i<ns.length->uT st (cP (cS ns (i:Int)))+WB<=uK st (i:Int))
include kM AG
theorem WU {i:Nat}(hi:i<ns.length){t:Nat}(ht:t<=10000){G:Int->Nat->LI}(hG:∀k∈cP (cS ns (i:Int)),(G k (t+1)).length<=uK st k):(gK ns G ↑i t).length+900000<=uK st ↑i:=by
 have hl:=(ph (kM i hi)).2.1;have ZP:=AG i hi;unfold WB at ZP
 have h1:=Lh (st:=st) (λk=>uS (t+1)++G k (t+1)++[10]) (t+2) (cP (cS ns ↑i)) λk hk=>by
  grind [uP]
 have h2:(t+2)*(cP (cS ns ↑i)).length<=10002*200:=a13 (by omega) hl;unfold gK Ei
 cases(cP (cS ns ↑i)).isEmpty with
 |true=>grind
 |false=>
  rw[ah];simp[uP]at h1⊢;omega
theorem Ut {i:Nat}(hi:i<ns.length){t:Nat}{G:Int->Nat->LI}(nJ:1<=(cP (cS ns (i:Int))).length)(hB:(gK ns G ((cP (cS ns (i:Int))).getD 0 0) t).length<=uK st ((cP (cS ns (i:Int))).getD 0 0)):(fnT ns G (cS ns ↑i) t).length+900000<=uK st ↑i:=by
 have ZP:=AG i hi;unfold WB at ZP;have hs:=Lt (st:=st) nJ;have hb:=(ph (kM i hi)).1
 have hc:(fX (cW (cS ns ↑i)++bif I (opn (cS ns ↑i)=1)then [[46,46,46]]else [])).length<=8442:=by
  have:=GY (l:=cW (cS ns ↑i)++bif I (opn (cS ns ↑i)=1)then [[46,46,46]]else []) (c:=40) (λm hm=>by
   rcases aL.1 hm with h|h
   ·exact hb.2.2 m h
   ·cases hd:I (opn (cS ns ↑i)=1)with
    |true=>
     simp_all
    |false=>simp_all)
  refine bX this ?_
  have hlen:(cW (cS ns ↑i)++bif I (opn (cS ns ↑i)=1)then [[46,46,46]]else []).length<=201:=by
   rw[ax];have:=hb.2.1;cases I (opn (cS ns ↑i)=1)<;>simp<;>omega
  omega
 grind [fnT,ax,az,aB]
theorem TT {i:Nat}(hi:i<ns.length){t:Nat}{E G:Int->Nat->LI}(hE:∀k∈cP (cS ns (i:Int)),(E k t).length<=uK st k)(hB:∀k∈cP (cS ns (i:Int)),(gK ns G k t).length<=uK st k)(hint:(LB (wc (cS ns (i:Int)))).length<=100):(n7 ns E G (cS ns ↑i) t).length<=uK st ↑i:=by
 have ny:=kM i hi;have hl:=(ph ny).2.1;have Z1:(txn (cS ns ↑i)).length<=4000:=(ph ny).1.1;have ZP:=AG i hi;unfold WB at ZP
 have hq:(mI (txn (cS ns ↑i))).length<=20000:=by
  unfold mI;split
  ·simp
  ·have:((txn (cS ns ↑i)).flatMap esc).length<=(txn (cS ns ↑i)).length*4:=by
    generalize txn (cS ns ↑i)=l
    induction l with
    |nil=>simp
    |cons a r ih=>
     rw[bE,ax,az,Nat.succ_mul];have:(esc a).length<=4:=F3 a;omega
   simp only[ax,az,aB];omega
 have au1:(BW (cS ns ↑i)).length<=100:=by
  unfold BW;cases I (kn (cS ns ↑i)=28)
  ·cases I (kn (cS ns ↑i)=29)
   ·show(fxI (60+opn (cS ns ↑i))).length<=100;unfold fxI
    cases h:I (0<=60+opn (cS ns ↑i))&&I (60+opn (cS ns ↑i)<=78)with
    |true=>
     rw[aA,ae,ae]at h
     have hf:∀k:Fin 79,(fx k.1).length<=100:=by decide+kernel
     exact hf ⟨(60+opn (cS ns ↑i)).toNat,by omega⟩
    |false=>exact aX _
   ·show 2<=100;omega
  ·show 3<=100;omega
 have k1:∀{s:LI} {c:Nat},1<=(cP (cS ns ↑i)).length->s.length<=c+(E ((cP (cS ns ↑i)).getD 0 0) t).length->c<=100000->s.length<=uK st ↑i:=λ{s c} h1 h2 h3=>by
  have a:=Lt (st:=st) h1;have b:=hE _ (eC (x:=cS ns ↑i) (j:=0) (by omega));omega
 have k2:∀{s:LI} {c:Nat},2<=(cP (cS ns ↑i)).length->s.length<=c+(E ((cP (cS ns ↑i)).getD 0 0) t).length+(E ((cP (cS ns ↑i)).getD 1 0) t).length->c<=100000->s.length<=uK st ↑i:=λ{s c} h1 h2 h3=>by
  have a:=Lr (st:=st) h1;have b:=hE _ (eC (x:=cS ns ↑i) (j:=0) (by omega));have b':=hE _ (eC (x:=cS ns ↑i) (j:=1) (by omega));omega
 have k0:∀{s:LI},s.length<=100000->s.length<=uK st ↑i:=λ{s} h=>by omega
 have p0:=zV (I (pwr (cS ns ((cP (cS ns ↑i)).getD 0 0))<lft (cS ns ↑i))) (E ((cP (cS ns ↑i)).getD 0 0) t);have p1:=zV (I (pwr (cS ns ((cP (cS ns ↑i)).getD 1 0))<rgt (cS ns ↑i))) (E ((cP (cS ns ↑i)).getD 1 0) t);have p2:=zV (I (pwr (cS ns ((cP (cS ns ↑i)).getD 0 0))<11)) (E ((cP (cS ns ↑i)).getD 0 0) t);have p3:(Ev ns E ((cP (cS ns ↑i)).getD 0 0) t).length<=(E ((cP (cS ns ↑i)).getD 0 0) t).length+2:=zV _ _;unfold n7;dsimp only
 by_cases P3:kn (cS ns ↑i)=20
 ·rw[P3];exact k0 (s:=[110,105,108]) (by decide)
 by_cases XE:kn (cS ns ↑i)=21
 ·rw[XE];exact k0 (s:=[116,114,117,101]) (by decide)
 by_cases P4:kn (cS ns ↑i)=22
 ·rw[P4];exact k0 (s:=[102,97,108,115,101]) (by decide)
 by_cases Vr:kn (cS ns ↑i)=27
 ·rw[Vr];exact k0 (s:=[46,46,46]) (by decide)
 by_cases On:kn (cS ns ↑i)=23
 ·rw[On];exact k0 (s:=LB (wc (cS ns ↑i))) (by omega)
 by_cases FM:kn (cS ns ↑i)=24
 ·rw[FM];exact k0 (s:=txn (cS ns ↑i)) (by omega)
 by_cases Xx:kn (cS ns ↑i)=26
 ·rw[Xx];exact k0 (s:=txn (cS ns ↑i)) (by omega)
 by_cases h25:kn (cS ns ↑i)=25
 ·rw[h25];exact k0 (s:=mI (txn (cS ns ↑i))) (by omega)
 have bin:2<=(cP (cS ns ↑i)).length->(paren (I (pwr (cS ns ((cP (cS ns ↑i)).getD 0 0))<lft (cS ns ↑i))) (E ((cP (cS ns ↑i)).getD 0 0) t)++([32]++BW (cS ns ↑i)++[32])++paren (I (pwr (cS ns ((cP (cS ns ↑i)).getD 1 0))<rgt (cS ns ↑i))) (E ((cP (cS ns ↑i)).getD 1 0) t)).length<=uK st ↑i:=λh=>
  k2 (c:=1000) h (by simp only[ax,az,aB];omega) (by omega)
 by_cases Ah:kn (cS ns ↑i)=28
 ·have:=bin (by have:=ai8 ny Ah;omega);rw[Ah];exact this
 by_cases h29:kn (cS ns ↑i)=29
 ·have:=bin (by have:=ah9 ny h29;omega);rw[h29];exact this
 by_cases J4:kn (cS ns ↑i)=31
 ·have:=bin (by have:=Sw ny J4;omega);rw[J4];exact this
 by_cases Dq:kn (cS ns ↑i)=30
 ·obtain⟨nJ,_,_⟩:=ZF ny Dq;rw[Dq]
  have hp:∀p:LI,p.length<=10->(p++paren (I (pwr (cS ns ((cP (cS ns ↑i)).getD 0 0))<11)) (E ((cP (cS ns ↑i)).getD 0 0) t)).length<=uK st ↑i:=λp hp=>k1 (c:=100) (by omega) (by rw[ax];omega) (by omega)
  refine hp _ ?_;cases I (opn (cS ns ↑i)=21)
  ·cases I (opn (cS ns ↑i)=22)
   ·cases I (opn (cS ns ↑i)=20)
    ·simp only[ah,ax,az,aB];cases I (kn (cS ns ((cP (cS ns ↑i)).getD 0 0))=30)&&I (opn (cS ns ((cP (cS ns ↑i)).getD 0 0))=19)<;>simp
    ·show 1<=10;omega
   ·show 1<=10;omega
  ·show 4<=10;omega
 by_cases h32:kn (cS ns ↑i)=32
 ·have nJ:=aj4 ny h32;rw[h32];show(Ev ns E ((cP (cS ns ↑i)).getD 0 0) t++[91]++E ((cP (cS ns ↑i)).getD 1 0) t++[93]).length<=_;exact k2 (c:=100) (by omega) (by simp only[ax,az,aB];omega) (by omega)
 by_cases SH:kn (cS ns ↑i)=33
 ·have nJ:=aj0 ny SH;rw[SH];show(Ev ns E ((cP (cS ns ↑i)).getD 0 0) t++([46]++txn (cS ns ↑i))).length<=_;exact k1 (c:=5000) (by omega) (by simp only[ax,az,aB];omega) (by omega)
 by_cases Dm:kn (cS ns ↑i)=34
 ·have nJ:=ai0 ny Dm
  have hL:=wX (st:=st) E t (cP (cS ns ↑i)).tail λk hk=>hE k (List.mem_of_mem_tail hk)
  have hht:=WD (st:=st) nJ;have b:=hE _ (eC (x:=cS ns ↑i) (j:=0) (by omega));rw[Dm];show(Ev ns E ((cP (cS ns ↑i)).getD 0 0) t++[40]++jH E (cP (cS ns ↑i)).tail t++[41]).length<=_;simp only[ax,az,aB,List.length_tail]at hL⊢;omega
 by_cases Qb:kn (cS ns ↑i)=35
 ·have hL:=wX (st:=st) E t (cP (cS ns ↑i)) hE;rw[Qb];show([123]++jH E (cP (cS ns ↑i)) t++[125]).length<=_;simp at hL⊢;omega
 by_cases AK:kn (cS ns ↑i)=36
 ·obtain⟨nJ,_⟩:=W8 ny AK;have:=Ut kM AG hi (t:=t) (G:=G) (by omega) (hB _ (eC (x:=cS ns ↑i) (j:=0) (by omega)));rw[AK];show([102,110]++fnT ns G (cS ns ↑i) t).length<=_;simp;omega
 by_cases h37:kn (cS ns ↑i)=37
 ·have nJ:=ah7 ny h37;rw[h37];show([40]++E ((cP (cS ns ↑i)).getD 0 0) t++[41]).length<=_;exact k1 (c:=100) (by omega) (by simp;omega) (by omega)
 by_cases SJ:kn (cS ns ↑i)=40
 ·have nJ:=ai9 ny SJ;rw[SJ];show(E ((cP (cS ns ↑i)).getD 0 0) t).length<=_;exact k1 (c:=100) (by omega) (by omega) (by omega)
 by_cases Oq:kn (cS ns ↑i)=41
 ·have nJ:=ai4 ny Oq;rw[Oq];show([91]++E ((cP (cS ns ↑i)).getD 0 0) t++[93,32,61,32]++E ((cP (cS ns ↑i)).getD 1 0) t).length<=_;exact k2 (c:=100) (by omega) (by simp;omega) (by omega)
 by_cases S1:kn (cS ns ↑i)=42
 ·have nJ:=ah6 ny S1;rw[S1];show([46]++txn (cS ns ↑i)++[32,61,32]++E ((cP (cS ns ↑i)).getD 0 0) t).length<=_;exact k1 (c:=5000) (by omega) (by simp;omega) (by omega)
 rw[aa P3,aa XE,aa P4,aa Vr,aa On,aa FM,aa Xx,aa h25,aa Ah,aa h29,aa J4,aa Dq,aa h32,aa SH,aa Dm,aa Qb,aa AK,aa h37,aa SJ,aa Oq,aa S1];exact aX _
end
end Go.Abs.D
end

section
namespace Go.Abs.D
theorem TF {n:Int}(h: -9223372036854775808<=n/\n<=9223372036854775807):(LB n).length<=100:=by
 unfold LB
 cases I (0<=n)with
 |true=>have:=js n h.1 h.2;grind
 |false=>rw[ah,ax,Uc];decide
section
variable{ns:List Node}(kM:∀i:Nat,i<ns.length->okN ns i (cS ns (i:Int))=av){st:LI}(AG:∀i:Nat,i<ns.length->uT st (cP (cS ns (i:Int)))+WB<=uK st (i:Int))
include kM AG
theorem Tz {i:Nat}(hi:i<ns.length){t:Nat}{E G:Int->Nat->LI}(hE:∀k∈cP (cS ns (i:Int)),(E k t).length<=uK st k)(hB:∀k∈cP (cS ns (i:Int)),(gK ns G k t).length<=uK st k)
  (hG:∀k∈cP (cS ns (i:Int)),(G k t).length<=uK st k) (aD0:(gK ns G (i:Int) t).length<=uK st (i:Int)) (hF:∀k∈cP (cS ns (i:Int)),kn (cS ns k)=36->(fnT ns G (cS ns k) t).length<=uK st k):
  (n8 ns E G (cS ns ↑i) ↑i t).length<=uK st ↑i:=by
 have ny:=kM i hi;have hl:=(ph ny).2.1;have aB9:=(Hz ny).2;have ZP:=AG i hi;unfold WB at ZP
 have k1:∀{s:LI} {c:Nat},1<=(cP (cS ns ↑i)).length->s.length<=c+(E ((cP (cS ns ↑i)).getD 0 0) t).length->c<=100000->s.length<=uK st ↑i:=λ{s c} h1 h2 h3=>by
  have a:=Lt (st:=st) h1;have b:=hE _ (eC (x:=cS ns ↑i) (j:=0) (by omega));omega
 have k2:∀{s:LI} {c:Nat},2<=(cP (cS ns ↑i)).length->s.length<=c+(E ((cP (cS ns ↑i)).getD 0 0) t).length+(gK ns G ((cP (cS ns ↑i)).getD 1 0) t).length->c<=100000->s.length<=uK st ↑i:=λ{s c} h1 h2 h3=>by
  have a:=Lr (st:=st) h1;have b:=hE _ (eC (x:=cS ns ↑i) (j:=0) (by omega));have b':=hB _ (eC (x:=cS ns ↑i) (j:=1) (by omega));omega
 have k0:∀{s:LI},s.length<=100000->s.length<=uK st ↑i:=λ{s} h=>by omega
 have hL:=wX (st:=st) E t (cP (cS ns ↑i)) hE;unfold n8;dsimp only
 by_cases h1:kn (cS ns ↑i)=1
 ·rw[h1];exact aD0
 by_cases h2:kn (cS ns ↑i)=2
 ·rw[h2];show([108,101,116,32]++fX (cW (cS ns ↑i))++(bif(cP (cS ns ↑i)).isEmpty then []else [32,61,32]++jH E (cP (cS ns ↑i)) t)).length<=_;cases(cP (cS ns ↑i)).isEmpty<;>simp<;>omega
 by_cases h3:kn (cS ns ↑i)=3
 ·have nJ:=(sh3 ny h3).1;rw[h3];show([99,111,110,115,116,32]++fX (cW (cS ns ↑i))++[32,61,32]++E ((cP (cS ns ↑i)).getD 0 0) t).length<=_;exact k1 (c:=10000) (by omega) (by simp;omega) (by omega)
 by_cases h4:kn (cS ns ↑i)=4
 ·obtain⟨nJ,_,AK⟩:=sh4 ny h4;have a:=Lt (st:=st) (l:=cP (cS ns ↑i)) (by omega);have b:=hF _ (eC (x:=cS ns ↑i) (j:=0) (by omega)) AK;rw[h4];show([102,110,32]++fX (cW (cS ns ↑i))++fnT ns G (cS ns ((cP (cS ns ↑i)).getD 0 0)) t).length<=_;simp only[ax,az,aB];omega
 by_cases h5:kn (cS ns ↑i)=5
 ·have a:=wX (st:=st) E t ((cP (cS ns ↑i)).take (wc (cS ns ↑i)).toNat) λk hk=>hE k (cC hk)
  have b:=wX (st:=st) E t ((cP (cS ns ↑i)).drop (wc (cS ns ↑i)).toNat) λk hk=>hE k (cD hk)
  have c:=VQ st (cP (cS ns ↑i)) (wc (cS ns ↑i)).toNat;rw[bl]at a;rw[bL]at b;rw[h5];show(jH E ((cP (cS ns ↑i)).take (wc (cS ns ↑i)).toNat) t++[32,61,32]++jH E ((cP (cS ns ↑i)).drop (wc (cS ns ↑i)).toNat) t).length<=_;simp;omega
 by_cases h6:kn (cS ns ↑i)=6
 ·have nJ:=sh6 ny h6;rw[h6];show(E ((cP (cS ns ↑i)).getD 0 0) t).length<=_;exact k1 (c:=100) (by omega) (by omega) (by omega)
 by_cases Aj:kn (cS ns ↑i)=16
 ·have nJ:=ai5 ny Aj;rw[Aj];show([100,101,102,101,114,32]++E ((cP (cS ns ↑i)).getD 0 0) t).length<=_;exact k1 (c:=100) (by omega) (by simp;omega) (by omega)
 by_cases h7:kn (cS ns ↑i)=7
 ·obtain⟨nJ,_,_⟩:=sh7 ny h7;rw[h7];show(ifT ns E G (cS ns ↑i) t).length<=_;unfold ifT;dsimp only;have b0:=hE _ (eC (x:=cS ns ↑i) (j:=0) (by omega));have b1:=hB _ (eC (x:=cS ns ↑i) (j:=1) (by omega))
  by_cases h3l:(cP (cS ns ↑i)).length=3
  ·have a:=Y0 (st:=st) (l:=cP (cS ns ↑i)) (by omega);have g2:=hG _ (eC (x:=cS ns ↑i) (j:=2) (by omega));have b2:=hB _ (eC (x:=cS ns ↑i) (j:=2) (by omega));rw[ab h3l];cases I (kn (cS ns ((cP (cS ns ↑i)).getD 2 0))=7)<;>simp only[ai,ah,ax,az,aB]<;>omega
  ·have a:=Lr (st:=st) (l:=cP (cS ns ↑i)) (by omega);rw[aa h3l];simp only[ah,ax,az,aB];omega
 by_cases h8:kn (cS ns ↑i)=8
 ·have nJ:=sh8 ny h8;rw[h8];show([119,104,105,108,101,32]++E ((cP (cS ns ↑i)).getD 0 0) t++[32]++gK ns G ((cP (cS ns ↑i)).getD 1 0) t).length<=_;exact k2 (c:=100) (by omega) (by simp;omega) (by omega)
 by_cases h9:kn (cS ns ↑i)=9
 ·have nJ:=sh9 ny h9
  have a:=wX (st:=st) E t (cP (cS ns ↑i)).dropLast λk hk=>hE k (List.dropLast_subset _ hk)
  have c:=VY (st:=st) (l:=cP (cS ns ↑i)) (by omega);have b:=hB _ (eC (x:=cS ns ↑i) (j:=(cP (cS ns ↑i)).length - 1) (by omega));rw[List.length_dropLast]at a;rw[h9];show([102,111,114,32]++fX (cW (cS ns ↑i))++[32,61,32]++jH E (cP (cS ns ↑i)).dropLast t++[32]++gK ns G ((cP (cS ns ↑i)).getD ((cP (cS ns ↑i)).length - 1) 0) t).length<=_;simp only[ax,az,aB];omega
 by_cases AH:kn (cS ns ↑i)=10
 ·have nJ:=ai3 ny AH;rw[AH];show([102,111,114,32]++fX (cW (cS ns ↑i))++[32,105,110,32]++E ((cP (cS ns ↑i)).getD 0 0) t++[32]++gK ns G ((cP (cS ns ↑i)).getD 1 0) t).length<=_;exact k2 (c:=10000) (by omega) (by simp;omega) (by omega)
 by_cases yp:kn (cS ns ↑i)=11
 ·rw[yp];exact k0 (s:=[98,114,101,97,107]) (by decide)
 by_cases uZ:kn (cS ns ↑i)=12
 ·rw[uZ];exact k0 (s:=[110,101,120,116]) (by decide)
 by_cases Ca:kn (cS ns ↑i)=13
 ·rw[Ca];show([114,101,116,117,114,110]++(bif(cP (cS ns ↑i)).isEmpty then []else [32]++jH E (cP (cS ns ↑i)) t)).length<=_;cases(cP (cS ns ↑i)).isEmpty<;>simp<;>omega
 by_cases ED:kn (cS ns ↑i)=14
 ·have nJ:=aj1 ny ED;have a:=Lr (st:=st) (l:=cP (cS ns ↑i)) (by omega);have b:=hB _ (eC (x:=cS ns ↑i) (j:=0) (by omega));have b':=hB _ (eC (x:=cS ns ↑i) (j:=1) (by omega));rw[ED];show([116,114,121,32]++gK ns G ((cP (cS ns ↑i)).getD 0 0) t++([32,99,97,116,99,104,32]++fX (cW (cS ns ↑i))++[32])++gK ns G ((cP (cS ns ↑i)).getD 1 0) t).length<=_;simp only[ax,az,aB];omega
 by_cases ID:kn (cS ns ↑i)=15
 ·have nJ:=ah5 ny ID;rw[ID];show([116,104,114,111,119,32]++E ((cP (cS ns ↑i)).getD 0 0) t).length<=_;exact k1 (c:=100) (by omega) (by simp;omega) (by omega)
 rw[aa h1,aa h2,aa h3,aa h4,aa h5,aa h6,aa Aj,aa h7,aa h8,aa h9,aa AH,aa yp,aa uZ,aa Ca,aa ED,aa ID];exact aX _
omit AG in
theorem l9 (i:Nat)(hi:i<ns.length):∀k∈cP (cS ns ↑i),∃j:Nat,k=(j:Int)/\j<i:=λk hk=>by
 obtain⟨h0,h1⟩:=(ph (kM i hi)).2.2 k hk;exact⟨k.toNat,by omega,by omega⟩
theorem T2 (VD:∀i:Nat,i<ns.length->NS (cS ns (i:Int))):∀m i:Nat,i<ns.length->∀t,t+m<=10000->((prP ns m).1 ↑i t).length<=uK st ↑i/\((prP ns m).2 ↑i t).length<=uK st ↑i
 |0,i,_,t,_=>⟨aX _,aX _⟩
 |m+1,i,hi,t,ht=>by
  have ih:=T2 VD m
  have blk:∀j:Nat,j<ns.length->(gK ns (prP ns m).2 ↑j t).length+900000<=uK st ↑j:=λj hj=>WU kM AG hj (by omega) λk hk=>by
   obtain⟨j',rfl,Ys⟩:=l9 kM j hj k hk
   grind
  have hB:∀k∈cP (cS ns ↑i),(gK ns (prP ns m).2 k t).length<=uK st k:=λk hk=>by
   obtain⟨j,rfl,hj⟩:=l9 kM i hi k hk
   grind
  have hE:∀k∈cP (cS ns ↑i),((prP ns m).1 k t).length<=uK st k:=λk hk=>by
   obtain⟨j,rfl,hj⟩:=l9 kM i hi k hk
   grind
  have hG:∀k∈cP (cS ns ↑i),((prP ns m).2 k t).length<=uK st k:=λk hk=>by
   obtain⟨j,rfl,hj⟩:=l9 kM i hi k hk
   grind
  refine⟨TT kM AG hi hE hB (TF (VD i hi).1),Tz kM AG hi hE hB hG (by grind) λk hk AK=> ?_⟩;obtain⟨j,rfl,hj⟩:=l9 kM i hi k hk;obtain⟨nJ,_⟩:=W8 (kM j (by omega)) AK;have m0:=eC (x:=cS ns ↑j) (j:=0) (by omega);obtain⟨b,e,hb⟩:=l9 kM j (by omega) _ m0;have:=Ut kM AG (i:=j) (by omega) (t:=t) (G:=(prP ns m).2) (by omega) (by grind);omega
end
end Go.Abs.D
end

section
namespace Go.Abs.D
section
variable{ns:List Node}(kM:∀i:Nat,i<ns.length->okN ns i (cS ns (i:Int))=av)
include kM
theorem TL {i:Nat}(hi:i<ns.length){t:Nat}{E G:Int->Nat->LI}(hE:∀k∈cP (cS ns (i:Int)),kn (cS ns k)<40->RE ns k t (E k t))(hB:∀k∈cP (cS ns (i:Int)),RB ns k t (gK ns G k t))
  (aD0:RB ns (i:Int) t (gK ns G (i:Int) t)) (hF:∀k∈cP (cS ns (i:Int)),kn (cS ns k)=36->RF ns k t (fnT ns G (cS ns k) t))
  (hC:kn (cS ns (i:Int))=7->RC ns (i:Int) t (ifR ns E G (cS ns (i:Int)) t)):PRS ns ↑i t (n8 ns E G (cS ns ↑i) ↑i t):=by
 have ny:=kM i hi;have Yi:=(ph ny).2.1;obtain⟨Oc,YB⟩:=Hz ny;have aq1:=HY ns t (cW (cS ns ↑i)) (by omega)
 by_cases h1:(cS ns ↑i).1=1
 ·have hk:kn (cS ns ↑i)=1:=h1;unfold n8;rw[hk];show PRS ns ↑i t (gK ns G ↑i t)
  refine aD0.up λn h acc hb=> ?_
  rw[gp,pj,cU (kx hi acc t),dA h1,h _ hb];rfl
 by_cases h2:(cS ns ↑i).1=2
 ·have hk:kn (cS ns ↑i)=2:=h2;have hL:=q8 ns E t (cP (cS ns ↑i)) (by omega) (λk hm=>hE k hm (PE (P:=λk=>kn (cS ns k)<40) (en2 ny hk) k hm));unfold n8;rw[hk];show PRS ns ↑i t ([108,101,116,32]++fX (cW (cS ns ↑i))++(bif(cP (cS ns ↑i)).isEmpty then []else [32,61,32]++jH E (cP (cS ns ↑i)) t))
  refine(((fV ns t).and aq1).and hL).up λn ⟨⟨hw,hn⟩,hL⟩ acc hb=> ?_
  by_cases h0:cP (cS ns ↑i)=[]
  ·rw[h0]at hb⊢;have hb:acc.length+([108,101,116,32]++fX (cW (cS ns ↑i))++[]:LI).length<=MX:=hb;rw[aU]at hb;simp only[ax,az,aB]at hb;rw[gp,pj,iX,rG,h0,cU (kx hi acc t),da h1,dA h2,hw _ _ (by simp only[az,aB];omega),au];dsimp only;rw[hn _ (by simp only[ax,az,aB];omega),au,dm (by rfl)];show _=J ((),wst ns (acc++([108,101,116,32]++fX (cW (cS ns ↑i))++[])) t,(),());rw[aU,aI]
  ·have yu:(cP (cS ns ↑i)).isEmpty=false:=(by simpa using h0);have ab2:(cP (cS ns ↑i)).length≠0:=(by simpa using h0);rw[yu,ah]at hb⊢;simp only[ax,az,aB]at hb;rw[gp,pj,iX,rG,cU (kx hi acc t),da h1,dA h2,hw _ _ (by simp only[az,aB];omega),au];dsimp only;rw[hn _ (by simp only[ax,az,aB];omega),au,dA (by omega)];dsimp only;rw[hw _ _ (by simp only[ax,az,aB];omega),au];dsimp only;rw[hL _ (by simp only[ax,az,aB];omega),au];simp only[aI]
 by_cases h3:(cS ns ↑i).1=3
 ·have hk:kn (cS ns ↑i)=3:=h3;obtain⟨hl,OD⟩:=sh3 ny hk;have s6:=(hE _ (eC (x:=(cS ns ↑i)) (j:=0) (by omega)) (en3 ny hk 0 (by omega))).zero
  have aD4:(cW (cS ns ↑i)).getD 0 []=fX (cW (cS ns ↑i)):=by
   match hm:cW (cS ns ↑i),OD with
   |[a],_=>simp[fX]
  unfold n8;rw[hk];show PRS ns ↑i t ([99,111,110,115,116,32]++fX (cW (cS ns ↑i))++[32,61,32]++E ((cP (cS ns ↑i)).getD 0 0) t)
  refine((fV ns t).and s6).up λn ⟨hw,s6⟩ acc hb=> ?_
  simp only[ax,az,aB]at hb;rw[gp,pj,iX,rG,aD4,cU (kx hi acc t),da h1,da h2,dA h3,dA (by omega),cU (LC (by omega)),cU (LC (by simp only[ax,az,aB];omega)),hw _ _ (by simp only[ax,az,aB];omega),au,dA (by omega)];dsimp only;rw[s6 _ (by simp only[ax,az,aB];omega),au];simp only[aI]
 by_cases h4:(cS ns ↑i).1=4
 ·have hk:kn (cS ns ↑i)=4:=h4;obtain⟨hl,OD,AK⟩:=sh4 ny hk;have aI9:=hF _ (eC (x:=(cS ns ↑i)) (j:=0) (by omega)) AK
  have aD4:(cW (cS ns ↑i)).getD 0 []=fX (cW (cS ns ↑i)):=by
   match hm:cW (cS ns ↑i),OD with
   |[a],_=>simp[fX]
  unfold n8;rw[hk];show PRS ns ↑i t ([102,110,32]++fX (cW (cS ns ↑i))++fnT ns G (cS ns ((cP (cS ns ↑i)).getD 0 0)) t)
  refine((fV ns t).and aI9).up λn ⟨hw,aI9⟩ acc hb=> ?_
  simp only[ax,az,aB]at hb;rw[gp,pj,iX,rG,aD4,cU (kx hi acc t),da h1,da h2,da h3,dA h4,dA (by omega),cU (LC (by omega)),hw _ _ (by simp only[ax,az,aB];omega),au,dA (by omega)];dsimp only;rw[aI9 _ (by simp only[ax,az,aB];omega),au];simp
 by_cases h5:(cS ns ↑i).1=5
 ·have hk:kn (cS ns ↑i)=5:=h5;obtain⟨n1,n2⟩:=sh5 ny hk;obtain⟨m,hm⟩:∃m:Nat,wc (cS ns ↑i)=(m:Int):=⟨(wc (cS ns ↑i)).toNat,by omega⟩;have ad5:(cS ns ↑i).2.2.2.2.2.1=(m:Int):=hm;have kI:=PE (P:=λk=>kn (cS ns k)<40) (en5 ny hk);have aG6:=q8 ns E t ((cP (cS ns ↑i)).take m) (by simp;omega) (λk h=>hE k (cC h) (kI k (cC h)));have an2:=q8 ns E t ((cP (cS ns ↑i)).drop m) (by simp;omega) (λk h=>hE k (cD h) (kI k (cD h)));have ac9:sub (cP (cS ns ↑i)) 0 (m:Int)=(cP (cS ns ↑i)).take m:=rfl
  have ac1:sub (cP (cS ns ↑i)) ↑m ((cP (cS ns ↑i)).length:Int)=(cP (cS ns ↑i)).drop m:=by
   show((cP (cS ns ↑i)).take (cP (cS ns ↑i)).length).drop m=_;rw[ck]
  have XG:bounds (cP (cS ns ↑i)).length 0 (m:Int)=true:=fS (i:=0) (aX _) (by omega);have Cb:bounds (cP (cS ns ↑i)).length ↑m ((cP (cS ns ↑i)).length:Int)=true:=fS (by omega) (aC _);unfold n8;rw[hk,hm];show PRS ns ↑i t (jH E ((cP (cS ns ↑i)).take m) t++[32,61,32]++jH E ((cP (cS ns ↑i)).drop m) t)
  refine(((fV ns t).and aG6).and an2).up λn ⟨⟨hw,aG6⟩,an2⟩ acc hb=> ?_
  simp at hb;rw[gp,pj,iX,ad5,cU (kx hi acc t),da h1,da h2,da h3,da h4,dA h5,cU XG,ac9,aG6 _ (by omega),au];dsimp only;rw[hw _ _ (by simp;omega),au,cU Cb,ac1];dsimp only;rw[an2 _ (by simp;omega),au];simp
 by_cases h6:(cS ns ↑i).1=6
 ·have hk:kn (cS ns ↑i)=6:=h6;have hl:=sh6 ny hk;have s6:=(hE _ (eC (x:=(cS ns ↑i)) (j:=0) (by omega)) (en6 ny hk 0 (by omega))).zero;unfold n8;rw[hk];show PRS ns ↑i t (E ((cP (cS ns ↑i)).getD 0 0) t)
  refine s6.up λn s6 acc hb=> ?_
  rw[gp,pj,iX,cU (kx hi acc t),da h1,da h2,da h3,da h4,da h5,dA h6,cU (by simp;omega),s6 _ hb];rfl
 by_cases h7:(cS ns ↑i).1=7
 ·have hk:kn (cS ns ↑i)=7:=h7;have aT0:=hC hk;unfold n8;rw[hk];show PRS ns ↑i t (ifT ns E G (cS ns ↑i) t);rw[XR]
  refine aT0.up λn h acc hb=> ?_
  rw[gp,pj,cU (kx hi acc t),da h1,da h2,da h3,da h4,da h5,da h6,dA h7,h _ _ hb];rfl
 by_cases h8:(cS ns ↑i).1=8
 ·have hk:kn (cS ns ↑i)=8:=h8;have hl:=sh8 ny hk;have s6:=(hE _ (eC (x:=(cS ns ↑i)) (j:=0) (by omega)) (en8 ny hk (by omega))).zero;have Oo:=hB _ (eC (x:=(cS ns ↑i)) (j:=1) (by omega));unfold n8;rw[hk];show PRS ns ↑i t ([119,104,105,108,101,32]++E ((cP (cS ns ↑i)).getD 0 0) t++[32]++gK ns G ((cP (cS ns ↑i)).getD 1 0) t)
  refine(((fV ns t).and s6).and Oo).up λn ⟨⟨hw,s6⟩,Oo⟩ acc hb=> ?_
  simp only[ax,az,aB]at hb;rw[gp,pj,iX,cU (kx hi acc t),da h1,da h2,da h3,da h4,da h5,da h6,da h7,dA h8,hw _ _ (by simp;omega),au,cU (by simp;omega)];dsimp only;rw[s6 _ (by simp only[ax,az,aB];omega),au];dsimp only;rw[hw _ _ (by simp only[ax,az,aB];omega),au,cU (by simp;omega)];dsimp only;rw[Oo _ (by simp only[ax,az,aB];omega),au];simp
 have hJ:=Wf kM hi hE hB h1 h2 h3 h4 h5 h6 h7 h8 (E:=E) (G:=G) (t:=t)
 refine hJ.up λn hJ acc hb=> ?_
 have hJ:=hJ acc hb;rw[gp,pj,cU (kx hi acc t),da h1,da h2,da h3,da h4,da h5,da h6,da h7,da h8]
 by_cases h9:(cS ns ↑i).1=9
 ·rw[ab h9,Bool.true_or]at hJ;rw[ab h9,Ie,hJ];rfl
 ·rw[aa h9,cH]at hJ;rw[aa h9,uQ,hJ];rfl
theorem QT (VD:∀i:Nat,i<ns.length->NS (cS ns (i:Int))):∀m i:Nat,i<m->i<ns.length->∀t,t+m<=10000->
  (kn (cS ns ↑i)<40->RE ns ↑i t ((prP ns m).1 ↑i t))/\(40<=kn (cS ns ↑i)->kn (cS ns ↑i)<=42->RN ns ↑i t ((prP ns m).1 ↑i t))/\PRS ns ↑i t ((prP ns m).2 ↑i t)/\(kn (cS ns ↑i)=7->∃r,(prP ns m).2 ↑i t=[105,102,32]++r/\RC ns ↑i t r)
 |0,i,h,_,_,_=>absurd h (by omega)
 |m+1,i,aM2,hi,t,ht=>by
  have ih:=QT VD m
  have blk:∀j:Nat,j<=m->j<ns.length->RB ns ↑j t (gK ns (prP ns m).2 ↑j t):=λj aS7 hj=>by
   have:=(ph (kM j hj)).2.1
   by_cases hm:m=0
   ·grind [cP,cS,l9,aF,Jk]
   ·exact Jk _ hj t (by omega) (by omega) λk hk=>by
     obtain⟨j',rfl,Ys⟩:=l9 kM j hj k hk
     grind
  have hB:∀k∈cP (cS ns ↑i),RB ns k t (gK ns (prP ns m).2 k t):=λk hk=>by
   obtain⟨j,rfl,hj⟩:=l9 kM i hi k hk
   grind
  have hE:∀k∈cP (cS ns ↑i),kn (cS ns k)<40->RE ns k t ((prP ns m).1 k t):=λk hk=>by
   obtain⟨j,rfl,hj⟩:=l9 kM i hi k hk;exact(ih j (by omega) (by omega) t (by omega)).1
  have hN:kn (cS ns ↑i)=35->∀k∈cP (cS ns ↑i),RN ns k t ((prP ns m).1 k t):=λQb k hk=>by
   have he:=aw9 (kM i hi) Qb k hk;unfold gm at he;simp at he;obtain⟨j,rfl,hj⟩:=l9 kM i hi k hk;exact(ih j (by omega) (by omega) t (by omega)).2.1 he.1 he.2
  have aP2:∀j:Nat,j<=m->j<ns.length->kn (cS ns ↑j)=36->RF ns ↑j t (fnT ns (prP ns m).2 (cS ns ↑j) t):=λj aS7 hj AK=>by
   obtain⟨nJ,_⟩:=W8 (kM j hj) AK;have m0:=eC (x:=cS ns ↑j) (j:=0) (by omega);obtain⟨b,e,hb⟩:=l9 kM j hj _ m0;exact KX kM _ hj AK t (by rw[e];exact blk b (by omega) (by omega))
  have hF:∀k∈cP (cS ns ↑i),kn (cS ns k)=36->RF ns k t (fnT ns (prP ns m).2 (cS ns k) t):=λk hk AK=>by
   obtain⟨j,rfl,hj⟩:=l9 kM i hi k hk;exact aP2 j (by omega) (by omega) AK
  have hC:∀k∈cP (cS ns ↑i),kn (cS ns k)=7->∃r,(prP ns m).2 k t=[105,102,32]++r/\RC ns k t r:=λk hk h7=>by
   obtain⟨j,rfl,hj⟩:=l9 kM i hi k hk;exact(ih j (by omega) (by omega) t (by omega)).2.2.2 h7
  have xb:=l9 kM i hi
  have aK7:kn (cS ns ↑i)=7->RC ns ↑i t (ifR ns (prP ns m).1 (prP ns m).2 (cS ns ↑i) t):=λh7=>Sh kM hi h7 hE hB hC xb
  refine⟨λSJ=>TD kM hi (VD i hi) SJ hE hN (λAK=>aP2 i (by omega) hi AK) xb,λSJ S1=>TH kM hi (by omega) hE,TL kM hi hE hB (blk i (by omega) hi) hF aK7,λh7=>⟨_, ?_,aK7 h7⟩⟩;simp_all[n8,prP,cS,XR]
end
end Go.Abs.D
end

section
namespace Go.Abs.D
theorem Ze {ns:List Node}(c:(kg ns).1=0):∃st:LI,(∀i:Nat,i<ns.length->uT st (cP (cS ns ↑i))+WB<=uK st ↑i)/\∀i:Nat,i<ns.length->uK st (i:Int)<=WB*3000:=by
 obtain⟨_,h0,h3,hk⟩:=nu c;obtain⟨st,pH⟩:=Nv c;refine⟨st,λi hi=> ?_,λi hi=> ?_⟩
 ·have FJ:dO ns i=cP (cS ns ↑i):=by
   rw[qb hi];show cP ns[i]=cP (at_ (τ:=cR) ns ↑i);rw[kX _ _ hi]
  have hle:=Rb hk pH (i+1) i (by omega) hi
  have:=xw (st:=st) (kids:=dO ns i) (L:=Ja st) (λj hj=>by
   obtain⟨k,FJ,kI⟩:=H4 hk i hi j hj;rw[FJ];have:=Rb hk pH (k+1) k (by omega) (by omega);unfold Ja;simp only[bq]
   omega) (dO ns i).length i (get st i) (aC _) (pH i hi)
  rw[ck,FJ]at this
  have key:∀l:LI,uT st l=WB*(l.map (Ja st)).sum:=λl=>by
   induction l with
   |nil=>rfl
   |cons a l ih=>
    rw[tw,ih,bW,List.sum_cons,Nat.mul_add];rfl
  rw[key];unfold uK
  have h2:((cP (cS ns ↑i)).map (Ja st)).sum+1<=Ja st ↑i:=by
   unfold Ja at this⊢;simp only[bq];omega
  calc WB*((cP (cS ns ↑i)).map (Ja st)).sum+WB=WB*(((cP (cS ns ↑i)).map (Ja st)).sum+1):=by rw[Nat.mul_add,a57]
   _<=_:=Nat.mul_le_mul_left _ h2
 ·have:=US hk pH (i+1) i (by omega) hi;unfold uK;refine Nat.mul_le_mul_left _ ?_;unfold Ja;simp only[bq];omega
theorem rl6 (ns:List Node)(G:Int->Nat->LI):∀(r pre:LI),(pre++r).length<=100000->(∀k∈r,PRS ns k 0 (G k 0))->Evt λn=>∀acc:LI,acc.length+(r.flatMap λk=>G k 0++[10]).length<=MX->
  nC (S.tab n) (wst ns acc 0) (pre++r) ((pre++r).length:Int) (pre.length:Int)=J (an (wst ns (acc++r.flatMap λk=>G k 0++[10]) 0,()))
 |[],pre,hl,_=>dt.up λn _ acc _=>by
  rw[wK,dm (by simp)];simp
 |m::r,pre,hl,h=>by
  have hlen:(pre++m::r).length=pre.length+(r.length+1):=(by simp);have ih:=rl6 ns G r (pre++[m]) (by simpa using hl) (λk hk=>h k (aD _ hk))
  refine((ih.and (fV ns 0)).and (h m (aF ..))).up λn ⟨⟨ih,hw⟩,hE⟩ acc hb=> ?_
  rw[bE]at hb⊢;simp only[ax,az,aB]at hb;have hg:(pre++m::r).getD (pre.length:Int).toNat 0=m:=ju pre _ _ 0;rw[wK,dA (by omega),cU (db (by omega)),hg,hE acc (by omega),au];dsimp only;rw[hw _ _ (by simp only[ax,az,aB];omega),au,dX (by omega)];dsimp only;have e1:(pre++[m])++r=pre++m::r:=(by simp);have e2:(pre++[m]).length=pre.length+1:=(by simp);rw[e1,e2]at ih;rw[ih _ (by simp only[ax,az,aB];omega)];simp only[aI]
section
variable{ns:List Node}(hN:∀x∈ns,NodeOk x)(hR:∀x∈ns, -9223372036854775808<=wc x/\wc x<=9223372036854775807)
theorem QS (c:(kg ns).1=0):∀i:Nat,i<ns.length->okN ns i (cS ns ↑i)=true:=λi hi=>by
 have:cS ns (i:Int)=ns[i]:=kX _ _ hi;rw[this];exact zP c i hi
include hN hR in
theorem Qu:∀i:Nat,i<ns.length->NS (cS ns ↑i):=λi hi=>by
 have:cS ns (i:Int)=ns[i]:=kX _ _ hi;rw[this];exact⟨hR _ (bm hi),(hN _ (bm hi)).text⟩
include hN hR in
theorem RZ (c:(kg ns).1=0):(zt ns).length<=MX:=by
 obtain⟨_,h0,h3,hk⟩:=nu c;obtain⟨st,AG,ZW⟩:=Ze c;have kM:=QS c;have zI:ns.length - 1<ns.length:=(by omega);have hl:=(ph (kM _ zI)).2.1
 have:=Lh (st:=st) (λk=>(prP ns ns.length).2 k 0++[10]) 1 (cP (cS ns ((ns.length - 1:Nat):Int))) λk hm=>by
  obtain⟨j,rfl,hj⟩:=l9 kM _ zI k hm;have:=(T2 kM AG (Qu hN hR) ns.length j (by omega) 0 (by omega)).2;rw[ax];show _+1<=_;omega
 have h1:=AG _ zI;have h2:=ZW _ zI;unfold zt;unfold WB at h2;unfold MX;omega
include hN hR in
theorem IU:Evt λn=>uG (S.tab n) (ns,())=J (El ns,dw):=by
 have hs:=qn hN;unfold El
 by_cases c:(kg ns).1=0
 ·obtain⟨et,h0,h3,hk⟩:=nu c;have kM:=QS c;have zI:ns.length - 1<ns.length:=(by omega);have hl:=(ph (kM _ zI)).2.1;have hlen:=RZ hN hR c
  have h6:=rl6 ns (prP ns ns.length).2 (cP (cS ns ((ns.length - 1:Nat):Int))) [] (by simp only[bS];omega) λk hm=>by
   obtain⟨j,rfl,hj⟩:=l9 kM _ zI k hm;exact(QT kM (Qu hN hR) ns.length j (by omega) (by omega) 0 (by omega)).2.2.1
  rw[ab c]
  refine(hs.and h6).up λn ⟨hs,h6⟩=> ?_
  have aK1:aq.wrap ((ns.length:Int) - 1)=((ns.length - 1:Nat):Int):=by rw[wrap64 _ (by omega) (by omega)];omega
  have h6:nC (S.tab n) (wst ns [] 0) (cP (cS ns ((ns.length - 1:Nat):Int))) ((cP (cS ns ((ns.length - 1:Nat):Int))).length:Int) 0=J (an (wst ns (zt ns) 0,())):=h6 [] (by rw[aB,cj];exact hlen);rw[AR,hs,au,dm (by rw[et];rfl)];dsimp only;rw[aK1,cU (db zI)];show(nC (S.tab n) (wst ns [] 0) (cP (cS ns ((ns.length - 1:Nat):Int))) ((cP (cS ns ((ns.length - 1:Nat):Int))).length:Int) 0).bind _=_;rw[h6,au,ai];show brk (I (65536<((zt ns).length:Int))) _ _=_
  by_cases hc:65536<(zt ns).length
  ·rw[dA (by omega),ab hc];rfl
  ·rw[da (by omega),aa hc];rfl
 ·rw[aa c]
  refine hs.up λn hs=> ?_
  rw[AR,hs,au,cU (by rw[aa c];rfl)];rfl
end
end Go.Abs.D
end

section
namespace Go.Abs.D
theorem Pr {τ:Ty}(pre:List τ.den)(x:τ.den)(r:List τ.den):at_ (pre++x::r) (pre.length:Int)=x:=by
 unfold at_;rw[bq];exact ju pre x r _
theorem Ly {α:Type}(pre:List α)(x:α)(r:List α):(I ((0:Int)<=(pre.length:Int))&&I ((pre.length:Int)<((pre++x::r).length:Int)))=true:=db (by simp)
end Go.Abs.D
end

section
namespace Go.Abs.D
abbrev Dj:Type:=List eS.den
def zF (x:cR.den):Bool:=I (x.1=36)
def inner (x:cR.den):LI:=bif I (x.1=4)then(cW x).getD 0 []else []
def ent (x:cR.den)(nm:LI)(d i:Int):eS.den:=(nm,x.2.2.2.1,d,i,())
def dp (x:cR.den)(d:Int):Int:=bif zF x then d+1 else d
def Ba (ns:List cR.den)(i:Int):LI:=cP (at_ (τ:=cR) ns i)
def sL (ns:List cR.den):Nat->Int->LI->Int->Dj
 |0,_,_,_=>[]
 |m+1,i,nm,d=>(bif zF (at_ (τ:=cR) ns i)then [ent (at_ (τ:=cR) ns i) nm d i]else [])++(Ba ns i).flatMap λk=>sL ns m k (inner (at_ (τ:=cR) ns i)) (dp (at_ (τ:=cR) ns i) d)
section
variable{ns:List cR.den}(hk:∀(j:Nat) (hj:j<ns.length),∀k∈cP ns[j],0<=k/\k<(j:Int)){st:LI}(pH:∀i,i<ns.length->kK st (dO ns i) (dO ns i).length (i:Int)=J (get st i))
include hk pH in
theorem Qi:∀(m i:Nat) (nm:LI) (d:Int),i<ns.length->((sL ns m ↑i nm d).length:Int)+get st i<=(i:Int)+1
 |0,i,nm,d,hi=>by
  have:=Rb hk pH (i+1) i (by omega) hi;unfold sL;simp only[aB];omega
 |m+1,i,nm,d,hi=>by
  have ex:Ba ns (i:Int)=dO ns i:=by unfold Ba;rw[kX _ _ hi,qb hi]
  have:=xw (st:=st) (kids:=dO ns i) (L:=λk=>(sL ns m k (inner (at_ (τ:=cR) ns ↑i)) (dp (at_ (τ:=cR) ns ↑i) d)).length) (λj hj=>by
   obtain⟨k,FJ,kI⟩:=H4 hk i hi j hj;rw[FJ];have:=Qi m k (inner (at_ (τ:=cR) ns ↑i)) (dp (at_ (τ:=cR) ns ↑i) d) (by omega);simp only[bq]
   omega) (dO ns i).length i (get st i) (aC _) (pH i hi)
  rw[ck]at this;unfold sL;rw[ex,ax,List.length_flatMap]
  have hh:(bif zF (at_ (τ:=cR) ns ↑i)then [ent (at_ (τ:=cR) ns ↑i) nm d ↑i]else([]:Dj)).length<=1:=by cases zF (at_ (τ:=cR) ns ↑i)<;>simp
  push_cast
  omega
end
theorem MT {ns:List cR.den}{i:Nat}{x:cR.den}(h:okN ns i x=av)(h4:x.1=4):0<(cW x).length:=by
 unfold okN at h
 by_cases c1:x.2.1<0
 ·rw[ab c1]at h;cases h
 by_cases c2:x.2.2.1<x.2.1
 ·rw[aa c1,ab c2]at h;cases h
 by_cases c3:x.2.2.2.1<0
 ·rw[aa c1,aa c2,ab c3]at h;cases h
 by_cases c4:200<(cP x).length
 ·rw[aa c1,aa c2,aa c3,ab c4]at h;cases h
 rw[aa c1,aa c2,aa c3,aa c4]at h;simp only[ah]at h
 cases ha:(cP x).all (inR i)with
 |false=>rw[ha]at h;cases h
 |true=>
  rw[ha,ai,h4,show fo 4=av from rfl,ai]at h;have h:(PL av ar ar ar ((cW x).length:Int) x.2.2.2.2.1 x.2.2.2.2.2.1 x.2.2.2.2.2.2.1&&(NM (cW x) 1 1&&(I (((cT ns x).length:Int)=1)&&I ((cT ns x).getD 0 0=36))))=true:=h;simp only[aA]at h;have:=h.2.1;unfold NM at this;simp only[aA,ae]at this;omega
section
variable{ns:List cR.den}(hk:∀(j:Nat) (hj:j<ns.length),∀k∈cP ns[j],0<=k/\k<(j:Int))(hf:∀(j:Nat) (hj:j<ns.length),ns[j].1=4->0<(cW ns[j]).length)
 (hn:∀(j:Nat) (hj:j<ns.length),(cP ns[j]).length<=2097152)
theorem JJ (g:Int->Dj)(d:Int)(nm:LI):∀(r pre:LI) (acc:Dj),(∀k∈r,∀acc:Dj,acc.length+(g k).length<=100000->Evt λn=>ov (S.tab n) k d nm (ns,()) acc ()=J ((),(),(),(),(ns,()),acc++g k,(),()))->
  (pre++r).length<=2097152->acc.length+(r.flatMap g).length<=100000->
  Evt λn=>ij (S.tab n) d (ns,()) acc () nm (pre++r) ((pre++r).length:Int) (pre.length:Int)=J (an ((ns,()),acc++r.flatMap g,()))
 |[],pre,acc,_,hl,_=>dt.up λn _=>by
  rw[r7,dm (by simp)];simp
 |k::r,pre,acc,H,hl,ho=>by
  have hlen:(pre++k::r).length=pre.length+(r.length+1):=(by simp);rw[bE,ax]at ho;have h1:=H k (aF ..) acc (by omega);have ih:=JJ g d nm r (pre++[k]) (acc++g k) (λk' L6=>H k' (aD _ L6)) (by simpa using hl) (by rw[ax];omega);have e1:(pre++[k])++r=pre++k::r:=(by simp);have e2:(pre++[k]).length=pre.length+1:=(by simp);rw[e1,e2]at ih;have hg:(pre++k::r).getD (pre.length:Int).toNat 0=k:=ju pre k r 0
  refine(ih.and h1).up λn ⟨ih,h1⟩=> ?_
  rw[r7,dA (by omega),cU (db (by omega)),hg,h1,au];dsimp only;rw[dX (by omega),ih];simp
include hk hf hn in
theorem MV:∀(m i:Nat) (d:Int) (nm:LI) (acc:Dj),i<m->i<ns.length->0<=d->d+m<=10000->acc.length+(sL ns m ↑i nm d).length<=100000->
  Evt λn=>ov (S.tab n) ↑i d nm (ns,()) acc ()=J ((),(),(),(),(ns,()),acc++sL ns m ↑i nm d,(),())
 |0,i,_,_,_,h,_,_,_,_=>absurd h (by omega)
 |m+1,i,d,nm,acc,h,hi,hd,aX3,ho=>by
  have ea:at_ (τ:=cR) ns (i:Int)=ns[i]:=kX _ _ hi;have Cc:=hk i hi
  have ek:Ba ns (i:Int)=cP ns[i]:=by unfold Ba;rw[ea]
  generalize hx:ns[i]=x at ea Cc ek
  have aC1:x.1=4->0<(cW x).length:=by rw[<-hx];exact hf i hi
  have aC2:(cP x).length<=2097152:=by rw[<-hx];exact hn i hi
  unfold sL at ho⊢;rw[ek,ea,ax]at ho;rw[ek,ea]
  have am5:0<=dp x d/\dp x d+m<=10000:=by unfold dp;cases zF x<;>simp<;>omega
  have loop:∀AF:Dj,AF.length+((cP x).flatMap λk=>sL ns m k (inner x) (dp x d)).length<=100000->
    Evt λn=>lQ (S.tab n) (dp x d) (ns,()) AF () x=J (an ((ns,()),AF++(cP x).flatMap (λk=>sL ns m k (inner x) (dp x d)),())):=λAF ha=>by
   have l8:=JJ (ns:=ns) (λk=>sL ns m k (inner x) (dp x d)) (dp x d) (inner x) (cP x) [] AF (λk FJ a ad0=>by
    obtain⟨k0,k1⟩:=Cc k FJ;obtain⟨j,rfl⟩:∃j:Nat,k=(j:Int):=⟨k.toNat,by omega⟩
    exact MV m j (dp x d) (inner x) a (by omega) (by omega) am5.1 am5.2 ad0) (by simpa using aC2) ha
   refine l8.up λn l8=> ?_
   have l8:ij (S.tab n) (dp x d) (ns,()) AF () (inner x) (cP x) ((cP x).length:Int) 0=_:=l8;rw[yN]
   by_cases c:x.1=4
   ·have aB9:=aC1 c;rw[dA c,cU (by show I ((0:Int)<((cW x).length:Int))=av;simp only[ae];omega)]
    have ei:inner x=(cW x).getD 0 []:=by unfold inner;rw[ab c];rfl
    show(ij (S.tab n) (dp x d) (ns,()) AF () ((cW x).getD 0 []) (cP x) ((cP x).length:Int) 0).bind _=_;rw[<-ei,l8];rfl
   ·rw[da c]
    have ei:inner x=[]:=by unfold inner;rw[aa c];rfl
    show(ij (S.tab n) (dp x d) (ns,()) AF () [] (cP x) ((cP x).length:Int) 0).bind _=_;rw[ei]at l8⊢;rw[l8];rfl
  by_cases c:x.1=36
  ·have ef:zF x=true:=ab c
   have ed:dp x d=d+1:=by unfold dp;rw[ef];rfl
   rw[ef,ai]at ho⊢;have nJ:([ent x nm d ↑i]:Dj).length=1:=rfl;rw[nJ]at ho
   refine(loop (acc++[ent x nm d ↑i]) (by rw[ax,nJ];omega)).up λn hj=> ?_
   rw[vn,cU (db hi)];dsimp only;rw[ea,dA c,cU (dE (by unfold lim;simp;omega)),wrap64 (d+1) (by omega) (by omega)];rw[ed]at hj;show(lQ (S.tab n) (d+1) (ns,()) (acc++[ent x nm d ↑i]) () x).bind _=_;rw[hj,au,aI,ed];rfl
  ·have ef:zF x=false:=aa c
   have ed:dp x d=d:=by unfold dp;rw[ef];rfl
   rw[ef,ah]at ho⊢
   refine(loop acc (by simpa using ho)).up λn hj=> ?_
   rw[vn,cU (db hi)];dsimp only;rw[ea,da c];rw[ed]at hj;rw[hj,au,bS,ed];rfl
theorem QP (x:cR.den)(d:Int)(a:LI)(b c:Int):∀(r pre acc:Dj),(pre++r).length<=2097152->acc.length+r.length<=1000000->
  Evt λn=>jA (S.tab n) (ns,()) x acc d a b c (pre++r) ((pre++r).length:Int) (pre.length:Int)=J (an ((ns,()),x,acc++r,d,a,b,c,()))
 |[],pre,acc,hl,_=>dt.up λn _=>by
  rw[qK,dm (by simp)];simp
 |k::r,pre,acc,hl,ho=>by
  have hlen:(pre++k::r).length=pre.length+(r.length+1):=(by simp);rw[az]at ho;have ih:=QP x d a b c r (pre++[k]) (acc++[k]) (by simpa using hl) (by simp;omega);have e1:(pre++[k])++r=pre++k::r:=(by simp);have e2:(pre++[k]).length=pre.length+1:=(by simp);rw[e1,e2]at ih;have hg:at_ (τ:=eS) (pre++k::r) (pre.length:Int)=k:=Pr (τ:=eS) pre k r
  refine ih.up λn ih=> ?_
  rw[qK,dA (by omega),cU (db (by omega)),hg,cU (dE (by unfold lim;simp;omega)),dX (by omega),ih];simp
theorem QD (x:cR.den)(aN0:x.1=4->0<(cW x).length)(g:Int->Dj)(d:Int):∀(r pre:LI) (acc:Dj),(∀k∈r,(g k).length<=100000->Evt λn=>ow (S.tab n) (ns,()) k (inner x) d=J (g k,oI))->
  (pre++r).length<=2097152->acc.length+(r.flatMap g).length<=100000->
  Evt λn=>jc (S.tab n) (ns,()) x acc d (pre++r) ((pre++r).length:Int) (pre.length:Int)=J (an (acc++r.flatMap g,()))
 |[],pre,acc,_,hl,_=>dt.up λn _=>by
  rw[rP,dm (by simp)];simp
 |k::r,pre,acc,H,hl,ho=>by
  have hlen:(pre++k::r).length=pre.length+(r.length+1):=(by simp);rw[bE,ax]at ho;have h1:=H k (aF ..) (by omega);have ED:=QP (ns:=ns) x d (pre++k::r) ((pre++k::r).length:Int) (pre.length:Int) (g k) [] acc (by rw[bS];omega) (by omega);have ih:=QD x aN0 g d r (pre++[k]) (acc++g k) (λk' L6=>H k' (aD _ L6)) (by simpa using hl) (by rw[ax];omega);have e1:(pre++[k])++r=pre++k::r:=(by simp);have e2:(pre++[k]).length=pre.length+1:=(by simp);rw[e1,e2]at ih;have hg:(pre++k::r).getD (pre.length:Int).toNat 0=k:=ju pre k r 0
  have am3:Evt λn=>kN (S.tab n) (ns,()) x acc d k (inner x) (pre++k::r) ((pre++k::r).length:Int) (pre.length:Int)=J (an ((ns,()),x,acc++g k,d,pre++k::r,((pre++k::r).length:Int),(pre.length:Int),())):=(h1.and ED).up λn ⟨h1,ED⟩=>by
   rw[ym,h1,au];have ED:jA (S.tab n) (ns,()) x acc d (pre++k::r) ((pre++k::r).length:Int) (pre.length:Int) (g k) ((g k).length:Int) 0=_:=ED;show(jA (S.tab n) (ns,()) x acc d (pre++k::r) ((pre++k::r).length:Int) (pre.length:Int) (g k) ((g k).length:Int) 0).bind _=_;rw[ED];rfl
  refine(ih.and am3).up λn ⟨ih,am3⟩=> ?_
  rw[rP,dA (by omega),cU (db (by omega)),hg]
  by_cases c:x.1=4
  ·have aB9:=aN0 c
   have ei:inner x=(cW x).getD 0 []:=by unfold inner;rw[ab c];rfl
   rw[dA c,cU (by show I ((0:Int)<((cW x).length:Int))=av;simp only[ae];omega)];show(kN (S.tab n) (ns,()) x acc d k ((cW x).getD 0 []) (pre++k::r) ((pre++k::r).length:Int) (pre.length:Int)).bind _=_;rw[<-ei,am3,au];simp only[dB,aO];rw[dX (by omega),ih];simp
  ·have ei:inner x=[]:=by unfold inner;rw[aa c];rfl
   rw[da c];rw[ei]at am3;rw[am3,au];simp only[dB,aO];rw[dX (by omega),ih];simp
include hk hf hn in
theorem X6:∀(m i:Nat) (d:Int) (nm:LI),i<m->i<ns.length->0<=d->d+m<=10000->(sL ns m ↑i nm d).length<=100000->
  Evt λn=>ow (S.tab n) (ns,()) ↑i nm d=J (sL ns m ↑i nm d,oI)
 |0,i,_,_,h,_,_,_,_=>absurd h (by omega)
 |m+1,i,d,nm,h,hi,hd,aX3,ho=>by
  have ea:at_ (τ:=cR) ns (i:Int)=ns[i]:=kX _ _ hi;have Cc:=hk i hi
  have ek:Ba ns (i:Int)=cP ns[i]:=by unfold Ba;rw[ea]
  generalize hx:ns[i]=x at ea Cc ek
  have aC1:x.1=4->0<(cW x).length:=by rw[<-hx];exact hf i hi
  have aC2:(cP x).length<=2097152:=by rw[<-hx];exact hn i hi
  unfold sL at ho⊢;rw[ek,ea,ax]at ho;rw[ek,ea]
  have am5:0<=dp x d/\dp x d+m<=10000:=by unfold dp;cases zF x<;>simp<;>omega
  have loop:∀AF:Dj,AF.length+((cP x).flatMap λk=>sL ns m k (inner x) (dp x d)).length<=100000->
    Evt λn=>lJ (S.tab n) (ns,()) x AF (dp x d)=J (an (AF++(cP x).flatMap (λk=>sL ns m k (inner x) (dp x d)),())):=λAF ha=>by
   have l8:=QD (ns:=ns) x aC1 (λk=>sL ns m k (inner x) (dp x d)) (dp x d) (cP x) [] AF (λk FJ ad0=>by
    obtain⟨k0,k1⟩:=Cc k FJ;obtain⟨j,rfl⟩:∃j:Nat,k=(j:Int):=⟨k.toNat,by omega⟩
    exact X6 m j (dp x d) (inner x) (by omega) (by omega) am5.1 am5.2 ad0) (by simpa using aC2) ha
   refine l8.up λn l8=> ?_
   have l8:jc (S.tab n) (ns,()) x AF (dp x d) (cP x) ((cP x).length:Int) 0=_:=l8;rw[yF];show(jc (S.tab n) (ns,()) x AF (dp x d) (cP x) ((cP x).length:Int) 0).bind _=_;rw[l8];rfl
  by_cases c:x.1=36
  ·have ef:zF x=true:=ab c
   have ed:dp x d=d+1:=by unfold dp;rw[ef];rfl
   rw[ef,ai]at ho⊢;have nJ:([ent x nm d ↑i]:Dj).length=1:=rfl;rw[nJ]at ho
   refine(loop [ent x nm d ↑i] (by rw[nJ];omega)).up λn hj=> ?_
   rw[vl,cU (db hi)];dsimp only;rw[ea,dA c,cU (dE (by unfold lim;simp)),wrap64 (d+1) (by omega) (by omega)];rw[ed]at hj;show(lJ (S.tab n) (ns,()) x [ent x nm d ↑i] (d+1)).bind _=_;rw[hj,au,ed];rfl
  ·have ef:zF x=false:=aa c
   have ed:dp x d=d:=by unfold dp;rw[ef];rfl
   rw[ef,ah]at ho⊢
   refine(loop [] (by simpa using ho)).up λn hj=> ?_
   rw[vl,cU (db hi)];dsimp only;rw[ea,da c];rw[ed]at hj;rw[hj,au,ed];rfl
end
def yo (ns:List cR.den):Dj:=bif I ((kg ns).1=0)then sL ns ns.length ((ns.length - 1:Nat):Int) [] 0 else []
theorem Hy {ns:List cR.den}:(yo ns).length<=3001:=by
 unfold yo
 by_cases c:(kg ns).1=0
 ·obtain⟨_,h0,h3,hk⟩:=nu c;obtain⟨st,pH⟩:=Nv c;rw[ab c,ai];have:=Qi hk pH ns.length (ns.length - 1) [] 0 (by omega);have hz:=US hk pH ns.length (ns.length - 1) (by omega) (by omega);omega
 ·rw[aa c];simp
end Go.Abs.D
end

section
namespace Go.Abs.D
section
variable{ns:List cR.den}(hN:∀x∈ns,NodeOk x)
include hN in
theorem Fc:Evt λn=>xg (S.tab n) (ns,())=J (yo ns,dw):=by
 have hs:=AY hN;have hlen:=Hy (ns:=ns);unfold yo at hlen⊢
 by_cases c:(kg ns).1=0
 ·obtain⟨_,h0,h3,hk⟩:=nu c;rw[ab c]at hs hlen⊢;rw[ai]at hlen⊢
  have w:aq.wrap ((ns.length:Int) - 1)=((ns.length - 1:Nat):Int):=by rw[wrap64 _ (by omega) (by omega)];omega
  have hw:=MV (ns:=ns) hk (λj hj h4=>MT (zP c j hj) h4) (λj hj=>(hN _ (bm hj)).nk) ns.length (ns.length - 1) 0 [] [] (by omega) (by omega) (by omega) (by omega) (by simp;omega)
  refine(hs.and hw).up λn ⟨hs,hw⟩=> ?_
  rw[xR,hs,au,dm (by rfl)];dsimp only;rw[w,hw,au,bS]
 ·rw[aa c]at hs⊢
  refine hs.up λn hs=> ?_
  rw[xR,hs,au,cU (by rfl)];rfl
include hN in
theorem Ff:Evt λn=>xo (S.tab n) (ns,())=J (yo ns,dw):=by
 have hs:=qn hN;have hlen:=Hy (ns:=ns);unfold yo at hlen⊢
 by_cases c:(kg ns).1=0
 ·obtain⟨et,h0,h3,hk⟩:=nu c;rw[ab c]at hlen⊢;rw[ai]at hlen⊢
  have w:aq.wrap ((ns.length:Int) - 1)=((ns.length - 1:Nat):Int):=by rw[wrap64 _ (by omega) (by omega)];omega
  have hw:=X6 (ns:=ns) hk (λj hj h4=>MT (zP c j hj) h4) (λj hj=>(hN _ (bm hj)).nk) ns.length (ns.length - 1) 0 [] (by omega) (by omega) (by omega) (by omega) (by omega)
  refine(hs.and hw).up λn ⟨hs,hw⟩=> ?_
  rw[xV,hs,au,dm (by rw[et];rfl)];dsimp only;rw[w,hw,au]
 ·rw[aa c]
  refine hs.up λn hs=> ?_
  rw[xV,hs,au,cU (by rw[aa c];rfl)];rfl
end
end Go.Abs.D
end

section
namespace Go.Abs.D
theorem G5 (p s:LI):∀r:List LI,Lx.sY (p::r) s=p++r.flatMap (s++ ·)
 |[]=>by simp[Lx.sY]
 |q::r=>by
  unfold Lx.sY;rw[G5 q s r];simp
theorem Mh {s:LI}(hb:∀c∈s,isByte c):∀c∈mI s,isByte c:=by
 intro c hc;unfold mI at hc;split at hc
 ·cases hc
 ·simp only[aL,bA,a35,or_false,a33]at hc
  rcases hc with(rfl|⟨a,ha,hc⟩)|rfl
  ·exact⟨by decide,by decide⟩
  ·exact Eh a (hb a ha) c hc
  ·exact⟨by decide,by decide⟩
theorem BN (s:LI):(mI s).length<=16002:=by
 unfold mI;split
 ·simp
 ·have:=HE s;simp only[ax,bu];omega
def A9 (x:cR.den):List LI:=[dec x.1,dec x.2.1,dec x.2.2.1,dec x.2.2.2.1,dec x.2.2.2.2.1,dec x.2.2.2.2.2.1,mI x.2.2.2.2.2.2.1,dec ((cW x).length:Int)]
def parts (x:cR.den):List LI:=((A9 x++cW x)++[dec ((cP x).length:Int)])++(cP x).map dec
def ma (x:cR.den):LI:=Lx.sY (parts x) [32]++[10]
theorem D6 (x:cR.den):Lx.sY (parts x) [32]=dec x.1++((([dec x.2.1,dec x.2.2.1,dec x.2.2.2.1,dec x.2.2.2.2.1,dec x.2.2.2.2.2.1,mI x.2.2.2.2.2.2.1,dec ((cW x).length:Int)]++cW x)++[dec ((cP x).length:Int)])++(cP x).map dec).flatMap ([32]++ ·):=G5 _ _ _
theorem Db (k:Nat)(s:LI):∀r:List LI,(∀m∈r,m.length<=k)->(r.flatMap (s++ ·)).length<=(k+s.length)*r.length
 |[],_=>by simp
 |m::r,h=>by
  have:=Db k s r λx hx=>h x (aD _ hx)
  have h1:=h m (aF ..);rw[bE,ax,ax,az,Nat.mul_add];omega
section
variable{x:cR.den}(hx:NodeOk x)(hr:RgI x)(hb:Bd (cW x) x.2.2.2.2.2.2.1)(hk:(cP x).length<=200)(Ou:∀k∈cP x,rg k)
theorem MO:∀(r pre:LI) (o:LI),(∀k∈r,rg k)->(pre++r).length<=100->o.length+30*r.length<=1000000->
  Evt λn=>mE (S.tab n) x o (pre++r) ((pre++r).length:Int) (pre.length:Int)=J (an (x,o++r.flatMap (λz=>dec z++[32]),()))
 |[],pre,o,_,hl,_=>dt.up λn _=>by
  rw[vj,dm (by simp)];simp
 |k::r,pre,o,hk,hl,ho=>by
  have hlen:(pre++k::r).length=pre.length+(r.length+1):=(by simp);obtain⟨k0,k1⟩:=hk k (aF ..);have hd:=js k k0 k1;rw[az]at ho;have ih:=MO r (pre++[k]) (o++(dec k++[32])) (λx hx=>hk x (aD _ hx)) (by simpa using hl) (by simp;omega);have e1:(pre++[k])++r=pre++k::r:=(by simp);have e2:(pre++[k]).length=pre.length+1:=(by simp);rw[e1,e2]at ih;have hg:(pre++k::r).getD (pre.length:Int).toNat 0=k:=ju pre k r 0
  refine(ih.and (qx k k0 k1)).up λn ⟨ih,h1⟩=> ?_
  rw[vj,dA (by omega),cU (db (by omega)),hg,h1,au];dsimp only;rw[cU (dE (by unfold lim;omega)),cU (dE (by unfold lim;simp;omega)),dX (by omega),ih];simp
theorem MR:∀(r pre:List LI) (o:LI),(∀m∈r,m.length<=40)->(pre++r).length<=200->o.length+50*r.length<=1000000->
  Evt λn=>mB (S.tab n) x o (pre++r) ((pre++r).length:Int) (pre.length:Int)=J (an (x,o++r.flatMap ([32]++ ·),()))
 |[],pre,o,_,hl,_=>dt.up λn _=>by
  rw[vp,dm (by simp)];simp
 |k::r,pre,o,hk,hl,ho=>by
  have hlen:(pre++k::r).length=pre.length+(r.length+1):=(by simp);have k0:=hk k (aF ..);rw[az]at ho;have ih:=MR r (pre++[k]) (o++([32]++k)) (λx hx=>hk x (aD _ hx)) (by simpa using hl) (by simp;omega);have e1:(pre++[k])++r=pre++k::r:=(by simp);have e2:(pre++[k]).length=pre.length+1:=(by simp);rw[e1,e2]at ih;have hg:(pre++k::r).getD (pre.length:Int).toNat []=k:=ju pre k r []
  refine ih.up λn ih=> ?_
  rw[vp,dA (by omega),cU (db (by omega)),hg,cU (dE (by unfold lim;omega)),cU (dE (by unfold lim;simp;omega)),dX (by omega),ih];simp
theorem Jp:∀(r pre:LI) (o:LI),(∀k∈r,rg k)->(pre++r).length<=200->o.length+30*r.length<=1000000->
  Evt λn=>lz (S.tab n) o (pre++r) ((pre++r).length:Int) (pre.length:Int)=J (an (o++(r.map dec).flatMap ([32]++ ·),()))
 |[],pre,o,_,hl,_=>dt.up λn _=>by
  rw[tL,dm (by simp)];simp
 |k::r,pre,o,hk,hl,ho=>by
  have hlen:(pre++k::r).length=pre.length+(r.length+1):=(by simp);obtain⟨k0,k1⟩:=hk k (aF ..);have hd:=js k k0 k1;rw[az]at ho;have ih:=Jp r (pre++[k]) (o++([32]++dec k)) (λx hx=>hk x (aD _ hx)) (by simpa using hl) (by simp;omega);have e1:(pre++[k])++r=pre++k::r:=(by simp);have e2:(pre++[k]).length=pre.length+1:=(by simp);rw[e1,e2]at ih;have hg:(pre++k::r).getD (pre.length:Int).toNat 0=k:=ju pre k r 0
  refine(ih.and (qx k k0 k1)).up λn ⟨ih,h1⟩=> ?_
  rw[tL,dA (by omega),cU (db (by omega)),hg,h1,au];dsimp only;rw[cU (dE (by unfold lim;omega)),cU (dE (by unfold lim;simp;omega)),dX (by omega),ih];simp
include hr hb in
theorem RM:(((([]:LI)++([x.1,x.2.1,x.2.2.1,x.2.2.2.1,x.2.2.2.2.1,x.2.2.2.2.2.1]:LI).flatMap (λz=>dec z++[32]))++((mI x.2.2.2.2.2.2.1++[32])++dec ((cW x).length:Int))).length<=17000):=by
 have a1:=js _ hr.f1.1 hr.f1.2;have a2:=js _ hr.f2.1 hr.f2.2;have a3:=js _ hr.f3.1 hr.f3.2;have a4:=js _ hr.f4.1 hr.f4.2;have a5:=js _ hr.f5.1 hr.f5.2;have a6:=js _ hr.f6.1 hr.f6.2;have a7:=BN x.2.2.2.2.2.2.1;have hn:=hb.2.1;have a8:=js ((cW x).length:Int) (by omega) (by omega);simp only[bE,List.flatMap_nil,ax,aB,bu];omega
include hx hr hb hk Ou in
theorem Tk:Evt λn=>zi (S.tab n) x=J (ma x,fQ):=by
 have hn:=hb.2.1;have H:=RM hr hb;have dn:=js ((cW x).length:Int) (by omega) (by omega);have dk:=js ((cP x).length:Int) (by omega) (by omega);have ql:=BN x.2.2.2.2.2.2.1
 have h3:=MO (x:=x) [x.1,x.2.1,x.2.2.1,x.2.2.2.1,x.2.2.2.2.1,x.2.2.2.2.2.1] [] [] (by
  intro k hk;simp only[bA,a35,or_false]at hk
  rcases hk with h|h|h|h|h|h<;>rw[h]
  ·exact hr.f1
  ·exact hr.f2
  ·exact hr.f3
  ·exact hr.f4
  ·exact hr.f5
  ·exact hr.f6) (by simp) (by simp)
 generalize hA:([]:LI)++([x.1,x.2.1,x.2.2.1,x.2.2.2.1,x.2.2.2.2.1,x.2.2.2.2.2.1]:LI).flatMap (λz=>dec z++[32])=A at h3 H
 have hAl:A.length<=17000:=by rw[ax]at H;omega
 generalize hB:(mI x.2.2.2.2.2.2.1++[32])++dec ((cW x).length:Int)=B at H
 have h9:=MR (x:=x) (cW x) [] (A++B) hb.2.2 (by simpa using hn) (by omega);have f9:=Db 40 [32] (cW x) hb.2.2
 have as5:((cW x).flatMap ([32]++ ·)).length<=8200:=by
  have:(40+([32]:LI).length)*(cW x).length<=41*200:=a13 (aC 41) hn;omega
 have kd:∀m∈(cP x).map dec,m.length<=20:=λm hm=>by
  obtain⟨k,L6,rfl⟩:=cG.1 hm;exact js k (Ou k L6).1 (Ou k L6).2
 have f15:=Db 20 [32] ((cP x).map dec) kd
 have ZG:(((cP x).map dec).flatMap ([32]++ ·)).length<=4200:=by
  rw[bT]at f15;have:(20+([32]:LI).length)*(cP x).length<=21*200:=a13 (aC 21) hk;omega
 have ID:=Jp (cP x) [] (((A++B)++(cW x).flatMap ([32]++ ·))++([32]++dec ((cP x).length:Int))) Ou (by simpa using hk) (by simp only[ax,bu]at H⊢;omega)
 refine(((h3.and (Hi x.2.2.2.2.2.2.1 hx.text (Nat.not_lt.2 hb.1))).and ((qx ((cW x).length:Int) (by omega) (by omega)).and (qx ((cP x).length:Int) (by omega) (by omega)))).and (h9.and ID)).up λn ⟨⟨⟨h3,hq⟩,hn',L6⟩,h9,ID⟩=> ?_
 have h3:mE (S.tab n) x [] [x.1,x.2.1,x.2.2.1,x.2.2.2.1,x.2.2.2.2.1,x.2.2.2.2.2.1] 6 0=J (an (x,A,())):=h3;rw[GA];show(mE (S.tab n) x [] [x.1,x.2.1,x.2.2.1,x.2.2.2.1,x.2.2.2.2.1,x.2.2.2.2.2.1] 6 0).bind _=_;rw[h3,au];show(lV (S.tab n) x.2.2.2.2.2.2.1).bind _=_;rw[hq,au];dsimp only;rw[cU (dE (by unfold lim;omega))];show(gJ (S.tab n) ((cW x).length:Int)).bind _=_;rw[hn',au];dsimp only;rw[cU (dE (by unfold lim;simp only[ax,bu];omega)),hB,cU (dE (by unfold lim;rw[ax]at H;omega))];show(mB (S.tab n) x (A++B) (cW x) ((cW x).length:Int) 0).bind _=_;have h9:mB (S.tab n) x (A++B) (cW x) ((cW x).length:Int) 0=_:=h9;rw[h9,au];show(gJ (S.tab n) ((cP x).length:Int)).bind _=_;rw[L6,au];dsimp only;rw[cU (dE (by unfold lim;omega)),cU (dE (by unfold lim;simp only[ax,bu]at H as5⊢;omega))];have ID:lz (S.tab n) (((A++B)++(cW x).flatMap ([32]++ ·))++([32]++dec ((cP x).length:Int))) (cP x) ((cP x).length:Int) 0=_:=ID;show(lz (S.tab n) (((A++B)++(cW x).flatMap ([32]++ ·))++([32]++dec ((cP x).length:Int))) (cP x) ((cP x).length:Int) 0).bind _=_;rw[ID,au];simp only[dB,aO];rw[cU (dE (by unfold lim;simp only[ax,bu]at H as5 ZG⊢;omega))]
 congr 2
 unfold ma;rw[<-hA,<-hB,D6];simp[List.flatMap_append,aI]
theorem JD (a:LI)(ns:List cR.den)(b c:Int):∀(r pre:LI) (o:List LI),(∀k∈r,rg k)->(pre++r).length<=200->o.length+r.length<=1000000->
  Evt λn=>nD (S.tab n) a o ns b c (pre++r) ((pre++r).length:Int) (pre.length:Int)=J (an (a,o++r.map dec,ns,b,c,()))
 |[],pre,o,_,hl,_=>dt.up λn _=>by
  rw[wL,dm (by simp)];simp
 |k::r,pre,o,hk,hl,ho=>by
  have hlen:(pre++k::r).length=pre.length+(r.length+1):=(by simp);obtain⟨k0,k1⟩:=hk k (aF ..);rw[az]at ho;have ih:=JD a ns b c r (pre++[k]) (o++[dec k]) (λx hx=>hk x (aD _ hx)) (by simpa using hl) (by simp;omega);have e1:(pre++[k])++r=pre++k::r:=(by simp);have e2:(pre++[k]).length=pre.length+1:=(by simp);rw[e1,e2]at ih;have hg:(pre++k::r).getD (pre.length:Int).toNat 0=k:=ju pre k r 0
  refine ih.up λn ih=> ?_
  rw[wL,dA (by omega),cU (db (by omega)),hg,si k k0 k1,au];dsimp only;rw[cU (dE (by unfold lim;simp only[bu];omega)),dX (by omega),ih];simp
include hr hb hk Ou in
theorem D1:(Lx.sY (parts x) [32]).length<=40000/\(parts x).length<=1000:=by
 have a1:=js _ hr.f1.1 hr.f1.2;have a2:=js _ hr.f2.1 hr.f2.2;have a3:=js _ hr.f3.1 hr.f3.2;have a4:=js _ hr.f4.1 hr.f4.2;have a5:=js _ hr.f5.1 hr.f5.2;have a6:=js _ hr.f6.1 hr.f6.2;have a7:=BN x.2.2.2.2.2.2.1;have hn:=hb.2.1;have a8:=js ((cW x).length:Int) (by omega) (by omega);have a9:=js ((cP x).length:Int) (by omega) (by omega);have f9:=Db 40 [32] (cW x) hb.2.2
 have as5:((cW x).flatMap ([32]++ ·)).length<=8200:=by
  have:(40+([32]:LI).length)*(cW x).length<=41*200:=a13 (aC 41) hn;omega
 have kd:∀m∈(cP x).map dec,m.length<=20:=λm hm=>by
  obtain⟨k,L6,rfl⟩:=cG.1 hm;exact js k (Ou k L6).1 (Ou k L6).2
 have f15:=Db 20 [32] ((cP x).map dec) kd
 have ZG:(((cP x).map dec).flatMap ([32]++ ·)).length<=4200:=by
  rw[bT]at f15;have:(20+([32]:LI).length)*(cP x).length<=21*200:=a13 (aC 21) hk;omega
 rw[D6];unfold parts A9;simp only[List.flatMap_append,bE,List.flatMap_nil,ax,az,aB,bT]at as5 ZG⊢;omega
include hx in
theorem RW:∀c∈ma x,isByte c:=by
 intro c hc;unfold ma at hc;rw[D6]at hc;have aZ8:isByte 32:=⟨by decide,by decide⟩
 have fm:∀(r:List LI),(∀m∈r,∀c∈m,isByte c)->∀c∈r.flatMap ([32]++ ·),isByte c:=by
  intro r h c hc;obtain⟨m,hm,hc⟩:=a33.1 hc
  rcases aL.1 hc with hc|hc
  ·have:c=32:=(by simpa using hc);subst this;exact aZ8
  ·exact h m hm c hc
 rcases aL.1 hc with hc|hc
 ·rcases aL.1 hc with hc|hc
  ·exact Nb _ c hc
  ·refine fm _ (λm hm=> ?_) c hc;simp only[aL,bA,a35,or_false,cG]at hm
   rcases hm with((((rfl|rfl|rfl|rfl|rfl|rfl|rfl)|hm)|rfl)|⟨k,_,rfl⟩)
   all_goals first|exact Nb _|exact Mh hx.text|exact hx.names m hm
 ·have:c=10:=(by simpa using hc);subst this;exact⟨by decide,by decide⟩
end
structure AllOk (ns:List cR.den):Prop where
 n:∀x∈ns,NodeOk x
 r:∀x∈ns,RgI x
 b:∀x∈ns,Bd (cW x) x.2.2.2.2.2.2.1/\(cP x).length<=200/\∀k∈cP x,rg k
theorem yU:∀(r pre:List cR.den) (o:LI),AllOk r->(pre++r).length<=3000->o.length+50000*r.length<=1000000000->
  Evt λn=>oO (S.tab n) o (pre++r) ((pre++r).length:Int) (pre.length:Int)=J (an (o++r.flatMap ma,()))
 |[],pre,o,_,hl,_=>dt.up λn _=>by
  rw[xN,dm (by simp)];simp
 |x::r,pre,o,hA,hl,ho=>by
  have hlen:(pre++x::r).length=pre.length+(r.length+1):=(by simp);have hm:=aF (a:=x) (l:=r);have hx:=hA.n x hm;have hr:=hA.r x hm;obtain⟨hb,hk,Ou⟩:=hA.b x hm;have hn:=hb.2.1;obtain⟨jl,pl⟩:=D1 hr hb hk Ou;rw[az]at ho
  have aP3:(ma x).length<=40001:=by unfold ma;rw[ax,bu];omega
  have ih:=yU r (pre++[x]) (o++ma x) ⟨λy hy=>hA.n y (aD _ hy),λy hy=>hA.r y (aD _ hy),λy hy=>hA.b y (aD _ hy)⟩ (by simpa using hl) (by rw[ax];omega);have e1:(pre++[x])++r=pre++x::r:=(by simp);have e2:(pre++[x]).length=pre.length+1:=(by simp);rw[e1,e2]at ih
  have hg:at_ (τ:=cR) (pre++x::r) (pre.length:Int)=x:=by rw[kX _ _ (by omega)];simp
  have uZ:=JD o (pre++x::r) ((pre++x::r).length:Int) (pre.length:Int) (cP x) [] ((A9 x++cW x)++[dec ((cP x).length:Int)]) Ou (by simpa using hk) (by unfold A9;simp;omega)
  refine((ih.and uZ).and (O4 x.2.2.2.2.2.2.1 hx.text)).up λn ⟨⟨ih,uZ⟩,hq⟩=> ?_
  rw[xN,dA (by omega),cU (db (by omega)),hg,si _ hr.f1.1 hr.f1.2,au,si _ hr.f2.1 hr.f2.2,au,si _ hr.f3.1 hr.f3.2,au,si _ hr.f4.1 hr.f4.2,au,si _ hr.f5.1 hr.f5.2,au,IK _ hr.f6.1 hr.f6.2,au,hq,au];show(Lx.sZ (((cW x).length:Int),())).bind _=_;rw[si _ (by omega) (by omega),au];show brk (fits ((A9 x).length+(cW x).length)) _ _=_;rw[cU (dE (by unfold lim A9;simp;omega))];show(Lx.sZ (((cP x).length:Int),())).bind _=_;rw[si _ (by omega) (by omega),au];show brk (fits ((A9 x++cW x).length+1)) _ _=_;rw[cU (dE (by unfold lim A9;simp;omega))];show(nD (S.tab n) o ((A9 x++cW x)++[dec ((cP x).length:Int)]) (pre++x::r) ((pre++x::r).length:Int) (pre.length:Int) (cP x) ((cP x).length:Int) 0).bind _=_;have uZ:nD (S.tab n) o ((A9 x++cW x)++[dec ((cP x).length:Int)]) (pre++x::r) ((pre++x::r).length:Int) (pre.length:Int) (cP x) ((cP x).length:Int) 0=_:=uZ;rw[uZ,au];show(Lx.E2 (parts x,[32],())).bind _=_
  have hj:Lx.E2 (parts x,[32],())=J (Lx.sY (parts x) [32],(),(),()):=by
   unfold Lx.E2;dsimp only;rw[dE (show(parts x).length<=lim by unfold lim;omega),dE (show(Lx.sY (parts x) [32]).length<=lim by unfold lim;omega)];rfl
  rw[hj,au];dsimp only;rw[cU (dE (by unfold lim;omega))];show(Bld.kA (o,ma x,())).bind _=_
  have hw:Bld.kA (o,ma x,())=J ((((ma x).length:Int),av,()),o++ma x,(),()):=by
   unfold Bld.kA;dsimp only;rw[dE (show o.length+(ma x).length<=lim by unfold lim;omega)];rfl
  rw[hw,au];dsimp only;rw[dX (by omega),ih];simp
theorem yV:∀(r pre:List cR.den) (o:LI),AllOk r->(pre++r).length<=3000->o.length+50000*r.length<=1000000000->
  Evt λn=>oP (S.tab n) o (pre++r) ((pre++r).length:Int) (pre.length:Int)=J (an (o++r.flatMap ma,()))
 |[],pre,o,_,hl,_=>dt.up λn _=>by
  rw[xQ,dm (by simp)];simp
 |x::r,pre,o,hA,hl,ho=>by
  have hlen:(pre++x::r).length=pre.length+(r.length+1):=(by simp);have hm:=aF (a:=x) (l:=r);have hx:=hA.n x hm;have hr:=hA.r x hm;obtain⟨hb,hk,Ou⟩:=hA.b x hm;obtain⟨jl,pl⟩:=D1 hr hb hk Ou;rw[az]at ho
  have aP3:(ma x).length<=40001:=by unfold ma;rw[ax,bu];omega
  have ih:=yV r (pre++[x]) (o++ma x) ⟨λy hy=>hA.n y (aD _ hy),λy hy=>hA.r y (aD _ hy),λy hy=>hA.b y (aD _ hy)⟩ (by simpa using hl) (by rw[ax];omega);have e1:(pre++[x])++r=pre++x::r:=(by simp);have e2:(pre++[x]).length=pre.length+1:=(by simp);rw[e1,e2]at ih
  have hg:at_ (τ:=cR) (pre++x::r) (pre.length:Int)=x:=by rw[kX _ _ (by omega)];simp
  refine(ih.and (Tk hx hr hb hk Ou)).up λn ⟨ih,hq⟩=> ?_
  rw[xQ,dA (by omega),cU (db (by omega)),hg,hq,au];dsimp only;rw[cU (dE (by unfold lim;omega)),dX (by omega),ih];simp
def JU (ns:List cR.den):LI:=bif I ((kg ns).1=0)then ns.flatMap ma else []
section
variable{ns:List cR.den}(hN:∀x∈ns,NodeOk x)(hR:∀x∈ns,RgI x)
include hN hR in
theorem Uq (c:(kg ns).1=0):AllOk ns:=by
 obtain⟨_,h0,h3,hk⟩:=nu c;refine⟨hN,hR,λx hx=> ?_⟩;obtain⟨j,hj,rfl⟩:=List.getElem_of_mem hx;obtain⟨b1,b2,b3⟩:=ph (zP c j hj);exact⟨b1,b2,λk hk=>by have:=b3 k hk;unfold rg;omega⟩
theorem T7:∀(r:List cR.den),AllOk r->(r.flatMap ma).length<=50000*r.length
 |[],_=>by simp
 |x::r,hA=>by
  have hm:=aF (a:=x) (l:=r);obtain⟨hb,hk,Ou⟩:=hA.b x hm;obtain⟨jl,pl⟩:=D1 (hA.r x hm) hb hk Ou;have:=T7 r ⟨λy hy=>hA.n y (aD _ hy),λy hy=>hA.r y (aD _ hy),λy hy=>hA.b y (aD _ hy)⟩;rw[bE,ax,az]
  have aP3:(ma x).length<=40001:=by unfold ma;rw[ax,bu];omega
  omega
theorem QL {r:List cR.den}(hA:AllOk r):∀c∈r.flatMap ma,isByte c:=λc hc=>by
 obtain⟨x,hx,hc⟩:=a33.1 hc;obtain⟨hb,hk,Ou⟩:=hA.b x hx;exact RW (hA.n x hx) c hc
include hN hR in
theorem Ko:Evt λn=>Eg (S.tab n) (ns,())=J (JU ns,dw):=by
 have hs:=AY hN;unfold JU
 by_cases c:(kg ns).1=0
 ·obtain⟨_,h0,h3,hk⟩:=nu c;have hA:=Uq hN hR c;rw[ab c]at hs⊢;have h6:=yU ns [] [] hA (by simpa using h3) (by simp;omega);have hl:=T7 ns hA
  refine(hs.and h6).up λn ⟨hs,h6⟩=> ?_
  rw[CT,hs,au,dm (by rfl)];have h6:oO (S.tab n) [] ns (ns.length:Int) 0=J (an (ns.flatMap ma,())):=h6;show(oO (S.tab n) [] ns (ns.length:Int) 0).bind _=_;rw[h6,au];show(Bld.vD (ns.flatMap ma,())).bind _=_
  have hw:Bld.vD (ns.flatMap ma,())=J (ns.flatMap ma,(),()):=by
   unfold Bld.vD;dsimp only;rw[dE (show(ns.flatMap ma).length<=lim by unfold lim;omega),wY (QL hA)];rfl
  rw[hw];rfl
 ·rw[aa c]at hs⊢
  refine hs.up λn hs=> ?_
  rw[CT,hs,au,cU (by rfl)];rfl
include hN hR in
theorem KB:Evt λn=>Ed (S.tab n) (ns,())=J (JU ns,dw):=by
 have hs:=qn hN;unfold JU
 by_cases c:(kg ns).1=0
 ·obtain⟨et,h0,h3,hk⟩:=nu c;have hA:=Uq hN hR c;rw[ab c];have h6:=yV ns [] [] hA (by simpa using h3) (by simp;omega)
  refine(hs.and h6).up λn ⟨hs,h6⟩=> ?_
  rw[CG,hs,au,dm (by rw[et];rfl)];have h6:oP (S.tab n) [] ns (ns.length:Int) 0=J (an (ns.flatMap ma,())):=h6;show(oP (S.tab n) [] ns (ns.length:Int) 0).bind _=_;rw[h6,au];show J ((ns.flatMap ma).map byte,dw)=_;rw[wY (QL hA)];rfl
 ·rw[aa c]
  refine hs.up λn hs=> ?_
  rw[CG,hs,au,cU (by rw[aa c];rfl)];rfl
end
end Go.Abs.D
end

section
namespace Go.Abs.D
theorem ME {s:LI}(hs:s.length<=65536)(hb:∀c∈s,isByte c):dV (λr=>ToksIn s r.1.1) λT=>mi T s:=by
 rcases Qr hs hb with⟨p,hp⟩|⟨out,b,line,_,_,S0,_,hq,_,ht⟩
 ·exact⟨_,⟨by show(0:Nat)<=_;omega,λt h=>(a35 (show t∈[]from h)).elim⟩,hp⟩
 ·refine⟨_,⟨?_,λt h=> ?_⟩,ht⟩
  ·show(out++[Va s line]).length<=_;simp;omega
  ·rcases aL.1 h with h|h
   ·obtain⟨i,e,l,⟨h1,h2,_⟩,⟨e1,e2,_⟩,_⟩:=hq t h
    right
    rw[e1,e2];exact fS (by omega) h2
   ·left
    rw[bD.1 h];rfl
theorem Wl (ns:List Node):(El ns).length<=65536/\∀c∈El ns,isByte c:=by
 unfold El
 cases I ((kg ns).1=0)with
 |false=>exact⟨by simp,(λ_ h=>nomatch h)⟩
 |true=>
  by_cases c:65536<(zt ns).length
  ·rw[ab c];exact⟨by simp,(λ_ h=>nomatch h)⟩
  ·rw[aa c];refine⟨by simp;omega,λx hx=> ?_⟩;obtain⟨y,_,rfl⟩:=cG.1 hx;exact K9 y
theorem Rw {c:vZ}(h:CurOk c)(hk:c.2.1<=1000000):dV (λr=>(∀b∈r.1,isByte b)/\CurOk r.2.1/\r.2.1.2.1<=200000000000000) λT=>sE T c:=by
 refine .up (λT=>Bg T c) (.bind (Sq h hk) ?_);rintro⟨⟨ns,u1⟩,c1,u⟩ ⟨hN,hc,L5⟩;have hN:∀x∈ns,E4 x:=hN;obtain⟨hl,hb⟩:=Wl ns
 have hp:Evt λn=>(uG (S.tab n) (ns,u1)).map (λy=>(y.1,((ns,u1),())))=J (El ns,((ns,u1),())):=(IU (ns:=ns) (λx hx=>(hN x hx).1) (λx hx=>(hN x hx).2)).mono λn h=>by
  have h:uG (S.tab n) (ns,u1)=_:=h;rw[h];rfl
 exact .then hp (.bind (Pe hc (a38 L5 (by decide)) hb hl (ME hl hb)) λr hr=> .ret ⟨hr.1,hr.2.1,by have:=hr.2.2;have:c1.2.1<=100000000000000:=L5;show r.2.1.2.1<=_;omega⟩)
def FH (ns:List Node):Nat:=(ns.filter zF).length
section
variable{ns:List cR.den}(hk:∀(j:Nat) (hj:j<ns.length),∀k∈cP ns[j],0<=k/\k<(j:Int)){st:LI}(pH:∀i,i<ns.length->kK st (dO ns i) (dO ns i).length (i:Int)=J (get st i))
def PO (ns:List Node)(a:Int):Int:=(FH (ns.take a.toNat):Nat)
theorem S4 {i:Nat}(hi:i<ns.length):PO ns ((i:Int)+1)=PO ns (i:Int)+(bif zF ns[i]then 1 else 0):=by
 unfold PO FH;rw[show((i:Int)+1).toNat=i+1 by omega,bq,cu hi,List.filter_append,ax];cases h:zF ns[i]<;>simp[h]
theorem Nt {st kids:LI}{C:Int->Int}{L:Int->Nat}(hL:∀j,j<kids.length->(L (get kids j):Int)+C (get st (get kids j).toNat)=C (get kids j+1)):∀(m:Nat) (a b:Int),m<=kids.length->kK st kids m a=J b->(((kids.take m).map L).sum:Int)+C b=C a
 |0,a,b,_,h=>by
  injection h with h
  simp_all
 |m+1,a,b,hm,h=>by
  have PY:m<kids.length:=(by omega);unfold kK at h
  by_cases hc:get kids m=a - 1
  ·rw[ab hc]at h;have ih:=Nt hL m _ b (by omega) h;have h1:=hL m PY;rw[hc,show a - 1+1=a by omega]at h1;rw[cu PY,List.map_append,List.sum_append,bW,List.map_nil,List.sum_cons,List.sum_nil];rw[hc]at ih;have e:kids[m]=a - 1:=(by rw[<-hc,Lf PY]);rw[e]
   push_cast
   omega
  ·rw[aa hc]at h;cases h
include hk pH in
theorem QK:∀(m i:Nat) (nm:LI) (d:Int),i<m->i<ns.length->((sL ns m ↑i nm d).length:Int)+PO ns (get st i)=PO ns ((i:Int)+1)
 |0,i,nm,d,h,_=>absurd h (by omega)
 |m+1,i,nm,d,h,hi=>by
  have ex:Ba ns (i:Int)=dO ns i:=by unfold Ba;rw[kX _ _ hi,qb hi]
  have:=Nt (st:=st) (kids:=dO ns i) (C:=PO ns) (L:=λk=>(sL ns m k (inner (at_ (τ:=cR) ns ↑i)) (dp (at_ (τ:=cR) ns ↑i) d)).length) (λj hj=>by
   obtain⟨k,FJ,kI⟩:=H4 hk i hi j hj;rw[FJ]
   exact QK m k (inner (at_ (τ:=cR) ns ↑i)) (dp (at_ (τ:=cR) ns ↑i) d) (by omega) (by omega)) (dO ns i).length i (get st i) (aC _) (pH i hi)
  rw[ck]at this;unfold sL;rw[ex,ax,List.length_flatMap,S4 hi,kX _ _ hi]at*;cases zF ns[i]<;>simp<;>omega
end
theorem Tc {ns:List Node}(c:(kg ns).1=0):(yo ns).length=FH ns:=by
 obtain⟨_,h0,h3,hk⟩:=nu c;obtain⟨st,pH,aS0⟩:=Jn c;have:=QK hk pH ns.length (ns.length - 1) [] 0 (by omega) (by omega);unfold yo;rw[ab c,ai];rw[aS0,show(((ns.length - 1:Nat):Int)+1)=(ns.length:Int)by omega]at this;unfold PO at this;rw[bq,ck]at this;simp[FH]at this⊢;omega
def aw4 (e:eS.den):Int:=e.2.2.2.1
def Asc (ns:List Node):Int->List eS.den->Int->Prop
 |lo,[],hi=>lo<=hi
 |lo,e::r,hi=>∃(j:Nat) (x:Node),aw4 e=(j:Int)/\ns[j]?=J x/\x.1=36/\x.2.2.2.1=e.2.1/\lo<=frN x/\Asc ns (frN x+1) r hi
theorem Asc.app {ns:List Node}:∀{l r:List eS.den} {lo m hi:Int},Asc ns lo l m->Asc ns m r hi->Asc ns lo (l++r) hi
 |[],r,lo,m,hi,h,k=>by
  cases r with
  |nil=>exact a38 h k
  |cons e r=>
   obtain⟨j,x,e1,e2,e3,e4,h1,h2⟩:=k;exact⟨j,x,e1,e2,e3,e4,a38 h h1,h2⟩
 |e::l,r,lo,m,hi,⟨j,x,e1,e2,e3,e4,h1,h2⟩,k=>⟨j,x,e1,e2,e3,e4,h1,Asc.app h2 k⟩
theorem Asc.le {ns:List Node}:∀{l:List eS.den} {lo hi:Int},Asc ns lo l hi->lo<=hi
 |[],lo,hi,h=>h
 |e::l,lo,hi,⟨j,x,_,_,_,_,h1,h2⟩=>by have:=Asc.le h2;omega
theorem Asc.up {ns:List Node}{l:List eS.den}{lo m hi:Int}(h:Asc ns lo l m)(k:m<=hi):Asc ns lo l hi:=by
 have:=h.app (r:=[]) (hi:=hi) k
 rwa[aU]at this
theorem Asc.down {ns:List Node}{l:List eS.den}{lo m hi:Int}(h:Asc ns m l hi)(k:lo<=m):Asc ns lo l hi:=Asc.app (l:=[]) k h
theorem Qw {ns:List Node}(hp:Placed ns):∀(m:Nat) (i:Nat) (x:Node) (nm:LI) (d:Int),ns[i]?=J x->Asc ns (frN x) (sL ns m ↑i nm d) (max (toN x) (frN x+1))
 |0,i,x,nm,d,hx=>by unfold sL;show frN x<=_;omega
 |m+1,i,x,nm,d,hx=>by
  have hi:i<ns.length:=(bw.1 hx).1
  have ex:at_ (τ:=cR) ns (i:Int)=x:=by rw[kX _ _ hi];exact(bw.1 hx).2
  have hm:x∈ns:=List.mem_of_getElem? hx;unfold sL;unfold Ba;rw[ex];have hk:=hp.kids x hm
  have kids:∀(ks:LI) (lo hi:Int),KdP ns lo ks hi->Asc ns lo (ks.flatMap λk=>sL ns m k (inner x) (dp x d)) hi:=λks=>by
   induction ks with
   |nil=>intro lo hi h;exact h
   |cons k r ih=>
    rintro lo hi ⟨j,y,rfl,hy,h1,h2,h3⟩;rw[bE];exact((Qw hp m j y (inner x) (dp x d) hy).up (hi:=toN y) (by omega)|>.down h1).app (ih _ _ h3)
  have Cc:=kids _ _ _ hk;unfold PU at Cc
  cases hf:I (x.1=36)with
  |true=>
   rw[hf]at Cc;have Cc:Asc ns (frN x+1) _ (toN x):=Cc;rw[show zF x=av from hf,ai];exact⟨i,x,rfl,hx,of_decide_eq_true hf,rfl,bF _,Cc.up (by omega)⟩
  |false=>
   rw[hf]at Cc;have Cc:Asc ns (frN x) _ (toN x):=Cc;rw[show zF x=ar from hf,ah,bS];exact Cc.up (by omega)
theorem Us (t3:List Node×Unit)(t4 t5:List eS.den):∀(r pre:List Node) (t6:Int),(pre++r).length<=2097152->0<=t6->t6+r.length<=4000000->
  Evt λn=>lK (S.tab n) t3 t4 t5 t6 (pre++r) ((pre++r).length:Int) (pre.length:Int)=J (an (t3,t4,t5,t6+(FH r:Nat),()))
 |[],pre,t6,_,_,_=>dt.up λn _=>by
  rw[oq,dm (by simp)];simp[FH]
 |x::r,pre,t6,hl,h0,h1=>by
  have hlen:(pre++x::r).length=pre.length+(r.length+1):=(by simp);rw[az]at h1
  have ih:=λt h0 h1=>Us t3 t4 t5 r (pre++[x]) t (by simpa using hl) h0 h1
  have e1:(pre++[x])++r=pre++x::r:=(by simp);have e2:(pre++[x]).length=pre.length+1:=(by simp);rw[e1,e2]at ih;have hg:at_ (τ:=cR) (pre++x::r) (pre.length:Int)=x:=Pr (τ:=cR) pre x r
  cases hf:zF x with
  |true=>
   refine(ih (t6+1) (by omega) (by omega)).up λn h=> ?_
   rw[oq,dA (by omega),cU (Ly pre x r),hg,cU (show I (x.1=36)=av from hf),wrap64 _ (by omega) (by omega),dX (by omega),h];simp[FH,hf];omega
  |false=>
   refine(ih t6 (by omega) (by omega)).up λn h=> ?_
   rw[oq,dA (by omega),cU (Ly pre x r),hg,dm (show I (x.1=36)=ar from hf),dX (by omega),h];simp[FH,hf]
theorem Qn {ns:List Node}{hi:Int}:∀(r pre:List eS.den) (t:Int),Asc ns (t+1) r hi->(pre++r).length<=2097152->
  Evt λn=>kP (S.tab n) (ns,()) (pre++r) t (pre++r) ((pre++r).length:Int) (pre.length:Int)=J (aE (an ((ns,()),())))
 |[],pre,t,_,_=>dt.up λn _=>by
  rw[qP,dm (by simp)]
 |e::r,pre,t,ha,hl=>by
  obtain⟨j,x,e1,e2,e3,e4,h1,h2⟩:=ha;have hlen:(pre++e::r).length=pre.length+(r.length+1):=(by simp);have ih:=Qn r (pre++[e]) (frN x) h2 (by simpa using hl);have q1:(pre++[e])++r=pre++e::r:=(by simp);have q2:(pre++[e]).length=pre.length+1:=(by simp);rw[q1,q2]at ih;have hg:at_ (τ:=eS) (pre++e::r) (pre.length:Int)=e:=Pr (τ:=eS) pre e r;have hj:j<ns.length:=(bw.1 e2).1
  have hx:at_ (τ:=cR) ns (j:Int)=x:=by rw[kX _ _ hj];exact(bw.1 e2).2
  have e1:e.2.2.2.1=(j:Int):=e1;have kI:I (x.2.1<=t)=false:=aa (show¬ frN x<=t by omega)
  refine ih.up λn h=> ?_
  have h:kP (S.tab n) (ns,()) (pre++e::r) x.2.1 (pre++e::r) ((pre++e::r).length:Int) ((pre.length+1:Nat):Int)=_:=h;rw[qP,dA (by omega),cU (Ly pre e r),cU (Ly pre e r),hg,dm (by simp)];simp only[e1];rw[cU (db hj),hx,dm (by rw[ab e3];rfl),cU (db hj),dm (by rw[ab e4];rfl),cU (db hj),dm kI,cU (db hj),dX (by omega),h]
theorem Y4 {code:LI}(hc:∀b∈code,isByte b):Evt λn=>uv (S.tab n) code=J (av,cO):=by
 have key:dV (λr=>r=(av,cO)) λT=>uv T code:=by
  have hg:dV (λr:LI×Unit×Unit=>∀b∈r.1,isByte b) λT=>D3 T code:= .up (λT=>Ke T code) (.bind (Rw (c:=(code,0,0,0,())) ⟨hc,bF _,by show(0:Int)<=0;omega,by show(0:Int)<=3;omega⟩ (by show(0:Int)<=_;omega)) λr hr=> .ret hr.1)
  refine .up (λT=>Cw T code) (.ite (λ_=> .ret rfl) λ_=> .bind hg λt ht=> .bind (OU ht) ?_);rintro⟨⟨c,at1,⟨ns,u1⟩,u2⟩,u⟩ ⟨hG,hl,ar5,hp⟩;have hG:∀x∈ns,NW x:=hG;have hl:ns.length<=300000:=hl;have hp:Placed ns:=hp
  have hN:∀x∈ns,NodeOk x:=λx hx=>(hG x hx).1
  have hR:∀x∈ns,RgI x:=λx hx=>(hG x hx).2
  have hlen:(yo ns).length=FH ns:=by
   rcases ar5 with⟨_,h⟩|⟨_,h⟩
   ·exact Tc h
   ·have h:ns=[]:=h;subst h;unfold yo;rw[aa (show¬ (kg []).1=0 by decide)];rfl
  have ZV:∃hi,Asc ns 0 (yo ns) hi:=by
   unfold yo
   cases I ((kg ns).1=0)with
   |false=>exact⟨0,bF _⟩
   |true=>
    rcases Nat.eq_zero_or_pos ns.length with h0|h0
    ·rw[bn h0];exact⟨0,bF _⟩
    ·have e:ns[ns.length - 1]?=J ns[ns.length - 1]:=aJ (by omega);exact⟨_,(Qw hp ns.length (ns.length - 1) _ [] 0 e).down (hp.pos _ (bm _))⟩
  obtain⟨hi,ZV⟩:=ZV;have hm:=Hy (ns:=ns)
  refine .then (Fc hN) (.then (Ff hN) (.then (Us (ns,()) (yo ns) (yo ns) ns [] 0 (by simpa using bX hl (by decide)) (by omega) (by omega)) ?_))
  have d1:I (((yo ns).length:Int)=0+((FH ns:Nat):Int))=true:=ab (by omega);refine .no (by show(!I (((yo ns).length:Int)=0+((FH ns:Nat):Int)))=ar;rw[d1];rfl) (.no (by show(!I (((yo ns).length:Int)=0+((FH ns:Nat):Int)))=ar;rw[d1];rfl) (.then (Qn (ns:=ns) (hi:=hi) (yo ns) [] (-1) ZV (by simp;omega)) (.then (Ko hN hR) (.then (KB hN hR) (.ret ?_)))));show(I (JU ns=JU ns),cO)=_;rw[ab rfl]
 obtain⟨r,rfl,h⟩:=key;exact h
end Go.Abs.D
end

section
namespace Go.Abs.D
theorem Te {x:List Int}(h:Good (.sl (.int .u8)) x):∀c∈x,isByte c:=λc hc=>by
 obtain⟨h0,h1⟩:IntKind.u8.min<=c/\c<=IntKind.u8.max:=h.1 c hc;have e0:IntKind.u8.min=0:=(by decide);have e1:IntKind.u8.max=255:=(by decide);exact⟨by omega,by omega⟩
end Go.Abs.D
namespace Go.Proofs.YtdoinjofjojmbaaGreatDoor
open Go.ChangeShapes Go.WideShapes Go.ChangeAt Go.RowKit
theorem Za {r:Abs.Rd}{τ:Abs.Ty}{x:τ.den}{u:Value}(h:Abs.Rc r τ x [u])(h1:τ.one=true):Abs.oc u=true:=Abs.dR.F2 (g:=⟨r,λ_=>0,λ_ _=> .nilIface,λ_=>none,λ_=>none,λ_=>[]⟩) (c:= .v τ x) ⟨h1,h⟩
set_option maxRecDepth 100000 in
theorem WG (W:World)(hL:laidMetH Tryz.prog Rows.fnOutlineRow.laid W)(v0:Value)(x0:List Int)(as6:Abs.Rc (Abs.snap W) (.sl (.int .u8)) x0 [v0])(aE0:Abs.Good (.sl (.int .u8)) x0):Calls Tryz.prog 3 #[v0] W λe w'=>e= .returned (.bool true)/\Below W.heap.size W w':=by
 obtain⟨N,h⟩:=Abs.D.Y4 (Abs.D.Te aE0)
 have kM:=(sys N).fn 3 (by kernel_rfl) (x0,()) (true,((),())) (h N (Nat.le_refl N)) (Abs.snap W) W [v0] [] (WV hL) (λb L hb=>Abs.RX hb)
  ⟨_,_,[],[],rfl,rfl,⟨Za as6 rfl,rfl,rfl,_,rfl,as6⟩,⟨rfl,rfl⟩⟩ List.nodup_nil (λb hb=>by simp at hb) (Abs.E3.none rfl)
 refine(Abs.DM Tryz.func3 rfl (by kernel_rfl) kM).mono ?_;rintro e w' ⟨v,rfl,fw,n1,n2,A,⟨_,h1,_,u,e2,h2⟩,h3⟩
 injection e2 with e2 _
 subst e2;have h2:[v]=[Value.bool true]:=h2
 injection h2 with h2 _
 subst h2;exact⟨rfl,A.below⟩
set_option maxRecDepth 100000 in
theorem RU (os:Os)(started:os.Started)(H:Type)(enc:TypeId×Value->H):
  ReturnsInHanded {} Tryz.checked os 3 .any (λw args=>(Rows.fnOutlineSpec.pre enc Tryz.prog Tryz.f3 Rows.fnOutlineRow.domain false w args/\laidMetH Tryz.prog Rows.fnOutlineRow.laid w)/\sizedMet enc Tryz.prog Tryz.f3 (OpenSpec.ofChange Rows.fnOutlineSpec) false w args)
   (Rows.fnOutlineSpec.post enc Tryz.prog Tryz.f3 false true false false):=by
 refine returnsInHanded_of_change_and (C:=Tryz.checked) (X:=λw _=>laidMetH Tryz.prog Rows.fnOutlineRow.laid w) (λ_ _ _ hh h=>h.of_heap hh) own started (by kernel_rfl) Tryz.func3
  (ChangeSpec.witness_shaped (enc:=enc) (C:=Tryz.checked) (os:=os) (X:=λw _=>laidMetH Tryz.prog Rows.fnOutlineRow.laid w) false (World.laidAll Tryz.prog os Rows.fnOutlineRow.laid) #[.slice none 0 0] 8 (World.laidAll_os _ _ _)
   (World.shaped_of_ZipB (by kernel_rfl) (by kernel_rfl)) (by kernel_rfl) (by kernel_rfl) (by kernel_rfl)
   (by rw[MakeChecks.laidMetH_plain _ _ _ (by kernel_rfl)];exact laidMet_laidAll _ (by kernel_rfl) (by kernel_rfl))) ?_
 intro W base args ds gs before Ym hW _ _ hL _;have SO:∀(j:Nat) t v,Tryz.f3.params[j]?=some t->args[j]?=some v->Value.okWide Tryz.prog W .any base t v:=Ym;have au8:=hW;obtain⟨p,q,aN6,hV,rfl,aR9,o9⟩:=hW;have hA:DataW.TrodAll enc Tryz.prog W 0 (λ_=>true) true Tryz.f3.params.toList args.toList ds p:=aN6;rw[Tryz.params3]at hA SO;obtain⟨v0,vs0,d0,ds0,p0,q0,hargs0,rfl,rfl,h0,r0⟩:=trodAll_cons hA;obtain⟨rfl,rfl,rfl⟩:=trodAll_nil r0
 obtain rfl:args=#[v0]:=by cases args;simp_all
 have aW1:=h0;obtain⟨an5,a00⟩:=h0;obtain⟨a0,l0,c0,rfl⟩:=okWide_slice Tryz.underlying22 (SO 0 22 v0 rfl rfl);obtain⟨as6,aE0⟩:=Abs.FR 3 an5 22 (.sl (.int .u8)) _ _ (by kernel_rfl) a00
 have aJ6:∀x∈p0,x.block<W.heap.size:=λx hx=>by simpa using au8.lt x (List.mem_append_left _ (List.mem_append_left _ hx))
 have a01:=CX hV
 match gs,a01,hV,au8 with
 |[g1,g2,g3],_,hV,au8=>
  clear aN6 Ym
  refine(WG W hL (.slice a0 l0 c0) _ as6 aE0).mono λe W' ⟨he,aA4⟩=> ?_
  subst he;exact⟨_,rfl,_,_,_,[],_,_,au8,trodAll_mk1 (shut_bool Tryz.underlying4 _),(trodAll_cons_mk (Below.trod laidOut (by kernel_rfl) (of_decide_eq_true (by kernel_rfl)) aW1 aA4 aJ6) trodAll_mk0),Below.trodVars laidOut aA4 (by kernel_rfl) hV,aA4.frame _,λh=>by cases h⟩
theorem YQ:Rows.FnOutlineSaid:=
 OpenClaim.holds_of_wide 3 Tryz.f3 rfl rfl rfl rfl rfl rfl rfl ⟨rfl,rfl,rfl,rfl,rfl⟩ rfl rfl rfl rfl rfl (by kernel_rfl) Tryz.func3 (by kernel_rfl)
  (of_decide_eq_true (by kernel_rfl)) (by unfold Func.isWrapper;first|(rw[if_pos (by decide+kernel)];kernel_rfl)|(rw[if_neg (by decide+kernel)];exact⟨rfl,rfl⟩))
  (λos started H enc _=>RU os started H enc)
theorem fnOutline_holds:Rows.FnOutlineCardSaid:=
 Claim7.holds_tied_plain_at .later [] [.data, .data, .data, .sentinel, .sentinel, .data, .data, .data] true (true, "bf650aa08eb3654dac375187a51741acbc17e221fac5be7967cf6f62345da8b7") true
  YQ (λ_ h=>by cases h) (by kernel_rfl) (λ_ h=>by cases h) fnOutline_row_tie rfl ⟨rfl,rfl⟩ (by kernel_rfl) rfl
  (λf fn hf ar4=>by
   obtain rfl:f=3:=Option.some.inj ((show Tryz.prog.funcNamed "loop.example/warp/laws.FnOutline" =some 3 by kernel_rfl).symm.trans hf)|>.symm
   obtain rfl:fn=Tryz.f3:=(Option.some.inj (Tryz.func3.symm.trans ar4)).symm
   exact⟨by kernel_rfl,λj t ht=>by
    rw[Tryz.params3]at ht
    have hm:t∈[22]:=by simpa using Array.mem_of_getElem? ht
    have we:([22].all λu=> !Tryz.prog.wantsStandIn u)=true:=by kernel_rfl
    exact(show Tryz.prog.wantsStandIn t=false by simpa using List.all_eq_true.1 we t hm)⟩)
  (by kernel_rfl)
end Go.Proofs.YtdoinjofjojmbaaGreatDoor
#print axioms Go.Proofs.YtdoinjofjojmbaaGreatDoor.fnOutline_holds
end
