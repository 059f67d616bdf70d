/- What is here: the numbers of the library's functions in this program, and that they are laid as the kit's shelf wants them. -/
import Derived.Test.YtkmplfkiafonkaaGreatDoorX4
import Derived.Shelf.Strconv.ParseIntPublic10
import Derived.Test.YtkmplfkiafonkaaGreatDoorProg
import Derived.KernelRfl
import Derived.WalkKit
import Derived.ProofKit
import Derived.OpenShut
import Derived.ShutString
import Derived.ChangeOld
import Derived.Below
import Derived.SizedLaws
import Derived.LaidMore
import Derived.Lay
import Derived.SevenTiedAt
import Derived.Stop.Joined
set_option linter.unusedVariables false
set_option linter.unusedSimpArgs false
set_option maxRecDepth 100000
open Go.IntKind (i64 u64 u8)
section
set_option maxRecDepth 100000
namespace Go.Abs.Lay
open Go.Proofs Go.Shelf
def VW:Ren where
 f:=fun n=>bif Nat.beq n 174 then 209 else bif Nat.beq n 247 then 234 else bif Nat.beq n 245 then 212 else bif Nat.beq n 287 then 211 else bif Nat.beq n 279 then 238 else bif Nat.beq n 280 then 239 else bif Nat.beq n 281 then 240 else bif Nat.beq n 282 then 241 else bif Nat.beq n 321 then 236 else bif Nat.beq n 322 then 237 else bif Nat.beq n 316 then 252 else bif Nat.beq n 171 then 45 else bif Nat.beq n 205 then 253 else bif Nat.beq n 243 then 86 else bif Nat.beq n 246 then 154 else bif Nat.beq n 283 then 214 else bif Nat.beq n 284 then 215 else bif Nat.beq n 285 then 216 else bif Nat.beq n 286 then 217 else bif Nat.beq n 129 then 245 else bif Nat.beq n 317 then 244 else bif Nat.beq n 318 then 246 else bif Nat.beq n 319 then 247 else bif Nat.beq n 320 then 248 else bif Nat.beq n 337 then 254 else bif Nat.beq n 338 then 255 else n
 t:=fun n=>bif Nat.beq n 9 then 9 else bif Nat.beq n 3 then 3 else bif Nat.beq n 2 then 2 else bif Nat.beq n 75 then 98 else bif Nat.beq n 85 then 187 else bif Nat.beq n 4 then 4 else bif Nat.beq n 167 then 204 else bif Nat.beq n 5 then 5 else bif Nat.beq n 53 then 154 else bif Nat.beq n 175 then 155 else bif Nat.beq n 46 then 164 else bif Nat.beq n 168 then 206 else bif Nat.beq n 37 then 45 else bif Nat.beq n 0 then 0 else bif Nat.beq n 210 then 216 else bif Nat.beq n 21 then 21 else bif Nat.beq n 127 then 101 else bif Nat.beq n 145 then 221 else bif Nat.beq n 143 then 219 else bif Nat.beq n 171 then 190 else bif Nat.beq n 173 then 193 else bif Nat.beq n 212 then 211 else bif Nat.beq n 51 then 197 else bif Nat.beq n 20 then 20 else bif Nat.beq n 213 then 212 else bif Nat.beq n 232 then 222 else bif Nat.beq n 233 then 223 else bif Nat.beq n 80 then 64 else n
 g:=fun n=>bif Nat.beq n 15 then 5 else bif Nat.beq n 16 then 6 else bif Nat.beq n 17 then 4 else bif Nat.beq n 18 then 7 else bif Nat.beq n 19 then 8 else n
theorem OK:LaysC.n174 Tryz.prog VW where
 mixed:=by kernel_rfl
 f129:=Tryz.func245.trans (congrArg some (by kernel_rfl))
 f171:=Tryz.func45.trans (congrArg some (by kernel_rfl))
 f174:=Tryz.func209.trans (congrArg some (by kernel_rfl))
 f205:=Tryz.func253.trans (congrArg some (by kernel_rfl))
 f243:=Tryz.func86.trans (congrArg some (by kernel_rfl))
 f245:=Tryz.func212.trans (congrArg some (by kernel_rfl))
 f246:=Tryz.func154.trans (congrArg some (by kernel_rfl))
 f247:=Tryz.func234.trans (congrArg some (by kernel_rfl))
 f279:=Tryz.func238.trans (congrArg some (by kernel_rfl))
 f280:=Tryz.func239.trans (congrArg some (by kernel_rfl))
 f281:=Tryz.func240.trans (congrArg some (by kernel_rfl))
 f282:=Tryz.func241.trans (congrArg some (by kernel_rfl))
 f283:=Tryz.func214.trans (congrArg some (by kernel_rfl))
 f284:=Tryz.func215.trans (congrArg some (by kernel_rfl))
 f285:=Tryz.func216.trans (congrArg some (by kernel_rfl))
 f286:=Tryz.func217.trans (congrArg some (by kernel_rfl))
 f287:=Tryz.func211.trans (congrArg some (by kernel_rfl))
 f316:=Tryz.func252.trans (congrArg some (by kernel_rfl))
 f317:=Tryz.func244.trans (congrArg some (by kernel_rfl))
 f318:=Tryz.func246.trans (congrArg some (by kernel_rfl))
 f319:=Tryz.func247.trans (congrArg some (by kernel_rfl))
 f320:=Tryz.func248.trans (congrArg some (by kernel_rfl))
 f321:=Tryz.func236.trans (congrArg some (by kernel_rfl))
 f322:=Tryz.func237.trans (congrArg some (by kernel_rfl))
 f337:=Tryz.func254.trans (congrArg some (by kernel_rfl))
 f338:=Tryz.func255.trans (congrArg some (by kernel_rfl))
 t0:=Tryz.underlying0
 a0:=Tryz.isAgg0
 z0:=Tryz.sizeOf0
 v0:=Tryz.zeroValue0
 t2:=Tryz.underlying2
 a2:=Tryz.isAgg2
 z2:=Tryz.sizeOf2
 v2:=Tryz.zeroValue2
 t3:=Tryz.underlying3
 a3:=Tryz.isAgg3
 z3:=Tryz.sizeOf3
 v3:=Tryz.zeroValue3
 t4:=Tryz.underlying4
 a4:=Tryz.isAgg4
 z4:=Tryz.sizeOf4
 v4:=Tryz.zeroValue4
 t5:=Tryz.underlying5
 a5:=Tryz.isAgg5
 z5:=Tryz.sizeOf5
 v5:=Tryz.zeroValue5
 t9:=Tryz.underlying9
 a9:=Tryz.isAgg9
 z9:=Tryz.sizeOf9
 v9:=Tryz.zeroValue9
 t20:=Tryz.underlying20
 a20:=Tryz.isAgg20
 z20:=Tryz.sizeOf20
 v20:=Tryz.zeroValue20
 t21:=Tryz.underlying21
 a21:=Tryz.isAgg21
 z21:=Tryz.sizeOf21
 v21:=Tryz.zeroValue21
 t37:=Tryz.underlying45
 a37:=Tryz.isAgg45
 z37:=Tryz.sizeOf45
 v37:=Tryz.zeroValue45
 t46:=Tryz.underlying164
 a46:=Tryz.isAgg164
 z46:=Tryz.sizeOf164
 v46:=Tryz.zeroValue164
 t51:=Tryz.underlying197
 a51:=Tryz.isAgg197
 z51:=Tryz.sizeOf197
 v51:=Tryz.zeroValue197
 t53:=Tryz.underlying154
 a53:=Tryz.isAgg154
 z53:=Tryz.sizeOf154
 v53:=Tryz.zeroValue154
 t75:=Tryz.underlying98
 a75:=Tryz.isAgg98
 z75:=Tryz.sizeOf98
 v75:=Tryz.zeroValue98
 t85:=Tryz.underlying187
 a85:=Tryz.isAgg187
 z85:=Tryz.sizeOf187
 v85:=Tryz.zeroValue187
 t127:=Tryz.underlying101
 a127:=Tryz.isAgg101
 z127:=Tryz.sizeOf101
 v127:=Tryz.zeroValue101
 t143:=Tryz.underlying219
 a143:=Tryz.isAgg219
 z143:=Tryz.sizeOf219
 v143:=Tryz.zeroValue219
 t145:=Tryz.underlying221
 a145:=Tryz.isAgg221
 z145:=Tryz.sizeOf221
 v145:=Tryz.zeroValue221
 t167:=Tryz.underlying204
 a167:=Tryz.isAgg204
 z167:=Tryz.sizeOf204
 v167:=Tryz.zeroValue204
 t168:=Tryz.underlying206
 a168:=Tryz.isAgg206
 z168:=Tryz.sizeOf206
 v168:=Tryz.zeroValue206
 t171:=Tryz.underlying190
 a171:=Tryz.isAgg190
 z171:=Tryz.sizeOf190
 v171:=Tryz.zeroValue190
 t173:=Tryz.underlying193
 a173:=Tryz.isAgg193
 z173:=Tryz.sizeOf193
 v173:=Tryz.zeroValue193
 t175:=Tryz.underlying155
 a175:=Tryz.isAgg155
 z175:=Tryz.sizeOf155
 v175:=Tryz.zeroValue155
 t210:=Tryz.underlying216
 a210:=Tryz.isAgg216
 z210:=Tryz.sizeOf216
 v210:=Tryz.zeroValue216
 t212:=Tryz.underlying211
 a212:=Tryz.isAgg211
 z212:=Tryz.sizeOf211
 v212:=Tryz.zeroValue211
 t213:=Tryz.underlying212
 a213:=Tryz.isAgg212
 z213:=Tryz.sizeOf212
 t232:=Tryz.underlying222
 a232:=Tryz.isAgg222
 z232:=Tryz.sizeOf222
 v232:=Tryz.zeroValue222
 t233:=Tryz.underlying223
 a233:=Tryz.isAgg223
 z233:=Tryz.sizeOf223
 v233:=Tryz.zeroValue223
 g15:=by kernel_rfl
 g16:=by kernel_rfl
 g17:=by kernel_rfl
 g18:=by kernel_rfl
 g19:=by kernel_rfl
 t80:=Tryz.underlying64
 a80:=Tryz.isAgg64
 z80:=Tryz.sizeOf64
 v80:=Tryz.zeroValue64
 i0:=by kernel_rfl
 i2:=by kernel_rfl
 i3:=by kernel_rfl
 i4:=by kernel_rfl
 i5:=by kernel_rfl
 i9:=by kernel_rfl
 i20:=by kernel_rfl
 i21:=by kernel_rfl
 i37:=by kernel_rfl
 i46:=by kernel_rfl
 i51:=by kernel_rfl
 i53:=by kernel_rfl
 i75:=by kernel_rfl
 i80:=by kernel_rfl
 i85:=by kernel_rfl
 i127:=by kernel_rfl
 i143:=by kernel_rfl
 i145:=by kernel_rfl
 i167:=by kernel_rfl
 i168:=by kernel_rfl
 i171:=by kernel_rfl
 i173:=by kernel_rfl
 i175:=by kernel_rfl
 i210:=by kernel_rfl
 i212:=by kernel_rfl
 i232:=by kernel_rfl
 i233:=by kernel_rfl
 m15:=by kernel_rfl
 m16:=by kernel_rfl
 m17:=by kernel_rfl
 m18:=by kernel_rfl
 m19:=by kernel_rfl
 c0:=by kernel_rfl
 c2:=by kernel_rfl
 c3:=by kernel_rfl
 c4:=by kernel_rfl
 c5:=by kernel_rfl
 c9:=by kernel_rfl
 c20:=by kernel_rfl
 c21:=by kernel_rfl
 c37:=by kernel_rfl
 c46:=by kernel_rfl
 c51:=by kernel_rfl
 c53:=by kernel_rfl
 c75:=by kernel_rfl
 c80:=by kernel_rfl
 c85:=by kernel_rfl
 c127:=by kernel_rfl
 c143:=by kernel_rfl
 c145:=by kernel_rfl
 c167:=by kernel_rfl
 c168:=by kernel_rfl
 c171:=by kernel_rfl
 c173:=by kernel_rfl
 c175:=by kernel_rfl
 c210:=by kernel_rfl
 c212:=by kernel_rfl
 c213:=by kernel_rfl
 c232:=by kernel_rfl
 c233:=by kernel_rfl
end Go.Abs.Lay
end

section
set_option maxRecDepth 100000
namespace Go.Abs.Lx
open Go.Proofs
theorem E0 {w w':World}(h:RowKit.Below w.heap.size w w'):Same w w':=⟨fun b hb=>h.block b hb,h.size,h.os,h.tape,h.output⟩
theorem HW {fb:Nat→Option (List Cell)}(hg:fb 6=some [.err false]):rM Tryz.prog fb 209 ⟨⟨[.one (.dC .str), .one (.dC (.int .i64)), .one (.dC (.int .i64))], .ta [.one (.dC (.int .i64)), .one .err]⟩,oL⟩:=by
 intro x y hF aK w args nb hG nu hP mG sG;obtain⟨hA,rfl⟩:=AJ (ts:=[.str, .int .i64, .int .i64]) rfl hP;obtain⟨u1,r1,rfl,⟨s,rfl,hs⟩,u2,r2,rfl,h2,u3,r3,rfl,h3,h4⟩:=hA;have h2:_=_:=h2;have h3:_=_:=h3;have h4:_=_:=h4;subst h2;subst h3;subst h4;have hs:x.1=bytesOf s:=hs;have hF:oL x=some y:=hF;unfold oL at hF
 cases hc:(decide (x.2.1=10)&&decide (x.2.2.1=64)&&fits x.1.length)with
 |false=>rw[hc]at hF;cases hF
 |true=>
  rw[hc]at hF;simp only[ap3]at hF;simp only[ao3,ao1]at hc;obtain⟨⟨e1,e2⟩,hl⟩:=hc
  have mu:s.size≤1099511627776:=by
   have:=aq4 hl;rw[hs,gw]at this;exact this
  have f1:x.2.1=10:=e1;have f2:x.2.2.1=64:=e2;show iE Tryz.prog 209 #[.string s, .int .i64 x.2.1, .int .i64 x.2.2.1] w _;rw[f1,f2];have hu:u8s x.1=s.data.toList:=(by rw[hs,HH]);rw[hu]at hF
  have fin:∀{v:Int} {b:Bool} {u:Value} {w':World},Same w w'→y=((v,b,()),(),(),(),())→((b=true∧u= .nilIface)∨(b=false∧∃t p,u= .iface t p))→∃cZ n1 n2,After aK w [] cZ w' (n1++n2)∧
    wG cZ w' (.ta [.one (.dC (.int .i64)), .one .err]) y.1 (.tuple #[.int .i64 v,u]) n1∧kn cZ w w' [.one (.dC .str), .one (.dC (.int .i64)), .one (.dC (.int .i64))] y.2 [.string s, .int .i64 x.2.1, .int .i64 x.2.2.1] n2:=by
   intro v b u w' PZ hy hu;subst hy;refine⟨aK,[],[],PZ.after nu,⟨[_,_],rfl,_,_,[],[],rfl,rfl,⟨rfl,rfl,rfl,_,rfl,rfl⟩,_,_,[],[],rfl,rfl,⟨?_,rfl,_,rfl,hu⟩,rfl,rfl⟩,AH (ts:=[.str, .int .i64, .int .i64]) (y:=x) ⟨_,_,rfl,⟨s,rfl,hs⟩,_,_,rfl,rfl,_,_,rfl,rfl,rfl⟩⟩
   rcases hu with⟨_,rfl⟩|⟨_,t,p,rfl⟩<;>rfl
  rw[f1,f2]at fin
  cases hp:Lib.parseIntB 64 s.data.toList with
  |ok v=>
   rw[hp]at hF
   injection hF with hF
   refine tz Tryz.func209 rfl (by kernel_rfl) ((Any.strconv_ParseInt_10_at64_ok Lay.OK s (by omega) v hp w).mono ?_);rintro e w' ⟨rfl,hw⟩;refine⟨_,rfl,fin (b:=true) ?_ hF.symm (.inl ⟨rfl,rfl⟩)⟩
   rcases hw with rfl|⟨t,rfl⟩
   ·exact Same.refl _
   ·exact⟨fun b hb=>Lib.bytesWorld_at_old w _ t b hb,by rw[Lib.bytesWorld_size];omega,rfl,rfl,rfl⟩
  |range=>
   rw[hp]at hF
   injection hF with hF
   obtain⟨us,hi,aj2⟩:=hG _ _ hg;obtain⟨arr,ty,fr,ha,hL⟩:=nu _ _ hi
   obtain⟨u,r,rfl,hu,hr⟩:=aj2 ⟨aK,fun _=>0,fun _ _=> .nilIface,fun _=>none,fun _=>none,fun _=>[]⟩ fun _ _ h=>h
   have hr:r=[]:=hr;subst hr
   have tX:w.cell? ⟨6,0,none⟩=some u:=by
    rw[Lib.cell_of_heap ha];have:arr[0]?=arr.toList[0]?:=(by simp);rw[this,hL];rfl
   refine tz Tryz.func209 rfl (by kernel_rfl) ((Any.strconv_ParseInt_10_at64_range Lay.OK s (by omega) hp u w tX ?_).mono ?_)
   ·rcases hu with⟨h,_⟩|⟨_,t,v,rfl⟩
    ·cases h
    ·exact .inr ⟨t,v,rfl⟩
   rintro e w' ⟨N,rfl,_,_,hw⟩;exact⟨_,rfl,fin (b:=false) (E0 hw) hF.symm (.inr ⟨rfl,_,_,rfl⟩)⟩
  |_=>rw[hp]at hF;cases hF
end Go.Abs.Lx
end

section
namespace Go.Proofs.YtkmplfkiafonkaaGreatDoor
open Go.ChangeShapes Go.WideShapes Go.ChangeAt Go.RowKit
set_option maxRecDepth 100000 in
theorem sys:∀n,Abs.Sys.TabOk Abs.D.S (Abs.D.S.tab n):=by
 refine Abs.Sys.ok (by kernel_rfl) (fun f hf=>Abs.Sys.Q4 Abs.D.Ts hf) (fun f c hf hl=> ?_) (by kernel_rfl);have hl:Abs.D.lib f=some c:=hl;unfold Abs.D.lib at hl
 cases h1:Nat.beq f 235 with
 |true=>have:=Abs.beq_eq h1;subst this;rw[h1]at hl;injection hl with hl;subst hl;exact Abs.Bld.Gs _
 |false=>
 rw[h1]at hl
 cases h1:Nat.beq f 209 with
 |true=>have:=Abs.beq_eq h1;subst this;injection hl with hl;subst hl;exact Abs.Lx.HW rfl
 |false=>
 rw[h1]at hl;cases hl
theorem zg {H:Type}{enc:TypeId×Value→H}{P:Program}{w:World}{sp:Nat→Bool}:∀{ns:List String}{gs:List (DataW H)}{ps:List MemPlace},DataW.TrodVars enc P w sp ns gs ps→gs.length=ns.length
 |[],[],_,_=>rfl
 |[],_::_,_,h=>h.elim
 |_::_,[],_,h=>h.elim
 |n::ns,d::ds,ps,h=>by
  obtain⟨g,t,cs,fuel,p,q,h1,h2,h3,h4,hs,e⟩:=h;have:=zg hs;simp[this]
theorem own:ownKnob Tryz.prog.godebug=none:=by kernel_rfl
theorem laidOut:laidOutB Tryz.prog=true:=by kernel_rfl
end Go.Proofs.YtkmplfkiafonkaaGreatDoor
end

section
namespace Go.Abs.D
def rN (k:Int):Bool:=decide (k=25)||(decide (k=50)||(decide (k=62)||decide (k=69)))
def tV (k:Int):Bool:=decide (k=10)||(decide (k=26)||(decide (61≤k)&&decide (k≤78)))
def je (k:Int):Bool:=(decide (k=1)||decide (k=40)||decide (k=2)||decide (k=3)||decide (k=4)||decide (k=24)||decide (k=29)||decide (k=17)||decide (k=49)||decide (k=18)||decide (k=42))||rN k
abbrev Row:=LI×Bool×Bool
def rY (l:LI):Row:=(l,true,false)
def pO:Row:=([],false,true)
def pW:Row:=([],false,false)
def xv (k a c:Int):LI×Bool:=
 bif decide (k=48)then([48,1,a],true)else bif decide (k=44)then([44,1018,45,a],true)else bif decide (k=40)then([40,1022,41,c],true)else([],false)
def V8 (k:Int):Option (LI):=
 bif decide (k=22)then some [22,1,1006,1002,1001]else
 bif decide (k=13)then some [13,1,47,1018,1001]else
 bif decide (k=18)then some [18,1,1028,1001]else
 bif decide (k=20)then some [20,1018,1027,1003,1001]else
 bif decide (k=31)then some [31,1018,1027,1001]else
 bif decide (k=19)then some [19,1,1004,1001]else
 bif decide (k=11)||decide (k=23)then some [k,1001]else
 bif decide (k=27)then some [27,1007,1001]else
 bif decide (k=30)then some [30,1027,12,1,1008,1027,1001]else
 bif decide (k=28)then some [28,1018,1001]else
 bif decide (k=14)then some [14,1015,1001]else
 bif decide (k=42)then some [1027,1001]else
 bif decide (k=1)then some [1,1009,1001]else
 bif decide (k=40)then some [40,1018,41,1011,1001]else none
def eE (s k:Int):Row:=
 bif decide (s=1000)then(bif decide (k=5)then rY [5,1000]else match V8 k with|some l=>rY l|none=>pO)else
 bif decide (s=1001)then(bif decide (k=5)then rY [5,1000]else pO)else
 bif decide (s=1002)then(bif decide (k=47)then rY [47,1018,1023]else pO)else
 bif decide (s=1003)then(bif decide (k=15)then rY [15,1018,1027,1003]else bif decide (k=16)then rY [16,1027]else pO)else
 bif decide (s=1004)then(bif decide (k=47)then rY [47,1018,46,1018,1005,1027]else bif decide (k=46)then rY [46,1,1006,21,1018,1027]else bif decide (k=21)then rY [21,1018,1027]else pW)else
 bif decide (s=1005)then(bif decide (k=46)then rY [46,1018]else pO)else
 bif decide (s=1006)then(bif decide (k=46)then rY [46,1,1006]else pO)else
 bif decide (s=1007)then(bif je k then rY [1018,1023]else pO)else
 bif decide (s=1008)then(bif decide (k=46)then rY [46,1]else pO)else
 bif decide (s=1009)then(bif(xv k 1009 1010).2 then rY (xv k 1009 1010).1 else bif decide (k=47)then rY [47,1018,1023]else bif decide (k=46)then rY [46,1012]else pW)else
 bif decide (s=1010)then(bif(xv k 1009 1010).2 then rY (xv k 1009 1010).1 else pO)else
 bif decide (s=1011)then((xv k 1009 1010).1,(xv k 1009 1010).2,false)else
 bif decide (s=1012)then(bif decide (k=1)then rY [1,1013]else bif decide (k=40)then rY [40,1018,41,1014]else pW)else
 bif decide (s=1013)then(bif(xv k 1013 1014).2 then rY (xv k 1013 1014).1 else bif decide (k=47)then rY [47,1018,1023]else bif decide (k=46)then rY [46,1012]else pW)else
 bif decide (s=1014)then((xv k 1013 1014).1,(xv k 1013 1014).2,false)else
 bif decide (s=1015)then(bif decide (k=1)then rY [1,1016]else bif decide (k=40)then rY [40,1018,41,1016]else pW)else
 bif decide (s=1016)then((xv k 1016 1017).1,(xv k 1016 1017).2,false)else
 bif decide (s=1017)then((xv k 1016 1017).1,(xv k 1016 1017).2,true)else
 bif decide (s=1018)then(bif je k then rY [1020,1019]else pW)else
 bif decide (s=1019)then(bif tV k then rY [k,1020,1019]else pO)else
 bif decide (s=1020)then(bif rN k then rY [k,1020]else bif decide (k=1)then rY [1,1021]else bif decide (k=40)then rY [40,1018,41,1021]else bif decide (k=18)then rY [18,1028]else bif decide (k=42)then rY [42,1029,43]else bif je k then rY [k]else pW)else
 bif decide (s=1021)then((xv k 1021 1021).1,(xv k 1021 1021).2,true)else
 bif decide (s=1022)then(bif je k then rY [1018,1023]else pO)else
 bif decide (s=1023)then(bif decide (k=46)then rY [46,1018,1023]else pO)else
 bif decide (s=1028)then(bif decide (k=40)then rY [40,1024,41,1027]else pW)else
 bif decide (s=1024)then(bif decide (k=49)then rY [49]else bif decide (k=1)then rY [1,1025]else pO)else
 bif decide (s=1025)then(bif decide (k=46)then rY [46,1026]else pO)else
 bif decide (s=1026)then(bif decide (k=1)then rY [1,1025]else bif decide (k=49)then rY [49]else pW)else
 bif decide (s=1027)then(bif decide (k=42)then rY [42,1000,43]else pW)else
 bif decide (s=1029)then(bif je k||(decide (k=44)||decide (k=48))then rY [1032,1030]else pO)else
 bif decide (s=1030)then(bif decide (k=46)then rY [46,1031]else pO)else
 bif decide (s=1031)then(bif je k||(decide (k=44)||decide (k=48))then rY [1032,1030]else pO)else
 bif decide (s=1032)then(bif decide (k=44)then rY [44,1018,45,47,1018]else bif decide (k=48)then rY [48,1,47,1018]else bif je k then rY [1018]else pW)else pW
def Rr (t a c:Int):LI:=
 bif decide (t=48)then [t,1,a]else bif decide (t=44)then [t,119,45,a]else bif decide (t=40)then [t,123,41,c]else []
def Si (t:Int):LI×Bool:=
 bif decide (t=22)then([t,1,104,103],true)else
 bif decide (t=13)then([t,1,47,119],true)else
 bif decide (t=18)then([t,1,133],true)else
 bif decide (t=20)then([t,119,132,105],true)else
 bif decide (t=31)then([t,119,132],true)else
 bif decide (t=19)then([t,1,106],true)else
 bif decide (t=11)||decide (t=23)then([t],true)else
 bif decide (t=27)then([t,108],true)else
 bif decide (t=30)then([t,132,12,1,109,132],true)else
 bif decide (t=28)then([t,119],true)else
 bif decide (t=14)then([t,116],true)else
 bif decide (t=42)then([132],true)else
 bif decide (t=1)then([t,110],true)else
 bif decide (t=40)then([t,119,41,112],true)else([],false)
def exp2 (s t:Int):LI×Bool:=
 let row:=bif decide (s=110)||decide (s=111)||decide (s=112)then Rr t 110 111 else bif decide (s=114)||decide (s=115)then Rr t 114 115 else bif decide (s=117)||decide (s=118)then Rr t 117 118 else []
 bif !row.isEmpty then(row,true)else
 bif decide (s=111)||decide (s=118)then([],true)else
 bif(decide (s=110)||decide (s=114))&&decide (t=46)then([t,113],true)else
 bif(decide (s=110)||decide (s=114))&&decide (t=47)then([t,124],true)else
 bif(decide (s=113)||decide (s=116))&&decide (t=1)then([t,bif decide (s=116)then 117 else 114],true)else
 bif(decide (s=113)||decide (s=116))&&decide (t=40)then([t,119,41,bif decide (s=116)then 117 else 115],true)else([],false)
def VS (t:Int):LI×Bool:=
 bif rN t then([t,120],true)else bif decide (t=1)then([t,122],true)else bif decide (t=40)then([t,119,41,122],true)else bif decide (t=42)then([t,129,43],true)else bif decide (t=18)then([t,133],true)else([t],je t)
def KQ (t:Int):Bool:=decide (t=10)||(decide (t=26)||decide (60<t))
def Ye (s t:Int):LI×Bool:=
 bif decide (s=119)then([120,121],je t)else
 bif decide (s=120)then VS t else
 bif decide (s=121)then(bif KQ t then([t,119],true)else([],true))else
 bif decide (s=122)then(Rr t 122 122,true)else
 bif decide (s=123)then(bif je t then([124],true)else([],true))else
 bif decide (s=124)then([119,125],je t)else
 bif decide (s=125)then(bif decide (t=46)then([t,119,125],true)else([],true))else
 bif decide (s=126)||decide (s=128)then(bif decide (t=1)then([t,127],true)else bif decide (t=49)then([t],true)else([],decide (s=126)))else
 bif decide (s=127)then(bif decide (t=46)then([t,128],true)else([],true))else
 bif decide (s=129)then(bif je t||(decide (t=48)||decide (t=44))then([131,130],true)else([],true))else
 bif decide (s=130)then(bif decide (t=46)then([t,129],true)else([],true))else
 bif decide (s=131)then(bif decide (t=48)then([t,1,47,119],true)else bif decide (t=44)then([t,119,45,47,119],true)else([119],je t))else
 bif decide (s=132)then([42,100,43],decide (t=42))else([40,126,41,132],decide (t=40))
def ov (s t:Int):LI×Bool:=
 bif decide (s=100)then(bif decide (t=5)then([t,100],true)else bif(Si t).2 then((Si t).1++[101],true)else([],true))else
 bif decide (s=101)then(bif decide (t=5)then([t,100],true)else([],true))else
 bif decide (s=103)then(bif decide (t=47)then([t,124],true)else([],true))else
 bif decide (s=104)then(bif decide (t=46)then([t,1,104],true)else([],true))else
 bif decide (s=105)then(bif decide (t=15)then([t,119,132,105],true)else bif decide (t=16)then([t,132],true)else([],true))else
 bif decide (s=106)then(bif decide (t=47)then([t,119,46,119,107,132],true)else([104,21,119,132],decide (t=46)||decide (t=21)))else
 bif decide (s=107)then(bif decide (t=46)then([t,119],true)else([],true))else
 bif decide (s=108)then(bif je t then([124],true)else([],true))else
 bif decide (s=109)then(bif decide (t=46)then([t,1],true)else([],true))else
 bif decide (110≤s)&&decide (s≤118)then exp2 s t else Ye s t
inductive Out where
 |no|gone|left (l:LI)
 deriving DecidableEq
def rW:Nat→LI→Int→Out
 |0,_,_=> .no
 |_+1,[],_=> .gone
 |n+1,s::r,k=>bif decide (s<1000)then(bif decide (s=k)then .left r else .no)else
   bif(eE s k).2.1 then rW n ((eE s k).1++r) k else bif(eE s k).2.2 then rW n r k else .no
def vi:Nat→LI→Int→Out
 |0,_,_=> .no
 |_+1,[],_=> .gone
 |n+1,s::r,k=>bif decide (s<100)then(bif decide (s=k)then .left r else .no)else
   bif(ov s k).2 then vi n ((ov s k).1++r) k else .no
def nI (s:Int):LI:=bif decide (s=1018)then [1020,1019]else bif decide (s=1031)then [1029]else [s]
def nS (s:Int):LI:=
 bif decide (s=119)then [1020,1019]else bif decide (s=124)then [1020,1019,1023]else bif decide (s<100)then [s]else
 [([(100,1000),(101,1001),(103,1002),(104,1006),(105,1003),(106,1004),(107,1005),(108,1007),(109,1008),(110,1009),(111,1010),(112,1011),(113,1012),(114,1013),(115,1014),(116,1015),(117,1016),(118,1017),(120,1020),(121,1019),(122,1021),(123,1022),(125,1023),(126,1024),(127,1025),(128,1026),(129,1029),(130,1030),(131,1032),(132,1027),(133,1028)]:List (Int×Int)).lookup s|>.getD 0]
def Out.map (f:LI→LI):Out→Out
 | .no=> .no
 | .gone=> .gone
 | .left l=> .left (f l)
def wJ:LI:=[100,101,103,104,105,106,107,108,109,110,111,112,113,114,115,116,117,118,119,120,121,122,123,124,125,126,127,128,129,130,131,132,133]
def allI:LI:=(List.range 33).map fun(n:Nat)=>1000+(n:Int)
def kinds:LI:=(List.range 79).map fun(n:Nat)=>(n:Int)
theorem QL:(wJ.all fun s=>kinds.all fun k=>decide ((vi 9 [s] k).map (·.flatMap nS)=(rW 9 (nS s) k).map (·.flatMap nI)))=true:=by kernel_rfl
theorem QH:(allI.all fun s=>kinds.all fun k=>decide ((rW 9 [s] k).map (·.flatMap nI)=(rW 9 (nI s) k).map (·.flatMap nI)))=true:=by kernel_rfl
end Go.Abs.D
end

section
namespace Go.Abs.D
def Hi (one:Int→Int→Out):LI→Int→Out
 |[],_=> .gone
 |s::r,k=>match one s k with
  | .no=> .no
  | .gone=>Hi one r k
  | .left l=> .left (l++r)
def stI (s k:Int):Out:=rW 9 [s] k
def stS (s k:Int):Out:=vi 9 [s] k
def gD:LI→Int→Out:=Hi stI
def oS:LI→Int→Out:=Hi stS
def NI (a:LI):LI:=a.flatMap nI
def NS (b:LI):LI:=b.flatMap nS
def Out.then (o:Out)(c:LI)(d:Out):Out:=match o with
 | .no=> .no
 | .gone=>d
 | .left l=> .left (l++c)
theorem fZ (one:Int→Int→Out)(s:Int)(r:LI)(k:Int):Hi one (s::r) k=(one s k).then r (Hi one r k):=by
 show(match one s k with| .no=>Out.no| .gone=>Hi one r k| .left l=> .left (l++r))=_;cases one s k<;>rfl
theorem Mv (o:Out)(r c:LI)(d e:Out):(o.then r d).then c e=o.then (r++c) (d.then c e):=by
 cases o with
 |no=>rfl
 |gone=>rfl
 |left l=>simp[Out.then]
theorem we (one:Int→Int→Out)(k:Int):∀a c:LI,Hi one (a++c) k=(Hi one a k).then c (Hi one c k)
 |[],c=>rfl
 |s::r,c=>by
  rw[List.cons_append,fZ,fZ,Mv,we one k r c]
theorem Out.zA (f:LI→LI)(hf:∀a b,f (a++b)=f a++f b)(o:Out)(c:LI)(d:Out):(o.then c d).map f=(o.map f).then (f c) (d.map f):=by
 cases o with
 |no=>rfl
 |gone=>rfl
 |left l=>simp[Out.then,Out.map,hf]
theorem tE (a b:LI):NI (a++b)=NI a++NI b:=List.flatMap_append
theorem Mp (a b:LI):NS (a++b)=NS a++NS b:=List.flatMap_append
def okI (s:Int):Prop:=(0≤s∧s≤78)∨s∈allI
def okS (s:Int):Prop:=(0≤s∧s≤78)∨s∈wJ
theorem Kp {s:Int}(h:s≤78):nI s=[s]:=by
 unfold nI;rw[an6 (by omega),an6 (by omega)];rfl
theorem SZ {s:Int}(h:s≤78):nS s=[s]:=by
 unfold nS;rw[an6 (by omega),an6 (by omega),an8 (by omega)];rfl
theorem sE {s k:Int}(h:s≤78):stI s k=bif decide (s=k)then .left []else .no:=by
 unfold stI rW;rw[an8 (show s<1000 by omega)];rfl
theorem CA {s k:Int}(h:s≤78):stS s k=bif decide (s=k)then .left []else .no:=by
 unfold stS vi;rw[an8 (show s<100 by omega)];rfl
theorem Wa:(allI.all fun s=>kinds.all fun k=>decide (rW 9 (nI s) k=gD (nI s) k))=true:=by kernel_rfl
theorem VA:(wJ.all fun s=>kinds.all fun k=>decide (rW 9 (nS s) k=gD (nS s) k))=true:=by kernel_rfl
theorem nfI:(allI.all fun s=>decide (NI (nI s)=nI s))=true:=by kernel_rfl
theorem nfS:(wJ.all fun s=>decide (NI (nS s)=nS s))=true:=by kernel_rfl
theorem iT {k:Int}(h0:0≤k)(h1:k≤78):k∈kinds:=by
 unfold kinds;exact List.mem_map.2 ⟨k.toNat,List.mem_range.2 (by omega),by omega⟩
theorem Wh {s k:Int}(hs:okI s)(h0:0≤k)(h1:k≤78):(stI s k).map NI=(gD (nI s) k).map NI∧NI (nI s)=nI s:=by
 rcases hs with⟨_,h⟩|h
 ·rw[Kp h];refine⟨?_,by unfold NI;simp[Kp h]⟩
  have e:gD [s] k=(stI s k).then [] .gone:=fZ stI s [] k
  rw[e,sE h];cases decide (s=k)<;>rfl
 ·have t:=of_decide_eq_true (List.all_eq_true.1 (List.all_eq_true.1 QH s h) k (iT h0 h1));have f:=of_decide_eq_true (List.all_eq_true.1 (List.all_eq_true.1 Wa s h) k (iT h0 h1));have n:=of_decide_eq_true (List.all_eq_true.1 nfI s h);rw[←f];exact⟨t,n⟩
theorem Wd {s k:Int}(hs:okS s)(h0:0≤k)(h1:k≤78):(stS s k).map NS=(gD (nS s) k).map NI∧NI (nS s)=nS s:=by
 rcases hs with⟨_,h⟩|h
 ·rw[SZ h];refine⟨?_,by unfold NI;simp[Kp h]⟩
  have e:gD [s] k=(stI s k).then [] .gone:=fZ stI s [] k
  rw[e,sE h,CA h];cases decide (s=k)<;>rfl
 ·have t:=of_decide_eq_true (List.all_eq_true.1 (List.all_eq_true.1 QL s h) k (iT h0 h1));have f:=of_decide_eq_true (List.all_eq_true.1 (List.all_eq_true.1 VA s h) k (iT h0 h1));have n:=of_decide_eq_true (List.all_eq_true.1 nfS s h);rw[←f];exact⟨t,n⟩
theorem Se:∀{a:LI},(∀s∈a,okI s)→NI (NI a)=NI a
 |[],_=>rfl
 |s::r,h=>by
  have e:NI (s::r)=nI s++NI r:=List.flatMap_cons;rw[e,tE,Se fun x hx=>h x (ap6 _ hx),(Wh (k:=0) (h s (ap7 ..)) (by decide) (by decide)).2]
theorem R8:∀{b:LI},(∀s∈b,okS s)→NI (NS b)=NS b
 |[],_=>rfl
 |s::r,h=>by
  have e:NS (s::r)=nS s++NS r:=List.flatMap_cons;rw[e,tE,R8 fun x hx=>h x (ap6 _ hx),(Wd (k:=0) (h s (ap7 ..)) (by decide) (by decide)).2]
theorem LN {k:Int}(h0:0≤k)(h1:k≤78):∀{a:LI},(∀s∈a,okI s)→(gD a k).map NI=(gD (NI a) k).map NI
 |[],_=>rfl
 |s::r,h=>by
  have e:NI (s::r)=nI s++NI r:=List.flatMap_cons
  have ih:=LN h0 h1 (a:=r) fun x hx=>h x (ap6 _ hx)
  have hs:=Wh (h s (ap7 ..)) h0 h1
  have hr:NI (NI r)=NI r:=Se fun x hx=>h x (ap6 _ hx)
  have e2:gD (s::r) k=(stI s k).then r (gD r k):=fZ stI s r k
  have e3:gD (nI s++NI r) k=(gD (nI s) k).then (NI r) (gD (NI r) k):=we stI k (nI s) (NI r)
  rw[e,e2,e3,Out.zA NI tE,Out.zA NI tE,hs.1,ih,hr]
theorem Lb {k:Int}(h0:0≤k)(h1:k≤78):∀{b:LI},(∀s∈b,okS s)→(oS b k).map NS=(gD (NS b) k).map NI
 |[],_=>rfl
 |s::r,h=>by
  have e:NS (s::r)=nS s++NS r:=List.flatMap_cons
  have ih:=Lb h0 h1 (b:=r) fun x hx=>h x (ap6 _ hx)
  have hs:=Wd (h s (ap7 ..)) h0 h1
  have hr:NI (NS r)=NS r:=R8 fun x hx=>h x (ap6 _ hx)
  have e2:oS (s::r) k=(stS s k).then r (oS r k):=fZ stS s r k
  have e3:gD (nS s++NS r) k=(gD (nS s) k).then (NS r) (gD (NS r) k):=we stI k (nS s) (NS r)
  rw[e,e2,e3,Out.zA NS Mp,Out.zA NI tE,hs.1,ih,hr]
theorem Ij {k:Int}(h0:0≤k)(h1:k≤78){a b:LI}(ha:∀s∈a,okI s)(hb:∀s∈b,okS s)(h:NI a=NS b):(gD a k).map NI=(oS b k).map NS:=by
 rw[LN h0 h1 ha,Lb h0 h1 hb,h]
end Go.Abs.D
end

section
namespace Go.Abs.D
def bE (c:Int):Bool:=(decide (97≤c)&&decide (c≤122))||(decide (65≤c)&&decide (c≤90))||decide (c=95)
def aW (c:Int):Bool:=decide (48≤c)&&decide (c≤57)
def wL (c:Int):Bool:=decide (97≤c)&&decide (c≤102)
def gO (c:Int):Bool:=aW c||wL c
def iV (c:Int):Int:=bif aW c then c - 48 else bif wL c then c - 87 else -1
def get (s:LI)(j:Nat):Int:=s.getD j 0
theorem hD {s:LI}{j:Nat}(h:s.length≤j):get s j=0:=by
 unfold get;rw[ap9,List.getElem?_eq_none h];rfl
theorem Wf (pre:LI)(x:Int)(r:LI):get (pre++x::r) pre.length=x:=pG pre x r 0
theorem TM:gO 0=false:=rfl
structure Base1 (T:S.Tab):Prop where
 iletter:∀c,kv T c=some (bE c,aa)
 idigit:∀c,iJ T c=some (aW c,aa)
 sletter:∀c,jb T c=some (bE c,aa)
 sdigit:∀c,cL T c=some (aW c,aa)
 look:∀(s:LI) (j:Nat),ct T s (j:Int)=some (get s j,ab)
 words:qu T=some (Lx.words,fv)
theorem uz (T:S.Tab):Base1 (S.step T):=by
 refine⟨fun c=> ?_,fun c=> ?_,fun c=> ?_,fun c=> ?_,fun s j=> ?_, ?_⟩
 ·rw[Df];simp only[dX,bE];cases decide (97≤c)<;>cases decide (c≤122)<;>cases decide (65≤c)<;>cases decide (c≤90)<;>simp
 ·rw[EU];simp only[dX,aW];cases decide (48≤c)<;>simp
 ·rw[zX];simp only[dX,bE];cases decide (97≤c)<;>cases decide (c≤122)<;>cases decide (65≤c)<;>cases decide (c≤90)<;>simp
 ·rw[BI];simp only[dX,aW];cases decide (48≤c)<;>simp
 ·rw[C2]
  by_cases h:j<s.length
  ·rw[ad (by simpa using h),ad (by simp[h])];rfl
  ·rw[az (by simpa using h),hD (by omega)]
 ·rw[BK];rfl
structure Base2 (T:S.Tab):Prop extends Base1 T where
 ihex:∀c,tG T c=some (gO c,aa)
 shex:∀c,nj T c=some (iV c,aa)
theorem Dp (T:S.Tab)(h:Base1 T):Base2 (S.step T):=by
 refine⟨uz T,fun c=> ?_,fun c=> ?_⟩
 ·rw[Gu,h.idigit];simp only[an7,dX,gO,wL];cases aW c<;>cases decide (97≤c)<;>simp
 ·rw[EY,h.sdigit];simp only[an7,iV]
  cases hd:aW c with
  |true=>
   simp only[aW,ao3,ao1]at hd;rw[ad rfl,zL _ (by omega) (by omega),wrap64 _ (by omega) (by omega)];rfl
  |false=>
   rw[az rfl]
   by_cases h1:97≤c
   ·rw[ad (by simpa using h1)]
    by_cases h2:c≤102
    ·rw[ad (by simpa using h2),zL _ (by omega) (by omega),wrap64 (c - 97) (by omega) (by omega),wrap64 _ (by omega) (by omega)];have:wL c=true:=(by simp[wL,h1,h2]);rw[this];simp only[ao8,ap3,ar8,as9,and_true];omega
    ·rw[az (by simpa using h2)];have:wL c=false:=(by simp[wL,h2]);rw[this];rfl
   ·rw[az (by simpa using h1)];have:wL c=false:=(by simp[wL,h1]);rw[this];rfl
theorem aD:Evt fun n=>Base2 (S.tab n):=by
 have h1:Evt fun n=>Base1 (S.tab n):=Evt.up (Evt.of (p:=fun _=>True) fun _=>trivial) fun n _=>uz _
 exact h1.up fun n h=>Dp _ h
theorem nJ (c:Int):decide (0≤iV c)=gO c:=by
 unfold iV gO
 cases hd:aW c with
 |true=>
  simp only[aW,ao3,ao1]at hd;simp only[ap3,ap4,ao1];omega
 |false=>
  cases hl:wL c with
  |true=>
   simp only[wL,ao3,ao1]at hl;simp only[ap3,ao8,ap5,ao1];omega
  |false=>simp
theorem sC (c:Int):iV c<16:=by
 unfold iV
 cases hd:aW c with
 |true=>
  simp only[aW,ao3,ao1]at hd;simp only[ap3];omega
 |false=>
  cases hl:wL c with
  |true=>
   simp only[wL,ao3,ao1]at hl;simp only[ap3,ao8];omega
  |false=>simp
end Go.Abs.D
end

section
namespace Go.Abs.D
def wq (s:LI)(j:Nat):Bool:=bE (get s j)||aW (get s j)
def dq (s:LI)(j:Nat):Bool:=aW (get s j)
def hq (s:LI)(m j:Nat):Bool:=decide (j<m)&&gO (get s j)
theorem pY {s:LI}:∀j,s.length≤j→wq s j=false:=fun j h=>by unfold wq;rw[hD h];rfl
theorem oR {s:LI}:∀j,s.length≤j→dq s j=false:=fun j h=>by unfold dq;rw[hD h];rfl
theorem Ef {s:LI}{m:Nat}:∀j,s.length≤j→hq s m j=false:=fun j h=>by unfold hq;rw[hD h,TM,ao7]
def s7 (s:LI)(j:Nat):Nat:=stop (wq s) s.length j
def oq (s:LI)(j:Nat):Nat:=stop (dq s) s.length j
def kL (s:LI)(m j:Nat):Nat:=stop (hq s m) s.length j
theorem aF (s:LI)(j:Nat):s.getD (j:Int).toNat 0=get s j:=rfl
theorem lG {q:Nat→Bool}{N j:Nat}(h:∀j,N≤j→q j=false)(hq:q j=true):j<N:=by
 rcases Nat.lt_or_ge j N with h'|h'
 ·exact h'
 ·rw[h j h']at hq;cases hq
theorem al {n j:Nat}(h:j<n):(decide ((0:Int)≤(j:Int))&&decide ((j:Int)<(n:Int)))=true:=by
 simp[h]
theorem bD {j:Nat}(h:j≤4194304):i64.wrap ((j:Int)+1)=((j+1:Nat):Int):=by
 rw[wrap64 _ (by omega) (by omega)];omega
variable{s:LI}(hs:s.length≤2097152)
include hs
theorem CV (i:Int)(t:ak.den)(j:Nat):Evt fun n=>jL (S.tab n) s i t (j:Int)=some (Sum.inl (s,i,t,(s7 s j:Int),())):=
 adv (F:=fun T j=>jL T s i t ↑j) (out:=fun j=>Sum.inl (s,i,t,(j:Int),())) aD pY
  (fun T j h hq=>by
   have hj:=lG pY hq;show jL (S.step T) s i t j=jL T s i t ((j+1:Nat):Int);rw[vQ,ad (by simpa using hj),ad (al hj),aF,h.iletter,h.idigit,bD (by omega)];simp only[an7,dX,al hj,ap3];unfold wq at hq
   cases hl:bE (get s j)with
   |true=>rfl
   |false=>rw[hl,ap0]at hq;rw[hq];rfl)
  (fun T j h hq=>by
   show jL (S.step T) s i t j=_;rw[vQ]
   by_cases hj:j<s.length
   ·rw[ad (by simpa using hj),ad (al hj),aF,h.iletter,h.idigit];simp only[an7,dX,al hj,ap3];unfold wq at hq;simp only[Bool.or_eq_false_iff]at hq;rw[hq.1,hq.2];rfl
   ·rw[az (by simpa using hj)]) s.length j (by omega)
theorem yN (t3 t4:ak.den)(j:Nat):Evt fun n=>gz (S.tab n) s t3 t4 (j:Int)=some (Sum.inl (s,t3,t4,(s7 s j:Int),())):=
 adv (F:=fun T j=>gz T s t3 t4 ↑j) (out:=fun j=>Sum.inl (s,t3,t4,(j:Int),())) aD pY
  (fun T j h hq=>by
   have hj:=lG pY hq;show gz (S.step T) s t3 t4 j=gz T s t3 t4 ((j+1:Nat):Int);rw[r5,h.look,bD (by omega)];simp only[an7,h.sletter,h.sdigit,dX];unfold wq at hq
   cases hl:bE (get s j)with
   |true=>rfl
   |false=>rw[hl,ap0]at hq;rw[hq];rfl)
  (fun T j h hq=>by
   show gz (S.step T) s t3 t4 j=_;rw[r5,h.look];simp only[an7,h.sletter,h.sdigit,dX];unfold wq at hq;simp only[Bool.or_eq_false_iff]at hq
   rw[hq.1,hq.2];rfl) s.length j (by omega)
theorem yc (i:Int)(t:ak.den)(j:Nat):Evt fun n=>eK (S.tab n) s i t (j:Int)=some (Sum.inl (s,i,t,(oq s j:Int),())):=
 adv (F:=fun T j=>eK T s i t ↑j) (out:=fun j=>Sum.inl (s,i,t,(j:Int),())) aD oR
  (fun T j h hq=>by
   have hj:=lG oR hq;show eK (S.step T) s i t j=eK T s i t ((j+1:Nat):Int);rw[q9,ad (by simpa using hj),ad (al hj),aF,h.idigit,bD (by omega)];simp only[an7,dX]
   rw[show aW (get s j)=true from hq];rfl)
  (fun T j h hq=>by
   show eK (S.step T) s i t j=_;rw[q9]
   by_cases hj:j<s.length
   ·rw[ad (by simpa using hj),ad (al hj),aF,h.idigit];simp only[an7,dX];rw[show aW (get s j)=false from hq];rfl
   ·rw[az (by simpa using hj)]) s.length j (by omega)
theorem xZ (i:Int)(t:ak.den)(m:Int)(j:Nat):Evt fun n=>gL (S.tab n) s i t ↑j m=some (Sum.inl (s,i,t,(oq s j:Int),m,())):=
 adv (F:=fun T j=>gL T s i t ↑j m) (out:=fun j=>Sum.inl (s,i,t,(j:Int),m,())) aD oR
  (fun T j h hq=>by
   have hj:=lG oR hq;show gL (S.step T) s i t j m=gL T s i t ((j+1:Nat):Int) m;rw[rn,ad (by simpa using hj),ad (al hj),aF,h.idigit,bD (by omega)];simp only[an7,dX]
   rw[show aW (get s j)=true from hq];rfl)
  (fun T j h hq=>by
   show gL (S.step T) s i t j m=_;rw[rn]
   by_cases hj:j<s.length
   ·rw[ad (by simpa using hj),ad (al hj),aF,h.idigit];simp only[an7,dX];rw[show aW (get s j)=false from hq];rfl
   ·rw[az (by simpa using hj)]) s.length j (by omega)
theorem ya (i:Int)(t:ak.den)(m:Int)(j:Nat):Evt fun n=>gK (S.tab n) s i t ↑j m=some (Sum.inl (s,i,t,(oq s j:Int),m,())):=
 adv (F:=fun T j=>gK T s i t ↑j m) (out:=fun j=>Sum.inl (s,i,t,(j:Int),m,())) aD oR
  (fun T j h hq=>by
   have hj:=lG oR hq;show gK (S.step T) s i t j m=gK T s i t ((j+1:Nat):Int) m;rw[qO,ad (by simpa using hj),ad (al hj),aF,h.idigit,bD (by omega)];simp only[an7,dX]
   rw[show aW (get s j)=true from hq];rfl)
  (fun T j h hq=>by
   show gK (S.step T) s i t j m=_;rw[qO]
   by_cases hj:j<s.length
   ·rw[ad (by simpa using hj),ad (al hj),aF,h.idigit];simp only[an7,dX];rw[show aW (get s j)=false from hq];rfl
   ·rw[az (by simpa using hj)]) s.length j (by omega)
theorem yZ (i:Nat)(t:ak.den)(j:Nat)(hi:i≤2097152):Evt fun n=>ic (S.tab n) s ↑i t (j:Int)=some (Sum.inl (s,(i:Int),t,(kL s (i+18) j:Int),())):=
 adv (F:=fun T j=>ic T s ↑i t ↑j) (out:=fun j=>Sum.inl (s,(i:Int),t,(j:Int),())) aD Ef
  (fun T j h Nt=>by
   have hj:=lG Ef Nt;simp only[hq,ao3,ao1]at Nt;show ic (S.step T) s i t j=ic T s i t ((j+1:Nat):Int);rw[r8,ad (by simpa using hj),wrap64 ((i:Int)+18) (by omega) (by omega),ad (by simp only[ao1];omega),ad (al hj),aF,h.ihex,bD (by omega)];simp only[an7,dX]
   rw[Nt.2];rfl)
  (fun T j h Nt=>by
   show ic (S.step T) s i t j=_;rw[r8]
   by_cases hj:j<s.length
   ·rw[ad (by simpa using hj),wrap64 ((i:Int)+18) (by omega) (by omega)]
    by_cases hj2:j<i+18
    ·rw[ad (by simp only[ao1];omega),ad (al hj),aF,h.ihex];simp only[hq,hj2,decide_true,ao6]at Nt;simp only[an7,dX];rw[Nt];rfl
    ·rw[az (by simp only[ao5];omega)]
   ·rw[az (by simpa using hj)]) s.length j (by omega)
theorem xn (t3 t4:ak.den)(j:Nat):Evt fun n=>eW (S.tab n) s t3 t4 (j:Int)=some (Sum.inl (s,t3,t4,(oq s j:Int),())):=
 adv (F:=fun T j=>eW T s t3 t4 ↑j) (out:=fun j=>Sum.inl (s,t3,t4,(j:Int),())) aD oR
  (fun T j h hq=>by
   have hj:=lG oR hq;show eW (S.step T) s t3 t4 j=eW T s t3 t4 ((j+1:Nat):Int);rw[qg,h.look,bD (by omega)];simp only[an7,h.sdigit,dX]
   rw[show aW (get s j)=true from hq];rfl)
  (fun T j h hq=>by
   show eW (S.step T) s t3 t4 j=_;rw[qg,h.look];simp only[an7,h.sdigit,dX]
   rw[show aW (get s j)=false from hq];rfl) s.length j (by omega)
theorem vu (t3 t4:ak.den)(j:Nat):Evt fun n=>fh (S.tab n) s t3 t4 (j:Int)=some (Sum.inl (s,t3,t4,(oq s j:Int),())):=
 adv (F:=fun T j=>fh T s t3 t4 ↑j) (out:=fun j=>Sum.inl (s,t3,t4,(j:Int),())) aD oR
  (fun T j h hq=>by
   have hj:=lG oR hq;show fh (S.step T) s t3 t4 j=fh T s t3 t4 ((j+1:Nat):Int);rw[py,h.look,bD (by omega)];simp only[an7,h.sdigit,dX]
   rw[show aW (get s j)=true from hq];rfl)
  (fun T j h hq=>by
   show fh (S.step T) s t3 t4 j=_;rw[py,h.look];simp only[an7,h.sdigit,dX]
   rw[show aW (get s j)=false from hq];rfl) s.length j (by omega)
theorem vH (t3 t4:ak.den)(j:Nat):Evt fun n=>cT (S.tab n) s t3 t4 (j:Int)=some (Sum.inl (s,t3,t4,(oq s j:Int),())):=
 adv (F:=fun T j=>cT T s t3 t4 ↑j) (out:=fun j=>Sum.inl (s,t3,t4,(j:Int),())) aD oR
  (fun T j h hq=>by
   have hj:=lG oR hq;show cT (S.step T) s t3 t4 j=cT T s t3 t4 ((j+1:Nat):Int);rw[pg,h.look,bD (by omega)];simp only[an7,h.sdigit,dX]
   rw[show aW (get s j)=true from hq];rfl)
  (fun T j h hq=>by
   show cT (S.step T) s t3 t4 j=_;rw[pg,h.look];simp only[an7,h.sdigit,dX]
   rw[show aW (get s j)=false from hq];rfl) s.length j (by omega)
end Go.Abs.D
end

section
namespace Go.Abs.D
def kq (w:LI)(j:Nat):Bool:=decide (j<22)&& !decide (Lx.words.getD j []=w)
theorem G0 {w:LI}:∀j,22≤j→kq w j=false:=fun j h=>by simp[kq];omega
def tU (w:LI):Nat:=stop (kq w) 22 0
theorem G8 (l:List LI)(j:Nat):l.getD (j:Int).toNat []=l.getD j []:=rfl
theorem BX (w:LI)(j:Nat)(hj:j≤22):Evt fun n=>iX (S.tab n) w Lx.words 22 (j:Int)=
  some (if stop (kq w) 22 j<22 then Sum.inl (((10+stop (kq w) 22 j:Nat):Int),())else Sum.inr (Sum.inl ())):=
 adv (F:=fun T j=>iX T w Lx.words 22 ↑j) (out:=fun j=>if j<22 then Sum.inl (((10+j:Nat):Int),())else Sum.inr (Sum.inl ())) aD G0
  (fun T j h hq=>by
   have hj:=lG G0 hq;show iX (S.step T) w Lx.words 22 j=iX T w Lx.words 22 ((j+1:Nat):Int);rw[uT,ad (by simp;omega),ad (al (show j<Lx.words.length from hj)),G8,bD (by omega)];simp only[kq,ao3,at0]at hq
   rw[az hq.2])
  (fun T j h hq=>by
   show iX (S.step T) w Lx.words 22 j=_;rw[uT]
   by_cases hj:j<22
   ·rw[ad (by simp;omega),ad (al (show j<Lx.words.length from hj)),G8];simp only[kq,hj,decide_true,ao6,Bool.not_eq_false']at hq;rw[ad hq,as0 hj,wrap64 _ (by omega) (by omega)]
    congr 3
   ·rw[az (by simp;omega),ar1 hj]) 22 j (by omega)
theorem yV (t3 t4:ak.den)(w:LI)(j:Nat)(hj:j≤22):Evt fun n=>gA (S.tab n) t3 t4 w Lx.words 22 (j:Int)=
  some (if stop (kq w) 22 j<22 then Sum.inl ((((10+stop (kq w) 22 j:Nat):Int),t3.2),(-1:Int),())else Sum.inr (Sum.inl (t3,t4,w,()))):=
 adv (F:=fun T j=>gA T t3 t4 w Lx.words 22 ↑j) (out:=fun j=>if j<22 then Sum.inl ((((10+j:Nat):Int),t3.2),(-1:Int),())else Sum.inr (Sum.inl (t3,t4,w,()))) aD G0
  (fun T j h hq=>by
   have hj:=lG G0 hq;show gA (S.step T) t3 t4 w Lx.words 22 j=gA T t3 t4 w Lx.words 22 ((j+1:Nat):Int);rw[sj,ad (by simp;omega),ad (al (show j<Lx.words.length from hj)),G8,bD (by omega)];simp only[kq,ao3,at0]at hq
   rw[az hq.2])
  (fun T j h hq=>by
   show gA (S.step T) t3 t4 w Lx.words 22 j=_;rw[sj]
   by_cases hj:j<22
   ·rw[ad (by simp;omega),ad (al (show j<Lx.words.length from hj)),G8];simp only[kq,hj,decide_true,ao6,Bool.not_eq_false']at hq;rw[ad hq,as0 hj,wrap64 _ (by omega) (by omega)]
    congr 4
   ·rw[az (by simp;omega),ar1 hj]) 22 j (by omega)
def rK (w:LI):Int:=if tU w<22 then((10+tU w:Nat):Int)else 1
theorem Gg (w:LI):Evt fun n=>wY (S.tab n) w=some (rK w,aa):=
 (BX w 0 (by omega)).up fun n h=>by
  show wY (S.step (S.tab n)) w=_;have h:iX (S.tab n) w Lx.words (Lx.words.length:Int) 0=_:=h;rw[Gl,h];unfold rK tU;split<;>rfl
theorem Bq (w:LI):rK w=1↔¬ tU w<22:=by
 unfold rK;split
 ·omega
 ·rename_i h;exact⟨fun _=>h,fun _=>rfl⟩
def Hk (s:LI)(i:Nat):ak.den:=
 let e:=s7 s i
 let w:=sub s ↑i ↑e
 if tU w<22 then(((10+tU w:Nat):Int),(i:Int),(e:Int),0,0,([]:LI),())else(1,(i:Int),(e:Int),0,0,w,())
theorem s5 {q:Nat→Bool}{N:Nat}(h:∀j,N≤j→q j=false):∀(k j:Nat),j≤N→stop q k j≤N
 |0,j,hj=>hj
 |k+1,j,hj=>by
  unfold stop
  cases hq:q j with
  |false=>exact hj
  |true=>
   have:=lG h hq;exact s5 h k (j+1) (by omega)
theorem eD {n i e:Nat}(h1:i≤e)(h2:e≤n):bounds n ↑i (e:Int)=true:=by
 unfold bounds;simp only[ao3,ao1];omega
theorem Dh {s:LI}(hs:s.length≤2097152){i:Nat}(hi:i<s.length)(t:ak.den)(ht:t=(0,(i:Int),0,0,0,([]:LI),())):
  Evt fun n=>so (S.tab n) s t=some ((Hk s i, -1,()),bY):=by
 subst ht;have hle:s7 s i≤s.length:=s5 pY _ _ (by omega);have EM:i≤s7 s i:=qB _ _
 refine(((yN hs (0,(i:Int),0,0,0,([]:LI),()) (0,0,0,0,0,([]:LI),()) i).and (yV (1,(i:Int),(s7 s i:Int),0,0,([]:LI),()) (0,0,0,0,0,([]:LI),()) (sub s ↑i (s7 s i:Int)) 0 (by omega))).and aD).up fun n ⟨⟨h1,h2⟩,hb⟩=> ?_
 show so (S.step (S.tab n)) s _=_;rw[CN];simp only[h1,an7,aN,aq0,ad (eD EM hle),hb.words];have h2:gA (S.tab n) (1,(i:Int),(s7 s i:Int),0,0,([]:LI),()) (0,0,0,0,0,([]:LI),()) (sub s ↑i (s7 s i:Int)) Lx.words (Lx.words.length:Int) 0=_:=h2;rw[h2];unfold Hk tU;simp only[an7];split<;>rfl
theorem E9 {s:LI}(hs:s.length≤2097152){i:Nat}(hi:i<s.length)(hl:bE (get s i)=true):
  Evt fun n=>ij (S.tab n) s (i:Int)=some ((Hk s i,false,()),ab):=by
 have hle:s7 s i≤s.length:=s5 pY _ _ (by omega);have EM:i≤s7 s i:=qB _ _
 refine(((CV hs ↑i (0,(i:Int),0,0,0,([]:LI),()) i).and (Gg (sub s ↑i (s7 s i:Int)))).and aD).up fun n ⟨⟨h1,h2⟩,hb⟩=> ?_
 show ij (S.step (S.tab n)) s _=_;rw[Bx,ad (al hi),aF,hb.iletter,hl];simp only[an7,ad,h1,aN,aq0,ad (eD EM hle),h2];unfold Hk
 by_cases hk:tU (sub s ↑i (s7 s i:Int))<22
 ·have:rK (sub s ↑i (s7 s i:Int))≠1:=fun e=>(Bq _).1 e hk
  rw[az (by simpa using this)];simp only[hk,if_true,rK]
 ·rw[ad (by simpa using(Bq _).2 hk)];simp only[hk,at3,rK]
end Go.Abs.D
end

section
namespace Go.Abs.D
def hv (n:Int)(l:LI):Int:=l.foldl (fun n c=>n*16+iV c) n
theorem GS (n c:Int)(l:LI):hv n (c::l)=hv (n*16+iV c) l:=rfl
theorem Qy (n c:Int)(l:LI):hv n (l++[c])=hv n l*16+iV c:=by simp[hv,List.foldl_append]
theorem L7 {a b:Nat}(h:a≤b):(16:Int)^a≤16^b:=by
 have:=Nat.pow_le_pow_right (show 0<16 by decide) h
 have e:∀k:Nat,(16:Int)^k=((16^k:Nat):Int):=fun k=>by simp
 rw[e,e];omega
theorem qA {c:Int}(h:gO c=true):0≤iV c:=by
 have:=nJ c;rw[h]at this;simpa using this
theorem Pe:∀(l:LI)(n:Int),0≤n→(∀c∈l,gO c=true)→n≤hv n l
 |[],n,_,_=>Int.le_refl _
 |c::l,n,h0,h=>by
  have h1:=qA (h c (ap7 ..))
  have:=Pe l (n*16+iV c) (by omega) fun x hx=>h x (ap6 _ hx)
  rw[GS];omega
theorem Ph:∀(l:LI)(n:Int)(k:Nat),0≤n→n<16^k→(∀c∈l,gO c=true)→hv n l<16^(k+l.length)
 |[],n,k,_,hn,_=>hn
 |c::l,n,k,h0,hn,h=>by
  have h1:=qA (h c (ap7 ..));have h2:=sC c
  have:=Ph l (n*16+iV c) (k+1) (by omega) (by rw[Int.pow_succ];omega) fun x hx=>h x (ap6 _ hx)
  rw[GS,ao0,show k+(l.length+1)=k+1+l.length by omega];exact this
theorem uY (x:Int)(h0:0≤x)(h1:x<18446744073709551616):u64.wrap x=x:=by
 have:u64.wrap x=x % 18446744073709551616:=(by simp[IntKind.wrap,IntKind.bits,IntKind.signed]);rw[this];omega
structure Base3 (T:S.Tab):Prop extends Base2 T where
 lower:∀c,cE T c=some (intBits .or .u8 c 32,aa)
 j46:∀(m n v:Int) (t9 l:LI) (a b:Int),0≤v→v<16→0≤n→n<1152921504606846976→n*16+v≤m→m<18446744073709551616→
  cM T 16 false t9 1152921504606846976 m false n v l a b=some (Sum.inr (Sum.inl (16,false,t9,1152921504606846976,m,false,n*16+v,l,a,b,())))
theorem Kf (T:S.Tab)(h:Base1 T):Base3 (S.step T):=by
 refine⟨Dp T h,fun c=> ?_,fun m n v t9 l a b TS Uw Wq Hu hm hM=> ?_⟩
 ·rw[yi]
 ·have am8:u8.wrap 16=16:=(by decide);have Zv:u64.wrap 16=16:=(by decide);rw[qM,am8,Zv,uY (n*16) (by omega) (by omega),uY v TS (by omega),uY (n*16+v) (by omega) (by omega)];rw[az (by simp only[ao5];omega),az (by simp only[ao5];omega),az (by simp only[ao5];omega),az (by simp only[ao5];omega)]
theorem R9:Evt fun n=>Base3 (S.tab n):=by
 have h1:Evt fun n=>Base1 (S.tab n):=Evt.up (Evt.of (p:=fun _=>True) fun _=>trivial) fun n _=>uz _
 exact h1.up fun n h=>Kf _ h
theorem VZ (l:LI)(j:Nat):l.getD (j:Int).toNat 0=get l j:=rfl
theorem S4 (c:Int)(h:wL c=true):intBits .or .u8 c 32=c:=by
 simp only[wL,ao3,ao1]at h;have:c=97∨c=98∨c=99∨c=100∨c=101∨c=102:=(by omega)
 rcases this with rfl|rfl|rfl|rfl|rfl|rfl<;>decide
theorem NO (T:S.Tab)(hb:Base3 T)(t9 l:LI)(m n:Int)(j:Nat)(hj:j<l.length)(hl:l.length≤2097152)(hc:gO (get l j)=true)(Wq:0≤n)(Hu:n<1152921504606846976)(hm:n*16+iV (get l j)≤m)(hM:m<18446744073709551616):
  aX (S.step T) 16 false t9 1152921504606846976 m false n l (l.length:Int) (j:Int)=
   aX T 16 false t9 1152921504606846976 m false (n*16+iV (get l j)) l (l.length:Int) ((j+1:Nat):Int):=by
 have h0:=qA hc;have EJ:=sC (get l j);rw[lM,ad (by simpa using hj),ad (al hj)];rw[VZ,bD (show j≤4194304 by omega)]
 cases hd:aW (get l j)with
 |true=>
  have hv:iV (get l j)=get l j - 48:=(by simp[iV,hd]);simp only[aW,ao3,ao1]at hd
  have jj:decide (get l j=95)=false:=by simp only[ao5];omega
  rw[az jj,ad (by simpa using hd.1),ad (by simpa using hd.2),zL _ (by omega) (by omega),←hv,hb.j46 m n _ t9 l _ _ h0 EJ Wq Hu hm hM];simp only[an7,bw,aq9,aq0];rw[bD (by omega)]
 |false=>
  have Xk:wL (get l j)=true:=by
   unfold gO at hc;rw[hd,ap0]at hc;exact hc
  have hv:iV (get l j)=get l j - 87:=(by simp[iV,hd,Xk]);have ah1:=S4 _ Xk;simp only[wL,ao3,ao1]at Xk
  have jj:decide (get l j=95)=false:=by simp only[ao5];omega
  have e:u8.wrap (u8.wrap (get l j - 97)+10)=iV (get l j):=by
   rw[zL (get l j - 97) (by omega) (by omega),zL _ (by omega) (by omega),hv];omega
  have h9:¬ get l j≤57:=(by omega);have RV:decide (get l j≤57)=false:=(by simpa using h9);rw[az jj];simp only[hb.lower,ah1,an7];rw[ad (show decide (48≤get l j)=true by simp only[ao1];omega),az RV,ad (show decide (97≤get l j)=true by simpa using Xk.1),ad (show decide (get l j≤122)=true by simp only[ao1];omega),e,hb.j46 m n _ t9 l _ _ h0 EJ Wq Hu hm hM];simp only[an7,bw,aq9,aq0];rw[bD (by omega)]
theorem Q6 (pre:LI)(c:Int)(r:LI):get (pre++c::r) pre.length=c:=pG pre c r 0
theorem LO (t9:LI)(m:Int)(hM:m<18446744073709551616):∀(r pre:LI)(n:Int),(∀c∈r,gO c=true)→0≤n→n<16^pre.length→(pre++r).length≤16→hv n r≤m→
  Evt fun k=>aX (S.tab k) 16 false t9 1152921504606846976 m false n (pre++r) ((pre++r).length:Int) (pre.length:Int)=some (Sum.inr (Sum.inl (t9,false,hv n r,())))
 |[],pre,n,_,_,_,_,_=>R9.up fun k hb=>by
  show aX (S.step (S.tab k)) _ _ _ _ _ _ _ _ _ _=_;rw[lM,az (by simp)];rfl
 |c::r,pre,n,hc,h0,hn,hl,hm=>by
  have hlen:(pre++c::r).length=pre.length+(r.length+1):=(by simp);have h1:=qA (hc c (ap7 ..));have h2:=sC c
  have EM:=Pe r (n*16+iV c) (by omega) fun x hx=>hc x (ap6 _ hx)
  have hp:(16:Int)^pre.length≤16^15:=L7 (by omega)
  have ih:=LO t9 m hM r (pre++[c]) (n*16+iV c) (fun x hx=>hc x (ap6 _ hx)) (by omega) (by
   rw[an9,List.length_singleton,Int.pow_succ];omega) (by simpa using hl) hm
  refine(ih.and R9).up fun k ⟨h,hb⟩=> ?_
  show aX (S.step (S.tab k)) _ _ _ _ _ _ _ _ _ _=_;have hg:=Q6 pre c r;rw[NO _ hb t9 (pre++c::r) m n pre.length (by omega) (by omega) (by rw[hg];exact hc c (ap7 ..)) h0 (by omega) (by rw[hg];rw[GS]at hm;omega) hM,hg];have e1:(pre++[c]).length=pre.length+1:=(by simp);have e2:pre++[c]++r=pre++c::r:=(by simp);rw[e1,e2]at h;exact h
theorem ze (l:LI)(b:Int)(hb:b=8∧l.length≤2∨b=64∧l.length≤16)(jj:l≠[])(hl:∀c∈l,gO c=true):
  Evt fun n=>iC (S.tab n) l 16 b=some ((hv 0 l,true,()),aP):=by
 have iO:=Ph l 0 0 (by decide) (by decide) hl;rw[Nat.zero_add]at iO;have hlen:l.length≤16:=(by omega)
 let m:Int:=if b=8 then 255 else 18446744073709551615
 have hm:hv 0 l≤m:=by
  rcases hb with⟨rfl,h⟩|⟨rfl,h⟩
  ·have:(16:Int)^l.length≤16^2:=L7 h;show hv 0 l≤255;omega
  ·have:(16:Int)^l.length≤16^16:=L7 h;show hv 0 l≤18446744073709551615;omega
 have hM:m<18446744073709551616:=by
  show(if b=8 then(255:Int)else 18446744073709551615)<_;split<;>decide
 have h1:=LO l m hM l [] 0 hl (Int.le_refl 0) (by decide) (by simpa using hlen) hm
 have h2:Evt fun n=>fO (S.tab n) l 16 b false l 1152921504606846976=some (Sum.inl (hv 0 l,true,())):=h1.up fun n h=>by
  have h:aX (S.tab n) 16 false l 1152921504606846976 m false 0 l (l.length:Int) 0=some (Sum.inr (Sum.inl (l,false,hv 0 l,()))):=h
  have e:u64.wrap (u64.wrap (1*2^min (u64.wrap b).toNat u64.bits) - 1)=m:=by
   rcases hb with⟨rfl,_⟩|⟨rfl,_⟩<;>decide
  have e0:decide ((0:Int)≤u64.wrap b)=true:=by
   rcases hb with⟨rfl,_⟩|⟨rfl,_⟩<;>decide
  rw[qK,ad e0,e,h];simp only[an7,bw,aq9,aq0,dX,ao8]
 have h3:Evt fun n=>iy (S.tab n) l 16 b false l=some (Sum.inl (hv 0 l,true,())):=h2.up fun n h=>by
  rw[qN,az (by decide),ad (by decide),h];rfl
 have h4:Evt fun n=>ix (S.tab n) l 16 b false l=some (Sum.inl (hv 0 l,true,())):=h3.up fun n h=>by
  rw[qH]
  rcases hb with⟨rfl,_⟩|⟨rfl,_⟩
  ·rw[az (by decide),az (by decide),az (by decide),h];rfl
  ·rw[az (by decide),az (by decide),az (by decide),h];rfl
 have h5:Evt fun n=>mz (S.tab n) l 16 b=some ((hv 0 l,true,()),aP):=h4.up fun n h=>by
  rw[uf,az (by simpa using jj),ad (by decide),ad (by decide)];have h:ix (S.tab n) l 16 b (decide ((16:Int)=0)) l=_:=h;rw[h];rfl
 exact h5.up fun n h=>by
  rw[vy,h];simp only[an7,dX];rfl
end Go.Abs.D
end

section
namespace Go.Abs.D
def bK (s:LI)(a b:Nat):LI:=(s.take b).drop a
theorem od (s:LI)(a b:Nat):sub s ↑a (b:Int)=bK s a b:=rfl
theorem mm {s:LI}{a j:Nat}(h1:a≤j)(h2:j<s.length):bK s a (j+1)=bK s a j++[get s j]:=by
 unfold bK get;rw[List.take_add_one,ap8 h2];rw[List.drop_append_of_le_length (by simp;omega)];rw[ap9,ap8 h2];rfl
theorem l8 {s:LI}(a:Nat):bK s a a=[]:=by
 unfold bK;exact List.drop_eq_nil_of_le (by simp;omega)
theorem kU {s:LI}{a b:Nat}(h:b≤s.length):(bK s a b).length=b - a:=by
 unfold bK;simp;omega
theorem D7 {s:LI}{p:Int→Bool}{a:Nat}:∀(k:Nat),a+k≤s.length→(∀j,a≤j→j<a+k→p (get s j)=true)→∀c∈bK s a (a+k),p c=true
 |0,_,_,c,hc=>by rw[Nat.add_zero,l8]at hc;cases hc
 |k+1,hk,h,c,hc=>by
  rw[show a+(k+1)=a+k+1 by omega,mm (by omega) (by omega)]at hc
  rcases aq6.1 hc with hc|hc
  ·exact D7 k (by omega) (fun j h1 h2=>h j h1 (by omega)) c hc
  ·have:c=get s (a+k):=(by simpa using hc);subst this;exact h _ (by omega) (by omega)
def jl (s:LI)(i:Nat):Nat⊕ak.den:=
 let e:=kL s (i+18) (i+2)
 if e=i+2 then .inl e else if gO (get s e)=true then .inl e else .inr (2,(i:Int),(e:Int),0,i64.wrap (hv 0 (bK s (i+2) e)),([]:LI),())
def k23 (k:Int):Bool:=decide (k=2)||decide (k=3)
def k4 (k:Int):Bool:=decide (k=4)
def kB (c k:Int):Bool:=bif aW c then k23 k else bif decide (c=34)then k4 k else decide (k=0)
def IR (K:Int→Bool)(r:Nat⊕ak.den)(t:ak.den)(b:Bool):Prop:=match r with| .inl e=>b=true∧t.2.2.1=(e:Int)∧K t.1=true| .inr t'=>b=false∧t=t'
def SR (K:Int→Bool)(r:Nat⊕ak.den)(t:ak.den)(b:Int):Prop:=match r with| .inl e=>b=(e:Int)∧K t.1=true| .inr t'=>b= -1∧t=t'
theorem IR.to {K L:Int→Bool}(h:∀k,K k=L k){r:Nat⊕ak.den}{t:ak.den}{b:Bool}:IR K r t b→IR L r t b:=by
 rw[show K=L from funext h];exact id
theorem SR.to {K L:Int→Bool}(h:∀k,K k=L k){r:Nat⊕ak.den}{t:ak.den}{b:Int}:SR K r t b→SR L r t b:=by
 rw[show K=L from funext h];exact id
variable{s:LI}(hs:s.length≤2097152)
include hs
omit hs in
theorem GR {i:Nat}(hi:i+2≤s.length):kL s (i+18) (i+2)≤s.length∧i+2≤kL s (i+18) (i+2)∧kL s (i+18) (i+2)≤i+18:=by
 refine⟨s5 Ef _ _ hi,qB _ _, ?_⟩;refine s5 (q:=hq s (i+18)) (N:=i+18) (fun j hj=> ?_) _ _ (by omega);simp only[hq,as6,ao5];exact .inl (by omega)
omit hs in
theorem QU {i:Nat}(hi:i+2≤s.length):∀c∈bK s (i+2) (kL s (i+18) (i+2)),gO c=true:=by
 obtain⟨h1,h2,h3⟩:=GR hi;obtain⟨k,hk⟩:∃k,kL s (i+18) (i+2)=i+2+k:=⟨kL s (i+18) (i+2) - (i+2),by omega⟩;rw[hk]
 refine D7 k (by omega) fun j ha hb=> ?_
 have:=n9 (q:=hq s (i+18)) s.length (i+2) j ha (by
  show j<kL s (i+18) (i+2)
  omega)
 simp only[hq,ao3]at this;exact this.2
theorem xH (t3 t4:ak.den){i:Nat}(ht:t3.2.1=(i:Int))(hi:i+2≤s.length):∀(k j:Nat),i+2≤j→j≤i+18→s.length≤j+k→(∀c∈bK s (i+2) j,gO c=true)→j≤s.length→
  Evt fun n=>kT (S.tab n) s t3 t4 ↑j (hv 0 (bK s (i+2) j))=
   some (bif gO (get s (stop (hq s (i+18)) k j))then Sum.inl (t3,(stop (hq s (i+18)) k j:Int),())else Sum.inr (Sum.inl (t3,t4,(stop (hq s (i+18)) k j:Int),hv 0 (bK s (i+2) (stop (hq s (i+18)) k j)),())))
 |0,j,h1,h2,hk,rT,hj=>by
  refine aD.up fun n hb=> ?_
  rw[kE,hb.look];simp only[an7,hb.shex,nJ,stop];rw[hD (show s.length≤j by omega),TM,az rfl];rfl
 |k+1,j,h1,h2,hk,rT,hj=>by
  cases hc:gO (get s j)with
  |false=>
   have RM:hq s (i+18) j=false:=(by simp[hq,hc])
   refine aD.up fun n hb=> ?_
   rw[kE,hb.look,wZ RM];simp only[an7,hb.shex,nJ,hc];rw[az rfl];rfl
  |true=>
   have iO:j<s.length:=by
    rcases Nat.lt_or_ge j s.length with h|h
    ·exact h
    ·rw[hD h,TM]at hc;cases hc
   by_cases he:j=i+18
   ·have RM:hq s (i+18) j=false:=by simp[hq];omega
    refine aD.up fun n hb=> ?_
    rw[kE,hb.look,wZ RM];simp only[an7,hb.shex,nJ,hc,ht];rw[ad rfl,wrap64 _ (by omega) (by omega),ad (by simp only[ao1];omega)];rfl
   ·have Zd:hq s (i+18) j=true:=by
     simp only[hq,hc,ap1,ao1];omega
    have hlen:(bK s (i+2) j).length=j - (i+2):=kU hj;have M6:=Ph (bK s (i+2) j) 0 0 (by decide) (by decide) rT;rw[Nat.zero_add,hlen]at M6;have hp:(16:Int)^(j - (i+2))≤16^15:=L7 (by omega);have EM:=Pe (bK s (i+2) j) 0 (by decide) rT;have h0:=qA hc;have EJ:=sC (get s j)
    have ih:=xH t3 t4 ht hi k (j+1) (by omega) (by omega) (by omega) (by
     rw[mm h1 iO];intro c KU
     rcases aq6.1 KU with KU|KU
     ·exact rT c KU
     ·have:c=get s j:=(by simpa using KU)
      subst this;exact hc) (by omega)
    refine(ih.and aD).up fun n ⟨h,hb⟩=> ?_
    have e:stop (hq s (i+18)) (k+1) j=stop (hq s (i+18)) k (j+1):=by
     show(bif hq s (i+18) j then _ else _)=_;rw[Zd];rfl
    rw[e,kE,hb.look];simp only[an7,hb.shex,nJ,hc,ht,aF];rw[ad rfl,wrap64 ((j:Int) - (i:Int)) (by omega) (by omega),az (by simp only[ao5];omega),ad (al iO),bD (by omega)];rw[uY (hv 0 (bK s (i+2) j)*16) (by omega) (by omega),uY (iV (get s j)) h0 (by omega),uY _ (by omega) (by omega)];rw[mm h1 iO,Qy]at h;exact h
theorem BG {i:Nat}(hi:i+2≤s.length):Evt fun n=>∃t' b,qp (S.tab n) s (2,(i:Int),0,0,0,([]:LI),())=some ((t',b,()),bY)∧SR k23 (jl s i) t' b:=by
 obtain⟨h1,h2,h3⟩:=GR hi;have hl:=xH hs (2,(i:Int),0,0,0,([]:LI),()) (0,0,0,0,0,([]:LI),()) (i:=i) rfl hi s.length (i+2) (by omega) (by omega) (by omega) (by rw[l8];intro c hc;cases hc) hi
 refine hl.up fun n h=> ?_
 show∃t' b,qp (S.step (S.tab n)) s _=_∧_;rw[l8]at h;have h:kT (S.tab n) s (2,(i:Int),0,0,0,([]:LI),()) (0,0,0,0,0,([]:LI),()) ((i+2:Nat):Int) 0=some (bif gO (get s (kL s (i+18) (i+2)))then _ else _):=h
 have e2:i64.wrap ((i:Int)+2)=((i+2:Nat):Int):=by
  rw[wrap64 _ (by omega) (by omega)];omega
 rw[B4];simp only[e2,h]
 cases hx:gO (get s (kL s (i+18) (i+2)))with
 |true=>
  have KZ:jl s i= .inl (kL s (i+18) (i+2)):=by unfold jl;simp only[hx,if_true,ite_self]
  rw[KZ];simp only[ap3,an7,bw,aq0];exact⟨_,_,rfl,rfl,rfl⟩
 |false=>
  simp only[ao8,an7,bw,aq9,aq0,e2]
  by_cases he:kL s (i+18) (i+2)=i+2
  ·have KZ:jl s i= .inl (kL s (i+18) (i+2)):=by unfold jl;simp only[he,if_true]
   rw[ad (by simp[kL]at he⊢;omega),KZ];exact⟨_,_,rfl,rfl,rfl⟩
  ·have KZ:jl s i= .inr (2,(i:Int),(kL s (i+18) (i+2):Int),0,i64.wrap (hv 0 (bK s (i+2) (kL s (i+18) (i+2)))),([]:LI),()):=by unfold jl;simp only[he,at3,hx,ar9]
   rw[az (by simp only[ao5];show¬ ((kL s (i+18) (i+2):Nat):Int)=_;omega),KZ]
   first|exact⟨_,_,rfl,rfl,rfl⟩|exact⟨_,_,rfl,rfl,rfl,rfl⟩
theorem BY {i:Nat}(hi:i+2≤s.length)(h0:get s i=48)(hx:get s (i+1)=120):Evt fun n=>∃t' b,nE (S.tab n) s (i:Int)=some ((t',b,()),ab)∧IR k23 (jl s i) t' b:=by
 obtain⟨h1,h2,h3⟩:=GR hi;have hl:=yZ hs i (2,(i:Int),0,0,0,([]:LI),()) (i+2) (by omega);have rT:=QU hi;have e1:i64.wrap ((i:Int)+1)=((i+1:Nat):Int):=bD (by omega)
 have e2:i64.wrap ((i:Int)+2)=((i+2:Nat):Int):=by
  rw[wrap64 _ (by omega) (by omega)];omega
 have ae9:i64.wrap ((i:Int)+18)=((i+18:Nat):Int):=by
  rw[wrap64 _ (by omega) (by omega)];omega
 have d0:decide (get s i=48)=true:=by rw[h0];rfl
 have dx:decide (get s (i+1)=120)=true:=by rw[hx];rfl
 by_cases he:kL s (i+18) (i+2)=i+2
 ·refine hl.up fun n h=> ?_
  show∃t' b,nE (S.step (S.tab n)) s _=_∧_
  have KZ:jl s i= .inl (kL s (i+18) (i+2)):=by unfold jl;simp only[he,if_true]
  rw[nW,ad (al (show i<s.length by omega)),aF,ad d0,e1,ad (by simp only[ao1];omega),ad (al (show i+1<s.length by omega)),aF,ad dx,e2,h];simp only[an7,aN,aq0,e2];rw[ad (by simp only[ao1];omega),KZ]
  first|exact⟨_,_,rfl,rfl,rfl⟩|exact⟨_,_,rfl,rfl,rfl,rfl⟩
 ·have Qo:=ze (bK s (i+2) (kL s (i+18) (i+2))) 64 (.inr ⟨rfl,by rw[kU h1];omega⟩) (fun e=>by
   have:=congrArg List.length e;rw[kU h1]at this
   simp at this;omega) rT
  have Qc:gO (get s (kL s (i+18) (i+2)))=false→jl s i= .inr (2,(i:Int),(kL s (i+18) (i+2):Int),0,i64.wrap (hv 0 (bK s (i+2) (kL s (i+18) (i+2)))),([]:LI),()):=fun hx=>by unfold jl;simp only[he,at3,hx,ar9]
  refine((hl.and Qo).and aD).up fun n ⟨⟨h,hp⟩,hb⟩=> ?_
  show∃t' b,nE (S.step (S.tab n)) s _=_∧_;rw[nW,ad (al (show i<s.length by omega)),aF,ad d0,e1,ad (by simp only[ao1];omega),ad (al (show i+1<s.length by omega)),aF,ad dx,e2,h];simp only[an7,aN,aq0,e2,ae9];rw[az (by simp only[ao5];omega)];have zW:=eD h2 h1
  by_cases U5:kL s (i+18) (i+2)=i+18
  ·rw[ad (by simp only[ao1];omega)]
   by_cases iO:kL s (i+18) (i+2)<s.length
   ·rw[ad (by simp only[ao1];omega),ad (al iO),aF,hb.ihex];simp only[an7]
    cases XL:gO (get s (kL s (i+18) (i+2)))with
    |true=>
     have KZ:jl s i= .inl (kL s (i+18) (i+2)):=by unfold jl;simp only[XL,if_true,ite_self]
     rw[ad rfl,KZ]
     first|exact⟨_,_,rfl,rfl,rfl⟩|exact⟨_,_,rfl,rfl,rfl,rfl⟩
    |false=>
     rw[az rfl,ad zW,od,hp,Qc XL]
     first|exact⟨_,_,rfl,rfl,rfl⟩|exact⟨_,_,rfl,rfl,rfl,rfl⟩
   ·have hz:gO (get s (kL s (i+18) (i+2)))=false:=by rw[hD (by omega)];rfl
    rw[az (by simp only[ao5];omega),ad zW,od,hp,Qc hz]
    first|exact⟨_,_,rfl,rfl,rfl⟩|exact⟨_,_,rfl,rfl,rfl,rfl⟩
  ·have hz:gO (get s (kL s (i+18) (i+2)))=false:=by
    have hq:hq s (i+18) (kL s (i+18) (i+2))=false:=pH (q:=hq s (i+18)) Ef s.length (i+2) (by omega);simp only[Go.Abs.D.hq,as6,ao5]at hq
    rcases hq with hq|hq
    ·omega
    ·exact hq
   rw[az (by simp only[ao5];omega),ad zW,od,hp,Qc hz]
   first|exact⟨_,_,rfl,rfl,rfl⟩|exact⟨_,_,rfl,rfl,rfl,rfl⟩
end Go.Abs.D
end

section
namespace Go.Abs.D
def dv (n:Int)(l:LI):Int:=l.foldl (fun n c=>n*10+(c - 48)) n
theorem Ls (n c:Int)(l:LI):dv n (c::l)=dv (n*10+(c - 48)) l:=rfl
theorem Qz (n c:Int)(l:LI):dv n (l++[c])=dv n l*10+(c - 48):=by simp[dv,List.foldl_append]
theorem dig {c:Int}(h:aW c=true):48≤c∧c≤57:=by simpa[aW]using h
theorem Em:∀(l:LI)(n:Int),0≤n→(∀c∈l,aW c=true)→n≤dv n l
 |[],n,_,_=>Int.le_refl _
 |c::l,n,h0,h=>by
  have:=dig (h c (ap7 ..))
  have:=Em l (n*10+(c - 48)) (by omega) fun x hx=>h x (ap6 _ hx)
  rw[Ls];omega
theorem OE {c:Int}(h:aW c=true):c.toNat.toUInt8.toNat=c.toNat:=by
 have:=dig h;rw[Nat.toUInt8,UInt8.toNat_ofNat'];omega
theorem xL:∀(l:LI)(a:Nat),(∀c∈l,aW c=true)→a≤18446744073709551615→
  Lib.parseUintM (2^64 - 1) a (Lx.u8s l)=(if dv a l≤18446744073709551615 then .ok (dv a l).toNat else .range)
 |[],a,_,ha=>by
  show Lib.NumEnd.ok a=_;rw[as0 (by simp only[dv,List.foldl_nil];omega)];simp[dv]
 |c::l,a,h,ha=>by
  have hc:=h c (ap7 ..);have hd:=dig hc
  have hl:=fun x hx=>h x (ap6 _ hx)
  have e:=OE hc;have EM:=Em l ((a:Int)*10+(c - 48)) (by omega) hl;have ih:a*10+(c.toNat - 48)≤18446744073709551615→_:=xL l (a*10+(c.toNat - 48)) hl;have e2:((a*10+(c.toNat - 48):Nat):Int)=(a:Int)*10+(c - 48):=(by omega);rw[e2]at ih;show Lib.parseUintM _ a (c.toNat.toUInt8::Lx.u8s l)=_;rw[Lib.parseUintM,e,as0 (by omega),Ls]
  by_cases h1:1844674407370955162≤a
  ·rw[as0 h1,ar1 (by omega)]
  ·rw[ar1 h1]
   by_cases h2:2^64 - 1<a*10+(c.toNat - 48)
   ·rw[as0 h2,ar1 (by omega)]
   ·rw[ar1 h2,ih (by omega)]
theorem HO {l:LI}(hl:∀c∈l,aW c=true)(jj:l≠[])(hn:l.length≤2097152):
  ∃v,Lx.oL (l,10,64,())=some ((bif decide (dv 0 l<9223372036854775808)then dv 0 l else v,decide (dv 0 l<9223372036854775808),()),(),(),(),()):=by
 have EM:=Em l 0 (Int.le_refl 0) hl
 obtain⟨c,r,rfl⟩:∃c r,l=c::r:=by cases l with
  |nil=>exact absurd rfl jj
  |cons c r=>exact⟨c,r,rfl⟩
 have hc:=hl c (ap7 ..);have hd:=dig hc;have e:=OE hc;have hM:=xL (c::r) 0 hl (by decide);have hB:Lib.parseUintB 64 (Lx.u8s (c::r))=_:=(show Lib.parseUintB 64 (Lx.u8s (c::r))=Lib.parseUintM (2^64 - 1) 0 (Lx.u8s (c::r))by unfold Lib.parseUintB;rw[ar1 (by simp[Lx.u8s])]).trans hM
 have hI:Lib.parseIntB 64 (Lx.u8s (c::r))=if dv 0 (c::r)<9223372036854775808 then .ok (dv 0 (c::r))else .range:=by
  show Lib.parseIntB 64 (c.toNat.toUInt8::Lx.u8s r)=_;unfold Lib.parseIntB;simp only[e];rw[ar1 (show¬ (c.toNat=43∨c.toNat=45)by omega)];have hB:Lib.parseUintB 64 (c.toNat.toUInt8::Lx.u8s r)=_:=hB;rw[hB]
  by_cases h1:dv 0 (c::r)≤18446744073709551615
  ·have Jz:dv ((0:Nat):Int) (c::r)≤18446744073709551615:=h1;rw[as0 Jz];show(if¬ (c.toNat=45)∧2^(64 - 1)≤(dv 0 (c::r)).toNat then Lib.NumEnd.range else _)=_
   by_cases h2:dv 0 (c::r)<9223372036854775808
   ·rw[ar1 (by omega),ar1 (by omega),ar1 (by omega),as0 h2]
    congr 1
    show((dv 0 (c::r)).toNat:Int)=_;omega
   ·rw[as0 (by constructor<;>omega),ar1 h2]
  ·have Jz:¬ dv ((0:Nat):Int) (c::r)≤18446744073709551615:=h1;rw[ar1 Jz,ar1 (by omega)]
 unfold Lx.oL;rw[show(decide ((10:Int)=10)&&decide ((64:Int)=64)&&fits (c::r).length)=true by rw[dY (show(c::r).length≤lim by unfold lim;omega)];rfl,ap3];simp only[hI]
 by_cases h2:dv 0 (c::r)<9223372036854775808
 ·rw[as0 h2,show decide (dv 0 (c::r)<9223372036854775808)=true from an8 h2];exact⟨0,rfl⟩
 ·rw[ar1 h2,show decide (dv 0 (c::r)<9223372036854775808)=false from an6 h2];exact⟨Lib.intSat 64 (Lx.u8s (c::r)),rfl⟩
theorem chk {ρ:Type}{s:LI}{j:Nat}{c:Int}(hc:c≠0){A B:Option ρ}:brk (decide ((j:Int)<(s.length:Int))) (brk (decide ((0:Int)≤(j:Int))&&decide ((j:Int)<(s.length:Int))) (brk (decide (s.getD (j:Int).toNat 0=c)) A B) none) B=brk (decide (get s j=c)) A B:=by
 by_cases h:j<s.length
 ·rw[ad (by simpa using h),ad (al h)];rfl
 ·rw[az (by simpa using h),az (by rw[hD (by omega)];simpa using(Ne.symm hc))]
def ko (s:LI)(i j:Nat)(ZD:Bool):ak.den:=
 bif ZD|| !decide (dv 0 (bK s i j)<9223372036854775808)then(3,(i:Int),(j:Int),0,0,bK s i j,())else(2,(i:Int),(j:Int),0,dv 0 (bK s i j),([]:LI),())
def digits (s:LI)(i j:Nat):Prop:=∀c∈bK s i j,aW c=true
variable{s:LI}(hs:s.length≤2097152)
include hs
theorem qP {i j w:Nat}(Ng:i<j)(hj:j≤s.length)(hd:j=w→digits s i j):
  Evt fun n=>fD (S.tab n) s ↑i (2,(i:Int),0,0,0,([]:LI),()) ↑j (w:Int)=some (Sum.inl (ko s i j (!decide (j=w)),false,())):=by
 refine aD.up fun n hb=> ?_
 have Np:=eD (n:=s.length) (i:=i) (e:=j) (by omega) hj;rw[ye,ad Np,od]
 by_cases h:j=w
 ·rw[ad (by simp only[ao1];omega)];obtain⟨v,hv⟩:=HO (hd h) (fun e=>by have:=congrArg List.length e;rw[kU hj]at this;simp at this;omega) (by rw[kU hj];omega);rw[hv];simp only[an7];unfold ko;rw[show decide (j=w)=true from an8 h]
  cases decide (dv 0 (bK s i j)<9223372036854775808)with
  |true=>rw[ad rfl];rfl
  |false=>rw[az rfl,ad Np];rfl
 ·rw[az (by simp only[ao5];omega),ad Np];unfold ko;rw[show decide (j=w)=false from an6 h];rfl
omit hs in
theorem zj (t:ak.den)(ht:t.1=3)(t4:ak.den)(j v k:Int):Evt fun n=>bT (S.tab n) s t t4 j v k=some (Sum.inl (s,t,t4,j,v,())):=by
 refine aD.up fun n hb=> ?_
 rw[fQ]
 cases h:decide (k<j)with
 |false=>rw[az rfl]
 |true=>rw[ad rfl,az (by rw[ht];rfl)]
theorem uj {i j:Nat}(hj:j≤s.length)(r:Int×Int×Int×Int×LI×Unit)(t4:ak.den):∀(d k:Nat),k+d=j→i≤k→digits s i j→dv 0 (bK s i k)<9223372036854775808→digits s i k→
  Evt fun n=>∃v,bT (S.tab n) s (2,r) t4 ↑j (dv 0 (bK s i k)) (k:Int)=some (Sum.inl (s,(bif decide (dv 0 (bK s i j)<9223372036854775808)then 2 else 3,r),t4,(j:Int),v,()))∧(dv 0 (bK s i j)<9223372036854775808→v=dv 0 (bK s i j))
 |0,k,e,hk,hd,hv,Na=>by
  obtain rfl:k=j:=by omega
  refine aD.up fun n hb=>⟨_, ?_,fun _=>rfl⟩
  rw[fQ,az (by simp),an8 hv];rfl
 |d+1,k,e,hk,hd,hv,Na=>by
  have Pu:k<s.length:=(by omega)
  have hc:aW (get s k)=true:=by
   refine hd _ ?_;obtain⟨m,rfl⟩:∃m,j=k+1+m:=⟨j - (k+1),by omega⟩;clear hd;unfold bK get;rw[List.mem_iff_getElem?];refine⟨k - i, ?_⟩;rw[List.getElem?_drop,List.getElem?_take,as0 (by omega),ap9];rw[show i+(k - i)=k by omega,ap8 Pu];rfl
  have WW:=dig hc;have h0:=Em (bK s i k) 0 (Int.le_refl 0) Na;have Nu:bK s i (k+1)=bK s i k++[get s k]:=mm hk Pu
  have T8:digits s i (k+1):=by
   intro x hx;rw[Nu]at hx
   rcases aq6.1 hx with hx|hx
   ·exact Na x hx
   ·have:x=get s k:=(by simpa using hx);rw[this];exact hc
  have Uw:dv 0 (bK s i (k+1))=dv 0 (bK s i k)*10+(get s k - 48):=(by rw[Nu,Qz])
  have hmono:dv 0 (bK s i (k+1))≤dv 0 (bK s i j):=by
   have e1:bK s i j=bK s i (k+1)++bK s (k+1) j:=by
    unfold bK
    have:(s.take j)=s.take (k+1)++(s.take j).drop (k+1):=by
     conv=>lhs;rw[←List.take_append_drop (k+1) (s.take j)]
     rw[List.take_take,Nat.min_eq_left (by omega)]
    conv=>lhs;rw[this]
    rw[List.drop_append_of_le_length (by simp;omega)]
   rw[e1];have:=Em (bK s (k+1) j) (dv 0 (bK s i (k+1))) (Em _ 0 (Int.le_refl 0) T8) (fun c hc=>hd c (by rw[e1];exact ar0 _ hc));unfold dv at this⊢;rw[List.foldl_append];exact this
  have over:¬ dv 0 (bK s i (k+1))<9223372036854775808→∀v:Int,Evt fun n=>∃v',bT (S.tab n) s (3,r) t4 ↑j v ((k+1:Nat):Int)=some (Sum.inl (s,(bif decide (dv 0 (bK s i j)<9223372036854775808)then 2 else 3,r),t4,(j:Int),v',()))∧(dv 0 (bK s i j)<9223372036854775808→v'=dv 0 (bK s i j)):=fun h v=>by
   refine(zj (s:=s) (3,r) rfl t4 j v ((k+1:Nat):Int)).mono fun n h'=>⟨v, ?_,fun h2=>by omega⟩
   rw[h',an6 (show¬ dv 0 (bK s i j)<9223372036854775808 by omega)];rfl
  have w1:u8.wrap (get s k - 48)=get s k - 48:=zL _ (by omega) (by omega);have w2:i64.wrap ((k:Int)+1)=((k+1:Nat):Int):=bD (by omega);have So:decide (((2,r):ak.den).1=2)=true:=rfl
  have iO:decide ((k:Int)<(j:Int))=true:=by simp only[ao1];omega
  by_cases h1:922337203685477580<dv 0 (bK s i k)
  ·refine(over (by omega) (u64.wrap (u64.wrap (dv 0 (bK s i k)*10)+u64.wrap (u8.wrap (get s k - 48))))).up fun n h=> ?_
   show∃v,bT (S.step (S.tab n)) _ _ _ _ _ _=_∧_;rw[fQ,ad iO,ad So,aL h1,ad (al Pu),aF,w2];exact h
  ·by_cases h2:dv 0 (bK s i k)=922337203685477580
   ·by_cases h3:55<get s k
    ·refine(over (by omega) (u64.wrap (u64.wrap (dv 0 (bK s i k)*10)+u64.wrap (u8.wrap (get s k - 48))))).up fun n h=> ?_
     show∃v,bT (S.step (S.tab n)) _ _ _ _ _ _=_∧_;rw[fQ,ad iO,ad So,aH h1,aL h2,ad (al Pu),aF,aL h3,ad (al Pu),w2];exact h
    ·have ih:=uj hj r t4 d (k+1) (by omega) (by omega) hd (by omega) T8
     refine ih.up fun n h=> ?_
     show∃v,bT (S.step (S.tab n)) _ _ _ _ _ _=_∧_;rw[fQ,ad iO,ad So,aH h1,aL h2,ad (al Pu),aF,aH h3,ad (al Pu),w2,w1];rw[uY (_*10) (by omega) (by omega),uY (get s k - 48) (by omega) (by omega),uY _ (by omega) (by omega),←Uw];exact h
   ·have ih:=uj hj r t4 d (k+1) (by omega) (by omega) hd (by omega) T8
    refine ih.up fun n h=> ?_
    show∃v,bT (S.step (S.tab n)) _ _ _ _ _ _=_∧_;rw[fQ,ad iO,ad So,aH h1,aH h2,ad (al Pu),aF,w2,w1];rw[uY (_*10) (by omega) (by omega),uY (get s k - 48) (by omega) (by omega),uY _ (by omega) (by omega),←Uw];exact h
omit hs in
theorem zd {i j:Nat}(Ng:i<j)(hj:j≤s.length)(t4:ak.den):
  Evt fun n=>dV (S.tab n) s (3,(i:Int),0,0,0,([]:LI),()) t4 (j:Int)=some (Sum.inl (ko s i j true, -1,())):=by
 have hl:=zj (s:=s) (3,(i:Int),(j:Int),0,0,([]:LI),()) rfl t4 j 0 i
 refine hl.up fun n h=> ?_
 rw[pk];simp only;rw[h];simp only[an7,aN,aq0];rw[ad (by simp),ad (eD (by omega) hj)];rfl
theorem Gp {i j:Nat}(Ng:i<j)(hj:j≤s.length)(t4:ak.den)(hd:digits s i j):
  Evt fun n=>dV (S.tab n) s (2,(i:Int),0,0,0,([]:LI),()) t4 (j:Int)=some (Sum.inl (ko s i j false, -1,())):=by
 have hl:=uj hs hj ((i:Int),(j:Int),0,0,([]:LI),()) t4 (j - i) i (by omega) (by omega) hd (by rw[l8];decide) (by intro c hc;rw[l8]at hc;cases hc);rw[l8]at hl;have h0:=Em (bK s i j) 0 (Int.le_refl 0) hd
 refine hl.up fun n ⟨v,h,hv⟩=> ?_
 rw[pk];simp only;have h:bT (S.tab n) s (2,(i:Int),(j:Int),0,0,([]:LI),()) t4 ↑j 0 (i:Int)=_:=h;rw[h];simp only[an7,aN,aq0];unfold ko;rw[ap0]
 cases iO:decide (dv 0 (bK s i j)<9223372036854775808)with
 |true=>
  rw[ao1]at iO;rw[az (by rfl),hv iO,wrap64 _ (by omega) (by omega)];rfl
 |false=>
  rw[ad (by rfl),ad (eD (by omega) hj)];rfl
end Go.Abs.D
end

section
namespace Go.Abs.D
def ma (s:LI)(j:Nat):Nat:=bif decide (get s (j+1)=43)||decide (get s (j+1)=45)then j+2 else j+1
def uO (s:LI)(i j:Nat)(ZD:Bool):Nat⊕ak.den:=
 bif decide (get s j=101)then bif aW (get s (ma s j))then .inr (ko s i (oq s (ma s j)) true)else .inl (ma s j)else .inr (ko s i j ZD)
def uL (s:LI)(i j:Nat):Nat⊕ak.den:=
 bif decide (get s j=46)&&aW (get s (j+1))then uO s i (oq s (j+1)) true else uO s i j false
def jT (s:LI)(i:Nat):Nat⊕ak.den:=
 bif decide (get s i=48)&&decide (get s (i+1)=120)then jl s i else uL s i (bif decide (get s i=48)then i+1 else oq s (i+1))
theorem o9 {s:LI}{j:Nat}(h:j≤s.length):oq s j≤s.length:=s5 oR _ _ h
theorem pa (s:LI)(j:Nat):j≤oq s j:=qB _ _
theorem jh {s:LI}{j:Nat}{c:Int}(h:get s j=c)(hc:c≠0):j<s.length:=by
 rcases Nat.lt_or_ge j s.length with h'|h'
 ·exact h'
 ·rw[hD h']at h;exact absurd h.symm hc
theorem pz {s:LI}{j:Nat}(h:aW (get s j)=true):j<s.length:=by
 rcases Nat.lt_or_ge j s.length with h'|h'
 ·exact h'
 ·rw[hD h']at h;cases h
theorem Dk {s:LI}{i j:Nat}(h:j≤s.length)(hi:i≤j)(hd:digits s i j):digits s i (oq s j):=by
 have hle:=o9 h;have EM:=pa s j;obtain⟨m,hm⟩:∃m,oq s j=i+m:=⟨oq s j - i,by omega⟩;intro c hc;rw[hm]at hc;refine D7 (p:=aW) (a:=i) m (by omega) (fun k h1 h2=> ?_) c hc
 rcases Nat.lt_or_ge k j with h3|h3
 ·refine hd _ ?_;unfold bK get;rw[List.mem_iff_getElem?];refine⟨k - i, ?_⟩;rw[List.getElem?_drop,List.getElem?_take,as0 (by omega),ap9];rw[show i+(k - i)=k by omega,ap8 (by omega)];rfl
 ·exact n9 (q:=dq s) s.length j k h3 (by show k<oq s j;omega)
variable{s:LI}(hs:s.length≤2097152)
include hs
theorem HV {i k w:Nat}(hi:i≤2097152)(hk:k≤s.length):Evt fun n=>iI (S.tab n) s ↑i (2,(i:Int),0,0,0,([]:LI),()) ↑k (w:Int)=
  some (bif aW (get s k)then Sum.inr (Sum.inl (s,(i:Int),(2,(i:Int),0,0,0,([]:LI),()),(oq s k:Int),(w:Int),()))else Sum.inl ((2,(i:Int),(k:Int),0,0,([]:LI),()),true,())):=by
 refine((ya hs ↑i (2,(i:Int),0,0,0,([]:LI),()) ↑w k).and aD).up fun n ⟨h,hb⟩=> ?_
 rw[yj]
 by_cases hl:k<s.length
 ·rw[az (by simp only[ao5];omega),ad (al hl),aF,hb.idigit,h];simp only[an7,aN,aq0]
  cases aW (get s k)with
  |true=>rw[az (by rfl)];rfl
  |false=>rw[ad (by rfl)];rfl
 ·rw[ad (by simp only[ao1];omega),hD (by omega)];rfl
theorem Bz {i j w:Nat}(Ng:i<w)(hw:w≤j)(hj:j≤s.length)(hd:j=w→digits s i j):
  Evt fun n=>∃t' b,fE (S.tab n) s ↑i (2,(i:Int),0,0,0,([]:LI),()) ↑j (w:Int)=some (Sum.inl (t',b,()))∧IR k23 (uO s i j (!decide (j=w))) t' b:=by
 have e1:i64.wrap ((j:Int)+1)=((j+1:Nat):Int):=bD (by omega);have e2:i64.wrap (((j+1:Nat):Int)+1)=((j+2:Nat):Int):=bD (by omega)
 by_cases he:get s j=101
 ·have Vq:=jh he (by decide)
  have Pu:ma s j≤s.length:=by
   unfold ma
   by_cases h:get s (j+1)=43
   ·have:=jh h (by decide);rw[an8 h];simp only[ap4,ap3];omega
   ·by_cases h':get s (j+1)=45
    ·have:=jh h' (by decide);rw[an8 h'];simp only[ap5,ap3];omega
    ·rw[an6 h,an6 h'];simp only[ap2,ao8];omega
  have ae5:j<ma s j:=by unfold ma;cases decide (get s (j+1)=43)||decide (get s (j+1)=45)<;>simp
  have key:∀T,fE (S.step T) s ↑i (2,(i:Int),0,0,0,([]:LI),()) ↑j (w:Int)=(iI T s ↑i (2,(i:Int),0,0,0,([]:LI),()) (ma s j:Int) ↑w).bind (bw (fun mT=>some (Sum.inl mT)) (fun mT=>(fD T mT.1 mT.2.1 mT.2.2.1 mT.2.2.2.1 mT.2.2.2.2.1).bind (aN (fun Jl=>some (Sum.inl Jl))))):=fun T=>by
   rw[rj,chk (by decide),aL he,e1,e2];unfold ma
   by_cases hl:j+1<s.length
   ·rw[ad (by simp only[ao1];omega),ad (al hl),ad (al hl),aF]
    by_cases h:get s (j+1)=43
    ·rw[aL h,an8 h];rfl
    ·rw[aH h,an6 h]
     by_cases h':get s (j+1)=45
     ·rw[aL h',an8 h'];rfl
     ·rw[aH h',an6 h'];rfl
   ·rw[az (by simp only[ao5];omega),hD (by omega)];rfl
  have hex:uO s i j (!decide (j=w))=bif aW (get s (ma s j))then .inr (ko s i (oq s (ma s j)) true)else .inl (ma s j):=by
   unfold uO;rw[an8 he];rfl
  have ag9:=HV hs (i:=i) (w:=w) (by omega) Pu;have EM:=pa s (ma s j);have al5:=qP hs (i:=i) (j:=oq s (ma s j)) (w:=w) (by omega) (o9 Pu) (fun e=>by omega)
  refine(ag9.and al5).up fun n ⟨h,h'⟩=> ?_
  show∃t' b,fE (S.step (S.tab n)) _ _ _ _ _=_∧_;rw[key,h,hex]
  cases WW:aW (get s (ma s j))with
  |true=>
   simp only[ap3,an7,bw,aq9,aq0];rw[h',an6 (show¬ oq s (ma s j)=w by omega)]
   first|exact⟨_,_,rfl,rfl,rfl⟩|exact⟨_,_,rfl,rfl,rfl,rfl⟩
  |false=>
   simp only[ao8,an7,bw,aq0]
   first|exact⟨_,_,rfl,rfl,rfl⟩|exact⟨_,_,rfl,rfl,rfl,rfl⟩
 ·have hex:uO s i j (!decide (j=w))= .inr (ko s i j (!decide (j=w))):=by
   unfold uO;rw[an6 he];rfl
  refine(qP hs (by omega) hj hd).up fun n h=> ?_
  show∃t' b,fE (S.step (S.tab n)) _ _ _ _ _=_∧_;rw[rj,chk (by decide),aH he,h,hex]
  first|exact⟨_,_,rfl,rfl,rfl⟩|exact⟨_,_,rfl,rfl,rfl,rfl⟩
theorem Bh {i j:Nat}(Ng:i<j)(hj:j≤s.length)(hd:digits s i j):
  Evt fun n=>∃t' b,eO (S.tab n) s ↑i (2,(i:Int),0,0,0,([]:LI),()) (j:Int)=some (Sum.inl (t',b,()))∧IR k23 (uL s i j) t' b:=by
 have e1:i64.wrap ((j:Int)+1)=((j+1:Nat):Int):=bD (by omega)
 by_cases hf:get s j=46∧aW (get s (j+1))=true
 ·have hl:=pz hf.2;have EM:=pa s (j+1);have hle:=o9 (s:=s) (j:=j+1) (by omega);have TW:=xZ hs ↑i (2,(i:Int),0,0,0,([]:LI),()) ↑j (j+1);have So:=Bz hs (i:=i) (j:=oq s (j+1)) (w:=j) Ng (by omega) hle (fun e=>by omega)
  refine((TW.and So).and aD).up fun n ⟨⟨h,t',b,h',hr⟩,hb⟩=> ?_
  show∃t' b,eO (S.step (S.tab n)) _ _ _ _=_∧_;rw[rB,e1,ad (by simp only[ao1];omega),ad (al (show j<s.length by omega)),aF,ad (an8 hf.1),ad (al hl),aF,hb.idigit,hf.2];simp only[an7];rw[ad rfl,h];simp only[an7,aN,aq0];rw[h'];refine⟨t',b,rfl, ?_⟩;rw[an6 (show¬ oq s (j+1)=j by omega)]at hr;unfold uL;rw[an8 hf.1,hf.2];exact hr
 ·have ah5:uL s i j=uO s i j (!decide (j=j)):=by
   unfold uL;rw[an8 (show j=j from rfl)]
   by_cases h:get s j=46
   ·have:aW (get s (j+1))=false:=by
     cases hx:aW (get s (j+1))with
     |true=>exact absurd ⟨h,hx⟩ hf
     |false=>rfl
    rw[this,ao7];rfl
   ·rw[an6 h];rfl
  have So:=Bz hs (i:=i) (j:=j) (w:=j) Ng (by omega) hj (fun _=>hd);rw[ah5]
  refine(So.and aD).up fun n ⟨⟨t',b,h',hr⟩,hb⟩=> ?_
  show∃t' b,eO (S.step (S.tab n)) _ _ _ _=_∧_;refine⟨t',b, ?_,hr⟩;rw[rB,e1]
  by_cases hl:j+1<s.length
  ·rw[ad (by simp only[ao1];omega),ad (al (show j<s.length by omega)),aF]
   by_cases h:get s j=46
   ·have:aW (get s (j+1))=false:=by
     cases hx:aW (get s (j+1))with
     |true=>exact absurd ⟨h,hx⟩ hf
     |false=>rfl
    rw[aL h,ad (al hl),aF,hb.idigit,this];simp only[an7];rw[az rfl,h'];rfl
   ·rw[aH h,h'];rfl
  ·rw[az (by simp only[ao5];omega),h'];rfl
omit hs in
theorem uy {i:Nat}(hi:i<s.length)(h:aW (get s i)=true):digits s i (i+1):=by
 intro c hc;rw[mm (aq2 _) hi,l8]at hc;have:c=get s i:=(by simpa using hc);rw[this];exact h
theorem Db {i:Nat}(hi:i<s.length)(hd:aW (get s i)=true):Evt fun n=>∃t' b,nE (S.tab n) s (i:Int)=some ((t',b,()),ab)∧IR k23 (jT s i) t' b:=by
 by_cases h0:get s i=48
 ·by_cases hx:get s (i+1)=120
  ·have hl:=jh hx (by decide)
   have:jT s i=jl s i:=by unfold jT;rw[an8 h0,an8 hx];rfl
   rw[this];exact BY hs (by omega) h0 hx
  ·have e:jT s i=uL s i (i+1):=by unfold jT;rw[an8 h0,an6 hx];rfl
   rw[e];have e1:i64.wrap ((i:Int)+1)=((i+1:Nat):Int):=bD (by omega)
   refine(Bh hs (i:=i) (j:=i+1) (by omega) (by omega) (uy hi hd)).up fun n ⟨t',b,h',hr⟩=>⟨t',b, ?_,hr⟩
   rw[nW,e1,ad (al hi),aF,aL h0]
   by_cases hl:i+1<s.length
   ·rw[ad (by simp only[ao1];omega),ad (al hl),aF,aH hx,ad (al hi),az (by rw[an8 h0];rfl),h'];rfl
   ·rw[az (by simp only[ao5];omega),ad (al hi),az (by rw[an8 h0];rfl),h'];rfl
 ·have e:jT s i=uL s i (oq s (i+1)):=by unfold jT;rw[an6 h0];rfl
  rw[e];have e1:i64.wrap ((i:Int)+1)=((i+1:Nat):Int):=bD (by omega);have EM:=pa s (i+1);have hle:=o9 (s:=s) (j:=i+1) (by omega);have TY:=yc hs ↑i (2,(i:Int),0,0,0,([]:LI),()) (i+1)
  refine(TY.and (Bh hs (i:=i) (j:=oq s (i+1)) (by omega) hle (Dk (by omega) (by omega) (uy hi hd)))).up fun n ⟨h,t',b,h',hr⟩=>⟨t',b, ?_,hr⟩
  rw[nW,e1,ad (al hi),aF,aH h0,ad (al hi),ad (by rw[an6 h0];rfl),h];simp only[an7,aN,aq0];rw[h'];rfl
theorem vV {i j:Nat}(f:Bool)(Ng:i<j)(hj:j≤s.length)(t4:ak.den)(hd:f=false→digits s i j):
  Evt fun n=>∃t' b,cU (S.tab n) s (bif f then 3 else 2,(i:Int),0,0,0,([]:LI),()) t4 (j:Int)=some (Sum.inl (t',b,()))∧SR k23 (uO s i j f) t' b:=by
 have e1:i64.wrap ((j:Int)+1)=((j+1:Nat):Int):=bD (by omega);have e2:i64.wrap (((j+1:Nat):Int)+1)=((j+2:Nat):Int):=bD (by omega)
 by_cases he:get s j=101
 ·have Vq:=jh he (by decide)
  have ae5:j<ma s j:=by unfold ma;cases decide (get s (j+1)=43)||decide (get s (j+1)=45)<;>simp
  have hex:uO s i j f=bif aW (get s (ma s j))then .inr (ko s i (oq s (ma s j)) true)else .inl (ma s j):=by
   unfold uO;rw[an8 he];rfl
  have key:∀n,Base2 (S.tab n)→cU (S.step (S.tab n)) s (bif f then 3 else 2,(i:Int),0,0,0,([]:LI),()) t4 (j:Int)=
    brk (!aW (get s (ma s j))) (some (Sum.inl ((3,(i:Int),0,0,0,([]:LI),()),(ma s j:Int),()))) ((cT (S.tab n) s (3,(i:Int),0,0,0,([]:LI),()) t4 (ma s j:Int)).bind (aN (fun wT=>(dV (S.tab n) wT.1 wT.2.1 wT.2.2.1 wT.2.2.2.1).bind (aN (fun Mj=>some (Sum.inl Mj)))))):=fun n hb=>by
   rw[po,hb.look];simp only[an7];rw[aL he,e1,e2,hb.look];simp only[an7];unfold ma
   by_cases h':get s (j+1)=45
   ·rw[aL h',an8 h',ap5,hb.look];simp only[an7,hb.sdigit,ap3]
   ·rw[aH h',an6 h',ap2]
    by_cases h:get s (j+1)=43
    ·rw[aL h,an8 h,hb.look];simp only[an7,hb.sdigit,ap3]
    ·rw[aH h,an6 h];simp only[an7,hb.sdigit,ao8]
  cases WW:aW (get s (ma s j))with
  |true=>
   have hl:=pz WW;have EM:=pa s (ma s j);have aj3:=vH hs (3,(i:Int),0,0,0,([]:LI),()) t4 (ma s j);have Hm:=zd (s:=s) (i:=i) (j:=oq s (ma s j)) (by omega) (o9 (by omega)) t4
   refine((aj3.and Hm).and aD).up fun n ⟨⟨h,h'⟩,hb⟩=> ?_
   show∃t' b,cU (S.step (S.tab n)) _ _ _ _=_∧_;rw[key n hb,hex,WW,az (by rfl),h];simp only[ap3,an7,aN,aq0];rw[h']
   first|exact⟨_,_,rfl,rfl,rfl⟩|exact⟨_,_,rfl,rfl,rfl,rfl⟩
  |false=>
   refine aD.up fun n hb=> ?_
   show∃t' b,cU (S.step (S.tab n)) _ _ _ _=_∧_;rw[key n hb,hex,WW,ad (by rfl)];exact⟨_,_,rfl,rfl,rfl⟩
 ·have hex:uO s i j f= .inr (ko s i j f):=by
   unfold uO;rw[an6 he];rfl
  have Hm:Evt fun n=>dV (S.tab n) s (bif f then 3 else 2,(i:Int),0,0,0,([]:LI),()) t4 (j:Int)=some (Sum.inl (ko s i j f, -1,())):=by
   cases f with
   |true=>exact zd (s:=s) Ng hj t4
   |false=>exact Gp hs Ng hj t4 (hd rfl)
  refine(Hm.and aD).up fun n ⟨h,hb⟩=> ?_
  show∃t' b,cU (S.step (S.tab n)) _ _ _ _=_∧_;rw[po,hb.look];simp only[an7];rw[aH he,h,hex]
  first|exact⟨_,_,rfl,rfl,rfl⟩|exact⟨_,_,rfl,rfl,rfl,rfl⟩
theorem DB {i j:Nat}(Ng:i<j)(hj:j≤s.length)(t4:ak.den)(hd:digits s i j):
  Evt fun n=>∃t' b,eT (S.tab n) s (2,(i:Int),0,0,0,([]:LI),()) t4 (j:Int)=some (Sum.inl (t',b,()))∧SR k23 (uL s i j) t' b:=by
 have e1:i64.wrap ((j:Int)+1)=((j+1:Nat):Int):=bD (by omega)
 by_cases h:get s j=46
 ·cases hx:aW (get s (j+1))with
  |true=>
   have hl:=pz hx;have EM:=pa s (j+1);have hle:=o9 (s:=s) (j:=j+1) (by omega);have tZ:=vu hs (3,(i:Int),0,0,0,([]:LI),()) t4 (j+1);have PR:=vV hs (i:=i) (j:=oq s (j+1)) true (by omega) hle t4 (fun e=>by cases e)
   refine((tZ.and PR).and aD).up fun n ⟨⟨h1,t',b,h2,hr⟩,hb⟩=>⟨t',b, ?_, ?_⟩
   ·show eT (S.step (S.tab n)) _ _ _ _=_;rw[mB,hb.look];simp only[an7];rw[aL h,e1,hb.look];simp only[an7,hb.sdigit,hx];rw[ad rfl,h1];simp only[an7,aN,aq0];rw[show((3:Int),(i:Int),(0:Int),(0:Int),(0:Int),([]:LI),())=(bif true then 3 else 2,(i:Int),0,0,0,([]:LI),())from rfl,h2];rfl
   ·unfold uL;rw[an8 h,hx];exact hr
  |false=>
   have PR:=vV hs (i:=i) (j:=j) false Ng hj t4 (fun _=>hd)
   refine(PR.and aD).up fun n ⟨⟨t',b,h2,hr⟩,hb⟩=>⟨t',b, ?_, ?_⟩
   ·show eT (S.step (S.tab n)) _ _ _ _=_;rw[mB,hb.look];simp only[an7];rw[aL h,e1,hb.look];simp only[an7,hb.sdigit,hx];have h2:cU (S.tab n) s (2,(i:Int),0,0,0,([]:LI),()) t4 (j:Int)=_:=h2;rw[az rfl,h2];rfl
   ·unfold uL;rw[hx,ao7];exact hr
 ·have PR:=vV hs (i:=i) (j:=j) false Ng hj t4 (fun _=>hd)
  refine(PR.and aD).up fun n ⟨⟨t',b,h2,hr⟩,hb⟩=>⟨t',b, ?_, ?_⟩
  ·show eT (S.step (S.tab n)) _ _ _ _=_;rw[mB,hb.look];simp only[an7];have h2:cU (S.tab n) s (2,(i:Int),0,0,0,([]:LI),()) t4 (j:Int)=_:=h2;rw[aH h,h2];rfl
  ·unfold uL;rw[an6 h];exact hr
theorem Ay {i:Nat}(hi:i<s.length)(hd:aW (get s i)=true):Evt fun n=>∃t' b,sV (S.tab n) s (0,(i:Int),0,0,0,([]:LI),())=some ((t',b,()),bY)∧SR k23 (jT s i) t' b:=by
 have e1:i64.wrap ((i:Int)+1)=((i+1:Nat):Int):=bD (by omega)
 by_cases h0:get s i=48
 ·by_cases hx:get s (i+1)=120
  ·have hl:=jh hx (by decide)
   have e:jT s i=jl s i:=by unfold jT;rw[an8 h0,an8 hx];rfl
   rw[e]
   refine((BG hs (i:=i) (by omega)).and aD).up fun n ⟨⟨t',b,h,hr⟩,hb⟩=>⟨t',b, ?_,hr⟩
   rw[oF];simp only[e1];rw[ad (al hi),aF,aL h0,hb.look];simp only[an7];rw[aL hx,h];rfl
  ·have e:jT s i=uL s i (i+1):=by unfold jT;rw[an8 h0,an6 hx];rfl
   rw[e]
   refine((DB hs (i:=i) (j:=i+1) (by omega) (by omega) (0,0,0,0,0,([]:LI),()) (uy hi hd)).and aD).up fun n ⟨⟨t',b,h,hr⟩,hb⟩=>⟨t',b, ?_,hr⟩
   rw[oF];simp only[e1];rw[ad (al hi),aF,aL h0,hb.look];simp only[an7];rw[aH hx,ad (al hi),az (by rw[an8 h0];rfl),h];rfl
 ·have e:jT s i=uL s i (oq s (i+1)):=by unfold jT;rw[an6 h0];rfl
  rw[e];have EM:=pa s (i+1);have hle:=o9 (s:=s) (j:=i+1) (by omega);have h7:=xn hs (2,(i:Int),0,0,0,([]:LI),()) (0,0,0,0,0,([]:LI),()) (i+1)
  refine(h7.and (DB hs (i:=i) (j:=oq s (i+1)) (by omega) hle (0,0,0,0,0,([]:LI),()) (Dk (by omega) (by omega) (uy hi hd)))).up fun n ⟨h1,t',b,h,hr⟩=>⟨t',b, ?_,hr⟩
  rw[oF];simp only[e1];rw[ad (al hi),aF,aH h0,ad (al hi),ad (by rw[an6 h0];rfl),h1];simp only[an7,aN,aq0];rw[h];rfl
end Go.Abs.D
end

section
namespace Go.Abs.D
def eZ (s:LI):Nat→Nat→LI→Nat⊕(Nat×LI)
 |0,j,_=> .inl j
 |k+1,j,o=>
  bif decide (s.length≤j)then .inl j else
  bif decide (get s j=10)then .inl j else
  bif decide (get s j=34)then .inr (j+1,o)else
  bif !decide (get s j=92)then eZ s k (j+1) (o++[get s j])else
  bif decide (get s (j+1)=110)then eZ s k (j+2) (o++[10])else
  bif decide (get s (j+1)=116)then eZ s k (j+2) (o++[9])else
  bif decide (get s (j+1)=34)then eZ s k (j+2) (o++[34])else
  bif decide (get s (j+1)=92)then eZ s k (j+2) (o++[92])else
  bif !decide (get s (j+1)=120)then .inl (j+1)else
  bif !gO (get s (j+2))then .inl (j+2)else
  bif !gO (get s (j+3))then .inl (j+3)else
  eZ s k (j+4) (o++[iV (get s (j+2))*16+iV (get s (j+3))])
def Je (i:Nat):Nat⊕(Nat×LI)→Nat⊕ak.den
 | .inl e=> .inl e
 | .inr (e,o)=> .inr (4,(i:Int),(e:Int),0,0,o.map byte,())
def O6 (s:LI)(i:Nat):Nat⊕ak.den:=Je i (eZ s s.length (i+1) [])
variable{s:LI}(hs:s.length≤2097152)
include hs
omit hs in
theorem AG {j:Nat}(h:gO (get s j)=true):j<s.length:=by
 rcases Nat.lt_or_ge j s.length with h'|h'
 ·exact h'
 ·rw[hD h']at h;cases h
omit hs in
theorem VT (t4:ak.den)(o:LI)(j:Nat):Evt fun n=>ml (S.tab n) s t4 o ↑j 4=some (Sum.inr (Sum.inl (s,t4,o,(j:Int),()))):=by
 refine aD.up fun n hb=> ?_
 rw[pQ,az (by decide)]
theorem VV (t4:ak.den)(o:LI)(j:Nat)(hj:j<s.length):Evt fun n=>ml (S.tab n) s t4 o ↑j 3=
  some (bif gO (get s (j+3))then Sum.inr (Sum.inl (s,t4,o,(j:Int),()))else Sum.inl ((t4.1,t4.2.1,((j+3:Nat):Int),t4.2.2.2),true,())):=by
 have e:i64.wrap ((j:Int)+3)=((j+3:Nat):Int):=by rw[wrap64 _ (by omega) (by omega)];omega
 have e4:i64.wrap ((3:Int)+1)=4:=(by decide)
 refine((VT (s:=s) t4 o j).and aD).up fun n ⟨h,hb⟩=> ?_
 rw[pQ,ad (by decide),e,e4,h]
 by_cases hl:j+3<s.length
 ·rw[az (by simp only[ao5];omega),ad (al hl),aF,hb.ihex];simp only[an7]
  cases gO (get s (j+3))with
  |true=>rw[az (by rfl)];rfl
  |false=>rw[ad (by rfl)];rfl
 ·rw[ad (by simp only[ao1];omega),hD (by omega)];rfl
theorem V5 (t4:ak.den)(o:LI)(j:Nat)(hj:j<s.length):Evt fun n=>ml (S.tab n) s t4 o ↑j 2=
  some (bif gO (get s (j+2))then(bif gO (get s (j+3))then Sum.inr (Sum.inl (s,t4,o,(j:Int),()))else Sum.inl ((t4.1,t4.2.1,((j+3:Nat):Int),t4.2.2.2),true,()))else Sum.inl ((t4.1,t4.2.1,((j+2:Nat):Int),t4.2.2.2),true,())):=by
 have e:i64.wrap ((j:Int)+2)=((j+2:Nat):Int):=by rw[wrap64 _ (by omega) (by omega)];omega
 have e3:i64.wrap ((2:Int)+1)=3:=(by decide)
 refine((VV hs t4 o j hj).and aD).up fun n ⟨h,hb⟩=> ?_
 rw[pQ,ad (by decide),e,e3,h]
 by_cases hl:j+2<s.length
 ·rw[az (by simp only[ao5];omega),ad (al hl),aF,hb.ihex];simp only[an7]
  cases gO (get s (j+2))with
  |true=>rw[az (by rfl)];rfl
  |false=>rw[ad (by rfl)];rfl
 ·rw[ad (by simp only[ao1];omega),hD (show s.length≤j+2 by omega)];rfl
omit hs in
theorem Vz (t3 t4:ak.den)(o:LI)(j:Nat):Evt fun n=>iB (S.tab n) s t3 t4 ↑j o 3=some (Sum.inr (Sum.inl (s,t3,t4,(j:Int),o,()))):=by
 refine aD.up fun n hb=> ?_
 rw[lO,az (by decide)]
omit hs in
theorem OU (c:Int):decide (iV c<0)= !gO c:=by
 rw[←nJ]
 by_cases h:0≤iV c
 ·rw[an8 h,an6 (by omega)];rfl
 ·rw[an6 h,an8 (by omega)];rfl
theorem VX (t3 t4:ak.den)(o:LI)(j:Nat)(hj:j≤s.length):Evt fun n=>iB (S.tab n) s t3 t4 ↑j o 2=
  some (bif gO (get s (j+2))then Sum.inr (Sum.inl (s,t3,t4,(j:Int),o,()))else Sum.inl (t3,((j+2:Nat):Int),())):=by
 have e:i64.wrap ((j:Int)+2)=((j+2:Nat):Int):=by rw[wrap64 _ (by omega) (by omega)];omega
 have e3:i64.wrap ((2:Int)+1)=3:=(by decide)
 refine((Vz (s:=s) t3 t4 o j).and aD).up fun n ⟨h,hb⟩=> ?_
 rw[lO,ad (by decide),e,e3,h,hb.look];simp only[an7,hb.shex,OU]
 cases gO (get s (j+2))with
 |true=>rw[az (by rfl)];rfl
 |false=>rw[ad (by rfl)];rfl
theorem VE (t3 t4:ak.den)(o:LI)(j:Nat)(hj:j≤s.length):Evt fun n=>iB (S.tab n) s t3 t4 ↑j o 1=
  some (bif gO (get s (j+1))then(bif gO (get s (j+2))then Sum.inr (Sum.inl (s,t3,t4,(j:Int),o,()))else Sum.inl (t3,((j+2:Nat):Int),()))else Sum.inl (t3,((j+1:Nat):Int),())):=by
 have e:i64.wrap ((j:Int)+1)=((j+1:Nat):Int):=bD (by omega);have e3:i64.wrap ((1:Int)+1)=2:=(by decide)
 refine((VX hs t3 t4 o j hj).and aD).up fun n ⟨h,hb⟩=> ?_
 rw[lO,ad (by decide),e,e3,h,hb.look];simp only[an7,hb.shex,OU]
 cases gO (get s (j+1))with
 |true=>rw[az (by rfl)];rfl
 |false=>rw[ad (by rfl)];rfl
def wH (c:Int):Int:=bif decide (c=110)then 0 else bif decide (c=116)then 1 else bif decide (c=34)then 2 else bif decide (c=92)then 3 else -1
omit hs in
theorem QA (c:Int)(h:isByte c):Bld.idx [110,116,34,92] (byte c) 0=wH c:=by
 rw[LL h];unfold wH;simp only[Bld.idx]
 by_cases h1:c=110
 ·subst h1;rfl
 by_cases h2:c=116
 ·subst h2;rfl
 by_cases h3:c=34
 ·subst h3;rfl
 by_cases h4:c=92
 ·subst h4;rfl
 have e1:=Ne.symm h1;have e2:=Ne.symm h2;have e3:=Ne.symm h3;have e4:=Ne.symm h4;simp[h1,h2,h3,h4,e1,e2,e3,e4]
omit hs in
theorem NN (hb:∀c∈s,isByte c)(j:Nat):isByte (get s j):=by
 rcases Nat.lt_or_ge j s.length with h|h
 ·unfold get;rw[ap9,ap8 h];exact hb _ (as4 h)
 ·rw[hD h];exact⟨by decide,by decide⟩
omit hs in
theorem tJ:Evt fun n=>∀c,isByte c→lE (S.tab n) [110,116,34,92] c=some (wH c,ab):=by
 have h1:Evt fun n=>∀c,isByte c→j5 (S.tab n) [110,116,34,92] c=some (wH c,ab):=aD.up fun n _ c hc=>by
  rw[qJ];unfold Bld.uo;rw[an7,QA c hc]
 exact h1.up fun n h c hc=>by
  rw[vC,h c hc];rfl
omit hs in
theorem Li (a b:Int)(ha:gO a=true)(hb:gO b=true):hv 0 [a,b]=iV a*16+iV b∧0≤iV a*16+iV b∧iV a*16+iV b<256:=by
 have:=qA ha;have:=qA hb;have:=sC a;have:=sC b;refine⟨?_,by omega,by omega⟩;show(0*16+iV a)*16+iV b=_;omega
omit hs in
theorem zy {j:Nat}(h:j+2≤s.length):bK s j (j+2)=[get s j,get s (j+1)]:=by
 rw[show j+2=j+1+1 from rfl,mm (by omega) (by omega),mm (by omega) (by omega),l8];rfl
theorem EZ (yI:∀c∈s,isByte c)(i:Nat):∀(k j:Nat)(o:LI),s.length≤j+k→j≤s.length→o.length≤j→
  Evt fun n=>∃t' b,cj (S.tab n) s (4,(i:Int),0,0,0,([]:LI),()) o (j:Int)=some (Sum.inl (t',b,()))∧IR k4 (Je i (eZ s k j o)) t' b:=by
 intro k
 induction k with
 |zero=>
  intro j o hk hj ho
  refine aD.up fun n hb=> ?_
  show∃t' b,cj (S.step (S.tab n)) _ _ _ _=_∧_;rw[jy,ad (by simp only[ao1];omega)]
  first|exact⟨_,_,rfl,rfl,rfl⟩|exact⟨_,_,rfl,rfl,rfl,rfl⟩
 |succ k ih=>
  intro j o hk hj ho;have w1:i64.wrap ((j:Int)+1)=((j+1:Nat):Int):=bD (by omega)
  have w2:i64.wrap ((j:Int)+2)=((j+2:Nat):Int):=by rw[wrap64 _ (by omega) (by omega)];omega
  have w4:i64.wrap ((j:Int)+4)=((j+4:Nat):Int):=by rw[wrap64 _ (by omega) (by omega)];omega
  have hf:∀x:Int,fits (o.length+[x].length)=true:=fun x=>dY (by unfold lim;simp only[List.length_singleton];omega)
  by_cases hl:s.length≤j
  ·have hR:eZ s (k+1) j o= .inl j:=by unfold eZ;rw[an8 hl];rfl
   rw[hR]
   refine aD.up fun n hb=> ?_
   show∃t' b,cj (S.step (S.tab n)) _ _ _ _=_∧_;rw[jy,ad (by simp only[ao1];omega)]
   first|exact⟨_,_,rfl,rfl,rfl⟩|exact⟨_,_,rfl,rfl,rfl,rfl⟩
  have u5:j<s.length:=(by omega);have kY:=al u5
  have JD:decide ((s.length:Int)≤(j:Int))=false:=by simp only[ao5];omega
  by_cases c10:get s j=10
  ·have hR:eZ s (k+1) j o= .inl j:=by unfold eZ;rw[an6 hl,an8 c10];rfl
   rw[hR]
   refine aD.up fun n hb=> ?_
   show∃t' b,cj (S.step (S.tab n)) _ _ _ _=_∧_;rw[jy,az JD,ad kY,aF,aL c10]
   first|exact⟨_,_,rfl,rfl,rfl⟩|exact⟨_,_,rfl,rfl,rfl,rfl⟩
  by_cases tW:get s j=34
  ·have hR:eZ s (k+1) j o= .inr (j+1,o):=by unfold eZ;rw[an6 hl,an6 c10,an8 tW];rfl
   rw[hR]
   refine aD.up fun n hb=> ?_
   show∃t' b,cj (S.step (S.tab n)) _ _ _ _=_∧_;rw[jy,az JD,ad kY,aF,aH c10,ad kY,aL tW,w1]
   first|exact⟨_,_,rfl,rfl,rfl⟩|exact⟨_,_,rfl,rfl,rfl,rfl⟩
  by_cases c92:¬ (get s j=92)
  ·have hR:eZ s (k+1) j o=eZ s k (j+1) (o++[get s j]):=by
    conv=>lhs;unfold eZ
    rw[an6 hl,an6 c10,an6 tW,an6 c92];rfl
   rw[hR]
   refine(ih (j+1) (o++[get s j]) (by omega) (by omega) (by simp;omega)).up fun n h=> ?_
   show∃t' b,cj (S.step (S.tab n)) _ _ _ _=_∧_;rw[jy,az JD,ad kY,aF,aH c10,ad kY,aH tW,ad kY,ad (by rw[an6 c92];rfl),ad kY,ad (hf _),w1];exact h
  replace c92:=Decidable.not_not.1 c92
  have start:∀n,cj (S.step (S.tab n)) s (4,(i:Int),0,0,0,([]:LI),()) o (j:Int)=_:=fun n=>by
   rw[jy,az JD,ad kY,aF,aH c10,ad kY,aH tW,ad kY,az (by rw[an8 c92];rfl),w1,w2]
  by_cases oD:¬ (j+1<s.length)
  ·have hR:eZ s (k+1) j o= .inl (j+1):=by
    unfold eZ;rw[an6 hl,an6 c10,an6 tW,an8 c92,hD (show s.length≤j+1 by omega)];rfl
   rw[hR]
   refine aD.up fun n hb=> ?_
   show∃t' b,cj (S.step (S.tab n)) _ _ _ _=_∧_;rw[start,ad (by simp only[ao1];omega)]
   first|exact⟨_,_,rfl,rfl,rfl⟩|exact⟨_,_,rfl,rfl,rfl,rfl⟩
  replace oD:=Decidable.not_not.1 oD
  have P4:=al oD
  have Py:decide ((s.length:Int)≤((j+1:Nat):Int))=false:=by simp only[ao5];omega
  have Nq:=NN yI (j+1)
  have short:∀(x y:Int),get s (j+1)=x→wH x≥0→(decide ((0:Int)≤wH x)&&decide (wH x<4))=true→([10,9,34,92]:LI).getD (wH x).toNat 0=y→eZ s (k+1) j o=eZ s k (j+2) (o++[y])→
    Evt fun n=>∃t' b,cj (S.tab n) s (4,(i:Int),0,0,0,([]:LI),()) o (j:Int)=some (Sum.inl (t',b,()))∧IR k4 (Je i (eZ s (k+1) j o)) t' b:=fun x y hx h0 h4 hy hR=>by
   rw[hR]
   refine((ih (j+2) (o++[y]) (by omega) (by omega) (by simp;omega)).and tJ).up fun n ⟨h,P8⟩=> ?_
   show∃t' b,cj (S.step (S.tab n)) _ _ _ _=_∧_;rw[start,az Py,ad P4,aF,P8 _ Nq,hx];simp only[an7];rw[ad (by simpa using h0),ad h4,hy,ad (hf _)];exact h
  by_cases e110:get s (j+1)=110
  ·refine short 110 10 e110 (by decide) (by decide) (by decide) ?_
   conv=>lhs;unfold eZ
   rw[an6 hl,an6 c10,an6 tW,an8 c92,e110];rfl
  by_cases e116:get s (j+1)=116
  ·refine short 116 9 e116 (by decide) (by decide) (by decide) ?_
   conv=>lhs;unfold eZ
   rw[an6 hl,an6 c10,an6 tW,an8 c92,e116];rfl
  by_cases e34:get s (j+1)=34
  ·refine short 34 34 e34 (by decide) (by decide) (by decide) ?_
   conv=>lhs;unfold eZ
   rw[an6 hl,an6 c10,an6 tW,an8 c92,e34];rfl
  by_cases e92:get s (j+1)=92
  ·refine short 92 92 e92 (by decide) (by decide) (by decide) ?_
   conv=>lhs;unfold eZ
   rw[an6 hl,an6 c10,an6 tW,an8 c92,e92];rfl
  have Xb:wH (get s (j+1))= -1:=by
   unfold wH;rw[an6 e110,an6 e116,an6 e34,an6 e92];rfl
  by_cases e120:¬ (get s (j+1)=120)
  ·have hR:eZ s (k+1) j o= .inl (j+1):=by
    unfold eZ;rw[an6 hl,an6 c10,an6 tW,an8 c92,an6 e110,an6 e116,an6 e34,an6 e92,an6 e120];rfl
   rw[hR]
   refine tJ.up fun n P8=> ?_
   show∃t' b,cj (S.step (S.tab n)) _ _ _ _=_∧_;rw[start,az Py,ad P4,aF,P8 _ Nq,Xb];simp only[an7];rw[az (by decide),ad P4,ad (by rw[an6 e120];rfl)]
   first|exact⟨_,_,rfl,rfl,rfl⟩|exact⟨_,_,rfl,rfl,rfl,rfl⟩
  replace e120:=Decidable.not_not.1 e120
  have hR:eZ s (k+1) j o=bif !gO (get s (j+2))then .inl (j+2)else bif !gO (get s (j+3))then .inl (j+3)else eZ s k (j+4) (o++[iV (get s (j+2))*16+iV (get s (j+3))]):=by
   conv=>lhs;unfold eZ
   rw[an6 hl,an6 c10,an6 tW,an8 c92,e120];rfl
  have Y5:=V5 hs (4,(i:Int),0,0,0,([]:LI),()) o j u5
  have go:∀n,(∀c,isByte c→lE (S.tab n) [110,116,34,92] c=some (wH c,ab))→cj (S.step (S.tab n)) s (4,(i:Int),0,0,0,([]:LI),()) o (j:Int)=_:=fun n P8=>by
   rw[start,az Py,ad P4,aF,P8 _ Nq,Xb,an7,az (by decide),ad P4,az (by rw[an8 e120];rfl)]
  rw[hR]
  cases x2:gO (get s (j+2))with
  |false=>
   refine(Y5.and tJ).up fun n ⟨h,P8⟩=> ?_
   show∃t' b,cj (S.step (S.tab n)) _ _ _ _=_∧_;rw[go n P8,h,x2]
   first|exact⟨_,_,rfl,rfl,rfl⟩|exact⟨_,_,rfl,rfl,rfl,rfl⟩
  |true=>
   cases x3:gO (get s (j+3))with
   |false=>
    refine(Y5.and tJ).up fun n ⟨h,P8⟩=> ?_
    show∃t' b,cj (S.step (S.tab n)) _ _ _ _=_∧_;rw[go n P8,h,x2,x3]
    first|exact⟨_,_,rfl,rfl,rfl⟩|exact⟨_,_,rfl,rfl,rfl,rfl⟩
   |true=>
    have Y7:=AG x3;obtain⟨Yq,vp,hp1⟩:=Li _ _ x2 x3
    have Qo:=ze [get s (j+2),get s (j+3)] 8 (.inl ⟨rfl,by simp⟩) (by simp) (by
     intro c hc
     rcases ar5.1 hc with rfl|hc
     ·exact x2
     ·have:c=get s (j+3):=(by simpa using hc)
      rw[this];exact x3)
    rw[Yq]at Qo;have h2:=ih (j+4) (o++[iV (get s (j+2))*16+iV (get s (j+3))]) (by omega) (by omega) (by simp;omega)
    refine(((Y5.and tJ).and Qo).and h2).up fun n ⟨⟨⟨h,P8⟩,Qo⟩,h2⟩=> ?_
    show∃t' b,cj (S.step (S.tab n)) _ _ _ _=_∧_;rw[go n P8,h,x2,x3];simp only[ap3,an7,bw,aq9,aq0,w2,w4];rw[ad (eD (by omega) (by omega)),od,zy (s:=s) (j:=j+2) (by omega),Qo];simp only[an7];rw[zL _ vp hp1,ad (hf _)];exact h2
end Go.Abs.D
end

section
namespace Go.Abs.D
def LR (r:Nat⊕ak.den)(y:(ak.den×Int×Unit)⊕(ak.den×ak.den×Int×Unit)⊕Empty):Prop:=
 y.elim (fun y=>SR k4 r y.1 y.2.1) fun y=>y.elim (fun y=>SR k4 r y.1 y.2.2.1) Empty.elim
variable{s:LI}(hs:s.length≤2097152)
include hs
theorem DG (t3 t4:ak.den)(j:Nat)(o:LI)(c:Int)(hj:j<s.length)(ho:o.length≤j):Evt fun n=>gq (S.tab n) s t3 t4 ↑j o c true=some (Sum.inl (s,t3,t4,(j:Int),o++[get s j],())):=by
 refine aD.up fun n hb=> ?_
 rw[lQ,ad rfl,ad (al hj),aF,ad (dY (by unfold lim;simp only[List.length_singleton];omega))]
omit hs in
theorem Gb (t3 t4:ak.den)(j:Nat)(o:LI)(c:Int)(hc:c≠120):Evt fun n=>gq (S.tab n) s t3 t4 ↑j o c false=some (Sum.inr (Sum.inl (t3,(j:Int),()))):=by
 refine aD.up fun n hb=> ?_
 rw[lQ,az rfl,aH hc]
theorem J9 (t3 t4:ak.den)(j:Nat)(o:LI)(hj:j≤s.length)(ho:o.length≤j):Evt fun n=>gq (S.tab n) s t3 t4 ↑j o 120 false=
  some (bif gO (get s (j+1))then(bif gO (get s (j+2))then Sum.inl (s,t3,t4,((j+2:Nat):Int),o++[iV (get s (j+1))*16+iV (get s (j+2))],())else Sum.inr (Sum.inl (t3,((j+2:Nat):Int),())))else Sum.inr (Sum.inl (t3,((j+1:Nat):Int),()))):=by
 have w1:i64.wrap ((j:Int)+1)=((j+1:Nat):Int):=bD (by omega)
 have w2:i64.wrap ((j:Int)+2)=((j+2:Nat):Int):=by rw[wrap64 _ (by omega) (by omega)];omega
 refine((VE hs t3 t4 o j hj).and aD).up fun n ⟨h,hb⟩=> ?_
 rw[lQ,az rfl,ad (by rfl),h]
 cases x1:gO (get s (j+1))with
 |false=>rfl
 |true=>
  cases x2:gO (get s (j+2))with
  |false=>rfl
  |true=>
   have ox:=AG x2;obtain⟨_,vp,hp1⟩:=Li _ _ x1 x2;have h0:=qA x1;have SD:=qA x2;have h1:=sC (get s (j+1));have Jz:=sC (get s (j+2));have e1:i64.wrap (16*iV (get s (j+1)))=16*iV (get s (j+1)):=wrap64 _ (by omega) (by omega)
   have e2:i64.wrap (16*iV (get s (j+1))+iV (get s (j+2)))=iV (get s (j+1))*16+iV (get s (j+2)):=by rw[wrap64 _ (by omega) (by omega)];omega
   simp only[ap3,an7,bw,aq9,aq0,w1,w2];rw[ad (al (show j+1<s.length by omega)),aF,hb.shex,an7,ad (al ox),aF,hb.shex,an7];simp only[e1,e2];rw[zL _ vp hp1,ad (dY (by unfold lim;simp only[List.length_singleton];omega))]
theorem E2 (t4:ak.den)(i:Nat):∀(k j:Nat)(o:LI),s.length≤j+k→j≤s.length→o.length≤j→
  Evt fun n=>∃y,aU (S.tab n) s (4,(i:Int),0,0,0,([]:LI),()) t4 ↑j o=some y∧LR (Je i (eZ s k j o)) y:=by
 intro k
 induction k with
 |zero=>
  intro j o hk hj ho
  refine aD.up fun n hb=> ?_
  show∃y,aU (S.step (S.tab n)) _ _ _ _ _=_∧_;rw[gF,az (by simp only[ao5];omega)]
  first|exact⟨_,rfl,rfl,rfl⟩|exact⟨_,rfl,rfl⟩
 |succ k ih=>
  intro j o hk hj ho;have w1:i64.wrap ((j:Int)+1)=((j+1:Nat):Int):=bD (by omega)
  have w2:i64.wrap (((j+1:Nat):Int)+1)=((j+2:Nat):Int):=by rw[wrap64 _ (by omega) (by omega)];omega
  have w4:i64.wrap (((j+1+2:Nat):Int)+1)=((j+4:Nat):Int):=by rw[wrap64 _ (by omega) (by omega)];omega
  have hf:∀x:Int,fits (o.length+[x].length)=true:=fun x=>dY (by unfold lim;simp only[List.length_singleton];omega)
  have XO:fits (o.length+1)=true:=dY (by unfold lim;omega)
  by_cases hl:s.length≤j
  ·have hR:eZ s (k+1) j o= .inl j:=by unfold eZ;rw[an8 hl];rfl
   rw[hR]
   refine aD.up fun n hb=> ?_
   show∃y,aU (S.step (S.tab n)) _ _ _ _ _=_∧_;rw[gF,az (by simp only[ao5];omega)]
   first|exact⟨_,rfl,rfl,rfl⟩|exact⟨_,rfl,rfl⟩
  have u5:j<s.length:=(by omega);have kY:=al u5
  have iO:decide ((j:Int)<(s.length:Int))=true:=by simp only[ao1];omega
  by_cases c10:get s j=10
  ·have hR:eZ s (k+1) j o= .inl j:=by unfold eZ;rw[an6 hl,an8 c10];rfl
   rw[hR]
   refine aD.up fun n hb=> ?_
   show∃y,aU (S.step (S.tab n)) _ _ _ _ _=_∧_;rw[gF,ad iO,ad kY,aF,aH (by omega),aL c10]
   first|exact⟨_,rfl,rfl,rfl⟩|exact⟨_,rfl,rfl⟩
  by_cases tW:get s j=34
  ·have hR:eZ s (k+1) j o= .inr (j+1,o):=by unfold eZ;rw[an6 hl,an6 c10,an8 tW];rfl
   rw[hR]
   refine aD.up fun n hb=> ?_
   show∃y,aU (S.step (S.tab n)) _ _ _ _ _=_∧_;rw[gF,ad iO,ad kY,aF,aL tW,w1]
   first|exact⟨_,rfl,rfl,rfl⟩|exact⟨_,rfl,rfl⟩
  by_cases c92:¬ (get s j=92)
  ·have hR:eZ s (k+1) j o=eZ s k (j+1) (o++[get s j]):=by
    conv=>lhs;unfold eZ
    rw[an6 hl,an6 c10,an6 tW,an6 c92];rfl
   rw[hR]
   refine(ih (j+1) (o++[get s j]) (by omega) (by omega) (by simp;omega)).up fun n h=> ?_
   show∃y,aU (S.step (S.tab n)) _ _ _ _ _=_∧_;rw[gF,ad iO,ad kY,aF,aH tW,aH c10,ad (by rw[an6 c92];rfl),ad (hf _),w1];exact h
  replace c92:=Decidable.not_not.1 c92
  have start:∀n,Base2 (S.tab n)→aU (S.step (S.tab n)) s (4,(i:Int),0,0,0,([]:LI),()) t4 ↑j o=_:=fun n hb=>by
   rw[gF,ad iO,ad kY,aF,aH tW,aH c10,az (by rw[an8 c92];rfl),w1,w2,hb.look,an7]
  by_cases e110:get s (j+1)=110
  ·have oD:=jh e110 (by decide)
   have hR:eZ s (k+1) j o=eZ s k (j+2) (o++[10]):=by
    conv=>lhs;unfold eZ
    rw[an6 hl,an6 c10,an6 tW,an8 c92,e110];rfl
   rw[hR]
   refine((ih (j+2) (o++[10]) (by omega) (by omega) (by simp;omega)).and aD).up fun n ⟨h,hb⟩=> ?_
   show∃y,aU (S.step (S.tab n)) _ _ _ _ _=_∧_;rw[start n hb,aL e110,ad XO];exact h
  by_cases e116:get s (j+1)=116
  ·have oD:=jh e116 (by decide)
   have hR:eZ s (k+1) j o=eZ s k (j+2) (o++[9]):=by
    conv=>lhs;unfold eZ
    rw[an6 hl,an6 c10,an6 tW,an8 c92,e116];rfl
   rw[hR]
   refine((ih (j+2) (o++[9]) (by omega) (by omega) (by simp;omega)).and aD).up fun n ⟨h,hb⟩=> ?_
   show∃y,aU (S.step (S.tab n)) _ _ _ _ _=_∧_;rw[start n hb,aH e110,aL e116,ad XO];exact h
  by_cases e34:get s (j+1)=34
  ·have oD:=jh e34 (by decide)
   have hR:eZ s (k+1) j o=eZ s k (j+2) (o++[34]):=by
    conv=>lhs;unfold eZ
    rw[an6 hl,an6 c10,an6 tW,an8 c92,e34];rfl
   rw[hR];have JA:=DG hs (4,(i:Int),0,0,0,([]:LI),()) t4 (j+1) o (get s (j+1)) oD (by omega)
   refine(((ih (j+2) (o++[34]) (by omega) (by omega) (by simp;omega)).and aD).and JA).up fun n ⟨⟨h,hb⟩,JA⟩=> ?_
   show∃y,aU (S.step (S.tab n)) _ _ _ _ _=_∧_;rw[start n hb,aH e110,aH e116,aL e34];simp only;rw[an8 e34,JA,e34];simp only[an7,bw,aq0,w2];exact h
  by_cases e92:get s (j+1)=92
  ·have oD:=jh e92 (by decide)
   have hR:eZ s (k+1) j o=eZ s k (j+2) (o++[92]):=by
    conv=>lhs;unfold eZ
    rw[an6 hl,an6 c10,an6 tW,an8 c92,e92];rfl
   rw[hR];have JA:=DG hs (4,(i:Int),0,0,0,([]:LI),()) t4 (j+1) o (get s (j+1)) oD (by omega)
   refine(((ih (j+2) (o++[92]) (by omega) (by omega) (by simp;omega)).and aD).and JA).up fun n ⟨⟨h,hb⟩,JA⟩=> ?_
   show∃y,aU (S.step (S.tab n)) _ _ _ _ _=_∧_;rw[start n hb,aH e110,aH e116,aH e34];simp only;rw[an8 e92,JA,e92];simp only[an7,bw,aq0,w2];exact h
  by_cases e120:¬ (get s (j+1)=120)
  ·have hR:eZ s (k+1) j o= .inl (j+1):=by
    unfold eZ;rw[an6 hl,an6 c10,an6 tW,an8 c92,an6 e110,an6 e116,an6 e34,an6 e92,an6 e120];rfl
   rw[hR];have JA:=Gb (s:=s) (4,(i:Int),0,0,0,([]:LI),()) t4 (j+1) o (get s (j+1)) e120
   refine(aD.and JA).up fun n ⟨hb,JA⟩=> ?_
   show∃y,aU (S.step (S.tab n)) _ _ _ _ _=_∧_;rw[start n hb,aH e110,aH e116,aH e34];simp only;rw[an6 e92,JA]
   first|exact⟨_,rfl,rfl,rfl⟩|exact⟨_,rfl,rfl⟩
  replace e120:=Decidable.not_not.1 e120
  have oD:=jh e120 (by decide)
  have hR:eZ s (k+1) j o=bif !gO (get s (j+2))then .inl (j+2)else bif !gO (get s (j+3))then .inl (j+3)else eZ s k (j+4) (o++[iV (get s (j+2))*16+iV (get s (j+3))]):=by
   conv=>lhs;unfold eZ
   rw[an6 hl,an6 c10,an6 tW,an8 c92,e120];rfl
  rw[hR];have JA:=J9 hs (4,(i:Int),0,0,0,([]:LI),()) t4 (j+1) o (by omega) (by omega);have ak3:j+1+1=j+2:=rfl;have af8:j+1+2=j+3:=rfl;rw[ak3,af8]at JA
  have go:∀n,Base2 (S.tab n)→aU (S.step (S.tab n)) s (4,(i:Int),0,0,0,([]:LI),()) t4 ↑j o=(gq (S.tab n) s (4,(i:Int),0,0,0,([]:LI),()) t4 ((j+1:Nat):Int) o 120 false).bind (bw (fun uS=>aU (S.tab n) uS.1 uS.2.1 uS.2.2.1 (i64.wrap (uS.2.2.2.1+(1:Int))) uS.2.2.2.2.1) (fun uS=>some (Sum.inl uS))):=fun n hb=>by
   rw[start n hb,aH e110,aH e116,aH e34];simp only;rw[an6 e92,e120]
  cases x2:gO (get s (j+2))with
  |false=>
   refine(JA.and aD).up fun n ⟨h,hb⟩=> ?_
   show∃y,aU (S.step (S.tab n)) _ _ _ _ _=_∧_;rw[go n hb,h,x2]
   first|exact⟨_,rfl,rfl,rfl⟩|exact⟨_,rfl,rfl⟩
  |true=>
   cases x3:gO (get s (j+3))with
   |false=>
    refine(JA.and aD).up fun n ⟨h,hb⟩=> ?_
    show∃y,aU (S.step (S.tab n)) _ _ _ _ _=_∧_;rw[go n hb,h,x2,x3]
    first|exact⟨_,rfl,rfl,rfl⟩|exact⟨_,rfl,rfl⟩
   |true=>
    have Y7:=AG x3;have h2:=ih (j+4) (o++[iV (get s (j+2))*16+iV (get s (j+3))]) (by omega) (by omega) (by simp;omega)
    refine((JA.and aD).and h2).up fun n ⟨⟨h,hb⟩,h2⟩=> ?_
    show∃y,aU (S.step (S.tab n)) _ _ _ _ _=_∧_;rw[go n hb,h,x2,x3];have w5:i64.wrap (((j+3:Nat):Int)+1)=((j+4:Nat):Int):=w4;simp only[ap3,an7,bw,aq0,w5];exact h2
theorem Ap {i:Nat}(hi:i<s.length):Evt fun n=>∃t' b,oW (S.tab n) s (0,(i:Int),0,0,0,([]:LI),())=some ((t',b,()),bY)∧SR k4 (O6 s i) t' b:=by
 have e1:i64.wrap ((i:Int)+1)=((i+1:Nat):Int):=bD (by omega)
 refine(E2 hs (0,0,0,0,0,([]:LI),()) i s.length (i+1) [] (by omega) (by omega) (by simp)).up fun n ⟨y,h,hr⟩=> ?_
 show∃t' b,oW (S.step (S.tab n)) _ _=_∧_;rw[Ar];simp only[e1];rw[h,an7]
 rcases y with y|y|y
 ·exact⟨y.1,y.2.1,rfl,hr⟩
 ·exact⟨y.1,y.2.2.1,rfl,hr⟩
 ·exact y.elim
end Go.Abs.D
end

section
namespace Go.Abs.D
def ba:List LI:=[[46,46,46],[46,46],[46],[60,60],[60,61],[60],[62,62],[62,61],[62],[61,61],[61],[126,61],[126],[47,47],[47],[40],[41],[123],[125],[91],[93],[44],[59],[35],[43],[45],[42],[37],[38],[124]]
def opsL:List LI:=[[],[43],[45],[42],[47],[47,47],[37],[38],[124],[126],[60,60],[62,62],[46,46],[61,61],[126,61],[60],[60,61],[62],[62,61]]
def fx (k:Nat):LI:=
 bif decide (10≤k)&&decide (k≤31)then Lx.words.getD (k - 10) []else
 bif decide (40≤k)&&decide (k≤50)then Lx.lJ.getD (k - 40) []else
 bif decide (61≤k)&&decide (k≤78)then Lx.uG.getD (k - 61) []else
 bif decide (k=5)then [59]else []
def okF (f:LI):Bool:= !decide (f=[])&& !bE (f.getD 0 0)
def runK (p:LI→Bool):Nat→Nat×Nat→Nat×Nat
 |0,st=>st
 |k+1,st=>runK p k (bif okF (fx (k+1))&&p (fx (k+1))&&decide (st.2<(fx (k+1)).length)then(k+1,(fx (k+1)).length)else st)
def sq (l:List LI)(f:LI)(k:Nat):Bool:=decide (k<l.length)&& !decide (l.getD k []=f)
def sgn (f:LI):Nat:=
 bif decide (stop (sq opsL f) 19 1<19)then 60+stop (sq opsL f) 19 1 else
 bif decide (stop (sq Lx.lJ f) 11 0<11)then 40+stop (sq Lx.lJ f) 11 0 else 5
def pq (p:LI→Bool)(k:Nat):Bool:=decide (k<30)&& !p (ba.getD k [])
def kK (p:LI→Bool):Nat:=stop (pq p) 30 0
def jU (p:LI→Bool):Nat×Nat:=bif decide (kK p<30)then(sgn (ba.getD (kK p) []),(ba.getD (kK p) []).length)else(0,0)
def Hf (a b c:Int):LI→Bool
 |[x]=>decide (a=x)
 |[x,y]=>decide (a=x)&&decide (b=y)
 |[x,y,z]=>decide (a=x)&&decide (b=y)&&decide (c=z)
 |_=>false
def rep (l:LI)(a:Int):Int:=bif l.contains a then a else 0
def lA:LI:=[46,60,62,61,126,47,40,41,123,125,91,93,44,59,35,43,45,42,37,38,124]
def lB:LI:=[46,60,61,62,47]
def lC:LI:=[46]
theorem GF (l:LI)(a:Int):rep l a∈0::l:=by
 unfold rep
 cases h:l.contains a with
 |true=>exact ap6 _ (by simpa using h)
 |false=>exact ap7 ..
theorem KD (l:LI)(a x:Int)(hx:l.contains x=true)(h0:x≠0):decide (rep l a=x)=decide (a=x):=by
 unfold rep
 cases h:l.contains a with
 |true=>rfl
 |false=>
  have:a≠x:=fun e=>by rw[e,hx]at h;cases h
  rw[an6 this,ao8,an6 (fun e=>h0 e.symm)]
theorem yr {p q:LI→Bool}:∀(k:Nat)(st:Nat×Nat),(∀j,j≤k→okF (fx j)=true→p (fx j)=q (fx j))→runK p k st=runK q k st
 |0,st,_=>rfl
 |k+1,st,h=>by
  unfold runK
  have:(okF (fx (k+1))&&p (fx (k+1)))=(okF (fx (k+1))&&q (fx (k+1))):=by
   cases ho:okF (fx (k+1))with
   |true=>rw[h (k+1) (aq2 _) ho]
   |false=>rfl
  rw[this]
  exact yr k _ fun j hj=>h j (by omega)
theorem JW {p q:Nat→Bool}(h:∀j,p j=q j)(k j:Nat):stop p k j=stop q k j:=by
 have:p=q:=funext h;rw[this]
theorem uh {p q:LI→Bool}(h:∀f∈ba,p f=q f):jU p=jU q:=by
 have e:∀j,pq p j=pq q j:=fun j=>by
  unfold pq
  by_cases hj:j<30
  ·rw[h];rw[ap9,ap8 (show j<ba.length from hj)];exact as4 _
  ·rw[an6 hj];rfl
 have:kK p=kK q:=JW e 30 0;unfold jU;rw[this]
theorem RZ:∀j,j≤78→okF (fx j)=true→fx j∈ba:=by
 have h:∀j:Fin 79,okF (fx j)=true→fx j∈ba:=by decide+kernel
 exact fun j hj=>h ⟨j,by omega⟩
theorem IP (a b c:Int):∀f∈ba,Hf a b c f=Hf (rep lA a) (rep lB b) (rep lC c) f:=by
 intro f hf;simp only[ba,ar5,List.not_mem_nil,or_false]at hf
 rcases hf with rfl|rfl|rfl|rfl|rfl|rfl|rfl|rfl|rfl|rfl|rfl|rfl|rfl|rfl|rfl|rfl|rfl|rfl|rfl|rfl|rfl|rfl|rfl|rfl|rfl|rfl|rfl|rfl|rfl|rfl<;>
  simp only[Hf]<;>(first|rw[KD lA a _ (by rfl) (by decide)]|skip)<;>(first|rw[KD lB b _ (by rfl) (by decide)]|skip)<;>(first|rw[KD lC c _ (by rfl) (by decide)]|skip)
theorem Mt (a b c:Int):runK (Hf a b c) 78 (0,0)=jU (Hf a b c):=by
 have h:∀x∈(0::lA),∀y∈(0::lB),∀z∈(0::lC),runK (Hf x y z) 78 (0,0)=jU (Hf x y z):=by decide+kernel
 rw[yr (q:=Hf (rep lA a) (rep lB b) (rep lC c)) 78 (0,0) fun j hj ho=>IP a b c _ (RZ j hj ho),uh (IP a b c)];exact h _ (GF ..) _ (GF ..) _ (GF ..)
end Go.Abs.D
end

section
namespace Go.Abs.D
def pS (s:LI)(i:Nat)(f:LI):Bool:=decide (f.length≤s.length - i)&&decide (bK s i (i+f.length)=f)
def p3 (s:LI)(i:Nat):LI→Bool:=Hf (get s i) (get s (i+1)) (get s (i+2))
theorem FU:Evt fun n=>∀v lo hi,jm (S.tab n) v lo hi=some (decide (lo≤v)&&decide (v≤hi),aP):=aD.up fun n _ v lo hi=>by
 rw[DI]
 cases h:decide (lo≤v)with
 |true=>rw[ad rfl];rfl
 |false=>rw[az rfl];rfl
theorem Im:Evt fun n=>∀k:Nat,k≤78→uv (S.tab n) (k:Int)=some (fx k,aa):=FU.up fun n h k hk=>by
 rw[E3,h,an7];unfold fx
 by_cases h1:10≤k∧k≤31
 ·have e:i64.wrap ((k:Int) - 10)=((k - 10:Nat):Int):=by rw[wrap64 _ (by omega) (by omega)];omega
  rw[ad (by simp only[ao3,ao1];omega),e,ad (al (show k - 10<Lx.words.length by show k - 10<22;omega)),an8 h1.1,an8 h1.2];rfl
 rw[az (by simp only[as6,ao5];omega),h,an7];rw[show(decide (10≤k)&&decide (k≤31))=false by simp only[as6,ao5];omega]
 by_cases h2:40≤k∧k≤50
 ·have e:i64.wrap ((k:Int) - 40)=((k - 40:Nat):Int):=by rw[wrap64 _ (by omega) (by omega)];omega
  rw[ad (by simp only[ao3,ao1];omega),e,ad (al (show k - 40<Lx.lJ.length by show k - 40<11;omega)),an8 h2.1,an8 h2.2];rfl
 rw[az (by simp only[as6,ao5];omega),h,an7];rw[show(decide (40≤k)&&decide (k≤50))=false by simp only[as6,ao5];omega]
 by_cases h3:61≤k∧k≤78
 ·have e:i64.wrap ((k:Int) - 60)=((k - 60:Nat):Int):=by rw[wrap64 _ (by omega) (by omega)];omega
  have e':i64.wrap (((k - 60:Nat):Int) - 1)=((k - 61:Nat):Int):=by rw[wrap64 _ (by omega) (by omega)];omega
  rw[ad (by simp only[ao3,ao1];omega),e,e',ad (al (show k - 61<Lx.uG.length by show k - 61<18;omega)),an8 h3.1,an8 h3.2];rfl
 rw[az (by simp only[as6,ao5];omega)];rw[show(decide (61≤k)&&decide (k≤78))=false by simp only[as6,ao5];omega]
 by_cases h5:k=5
 ·subst h5;rw[ad (by rfl)];rfl
 ·rw[az (by simp only[ao5];omega),an6 h5];rfl
theorem VQ (f:LI):∀j:Nat,1≤j→j≤19→Evt fun n=>fw (S.tab n) f opsL (j:Int)=some (bif decide (stop (sq opsL f) 19 j<19)then Sum.inl (((60+stop (sq opsL f) 19 j:Nat):Int),())else Sum.inr (Sum.inl (f,()))):=fun j h1 hj=>
 adv (F:=fun T (j:Nat)=>fw T f opsL ↑j) (out:=fun j=>bif decide (j<19)then Sum.inl (((60+j:Nat):Int),())else Sum.inr (Sum.inl (f,()))) (N:=19) aD (fun j h=>by simp[sq,opsL];omega)
  (fun T j _ hq=>by
   simp only[sq,ao3,ao1,at0,ao5]at hq;have Vv:j<19:=hq.1;show fw (S.step T) f opsL j=fw T f opsL ((j+1:Nat):Int)
   rw[si,ad (by simp only[ao1];omega),ad (al hq.1),aH (show¬ List.getD _ (j:Int).toNat []=f from hq.2),bD (by omega)])
  (fun T j _ hq=>by
   simp only[sq,as6,ao5,Bool.not_eq_false',ao1]at hq;show fw (S.step T) f opsL j=_;rw[si]
   by_cases hj:j<opsL.length
   ·have Vv:j<19:=hj
    have he:opsL.getD (j:Int).toNat []=f:=by
     rcases hq with hq|hq
     ·exact absurd hj hq
     ·exact hq
    rw[ad (by simp only[ao1];omega),ad (al hj),aL he,wrap64 _ (by omega) (by omega),an8 Vv];simp only[ap3]
    congr 2
   ·have Vv:¬ j<19:=hj
    rw[az (by simp only[ao5];omega),an6 Vv];rfl) 19 j (by omega)
theorem VP (f:LI):Evt fun n=>gx (S.tab n) f Lx.lJ 11 0=some (bif decide (stop (sq Lx.lJ f) 11 0<11)then Sum.inl (((40+stop (sq Lx.lJ f) 11 0:Nat):Int),())else Sum.inr (Sum.inl ())):=
 adv (F:=fun T (j:Nat)=>gx T f Lx.lJ 11 ↑j) (out:=fun j=>bif decide (j<11)then Sum.inl (((40+j:Nat):Int),())else Sum.inr (Sum.inl ())) (N:=11) aD (fun j h=>by simp[sq,Lx.lJ];omega)
  (fun T j _ hq=>by
   simp only[sq,ao3,ao1,at0,ao5]at hq;have Bg:j<11:=hq.1;show gx (S.step T) f Lx.lJ 11 j=gx T f Lx.lJ 11 ((j+1:Nat):Int)
   rw[sd,ad (by simp only[ao1];omega),ad (al hq.1),aH (show¬ List.getD _ (j:Int).toNat []=f from hq.2),bD (by omega)])
  (fun T j _ hq=>by
   simp only[sq,as6,ao5,Bool.not_eq_false',ao1]at hq;show gx (S.step T) f Lx.lJ 11 j=_;rw[sd]
   by_cases hj:j<Lx.lJ.length
   ·have Bg:j<11:=hj
    have he:Lx.lJ.getD (j:Int).toNat []=f:=by
     rcases hq with hq|hq
     ·exact absurd hj hq
     ·exact hq
    rw[ad (by simp only[ao1];omega),ad (al hj),aL he,wrap64 _ (by omega) (by omega),an8 Bg];simp only[ap3]
    congr 2
   ·have Bg:¬ j<11:=hj
    rw[az (by simp only[ao5];omega),an6 Bg];rfl) 11 0 (by omega)
theorem sign_one (f:LI):Evt fun n=>jJ (S.tab n) f=some ((sgn f:Int),aa):=by
 refine((VQ f 1 (by omega) (by omega)).and (VP f)).up fun n ⟨h3,h9⟩=> ?_
 rw[CZ];have h3:fw (S.tab n) f opsL 1=_:=h3;show(fw (S.tab n) f opsL 1).bind _=_;rw[h3,an7];unfold sgn
 cases decide (stop (sq opsL f) 19 1<19)with
 |true=>rfl
 |false=>
  show(gx (S.tab n) f Lx.lJ 11 0).bind _=_;rw[h9,an7]
  cases decide (stop (sq Lx.lJ f) 11 0<11)with
  |true=>rfl
  |false=>rfl
theorem zH {α:Type}{P:α→Nat→Prop}:∀(l:List α),(∀a,Evt fun n=>P a n)→Evt fun n=>∀a∈l,P a n
 |[],_=>Evt.of fun _ a h=>by cases h
 |x::l,h=>((h x).and (zH l h)).mono fun n ⟨h1,h2⟩ a ha=>by
  rcases ar5.1 ha with rfl|ha
  ·exact h1
  ·exact h2 a ha
theorem Cv (f:LI):sgn f≠0:=by
 unfold sgn
 cases h1:decide (stop (sq opsL f) 19 1<19)with
 |true=>rw[ap3];omega
 |false=>
  cases h2:decide (stop (sq Lx.lJ f) 11 0<11)with
  |true=>rw[ao8,ap3];omega
  |false=>rw[ao8,ao8];omega
theorem IA:Evt fun n=>mi (S.tab n)=some (ba,fv):=aD.up fun n _=>by
 rw[BV];rfl
variable{s:LI}(hs:s.length≤2097152)
include hs
omit hs in
theorem sub_one {i:Nat}(h:i+1≤s.length):bK s i (i+1)=[get s i]:=by rw[mm (by omega) (by omega),l8];rfl
omit hs in
theorem MB {i:Nat}(h:i+3≤s.length):bK s i (i+3)=[get s i,get s (i+1),get s (i+2)]:=by
 rw[show i+3=i+2+1 from rfl,mm (by omega) (by omega),zy (s:=s) (by omega)];rfl
omit hs in
theorem Pf {i:Nat}(hi:i<s.length):∀f∈ba,pS s i f=p3 s i f:=by
 have h1:∀x:Int,x≠0→pS s i [x]=decide (get s i=x):=fun x h0=>by
  unfold pS;rw[show([x]:LI).length=1 from rfl,sub_one (s:=s) (by omega),an8 (by omega),ao6];simp
 have h2:∀x y:Int,x≠0→y≠0→pS s i [x,y]=(decide (get s i=x)&&decide (get s (i+1)=y)):=fun x y h0 SD=>by
  unfold pS;rw[show([x,y]:LI).length=2 from rfl]
  by_cases h:2≤s.length - i
  ·rw[zy (s:=s) (by omega),an8 h,ao6];simp
  ·rw[an6 h,hD (show s.length≤i+1 by omega),show decide ((0:Int)=y)=false from an6 (fun e=>SD e.symm),ao7];rfl
 have h3:∀x y z:Int,x≠0→y≠0→z≠0→pS s i [x,y,z]=(decide (get s i=x)&&decide (get s (i+1)=y)&&decide (get s (i+2)=z)):=fun x y z h0 SD ZE=>by
  unfold pS;rw[show([x,y,z]:LI).length=3 from rfl]
  by_cases h:3≤s.length - i
  ·rw[MB (s:=s) (by omega),an8 h,ao6];simp[Bool.and_assoc]
  ·rw[an6 h,hD (show s.length≤i+2 by omega),show decide ((0:Int)=z)=false from an6 (fun e=>ZE e.symm),ao7];rfl
 intro f hf;simp only[ba,ar5,List.not_mem_nil,or_false]at hf;unfold p3
 rcases hf with rfl|rfl|rfl|rfl|rfl|rfl|rfl|rfl|rfl|rfl|rfl|rfl|rfl|rfl|rfl|rfl|rfl|rfl|rfl|rfl|rfl|rfl|rfl|rfl|rfl|rfl|rfl|rfl|rfl|rfl<;>
  first
  |exact h1 _ (by decide)
  |exact h2 _ _ (by decide) (by decide)
  |exact h3 _ _ _ (by decide) (by decide) (by decide)
def TG (i:Nat)(st:Nat×Nat):ak.den:=((st.1:Int),(i:Int),((bif decide (st.1=0)then 0 else i+st.2:Nat):Int),0,0,([]:LI),())
def tT (i:Nat)(st:Nat×Nat):Nat⊕ak.den:=bif decide (st.1=0)then .inl i else .inr ((st.1:Int),(i:Int),((i+st.2:Nat):Int),0,0,([]:LI),())
omit hs in
theorem AK (hs:s.length≤2097152){i:Nat}(hi:i<s.length):Evt fun n=>∀f:LI,jF (S.tab n) (sub s ↑i (s.length:Int)) f=some (pS s i f,ab):=by
 have e:sub s ↑i (s.length:Int)=s.drop i:=by
  rw[od];unfold bK;rw[List.take_length]
 have h1:Evt fun n=>∀f:LI,j4 (S.tab n) (s.drop i) f=some (pS s i f,ab):=aD.up fun n _ f=>by
  rw[qL];unfold pS
  by_cases h:f.length≤s.length - i
  ·have e2:sub (s.drop i) (0:Int) (f.length:Int)=bK s i (i+f.length):=by
    show((s.drop i).take f.length).drop 0=_;unfold bK;rw[List.drop_zero,List.take_drop]
   rw[ad (by simp only[ao1,as3];omega),ad (show bounds (s.drop i).length (0:Int) (f.length:Int)=true from eD (i:=0) (by omega) (by rw[as3];omega)),e2,an8 h,ao6]
  ·rw[az (by simp only[ao5,as3];omega),an6 h];rfl
 rw[e]
 exact h1.up fun n h f=>by
  rw[vD,h];rfl
theorem O5 {i:Nat}(hi:i<s.length):∀(k:Nat)(st:Nat×Nat),k≤78→Evt fun n=>iY (S.tab n) s ↑i (TG i st) (st.2:Int) (k:Int)=some (Sum.inl ((i:Int),TG i (runK (pS s i) k st),()))
 |0,st,_=>aD.up fun n _=>by
  rw[uX,az (by decide)];rfl
 |k+1,st,hk=>by
  have ih:=fun st=>O5 hi k st (by omega)
  refine((((ih st).and (ih (k+1,(fx (k+1)).length))).and Im).and ((AK hs hi).and aD)).up fun n ⟨⟨⟨Qn,Qj⟩,hf⟩,hp,hb⟩=> ?_
  have w:i64.wrap (((k+1:Nat):Int) - 1)=(k:Int):=by rw[wrap64 _ (by omega) (by omega)];omega
  rw[uX,ad (by simp only[ao1];omega),hf (k+1) (by omega),an7,w];unfold runK;unfold okF
  by_cases jj:fx (k+1)=[]
  ·rw[az (by rw[an8 jj];rfl),an8 jj];exact Qn
  rw[ad (by rw[an6 jj];rfl),an6 jj];have hlen:0<(fx (k+1)).length:=List.length_pos_iff.2 jj;rw[ad (by simp only[ao1];omega),hb.iletter,an7]
  cases iO:bE ((fx (k+1)).getD 0 0)with
  |true=>
   rw[az (by rfl)];exact Qn
  |false=>
   rw[ad (by rfl),ad (eD (by omega) (aq2 _)),hp,an7]
   cases Wz:pS s i (fx (k+1))with
   |false=>
    rw[az (by rfl)];exact Qn
   |true=>
    rw[ad (by rfl)]
    have hle:(fx (k+1)).length≤s.length - i:=by
     unfold pS at Wz;simp only[ao3,ao1]at Wz;exact Wz.1
    by_cases zW:st.2<(fx (k+1)).length
    ·have w2:i64.wrap ((i:Int)+((fx (k+1)).length:Int))=((i+(fx (k+1)).length:Nat):Int):=by rw[wrap64 _ (by omega) (by omega)];omega
     simp only[w2];rw[ad (by simp only[ao1];omega),an8 zW];exact Qj
    ·rw[az (by simp only[ao5];omega),an6 zW];exact Qn
theorem Te {i:Nat}(hi:i<s.length)(t4:ak.den):Evt fun n=>eH (S.tab n) s ↑i t4 (0,(i:Int),0,0,0,([]:LI),()) ba 30 0=
  some (bif decide (kK (pS s i)<30)then Sum.inl (((sgn (ba.getD (kK (pS s i)) []):Int),(i:Int),((i+(ba.getD (kK (pS s i)) []).length:Nat):Int),0,0,([]:LI),()), -1,())else Sum.inr (Sum.inl ((i:Int),t4,(0,(i:Int),0,0,0,([]:LI),()),()))):=by
 have hp:Evt fun n=>∀f∈ba,jJ (S.tab n) f=some ((sgn f:Int),aa):=zH ba sign_one
 have hlen:∀k,k<30→(ba.getD k []).length≤3:=by
  have h:∀k:Fin 30,(ba.getD k.1 []).length≤3:=(by decide)
  exact fun k hk=>h ⟨k,hk⟩
 refine adv (F:=fun T (j:Nat)=>eH T s ↑i t4 (0,(i:Int),0,0,0,([]:LI),()) ba 30 ↑j) (q:=pq (pS s i)) (N:=30) (p:=fun T=>∀f∈ba,jJ T f=some ((sgn f:Int),aa))
  (out:=fun k=>bif decide (k<30)then Sum.inl (((sgn (ba.getD k []):Int),(i:Int),((i+(ba.getD k []).length:Nat):Int),0,0,([]:LI),()), -1,())else Sum.inr (Sum.inl ((i:Int),t4,(0,(i:Int),0,0,0,([]:LI),()),())))
  hp (fun j h=>by unfold pq;rw[an6 (by omega)];rfl) ?_ ?_ 30 0 (by omega)
 ·intro T j _ hq;unfold pq pS at hq;simp only[ao3,ao1,at0,as6,ao5]at hq;have Fq:=hq.1;have Y7:=hlen j Fq;have hj:j<ba.length:=Fq;show eH (S.step T) s i t4 _ ba 30 j=eH T s i t4 _ ba 30 ((j+1:Nat):Int);rw[re,ad (by simp only[ao1];omega),ad (al hj),bD (by omega),wrap64 ((s.length:Int) - (i:Int)) (by omega) (by omega)];show brk (decide (((ba.getD j []).length:Int)≤_)) _ _=_
  by_cases hle:(ba.getD j []).length≤s.length - i
  ·have w:i64.wrap ((i:Int)+((ba.getD j []).length:Int))=((i+(ba.getD j []).length:Nat):Int):=by rw[wrap64 _ (by omega) (by omega)];omega
   have jj:¬ bK s i (i+(ba.getD j []).length)=ba.getD j []:=by
    rcases hq.2 with h|h
    ·exact absurd hle h
    ·exact h
   rw[ad (by simp only[ao1];omega)];show brk (bounds s.length i (i64.wrap ((i:Int)+((ba.getD j []).length:Int)))) (brk (decide (sub s i (i64.wrap ((i:Int)+((ba.getD j []).length:Int)))=ba.getD j [])) _ _) _=_;rw[w,ad (eD (by omega) (by omega)),od,aH jj]
  ·rw[az (by simp only[ao5];omega)]
 ·intro T j Zb hq;show eH (S.step T) s i t4 _ ba 30 j=_;rw[re]
  by_cases Fq:j<30
  ·have Y7:=hlen j Fq;have hj:j<ba.length:=Fq;unfold pq at hq;rw[an8 Fq,ao6,Bool.not_eq_false']at hq;unfold pS at hq;simp only[ao3,ao1]at hq
   have hm:ba.getD j []∈ba:=by
    rw[ap9,ap8 hj];exact as4 _
   have w:i64.wrap ((i:Int)+((ba.getD j []).length:Int))=((i+(ba.getD j []).length:Nat):Int):=by rw[wrap64 _ (by omega) (by omega)];omega
   rw[ad (by simp only[ao1];omega),ad (al hj),wrap64 ((s.length:Int) - (i:Int)) (by omega) (by omega)];show brk (decide (((ba.getD j []).length:Int)≤_)) (brk (bounds s.length i (i64.wrap ((i:Int)+((ba.getD j []).length:Int)))) (brk (decide (sub s i (i64.wrap ((i:Int)+((ba.getD j []).length:Int)))=ba.getD j [])) ((jJ T (ba.getD j [])).bind fun d68=>some (Sum.inl ((d68.1,_,i64.wrap ((i:Int)+((ba.getD j []).length:Int)),_),_,()))) _) _) _=_;rw[ad (by simp only[ao1];omega),w,ad (eD (by omega) (by omega)),od,ad (an8 hq.2),Zb _ hm,an7,an8 Fq];rfl
  ·rw[az (by simp only[ao5];omega),an6 Fq];rfl
def l9 (s:LI)(i:Nat):Nat⊕ak.den:=
 bif bE (get s i)then .inr (Hk s i)else bif aW (get s i)then jT s i else bif decide (get s i=34)then O6 s i else tT i (jU (p3 s i))
theorem Bo (yI:∀c∈s,isByte c){i:Nat}(hi:i<s.length):Evt fun n=>∃t' b,ij (S.tab n) s (i:Int)=some ((t',b,()),ab)∧IR (kB (get s i)) (l9 s i) t' b:=by
 unfold l9
 cases hl:bE (get s i)with
 |true=>
  exact(E9 hs hi hl).mono fun n h=>⟨_,_,h,rfl,rfl⟩
 |false=>
  have start:∀n,Base2 (S.tab n)→ij (S.step (S.tab n)) s (i:Int)=_:=fun n hb=>by
   rw[Bx,ad (al hi),aF,hb.iletter,hl,an7,az (by rfl),hb.idigit,an7]
  cases hd:aW (get s i)with
  |true=>
   refine((Db hs hi hd).and aD).up fun n ⟨⟨t',b,h,hr⟩,hb⟩=>⟨t',b, ?_,hr.to fun k=>by unfold kB;rw[hd];rfl⟩
   rw[start n hb,hd,ad (by rfl),h];rfl
  |false=>
   by_cases tW:get s i=34
   ·have w1:i64.wrap ((i:Int)+1)=((i+1:Nat):Int):=bD (by omega);rw[an8 tW]
    refine((EZ hs yI i s.length (i+1) [] (by omega) (by omega) (by simp)).and aD).up fun n ⟨⟨t',b,h,hr⟩,hb⟩=>⟨t',b, ?_,hr.to fun k=>by unfold kB;rw[hd,an8 tW];rfl⟩
    rw[start n hb,hd,az (by rfl),aL tW,w1,h];rfl
   ·rw[an6 tW]
    show Evt fun n=>∃t' b,_∧IR (kB (get s i)) (tT i (jU (p3 s i))) t' b
    have UN:runK (pS s i) 78 (0,0)=jU (p3 s i):=by
     rw[yr (q:=p3 s i) 78 (0,0) fun j hj ho=>Pf (s:=s) hi _ (RZ j hj ho)];exact Mt _ _ _
    refine((O5 hs hi 78 (0,0) (aq2 _)).and aD).up fun n ⟨h,hb⟩=> ?_
    show∃t' b,ij (S.step (S.tab n)) _ _=_∧_;have h:iY (S.tab n) s ↑i (0,(i:Int),0,0,0,([]:LI),()) 0 78=_:=h;rw[start n hb,hd,az (by rfl),aH tW,h,UN,an7]
    generalize jU (p3 s i)=st
    obtain⟨a,b⟩:=st;unfold tT TG;simp only[aN,aq0]
    by_cases h0:a=0
    ·have d:decide ((a:Int)=0)=true:=an8 (by omega);rw[ad d,an8 h0];exact⟨_,_,rfl,rfl,rfl,by unfold kB;rw[hd,an6 tW];exact d⟩
    ·have d:decide ((a:Int)=0)=false:=an6 (by omega);rw[az d,an6 h0];exact⟨_,_,rfl,rfl,rfl⟩
theorem uk {i:Nat}(hi:i<s.length)(xD:get s i≠10):Evt fun n=>∃t' b,dQ (S.tab n) s (i:Int)=some ((t',b,()),ab)∧SR (kB (get s i)) (l9 s i) t' b:=by
 unfold l9
 have start:∀n,Base2 (S.tab n)→dQ (S.step (S.tab n)) s (i:Int)=_:=fun n hb=>by
  rw[vM,ad (al hi),aF,aH xD,hb.sletter,an7]
 cases hl:bE (get s i)with
 |true=>
  refine((Dh hs hi _ rfl).and aD).up fun n ⟨h,hb⟩=> ?_
  show∃t' b,dQ (S.step (S.tab n)) _ _=_∧_;rw[start n hb,hl,ad (by rfl),h];exact⟨_,_,rfl,rfl,rfl⟩
 |false=>
  cases hd:aW (get s i)with
  |true=>
   refine((Ay hs hi hd).and aD).up fun n ⟨⟨t',b,h,hr⟩,hb⟩=>⟨t',b, ?_,hr.to fun k=>by unfold kB;rw[hd];rfl⟩
   rw[start n hb,hl,az (by rfl),hb.sdigit,an7,hd,ad (by rfl),h];rfl
  |false=>
   by_cases tW:get s i=34
   ·rw[an8 tW]
    refine((Ap hs hi).and aD).up fun n ⟨⟨t',b,h,hr⟩,hb⟩=>⟨t',b, ?_,hr.to fun k=>by unfold kB;rw[hd,an8 tW];rfl⟩
    rw[start n hb,hl,az (by rfl),hb.sdigit,an7,hd,az (by rfl),aL tW,h];rfl
   ·rw[an6 tW]
    show Evt fun n=>∃t' b,_∧SR (kB (get s i)) (tT i (jU (p3 s i))) t' b
    have UN:jU (pS s i)=jU (p3 s i):=uh (Pf (s:=s) hi)
    refine((Te hs hi (0,0,0,0,0,([]:LI),())).and (IA.and aD)).up fun n ⟨h,am1,hb⟩=> ?_
    show∃t' b,dQ (S.step (S.tab n)) _ _=_∧_;rw[start n hb,hl,az (by rfl),hb.sdigit,an7,hd,az (by rfl),aH tW,am1,an7];show∃t' b,(eH (S.tab n) s ↑i _ _ ba 30 0).bind _=_∧_;rw[h,an7,←UN];unfold tT jU
    cases decide (kK (pS s i)<30)with
    |true=>
     simp only[ap3];rw[an6 (Cv _)];exact⟨_,_,rfl,rfl,rfl⟩
    |false=>exact⟨_,_,rfl,rfl,by unfold kB;rw[hd,an6 tW];rfl⟩
theorem vS {i:Nat}(hi:i<s.length)(xD:get s i=10):Evt fun n=>dQ (S.tab n) s (i:Int)=some (((7,(i:Int),((i+1:Nat):Int),0,0,([]:LI),()), -1,()),ab):=aD.up fun n hb=>by
 have w1:i64.wrap ((i:Int)+1)=((i+1:Nat):Int):=bD (by omega);rw[vM,ad (al hi),aF,aL xD,w1]
end Go.Abs.D
end

section
namespace Go.Abs.D
def Adv (s:LI)(i:Nat)(t:ak.den):Prop:=(∃e:Nat,t.2.2.1=(e:Int)∧i<e∧e≤s.length)∧t.1≠7
theorem Dr {s:LI}{i j:Nat}(f:Bool)(h1:i<j)(h2:j≤s.length):Adv s i (ko s i j f):=by
 unfold ko
 cases f|| !decide (dv 0 (bK s i j)<9223372036854775808)with
 |true=>exact⟨⟨j,rfl,h1,h2⟩,show(3:Int)≠7 by decide⟩
 |false=>exact⟨⟨j,rfl,h1,h2⟩,show(2:Int)≠7 by decide⟩
theorem IV {s:LI}{i j:Nat}(f:Bool)(h1:i<j)(h2:j≤s.length){t:ak.den}(h:uO s i j f= .inr t):Adv s i t:=by
 unfold uO at h
 cases h5:decide (get s j=101)with
 |true=>
  rw[h5]at h
  cases hd:aW (get s (ma s j))with
  |true=>
   rw[hd]at h;have hl:=pz hd
   have hk:j<ma s j:=by unfold ma;cases decide (get s (j+1)=43)||decide (get s (j+1)=45)<;>simp
   have:=pa s (ma s j)
   injection h with h
   subst h;exact Dr _ (by omega) (o9 (by omega))
  |false=>rw[hd]at h;cases h
 |false=>
  rw[h5]at h
  injection h with h
  subst h;exact Dr _ h1 h2
theorem Ih {s:LI}{i j:Nat}(h1:i<j)(h2:j≤s.length){t:ak.den}(h:uL s i j= .inr t):Adv s i t:=by
 unfold uL at h
 cases h5:decide (get s j=46)&&aW (get s (j+1))with
 |true=>
  rw[h5]at h;rw[ao3]at h5;have hl:=pz h5.2;have:=pa s (j+1);exact IV _ (by omega) (o9 (by omega)) h
 |false=>
  rw[h5]at h;exact IV _ h1 h2 h
theorem Kj {s:LI}{i:Nat}(hi:i+2≤s.length){t:ak.den}(h:jl s i= .inr t):Adv s i t:=by
 have h1:kL s (i+18) (i+2)≤s.length:=s5 Ef _ _ hi;have h2:i+2≤kL s (i+18) (i+2):=qB _ _;unfold jl at h
 by_cases he:kL s (i+18) (i+2)=i+2
 ·simp only[he,if_true]at h;cases h
 ·simp only[he,at3]at h
  cases hx:gO (get s (kL s (i+18) (i+2)))with
  |true=>simp only[hx,if_true]at h;cases h
  |false=>
   simp only[hx,ar9,at3]at h
   injection h with h
   subst h;exact⟨⟨_,rfl,by omega,h1⟩,show(2:Int)≠7 by decide⟩
theorem zB {s:LI}:∀(k j:Nat)(o:LI)(e:Nat)(r:LI),eZ s k j o= .inr (e,r)→j<e∧e≤s.length
 |0,j,o,e,r,h=>by cases h
 |k+1,j,o,e,r,h=>by
  have Qn:=zB (s:=s) k (j+1);have Qj:=zB (s:=s) k (j+2);have am9:=zB (s:=s) k (j+4);unfold eZ at h
  by_cases hl:s.length≤j
  ·rw[an8 hl]at h;cases h
  rw[an6 hl]at h
  cases h1:decide (get s j=10)with
  |true=>rw[h1]at h;cases h
  |false=>
  rw[h1]at h
  cases h1:decide (get s j=34)with
  |true=>rw[h1]at h;injection h with h;injection h with h _;subst h;omega
  |false=>
  rw[h1]at h
  cases h1:decide (get s j=92)with
  |false=>rw[h1]at h;have:=Qn _ _ _ h;omega
  |true=>
  rw[h1]at h
  cases h1:decide (get s (j+1)=110)with
  |true=>rw[h1]at h;have:=Qj _ _ _ h;omega
  |false=>
  rw[h1]at h
  cases h1:decide (get s (j+1)=116)with
  |true=>rw[h1]at h;have:=Qj _ _ _ h;omega
  |false=>
  rw[h1]at h
  cases h1:decide (get s (j+1)=34)with
  |true=>rw[h1]at h;have:=Qj _ _ _ h;omega
  |false=>
  rw[h1]at h
  cases h1:decide (get s (j+1)=92)with
  |true=>rw[h1]at h;have:=Qj _ _ _ h;omega
  |false=>
  rw[h1]at h
  cases h1:decide (get s (j+1)=120)with
  |false=>rw[h1]at h;cases h
  |true=>
  rw[h1]at h
  cases h1:gO (get s (j+2))with
  |false=>rw[h1]at h;cases h
  |true=>
  rw[h1]at h
  cases h1:gO (get s (j+3))with
  |false=>rw[h1]at h;cases h
  |true=>rw[h1]at h;have:=am9 _ _ _ h;omega
theorem XS (f:LI):sgn f≠7:=by
 unfold sgn
 cases h1:decide (stop (sq opsL f) 19 1<19)with
 |true=>rw[ap3];omega
 |false=>
  cases h2:decide (stop (sq Lx.lJ f) 11 0<11)with
  |true=>rw[ao8,ap3];omega
  |false=>rw[ao8,ao8];omega
theorem MF {s:LI}(hs:s.length≤2097152){i:Nat}(hi:i<s.length){t:ak.den}(h:l9 s i= .inr t):Adv s i t:=by
 unfold l9 at h
 cases hl:bE (get s i)with
 |true=>
  rw[hl]at h
  injection h with h
  subst h;have hle:s7 s i≤s.length:=s5 pY _ _ (by omega)
  have ZP:i<s7 s i:=by
   have hq:wq s i=true:=by unfold wq;rw[hl];rfl
   have e:=FD (q:=wq s) (N:=s.length) pY (k:=s.length) (j:=i) (by omega) hq;have:=qB (q:=wq s) s.length (i+1);unfold s7;omega
  unfold Hk;simp only;split
  ·exact⟨⟨_,rfl,ZP,hle⟩,by show((10+tU _:Nat):Int)≠7;omega⟩
  ·exact⟨⟨_,rfl,ZP,hle⟩,show(1:Int)≠7 by decide⟩
 |false=>
  rw[hl]at h
  cases hd:aW (get s i)with
  |true=>
   rw[hd]at h;have h:jT s i= .inr t:=h;unfold jT at h
   cases h0:decide (get s i=48)with
   |true=>
    cases hx:decide (get s (i+1)=120)with
    |true=>
     rw[h0,hx]at h;have:=jh (of_decide_eq_true hx) (by decide);exact Kj (by omega) h
    |false=>
     rw[h0,hx]at h;exact Ih (j:=i+1) (by omega) (by omega) h
   |false=>
    rw[h0]at h;have:=pa s (i+1);exact Ih (j:=oq s (i+1)) (by omega) (o9 (by omega)) h
  |false=>
   rw[hd]at h
   cases CE:decide (get s i=34)with
   |true=>
    rw[CE]at h;have h:Je i (eZ s s.length (i+1) [])= .inr t:=h
    cases hr:eZ s s.length (i+1) []with
    |inl e=>rw[hr]at h;cases h
    |inr y=>
     rw[hr]at h;obtain⟨e,r⟩:=y;have:=zB _ _ _ _ _ hr
     injection h with h
     subst h;exact⟨⟨e,rfl,by omega,by omega⟩,show(4:Int)≠7 by decide⟩
   |false=>
    rw[CE]at h;have h:tT i (jU (p3 s i))= .inr t:=h;rw[←uh (Pf (s:=s) hi)]at h;unfold tT jU at h
    cases hk:decide (kK (pS s i)<30)with
    |false=>rw[hk]at h;cases h
    |true=>
     rw[hk]at h;simp only[ap3]at h;rw[an6 (Cv _)]at h
     injection h with h
     subst h;have hq:pq (pS s i) (kK (pS s i))=false:=pH (N:=30) (fun j h=>by unfold pq;rw[an6 (by omega)];rfl) 30 0 (by omega);unfold pq at hq;rw[hk,ao6,Bool.not_eq_false']at hq;have hq:(decide ((ba.getD (kK (pS s i)) []).length≤s.length - i)&&decide (bK s i (i+(ba.getD (kK (pS s i)) []).length)=ba.getD (kK (pS s i)) []))=true:=hq;rw[ao3,ao1]at hq
     have rU:0<(ba.getD (kK (pS s i)) []).length:=by
      have h:∀k:Fin 30,0<(ba.getD k.1 []).length:=(by decide);exact h ⟨_,of_decide_eq_true hk⟩
     exact⟨⟨_,rfl,by omega,by omega⟩,by
      have:=XS (ba.getD (kK (pS s i)) []);show((sgn _:Nat):Int)≠7
      omega⟩
end Go.Abs.D
end

section

end

section
set_option maxRecDepth 100000
namespace Go.Abs.D
noncomputable def sn:Nat→S.Tab→S.Tab
 |0,T=>T
 |n+1,T=>S.step (sn n T)
noncomputable def aq (t0:LI):Option ((LI×Bool×Bool×Unit)×Unit×Unit):=
 some ((t0,true,false,()),aa)
theorem vP (T:S.Tab):aB (sn 1 T)=aq:=by
 funext a0
 show aB (S.step (sn 0 T)) a0=_;rw[Da];rfl
noncomputable def pR (t0:Int):Option (Bool×Unit×Unit):=
 brk (decide (t0=22)) (
  brk (decide (t0=22)) (
   some (true,aa)) (
   some (false,aa))) (
  brk (decide (t0=13)) (
   brk (decide (t0=13)) (
    some (true,aa)) (
    some (false,aa))) (
   brk (decide (t0=18)) (
    brk (decide (t0=18)) (
     some (true,aa)) (
     some (false,aa))) (
    brk (decide (t0=20)) (
     brk (decide (t0=20)) (
      some (true,aa)) (
      some (false,aa))) (
     brk (decide (t0=31)) (
      brk (decide (t0=31)) (
       some (true,aa)) (
       some (false,aa))) (
      brk (decide (t0=19)) (
       brk (decide (t0=19)) (
        some (true,aa)) (
        some (false,aa))) (
       brk (decide (t0=11)) (
        brk (decide (t0=11)) (
         some (true,aa)) (
         some (false,aa))) (
        brk (decide (t0=23)) (
         brk (decide (t0=23)) (
          some (true,aa)) (
          some (false,aa))) (
         brk (decide (t0=27)) (
          brk (decide (t0=27)) (
           some (true,aa)) (
           some (false,aa))) (
          brk (decide (t0=30)) (
           brk (decide (t0=30)) (
            some (true,aa)) (
            some (false,aa))) (
           brk (decide (t0=28)) (
            brk (decide (t0=28)) (
             some (true,aa)) (
             some (false,aa))) (
            brk (decide (t0=14)) (
             brk (decide (t0=14)) (
              some (true,aa)) (
              some (false,aa))) (
             brk (decide (t0=42)) (
              brk (decide (t0=42)) (
               some (true,aa)) (
               some (false,aa))) (
              brk (decide (t0=1)) (
               brk (decide (t0=1)) (
                some (true,aa)) (
                some (false,aa))) (
               brk (decide (t0=40)) (
                some (true,aa)) (
                some (false,aa))))))))))))))))
theorem Az (T:S.Tab):mK (sn 1 T)=pR:=by
 funext a0
 show mK (S.step (sn 0 T)) a0=_;rw[Ak];rfl
noncomputable def bJ  :Option ((LI×Bool×Bool×Unit)×Unit):=
 some (([],false,true,()),fv)
theorem C4 (T:S.Tab):b8 (sn 1 T)=bJ:=by
 show b8 (S.step (sn 0 T))=_;rw[CI];rfl
noncomputable def dt  :Option ((LI×Bool×Bool×Unit)×Unit):=
 some (([],false,false,()),fv)
theorem CO (T:S.Tab):dP (sn 1 T)=dt:=by
 show dP (S.step (sn 0 T))=_;rw[CL];rfl
noncomputable def bL (t0:Int):Option (Bool×Unit×Unit):=
 brk (decide (t0=25)) (
  some (true,aa)) (
  brk (decide (t0=50)) (
   some (true,aa)) (
   brk (decide (t0=62)) (
    some (true,aa)) (
    some (decide (t0=69),aa))))
theorem rh (T:S.Tab):bn (sn 1 T)=bL:=by
 funext a0
 show bn (S.step (sn 0 T)) a0=_;rw[rz];rfl
noncomputable def fC (t0:Int):Option (Bool×Unit×Unit):=
 brk (decide (t0=1)) (
  brk (decide (t0=1)) (
   some (true,aa)) (
   (bL t0).bind fun d17=>
   some (d17.1,aa))) (
  brk (decide (t0=40)) (
   brk (decide (t0=40)) (
    some (true,aa)) (
    (bL t0).bind fun d17=>
    some (d17.1,aa))) (
   brk (decide (t0=2)) (
    brk (decide (t0=2)) (
     some (true,aa)) (
     (bL t0).bind fun d17=>
     some (d17.1,aa))) (
    brk (decide (t0=3)) (
     brk (decide (t0=3)) (
      some (true,aa)) (
      (bL t0).bind fun d17=>
      some (d17.1,aa))) (
     brk (decide (t0=4)) (
      brk (decide (t0=4)) (
       some (true,aa)) (
       (bL t0).bind fun d17=>
       some (d17.1,aa))) (
      brk (decide (t0=24)) (
       brk (decide (t0=24)) (
        some (true,aa)) (
        (bL t0).bind fun d17=>
        some (d17.1,aa))) (
       brk (decide (t0=29)) (
        brk (decide (t0=29)) (
         some (true,aa)) (
         (bL t0).bind fun d17=>
         some (d17.1,aa))) (
        brk (decide (t0=17)) (
         brk (decide (t0=17)) (
          some (true,aa)) (
          (bL t0).bind fun d17=>
          some (d17.1,aa))) (
         brk (decide (t0=49)) (
          brk (decide (t0=49)) (
           some (true,aa)) (
           (bL t0).bind fun d17=>
           some (d17.1,aa))) (
          brk (decide (t0=18)) (
           brk (decide (t0=18)) (
            some (true,aa)) (
            (bL t0).bind fun d17=>
            some (d17.1,aa))) (
           brk (decide (t0=42)) (
            some (true,aa)) (
            (bL t0).bind fun d17=>
            some (d17.1,aa))))))))))))
theorem Ao (T:S.Tab):du (sn 2 T)=fC:=by
 have ou:bn (sn 1 T)=bL:=rh (sn 0 T)
 funext a0
 show du (S.step (sn 1 T)) a0=_;rw[tm];rw[ou];rfl
noncomputable def gj (t0:Int)(t1:Int)(t2:Int):Option ((LI×Bool×Unit)×Unit×Unit×Int×Unit):=
 brk (decide (t2=48)) (
  some ((([48,1,t0]:LI),true,()),(),(),t2,())) (
  brk (decide (t2=44)) (
   some ((([44,1018,45,t0]:LI),true,()),(),(),t2,())) (
   brk (decide (t2=40)) (
    some ((([40,1022,41,t1]:LI),true,()),(),(),t2,())) (
    some (([],false,()),(),(),t2,()))))
theorem CH (T:S.Tab):gN (sn 1 T)=gj:=by
 funext a0
 funext a1
 funext a2
 show gN (S.step (sn 0 T)) a0 a1 a2=_;rw[Dg];rfl
noncomputable def AI (t0:Int)(t1:Int)(t2:Int):Option (Bool×Unit×Unit×Unit×Unit):=
 brk (decide (t1≤t0)) (
  some (decide (t0≤t2),aP)) (
  some (false,aP))
theorem Kd (T:S.Tab):jm (sn 1 T)=AI:=by
 funext a0
 funext a1
 funext a2
 show jm (S.step (sn 0 T)) a0 a1 a2=_;rw[DI];rfl
noncomputable def oJ (t0:Int):Option (Bool×Unit×Unit):=
 brk (decide (t0=10)) (
  some (true,aa)) (
  brk (decide (t0=26)) (
   some (true,aa)) (
   (AI t0 61 78).bind fun d11=>
   some (d11.1,aa)))
theorem yT (T:S.Tab):lW (sn 2 T)=oJ:=by
 have M3:jm (sn 1 T)=AI:=Kd (sn 0 T)
 funext a0
 show lW (S.step (sn 1 T)) a0=_;rw[yM];rw[M3];rfl
noncomputable def mV (t3:Int)(t41:Int)(t90:Bool):Option ((LI×Bool×Bool×Unit)⊕(Unit)⊕Empty):=
 brk (t90) (
  (aq ([t3,1001]:LI)).bind fun d96=>
  some (Sum.inl d96.1)) (
  brk (decide (t41=27)) (
   (aq ([27,1007,1001]:LI)).bind fun d104=>
   some (Sum.inl d104.1)) (
   brk (decide (t41=30)) (
    (aq ([30,1027,12,1,1008,1027,1001]:LI)).bind fun d112=>
    some (Sum.inl d112.1)) (
    brk (decide (t41=28)) (
     (aq ([28,1018,1001]:LI)).bind fun d120=>
     some (Sum.inl d120.1)) (
     brk (decide (t41=14)) (
      (aq ([14,1015,1001]:LI)).bind fun d128=>
      some (Sum.inl d128.1)) (
      brk (decide (t41=42)) (
       (aq ([1027,1001]:LI)).bind fun d136=>
       some (Sum.inl d136.1)) (
       brk (decide (t41=1)) (
        (aq ([1,1009,1001]:LI)).bind fun d144=>
        some (Sum.inl d144.1)) (
        brk (decide (t41=40)) (
         (aq ([40,1018,41,1011,1001]:LI)).bind fun d152=>
         some (Sum.inl d152.1)) (
         some (Sum.inr (Sum.inl ()))))))))))
theorem z8 (T:S.Tab):kZ (sn 2 T)=mV:=by
 have s9:aB (sn 1 T)=aq:=vP (sn 0 T)
 funext a0
 funext a1
 funext a2
 show kZ (S.step (sn 1 T)) a0 a1 a2=_;rw[Aq];rw[s9];rfl
noncomputable def Bn (t0:Int)(t1:Int):Option ((LI×Bool×Bool×Unit)×Unit×Unit×Unit):=
 brk (decide (t0=1000)) (
  brk (decide (t1=5)) (
   (aq ([5,1000]:LI)).bind fun d35=>
   some (d35.1,ab)) (
   (pR t1).bind fun d40=>
   brk (d40.1) (
    brk (decide (t1=22)) (
     (aq ([22,1,1006,1002,1001]:LI)).bind fun d46=>
     some (d46.1,ab)) (
     brk (decide (t1=13)) (
      (aq ([13,1,47,1018,1001]:LI)).bind fun d54=>
      some (d54.1,ab)) (
      brk (decide (t1=18)) (
       (aq ([18,1,1028,1001]:LI)).bind fun d62=>
       some (d62.1,ab)) (
       brk (decide (t1=20)) (
        (aq ([20,1018,1027,1003,1001]:LI)).bind fun d70=>
        some (d70.1,ab)) (
        brk (decide (t1=31)) (
         (aq ([31,1018,1027,1001]:LI)).bind fun d78=>
         some (d78.1,ab)) (
         brk (decide (t1=19)) (
          (aq ([19,1,1004,1001]:LI)).bind fun d86=>
          some (d86.1,ab)) (
          brk (decide (t1=11)) (
           (mV t1 t1 (decide (t1=11))).bind (bw
             (fun KT=>
            some (KT,ab))
             (fun KT=>
            (bJ).bind fun d157=>
            some (d157.1,ab)))) (
           (mV t1 t1 (decide (t1=23))).bind (bw
             (fun KT=>
            some (KT,ab))
             (fun KT=>
            (bJ).bind fun d157=>
            some (d157.1,ab))))))))))) (
    (bJ).bind fun d157=>
    some (d157.1,ab)))) (
  brk (decide (t0=1001)) (
   brk (decide (t1=5)) (
    (aq ([5,1000]:LI)).bind fun d167=>
    some (d167.1,ab)) (
    (bJ).bind fun d172=>
    some (d172.1,ab))) (
   brk (decide (t0=1002)) (
    brk (decide (t1=47)) (
     (aq ([47,1018,1023]:LI)).bind fun d182=>
     some (d182.1,ab)) (
     (bJ).bind fun d187=>
     some (d187.1,ab))) (
    brk (decide (t0=1003)) (
     brk (decide (t1=15)) (
      (aq ([15,1018,1027,1003]:LI)).bind fun d197=>
      some (d197.1,ab)) (
      brk (decide (t1=16)) (
       (aq ([16,1027]:LI)).bind fun d205=>
       some (d205.1,ab)) (
       (bJ).bind fun d210=>
       some (d210.1,ab)))) (
     brk (decide (t0=1004)) (
      brk (decide (t1=47)) (
       (aq ([47,1018,46,1018,1005,1027]:LI)).bind fun d221=>
       some (d221.1,ab)) (
       brk (decide (t1=46)) (
        (aq ([46,1,1006,21,1018,1027]:LI)).bind fun d229=>
        some (d229.1,ab)) (
        brk (decide (t1=21)) (
         (aq ([21,1018,1027]:LI)).bind fun d237=>
         some (d237.1,ab)) (
         (dt).bind fun d242=>
         some (d242.1,ab))))) (
      brk (decide (t0=1005)) (
       brk (decide (t1=46)) (
        (aq ([46,1018]:LI)).bind fun d252=>
        some (d252.1,ab)) (
        (bJ).bind fun d257=>
        some (d257.1,ab))) (
       brk (decide (t0=1006)) (
        brk (decide (t1=46)) (
         (aq ([46,1,1006]:LI)).bind fun d267=>
         some (d267.1,ab)) (
         (bJ).bind fun d272=>
         some (d272.1,ab))) (
        brk (decide (t0=1007)) (
         (fC t1).bind fun d279=>
         brk (d279.1) (
          (aq ([1018,1023]:LI)).bind fun d282=>
          some (d282.1,ab)) (
          (bJ).bind fun d287=>
          some (d287.1,ab))) (
         brk (decide (t0=1008)) (
          brk (decide (t1=46)) (
           (aq ([46,1]:LI)).bind fun d297=>
           some (d297.1,ab)) (
           (bJ).bind fun d302=>
           some (d302.1,ab))) (
          brk (decide (t0=1009)) (
           (gj 1009 1010 t1).bind fun d310=>
           brk (d310.1.2.1) (
            some ((d310.1.1,true,false,()),ab)) (
            brk (decide (d310.2.2.2.1=47)) (
             (aq ([47,1018,1023]:LI)).bind fun d319=>
             some (d319.1,ab)) (
             brk (decide (d310.2.2.2.1=46)) (
              (aq ([46,1012]:LI)).bind fun d327=>
              some (d327.1,ab)) (
              (dt).bind fun d332=>
              some (d332.1,ab))))) (
           brk (decide (t0=1010)) (
            (gj 1009 1010 t1).bind fun d340=>
            brk (d340.1.2.1) (
             some ((d340.1.1,true,false,()),ab)) (
             (bJ).bind fun d346=>
             some (d346.1,ab))) (
            brk (decide (t0=1011)) (
             (gj 1009 1010 t1).bind fun d354=>
             some ((d354.1.1,d354.1.2.1,false,()),ab)) (
             brk (decide (t0=1012)) (
              brk (decide (t1=1)) (
               (aq ([1,1013]:LI)).bind fun d365=>
               some (d365.1,ab)) (
               brk (decide (t1=40)) (
                (aq ([40,1018,41,1014]:LI)).bind fun TU=>
                some (TU.1,ab)) (
                (dt).bind fun Un=>
                some (Un.1,ab)))) (
              brk (decide (t0=1013)) (
               (gj 1013 1014 t1).bind fun Ho=>
               brk (Ho.1.2.1) (
                some ((Ho.1.1,true,false,()),ab)) (
                brk (decide (Ho.2.2.2.1=47)) (
                 (aq ([47,1018,1023]:LI)).bind fun UQ=>
                 some (UQ.1,ab)) (
                 brk (decide (Ho.2.2.2.1=46)) (
                  (aq ([46,1012]:LI)).bind fun Uf=>
                  some (Uf.1,ab)) (
                  (dt).bind fun Ui=>
                  some (Ui.1,ab))))) (
               brk (decide (t0=1014)) (
                (gj 1013 1014 t1).bind fun PX=>
                some ((PX.1.1,PX.1.2.1,false,()),ab)) (
                brk (decide (t0=1015)) (
                 brk (decide (t1=1)) (
                  (aq ([1,1016]:LI)).bind fun Nd=>
                  some (Nd.1,ab)) (
                  brk (decide (t1=40)) (
                   (aq ([40,1018,41,1016]:LI)).bind fun Ut=>
                   some (Ut.1,ab)) (
                   (dt).bind fun UD=>
                   some (UD.1,ab)))) (
                 brk (decide (t0=1016)) (
                  (gj 1016 1017 t1).bind fun KY=>
                  some ((KY.1.1,KY.1.2.1,false,()),ab)) (
                  brk (decide (t0=1017)) (
                   (gj 1016 1017 t1).bind fun P6=>
                   some ((P6.1.1,P6.1.2.1,true,()),ab)) (
                   brk (decide (t0=1018)) (
                    (fC t1).bind fun UA=>
                    brk (UA.1) (
                     (aq ([1020,1019]:LI)).bind fun UR=>
                     some (UR.1,ab)) (
                     (dt).bind fun UJ=>
                     some (UJ.1,ab))) (
                    brk (decide (t0=1019)) (
                     (oJ t1).bind fun PU=>
                     brk (PU.1) (
                      (aq ([t1,1020,1019]:LI)).bind fun UF=>
                      some (UF.1,ab)) (
                      (bJ).bind fun Ur=>
                      some (Ur.1,ab))) (
                     brk (decide (t0=1020)) (
                      (bL t1).bind fun TV=>
                      brk (TV.1) (
                       (aq ([t1,1020]:LI)).bind fun Nl=>
                       some (Nl.1,ab)) (
                       brk (decide (t1=1)) (
                        (aq ([1,1021]:LI)).bind fun T4=>
                        some (T4.1,ab)) (
                        brk (decide (t1=40)) (
                         (aq ([40,1018,41,1021]:LI)).bind fun Uc=>
                         some (Uc.1,ab)) (
                         brk (decide (t1=18)) (
                          (aq ([18,1028]:LI)).bind fun Uj=>
                          some (Uj.1,ab)) (
                          brk (decide (t1=42)) (
                           (aq ([42,1029,43]:LI)).bind fun Uk=>
                           some (Uk.1,ab)) (
                           (fC t1).bind fun Vc=>
                           brk (Vc.1) (
                            (aq ([t1]:LI)).bind fun Qg=>
                            some (Qg.1,ab)) (
                            (dt).bind fun U8=>
                            some (U8.1,ab)))))))) (
                      brk (decide (t0=1021)) (
                       (gj 1021 1021 t1).bind fun Qe=>
                       some ((Qe.1.1,Qe.1.2.1,true,()),ab)) (
                       brk (decide (t0=1022)) (
                        (fC t1).bind fun Vb=>
                        brk (Vb.1) (
                         (aq ([1018,1023]:LI)).bind fun T1=>
                         some (T1.1,ab)) (
                         (bJ).bind fun UE=>
                         some (UE.1,ab))) (
                        brk (decide (t0=1023)) (
                         brk (decide (t1=46)) (
                          (aq ([46,1018,1023]:LI)).bind fun Ud=>
                          some (Ud.1,ab)) (
                          (bJ).bind fun UM=>
                          some (UM.1,ab))) (
                         brk (decide (t0=1028)) (
                          brk (decide (t1=40)) (
                           (aq ([40,1024,41,1027]:LI)).bind fun Up=>
                           some (Up.1,ab)) (
                           (dt).bind fun Uq=>
                           some (Uq.1,ab))) (
                          brk (decide (t0=1024)) (
                           brk (decide (t1=49)) (
                            (aq ([49]:LI)).bind fun T5=>
                            some (T5.1,ab)) (
                            brk (decide (t1=1)) (
                             (aq ([1,1025]:LI)).bind fun Ue=>
                             some (Ue.1,ab)) (
                             (bJ).bind fun UI=>
                             some (UI.1,ab)))) (
                           brk (decide (t0=1025)) (
                            brk (decide (t1=46)) (
                             (aq ([46,1026]:LI)).bind fun UU=>
                             some (UU.1,ab)) (
                             (bJ).bind fun U6=>
                             some (U6.1,ab))) (
                            brk (decide (t0=1026)) (
                             brk (decide (t1=1)) (
                              (aq ([1,1025]:LI)).bind fun UC=>
                              some (UC.1,ab)) (
                              brk (decide (t1=49)) (
                               (aq ([49]:LI)).bind fun Vf=>
                               some (Vf.1,ab)) (
                               (dt).bind fun U7=>
                               some (U7.1,ab)))) (
                             brk (decide (t0=1027)) (
                              brk (decide (t1=42)) (
                               (aq ([42,1000,43]:LI)).bind fun T6=>
                               some (T6.1,ab)) (
                               (dt).bind fun UH=>
                               some (UH.1,ab))) (
                              brk (decide (t0=1029)) (
                               (fC t1).bind fun Uu=>
                               brk (Uu.1) (
                                (aq ([1032,1030]:LI)).bind fun EE=>
                                some (EE.1,ab)) (
                                brk (decide (t1=44)) (
                                 (aq ([1032,1030]:LI)).bind fun EE=>
                                 some (EE.1,ab)) (
                                 brk (decide (t1=48)) (
                                  (aq ([1032,1030]:LI)).bind fun EE=>
                                  some (EE.1,ab)) (
                                  (bJ).bind fun T9=>
                                  some (T9.1,ab))))) (
                               brk (decide (t0=1030)) (
                                brk (decide (t1=46)) (
                                 (aq ([46,1031]:LI)).bind fun Us=>
                                 some (Us.1,ab)) (
                                 (bJ).bind fun Uo=>
                                 some (Uo.1,ab))) (
                                brk (decide (t0=1031)) (
                                 (fC t1).bind fun Ux=>
                                 brk (Ux.1) (
                                  (aq ([1032,1030]:LI)).bind fun EB=>
                                  some (EB.1,ab)) (
                                  brk (decide (t1=44)) (
                                   (aq ([1032,1030]:LI)).bind fun EB=>
                                   some (EB.1,ab)) (
                                   brk (decide (t1=48)) (
                                    (aq ([1032,1030]:LI)).bind fun EB=>
                                    some (EB.1,ab)) (
                                    (bJ).bind fun UG=>
                                    some (UG.1,ab))))) (
                                 brk (decide (t0=1032)) (
                                  brk (decide (t1=44)) (
                                   (aq ([44,1018,45,47,1018]:LI)).bind fun TT=>
                                   some (TT.1,ab)) (
                                   brk (decide (t1=48)) (
                                    (aq ([48,1,47,1018]:LI)).bind fun UL=>
                                    some (UL.1,ab)) (
                                    (fC t1).bind fun Ua=>
                                    brk (Ua.1) (
                                     (aq ([1018]:LI)).bind fun UB=>
                                     some (UB.1,ab)) (
                                     (dt).bind fun U9=>
                                     some (U9.1,ab))))) (
                                  (dt).bind fun UP=>
                                  some (UP.1,ab))))))))))))))))))))))))))))))))))
theorem F6 (T:S.Tab):kj (sn 3 T)=Bn:=by
 have s9:aB (sn 2 T)=aq:=vP (sn 1 T);have Cf:mK (sn 2 T)=pR:=Az (sn 1 T);have Fj:b8 (sn 2 T)=bJ:=C4 (sn 1 T);have Fo:dP (sn 2 T)=dt:=CO (sn 1 T);have ou:bn (sn 2 T)=bL:=rh (sn 1 T);have Ce:du (sn 2 T)=fC:=Ao (sn 0 T);have Fk:gN (sn 2 T)=gj:=CH (sn 1 T);have Bc:lW (sn 2 T)=oJ:=yT (sn 0 T);have Cg:kZ (sn 2 T)=mV:=z8 (sn 0 T)
 funext a0
 funext a1
 show kj (S.step (sn 2 T)) a0 a1=_;rw[Gv];rw[s9,Cf,Fj,Fo,ou,Ce,Fk,Bc,Cg];rfl
noncomputable def an (t0:LI):Option (LI×Unit×Unit):=
 some (t0,aa)
theorem gY (T:S.Tab):aA (sn 1 T)=an:=by
 funext a0
 show aA (S.step (sn 0 T)) a0=_;rw[E4];rfl
noncomputable def lr (t0:Int)(t4:Int)(t35:Bool):Option ((LI×Bool×Unit)⊕(Unit)⊕Empty):=
 brk (t35) (
  (an ([t0]:LI)).bind fun d40=>
  some (Sum.inl (d40.1,true,()))) (
  brk (decide (t4=27)) (
   (an ([t0,108]:LI)).bind fun d45=>
   some (Sum.inl (d45.1,true,()))) (
   brk (decide (t4=30)) (
    (an ([t0,132,12,1,109,132]:LI)).bind fun d50=>
    some (Sum.inl (d50.1,true,()))) (
    brk (decide (t4=28)) (
     (an ([t0,119]:LI)).bind fun d55=>
     some (Sum.inl (d55.1,true,()))) (
     brk (decide (t4=14)) (
      (an ([t0,116]:LI)).bind fun d60=>
      some (Sum.inl (d60.1,true,()))) (
      brk (decide (t4=42)) (
       (an ([132]:LI)).bind fun d64=>
       some (Sum.inl (d64.1,true,()))) (
       brk (decide (t4=1)) (
        (an ([t0,110]:LI)).bind fun d69=>
        some (Sum.inl (d69.1,true,()))) (
        brk (decide (t4=40)) (
         (an ([t0,119,41,112]:LI)).bind fun d74=>
         some (Sum.inl (d74.1,true,()))) (
         some (Sum.inr (Sum.inl ()))))))))))
theorem yg (T:S.Tab):jB (sn 2 T)=lr:=by
 have cY:aA (sn 1 T)=an:=gY (sn 0 T)
 funext a0
 funext a1
 funext a2
 show jB (S.step (sn 1 T)) a0 a1 a2=_;rw[xX];rw[cY];rfl
noncomputable def sU (t0:Int):Option ((LI×Bool×Unit)×Unit×Unit):=
 brk (decide (t0=22)) (
  (an ([t0,1,104,103]:LI)).bind fun d9=>
  some ((d9.1,true,()),aa)) (
  brk (decide (t0=13)) (
   (an ([t0,1,47,119]:LI)).bind fun d14=>
   some ((d14.1,true,()),aa)) (
   brk (decide (t0=18)) (
    (an ([t0,1,133]:LI)).bind fun d19=>
    some ((d19.1,true,()),aa)) (
    brk (decide (t0=20)) (
     (an ([t0,119,132,105]:LI)).bind fun d24=>
     some ((d24.1,true,()),aa)) (
     brk (decide (t0=31)) (
      (an ([t0,119,132]:LI)).bind fun d29=>
      some ((d29.1,true,()),aa)) (
      brk (decide (t0=19)) (
       (an ([t0,1,106]:LI)).bind fun d34=>
       some ((d34.1,true,()),aa)) (
       brk (decide (t0=11)) (
        (lr t0 t0 (decide (t0=11))).bind (bw
          (fun j1=>
         some (j1,aa))
          (fun j1=>
         some (([],false,()),aa)))) (
        (lr t0 t0 (decide (t0=23))).bind (bw
          (fun j1=>
         some (j1,aa))
          (fun j1=>
         some (([],false,()),aa))))))))))
theorem CQ (T:S.Tab):pD (sn 3 T)=sU:=by
 have cY:aA (sn 2 T)=an:=gY (sn 1 T);have zS:jB (sn 2 T)=lr:=yg (sn 0 T)
 funext a0
 show pD (S.step (sn 2 T)) a0=_;rw[Dc];rw[cY,zS];rfl
noncomputable def cr (t0:Int):Option (Bool×Unit×Unit):=
 brk (decide (t0=25)) (
  some (true,aa)) (
  brk (decide (t0=50)) (
   some (true,aa)) (
   brk (decide (t0=62)) (
    some (true,aa)) (
    some (decide (t0=69),aa))))
theorem tu (T:S.Tab):bH (sn 1 T)=cr:=by
 funext a0
 show bH (S.step (sn 0 T)) a0=_;rw[ti];rfl
noncomputable def dj (t0:Int):Option (Bool×Unit×Unit):=
 brk (decide (t0=1)) (
  brk (decide (t0=1)) (
   some (true,aa)) (
   (cr t0).bind fun d17=>
   some (d17.1,aa))) (
  brk (decide (t0=2)) (
   brk (decide (t0=2)) (
    some (true,aa)) (
    (cr t0).bind fun d17=>
    some (d17.1,aa))) (
   brk (decide (t0=3)) (
    brk (decide (t0=3)) (
     some (true,aa)) (
     (cr t0).bind fun d17=>
     some (d17.1,aa))) (
    brk (decide (t0=4)) (
     brk (decide (t0=4)) (
      some (true,aa)) (
      (cr t0).bind fun d17=>
      some (d17.1,aa))) (
     brk (decide (t0=24)) (
      brk (decide (t0=24)) (
       some (true,aa)) (
       (cr t0).bind fun d17=>
       some (d17.1,aa))) (
      brk (decide (t0=29)) (
       brk (decide (t0=29)) (
        some (true,aa)) (
        (cr t0).bind fun d17=>
        some (d17.1,aa))) (
       brk (decide (t0=17)) (
        brk (decide (t0=17)) (
         some (true,aa)) (
         (cr t0).bind fun d17=>
         some (d17.1,aa))) (
        brk (decide (t0=49)) (
         brk (decide (t0=49)) (
          some (true,aa)) (
          (cr t0).bind fun d17=>
          some (d17.1,aa))) (
         brk (decide (t0=18)) (
          brk (decide (t0=18)) (
           some (true,aa)) (
           (cr t0).bind fun d17=>
           some (d17.1,aa))) (
          brk (decide (t0=40)) (
           brk (decide (t0=40)) (
            some (true,aa)) (
            (cr t0).bind fun d17=>
            some (d17.1,aa))) (
           brk (decide (t0=42)) (
            some (true,aa)) (
            (cr t0).bind fun d17=>
            some (d17.1,aa))))))))))))
theorem mg (T:S.Tab):cz (sn 2 T)=dj:=by
 have qb:bH (sn 1 T)=cr:=tu (sn 0 T)
 funext a0
 show cz (S.step (sn 1 T)) a0=_;rw[tC];rw[qb];rfl
noncomputable def dG (t0:Int)(t1:Int)(t2:Int):Option (LI×Unit×Unit×Unit×Unit):=
 brk (decide (t0=48)) (
  (an ([t0,1,t1]:LI)).bind fun d13=>
  some (d13.1,aP)) (
  brk (decide (t0=44)) (
   (an ([t0,119,45,t1]:LI)).bind fun d19=>
   some (d19.1,aP)) (
   brk (decide (t0=40)) (
    (an ([t0,123,41,t2]:LI)).bind fun d25=>
    some (d25.1,aP)) (
    some ([],aP))))
theorem tn (T:S.Tab):dL (sn 2 T)=dG:=by
 have cY:aA (sn 1 T)=an:=gY (sn 0 T)
 funext a0
 funext a1
 funext a2
 show dL (S.step (sn 1 T)) a0 a1 a2=_;rw[AA];rw[cY];rfl
noncomputable def iQ (t0:Int)(t1:Int)(t6:LI)(t9:Int)(t10:Bool):Option ((Int×Int×LI×Unit)⊕Empty):=
 brk (t10) (
  (dG t1 110 111).bind fun d15=>
  some (Sum.inl (t0,t1,d15.1,()))) (
  brk (decide (t9=114)) (
   brk (decide (t9=114)) (
    (dG t1 114 115).bind fun d20=>
    some (Sum.inl (t0,t1,d20.1,()))) (
    brk (decide (t9=117)) (
     brk (decide (t9=117)) (
      (dG t1 117 118).bind fun d25=>
      some (Sum.inl (t0,t1,d25.1,()))) (
      some (Sum.inl (t0,t1,t6,())))) (
     brk (decide (t9=118)) (
      (dG t1 117 118).bind fun d25=>
      some (Sum.inl (t0,t1,d25.1,()))) (
      some (Sum.inl (t0,t1,t6,())))))) (
   brk (decide (t9=115)) (
    (dG t1 114 115).bind fun d20=>
    some (Sum.inl (t0,t1,d20.1,()))) (
    brk (decide (t9=117)) (
     brk (decide (t9=117)) (
      (dG t1 117 118).bind fun d25=>
      some (Sum.inl (t0,t1,d25.1,()))) (
      some (Sum.inl (t0,t1,t6,())))) (
     brk (decide (t9=118)) (
      (dG t1 117 118).bind fun d25=>
      some (Sum.inl (t0,t1,d25.1,()))) (
      some (Sum.inl (t0,t1,t6,())))))))
theorem vq (T:S.Tab):gr (sn 3 T)=iQ:=by
 have qa:dL (sn 2 T)=dG:=tn (sn 0 T)
 funext a0
 funext a1
 funext a2
 funext a3
 funext a4
 show gr (S.step (sn 2 T)) a0 a1 a2 a3 a4=_;rw[vA];rw[qa];rfl
noncomputable def hZ (t0:Int)(t1:Int):Option ((LI×Bool×Unit)⊕Empty):=
 brk (decide (t0=113)) (
  brk (decide (t0=116)) (
   brk (decide (t1=1)) (
    (an ([t1,117]:LI)).bind fun d65=>
    some (Sum.inl (d65.1,true,()))) (
    brk (decide (t1=40)) (
     (an ([t1,119,41,117]:LI)).bind fun d71=>
     some (Sum.inl (d71.1,true,()))) (
     some (Sum.inl ([],false,()))))) (
   brk (decide (t1=1)) (
    (an ([t1,114]:LI)).bind fun d65=>
    some (Sum.inl (d65.1,true,()))) (
    brk (decide (t1=40)) (
     (an ([t1,119,41,115]:LI)).bind fun d71=>
     some (Sum.inl (d71.1,true,()))) (
     some (Sum.inl ([],false,())))))) (
  brk (decide (t0=116)) (
   brk (decide (t0=116)) (
    brk (decide (t1=1)) (
     (an ([t1,117]:LI)).bind fun d65=>
     some (Sum.inl (d65.1,true,()))) (
     brk (decide (t1=40)) (
      (an ([t1,119,41,117]:LI)).bind fun d71=>
      some (Sum.inl (d71.1,true,()))) (
      some (Sum.inl ([],false,()))))) (
    brk (decide (t1=1)) (
     (an ([t1,114]:LI)).bind fun d65=>
     some (Sum.inl (d65.1,true,()))) (
     brk (decide (t1=40)) (
      (an ([t1,119,41,115]:LI)).bind fun d71=>
      some (Sum.inl (d71.1,true,()))) (
      some (Sum.inl ([],false,())))))) (
   some (Sum.inl ([],false,()))))
theorem vc (T:S.Tab):fL (sn 2 T)=hZ:=by
 have cY:aA (sn 1 T)=an:=gY (sn 0 T)
 funext a0
 funext a1
 show fL (S.step (sn 1 T)) a0 a1=_;rw[vg];rw[cY];rfl
noncomputable def ia (t0:Int)(t1:Int)(t6:LI):Option ((LI×Bool×Unit)⊕Empty):=
 brk (decide (0<(t6.length:Int))) (
  some (Sum.inl (t6,true,()))) (
  brk (decide (t0=111)) (
   some (Sum.inl ([],true,()))) (
   brk (decide (t0=118)) (
    some (Sum.inl ([],true,()))) (
    brk (decide (t0=110)) (
     brk (decide (t1=46)) (
      (an ([t1,113]:LI)).bind fun d46=>
      some (Sum.inl (d46.1,true,()))) (
      brk (decide (t1=47)) (
       (an ([t1,124]:LI)).bind fun d51=>
       some (Sum.inl (d51.1,true,()))) (
       (hZ t0 t1).bind (aN
         (fun Ht=>
        some (Sum.inl Ht)))))) (
     brk (decide (t0=114)) (
      brk (decide (t1=46)) (
       (an ([t1,113]:LI)).bind fun d46=>
       some (Sum.inl (d46.1,true,()))) (
       brk (decide (t1=47)) (
        (an ([t1,124]:LI)).bind fun d51=>
        some (Sum.inl (d51.1,true,()))) (
        (hZ t0 t1).bind (aN
          (fun Ht=>
         some (Sum.inl Ht)))))) (
      (hZ t0 t1).bind (aN
        (fun Ht=>
       some (Sum.inl Ht))))))))
theorem vf (T:S.Tab):fK (sn 3 T)=ia:=by
 have cY:aA (sn 2 T)=an:=gY (sn 1 T);have wV:fL (sn 2 T)=hZ:=vc (sn 0 T)
 funext a0
 funext a1
 funext a2
 show fK (S.step (sn 2 T)) a0 a1 a2=_;rw[u9];rw[cY,wV];rfl
noncomputable def oE (t0:Int)(t1:Int):Option ((LI×Bool×Unit)×Unit×Unit×Unit):=
 brk (decide (t0=110)) (
  (iQ t0 t1 [] t0 (decide (t0=110))).bind (aN
    (fun y6=>
   (ia y6.1 y6.2.1 y6.2.2.1).bind (aN
     (fun kW=>
    some (kW,ab)))))) (
  brk (decide (t0=111)) (
   (iQ t0 t1 [] t0 (decide (t0=111))).bind (aN
     (fun y6=>
    (ia y6.1 y6.2.1 y6.2.2.1).bind (aN
      (fun kW=>
     some (kW,ab)))))) (
   (iQ t0 t1 [] t0 (decide (t0=112))).bind (aN
     (fun y6=>
    (ia y6.1 y6.2.1 y6.2.2.1).bind (aN
      (fun kW=>
     some (kW,ab)))))))
theorem yP (T:S.Tab):lU (sn 4 T)=oE:=by
 have xA:gr (sn 3 T)=iQ:=vq (sn 0 T);have wQ:fK (sn 3 T)=ia:=vf (sn 0 T)
 funext a0
 funext a1
 show lU (S.step (sn 3 T)) a0 a1=_;rw[yQ];rw[xA,wQ];rfl
noncomputable def cy (t0:Int)(t1:Int)(t93:Bool):Option ((LI×Bool×Unit)⊕(gE.den)⊕Empty):=
 brk (t93) (
  (oE t0 t1).bind fun d105=>
  some (Sum.inl d105.1)) (
  some (Sum.inr (Sum.inl (t0,t1,()))))
theorem vB (T:S.Tab):cg (sn 5 T)=cy:=by
 have Bd:lU (sn 4 T)=oE:=yP (sn 0 T)
 funext a0
 funext a1
 funext a2
 show cg (S.step (sn 4 T)) a0 a1 a2=_;rw[vw];rw[Bd];rfl
noncomputable def sK (t0:Int):Option ((LI×Bool×Unit)×Unit×Unit):=
 (cr t0).bind fun d5=>
 brk (d5.1) (
  (an ([t0,120]:LI)).bind fun d8=>
  some ((d8.1,true,()),aa)) (
  brk (decide (t0=1)) (
   (an ([t0,122]:LI)).bind fun d14=>
   some ((d14.1,true,()),aa)) (
   brk (decide (t0=40)) (
    (an ([t0,119,41,122]:LI)).bind fun d19=>
    some ((d19.1,true,()),aa)) (
    brk (decide (t0=42)) (
     (an ([t0,129,43]:LI)).bind fun d24=>
     some ((d24.1,true,()),aa)) (
     brk (decide (t0=18)) (
      (an ([t0,133]:LI)).bind fun d29=>
      some ((d29.1,true,()),aa)) (
      (an ([t0]:LI)).bind fun d32=>
      (dj t0).bind fun d34=>
      some ((d32.1,d34.1,()),aa))))))
theorem CY (T:S.Tab):pA (sn 3 T)=sK:=by
 have cY:aA (sn 2 T)=an:=gY (sn 1 T);have qb:bH (sn 2 T)=cr:=tu (sn 1 T);have iN:cz (sn 2 T)=dj:=mg (sn 0 T)
 funext a0
 show pA (S.step (sn 2 T)) a0=_;rw[CW];rw[cY,qb,iN];rfl
noncomputable def rI (t0:Int):Option (Bool×Unit×Unit):=
 brk (decide (t0=10)) (
  some (true,aa)) (
  brk (decide (t0=26)) (
   some (true,aa)) (
   some (decide (60<t0),aa)))
theorem BT (T:S.Tab):jH (sn 1 T)=rI:=by
 funext a0
 show jH (S.step (sn 0 T)) a0=_;rw[uV];rfl
noncomputable def jC (t0:Int)(t1:Int)(t6:Int)(t49:Bool):Option ((LI×Bool×Unit)⊕(Int×Unit)⊕Empty):=
 brk (t49) (
  brk (decide (t1=1)) (
   (an ([t1,127]:LI)).bind fun d56=>
   some (Sum.inl (d56.1,true,()))) (
   brk (decide (t1=49)) (
    (an ([t1]:LI)).bind fun d61=>
    some (Sum.inl (d61.1,true,()))) (
    some (Sum.inl ([],decide (t0=126),()))))) (
  brk (decide (t6=127)) (
   brk (decide (t1=46)) (
    (an ([t1,128]:LI)).bind fun d70=>
    some (Sum.inl (d70.1,true,()))) (
    some (Sum.inl ([],true,())))) (
   brk (decide (t6=129)) (
    (dj t1).bind fun d74=>
    brk (d74.1) (
     (an ([131,130]:LI)).bind fun d84=>
     some (Sum.inl (d84.1,true,()))) (
     brk (decide (t1=48)) (
      (an ([131,130]:LI)).bind fun d84=>
      some (Sum.inl (d84.1,true,()))) (
      brk (decide (t1=44)) (
       (an ([131,130]:LI)).bind fun d84=>
       some (Sum.inl (d84.1,true,()))) (
       some (Sum.inl ([],true,())))))) (
    brk (decide (t6=130)) (
     brk (decide (t1=46)) (
      (an ([t1,129]:LI)).bind fun d91=>
      some (Sum.inl (d91.1,true,()))) (
      some (Sum.inl ([],true,())))) (
     brk (decide (t6=131)) (
      brk (decide (t1=48)) (
       (an ([t1,1,47,119]:LI)).bind fun d98=>
       some (Sum.inl (d98.1,true,()))) (
       brk (decide (t1=44)) (
        (an ([t1,119,45,47,119]:LI)).bind fun d103=>
        some (Sum.inl (d103.1,true,()))) (
        (an ([119]:LI)).bind fun d105=>
        (dj t1).bind fun d107=>
        some (Sum.inl (d105.1,d107.1,()))))) (
      brk (decide (t6=132)) (
       (an ([42,100,43]:LI)).bind fun d111=>
       some (Sum.inl (d111.1,decide (t1=42),()))) (
       some (Sum.inr (Sum.inl (t1,())))))))))
theorem vd (T:S.Tab):gT (sn 3 T)=jC:=by
 have cY:aA (sn 2 T)=an:=gY (sn 1 T);have iN:cz (sn 2 T)=dj:=mg (sn 0 T)
 funext a0
 funext a1
 funext a2
 funext a3
 show gT (S.step (sn 2 T)) a0 a1 a2 a3=_;rw[u7];rw[cY,iN];rfl
noncomputable def oI (t0:Int)(t1:Int):Option ((LI×Bool×Unit)×Unit×Unit×Unit):=
 brk (decide (t0=119)) (
  (an ([120,121]:LI)).bind fun d10=>
  (dj t1).bind fun d12=>
  some ((d10.1,d12.1,()),ab)) (
  brk (decide (t0=120)) (
   (sK t1).bind fun d16=>
   some (d16.1,ab)) (
   brk (decide (t0=121)) (
    (rI t1).bind fun d22=>
    brk (d22.1) (
     (an ([t1,119]:LI)).bind fun d25=>
     some ((d25.1,true,()),ab)) (
     some (([],true,()),ab))) (
    brk (decide (t0=122)) (
     (dG t1 122 122).bind fun d29=>
     some ((d29.1,true,()),ab)) (
     brk (decide (t0=123)) (
      (dj t1).bind fun d33=>
      brk (d33.1) (
       (an ([124]:LI)).bind fun d35=>
       some ((d35.1,true,()),ab)) (
       some (([],true,()),ab))) (
      brk (decide (t0=124)) (
       (an ([119,125]:LI)).bind fun d39=>
       (dj t1).bind fun d41=>
       some ((d39.1,d41.1,()),ab)) (
       brk (decide (t0=125)) (
        brk (decide (t1=46)) (
         (an ([t1,119,125]:LI)).bind fun d48=>
         some ((d48.1,true,()),ab)) (
         some (([],true,()),ab))) (
        brk (decide (t0=126)) (
         (jC t0 t1 t0 (decide (t0=126))).bind (bw
           (fun uS=>
          some (uS,ab))
           (fun uS=>
          (an ([40,126,41,132]:LI)).bind fun d115=>
          some ((d115.1,decide (uS.1=40),()),ab)))) (
         (jC t0 t1 t0 (decide (t0=128))).bind (bw
           (fun uS=>
          some (uS,ab))
           (fun uS=>
          (an ([40,126,41,132]:LI)).bind fun d115=>
          some ((d115.1,decide (uS.1=40),()),ab)))))))))))
theorem yL (T:S.Tab):lV (sn 4 T)=oI:=by
 have cY:aA (sn 3 T)=an:=gY (sn 2 T);have iN:cz (sn 3 T)=dj:=mg (sn 1 T);have qa:dL (sn 3 T)=dG:=tn (sn 1 T);have Fm:pA (sn 3 T)=sK:=CY (sn 0 T);have Ez:jH (sn 3 T)=rI:=BT (sn 2 T);have wW:gT (sn 3 T)=jC:=vd (sn 0 T)
 funext a0
 funext a1
 show lV (S.step (sn 3 T)) a0 a1=_;rw[yR];rw[cY,iN,qa,Fm,Ez,wW];rfl
noncomputable def cw (t0:Int)(t1:Int):Option ((LI×Bool×Unit)⊕Empty):=
 (oI t0 t1).bind fun d110=>
 some (Sum.inl d110.1)
theorem vI (T:S.Tab):cf (sn 5 T)=cw:=by
 have Bf:lV (sn 4 T)=oI:=yL (sn 0 T)
 funext a0
 funext a1
 show cf (S.step (sn 4 T)) a0 a1=_;rw[vG];rw[Bf];rfl
noncomputable def uW (t0:Int)(t1:Int):Option ((LI×Bool×Unit)×Unit×Unit×Unit):=
 brk (decide (t0=100)) (
  brk (decide (t1=5)) (
   (an ([t1,100]:LI)).bind fun d15=>
   some ((d15.1,true,()),ab)) (
   (sU t1).bind fun d18=>
   brk (d18.1.2.1) (
    brk (fits (d18.1.1.length+1)) (
    some ((d18.1.1++([101]:LI),true,()),ab)) none) (
    some (([],true,()),ab)))) (
  brk (decide (t0=101)) (
   brk (decide (t1=5)) (
    (an ([t1,100]:LI)).bind fun d31=>
    some ((d31.1,true,()),ab)) (
    some (([],true,()),ab))) (
   brk (decide (t0=103)) (
    brk (decide (t1=47)) (
     (an ([t1,124]:LI)).bind fun d38=>
     some ((d38.1,true,()),ab)) (
     some (([],true,()),ab))) (
    brk (decide (t0=104)) (
     brk (decide (t1=46)) (
      (an ([t1,1,104]:LI)).bind fun d45=>
      some ((d45.1,true,()),ab)) (
      some (([],true,()),ab))) (
     brk (decide (t0=105)) (
      brk (decide (t1=15)) (
       (an ([t1,119,132,105]:LI)).bind fun d52=>
       some ((d52.1,true,()),ab)) (
       brk (decide (t1=16)) (
        (an ([t1,132]:LI)).bind fun d57=>
        some ((d57.1,true,()),ab)) (
        some (([],true,()),ab)))) (
      brk (decide (t0=106)) (
       brk (decide (t1=47)) (
        (an ([t1,119,46,119,107,132]:LI)).bind fun d64=>
        some ((d64.1,true,()),ab)) (
        (an ([104,21,119,132]:LI)).bind fun d66=>
        brk (decide (t1=46)) (
         some ((d66.1,true,()),ab)) (
         some ((d66.1,decide (t1=21),()),ab)))) (
       brk (decide (t0=107)) (
        brk (decide (t1=46)) (
         (an ([t1,119]:LI)).bind fun d79=>
         some ((d79.1,true,()),ab)) (
         some (([],true,()),ab))) (
        brk (decide (t0=108)) (
         (dj t1).bind fun d83=>
         brk (d83.1) (
          (an ([124]:LI)).bind fun d85=>
          some ((d85.1,true,()),ab)) (
          some (([],true,()),ab))) (
         brk (decide (t0=109)) (
          brk (decide (t1=46)) (
           (an ([t1,1]:LI)).bind fun d92=>
           some ((d92.1,true,()),ab)) (
           some (([],true,()),ab))) (
          brk (decide (t0=110)) (
           (cy t0 t1 (decide (t0=110))).bind (bw
             (fun jP=>
            some (jP,ab))
             (fun jP=>
            (cw jP.1 jP.2.1).bind (aN
              (fun wP=>
             some (wP,ab)))))) (
           brk (decide (t0=111)) (
            (cy t0 t1 (decide (t0=111))).bind (bw
              (fun jP=>
             some (jP,ab))
              (fun jP=>
             (cw jP.1 jP.2.1).bind (aN
               (fun wP=>
              some (wP,ab)))))) (
            brk (decide (t0=112)) (
             (cy t0 t1 (decide (t0=112))).bind (bw
               (fun jP=>
              some (jP,ab))
               (fun jP=>
              (cw jP.1 jP.2.1).bind (aN
                (fun wP=>
               some (wP,ab)))))) (
             brk (decide (t0=113)) (
              (cy t0 t1 (decide (t0=113))).bind (bw
                (fun jP=>
               some (jP,ab))
                (fun jP=>
               (cw jP.1 jP.2.1).bind (aN
                 (fun wP=>
                some (wP,ab)))))) (
              brk (decide (t0=114)) (
               (cy t0 t1 (decide (t0=114))).bind (bw
                 (fun jP=>
                some (jP,ab))
                 (fun jP=>
                (cw jP.1 jP.2.1).bind (aN
                  (fun wP=>
                 some (wP,ab)))))) (
               brk (decide (t0=115)) (
                (cy t0 t1 (decide (t0=115))).bind (bw
                  (fun jP=>
                 some (jP,ab))
                  (fun jP=>
                 (cw jP.1 jP.2.1).bind (aN
                   (fun wP=>
                  some (wP,ab)))))) (
                brk (decide (t0=116)) (
                 (cy t0 t1 (decide (t0=116))).bind (bw
                   (fun jP=>
                  some (jP,ab))
                   (fun jP=>
                  (cw jP.1 jP.2.1).bind (aN
                    (fun wP=>
                   some (wP,ab)))))) (
                 brk (decide (t0=117)) (
                  (cy t0 t1 (decide (t0=117))).bind (bw
                    (fun jP=>
                   some (jP,ab))
                    (fun jP=>
                   (cw jP.1 jP.2.1).bind (aN
                     (fun wP=>
                    some (wP,ab)))))) (
                  (cy t0 t1 (decide (t0=118))).bind (bw
                    (fun jP=>
                   some (jP,ab))
                    (fun jP=>
                   (cw jP.1 jP.2.1).bind (aN
                     (fun wP=>
                    some (wP,ab))))))))))))))))))))))
theorem zZ (T:S.Tab):gW (sn 6 T)=uW:=by
 have cY:aA (sn 5 T)=an:=gY (sn 4 T);have Fp:pD (sn 5 T)=sU:=CQ (sn 2 T);have iN:cz (sn 5 T)=dj:=mg (sn 3 T);have xy:cg (sn 5 T)=cy:=vB (sn 0 T);have xw:cf (sn 5 T)=cw:=vI (sn 0 T)
 funext a0
 funext a1
 show gW (S.step (sn 5 T)) a0 a1=_;rw[Am];rw[cY,Fp,iN,xy,xw];rfl
noncomputable abbrev RI (s:Int):Bool:=kinds.all fun k=>decide (Bn s k=some (((eE s k).1,(eE s k).2.1,(eE s k).2.2,()),ab))
noncomputable abbrev RS (s:Int):Bool:=kinds.all fun k=>decide (uW s k=some (((ov s k).1,(ov s k).2,()),ab))
theorem XT:(allI.all RI)=true:=by kernel_rfl
theorem X8:(wJ.all RS)=true:=by kernel_rfl
theorem TD (T:S.Tab){s:Int}(h:s∈allI):(kinds.all fun k=>decide (kj (sn 3 T) s k=some (((eE s k).1,(eE s k).2.1,(eE s k).2.2,()),ab)))=true:=by
 rw[F6];exact List.all_eq_true.1 XT s h
theorem TA (T:S.Tab){s:Int}(h:s∈wJ):(kinds.all fun k=>decide (gW (sn 6 T) s k=some (((ov s k).1,(ov s k).2,()),ab)))=true:=by
 rw[zZ];exact List.all_eq_true.1 X8 s h
end Go.Abs.D
end

section
namespace Go.Abs.D
theorem Cs:Evt fun n=>∀s k:Int,s∈allI→0≤k→k≤78→kj (S.tab n) s k=some (((eE s k).1,(eE s k).2.1,(eE s k).2.2,()),ab):=by
 have h:Evt fun n=>∀s k:Int,s∈allI→0≤k→k≤78→kj (S.tab (n+3)) s k=some (((eE s k).1,(eE s k).2.1,(eE s k).2.2,()),ab):=Evt.of fun n s k hs h0 h1=>
  of_decide_eq_true (List.all_eq_true.1 (TD (S.tab n) hs) k (iT h0 h1))
 obtain⟨N,h⟩:=h
 exact⟨N+3,fun n hn=>by
  have e:n - 3+3=n:=(by omega);rw[←e]
  exact h (n - 3) (by omega)⟩
theorem FO:Evt fun n=>∀s k:Int,s∈wJ→0≤k→k≤78→gW (S.tab n) s k=some (((ov s k).1,(ov s k).2,()),ab):=by
 have h:Evt fun n=>∀s k:Int,s∈wJ→0≤k→k≤78→gW (S.tab (n+6)) s k=some (((ov s k).1,(ov s k).2,()),ab):=Evt.of fun n s k hs h0 h1=>
  of_decide_eq_true (List.all_eq_true.1 (TA (S.tab n) hs) k (iT h0 h1))
 obtain⟨N,h⟩:=h
 exact⟨N+6,fun n hn=>by
  have e:n - 6+6=n:=(by omega);rw[←e]
  exact h (n - 6) (by omega)⟩
theorem isEmpty_cons (s:Int)(r:LI):(!(s::r).isEmpty)=true:=rfl
theorem LK (k:Int)(row:LI)(Hq:row.length≤100):∀(m:Nat)(st:LI),m≤row.length→Evt fun n=>ld (S.tab n) st k row ((m:Int) - 1)=some (Sum.inl (row.take m++st,k,()))
 |0,st,_=>aD.up fun n _=>by
  rw[tp,az (by decide)];rfl
 |m+1,st,hm=>by
  have Jq:m<row.length:=(by omega);have ih:=LK k row Hq m (row[m]::st) (by omega);have e0:((m+1:Nat):Int) - 1=(m:Int):=(by omega)
  have hg:row.getD (m:Int).toNat 0=row[m]:=by rw[Int.toNat_natCast,ap9,ap8 Jq];rfl
  refine ih.up fun n ih=> ?_
  rw[e0,tp,ad (by simp only[ao1];omega),ad (al Jq),hg,wrap64 _ (by omega) (by omega),ih,List.take_succ_eq_append_getElem Jq,ao4];rfl
theorem JQ {s k:Int}(hs:s∈allI)(h0:0≤k)(h1:k≤78)(r:LI){X:(LI×Unit)⊕Unit⊕Empty}(hlen:(eE s k).1.length≤100)
  (hy:(eE s k).2.1=true→Evt fun n=>dD (S.tab n) ((eE s k).1++r) k=some X)
  (he:(eE s k).2.1=false→(eE s k).2.2=true→Evt fun n=>dD (S.tab n) r k=some X)
  (hn:(eE s k).2.1=false→(eE s k).2.2=false→X=Sum.inl ([],())):Evt fun n=>dD (S.tab n) (s::r) k=some X:=by
 have EM:1000≤s:=by
  unfold allI at hs;obtain⟨n,_,rfl⟩:=List.mem_map.1 hs;omega
 have start:∀n,(∀s k:Int,s∈allI→0≤k→k≤78→kj (S.tab n) s k=some (((eE s k).1,(eE s k).2.1,(eE s k).2.2,()),ab))→dD (S.step (S.tab n)) (s::r) k=brk (eE s k).2.1 ((ld (S.tab n) r k (eE s k).1 (i64.wrap (((eE s k).1.length:Int) - 1))).bind (aN fun kW=>dD (S.tab n) kW.1 kW.2.1)) (brk (eE s k).2.2 (dD (S.tab n) r k) (some (Sum.inl (([]:LI),())))):=fun n hr=>by
  rw[pU,ad (isEmpty_cons s r),ad (isEmpty_cons s r),ad (isEmpty_cons s r),az (by show decide (s<1000)=false;simp only[ao5];omega),ad (isEmpty_cons s r),ad (isEmpty_cons s r)];show(kj (S.tab n) s k).bind _=_;rw[hr s k hs h0 h1,an7];dsimp only;rw[ad (isEmpty_cons s r)];show brk _ (brk (!(s::r).isEmpty) _ none) _=_;rw[ad (isEmpty_cons s r),ad (isEmpty_cons s r),ad (isEmpty_cons s r)];rfl
 cases c1:(eE s k).2.1 with
 |true=>
  refine((Cs.and (hy c1)).and (LK k (eE s k).1 hlen (eE s k).1.length r (aq2 _))).up fun n ⟨⟨hr,hX⟩,hp⟩=> ?_
  rw[start n hr,ad c1,wrap64 _ (by omega) (by omega)];show(ld (S.tab n) r k (eE s k).1 (((eE s k).1.length:Int) - 1)).bind _=_;rw[hp,an7,List.take_length];exact hX
 |false=>
  cases c2:(eE s k).2.2 with
  |true=>
   refine(Cs.and (he c1 c2)).up fun n ⟨hr,hX⟩=> ?_
   rw[start n hr,az c1,ad c2];exact hX
  |false=>
   refine Cs.up fun n hr=> ?_
   rw[start n hr,az c1,az c2,hn c1 c2]
end Go.Abs.D
end

section
namespace Go.Abs.D
def KN:Nat→LI→Int→Bool
 |0,_,_=>false
 |_+1,[],_=>true
 |n+1,s::r,k=>bif decide (s<1000)then true else bif(eE s k).2.1 then KN n ((eE s k).1++r) k else bif(eE s k).2.2 then KN n r k else true
def Pm (s:Int):Bool:=(decide (0≤s)&&decide (s≤78))||allI.contains s
theorem N7:(allI.all fun s=>kinds.all fun k=>KN 9 [s] k)=true:=by kernel_rfl
theorem VR:(allI.all fun s=>kinds.all fun k=>(eE s k).1.all Pm&&decide ((eE s k).1.length≤100))=true:=by kernel_rfl
theorem GD {s:Int}(h:Pm s=true):okI s:=by
 unfold Pm at h;simp only[ar7,ao3,ao1,List.contains_iff_mem]at h;exact h
theorem Q8 {s k:Int}(hs:s∈allI)(h0:0≤k)(h1:k≤78):(∀x∈(eE s k).1,okI x)∧(eE s k).1.length≤100:=by
 have:=List.all_eq_true.1 (List.all_eq_true.1 VR s hs) k (iT h0 h1);rw[ao3,ao1]at this;exact⟨fun x hx=>GD (List.all_eq_true.1 this.1 x hx),this.2⟩
def Sf (o:Out)(c:LI):(LI×Unit)⊕Unit⊕Empty:=match o with
 | .no=>Sum.inl ([],())
 | .gone=>Sum.inl ([],())
 | .left l=>Sum.inl (l++c,())
theorem N1 {s k:Int}(h:s<1000)(r:LI)(hr:r≠[]):Evt fun n=>dD (S.tab n) (s::r) k=some (bif decide (s=k)then Sum.inl (r,())else Sum.inl ([],())):=aD.up fun n _=>by
 rw[pU,ad (isEmpty_cons s r),ad (isEmpty_cons s r),ad (isEmpty_cons s r),ad (by show decide (s<1000)=true;exact an8 h),ad (isEmpty_cons s r),ad (isEmpty_cons s r)];show brk (decide (s=k)) _ _=_
 by_cases e:s=k
 ·rw[aL e,an8 e,ad (isEmpty_cons s r),ad (isEmpty_cons s r)];show brk r.isEmpty _ _=_;rw[az (by cases r with|nil=>exact absurd rfl hr|cons a b=>rfl),ad (isEmpty_cons s r),ad (isEmpty_cons s r)];rfl
 ·rw[aH e,an6 e];rfl
theorem DZ {k:Int}(h0:0≤k)(h1:k≤78){c:LI}(hc:c≠[]){X:(LI×Unit)⊕Unit⊕Empty}:∀(f:Nat)(l:LI),(∀s∈l,okI s)→KN f l k=true→
  (∀l',rW f l k= .left l'→X=Sum.inl (l'++c,()))→(rW f l k= .no→X=Sum.inl ([],()))→(rW f l k= .gone→Evt fun n=>dD (S.tab n) c k=some X)→Evt fun n=>dD (S.tab n) (l++c) k=some X
 |0,l,_,ht,_,_,_=>by cases ht
 |f+1,[],_,_,_,_,hg=>hg rfl
 |f+1,s::r,hs,ht,hl,hn,hg=>by
  have xW:∀x∈r,okI x:=fun x hx=>hs x (ap6 _ hx)
  unfold KN at ht;unfold rW at hl hn hg
  by_cases iO:s<1000
  ·rw[an8 iO]at hl hn hg;simp only[ap3]at hl hn hg;have:=N1 (k:=k) iO (r++c) (by simp[hc])
   by_cases e:s=k
   ·rw[an8 e]at hl hn hg this;rw[hl r rfl];exact this
   ·rw[an6 e]at hl hn hg this;rw[hn rfl];exact this
  ·rw[an6 iO]at ht hl hn hg;simp only[ao8]at ht hl hn hg
   have ab4:s∈allI:=by
    rcases hs s (ap7 ..)with h|h
    ·omega
    ·exact h
   obtain⟨ro,rl⟩:=Q8 ab4 h0 h1;refine JQ ab4 h0 h1 (r++c) rl (fun e=> ?_) (fun e e2=> ?_) (fun e e2=> ?_)
   ·rw[e]at ht hl hn hg;rw[←ao4];exact DZ h0 h1 hc f ((eE s k).1++r) (fun x hx=>(aq6.1 hx).elim (ro x) (xW x)) ht hl hn hg
   ·rw[e,e2]at ht hl hn hg;exact DZ h0 h1 hc f r xW ht hl hn hg
   ·rw[e,e2]at hl hn hg;exact hn rfl
end Go.Abs.D
end

section
namespace Go.Abs.D
theorem Q1 {k:Int}(h:k≠6):Evt fun n=>dD (S.tab n) [6] k=some (Sum.inl ([],())):=aD.up fun n _=>by
 rw[pU,ad (isEmpty_cons 6 []),ad (isEmpty_cons 6 []),ad (isEmpty_cons 6 []),ad (by rfl),ad (isEmpty_cons 6 []),ad (isEmpty_cons 6 [])];show brk (decide ((6:Int)=k)) _ _=_;rw[aH (fun e=>h e.symm)]
theorem XW {s k:Int}(hs:okI s)(h0:0≤k)(h1:k≤78):KN 9 [s] k=true:=by
 rcases hs with⟨_,h⟩|h
 ·unfold KN;rw[an8 (show s<1000 by omega)];rfl
 ·exact List.all_eq_true.1 (List.all_eq_true.1 N7 s h) k (iT h0 h1)
theorem IU {k:Int}(h0:0≤k)(h1:k≤78)(h6:k≠6):∀a:LI,(∀s∈a,okI s)→Evt fun n=>dD (S.tab n) (a++[6]) k=some (Sf (gD a k) [6])
 |[],_=>Q1 h6
 |s::r,hs=>by
  have hr:∀x∈r,okI x:=fun x hx=>hs x (ap6 _ hx)
  have ih:=IU h0 h1 h6 r hr;have Rz:=hs s (ap7 ..)
  have e2:gD (s::r) k=(stI s k).then r (gD r k):=fZ stI s r k
  rw[e2]
  have run:=DZ (k:=k) h0 h1 (c:=r++[6]) (by simp) (X:=Sf ((stI s k).then r (gD r k)) [6]) 9 [s] (fun x hx=>by
   have:x=s:=(by simpa using hx)
   subst this;exact Rz) (XW Rz h0 h1) (fun l' e=> ?_) (fun e=> ?_) (fun e=> ?_)
  ·exact run
  ·have e:stI s k= .left l':=e;rw[e];show Sum.inl ((l'++r)++[6],())=Sum.inl (l'++(r++[6]),());rw[ao4]
  ·have e:stI s k= .no:=e;rw[e];rfl
  ·have e:stI s k= .gone:=e;rw[e];exact ih
theorem Cw {k:Int}(h0:0≤k)(h1:k≤78)(h6:k≠6)(a:LI)(ha:∀s∈a,okI s):Evt fun n=>oK (S.tab n) (a++[6]) k=some (match gD a k with| .left l=>l++[6]|_=>[],ab):=
 (IU h0 h1 h6 a ha).up fun n h=>by
  rw[Gk,h,an7];cases gD a k<;>rfl
end Go.Abs.D
end

section
namespace Go.Abs.D
def isLeft:Out→Bool
 | .left _=>true
 |_=>false
def GY:Out→Bool
 | .gone=>true
 |_=>false
theorem XR:(allI.all fun s=>kinds.all fun k=>bif(eE s k).2.1 then isLeft (rW 9 [s] k)else bif(eE s k).2.2 then GY (rW 9 [s] k)else decide (rW 9 [s] k= .no))=true:=by kernel_rfl
def vl (o:Out)(d:Bool):Bool:=match o with
 | .no=>false
 | .gone=>d
 | .left _=>true
theorem LU {k:Int}(h0:0≤k)(h1:k≤78):∀a:LI,(∀s∈a,okI s)→Evt fun n=>pB (S.tab n) (a++[6]) k=some (Sum.inl (vl (gD a k) (decide (6=k)),()))
 |[],_=>aD.up fun n _=>by
  show pB (S.step (S.tab n)) [6] _=_;rw[rE,ad (isEmpty_cons 6 []),ad (isEmpty_cons 6 []),ad (isEmpty_cons 6 []),ad (by rfl),ad (isEmpty_cons 6 []),ad (isEmpty_cons 6 [])];rfl
 |s::r,hs=>by
  have hr:∀x∈r,okI x:=fun x hx=>hs x (ap6 _ hx)
  have ih:=LU h0 h1 r hr
  have e2:gD (s::r) k=(stI s k).then r (gD r k):=fZ stI s r k
  rw[e2,List.cons_append]
  rcases hs s (ap7 ..)with h|h
  ·refine aD.up fun n _=> ?_
   rw[rE,ad (isEmpty_cons s (r++[6])),ad (isEmpty_cons s (r++[6])),ad (isEmpty_cons s (r++[6])),ad (by show decide (s<1000)=true;simp only[ao1];omega),ad (isEmpty_cons s (r++[6])),ad (isEmpty_cons s (r++[6])),sE h.2];show some (Sum.inl (decide (s=k),()))=_;cases decide (s=k)<;>rfl
  ·have y:=List.all_eq_true.1 (List.all_eq_true.1 XR s h) k (iT h0 h1)
   have EM:1000≤s:=by
    unfold allI at h;obtain⟨n,_,rfl⟩:=List.mem_map.1 h;omega
   refine(ih.and Cs).up fun n ⟨ih,Xo⟩=> ?_
   rw[rE,ad (isEmpty_cons s (r++[6])),ad (isEmpty_cons s (r++[6])),ad (isEmpty_cons s (r++[6])),az (by show decide (s<1000)=false;simp only[ao5];omega),ad (isEmpty_cons s (r++[6])),ad (isEmpty_cons s (r++[6]))];show(kj (S.tab n) s k).bind _=_;rw[Xo s k h h0 h1,an7];dsimp only;have e9:stI s k=rW 9 [s] k:=rfl;rw[e9]
   cases c1:(eE s k).2.1 with
   |true=>
    rw[c1]at y;rw[ad (by rfl)]
    cases ho:rW 9 [s] k with
    |left l=>rfl
    |no=>rw[ho]at y;cases y
    |gone=>rw[ho]at y;cases y
   |false=>
    rw[c1]at y
    cases c2:(eE s k).2.2 with
    |true=>
     rw[c2]at y;rw[az (by rfl),az (by rfl),ad (isEmpty_cons s (r++[6])),ad (isEmpty_cons s (r++[6]))]
     cases ho:rW 9 [s] k with
     |gone=>exact ih
     |no=>rw[ho]at y;cases y
     |left l=>rw[ho]at y;cases y
    |false=>
     rw[c2]at y;rw[az (by rfl),ad (by rfl)]
     cases ho:rW 9 [s] k with
     |no=>rfl
     |gone=>rw[ho]at y;cases y
     |left l=>rw[ho]at y;cases y
theorem Ee {k:Int}(h0:0≤k)(h1:k≤78)(a:LI)(ha:∀s∈a,okI s):Evt fun n=>jM (S.tab n) (a++[6]) k=some (vl (gD a k) (decide (6=k)),ab):=
 (LU h0 h1 a ha).up fun n h=>by
  rw[HU,h];rfl
end Go.Abs.D
end

section
namespace Go.Abs.D
abbrev Cls:Type:=List gE.den
def Reads (cs:Cls):Int→LI→Prop
 |top,[]=>top= -1
 |top,s::l=>∃(i:Nat) (b:Int),top=(i:Int)∧cs[i]?=some (s,b,())∧Reads cs b l
theorem Reads.mono {cs ds:Cls}:∀{l:LI}{top:Int},Reads cs top l→Reads (cs++ds) top l
 |[],_,h=>h
 |s::l,_,⟨i,b,e,h,hr⟩=>⟨i,b,e,by
   have hi:=(List.getElem?_eq_some_iff.1 h).1
   rw[List.getElem?_append_left hi];exact h,hr.mono⟩
theorem Reads.push {cs:Cls}{l:LI}{top:Int}(h:Reads cs top l)(s:Int):Reads (cs++[(s,top,())]) (cs.length:Int) (s::l):=
 ⟨cs.length,top,rfl,by simp,h.mono⟩
theorem D2 (cs:Cls)(hl:cs.length≤2000000)(top s:Int):Evt fun n=>lf (S.tab n) (cs,()) top s=some ((cs.length:Int),(cs++[(s,top,())],()),(),(),()):=aD.up fun n _=>by
 rw[z7];dsimp only;rw[ad (dY (by unfold lim;simp;omega)),wrap64 _ (by simp) (by simp;omega)];simp
end Go.Abs.D
end

section
namespace Go.Abs.D
theorem FM (k:Int)(row:LI)(Hq:row.length≤100):∀(m:Nat)(cs:Cls)(top:Int)(l:LI),m≤row.length→Reads cs top l→cs.length+m≤2000000→
  ∃(ds:Cls) (jW:Int),ds.length=m∧Reads (cs++ds) jW (row.take m++l)∧Evt fun n=>jE (S.tab n) (cs,()) top k row ((m:Int) - 1)=some (Sum.inl ((cs++ds,()),jW,k,()))
 |0,cs,top,l,hm,hr,_=>⟨[],top,rfl,by rw[aq7];exact hr,aD.up fun n _=>by
  rw[pj,az (by decide),aq7]⟩
 |m+1,cs,top,l,hm,hr,hl=>by
  have Jq:m<row.length:=(by omega);obtain⟨ds,jW,hd,hR,hE⟩:=FM k row Hq m (cs++[(row[m],top,())]) (cs.length:Int) (row[m]::l) (by omega) (hr.push row[m]) (by simp;omega);have e0:((m+1:Nat):Int) - 1=(m:Int):=(by omega)
  have hg:row.getD (m:Int).toNat 0=row[m]:=by rw[Int.toNat_natCast,ap9,ap8 Jq];rfl
  refine⟨(row[m],top,())::ds,jW,by simp[hd], ?_, ?_⟩
  ·have e:cs++(row[m],top,())::ds=cs++[(row[m],top,())]++ds:=by rw[ao4];rfl
   have e':row.take (m+1)++l=row.take m++row[m]::l:=by rw[List.take_succ_eq_append_getElem Jq,ao4];rfl
   rw[e,e'];exact hR
  ·refine(hE.and (D2 cs (by omega) top row[m])).up fun n ⟨h,hp⟩=> ?_
   rw[e0,pj,ad (by simp only[ao1];omega),ad (al Jq),hg,hp,an7,wrap64 _ (by omega) (by omega)];dsimp only;rw[h,ao4];rfl
def MW:Nat→LI→Int→Bool
 |0,_,_=>false
 |_+1,[],_=>true
 |n+1,s::r,k=>bif decide (s<100)then true else bif(ov s k).2 then MW n ((ov s k).1++r) k else true
def Ff:Nat→LI→Int→Nat
 |0,_,_=>0
 |_+1,[],_=>0
 |n+1,s::r,k=>bif decide (s<100)then 0 else bif(ov s k).2 then(ov s k).1.length+Ff n ((ov s k).1++r) k else 0
def Rm (s:Int):Bool:=(decide (0≤s)&&decide (s≤78))||wJ.contains s
theorem Nz:(wJ.all fun s=>kinds.all fun k=>MW 9 [s] k)=true:=by kernel_rfl
theorem Oi:(wJ.all fun s=>kinds.all fun k=>decide (Ff 9 [s] k≤20)&&(bif decide (vi 9 [s] k= .gone)then decide (Ff 9 [s] k=0)else true))=true:=by kernel_rfl
theorem VJ:(wJ.all fun s=>kinds.all fun k=>(ov s k).1.all Rm&&decide ((ov s k).1.length≤100))=true:=by kernel_rfl
theorem K7 {s:Int}(h:Rm s=true):okS s:=by
 unfold Rm at h;simp only[ar7,ao3,ao1,List.contains_iff_mem]at h;exact h
theorem On {s k:Int}(hs:s∈wJ)(h0:0≤k)(h1:k≤78):(∀x∈(ov s k).1,okS x)∧(ov s k).1.length≤100:=by
 have:=List.all_eq_true.1 (List.all_eq_true.1 VJ s hs) k (iT h0 h1);rw[ao3,ao1]at this;exact⟨fun x hx=>K7 (List.all_eq_true.1 this.1 x hx),this.2⟩
theorem Ir {cs:Cls}{top s:Int}{r:LI}(h:Reads cs top (s::r)):decide (0≤top)=true∧(decide (0≤top)&&decide (top<(cs.length:Int)))=true∧∃b:Int,at_ (τ:=gE) cs top=(s,b,())∧Reads cs b r:=by
 obtain⟨i,b,rfl,hi,hr⟩:=h;have hl:=(List.getElem?_eq_some_iff.1 hi).1;refine⟨by simp,al hl,b, ?_,hr⟩;unfold at_;rw[Int.toNat_natCast,ap9,hi];rfl
def Ma (cs:Cls)(top k:Int)(y:(List gE.den×Unit)×Int×Bool×Unit):Prop:=Evt fun n=>dJ (S.tab n) (cs,()) top k=some (Sum.inl y)
theorem IK {k:Int}(h0:0≤k)(h1:k≤78){c:LI}:∀(f:Nat)(l:LI)(cs:Cls)(top:Int),(∀s∈l,okS s)→MW f l k=true→Reads cs top (l++c)→cs.length+Ff f l k≤2000000→
  ∃ds:Cls,ds.length≤Ff f l k∧
   (∀l',vi f l k= .left l'→∃jW,Reads (cs++ds) jW (l'++c)∧Ma cs top k ((cs++ds,()),jW,true,()))∧
   (vi f l k= .no→∃jW,Ma cs top k ((cs++ds,()),jW,false,()))∧
   (vi f l k= .gone→∃jW,Reads (cs++ds) jW c∧∀X,(Evt fun n=>dJ (S.tab n) (cs++ds,()) jW k=some X)→Evt fun n=>dJ (S.tab n) (cs,()) top k=some X)
 |0,l,_,_,_,ht,_,_=>by cases ht
 |f+1,[],cs,top,_,_,hr,_=>⟨[],as5 _,fun _ e=>(by cases e),fun e=>(by cases e),fun _=>⟨top,by rw[aq7];exact hr,fun X h=>by rw[aq7]at h;exact h⟩⟩
 |f+1,s::r,cs,top,hs,ht,hr,hl=>by
  have xW:∀x∈r,okS x:=fun x hx=>hs x (ap6 _ hx)
  obtain⟨d0,d1,b,hb,YD⟩:=Ir (s:=s) (r:=r++c) hr;unfold MW at ht;unfold Ff at hl⊢;unfold vi
  by_cases iO:s<100
  ·rw[an8 iO]at hl⊢;simp only[ap3]
   have hE:Ma cs top k ((cs,()),b,decide (s=k),()):=aD.up fun n _=>by
    rw[my,ad d0,ad d1,hb,aL iO]
   refine⟨[],as5 _, ?_⟩;rw[aq7]
   by_cases e:s=k
   ·rw[an8 e]at hE⊢;refine⟨fun l' e'=> ?_,fun e'=>(by cases e'),fun e'=>(by cases e')⟩
    injection e' with e'
    subst e';exact⟨b,YD,hE⟩
   ·rw[an6 e]at hE⊢;exact⟨fun l' e'=>(by cases e'),fun _=>⟨b,hE⟩,fun e'=>(by cases e')⟩
  ·rw[an6 iO]at ht hl⊢;simp only[ao8]at ht hl⊢
   have aa2:s∈wJ:=by
    rcases hs s (ap7 ..)with h|h
    ·omega
    ·exact h
   obtain⟨ro,rl⟩:=On aa2 h0 h1
   have start:∀n,(∀s k:Int,s∈wJ→0≤k→k≤78→gW (S.tab n) s k=some (((ov s k).1,(ov s k).2,()),ab))→dJ (S.step (S.tab n)) (cs,()) top k=brk (!(ov s k).2) (some (Sum.inl ((cs,()),b,false,()))) ((jE (S.tab n) (cs,()) b k (ov s k).1 (i64.wrap (((ov s k).1.length:Int) - 1))).bind (aN fun Jx=>dJ (S.tab n) Jx.1 Jx.2.1 Jx.2.2.1)):=fun n hx=>by
    rw[my,ad d0,ad d1,hb,aH iO];show(gW (S.tab n) s k).bind _=_;rw[hx s k aa2 h0 h1,an7]
   cases c1:(ov s k).2 with
   |false=>
    refine⟨[],as5 _,fun l' e'=>(by cases e'),fun _=>⟨b, ?_⟩,fun e'=>(by cases e')⟩;rw[aq7]
    refine FO.up fun n hx=> ?_
    rw[start n hx,c1,ad (by rfl)]
   |true=>
    rw[c1]at ht hl;simp only[ap3]at ht hl⊢;obtain⟨ds,WU,hd,hR,hE⟩:=FM k (ov s k).1 rl (ov s k).1.length cs b (r++c) (aq2 _) YD (by omega);rw[List.take_length,←ao4]at hR;obtain⟨es,he,a1,a2,a3⟩:=IK h0 h1 f ((ov s k).1++r) (cs++ds) WU (fun x hx=>(aq6.1 hx).elim (ro x) (xW x)) ht hR (by simp;omega)
    have pass:∀X,(Evt fun n=>dJ (S.tab n) (cs++ds,()) WU k=some X)→Evt fun n=>dJ (S.tab n) (cs,()) top k=some X:=fun X h=>by
     refine((FO.and h).and hE).up fun n ⟨⟨hx,h⟩,hE⟩=> ?_
     rw[start n hx,c1,az (by rfl),wrap64 _ (by omega) (by omega),hE,an7];exact h
    refine⟨ds++es,by simp;omega, ?_⟩;rw[←ao4];refine⟨fun l' e'=> ?_,fun e'=> ?_,fun e'=> ?_⟩
    ·obtain⟨t,h,hF⟩:=a1 l' e';exact⟨t,h,pass _ hF⟩
    ·obtain⟨t,hF⟩:=a2 e';exact⟨t,pass _ hF⟩
    ·obtain⟨t,h,hF⟩:=a3 e';exact⟨t,h,fun X hX=>pass _ (hF X hX)⟩
theorem VB {s k:Int}(hs:okS s)(h0:0≤k)(h1:k≤78):MW 9 [s] k=true∧Ff 9 [s] k≤20∧(stS s k= .gone→Ff 9 [s] k=0):=by
 rcases hs with⟨_,h⟩|h
 ·refine⟨by unfold MW;rw[an8 (show s<100 by omega)];rfl,by unfold Ff;rw[an8 (show s<100 by omega)];exact as5 _,fun _=>by unfold Ff;rw[an8 (show s<100 by omega)];rfl⟩
 ·have:=List.all_eq_true.1 (List.all_eq_true.1 Oi s h) k (iT h0 h1);rw[ao3,ao1]at this;refine⟨List.all_eq_true.1 (List.all_eq_true.1 Nz s h) k (iT h0 h1),this.1,fun e=> ?_⟩;have e:vi 9 [s] k= .gone:=e;rw[an8 e]at this;exact of_decide_eq_true this.2
theorem Iv {k:Int}(h0:0≤k)(h1:k≤78)(cs:Cls)(hl:cs.length≤1999900):∀(b:LI)(top:Int),(∀s∈b,okS s)→Reads cs top (b++[6])→
  ∃(ds:Cls) (jW:Int),ds.length≤20∧(∀l,oS b k= .left l→Reads (cs++ds) jW (l++[6]))∧Ma cs top k ((cs++ds,()),jW,vl (oS b k) (decide (6=k)),())
 |[],top,_,hr=>by
  obtain⟨d0,d1,b,hb,YD⟩:=Ir (s:=6) (r:=[]) hr;refine⟨[],b,as5 _,fun l e=>(by cases e), ?_⟩;rw[aq7]
  refine aD.up fun n _=> ?_
  rw[my,ad d0,ad d1,hb,ad (by rfl)];rfl
 |s::r,top,hs,hr=>by
  have xW:∀x∈r,okS x:=fun x hx=>hs x (ap6 _ hx)
  have Rz:=hs s (ap7 ..)
  have e2:oS (s::r) k=(stS s k).then r (oS r k):=fZ stS s r k
  obtain⟨t1,t2,t3⟩:=VB Rz h0 h1
  obtain⟨ds,hd,a1,a2,a3⟩:=IK h0 h1 (c:=r++[6]) 9 [s] cs top (fun x hx=>by
   have:x=s:=(by simpa using hx)
   subst this;exact Rz) t1 hr (by omega)
  rw[e2]
  cases ho:stS s k with
  |left l=>
   obtain⟨t,h,hF⟩:=a1 l ho;refine⟨ds,t,by omega,fun l' e=> ?_,hF⟩
   injection e with e
   subst e;rw[ao4];exact h
  |no=>
   obtain⟨t,hF⟩:=a2 ho;exact⟨ds,t,by omega,fun l' e=>(by cases e),hF⟩
  |gone=>
   obtain⟨t,h,hF⟩:=a3 ho;have af1:ds=[]:=List.length_eq_zero_iff.1 (by have:=t3 ho;omega);subst af1;rw[aq7]at h;obtain⟨es,t',he,b1,b2⟩:=Iv h0 h1 cs hl r t xW h;exact⟨es,t',he,b1,hF _ (by rw[aq7];exact b2)⟩
theorem zI {k:Int}(h0:0≤k)(h1:k≤78)(cs:Cls)(hl:cs.length≤1999900)(b:LI)(top:Int)(hs:∀s∈b,okS s)(hr:Reads cs top (b++[6])):
  ∃(ds:Cls) (jW:Int),ds.length≤20∧(∀l,oS b k= .left l→Reads (cs++ds) jW (l++[6]))∧Evt fun n=>jR (S.tab n) (cs,()) top k=some ((jW,vl (oS b k) (decide (6=k)),()),(cs++ds,()),(),(),()):=by
 obtain⟨ds,t,hd,h,hF⟩:=Iv h0 h1 cs hl b top hs hr;refine⟨ds,t,hd,h,hF.up fun n h=> ?_⟩;rw[Aj,h];rfl
end Go.Abs.D
end

section
namespace Go.Abs.D
def Pn (s:Int):Bool:=Rm s&& !(decide (s=2)||decide (s=3)||decide (s=7))
def LQ (p:Int→Bool):Out→Bool
 | .left l=>l.all p
 |_=>true
theorem VI:(allI.all fun s=>kinds.all fun k=>LQ Pm (rW 9 [s] k))=true:=by kernel_rfl
theorem V6:(wJ.all fun s=>kinds.all fun k=>LQ Pn (vi 9 [s] k))=true:=by kernel_rfl
theorem Ya:(wJ.all fun s=>(isLeft (vi 9 [s] 2)==isLeft (vi 9 [s] 3))&&(GY (vi 9 [s] 2)==GY (vi 9 [s] 3)))=true:=by kernel_rfl
def gdI (a:LI):Prop:=∀s∈a,okI s
def gdS (b:LI):Prop:=∀s∈b,Pn s=true
theorem GN {s:Int}(h:Pn s=true):okS s∧s≠2∧s≠3∧s≠7:=by
 unfold Pn at h;simp only[ao3,at0,Bool.or_eq_false_iff,ao5]at h;exact⟨K7 h.1,h.2.1.1,h.2.1.2,h.2.2⟩
theorem gdS.ok {b:LI}(h:gdS b):∀s∈b,okS s:=fun s hs=>(GN (h s hs)).1
theorem DW {k:Int}(h0:0≤k)(h1:k≤78):∀{a l:LI},gdI a→gD a k= .left l→gdI l
 |[],l,_,e=>by cases e
 |s::r,l,h,e=>by
  have hr:gdI r:=fun x hx=>h x (ap6 _ hx)
  have e2:gD (s::r) k=(stI s k).then r (gD r k):=fZ stI s r k
  rw[e2]at e
  have hs:∀l',stI s k= .left l'→gdI l':=fun l' e' x hx=>by
   rcases h s (ap7 ..)with⟨_,h⟩|h
   ·rw[sE h]at e'
    cases hd:decide (s=k)with
    |true=>rw[hd]at e';injection e' with e';subst e';cases hx
    |false=>rw[hd]at e';cases e'
   ·have:=List.all_eq_true.1 (List.all_eq_true.1 VI s h) k (iT h0 h1);have e':rW 9 [s] k= .left l':=e';rw[e']at this;exact GD (List.all_eq_true.1 this x hx)
  cases ho:stI s k with
  |no=>rw[ho]at e;cases e
  |gone=>rw[ho]at e;exact DW h0 h1 hr e
  |left l'=>
   rw[ho]at e
   injection e with e
   subst e
   exact fun x hx=>(aq6.1 hx).elim (hs l' ho x) (hr x)
theorem IN {k:Int}(h0:0≤k)(h1:k≤78):∀{b l:LI},gdS b→oS b k= .left l→gdS l
 |[],l,_,e=>by cases e
 |s::r,l,h,e=>by
  have hr:gdS r:=fun x hx=>h x (ap6 _ hx)
  have e2:oS (s::r) k=(stS s k).then r (oS r k):=fZ stS s r k
  rw[e2]at e
  have hs:∀l',stS s k= .left l'→gdS l':=fun l' e' x hx=>by
   rcases(GN (h s (ap7 ..))).1 with⟨_,h⟩|h
   ·rw[CA h]at e'
    cases hd:decide (s=k)with
    |true=>rw[hd]at e';injection e' with e';subst e';cases hx
    |false=>rw[hd]at e';cases e'
   ·have:=List.all_eq_true.1 (List.all_eq_true.1 V6 s h) k (iT h0 h1);have e':vi 9 [s] k= .left l':=e';rw[e']at this;exact List.all_eq_true.1 this x hx
  cases ho:stS s k with
  |no=>rw[ho]at e;cases e
  |gone=>rw[ho]at e;exact IN h0 h1 hr e
  |left l'=>
   rw[ho]at e
   injection e with e
   subst e
   exact fun x hx=>(aq6.1 hx).elim (hs l' ho x) (hr x)
theorem AE:∀{b:LI},gdS b→vl (oS b 2) false=vl (oS b 3) false
 |[],_=>rfl
 |s::r,h=>by
  have hr:gdS r:=fun x hx=>h x (ap6 _ hx)
  have ih:=AE hr
  have e2:oS (s::r) 2=(stS s 2).then r (oS r 2):=fZ stS s r 2
  have e3:oS (s::r) 3=(stS s 3).then r (oS r 3):=fZ stS s r 3
  obtain⟨hs,h2,h3,_⟩:=GN (h s (ap7 ..));rw[e2,e3]
  rcases hs with⟨_,h⟩|h
  ·rw[CA h,CA h,an6 h2,an6 h3];rfl
  ·have:=List.all_eq_true.1 Ya s h;have e:vi 9 [s] 2=stS s 2:=rfl;have e':vi 9 [s] 3=stS s 3:=rfl;rw[e,e']at this
   cases ho:stS s 2<;>cases Mg:stS s 3<;>rw[ho,Mg]at this<;>first|rfl|exact ih|(simp[isLeft,GY]at this)
def p8 (a:LI)(k:Int):Bool:=vl (gD a k) (decide (6=k))
def iW (b:LI)(k:Int):Bool:=vl (oS b k) (decide (6=k))
theorem IY (f:LI→LI)(o:Out)(d:Bool):vl (o.map f) d=vl o d:=by cases o<;>rfl
theorem Ia {a b:LI}(ha:gdI a)(hb:gdS b)(h:NI a=NS b){k:Int}(h0:0≤k)(h1:k≤78):p8 a k=iW b k:=by
 unfold p8 iW;rw[←IY NI (gD a k),←IY NS (oS b k),Ij h0 h1 ha hb.ok h]
theorem Ft {a b:LI}(ha:gdI a)(hb:gdS b)(h:NI a=NS b){k:Int}(h0:0≤k)(h1:k≤78)(h6:k≠6)(hc:p8 a k=true):∃l m,gD a k= .left l∧oS b k= .left m∧gdI l∧gdS m∧NI l=NS m:=by
 have hs:=Ij h0 h1 ha hb.ok h;unfold p8 at hc;rw[an6 (fun e=>h6 e.symm)]at hc
 cases ho:gD a k with
 |no=>rw[ho]at hc;cases hc
 |gone=>rw[ho]at hc;cases hc
 |left l=>
  rw[ho]at hs
  cases Mg:oS b k with
  |no=>rw[Mg]at hs;cases hs
  |gone=>rw[Mg]at hs;cases hs
  |left m=>
   rw[Mg]at hs
   injection hs with hs
   exact⟨l,m,rfl,rfl,DW h0 h1 ha ho,IN h0 h1 hb Mg,hs⟩
def pick (p:Int→Bool):Nat→LI
 |0=>[]
 |m+1=>(bif p ((78 - m:Nat):Int)then [((78 - m:Nat):Int)]else [])++pick p m
theorem D8 {p:Int→Bool}:∀{m:Nat}{k:Int},k∈pick p m→p k=true∧k≤78
 |0,k,h=>by cases h
 |m+1,k,h=>by
  unfold pick at h
  rcases aq6.1 h with h|h
  ·cases hp:p ((78 - m:Nat):Int)with
   |true=>
    rw[hp]at h;have:k=((78 - m:Nat):Int):=(by simpa using h);rw[this];exact⟨hp,by omega⟩
   |false=>rw[hp]at h;cases h
  ·exact D8 h
theorem D3 {p:Int→Bool}:∀{m:Nat}{k:Int},m≤78→(79:Int) - (m:Int)≤k→k≤78→p k=true→k∈pick p m
 |0,k,_,h,h',_=>by omega
 |m+1,k,hm,h,h',hp=>by
  unfold pick
  by_cases e:k=((78 - m:Nat):Int)
  ·rw[←e,hp];exact ar3 _ (List.mem_singleton.2 rfl)
  ·exact ar0 _ (D3 (by omega) (by omega) h' hp)
theorem IX {p:Int→Bool}:∀m:Nat,(pick p m).length≤m
 |0=>aq2 _
 |m+1=>by
  unfold pick;have:=IX (p:=p) m;cases p ((78 - m:Nat):Int)<;>simp<;>omega
theorem KC (cs:Cls)(yJ:cs.length≤1999900)(b:LI)(top:Int)(hb:gdS b)(hr:Reads cs top (b++[6])):∀(m:Nat)(acc:LI),m≤78→acc.length+m≤100→Evt fun n=>jv (S.tab n) (cs,()) top acc (cs.length:Int) ((79 - m:Nat):Int)=some (Sum.inl ((cs,()),acc++pick (iW b) m,()))
 |0,acc,_,_=>aD.up fun n _=>by
  rw[nh,az (by decide)];show _=some (Sum.inl ((cs,()),acc++[],()));rw[aq7]
 |m+1,acc,hm,hl=>by
  have e:(79 - (m+1):Nat)=78 - m:=(by omega)
  have w:i64.wrap (((78 - m:Nat):Int)+1)=((79 - m:Nat):Int):=by rw[wrap64 _ (by omega) (by omega)];omega
  have d:decide (((78 - m:Nat):Int)≤78)=true:=by simp only[ao1];omega
  rw[e];unfold pick;obtain⟨ds,jW,hd,_,hF⟩:=zI (k:=((78 - m:Nat):Int)) (by omega) (by omega) cs yJ b top hb.ok hr;have hk:vl (oS b ((78 - m:Nat):Int)) (decide ((6:Int)=((78 - m:Nat):Int)))=iW b ((78 - m:Nat):Int):=rfl;rw[hk]at hF;have Sk:bounds (cs++ds).length 0 (cs.length:Int)=true:=eD (i:=0) (as5 _) (by simp);have Z7:(cs++ds).take (cs.length:Int).toNat=cs:=(by rw[Int.toNat_natCast,List.take_left])
  cases WY:iW b ((78 - m:Nat):Int)with
  |true=>
   rw[WY]at hF
   refine((KC cs yJ b top hb hr m (acc++[((78 - m:Nat):Int)]) (by omega) (by simp;omega)).and hF).up fun n ⟨h,hc⟩=> ?_
   rw[nh,ad d,hc,an7];dsimp only;rw[ad Sk,ad rfl,ad (dY (by unfold lim;simp;omega)),Z7,w,h,ao4];rfl
  |false=>
   rw[WY]at hF
   refine((KC cs yJ b top hb hr m acc (by omega) (by omega)).and hF).up fun n ⟨h,hc⟩=> ?_
   rw[nh,ad d,hc,an7];dsimp only;rw[ad Sk,az rfl,Z7,w,h];rfl
theorem S6 (cs:Cls)(yJ:cs.length≤1999900)(b:LI)(top:Int)(hb:gdS b)(hr:Reads cs top (b++[6])):Evt fun n=>qo (S.tab n) (cs,()) top=some (pick (iW b) 78,(cs,()),(),()):=
 (KC cs yJ b top hb hr 78 [] (aq2 _) (by simp)).up fun n h=>by
  have h:jv (S.tab n) (cs,()) top [] (cs.length:Int) 1=_:=h;rw[BP];dsimp only;rw[h];rfl
end Go.Abs.D
end

section
namespace Go.Abs.D
def gi (k:Int)(s:LI):Bool:=
 decide (0<s.length)&&decide (s.length≤40)&&(match l9 s 0 with| .inl _=>false| .inr t=>decide (t.1=k)&&decide (t.2.2.1=(s.length:Int)))
theorem Bp (s:LI)(i j:Nat)(f:Bool):(ko s i j f).1=2∨(ko s i j f).1=3:=by
 unfold ko
 cases f|| !decide (dv 0 (bK s i j)<9223372036854775808)with
 |true=>exact .inr rfl
 |false=>exact .inl rfl
theorem Fz {s:LI}{i j:Nat}{f:Bool}{t:ak.den}(h:uO s i j f= .inr t):t.1=2∨t.1=3:=by
 unfold uO at h
 cases h5:decide (get s j=101)with
 |true=>
  rw[h5]at h
  cases hd:aW (get s (ma s j))with
  |true=>rw[hd]at h;injection h with h;subst h;exact Bp ..
  |false=>rw[hd]at h;cases h
 |false=>rw[h5]at h;injection h with h;subst h;exact Bp ..
theorem IW {s:LI}{i:Nat}{t:ak.den}(h:jT s i= .inr t):t.1=2∨t.1=3:=by
 unfold jT at h
 have fr:∀j,uL s i j= .inr t→t.1=2∨t.1=3:=fun j h=>by
  unfold uL at h
  cases h5:decide (get s j=46)&&aW (get s (j+1))with
  |true=>rw[h5]at h;exact Fz h
  |false=>rw[h5]at h;exact Fz h
 cases h0:decide (get s i=48)&&decide (get s (i+1)=120)with
 |false=>rw[h0]at h;exact fr _ h
 |true=>
  rw[h0]at h;have h:jl s i= .inr t:=h;unfold jl at h
  by_cases he:kL s (i+18) (i+2)=i+2
  ·simp only[he,if_true]at h;cases h
  ·simp only[he,at3]at h
   cases hx:gO (get s (kL s (i+18) (i+2)))with
   |true=>simp only[hx,if_true]at h;cases h
   |false=>simp only[hx,ar9,at3]at h;injection h with h;subst h;exact .inl rfl
def kd (t:ak.den):Int:=t.1
theorem Yd (f:LI):5≤sgn f:=by
 unfold sgn
 cases h1:decide (stop (sq opsL f) 19 1<19)with
 |true=>rw[ap3];omega
 |false=>
  cases h2:decide (stop (sq Lx.lJ f) 11 0<11)with
  |true=>rw[ao8,ap3];omega
  |false=>rw[ao8,ao8];omega
theorem zE {s:LI}{i:Nat}{t:ak.den}(h:l9 s i= .inr t):
  (bE (get s i)=true→kd t=1∨10≤kd t)∧(bE (get s i)=false→aW (get s i)=true→kd t=2∨kd t=3)∧(bE (get s i)=false→aW (get s i)=false→4≤kd t):=by
 unfold l9 at h;refine⟨fun hl=> ?_,fun hl hd=> ?_,fun hl hd=> ?_⟩
 ·rw[hl]at h
  injection h with h
  subst h;unfold Hk;simp only;split
  ·right;show(10:Int)≤((10+_:Nat):Int);omega
  ·exact .inl rfl
 ·rw[hl,hd]at h;exact IW h
 ·rw[hl,hd]at h
  cases CE:decide (get s i=34)with
  |true=>
   rw[CE]at h;have h:Je i (eZ s s.length (i+1) [])= .inr t:=h
   cases hr:eZ s s.length (i+1) []with
   |inl e=>rw[hr]at h;cases h
   |inr y=>
    rw[hr]at h;obtain⟨e,r⟩:=y
    injection h with h
    subst h;exact Int.le_refl 4
  |false=>
   rw[CE]at h;have h:tT i (jU (p3 s i))= .inr t:=h;unfold tT jU at h
   cases hk:decide (kK (p3 s i)<30)with
   |false=>rw[hk]at h;cases h
   |true=>
    rw[hk]at h;simp only[ap3]at h;rw[an6 (Cv _)]at h
    injection h with h
    subst h;have:=Yd (ba.getD (kK (p3 s i)) []);show(4:Int)≤((sgn _:Nat):Int);omega
def one (k:Int)(s:LI):Bool:=match l9 s 0 with| .inl _=>false| .inr t=>decide (t.1=k)&&decide (t.2.2.1=(s.length:Int))
theorem zp {c:Int}(h:bE c=true):aW c=false:=by
 cases hd:aW c with
 |false=>rfl
 |true=>
  have:=dig hd;simp only[bE,ar7,ao3,ao1]at h;omega
end Go.Abs.D
end

section
namespace Go.Abs.D
def fxI (t:Int):LI:=bif decide (0≤t)&&decide (t≤78)then fx t.toNat else []
def tq (t:Int)(k:Nat):Bool:=decide (k<30)&& !decide (((sgn (ba.getD k []):Nat):Int)=t)
def Rh (t:Int):LI:=bif decide (stop (tq t) 30 0<30)then ba.getD (stop (tq t) 30 0) []else []
theorem JP (t:Int):Evt fun n=>eC (S.tab n) t ba 30 0=some (bif decide (stop (tq t) 30 0<30)then Sum.inl (ba.getD (stop (tq t) 30 0) [],())else Sum.inr (Sum.inl ())):=by
 have hp:Evt fun n=>∀f∈ba,jJ (S.tab n) f=some ((sgn f:Int),aa):=zH ba sign_one
 refine adv (F:=fun T (j:Nat)=>eC T t ba 30 ↑j) (q:=tq t) (N:=30) (p:=fun T=>∀f∈ba,jJ T f=some ((sgn f:Int),aa))
  (out:=fun k=>bif decide (k<30)then Sum.inl (ba.getD k [],())else Sum.inr (Sum.inl ())) hp (fun j h=>by unfold tq;rw[an6 (by omega)];rfl) ?_ ?_ 30 0 (by omega)
 ·intro T j hs hq;unfold tq at hq;simp only[ao3,ao1,at0,ao5]at hq;have hj:j<ba.length:=hq.1
  have hm:ba.getD j []∈ba:=by
   rw[ap9,ap8 hj];exact as4 hj
  show eC (S.step T) t ba 30 j=eC T t ba 30 ((j+1:Nat):Int);have Fq:=hq.1;rw[sh,ad (by simp only[ao1];omega),ad (al hj),Int.toNat_natCast,hs _ hm,an7,az (an6 hq.2),bD (by omega)]
 ·intro T j hs hq;show eC (S.step T) t ba 30 j=_;rw[sh]
  by_cases Fq:j<30
  ·have hj:j<ba.length:=Fq
   have hm:ba.getD j []∈ba:=by
    rw[ap9,ap8 hj];exact as4 hj
   unfold tq at hq;rw[an8 Fq,ao6,Bool.not_eq_false',ao1]at hq;rw[ad (by simp only[ao1];omega),ad (al hj),Int.toNat_natCast,hs _ hm,an7,aL hq,an8 Fq];rfl
  ·rw[az (by simp only[ao5];omega),an6 Fq];rfl
theorem RY:∀k:Nat,k<30→5≤sgn (ba.getD k [])∧sgn (ba.getD k [])≤78:=by
 have h:∀k:Fin 30,5≤sgn (ba.getD k.1 [])∧sgn (ba.getD k.1 [])≤78:=by decide+kernel
 exact fun k hk=>h ⟨k,hk⟩
theorem NU (t:Int)(h5:t≠5)(hw:¬ (10≤t∧t≤31)):Rh t=fxI t:=by
 by_cases h:0≤t∧t≤78
 ·have key:∀k:Fin 79,k.1≠5→¬ (10≤k.1∧k.1≤31)→Rh (k.1:Int)=fxI (k.1:Int):=by decide+kernel
  have:=key ⟨t.toNat,by omega⟩ (by show t.toNat≠5;omega) (by show¬ (10≤t.toNat∧t.toNat≤31);omega);have e:((t.toNat:Nat):Int)=t:=Int.toNat_of_nonneg h.1;simpa only[e]using this
 ·have rT:∀k,k<30→tq t k=true:=fun k hk=>by
   have:=RY k hk;unfold tq;rw[an8 hk,ao6,an6 (by omega)];rfl
  have mZ:¬ stop (tq t) 30 0<30:=fun iO=>by
   have:=pH (q:=tq t) (N:=30) (fun j hj=>by unfold tq;rw[an6 (by omega)];rfl) 30 0 (by omega);rw[rT _ iO]at this;cases this
  unfold Rh fxI;rw[an6 mZ,show(decide (0≤t)&&decide (t≤78))=false by simp only[as6,ao5];omega];rfl
theorem AW:Evt fun n=>Base1 (S.tab n):=Evt.up (Evt.of (p:=fun _=>True) fun _=>trivial) fun n _=>uz _
theorem Mn (t:Int)(h1: -9223372036854775808≤t)(h2:t≤9223372036854775807):Evt fun n=>cA (S.tab n) t=some (fxI t,aa):=by
 by_cases h5:t=5
 ·subst h5
  refine aD.up fun n _=> ?_
  rw[vT,ad (by rfl)];rfl
 refine((JP t).and (IA.and AW)).up fun n ⟨h7,Zb,hb⟩=> ?_
 rw[vT,aH h5,hb.words,an7]
 by_cases hw:10≤t∧t≤31
 ·have e:i64.wrap (t - 10)=((t.toNat - 10:Nat):Int):=by rw[wrap64 _ (by omega) (by omega)];omega
  have wl:i64.wrap (10+((Lx.words.length:Nat):Int))=32:=rfl;rw[ad (an8 hw.1)];show brk (decide (t<i64.wrap (10+((Lx.words.length:Nat):Int)))) (brk (decide (0≤i64.wrap (t - 10))&&decide (i64.wrap (t - 10)<((Lx.words.length:Nat):Int))) (some (Lx.words.getD (i64.wrap (t - 10)).toNat [],aa)) none) _=_;rw[wl,aL (by omega),e,ad (al (show t.toNat - 10<Lx.words.length by show t.toNat - 10<22;omega)),Int.toNat_natCast];unfold fxI fx;rw[an8 (show 0≤t by omega),an8 (show t≤78 by omega),an8 (show 10≤t.toNat by omega),an8 (show t.toNat≤31 by omega)];rfl
 ·have fin:(mi (S.tab n)).bind (fun d23=>(eC (S.tab n) t d23.1 (d23.1.length:Int) (0:Int)).bind (bw (fun y7=>some (y7.1,aa)) (fun y7=>some (([]:LI),aa))))=some (fxI t,aa):=by
   rw[Zb,an7];show(eC (S.tab n) t ba 30 0).bind _=_;rw[h7,an7,←NU t h5 hw];unfold Rh;cases decide (stop (tq t) 30 0<30)<;>rfl
  by_cases xD:10≤t
  ·rw[aL xD];have wl:i64.wrap (10+((Lx.words.length:Nat):Int))=32:=rfl;show brk (decide (t<i64.wrap (10+((Lx.words.length:Nat):Int)))) _ _=_;rw[wl,aH (by omega)];exact fin
  ·rw[aH xD];exact fin
end Go.Abs.D
end

section
namespace Go.Abs.D
def cq (s:LI)(i:Nat)(f:LI)(n:Nat):Bool:=decide (n<f.length)&&(decide (i+n<s.length)&&decide (f.getD n 0=get s (i+n)))
def cp (s:LI)(i:Nat)(f:LI):Nat:=stop (cq s i f) f.length 0
theorem Kt {s:LI}{i:Nat}{f:LI}:∀j,f.length≤j→cq s i f j=false:=fun j h=>by unfold cq;rw[an6 (by omega)];rfl
theorem G6 {s:LI}{i:Nat}{f:LI}{n:Nat}(h:n<cp s i f):cq s i f n=true:=n9 _ _ _ (as5 _) h
theorem SS (s:LI)(i:Nat)(f:LI):cq s i f (cp s i f)=false:=pH Kt _ _ (by omega)
theorem VL {s:LI}{i:Nat}{f:LI}{j:Nat}(h:∀n,n<j→cq s i f n=true):j≤cp s i f:=by
 rcases Nat.lt_or_ge (cp s i f) j with hl|hl
 ·have:=h _ hl;rw[SS]at this;cases this
 ·exact hl
theorem Tl (s:LI)(i:Nat)(f:LI):cp s i f≤f.length:=s5 Kt _ _ (as5 _)
theorem V7 {s:LI}{i:Nat}(hi:i≤s.length)(f:LI):i+cp s i f≤s.length:=by
 rcases Nat.eq_zero_or_pos (cp s i f)with h|h
 ·omega
 ·have:=G6 (s:=s) (i:=i) (f:=f) (n:=cp s i f - 1) (by omega);unfold cq at this;simp only[ao3,ao1]at this;omega
def lq (s:LI)(i n:Nat):Bool:=wq s (i+n)
def idl (s:LI)(i:Nat):Nat:=stop (lq s i) s.length 0
theorem TB {s:LI}{i:Nat}:∀j,s.length≤j→lq s i j=false:=fun j h=>pY _ (by omega)
theorem Lw (s:LI)(i:Nat):lq s i (idl s i)=false:=pH TB _ _ (by omega)
theorem O4 {s:LI}{i j:Nat}(h:∀n,n<j→lq s i n=true):j≤idl s i:=by
 rcases Nat.lt_or_ge (idl s i) j with hl|hl
 ·have:=h _ hl;rw[Lw]at this;cases this
 ·exact hl
theorem OP {s:LI}{i j:Nat}(h:lq s i j=false):idl s i≤j:=by
 rcases Nat.lt_or_ge j (idl s i)with hl|hl
 ·have:=n9 (q:=lq s i) s.length 0 j (as5 _) hl;rw[h]at this;cases this
 ·exact hl
theorem S9 {s:LI}{i:Nat}(hi:i≤s.length):i+idl s i≤s.length:=by
 have:=OP (s:=s) (i:=i) (j:=s.length - i) (pY _ (by omega));omega
def mxK (can:Int→Bool)(s:LI)(i:Nat):Nat→Nat→Nat
 |0,acc=>acc
 |m+1,acc=>mxK can s i m (bif decide (fx (78 - m)=[])then acc else bif can ((78 - m:Nat):Int)then max acc (cp s i (fx (78 - m)))else acc)
theorem Oz (s:LI)(i:Nat):cp s i []=0:=rfl
theorem G4 {can:Int→Bool}{s:LI}{i j:Nat}(hj:1≤j):∀(m acc:Nat),m≤78→(j≤mxK can s i m acc↔j≤acc∨∃k:Nat,79 - m≤k∧k≤78∧can (k:Int)=true∧j≤cp s i (fx k))
 |0,acc,_=>⟨fun h=> .inl h,fun h=>h.elim id fun⟨k,h1,h2,_⟩=>by omega⟩
 |m+1,acc,hm=>by
  unfold mxK;rw[G4 hj m _ (by omega)]
  have key:(j≤(bif decide (fx (78 - m)=[])then acc else bif can ((78 - m:Nat):Int)then max acc (cp s i (fx (78 - m)))else acc))↔j≤acc∨(can ((78 - m:Nat):Int)=true∧j≤cp s i (fx (78 - m))):=by
   by_cases hf:fx (78 - m)=[]
   ·rw[an8 hf,hf,Oz,ap3];exact⟨fun h=> .inl h,fun h=>h.elim id fun h=>by omega⟩
   ·rw[an6 hf,ao8]
    cases hc:can ((78 - m:Nat):Int)with
    |true=>
     rw[ap3];constructor
     ·intro h
      rcases Nat.le_total (cp s i (fx (78 - m))) acc with h'|h'
      ·rw[Nat.max_eq_left h']at h;exact .inl h
      ·rw[Nat.max_eq_right h']at h;exact .inr ⟨rfl,h⟩
     ·rintro(h|⟨_,h⟩)<;>omega
    |false=>
     rw[ao8];exact⟨fun h=> .inl h,fun h=>h.elim id fun h=>by cases h.1⟩
  rw[key];constructor
  ·rintro((h|h)|⟨k,h1,h2,h3,h4⟩)
   ·exact .inl h
   ·exact .inr ⟨78 - m,by omega,by omega,h⟩
   ·exact .inr ⟨k,by omega,h2,h3,h4⟩
  ·rintro(h|⟨k,h1,h2,h3,h4⟩)
   ·exact .inl (.inl h)
   ·by_cases e:k=78 - m
    ·subst e;exact .inl (.inr ⟨h3,h4⟩)
    ·exact .inr ⟨k,by omega,h2,h3,h4⟩
def m0 (s:LI)(i:Nat):Nat:=bif decide (get s i=45)then 1 else 0
def jO (can:Int→Bool)(s:LI)(i:Nat):Nat:=bif bE (get s i)&&can 1 then max (mxK can s i 78 (m0 s i)) (idl s i)else mxK can s i 78 (m0 s i)
def Ep (p:LI)(k:Int):Bool:=
 (decide (k=1)&&bE (get p 0))||(((decide (k=2)||decide (k=3))&&aW (get p 0))||((decide (k=4)&&decide (get p 0=34))||(decide (p.length≤(fxI k).length)&&decide (bK (fxI k) 0 p.length=p))))
def Fh (kinds:LI)(p:LI):Bool:=(decide (p.length=1)&&decide (get p 0=45))||kinds.any (Ep p)
theorem F9:∀k:Nat,k≤78→bE ((fx k).getD 0 0)=true→∀c∈fx k,bE c=true:=by
 have h:∀k:Fin 79,bE ((fx k.1).getD 0 0)=true→(fx k.1).all bE=true:=by decide+kernel
 exact fun k hk h' c hc=>List.all_eq_true.1 (h ⟨k,by omega⟩ h') c hc
theorem NC (f:LI)(n:Nat):f.getD n 0=get f n:=rfl
theorem tP {s:LI}{a b n:Nat}(h:a+n<b):get (bK s a b) n=get s (a+n):=by
 unfold get bK;rw[ap9,List.getElem?_drop,List.getElem?_take_of_lt h,ap9]
theorem MQ {a b:LI}(hl:a.length=b.length)(h:∀n,n<a.length→get a n=get b n):a=b:=by
 apply List.ext_getElem hl
 intro n h1 h2;have:=h n h1;unfold get at this;rw[ap9,ap9,ap8 h1,ap8 h2]at this;exact this
theorem OM {s:LI}{i j:Nat}(hj:i+j≤s.length)(f:LI):(decide ((bK s i (i+j)).length≤f.length)&&decide (bK f 0 (bK s i (i+j)).length=bK s i (i+j)))=true↔j≤cp s i f:=by
 have hl:(bK s i (i+j)).length=j:=by rw[kU hj];omega
 rw[hl,ao3,ao1,ao1];constructor
 ·rintro⟨h1,h2⟩
  refine VL fun n hn=> ?_
  unfold cq;rw[an8 (show n<f.length by omega),an8 (show i+n<s.length by omega),ao6,ao6,ao1,NC];have e:get (bK f 0 j) n=get (bK s i (i+j)) n:=congrArg (fun l=>get l n) h2;rw[tP (by omega),tP (by omega),Nat.zero_add]at e;exact e
 ·intro h;have h1:=Tl s i f;refine⟨by omega,MQ (by rw[hl,kU (by omega)];omega) fun n hn=> ?_⟩;rw[kU (by omega)]at hn;have:=G6 (s:=s) (i:=i) (f:=f) (n:=n) (by omega);unfold cq at this;simp only[ao3,ao1]at this;rw[tP (by omega),tP (by omega),Nat.zero_add];exact this.2.2
theorem LM {k:Nat}(h:k≤78):fxI (k:Int)=fx k:=by
 unfold fxI;rw[an8 (by omega),an8 (by omega),Int.toNat_natCast];rfl
structure WrongAt (can:Int→Bool)(c:Int):Prop where
 num:aW c=true→can 2=false∧can 3=false
 str:c=34→can 4=false
theorem FJ {c:Int}(h:bE c=true):aW c=false∧c≠34∧c≠45:=by
 refine⟨zp h,fun e=> ?_,fun e=> ?_⟩<;>(subst e;cases h)
theorem NL {can:Int→Bool}{s:LI}{i j:Nat}(hw:WrongAt can (get s i))(hn:(bE (get s i)&&can 1)=false)(hj:1≤j)(hl:i+j≤s.length):Fh (pick can 78) (bK s i (i+j))=true↔j≤mxK can s i 78 (m0 s i):=by
 have hlen:(bK s i (i+j)).length=j:=by rw[kU hl];omega
 have hg:get (bK s i (i+j)) 0=get s i:=by rw[tP (by omega)];rfl
 rw[G4 hj 78 _ (aq2 _)];unfold Fh;rw[ar7,hlen,hg,ao3,ao1,ao1,List.any_eq_true]
 have e0:(j=1∧get s i=45)↔j≤m0 s i:=by
  unfold m0
  by_cases h:get s i=45
  ·rw[an8 h,ap3];exact⟨fun h=>by omega,fun h'=>⟨by omega,h⟩⟩
  ·rw[an6 h,ao8];exact⟨fun h'=>absurd h'.2 h,fun h=>by omega⟩
 rw[e0];refine or_congr Iff.rfl ⟨?_, ?_⟩
 ·rintro⟨k,hk,hb⟩;obtain⟨hc,hk78⟩:=D8 hk;have Wo:0≤k∨k<0:=(by omega);unfold Ep at hb;rw[hg]at hb;simp only[ar7]at hb
  rcases hb with hb|hb|hb|hb
  ·rw[ao3,ao1]at hb;rw[←hb.1,hc,hb.2]at hn;cases hn
  ·rw[ao3,ar7,ao1,ao1]at hb;have:=hw.num hb.2
   rcases hb.1 with e|e
   ·rw[←e,hc]at this;cases this.1
   ·rw[←e,hc]at this;cases this.2
  ·rw[ao3,ao1,ao1]at hb;have:=hw.str hb.2;rw[←hb.1,hc]at this;cases this
  ·have h1:=(OM hl (fxI k)).1 hb
   have Xk:1≤k:=by
    rcases Int.lt_or_le k 1 with h|h
    ·have e:fxI k=[]:=by
      by_cases h0:k=0
      ·rw[h0];rfl
      ·unfold fxI;rw[an6 (by omega)];rfl
     rw[e,Oz]at h1;omega
    ·exact h
   have ek:((k.toNat:Nat):Int)=k:=Int.toNat_of_nonneg (by omega);refine⟨k.toNat,by omega,by omega,by rw[ek];exact hc, ?_⟩;rw[←LM (by omega),ek];exact h1
 ·rintro⟨k,h1,h2,h3,h4⟩;refine⟨(k:Int),D3 (aq2 _) (by omega) (by omega) h3, ?_⟩;unfold Ep;rw[(OM hl (fxI ↑k)).2 (by rw[LM h2];exact h4)];simp only[ap5]
theorem MI {can:Int→Bool}{s:LI}{i j:Nat}(hn:(bE (get s i)&&can 1)=true)(hj:1≤j)(hl:i+j≤s.length):Fh (pick can 78) (bK s i (i+j))=true:=by
 have hg:get (bK s i (i+j)) 0=get s i:=by rw[tP (by omega)];rfl
 rw[ao3]at hn;unfold Fh;rw[ar7,List.any_eq_true];refine .inr ⟨1,D3 (aq2 _) (by omega) (by omega) hn.2, ?_⟩;unfold Ep;rw[hg,hn.1];rfl
theorem S0 {s:LI}{i k:Nat}(hl:bE (get s i)=true)(hk:k≤78):cp s i (fx k)≤idl s i:=by
 refine O4 fun n hn=> ?_
 have h0:=G6 (s:=s) (i:=i) (f:=fx k) (n:=0) (by omega);have h1:=G6 hn;unfold cq at h0 h1;simp only[ao3,ao1]at h0 h1;have hw:=F9 k hk (by rw[h0.2.2];exact hl)
 have hm:(fx k).getD n 0∈fx k:=by
  rw[ap9,ap8 h1.1];exact as4 _
 have:=hw _ hm;unfold lq wq;rw[←h1.2.2,this];rfl
theorem Oy {can:Int→Bool}{s:LI}{i:Nat}(hl:bE (get s i)=true):mxK can s i 78 (m0 s i)≤idl s i:=by
 rcases Nat.eq_zero_or_pos (mxK can s i 78 (m0 s i))with h|h
 ·omega
 ·rcases(G4 (can:=can) (s:=s) (i:=i) h 78 (m0 s i) (aq2 _)).1 (aq2 _)with h'|⟨k,_,h2,_,h4⟩
  ·have e:m0 s i=0:=by unfold m0;rw[an6 (FJ hl).2.2];rfl
   omega
  ·exact Nat.le_trans h4 (S0 hl h2)
theorem VG {can:Int→Bool}{s:LI}{i:Nat}(hi:i<s.length):i+mxK can s i 78 (m0 s i)≤s.length:=by
 rcases Nat.eq_zero_or_pos (mxK can s i 78 (m0 s i))with h|h
 ·omega
 ·rcases(G4 (can:=can) (s:=s) (i:=i) h 78 (m0 s i) (aq2 _)).1 (aq2 _)with h'|⟨k,_,h2,_,h4⟩
  ·have e:m0 s i≤1:=by unfold m0;cases decide (get s i=45)<;>simp
   omega
  ·have:=V7 (s:=s) (i:=i) (by omega) (fx k);omega
theorem D9 {can:Int→Bool}{s:LI}{i:Nat}(hi:i<s.length)(hw:WrongAt can (get s i)):
  i+jO can s i≤s.length∧(bE (get s i)=true→jO can s i≤idl s i)∧
  (∀j,1≤j→i+j≤s.length→(bE (get s i)=true→j≤idl s i)→(Fh (pick can 78) (bK s i (i+j))=true↔j≤jO can s i)):=by
 unfold jO
 cases hn:bE (get s i)&&can 1 with
 |false=>
  rw[ao8];exact⟨VG hi,Oy,fun j hj hl _=>NL hw hn hj hl⟩
 |true=>
  have hl:bE (get s i)=true:=by rw[ao3]at hn;exact hn.1
  have h1:=Oy (can:=can) hl;rw[ap3,Nat.max_eq_right h1];exact⟨S9 (by omega),fun _=>aq2 _,fun j hj Vq Ug=>⟨fun _=>Ug hl,fun _=>MI hn hj Vq⟩⟩
end Go.Abs.D
end

section
namespace Go.Abs.D
theorem Ow (kinds:LI)(hk:∀k∈kinds,0≤k∧k≤78):Evt fun n=>∀k∈kinds,cA (S.tab n) k=some (fxI k,aa):=by
 have h:Evt fun n=>∀k∈kinds,(0≤k∧k≤78)→cA (S.tab n) k=some (fxI k,aa):=zH kinds fun k=>by
  by_cases h:0≤k∧k≤78
  ·exact(Mn k (by omega) (by omega)).mono fun n h' _=>h'
  ·exact Evt.of fun n h'=>absurd h' h
 exact h.mono fun n h k hm=>h k hm (hk k hm)
def tB (p:LI)(k:Int):Bool:=decide (p.length≤(fxI k).length)&&decide (bK (fxI k) 0 p.length=p)
theorem uD {T:S.Tab}{p:LI}{k:Int}(ht:cA T k=some (fxI k,aa)){R N:Option ((Bool×Unit)⊕(Unit)⊕Empty)}:
  ((cA T k).bind fun d52=>brk (decide ((p.length:Int)≤(d52.1.length:Int))) (brk (bounds d52.1.length 0 (p.length:Int)) (brk (decide ((sub d52.1 0 (p.length:Int))=p)) R N) none) N)=bif tB p k then R else N:=by
 rw[ht,an7];unfold tB
 by_cases h:p.length≤(fxI k).length
 ·have Sk:bounds (fxI k).length 0 (p.length:Int)=true:=eD (i:=0) (as5 _) h;have Jt:sub (fxI k) 0 (p.length:Int)=bK (fxI k) 0 p.length:=rfl;dsimp only;rw[ad (by simp only[ao1];omega),ad Sk,Jt,an8 h,ao6]
  cases decide (bK (fxI k) 0 p.length=p)with
  |true=>rw[ad rfl];rfl
  |false=>rw[az rfl];rfl
 ·dsimp only;rw[az (by simp only[ao5];omega),an6 h];rfl
theorem Dm {T:S.Tab}(hb:Base1 T){p kinds:LI}(hp:0<p.length){j:Nat}(hj:j<kinds.length)(ht:cA T (kinds.getD j 0)=some (fxI (kinds.getD j 0),aa))(hl:kinds.length≤100):
  aJ (S.step T) p kinds (kinds.length:Int) (j:Int)=bif Ep p (kinds.getD j 0)then some (Sum.inl (true,()))else aJ T p kinds (kinds.length:Int) ((j+1:Nat):Int):=by
 have rU:decide ((0:Int)<(p.length:Int))=true:=by simp only[ao1];omega
 have g0:p.getD 0 0=get p 0:=rfl;rw[rC,ad (by simp only[ao1];omega),ad (al hj),Int.toNat_natCast,bD (by omega),g0]
 generalize kinds.getD j 0=k at ht⊢
 generalize aJ T p kinds (kinds.length:Int) ((j+1:Nat):Int)=N
 have e:Ep p k=((decide (k=1)&&bE (get p 0))||(((decide (k=2)||decide (k=3))&&aW (get p 0))||((decide (k=4)&&decide (get p 0=34))||tB p k))):=rfl;rw[e]
 by_cases h1:k=1
 ·have h2:¬ k=2:=(by omega);have h3:¬ k=3:=(by omega);have h4:¬ k=4:=(by omega);rw[aL h1,ad rU,hb.sletter,an7,an8 h1,an6 h2,an6 h3,an6 h4]
  cases bE (get p 0)with
  |true=>rw[ad (by rfl)];rfl
  |false=>rw[az (by rfl),az rfl,az rfl,az rfl,uD ht];rfl
 rw[aH h1,an6 h1]
 by_cases h2:k=2
 ·have h3:¬ k=3:=(by omega);have h4:¬ k=4:=(by omega);rw[aL h2,ad rU,hb.sdigit,an7,an8 h2,an6 h4]
  cases aW (get p 0)with
  |true=>rw[ad (by rfl)];rfl
  |false=>rw[az (by rfl),az rfl,uD ht,ao7];rfl
 rw[aH h2,an6 h2]
 by_cases h3:k=3
 ·have h4:¬ k=4:=(by omega);rw[aL h3,ad rU,hb.sdigit,an7,an8 h3,an6 h4]
  cases aW (get p 0)with
  |true=>rw[ad (by rfl)];rfl
  |false=>rw[az (by rfl),az rfl,uD ht];rfl
 rw[aH h3,an6 h3]
 by_cases h4:k=4
 ·rw[aL h4,ad rU,an8 h4]
  by_cases c:get p 0=34
  ·rw[aL c,an8 c];rfl
  ·rw[aH c,an6 c,uD ht];rfl
 rw[aH h4,an6 h4,uD ht];rfl
def bq (p kinds:LI)(j:Nat):Bool:=decide (j<kinds.length)&& !Ep p (kinds.getD j 0)
theorem OJ {p kinds:LI}:∀j,kinds.length≤j→bq p kinds j=false:=fun j h=>by unfold bq;rw[an6 (by omega)];rfl
theorem N6 (p kinds:LI):kinds.any (Ep p)=decide (stop (bq p kinds) kinds.length 0<kinds.length):=by
 have Rt:=pH (q:=bq p kinds) OJ kinds.length 0 (by omega)
 by_cases h:stop (bq p kinds) kinds.length 0<kinds.length
 ·rw[an8 h]
  generalize stop (bq p kinds) kinds.length 0=m at Rt h
  unfold bq at Rt;rw[an8 h,ao6,Bool.not_eq_false']at Rt;refine List.any_eq_true.2 ⟨_, ?_,Rt⟩;rw[ap9,ap8 h];exact as4 _
 ·rw[an6 h]
  refine List.any_eq_false.2 fun k hk=> ?_
  obtain⟨j,hj,rfl⟩:=List.getElem_of_mem hk;have:=n9 (q:=bq p kinds) kinds.length 0 j (as5 _) (by omega);unfold bq at this;rw[an8 hj,ao6,at0,ap9,ap8 hj]at this;exact(by simpa using this)
theorem Ok {p kinds:LI}(hp:0<p.length)(hk:∀k∈kinds,0≤k∧k≤78)(hl:kinds.length≤100):Evt fun n=>aJ (S.tab n) p kinds (kinds.length:Int) 0=some (bif kinds.any (Ep p)then Sum.inl (true,())else Sum.inr (Sum.inl ())):=by
 have Wz:Evt fun n=>Base1 (S.tab n)∧∀k∈kinds,cA (S.tab n) k=some (fxI k,aa):=AW.and (Ow kinds hk)
 rw[N6]
 refine adv (F:=fun T (j:Nat)=>aJ T p kinds (kinds.length:Int) ↑j) (q:=bq p kinds) (N:=kinds.length) (p:=fun T=>Base1 T∧∀k∈kinds,cA T k=some (fxI k,aa))
  (out:=fun j=>bif decide (j<kinds.length)then Sum.inl (true,())else Sum.inr (Sum.inl ())) Wz OJ ?_ ?_ kinds.length 0 (by omega)
 ·intro T j ⟨hb,ht⟩ hq;unfold bq at hq;simp only[ao3,ao1,at0]at hq
  have hm:kinds.getD j 0∈kinds:=by
   rw[ap9,ap8 hq.1];exact as4 _
  show aJ (S.step T) p kinds _ _=aJ T p kinds _ _;rw[Dm hb hp hq.1 (ht _ hm) hl,hq.2];rfl
 ·intro T j ⟨hb,ht⟩ hq;show aJ (S.step T) p kinds _ _=_
  by_cases hj:j<kinds.length
  ·unfold bq at hq;rw[an8 hj,ao6,Bool.not_eq_false']at hq
   have hm:kinds.getD j 0∈kinds:=by
    rw[ap9,ap8 hj];exact as4 _
   rw[Dm hb hp hj (ht _ hm) hl,hq,an8 hj];rfl
  ·rw[rC,az (by simp only[ao5];omega),an6 hj];rfl
theorem NK {p kinds:LI}(hp:0<p.length)(hk:∀k∈kinds,0≤k∧k≤78)(hl:kinds.length≤100):Evt fun n=>qv (S.tab n) kinds p=some (Fh kinds p,ab):=
 (Ok hp hk hl).up fun n h=>by
  have g0:p.getD 0 0=get p 0:=rfl
  have fin:((aJ (S.tab n) p kinds (kinds.length:Int) 0).bind (bw (fun y4=>some (y4.1,ab)) (fun y4=>some (false,ab))))=some (kinds.any (Ep p),ab):=by
   rw[h];cases kinds.any (Ep p)<;>rfl
  unfold Fh;rw[BO,g0]
  by_cases h1:p.length=1
  ·rw[ad (by simp only[ao1];omega),ad (by simp only[ao1];omega),an8 h1]
   by_cases FW:get p 0=45
   ·rw[aL FW,an8 FW];rfl
   ·rw[aH FW,an6 FW];exact fin
  ·rw[az (by simp only[ao5];omega),an6 h1];exact fin
theorem JZ {p:Int→Bool}:∀k∈pick p 78,0≤k∧k≤78:=fun k h=>by
 have:=(D8 h).2
 have h0:∀(m:Nat) (k:Int),k∈pick p m→0≤k:=fun m=>by
  induction m with
  |zero=>intro k h;cases h
  |succ m ih=>
   intro k h;unfold pick at h
   rcases aq6.1 h with h|h
   ·cases hp:p ((78 - m:Nat):Int)with
    |true=>
     rw[hp]at h;have:k=((78 - m:Nat):Int):=(by simpa using h);omega
    |false=>rw[hp]at h;cases h
   ·exact ih k h
 exact⟨h0 78 k h,this⟩
variable{s:LI}(hs:s.length≤65536)
include hs
theorem N3 {can:Int→Bool}{i:Nat}(hi:i<s.length)(hw:WrongAt can (get s i)):∀(d n:Nat),s.length - (i+n)≤d→n≤jO can s i→(bE (get s i)=true→n<idl s i)→Evt fun m=>cD (S.tab m) s ↑i (pick can 78) (n:Int)=some (Sum.inl ((i:Int),(jO can s i:Int),())):=by
 obtain⟨l1,l2,l3⟩:=D9 hi hw;intro d
 induction d with
 |zero=>
  intro n hd hn Yo;have e:n=jO can s i:=(by omega)
  refine aD.up fun m hb=> ?_
  show cD (S.step (S.tab m)) _ _ _ _=_;rw[kC,wrap64 _ (by omega) (by omega),az (by simp only[ao5];omega),e]
 |succ d ih=>
  intro n hd hn Yo
  by_cases hl:i+n<s.length
  ·have w1:i64.wrap ((i:Int)+(n:Int))=((i+n:Nat):Int):=by rw[wrap64 _ (by omega) (by omega)];omega
   have w2:i64.wrap (((i+n:Nat):Int)+1)=((i+(n+1):Nat):Int):=by rw[wrap64 _ (by omega) (by omega)];omega
   have w3:i64.wrap ((n:Int)+1)=((n+1:Nat):Int):=bD (by omega)
   have w4:i64.wrap ((i:Int)+((n+1:Nat):Int))=((i+(n+1):Nat):Int):=by rw[wrap64 _ (by omega) (by omega)];omega
   have Nj:=NK (p:=bK s i (i+(n+1))) (kinds:=pick can 78) (by rw[kU (by omega)];omega) JZ (Nat.le_trans (IX 78) (by omega));have WE:=l3 (n+1) (by omega) (by omega) (fun h=>by have:=Yo h;omega)
   have start:∀T:S.Tab,qv T (pick can 78) (bK s i (i+(n+1)))=some (Fh (pick can 78) (bK s i (i+(n+1))),ab)→Base1 T→cD (S.step T) s ↑i (pick can 78) (n:Int)=_:=fun T Hv hb=>by
    rw[kC,w1,ad (by simp only[ao1];omega),w2,ad (eD (by omega) (by omega)),od,Hv,an7,ad (al hi),aF,hb.sletter,an7,w3,w4,hb.look,an7]
   by_cases hle:n+1≤jO can s i
   ·have YT:=WE.2 hle;rw[YT]at Nj start
    have next:=fun h=>ih (n+1) (by omega) hle h
    by_cases hlet:bE (get s i)=true
    ·by_cases wU:lq s i (n+1)=true
     ·refine((next (fun h=>by
       have h1:=Yo h
       rcases Nat.lt_or_ge (n+1) (idl s i)with h'|h'
       ·exact h'
       ·have:idl s i=n+1:=(by omega);have e:=Lw s i
        rw[this,wU]at e;cases e)).and (Nj.and AW)).up fun m ⟨hx,Hv,hb⟩=> ?_
      show cD (S.step (S.tab m)) _ _ _ _=_;rw[start _ Hv hb,ad rfl,hlet,ad rfl,hb.sletter,an7];unfold lq wq at wU
      cases ox:bE (get s (i+(n+1)))with
      |true=>rw[az (by rfl)];exact hx
      |false=>
       rw[ox,ap0]at wU;rw[ad (by rfl),an7,hb.sdigit,an7,wU,az (by rfl)];exact hx
     ·have wU:lq s i (n+1)=false:=(by simpa using wU);have h1:=OP wU;have h2:=l2 hlet;have e:jO can s i=n+1:=(by omega)
      refine(Nj.and AW).up fun m ⟨Hv,hb⟩=> ?_
      show cD (S.step (S.tab m)) _ _ _ _=_;rw[start _ Hv hb,ad rfl,hlet,ad rfl,hb.sletter,an7];unfold lq wq at wU;rw[Bool.or_eq_false_iff]at wU;rw[wU.1,ad (by rfl),an7,hb.sdigit,an7,wU.2,ad (by rfl),e]
    ·have WX:bE (get s i)=false:=(by simpa using hlet)
     refine((next (fun h=>absurd h hlet)).and (Nj.and AW)).up fun m ⟨hx,Hv,hb⟩=> ?_
     show cD (S.step (S.tab m)) _ _ _ _=_;rw[start _ Hv hb,ad rfl,WX,az rfl];exact hx
   ·have ai2:Fh (pick can 78) (bK s i (i+(n+1)))=false:=by
     cases hx:Fh (pick can 78) (bK s i (i+(n+1)))with
     |true=>exact absurd (WE.1 hx) hle
     |false=>rfl
    have e:jO can s i=n:=(by omega);rw[ai2]at Nj start
    refine(Nj.and AW).up fun m ⟨Hv,hb⟩=> ?_
    show cD (S.step (S.tab m)) _ _ _ _=_;rw[kC,w1,ad (by simp only[ao1];omega),w2,ad (eD (by omega) (by omega)),od,Hv,an7,az rfl,e]
  ·have e:n=jO can s i:=(by omega)
   refine aD.up fun m hb=> ?_
   show cD (S.step (S.tab m)) _ _ _ _=_;rw[kC,wrap64 _ (by omega) (by omega),az (by simp only[ao5];omega),e]
omit hs in
theorem QV {i:Nat}(h:bE (get s i)=true):0<idl s i:=by
 have:lq s i 0=true:=by unfold lq wq;rw[Nat.add_zero,h];rfl
 exact O4 (j:=1) fun n hn=>by
  have:n=0:=(by omega);subst this;assumption
theorem Og {can:Int→Bool}{i:Nat}(hi:i<s.length)(hw:WrongAt can (get s i)):Evt fun n=>qn (S.tab n) s ↑i (pick can 78)=some (((i+jO can s i:Nat):Int),aP):=
 (N3 hs hi hw s.length 0 (by omega) (as5 _) QV).up fun n h=>by
  obtain⟨l1,_,_⟩:=D9 hi hw;have h:cD (S.tab n) s ↑i (pick can 78) 0=_:=h;rw[BH,h];simp only[an7,aN,aq0];rw[wrap64 _ (by omega) (by omega)];rfl
theorem HT (a:LI)(i:Nat)(hi:i≤s.length)(t7 t8:Int)(f:LI)(hf:f.length≤100):Evt fun n=>fX (S.tab n) a s ↑i t7 t8 f 0=some (Sum.inl (a,s,(i:Int),t7,t8,(cp s i f:Int),())):=
 adv (F:=fun T j=>fX T a s ↑i t7 t8 f ↑j) (q:=cq s i f) (N:=f.length) (p:=fun _=>True) (out:=fun j=>Sum.inl (a,s,(i:Int),t7,t8,(j:Int),())) (Evt.of fun _=>trivial) Kt
  (fun T j _ hq=>by
   unfold cq at hq;simp only[ao3,ao1]at hq
   have w:i64.wrap ((i:Int)+(j:Int))=((i+j:Nat):Int):=by rw[wrap64 _ (by omega) (by omega)];omega
   show fX (S.step T) _ _ _ _ _ _ _=fX T _ _ _ _ _ _ _
   rw[qh,ad (by simp only[ao1];omega),w,ad (by simp only[ao1];omega),ad (al hq.1),ad (al hq.2.1),Int.toNat_natCast,aF,ad (an8 hq.2.2),bD (by omega)])
  (fun T j _ hq=>by
   show fX (S.step T) _ _ _ _ _ _ _=_;rw[qh]
   by_cases h1:j<f.length
   ·have w:i64.wrap ((i:Int)+(j:Int))=((i+j:Nat):Int):=by rw[wrap64 _ (by omega) (by omega)];omega
    rw[ad (by simp only[ao1];omega),w]
    by_cases h2:i+j<s.length
    ·unfold cq at hq;rw[an8 h1,an8 h2,ao6,ao6]at hq;rw[ad (by simp only[ao1];omega),ad (al h1),ad (al h2),Int.toNat_natCast,aF,az hq]
    ·rw[az (by simp only[ao5];omega)]
   ·rw[az (by simp only[ao5];omega)]) f.length 0 (by omega)
omit hs in
theorem We {R:Type}{F:S.Tab→Nat→Option R}{q:Nat→Bool}{out:Nat→R}{N:Nat}{p:S.Tab→Prop}(hp:Evt fun n=>p (S.tab n))(hN:q N=false)
  (h1:∀T j,j<N→p T→q j=true→F (S.step T) j=F T (j+1)) (h2:∀T j,j≤N→p T→q j=false→F (S.step T) j=some (out j)):
  ∀(k j:Nat),N≤j+k→j≤N→Evt fun n=>F (S.tab n) j=some (out (stop q k j))
 |0,j,hk,hj=>hp.up fun n h=>by
  have e:j=N:=(by omega);show F (S.step (S.tab n)) j=_;rw[h2 _ _ hj h (by rw[e];exact hN)];rfl
 |k+1,j,hk,hj=>by
  cases hq:q j with
  |false=>
   refine hp.up fun n h=> ?_
   show F (S.step (S.tab n)) j=_;rw[h2 _ _ hj h hq,wZ hq]
  |true=>
   have iO:j<N:=by
    rcases Nat.lt_or_ge j N with h|h
    ·exact h
    ·have:j=N:=(by omega);rw[this,hN]at hq;cases hq
   refine((We hp hN h1 h2 k (j+1) (by omega) (by omega)).and hp).up fun n ⟨ih,h⟩=> ?_
   show F (S.step (S.tab n)) j=_
   have e:stop q (k+1) j=stop q k (j+1):=by
    show(bif q j then stop q k (j+1)else j)=_;rw[hq];rfl
   rw[h1 _ _ iO h hq,ih,e]
theorem H2 (i:Nat)(hi:i≤s.length)(t7:Int):Evt fun n=>eU (S.tab n) s ↑i t7 0=some (Sum.inl (t7,(idl s i:Int),())):=
 We (F:=fun T j=>eU T s ↑i t7 ↑j) (q:=lq s i) (N:=s.length) (p:=fun T=>Base2 T) (out:=fun j=>Sum.inl (t7,(j:Int),())) aD (pY _ (by omega))
  (fun T j hj hb hq=>by
   have hl:i+j<s.length:=by
    rcases Nat.lt_or_ge (i+j) s.length with h|h
    ·exact h
    ·have:=pY (s:=s) _ h;unfold lq at hq;rw[this]at hq;cases hq
   have w:i64.wrap ((i:Int)+(j:Int))=((i+j:Nat):Int):=by rw[wrap64 _ (by omega) (by omega)];omega
   show eU (S.step T) _ _ _ _=eU T _ _ _ _;rw[qi,w,ad (by simp only[ao1];omega),ad (al hl),aF,hb.iletter,an7,bD (by omega)];unfold lq wq at hq
   cases h:bE (get s (i+j))with
   |true=>rw[ad (by rfl)]
   |false=>
    rw[h,ap0]at hq
    rw[az (by rfl),ad (al hl),hb.idigit,an7,hq,ad (by rfl)])
  (fun T j hj hb hq=>by
   have w:i64.wrap ((i:Int)+(j:Int))=((i+j:Nat):Int):=by rw[wrap64 _ (by omega) (by omega)];omega
   show eU (S.step T) _ _ _ _=_;rw[qi,w]
   by_cases hl:i+j<s.length
   ·unfold lq wq at hq;rw[Bool.or_eq_false_iff]at hq;rw[ad (by simp only[ao1];omega),ad (al hl),aF,hb.iletter,an7,hq.1,az (by rfl),ad (al hl),hb.idigit,an7,hq.2,az (by rfl)]
   ·rw[az (by simp only[ao5];omega)]) s.length 0 (by omega) (by omega)
omit hs in
theorem Tp:∀k:Nat,k≤78→(fx k).length≤100:=by
 have h:∀k:Fin 79,(fx k.1).length≤100:=by decide+kernel
 exact fun k hk=>h ⟨k,by omega⟩
theorem uu (a:LI)(ha:gdI a)(i:Nat)(hi:i≤s.length):∀(m acc:Nat),m≤78→Evt fun n=>iG (S.tab n) (a++[6]) s ↑i ↑acc ((79 - m:Nat):Int)=some (Sum.inl (a++[6],s,(i:Int),(mxK (p8 a) s i m acc:Int),()))
 |0,acc,_=>aD.up fun n _=>by
  rw[kD,az (by decide)];rfl
 |m+1,acc,hm=>by
  have e:(79 - (m+1):Nat)=78 - m:=(by omega)
  have w:i64.wrap (((78 - m:Nat):Int)+1)=((79 - m:Nat):Int):=by rw[wrap64 _ (by omega) (by omega)];omega
  have d:decide (((78 - m:Nat):Int)≤78)=true:=by simp only[ao1];omega
  have ZA:=Im;rw[e];unfold mxK
  by_cases hf:fx (78 - m)=[]
  ·refine((uu a ha i hi m acc (by omega)).and ZA).up fun n ⟨h,hx⟩=> ?_
   rw[kD,ad d,hx _ (by omega),an7,aL hf,w,h,an8 hf];rfl
  ·have hc:=Ee (k:=((78 - m:Nat):Int)) (by omega) (by omega) a ha;have hk:vl (gD a ((78 - m:Nat):Int)) (decide ((6:Int)=((78 - m:Nat):Int)))=p8 a ((78 - m:Nat):Int):=rfl;rw[hk]at hc;rw[an6 hf]
   cases WY:p8 a ((78 - m:Nat):Int)with
   |false=>
    rw[WY]at hc
    refine(((uu a ha i hi m acc (by omega)).and ZA).and hc).up fun n ⟨⟨h,hx⟩,hc⟩=> ?_
    rw[kD,ad d,hx _ (by omega),an7,aH hf,hc,an7,ad (by rfl),w,h];rfl
   |true=>
    rw[WY]at hc
    have Yy:(if((cp s i (fx (78 - m)):Nat):Int)>(acc:Int)then((cp s i (fx (78 - m)):Nat):Int)else(acc:Int))=((max acc (cp s i (fx (78 - m))):Nat):Int):=by
     by_cases h:acc<cp s i (fx (78 - m))
     ·rw[as0 (by omega),Nat.max_eq_right (by omega)]
     ·rw[ar1 (by omega),Nat.max_eq_left (by omega)]
    refine((((uu a ha i hi m (max acc (cp s i (fx (78 - m)))) (by omega)).and ZA).and hc).and (HT hs (a++[6]) i hi ↑acc ((78 - m:Nat):Int) (fx (78 - m)) (Tp _ (by omega)))).up fun n ⟨⟨⟨h,hx⟩,hc⟩,xD⟩=> ?_
    rw[kD,ad d,hx _ (by omega),an7,aH hf,hc,an7,az (by rfl),xD,an7];simp only[aN,aq0];rw[Yy,w,h];rfl
theorem JV (a:LI)(ha:gdI a)(i:Nat)(hi:i<s.length):Evt fun n=>kG (S.tab n) (a++[6]) s (i:Int)=some ((jO (p8 a) s i:Int),aP):=by
 have ak7:Evt fun n=>js (S.tab n) (a++[6]) s ↑i (m0 s i:Int)=some (Sum.inl ((jO (p8 a) s i:Int),())):=by
  have hc:=Ee (k:=1) (by decide) (by decide) a ha;have hk:vl (gD a 1) (decide ((6:Int)=1))=p8 a 1:=rfl;rw[hk]at hc
  refine((((uu hs a ha i (by omega) 78 (m0 s i) (aq2 _)).and hc).and (H2 hs i (by omega) (mxK (p8 a) s i 78 (m0 s i):Int))).and aD).up fun n ⟨⟨⟨h5,hc⟩,TY⟩,hb⟩=> ?_
  have h5:iG (S.tab n) (a++[6]) s ↑i (m0 s i:Int) 1=_:=h5;rw[xY,h5,an7];simp only[aN,aq0];rw[ad (al hi),aF,hb.iletter,an7];unfold jO
  cases bE (get s i)with
  |false=>rw[az (by rfl)];rfl
  |true=>
   rw[ad (by rfl),hc,an7]
   cases p8 a 1 with
   |false=>rw[az (by rfl)];rfl
   |true=>
    rw[ad (by rfl),TY,an7]
    have Yy:(if((idl s i:Nat):Int)>((mxK (p8 a) s i 78 (m0 s i):Nat):Int)then((idl s i:Nat):Int)else((mxK (p8 a) s i 78 (m0 s i):Nat):Int))=((max (mxK (p8 a) s i 78 (m0 s i)) (idl s i):Nat):Int):=by
     by_cases h:mxK (p8 a) s i 78 (m0 s i)<idl s i
     ·rw[as0 (by omega),Nat.max_eq_right (by omega)]
     ·rw[ar1 (by omega),Nat.max_eq_left (by omega)]
    simp only[aq0,aq1,ap3];rw[Yy]
 refine ak7.up fun n h=> ?_
 rw[B6,ad (al hi),aF];unfold m0 at h
 by_cases FW:get s i=45
 ·rw[an8 FW]at h;have h:js (S.tab n) (a++[6]) s ↑i 1=_:=h;rw[aL FW,h];rfl
 ·rw[an6 FW]at h;have h:js (S.tab n) (a++[6]) s ↑i 0=_:=h;rw[aH FW,h];rfl
end Go.Abs.D
end

section
namespace Go.Abs.D
def nq (s:LI)(j:Nat):Bool:=decide (j<s.length)&& !decide (get s j=10)
def Fg (s:LI)(j:Nat):Nat:=stop (nq s) s.length j
def blk (s:LI):Nat→Nat→Nat
 |0,j=>j
 |k+1,j=>
  bif decide (s.length≤j)then j else
  bif decide (get s j=32)then blk s k (j+1)else
  bif decide (get s j=9)then blk s k (j+1)else
  bif decide (get s j=13)then blk s k (j+1)else
  bif decide (get s j=45)&&decide (get s (j+1)=45)then blk s k (Fg s j)else j
def blank (s:LI)(j:Nat):Nat:=blk s s.length j
theorem AY {s:LI}:∀j,s.length≤j→nq s j=false:=fun j h=>by unfold nq;rw[an6 (by omega)];rfl
theorem Pc {s:LI}{j:Nat}(h:j≤s.length):Fg s j≤s.length:=s5 AY _ _ h
theorem Sg {s:LI}{j:Nat}(h:get s j=45):j<Fg s j:=by
 have hl:=jh h (by decide)
 have hq:nq s j=true:=by unfold nq;rw[an8 hl,h];rfl
 have:=qB (q:=nq s) s.length (j+1);have e:=FD (q:=nq s) (N:=s.length) AY (k:=s.length) (j:=j) (by omega) hq;unfold Fg;omega
theorem Ku {s:LI}:∀(k j:Nat),j≤s.length→blk s k j≤s.length∧j≤blk s k j
 |0,j,h=>⟨h,aq2 _⟩
 |k+1,j,h=>by
  unfold blk
  by_cases hl:s.length≤j
  ·rw[an8 hl];exact⟨h,aq2 _⟩
  have ih:=Ku (s:=s) k (j+1) (by omega);rw[an6 hl];simp only[ao8]
  cases decide (get s j=32)with
  |true=>exact⟨ih.1,by have:=ih.2;simp only[ap3];omega⟩
  |false=>
  cases decide (get s j=9)with
  |true=>exact⟨ih.1,by have:=ih.2;simp only[ap3,ao8];omega⟩
  |false=>
  cases decide (get s j=13)with
  |true=>exact⟨ih.1,by have:=ih.2;simp only[ap3,ao8];omega⟩
  |false=>
  cases decide (get s j=45)&&decide (get s (j+1)=45)with
  |true=>
   have ih:=Ku (s:=s) k (Fg s j) (Pc h);have:=qB (q:=nq s) s.length j;refine⟨ih.1, ?_⟩;have:=ih.2;simp only[ap3,ao8];unfold Fg at this⊢;omega
  |false=>exact⟨h,aq2 _⟩
variable{s:LI}(hs:s.length≤2097152)
include hs
theorem Kb (j:Nat):Evt fun n=>ja (S.tab n) s (j:Int)=some (Sum.inl (s,(Fg s j:Int),())):=
 adv (F:=fun T j=>ja T s ↑j) (out:=fun j=>Sum.inl (s,(j:Int),())) aD AY
  (fun T j h hq=>by
   have hj:=lG AY hq;unfold nq at hq;rw[ao3]at hq;show ja (S.step T) s j=ja T s ((j+1:Nat):Int)
   rw[tA,ad (by simpa using hj),ad (al hj),aF,ad hq.2,bD (by omega)])
  (fun T j h hq=>by
   show ja (S.step T) s j=_;rw[tA]
   by_cases hj:j<s.length
   ·unfold nq at hq;rw[an8 hj,ao6]at hq;rw[ad (by simpa using hj),ad (al hj),aF,az hq]
   ·rw[az (by simpa using hj)]) s.length j (by omega)
theorem J1 (j:Nat):Evt fun n=>fW (S.tab n) s (j:Int)=some (Sum.inl (s,(Fg s j:Int),())):=
 adv (F:=fun T j=>fW T s ↑j) (out:=fun j=>Sum.inl (s,(j:Int),())) aD AY
  (fun T j h hq=>by
   have hj:=lG AY hq;unfold nq at hq;rw[ao3]at hq;show fW (S.step T) s j=fW T s ((j+1:Nat):Int)
   rw[qf,ad (by simpa using hj),ad (al hj),aF,ad hq.2,bD (by omega)])
  (fun T j h hq=>by
   show fW (S.step T) s j=_;rw[qf]
   by_cases hj:j<s.length
   ·unfold nq at hq;rw[an8 hj,ao6]at hq;rw[ad (by simpa using hj),ad (al hj),aF,az hq]
   ·rw[az (by simpa using hj)]) s.length j (by omega)
def BR (e:Nat)(y:(Int×Unit)⊕(Int×Unit)⊕Empty):Prop:=y= .inl ((e:Int),())∨y= .inr (.inl ((e:Int),()))
omit hs in
theorem Rf {j:Nat}(hj:j<s.length):pS s j [45,45]=(decide (get s j=45)&&decide (get s (j+1)=45)):=by
 unfold pS;rw[show([45,45]:LI).length=2 from rfl]
 by_cases h:2≤s.length - j
 ·rw[zy (s:=s) (by omega),an8 h,ao6];simp
 ·rw[an6 h,hD (show s.length≤j+1 by omega),show decide ((0:Int)=45)=false from rfl,ao7];rfl
theorem oG:∀(k j:Nat),s.length≤j+k→j≤s.length→Evt fun n=>∃y,da (S.tab n) s (j:Int)=some y∧BR (blk s k j) y
 |0,j,hk,hj=>by
  refine aD.up fun n hb=> ?_
  show∃y,da (S.step (S.tab n)) _ _=_∧_;rw[jg,az (by simp only[ao5];omega)];exact⟨_,rfl, .inr rfl⟩
 |k+1,j,hk,hj=>by
  by_cases hl:s.length≤j
  ·refine aD.up fun n hb=> ?_
   show∃y,da (S.step (S.tab n)) _ _=_∧_;rw[jg,az (by simp only[ao5];omega)];refine⟨_,rfl, .inr ?_⟩;unfold blk;rw[an8 hl];rfl
  have u5:j<s.length:=(by omega);have kY:=al u5
  have iO:decide ((j:Int)<(s.length:Int))=true:=by simp only[ao1];omega
  have w1:i64.wrap ((j:Int)+1)=((j+1:Nat):Int):=bD (by omega);have ih:=oG k (j+1) (by omega) (by omega);unfold blk;rw[an6 hl]
  by_cases c1:get s j=32
  ·refine ih.up fun n h=> ?_
   show∃y,da (S.step (S.tab n)) _ _=_∧_;rw[jg,ad iO,ad kY,aF,aL c1,w1,an8 c1];exact h
  by_cases c2:get s j=9
  ·refine ih.up fun n h=> ?_
   show∃y,da (S.step (S.tab n)) _ _=_∧_;rw[jg,ad iO,ad kY,aF,aH c1,ad kY,aL c2,w1,an8 c2,an6 c1];exact h
  by_cases c3:get s j=13
  ·refine ih.up fun n h=> ?_
   show∃y,da (S.step (S.tab n)) _ _=_∧_;rw[jg,ad iO,ad kY,aF,aH c1,ad kY,aH c2,ad kY,aL c3,w1,an8 c3,an6 c2,an6 c1];exact h
  rw[an6 c1,an6 c2,an6 c3]
  have start:∀n,(∀f:LI,jF (S.tab n) (sub s ↑j (s.length:Int)) f=some (pS s j f,ab))→da (S.step (S.tab n)) s (j:Int)=_:=fun n hp=>by
   rw[jg,ad iO,ad kY,aF,aH c1,ad kY,aH c2,ad kY,aH c3,ad (eD (by omega) (aq2 _)),hp,an7,Rf (s:=s) u5]
  cases hd:decide (get s j=45)&&decide (get s (j+1)=45)with
  |true=>
   have FW:get s j=45:=by
    rw[ao3,ao1]at hd;exact hd.1
   have hg:=Sg FW;have hle:=Pc (s:=s) (j:=j) hj;have ih:=oG k (Fg s j) (by omega) hle
   refine((ih.and (Kb hs j)).and (AK hs u5)).up fun n ⟨⟨h,h6⟩,hp⟩=> ?_
   show∃y,da (S.step (S.tab n)) _ _=_∧_;rw[start n hp,hd,ad (by rfl),h6];exact h
  |false=>
   refine(AK hs u5).up fun n hp=> ?_
   show∃y,da (S.step (S.tab n)) _ _=_∧_;rw[start n hp,hd,az (by rfl)];exact⟨_,rfl, .inl rfl⟩
theorem nR:∀(k j:Nat),s.length≤j+k→j≤s.length→Evt fun n=>∃y,bU (S.tab n) s (j:Int)=some y∧BR (blk s k j) y
 |0,j,hk,hj=>by
  refine aD.up fun n hb=> ?_
  show∃y,bU (S.step (S.tab n)) _ _=_∧_;rw[dN,az (by simp only[ao5];omega)];exact⟨_,rfl, .inr rfl⟩
 |k+1,j,hk,hj=>by
  by_cases hl:s.length≤j
  ·refine aD.up fun n hb=> ?_
   show∃y,bU (S.step (S.tab n)) _ _=_∧_;rw[dN,az (by simp only[ao5];omega)];refine⟨_,rfl, .inr ?_⟩;unfold blk;rw[an8 hl];rfl
  have u5:j<s.length:=(by omega);have kY:=al u5
  have iO:decide ((j:Int)<(s.length:Int))=true:=by simp only[ao1];omega
  have w1:i64.wrap ((j:Int)+1)=((j+1:Nat):Int):=bD (by omega);have ih:=nR k (j+1) (by omega) (by omega);unfold blk;rw[an6 hl]
  by_cases c1:get s j=32
  ·refine ih.up fun n h=> ?_
   show∃y,bU (S.step (S.tab n)) _ _=_∧_;rw[dN,ad iO,ad kY,aF,aL c1,w1,an8 c1];exact h
  by_cases c2:get s j=9
  ·refine ih.up fun n h=> ?_
   show∃y,bU (S.step (S.tab n)) _ _=_∧_;rw[dN,ad iO,ad kY,aF,aH c1,aL c2,w1,an8 c2,an6 c1];exact h
  by_cases c3:get s j=13
  ·refine ih.up fun n h=> ?_
   show∃y,bU (S.step (S.tab n)) _ _=_∧_;rw[dN,ad iO,ad kY,aF,aH c1,aH c2,aL c3,w1,an8 c3,an6 c2,an6 c1];exact h
  rw[an6 c1,an6 c2,an6 c3]
  by_cases FW:¬ get s j=45
  ·rw[an6 FW]
   refine aD.up fun n hb=> ?_
   show∃y,bU (S.step (S.tab n)) _ _=_∧_;rw[dN,ad iO,ad kY,aF,aH c1,aH c2,aH c3,ad (by rw[an6 FW];rfl)];exact⟨_,rfl, .inl rfl⟩
  replace FW:=Decidable.not_not.1 FW
  by_cases Et:¬ get s (j+1)=45
  ·rw[an6 Et,ao7]
   refine aD.up fun n hb=> ?_
   show∃y,bU (S.step (S.tab n)) _ _=_∧_;rw[dN,ad iO,ad kY,aF,aH c1,aH c2,aH c3,az (by rw[an8 FW];rfl),w1,hb.look,an7,ad (by rw[an6 Et];rfl)];exact⟨_,rfl, .inl rfl⟩
  replace Et:=Decidable.not_not.1 Et
  have hg:=Sg FW;have hle:=Pc (s:=s) (j:=j) hj;have ih:=nR k (Fg s j) (by omega) hle
  refine((ih.and (J1 hs j)).and aD).up fun n ⟨⟨h,h6⟩,hb⟩=> ?_
  show∃y,bU (S.step (S.tab n)) _ _=_∧_;rw[dN,ad iO,ad kY,aF,aH c1,aH c2,aH c3,az (by rw[an8 FW];rfl),w1,hb.look,an7,az (by rw[an8 Et];rfl),h6,an8 FW,an8 Et];exact h
theorem oY {j:Nat}(hj:j≤s.length):Evt fun n=>jk (S.tab n) s (j:Int)=some ((blank s j:Int),ab):=
 (oG hs s.length j (by omega) hj).up fun n ⟨y,h,hr⟩=>by
  rw[E8,h,an7]
  rcases hr with rfl|rfl<;>rfl
theorem rH {j:Nat}(hj:j≤s.length):Evt fun n=>jd (S.tab n) s (j:Int)=some ((blank s j:Int),ab):=
 (nR hs s.length j (by omega) hj).up fun n ⟨y,h,hr⟩=>by
  rw[As,h,an7]
  rcases hr with rfl|rfl<;>rfl
end Go.Abs.D
end
