/- What is here: the numbers of the library's functions in this program, and that they are laid as the kit's shelf wants them. -/
import Derived.Test.YtkmplfkiafonkaaGreatDoorR3
import Derived.Shelf.Strconv.ParseIntPublic10
import Derived.Shelf.Strconv.Itoa4
import Derived.Test.YtkmplfkiafonkaaGreatDoorProg
import Derived.KernelRfl
import Derived.Room.Shelf.Join48
import Derived.Shelf.Strings.Repeat
import Derived.Laws.Bits64b
import Derived.Lib.AppendIntMem
import Derived.WalkKit
import Derived.ProofKit
import Derived.OpenShut
import Derived.ShutString
import Derived.ChangeOld
import Derived.Below
import Derived.SizedLaws
import Derived.LaidMore
import Derived.Lay
import Derived.SevenTiedAt
import Derived.Stop.Joined
set_option linter.unusedVariables false
set_option linter.unusedSimpArgs false
set_option maxRecDepth 100000
open Go.IntKind (i64 u64 u8)
section
set_option maxRecDepth 100000
namespace Go.Abs.Lay
open Go.Proofs Go.Shelf
def PD:Ren where
 f:=fun n=>bif Nat.beq n 174 then 209 else bif Nat.beq n 247 then 234 else bif Nat.beq n 245 then 212 else bif Nat.beq n 287 then 211 else bif Nat.beq n 279 then 238 else bif Nat.beq n 280 then 239 else bif Nat.beq n 281 then 240 else bif Nat.beq n 282 then 241 else bif Nat.beq n 321 then 236 else bif Nat.beq n 322 then 237 else bif Nat.beq n 316 then 252 else bif Nat.beq n 171 then 45 else bif Nat.beq n 205 then 253 else bif Nat.beq n 243 then 86 else bif Nat.beq n 246 then 154 else bif Nat.beq n 283 then 214 else bif Nat.beq n 284 then 215 else bif Nat.beq n 285 then 216 else bif Nat.beq n 286 then 217 else bif Nat.beq n 129 then 245 else bif Nat.beq n 317 then 244 else bif Nat.beq n 318 then 246 else bif Nat.beq n 319 then 247 else bif Nat.beq n 320 then 248 else bif Nat.beq n 337 then 254 else bif Nat.beq n 338 then 255 else n
 t:=fun n=>bif Nat.beq n 9 then 9 else bif Nat.beq n 3 then 3 else bif Nat.beq n 2 then 2 else bif Nat.beq n 75 then 98 else bif Nat.beq n 85 then 187 else bif Nat.beq n 4 then 4 else bif Nat.beq n 167 then 204 else bif Nat.beq n 5 then 5 else bif Nat.beq n 53 then 154 else bif Nat.beq n 175 then 155 else bif Nat.beq n 46 then 164 else bif Nat.beq n 168 then 206 else bif Nat.beq n 37 then 45 else bif Nat.beq n 0 then 0 else bif Nat.beq n 210 then 216 else bif Nat.beq n 21 then 21 else bif Nat.beq n 127 then 101 else bif Nat.beq n 145 then 221 else bif Nat.beq n 143 then 219 else bif Nat.beq n 171 then 190 else bif Nat.beq n 173 then 193 else bif Nat.beq n 212 then 211 else bif Nat.beq n 51 then 197 else bif Nat.beq n 20 then 20 else bif Nat.beq n 213 then 212 else bif Nat.beq n 232 then 222 else bif Nat.beq n 233 then 223 else bif Nat.beq n 80 then 64 else n
 g:=fun n=>bif Nat.beq n 15 then 5 else bif Nat.beq n 16 then 6 else bif Nat.beq n 17 then 4 else bif Nat.beq n 18 then 7 else bif Nat.beq n 19 then 8 else n
theorem JS:LaysC.n174 Tryz.prog PD where
 mixed:=by kernel_rfl
 f129:=Tryz.func245.trans (congrArg some (by kernel_rfl))
 f171:=Tryz.func45.trans (congrArg some (by kernel_rfl))
 f174:=Tryz.func209.trans (congrArg some (by kernel_rfl))
 f205:=Tryz.func253.trans (congrArg some (by kernel_rfl))
 f243:=Tryz.func86.trans (congrArg some (by kernel_rfl))
 f245:=Tryz.func212.trans (congrArg some (by kernel_rfl))
 f246:=Tryz.func154.trans (congrArg some (by kernel_rfl))
 f247:=Tryz.func234.trans (congrArg some (by kernel_rfl))
 f279:=Tryz.func238.trans (congrArg some (by kernel_rfl))
 f280:=Tryz.func239.trans (congrArg some (by kernel_rfl))
 f281:=Tryz.func240.trans (congrArg some (by kernel_rfl))
 f282:=Tryz.func241.trans (congrArg some (by kernel_rfl))
 f283:=Tryz.func214.trans (congrArg some (by kernel_rfl))
 f284:=Tryz.func215.trans (congrArg some (by kernel_rfl))
 f285:=Tryz.func216.trans (congrArg some (by kernel_rfl))
 f286:=Tryz.func217.trans (congrArg some (by kernel_rfl))
 f287:=Tryz.func211.trans (congrArg some (by kernel_rfl))
 f316:=Tryz.func252.trans (congrArg some (by kernel_rfl))
 f317:=Tryz.func244.trans (congrArg some (by kernel_rfl))
 f318:=Tryz.func246.trans (congrArg some (by kernel_rfl))
 f319:=Tryz.func247.trans (congrArg some (by kernel_rfl))
 f320:=Tryz.func248.trans (congrArg some (by kernel_rfl))
 f321:=Tryz.func236.trans (congrArg some (by kernel_rfl))
 f322:=Tryz.func237.trans (congrArg some (by kernel_rfl))
 f337:=Tryz.func254.trans (congrArg some (by kernel_rfl))
 f338:=Tryz.func255.trans (congrArg some (by kernel_rfl))
 t0:=Tryz.underlying0
 a0:=Tryz.isAgg0
 z0:=Tryz.sizeOf0
 v0:=Tryz.zeroValue0
 t2:=Tryz.underlying2
 a2:=Tryz.isAgg2
 z2:=Tryz.sizeOf2
 v2:=Tryz.zeroValue2
 t3:=Tryz.underlying3
 a3:=Tryz.isAgg3
 z3:=Tryz.sizeOf3
 v3:=Tryz.zeroValue3
 t4:=Tryz.underlying4
 a4:=Tryz.isAgg4
 z4:=Tryz.sizeOf4
 v4:=Tryz.zeroValue4
 t5:=Tryz.underlying5
 a5:=Tryz.isAgg5
 z5:=Tryz.sizeOf5
 v5:=Tryz.zeroValue5
 t9:=Tryz.underlying9
 a9:=Tryz.isAgg9
 z9:=Tryz.sizeOf9
 v9:=Tryz.zeroValue9
 t20:=Tryz.underlying20
 a20:=Tryz.isAgg20
 z20:=Tryz.sizeOf20
 v20:=Tryz.zeroValue20
 t21:=Tryz.underlying21
 a21:=Tryz.isAgg21
 z21:=Tryz.sizeOf21
 v21:=Tryz.zeroValue21
 t37:=Tryz.underlying45
 a37:=Tryz.isAgg45
 z37:=Tryz.sizeOf45
 v37:=Tryz.zeroValue45
 t46:=Tryz.underlying164
 a46:=Tryz.isAgg164
 z46:=Tryz.sizeOf164
 v46:=Tryz.zeroValue164
 t51:=Tryz.underlying197
 a51:=Tryz.isAgg197
 z51:=Tryz.sizeOf197
 v51:=Tryz.zeroValue197
 t53:=Tryz.underlying154
 a53:=Tryz.isAgg154
 z53:=Tryz.sizeOf154
 v53:=Tryz.zeroValue154
 t75:=Tryz.underlying98
 a75:=Tryz.isAgg98
 z75:=Tryz.sizeOf98
 v75:=Tryz.zeroValue98
 t85:=Tryz.underlying187
 a85:=Tryz.isAgg187
 z85:=Tryz.sizeOf187
 v85:=Tryz.zeroValue187
 t127:=Tryz.underlying101
 a127:=Tryz.isAgg101
 z127:=Tryz.sizeOf101
 v127:=Tryz.zeroValue101
 t143:=Tryz.underlying219
 a143:=Tryz.isAgg219
 z143:=Tryz.sizeOf219
 v143:=Tryz.zeroValue219
 t145:=Tryz.underlying221
 a145:=Tryz.isAgg221
 z145:=Tryz.sizeOf221
 v145:=Tryz.zeroValue221
 t167:=Tryz.underlying204
 a167:=Tryz.isAgg204
 z167:=Tryz.sizeOf204
 v167:=Tryz.zeroValue204
 t168:=Tryz.underlying206
 a168:=Tryz.isAgg206
 z168:=Tryz.sizeOf206
 v168:=Tryz.zeroValue206
 t171:=Tryz.underlying190
 a171:=Tryz.isAgg190
 z171:=Tryz.sizeOf190
 v171:=Tryz.zeroValue190
 t173:=Tryz.underlying193
 a173:=Tryz.isAgg193
 z173:=Tryz.sizeOf193
 v173:=Tryz.zeroValue193
 t175:=Tryz.underlying155
 a175:=Tryz.isAgg155
 z175:=Tryz.sizeOf155
 v175:=Tryz.zeroValue155
 t210:=Tryz.underlying216
 a210:=Tryz.isAgg216
 z210:=Tryz.sizeOf216
 v210:=Tryz.zeroValue216
 t212:=Tryz.underlying211
 a212:=Tryz.isAgg211
 z212:=Tryz.sizeOf211
 v212:=Tryz.zeroValue211
 t213:=Tryz.underlying212
 a213:=Tryz.isAgg212
 z213:=Tryz.sizeOf212
 t232:=Tryz.underlying222
 a232:=Tryz.isAgg222
 z232:=Tryz.sizeOf222
 v232:=Tryz.zeroValue222
 t233:=Tryz.underlying223
 a233:=Tryz.isAgg223
 z233:=Tryz.sizeOf223
 v233:=Tryz.zeroValue223
 g15:=by kernel_rfl
 g16:=by kernel_rfl
 g17:=by kernel_rfl
 g18:=by kernel_rfl
 g19:=by kernel_rfl
 t80:=Tryz.underlying64
 a80:=Tryz.isAgg64
 z80:=Tryz.sizeOf64
 v80:=Tryz.zeroValue64
 i0:=by kernel_rfl
 i2:=by kernel_rfl
 i3:=by kernel_rfl
 i4:=by kernel_rfl
 i5:=by kernel_rfl
 i9:=by kernel_rfl
 i20:=by kernel_rfl
 i21:=by kernel_rfl
 i37:=by kernel_rfl
 i46:=by kernel_rfl
 i51:=by kernel_rfl
 i53:=by kernel_rfl
 i75:=by kernel_rfl
 i80:=by kernel_rfl
 i85:=by kernel_rfl
 i127:=by kernel_rfl
 i143:=by kernel_rfl
 i145:=by kernel_rfl
 i167:=by kernel_rfl
 i168:=by kernel_rfl
 i171:=by kernel_rfl
 i173:=by kernel_rfl
 i175:=by kernel_rfl
 i210:=by kernel_rfl
 i212:=by kernel_rfl
 i232:=by kernel_rfl
 i233:=by kernel_rfl
 m15:=by kernel_rfl
 m16:=by kernel_rfl
 m17:=by kernel_rfl
 m18:=by kernel_rfl
 m19:=by kernel_rfl
 c0:=by kernel_rfl
 c2:=by kernel_rfl
 c3:=by kernel_rfl
 c4:=by kernel_rfl
 c5:=by kernel_rfl
 c9:=by kernel_rfl
 c20:=by kernel_rfl
 c21:=by kernel_rfl
 c37:=by kernel_rfl
 c46:=by kernel_rfl
 c51:=by kernel_rfl
 c53:=by kernel_rfl
 c75:=by kernel_rfl
 c80:=by kernel_rfl
 c85:=by kernel_rfl
 c127:=by kernel_rfl
 c143:=by kernel_rfl
 c145:=by kernel_rfl
 c167:=by kernel_rfl
 c168:=by kernel_rfl
 c171:=by kernel_rfl
 c173:=by kernel_rfl
 c175:=by kernel_rfl
 c210:=by kernel_rfl
 c212:=by kernel_rfl
 c213:=by kernel_rfl
 c232:=by kernel_rfl
 c233:=by kernel_rfl
def Pr:Ren where
 f:=fun n=>bif Nat.beq n 173 then 80 else bif Nat.beq n 246 then 154 else bif Nat.beq n 283 then 214 else bif Nat.beq n 284 then 215 else bif Nat.beq n 285 then 216 else bif Nat.beq n 286 then 217 else bif Nat.beq n 129 then 245 else bif Nat.beq n 317 then 244 else bif Nat.beq n 318 then 246 else bif Nat.beq n 319 then 247 else bif Nat.beq n 320 then 248 else bif Nat.beq n 337 then 254 else bif Nat.beq n 338 then 255 else n
 t:=fun n=>bif Nat.beq n 2 then 2 else bif Nat.beq n 3 then 3 else bif Nat.beq n 9 then 9 else bif Nat.beq n 4 then 4 else bif Nat.beq n 171 then 190 else bif Nat.beq n 0 then 0 else bif Nat.beq n 53 then 154 else bif Nat.beq n 37 then 45 else bif Nat.beq n 5 then 5 else bif Nat.beq n 173 then 193 else bif Nat.beq n 212 then 211 else bif Nat.beq n 51 then 197 else bif Nat.beq n 20 then 20 else bif Nat.beq n 213 then 212 else bif Nat.beq n 46 then 164 else bif Nat.beq n 232 then 222 else bif Nat.beq n 233 then 223 else n
 g:=fun n=>bif Nat.beq n 17 then 4 else bif Nat.beq n 18 then 7 else bif Nat.beq n 19 then 8 else n
theorem Nc:LaysM.n173 Tryz.prog Pr where
 mixed:=by kernel_rfl
 f129:=Tryz.func245.trans (congrArg some (by kernel_rfl))
 f173:=Tryz.func80.trans (congrArg some (by kernel_rfl))
 f246:=Tryz.func154.trans (congrArg some (by kernel_rfl))
 f283:=Tryz.func214.trans (congrArg some (by kernel_rfl))
 f284:=Tryz.func215.trans (congrArg some (by kernel_rfl))
 f285:=Tryz.func216.trans (congrArg some (by kernel_rfl))
 f286:=Tryz.func217.trans (congrArg some (by kernel_rfl))
 f317:=Tryz.func244.trans (congrArg some (by kernel_rfl))
 f318:=Tryz.func246.trans (congrArg some (by kernel_rfl))
 f319:=Tryz.func247.trans (congrArg some (by kernel_rfl))
 f320:=Tryz.func248.trans (congrArg some (by kernel_rfl))
 f337:=Tryz.func254.trans (congrArg some (by kernel_rfl))
 f338:=Tryz.func255.trans (congrArg some (by kernel_rfl))
 t0:=Tryz.underlying0
 a0:=Tryz.isAgg0
 z0:=Tryz.sizeOf0
 v0:=Tryz.zeroValue0
 t2:=Tryz.underlying2
 a2:=Tryz.isAgg2
 z2:=Tryz.sizeOf2
 v2:=Tryz.zeroValue2
 t3:=Tryz.underlying3
 a3:=Tryz.isAgg3
 z3:=Tryz.sizeOf3
 v3:=Tryz.zeroValue3
 t4:=Tryz.underlying4
 a4:=Tryz.isAgg4
 z4:=Tryz.sizeOf4
 v4:=Tryz.zeroValue4
 t5:=Tryz.underlying5
 a5:=Tryz.isAgg5
 z5:=Tryz.sizeOf5
 v5:=Tryz.zeroValue5
 t9:=Tryz.underlying9
 a9:=Tryz.isAgg9
 z9:=Tryz.sizeOf9
 v9:=Tryz.zeroValue9
 t20:=Tryz.underlying20
 a20:=Tryz.isAgg20
 z20:=Tryz.sizeOf20
 v20:=Tryz.zeroValue20
 t37:=Tryz.underlying45
 a37:=Tryz.isAgg45
 z37:=Tryz.sizeOf45
 v37:=Tryz.zeroValue45
 t46:=Tryz.underlying164
 a46:=Tryz.isAgg164
 z46:=Tryz.sizeOf164
 v46:=Tryz.zeroValue164
 t51:=Tryz.underlying197
 a51:=Tryz.isAgg197
 z51:=Tryz.sizeOf197
 v51:=Tryz.zeroValue197
 t53:=Tryz.underlying154
 a53:=Tryz.isAgg154
 z53:=Tryz.sizeOf154
 v53:=Tryz.zeroValue154
 t171:=Tryz.underlying190
 a171:=Tryz.isAgg190
 z171:=Tryz.sizeOf190
 v171:=Tryz.zeroValue190
 t173:=Tryz.underlying193
 a173:=Tryz.isAgg193
 z173:=Tryz.sizeOf193
 v173:=Tryz.zeroValue193
 t212:=Tryz.underlying211
 a212:=Tryz.isAgg211
 z212:=Tryz.sizeOf211
 v212:=Tryz.zeroValue211
 t213:=Tryz.underlying212
 a213:=Tryz.isAgg212
 z213:=Tryz.sizeOf212
 t232:=Tryz.underlying222
 a232:=Tryz.isAgg222
 z232:=Tryz.sizeOf222
 v232:=Tryz.zeroValue222
 t233:=Tryz.underlying223
 a233:=Tryz.isAgg223
 z233:=Tryz.sizeOf223
 v233:=Tryz.zeroValue223
 g17:=by kernel_rfl
 g18:=by kernel_rfl
 g19:=by kernel_rfl
 i0:=by kernel_rfl
 i2:=by kernel_rfl
 i3:=by kernel_rfl
 i4:=by kernel_rfl
 i5:=by kernel_rfl
 i9:=by kernel_rfl
 i20:=by kernel_rfl
 i37:=by kernel_rfl
 i46:=by kernel_rfl
 i51:=by kernel_rfl
 i53:=by kernel_rfl
 i171:=by kernel_rfl
 i173:=by kernel_rfl
 i212:=by kernel_rfl
 i232:=by kernel_rfl
 i233:=by kernel_rfl
 m17:=by kernel_rfl
 m18:=by kernel_rfl
 m19:=by kernel_rfl
end Go.Abs.Lay
end

section
set_option maxRecDepth 100000
namespace Go.Abs.Lx
open Go.Proofs
theorem qi {w w':World}(h:RowKit.Below w.heap.size w w'):Same w w':=⟨fun b hb=>h.block b hb,h.size,h.os,h.tape,h.output⟩
theorem Ck (w:World)(k:Nat)(os:Array Go.Obj):Same w (Go.Sort.grow (w.drewN k) os):=by
 refine⟨fun b hb=> ?_, ?_,rfl,rfl,rfl⟩
 ·show(w.heap++os)[b]?=_;rw[Array.getElem?_append_left hb]
 ·show _≤(w.heap++os).size;simp
theorem Ec {cd:Nat→Option (List Cell)}(hg:cd 6=some [.err false]):jC Tryz.prog cd 209 ⟨⟨[.one (.cf .str), .one (.cf (.int .i64)), .one (.cf (.int .i64))], .vi [.one (.cf (.int .i64)), .one .err]⟩,lZ⟩:=by
 intro x y hF ax w args nb hG fQ hP kY o9;obtain⟨hA,rfl⟩:=qG (ts:=[.str, .int .i64, .int .i64]) rfl hP;obtain⟨u1,r1,rfl,⟨s,rfl,hs⟩,u2,r2,rfl,h2,u3,r3,rfl,h3,h4⟩:=hA;have h2:_=_:=h2;have h3:_=_:=h3;have h4:_=_:=h4;subst h2;subst h3;subst h4;have hs:x.1=bytesOf s:=hs;have hF:lZ x=some y:=hF;unfold lZ at hF
 cases hc:(decide (x.2.1=10)&&decide (x.2.2.1=64)&&fits x.1.length)with
 |false=>rw[hc]at hF;cases hF
 |true=>
  rw[hc]at hF;simp only[Wg]at hF;simp only[V6,V4]at hc;obtain⟨⟨e1,e2⟩,hl⟩:=hc
  have iE:s.size≤1099511627776:=by
   have:=Wr hl;rw[hs,cR]at this;exact this
  have f1:x.2.1=10:=e1;have f2:x.2.2.1=64:=e2;show eS Tryz.prog 209 #[.string s, .int .i64 x.2.1, .int .i64 x.2.2.1] w _;rw[f1,f2];have hu:u8s x.1=s.data.toList:=(by rw[hs,xz]);rw[hu]at hF
  have fin:∀{v:Int} {b:Bool} {u:Value} {w':World},Same w w'→y=((v,b,()),(),(),(),())→((b=true∧u= .nilIface)∨(b=false∧∃t p,u= .iface t p))→∃cH n1 n2,After ax w [] cH w' (n1++n2)∧
    uw cH w' (.vi [.one (.cf (.int .i64)), .one .err]) y.1 (.tuple #[.int .i64 v,u]) n1∧iO cH w w' [.one (.cf .str), .one (.cf (.int .i64)), .one (.cf (.int .i64))] y.2 [.string s, .int .i64 x.2.1, .int .i64 x.2.2.1] n2:=by
   intro v b u w' Kz hy hu;subst hy;refine⟨ax,[],[],Kz.after fQ,⟨[_,_],rfl,_,_,[],[],rfl,rfl,⟨rfl,rfl,rfl,_,rfl,rfl⟩,_,_,[],[],rfl,rfl,⟨?_,rfl,_,rfl,hu⟩,rfl,rfl⟩,qJ (ts:=[.str, .int .i64, .int .i64]) (y:=x) ⟨_,_,rfl,⟨s,rfl,hs⟩,_,_,rfl,rfl,_,_,rfl,rfl,rfl⟩⟩
   rcases hu with⟨_,rfl⟩|⟨_,t,p,rfl⟩<;>rfl
  rw[f1,f2]at fin
  cases hp:Lib.parseIntB 64 s.data.toList with
  |ok v=>
   rw[hp]at hF
   injection hF with hF
   refine b8 Tryz.func209 rfl (by kernel_rfl) ((Any.strconv_ParseInt_10_at64_ok Lay.JS s (by omega) v hp w).mono ?_);rintro e w' ⟨rfl,hw⟩;refine⟨_,rfl,fin (b:=true) ?_ hF.symm (.inl ⟨rfl,rfl⟩)⟩
   rcases hw with rfl|⟨t,rfl⟩
   ·exact Same.refl _
   ·exact⟨fun b hb=>Lib.bytesWorld_at_old w _ t b hb,by rw[Lib.bytesWorld_size];omega,rfl,rfl,rfl⟩
  |range=>
   rw[hp]at hF
   injection hF with hF
   obtain⟨us,hi,Qi⟩:=hG _ _ hg;obtain⟨arr,ty,fr,ha,hL⟩:=fQ _ _ hi
   obtain⟨u,r,rfl,hu,hr⟩:=Qi ⟨ax,fun _=>0,fun _ _=> .nilIface,fun _=>none,fun _=>none,fun _=>[]⟩ fun _ _ h=>h
   have hr:r=[]:=hr;subst hr
   have ir:w.cell? ⟨6,0,none⟩=some u:=by
    rw[Lib.cell_of_heap ha];have:arr[0]?=arr.toList[0]?:=(by simp);rw[this,hL];rfl
   refine b8 Tryz.func209 rfl (by kernel_rfl) ((Any.strconv_ParseInt_10_at64_range Lay.JS s (by omega) hp u w ir ?_).mono ?_)
   ·rcases hu with⟨h,_⟩|⟨_,t,v,rfl⟩
    ·cases h
    ·exact .inr ⟨t,v,rfl⟩
   rintro e w' ⟨N,rfl,_,_,hw⟩;exact⟨_,rfl,fin (b:=false) (qi hw) hF.symm (.inr ⟨rfl,_,_,rfl⟩)⟩
  |_=>rw[hp]at hF;cases hF
theorem CY {cd:Nat→Option (List Cell)}(hg:cd 4=some Mp):jC Tryz.prog cd 80 ⟨⟨[.one (.cf (.int .i64)), .one (.cf (.int .i64))], .val (.one (.cf .str))⟩,kD⟩:=by
 intro x y hF ax w args nb hG fQ hP kY o9;obtain⟨hA,rfl⟩:=qG (ts:=[.int .i64, .int .i64]) rfl hP;obtain⟨u1,r1,rfl,h1,u2,r2,rfl,h2,h4⟩:=hA;have h1:_=_:=h1;have h2:_=_:=h2;have h4:_=_:=h4;subst h1;subst h2;subst h4;have hF:kD x=some y:=hF;unfold kD at hF
 cases hc:(decide (x.2.1=10)&&decide (-9223372036854775808≤x.1)&&decide (x.1≤9223372036854775807))with
 |false=>rw[hc]at hF;cases hF
 |true=>
  rw[hc]at hF
  injection hF with hF
  simp only[V6,V4]at hc;obtain⟨⟨e1,e2⟩,e3⟩:=hc;have f1:x.2.1=10:=e1;show eS Tryz.prog 80 #[.int .i64 x.1, .int .i64 x.2.1] w _;rw[f1];obtain⟨us,hi,Qi⟩:=hG _ _ hg;obtain⟨arr,ty,fr,ha,hL⟩:=fQ _ _ hi
  have Kr:=Qi ⟨ax,fun _=>0,fun _ _=> .nilIface,fun _=>none,fun _=>none,fun _=>[]⟩ fun _ _ h=>h
  have QJ:us=Lib.pow10Tab.map fun z=>Value.int .u64 z:=by
   have all:∀(l:List Int) (us:List Value) (g:Gh),aA g (l.map fun z=> .v (.int .u64) z) us→us=l.map fun z=>Value.int .u64 z:=by
    intro l
    induction l with
    |nil=>intro us g h;exact h
    |cons z l ih=>
     intro us g h;obtain⟨u,r,rfl,hu,hr⟩:=h;have hu:[u]=[Value.int .u64 z]:=hu.2
     injection hu with hu _
     subst hu;rw[ih r g hr];rfl
   exact all _ _ _ Kr
  have TE:Lib.TabIs Tryz.prog w "internal/strconv.uint64pow10" .u64 Lib.pow10Tab:=by
   have hn:Tryz.prog.globalNamed "internal/strconv.uint64pow10" =some 4:=by kernel_rfl
   unfold Lib.TabIs World.var?;rw[hn];simp only[VX,ha]
   have:arr=(Lib.pow10Tab.map fun z=>Value.int .u64 z).toArray:=by
    apply Array.ext'
    rw[hL,QJ]
   rw[this]
  refine b8 Tryz.func80 rfl (by kernel_rfl) ((Any.strconv_FormatInt_10 Lay.Nc x.1 e2 e3 w TE).mono ?_);rintro e w' ⟨rfl,k,os,rfl⟩;subst hF;exact⟨_,rfl,ax,[],[],(Ck w k os).after fQ,⟨rfl,rfl,rfl,_,rfl,_,rfl,rfl⟩,qJ (ts:=[.int .i64, .int .i64]) (y:=x) ⟨_,_,rfl,rfl,_,_,rfl,f1 ▸ rfl,rfl⟩⟩
end Go.Abs.Lx
end

section
set_option maxRecDepth 100000
namespace Go.Abs.Lay
open Go.Proofs Go.Shelf
def My:Ren where
 f:=fun n=>bif Nat.beq n 156 then 57 else bif Nat.beq n 165 then 103 else bif Nat.beq n 166 then 63 else bif Nat.beq n 169 then 30 else bif Nat.beq n 240 then 110 else bif Nat.beq n 241 then 179 else bif Nat.beq n 276 then 183 else bif Nat.beq n 277 then 223 else n
 t:=fun n=>bif Nat.beq n 31 then 48 else bif Nat.beq n 9 then 9 else bif Nat.beq n 3 then 3 else bif Nat.beq n 4 then 4 else bif Nat.beq n 0 then 0 else bif Nat.beq n 20 then 20 else bif Nat.beq n 72 then 59 else bif Nat.beq n 76 then 99 else bif Nat.beq n 70 then 57 else bif Nat.beq n 37 then 45 else bif Nat.beq n 75 then 98 else bif Nat.beq n 127 then 101 else bif Nat.beq n 164 then 178 else bif Nat.beq n 5 then 5 else bif Nat.beq n 80 then 64 else n
 g:=fun n=>n
theorem JY:Lays.n156 Tryz.prog My where
 mixed:=by kernel_rfl
 f156:=Tryz.func57.trans (congrArg some (by kernel_rfl))
 f165:=Tryz.func103.trans (congrArg some (by kernel_rfl))
 f166:=Tryz.func63.trans (congrArg some (by kernel_rfl))
 f169:=Tryz.func30.trans (congrArg some (by kernel_rfl))
 f240:=Tryz.func110.trans (congrArg some (by kernel_rfl))
 f241:=Tryz.func179.trans (congrArg some (by kernel_rfl))
 f276:=Tryz.func183.trans (congrArg some (by kernel_rfl))
 f277:=Tryz.func223.trans (congrArg some (by kernel_rfl))
 t0:=Tryz.underlying0
 a0:=Tryz.isAgg0
 z0:=Tryz.sizeOf0
 v0:=Tryz.zeroValue0
 t3:=Tryz.underlying3
 a3:=Tryz.isAgg3
 z3:=Tryz.sizeOf3
 v3:=Tryz.zeroValue3
 t4:=Tryz.underlying4
 a4:=Tryz.isAgg4
 z4:=Tryz.sizeOf4
 v4:=Tryz.zeroValue4
 t9:=Tryz.underlying9
 a9:=Tryz.isAgg9
 z9:=Tryz.sizeOf9
 v9:=Tryz.zeroValue9
 t20:=Tryz.underlying20
 a20:=Tryz.isAgg20
 z20:=Tryz.sizeOf20
 v20:=Tryz.zeroValue20
 t31:=Tryz.underlying48
 a31:=Tryz.isAgg48
 z31:=Tryz.sizeOf48
 v31:=Tryz.zeroValue48
 t37:=Tryz.underlying45
 a37:=Tryz.isAgg45
 z37:=Tryz.sizeOf45
 v37:=Tryz.zeroValue45
 t70:=Tryz.underlying57
 a70:=Tryz.isAgg57
 z70:=Tryz.sizeOf57
 v70:=Tryz.zeroValue57
 t72:=Tryz.underlying59
 a72:=Tryz.isAgg59
 z72:=Tryz.sizeOf59
 v72:=Tryz.zeroValue59
 t75:=Tryz.underlying98
 a75:=Tryz.isAgg98
 z75:=Tryz.sizeOf98
 v75:=Tryz.zeroValue98
 t76:=Tryz.underlying99
 a76:=Tryz.isAgg99
 z76:=Tryz.sizeOf99
 v76:=Tryz.zeroValue99
 t127:=Tryz.underlying101
 a127:=Tryz.isAgg101
 z127:=Tryz.sizeOf101
 v127:=Tryz.zeroValue101
 t164:=Tryz.underlying178
 a164:=Tryz.isAgg178
 z164:=Tryz.sizeOf178
 v164:=Tryz.zeroValue178
end Go.Abs.Lay
end

section
set_option maxRecDepth 100000
namespace Go.Abs.Lx
open Go.Proofs
def toB (l:List Int):ByteArray:=⟨(u8s l).toArray⟩
theorem xR (s:ByteArray):toB (bytesOf s)=s:=by
 unfold toB;rw[xz]
theorem AI (sep:ByteArray):∀(bs:List ByteArray),s7 (bs.map bytesOf) (bytesOf sep)=ints (Lib.join (bs.map fun b=>b.data.toList) sep.data.toList)
 |[]=>rfl
 |[b]=>by rw[List.map_cons,List.map_nil,List.map_cons,List.map_nil,Lib.join_one];rfl
 |b::c::r=>by
  have ih:=AI sep (c::r);rw[List.map_cons,List.map_cons]at ih;rw[List.map_cons,List.map_cons,s7,ih];simp only[List.map_cons,Lib.join_cons,Lib.joinTail];simp[ints,bytesOf,List.map_append]
theorem extra:Builder.Extra Tryz.prog Lay.My where
 sizeBuilder:=by kernel_rfl
 liesBuilder:=by kernel_rfl
 t5:=by kernel_rfl
 a5:=fun w=>by kernel_rfl
 z5:=fun w=>by kernel_rfl
 v5:=fun w=>by kernel_rfl
 infoByte:=by kernel_rfl
 cellsByte:=by kernel_rfl
 sizeByte:=by kernel_rfl
 neB5:=by decide
theorem Lt (cd:Nat→Option (List Cell)):jC Tryz.prog cd 57 ⟨⟨[.one (.cf (.sl .str)), .one (.cf .str)], .val (.one (.cf .str))⟩,s9⟩:=by
 intro x y hF ax w args nb hG fQ hP kY o9;obtain⟨u1,r1,n1,n2,rfl,rfl,⟨_,rfl,_,UK,e1,hx⟩,u2,r2,n3,n4,rfl,rfl,⟨_,rfl,_,Uz,e2,hs⟩,rfl,rfl⟩:=hP
 injection e1 with e1;subst e1
 injection e2 with e2;subst e2
 obtain⟨sep,e3,hs⟩:=hs
 injection e3 with e3;subst e3
 obtain⟨A,c,e4,hc,hx⟩:=hx
 injection e4 with e4;subst e4
 obtain⟨xs,sp,_⟩:=x;have hs:sp=bytesOf sep:=hs;subst hs;have hc:xs.length≤c:=hc;have hF:s9 (xs,bytesOf sep,())=some y:=hF;unfold s9 at hF
 cases hq:(fits xs.length&&fits (s7 xs (bytesOf sep)).length)with
 |false=>
  dsimp only at hF;rw[hq]at hF;cases hF
 |true=>
  dsimp only at hF;rw[hq]at hF
  injection hF with hF
  simp only[V6]at hq;have l1:xs.length≤1099511627776:=Wr hq.1;have l2:(s7 xs (bytesOf sep)).length≤1099511627776:=Wr hq.2
  have fin:∀{u:Value} {w':World},Same w w'→u= .string ⟨(Lib.join ((xs.map toB).map fun b=>b.data.toList) sep.data.toList).toArray⟩→xs=(xs.map toB).map bytesOf→∃cH n1 n2,After ax w [] cH w' (n1++n2)∧
    uw cH w' (.val (.one (.cf .str))) y.1 u n1∧iO cH w w' [.one (.cf (.sl .str)), .one (.cf .str)] y.2 [.slice A xs.length c, .string sep] n2:=by
   intro u w' Kz hu QA;subst hF;subst hu;refine⟨ax,[],[],Kz.after fQ,⟨rfl,rfl,rfl,_,rfl,_,rfl, ?_⟩,_,_,[],[],rfl,rfl,rfl,_,_,[],[],rfl,rfl,rfl,rfl,rfl⟩;show s7 xs (bytesOf sep)=_
   conv=>lhs;rw[QA]
   rw[AI];rfl
  rcases hx with h0|⟨b,o,L,rfl,hb,K4⟩
  ·have h0:xs=[]:=h0;subst h0;refine b8 Tryz.func57 rfl (by kernel_rfl) ((Any.strings_Join_none Lay.JY extra A c sep w).mono ?_);rintro e w' ⟨rfl,rfl⟩;exact⟨_,rfl,fin (Same.refl _) rfl rfl⟩
  ·obtain⟨arr,ty,fr,ha,hL⟩:=fQ _ _ hb;have K4:∀i (h:i<xs.length),Rc ax .str xs[i] ((L.drop (o+i*1)).take 1):=K4
   have QA:xs=(xs.map toB).map bytesOf:=by
    rw[List.map_map]
    apply List.ext_getElem (by simp)
    intro i h1 h2;obtain⟨s,_,e⟩:=K4 i h1;rw[List.getElem_map];show _=bytesOf (toB xs[i]);have e:xs[i]=bytesOf s:=e;rw[e,xR]
   have ir:∀(j:Nat) z,(xs.map toB)[j]?=some z→w.cell? ⟨b,o+j,none⟩=some (.string z):=by
    intro j z hz;rw[List.getElem?_map]at hz
    cases hj:xs[j]? with
    |none=>rw[hj]at hz;cases hz
    |some v=>
     rw[hj]at hz
     injection hz with hz
     obtain⟨h1,h2⟩:=List.getElem?_eq_some_iff.1 hj;obtain⟨s,e,e'⟩:=K4 j h1;have e':xs[j]=bytesOf s:=e';rw[h2]at e';rw[e',xR]at hz;subst hz;rw[Lib.cell_of_heap ha]
     have:arr[o+j]?=(L.drop (o+j*1)).head?:=by
      rw[List.head?_drop,←hL,Nat.mul_one];simp
     rw[this]
     cases hd:L.drop (o+j*1)with
     |nil=>rw[hd]at e;cases e
     |cons a r=>
      rw[hd]at e
      injection e with e _
      subst e;rfl
   have hlen:(xs.map toB).length=xs.length:=(by simp)
   have Pe:(Lib.join ((xs.map toB).map fun b=>b.data.toList) sep.data.toList).length≤281474976710656:=by
    have:=l2;rw[QA,AI]at this;rw[ints,List.length_map]at this;omega
   have C:=Any.strings_Join_48 Lay.JY extra b o c (xs.map toB) sep w ir (lt_of_heap ha) (by rw[hlen];omega) (by rw[hlen];exact hc) Pe;rw[hlen]at C;refine b8 Tryz.func57 rfl (by kernel_rfl) (C.mono ?_);rintro e w' ⟨rfl,hw⟩;exact⟨_,rfl,fin (qi hw) rfl QA⟩
end Go.Abs.Lx
end

section
set_option maxRecDepth 100000
namespace Go.Abs.Lay
open Go.Proofs Go.Shelf
def Mt:Ren where
 f:=fun n=>bif Nat.beq n 105 then 104 else bif Nat.beq n 212 then 180 else bif Nat.beq n 99 then 123 else bif Nat.beq n 165 then 103 else bif Nat.beq n 166 then 63 else bif Nat.beq n 170 then 29 else bif Nat.beq n 169 then 30 else bif Nat.beq n 263 then 224 else bif Nat.beq n 264 then 225 else bif Nat.beq n 206 then 208 else bif Nat.beq n 240 then 110 else bif Nat.beq n 241 then 179 else bif Nat.beq n 276 then 183 else bif Nat.beq n 277 then 223 else n
 t:=fun n=>bif Nat.beq n 9 then 9 else bif Nat.beq n 3 then 3 else bif Nat.beq n 4 then 4 else bif Nat.beq n 20 then 20 else bif Nat.beq n 0 then 0 else bif Nat.beq n 46 then 164 else bif Nat.beq n 109 then 175 else bif Nat.beq n 5 then 5 else bif Nat.beq n 72 then 59 else bif Nat.beq n 76 then 99 else bif Nat.beq n 51 then 197 else bif Nat.beq n 146 then 198 else bif Nat.beq n 53 then 154 else bif Nat.beq n 148 then 200 else bif Nat.beq n 70 then 57 else bif Nat.beq n 37 then 45 else bif Nat.beq n 75 then 98 else bif Nat.beq n 127 then 101 else bif Nat.beq n 164 then 178 else bif Nat.beq n 80 then 64 else n
 g:=fun n=>n
theorem NA:Lays.n105 Tryz.prog Mt where
 mixed:=by kernel_rfl
 f99:=Tryz.func123.trans (congrArg some (by kernel_rfl))
 f105:=Tryz.func104.trans (congrArg some (by kernel_rfl))
 f165:=Tryz.func103.trans (congrArg some (by kernel_rfl))
 f166:=Tryz.func63.trans (congrArg some (by kernel_rfl))
 f169:=Tryz.func30.trans (congrArg some (by kernel_rfl))
 f170:=Tryz.func29.trans (congrArg some (by kernel_rfl))
 f206:=Tryz.func208.trans (congrArg some (by kernel_rfl))
 f212:=Tryz.func180.trans (congrArg some (by kernel_rfl))
 f240:=Tryz.func110.trans (congrArg some (by kernel_rfl))
 f241:=Tryz.func179.trans (congrArg some (by kernel_rfl))
 f263:=Tryz.func224.trans (congrArg some (by kernel_rfl))
 f264:=Tryz.func225.trans (congrArg some (by kernel_rfl))
 f276:=Tryz.func183.trans (congrArg some (by kernel_rfl))
 f277:=Tryz.func223.trans (congrArg some (by kernel_rfl))
 t0:=Tryz.underlying0
 a0:=Tryz.isAgg0
 z0:=Tryz.sizeOf0
 v0:=Tryz.zeroValue0
 t3:=Tryz.underlying3
 a3:=Tryz.isAgg3
 z3:=Tryz.sizeOf3
 v3:=Tryz.zeroValue3
 t4:=Tryz.underlying4
 a4:=Tryz.isAgg4
 z4:=Tryz.sizeOf4
 v4:=Tryz.zeroValue4
 t5:=Tryz.underlying5
 a5:=Tryz.isAgg5
 z5:=Tryz.sizeOf5
 v5:=Tryz.zeroValue5
 t9:=Tryz.underlying9
 a9:=Tryz.isAgg9
 z9:=Tryz.sizeOf9
 v9:=Tryz.zeroValue9
 t20:=Tryz.underlying20
 a20:=Tryz.isAgg20
 z20:=Tryz.sizeOf20
 v20:=Tryz.zeroValue20
 t37:=Tryz.underlying45
 a37:=Tryz.isAgg45
 z37:=Tryz.sizeOf45
 v37:=Tryz.zeroValue45
 t46:=Tryz.underlying164
 a46:=Tryz.isAgg164
 z46:=Tryz.sizeOf164
 v46:=Tryz.zeroValue164
 t51:=Tryz.underlying197
 a51:=Tryz.isAgg197
 z51:=Tryz.sizeOf197
 v51:=Tryz.zeroValue197
 t53:=Tryz.underlying154
 a53:=Tryz.isAgg154
 z53:=Tryz.sizeOf154
 v53:=Tryz.zeroValue154
 t70:=Tryz.underlying57
 a70:=Tryz.isAgg57
 z70:=Tryz.sizeOf57
 v70:=Tryz.zeroValue57
 t72:=Tryz.underlying59
 a72:=Tryz.isAgg59
 z72:=Tryz.sizeOf59
 v72:=Tryz.zeroValue59
 t75:=Tryz.underlying98
 a75:=Tryz.isAgg98
 z75:=Tryz.sizeOf98
 v75:=Tryz.zeroValue98
 t76:=Tryz.underlying99
 a76:=Tryz.isAgg99
 z76:=Tryz.sizeOf99
 v76:=Tryz.zeroValue99
 t109:=Tryz.underlying175
 a109:=Tryz.isAgg175
 z109:=Tryz.sizeOf175
 v109:=Tryz.zeroValue175
 t127:=Tryz.underlying101
 a127:=Tryz.isAgg101
 z127:=Tryz.sizeOf101
 v127:=Tryz.zeroValue101
 t146:=Tryz.underlying198
 a146:=Tryz.isAgg198
 z146:=Tryz.sizeOf198
 v146:=Tryz.zeroValue198
 t148:=Tryz.underlying200
 a148:=Tryz.isAgg200
 z148:=Tryz.sizeOf200
 v148:=Tryz.zeroValue200
 t164:=Tryz.underlying178
 a164:=Tryz.isAgg178
 z164:=Tryz.sizeOf178
 v164:=Tryz.zeroValue178
end Go.Abs.Lay
end

section
set_option maxRecDepth 100000
namespace Go.Abs.Lx
open Go.Proofs
theorem LQ:Builder.Extra Tryz.prog Lay.Mt where
 sizeBuilder:=by kernel_rfl
 liesBuilder:=by kernel_rfl
 t5:=by kernel_rfl
 a5:=fun w=>by kernel_rfl
 z5:=fun w=>by kernel_rfl
 v5:=fun w=>by kernel_rfl
 infoByte:=by kernel_rfl
 cellsByte:=by kernel_rfl
 sizeByte:=by kernel_rfl
 neB5:=by decide
theorem GC (s:ByteArray):∀n:Nat,Gl (bytesOf s) n=ints (Lib.repeatL s.data.toList n)
 |0=>rfl
 |n+1=>by
  unfold Gl Lib.repeatL;rw[GC s n];simp[ints,bytesOf,List.map_append]
theorem toN {c:Int}(h:0≤c)(h2:c≤9223372036854775807):∃n:Nat,c=(n:Int)∧c.toNat=n∧n≤9223372036854775807:=⟨c.toNat,by omega,rfl,by omega⟩
theorem HE (cd:Nat→Option (List Cell)):jC Tryz.prog cd 104 ⟨⟨[.one (.cf .str), .one (.cf (.int .i64))], .val (.one (.cf .str))⟩,pM⟩:=by
 intro x y hF ax w args nb hG fQ hP kY o9;obtain⟨hA,rfl⟩:=qG (ts:=[.str, .int .i64]) rfl hP;obtain⟨u1,r1,rfl,⟨s,rfl,hs⟩,u2,r2,rfl,h2,h4⟩:=hA;have h2:_=_:=h2;have h4:_=_:=h4;subst h2;subst h4;have hs:x.1=bytesOf s:=hs;have hF:pM x=some y:=hF;unfold pM at hF
 cases hc:(decide (0≤x.2.1)&&decide (x.2.1≤9223372036854775807)&&fits (x.1.length*x.2.1.toNat))with
 |false=>rw[hc]at hF;cases hF
 |true=>
  rw[hc]at hF
  injection hF with hF
  simp only[V6,V4]at hc;obtain⟨⟨e1,e2⟩,e3⟩:=hc
  have hl:s.size*x.2.1.toNat≤1099511627776:=by
   have:=Wr e3;rw[hs,cR]at this;exact this
  obtain⟨n,hn,UM,yT⟩:=toN e1 e2;rw[UM]at hl hF;show eS Tryz.prog 104 #[.string s, .int .i64 x.2.1] w _;rw[hn];refine b8 Tryz.func104 rfl (by kernel_rfl) ((Any.strings_Repeat Lay.NA LQ s n w yT (by omega)).mono ?_);rintro e w' ⟨rfl,hw⟩;subst hF;refine⟨_,rfl,ax,[],[],(qi hw).after fQ,⟨rfl,rfl,rfl,_,rfl,_,rfl, ?_⟩,qJ (ts:=[.str, .int .i64]) (y:=x) ⟨_,_,rfl,⟨s,rfl,hs⟩,_,_,rfl,hn ▸ rfl,rfl⟩⟩;show Gl x.1 n=_;rw[hs,GC];rfl
end Go.Abs.Lx
end

section
set_option maxRecDepth 100000
namespace Go.Abs.Lx
open Go.Proofs Go.Shelf Go.RowKit Go.Sort Go.Lib
variable{P:Program}{ρ:Ren}
theorem Lu (L:Lays.n286 P ρ)(w:World):Calls P (ρ.f 319) #[.int .i64 16] w fun e w'=>e= .returned (.bool true)∧w'=w:=by
 have mixed:=L.mixed;have t3:=L.t3;have a3:=L.a3;have z3:=L.z3;have v3:=L.v3;have t4:=L.t4;have a4:=L.a4;have z4:=L.z4;have v4:=L.v4
 have key:bits BinOp.and i64 (16:Int) (15:Int)=0:=by decide+kernel
 go_enter L.f319,Body.n319_ntmps ρ
 go_wp2_with (simp only[key])
 go_ret
 exact⟨rfl,rfl⟩
theorem LG (L:Lays.n286 P ρ)(w:World)(ir:w.cell? ⟨ρ.g 19,15,none⟩=some (.int .u8 4)):Calls P (ρ.f 338) #[.int .u64 16] w fun e w'=>e= .returned (.int .i64 4)∧w'=w:=by
 have mixed:=L.mixed;have t0:=L.t0;have a0:=L.a0;have z0:=L.z0;have v0:=L.v0;have t3:=L.t3;have a3:=L.a3;have z3:=L.z3;have v3:=L.v3;have t4:=L.t4;have a4:=L.a4;have z4:=L.z4;have v4:=L.v4;have t5:=L.t5;have a5:=L.a5;have z5:=L.z5;have v5:=L.v5;have t53:=L.t53;have a53:=L.a53;have z53:=L.z53;have v53:=L.v53;have t46:=L.t46;have a46:=L.a46;have z46:=L.z46;have v46:=L.v46;have t233:=L.t233;have a233:=L.a233;have z233:=L.z233;have v233:=L.v233;have g19:=L.g19
 have key:u64.wrap (bits BinOp.and u64 (16:Int) (u64.wrap (-16))*285870213051353865)/288230376151711744=(15:Int):=by decide+kernel
 go_enter L.f338,Body.n338_ntmps ρ
 go_wp2_with (simp only[key])
 go_ret
 exact⟨rfl,rfl⟩
theorem Pz (L:Lays.n286 P ρ)(w:World)(ir:w.cell? ⟨ρ.g 19,15,none⟩=some (.int .u8 4)):Calls P (ρ.f 320) #[.int .u64 16] w fun e w'=>e= .returned (.int .i64 4)∧w'=w:=by
 have mixed:=L.mixed;have t3:=L.t3;have a3:=L.a3;have z3:=L.z3;have v3:=L.v3;have t4:=L.t4;have a4:=L.a4;have z4:=L.z4;have v4:=L.v4;have t46:=L.t46;have a46:=L.a46;have z46:=L.z46;have v46:=L.v46;have t53:=L.t53;have a53:=L.a53;have z53:=L.z53;have v53:=L.v53;have t51:=L.t51;have a51:=L.a51;have z51:=L.z51;have v51:=L.v51;have e338:∀args w,(callFunc (ρ.f 338) args).run P w= .ok (.enter (ρ.f 338) args) w:=enters_of L.f338 (by kernel_rfl) rfl
 go_enter L.f320,Body.n320_ntmps ρ
 go_wp2_with (go_at_fn (ρ.f 338);refine(LG L _ ir).mono ?_;rintro e w' ⟨rfl,rfl⟩)
 go_ret
 exact⟨rfl,rfl⟩
def pL:Array Value:=Array.replicate 65 (.int .u8 0)
abbrev Fc:UInt8→Value:=fun b=>Value.int .u8 (b.toNat:Int)
def lL (i:Nat):UInt8:=digits36.data.toList.getD i 0
theorem JM {P:Program}(t:TypeId)(ht:P.underlying t=some .string)(k:IntKind)(z:Int)(i:Nat)(hz:z=(i:Int))(hi:i<16)(w:World):
  (Instr.index t (.string digits36) (.int k z)).run P w= .ok (.int .u8 ((lL i).toNat:Int)) w:=by
 subst hz;have iE:digits36.size=36:=digits36_size;rw[run_index_string w t digits36 k _ ht,dif_pos ⟨by omega,by rw[iE];omega⟩];have e:((i:Int)).toNat=i:=(by omega);simp only[e]
 have h2:digits36[i]'(by rw[iE];omega)=lL i:=by
  unfold lL;rw[Wm,Wl (by rw[Array.length_toList];exact(by rw[iE];omega:i<digits36.size))];rfl
 rw[h2]
def de:Nat→Nat→List UInt8→List UInt8
 |0,_,acc=>acc
 |k+1,n,acc=>if n<16 then lL (n % 16)::acc else de k (n/16) (lL (n % 16)::acc)
structure HInv (u i v:Nat)(d:Array UInt8):Prop where
 size:d.size=65
 lo:50≤i
 hi:i≤65
 small:v<16^(i - 49)
 dig:de (i - 49) v (d.toList.drop i)=de 16 u []
theorem drop_set (d:Array UInt8)(m:Nat)(x:UInt8)(hm:m<d.size):(d.setIfInBounds m x).toList.drop m=x::d.toList.drop (m+1):=by
 rw[Array.toList_setIfInBounds]
 have h:m<(d.toList.set m x).length:=by rw[List.length_set,Array.length_toList];omega
 rw[List.drop_eq_getElem_cons h,List.getElem_set_self,List.drop_set_of_lt (by omega)]
theorem HInv.step {u m v:Nat}{d:Array UInt8}(h:HInv u (m+1) v d)(hv:16≤v):HInv u m (v/16) (d.setIfInBounds m (lL (v % 16))):=by
 have Ot:=h.lo;have Uq:=h.hi;have TR:=h.small;have hs:=h.size
 have hn:50≤m:=by
  rcases Nat.lt_or_ge m 50 with h'|h'
  ·have:m+1 - 49=1:=(by omega);rw[this]at TR;omega
  ·exact h'
 obtain⟨k,hk⟩:∃k,m - 49=k:=⟨_,rfl⟩;have Qu:m+1 - 49=k+1:=(by omega);refine⟨by simp[h.size],hn,by omega, ?_, ?_⟩
 ·rw[hk];rw[Qu,Nat.pow_succ]at TR;omega
 ·rw[drop_set d m _ (by omega),hk,←h.dig,Qu]
  conv=>rhs;unfold de
  rw[Wz (by omega)]
theorem HInv.last {u m v:Nat}{d:Array UInt8}(h:HInv u (m+1) v d)(hv:v<16):(d.setIfInBounds m (lL v)).toList.drop m=de 16 u []:=by
 have Ot:=h.lo;have Uq:=h.hi;have hs:=h.size;obtain⟨k,hk⟩:∃k,m+1 - 49=k+1:=⟨m - 49,by omega⟩;rw[drop_set d m _ (by omega),←h.dig,hk]
 conv=>rhs;unfold de
 rw[WK hv,Nat.mod_eq_of_lt hv]
theorem Hn (v:Nat)(h:v<18446744073709551616):bits .and .u64 (v:Int) 15=((v % 16:Nat):Int):=by
 have:=bits_and_u64_nat v 15 h (by decide);rw[show((15:Nat):Int)=15 from rfl]at this;rw[this,Nat.and_two_pow_sub_one_eq_mod v 4]
theorem CI (w:World)(T:TypeId):Holds Fc (w.alloc (.cells pL T)) w.heap.size 0 (Array.replicate 65 (0:UInt8)):=fun j hj=>by
 have Hr:j<65:=(by simpa using hj);refine⟨?_,World.frozen?_alloc_new _ _ _ _⟩;rw[World.cell?_alloc_new,getElem!_pos _ j hj]
 have:pL[0+j]?=some (.int .u8 0):=by unfold pL;rw[Array.getElem?_replicate,WK (by omega)]
 rw[this];simp
set_option maxHeartbeats 3200000 in
theorem RQ (L:Lays.n286 P ρ)(sl:Value)(u:Nat)(h1:9223372036854775808≤u)(h2:u<18446744073709551616)(w:World)(ir:w.cell? ⟨ρ.g 19,15,none⟩=some (.int .u8 4))(v213:∀w,(zeroValue (ρ.t 213)).run P w= .ok (.agg pL) w):
  Calls P (ρ.f 286) #[sl, .int .u64 u, .int .i64 16, .bool false, .bool false] w fun e w'=>e= .returned (.tuple #[.slice none 0 0, .string ⟨(de 16 u []).toArray⟩])∧∃k os,w'=grow (w.drewN k) os:=by
 have mixed:=L.mixed;have t0:=L.t0;have a0:=L.a0;have z0:=L.z0;have v0:=L.v0;have t3:=L.t3;have a3:=L.a3;have z3:=L.z3;have v3:=L.v3;have t4:=L.t4;have a4:=L.a4;have z4:=L.z4;have v4:=L.v4;have t5:=L.t5;have a5:=L.a5;have z5:=L.z5;have v5:=L.v5;have t9:=L.t9;have a9:=L.a9;have z9:=L.z9;have v9:=L.v9;have t20:=L.t20;have a20:=L.a20;have z20:=L.z20;have v20:=L.v20;have t37:=L.t37;have a37:=L.a37;have z37:=L.z37;have v37:=L.v37;have t46:=L.t46;have a46:=L.a46;have z46:=L.z46;have v46:=L.v46;have t53:=L.t53;have a53:=L.a53;have z53:=L.z53;have v53:=L.v53;have t213:=L.t213;have a213:=L.a213;have z213:=L.z213
 have Gn:(w.alloc (.cells pL (ρ.t 213))).cell? ⟨ρ.g 19,15,none⟩=some (.int .u8 4):=by
  rw[World.cell?_alloc_old _ _ _ (by
   rcases Nat.lt_or_ge (ρ.g 19) w.heap.size with h|h
   ·exact Nat.ne_of_lt h
   ·exfalso
    unfold World.cell? at ir;rw[Array.getElem?_eq_none h]at ir
    cases ir)]
  exact ir
 have e319:∀args w,(callFunc (ρ.f 319) args).run P w= .ok (.enter (ρ.f 319) args) w:=enters_of L.f319 (by kernel_rfl) rfl;have e320:∀args w,(callFunc (ρ.f 320) args).run P w= .ok (.enter (ρ.f 320) args) w:=enters_of L.f320 (by kernel_rfl) rfl
 go_enter L.f286,Body.n286_ntmps ρ
 go_name_bytes PN hPN
 go_name_bytes SM hSM
 have Vr:SM=Lib.digits36:=by rw[←hSM];decide+kernel
 subst Vr;clear hSM hPN
 go_wp2_with (first
  |(go_at_fn (ρ.f 319);refine(Lu L _).mono ?_;rintro e w' ⟨rfl,rfl⟩)
  |(go_at_fn (ρ.f 320);refine(Pz L _ Gn).mono ?_;rintro e w' ⟨rfl,rfl⟩))
 have hH:=CI w (ρ.t 213)
 generalize hwA:w.alloc (.cells pL (ρ.t 213))=wA at hH Gn⊢
 clear ir Gn
 go_loopw [1,13] (fun vu vn wr=>∃(i v:Nat) (d:Array UInt8),vu= .int .u64 v∧vn= .int .i64 (i:Int)∧wr=putRow Fc wA w.heap.size 0 d∧Hid (HInv u i v d)) (fun vu _ _=>(RowKit.intOf vu).toNat)
 case atStart=>exact⟨65,u,Array.replicate 65 0,rfl,rfl,(putRow_self _ _ _ _ _ hH).symm,⟨by simp,by omega,by omega,by simpa using h2,by simp⟩⟩
 case round=>
  obtain⟨i,v,d,rfl,rfl,P7,HI⟩:=hrel
  rename World=>W0
  have AH:=Lib.hid hH;clear hH;have Ot:=HI.out.lo;have Uq:=HI.out.hi;obtain⟨m,rfl⟩:∃m,i=m+1:=⟨i - 1,by omega⟩
  have TM:v<18446744073709551616:=by
   have:=HI.out.small;have:=Nat.pow_le_pow_right (show 0<16 by decide) (show m+1 - 49≤16 by omega);have e:(16:Nat)^16=18446744073709551616:=(by decide);omega
  have Ui:=HI.out.size
  have SX:Holds Fc W0 w.heap.size 0 d:=by rw[P7];exact holds_putRow _ wA w.heap.size 0 _ d AH.out (by rw[Ui];simp)
  obtain⟨G0,Oh⟩:∃G:Nat→Int,∀t,G t=(d[t]!.toNat:Int):=⟨_,fun _=>rfl⟩
  have O0:∀t,t<65→W0.cell? ⟨w.heap.size,t,none⟩=some (.int .u8 (G0 t)):=fun t ht=>by rw[Oh,←(SX t (by omega)).1,Nat.zero_add]
  have Rp:∀t,t<65→W0.frozen? ⟨w.heap.size,t,none⟩=false:=fun t ht=>by rw[←(SX t (by omega)).2,Nat.zero_add]
  have TU:=Lib.hid P7;clear P7 Oh SX;have Q8:P.arrayLen (ρ.t 213)=65:=(by simp[Program.arrayLen,L.t213]);have RG:=Hn v TM;have Rf:=O0 m (by omega);have hfm:=Rp m (by omega);clear O0 Rp
  by_cases hv:16≤v
  ·have Uw:=Lib.hid (HI.out.step hv);have hX:∀w,(Instr.index (ρ.t 9) (.string digits36) (.int .u64 ((v:Int) % 16))).run P w= .ok (.int .u8 ((lL (v % 16)).toNat:Int)) w:=JM (ρ.t 9) L.t9 .u64 _ _ (by omega) (Nat.mod_lt _ (by decide))
   go_wp2_with (simp only[RG])
   go_roundw
   case rel=>
    refine⟨m,v/16,d.setIfInBounds m (lL (v % 16)),by push_cast;rfl,rfl, ?_,Uw.out⟩;rw[TU.out,←putRow_set Fc wA w.heap.size 0 d m (lL (v % 16)) (by omega),Nat.zero_add]
   case measure=>simp[RowKit.intOf];omega
  ·have hX:∀w,(Instr.index (ρ.t 9) (.string digits36) (.int .u64 (v:Int))).run P w= .ok (.int .u8 ((lL v).toNat:Int)) w:=JM (ρ.t 9) L.t9 .u64 _ _ rfl (by omega);have hl:=HI.out.last (by omega)
   have Mn:W0.setCell ⟨w.heap.size,m,none⟩ (.int .u8 ((lL v).toNat:Int))=putRow Fc wA w.heap.size 0 (d.setIfInBounds m (lL v)):=by
    rw[TU.out,←putRow_set Fc wA w.heap.size 0 d m (lL v) (by omega),Nat.zero_add]
   have SN:(d.setIfInBounds m (lL v)).size=65:=(by simp[Ui]);have hlen:(de 16 u []).length=65 - m:=(by rw[←hl,WN,Array.length_toList,SN]);have TV:Holds Fc (putRow Fc wA w.heap.size 0 (d.setIfInBounds m (lL v))) w.heap.size 0 (d.setIfInBounds m (lL v)):=holds_putRow _ wA w.heap.size 0 _ _ AH.out (by rw[SN];simp)
   have xy:∀W,(Instr.sliceAt (ρ.t 213) (.pointer (some ⟨w.heap.size,0,none⟩)) (some (.int .i64 (m:Int))) none none).run P W= .ok (.slice (some ⟨w.heap.size,m,none⟩) (65 - m) (65 - m)) W:=fun W=>by
    rw[run_sliceAt_array_l W (ρ.t 213) ⟨w.heap.size,0,none⟩ (by simp[Program.arrayLen,Program.elem,L.t213]) .i64 (m:Int) (by omega) (by rw[Q8];omega)]
    go_simp
    omega
   have jV:(Go.convert (ρ.t 37) (ρ.t 9) (.slice (some ⟨w.heap.size,m,none⟩) (65 - m) (65 - m))).run P (W0.setCell ⟨w.heap.size,m,none⟩ (.int .u8 ((lL v).toNat:Int)))= .ok (.string ⟨(de 16 u []).toArray⟩) (W0.setCell ⟨w.heap.size,m,none⟩ (.int .u8 ((lL v).toNat:Int))):=by
    have h:=run_convert_bytes_back (P:=P) (W0.setCell ⟨w.heap.size,m,none⟩ (.int .u8 ((lL v).toNat:Int))) (ρ.t 37) (ρ.t 9) (ρ.t 5) ⟨w.heap.size,m,none⟩ (65 - m) (de 16 u []) L.t37 L.t5 L.t9 (fun j hj=>by
     rw[Mn,Lib.add_plain];have Rx:m+j<(d.setIfInBounds m (lL v)).size:=(by omega);have hc:=(TV (m+j) Rx).1;rw[Nat.zero_add,getElem!_pos (d.setIfInBounds m (lL v)) (m+j) Rx]at hc;rw[hc]
     have e:(de 16 u [])[j]=(d.setIfInBounds m (lL v))[m+j]:=by
      have:(de 16 u [])[j]=((d.setIfInBounds m (lL v)).toList.drop m)[j]'(by rw[hl];exact hj):=(by simp only[hl]);rw[this,List.getElem_drop,Array.getElem_toList]
     rw[e])
    rw[hlen]at h;exact h
   have UT:=Lib.hid Mn;clear hl Mn TV Q8 SN
   go_wp2
   go_ret2
   refine⟨rfl, ?_⟩;rw[UT.out,←hwA];obtain⟨os,e⟩:=Lib.fin_at w (.cells pL (ρ.t 213)) (d.setIfInBounds m (lL v)) 0 0;exact⟨0,os,e⟩
end Go.Abs.Lx
end

section
set_option maxRecDepth 100000
namespace Go.Abs.Lay
open Go.Proofs Go.Shelf
def ME:Ren where
 f:=fun n=>bif Nat.beq n 286 then 217 else bif Nat.beq n 319 then 247 else bif Nat.beq n 320 then 248 else bif Nat.beq n 337 then 254 else bif Nat.beq n 338 then 255 else n
 t:=fun n=>bif Nat.beq n 37 then 45 else bif Nat.beq n 53 then 154 else bif Nat.beq n 3 then 3 else bif Nat.beq n 4 then 4 else bif Nat.beq n 9 then 9 else bif Nat.beq n 20 then 20 else bif Nat.beq n 0 then 0 else bif Nat.beq n 213 then 212 else bif Nat.beq n 46 then 164 else bif Nat.beq n 5 then 5 else bif Nat.beq n 51 then 197 else bif Nat.beq n 232 then 222 else bif Nat.beq n 233 then 223 else n
 g:=fun n=>bif Nat.beq n 18 then 7 else bif Nat.beq n 19 then 8 else n
theorem No:Lays.n286 Tryz.prog ME where
 mixed:=by kernel_rfl
 f286:=Tryz.func217.trans (congrArg some (by kernel_rfl))
 f319:=Tryz.func247.trans (congrArg some (by kernel_rfl))
 f320:=Tryz.func248.trans (congrArg some (by kernel_rfl))
 f337:=Tryz.func254.trans (congrArg some (by kernel_rfl))
 f338:=Tryz.func255.trans (congrArg some (by kernel_rfl))
 t0:=Tryz.underlying0
 a0:=Tryz.isAgg0
 z0:=Tryz.sizeOf0
 v0:=Tryz.zeroValue0
 t3:=Tryz.underlying3
 a3:=Tryz.isAgg3
 z3:=Tryz.sizeOf3
 v3:=Tryz.zeroValue3
 t4:=Tryz.underlying4
 a4:=Tryz.isAgg4
 z4:=Tryz.sizeOf4
 v4:=Tryz.zeroValue4
 t5:=Tryz.underlying5
 a5:=Tryz.isAgg5
 z5:=Tryz.sizeOf5
 v5:=Tryz.zeroValue5
 t9:=Tryz.underlying9
 a9:=Tryz.isAgg9
 z9:=Tryz.sizeOf9
 v9:=Tryz.zeroValue9
 t20:=Tryz.underlying20
 a20:=Tryz.isAgg20
 z20:=Tryz.sizeOf20
 v20:=Tryz.zeroValue20
 t37:=Tryz.underlying45
 a37:=Tryz.isAgg45
 z37:=Tryz.sizeOf45
 v37:=Tryz.zeroValue45
 t46:=Tryz.underlying164
 a46:=Tryz.isAgg164
 z46:=Tryz.sizeOf164
 v46:=Tryz.zeroValue164
 t51:=Tryz.underlying197
 a51:=Tryz.isAgg197
 z51:=Tryz.sizeOf197
 v51:=Tryz.zeroValue197
 t53:=Tryz.underlying154
 a53:=Tryz.isAgg154
 z53:=Tryz.sizeOf154
 v53:=Tryz.zeroValue154
 t213:=Tryz.underlying212
 a213:=Tryz.isAgg212
 z213:=Tryz.sizeOf212
 t232:=Tryz.underlying222
 a232:=Tryz.isAgg222
 z232:=Tryz.sizeOf222
 v232:=Tryz.zeroValue222
 t233:=Tryz.underlying223
 a233:=Tryz.isAgg223
 z233:=Tryz.sizeOf223
 v233:=Tryz.zeroValue223
 g18:=by kernel_rfl
 g19:=by kernel_rfl
end Go.Abs.Lay
end

section
set_option maxRecDepth 100000
namespace Go.Abs.Lx
open Go.Proofs
theorem Jd:∀i:Nat,i<16→((lL i).toNat:Int)=hexDigit i:=by
 have h:∀i:Fin 16,((lL i.1).toNat:Int)=hexDigit i.1:=by decide+kernel
 exact fun i hi=>h ⟨i,hi⟩
theorem Cl:∀(k n:Nat)(acc:List UInt8),ints (de k n acc)=pK k n (ints acc)
 |0,_,_=>rfl
 |k+1,n,acc=>by
  unfold de pK
  have hc:ints (lL (n % 16)::acc)=hexDigit (n % 16)::ints acc:=by
   show((lL (n % 16)).toNat:Int)::ints acc=_;rw[Jd _ (Nat.mod_lt _ (by decide))]
  by_cases h:n<16
  ·have hb:Nat.blt n 16=true:=Nat.ble_eq_true_of_le h;simp only[hb,Wg];rw[WK h,hc]
  ·have hb:Nat.blt n 16=false:=by
    cases hh:Nat.blt n 16
    ·rfl
    ·exact absurd (Wr hh) h
   simp only[hb,Wb];rw[Wz h,Cl k _ _,hc]
theorem BI {cd:Nat→Option (List Cell)}(hg:cd 8=some deB):jC Tryz.prog cd 217 ⟨⟨[.one (.cf (.sl (.int .u8))), .one (.cf (.int .u64)), .one (.cf (.int .i64)), .one (.cf .bool), .one (.cf .bool)], .vi [.one (.cf (.sl (.int .u8))), .one (.cf .str)]⟩,jw⟩:=by
 intro x y hF ax w args nb hG fQ hP kY o9;obtain⟨u1,r1,n1,Qx,rfl,rfl,⟨_,rfl,_,UK,e1,h1⟩,u2,r2,n2,n2',rfl,rfl,⟨_,rfl,_,Uz,e2,h2⟩,u3,r3,n3,n3',rfl,rfl,⟨_,rfl,_,u3',e3,h3⟩,u4,r4,n4,n4',rfl,rfl,⟨_,rfl,_,u4',e4,h4⟩,u5,r5,n5,n5',rfl,rfl,⟨_,rfl,_,u5',e5,h5⟩,rfl,rfl⟩:=hP
 injection e1 with e1;subst e1
 injection e2 with e2;subst e2
 injection e3 with e3;subst e3
 injection e4 with e4;subst e4
 injection e5 with e5;subst e5
 obtain⟨x1,x2,x3,x4,x5,_⟩:=x;have h2:[u2]=[Value.int .u64 x2]:=h2;have h3:[u3]=[Value.int .i64 x3]:=h3;have h4:[u4]=[Value.bool x4]:=h4;have h5:[u5]=[Value.bool x5]:=h5
 injection h2 with h2;injection h3 with h3;injection h4 with h4;injection h5 with h5
 subst h2;subst h3;subst h4;subst h5;obtain⟨A,c,eA,hc,hx⟩:=h1
 injection eA with eA;subst eA
 have hF:jw (x1,x2,x3,x4,x5,())=some y:=hF;unfold jw at hF;dsimp only at hF
 cases hq:(decide (x3=16)&&(!x4)&&(!x5)&&x1.isEmpty&&decide (9223372036854775808≤x2)&&decide (x2≤18446744073709551615))with
 |false=>rw[hq]at hF;cases hF
 |true=>
  rw[hq]at hF
  injection hF with Mi
  simp only[V6,V4,WV,List.isEmpty_iff]at hq;obtain⟨⟨⟨⟨⟨q1,q2⟩,q3⟩,q4⟩,q5⟩,q6⟩:=hq;subst q1;subst q2;subst q3;subst q4
  have nat:∀z:Int,9223372036854775808≤z→z≤18446744073709551615→∃u:Nat,z=(u:Int)∧9223372036854775808≤u∧u<18446744073709551616:=fun z a b=>⟨z.toNat,by omega,by omega,by omega⟩
  obtain⟨u,rfl,n1,n2⟩:=nat x2 q5 q6;obtain⟨us,hi,Qi⟩:=hG _ _ hg;obtain⟨arr,ty,fr,ha,hL⟩:=fQ _ _ hi
  have Kr:=Qi ⟨ax,fun _=>0,fun _ _=> .nilIface,fun _=>none,fun _=>none,fun _=>[]⟩ fun _ _ h=>h
  have QJ:us=Lib.deBruijn64tab.map fun n:Nat=>Value.int .u8 (n:Int):=by
   have all:∀(l:List Nat) (us:List Value) (g:Gh),aA g (l.map fun n:Nat=> .v (.int .u8) (n:Int)) us→us=l.map fun n:Nat=>Value.int .u8 (n:Int):=by
    intro l
    induction l with
    |nil=>intro us g h;exact h
    |cons z l ih=>
     intro us g h;obtain⟨u,r,rfl,hu,hr⟩:=h;have hu:[u]=[Value.int .u8 (z:Int)]:=hu.2
     injection hu with hu _
     subst hu;rw[ih r g hr];rfl
   exact all _ _ _ Kr
  have ir:w.cell? ⟨8,15,none⟩=some (.int .u8 4):=by
   rw[Lib.cell_of_heap ha];have:arr[15]?=arr.toList[15]?:=(by simp);rw[this,hL,QJ];rfl
  have hz:∀w,(zeroValue (Lay.ME.t 213)).run Tryz.prog w= .ok (.agg pL) w:=fun w=>by kernel_rfl
  refine b8 Tryz.func217 rfl (by kernel_rfl) ((RQ Lay.No (.slice A 0 c) u n1 n2 w ir hz).mono ?_);rintro e w' ⟨rfl,k,os,rfl⟩;subst Mi;have hs:=Ck w k os;refine⟨_,rfl,ax,[],[],hs.after fQ,⟨[_,_],rfl,_,_,[],[],rfl,rfl,⟨rfl,rfl,rfl,_,rfl,none,0,rfl,Wp _, .inl rfl⟩,_,_,[],[],rfl,rfl,⟨rfl,rfl,rfl,_,rfl,_,rfl, ?_⟩,rfl,rfl⟩, ?_⟩
  ·show pK 16 (u:Int).toNat []=_;rw[Int.toNat_natCast];exact(Cl 16 u []).symm
  ·exact⟨_,_,[],[],rfl,rfl,rfl,_,_,[],[],rfl,rfl,rfl,_,_,[],[],rfl,rfl,rfl,_,_,[],[],rfl,rfl,rfl,_,_,[],[],rfl,rfl,rfl,rfl,rfl⟩
end Go.Abs.Lx
end

section
namespace Go.Proofs.YtkmplfkiafonkaaGreatDoor
open Go.ChangeShapes Go.WideShapes Go.ChangeAt Go.RowKit
set_option maxRecDepth 100000 in
theorem sys:∀n,Abs.Sys.TabOk Abs.D.S (Abs.D.S.tab n):=by
 refine Abs.Sys.ok (by kernel_rfl) (fun f hf=>Abs.Sys.LK Abs.D.Nj hf) (fun f c hf hl=> ?_) (by kernel_rfl);have hl:Abs.D.lib f=some c:=hl;unfold Abs.D.lib at hl
 cases h1:Nat.beq f 155 with
 |true=>have:=Abs.beq_eq h1;subst this;rw[h1]at hl;injection hl with hl;subst hl;exact Abs.Bld.CJ _
 |false=>
 rw[h1]at hl
 cases h1:Nat.beq f 63 with
 |true=>have:=Abs.beq_eq h1;subst this;injection hl with hl;subst hl;exact Abs.Bld.zG _
 |false=>
 rw[h1]at hl
 cases h1:Nat.beq f 29 with
 |true=>have:=Abs.beq_eq h1;subst this;injection hl with hl;subst hl;exact Abs.Bld.NI _
 |false=>
 rw[h1]at hl
 cases h1:Nat.beq f 30 with
 |true=>have:=Abs.beq_eq h1;subst this;injection hl with hl;subst hl;exact Abs.Bld.HK _
 |false=>
 rw[h1]at hl
 cases h1:Nat.beq f 235 with
 |true=>have:=Abs.beq_eq h1;subst this;injection hl with hl;subst hl;exact Abs.Bld.CQ _
 |false=>
 rw[h1]at hl
 cases h1:Nat.beq f 209 with
 |true=>have:=Abs.beq_eq h1;subst this;injection hl with hl;subst hl;exact Abs.Lx.Ec rfl
 |false=>
 rw[h1]at hl
 cases h1:Nat.beq f 80 with
 |true=>have:=Abs.beq_eq h1;subst this;injection hl with hl;subst hl;exact Abs.Lx.CY rfl
 |false=>
 rw[h1]at hl
 cases h1:Nat.beq f 57 with
 |true=>have:=Abs.beq_eq h1;subst this;injection hl with hl;subst hl;exact Abs.Lx.Lt _
 |false=>
 rw[h1]at hl
 cases h1:Nat.beq f 104 with
 |true=>have:=Abs.beq_eq h1;subst this;injection hl with hl;subst hl;exact Abs.Lx.HE _
 |false=>
 rw[h1]at hl
 cases h1:Nat.beq f 217 with
 |true=>have:=Abs.beq_eq h1;subst this;injection hl with hl;subst hl;exact Abs.Lx.BI rfl
 |false=>
 rw[h1]at hl;cases hl
theorem vR {H:Type}{enc:TypeId×Value→H}{P:Program}{w:World}{sp:Nat→Bool}:∀{ns:List String}{gs:List (DataW H)}{ps:List MemPlace},DataW.TrodVars enc P w sp ns gs ps→gs.length=ns.length
 |[],[],_,_=>rfl
 |[],_::_,_,h=>h.elim
 |_::_,[],_,h=>h.elim
 |n::ns,d::ds,ps,h=>by
  obtain⟨g,t,cs,fuel,p,q,h1,h2,h3,h4,hs,e⟩:=h;have:=vR hs;simp[this]
theorem own:ownKnob Tryz.prog.godebug=none:=by kernel_rfl
theorem laidOut:laidOutB Tryz.prog=true:=by kernel_rfl
theorem D1 {P:Program}{W:World}{r:Reach}{base t:Nat}{fs:Array Field}{v:Value}(ht:P.underlying t=some (.struct fs))(h:Value.okWide P W r base t v):∃cs,v= .agg cs:=by
 unfold Value.okWide at h;rw[ht]at h;obtain⟨cs,rfl,_⟩:=h;exact⟨cs,rfl⟩
end Go.Proofs.YtkmplfkiafonkaaGreatDoor
end

section
namespace Go.Abs.D
def fM (c:Int):Bool:=(decide (97≤c)&&decide (c≤122))||(decide (65≤c)&&decide (c≤90))||decide (c=95)
def aW (c:Int):Bool:=decide (48≤c)&&decide (c≤57)
def tb (c:Int):Bool:=decide (97≤c)&&decide (c≤102)
def de (c:Int):Bool:=aW c||tb c
def fH (c:Int):Int:=bif aW c then c - 48 else bif tb c then c - 87 else -1
def get (s:LI)(j:Nat):Int:=s.getD j 0
theorem fA {s:LI}{j:Nat}(h:s.length≤j):get s j=0:=by
 unfold get;rw[Wm,List.getElem?_eq_none h];rfl
theorem PY (pre:LI)(x:Int)(r:LI):get (pre++x::r) pre.length=x:=fZ pre x r 0
theorem NR:de 0=false:=rfl
structure Base1 (T:S.Tab):Prop where
 iletter:∀c,kN T c=some (fM c,fS)
 idigit:∀c,fY T c=some (aW c,qY)
 sletter:∀c,ke T c=some (fM c,eO)
 sdigit:∀c,da T c=some (aW c,oM)
 look:∀(s:LI) (j:Nat),bU T s (j:Int)=some (get s j,p9)
 words:nC T=some (Lx.words,sx)
theorem rk (T:S.Tab):Base1 (S.step T):=by
 refine⟨fun c=> ?_,fun c=> ?_,fun c=> ?_,fun c=> ?_,fun s j=> ?_, ?_⟩
 ·rw[ze];simp only[dF,fM];cases decide (97≤c)<;>cases decide (c≤122)<;>cases decide (65≤c)<;>cases decide (c≤90)<;>simp
 ·rw[Bv];simp only[dF,aW];cases decide (48≤c)<;>simp
 ·rw[xe];simp only[dF,fM];cases decide (97≤c)<;>cases decide (c≤122)<;>cases decide (65≤c)<;>cases decide (c≤90)<;>simp
 ·rw[yg];simp only[dF,aW];cases decide (48≤c)<;>simp
 ·rw[zu]
  by_cases h:j<s.length
  ·rw[aj (by simpa using h),aj (by simp[h])];rfl
  ·rw[ay (by simpa using h),fA (by omega)]
 ·rw[yv];rfl
structure Base2 (T:S.Tab):Prop extends Base1 T where
 ihex:∀c,qI T c=some (de c,pF)
 shex:∀c,kC T c=some (fH c,lr)
theorem zW (T:S.Tab)(h:Base1 T):Base2 (S.step T):=by
 refine⟨rk T,fun c=> ?_,fun c=> ?_⟩
 ·rw[C1,h.idigit];simp only[VX,dF,de,tb];cases aW c<;>cases decide (97≤c)<;>simp
 ·rw[Bq,h.sdigit];simp only[VX,fH]
  cases hd:aW c with
  |true=>
   simp only[aW,V6,V4]at hd;rw[aj rfl,rP _ (by omega) (by omega),wrap64 _ (by omega) (by omega)];rfl
  |false=>
   rw[ay rfl]
   by_cases h1:97≤c
   ·rw[aj (by simpa using h1)]
    by_cases h2:c≤102
    ·rw[aj (by simpa using h2),rP _ (by omega) (by omega),wrap64 (c - 97) (by omega) (by omega),wrap64 _ (by omega) (by omega)];have:tb c=true:=(by simp[tb,h1,h2]);rw[this];simp only[Wb,Wg,WI,WU,and_true];omega
    ·rw[ay (by simpa using h2)];have:tb c=false:=(by simp[tb,h2]);rw[this];rfl
   ·rw[ay (by simpa using h1)];have:tb c=false:=(by simp[tb,h1]);rw[this];rfl
theorem aB:Evt fun n=>Base2 (S.tab n):=by
 have h1:Evt fun n=>Base1 (S.tab n):=Evt.up (Evt.of (p:=fun _=>True) fun _=>trivial) fun n _=>rk _
 exact h1.up fun n h=>zW _ h
theorem kO (c:Int):decide (0≤fH c)=de c:=by
 unfold fH de
 cases hd:aW c with
 |true=>
  simp only[aW,V6,V4]at hd;simp only[Wg,Wh,V4];omega
 |false=>
  cases hl:tb c with
  |true=>
   simp only[tb,V6,V4]at hl;simp only[Wg,Wb,Wi,V4];omega
  |false=>simp
theorem pN (c:Int):fH c<16:=by
 unfold fH
 cases hd:aW c with
 |true=>
  simp only[aW,V6,V4]at hd;simp only[Wg];omega
 |false=>
  cases hl:tb c with
  |true=>
   simp only[tb,V6,V4]at hl;simp only[Wg,Wb];omega
  |false=>simp
end Go.Abs.D
end

section
namespace Go.Abs.D
def wq (s:LI)(j:Nat):Bool:=fM (get s j)||aW (get s j)
def dq (s:LI)(j:Nat):Bool:=aW (get s j)
def hq (s:LI)(m j:Nat):Bool:=decide (j<m)&&de (get s j)
theorem xm {s:LI}:∀j,s.length≤j→wq s j=false:=fun j h=>by unfold wq;rw[fA h];rfl
theorem l7 {s:LI}:∀j,s.length≤j→dq s j=false:=fun j h=>by unfold dq;rw[fA h];rfl
theorem DE {s:LI}{m:Nat}:∀j,s.length≤j→hq s m j=false:=fun j h=>by unfold hq;rw[fA h,NR,Wa]
def wG (s:LI)(j:Nat):Nat:=stop (wq s) s.length j
def lP (s:LI)(j:Nat):Nat:=stop (dq s) s.length j
def j4 (s:LI)(m j:Nat):Nat:=stop (hq s m) s.length j
theorem aI (s:LI)(j:Nat):s.getD (j:Int).toNat 0=get s j:=rfl
theorem ky {q:Nat→Bool}{N j:Nat}(h:∀j,N≤j→q j=false)(hq:q j=true):j<N:=by
 rcases Nat.lt_or_ge j N with h'|h'
 ·exact h'
 ·rw[h j h']at hq;cases hq
theorem av {n j:Nat}(h:j<n):(decide ((0:Int)≤(j:Int))&&decide ((j:Int)<(n:Int)))=true:=by
 simp[h]
theorem bf {j:Nat}(h:j≤4194304):i64.wrap ((j:Int)+1)=((j+1:Nat):Int):=by
 rw[wrap64 _ (by omega) (by omega)];omega
variable{s:LI}(hs:s.length≤2097152)
include hs
theorem zD (i:Int)(t:aw.den)(j:Nat):Evt fun n=>gO (S.tab n) s i t (j:Int)=some (Sum.inl (s,i,t,(wG s j:Int),())):=
 adv (F:=fun T j=>gO T s i t ↑j) (out:=fun j=>Sum.inl (s,i,t,(j:Int),())) aB xm
  (fun T j h hq=>by
   have hj:=ky xm hq;show gO (S.step T) s i t j=gO T s i t ((j+1:Nat):Int);rw[sy,aj (by simpa using hj),aj (av hj),aI,h.iletter,h.idigit,bf (by omega)];simp only[VX,dF,av hj,Wg];unfold wq at hq
   cases hl:fM (get s j)with
   |true=>rfl
   |false=>rw[hl,Wd]at hq;rw[hq];rfl)
  (fun T j h hq=>by
   show gO (S.step T) s i t j=_;rw[sy]
   by_cases hj:j<s.length
   ·rw[aj (by simpa using hj),aj (av hj),aI,h.iletter,h.idigit];simp only[VX,dF,av hj,Wg];unfold wq at hq;simp only[Bool.or_eq_false_iff]at hq;rw[hq.1,hq.2];rfl
   ·rw[ay (by simpa using hj)]) s.length j (by omega)
theorem vB (t3 t4:aw.den)(j:Nat):Evt fun n=>eM (S.tab n) s t3 t4 (j:Int)=some (Sum.inl (s,t3,t4,(wG s j:Int),())):=
 adv (F:=fun T j=>eM T s t3 t4 ↑j) (out:=fun j=>Sum.inl (s,t3,t4,(j:Int),())) aB xm
  (fun T j h hq=>by
   have hj:=ky xm hq;show eM (S.step T) s t3 t4 j=eM T s t3 t4 ((j+1:Nat):Int);rw[pz,h.look,bf (by omega)];simp only[VX,h.sletter,h.sdigit,dF];unfold wq at hq
   cases hl:fM (get s j)with
   |true=>rfl
   |false=>rw[hl,Wd]at hq;rw[hq];rfl)
  (fun T j h hq=>by
   show eM (S.step T) s t3 t4 j=_;rw[pz,h.look];simp only[VX,h.sletter,h.sdigit,dF];unfold wq at hq;simp only[Bool.or_eq_false_iff]at hq
   rw[hq.1,hq.2];rfl) s.length j (by omega)
theorem uC (i:Int)(t:aw.den)(j:Nat):Evt fun n=>cW (S.tab n) s i t (j:Int)=some (Sum.inl (s,i,t,(lP s j:Int),())):=
 adv (F:=fun T j=>cW T s i t ↑j) (out:=fun j=>Sum.inl (s,i,t,(j:Int),())) aB l7
  (fun T j h hq=>by
   have hj:=ky l7 hq;show cW (S.step T) s i t j=cW T s i t ((j+1:Nat):Int);rw[nZ,aj (by simpa using hj),aj (av hj),aI,h.idigit,bf (by omega)];simp only[VX,dF]
   rw[show aW (get s j)=true from hq];rfl)
  (fun T j h hq=>by
   show cW (S.step T) s i t j=_;rw[nZ]
   by_cases hj:j<s.length
   ·rw[aj (by simpa using hj),aj (av hj),aI,h.idigit];simp only[VX,dF];rw[show aW (get s j)=false from hq];rfl
   ·rw[ay (by simpa using hj)]) s.length j (by omega)
theorem uH (i:Int)(t:aw.den)(m:Int)(j:Nat):Evt fun n=>eQ (S.tab n) s i t ↑j m=some (Sum.inl (s,i,t,(lP s j:Int),m,())):=
 adv (F:=fun T j=>eQ T s i t ↑j m) (out:=fun j=>Sum.inl (s,i,t,(j:Int),m,())) aB l7
  (fun T j h hq=>by
   have hj:=ky l7 hq;show eQ (S.step T) s i t j m=eQ T s i t ((j+1:Nat):Int) m;rw[oh,aj (by simpa using hj),aj (av hj),aI,h.idigit,bf (by omega)];simp only[VX,dF]
   rw[show aW (get s j)=true from hq];rfl)
  (fun T j h hq=>by
   show eQ (S.step T) s i t j m=_;rw[oh]
   by_cases hj:j<s.length
   ·rw[aj (by simpa using hj),aj (av hj),aI,h.idigit];simp only[VX,dF];rw[show aW (get s j)=false from hq];rfl
   ·rw[ay (by simpa using hj)]) s.length j (by omega)
theorem uE (i:Int)(t:aw.den)(m:Int)(j:Nat):Evt fun n=>eR (S.tab n) s i t ↑j m=some (Sum.inl (s,i,t,(lP s j:Int),m,())):=
 adv (F:=fun T j=>eR T s i t ↑j m) (out:=fun j=>Sum.inl (s,i,t,(j:Int),m,())) aB l7
  (fun T j h hq=>by
   have hj:=ky l7 hq;show eR (S.step T) s i t j m=eR T s i t ((j+1:Nat):Int) m;rw[oj,aj (by simpa using hj),aj (av hj),aI,h.idigit,bf (by omega)];simp only[VX,dF]
   rw[show aW (get s j)=true from hq];rfl)
  (fun T j h hq=>by
   show eR (S.step T) s i t j m=_;rw[oj]
   by_cases hj:j<s.length
   ·rw[aj (by simpa using hj),aj (av hj),aI,h.idigit];simp only[VX,dF];rw[show aW (get s j)=false from hq];rfl
   ·rw[ay (by simpa using hj)]) s.length j (by omega)
theorem vq (i:Nat)(t:aw.den)(j:Nat)(hi:i≤2097152):Evt fun n=>fg (S.tab n) s ↑i t (j:Int)=some (Sum.inl (s,(i:Int),t,(j4 s (i+18) j:Int),())):=
 adv (F:=fun T j=>fg T s ↑i t ↑j) (out:=fun j=>Sum.inl (s,(i:Int),t,(j:Int),())) aB DE
  (fun T j h Mm=>by
   have hj:=ky DE Mm;simp only[hq,V6,V4]at Mm;show fg (S.step T) s i t j=fg T s i t ((j+1:Nat):Int);rw[pj,aj (by simpa using hj),wrap64 ((i:Int)+18) (by omega) (by omega),aj (by simp only[V4];omega),aj (av hj),aI,h.ihex,bf (by omega)];simp only[VX,dF]
   rw[Mm.2];rfl)
  (fun T j h Mm=>by
   show fg (S.step T) s i t j=_;rw[pj]
   by_cases hj:j<s.length
   ·rw[aj (by simpa using hj),wrap64 ((i:Int)+18) (by omega) (by omega)]
    by_cases Rx:j<i+18
    ·rw[aj (by simp only[V4];omega),aj (av hj),aI,h.ihex];simp only[hq,Rx,decide_true,V9]at Mm;simp only[VX,dF];rw[Mm];rfl
    ·rw[ay (by simp only[V8];omega)]
   ·rw[ay (by simpa using hj)]) s.length j (by omega)
theorem tI (t3 t4:aw.den)(j:Nat):Evt fun n=>cZ (S.tab n) s t3 t4 (j:Int)=some (Sum.inl (s,t3,t4,(lP s j:Int),())):=
 adv (F:=fun T j=>cZ T s t3 t4 ↑j) (out:=fun j=>Sum.inl (s,t3,t4,(j:Int),())) aB l7
  (fun T j h hq=>by
   have hj:=ky l7 hq;show cZ (S.step T) s t3 t4 j=cZ T s t3 t4 ((j+1:Nat):Int);rw[ng,h.look,bf (by omega)];simp only[VX,h.sdigit,dF]
   rw[show aW (get s j)=true from hq];rfl)
  (fun T j h hq=>by
   show cZ (S.step T) s t3 t4 j=_;rw[ng,h.look];simp only[VX,h.sdigit,dF]
   rw[show aW (get s j)=false from hq];rfl) s.length j (by omega)
theorem si (t3 t4:aw.den)(j:Nat):Evt fun n=>df (S.tab n) s t3 t4 (j:Int)=some (Sum.inl (s,t3,t4,(lP s j:Int),())):=
 adv (F:=fun T j=>df T s t3 t4 ↑j) (out:=fun j=>Sum.inl (s,t3,t4,(j:Int),())) aB l7
  (fun T j h hq=>by
   have hj:=ky l7 hq;show df (S.step T) s t3 t4 j=df T s t3 t4 ((j+1:Nat):Int);rw[mo,h.look,bf (by omega)];simp only[VX,h.sdigit,dF]
   rw[show aW (get s j)=true from hq];rfl)
  (fun T j h hq=>by
   show df (S.step T) s t3 t4 j=_;rw[mo,h.look];simp only[VX,h.sdigit,dF]
   rw[show aW (get s j)=false from hq];rfl) s.length j (by omega)
theorem r9 (t3 t4:aw.den)(j:Nat):Evt fun n=>bS (S.tab n) s t3 t4 (j:Int)=some (Sum.inl (s,t3,t4,(lP s j:Int),())):=
 adv (F:=fun T j=>bS T s t3 t4 ↑j) (out:=fun j=>Sum.inl (s,t3,t4,(j:Int),())) aB l7
  (fun T j h hq=>by
   have hj:=ky l7 hq;show bS (S.step T) s t3 t4 j=bS T s t3 t4 ((j+1:Nat):Int);rw[mw,h.look,bf (by omega)];simp only[VX,h.sdigit,dF]
   rw[show aW (get s j)=true from hq];rfl)
  (fun T j h hq=>by
   show bS (S.step T) s t3 t4 j=_;rw[mw,h.look];simp only[VX,h.sdigit,dF]
   rw[show aW (get s j)=false from hq];rfl) s.length j (by omega)
end Go.Abs.D
end

section
namespace Go.Abs.D
def kq (w:LI)(j:Nat):Bool:=decide (j<22)&& !decide (Lx.words.getD j []=w)
theorem Dz {w:LI}:∀j,22≤j→kq w j=false:=fun j h=>by simp[kq];omega
def xX (w:LI):Nat:=stop (kq w) 22 0
theorem DI (l:List LI)(j:Nat):l.getD (j:Int).toNat []=l.getD j []:=rfl
theorem yn (w:LI)(j:Nat)(hj:j≤22):Evt fun n=>fK (S.tab n) w Lx.words 22 (j:Int)=
  some (if stop (kq w) 22 j<22 then Sum.inl (((10+stop (kq w) 22 j:Nat):Int),())else Sum.inr (Sum.inl ())):=
 adv (F:=fun T j=>fK T w Lx.words 22 ↑j) (out:=fun j=>if j<22 then Sum.inl (((10+j:Nat):Int),())else Sum.inr (Sum.inl ())) aB Dz
  (fun T j h hq=>by
   have hj:=ky Dz hq;show fK (S.step T) w Lx.words 22 j=fK T w Lx.words 22 ((j+1:Nat):Int);rw[rK,aj (by simp;omega),aj (av (show j<Lx.words.length from hj)),DI,bf (by omega)];simp only[kq,V6,WV]at hq
   rw[ay hq.2])
  (fun T j h hq=>by
   show fK (S.step T) w Lx.words 22 j=_;rw[rK]
   by_cases hj:j<22
   ·rw[aj (by simp;omega),aj (av (show j<Lx.words.length from hj)),DI];simp only[kq,hj,decide_true,V9,Bool.not_eq_false']at hq;rw[aj hq,WK hj,wrap64 _ (by omega) (by omega)]
    congr 3
   ·rw[ay (by simp;omega),Wz hj]) 22 j (by omega)
theorem vz (t3 t4:aw.den)(w:LI)(j:Nat)(hj:j≤22):Evt fun n=>eK (S.tab n) t3 t4 w Lx.words 22 (j:Int)=
  some (if stop (kq w) 22 j<22 then Sum.inl ((((10+stop (kq w) 22 j:Nat):Int),t3.2),(-1:Int),())else Sum.inr (Sum.inl (t3,t4,w,()))):=
 adv (F:=fun T j=>eK T t3 t4 w Lx.words 22 ↑j) (out:=fun j=>if j<22 then Sum.inl ((((10+j:Nat):Int),t3.2),(-1:Int),())else Sum.inr (Sum.inl (t3,t4,w,()))) aB Dz
  (fun T j h hq=>by
   have hj:=ky Dz hq;show eK (S.step T) t3 t4 w Lx.words 22 j=eK T t3 t4 w Lx.words 22 ((j+1:Nat):Int);rw[pw,aj (by simp;omega),aj (av (show j<Lx.words.length from hj)),DI,bf (by omega)];simp only[kq,V6,WV]at hq
   rw[ay hq.2])
  (fun T j h hq=>by
   show eK (S.step T) t3 t4 w Lx.words 22 j=_;rw[pw]
   by_cases hj:j<22
   ·rw[aj (by simp;omega),aj (av (show j<Lx.words.length from hj)),DI];simp only[kq,hj,decide_true,V9,Bool.not_eq_false']at hq;rw[aj hq,WK hj,wrap64 _ (by omega) (by omega)]
    congr 4
   ·rw[ay (by simp;omega),Wz hj]) 22 j (by omega)
def oT (w:LI):Int:=if xX w<22 then((10+xX w:Nat):Int)else 1
theorem CZ (w:LI):Evt fun n=>th (S.tab n) w=some (oT w,sV):=
 (yn w 0 (by omega)).up fun n h=>by
  show th (S.step (S.tab n)) w=_;have h:fK (S.tab n) w Lx.words (Lx.words.length:Int) 0=_:=h;rw[CW,h];unfold oT xX;split<;>rfl
theorem xK (w:LI):oT w=1↔¬ xX w<22:=by
 unfold oT;split
 ·omega
 ·rename_i h;exact⟨fun _=>h,fun _=>rfl⟩
def Ij (s:LI)(i:Nat):aw.den:=
 let e:=wG s i
 let w:=sub s ↑i ↑e
 if xX w<22 then(((10+xX w:Nat):Int),(i:Int),(e:Int),0,0,([]:LI),())else(1,(i:Int),(e:Int),0,0,w,())
theorem xn {q:Nat→Bool}{N:Nat}(h:∀j,N≤j→q j=false):∀(k j:Nat),j≤N→stop q k j≤N
 |0,j,hj=>hj
 |k+1,j,hj=>by
  unfold stop
  cases hq:q j with
  |false=>exact hj
  |true=>
   have:=ky h hq;exact xn h k (j+1) (by omega)
theorem b9 {n i e:Nat}(h1:i≤e)(h2:e≤n):bounds n ↑i (e:Int)=true:=by
 unfold bounds;simp only[V6,V4];omega
theorem zi {s:LI}(hs:s.length≤2097152){i:Nat}(hi:i<s.length)(t:aw.den)(ht:t=(0,(i:Int),0,0,0,([]:LI),())):
  Evt fun n=>pE (S.tab n) s t=some ((Ij s i, -1,()),pX):=by
 subst ht;have hle:wG s i≤s.length:=xn xm _ _ (by omega);have DS:i≤wG s i:=wB _ _
 refine(((vB hs (0,(i:Int),0,0,0,([]:LI),()) (0,0,0,0,0,([]:LI),()) i).and (vz (1,(i:Int),(wG s i:Int),0,0,([]:LI),()) (0,0,0,0,0,([]:LI),()) (sub s ↑i (wG s i:Int)) 0 (by omega))).and aB).up fun n ⟨⟨h1,h2⟩,hb⟩=> ?_
 show pE (S.step (S.tab n)) s _=_;rw[zF];simp only[h1,VX,aR,Wn,aj (b9 DS hle),hb.words];have h2:eK (S.tab n) (1,(i:Int),(wG s i:Int),0,0,([]:LI),()) (0,0,0,0,0,([]:LI),()) (sub s ↑i (wG s i:Int)) Lx.words (Lx.words.length:Int) 0=_:=h2;rw[h2];unfold Ij xX;simp only[VX];split<;>rfl
theorem Bu {s:LI}(hs:s.length≤2097152){i:Nat}(hi:i<s.length)(hl:fM (get s i)=true):
  Evt fun n=>iM (S.tab n) s (i:Int)=some ((Ij s i,false,()),iB):=by
 have hle:wG s i≤s.length:=xn xm _ _ (by omega);have DS:i≤wG s i:=wB _ _
 refine(((zD hs ↑i (0,(i:Int),0,0,0,([]:LI),()) i).and (CZ (sub s ↑i (wG s i:Int)))).and aB).up fun n ⟨⟨h1,h2⟩,hb⟩=> ?_
 show iM (S.step (S.tab n)) s _=_;rw[xT,aj (av hi),aI,hb.iletter,hl];simp only[VX,aj,h1,aR,Wn,aj (b9 DS hle),h2];unfold Ij
 by_cases hk:xX (sub s ↑i (wG s i:Int))<22
 ·have:oT (sub s ↑i (wG s i:Int))≠1:=fun e=>(xK _).1 e hk
  rw[ay (by simpa using this)];simp only[hk,if_true,oT]
 ·rw[aj (by simpa using(xK _).2 hk)];simp only[hk,WY,oT]
end Go.Abs.D
end

section
namespace Go.Abs.D
def hv (n:Int)(l:LI):Int:=l.foldl (fun n c=>n*16+fH c) n
theorem C3 (n c:Int)(l:LI):hv n (c::l)=hv (n*16+fH c) l:=rfl
theorem Lb (n c:Int)(l:LI):hv n (l++[c])=hv n l*16+fH c:=by simp[hv,List.foldl_append]
theorem Hl {a b:Nat}(h:a≤b):(16:Int)^a≤16^b:=by
 have:=Nat.pow_le_pow_right (show 0<16 by decide) h
 have e:∀k:Nat,(16:Int)^k=((16^k:Nat):Int):=fun k=>by simp
 rw[e,e];omega
theorem nI {c:Int}(h:de c=true):0≤fH c:=by
 have:=kO c;rw[h]at this;simpa using this
theorem Ki:∀(l:LI)(n:Int),0≤n→(∀c∈l,de c=true)→n≤hv n l
 |[],n,_,_=>Int.le_refl _
 |c::l,n,h0,h=>by
  have h1:=nI (h c (Wk ..))
  have:=Ki l (n*16+fH c) (by omega) fun x hx=>h x (Wj _ hx)
  rw[C3];omega
theorem Kf:∀(l:LI)(n:Int)(k:Nat),0≤n→n<16^k→(∀c∈l,de c=true)→hv n l<16^(k+l.length)
 |[],n,k,_,hn,_=>hn
 |c::l,n,k,h0,hn,h=>by
  have h1:=nI (h c (Wk ..));have h2:=pN c
  have:=Kf l (n*16+fH c) (k+1) (by omega) (by rw[Int.pow_succ];omega) fun x hx=>h x (Wj _ hx)
  rw[C3,V0,show k+(l.length+1)=k+1+l.length by omega];exact this
theorem rR (x:Int)(h0:0≤x)(h1:x<18446744073709551616):u64.wrap x=x:=by
 have:u64.wrap x=x % 18446744073709551616:=(by simp[IntKind.wrap,IntKind.bits,IntKind.signed]);rw[this];omega
structure Base3 (T:S.Tab):Prop extends Base2 T where
 lower:∀c,bF T c=some (intBits .or .u8 c 32,pk)
 j46:∀(m n v:Int) (t9 l:LI) (a b:Int),0≤v→v<16→0≤n→n<1152921504606846976→n*16+v≤m→m<18446744073709551616→
  bL T 16 false t9 1152921504606846976 m false n v l a b=some (Sum.inr (Sum.inl (16,false,t9,1152921504606846976,m,false,n*16+v,l,a,b,())))
theorem FK (T:S.Tab)(h:Base1 T):Base3 (S.step T):=by
 refine⟨zW T h,fun c=> ?_,fun m n v t9 l a b ON OA Ku Bg hm hM=> ?_⟩
 ·rw[uD]
 ·have T4:u8.wrap 16=16:=(by decide);have S4:u64.wrap 16=16:=(by decide);rw[nW,T4,S4,rR (n*16) (by omega) (by omega),rR v ON (by omega),rR (n*16+v) (by omega) (by omega)];rw[ay (by simp only[V8];omega),ay (by simp only[V8];omega),ay (by simp only[V8];omega),ay (by simp only[V8];omega)]
theorem Ms:Evt fun n=>Base3 (S.tab n):=by
 have h1:Evt fun n=>Base1 (S.tab n):=Evt.up (Evt.of (p:=fun _=>True) fun _=>trivial) fun n _=>rk _
 exact h1.up fun n h=>FK _ h
theorem PK (l:LI)(j:Nat):l.getD (j:Int).toNat 0=get l j:=rfl
theorem NH (c:Int)(h:tb c=true):intBits .or .u8 c 32=c:=by
 simp only[tb,V6,V4]at h;have:c=97∨c=98∨c=99∨c=100∨c=101∨c=102:=(by omega)
 rcases this with rfl|rfl|rfl|rfl|rfl|rfl<;>decide
theorem Jj (T:S.Tab)(hb:Base3 T)(t9 l:LI)(m n:Int)(j:Nat)(hj:j<l.length)(hl:l.length≤2097152)(hc:de (get l j)=true)(Ku:0≤n)(Bg:n<1152921504606846976)(hm:n*16+fH (get l j)≤m)(hM:m<18446744073709551616):
  aO (S.step T) 16 false t9 1152921504606846976 m false n l (l.length:Int) (j:Int)=
   aO T 16 false t9 1152921504606846976 m false (n*16+fH (get l j)) l (l.length:Int) ((j+1:Nat):Int):=by
 have h0:=nI hc;have wR:=pN (get l j);rw[jk,aj (by simpa using hj),aj (av hj)];rw[PK,bf (show j≤4194304 by omega)]
 cases hd:aW (get l j)with
 |true=>
  have hv:fH (get l j)=get l j - 48:=(by simp[fH,hd]);simp only[aW,V6,V4]at hd
  have nL:decide (get l j=95)=false:=by simp only[V8];omega
  rw[ay nL,aj (by simpa using hd.1),aj (by simpa using hd.2),rP _ (by omega) (by omega),←hv,hb.j46 m n _ t9 l _ _ h0 wR Ku Bg hm hM];simp only[VX,bC,Wx,Wn];rw[bf (by omega)]
 |false=>
  have Ot:tb (get l j)=true:=by
   unfold de at hc;rw[hd,Wd]at hc;exact hc
  have hv:fH (get l j)=get l j - 87:=(by simp[fH,hd,Ot]);have UX:=NH _ Ot;simp only[tb,V6,V4]at Ot
  have nL:decide (get l j=95)=false:=by simp only[V8];omega
  have e:u8.wrap (u8.wrap (get l j - 97)+10)=fH (get l j):=by
   rw[rP (get l j - 97) (by omega) (by omega),rP _ (by omega) (by omega),hv];omega
  have h9:¬ get l j≤57:=(by omega);have Mk:decide (get l j≤57)=false:=(by simpa using h9);rw[ay nL];simp only[hb.lower,UX,VX];rw[aj (show decide (48≤get l j)=true by simp only[V4];omega),ay Mk,aj (show decide (97≤get l j)=true by simpa using Ot.1),aj (show decide (get l j≤122)=true by simp only[V4];omega),e,hb.j46 m n _ t9 l _ _ h0 wR Ku Bg hm hM];simp only[VX,bC,Wx,Wn];rw[bf (by omega)]
theorem Lc (pre:LI)(c:Int)(r:LI):get (pre++c::r) pre.length=c:=fZ pre c r 0
theorem Hb (t9:LI)(m:Int)(hM:m<18446744073709551616):∀(r pre:LI)(n:Int),(∀c∈r,de c=true)→0≤n→n<16^pre.length→(pre++r).length≤16→hv n r≤m→
  Evt fun k=>aO (S.tab k) 16 false t9 1152921504606846976 m false n (pre++r) ((pre++r).length:Int) (pre.length:Int)=some (Sum.inr (Sum.inl (t9,false,hv n r,())))
 |[],pre,n,_,_,_,_,_=>Ms.up fun k hb=>by
  show aO (S.step (S.tab k)) _ _ _ _ _ _ _ _ _ _=_;rw[jk,ay (by simp)];rfl
 |c::r,pre,n,hc,h0,hn,hl,hm=>by
  have hlen:(pre++c::r).length=pre.length+(r.length+1):=(by simp);have h1:=nI (hc c (Wk ..));have h2:=pN c
  have DS:=Ki r (n*16+fH c) (by omega) fun x hx=>hc x (Wj _ hx)
  have hp:(16:Int)^pre.length≤16^15:=Hl (by omega)
  have ih:=Hb t9 m hM r (pre++[c]) (n*16+fH c) (fun x hx=>hc x (Wj _ hx)) (by omega) (by
   rw[VZ,WW,Int.pow_succ];omega) (by simpa using hl) hm
  refine(ih.and Ms).up fun k ⟨h,hb⟩=> ?_
  show aO (S.step (S.tab k)) _ _ _ _ _ _ _ _ _ _=_;have hg:=Lc pre c r;rw[Jj _ hb t9 (pre++c::r) m n pre.length (by omega) (by omega) (by rw[hg];exact hc c (Wk ..)) h0 (by omega) (by rw[hg];rw[C3]at hm;omega) hM,hg];have e1:(pre++[c]).length=pre.length+1:=(by simp);have e2:pre++[c]++r=pre++c::r:=(by simp);rw[e1,e2]at h;exact h
theorem vM (l:LI)(b:Int)(hb:b=8∧l.length≤2∨b=64∧l.length≤16)(nL:l≠[])(hl:∀c∈l,de c=true):
  Evt fun n=>fy (S.tab n) l 16 b=some ((hv 0 l,true,()),nh):=by
 have fP:=Kf l 0 0 (by decide) (by decide) hl;rw[Nat.zero_add]at fP;have hlen:l.length≤16:=(by omega)
 let m:Int:=if b=8 then 255 else 18446744073709551615
 have hm:hv 0 l≤m:=by
  rcases hb with⟨rfl,h⟩|⟨rfl,h⟩
  ·have:(16:Int)^l.length≤16^2:=Hl h;show hv 0 l≤255;omega
  ·have:(16:Int)^l.length≤16^16:=Hl h;show hv 0 l≤18446744073709551615;omega
 have hM:m<18446744073709551616:=by
  show(if b=8 then(255:Int)else 18446744073709551615)<_;split<;>decide
 have h1:=Hb l m hM l [] 0 hl (Int.le_refl 0) (by decide) (by simpa using hlen) hm
 have h2:Evt fun n=>dU (S.tab n) l 16 b false l 1152921504606846976=some (Sum.inl (hv 0 l,true,())):=h1.up fun n h=>by
  have h:aO (S.tab n) 16 false l 1152921504606846976 m false 0 l (l.length:Int) 0=some (Sum.inr (Sum.inl (l,false,hv 0 l,()))):=h
  have e:u64.wrap (u64.wrap (1*2^min (u64.wrap b).toNat u64.bits) - 1)=m:=by
   rcases hb with⟨rfl,_⟩|⟨rfl,_⟩<;>decide
  have e0:decide ((0:Int)≤u64.wrap b)=true:=by
   rcases hb with⟨rfl,_⟩|⟨rfl,_⟩<;>decide
  rw[nT,aj e0,e,h];simp only[VX,bC,Wx,Wn,dF,Wb]
 have h3:Evt fun n=>fu (S.tab n) l 16 b false l=some (Sum.inl (hv 0 l,true,())):=h2.up fun n h=>by
  rw[nU,ay (by decide),aj (by decide),h];rfl
 have h4:Evt fun n=>ft (S.tab n) l 16 b false l=some (Sum.inl (hv 0 l,true,())):=h3.up fun n h=>by
  rw[nV]
  rcases hb with⟨rfl,_⟩|⟨rfl,_⟩
  ·rw[ay (by decide),ay (by decide),ay (by decide),h];rfl
  ·rw[ay (by decide),ay (by decide),ay (by decide),h];rfl
 have h5:Evt fun n=>j0 (S.tab n) l 16 b=some ((hv 0 l,true,()),ja):=h4.up fun n h=>by
  rw[qV,ay (by simpa using nL),aj (by decide),aj (by decide)];have h:ft (S.tab n) l 16 b (decide ((16:Int)=0)) l=_:=h;rw[h];rfl
 exact h5.up fun n h=>by
  rw[se,h];simp only[VX,dF];rfl
end Go.Abs.D
end

section
namespace Go.Abs.D
def bB (s:LI)(a b:Nat):LI:=(s.take b).drop a
theorem nH (s:LI)(a b:Nat):sub s ↑a (b:Int)=bB s a b:=rfl
theorem jS {s:LI}{a j:Nat}(h1:a≤j)(h2:j<s.length):bB s a (j+1)=bB s a j++[get s j]:=by
 unfold bB get;rw[List.take_add_one,Wl h2];rw[List.drop_append_of_le_length (by simp;omega)];rw[Wm,Wl h2];rfl
theorem jA {s:LI}(a:Nat):bB s a a=[]:=by
 unfold bB;exact List.drop_eq_nil_of_le (by simp;omega)
theorem oS {s:LI}{a b:Nat}(h:b≤s.length):(bB s a b).length=b - a:=by
 unfold bB;simp;omega
theorem As {s:LI}{p:Int→Bool}{a:Nat}:∀(k:Nat),a+k≤s.length→(∀j,a≤j→j<a+k→p (get s j)=true)→∀c∈bB s a (a+k),p c=true
 |0,_,_,c,hc=>by rw[Nat.add_zero,jA]at hc;cases hc
 |k+1,hk,h,c,hc=>by
  rw[show a+(k+1)=a+k+1 by omega,jS (by omega) (by omega)]at hc
  rcases Wu.1 hc with hc|hc
  ·exact As k (by omega) (fun j h1 h2=>h j h1 (by omega)) c hc
  ·have:c=get s (a+k):=(by simpa using hc);subst this;exact h _ (by omega) (by omega)
def iD (s:LI)(i:Nat):Nat⊕aw.den:=
 let e:=j4 s (i+18) (i+2)
 if e=i+2 then .inl e else if de (get s e)=true then .inl e else .inr (2,(i:Int),(e:Int),0,i64.wrap (hv 0 (bB s (i+2) e)),([]:LI),())
def k23 (k:Int):Bool:=decide (k=2)||decide (k=3)
def k4 (k:Int):Bool:=decide (k=4)
def kB (c k:Int):Bool:=bif aW c then k23 k else bif decide (c=34)then k4 k else decide (k=0)
def IR (K:Int→Bool)(r:Nat⊕aw.den)(t:aw.den)(b:Bool):Prop:=match r with| .inl e=>b=true∧t.2.2.1=(e:Int)∧K t.1=true| .inr t'=>b=false∧t=t'
def SR (K:Int→Bool)(r:Nat⊕aw.den)(t:aw.den)(b:Int):Prop:=match r with| .inl e=>b=(e:Int)∧K t.1=true| .inr t'=>b= -1∧t=t'
theorem IR.to {K L:Int→Bool}(h:∀k,K k=L k){r:Nat⊕aw.den}{t:aw.den}{b:Bool}:IR K r t b→IR L r t b:=by
 rw[show K=L from funext h];exact id
theorem SR.to {K L:Int→Bool}(h:∀k,K k=L k){r:Nat⊕aw.den}{t:aw.den}{b:Int}:SR K r t b→SR L r t b:=by
 rw[show K=L from funext h];exact id
variable{s:LI}(hs:s.length≤2097152)
include hs
omit hs in
theorem C4 {i:Nat}(hi:i+2≤s.length):j4 s (i+18) (i+2)≤s.length∧i+2≤j4 s (i+18) (i+2)∧j4 s (i+18) (i+2)≤i+18:=by
 refine⟨xn DE _ _ hi,wB _ _, ?_⟩;refine xn (q:=hq s (i+18)) (N:=i+18) (fun j hj=> ?_) _ _ (by omega);simp only[hq,WR,V8];exact .inl (by omega)
omit hs in
theorem LO {i:Nat}(hi:i+2≤s.length):∀c∈bB s (i+2) (j4 s (i+18) (i+2)),de c=true:=by
 obtain⟨h1,h2,h3⟩:=C4 hi;obtain⟨k,hk⟩:∃k,j4 s (i+18) (i+2)=i+2+k:=⟨j4 s (i+18) (i+2) - (i+2),by omega⟩;rw[hk]
 refine As k (by omega) fun j ha hb=> ?_
 have:=oV (q:=hq s (i+18)) s.length (i+2) j ha (by
  show j<j4 s (i+18) (i+2)
  omega)
 simp only[hq,V6]at this;exact this.2
theorem tS (t3 t4:aw.den){i:Nat}(ht:t3.2.1=(i:Int))(hi:i+2≤s.length):∀(k j:Nat),i+2≤j→j≤i+18→s.length≤j+k→(∀c∈bB s (i+2) j,de c=true)→j≤s.length→
  Evt fun n=>iI (S.tab n) s t3 t4 ↑j (hv 0 (bB s (i+2) j))=
   some (bif de (get s (stop (hq s (i+18)) k j))then Sum.inl (t3,(stop (hq s (i+18)) k j:Int),())else Sum.inr (Sum.inl (t3,t4,(stop (hq s (i+18)) k j:Int),hv 0 (bB s (i+2) (stop (hq s (i+18)) k j)),())))
 |0,j,h1,h2,hk,nd,hj=>by
  refine aB.up fun n hb=> ?_
  rw[ix,hb.look];simp only[VX,hb.shex,kO,stop];rw[fA (show s.length≤j by omega),NR,ay rfl];rfl
 |k+1,j,h1,h2,hk,nd,hj=>by
  cases hc:de (get s j)with
  |false=>
   have Mf:hq s (i+18) j=false:=(by simp[hq,hc])
   refine aB.up fun n hb=> ?_
   rw[ix,hb.look,xl Mf];simp only[VX,hb.shex,kO,hc];rw[ay rfl];rfl
  |true=>
   have fP:j<s.length:=by
    rcases Nat.lt_or_ge j s.length with h|h
    ·exact h
    ·rw[fA h,NR]at hc;cases hc
   by_cases he:j=i+18
   ·have Mf:hq s (i+18) j=false:=by simp[hq];omega
    refine aB.up fun n hb=> ?_
    rw[ix,hb.look,xl Mf];simp only[VX,hb.shex,kO,hc,ht];rw[aj rfl,wrap64 _ (by omega) (by omega),aj (by simp only[V4];omega)];rfl
   ·have Vw:hq s (i+18) j=true:=by
     simp only[hq,hc,We,V4];omega
    have hlen:(bB s (i+2) j).length=j - (i+2):=oS hj;have IA:=Kf (bB s (i+2) j) 0 0 (by decide) (by decide) nd;rw[Nat.zero_add,hlen]at IA;have hp:(16:Int)^(j - (i+2))≤16^15:=Hl (by omega);have DS:=Ki (bB s (i+2) j) 0 (by decide) nd;have h0:=nI hc;have wR:=pN (get s j)
    have ih:=tS t3 t4 ht hi k (j+1) (by omega) (by omega) (by omega) (by
     rw[jS h1 fP];intro c IG
     rcases Wu.1 IG with IG|IG
     ·exact nd c IG
     ·have:c=get s j:=(by simpa using IG)
      subst this;exact hc) (by omega)
    refine(ih.and aB).up fun n ⟨h,hb⟩=> ?_
    have e:stop (hq s (i+18)) (k+1) j=stop (hq s (i+18)) k (j+1):=by
     show(bif hq s (i+18) j then _ else _)=_;rw[Vw];rfl
    rw[e,ix,hb.look];simp only[VX,hb.shex,kO,hc,ht,aI];rw[aj rfl,wrap64 ((j:Int) - (i:Int)) (by omega) (by omega),ay (by simp only[V8];omega),aj (av fP),bf (by omega)];rw[rR (hv 0 (bB s (i+2) j)*16) (by omega) (by omega),rR (fH (get s j)) h0 (by omega),rR _ (by omega) (by omega)];rw[jS h1 fP,Lb]at h;exact h
theorem yp {i:Nat}(hi:i+2≤s.length):Evt fun n=>∃t' b,nz (S.tab n) s (2,(i:Int),0,0,0,([]:LI),())=some ((t',b,()),lf)∧SR k23 (iD s i) t' b:=by
 obtain⟨h1,h2,h3⟩:=C4 hi;have hl:=tS hs (2,(i:Int),0,0,0,([]:LI),()) (0,0,0,0,0,([]:LI),()) (i:=i) rfl hi s.length (i+2) (by omega) (by omega) (by omega) (by rw[jA];intro c hc;cases hc) hi
 refine hl.up fun n h=> ?_
 show∃t' b,nz (S.step (S.tab n)) s _=_∧_;rw[jA]at h;have h:iI (S.tab n) s (2,(i:Int),0,0,0,([]:LI),()) (0,0,0,0,0,([]:LI),()) ((i+2:Nat):Int) 0=some (bif de (get s (j4 s (i+18) (i+2)))then _ else _):=h
 have e2:i64.wrap ((i:Int)+2)=((i+2:Nat):Int):=by
  rw[wrap64 _ (by omega) (by omega)];omega
 rw[ym];simp only[e2,h]
 cases hx:de (get s (j4 s (i+18) (i+2)))with
 |true=>
  have Me:iD s i= .inl (j4 s (i+18) (i+2)):=by unfold iD;simp only[hx,if_true,ite_self]
  rw[Me];simp only[Wg,VX,bC,Wn];exact⟨_,_,rfl,rfl,rfl⟩
 |false=>
  simp only[Wb,VX,bC,Wx,Wn,e2]
  by_cases he:j4 s (i+18) (i+2)=i+2
  ·have Me:iD s i= .inl (j4 s (i+18) (i+2)):=by unfold iD;simp only[he,if_true]
   rw[aj (by simp[j4]at he⊢;omega),Me];exact⟨_,_,rfl,rfl,rfl⟩
  ·have Me:iD s i= .inr (2,(i:Int),(j4 s (i+18) (i+2):Int),0,i64.wrap (hv 0 (bB s (i+2) (j4 s (i+18) (i+2)))),([]:LI),()):=by unfold iD;simp only[he,WY,hx,WJ]
   rw[ay (by simp only[V8];show¬ ((j4 s (i+18) (i+2):Nat):Int)=_;omega),Me]
   first|exact⟨_,_,rfl,rfl,rfl⟩|exact⟨_,_,rfl,rfl,rfl,rfl⟩
theorem yl {i:Nat}(hi:i+2≤s.length)(h0:get s i=48)(hx:get s (i+1)=120):Evt fun n=>∃t' b,kL (S.tab n) s (i:Int)=some ((t',b,()),cC)∧IR k23 (iD s i) t' b:=by
 obtain⟨h1,h2,h3⟩:=C4 hi;have hl:=vq hs i (2,(i:Int),0,0,0,([]:LI),()) (i+2) (by omega);have nd:=LO hi;have e1:i64.wrap ((i:Int)+1)=((i+1:Nat):Int):=bf (by omega)
 have e2:i64.wrap ((i:Int)+2)=((i+2:Nat):Int):=by
  rw[wrap64 _ (by omega) (by omega)];omega
 have Vk:i64.wrap ((i:Int)+18)=((i+18:Nat):Int):=by
  rw[wrap64 _ (by omega) (by omega)];omega
 have d0:decide (get s i=48)=true:=by rw[h0];rfl
 have dx:decide (get s (i+1)=120)=true:=by rw[hx];rfl
 by_cases he:j4 s (i+18) (i+2)=i+2
 ·refine hl.up fun n h=> ?_
  show∃t' b,kL (S.step (S.tab n)) s _=_∧_
  have Me:iD s i= .inl (j4 s (i+18) (i+2)):=by unfold iD;simp only[he,if_true]
  rw[lk,aj (av (show i<s.length by omega)),aI,aj d0,e1,aj (by simp only[V4];omega),aj (av (show i+1<s.length by omega)),aI,aj dx,e2,h];simp only[VX,aR,Wn,e2];rw[aj (by simp only[V4];omega),Me]
  first|exact⟨_,_,rfl,rfl,rfl⟩|exact⟨_,_,rfl,rfl,rfl,rfl⟩
 ·have OY:=vM (bB s (i+2) (j4 s (i+18) (i+2))) 64 (.inr ⟨rfl,by rw[oS h1];omega⟩) (fun e=>by
   have:=congrArg List.length e;rw[oS h1]at this
   simp at this;omega) nd
  have KT:de (get s (j4 s (i+18) (i+2)))=false→iD s i= .inr (2,(i:Int),(j4 s (i+18) (i+2):Int),0,i64.wrap (hv 0 (bB s (i+2) (j4 s (i+18) (i+2)))),([]:LI),()):=fun hx=>by unfold iD;simp only[he,WY,hx,WJ]
  refine((hl.and OY).and aB).up fun n ⟨⟨h,hp⟩,hb⟩=> ?_
  show∃t' b,kL (S.step (S.tab n)) s _=_∧_;rw[lk,aj (av (show i<s.length by omega)),aI,aj d0,e1,aj (by simp only[V4];omega),aj (av (show i+1<s.length by omega)),aI,aj dx,e2,h];simp only[VX,aR,Wn,e2,Vk];rw[ay (by simp only[V8];omega)];have Bi:=b9 h2 h1
  by_cases Om:j4 s (i+18) (i+2)=i+18
  ·rw[aj (by simp only[V4];omega)]
   by_cases fP:j4 s (i+18) (i+2)<s.length
   ·rw[aj (by simp only[V4];omega),aj (av fP),aI,hb.ihex];simp only[VX]
    cases Um:de (get s (j4 s (i+18) (i+2)))with
    |true=>
     have Me:iD s i= .inl (j4 s (i+18) (i+2)):=by unfold iD;simp only[Um,if_true,ite_self]
     rw[aj rfl,Me]
     first|exact⟨_,_,rfl,rfl,rfl⟩|exact⟨_,_,rfl,rfl,rfl,rfl⟩
    |false=>
     rw[ay rfl,aj Bi,nH,hp,KT Um]
     first|exact⟨_,_,rfl,rfl,rfl⟩|exact⟨_,_,rfl,rfl,rfl,rfl⟩
   ·have hz:de (get s (j4 s (i+18) (i+2)))=false:=by rw[fA (by omega)];rfl
    rw[ay (by simp only[V8];omega),aj Bi,nH,hp,KT hz]
    first|exact⟨_,_,rfl,rfl,rfl⟩|exact⟨_,_,rfl,rfl,rfl,rfl⟩
  ·have hz:de (get s (j4 s (i+18) (i+2)))=false:=by
    have hq:hq s (i+18) (j4 s (i+18) (i+2))=false:=v8 (q:=hq s (i+18)) DE s.length (i+2) (by omega);simp only[Go.Abs.D.hq,WR,V8]at hq
    rcases hq with hq|hq
    ·omega
    ·exact hq
   rw[ay (by simp only[V8];omega),aj Bi,nH,hp,KT hz]
   first|exact⟨_,_,rfl,rfl,rfl⟩|exact⟨_,_,rfl,rfl,rfl,rfl⟩
end Go.Abs.D
end

section
namespace Go.Abs.D
def dv (n:Int)(l:LI):Int:=l.foldl (fun n c=>n*10+(c - 48)) n
theorem Ha (n c:Int)(l:LI):dv n (c::l)=dv (n*10+(c - 48)) l:=rfl
theorem Lz (n c:Int)(l:LI):dv n (l++[c])=dv n l*10+(c - 48):=by simp[dv,List.foldl_append]
theorem dig {c:Int}(h:aW c=true):48≤c∧c≤57:=by simpa[aW]using h
theorem AY:∀(l:LI)(n:Int),0≤n→(∀c∈l,aW c=true)→n≤dv n l
 |[],n,_,_=>Int.le_refl _
 |c::l,n,h0,h=>by
  have:=dig (h c (Wk ..))
  have:=AY l (n*10+(c - 48)) (by omega) fun x hx=>h x (Wj _ hx)
  rw[Ha];omega
theorem JQ {c:Int}(h:aW c=true):c.toNat.toUInt8.toNat=c.toNat:=by
 have:=dig h;rw[Nat.toUInt8,UInt8.toNat_ofNat'];omega
theorem tV:∀(l:LI)(a:Nat),(∀c∈l,aW c=true)→a≤18446744073709551615→
  Lib.parseUintM (2^64 - 1) a (Lx.u8s l)=(if dv a l≤18446744073709551615 then .ok (dv a l).toNat else .range)
 |[],a,_,ha=>by
  show Lib.NumEnd.ok a=_;rw[WK (by simp only[dv,List.foldl_nil];omega)];simp[dv]
 |c::l,a,h,ha=>by
  have hc:=h c (Wk ..);have hd:=dig hc
  have hl:=fun x hx=>h x (Wj _ hx)
  have e:=JQ hc;have DS:=AY l ((a:Int)*10+(c - 48)) (by omega) hl;have ih:a*10+(c.toNat - 48)≤18446744073709551615→_:=tV l (a*10+(c.toNat - 48)) hl;have e2:((a*10+(c.toNat - 48):Nat):Int)=(a:Int)*10+(c - 48):=(by omega);rw[e2]at ih;show Lib.parseUintM _ a (c.toNat.toUInt8::Lx.u8s l)=_;rw[Lib.parseUintM,e,WK (by omega),Ha]
  by_cases h1:1844674407370955162≤a
  ·rw[WK h1,Wz (by omega)]
  ·rw[Wz h1]
   by_cases h2:2^64 - 1<a*10+(c.toNat - 48)
   ·rw[WK h2,Wz (by omega)]
   ·rw[Wz h2,ih (by omega)]
theorem DV {l:LI}(hl:∀c∈l,aW c=true)(nL:l≠[])(hn:l.length≤2097152):
  ∃v,Lx.lZ (l,10,64,())=some ((bif decide (dv 0 l<9223372036854775808)then dv 0 l else v,decide (dv 0 l<9223372036854775808),()),(),(),(),()):=by
 have DS:=AY l 0 (Int.le_refl 0) hl
 obtain⟨c,r,rfl⟩:∃c r,l=c::r:=by cases l with
  |nil=>exact absurd rfl nL
  |cons c r=>exact⟨c,r,rfl⟩
 have hc:=hl c (Wk ..);have hd:=dig hc;have e:=JQ hc;have hM:=tV (c::r) 0 hl (by decide);have hB:Lib.parseUintB 64 (Lx.u8s (c::r))=_:=(show Lib.parseUintB 64 (Lx.u8s (c::r))=Lib.parseUintM (2^64 - 1) 0 (Lx.u8s (c::r))by unfold Lib.parseUintB;rw[Wz (by simp[Lx.u8s])]).trans hM
 have hI:Lib.parseIntB 64 (Lx.u8s (c::r))=if dv 0 (c::r)<9223372036854775808 then .ok (dv 0 (c::r))else .range:=by
  show Lib.parseIntB 64 (c.toNat.toUInt8::Lx.u8s r)=_;unfold Lib.parseIntB;simp only[e];rw[Wz (show¬ (c.toNat=43∨c.toNat=45)by omega)];have hB:Lib.parseUintB 64 (c.toNat.toUInt8::Lx.u8s r)=_:=hB;rw[hB]
  by_cases h1:dv 0 (c::r)≤18446744073709551615
  ·have KJ:dv ((0:Nat):Int) (c::r)≤18446744073709551615:=h1;rw[WK KJ];show(if¬ (c.toNat=45)∧2^(64 - 1)≤(dv 0 (c::r)).toNat then Lib.NumEnd.range else _)=_
   by_cases h2:dv 0 (c::r)<9223372036854775808
   ·rw[Wz (by omega),Wz (by omega),Wz (by omega),WK h2]
    congr 1
    show((dv 0 (c::r)).toNat:Int)=_;omega
   ·rw[WK (by constructor<;>omega),Wz h2]
  ·have KJ:¬ dv ((0:Nat):Int) (c::r)≤18446744073709551615:=h1;rw[Wz KJ,Wz (by omega)]
 unfold Lx.lZ;rw[show(decide ((10:Int)=10)&&decide ((64:Int)=64)&&fits (c::r).length)=true by rw[dZ (show(c::r).length≤lim by unfold lim;omega)];rfl,Wg];simp only[hI]
 by_cases h2:dv 0 (c::r)<9223372036854775808
 ·rw[WK h2,show decide (dv 0 (c::r)<9223372036854775808)=true from VY h2];exact⟨0,rfl⟩
 ·rw[Wz h2,show decide (dv 0 (c::r)<9223372036854775808)=false from VW h2];exact⟨Lib.intSat 64 (Lx.u8s (c::r)),rfl⟩
theorem chk {ρ:Type}{s:LI}{j:Nat}{c:Int}(hc:c≠0){A B:Option ρ}:brk (decide ((j:Int)<(s.length:Int))) (brk (decide ((0:Int)≤(j:Int))&&decide ((j:Int)<(s.length:Int))) (brk (decide (s.getD (j:Int).toNat 0=c)) A B) none) B=brk (decide (get s j=c)) A B:=by
 by_cases h:j<s.length
 ·rw[aj (by simpa using h),aj (av h)];rfl
 ·rw[ay (by simpa using h),ay (by rw[fA (by omega)];simpa using(Ne.symm hc))]
def j1 (s:LI)(i j:Nat)(SD:Bool):aw.den:=
 bif SD|| !decide (dv 0 (bB s i j)<9223372036854775808)then(3,(i:Int),(j:Int),0,0,bB s i j,())else(2,(i:Int),(j:Int),0,dv 0 (bB s i j),([]:LI),())
def digits (s:LI)(i j:Nat):Prop:=∀c∈bB s i j,aW c=true
variable{s:LI}(hs:s.length≤2097152)
include hs
theorem oz {i j w:Nat}(Iy:i<j)(hj:j≤s.length)(hd:j=w→digits s i j):
  Evt fun n=>dK (S.tab n) s ↑i (2,(i:Int),0,0,0,([]:LI),()) ↑j (w:Int)=some (Sum.inl (j1 s i j (!decide (j=w)),false,())):=by
 refine aB.up fun n hb=> ?_
 have BR:=b9 (n:=s.length) (i:=i) (e:=j) (by omega) hj;rw[uG,aj BR,nH]
 by_cases h:j=w
 ·rw[aj (by simp only[V4];omega)];obtain⟨v,hv⟩:=DV (hd h) (fun e=>by have:=congrArg List.length e;rw[oS hj]at this;simp at this;omega) (by rw[oS hj];omega);rw[hv];simp only[VX];unfold j1;rw[show decide (j=w)=true from VY h]
  cases decide (dv 0 (bB s i j)<9223372036854775808)with
  |true=>rw[aj rfl];rfl
  |false=>rw[ay rfl,aj BR];rfl
 ·rw[ay (by simp only[V8];omega),aj BR];unfold j1;rw[show decide (j=w)=false from VW h];rfl
omit hs in
theorem vV (t:aw.den)(ht:t.1=3)(t4:aw.den)(j v k:Int):Evt fun n=>bl (S.tab n) s t t4 j v k=some (Sum.inl (s,t,t4,j,v,())):=by
 refine aB.up fun n hb=> ?_
 rw[dV]
 cases h:decide (k<j)with
 |false=>rw[ay rfl]
 |true=>rw[aj rfl,ay (by rw[ht];rfl)]
theorem rf {i j:Nat}(hj:j≤s.length)(r:Int×Int×Int×Int×LI×Unit)(t4:aw.den):∀(d k:Nat),k+d=j→i≤k→digits s i j→dv 0 (bB s i k)<9223372036854775808→digits s i k→
  Evt fun n=>∃v,bl (S.tab n) s (2,r) t4 ↑j (dv 0 (bB s i k)) (k:Int)=some (Sum.inl (s,(bif decide (dv 0 (bB s i j)<9223372036854775808)then 2 else 3,r),t4,(j:Int),v,()))∧(dv 0 (bB s i j)<9223372036854775808→v=dv 0 (bB s i j))
 |0,k,e,hk,hd,hv,Iv=>by
  obtain rfl:k=j:=by omega
  refine aB.up fun n hb=>⟨_, ?_,fun _=>rfl⟩
  rw[dV,ay (by simp),VY hv];rfl
 |d+1,k,e,hk,hd,hv,Iv=>by
  have Kw:k<s.length:=(by omega)
  have hc:aW (get s k)=true:=by
   refine hd _ ?_;obtain⟨m,rfl⟩:∃m,j=k+1+m:=⟨j - (k+1),by omega⟩;clear hd;unfold bB get;rw[List.mem_iff_getElem?];refine⟨k - i, ?_⟩;rw[List.getElem?_drop,List.getElem?_take,WK (by omega),Wm];rw[show i+(k - i)=k by omega,Wl Kw];rfl
  have Qd:=dig hc;have h0:=AY (bB s i k) 0 (Int.le_refl 0) Iv;have MZ:bB s i (k+1)=bB s i k++[get s k]:=jS hk Kw
  have Ok:digits s i (k+1):=by
   intro x hx;rw[MZ]at hx
   rcases Wu.1 hx with hx|hx
   ·exact Iv x hx
   ·have:x=get s k:=(by simpa using hx);rw[this];exact hc
  have OA:dv 0 (bB s i (k+1))=dv 0 (bB s i k)*10+(get s k - 48):=(by rw[MZ,Lz])
  have hmono:dv 0 (bB s i (k+1))≤dv 0 (bB s i j):=by
   have e1:bB s i j=bB s i (k+1)++bB s (k+1) j:=by
    unfold bB
    have:(s.take j)=s.take (k+1)++(s.take j).drop (k+1):=by
     conv=>lhs;rw[←List.take_append_drop (k+1) (s.take j)]
     rw[List.take_take,Nat.min_eq_left (by omega)]
    conv=>lhs;rw[this]
    rw[List.drop_append_of_le_length (by simp;omega)]
   rw[e1];have:=AY (bB s (k+1) j) (dv 0 (bB s i (k+1))) (AY _ 0 (Int.le_refl 0) Ok) (fun c hc=>hd c (by rw[e1];exact Wy _ hc));unfold dv at this⊢;rw[List.foldl_append];exact this
  have over:¬ dv 0 (bB s i (k+1))<9223372036854775808→∀v:Int,Evt fun n=>∃v',bl (S.tab n) s (3,r) t4 ↑j v ((k+1:Nat):Int)=some (Sum.inl (s,(bif decide (dv 0 (bB s i j)<9223372036854775808)then 2 else 3,r),t4,(j:Int),v',()))∧(dv 0 (bB s i j)<9223372036854775808→v'=dv 0 (bB s i j)):=fun h v=>by
   refine(vV (s:=s) (3,r) rfl t4 j v ((k+1:Nat):Int)).mono fun n h'=>⟨v, ?_,fun h2=>by omega⟩
   rw[h',VW (show¬ dv 0 (bB s i j)<9223372036854775808 by omega)];rfl
  have w1:u8.wrap (get s k - 48)=get s k - 48:=rP _ (by omega) (by omega);have w2:i64.wrap ((k:Int)+1)=((k+1:Nat):Int):=bf (by omega);have wL:decide (((2,r):aw.den).1=2)=true:=rfl
  have fP:decide ((k:Int)<(j:Int))=true:=by simp only[V4];omega
  by_cases h1:922337203685477580<dv 0 (bB s i k)
  ·refine(over (by omega) (u64.wrap (u64.wrap (dv 0 (bB s i k)*10)+u64.wrap (u8.wrap (get s k - 48))))).up fun n h=> ?_
   show∃v,bl (S.step (S.tab n)) _ _ _ _ _ _=_∧_;rw[dV,aj fP,aj wL,ak h1,aj (av Kw),aI,w2];exact h
  ·by_cases h2:dv 0 (bB s i k)=922337203685477580
   ·by_cases h3:55<get s k
    ·refine(over (by omega) (u64.wrap (u64.wrap (dv 0 (bB s i k)*10)+u64.wrap (u8.wrap (get s k - 48))))).up fun n h=> ?_
     show∃v,bl (S.step (S.tab n)) _ _ _ _ _ _=_∧_;rw[dV,aj fP,aj wL,ae h1,ak h2,aj (av Kw),aI,ak h3,aj (av Kw),w2];exact h
    ·have ih:=rf hj r t4 d (k+1) (by omega) (by omega) hd (by omega) Ok
     refine ih.up fun n h=> ?_
     show∃v,bl (S.step (S.tab n)) _ _ _ _ _ _=_∧_;rw[dV,aj fP,aj wL,ae h1,ak h2,aj (av Kw),aI,ae h3,aj (av Kw),w2,w1];rw[rR (_*10) (by omega) (by omega),rR (get s k - 48) (by omega) (by omega),rR _ (by omega) (by omega),←OA];exact h
   ·have ih:=rf hj r t4 d (k+1) (by omega) (by omega) hd (by omega) Ok
    refine ih.up fun n h=> ?_
    show∃v,bl (S.step (S.tab n)) _ _ _ _ _ _=_∧_;rw[dV,aj fP,aj wL,ae h1,ae h2,aj (av Kw),aI,w2,w1];rw[rR (_*10) (by omega) (by omega),rR (get s k - 48) (by omega) (by omega),rR _ (by omega) (by omega),←OA];exact h
omit hs in
theorem vN {i j:Nat}(Iy:i<j)(hj:j≤s.length)(t4:aw.den):
  Evt fun n=>cK (S.tab n) s (3,(i:Int),0,0,0,([]:LI),()) t4 (j:Int)=some (Sum.inl (j1 s i j true, -1,())):=by
 have hl:=vV (s:=s) (3,(i:Int),(j:Int),0,0,([]:LI),()) rfl t4 j 0 i
 refine hl.up fun n h=> ?_
 rw[mq];simp only;rw[h];simp only[VX,aR,Wn];rw[aj (by simp),aj (b9 (by omega) hj)];rfl
theorem CM {i j:Nat}(Iy:i<j)(hj:j≤s.length)(t4:aw.den)(hd:digits s i j):
  Evt fun n=>cK (S.tab n) s (2,(i:Int),0,0,0,([]:LI),()) t4 (j:Int)=some (Sum.inl (j1 s i j false, -1,())):=by
 have hl:=rf hs hj ((i:Int),(j:Int),0,0,([]:LI),()) t4 (j - i) i (by omega) (by omega) hd (by rw[jA];decide) (by intro c hc;rw[jA]at hc;cases hc);rw[jA]at hl;have h0:=AY (bB s i j) 0 (Int.le_refl 0) hd
 refine hl.up fun n ⟨v,h,hv⟩=> ?_
 rw[mq];simp only;have h:bl (S.tab n) s (2,(i:Int),(j:Int),0,0,([]:LI),()) t4 ↑j 0 (i:Int)=_:=h;rw[h];simp only[VX,aR,Wn];unfold j1;rw[Wd]
 cases fP:decide (dv 0 (bB s i j)<9223372036854775808)with
 |true=>
  rw[V4]at fP;rw[ay (by rfl),hv fP,wrap64 _ (by omega) (by omega)];rfl
 |false=>
  rw[aj (by rfl),aj (b9 (by omega) hj)];rfl
end Go.Abs.D
end

section
namespace Go.Abs.D
def kX (s:LI)(j:Nat):Nat:=bif decide (get s (j+1)=43)||decide (get s (j+1)=45)then j+2 else j+1
def vd (s:LI)(i j:Nat)(SD:Bool):Nat⊕aw.den:=
 bif decide (get s j=101)then bif aW (get s (kX s j))then .inr (j1 s i (lP s (kX s j)) true)else .inl (kX s j)else .inr (j1 s i j SD)
def vc (s:LI)(i j:Nat):Nat⊕aw.den:=
 bif decide (get s j=46)&&aW (get s (j+1))then vd s i (lP s (j+1)) true else vd s i j false
def jD (s:LI)(i:Nat):Nat⊕aw.den:=
 bif decide (get s i=48)&&decide (get s (i+1)=120)then iD s i else vc s i (bif decide (get s i=48)then i+1 else lP s (i+1))
theorem rA {s:LI}{j:Nat}(h:j≤s.length):lP s j≤s.length:=xn l7 _ _ h
theorem rn (s:LI)(j:Nat):j≤lP s j:=wB _ _
theorem ig {s:LI}{j:Nat}{c:Int}(h:get s j=c)(hc:c≠0):j<s.length:=by
 rcases Nat.lt_or_ge j s.length with h'|h'
 ·exact h'
 ·rw[fA h']at h;exact absurd h.symm hc
theorem sS {s:LI}{j:Nat}(h:aW (get s j)=true):j<s.length:=by
 rcases Nat.lt_or_ge j s.length with h'|h'
 ·exact h'
 ·rw[fA h']at h;cases h
theorem Aj {s:LI}{i j:Nat}(h:j≤s.length)(hi:i≤j)(hd:digits s i j):digits s i (lP s j):=by
 have hle:=rA h;have DS:=rn s j;obtain⟨m,hm⟩:∃m,lP s j=i+m:=⟨lP s j - i,by omega⟩;intro c hc;rw[hm]at hc;refine As (p:=aW) (a:=i) m (by omega) (fun k h1 h2=> ?_) c hc
 rcases Nat.lt_or_ge k j with h3|h3
 ·refine hd _ ?_;unfold bB get;rw[List.mem_iff_getElem?];refine⟨k - i, ?_⟩;rw[List.getElem?_drop,List.getElem?_take,WK (by omega),Wm];rw[show i+(k - i)=k by omega,Wl (by omega)];rfl
 ·exact oV (q:=dq s) s.length j k h3 (by show k<lP s j;omega)
variable{s:LI}(hs:s.length≤2097152)
include hs
theorem Ek {i k w:Nat}(hi:i≤2097152)(hk:k≤s.length):Evt fun n=>fD (S.tab n) s ↑i (2,(i:Int),0,0,0,([]:LI),()) ↑k (w:Int)=
  some (bif aW (get s k)then Sum.inr (Sum.inl (s,(i:Int),(2,(i:Int),0,0,0,([]:LI),()),(lP s k:Int),(w:Int),()))else Sum.inl ((2,(i:Int),(k:Int),0,0,([]:LI),()),true,())):=by
 refine((uE hs ↑i (2,(i:Int),0,0,0,([]:LI),()) ↑w k).and aB).up fun n ⟨h,hb⟩=> ?_
 rw[uF]
 by_cases hl:k<s.length
 ·rw[ay (by simp only[V8];omega),aj (av hl),aI,hb.idigit,h];simp only[VX,aR,Wn]
  cases aW (get s k)with
  |true=>rw[ay (by rfl)];rfl
  |false=>rw[aj (by rfl)];rfl
 ·rw[aj (by simp only[V4];omega),fA (by omega)];rfl
theorem xO {i j w:Nat}(Iy:i<w)(hw:w≤j)(hj:j≤s.length)(hd:j=w→digits s i j):
  Evt fun n=>∃t' b,dJ (S.tab n) s ↑i (2,(i:Int),0,0,0,([]:LI),()) ↑j (w:Int)=some (Sum.inl (t',b,()))∧IR k23 (vd s i j (!decide (j=w))) t' b:=by
 have e1:i64.wrap ((j:Int)+1)=((j+1:Nat):Int):=bf (by omega);have e2:i64.wrap (((j+1:Nat):Int)+1)=((j+2:Nat):Int):=bf (by omega)
 by_cases he:get s j=101
 ·have Pe:=ig he (by decide)
  have Kw:kX s j≤s.length:=by
   unfold kX
   by_cases h:get s (j+1)=43
   ·have:=ig h (by decide);rw[VY h];simp only[Wh,Wg];omega
   ·by_cases h':get s (j+1)=45
    ·have:=ig h' (by decide);rw[VY h'];simp only[Wi,Wg];omega
    ·rw[VW h,VW h'];simp only[Wf,Wb];omega
  have UQ:j<kX s j:=by unfold kX;cases decide (get s (j+1)=43)||decide (get s (j+1)=45)<;>simp
  have key:∀T,dJ (S.step T) s ↑i (2,(i:Int),0,0,0,([]:LI),()) ↑j (w:Int)=(fD T s ↑i (2,(i:Int),0,0,0,([]:LI),()) (kX s j:Int) ↑w).bind (bC (fun ji=>some (Sum.inl ji)) (fun ji=>(dK T ji.1 ji.2.1 ji.2.2.1 ji.2.2.2.1 ji.2.2.2.2.1).bind (aR (fun BP=>some (Sum.inl BP))))):=fun T=>by
   rw[oq,chk (by decide),ak he,e1,e2];unfold kX
   by_cases hl:j+1<s.length
   ·rw[aj (by simp only[V4];omega),aj (av hl),aj (av hl),aI]
    by_cases h:get s (j+1)=43
    ·rw[ak h,VY h];rfl
    ·rw[ae h,VW h]
     by_cases h':get s (j+1)=45
     ·rw[ak h',VY h'];rfl
     ·rw[ae h',VW h'];rfl
   ·rw[ay (by simp only[V8];omega),fA (by omega)];rfl
  have hex:vd s i j (!decide (j=w))=bif aW (get s (kX s j))then .inr (j1 s i (lP s (kX s j)) true)else .inl (kX s j):=by
   unfold vd;rw[VY he];rfl
  have BO:=Ek hs (i:=i) (w:=w) (by omega) Kw;have DS:=rn s (kX s j);have nM:=oz hs (i:=i) (j:=lP s (kX s j)) (w:=w) (by omega) (rA Kw) (fun e=>by omega)
  refine(BO.and nM).up fun n ⟨h,h'⟩=> ?_
  show∃t' b,dJ (S.step (S.tab n)) _ _ _ _ _=_∧_;rw[key,h,hex]
  cases Qd:aW (get s (kX s j))with
  |true=>
   simp only[Wg,VX,bC,Wx,Wn];rw[h',VW (show¬ lP s (kX s j)=w by omega)]
   first|exact⟨_,_,rfl,rfl,rfl⟩|exact⟨_,_,rfl,rfl,rfl,rfl⟩
  |false=>
   simp only[Wb,VX,bC,Wn]
   first|exact⟨_,_,rfl,rfl,rfl⟩|exact⟨_,_,rfl,rfl,rfl,rfl⟩
 ·have hex:vd s i j (!decide (j=w))= .inr (j1 s i j (!decide (j=w))):=by
   unfold vd;rw[VW he];rfl
  refine(oz hs (by omega) hj hd).up fun n h=> ?_
  show∃t' b,dJ (S.step (S.tab n)) _ _ _ _ _=_∧_;rw[oq,chk (by decide),ae he,h,hex]
  first|exact⟨_,_,rfl,rfl,rfl⟩|exact⟨_,_,rfl,rfl,rfl,rfl⟩
theorem xB {i j:Nat}(Iy:i<j)(hj:j≤s.length)(hd:digits s i j):
  Evt fun n=>∃t' b,cV (S.tab n) s ↑i (2,(i:Int),0,0,0,([]:LI),()) (j:Int)=some (Sum.inl (t',b,()))∧IR k23 (vc s i j) t' b:=by
 have e1:i64.wrap ((j:Int)+1)=((j+1:Nat):Int):=bf (by omega)
 by_cases hf:get s j=46∧aW (get s (j+1))=true
 ·have hl:=sS hf.2;have DS:=rn s (j+1);have hle:=rA (s:=s) (j:=j+1) (by omega);have vl:=uH hs ↑i (2,(i:Int),0,0,0,([]:LI),()) ↑j (j+1);have wL:=xO hs (i:=i) (j:=lP s (j+1)) (w:=j) Iy (by omega) hle (fun e=>by omega)
  refine((vl.and wL).and aB).up fun n ⟨⟨h,t',b,h',hr⟩,hb⟩=> ?_
  show∃t' b,cV (S.step (S.tab n)) _ _ _ _=_∧_;rw[nY,e1,aj (by simp only[V4];omega),aj (av (show j<s.length by omega)),aI,aj (VY hf.1),aj (av hl),aI,hb.idigit,hf.2];simp only[VX];rw[aj rfl,h];simp only[VX,aR,Wn];rw[h'];refine⟨t',b,rfl, ?_⟩;rw[VW (show¬ lP s (j+1)=j by omega)]at hr;unfold vc;rw[VY hf.1,hf.2];exact hr
 ·have VG:vc s i j=vd s i j (!decide (j=j)):=by
   unfold vc;rw[VY (show j=j from rfl)]
   by_cases h:get s j=46
   ·have:aW (get s (j+1))=false:=by
     cases hx:aW (get s (j+1))with
     |true=>exact absurd ⟨h,hx⟩ hf
     |false=>rfl
    rw[this,Wa];rfl
   ·rw[VW h];rfl
  have wL:=xO hs (i:=i) (j:=j) (w:=j) Iy (by omega) hj (fun _=>hd);rw[VG]
  refine(wL.and aB).up fun n ⟨⟨t',b,h',hr⟩,hb⟩=> ?_
  show∃t' b,cV (S.step (S.tab n)) _ _ _ _=_∧_;refine⟨t',b, ?_,hr⟩;rw[nY,e1]
  by_cases hl:j+1<s.length
  ·rw[aj (by simp only[V4];omega),aj (av (show j<s.length by omega)),aI]
   by_cases h:get s j=46
   ·have:aW (get s (j+1))=false:=by
     cases hx:aW (get s (j+1))with
     |true=>exact absurd ⟨h,hx⟩ hf
     |false=>rfl
    rw[ak h,aj (av hl),aI,hb.idigit,this];simp only[VX];rw[ay rfl,h'];rfl
   ·rw[ae h,h'];rfl
  ·rw[ay (by simp only[V8];omega),h'];rfl
omit hs in
theorem rj {i:Nat}(hi:i<s.length)(h:aW (get s i)=true):digits s i (i+1):=by
 intro c hc;rw[jS (Wp _) hi,jA]at hc;have:c=get s i:=(by simpa using hc);rw[this];exact h
theorem zx {i:Nat}(hi:i<s.length)(hd:aW (get s i)=true):Evt fun n=>∃t' b,kL (S.tab n) s (i:Int)=some ((t',b,()),cC)∧IR k23 (jD s i) t' b:=by
 by_cases h0:get s i=48
 ·by_cases hx:get s (i+1)=120
  ·have hl:=ig hx (by decide)
   have:jD s i=iD s i:=by unfold jD;rw[VY h0,VY hx];rfl
   rw[this];exact yl hs (by omega) h0 hx
  ·have e:jD s i=vc s i (i+1):=by unfold jD;rw[VY h0,VW hx];rfl
   rw[e];have e1:i64.wrap ((i:Int)+1)=((i+1:Nat):Int):=bf (by omega)
   refine(xB hs (i:=i) (j:=i+1) (by omega) (by omega) (rj hi hd)).up fun n ⟨t',b,h',hr⟩=>⟨t',b, ?_,hr⟩
   rw[lk,e1,aj (av hi),aI,ak h0]
   by_cases hl:i+1<s.length
   ·rw[aj (by simp only[V4];omega),aj (av hl),aI,ae hx,aj (av hi),ay (by rw[VY h0];rfl),h'];rfl
   ·rw[ay (by simp only[V8];omega),aj (av hi),ay (by rw[VY h0];rfl),h'];rfl
 ·have e:jD s i=vc s i (lP s (i+1)):=by unfold jD;rw[VW h0];rfl
  rw[e];have e1:i64.wrap ((i:Int)+1)=((i+1:Nat):Int):=bf (by omega);have DS:=rn s (i+1);have hle:=rA (s:=s) (j:=i+1) (by omega);have Cz:=uC hs ↑i (2,(i:Int),0,0,0,([]:LI),()) (i+1)
  refine(Cz.and (xB hs (i:=i) (j:=lP s (i+1)) (by omega) hle (Aj (by omega) (by omega) (rj hi hd)))).up fun n ⟨h,t',b,h',hr⟩=>⟨t',b, ?_,hr⟩
  rw[lk,e1,aj (av hi),aI,ae h0,aj (av hi),aj (by rw[VW h0];rfl),h];simp only[VX,aR,Wn];rw[h'];rfl
theorem sI {i j:Nat}(f:Bool)(Iy:i<j)(hj:j≤s.length)(t4:aw.den)(hd:f=false→digits s i j):
  Evt fun n=>∃t' b,bT (S.tab n) s (bif f then 3 else 2,(i:Int),0,0,0,([]:LI),()) t4 (j:Int)=some (Sum.inl (t',b,()))∧SR k23 (vd s i j f) t' b:=by
 have e1:i64.wrap ((j:Int)+1)=((j+1:Nat):Int):=bf (by omega);have e2:i64.wrap (((j+1:Nat):Int)+1)=((j+2:Nat):Int):=bf (by omega)
 by_cases he:get s j=101
 ·have Pe:=ig he (by decide)
  have UQ:j<kX s j:=by unfold kX;cases decide (get s (j+1)=43)||decide (get s (j+1)=45)<;>simp
  have hex:vd s i j f=bif aW (get s (kX s j))then .inr (j1 s i (lP s (kX s j)) true)else .inl (kX s j):=by
   unfold vd;rw[VY he];rfl
  have key:∀n,Base2 (S.tab n)→bT (S.step (S.tab n)) s (bif f then 3 else 2,(i:Int),0,0,0,([]:LI),()) t4 (j:Int)=
    brk (!aW (get s (kX s j))) (some (Sum.inl ((3,(i:Int),0,0,0,([]:LI),()),(kX s j:Int),()))) ((bS (S.tab n) s (3,(i:Int),0,0,0,([]:LI),()) t4 (kX s j:Int)).bind (aR (fun qT=>(cK (S.tab n) qT.1 qT.2.1 qT.2.2.1 qT.2.2.2.1).bind (aR (fun Hw=>some (Sum.inl Hw)))))):=fun n hb=>by
   rw[mA,hb.look];simp only[VX];rw[ak he,e1,e2,hb.look];simp only[VX];unfold kX
   by_cases h':get s (j+1)=45
   ·rw[ak h',VY h',Wi,hb.look];simp only[VX,hb.sdigit,Wg]
   ·rw[ae h',VW h',Wf]
    by_cases h:get s (j+1)=43
    ·rw[ak h,VY h,hb.look];simp only[VX,hb.sdigit,Wg]
    ·rw[ae h,VW h];simp only[VX,hb.sdigit,Wb]
  cases Qd:aW (get s (kX s j))with
  |true=>
   have hl:=sS Qd;have DS:=rn s (kX s j);have Be:=r9 hs (3,(i:Int),0,0,0,([]:LI),()) t4 (kX s j);have wO:=vN (s:=s) (i:=i) (j:=lP s (kX s j)) (by omega) (rA (by omega)) t4
   refine((Be.and wO).and aB).up fun n ⟨⟨h,h'⟩,hb⟩=> ?_
   show∃t' b,bT (S.step (S.tab n)) _ _ _ _=_∧_;rw[key n hb,hex,Qd,ay (by rfl),h];simp only[Wg,VX,aR,Wn];rw[h']
   first|exact⟨_,_,rfl,rfl,rfl⟩|exact⟨_,_,rfl,rfl,rfl,rfl⟩
  |false=>
   refine aB.up fun n hb=> ?_
   show∃t' b,bT (S.step (S.tab n)) _ _ _ _=_∧_;rw[key n hb,hex,Qd,aj (by rfl)];exact⟨_,_,rfl,rfl,rfl⟩
 ·have hex:vd s i j f= .inr (j1 s i j f):=by
   unfold vd;rw[VW he];rfl
  have wO:Evt fun n=>cK (S.tab n) s (bif f then 3 else 2,(i:Int),0,0,0,([]:LI),()) t4 (j:Int)=some (Sum.inl (j1 s i j f, -1,())):=by
   cases f with
   |true=>exact vN (s:=s) Iy hj t4
   |false=>exact CM hs Iy hj t4 (hd rfl)
  refine(wO.and aB).up fun n ⟨h,hb⟩=> ?_
  show∃t' b,bT (S.step (S.tab n)) _ _ _ _=_∧_;rw[mA,hb.look];simp only[VX];rw[ae he,h,hex]
  first|exact⟨_,_,rfl,rfl,rfl⟩|exact⟨_,_,rfl,rfl,rfl,rfl⟩
theorem Ae {i j:Nat}(Iy:i<j)(hj:j≤s.length)(t4:aw.den)(hd:digits s i j):
  Evt fun n=>∃t' b,c8 (S.tab n) s (2,(i:Int),0,0,0,([]:LI),()) t4 (j:Int)=some (Sum.inl (t',b,()))∧SR k23 (vc s i j) t' b:=by
 have e1:i64.wrap ((j:Int)+1)=((j+1:Nat):Int):=bf (by omega)
 by_cases h:get s j=46
 ·cases hx:aW (get s (j+1))with
  |true=>
   have hl:=sS hx;have DS:=rn s (j+1);have hle:=rA (s:=s) (j:=j+1) (by omega);have qU:=si hs (3,(i:Int),0,0,0,([]:LI),()) t4 (j+1);have wQ:=sI hs (i:=i) (j:=lP s (j+1)) true (by omega) hle t4 (fun e=>by cases e)
   refine((qU.and wQ).and aB).up fun n ⟨⟨h1,t',b,h2,hr⟩,hb⟩=>⟨t',b, ?_, ?_⟩
   ·show c8 (S.step (S.tab n)) _ _ _ _=_;rw[jY,hb.look];simp only[VX];rw[ak h,e1,hb.look];simp only[VX,hb.sdigit,hx];rw[aj rfl,h1];simp only[VX,aR,Wn];rw[show((3:Int),(i:Int),(0:Int),(0:Int),(0:Int),([]:LI),())=(bif true then 3 else 2,(i:Int),0,0,0,([]:LI),())from rfl,h2];rfl
   ·unfold vc;rw[VY h,hx];exact hr
  |false=>
   have wQ:=sI hs (i:=i) (j:=j) false Iy hj t4 (fun _=>hd)
   refine(wQ.and aB).up fun n ⟨⟨t',b,h2,hr⟩,hb⟩=>⟨t',b, ?_, ?_⟩
   ·show c8 (S.step (S.tab n)) _ _ _ _=_;rw[jY,hb.look];simp only[VX];rw[ak h,e1,hb.look];simp only[VX,hb.sdigit,hx];have h2:bT (S.tab n) s (2,(i:Int),0,0,0,([]:LI),()) t4 (j:Int)=_:=h2;rw[ay rfl,h2];rfl
   ·unfold vc;rw[hx,Wa];exact hr
 ·have wQ:=sI hs (i:=i) (j:=j) false Iy hj t4 (fun _=>hd)
  refine(wQ.and aB).up fun n ⟨⟨t',b,h2,hr⟩,hb⟩=>⟨t',b, ?_, ?_⟩
  ·show c8 (S.step (S.tab n)) _ _ _ _=_;rw[jY,hb.look];simp only[VX];have h2:bT (S.tab n) s (2,(i:Int),0,0,0,([]:LI),()) t4 (j:Int)=_:=h2;rw[ae h,h2];rfl
  ·unfold vc;rw[VW h];exact hr
theorem xb {i:Nat}(hi:i<s.length)(hd:aW (get s i)=true):Evt fun n=>∃t' b,pZ (S.tab n) s (0,(i:Int),0,0,0,([]:LI),())=some ((t',b,()),gw)∧SR k23 (jD s i) t' b:=by
 have e1:i64.wrap ((i:Int)+1)=((i+1:Nat):Int):=bf (by omega)
 by_cases h0:get s i=48
 ·by_cases hx:get s (i+1)=120
  ·have hl:=ig hx (by decide)
   have e:jD s i=iD s i:=by unfold jD;rw[VY h0,VY hx];rfl
   rw[e]
   refine((yp hs (i:=i) (by omega)).and aB).up fun n ⟨⟨t',b,h,hr⟩,hb⟩=>⟨t',b, ?_,hr⟩
   rw[lW];simp only[e1];rw[aj (av hi),aI,ak h0,hb.look];simp only[VX];rw[ak hx,h];rfl
  ·have e:jD s i=vc s i (i+1):=by unfold jD;rw[VY h0,VW hx];rfl
   rw[e]
   refine((Ae hs (i:=i) (j:=i+1) (by omega) (by omega) (0,0,0,0,0,([]:LI),()) (rj hi hd)).and aB).up fun n ⟨⟨t',b,h,hr⟩,hb⟩=>⟨t',b, ?_,hr⟩
   rw[lW];simp only[e1];rw[aj (av hi),aI,ak h0,hb.look];simp only[VX];rw[ae hx,aj (av hi),ay (by rw[VY h0];rfl),h];rfl
 ·have e:jD s i=vc s i (lP s (i+1)):=by unfold jD;rw[VW h0];rfl
  rw[e];have DS:=rn s (i+1);have hle:=rA (s:=s) (j:=i+1) (by omega);have h7:=tI hs (2,(i:Int),0,0,0,([]:LI),()) (0,0,0,0,0,([]:LI),()) (i+1)
  refine(h7.and (Ae hs (i:=i) (j:=lP s (i+1)) (by omega) hle (0,0,0,0,0,([]:LI),()) (Aj (by omega) (by omega) (rj hi hd)))).up fun n ⟨h1,t',b,h,hr⟩=>⟨t',b, ?_,hr⟩
  rw[lW];simp only[e1];rw[aj (av hi),aI,ae h0,aj (av hi),aj (by rw[VW h0];rfl),h1];simp only[VX,aR,Wn];rw[h];rfl
end Go.Abs.D
end

section
namespace Go.Abs.D
def eB (s:LI):Nat→Nat→LI→Nat⊕(Nat×LI)
 |0,j,_=> .inl j
 |k+1,j,o=>
  bif decide (s.length≤j)then .inl j else
  bif decide (get s j=10)then .inl j else
  bif decide (get s j=34)then .inr (j+1,o)else
  bif !decide (get s j=92)then eB s k (j+1) (o++[get s j])else
  bif decide (get s (j+1)=110)then eB s k (j+2) (o++[10])else
  bif decide (get s (j+1)=116)then eB s k (j+2) (o++[9])else
  bif decide (get s (j+1)=34)then eB s k (j+2) (o++[34])else
  bif decide (get s (j+1)=92)then eB s k (j+2) (o++[92])else
  bif !decide (get s (j+1)=120)then .inl (j+1)else
  bif !de (get s (j+2))then .inl (j+2)else
  bif !de (get s (j+3))then .inl (j+3)else
  eB s k (j+4) (o++[fH (get s (j+2))*16+fH (get s (j+3))])
def Kn (i:Nat):Nat⊕(Nat×LI)→Nat⊕aw.den
 | .inl e=> .inl e
 | .inr (e,o)=> .inr (4,(i:Int),(e:Int),0,0,o.map byte,())
def JX (s:LI)(i:Nat):Nat⊕aw.den:=Kn i (eB s s.length (i+1) [])
variable{s:LI}(hs:s.length≤2097152)
include hs
omit hs in
theorem xi {j:Nat}(h:de (get s j)=true):j<s.length:=by
 rcases Nat.lt_or_ge j s.length with h'|h'
 ·exact h'
 ·rw[fA h']at h;cases h
omit hs in
theorem PJ (t4:aw.den)(o:LI)(j:Nat):Evt fun n=>jN (S.tab n) s t4 o ↑j 4=some (Sum.inr (Sum.inl (s,t4,o,(j:Int),()))):=by
 refine aB.up fun n hb=> ?_
 rw[mR,ay (by decide)]
theorem Po (t4:aw.den)(o:LI)(j:Nat)(hj:j<s.length):Evt fun n=>jN (S.tab n) s t4 o ↑j 3=
  some (bif de (get s (j+3))then Sum.inr (Sum.inl (s,t4,o,(j:Int),()))else Sum.inl ((t4.1,t4.2.1,((j+3:Nat):Int),t4.2.2.2),true,())):=by
 have e:i64.wrap ((j:Int)+3)=((j+3:Nat):Int):=by rw[wrap64 _ (by omega) (by omega)];omega
 have e4:i64.wrap ((3:Int)+1)=4:=(by decide)
 refine((PJ (s:=s) t4 o j).and aB).up fun n ⟨h,hb⟩=> ?_
 rw[mR,aj (by decide),e,e4,h]
 by_cases hl:j+3<s.length
 ·rw[ay (by simp only[V8];omega),aj (av hl),aI,hb.ihex];simp only[VX]
  cases de (get s (j+3))with
  |true=>rw[ay (by rfl)];rfl
  |false=>rw[aj (by rfl)];rfl
 ·rw[aj (by simp only[V4];omega),fA (by omega)];rfl
theorem Pl (t4:aw.den)(o:LI)(j:Nat)(hj:j<s.length):Evt fun n=>jN (S.tab n) s t4 o ↑j 2=
  some (bif de (get s (j+2))then(bif de (get s (j+3))then Sum.inr (Sum.inl (s,t4,o,(j:Int),()))else Sum.inl ((t4.1,t4.2.1,((j+3:Nat):Int),t4.2.2.2),true,()))else Sum.inl ((t4.1,t4.2.1,((j+2:Nat):Int),t4.2.2.2),true,())):=by
 have e:i64.wrap ((j:Int)+2)=((j+2:Nat):Int):=by rw[wrap64 _ (by omega) (by omega)];omega
 have e3:i64.wrap ((2:Int)+1)=3:=(by decide)
 refine((Po hs t4 o j hj).and aB).up fun n ⟨h,hb⟩=> ?_
 rw[mR,aj (by decide),e,e3,h]
 by_cases hl:j+2<s.length
 ·rw[ay (by simp only[V8];omega),aj (av hl),aI,hb.ihex];simp only[VX]
  cases de (get s (j+2))with
  |true=>rw[ay (by rfl)];rfl
  |false=>rw[aj (by rfl)];rfl
 ·rw[aj (by simp only[V4];omega),fA (show s.length≤j+2 by omega)];rfl
omit hs in
theorem PH (t3 t4:aw.den)(o:LI)(j:Nat):Evt fun n=>fz (S.tab n) s t3 t4 ↑j o 3=some (Sum.inr (Sum.inl (s,t3,t4,(j:Int),o,()))):=by
 refine aB.up fun n hb=> ?_
 rw[jo,ay (by decide)]
omit hs in
theorem JN (c:Int):decide (fH c<0)= !de c:=by
 rw[←kO]
 by_cases h:0≤fH c
 ·rw[VY h,VW (by omega)];rfl
 ·rw[VW h,VY (by omega)];rfl
theorem Pn (t3 t4:aw.den)(o:LI)(j:Nat)(hj:j≤s.length):Evt fun n=>fz (S.tab n) s t3 t4 ↑j o 2=
  some (bif de (get s (j+2))then Sum.inr (Sum.inl (s,t3,t4,(j:Int),o,()))else Sum.inl (t3,((j+2:Nat):Int),())):=by
 have e:i64.wrap ((j:Int)+2)=((j+2:Nat):Int):=by rw[wrap64 _ (by omega) (by omega)];omega
 have e3:i64.wrap ((2:Int)+1)=3:=(by decide)
 refine((PH (s:=s) t3 t4 o j).and aB).up fun n ⟨h,hb⟩=> ?_
 rw[jo,aj (by decide),e,e3,h,hb.look];simp only[VX,hb.shex,JN]
 cases de (get s (j+2))with
 |true=>rw[ay (by rfl)];rfl
 |false=>rw[aj (by rfl)];rfl
theorem Pw (t3 t4:aw.den)(o:LI)(j:Nat)(hj:j≤s.length):Evt fun n=>fz (S.tab n) s t3 t4 ↑j o 1=
  some (bif de (get s (j+1))then(bif de (get s (j+2))then Sum.inr (Sum.inl (s,t3,t4,(j:Int),o,()))else Sum.inl (t3,((j+2:Nat):Int),()))else Sum.inl (t3,((j+1:Nat):Int),())):=by
 have e:i64.wrap ((j:Int)+1)=((j+1:Nat):Int):=bf (by omega);have e3:i64.wrap ((1:Int)+1)=2:=(by decide)
 refine((Pn hs t3 t4 o j hj).and aB).up fun n ⟨h,hb⟩=> ?_
 rw[jo,aj (by decide),e,e3,h,hb.look];simp only[VX,hb.shex,JN]
 cases de (get s (j+1))with
 |true=>rw[ay (by rfl)];rfl
 |false=>rw[aj (by rfl)];rfl
def s8 (c:Int):Int:=bif decide (c=110)then 0 else bif decide (c=116)then 1 else bif decide (c=34)then 2 else bif decide (c=92)then 3 else -1
omit hs in
theorem Lh (c:Int)(h:isByte c):Bld.idx [110,116,34,92] (byte c) 0=s8 c:=by
 rw[C6 h];unfold s8;simp only[Bld.idx]
 by_cases h1:c=110
 ·subst h1;rfl
 by_cases h2:c=116
 ·subst h2;rfl
 by_cases h3:c=34
 ·subst h3;rfl
 by_cases h4:c=92
 ·subst h4;rfl
 have e1:=Ne.symm h1;have e2:=Ne.symm h2;have e3:=Ne.symm h3;have e4:=Ne.symm h4;simp[h1,h2,h3,h4,e1,e2,e3,e4]
omit hs in
theorem Jl (hb:∀c∈s,isByte c)(j:Nat):isByte (get s j):=by
 rcases Nat.lt_or_ge j s.length with h|h
 ·unfold get;rw[Wm,Wl h];exact hb _ (WO h)
 ·rw[fA h];exact⟨by decide,by decide⟩
omit hs in
theorem qK:Evt fun n=>∀c,isByte c→eH (S.tab n) [110,116,34,92] c=some (s8 c,jZ):=by
 have h1:Evt fun n=>∀c,isByte c→fv (S.tab n) [110,116,34,92] c=some (s8 c,jX):=aB.up fun n _ c hc=>by
  rw[jj];unfold Bld.oN;rw[VX,Lh c hc]
 exact h1.up fun n h c hc=>by
  rw[mu,h c hc];rfl
omit hs in
theorem GN (a b:Int)(ha:de a=true)(hb:de b=true):hv 0 [a,b]=fH a*16+fH b∧0≤fH a*16+fH b∧fH a*16+fH b<256:=by
 have:=nI ha;have:=nI hb;have:=pN a;have:=pN b;refine⟨?_,by omega,by omega⟩;show(0*16+fH a)*16+fH b=_;omega
omit hs in
theorem Al {j:Nat}(h:j+2≤s.length):bB s j (j+2)=[get s j,get s (j+1)]:=by
 rw[show j+2=j+1+1 from rfl,jS (by omega) (by omega),jS (by omega) (by omega),jA];rfl
theorem BH (K1:∀c∈s,isByte c)(i:Nat):∀(k j:Nat)(o:LI),s.length≤j+k→j≤s.length→o.length≤j→
  Evt fun n=>∃t' b,bu (S.tab n) s (4,(i:Int),0,0,0,([]:LI),()) o (j:Int)=some (Sum.inl (t',b,()))∧IR k4 (Kn i (eB s k j o)) t' b:=by
 intro k
 induction k with
 |zero=>
  intro j o hk hj ho
  refine aB.up fun n hb=> ?_
  show∃t' b,bu (S.step (S.tab n)) _ _ _ _=_∧_;rw[gr,aj (by simp only[V4];omega)]
  first|exact⟨_,_,rfl,rfl,rfl⟩|exact⟨_,_,rfl,rfl,rfl,rfl⟩
 |succ k ih=>
  intro j o hk hj ho;have w1:i64.wrap ((j:Int)+1)=((j+1:Nat):Int):=bf (by omega)
  have w2:i64.wrap ((j:Int)+2)=((j+2:Nat):Int):=by rw[wrap64 _ (by omega) (by omega)];omega
  have w4:i64.wrap ((j:Int)+4)=((j+4:Nat):Int):=by rw[wrap64 _ (by omega) (by omega)];omega
  have hf:∀x:Int,fits (o.length+[x].length)=true:=fun x=>dZ (by unfold lim;simp only[WW];omega)
  by_cases hl:s.length≤j
  ·have hR:eB s (k+1) j o= .inl j:=by unfold eB;rw[VY hl];rfl
   rw[hR]
   refine aB.up fun n hb=> ?_
   show∃t' b,bu (S.step (S.tab n)) _ _ _ _=_∧_;rw[gr,aj (by simp only[V4];omega)]
   first|exact⟨_,_,rfl,rfl,rfl⟩|exact⟨_,_,rfl,rfl,rfl,rfl⟩
  have Ik:j<s.length:=(by omega);have rI:=av Ik
  have DU:decide ((s.length:Int)≤(j:Int))=false:=by simp only[V8];omega
  by_cases c10:get s j=10
  ·have hR:eB s (k+1) j o= .inl j:=by unfold eB;rw[VW hl,VY c10];rfl
   rw[hR]
   refine aB.up fun n hb=> ?_
   show∃t' b,bu (S.step (S.tab n)) _ _ _ _=_∧_;rw[gr,ay DU,aj rI,aI,ak c10]
   first|exact⟨_,_,rfl,rfl,rfl⟩|exact⟨_,_,rfl,rfl,rfl,rfl⟩
  by_cases qS:get s j=34
  ·have hR:eB s (k+1) j o= .inr (j+1,o):=by unfold eB;rw[VW hl,VW c10,VY qS];rfl
   rw[hR]
   refine aB.up fun n hb=> ?_
   show∃t' b,bu (S.step (S.tab n)) _ _ _ _=_∧_;rw[gr,ay DU,aj rI,aI,ae c10,aj rI,ak qS,w1]
   first|exact⟨_,_,rfl,rfl,rfl⟩|exact⟨_,_,rfl,rfl,rfl,rfl⟩
  by_cases c92:¬ (get s j=92)
  ·have hR:eB s (k+1) j o=eB s k (j+1) (o++[get s j]):=by
    conv=>lhs;unfold eB
    rw[VW hl,VW c10,VW qS,VW c92];rfl
   rw[hR]
   refine(ih (j+1) (o++[get s j]) (by omega) (by omega) (by simp;omega)).up fun n h=> ?_
   show∃t' b,bu (S.step (S.tab n)) _ _ _ _=_∧_;rw[gr,ay DU,aj rI,aI,ae c10,aj rI,ae qS,aj rI,aj (by rw[VW c92];rfl),aj rI,aj (hf _),w1];exact h
  replace c92:=Decidable.not_not.1 c92
  have start:∀n,bu (S.step (S.tab n)) s (4,(i:Int),0,0,0,([]:LI),()) o (j:Int)=_:=fun n=>by
   rw[gr,ay DU,aj rI,aI,ae c10,aj rI,ae qS,aj rI,ay (by rw[VY c92];rfl),w1,w2]
  by_cases lO:¬ (j+1<s.length)
  ·have hR:eB s (k+1) j o= .inl (j+1):=by
    unfold eB;rw[VW hl,VW c10,VW qS,VY c92,fA (show s.length≤j+1 by omega)];rfl
   rw[hR]
   refine aB.up fun n hb=> ?_
   show∃t' b,bu (S.step (S.tab n)) _ _ _ _=_∧_;rw[start,aj (by simp only[V4];omega)]
   first|exact⟨_,_,rfl,rfl,rfl⟩|exact⟨_,_,rfl,rfl,rfl,rfl⟩
  replace lO:=Decidable.not_not.1 lO
  have Kp:=av lO
  have Kt:decide ((s.length:Int)≤((j+1:Nat):Int))=false:=by simp only[V8];omega
  have DO:=Jl K1 (j+1)
  have short:∀(x y:Int),get s (j+1)=x→s8 x≥0→(decide ((0:Int)≤s8 x)&&decide (s8 x<4))=true→([10,9,34,92]:LI).getD (s8 x).toNat 0=y→eB s (k+1) j o=eB s k (j+2) (o++[y])→
    Evt fun n=>∃t' b,bu (S.tab n) s (4,(i:Int),0,0,0,([]:LI),()) o (j:Int)=some (Sum.inl (t',b,()))∧IR k4 (Kn i (eB s (k+1) j o)) t' b:=fun x y hx h0 h4 hy hR=>by
   rw[hR]
   refine((ih (j+2) (o++[y]) (by omega) (by omega) (by simp;omega)).and qK).up fun n ⟨h,KW⟩=> ?_
   show∃t' b,bu (S.step (S.tab n)) _ _ _ _=_∧_;rw[start,ay Kt,aj Kp,aI,KW _ DO,hx];simp only[VX];rw[aj (by simpa using h0),aj h4,hy,aj (hf _)];exact h
  by_cases e110:get s (j+1)=110
  ·refine short 110 10 e110 (by decide) (by decide) (by decide) ?_
   conv=>lhs;unfold eB
   rw[VW hl,VW c10,VW qS,VY c92,e110];rfl
  by_cases e116:get s (j+1)=116
  ·refine short 116 9 e116 (by decide) (by decide) (by decide) ?_
   conv=>lhs;unfold eB
   rw[VW hl,VW c10,VW qS,VY c92,e116];rfl
  by_cases e34:get s (j+1)=34
  ·refine short 34 34 e34 (by decide) (by decide) (by decide) ?_
   conv=>lhs;unfold eB
   rw[VW hl,VW c10,VW qS,VY c92,e34];rfl
  by_cases e92:get s (j+1)=92
  ·refine short 92 92 e92 (by decide) (by decide) (by decide) ?_
   conv=>lhs;unfold eB
   rw[VW hl,VW c10,VW qS,VY c92,e92];rfl
  have tL:s8 (get s (j+1))= -1:=by
   unfold s8;rw[VW e110,VW e116,VW e34,VW e92];rfl
  by_cases e120:¬ (get s (j+1)=120)
  ·have hR:eB s (k+1) j o= .inl (j+1):=by
    unfold eB;rw[VW hl,VW c10,VW qS,VY c92,VW e110,VW e116,VW e34,VW e92,VW e120];rfl
   rw[hR]
   refine qK.up fun n KW=> ?_
   show∃t' b,bu (S.step (S.tab n)) _ _ _ _=_∧_;rw[start,ay Kt,aj Kp,aI,KW _ DO,tL];simp only[VX];rw[ay (by decide),aj Kp,aj (by rw[VW e120];rfl)]
   first|exact⟨_,_,rfl,rfl,rfl⟩|exact⟨_,_,rfl,rfl,rfl,rfl⟩
  replace e120:=Decidable.not_not.1 e120
  have hR:eB s (k+1) j o=bif !de (get s (j+2))then .inl (j+2)else bif !de (get s (j+3))then .inl (j+3)else eB s k (j+4) (o++[fH (get s (j+2))*16+fH (get s (j+3))]):=by
   conv=>lhs;unfold eB
   rw[VW hl,VW c10,VW qS,VY c92,e120];rfl
  have TC:=Pl hs (4,(i:Int),0,0,0,([]:LI),()) o j Ik
  have go:∀n,(∀c,isByte c→eH (S.tab n) [110,116,34,92] c=some (s8 c,jZ))→bu (S.step (S.tab n)) s (4,(i:Int),0,0,0,([]:LI),()) o (j:Int)=_:=fun n KW=>by
   rw[start,ay Kt,aj Kp,aI,KW _ DO,tL,VX,ay (by decide),aj Kp,ay (by rw[VY e120];rfl)]
  rw[hR]
  cases x2:de (get s (j+2))with
  |false=>
   refine(TC.and qK).up fun n ⟨h,KW⟩=> ?_
   show∃t' b,bu (S.step (S.tab n)) _ _ _ _=_∧_;rw[go n KW,h,x2]
   first|exact⟨_,_,rfl,rfl,rfl⟩|exact⟨_,_,rfl,rfl,rfl,rfl⟩
  |true=>
   cases x3:de (get s (j+3))with
   |false=>
    refine(TC.and qK).up fun n ⟨h,KW⟩=> ?_
    show∃t' b,bu (S.step (S.tab n)) _ _ _ _=_∧_;rw[go n KW,h,x2,x3]
    first|exact⟨_,_,rfl,rfl,rfl⟩|exact⟨_,_,rfl,rfl,rfl,rfl⟩
   |true=>
    have Tw:=xi x3;obtain⟨Tg,Ip,hp1⟩:=GN _ _ x2 x3
    have OY:=vM [get s (j+2),get s (j+3)] 8 (.inl ⟨rfl,by simp⟩) (by simp) (by
     intro c hc
     rcases WE.1 hc with rfl|hc
     ·exact x2
     ·have:c=get s (j+3):=(by simpa using hc)
      rw[this];exact x3)
    rw[Tg]at OY;have h2:=ih (j+4) (o++[fH (get s (j+2))*16+fH (get s (j+3))]) (by omega) (by omega) (by simp;omega)
    refine(((TC.and qK).and OY).and h2).up fun n ⟨⟨⟨h,KW⟩,OY⟩,h2⟩=> ?_
    show∃t' b,bu (S.step (S.tab n)) _ _ _ _=_∧_;rw[go n KW,h,x2,x3];simp only[Wg,VX,bC,Wx,Wn,w2,w4];rw[aj (b9 (by omega) (by omega)),nH,Al (s:=s) (j:=j+2) (by omega),OY];simp only[VX];rw[rP _ Ip hp1,aj (hf _)];exact h2
end Go.Abs.D
end

section
namespace Go.Abs.D
def LR (r:Nat⊕aw.den)(y:(aw.den×Int×Unit)⊕(aw.den×aw.den×Int×Unit)⊕Empty):Prop:=
 y.elim (fun y=>SR k4 r y.1 y.2.1) fun y=>y.elim (fun y=>SR k4 r y.1 y.2.2.1) Empty.elim
variable{s:LI}(hs:s.length≤2097152)
include hs
theorem zI (t3 t4:aw.den)(j:Nat)(o:LI)(c:Int)(hj:j<s.length)(ho:o.length≤j):Evt fun n=>eG (S.tab n) s t3 t4 ↑j o c true=some (Sum.inl (s,t3,t4,(j:Int),o++[get s j],())):=by
 refine aB.up fun n hb=> ?_
 rw[jn,aj rfl,aj (av hj),aI,aj (dZ (by unfold lim;simp only[WW];omega))]
omit hs in
theorem C0 (t3 t4:aw.den)(j:Nat)(o:LI)(c:Int)(hc:c≠120):Evt fun n=>eG (S.tab n) s t3 t4 ↑j o c false=some (Sum.inr (Sum.inl (t3,(j:Int),()))):=by
 refine aB.up fun n hb=> ?_
 rw[jn,ay rfl,ae hc]
theorem FO (t3 t4:aw.den)(j:Nat)(o:LI)(hj:j≤s.length)(ho:o.length≤j):Evt fun n=>eG (S.tab n) s t3 t4 ↑j o 120 false=
  some (bif de (get s (j+1))then(bif de (get s (j+2))then Sum.inl (s,t3,t4,((j+2:Nat):Int),o++[fH (get s (j+1))*16+fH (get s (j+2))],())else Sum.inr (Sum.inl (t3,((j+2:Nat):Int),())))else Sum.inr (Sum.inl (t3,((j+1:Nat):Int),()))):=by
 have w1:i64.wrap ((j:Int)+1)=((j+1:Nat):Int):=bf (by omega)
 have w2:i64.wrap ((j:Int)+2)=((j+2:Nat):Int):=by rw[wrap64 _ (by omega) (by omega)];omega
 refine((Pw hs t3 t4 o j hj).and aB).up fun n ⟨h,hb⟩=> ?_
 rw[jn,ay rfl,aj (by rfl),h]
 cases x1:de (get s (j+1))with
 |false=>rfl
 |true=>
  cases x2:de (get s (j+2))with
  |false=>rfl
  |true=>
   have K5:=xi x2;obtain⟨_,Ip,hp1⟩:=GN _ _ x1 x2;have h0:=nI x1;have MW:=nI x2;have h1:=pN (get s (j+1));have KJ:=pN (get s (j+2));have e1:i64.wrap (16*fH (get s (j+1)))=16*fH (get s (j+1)):=wrap64 _ (by omega) (by omega)
   have e2:i64.wrap (16*fH (get s (j+1))+fH (get s (j+2)))=fH (get s (j+1))*16+fH (get s (j+2)):=by rw[wrap64 _ (by omega) (by omega)];omega
   simp only[Wg,VX,bC,Wx,Wn,w1,w2];rw[aj (av (show j+1<s.length by omega)),aI,hb.shex,VX,aj (av K5),aI,hb.shex,VX];simp only[e1,e2];rw[rP _ Ip hp1,aj (dZ (by unfold lim;simp only[WW];omega))]
theorem BA (t4:aw.den)(i:Nat):∀(k j:Nat)(o:LI),s.length≤j+k→j≤s.length→o.length≤j→
  Evt fun n=>∃y,aM (S.tab n) s (4,(i:Int),0,0,0,([]:LI),()) t4 ↑j o=some y∧LR (Kn i (eB s k j o)) y:=by
 intro k
 induction k with
 |zero=>
  intro j o hk hj ho
  refine aB.up fun n hb=> ?_
  show∃y,aM (S.step (S.tab n)) _ _ _ _ _=_∧_;rw[eN,ay (by simp only[V8];omega)]
  first|exact⟨_,rfl,rfl,rfl⟩|exact⟨_,rfl,rfl⟩
 |succ k ih=>
  intro j o hk hj ho;have w1:i64.wrap ((j:Int)+1)=((j+1:Nat):Int):=bf (by omega)
  have w2:i64.wrap (((j+1:Nat):Int)+1)=((j+2:Nat):Int):=by rw[wrap64 _ (by omega) (by omega)];omega
  have w4:i64.wrap (((j+1+2:Nat):Int)+1)=((j+4:Nat):Int):=by rw[wrap64 _ (by omega) (by omega)];omega
  have hf:∀x:Int,fits (o.length+[x].length)=true:=fun x=>dZ (by unfold lim;simp only[WW];omega)
  have Rb:fits (o.length+1)=true:=dZ (by unfold lim;omega)
  by_cases hl:s.length≤j
  ·have hR:eB s (k+1) j o= .inl j:=by unfold eB;rw[VY hl];rfl
   rw[hR]
   refine aB.up fun n hb=> ?_
   show∃y,aM (S.step (S.tab n)) _ _ _ _ _=_∧_;rw[eN,ay (by simp only[V8];omega)]
   first|exact⟨_,rfl,rfl,rfl⟩|exact⟨_,rfl,rfl⟩
  have Ik:j<s.length:=(by omega);have rI:=av Ik
  have fP:decide ((j:Int)<(s.length:Int))=true:=by simp only[V4];omega
  by_cases c10:get s j=10
  ·have hR:eB s (k+1) j o= .inl j:=by unfold eB;rw[VW hl,VY c10];rfl
   rw[hR]
   refine aB.up fun n hb=> ?_
   show∃y,aM (S.step (S.tab n)) _ _ _ _ _=_∧_;rw[eN,aj fP,aj rI,aI,ae (by omega),ak c10]
   first|exact⟨_,rfl,rfl,rfl⟩|exact⟨_,rfl,rfl⟩
  by_cases qS:get s j=34
  ·have hR:eB s (k+1) j o= .inr (j+1,o):=by unfold eB;rw[VW hl,VW c10,VY qS];rfl
   rw[hR]
   refine aB.up fun n hb=> ?_
   show∃y,aM (S.step (S.tab n)) _ _ _ _ _=_∧_;rw[eN,aj fP,aj rI,aI,ak qS,w1]
   first|exact⟨_,rfl,rfl,rfl⟩|exact⟨_,rfl,rfl⟩
  by_cases c92:¬ (get s j=92)
  ·have hR:eB s (k+1) j o=eB s k (j+1) (o++[get s j]):=by
    conv=>lhs;unfold eB
    rw[VW hl,VW c10,VW qS,VW c92];rfl
   rw[hR]
   refine(ih (j+1) (o++[get s j]) (by omega) (by omega) (by simp;omega)).up fun n h=> ?_
   show∃y,aM (S.step (S.tab n)) _ _ _ _ _=_∧_;rw[eN,aj fP,aj rI,aI,ae qS,ae c10,aj (by rw[VW c92];rfl),aj (hf _),w1];exact h
  replace c92:=Decidable.not_not.1 c92
  have start:∀n,Base2 (S.tab n)→aM (S.step (S.tab n)) s (4,(i:Int),0,0,0,([]:LI),()) t4 ↑j o=_:=fun n hb=>by
   rw[eN,aj fP,aj rI,aI,ae qS,ae c10,ay (by rw[VY c92];rfl),w1,w2,hb.look,VX]
  by_cases e110:get s (j+1)=110
  ·have lO:=ig e110 (by decide)
   have hR:eB s (k+1) j o=eB s k (j+2) (o++[10]):=by
    conv=>lhs;unfold eB
    rw[VW hl,VW c10,VW qS,VY c92,e110];rfl
   rw[hR]
   refine((ih (j+2) (o++[10]) (by omega) (by omega) (by simp;omega)).and aB).up fun n ⟨h,hb⟩=> ?_
   show∃y,aM (S.step (S.tab n)) _ _ _ _ _=_∧_;rw[start n hb,ak e110,aj Rb];exact h
  by_cases e116:get s (j+1)=116
  ·have lO:=ig e116 (by decide)
   have hR:eB s (k+1) j o=eB s k (j+2) (o++[9]):=by
    conv=>lhs;unfold eB
    rw[VW hl,VW c10,VW qS,VY c92,e116];rfl
   rw[hR]
   refine((ih (j+2) (o++[9]) (by omega) (by omega) (by simp;omega)).and aB).up fun n ⟨h,hb⟩=> ?_
   show∃y,aM (S.step (S.tab n)) _ _ _ _ _=_∧_;rw[start n hb,ae e110,ak e116,aj Rb];exact h
  by_cases e34:get s (j+1)=34
  ·have lO:=ig e34 (by decide)
   have hR:eB s (k+1) j o=eB s k (j+2) (o++[34]):=by
    conv=>lhs;unfold eB
    rw[VW hl,VW c10,VW qS,VY c92,e34];rfl
   rw[hR];have r8:=zI hs (4,(i:Int),0,0,0,([]:LI),()) t4 (j+1) o (get s (j+1)) lO (by omega)
   refine(((ih (j+2) (o++[34]) (by omega) (by omega) (by simp;omega)).and aB).and r8).up fun n ⟨⟨h,hb⟩,r8⟩=> ?_
   show∃y,aM (S.step (S.tab n)) _ _ _ _ _=_∧_;rw[start n hb,ae e110,ae e116,ak e34];simp only;rw[VY e34,r8,e34];simp only[VX,bC,Wn,w2];exact h
  by_cases e92:get s (j+1)=92
  ·have lO:=ig e92 (by decide)
   have hR:eB s (k+1) j o=eB s k (j+2) (o++[92]):=by
    conv=>lhs;unfold eB
    rw[VW hl,VW c10,VW qS,VY c92,e92];rfl
   rw[hR];have r8:=zI hs (4,(i:Int),0,0,0,([]:LI),()) t4 (j+1) o (get s (j+1)) lO (by omega)
   refine(((ih (j+2) (o++[92]) (by omega) (by omega) (by simp;omega)).and aB).and r8).up fun n ⟨⟨h,hb⟩,r8⟩=> ?_
   show∃y,aM (S.step (S.tab n)) _ _ _ _ _=_∧_;rw[start n hb,ae e110,ae e116,ae e34];simp only;rw[VY e92,r8,e92];simp only[VX,bC,Wn,w2];exact h
  by_cases e120:¬ (get s (j+1)=120)
  ·have hR:eB s (k+1) j o= .inl (j+1):=by
    unfold eB;rw[VW hl,VW c10,VW qS,VY c92,VW e110,VW e116,VW e34,VW e92,VW e120];rfl
   rw[hR];have r8:=C0 (s:=s) (4,(i:Int),0,0,0,([]:LI),()) t4 (j+1) o (get s (j+1)) e120
   refine(aB.and r8).up fun n ⟨hb,r8⟩=> ?_
   show∃y,aM (S.step (S.tab n)) _ _ _ _ _=_∧_;rw[start n hb,ae e110,ae e116,ae e34];simp only;rw[VW e92,r8]
   first|exact⟨_,rfl,rfl,rfl⟩|exact⟨_,rfl,rfl⟩
  replace e120:=Decidable.not_not.1 e120
  have lO:=ig e120 (by decide)
  have hR:eB s (k+1) j o=bif !de (get s (j+2))then .inl (j+2)else bif !de (get s (j+3))then .inl (j+3)else eB s k (j+4) (o++[fH (get s (j+2))*16+fH (get s (j+3))]):=by
   conv=>lhs;unfold eB
   rw[VW hl,VW c10,VW qS,VY c92,e120];rfl
  rw[hR];have r8:=FO hs (4,(i:Int),0,0,0,([]:LI),()) t4 (j+1) o (by omega) (by omega);have SZ:j+1+1=j+2:=rfl;have UF:j+1+2=j+3:=rfl;rw[SZ,UF]at r8
  have go:∀n,Base2 (S.tab n)→aM (S.step (S.tab n)) s (4,(i:Int),0,0,0,([]:LI),()) t4 ↑j o=(eG (S.tab n) s (4,(i:Int),0,0,0,([]:LI),()) t4 ((j+1:Nat):Int) o 120 false).bind (bC (fun A8=>aM (S.tab n) A8.1 A8.2.1 A8.2.2.1 (i64.wrap (A8.2.2.2.1+(1:Int))) A8.2.2.2.2.1) (fun A8=>some (Sum.inl A8))):=fun n hb=>by
   rw[start n hb,ae e110,ae e116,ae e34];simp only;rw[VW e92,e120]
  cases x2:de (get s (j+2))with
  |false=>
   refine(r8.and aB).up fun n ⟨h,hb⟩=> ?_
   show∃y,aM (S.step (S.tab n)) _ _ _ _ _=_∧_;rw[go n hb,h,x2]
   first|exact⟨_,rfl,rfl,rfl⟩|exact⟨_,rfl,rfl⟩
  |true=>
   cases x3:de (get s (j+3))with
   |false=>
    refine(r8.and aB).up fun n ⟨h,hb⟩=> ?_
    show∃y,aM (S.step (S.tab n)) _ _ _ _ _=_∧_;rw[go n hb,h,x2,x3]
    first|exact⟨_,rfl,rfl,rfl⟩|exact⟨_,rfl,rfl⟩
   |true=>
    have Tw:=xi x3;have h2:=ih (j+4) (o++[fH (get s (j+2))*16+fH (get s (j+3))]) (by omega) (by omega) (by simp;omega)
    refine((r8.and aB).and h2).up fun n ⟨⟨h,hb⟩,h2⟩=> ?_
    show∃y,aM (S.step (S.tab n)) _ _ _ _ _=_∧_;rw[go n hb,h,x2,x3];have w5:i64.wrap (((j+3:Nat):Int)+1)=((j+4:Nat):Int):=w4;simp only[Wg,VX,bC,Wn,w5];exact h2
theorem wU {i:Nat}(hi:i<s.length):Evt fun n=>∃t' b,mi (S.tab n) s (0,(i:Int),0,0,0,([]:LI),())=some ((t',b,()),mS)∧SR k4 (JX s i) t' b:=by
 have e1:i64.wrap ((i:Int)+1)=((i+1:Nat):Int):=bf (by omega)
 refine(BA hs (0,0,0,0,0,([]:LI),()) i s.length (i+1) [] (by omega) (by omega) (by simp)).up fun n ⟨y,h,hr⟩=> ?_
 show∃t' b,mi (S.step (S.tab n)) _ _=_∧_;rw[w9];simp only[e1];rw[h,VX]
 rcases y with y|y|y
 ·exact⟨y.1,y.2.1,rfl,hr⟩
 ·exact⟨y.1,y.2.2.1,rfl,hr⟩
 ·exact y.elim
end Go.Abs.D
end

section
namespace Go.Abs.D
def aS:List LI:=[[46,46,46],[46,46],[46],[60,60],[60,61],[60],[62,62],[62,61],[62],[61,61],[61],[126,61],[126],[47,47],[47],[40],[41],[123],[125],[91],[93],[44],[59],[35],[43],[45],[42],[37],[38],[124]]
def opsL:List LI:=[[],[43],[45],[42],[47],[47,47],[37],[38],[124],[126],[60,60],[62,62],[46,46],[61,61],[126,61],[60],[60,61],[62],[62,61]]
def fx (k:Nat):LI:=
 bif decide (10≤k)&&decide (k≤31)then Lx.words.getD (k - 10) []else
 bif decide (40≤k)&&decide (k≤50)then Lx.jE.getD (k - 40) []else
 bif decide (61≤k)&&decide (k≤78)then Lx.ry.getD (k - 61) []else
 bif decide (k=5)then [59]else []
def okF (f:LI):Bool:= !decide (f=[])&& !fM (f.getD 0 0)
def runK (p:LI→Bool):Nat→Nat×Nat→Nat×Nat
 |0,st=>st
 |k+1,st=>runK p k (bif okF (fx (k+1))&&p (fx (k+1))&&decide (st.2<(fx (k+1)).length)then(k+1,(fx (k+1)).length)else st)
def sq (l:List LI)(f:LI)(k:Nat):Bool:=decide (k<l.length)&& !decide (l.getD k []=f)
def sgn (f:LI):Nat:=
 bif decide (stop (sq opsL f) 19 1<19)then 60+stop (sq opsL f) 19 1 else
 bif decide (stop (sq Lx.jE f) 11 0<11)then 40+stop (sq Lx.jE f) 11 0 else 5
def pq (p:LI→Bool)(k:Nat):Bool:=decide (k<30)&& !p (aS.getD k [])
def oX (p:LI→Bool):Nat:=stop (pq p) 30 0
def kF (p:LI→Bool):Nat×Nat:=bif decide (oX p<30)then(sgn (aS.getD (oX p) []),(aS.getD (oX p) []).length)else(0,0)
def DL (a b c:Int):LI→Bool
 |[x]=>decide (a=x)
 |[x,y]=>decide (a=x)&&decide (b=y)
 |[x,y,z]=>decide (a=x)&&decide (b=y)&&decide (c=z)
 |_=>false
def rep (l:LI)(a:Int):Int:=bif l.contains a then a else 0
def lA:LI:=[46,60,62,61,126,47,40,41,123,125,91,93,44,59,35,43,45,42,37,38,124]
def lB:LI:=[46,60,61,62,47]
def lC:LI:=[46]
theorem Dk (l:LI)(a:Int):rep l a∈0::l:=by
 unfold rep
 cases h:l.contains a with
 |true=>exact Wj _ (by simpa using h)
 |false=>exact Wk ..
theorem F5 (l:LI)(a x:Int)(hx:l.contains x=true)(h0:x≠0):decide (rep l a=x)=decide (a=x):=by
 unfold rep
 cases h:l.contains a with
 |true=>rfl
 |false=>
  have:a≠x:=fun e=>by rw[e,hx]at h;cases h
  rw[VW this,Wb,VW (fun e=>h0 e.symm)]
theorem uR {p q:LI→Bool}:∀(k:Nat)(st:Nat×Nat),(∀j,j≤k→okF (fx j)=true→p (fx j)=q (fx j))→runK p k st=runK q k st
 |0,st,_=>rfl
 |k+1,st,h=>by
  unfold runK
  have:(okF (fx (k+1))&&p (fx (k+1)))=(okF (fx (k+1))&&q (fx (k+1))):=by
   cases ho:okF (fx (k+1))with
   |true=>rw[h (k+1) (Wp _) ho]
   |false=>rfl
  rw[this]
  exact uR k _ fun j hj=>h j (by omega)
theorem FP {p q:Nat→Bool}(h:∀j,p j=q j)(k j:Nat):stop p k j=stop q k j:=by
 have:p=q:=funext h;rw[this]
theorem vJ {p q:LI→Bool}(h:∀f∈aS,p f=q f):kF p=kF q:=by
 have e:∀j,pq p j=pq q j:=fun j=>by
  unfold pq
  by_cases hj:j<30
  ·rw[h];rw[Wm,Wl (show j<aS.length from hj)];exact WO _
  ·rw[VW hj];rfl
 have:oX p=oX q:=FP e 30 0;unfold kF;rw[this]
theorem Mr:∀j,j≤78→okF (fx j)=true→fx j∈aS:=by
 have h:∀j:Fin 79,okF (fx j)=true→fx j∈aS:=by decide+kernel
 exact fun j hj=>h ⟨j,by omega⟩
theorem EB (a b c:Int):∀f∈aS,DL a b c f=DL (rep lA a) (rep lB b) (rep lC c) f:=by
 intro f hf;simp only[aS,WE,List.not_mem_nil,or_false]at hf
 rcases hf with rfl|rfl|rfl|rfl|rfl|rfl|rfl|rfl|rfl|rfl|rfl|rfl|rfl|rfl|rfl|rfl|rfl|rfl|rfl|rfl|rfl|rfl|rfl|rfl|rfl|rfl|rfl|rfl|rfl|rfl<;>
  simp only[DL]<;>(first|rw[F5 lA a _ (by rfl) (by decide)]|skip)<;>(first|rw[F5 lB b _ (by rfl) (by decide)]|skip)<;>(first|rw[F5 lC c _ (by rfl) (by decide)]|skip)
theorem HF (a b c:Int):runK (DL a b c) 78 (0,0)=kF (DL a b c):=by
 have h:∀x∈(0::lA),∀y∈(0::lB),∀z∈(0::lC),runK (DL x y z) 78 (0,0)=kF (DL x y z):=by decide+kernel
 rw[uR (q:=DL (rep lA a) (rep lB b) (rep lC c)) 78 (0,0) fun j hj ho=>EB a b c _ (Mr j hj ho),vJ (EB a b c)];exact h _ (Dk ..) _ (Dk ..) _ (Dk ..)
end Go.Abs.D
end

section
namespace Go.Abs.D
def pS (s:LI)(i:Nat)(f:LI):Bool:=decide (f.length≤s.length - i)&&decide (bB s i (i+f.length)=f)
def p3 (s:LI)(i:Nat):LI→Bool:=DL (get s i) (get s (i+1)) (get s (i+2))
theorem AW:Evt fun n=>∀v lo hi,je (S.tab n) v lo hi=some (decide (lo≤v)&&decide (v≤hi),qE):=aB.up fun n _ v lo hi=>by
 rw[FM]
 cases h:decide (lo≤v)with
 |true=>rw[aj rfl];rfl
 |false=>rw[ay rfl];rfl
theorem ES:Evt fun n=>∀k:Nat,k≤78→kE (S.tab n) (k:Int)=some (fx k,iz):=AW.up fun n h k hk=>by
 rw[uv,h,VX];unfold fx
 by_cases h1:10≤k∧k≤31
 ·have e:i64.wrap ((k:Int) - 10)=((k - 10:Nat):Int):=by rw[wrap64 _ (by omega) (by omega)];omega
  rw[aj (by simp only[V6,V4];omega),e,aj (av (show k - 10<Lx.words.length by show k - 10<22;omega)),VY h1.1,VY h1.2];rfl
 rw[ay (by simp only[WR,V8];omega),h,VX];rw[show(decide (10≤k)&&decide (k≤31))=false by simp only[WR,V8];omega]
 by_cases h2:40≤k∧k≤50
 ·have e:i64.wrap ((k:Int) - 40)=((k - 40:Nat):Int):=by rw[wrap64 _ (by omega) (by omega)];omega
  rw[aj (by simp only[V6,V4];omega),e,aj (av (show k - 40<Lx.jE.length by show k - 40<11;omega)),VY h2.1,VY h2.2];rfl
 rw[ay (by simp only[WR,V8];omega),h,VX];rw[show(decide (40≤k)&&decide (k≤50))=false by simp only[WR,V8];omega]
 by_cases h3:61≤k∧k≤78
 ·have e:i64.wrap ((k:Int) - 60)=((k - 60:Nat):Int):=by rw[wrap64 _ (by omega) (by omega)];omega
  have e':i64.wrap (((k - 60:Nat):Int) - 1)=((k - 61:Nat):Int):=by rw[wrap64 _ (by omega) (by omega)];omega
  rw[aj (by simp only[V6,V4];omega),e,e',aj (av (show k - 61<Lx.ry.length by show k - 61<18;omega)),VY h3.1,VY h3.2];rfl
 rw[ay (by simp only[WR,V8];omega)];rw[show(decide (61≤k)&&decide (k≤78))=false by simp only[WR,V8];omega]
 by_cases h5:k=5
 ·subst h5;rw[aj (by rfl)];rfl
 ·rw[ay (by simp only[V8];omega),VW h5];rfl
theorem Px (f:LI):∀j:Nat,1≤j→j≤19→Evt fun n=>dB (S.tab n) f opsL (j:Int)=some (bif decide (stop (sq opsL f) 19 j<19)then Sum.inl (((60+stop (sq opsL f) 19 j:Nat):Int),())else Sum.inr (Sum.inl (f,()))):=fun j h1 hj=>
 adv (F:=fun T (j:Nat)=>dB T f opsL ↑j) (out:=fun j=>bif decide (j<19)then Sum.inl (((60+j:Nat):Int),())else Sum.inr (Sum.inl (f,()))) (N:=19) aB (fun j h=>by simp[sq,opsL];omega)
  (fun T j _ hq=>by
   simp only[sq,V6,V4,WV,V8]at hq;have OX:j<19:=hq.1;show dB (S.step T) f opsL j=dB T f opsL ((j+1:Nat):Int)
   rw[pf,aj (by simp only[V4];omega),aj (av hq.1),ae (show¬ List.getD _ (j:Int).toNat []=f from hq.2),bf (by omega)])
  (fun T j _ hq=>by
   simp only[sq,WR,V8,Bool.not_eq_false',V4]at hq;show dB (S.step T) f opsL j=_;rw[pf]
   by_cases hj:j<opsL.length
   ·have OX:j<19:=hj
    have he:opsL.getD (j:Int).toNat []=f:=by
     rcases hq with hq|hq
     ·exact absurd hj hq
     ·exact hq
    rw[aj (by simp only[V4];omega),aj (av hj),ak he,wrap64 _ (by omega) (by omega),VY OX];simp only[Wg]
    congr 2
   ·have OX:¬ j<19:=hj
    rw[ay (by simp only[V8];omega),VW OX];rfl) 19 j (by omega)
theorem Ps (f:LI):Evt fun n=>eI (S.tab n) f Lx.jE 11 0=some (bif decide (stop (sq Lx.jE f) 11 0<11)then Sum.inl (((40+stop (sq Lx.jE f) 11 0:Nat):Int),())else Sum.inr (Sum.inl ())):=
 adv (F:=fun T (j:Nat)=>eI T f Lx.jE 11 ↑j) (out:=fun j=>bif decide (j<11)then Sum.inl (((40+j:Nat):Int),())else Sum.inr (Sum.inl ())) (N:=11) aB (fun j h=>by simp[sq,Lx.jE];omega)
  (fun T j _ hq=>by
   simp only[sq,V6,V4,WV,V8]at hq;have nQ:j<11:=hq.1;show eI (S.step T) f Lx.jE 11 j=eI T f Lx.jE 11 ((j+1:Nat):Int)
   rw[pA,aj (by simp only[V4];omega),aj (av hq.1),ae (show¬ List.getD _ (j:Int).toNat []=f from hq.2),bf (by omega)])
  (fun T j _ hq=>by
   simp only[sq,WR,V8,Bool.not_eq_false',V4]at hq;show eI (S.step T) f Lx.jE 11 j=_;rw[pA]
   by_cases hj:j<Lx.jE.length
   ·have nQ:j<11:=hj
    have he:Lx.jE.getD (j:Int).toNat []=f:=by
     rcases hq with hq|hq
     ·exact absurd hj hq
     ·exact hq
    rw[aj (by simp only[V4];omega),aj (av hj),ak he,wrap64 _ (by omega) (by omega),VY nQ];simp only[Wg]
    congr 2
   ·have nQ:¬ j<11:=hj
    rw[ay (by simp only[V8];omega),VW nQ];rfl) 11 0 (by omega)
theorem sign_one (f:LI):Evt fun n=>gM (S.tab n) f=some ((sgn f:Int),fT):=by
 refine((Px f 1 (by omega) (by omega)).and (Ps f)).up fun n ⟨h3,h9⟩=> ?_
 rw[zz];have h3:dB (S.tab n) f opsL 1=_:=h3;show(dB (S.tab n) f opsL 1).bind _=_;rw[h3,VX];unfold sgn
 cases decide (stop (sq opsL f) 19 1<19)with
 |true=>rfl
 |false=>
  show(eI (S.tab n) f Lx.jE 11 0).bind _=_;rw[h9,VX]
  cases decide (stop (sq Lx.jE f) 11 0<11)with
  |true=>rfl
  |false=>rfl
theorem yI {α:Type}{P:α→Nat→Prop}:∀(l:List α),(∀a,Evt fun n=>P a n)→Evt fun n=>∀a∈l,P a n
 |[],_=>Evt.of fun _ a h=>by cases h
 |x::l,h=>((h x).and (yI l h)).mono fun n ⟨h1,h2⟩ a ha=>by
  rcases WE.1 ha with rfl|ha
  ·exact h1
  ·exact h2 a ha
theorem GB (f:LI):sgn f≠0:=by
 unfold sgn
 cases h1:decide (stop (sq opsL f) 19 1<19)with
 |true=>rw[Wg];omega
 |false=>
  cases h2:decide (stop (sq Lx.jE f) 11 0<11)with
  |true=>rw[Wb,Wg];omega
  |false=>rw[Wb,Wb];omega
theorem EI:Evt fun n=>jP (S.tab n)=some (aS,sw):=aB.up fun n _=>by
 rw[yt];rfl
variable{s:LI}(hs:s.length≤2097152)
include hs
omit hs in
theorem sub_one {i:Nat}(h:i+1≤s.length):bB s i (i+1)=[get s i]:=by rw[jS (by omega) (by omega),jA];rfl
omit hs in
theorem H3 {i:Nat}(h:i+3≤s.length):bB s i (i+3)=[get s i,get s (i+1),get s (i+2)]:=by
 rw[show i+3=i+2+1 from rfl,jS (by omega) (by omega),Al (s:=s) (by omega)];rfl
omit hs in
theorem Mw {i:Nat}(hi:i<s.length):∀f∈aS,pS s i f=p3 s i f:=by
 have h1:∀x:Int,x≠0→pS s i [x]=decide (get s i=x):=fun x h0=>by
  unfold pS;rw[show([x]:LI).length=1 from rfl,sub_one (s:=s) (by omega),VY (by omega),V9];simp
 have h2:∀x y:Int,x≠0→y≠0→pS s i [x,y]=(decide (get s i=x)&&decide (get s (i+1)=y)):=fun x y h0 MW=>by
  unfold pS;rw[show([x,y]:LI).length=2 from rfl]
  by_cases h:2≤s.length - i
  ·rw[Al (s:=s) (by omega),VY h,V9];simp
  ·rw[VW h,fA (show s.length≤i+1 by omega),show decide ((0:Int)=y)=false from VW (fun e=>MW e.symm),Wa];rfl
 have h3:∀x y z:Int,x≠0→y≠0→z≠0→pS s i [x,y,z]=(decide (get s i=x)&&decide (get s (i+1)=y)&&decide (get s (i+2)=z)):=fun x y z h0 MW TI=>by
  unfold pS;rw[show([x,y,z]:LI).length=3 from rfl]
  by_cases h:3≤s.length - i
  ·rw[H3 (s:=s) (by omega),VY h,V9];simp[Bool.and_assoc]
  ·rw[VW h,fA (show s.length≤i+2 by omega),show decide ((0:Int)=z)=false from VW (fun e=>TI e.symm),Wa];rfl
 intro f hf;simp only[aS,WE,List.not_mem_nil,or_false]at hf;unfold p3
 rcases hf with rfl|rfl|rfl|rfl|rfl|rfl|rfl|rfl|rfl|rfl|rfl|rfl|rfl|rfl|rfl|rfl|rfl|rfl|rfl|rfl|rfl|rfl|rfl|rfl|rfl|rfl|rfl|rfl|rfl|rfl<;>
  first
  |exact h1 _ (by decide)
  |exact h2 _ _ (by decide) (by decide)
  |exact h3 _ _ _ (by decide) (by decide) (by decide)
def N4 (i:Nat)(st:Nat×Nat):aw.den:=((st.1:Int),(i:Int),((bif decide (st.1=0)then 0 else i+st.2:Nat):Int),0,0,([]:LI),())
def AV (i:Nat)(st:Nat×Nat):Nat⊕aw.den:=bif decide (st.1=0)then .inl i else .inr ((st.1:Int),(i:Int),((i+st.2:Nat):Int),0,0,([]:LI),())
omit hs in
theorem Ib (hs:s.length≤2097152){i:Nat}(hi:i<s.length):Evt fun n=>∀f:LI,strings_HasPrefix (S.tab n) (sub s ↑i (s.length:Int)) f=some (pS s i f,nj):=by
 have e:sub s ↑i (s.length:Int)=s.drop i:=by
  rw[nH];unfold bB;rw[List.take_length]
 have h1:Evt fun n=>∀f:LI,hD (S.tab n) (s.drop i) f=some (pS s i f,gm):=aB.up fun n _ f=>by
  rw[nS];unfold pS
  by_cases h:f.length≤s.length - i
  ·have e2:sub (s.drop i) (0:Int) (f.length:Int)=bB s i (i+f.length):=by
    show((s.drop i).take f.length).drop 0=_;unfold bB;rw[List.drop_zero,List.take_drop]
   rw[aj (by simp only[V4,WN];omega),aj (show bounds (s.drop i).length (0:Int) (f.length:Int)=true from b9 (i:=0) (by omega) (by rw[WN];omega)),e2,VY h,V9]
  ·rw[ay (by simp only[V8,WN];omega),VW h];rfl
 rw[e]
 exact h1.up fun n h f=>by
  rw[sh,h];rfl
theorem J1 {i:Nat}(hi:i<s.length):∀(k:Nat)(st:Nat×Nat),k≤78→Evt fun n=>fL (S.tab n) s ↑i (N4 i st) (st.2:Int) (k:Int)=some (Sum.inl ((i:Int),N4 i (runK (pS s i) k st),()))
 |0,st,_=>aB.up fun n _=>by
  rw[rO,ay (by decide)];rfl
 |k+1,st,hk=>by
  have ih:=fun st=>J1 hi k st (by omega)
  refine((((ih st).and (ih (k+1,(fx (k+1)).length))).and ES).and ((Ib hs hi).and aB)).up fun n ⟨⟨⟨M7,QS⟩,hf⟩,hp,hb⟩=> ?_
  have w:i64.wrap (((k+1:Nat):Int) - 1)=(k:Int):=by rw[wrap64 _ (by omega) (by omega)];omega
  rw[rO,aj (by simp only[V4];omega),hf (k+1) (by omega),VX,w];unfold runK;unfold okF
  by_cases nL:fx (k+1)=[]
  ·rw[ay (by rw[VY nL];rfl),VY nL];exact M7
  rw[aj (by rw[VW nL];rfl),VW nL];have hlen:0<(fx (k+1)).length:=List.length_pos_iff.2 nL;rw[aj (by simp only[V4];omega),hb.iletter,VX]
  cases fP:fM ((fx (k+1)).getD 0 0)with
  |true=>
   rw[ay (by rfl)];exact M7
  |false=>
   rw[aj (by rfl),aj (b9 (by omega) (Wp _)),hp,VX]
   cases SU:pS s i (fx (k+1))with
   |false=>
    rw[ay (by rfl)];exact M7
   |true=>
    rw[aj (by rfl)]
    have hle:(fx (k+1)).length≤s.length - i:=by
     unfold pS at SU;simp only[V6,V4]at SU;exact SU.1
    by_cases Bi:st.2<(fx (k+1)).length
    ·have w2:i64.wrap ((i:Int)+((fx (k+1)).length:Int))=((i+(fx (k+1)).length:Nat):Int):=by rw[wrap64 _ (by omega) (by omega)];omega
     simp only[w2];rw[aj (by simp only[V4];omega),VY Bi];exact QS
    ·rw[ay (by simp only[V8];omega),VW Bi];exact M7
theorem NJ {i:Nat}(hi:i<s.length)(t4:aw.den):Evt fun n=>cT (S.tab n) s ↑i t4 (0,(i:Int),0,0,0,([]:LI),()) aS 30 0=
  some (bif decide (oX (pS s i)<30)then Sum.inl (((sgn (aS.getD (oX (pS s i)) []):Int),(i:Int),((i+(aS.getD (oX (pS s i)) []).length:Nat):Int),0,0,([]:LI),()), -1,())else Sum.inr (Sum.inl ((i:Int),t4,(0,(i:Int),0,0,0,([]:LI),()),()))):=by
 have hp:Evt fun n=>∀f∈aS,gM (S.tab n) f=some ((sgn f:Int),fT):=yI aS sign_one
 have hlen:∀k,k<30→(aS.getD k []).length≤3:=by
  have h:∀k:Fin 30,(aS.getD k.1 []).length≤3:=(by decide)
  exact fun k hk=>h ⟨k,hk⟩
 refine adv (F:=fun T (j:Nat)=>cT T s ↑i t4 (0,(i:Int),0,0,0,([]:LI),()) aS 30 ↑j) (q:=pq (pS s i)) (N:=30) (p:=fun T=>∀f∈aS,gM T f=some ((sgn f:Int),fT))
  (out:=fun k=>bif decide (k<30)then Sum.inl (((sgn (aS.getD k []):Int),(i:Int),((i+(aS.getD k []).length:Nat):Int),0,0,([]:LI),()), -1,())else Sum.inr (Sum.inl ((i:Int),t4,(0,(i:Int),0,0,0,([]:LI),()),())))
  hp (fun j h=>by unfold pq;rw[VW (by omega)];rfl) ?_ ?_ 30 0 (by omega)
 ·intro T j _ hq;unfold pq pS at hq;simp only[V6,V4,WV,WR,V8]at hq;have ma:=hq.1;have Tw:=hlen j ma;have hj:j<aS.length:=ma;show cT (S.step T) s i t4 _ aS 30 j=cT T s i t4 _ aS 30 ((j+1:Nat):Int);rw[ou,aj (by simp only[V4];omega),aj (av hj),bf (by omega),wrap64 ((s.length:Int) - (i:Int)) (by omega) (by omega)];show brk (decide (((aS.getD j []).length:Int)≤_)) _ _=_
  by_cases hle:(aS.getD j []).length≤s.length - i
  ·have w:i64.wrap ((i:Int)+((aS.getD j []).length:Int))=((i+(aS.getD j []).length:Nat):Int):=by rw[wrap64 _ (by omega) (by omega)];omega
   have nL:¬ bB s i (i+(aS.getD j []).length)=aS.getD j []:=by
    rcases hq.2 with h|h
    ·exact absurd hle h
    ·exact h
   rw[aj (by simp only[V4];omega)];show brk (bounds s.length i (i64.wrap ((i:Int)+((aS.getD j []).length:Int)))) (brk (decide (sub s i (i64.wrap ((i:Int)+((aS.getD j []).length:Int)))=aS.getD j [])) _ _) _=_;rw[w,aj (b9 (by omega) (by omega)),nH,ae nL]
  ·rw[ay (by simp only[V8];omega)]
 ·intro T j M8 hq;show cT (S.step T) s i t4 _ aS 30 j=_;rw[ou]
  by_cases ma:j<30
  ·have Tw:=hlen j ma;have hj:j<aS.length:=ma;unfold pq at hq;rw[VY ma,V9,Bool.not_eq_false']at hq;unfold pS at hq;simp only[V6,V4]at hq
   have hm:aS.getD j []∈aS:=by
    rw[Wm,Wl hj];exact WO _
   have w:i64.wrap ((i:Int)+((aS.getD j []).length:Int))=((i+(aS.getD j []).length:Nat):Int):=by rw[wrap64 _ (by omega) (by omega)];omega
   rw[aj (by simp only[V4];omega),aj (av hj),wrap64 ((s.length:Int) - (i:Int)) (by omega) (by omega)];show brk (decide (((aS.getD j []).length:Int)≤_)) (brk (bounds s.length i (i64.wrap ((i:Int)+((aS.getD j []).length:Int)))) (brk (decide (sub s i (i64.wrap ((i:Int)+((aS.getD j []).length:Int)))=aS.getD j [])) ((gM T (aS.getD j [])).bind fun d68=>some (Sum.inl ((d68.1,_,i64.wrap ((i:Int)+((aS.getD j []).length:Int)),_),_,()))) _) _) _=_;rw[aj (by simp only[V4];omega),w,aj (b9 (by omega) (by omega)),nH,aj (VY hq.2),M8 _ hm,VX,VY ma];rfl
  ·rw[ay (by simp only[V8];omega),VW ma];rfl
def o4 (s:LI)(i:Nat):Nat⊕aw.den:=
 bif fM (get s i)then .inr (Ij s i)else bif aW (get s i)then jD s i else bif decide (get s i=34)then JX s i else AV i (kF (p3 s i))
theorem D0 (K1:∀c∈s,isByte c){i:Nat}(hi:i<s.length):Evt fun n=>∃t' b,iM (S.tab n) s (i:Int)=some ((t',b,()),iB)∧IR (kB (get s i)) (o4 s i) t' b:=by
 unfold o4
 cases hl:fM (get s i)with
 |true=>
  exact(Bu hs hi hl).mono fun n h=>⟨_,_,h,rfl,rfl⟩
 |false=>
  have start:∀n,Base2 (S.tab n)→iM (S.step (S.tab n)) s (i:Int)=_:=fun n hb=>by
   rw[xT,aj (av hi),aI,hb.iletter,hl,VX,ay (by rfl),hb.idigit,VX]
  cases hd:aW (get s i)with
  |true=>
   refine((zx hs hi hd).and aB).up fun n ⟨⟨t',b,h,hr⟩,hb⟩=>⟨t',b, ?_,hr.to fun k=>by unfold kB;rw[hd];rfl⟩
   rw[start n hb,hd,aj (by rfl),h];rfl
  |false=>
   by_cases qS:get s i=34
   ·have w1:i64.wrap ((i:Int)+1)=((i+1:Nat):Int):=bf (by omega);rw[VY qS]
    refine((BH hs K1 i s.length (i+1) [] (by omega) (by omega) (by simp)).and aB).up fun n ⟨⟨t',b,h,hr⟩,hb⟩=>⟨t',b, ?_,hr.to fun k=>by unfold kB;rw[hd,VY qS];rfl⟩
    rw[start n hb,hd,ay (by rfl),ak qS,w1,h];rfl
   ·rw[VW qS]
    show Evt fun n=>∃t' b,_∧IR (kB (get s i)) (AV i (kF (p3 s i))) t' b
    have Ol:runK (pS s i) 78 (0,0)=kF (p3 s i):=by
     rw[uR (q:=p3 s i) 78 (0,0) fun j hj ho=>Mw (s:=s) hi _ (Mr j hj ho)];exact HF _ _ _
    refine((J1 hs hi 78 (0,0) (Wp _)).and aB).up fun n ⟨h,hb⟩=> ?_
    show∃t' b,iM (S.step (S.tab n)) _ _=_∧_;have h:fL (S.tab n) s ↑i (0,(i:Int),0,0,0,([]:LI),()) 0 78=_:=h;rw[start n hb,hd,ay (by rfl),ae qS,h,Ol,VX]
    generalize kF (p3 s i)=st
    obtain⟨a,b⟩:=st;unfold AV N4;simp only[aR,Wn]
    by_cases h0:a=0
    ·have d:decide ((a:Int)=0)=true:=VY (by omega);rw[aj d,VY h0];exact⟨_,_,rfl,rfl,rfl,by unfold kB;rw[hd,VW qS];exact d⟩
    ·have d:decide ((a:Int)=0)=false:=VW (by omega);rw[ay d,VW h0];exact⟨_,_,rfl,rfl,rfl⟩
theorem vU {i:Nat}(hi:i<s.length)(tF:get s i≠10):Evt fun n=>∃t' b,gL (S.tab n) s (i:Int)=some ((t',b,()),gR)∧SR (kB (get s i)) (o4 s i) t' b:=by
 unfold o4
 have start:∀n,Base2 (S.tab n)→gL (S.step (S.tab n)) s (i:Int)=_:=fun n hb=>by
  rw[zH,aj (av hi),aI,ae tF,hb.sletter,VX]
 cases hl:fM (get s i)with
 |true=>
  refine((zi hs hi _ rfl).and aB).up fun n ⟨h,hb⟩=> ?_
  show∃t' b,gL (S.step (S.tab n)) _ _=_∧_;rw[start n hb,hl,aj (by rfl),h];exact⟨_,_,rfl,rfl,rfl⟩
 |false=>
  cases hd:aW (get s i)with
  |true=>
   refine((xb hs hi hd).and aB).up fun n ⟨⟨t',b,h,hr⟩,hb⟩=>⟨t',b, ?_,hr.to fun k=>by unfold kB;rw[hd];rfl⟩
   rw[start n hb,hl,ay (by rfl),hb.sdigit,VX,hd,aj (by rfl),h];rfl
  |false=>
   by_cases qS:get s i=34
   ·rw[VY qS]
    refine((wU hs hi).and aB).up fun n ⟨⟨t',b,h,hr⟩,hb⟩=>⟨t',b, ?_,hr.to fun k=>by unfold kB;rw[hd,VY qS];rfl⟩
    rw[start n hb,hl,ay (by rfl),hb.sdigit,VX,hd,ay (by rfl),ak qS,h];rfl
   ·rw[VW qS]
    show Evt fun n=>∃t' b,_∧SR (kB (get s i)) (AV i (kF (p3 s i))) t' b
    have Ol:kF (pS s i)=kF (p3 s i):=vJ (Mw (s:=s) hi)
    refine((NJ hs hi (0,0,0,0,0,([]:LI),())).and (EI.and aB)).up fun n ⟨h,Uu,hb⟩=> ?_
    show∃t' b,gL (S.step (S.tab n)) _ _=_∧_;rw[start n hb,hl,ay (by rfl),hb.sdigit,VX,hd,ay (by rfl),ae qS,Uu,VX];show∃t' b,(cT (S.tab n) s ↑i _ _ aS 30 0).bind _=_∧_;rw[h,VX,←Ol];unfold AV kF
    cases decide (oX (pS s i)<30)with
    |true=>
     simp only[Wg];rw[VW (GB _)];exact⟨_,_,rfl,rfl,rfl⟩
    |false=>exact⟨_,_,rfl,rfl,by unfold kB;rw[hd,VW qS];rfl⟩
end Go.Abs.D
end

section
namespace Go.Abs.D
end Go.Abs.D
end

section
namespace Go.Abs.D
def cL (k:Int)(s:LI):Bool:=
 decide (0<s.length)&&decide (s.length≤40)&&(match o4 s 0 with| .inl _=>false| .inr t=>decide (t.1=k)&&decide (t.2.2.1=(s.length:Int)))
theorem xF (s:LI)(i j:Nat)(f:Bool):(j1 s i j f).1=2∨(j1 s i j f).1=3:=by
 unfold j1
 cases f|| !decide (dv 0 (bB s i j)<9223372036854775808)with
 |true=>exact .inr rfl
 |false=>exact .inl rfl
theorem B0 {s:LI}{i j:Nat}{f:Bool}{t:aw.den}(h:vd s i j f= .inr t):t.1=2∨t.1=3:=by
 unfold vd at h
 cases h5:decide (get s j=101)with
 |true=>
  rw[h5]at h
  cases hd:aW (get s (kX s j))with
  |true=>rw[hd]at h;injection h with h;subst h;exact xF ..
  |false=>rw[hd]at h;cases h
 |false=>rw[h5]at h;injection h with h;subst h;exact xF ..
theorem Jn {s:LI}{i:Nat}{t:aw.den}(h:jD s i= .inr t):t.1=2∨t.1=3:=by
 unfold jD at h
 have fr:∀j,vc s i j= .inr t→t.1=2∨t.1=3:=fun j h=>by
  unfold vc at h
  cases h5:decide (get s j=46)&&aW (get s (j+1))with
  |true=>rw[h5]at h;exact B0 h
  |false=>rw[h5]at h;exact B0 h
 cases h0:decide (get s i=48)&&decide (get s (i+1)=120)with
 |false=>rw[h0]at h;exact fr _ h
 |true=>
  rw[h0]at h;have h:iD s i= .inr t:=h;unfold iD at h
  by_cases he:j4 s (i+18) (i+2)=i+2
  ·simp only[he,if_true]at h;cases h
  ·simp only[he,WY]at h
   cases hx:de (get s (j4 s (i+18) (i+2)))with
   |true=>simp only[hx,if_true]at h;cases h
   |false=>simp only[hx,WJ,WY]at h;injection h with h;subst h;exact .inl rfl
def kd (t:aw.den):Int:=t.1
theorem Sa (f:LI):5≤sgn f:=by
 unfold sgn
 cases h1:decide (stop (sq opsL f) 19 1<19)with
 |true=>rw[Wg];omega
 |false=>
  cases h2:decide (stop (sq Lx.jE f) 11 0<11)with
  |true=>rw[Wb,Wg];omega
  |false=>rw[Wb,Wb];omega
theorem Az {s:LI}{i:Nat}{t:aw.den}(h:o4 s i= .inr t):
  (fM (get s i)=true→kd t=1∨10≤kd t)∧(fM (get s i)=false→aW (get s i)=true→kd t=2∨kd t=3)∧(fM (get s i)=false→aW (get s i)=false→4≤kd t):=by
 unfold o4 at h;refine⟨fun hl=> ?_,fun hl hd=> ?_,fun hl hd=> ?_⟩
 ·rw[hl]at h
  injection h with h
  subst h;unfold Ij;simp only;split
  ·right;show(10:Int)≤((10+_:Nat):Int);omega
  ·exact .inl rfl
 ·rw[hl,hd]at h;exact Jn h
 ·rw[hl,hd]at h
  cases ve:decide (get s i=34)with
  |true=>
   rw[ve]at h;have h:Kn i (eB s s.length (i+1) [])= .inr t:=h
   cases hr:eB s s.length (i+1) []with
   |inl e=>rw[hr]at h;cases h
   |inr y=>
    rw[hr]at h;obtain⟨e,r⟩:=y
    injection h with h
    subst h;exact Int.le_refl 4
  |false=>
   rw[ve]at h;have h:AV i (kF (p3 s i))= .inr t:=h;unfold AV kF at h
   cases hk:decide (oX (p3 s i)<30)with
   |false=>rw[hk]at h;cases h
   |true=>
    rw[hk]at h;simp only[Wg]at h;rw[VW (GB _)]at h
    injection h with h
    subst h;have:=Sa (aS.getD (oX (p3 s i)) []);show(4:Int)≤((sgn _:Nat):Int);omega
def one (k:Int)(s:LI):Bool:=match o4 s 0 with| .inl _=>false| .inr t=>decide (t.1=k)&&decide (t.2.2.1=(s.length:Int))
end Go.Abs.D
end

section
namespace Go.Abs.D
variable{s:LI}(K1:∀c∈s,isByte c)
include K1
theorem GA (k:Int)(hk:k=1∨k=3)(hlen:s.length≤40):Evt fun n=>ti (S.tab n) s k=some (cL k s,cD):=by
 by_cases h0:s=[]
 ·subst h0
  exact aB.up fun n _=>by
   rw[vH,aj (by simp)];rfl
 have lR:0<s.length:=List.length_pos_iff.2 h0
 have fP:decide ((0:Int)<(s.length:Int))=true:=by simp only[V4];omega
 have cE:cL k s=one k s:=by
  unfold cL one;rw[VY lR,VY hlen];rfl
 rw[cE]
 have fin:∀n,(∃t' b,iM (S.tab n) s ((0:Nat):Int)=some ((t',b,()),iB)∧IR (kB (get s 0)) (o4 s 0) t' b)→
   ((iM (S.tab n) s (0:Int)).bind fun d28=>brk (!d28.1.2.1) (brk (decide (d28.1.1.1=k)) (some (decide (d28.1.1.2.2.1=(s.length:Int)),cD)) (some (false,cD))) (some (false,cD)))=some (one k s,cD):=fun n ⟨t',b,h,hr⟩=>by
  have h:iM (S.tab n) s (0:Int)=_:=h;rw[h,VX];unfold one
  cases hx:o4 s 0 with
  |inl e=>
   rw[hx]at hr;obtain⟨rfl,_⟩:b=true∧_:=hr;rw[ay (by rfl)]
  |inr t=>
   rw[hx]at hr;obtain⟨rfl,rfl⟩:b=false∧t'=t:=hr;rw[aj (by rfl)];simp only
   cases decide (t'.1=k)with
   |true=>rw[aj rfl];rfl
   |false=>rw[ay rfl];rfl
 refine((D0 (s:=s) (by omega) K1 (i:=0) lR).and aB).up fun n ⟨h,hb⟩=> ?_
 have g0:s.getD 0 0=get s 0:=rfl;rw[vH,ay (by simpa using h0),aj fP,g0]
 by_cases qS:get s 0=34
 ·rw[ay (by rw[VY qS];rfl)];exact fin n h
 rw[aj (by rw[VW qS];rfl),aj fP,hb.iletter,VX]
 cases hl:fM (get s 0)with
 |true=>rw[ay (by rfl)];exact fin n h
 |false=>
  rw[aj (by rfl),aj fP,hb.idigit,VX]
  cases hd:aW (get s 0)with
  |true=>rw[ay (by rfl)];exact fin n h
  |false=>
   rw[aj (by rfl)];unfold one
   cases hx:o4 s 0 with
   |inl e=>rfl
   |inr t=>
    have:=(Az hx).2.2 hl hd;simp only
    have nL:kd t≠k:=by rcases hk with rfl|rfl<;>omega
    rw[VW (show¬ (t.1=k)from nL)];rfl
theorem sG:Evt fun n=>eE (S.tab n) s=some (cL 1 s,gq):=by
 by_cases h:s.length≤40
 ·refine(GA K1 1 (.inl rfl) h).up fun n h1=> ?_
  rw[qA,aj (by simp only[V4];omega),h1];rfl
 ·refine aB.up fun n _=> ?_
  unfold cL;rw[qA,ay (by simp only[V8];omega),VW h,Wa];rfl
theorem vK:Evt fun n=>jr (S.tab n) s=some (cL 3 s,jH):=by
 by_cases h:s.length≤40
 ·refine(GA K1 3 (.inr rfl) h).up fun n h1=> ?_
  rw[pd,aj (by simp only[V4];omega),h1];rfl
 ·refine aB.up fun n _=> ?_
  unfold cL;rw[pd,ay (by simp only[V8];omega),VW h,Wa];rfl
omit K1 in
theorem Cd:Evt fun n=>eX (S.tab n) s=some (cL 1 s,dL):=by
 by_cases h0:s.length=0
 ·refine aB.up fun n _=> ?_
  unfold cL;rw[lV,aj (by simp only[V4];omega),VW (show¬ 0<s.length by omega)];rfl
 by_cases h:¬ s.length≤40
 ·refine aB.up fun n _=> ?_
  unfold cL;rw[lV,ay (by simp only[V8];omega),aj (by simp only[V4];omega),VW h,Wa];rfl
 replace h:=Decidable.not_not.1 h
 have lR:0<s.length:=(by omega)
 have fP:decide ((0:Int)<(s.length:Int))=true:=by simp only[V4];omega
 have g0:s.getD 0 0=get s 0:=rfl
 have cE:cL 1 s=one 1 s:=by
  unfold cL one;rw[VY lR,VY h];rfl
 rw[cE]
 have start:∀n,Base2 (S.tab n)→eX (S.step (S.tab n)) s=_:=fun n hb=>by
  rw[lV,ay (by simp only[V8];omega),ay (by simp only[V8];omega),aj fP,g0,hb.sletter,VX]
 cases hl:fM (get s 0)with
 |false=>
  refine aB.up fun n hb=> ?_
  rw[start n hb,hl,aj (by rfl)];unfold one
  cases hx:o4 s 0 with
  |inl e=>rfl
  |inr t=>
   have hk:=Az hx
   have:kd t≠1:=by
    cases hd:aW (get s 0)with
    |true=>rcases hk.2.1 hl hd with h|h<;>omega
    |false=>have:=hk.2.2 hl hd;omega
   simp only;rw[VW (show¬ (t.1=1)from this)];rfl
 |true=>
  have tF:get s 0≠10:=fun e=>by rw[e]at hl;cases hl
  refine((vU (s:=s) (by omega) lR tF).and aB).up fun n ⟨⟨t',b,h1,hr⟩,hb⟩=> ?_
  have h1:gL (S.tab n) s (0:Int)=_:=h1;rw[start n hb,hl,ay (by rfl),h1,VX];unfold one
  cases hx:o4 s 0 with
  |inl e=>
   rw[hx]at hr;have hr:b=(e:Int):=hr.1;subst hr;rw[ay (by simp only[V8];omega)]
  |inr t=>
   rw[hx]at hr;obtain⟨rfl,rfl⟩:b= -1∧t'=t:=hr;rw[aj (show decide ((-1:Int)<0)=true from rfl)];simp only
   cases decide (t'.1=1)with
   |true=>rw[aj rfl];rfl
   |false=>rw[ay rfl];rfl
omit K1 in
theorem Ja:Evt fun n=>lz (S.tab n) s=some (cL 3 s,fe):=by
 by_cases h0:s.length=0
 ·refine aB.up fun n _=> ?_
  unfold cL;rw[mP,aj (by simp only[V4];omega),VW (show¬ 0<s.length by omega)];rfl
 by_cases h:¬ s.length≤40
 ·refine aB.up fun n _=> ?_
  unfold cL;rw[mP,ay (by simp only[V8];omega),aj (by simp only[V4];omega),VW h,Wa];rfl
 replace h:=Decidable.not_not.1 h
 have lR:0<s.length:=(by omega)
 have fP:decide ((0:Int)<(s.length:Int))=true:=by simp only[V4];omega
 have g0:s.getD 0 0=get s 0:=rfl
 have cE:cL 3 s=one 3 s:=by
  unfold cL one;rw[VY lR,VY h];rfl
 rw[cE]
 have start:∀n,Base2 (S.tab n)→lz (S.step (S.tab n)) s=_:=fun n hb=>by
  rw[mP,ay (by simp only[V8];omega),ay (by simp only[V8];omega),aj fP,g0,hb.sdigit,VX]
 cases hd:aW (get s 0)with
 |false=>
  refine aB.up fun n hb=> ?_
  rw[start n hb,hd,aj (by rfl)];unfold one
  cases hx:o4 s 0 with
  |inl e=>rfl
  |inr t=>
   have hk:=Az hx
   have:kd t≠3:=by
    cases hl:fM (get s 0)with
    |true=>rcases hk.1 hl with h|h<;>omega
    |false=>have:=hk.2.2 hl hd;omega
   simp only;rw[VW (show¬ (t.1=3)from this)];rfl
 |true=>
  have tF:get s 0≠10:=fun e=>by rw[e]at hd;cases hd
  refine((vU (s:=s) (by omega) lR tF).and aB).up fun n ⟨⟨t',b,h1,hr⟩,hb⟩=> ?_
  have h1:gL (S.tab n) s (0:Int)=_:=h1;rw[start n hb,hd,ay (by rfl),h1,VX];unfold one
  cases hx:o4 s 0 with
  |inl e=>
   rw[hx]at hr;have hr:b=(e:Int):=hr.1;subst hr;rw[ay (by simp only[V8];omega)]
  |inr t=>
   rw[hx]at hr;obtain⟨rfl,rfl⟩:b= -1∧t'=t:=hr;rw[aj (show decide ((-1:Int)<0)=true from rfl)];simp only
   cases decide (t'.1=3)with
   |true=>rw[aj rfl];rfl
   |false=>rw[ay rfl];rfl
end Go.Abs.D
end

section
namespace Go.Abs.D
def fG (k:Int):Bool:=decide (20≤k)&&decide (k≤37)
def bN (k:Int):Bool:=decide (1≤k)&&decide (k≤16)
def j2 (k:Int):Bool:=decide (40≤k)&&decide (k≤42)
def dc (k:Int):Bool:=decide (k=26)||(decide (k=32)||decide (k=33))
def PL (a b c d:Bool)(nn op num:Int)(text:LI):Bool:=(a||decide (nn=0))&&((b||decide (op=0))&&((c||decide (num=0))&&(d||decide (text=[]))))
def EX (ks:LI)(i j:Nat):Bool:=(bB ks i j).all fG
def BS (ks:LI):Bool:=decide (1≤ks.length)&&(fG (get ks 0)&& !decide (get ks 0=27))
theorem an {ρ:Type}{x y:Option ρ}:brk true x y=x:=aj rfl
theorem ah {ρ:Type}{x y:Option ρ}:brk false x y=y:=ay rfl
theorem cn {β:Type}{b c:Bool}:brk b (some (Sum.inl (c,()))) (some (Sum.inl (false,()):(Bool×Unit)⊕β))=some (Sum.inl (b&&c,())):=by cases b<;>simp[an,ah]
theorem ck {β:Type}{b c:Bool}:brk (!b) (some (Sum.inl (false,()):(Bool×Unit)⊕β)) (some (Sum.inl (c,())))=some (Sum.inl (b&&c,())):=by cases b<;>simp[an,ah]
theorem cj {β:Type}{a b:Bool}:brk a (some (Sum.inl (true,()):(Bool×Unit)⊕β)) (some (Sum.inl (b,())))=some (Sum.inl (a||b,())):=by cases a<;>simp[an,ah]
theorem cq {β:Type}{a b c:Bool}:brk a (some (Sum.inl (c,()):(Bool×Unit)⊕β)) (some (Sum.inl (b&&c,())))=some (Sum.inl ((a||b)&&c,())):=by cases a<;>simp[an,ah]
theorem cp {ρ:Type}{a b:Bool}{x y:Option ρ}:brk a x (brk b x y)=brk (a||b) x y:=by cases a<;>simp[an,ah]
abbrev An:Type:=(Bool×Unit)⊕(Unit)⊕Empty
def An.val (y:An):Bool:=y.elim (fun y=>y.1) fun _=>false
structure IF (T:S.Tab)(ks:LI)(nn op num:Int)(text:LI):Prop where
 pl:∀a b c d,aK T a b c d nn op num text=some (PL a b c d nn op num text,(),(),(),(),nn,op,num,text,())
 ex01:1≤ks.length→aL T 0 1 ks=some (EX ks 0 1,(),(),ks,())
 ex02:2≤ks.length→aL T 0 2 ks=some (EX ks 0 2,(),(),ks,())
 ex0n:aL T 0 (ks.length:Int) ks=some (EX ks 0 ks.length,(),(),ks,())
 ex0m:1≤ks.length→aL T 0 (i64.wrap ((ks.length:Int) - 1)) ks=some (EX ks 0 (ks.length - 1),(),(),ks,())
 OU:1≤num→num≤ks.length→aL T num (ks.length:Int) ks=some (EX ks num.toNat ks.length,(),(),ks,())
 bs:iT T (ks.length:Int) ks=some (BS ks,(ks.length:Int),ks,())
 gn:eE T text=some (cL 1 text,gq)
 gf:jr T text=some (cL 3 text,jH)
 inn:∀v lo hi,je T v lo hi=some (decide (lo≤v)&&decide (v≤hi),qE)
 l26:dI T nn op num text ks (ks.length:Int) 0=some (bif ks.all bN then Sum.inr (Sum.inl (nn,op,num,text,()))else Sum.inl (false,()))
 l97:dO T nn op num text ks (ks.length:Int) 0=some (bif ks.all j2 then Sum.inr (Sum.inl (nn,op,num,text,()))else Sum.inl (false,()))
 Tc:1≤num→num≤ks.length→bG T ks num (ks.length:Int) (sub ks 0 num) ((sub ks 0 num).length:Int) 0=some (bif(bB ks 0 num.toNat).all dc then Sum.inr (Sum.inl (ks,num,(ks.length:Int),()))else Sum.inl (false,()))
variable{ks:LI}{nn op num:Int}{text:LI}
def R84 (ks:LI)(nn op num:Int)(text:LI)(kind:Int)(fl:Bool):An:=
 bif fl then Sum.inl (PL false false false false nn op num text&&(decide ((ks.length:Int)=2)&&(EX ks 0 2)),())else
 bif decide (kind=30)then Sum.inl (PL false true false false nn op num text&&((decide ((19:Int)≤op)&&decide (op≤22))&&(decide ((ks.length:Int)=1)&&(EX ks 0 1))),())else
 bif decide (kind=31)then Sum.inl (PL false true false false nn op num text&&((decide ((1:Int)≤op)&&decide (op≤18))&&(decide ((ks.length:Int)=2)&&(EX ks 0 2))),())else
 bif decide (kind=32)then Sum.inl (PL false false false false nn op num text&&(decide ((ks.length:Int)=2)&&(BS ks&&(EX ks 0 2))),())else
 bif decide (kind=33)then Sum.inl (PL false false false true nn op num text&&(decide ((ks.length:Int)=1)&&(BS ks&&(cL 1 text))),())else
 bif decide (kind=34)then Sum.inl (PL false false false false nn op num text&&(BS ks&&(EX ks 0 ks.length)),())else
 bif decide (kind=35)then Sum.inl (ks.all j2&&(PL false false false false nn op num text),())else
 bif decide (kind=36)then Sum.inl (PL true true false false nn op num text&&((decide ((0:Int)≤op)&&decide (op≤1))&&(decide ((ks.length:Int)=1)&&(decide (ks.getD 0 0=1)))),())else
 bif decide (kind=37)then Sum.inl (PL false false false false nn op num text&&(decide ((ks.length:Int)=1)&&((decide (ks.getD 0 0=34)||decide (ks.getD 0 0=27)))),())else
 bif decide (kind=42)then Sum.inl (PL false false false true nn op num text&&(decide ((ks.length:Int)=1)&&(EX ks 0 1&&(cL 1 text))),())else
 Sum.inr (Sum.inl ())
theorem r84 {T:S.Tab}(h:IF T ks nn op num text)(hl:ks.length≤200)(kind:Int)(fl:Bool):fC (S.step T) ks nn op num text (ks.length:Int) kind fl=some (R84 ks nn op num text kind fl):=by
 rw[uz];unfold R84
 cases fl with
 |true=>
  rw[an,Wg]
  by_cases yT:ks.length=2
  ·have hz:(ks.length:Int)=2:=(by omega);have hw:i64.wrap ((2:Int) - 1)=1:=(by decide);have hm:ks.length - 1=1:=(by omega);have e1:=h.ex01 (by omega);have e2:=h.ex02 (by omega);have e3:=h.ex0m (by omega);have e4:=h.ex0n;have e5:=h.bs;rw[hz,hw]at e3;rw[hz]at e4 e5;simp only[hw,hz,hm,e1,e2,e3,e4,e5,h.pl,h.inn,h.gn,h.gf,VX,an,ah,cp,cn,ck,cj,cq,V9,We,Wc,Wa,Wf,Wd,Wh,Wi,eq_self,decide_true,decide_false,Int.reduceLT,Int.reduceLE,Int.reduceEq,Int.reduceToNat,Wo]
   try rfl
  have d2:decide ((ks.length:Int)=2)=false:=VW (by omega);simp only[d2,h.pl,h.inn,h.gn,h.gf,h.ex0n,h.bs,VX,an,ah,cp,cn,ck,cj,cq,V9,We,Wc,Wa,Wf,Wd,Wh,Wi]
 |false=>
  rw[ah,Wb]
  by_cases k30:kind=30
  ·rw[VY k30,an,Wg]
   by_cases Bg:ks.length=1
   ·have hz:(ks.length:Int)=1:=(by omega);have hw:i64.wrap ((1:Int) - 1)=0:=(by decide);have hm:ks.length - 1=0:=(by omega);have e1:=h.ex01 (by omega);have e3:=h.ex0m (by omega);have e4:=h.ex0n;have e5:=h.bs;rw[hz,hw]at e3;rw[hz]at e4 e5;simp only[hw,hz,hm,e1,e3,e4,e5,h.pl,h.inn,h.gn,h.gf,VX,an,ah,cp,cn,ck,cj,cq,V9,We,Wc,Wa,Wf,Wd,Wh,Wi,eq_self,decide_true,decide_false,Int.reduceLT,Int.reduceLE,Int.reduceEq,Int.reduceToNat,Wo]
    try rfl
   have d1:decide ((ks.length:Int)=1)=false:=VW (by omega);simp only[d1,h.pl,h.inn,h.gn,h.gf,h.ex0n,h.bs,VX,an,ah,cp,cn,ck,cj,cq,V9,We,Wc,Wa,Wf,Wd,Wh,Wi]
  rw[VW k30,ah,Wb]
  by_cases k31:kind=31
  ·rw[VY k31,an,Wg]
   by_cases yT:ks.length=2
   ·have hz:(ks.length:Int)=2:=(by omega);have hw:i64.wrap ((2:Int) - 1)=1:=(by decide);have hm:ks.length - 1=1:=(by omega);have e1:=h.ex01 (by omega);have e2:=h.ex02 (by omega);have e3:=h.ex0m (by omega);have e4:=h.ex0n;have e5:=h.bs;rw[hz,hw]at e3;rw[hz]at e4 e5;simp only[hw,hz,hm,e1,e2,e3,e4,e5,h.pl,h.inn,h.gn,h.gf,VX,an,ah,cp,cn,ck,cj,cq,V9,We,Wc,Wa,Wf,Wd,Wh,Wi,eq_self,decide_true,decide_false,Int.reduceLT,Int.reduceLE,Int.reduceEq,Int.reduceToNat,Wo]
    try rfl
   have d2:decide ((ks.length:Int)=2)=false:=VW (by omega);simp only[d2,h.pl,h.inn,h.gn,h.gf,h.ex0n,h.bs,VX,an,ah,cp,cn,ck,cj,cq,V9,We,Wc,Wa,Wf,Wd,Wh,Wi]
  rw[VW k31,ah,Wb]
  by_cases k32:kind=32
  ·rw[VY k32,an,Wg]
   by_cases yT:ks.length=2
   ·have hz:(ks.length:Int)=2:=(by omega);have hw:i64.wrap ((2:Int) - 1)=1:=(by decide);have hm:ks.length - 1=1:=(by omega);have e1:=h.ex01 (by omega);have e2:=h.ex02 (by omega);have e3:=h.ex0m (by omega);have e4:=h.ex0n;have e5:=h.bs;rw[hz,hw]at e3;rw[hz]at e4 e5;simp only[hw,hz,hm,e1,e2,e3,e4,e5,h.pl,h.inn,h.gn,h.gf,VX,an,ah,cp,cn,ck,cj,cq,V9,We,Wc,Wa,Wf,Wd,Wh,Wi,eq_self,decide_true,decide_false,Int.reduceLT,Int.reduceLE,Int.reduceEq,Int.reduceToNat,Wo]
    try rfl
   have d2:decide ((ks.length:Int)=2)=false:=VW (by omega);simp only[d2,h.pl,h.inn,h.gn,h.gf,h.ex0n,h.bs,VX,an,ah,cp,cn,ck,cj,cq,V9,We,Wc,Wa,Wf,Wd,Wh,Wi]
  rw[VW k32,ah,Wb]
  by_cases k33:kind=33
  ·rw[VY k33,an,Wg]
   by_cases Bg:ks.length=1
   ·have hz:(ks.length:Int)=1:=(by omega);have hw:i64.wrap ((1:Int) - 1)=0:=(by decide);have hm:ks.length - 1=0:=(by omega);have e1:=h.ex01 (by omega);have e3:=h.ex0m (by omega);have e4:=h.ex0n;have e5:=h.bs;rw[hz,hw]at e3;rw[hz]at e4 e5;simp only[hw,hz,hm,e1,e3,e4,e5,h.pl,h.inn,h.gn,h.gf,VX,an,ah,cp,cn,ck,cj,cq,V9,We,Wc,Wa,Wf,Wd,Wh,Wi,eq_self,decide_true,decide_false,Int.reduceLT,Int.reduceLE,Int.reduceEq,Int.reduceToNat,Wo]
    try rfl
   have d1:decide ((ks.length:Int)=1)=false:=VW (by omega);simp only[d1,h.pl,h.inn,h.gn,h.gf,h.ex0n,h.bs,VX,an,ah,cp,cn,ck,cj,cq,V9,We,Wc,Wa,Wf,Wd,Wh,Wi]
  rw[VW k33,ah,Wb]
  by_cases k34:kind=34
  ·rw[VY k34,an,Wg];simp only[h.pl,h.inn,h.gn,h.gf,h.ex0n,h.bs,VX,an,ah,cp,cn,ck,cj,cq,V9,We,Wc,Wa,Wf,Wd,Wh,Wi]
  rw[VW k34,ah,Wb]
  by_cases k35:kind=35
  ·rw[VY k35,an,Wg];rw[h.l97]
   cases ks.all j2 with
   |true=>simp only[Wg,VX,bC,Wn,Wx,h.pl,V9]
   |false=>rfl
  rw[VW k35,ah,Wb]
  by_cases k36:kind=36
  ·rw[VY k36,an,Wg]
   by_cases Bg:ks.length=1
   ·have hz:(ks.length:Int)=1:=(by omega);have hw:i64.wrap ((1:Int) - 1)=0:=(by decide);have hm:ks.length - 1=0:=(by omega);have e1:=h.ex01 (by omega);have e3:=h.ex0m (by omega);have e4:=h.ex0n;have e5:=h.bs;rw[hz,hw]at e3;rw[hz]at e4 e5;simp only[hw,hz,hm,e1,e3,e4,e5,h.pl,h.inn,h.gn,h.gf,VX,an,ah,cp,cn,ck,cj,cq,V9,We,Wc,Wa,Wf,Wd,Wh,Wi,eq_self,decide_true,decide_false,Int.reduceLT,Int.reduceLE,Int.reduceEq,Int.reduceToNat,Wo]
    try rfl
   have d1:decide ((ks.length:Int)=1)=false:=VW (by omega);simp only[d1,h.pl,h.inn,h.gn,h.gf,h.ex0n,h.bs,VX,an,ah,cp,cn,ck,cj,cq,V9,We,Wc,Wa,Wf,Wd,Wh,Wi]
  rw[VW k36,ah,Wb]
  by_cases k37:kind=37
  ·rw[VY k37,an,Wg]
   by_cases Bg:ks.length=1
   ·have hz:(ks.length:Int)=1:=(by omega);have hw:i64.wrap ((1:Int) - 1)=0:=(by decide);have hm:ks.length - 1=0:=(by omega);have e1:=h.ex01 (by omega);have e3:=h.ex0m (by omega);have e4:=h.ex0n;have e5:=h.bs;rw[hz,hw]at e3;rw[hz]at e4 e5;simp only[hw,hz,hm,e1,e3,e4,e5,h.pl,h.inn,h.gn,h.gf,VX,an,ah,cp,cn,ck,cj,cq,V9,We,Wc,Wa,Wf,Wd,Wh,Wi,eq_self,decide_true,decide_false,Int.reduceLT,Int.reduceLE,Int.reduceEq,Int.reduceToNat,Wo]
    try rfl
   have d1:decide ((ks.length:Int)=1)=false:=VW (by omega);simp only[d1,h.pl,h.inn,h.gn,h.gf,h.ex0n,h.bs,VX,an,ah,cp,cn,ck,cj,cq,V9,We,Wc,Wa,Wf,Wd,Wh,Wi]
  rw[VW k37,ah,Wb]
  by_cases k42:kind=42
  ·rw[VY k42,an,Wg]
   by_cases Bg:ks.length=1
   ·have hz:(ks.length:Int)=1:=(by omega);have hw:i64.wrap ((1:Int) - 1)=0:=(by decide);have hm:ks.length - 1=0:=(by omega);have e1:=h.ex01 (by omega);have e3:=h.ex0m (by omega);have e4:=h.ex0n;have e5:=h.bs;rw[hz,hw]at e3;rw[hz]at e4 e5;simp only[hw,hz,hm,e1,e3,e4,e5,h.pl,h.inn,h.gn,h.gf,VX,an,ah,cp,cn,ck,cj,cq,V9,We,Wc,Wa,Wf,Wd,Wh,Wi,eq_self,decide_true,decide_false,Int.reduceLT,Int.reduceLE,Int.reduceEq,Int.reduceToNat,Wo]
    try rfl
   have d1:decide ((ks.length:Int)=1)=false:=VW (by omega);simp only[d1,h.pl,h.inn,h.gn,h.gf,h.ex0n,h.bs,VX,an,ah,cp,cn,ck,cj,cq,V9,We,Wc,Wa,Wf,Wd,Wh,Wi]
  rw[VW k42,ah,Wb]
def R72 (ks:LI)(nn op num:Int)(text:LI)(kind:Int)(fl:Bool):An:=
 bif fl then Sum.inl (PL false false false false nn op num text&&(decide ((ks.length:Int)=1)&&(EX ks 0 1)),())else
 bif decide (kind=23)then Sum.inl (PL false false true false nn op num text&&(decide ((ks.length:Int)=0)),())else
 bif decide (kind=24)then Sum.inl (PL false false false true nn op num text&&(decide ((ks.length:Int)=0)&&(cL 3 text)),())else
 bif decide (kind=25)then Sum.inl (PL false false false true nn op num text&&(decide ((ks.length:Int)=0)&&(decide ((text.length:Int)≤4000))),())else
 bif decide (kind=26)then Sum.inl (PL false false false true nn op num text&&(decide ((ks.length:Int)=0)&&(cL 1 text)),())else
 bif decide (kind=28)then R84 ks nn op num text kind true else
 bif decide (kind=29)then R84 ks nn op num text kind true else
 R84 ks nn op num text kind (decide (kind=41))
theorem r72 {T:S.Tab}(h:IF T ks nn op num text)(hl:ks.length≤200)(kind:Int)(PZ:∀fl,fC T ks nn op num text (ks.length:Int) kind fl=some (R84 ks nn op num text kind fl))(fl:Bool):gx (S.step T) ks nn op num text (ks.length:Int) kind fl=some (R72 ks nn op num text kind fl):=by
 rw[uB];unfold R72
 cases fl with
 |true=>
  rw[an,Wg]
  by_cases Bg:ks.length=1
  ·have hz:(ks.length:Int)=1:=(by omega);have hw:i64.wrap ((1:Int) - 1)=0:=(by decide);have hm:ks.length - 1=0:=(by omega);have e1:=h.ex01 (by omega);have e3:=h.ex0m (by omega);have e4:=h.ex0n;have e5:=h.bs;rw[hz,hw]at e3;rw[hz]at e4 e5;simp only[hw,hz,hm,e1,e3,e4,e5,h.pl,h.inn,h.gn,h.gf,VX,an,ah,cp,cn,ck,cj,cq,V9,We,Wc,Wa,Wf,Wd,Wh,Wi,eq_self,decide_true,decide_false,Int.reduceLT,Int.reduceLE,Int.reduceEq,Int.reduceToNat,Wo]
   try rfl
  have d1:decide ((ks.length:Int)=1)=false:=VW (by omega);simp only[d1,h.pl,h.inn,h.gn,h.gf,h.ex0n,h.bs,VX,an,ah,cp,cn,ck,cj,cq,V9,We,Wc,Wa,Wf,Wd,Wh,Wi]
 |false=>
  rw[ah,Wb]
  by_cases k23:kind=23
  ·rw[VY k23,an,Wg];simp only[h.pl,h.inn,h.gn,h.gf,h.ex0n,h.bs,VX,an,ah,cp,cn,ck,cj,cq,V9,We,Wc,Wa,Wf,Wd,Wh,Wi]
  rw[VW k23,ah,Wb]
  by_cases k24:kind=24
  ·rw[VY k24,an,Wg];simp only[h.pl,h.inn,h.gn,h.gf,h.ex0n,h.bs,VX,an,ah,cp,cn,ck,cj,cq,V9,We,Wc,Wa,Wf,Wd,Wh,Wi]
  rw[VW k24,ah,Wb]
  by_cases k25:kind=25
  ·rw[VY k25,an,Wg];simp only[h.pl,h.inn,h.gn,h.gf,h.ex0n,h.bs,VX,an,ah,cp,cn,ck,cj,cq,V9,We,Wc,Wa,Wf,Wd,Wh,Wi]
  rw[VW k25,ah,Wb]
  by_cases k26:kind=26
  ·rw[VY k26,an,Wg];simp only[h.pl,h.inn,h.gn,h.gf,h.ex0n,h.bs,VX,an,ah,cp,cn,ck,cj,cq,V9,We,Wc,Wa,Wf,Wd,Wh,Wi]
  rw[VW k26,ah,Wb]
  by_cases k28:kind=28
  ·rw[VY k28,an,Wg,PZ]
   cases hR:R84 ks nn op num text kind true with
   |inl y=>rfl
   |inr y=>cases y with
    |inl y=>rfl
    |inr y=>exact y.elim
  rw[VW k28,ah,Wb]
  by_cases k29:kind=29
  ·rw[VY k29,an,Wg,PZ]
   cases hR:R84 ks nn op num text kind true with
   |inl y=>rfl
   |inr y=>cases y with
    |inl y=>rfl
    |inr y=>exact y.elim
  rw[VW k29,ah,Wb];rw[PZ]
  cases hR:R84 ks nn op num text kind (decide (kind=41))with
  |inl y=>rfl
  |inr y=>cases y with
   |inl y=>rfl
   |inr y=>exact y.elim
def R65 (ks:LI)(nn op num:Int)(text:LI)(kind:Int)(fl:Bool):An:=
 bif fl then Sum.inl (PL false false false false nn op num text&&(decide ((ks.length:Int)=0)),())else
 bif decide (kind=13)then Sum.inl (PL false false false false nn op num text&&(EX ks 0 ks.length),())else
 bif decide (kind=14)then Sum.inl (PL true false false false nn op num text&&((decide (nn=1)||decide (nn=2))&&(decide ((ks.length:Int)=2)&&(decide (ks.getD 0 0=1)&&(decide (ks.getD 1 0=1))))),())else
 bif decide (kind=15)then R72 ks nn op num text kind true else
 R72 ks nn op num text kind (decide (kind=40))
theorem r65 {T:S.Tab}(h:IF T ks nn op num text)(hl:ks.length≤200)(kind:Int)(Rt:∀fl,gx T ks nn op num text (ks.length:Int) kind fl=some (R72 ks nn op num text kind fl))(fl:Bool):cX (S.step T) ks nn op num text (ks.length:Int) kind fl=some (R65 ks nn op num text kind fl):=by
 rw[uA];unfold R65
 cases fl with
 |true=>
  rw[an,Wg];simp only[h.pl,h.inn,h.gn,h.gf,h.ex0n,h.bs,VX,an,ah,cp,cn,ck,cj,cq,V9,We,Wc,Wa,Wf,Wd,Wh,Wi]
 |false=>
  rw[ah,Wb]
  by_cases k13:kind=13
  ·rw[VY k13,an,Wg];simp only[h.pl,h.inn,h.gn,h.gf,h.ex0n,h.bs,VX,an,ah,cp,cn,ck,cj,cq,V9,We,Wc,Wa,Wf,Wd,Wh,Wi]
  rw[VW k13,ah,Wb]
  by_cases k14:kind=14
  ·rw[VY k14,an,Wg]
   by_cases yT:ks.length=2
   ·have hz:(ks.length:Int)=2:=(by omega);have hw:i64.wrap ((2:Int) - 1)=1:=(by decide);have hm:ks.length - 1=1:=(by omega);have e1:=h.ex01 (by omega);have e2:=h.ex02 (by omega);have e3:=h.ex0m (by omega);have e4:=h.ex0n;have e5:=h.bs;rw[hz,hw]at e3;rw[hz]at e4 e5;simp only[hw,hz,hm,e1,e2,e3,e4,e5,h.pl,h.inn,h.gn,h.gf,VX,an,ah,cp,cn,ck,cj,cq,V9,We,Wc,Wa,Wf,Wd,Wh,Wi,eq_self,decide_true,decide_false,Int.reduceLT,Int.reduceLE,Int.reduceEq,Int.reduceToNat,Wo]
    try rfl
   have d2:decide ((ks.length:Int)=2)=false:=VW (by omega);simp only[d2,h.pl,h.inn,h.gn,h.gf,h.ex0n,h.bs,VX,an,ah,cp,cn,ck,cj,cq,V9,We,Wc,Wa,Wf,Wd,Wh,Wi]
  rw[VW k14,ah,Wb]
  by_cases RG:kind=15
  ·rw[VY RG,an,Wg,Rt]
   cases hR:R72 ks nn op num text kind true with
   |inl y=>rfl
   |inr y=>cases y with
    |inl y=>rfl
    |inr y=>exact y.elim
  rw[VW RG,ah,Wb];rw[Rt]
  cases hR:R72 ks nn op num text kind (decide (kind=40))with
  |inl y=>rfl
  |inr y=>cases y with
   |inl y=>rfl
   |inr y=>exact y.elim
def R50 (ks:LI)(nn op num:Int)(text:LI)(kind:Int)(fl:Bool):An:=
 bif fl then Sum.inl (PL false false false false nn op num text&&(decide ((ks.length:Int)=1)&&(decide (ks.getD 0 0=34))),())else
 bif decide (kind=7)then Sum.inl (PL false false false false nn op num text&&((decide ((ks.length:Int)=2)||decide ((ks.length:Int)=3))&&(EX ks 0 1&&(decide (ks.getD 1 0=1)&&((decide ((ks.length:Int)=2)||(decide (ks.getD 2 0=1)||decide (ks.getD 2 0=7))))))),())else
 bif decide (kind=8)then Sum.inl (PL false false false false nn op num text&&(decide ((ks.length:Int)=2)&&(EX ks 0 1&&(decide (ks.getD 1 0=1)))),())else
 bif decide (kind=9)then Sum.inl (PL true false false false nn op num text&&(decide (nn=1)&&((decide ((ks.length:Int)=3)||decide ((ks.length:Int)=4))&&(EX ks 0 (ks.length - 1)&&(decide (ks.getD (ks.length - 1) 0=1))))),())else
 bif decide (kind=10)then Sum.inl (PL true false false false nn op num text&&(decide (1≤nn)&&(decide ((ks.length:Int)=2)&&(EX ks 0 1&&(decide (ks.getD 1 0=1))))),())else
 bif decide (kind=11)then R65 ks nn op num text kind true else
 bif decide (kind=12)then R65 ks nn op num text kind true else
 bif decide (kind=20)then R65 ks nn op num text kind true else
 bif decide (kind=21)then R65 ks nn op num text kind true else
 bif decide (kind=22)then R65 ks nn op num text kind true else
 R65 ks nn op num text kind (decide (kind=27))
theorem r50 {T:S.Tab}(h:IF T ks nn op num text)(hl:ks.length≤200)(kind:Int)(MT:∀fl,cX T ks nn op num text (ks.length:Int) kind fl=some (R65 ks nn op num text kind fl))(fl:Bool):iF (S.step T) ks nn op num text (ks.length:Int) kind fl=some (R50 ks nn op num text kind fl):=by
 rw[uI];unfold R50
 cases fl with
 |true=>
  rw[an,Wg]
  by_cases Bg:ks.length=1
  ·have hz:(ks.length:Int)=1:=(by omega);have hw:i64.wrap ((1:Int) - 1)=0:=(by decide);have hm:ks.length - 1=0:=(by omega);have e1:=h.ex01 (by omega);have e3:=h.ex0m (by omega);have e4:=h.ex0n;have e5:=h.bs;rw[hz,hw]at e3;rw[hz]at e4 e5;simp only[hw,hz,hm,e1,e3,e4,e5,h.pl,h.inn,h.gn,h.gf,VX,an,ah,cp,cn,ck,cj,cq,V9,We,Wc,Wa,Wf,Wd,Wh,Wi,eq_self,decide_true,decide_false,Int.reduceLT,Int.reduceLE,Int.reduceEq,Int.reduceToNat,Wo]
   try rfl
  have d1:decide ((ks.length:Int)=1)=false:=VW (by omega);simp only[d1,h.pl,h.inn,h.gn,h.gf,h.ex0n,h.bs,VX,an,ah,cp,cn,ck,cj,cq,V9,We,Wc,Wa,Wf,Wd,Wh,Wi]
 |false=>
  rw[ah,Wb]
  by_cases k7:kind=7
  ·rw[VY k7,an,Wg]
   by_cases yT:ks.length=2
   ·have hz:(ks.length:Int)=2:=(by omega);have hw:i64.wrap ((2:Int) - 1)=1:=(by decide);have hm:ks.length - 1=1:=(by omega);have e1:=h.ex01 (by omega);have e2:=h.ex02 (by omega);have e3:=h.ex0m (by omega);have e4:=h.ex0n;have e5:=h.bs;rw[hz,hw]at e3;rw[hz]at e4 e5;simp only[hw,hz,hm,e1,e2,e3,e4,e5,h.pl,h.inn,h.gn,h.gf,VX,an,ah,cp,cn,ck,cj,cq,V9,We,Wc,Wa,Wf,Wd,Wh,Wi,eq_self,decide_true,decide_false,Int.reduceLT,Int.reduceLE,Int.reduceEq,Int.reduceToNat,Wo]
    try rfl
   by_cases hn3:ks.length=3
   ·have hz:(ks.length:Int)=3:=(by omega);have hw:i64.wrap ((3:Int) - 1)=2:=(by decide);have hm:ks.length - 1=2:=(by omega);have e1:=h.ex01 (by omega);have e2:=h.ex02 (by omega);have e3:=h.ex0m (by omega);have e4:=h.ex0n;have e5:=h.bs;rw[hz,hw]at e3;rw[hz]at e4 e5;simp only[hw,hz,hm,e1,e2,e3,e4,e5,h.pl,h.inn,h.gn,h.gf,VX,an,ah,cp,cn,ck,cj,cq,V9,We,Wc,Wa,Wf,Wd,Wh,Wi,eq_self,decide_true,decide_false,Int.reduceLT,Int.reduceLE,Int.reduceEq,Int.reduceToNat,Wo]
    try rfl
   have d2:decide ((ks.length:Int)=2)=false:=VW (by omega);have d3:decide ((ks.length:Int)=3)=false:=VW (by omega);simp only[d2,d3,h.pl,h.inn,h.gn,h.gf,h.ex0n,h.bs,VX,an,ah,cp,cn,ck,cj,cq,V9,We,Wc,Wa,Wf,Wd,Wh,Wi]
  rw[VW k7,ah,Wb]
  by_cases k8:kind=8
  ·rw[VY k8,an,Wg]
   by_cases yT:ks.length=2
   ·have hz:(ks.length:Int)=2:=(by omega);have hw:i64.wrap ((2:Int) - 1)=1:=(by decide);have hm:ks.length - 1=1:=(by omega);have e1:=h.ex01 (by omega);have e2:=h.ex02 (by omega);have e3:=h.ex0m (by omega);have e4:=h.ex0n;have e5:=h.bs;rw[hz,hw]at e3;rw[hz]at e4 e5;simp only[hw,hz,hm,e1,e2,e3,e4,e5,h.pl,h.inn,h.gn,h.gf,VX,an,ah,cp,cn,ck,cj,cq,V9,We,Wc,Wa,Wf,Wd,Wh,Wi,eq_self,decide_true,decide_false,Int.reduceLT,Int.reduceLE,Int.reduceEq,Int.reduceToNat,Wo]
    try rfl
   have d2:decide ((ks.length:Int)=2)=false:=VW (by omega);simp only[d2,h.pl,h.inn,h.gn,h.gf,h.ex0n,h.bs,VX,an,ah,cp,cn,ck,cj,cq,V9,We,Wc,Wa,Wf,Wd,Wh,Wi]
  rw[VW k8,ah,Wb]
  by_cases k9:kind=9
  ·rw[VY k9,an,Wg]
   by_cases hn3:ks.length=3
   ·have hz:(ks.length:Int)=3:=(by omega);have hw:i64.wrap ((3:Int) - 1)=2:=(by decide);have hm:ks.length - 1=2:=(by omega);have e1:=h.ex01 (by omega);have e2:=h.ex02 (by omega);have e3:=h.ex0m (by omega);have e4:=h.ex0n;have e5:=h.bs;rw[hz,hw]at e3;rw[hz]at e4 e5;simp only[hw,hz,hm,e1,e2,e3,e4,e5,h.pl,h.inn,h.gn,h.gf,VX,an,ah,cp,cn,ck,cj,cq,V9,We,Wc,Wa,Wf,Wd,Wh,Wi,eq_self,decide_true,decide_false,Int.reduceLT,Int.reduceLE,Int.reduceEq,Int.reduceToNat,Wo]
    try rfl
   by_cases hn4:ks.length=4
   ·have hz:(ks.length:Int)=4:=(by omega);have hw:i64.wrap ((4:Int) - 1)=3:=(by decide);have hm:ks.length - 1=3:=(by omega);have e1:=h.ex01 (by omega);have e2:=h.ex02 (by omega);have e3:=h.ex0m (by omega);have e4:=h.ex0n;have e5:=h.bs;rw[hz,hw]at e3;rw[hz]at e4 e5;simp only[hw,hz,hm,e1,e2,e3,e4,e5,h.pl,h.inn,h.gn,h.gf,VX,an,ah,cp,cn,ck,cj,cq,V9,We,Wc,Wa,Wf,Wd,Wh,Wi,eq_self,decide_true,decide_false,Int.reduceLT,Int.reduceLE,Int.reduceEq,Int.reduceToNat,Wo]
    try rfl
   have d3:decide ((ks.length:Int)=3)=false:=VW (by omega);have d4:decide ((ks.length:Int)=4)=false:=VW (by omega);simp only[d3,d4,h.pl,h.inn,h.gn,h.gf,h.ex0n,h.bs,VX,an,ah,cp,cn,ck,cj,cq,V9,We,Wc,Wa,Wf,Wd,Wh,Wi]
  rw[VW k9,ah,Wb]
  by_cases k10:kind=10
  ·rw[VY k10,an,Wg]
   by_cases yT:ks.length=2
   ·have hz:(ks.length:Int)=2:=(by omega);have hw:i64.wrap ((2:Int) - 1)=1:=(by decide);have hm:ks.length - 1=1:=(by omega);have e1:=h.ex01 (by omega);have e2:=h.ex02 (by omega);have e3:=h.ex0m (by omega);have e4:=h.ex0n;have e5:=h.bs;rw[hz,hw]at e3;rw[hz]at e4 e5;simp only[hw,hz,hm,e1,e2,e3,e4,e5,h.pl,h.inn,h.gn,h.gf,VX,an,ah,cp,cn,ck,cj,cq,V9,We,Wc,Wa,Wf,Wd,Wh,Wi,eq_self,decide_true,decide_false,Int.reduceLT,Int.reduceLE,Int.reduceEq,Int.reduceToNat,Wo]
    try rfl
   have d2:decide ((ks.length:Int)=2)=false:=VW (by omega);simp only[d2,h.pl,h.inn,h.gn,h.gf,h.ex0n,h.bs,VX,an,ah,cp,cn,ck,cj,cq,V9,We,Wc,Wa,Wf,Wd,Wh,Wi]
  rw[VW k10,ah,Wb]
  by_cases k11:kind=11
  ·rw[VY k11,an,Wg,MT]
   cases hR:R65 ks nn op num text kind true with
   |inl y=>rfl
   |inr y=>cases y with
    |inl y=>rfl
    |inr y=>exact y.elim
  rw[VW k11,ah,Wb]
  by_cases k12:kind=12
  ·rw[VY k12,an,Wg,MT]
   cases hR:R65 ks nn op num text kind true with
   |inl y=>rfl
   |inr y=>cases y with
    |inl y=>rfl
    |inr y=>exact y.elim
  rw[VW k12,ah,Wb]
  by_cases k20:kind=20
  ·rw[VY k20,an,Wg,MT]
   cases hR:R65 ks nn op num text kind true with
   |inl y=>rfl
   |inr y=>cases y with
    |inl y=>rfl
    |inr y=>exact y.elim
  rw[VW k20,ah,Wb]
  by_cases k21:kind=21
  ·rw[VY k21,an,Wg,MT]
   cases hR:R65 ks nn op num text kind true with
   |inl y=>rfl
   |inr y=>cases y with
    |inl y=>rfl
    |inr y=>exact y.elim
  rw[VW k21,ah,Wb]
  by_cases k22:kind=22
  ·rw[VY k22,an,Wg,MT]
   cases hR:R65 ks nn op num text kind true with
   |inl y=>rfl
   |inr y=>cases y with
    |inl y=>rfl
    |inr y=>exact y.elim
  rw[VW k22,ah,Wb];rw[MT]
  cases hR:R65 ks nn op num text kind (decide (kind=27))with
  |inl y=>rfl
  |inr y=>cases y with
   |inl y=>rfl
   |inr y=>exact y.elim
end Go.Abs.D
end

section
namespace Go.Abs.D
abbrev Tr:Type:=List aa.den×Unit
abbrev AnS:Type:=(Bool×Unit)⊕(Tr×aa.den×Int×Unit)⊕Empty
theorem gW {β:Type}{a c:Bool}:brk a (some (Sum.inl (false,()):(Bool×Unit)⊕β)) (some (Sum.inl (c,())))=some (Sum.inl (!a&&c,())):=by cases a<;>simp[an,ah]
def NM (names:List LI)(a b:Int):Bool:=decide (a≤(names.length:Int))&&(decide ((names.length:Int)≤b)&&names.all (cL 1))
structure SF (T:S.Tab)(t:Tr)(x:aa.den)(ks:LI)(names:List LI)(op num:Int)(text:LI):Prop where
 xop:x.2.2.2.2.1=op
 xnum:x.2.2.2.2.2.1=num
 xtext:x.2.2.2.2.2.2.1=text
 xlen:x.2.2.2.2.2.2.2.2.1.length=ks.length
 pl:∀a b c d,aP T x a b c d=some (PL d a b c (names.length:Int) op num text,aU)
 nm:∀a b,eZ T x a b=some (NM names a b,hZ)
 ex01:1≤ks.length→aN T t x 0 1=some (EX ks 0 1,bI)
 ex02:2≤ks.length→aN T t x 0 2=some (EX ks 0 2,bI)
 ex0n:aN T t x 0 (ks.length:Int)=some (EX ks 0 ks.length,bI)
 ex0m:1≤ks.length→aN T t x 0 (i64.wrap ((ks.length:Int) - 1))=some (EX ks 0 (ks.length - 1),bI)
 OU:1≤num→num≤ks.length→aN T t x num (ks.length:Int)=some (EX ks num.toNat ks.length,bI)
 k0:1≤ks.length→bh T t x 0=some (ks.getD 0 0,gJ)
 k1:2≤ks.length→bh T t x 1=some (ks.getD 1 0,gJ)
 k2:3≤ks.length→bh T t x 2=some (ks.getD 2 0,gJ)
 km:1≤ks.length→bh T t x (i64.wrap ((ks.length:Int) - 1))=some (ks.getD (ks.length - 1) 0,gJ)
 gn:eX T text=some (cL 1 text,dL)
 gf:lz T text=some (cL 3 text,fe)
 l5:bW T t x (ks.length:Int) 0=some (bif ks.all bN then Sum.inr (Sum.inl (x,()))else Sum.inl (false,()))
 l31:bJ T t x (ks.length:Int) 0=some (bif ks.all j2 then Sum.inr (Sum.inl (x,()))else Sum.inl (false,()))
 TQ:1≤num→num≤ks.length→bR T t x (ks.length:Int) 0=some (bif(bB ks 0 num.toNat).all dc then Sum.inr (Sum.inl (t,x,(ks.length:Int),()))else Sum.inl (false,()))
variable{t:Tr}{x:aa.den}{ks:LI}{names:List LI}{op num:Int}{text:LI}
def Q41 (t:Tr)(x:aa.den)(ks:LI)(names:List LI)(op num:Int)(text:LI)(kind:Int)(fl:Bool):AnS:=
 bif fl then Sum.inl (PL false false false false (names.length:Int) op num text&&(decide ((ks.length:Int)=0)),())else
 bif decide (kind=13)then Sum.inl (PL false false false false (names.length:Int) op num text&&(EX ks 0 ks.length),())else
 bif decide (kind=14)then Sum.inl (PL true false false false (names.length:Int) op num text&&(NM names 1 2&&(decide ((ks.length:Int)=2)&&(decide (ks.getD 0 0=1)&&(decide (ks.getD 1 0=1))))),())else
 Sum.inr (Sum.inl (t,x,(ks.length:Int),()))
theorem q41 {T:S.Tab}(h:SF T t x ks names op num text)(hl:ks.length≤200)(kind:Int)(fl:Bool):dX (S.step T) t x (ks.length:Int) kind fl=some (Q41 t x ks names op num text kind fl):=by
 rw[qu];unfold Q41
 cases fl with
 |true=>
  rw[an,Wg];simp only[h.xop,h.xnum,h.xtext,h.pl,h.nm,h.gn,h.gf,h.ex0n,VX,an,ah,cp,cn,gW,ck,cj,cq,V9,We,Wc,Wa,Wf,Wd,Wh,Wi,Wq,Wt,WG]
 |false=>
  rw[ah,Wb]
  by_cases k13:kind=13
  ·rw[VY k13,an,Wg];simp only[h.xop,h.xnum,h.xtext,h.pl,h.nm,h.gn,h.gf,h.ex0n,VX,an,ah,cp,cn,gW,ck,cj,cq,V9,We,Wc,Wa,Wf,Wd,Wh,Wi,Wq,Wt,WG]
  rw[VW k13,ah,Wb]
  by_cases k14:kind=14
  ·rw[VY k14,an,Wg]
   by_cases yT:ks.length=2
   ·have hz:(ks.length:Int)=2:=(by omega);have hw:i64.wrap ((2:Int) - 1)=1:=(by decide);have hm:ks.length - 1=1:=(by omega);have e0:=h.ex01 (by omega);have e1:=h.k0 (by omega);have e2:=h.ex02 (by omega);have e3:=h.k1 (by omega);have m0:=h.ex0m (by omega);have m1:=h.km (by omega);have m2:=h.ex0n;rw[hz,hw]at m0 m1;rw[hz]at m2;simp only[hw,hz,hm,e0,e1,e2,e3,m0,m1,m2,h.xop,h.xnum,h.xtext,h.pl,h.nm,h.gn,h.gf,VX,an,ah,cp,cn,gW,ck,cj,cq,V9,We,Wc,Wa,Wf,Wd,Wh,Wi,Wq,Wt,WG,eq_self,decide_true,decide_false,Int.reduceLT,Int.reduceLE,Int.reduceEq,Int.reduceToNat,Wo]
    try rfl
   have d2:decide ((ks.length:Int)=2)=false:=VW (by omega);simp only[d2,h.xop,h.xnum,h.xtext,h.pl,h.nm,h.gn,h.gf,h.ex0n,VX,an,ah,cp,cn,gW,ck,cj,cq,V9,We,Wc,Wa,Wf,Wd,Wh,Wi,Wq,Wt,WG]
  rw[VW k14,ah,Wb]
def Q28 (t:Tr)(x:aa.den)(ks:LI)(names:List LI)(op num:Int)(text:LI)(kind:Int)(fl:Bool):AnS:=
 bif fl then Sum.inl (PL false false false false (names.length:Int) op num text&&(decide ((ks.length:Int)=1)&&(decide (ks.getD 0 0=34))),())else
 bif decide (kind=7)then Sum.inl (PL false false false false (names.length:Int) op num text&&(!decide ((ks.length:Int)<2)&&(!decide ((3:Int)<(ks.length:Int))&&(EX ks 0 1&&(decide (ks.getD 1 0=1)&&((decide ((ks.length:Int)=2)||(decide (ks.getD 2 0=1)||decide (ks.getD 2 0=7)))))))),())else
 bif decide (kind=8)then Sum.inl (PL false false false false (names.length:Int) op num text&&(decide ((ks.length:Int)=2)&&(EX ks 0 1&&(decide (ks.getD 1 0=1)))),())else
 bif decide (kind=9)then Sum.inl (PL true false false false (names.length:Int) op num text&&(NM names 1 1&&((decide ((ks.length:Int)=3)||decide ((ks.length:Int)=4))&&(EX ks 0 (ks.length - 1)&&(decide (ks.getD (ks.length - 1) 0=1))))),())else
 bif decide (kind=10)then Sum.inl (PL true false false false (names.length:Int) op num text&&(NM names 1 200&&(decide ((ks.length:Int)=2)&&(EX ks 0 1&&(decide (ks.getD 1 0=1))))),())else
 bif decide (kind=11)then Q41 t x ks names op num text kind true else
 Q41 t x ks names op num text kind (decide (kind=12))
theorem q28 {T:S.Tab}(h:SF T t x ks names op num text)(hl:ks.length≤200)(kind:Int)(DT:∀fl,dX T t x (ks.length:Int) kind fl=some (Q41 t x ks names op num text kind fl))(fl:Bool):fb (S.step T) t x (ks.length:Int) kind fl=some (Q28 t x ks names op num text kind fl):=by
 rw[qv];unfold Q28
 cases fl with
 |true=>
  rw[an,Wg]
  by_cases Bg:ks.length=1
  ·have hz:(ks.length:Int)=1:=(by omega);have hw:i64.wrap ((1:Int) - 1)=0:=(by decide);have hm:ks.length - 1=0:=(by omega);have e0:=h.ex01 (by omega);have e1:=h.k0 (by omega);have m0:=h.ex0m (by omega);have m1:=h.km (by omega);have m2:=h.ex0n;rw[hz,hw]at m0 m1;rw[hz]at m2;simp only[hw,hz,hm,e0,e1,m0,m1,m2,h.xop,h.xnum,h.xtext,h.pl,h.nm,h.gn,h.gf,VX,an,ah,cp,cn,gW,ck,cj,cq,V9,We,Wc,Wa,Wf,Wd,Wh,Wi,Wq,Wt,WG,eq_self,decide_true,decide_false,Int.reduceLT,Int.reduceLE,Int.reduceEq,Int.reduceToNat,Wo]
   try rfl
  have d1:decide ((ks.length:Int)=1)=false:=VW (by omega);simp only[d1,h.xop,h.xnum,h.xtext,h.pl,h.nm,h.gn,h.gf,h.ex0n,VX,an,ah,cp,cn,gW,ck,cj,cq,V9,We,Wc,Wa,Wf,Wd,Wh,Wi,Wq,Wt,WG]
 |false=>
  rw[ah,Wb]
  by_cases k7:kind=7
  ·rw[VY k7,an,Wg]
   by_cases yT:ks.length=2
   ·have hz:(ks.length:Int)=2:=(by omega);have hw:i64.wrap ((2:Int) - 1)=1:=(by decide);have hm:ks.length - 1=1:=(by omega);have e0:=h.ex01 (by omega);have e1:=h.k0 (by omega);have e2:=h.ex02 (by omega);have e3:=h.k1 (by omega);have m0:=h.ex0m (by omega);have m1:=h.km (by omega);have m2:=h.ex0n;rw[hz,hw]at m0 m1;rw[hz]at m2;simp only[hw,hz,hm,e0,e1,e2,e3,m0,m1,m2,h.xop,h.xnum,h.xtext,h.pl,h.nm,h.gn,h.gf,VX,an,ah,cp,cn,gW,ck,cj,cq,V9,We,Wc,Wa,Wf,Wd,Wh,Wi,Wq,Wt,WG,eq_self,decide_true,decide_false,Int.reduceLT,Int.reduceLE,Int.reduceEq,Int.reduceToNat,Wo]
    try rfl
   by_cases hn3:ks.length=3
   ·have hz:(ks.length:Int)=3:=(by omega);have hw:i64.wrap ((3:Int) - 1)=2:=(by decide);have hm:ks.length - 1=2:=(by omega);have e0:=h.ex01 (by omega);have e1:=h.k0 (by omega);have e2:=h.ex02 (by omega);have e3:=h.k1 (by omega);have e4:=h.k2 (by omega);have m0:=h.ex0m (by omega);have m1:=h.km (by omega);have m2:=h.ex0n;rw[hz,hw]at m0 m1;rw[hz]at m2;simp only[hw,hz,hm,e0,e1,e2,e3,e4,m0,m1,m2,h.xop,h.xnum,h.xtext,h.pl,h.nm,h.gn,h.gf,VX,an,ah,cp,cn,gW,ck,cj,cq,V9,We,Wc,Wa,Wf,Wd,Wh,Wi,Wq,Wt,WG,eq_self,decide_true,decide_false,Int.reduceLT,Int.reduceLE,Int.reduceEq,Int.reduceToNat,Wo]
    try rfl
   by_cases hn:ks.length<2
   ·have d1:decide ((ks.length:Int)<2)=true:=VY (by omega);simp only[d1,h.xop,h.xnum,h.xtext,h.pl,h.nm,h.gn,h.gf,h.ex0n,VX,an,ah,cp,cn,gW,ck,cj,cq,V9,We,Wc,Wa,Wf,Wd,Wh,Wi,Wq,Wt,WG]
   ·have d1:decide ((ks.length:Int)<2)=false:=VW (by omega);have d2:decide ((3:Int)<(ks.length:Int))=true:=VY (by omega);simp only[d1,d2,h.xop,h.xnum,h.xtext,h.pl,h.nm,h.gn,h.gf,h.ex0n,VX,an,ah,cp,cn,gW,ck,cj,cq,V9,We,Wc,Wa,Wf,Wd,Wh,Wi,Wq,Wt,WG]
  rw[VW k7,ah,Wb]
  by_cases k8:kind=8
  ·rw[VY k8,an,Wg]
   by_cases yT:ks.length=2
   ·have hz:(ks.length:Int)=2:=(by omega);have hw:i64.wrap ((2:Int) - 1)=1:=(by decide);have hm:ks.length - 1=1:=(by omega);have e0:=h.ex01 (by omega);have e1:=h.k0 (by omega);have e2:=h.ex02 (by omega);have e3:=h.k1 (by omega);have m0:=h.ex0m (by omega);have m1:=h.km (by omega);have m2:=h.ex0n;rw[hz,hw]at m0 m1;rw[hz]at m2;simp only[hw,hz,hm,e0,e1,e2,e3,m0,m1,m2,h.xop,h.xnum,h.xtext,h.pl,h.nm,h.gn,h.gf,VX,an,ah,cp,cn,gW,ck,cj,cq,V9,We,Wc,Wa,Wf,Wd,Wh,Wi,Wq,Wt,WG,eq_self,decide_true,decide_false,Int.reduceLT,Int.reduceLE,Int.reduceEq,Int.reduceToNat,Wo]
    try rfl
   have d2:decide ((ks.length:Int)=2)=false:=VW (by omega);simp only[d2,h.xop,h.xnum,h.xtext,h.pl,h.nm,h.gn,h.gf,h.ex0n,VX,an,ah,cp,cn,gW,ck,cj,cq,V9,We,Wc,Wa,Wf,Wd,Wh,Wi,Wq,Wt,WG]
  rw[VW k8,ah,Wb]
  by_cases k9:kind=9
  ·rw[VY k9,an,Wg]
   by_cases hn3:ks.length=3
   ·have hz:(ks.length:Int)=3:=(by omega);have hw:i64.wrap ((3:Int) - 1)=2:=(by decide);have hm:ks.length - 1=2:=(by omega);have e0:=h.ex01 (by omega);have e1:=h.k0 (by omega);have e2:=h.ex02 (by omega);have e3:=h.k1 (by omega);have e4:=h.k2 (by omega);have m0:=h.ex0m (by omega);have m1:=h.km (by omega);have m2:=h.ex0n;rw[hz,hw]at m0 m1;rw[hz]at m2;simp only[hw,hz,hm,e0,e1,e2,e3,e4,m0,m1,m2,h.xop,h.xnum,h.xtext,h.pl,h.nm,h.gn,h.gf,VX,an,ah,cp,cn,gW,ck,cj,cq,V9,We,Wc,Wa,Wf,Wd,Wh,Wi,Wq,Wt,WG,eq_self,decide_true,decide_false,Int.reduceLT,Int.reduceLE,Int.reduceEq,Int.reduceToNat,Wo]
    try rfl
   by_cases hn4:ks.length=4
   ·have hz:(ks.length:Int)=4:=(by omega);have hw:i64.wrap ((4:Int) - 1)=3:=(by decide);have hm:ks.length - 1=3:=(by omega);have e0:=h.ex01 (by omega);have e1:=h.k0 (by omega);have e2:=h.ex02 (by omega);have e3:=h.k1 (by omega);have e4:=h.k2 (by omega);have m0:=h.ex0m (by omega);have m1:=h.km (by omega);have m2:=h.ex0n;rw[hz,hw]at m0 m1;rw[hz]at m2;simp only[hw,hz,hm,e0,e1,e2,e3,e4,m0,m1,m2,h.xop,h.xnum,h.xtext,h.pl,h.nm,h.gn,h.gf,VX,an,ah,cp,cn,gW,ck,cj,cq,V9,We,Wc,Wa,Wf,Wd,Wh,Wi,Wq,Wt,WG,eq_self,decide_true,decide_false,Int.reduceLT,Int.reduceLE,Int.reduceEq,Int.reduceToNat,Wo]
    try rfl
   have d3:decide ((ks.length:Int)=3)=false:=VW (by omega);have d4:decide ((ks.length:Int)=4)=false:=VW (by omega);simp only[d3,d4,h.xop,h.xnum,h.xtext,h.pl,h.nm,h.gn,h.gf,h.ex0n,VX,an,ah,cp,cn,gW,ck,cj,cq,V9,We,Wc,Wa,Wf,Wd,Wh,Wi,Wq,Wt,WG]
  rw[VW k9,ah,Wb]
  by_cases k10:kind=10
  ·rw[VY k10,an,Wg]
   by_cases yT:ks.length=2
   ·have hz:(ks.length:Int)=2:=(by omega);have hw:i64.wrap ((2:Int) - 1)=1:=(by decide);have hm:ks.length - 1=1:=(by omega);have e0:=h.ex01 (by omega);have e1:=h.k0 (by omega);have e2:=h.ex02 (by omega);have e3:=h.k1 (by omega);have m0:=h.ex0m (by omega);have m1:=h.km (by omega);have m2:=h.ex0n;rw[hz,hw]at m0 m1;rw[hz]at m2;simp only[hw,hz,hm,e0,e1,e2,e3,m0,m1,m2,h.xop,h.xnum,h.xtext,h.pl,h.nm,h.gn,h.gf,VX,an,ah,cp,cn,gW,ck,cj,cq,V9,We,Wc,Wa,Wf,Wd,Wh,Wi,Wq,Wt,WG,eq_self,decide_true,decide_false,Int.reduceLT,Int.reduceLE,Int.reduceEq,Int.reduceToNat,Wo]
    try rfl
   have d2:decide ((ks.length:Int)=2)=false:=VW (by omega);simp only[d2,h.xop,h.xnum,h.xtext,h.pl,h.nm,h.gn,h.gf,h.ex0n,VX,an,ah,cp,cn,gW,ck,cj,cq,V9,We,Wc,Wa,Wf,Wd,Wh,Wi,Wq,Wt,WG]
  rw[VW k10,ah,Wb]
  by_cases k11:kind=11
  ·rw[VY k11,an,Wg,DT]
   cases hR:Q41 t x ks names op num text kind true with
   |inl y=>rfl
   |inr y=>cases y with
    |inl y=>rfl
    |inr y=>exact y.elim
  rw[VW k11,ah,Wb];rw[DT]
  cases hR:Q41 t x ks names op num text kind (decide (kind=12))with
  |inl y=>rfl
  |inr y=>cases y with
   |inl y=>rfl
   |inr y=>exact y.elim
def Q18 (t:Tr)(x:aa.den)(ks:LI)(names:List LI)(op num:Int)(text:LI)(kind:Int)(fl:Bool):AnS:=
 bif fl then Sum.inl (decide ((ks.length:Int)=2)&&(EX ks 0 2&&(PL false false false false (names.length:Int) op num text)),())else
 bif decide (kind=32)then Sum.inl (decide ((ks.length:Int)=2)&&(EX ks 0 2&&(!decide (ks.getD 0 0=27)&&(PL false false false false (names.length:Int) op num text))),())else
 bif decide (kind=30)then Sum.inl (decide ((ks.length:Int)=1)&&(EX ks 0 1&&(PL false true false false (names.length:Int) op num text&&(decide ((19:Int)≤op)&&(decide (op≤22))))),())else
 bif decide (kind=31)then Sum.inl (decide ((ks.length:Int)=2)&&(EX ks 0 2&&(PL false true false false (names.length:Int) op num text&&(decide ((1:Int)≤op)&&(decide (op≤18))))),())else
 bif decide (kind=33)then Sum.inl (decide ((ks.length:Int)=1)&&(EX ks 0 1&&(!decide (ks.getD 0 0=27)&&(PL false false false true (names.length:Int) op num text&&(cL 1 text)))),())else
 bif decide (kind=34)then Sum.inl (decide ((1:Int)≤(ks.length:Int))&&(EX ks 0 ks.length&&(!decide (ks.getD 0 0=27)&&(PL false false false false (names.length:Int) op num text))),())else
 bif decide (kind=35)then Sum.inl (ks.all j2&&(PL false false false false (names.length:Int) op num text),())else
 bif decide (kind=36)then Sum.inl (decide ((ks.length:Int)=1)&&(decide (ks.getD 0 0=1)&&(PL true true false false (names.length:Int) op num text&&(NM names 0 200&&((decide (op=0)||decide (op=1)))))),())else
 bif decide (kind=37)then Sum.inl (decide ((ks.length:Int)=1)&&((decide (ks.getD 0 0=34)||decide (ks.getD 0 0=27))&&(PL false false false false (names.length:Int) op num text)),())else
 bif decide (kind=40)then Sum.inl (decide ((ks.length:Int)=1)&&(EX ks 0 1&&(PL false false false false (names.length:Int) op num text)),())else
 bif decide (kind=41)then Sum.inl (decide ((ks.length:Int)=2)&&(EX ks 0 2&&(PL false false false false (names.length:Int) op num text)),())else
 Sum.inr (Sum.inl (t,x,(ks.length:Int),()))
theorem q18 {T:S.Tab}(h:SF T t x ks names op num text)(hl:ks.length≤200)(kind:Int)(fl:Bool):dw (S.step T) t x (ks.length:Int) kind fl=some (Q18 t x ks names op num text kind fl):=by
 rw[pR];unfold Q18
 cases fl with
 |true=>
  rw[an,Wg]
  by_cases yT:ks.length=2
  ·have hz:(ks.length:Int)=2:=(by omega);have hw:i64.wrap ((2:Int) - 1)=1:=(by decide);have hm:ks.length - 1=1:=(by omega);have e0:=h.ex01 (by omega);have e1:=h.k0 (by omega);have e2:=h.ex02 (by omega);have e3:=h.k1 (by omega);have m0:=h.ex0m (by omega);have m1:=h.km (by omega);have m2:=h.ex0n;rw[hz,hw]at m0 m1;rw[hz]at m2;simp only[hw,hz,hm,e0,e1,e2,e3,m0,m1,m2,h.xop,h.xnum,h.xtext,h.pl,h.nm,h.gn,h.gf,VX,an,ah,cp,cn,gW,ck,cj,cq,V9,We,Wc,Wa,Wf,Wd,Wh,Wi,Wq,Wt,WG,eq_self,decide_true,decide_false,Int.reduceLT,Int.reduceLE,Int.reduceEq,Int.reduceToNat,Wo]
   try rfl
  have d2:decide ((ks.length:Int)=2)=false:=VW (by omega);simp only[d2,h.xop,h.xnum,h.xtext,h.pl,h.nm,h.gn,h.gf,h.ex0n,VX,an,ah,cp,cn,gW,ck,cj,cq,V9,We,Wc,Wa,Wf,Wd,Wh,Wi,Wq,Wt,WG]
 |false=>
  rw[ah,Wb]
  by_cases k32:kind=32
  ·rw[VY k32,an,Wg]
   by_cases yT:ks.length=2
   ·have hz:(ks.length:Int)=2:=(by omega);have hw:i64.wrap ((2:Int) - 1)=1:=(by decide);have hm:ks.length - 1=1:=(by omega);have e0:=h.ex01 (by omega);have e1:=h.k0 (by omega);have e2:=h.ex02 (by omega);have e3:=h.k1 (by omega);have m0:=h.ex0m (by omega);have m1:=h.km (by omega);have m2:=h.ex0n;rw[hz,hw]at m0 m1;rw[hz]at m2;simp only[hw,hz,hm,e0,e1,e2,e3,m0,m1,m2,h.xop,h.xnum,h.xtext,h.pl,h.nm,h.gn,h.gf,VX,an,ah,cp,cn,gW,ck,cj,cq,V9,We,Wc,Wa,Wf,Wd,Wh,Wi,Wq,Wt,WG,eq_self,decide_true,decide_false,Int.reduceLT,Int.reduceLE,Int.reduceEq,Int.reduceToNat,Wo]
    try rfl
   have d2:decide ((ks.length:Int)=2)=false:=VW (by omega);simp only[d2,h.xop,h.xnum,h.xtext,h.pl,h.nm,h.gn,h.gf,h.ex0n,VX,an,ah,cp,cn,gW,ck,cj,cq,V9,We,Wc,Wa,Wf,Wd,Wh,Wi,Wq,Wt,WG]
  rw[VW k32,ah,Wb]
  by_cases k30:kind=30
  ·rw[VY k30,an,Wg]
   by_cases Bg:ks.length=1
   ·have hz:(ks.length:Int)=1:=(by omega);have hw:i64.wrap ((1:Int) - 1)=0:=(by decide);have hm:ks.length - 1=0:=(by omega);have e0:=h.ex01 (by omega);have e1:=h.k0 (by omega);have m0:=h.ex0m (by omega);have m1:=h.km (by omega);have m2:=h.ex0n;rw[hz,hw]at m0 m1;rw[hz]at m2;simp only[hw,hz,hm,e0,e1,m0,m1,m2,h.xop,h.xnum,h.xtext,h.pl,h.nm,h.gn,h.gf,VX,an,ah,cp,cn,gW,ck,cj,cq,V9,We,Wc,Wa,Wf,Wd,Wh,Wi,Wq,Wt,WG,eq_self,decide_true,decide_false,Int.reduceLT,Int.reduceLE,Int.reduceEq,Int.reduceToNat,Wo]
    try rfl
   have d1:decide ((ks.length:Int)=1)=false:=VW (by omega);simp only[d1,h.xop,h.xnum,h.xtext,h.pl,h.nm,h.gn,h.gf,h.ex0n,VX,an,ah,cp,cn,gW,ck,cj,cq,V9,We,Wc,Wa,Wf,Wd,Wh,Wi,Wq,Wt,WG]
  rw[VW k30,ah,Wb]
  by_cases k31:kind=31
  ·rw[VY k31,an,Wg]
   by_cases yT:ks.length=2
   ·have hz:(ks.length:Int)=2:=(by omega);have hw:i64.wrap ((2:Int) - 1)=1:=(by decide);have hm:ks.length - 1=1:=(by omega);have e0:=h.ex01 (by omega);have e1:=h.k0 (by omega);have e2:=h.ex02 (by omega);have e3:=h.k1 (by omega);have m0:=h.ex0m (by omega);have m1:=h.km (by omega);have m2:=h.ex0n;rw[hz,hw]at m0 m1;rw[hz]at m2;simp only[hw,hz,hm,e0,e1,e2,e3,m0,m1,m2,h.xop,h.xnum,h.xtext,h.pl,h.nm,h.gn,h.gf,VX,an,ah,cp,cn,gW,ck,cj,cq,V9,We,Wc,Wa,Wf,Wd,Wh,Wi,Wq,Wt,WG,eq_self,decide_true,decide_false,Int.reduceLT,Int.reduceLE,Int.reduceEq,Int.reduceToNat,Wo]
    try rfl
   have d2:decide ((ks.length:Int)=2)=false:=VW (by omega);simp only[d2,h.xop,h.xnum,h.xtext,h.pl,h.nm,h.gn,h.gf,h.ex0n,VX,an,ah,cp,cn,gW,ck,cj,cq,V9,We,Wc,Wa,Wf,Wd,Wh,Wi,Wq,Wt,WG]
  rw[VW k31,ah,Wb]
  by_cases k33:kind=33
  ·rw[VY k33,an,Wg]
   by_cases Bg:ks.length=1
   ·have hz:(ks.length:Int)=1:=(by omega);have hw:i64.wrap ((1:Int) - 1)=0:=(by decide);have hm:ks.length - 1=0:=(by omega);have e0:=h.ex01 (by omega);have e1:=h.k0 (by omega);have m0:=h.ex0m (by omega);have m1:=h.km (by omega);have m2:=h.ex0n;rw[hz,hw]at m0 m1;rw[hz]at m2;simp only[hw,hz,hm,e0,e1,m0,m1,m2,h.xop,h.xnum,h.xtext,h.pl,h.nm,h.gn,h.gf,VX,an,ah,cp,cn,gW,ck,cj,cq,V9,We,Wc,Wa,Wf,Wd,Wh,Wi,Wq,Wt,WG,eq_self,decide_true,decide_false,Int.reduceLT,Int.reduceLE,Int.reduceEq,Int.reduceToNat,Wo]
    try rfl
   have d1:decide ((ks.length:Int)=1)=false:=VW (by omega);simp only[d1,h.xop,h.xnum,h.xtext,h.pl,h.nm,h.gn,h.gf,h.ex0n,VX,an,ah,cp,cn,gW,ck,cj,cq,V9,We,Wc,Wa,Wf,Wd,Wh,Wi,Wq,Wt,WG]
  rw[VW k33,ah,Wb]
  by_cases k34:kind=34
  ·rw[VY k34,an,Wg]
   by_cases hn:1≤ks.length
   ·have d1:decide ((1:Int)≤(ks.length:Int))=true:=VY (by omega);have e1:=h.k0 hn;simp only[d1,e1,h.xop,h.xnum,h.xtext,h.pl,h.nm,h.gn,h.gf,h.ex0n,VX,an,ah,cp,cn,gW,ck,cj,cq,V9,We,Wc,Wa,Wf,Wd,Wh,Wi,Wq,Wt,WG]
   ·have d1:decide ((1:Int)≤(ks.length:Int))=false:=VW (by omega);simp only[d1,h.xop,h.xnum,h.xtext,h.pl,h.nm,h.gn,h.gf,h.ex0n,VX,an,ah,cp,cn,gW,ck,cj,cq,V9,We,Wc,Wa,Wf,Wd,Wh,Wi,Wq,Wt,WG]
  rw[VW k34,ah,Wb]
  by_cases k35:kind=35
  ·rw[VY k35,an,Wg];simp only[h.xlen];rw[h.l31]
   cases ks.all j2 with
   |true=>simp only[Wg,VX,bC,Wn,Wx,h.pl,V9]
   |false=>rfl
  rw[VW k35,ah,Wb]
  by_cases k36:kind=36
  ·rw[VY k36,an,Wg]
   by_cases Bg:ks.length=1
   ·have hz:(ks.length:Int)=1:=(by omega);have hw:i64.wrap ((1:Int) - 1)=0:=(by decide);have hm:ks.length - 1=0:=(by omega);have e0:=h.ex01 (by omega);have e1:=h.k0 (by omega);have m0:=h.ex0m (by omega);have m1:=h.km (by omega);have m2:=h.ex0n;rw[hz,hw]at m0 m1;rw[hz]at m2;simp only[hw,hz,hm,e0,e1,m0,m1,m2,h.xop,h.xnum,h.xtext,h.pl,h.nm,h.gn,h.gf,VX,an,ah,cp,cn,gW,ck,cj,cq,V9,We,Wc,Wa,Wf,Wd,Wh,Wi,Wq,Wt,WG,eq_self,decide_true,decide_false,Int.reduceLT,Int.reduceLE,Int.reduceEq,Int.reduceToNat,Wo]
    try rfl
   have d1:decide ((ks.length:Int)=1)=false:=VW (by omega);simp only[d1,h.xop,h.xnum,h.xtext,h.pl,h.nm,h.gn,h.gf,h.ex0n,VX,an,ah,cp,cn,gW,ck,cj,cq,V9,We,Wc,Wa,Wf,Wd,Wh,Wi,Wq,Wt,WG]
  rw[VW k36,ah,Wb]
  by_cases k37:kind=37
  ·rw[VY k37,an,Wg]
   by_cases Bg:ks.length=1
   ·have hz:(ks.length:Int)=1:=(by omega);have hw:i64.wrap ((1:Int) - 1)=0:=(by decide);have hm:ks.length - 1=0:=(by omega);have e0:=h.ex01 (by omega);have e1:=h.k0 (by omega);have m0:=h.ex0m (by omega);have m1:=h.km (by omega);have m2:=h.ex0n;rw[hz,hw]at m0 m1;rw[hz]at m2;simp only[hw,hz,hm,e0,e1,m0,m1,m2,h.xop,h.xnum,h.xtext,h.pl,h.nm,h.gn,h.gf,VX,an,ah,cp,cn,gW,ck,cj,cq,V9,We,Wc,Wa,Wf,Wd,Wh,Wi,Wq,Wt,WG,eq_self,decide_true,decide_false,Int.reduceLT,Int.reduceLE,Int.reduceEq,Int.reduceToNat,Wo]
    try rfl
   have d1:decide ((ks.length:Int)=1)=false:=VW (by omega);simp only[d1,h.xop,h.xnum,h.xtext,h.pl,h.nm,h.gn,h.gf,h.ex0n,VX,an,ah,cp,cn,gW,ck,cj,cq,V9,We,Wc,Wa,Wf,Wd,Wh,Wi,Wq,Wt,WG]
  rw[VW k37,ah,Wb]
  by_cases k40:kind=40
  ·rw[VY k40,an,Wg]
   by_cases Bg:ks.length=1
   ·have hz:(ks.length:Int)=1:=(by omega);have hw:i64.wrap ((1:Int) - 1)=0:=(by decide);have hm:ks.length - 1=0:=(by omega);have e0:=h.ex01 (by omega);have e1:=h.k0 (by omega);have m0:=h.ex0m (by omega);have m1:=h.km (by omega);have m2:=h.ex0n;rw[hz,hw]at m0 m1;rw[hz]at m2;simp only[hw,hz,hm,e0,e1,m0,m1,m2,h.xop,h.xnum,h.xtext,h.pl,h.nm,h.gn,h.gf,VX,an,ah,cp,cn,gW,ck,cj,cq,V9,We,Wc,Wa,Wf,Wd,Wh,Wi,Wq,Wt,WG,eq_self,decide_true,decide_false,Int.reduceLT,Int.reduceLE,Int.reduceEq,Int.reduceToNat,Wo]
    try rfl
   have d1:decide ((ks.length:Int)=1)=false:=VW (by omega);simp only[d1,h.xop,h.xnum,h.xtext,h.pl,h.nm,h.gn,h.gf,h.ex0n,VX,an,ah,cp,cn,gW,ck,cj,cq,V9,We,Wc,Wa,Wf,Wd,Wh,Wi,Wq,Wt,WG]
  rw[VW k40,ah,Wb]
  by_cases k41:kind=41
  ·rw[VY k41,an,Wg]
   by_cases yT:ks.length=2
   ·have hz:(ks.length:Int)=2:=(by omega);have hw:i64.wrap ((2:Int) - 1)=1:=(by decide);have hm:ks.length - 1=1:=(by omega);have e0:=h.ex01 (by omega);have e1:=h.k0 (by omega);have e2:=h.ex02 (by omega);have e3:=h.k1 (by omega);have m0:=h.ex0m (by omega);have m1:=h.km (by omega);have m2:=h.ex0n;rw[hz,hw]at m0 m1;rw[hz]at m2;simp only[hw,hz,hm,e0,e1,e2,e3,m0,m1,m2,h.xop,h.xnum,h.xtext,h.pl,h.nm,h.gn,h.gf,VX,an,ah,cp,cn,gW,ck,cj,cq,V9,We,Wc,Wa,Wf,Wd,Wh,Wi,Wq,Wt,WG,eq_self,decide_true,decide_false,Int.reduceLT,Int.reduceLE,Int.reduceEq,Int.reduceToNat,Wo]
    try rfl
   have d2:decide ((ks.length:Int)=2)=false:=VW (by omega);simp only[d2,h.xop,h.xnum,h.xtext,h.pl,h.nm,h.gn,h.gf,h.ex0n,VX,an,ah,cp,cn,gW,ck,cj,cq,V9,We,Wc,Wa,Wf,Wd,Wh,Wi,Wq,Wt,WG]
  rw[VW k41,ah,Wb]
def Q7 (t:Tr)(x:aa.den)(ks:LI)(names:List LI)(op num:Int)(text:LI)(kind:Int)(fl:Bool):AnS:=
 bif fl then Sum.inl (decide ((ks.length:Int)=0)&&(PL false false false false (names.length:Int) op num text),())else
 bif decide (kind=23)then Sum.inl (decide ((ks.length:Int)=0)&&(PL false false true false (names.length:Int) op num text),())else
 bif decide (kind=24)then Sum.inl (decide ((ks.length:Int)=0)&&(PL false false false true (names.length:Int) op num text&&(cL 3 text)),())else
 bif decide (kind=25)then Sum.inl (decide ((ks.length:Int)=0)&&(PL false false false true (names.length:Int) op num text&&(decide ((text.length:Int)≤4000))),())else
 bif decide (kind=26)then Sum.inl (decide ((ks.length:Int)=0)&&(PL false false false true (names.length:Int) op num text&&(cL 1 text)),())else
 bif decide (kind=28)then Q18 t x ks names op num text kind true else
 Q18 t x ks names op num text kind (decide (kind=29))
theorem q7 {T:S.Tab}(h:SF T t x ks names op num text)(hl:ks.length≤200)(kind:Int)(Om:∀fl,dw T t x (ks.length:Int) kind fl=some (Q18 t x ks names op num text kind fl))(fl:Bool):cP (S.step T) t x (ks.length:Int) kind fl=some (Q7 t x ks names op num text kind fl):=by
 rw[qp];unfold Q7
 cases fl with
 |true=>
  rw[an,Wg];simp only[h.xop,h.xnum,h.xtext,h.pl,h.nm,h.gn,h.gf,h.ex0n,VX,an,ah,cp,cn,gW,ck,cj,cq,V9,We,Wc,Wa,Wf,Wd,Wh,Wi,Wq,Wt,WG]
 |false=>
  rw[ah,Wb]
  by_cases k23:kind=23
  ·rw[VY k23,an,Wg];simp only[h.xop,h.xnum,h.xtext,h.pl,h.nm,h.gn,h.gf,h.ex0n,VX,an,ah,cp,cn,gW,ck,cj,cq,V9,We,Wc,Wa,Wf,Wd,Wh,Wi,Wq,Wt,WG]
  rw[VW k23,ah,Wb]
  by_cases k24:kind=24
  ·rw[VY k24,an,Wg];simp only[h.xop,h.xnum,h.xtext,h.pl,h.nm,h.gn,h.gf,h.ex0n,VX,an,ah,cp,cn,gW,ck,cj,cq,V9,We,Wc,Wa,Wf,Wd,Wh,Wi,Wq,Wt,WG]
  rw[VW k24,ah,Wb]
  by_cases k25:kind=25
  ·rw[VY k25,an,Wg];simp only[h.xop,h.xnum,h.xtext,h.pl,h.nm,h.gn,h.gf,h.ex0n,VX,an,ah,cp,cn,gW,ck,cj,cq,V9,We,Wc,Wa,Wf,Wd,Wh,Wi,Wq,Wt,WG]
  rw[VW k25,ah,Wb]
  by_cases k26:kind=26
  ·rw[VY k26,an,Wg];simp only[h.xop,h.xnum,h.xtext,h.pl,h.nm,h.gn,h.gf,h.ex0n,VX,an,ah,cp,cn,gW,ck,cj,cq,V9,We,Wc,Wa,Wf,Wd,Wh,Wi,Wq,Wt,WG]
  rw[VW k26,ah,Wb]
  by_cases k28:kind=28
  ·rw[VY k28,an,Wg,Om]
   cases hR:Q18 t x ks names op num text kind true with
   |inl y=>rfl
   |inr y=>cases y with
    |inl y=>rfl
    |inr y=>exact y.elim
  rw[VW k28,ah,Wb];rw[Om]
  cases hR:Q18 t x ks names op num text kind (decide (kind=29))with
  |inl y=>rfl
  |inr y=>cases y with
   |inl y=>rfl
   |inr y=>exact y.elim
end Go.Abs.D
end

section
namespace Go.Abs.D
theorem xx {R α:Type}{F:S.Tab→Nat→Option R}{P:α→Bool}{l:List α}{yes no:R}{q:S.Tab→Prop}(hq:Evt fun n=>q (S.tab n))
  (hs:∀T j (h:j<l.length),q T→F (S.step T) j=bif P l[j]then F T (j+1)else some no) (he:∀T,q T→F (S.step T) l.length=some yes):
  ∀k j,j+k=l.length→Evt fun n=>F (S.tab n) j=some (bif(l.drop j).all P then yes else no)
 |0,j,h=>hq.up fun n hT=>by
  show F (S.step (S.tab n)) j=_;have:j=l.length:=(by omega);subst this;rw[he _ hT,List.drop_length];rfl
 |k+1,j,h=>by
  have hj:j<l.length:=(by omega)
  refine(hq.and (xx hq hs he k (j+1) (by omega))).up fun n ⟨hT,ih⟩=> ?_
  show F (S.step (S.tab n)) j=_;rw[hs _ j hj hT,List.drop_eq_getElem_cons hj,List.all_cons]
  cases hp:P l[j]with
  |true=>rw[Wg,ih,V9]
  |false=>rfl
theorem oY {l:LI}{j:Nat}(h:j<l.length):l.getD (j:Int).toNat 0=l[j]:=by
 rw[Int.toNat_natCast,Wm,Wl h];rfl
theorem GO {l:List LI}{j:Nat}(h:j<l.length):l.getD (j:Int).toNat []=l[j]:=by
 rw[Int.toNat_natCast,Wm,Wl h];rfl
theorem HR:Evt fun n=>∀v,pG (S.tab n) v=some (bN v,pY):=AW.up fun n h v=>by
 rw[za,h];rfl
theorem Ca:Evt fun n=>∀v,mG (S.tab n) v=some (fG v,qb):=AW.up fun n h v=>by
 rw[zj,h];rfl
theorem PA:Evt fun n=>∀a b c d nn op num text,aK (S.tab n) a b c d nn op num text=some (PL a b c d nn op num text,(),(),(),(),nn,op,num,text,()):=aB.up fun n _ a b c d nn op num text=>by
 rw[xd];unfold PL
 generalize decide (nn=0)=p
 generalize decide (op=0)=q
 generalize decide (num=0)=r
 generalize decide (text=[])=s
 cases a<;>cases b<;>cases c<;>cases d<;>cases p<;>cases q<;>cases r<;>simp only[an,ah,Wh,Wd,V9,Wc]
theorem Jk (ks l:LI)(hl:l.length≤2097152):Evt fun n=>dY (S.tab n) ks l (l.length:Int) 0=some (bif l.all fG then Sum.inr (Sum.inl (ks,()))else Sum.inl (ks,false,())):=by
 have:=xx (F:=fun T j=>dY T ks l (l.length:Int) ↑j) (P:=fG) (l:=l) (yes:=Sum.inr (Sum.inl (ks,()))) (no:=Sum.inl (ks,false,())) (q:=fun T=>∀v,mG T v=some (fG v,qb)) Ca
  (fun T j h hT=>by
   show dY (S.step T) _ _ _ _=bif _ then dY T ks l (l.length:Int) ((j+1:Nat):Int)else _
   rw[nr,ak (by omega),aj (av h),oY h,hT,VX,bf (by omega)]
   cases fG l[j]with
   |true=>rw[ay (by rfl)];rfl
   |false=>rw[aj (by rfl)];rfl)
  (fun T hT=>by
   show dY (S.step T) _ _ _ _=_
   rw[nr,ay (by simp)]) l.length 0 (by omega)
 rw[List.drop_zero]at this;exact this
theorem E1 (ks:LI)(hl:ks.length≤200)(i j:Nat)(h1:i≤j)(h2:j≤ks.length):Evt fun n=>aL (S.tab n) ↑i ↑j ks=some (EX ks i j,(),(),ks,()):=by
 have hs:(bB ks i j).length≤2097152:=by rw[oS h2];omega
 refine(Jk ks (bB ks i j) hs).up fun n h=> ?_
 rw[wY,aj (b9 h1 h2),nH,h];unfold EX;cases(bB ks i j).all fG<;>rfl
theorem PG (ks:LI)(hl:ks.length≤200):Evt fun n=>iT (S.tab n) (ks.length:Int) ks=some (BS ks,(ks.length:Int),ks,()):=Ca.up fun n h=>by
 rw[w6];unfold BS
 by_cases h0:1≤ks.length
 ·have d1:decide ((0:Int)<(ks.length:Int))=true:=VY (by omega);rw[ak (by omega),aj d1,h,VX,VY h0];have g0:ks.getD 0 0=get ks 0:=rfl;rw[g0]
  cases fG (get ks 0)with
  |true=>rw[aj (by rfl),aj d1];rfl
  |false=>rw[ay (by rfl)];rfl
 ·rw[ae (by omega),VW h0];rfl
theorem Ni (nn op num:Int)(text:LI)(l:LI)(hl:l.length≤2097152):Evt fun n=>dI (S.tab n) nn op num text l (l.length:Int) 0=some (bif l.all bN then Sum.inr (Sum.inl (nn,op,num,text,()))else Sum.inl (false,())):=by
 have:=xx (F:=fun T j=>dI T nn op num text l (l.length:Int) ↑j) (P:=bN) (l:=l) (yes:=Sum.inr (Sum.inl (nn,op,num,text,()))) (no:=Sum.inl (false,())) (q:=fun T=>∀v,pG T v=some (bN v,pY)) HR
  (fun T j h hT=>by
   show dI (S.step T) _ _ _ _ _ _ _=bif _ then dI T nn op num text l (l.length:Int) ((j+1:Nat):Int)else _
   rw[oy,ak (by omega),aj (av h),oY h,hT,VX,bf (by omega)]
   cases bN l[j]with
   |true=>rw[ay (by rfl)];rfl
   |false=>rw[aj (by rfl)];rfl)
  (fun T hT=>by
   show dI (S.step T) _ _ _ _ _ _ _=_
   rw[oy,ay (by simp)]) l.length 0 (by omega)
 rw[List.drop_zero]at this;exact this
theorem Nt (nn op num:Int)(text:LI)(l:LI)(hl:l.length≤2097152):Evt fun n=>dO (S.tab n) nn op num text l (l.length:Int) 0=some (bif l.all j2 then Sum.inr (Sum.inl (nn,op,num,text,()))else Sum.inl (false,())):=by
 have:=xx (F:=fun T j=>dO T nn op num text l (l.length:Int) ↑j) (P:=j2) (l:=l) (yes:=Sum.inr (Sum.inl (nn,op,num,text,()))) (no:=Sum.inl (false,())) (q:=fun T=>∀v lo hi,je T v lo hi=some (decide (lo≤v)&&decide (v≤hi),qE)) AW
  (fun T j h hT=>by
   show dO (S.step T) _ _ _ _ _ _ _=bif _ then dO T nn op num text l (l.length:Int) ((j+1:Nat):Int)else _
   rw[n9,ak (by omega),aj (av h),oY h,hT,VX,bf (by omega)];show brk (!j2 l[j]) _ _=_
   cases j2 l[j]with
   |true=>rw[ay (by rfl)];rfl
   |false=>rw[aj (by rfl)];rfl)
  (fun T hT=>by
   show dO (S.step T) _ _ _ _ _ _ _=_
   rw[n9,ay (by simp)]) l.length 0 (by omega)
 rw[List.drop_zero]at this;exact this
theorem Na (ks:LI)(num nk:Int)(l:LI)(hl:l.length≤2097152):Evt fun n=>bG (S.tab n) ks num nk l (l.length:Int) 0=some (bif l.all dc then Sum.inr (Sum.inl (ks,num,nk,()))else Sum.inl (false,())):=by
 have:=xx (F:=fun T j=>bG T ks num nk l (l.length:Int) ↑j) (P:=dc) (l:=l) (yes:=Sum.inr (Sum.inl (ks,num,nk,()))) (no:=Sum.inl (false,())) (q:=Base2) aB
  (fun T j h hT=>by
   show bG (S.step T) _ _ _ _ _ _=bif _ then bG T ks num nk l (l.length:Int) ((j+1:Nat):Int)else _
   rw[ov,ak (by omega),aj (av h),oY h,bf (by omega)];unfold dc
   cases decide (l[j]=26)with
   |true=>rw[ay (by rfl)];rfl
   |false=>
    rw[aj (by rfl)]
    cases decide (l[j]=32)with
    |true=>rw[ay (by rfl)];rfl
    |false=>
     rw[aj (by rfl)]
     cases decide (l[j]=33)with
     |true=>rw[ay (by rfl)];rfl
     |false=>rw[aj (by rfl)];rfl)
  (fun T hT=>by
   show bG (S.step T) _ _ _ _ _ _=_
   rw[ov,ay (by simp)]) l.length 0 (by omega)
 rw[List.drop_zero]at this;exact this
theorem Evt.imp {p:Prop}{q:Nat→Prop}(h:p→Evt q):Evt fun n=>p→q n:=by
 by_cases hp:p
 ·exact(h hp).mono fun n h _=>h
 ·exact Evt.of fun n h=>absurd h hp
theorem Py (ks:LI)(hl:ks.length≤200)(nn op num:Int)(text:LI)(hb:∀c∈text,isByte c):Evt fun n=>IF (S.tab n) ks nn op num text:=by
 have hw:1≤ks.length→i64.wrap ((ks.length:Int) - 1)=((ks.length - 1:Nat):Int):=fun h=>by rw[wrap64 _ (by omega) (by omega)];omega
 have a1:=PA
 have a2:Evt fun n=>1≤ks.length→aL (S.tab n) 0 1 ks=some (EX ks 0 1,(),(),ks,()):=Evt.imp fun h=>E1 ks hl 0 1 (by omega) h
 have a3:Evt fun n=>2≤ks.length→aL (S.tab n) 0 2 ks=some (EX ks 0 2,(),(),ks,()):=Evt.imp fun h=>E1 ks hl 0 2 (by omega) h
 have a4:Evt fun n=>aL (S.tab n) 0 (ks.length:Int) ks=some (EX ks 0 ks.length,(),(),ks,()):=E1 ks hl 0 ks.length (by omega) (Wp _)
 have a5:Evt fun n=>1≤ks.length→aL (S.tab n) 0 (i64.wrap ((ks.length:Int) - 1)) ks=some (EX ks 0 (ks.length - 1),(),(),ks,()):=Evt.imp fun h=>by
  rw[hw h];exact E1 ks hl 0 (ks.length - 1) (by omega) (by omega)
 have a6:Evt fun n=>(1≤num∧num≤ks.length)→aL (S.tab n) num (ks.length:Int) ks=some (EX ks num.toNat ks.length,(),(),ks,()):=Evt.imp fun h=>by
  have:=E1 ks hl num.toNat ks.length (by omega) (Wp _);rw[Int.toNat_of_nonneg (by omega)]at this;exact this
 have a7:=PG ks hl;have a8:=sG (s:=text) hb;have a9:=vK (s:=text) hb;have b1:=AW;have b2:=Ni nn op num text ks (by omega);have b3:=Nt nn op num text ks (by omega)
 have b4:Evt fun n=>(1≤num∧num≤ks.length)→bG (S.tab n) ks num (ks.length:Int) (sub ks 0 num) ((sub ks 0 num).length:Int) 0=some (bif(bB ks 0 num.toNat).all dc then Sum.inr (Sum.inl (ks,num,(ks.length:Int),()))else Sum.inl (false,())):=Evt.imp fun h=>by
  have e:sub ks 0 num=bB ks 0 num.toNat:=rfl;rw[e];exact Na ks num ks.length _ (by rw[oS (by omega)];omega)
 refine((((a1.and a2).and (a3.and a4)).and ((a5.and a6).and (a7.and a8))).and (((a9.and b1).and (b2.and b3)).and b4)).mono fun n ⟨⟨⟨⟨a1,a2⟩,a3,a4⟩,⟨a5,a6⟩,a7,a8⟩,⟨⟨a9,b1⟩,b2,b3⟩,b4⟩=> ?_
 exact⟨fun a b c d=>a1 a b c d nn op num text,a2,a3,a4,a5,fun h1 h2=>a6 ⟨h1,h2⟩,a7,a8,a9,b1,b2,b3,fun h1 h2=>b4 ⟨h1,h2⟩⟩
end Go.Abs.D
end

section
namespace Go.Abs.D
def ab (x:aa.den):LI:=x.2.2.2.2.2.2.2.2.1
def al (x:aa.den):List LI:=x.2.2.2.2.2.2.2.1
def fO (ns:List aa.den)(k:Int):Int:=(at_ (τ:=aa) ns k).1
def af (ns:List aa.den)(x:aa.den):LI:=(ab x).map (fO ns)
theorem yO {ns:List aa.den}{x:aa.den}{j:Nat}(h:j<(ab x).length):(af ns x).getD j 0=fO ns ((ab x)[j]):=by
 unfold af;rw[Wm,List.getElem?_map,Wl h];rfl
theorem EW {x:aa.den}{j:Nat}(h:j<(ab x).length):x.2.2.2.2.2.2.2.2.1.getD (j:Int).toNat 0=(ab x)[j]:=oY h
theorem Dd:Evt fun n=>∀v,jx (S.tab n) v=some (bN v,mf):=aB.up fun n _ v=>by
 rw[zB];unfold bN
 cases decide ((1:Int)≤v)with
 |true=>rw[aj rfl];rfl
 |false=>rw[ay rfl];rfl
theorem La:Evt fun n=>∀v,sH (S.tab n) v=some (fG v,qc):=aB.up fun n _ v=>by
 rw[zE];unfold fG
 cases decide ((20:Int)≤v)with
 |true=>rw[aj rfl];rfl
 |false=>rw[ay rfl];rfl
theorem HB:Evt fun n=>∀v,qg (S.tab n) v=some (dc v,ku):=aB.up fun n _ v=>by
 rw[wV];unfold dc
 cases decide (v=26)with
 |true=>rw[aj rfl];rfl
 |false=>
  rw[ay rfl]
  cases decide (v=32)with
  |true=>rw[aj rfl];rfl
  |false=>rw[ay rfl];rfl
theorem LD (x:aa.den):Evt fun n=>∀a b c d,aP (S.tab n) x a b c d=some (PL d a b c ((al x).length:Int) x.2.2.2.2.1 x.2.2.2.2.2.1 x.2.2.2.2.2.2.1,aU):=aB.up fun n _ a b c d=>by
 rw[zy];unfold PL al
 generalize decide ((x.2.2.2.2.2.2.2.1.length:Int)=0)=p
 generalize decide (x.2.2.2.2.1=0)=q
 generalize decide (x.2.2.2.2.2.1=0)=r
 generalize decide (x.2.2.2.2.2.2.1=[])=s
 cases a<;>cases b<;>cases c<;>cases d<;>cases q<;>cases r<;>cases s<;>simp only[an,ah,Wh,Wd,V9,Wc,We,Wa]
theorem Eb (l:List LI)(hl:l.length≤2097152):Evt fun n=>dP (S.tab n) l (l.length:Int) 0=some (bif l.all (cL 1)then Sum.inr (Sum.inl ())else Sum.inl (false,())):=by
 have:=xx (F:=fun T j=>dP T l (l.length:Int) ↑j) (P:=cL 1) (l:=l) (yes:=Sum.inr (Sum.inl ())) (no:=Sum.inl (false,())) (q:=fun T=>∀s∈l,eX T s=some (cL 1 s,dL)) (yI l fun s=>Cd (s:=s))
  (fun T j h hT=>by
   show dP (S.step T) _ _ _=bif _ then dP T l (l.length:Int) ((j+1:Nat):Int)else _
   rw[oB,ak (by omega),aj (av h),GO h,hT _ (WO h),VX,bf (by omega)]
   cases cL 1 l[j]with
   |true=>rw[ay (by rfl)];rfl
   |false=>rw[aj (by rfl)];rfl)
  (fun T hT=>by
   show dP (S.step T) _ _ _=_
   rw[oB,ay (by simp)]) l.length 0 (by omega)
 rw[List.drop_zero]at this;exact this
theorem Js (x:aa.den)(hl:(al x).length≤2097152):Evt fun n=>∀a b,eZ (S.tab n) x a b=some (NM (al x) a b,hZ):=(Eb (al x) hl).up fun n h a b=>by
 have h:dP (S.tab n) x.2.2.2.2.2.2.2.1 (x.2.2.2.2.2.2.2.1.length:Int) 0=_:=h;rw[yq,h];unfold NM
 by_cases h1:a≤((al x).length:Int)
 ·have d1:decide ((x.2.2.2.2.2.2.2.1.length:Int)<a)=false:=VW (by unfold al at h1;omega);rw[ay d1,VY h1]
  by_cases h2:((al x).length:Int)≤b
  ·have d2:decide (b<(x.2.2.2.2.2.2.2.1.length:Int))=false:=VW (by unfold al at h2;omega);rw[ay d2,VY h2];cases(al x).all (cL 1)<;>rfl
  ·have d2:decide (b<(x.2.2.2.2.2.2.2.1.length:Int))=true:=VY (by unfold al at h2;omega);rw[aj d2,VW h2];rfl
 ·have d1:decide ((x.2.2.2.2.2.2.2.1.length:Int)<a)=true:=VY (by unfold al at h1;omega);rw[aj d1,VW h1];rfl
variable{ns:List aa.den}{x:aa.den}(hk:∀k∈ab x,0≤k∧k<(ns.length:Int))(hl:(ab x).length≤200)
include hk
theorem JE {j:Nat}(h:j<(ab x).length):(decide ((0:Int)≤(ab x)[j])&&decide ((ab x)[j]<(ns.length:Int)))=true:=by
 have:=hk _ (WO h);rw[VY this.1,VY this.2];rfl
theorem Dw:Evt fun n=>∀j:Nat,j<(ab x).length→bh (S.tab n) (ns,()) x (j:Int)=some ((af ns x).getD j 0,gJ):=aB.up fun n _ j h=>by
 have hi:(decide ((0:Int)≤(j:Int))&&decide ((j:Int)<(x.2.2.2.2.2.2.2.2.1.length:Int)))=true:=av h;rw[Bz,aj hi,EW h,aj (JE hk h),yO h];rfl
include hl
theorem xA (j:Nat)(hj:j≤(ab x).length):∀(k i:Nat),i+k=j→Evt fun n=>kr (S.tab n) ↑j (ns,()) x (i:Int)=some (bif EX (af ns x) i j then Sum.inr (Sum.inl ())else Sum.inl (false,()))
 |0,i,h=>aB.up fun n _=>by
  have:i=j:=(by omega);subst this;rw[oe,ay (by simp)];unfold EX;rw[jA];rfl
 |k+1,i,h=>by
  have hi:i<(ab x).length:=(by omega)
  refine((xA j hj k (i+1) (by omega)).and La).up fun n ⟨ih,he⟩=> ?_
  have rI:(decide ((0:Int)≤(i:Int))&&decide ((i:Int)<(x.2.2.2.2.2.2.2.2.1.length:Int)))=true:=av hi
  have hx:EX (af ns x) i j=(fG (fO ns (ab x)[i])&&EX (af ns x) (i+1) j):=by
   unfold EX bB
   have qm:i<((af ns x).take j).length:=by rw[WA];unfold af;rw[List.length_map];omega
   rw[List.drop_eq_getElem_cons qm,List.all_cons]
   congr 2
   rw[List.getElem_take];unfold af;rw[List.getElem_map]
  rw[oe,ak (by omega),aj rI,EW hi,aj (JE hk hi),bf (by omega),hx];have e:(at_ (τ:=aa) (ns,()).1 (ab x)[i]).1=fO ns (ab x)[i]:=rfl;rw[e,he,VX]
  cases fG (fO ns (ab x)[i])with
  |true=>rw[ay (by rfl),ih];rfl
  |false=>rw[aj (by rfl)];rfl
theorem sZ (i j:Nat)(h1:i≤j)(h2:j≤(ab x).length):Evt fun n=>aN (S.tab n) (ns,()) x ↑i (j:Int)=some (EX (af ns x) i j,bI):=(xA hk hl j h2 (j - i) i (by omega)).up fun n h=>by
 rw[yh,h];cases EX (af ns x) i j<;>rfl
theorem NB:Evt fun n=>bW (S.tab n) (ns,()) x ((ab x).length:Int) 0=some (bif(af ns x).all bN then Sum.inr (Sum.inl (x,()))else Sum.inl (false,())):=by
 have:=xx (F:=fun T j=>bW T (ns,()) x ((ab x).length:Int) ↑j) (P:=fun k=>bN (fO ns k)) (l:=ab x) (yes:=Sum.inr (Sum.inl (x,()))) (no:=Sum.inl (false,()))
  (q:=fun T=>(∀v,jx T v=some (bN v,mf))∧∀j:Nat,j<(ab x).length→bh T (ns,()) x (j:Int)=some ((af ns x).getD j 0,gJ)) (Dd.and (Dw hk))
  (fun T j h hT=>by
   show bW (S.step T) _ _ _ _=bif _ then bW T (ns,()) x ((ab x).length:Int) ((j+1:Nat):Int)else _
   rw[kZ,ak (by omega),hT.2 j h,VX,yO h,hT.1,VX,bf (by omega)]
   cases bN (fO ns (ab x)[j])with
   |true=>rw[ay (by rfl)];rfl
   |false=>rw[aj (by rfl)];rfl)
  (fun T hT=>by
   show bW (S.step T) _ _ _ _=_
   rw[kZ,ay (by simp)]) (ab x).length 0 (by omega)
 rw[List.drop_zero]at this;unfold af;rw[List.all_map];exact this
theorem LH:Evt fun n=>bJ (S.tab n) (ns,()) x ((ab x).length:Int) 0=some (bif(af ns x).all j2 then Sum.inr (Sum.inl (x,()))else Sum.inl (false,())):=by
 have:=xx (F:=fun T j=>bJ T (ns,()) x ((ab x).length:Int) ↑j) (P:=fun k=>j2 (fO ns k)) (l:=ab x) (yes:=Sum.inr (Sum.inl (x,()))) (no:=Sum.inl (false,()))
  (q:=fun T=>∀j:Nat,j<(ab x).length→bh T (ns,()) x (j:Int)=some ((af ns x).getD j 0,gJ)) (Dw hk)
  (fun T j h hT=>by
   show bJ (S.step T) _ _ _ _=bif _ then bJ T (ns,()) x ((ab x).length:Int) ((j+1:Nat):Int)else _
   rw[j8,ak (by omega),hT j h,VX,yO h,bf (by omega)];simp only;unfold j2
   by_cases h1:40≤fO ns (ab x)[j]
   ·rw[ae (by omega),VY h1]
    by_cases h2:fO ns (ab x)[j]≤42
    ·rw[ae (by omega),VY h2];rfl
    ·rw[ak (by omega),VW h2];rfl
   ·rw[ak (by omega),VW h1];rfl)
  (fun T hT=>by
   show bJ (S.step T) _ _ _ _=_
   rw[j8,ay (by simp)]) (ab x).length 0 (by omega)
 rw[List.drop_zero]at this;unfold af;rw[List.all_map];exact this
theorem GM (m:Nat)(hm:x.2.2.2.2.2.1=(m:Int))(IE:m≤(ab x).length)(nk:Int):∀(k i:Nat),i+k=m→Evt fun n=>bR (S.tab n) (ns,()) x nk (i:Int)=some (bif(bB (af ns x) i m).all dc then Sum.inr (Sum.inl ((ns,()),x,nk,()))else Sum.inl (false,()))
 |0,i,h=>aB.up fun n _=>by
  have:i=m:=(by omega);subst this;rw[kK,hm,ay (by simp),jA];rfl
 |k+1,i,h=>by
  have hi:i<(ab x).length:=(by omega)
  refine((GM m hm IE nk k (i+1) (by omega)).and (HB.and (Dw hk))).up fun n ⟨ih,ht,U7⟩=> ?_
  have hx:(bB (af ns x) i m).all dc=(dc (fO ns (ab x)[i])&&(bB (af ns x) (i+1) m).all dc):=by
   unfold bB
   have qm:i<((af ns x).take m).length:=by rw[WA];unfold af;rw[List.length_map];omega
   rw[List.drop_eq_getElem_cons qm,List.all_cons]
   congr 2
   rw[List.getElem_take];unfold af;rw[List.getElem_map]
  rw[kK,hm,ak (by omega),U7 i hi,VX,yO hi,ht,VX,bf (by omega),hx]
  cases dc (fO ns (ab x)[i])with
  |true=>rw[ay (by rfl),ih];rfl
  |false=>rw[aj (by rfl)];rfl
theorem Mq (hn:(al x).length≤2097152):Evt fun n=>SF (S.tab n) (ns,()) x (af ns x) (al x) x.2.2.2.2.1 x.2.2.2.2.2.1 x.2.2.2.2.2.2.1:=by
 have hlen:(af ns x).length=(ab x).length:=by unfold af;rw[List.length_map]
 have hw:1≤(af ns x).length→i64.wrap (((af ns x).length:Int) - 1)=(((af ns x).length - 1:Nat):Int):=fun h=>by rw[wrap64 _ (by omega) (by omega)];omega
 have a1:=LD x;have a2:=Js x hn
 have a3:Evt fun n=>1≤(af ns x).length→aN (S.tab n) (ns,()) x 0 1=some (EX (af ns x) 0 1,bI):=Evt.imp fun h=>sZ hk hl 0 1 (by omega) (by omega)
 have a4:Evt fun n=>2≤(af ns x).length→aN (S.tab n) (ns,()) x 0 2=some (EX (af ns x) 0 2,bI):=Evt.imp fun h=>sZ hk hl 0 2 (by omega) (by omega)
 have a5:Evt fun n=>aN (S.tab n) (ns,()) x 0 ((af ns x).length:Int)=some (EX (af ns x) 0 (af ns x).length,bI):=sZ hk hl 0 (af ns x).length (by omega) (by omega)
 have a6:Evt fun n=>1≤(af ns x).length→aN (S.tab n) (ns,()) x 0 (i64.wrap (((af ns x).length:Int) - 1))=some (EX (af ns x) 0 ((af ns x).length - 1),bI):=Evt.imp fun h=>by
  rw[hw h];exact sZ hk hl 0 ((af ns x).length - 1) (by omega) (by omega)
 have a7:Evt fun n=>(1≤x.2.2.2.2.2.1∧x.2.2.2.2.2.1≤((af ns x).length:Int))→aN (S.tab n) (ns,()) x x.2.2.2.2.2.1 ((af ns x).length:Int)=some (EX (af ns x) (Int.toNat x.2.2.2.2.2.1) (af ns x).length,bI):=by
  have aux:∀z:Int,Evt fun n=>(1≤z∧z≤((af ns x).length:Int))→aN (S.tab n) (ns,()) x z ((af ns x).length:Int)=some (EX (af ns x) z.toNat (af ns x).length,bI):=fun z=>Evt.imp fun⟨h1,h2⟩=>by
   obtain⟨m,rfl⟩:∃m:Nat,z=m:=⟨z.toNat,by omega⟩;exact sZ hk hl m (af ns x).length (by omega) (by omega)
  exact aux x.2.2.2.2.2.1
 have a8:=Dw hk;have a9:=Cd (s:=x.2.2.2.2.2.2.1);have b1:=Ja (s:=x.2.2.2.2.2.2.1);have b2:=NB hk hl;have b3:=LH hk hl
 have b4:Evt fun n=>(1≤x.2.2.2.2.2.1∧x.2.2.2.2.2.1≤((af ns x).length:Int))→bR (S.tab n) (ns,()) x ((af ns x).length:Int) 0=some (bif(bB (af ns x) 0 (Int.toNat x.2.2.2.2.2.1)).all dc then Sum.inr (Sum.inl ((ns,()),x,((af ns x).length:Int),()))else Sum.inl (false,())):=by
  have aux:∀z:Int,x.2.2.2.2.2.1=z→Evt fun n=>(1≤z∧z≤((af ns x).length:Int))→bR (S.tab n) (ns,()) x ((af ns x).length:Int) 0=some (bif(bB (af ns x) 0 z.toNat).all dc then Sum.inr (Sum.inl ((ns,()),x,((af ns x).length:Int),()))else Sum.inl (false,())):=fun z hz=>Evt.imp fun⟨h1,h2⟩=>by
   obtain⟨m,rfl⟩:∃m:Nat,z=m:=⟨z.toNat,by omega⟩;exact GM hk hl m hz (by omega) _ m 0 (by omega)
  exact aux x.2.2.2.2.2.1 rfl
 refine((((a1.and a2).and (a3.and a4)).and ((a5.and a6).and (a7.and a8))).and (((a9.and b1).and (b2.and b3)).and b4)).mono fun n ⟨⟨⟨⟨a1,a2⟩,a3,a4⟩,⟨a5,a6⟩,a7,a8⟩,⟨⟨a9,b1⟩,b2,b3⟩,b4⟩=> ?_
 rw[←hlen]at b2 b3;exact⟨rfl,rfl,rfl,hlen.symm,a1,a2,a3,a4,a5,a6,fun h1 h2=>a7 ⟨h1,h2⟩,fun h=>a8 0 (by omega),fun h=>a8 1 (by omega),fun h=>a8 2 (by omega),fun h=>by rw[hw h];exact a8 _ (by omega),a9,b1,b2,b3,fun h1 h2=>b4 ⟨h1,h2⟩⟩
end Go.Abs.D
end

section
namespace Go.Abs.D
def KI (ks:LI)(names:List LI)(op num:Int)(text:LI)(kind:Int):Bool:=
 bif decide (kind=1)then ks.all bN&&PL false false false false (names.length:Int) op num text else
 bif decide (kind=2)then PL true false false false (names.length:Int) op num text&&(decide ((1:Int)≤(names.length:Int))&&EX ks 0 ks.length)else
 bif decide (kind=3)then PL true false false false (names.length:Int) op num text&&(decide ((names.length:Int)=1)&&(decide ((ks.length:Int)=1)&&EX ks 0 1))else
 bif decide (kind=4)then PL true false false false (names.length:Int) op num text&&(decide ((names.length:Int)=1)&&(decide ((ks.length:Int)=1)&&decide (ks.getD 0 0=36)))else
 bif decide (kind=5)then PL false false true false (names.length:Int) op num text&&(decide (1≤num)&&(decide (num<(ks.length:Int))&&((bB ks 0 num.toNat).all dc&&EX ks num.toNat ks.length)))else
 bif decide (kind=6)then(R50 ks (names.length:Int) op num text kind true).val else(R50 ks (names.length:Int) op num text kind (decide (kind=16))).val
def An2 (y:AnS)(b:Bool):Bool:=y.elim (fun y=>y.1) fun _=>b
def KS (t:Tr)(x:aa.den)(ks:LI)(names:List LI)(op num:Int)(text:LI)(kind:Int):Bool:=
 bif decide (kind=1)then ks.all bN&&PL false false false false (names.length:Int) op num text else
 bif decide (kind=2)then PL true false false false (names.length:Int) op num text&&(NM names 1 200&&EX ks 0 ks.length)else
 bif decide (kind=3)then PL true false false false (names.length:Int) op num text&&(NM names 1 1&&(decide ((ks.length:Int)=1)&&EX ks 0 1))else
 bif decide (kind=4)then PL true false false false (names.length:Int) op num text&&(NM names 1 1&&(decide ((ks.length:Int)=1)&&decide (ks.getD 0 0=36)))else
 bif decide (kind=5)then PL false false true false (names.length:Int) op num text&&(decide (1≤num)&&(decide (num<(ks.length:Int))&&((bB ks 0 num.toNat).all dc&&EX ks num.toNat ks.length)))else
 An2 (bif decide (kind=6)then Q28 t x ks names op num text kind true else Q28 t x ks names op num text kind (decide (kind=16))) (bif decide (kind=15)then PL false false false false (names.length:Int) op num text&&(decide ((ks.length:Int)=1)&&EX ks 0 1)else false)
def KE (t:Tr)(x:aa.den)(ks:LI)(names:List LI)(op num:Int)(text:LI)(kind:Int):Bool:=
 An2 (bif decide (kind=20)then Q7 t x ks names op num text kind true else bif decide (kind=21)then Q7 t x ks names op num text kind true else bif decide (kind=22)then Q7 t x ks names op num text kind true else Q7 t x ks names op num text kind (decide (kind=27)))
  (bif decide (kind=42)then decide ((ks.length:Int)=1)&&(EX ks 0 1&&(PL false false false true (names.length:Int) op num text&&cL 1 text))else false)
theorem HL {ks:LI}{nn op num:Int}{text:LI}{kind:Int}(h:kind<1∨42<kind∨(16<kind∧kind<20)∨(37<kind∧kind<40)):(R50 ks nn op num text kind (decide (kind=16))).val=false:=by
 have ne:∀c:Int,(1≤c∧c≤16)∨(20≤c∧c≤37)∨(40≤c∧c≤42)→decide (kind=c)=false:=fun c hc=>VW (by omega)
 unfold R50;rw[ne 16 (by omega),ne 7 (by omega),ne 8 (by omega),ne 9 (by omega),ne 10 (by omega),ne 11 (by omega),ne 12 (by omega),ne 20 (by omega),ne 21 (by omega),ne 22 (by omega),ne 27 (by omega)];simp only[Wb];unfold R65;rw[ne 13 (by omega),ne 14 (by omega),ne 15 (by omega),ne 40 (by omega)];simp only[Wb];unfold R72;rw[ne 23 (by omega),ne 24 (by omega),ne 25 (by omega),ne 26 (by omega),ne 28 (by omega),ne 29 (by omega),ne 41 (by omega)];simp only[Wb];unfold R84;rw[ne 30 (by omega),ne 31 (by omega),ne 32 (by omega),ne 33 (by omega),ne 34 (by omega),ne 35 (by omega),ne 36 (by omega),ne 37 (by omega),ne 42 (by omega)];rfl
theorem FD {t:Tr}{x:aa.den}{ks:LI}{names:List LI}{op num:Int}{text:LI}{kind:Int}(h:kind<1∨42<kind∨(16<kind∧kind<20)∨(37<kind∧kind<40)):KE t x ks names op num text kind=false:=by
 have ne:∀c:Int,(1≤c∧c≤16)∨(20≤c∧c≤37)∨(40≤c∧c≤42)→decide (kind=c)=false:=fun c hc=>VW (by omega)
 unfold KE;rw[ne 20 (by omega),ne 21 (by omega),ne 22 (by omega),ne 27 (by omega),ne 42 (by omega)];simp only[Wb];unfold Q7;rw[ne 23 (by omega),ne 24 (by omega),ne 25 (by omega),ne 26 (by omega),ne 28 (by omega),ne 29 (by omega)];simp only[Wb];unfold Q18;rw[ne 30 (by omega),ne 31 (by omega),ne 32 (by omega),ne 33 (by omega),ne 34 (by omega),ne 35 (by omega),ne 36 (by omega),ne 37 (by omega),ne 40 (by omega),ne 41 (by omega)];rfl
theorem K9 {α:Type}{l:List α}(h:l.length=1):∃a,l=[a]:=by
 match l,h with
 |[a],_=>exact⟨a,rfl⟩
theorem LN {α:Type}{l:List α}(h:l.length=2):∃a b,l=[a,b]:=by
 match l,h with
 |[a,b],_=>exact⟨a,b,rfl⟩
theorem Nx (a:Int):EX [a] 0 1=fG a:=by simp[EX,bB]
theorem NN (a b:Int):EX [a,b] 0 2=(fG a&&fG b):=by simp[EX,bB]
theorem NL (a:Int)(r:LI):EX (a::r) 0 (a::r).length=(fG a&&r.all fG):=by
 unfold EX bB;rw[List.take_length,List.drop_zero,List.all_cons]
theorem bs1 (ks:LI):(decide ((ks.length:Int)=1)&&BS ks)=(decide ((ks.length:Int)=1)&&(EX ks 0 1&& !decide (ks.getD 0 0=27))):=by
 by_cases h:ks.length=1
 ·obtain⟨a,rfl⟩:=K9 h;rw[Nx];rfl
 ·rw[VW (show¬ (ks.length:Int)=1 by omega)];rfl
theorem bs2 (ks:LI):(decide ((ks.length:Int)=2)&&(BS ks&&EX ks 0 2))=(decide ((ks.length:Int)=2)&&(EX ks 0 2&& !decide (ks.getD 0 0=27))):=by
 by_cases h:ks.length=2
 ·obtain⟨a,b,rfl⟩:=LN h;rw[NN];show(true&&(true&&(fG a&& !decide (a=27))&&(fG a&&fG b)))=(true&&(fG a&&fG b&& !decide (a=27)));cases fG a<;>cases fG b<;>cases decide (a=27)<;>rfl
 ·rw[VW (show¬ (ks.length:Int)=2 by omega)];rfl
theorem bsn (ks:LI):(BS ks&&EX ks 0 ks.length)=(decide ((1:Int)≤(ks.length:Int))&&(EX ks 0 ks.length&& !decide (ks.getD 0 0=27))):=by
 cases ks with
 |nil=>rfl
 |cons a r=>
  rw[NL,VY (show(1:Int)≤((a::r).length:Int)by simp;omega)];show(true&&(fG a&& !decide (a=27))&&(fG a&&r.all fG))=(true&&(fG a&&r.all fG&& !decide (a=27)));cases fG a<;>cases r.all fG<;>cases decide (a=27)<;>rfl
theorem n23 (n:Int)(h0:0≤n)(Z:Bool):(!decide (n<2)&&(!decide ((3:Int)<n)&&Z))=((decide (n=2)||decide (n=3))&&Z):=by
 by_cases h2:n=2
 ·subst h2;rfl
 by_cases h3:n=3
 ·subst h3;rfl
 rw[VW h2,VW h3]
 by_cases h:n<2
 ·rw[VY h];rfl
 ·rw[VY (show(3:Int)<n by omega)];simp
theorem un (names:List LI)(b c d:Bool)(op num:Int)(text:LI)(Z:Bool):
  (decide ((names.length:Int)≤200)&&(names.all (cL 1)&&(PL false b c d (names.length:Int) op num text&&Z)))=(PL false b c d (names.length:Int) op num text&&Z):=by
 cases names with
 |nil=>rfl
 |cons m r=>
  have:PL false b c d ((m::r).length:Int) op num text=false:=by
   unfold PL;rw[VW (show¬ ((m::r).length:Int)=0 by simp;omega)];rfl
  rw[this];simp
theorem un2 (names:List LI)(b c d:Bool)(op num:Int)(text:LI)(Z:Bool):
  (decide ((names.length:Int)≤200)&&(names.all (cL 1)&&(Z&&PL false b c d (names.length:Int) op num text)))=(Z&&PL false b c d (names.length:Int) op num text):=by
 rw[Bool.and_comm Z,un]
theorem nm1 (names:List LI)(p Z:Bool):(decide ((names.length:Int)≤200)&&(names.all (cL 1)&&(p&&(decide ((names.length:Int)=1)&&Z))))=(p&&(NM names 1 1&&Z)):=by
 unfold NM
 by_cases h:(names.length:Int)=1
 ·rw[h];show(true&&(names.all (cL 1)&&(p&&(true&&Z))))=(p&&((true&&(true&&names.all (cL 1)))&&Z));cases names.all (cL 1)<;>cases p<;>rfl
 ·rw[VW h]
  have:(decide ((1:Int)≤(names.length:Int))&&(decide ((names.length:Int)≤1)&&names.all (cL 1)))=false:=by
   by_cases h1:(1:Int)≤(names.length:Int)
   ·rw[VW (show¬ (names.length:Int)≤1 by omega)];simp
   ·rw[VW h1];rfl
  rw[this];simp
theorem nm2 (names:List LI)(p Z:Bool):(decide ((names.length:Int)≤200)&&(names.all (cL 1)&&(p&&((decide ((names.length:Int)=1)||decide ((names.length:Int)=2))&&Z))))=(p&&(NM names 1 2&&Z)):=by
 unfold NM
 by_cases h:(names.length:Int)=1
 ·rw[h];show(true&&(names.all (cL 1)&&(p&&(true&&Z))))=(p&&((true&&(true&&names.all (cL 1)))&&Z));cases names.all (cL 1)<;>cases p<;>rfl
 by_cases h':(names.length:Int)=2
 ·rw[h'];show(true&&(names.all (cL 1)&&(p&&(true&&Z))))=(p&&((true&&(true&&names.all (cL 1)))&&Z));cases names.all (cL 1)<;>cases p<;>rfl
 ·rw[VW h,VW h']
  have:(decide ((1:Int)≤(names.length:Int))&&(decide ((names.length:Int)≤2)&&names.all (cL 1)))=false:=by
   by_cases h1:(1:Int)≤(names.length:Int)
   ·rw[VW (show¬ (names.length:Int)≤2 by omega)];simp
   ·rw[VW h1];rfl
  rw[this];simp
theorem nmn (names:List LI)(p Z:Bool):(decide ((names.length:Int)≤200)&&(names.all (cL 1)&&(p&&(decide ((1:Int)≤(names.length:Int))&&Z))))=(p&&(NM names 1 200&&Z)):=by
 unfold NM
 generalize decide ((names.length:Int)≤200)=a
 generalize names.all (cL 1)=b
 generalize decide ((1:Int)≤(names.length:Int))=c
 cases a<;>cases b<;>cases c<;>cases p<;>rfl
theorem nm0 (names:List LI):NM names 0 200=(decide ((names.length:Int)≤200)&&names.all (cL 1)):=by
 unfold NM;rw[VY (show(0:Int)≤(names.length:Int)by omega)];rfl
theorem R9 (op:Int):(decide ((0:Int)≤op)&&decide (op≤1))=(decide (op=0)||decide (op=1)):=by
 by_cases h0:op=0
 ·subst h0;rfl
 by_cases h1:op=1
 ·subst h1;rfl
 rw[VW h0,VW h1]
 by_cases h:(0:Int)≤op
 ·rw[VW (show¬ op≤1 by omega)];simp
 ·rw[VW h];rfl
theorem alike (t:Tr)(x:aa.den)(ks:LI)(names:List LI)(op num:Int)(text:LI)(kind:Int):
  (decide ((names.length:Int)≤200)&&(names.all (cL 1)&&KI ks names op num text kind))=bif bN kind then KS t x ks names op num text kind else KE t x ks names op num text kind:=by
 by_cases ho:kind<1∨42<kind∨(16<kind∧kind<20)∨(37<kind∧kind<40)
 ·have hs:bN kind=false:=by
   unfold bN;rw[WR,V8,V8];omega
  have ne:∀c:Int,(1≤c∧c≤16)→decide (kind=c)=false:=fun c hc=>VW (by omega)
  rw[hs,Wb,FD ho];unfold KI;rw[ne 1 (by omega),ne 2 (by omega),ne 3 (by omega),ne 4 (by omega),ne 5 (by omega),ne 6 (by omega)];simp only[Wb];rw[HL ho,Wa,Wa]
 have hk:kind=1∨kind=2∨kind=3∨kind=4∨kind=5∨kind=6∨kind=7∨kind=8∨kind=9∨kind=10∨kind=11∨kind=12∨kind=13∨kind=14∨kind=15∨kind=16∨kind=20∨kind=21∨kind=22∨kind=23∨kind=24∨kind=25∨kind=26∨kind=27∨kind=28∨kind=29∨kind=30∨kind=31∨kind=32∨kind=33∨kind=34∨kind=35∨kind=36∨kind=37∨kind=40∨kind=41∨kind=42:=(by omega);clear ho
 rcases hk with rfl|rfl|rfl|rfl|rfl|rfl|rfl|rfl|rfl|rfl|rfl|rfl|rfl|rfl|rfl|rfl|rfl|rfl|rfl|rfl|rfl|rfl|rfl|rfl|rfl|rfl|rfl|rfl|rfl|rfl|rfl|rfl|rfl|rfl|rfl|rfl|rfl
 ·simp only[KI,KS,KE,bN,R50,R65,R72,R84,Q28,Q41,Q7,Q18,An.val,An2,Int.reduceEq,Int.reduceLE,decide_true,decide_false,Wg,Wb,Wn,Wx,Wo,We,V9,Wa,Wc,Wh,Wi,Wf,Wd];rw[un2]
 ·simp only[KI,KS,KE,bN,R50,R65,R72,R84,Q28,Q41,Q7,Q18,An.val,An2,Int.reduceEq,Int.reduceLE,decide_true,decide_false,Wg,Wb,Wn,Wx,Wo,We,V9,Wa,Wc,Wh,Wi,Wf,Wd];rw[nmn]
 ·simp only[KI,KS,KE,bN,R50,R65,R72,R84,Q28,Q41,Q7,Q18,An.val,An2,Int.reduceEq,Int.reduceLE,decide_true,decide_false,Wg,Wb,Wn,Wx,Wo,We,V9,Wa,Wc,Wh,Wi,Wf,Wd];rw[nm1]
 ·simp only[KI,KS,KE,bN,R50,R65,R72,R84,Q28,Q41,Q7,Q18,An.val,An2,Int.reduceEq,Int.reduceLE,decide_true,decide_false,Wg,Wb,Wn,Wx,Wo,We,V9,Wa,Wc,Wh,Wi,Wf,Wd];rw[nm1]
 ·simp only[KI,KS,KE,bN,R50,R65,R72,R84,Q28,Q41,Q7,Q18,An.val,An2,Int.reduceEq,Int.reduceLE,decide_true,decide_false,Wg,Wb,Wn,Wx,Wo,We,V9,Wa,Wc,Wh,Wi,Wf,Wd];rw[un]
 ·simp only[KI,KS,KE,bN,R50,R65,R72,R84,Q28,Q41,Q7,Q18,An.val,An2,Int.reduceEq,Int.reduceLE,decide_true,decide_false,Wg,Wb,Wn,Wx,Wo,We,V9,Wa,Wc,Wh,Wi,Wf,Wd];rw[un]
 ·simp only[KI,KS,KE,bN,R50,R65,R72,R84,Q28,Q41,Q7,Q18,An.val,An2,Int.reduceEq,Int.reduceLE,decide_true,decide_false,Wg,Wb,Wn,Wx,Wo,We,V9,Wa,Wc,Wh,Wi,Wf,Wd];rw[un];rw[n23 _ (by omega)]
 ·simp only[KI,KS,KE,bN,R50,R65,R72,R84,Q28,Q41,Q7,Q18,An.val,An2,Int.reduceEq,Int.reduceLE,decide_true,decide_false,Wg,Wb,Wn,Wx,Wo,We,V9,Wa,Wc,Wh,Wi,Wf,Wd];rw[un]
 ·simp only[KI,KS,KE,bN,R50,R65,R72,R84,Q28,Q41,Q7,Q18,An.val,An2,Int.reduceEq,Int.reduceLE,decide_true,decide_false,Wg,Wb,Wn,Wx,Wo,We,V9,Wa,Wc,Wh,Wi,Wf,Wd];rw[nm1]
 ·simp only[KI,KS,KE,bN,R50,R65,R72,R84,Q28,Q41,Q7,Q18,An.val,An2,Int.reduceEq,Int.reduceLE,decide_true,decide_false,Wg,Wb,Wn,Wx,Wo,We,V9,Wa,Wc,Wh,Wi,Wf,Wd];rw[nmn]
 ·simp only[KI,KS,KE,bN,R50,R65,R72,R84,Q28,Q41,Q7,Q18,An.val,An2,Int.reduceEq,Int.reduceLE,decide_true,decide_false,Wg,Wb,Wn,Wx,Wo,We,V9,Wa,Wc,Wh,Wi,Wf,Wd];rw[un]
 ·simp only[KI,KS,KE,bN,R50,R65,R72,R84,Q28,Q41,Q7,Q18,An.val,An2,Int.reduceEq,Int.reduceLE,decide_true,decide_false,Wg,Wb,Wn,Wx,Wo,We,V9,Wa,Wc,Wh,Wi,Wf,Wd];rw[un]
 ·simp only[KI,KS,KE,bN,R50,R65,R72,R84,Q28,Q41,Q7,Q18,An.val,An2,Int.reduceEq,Int.reduceLE,decide_true,decide_false,Wg,Wb,Wn,Wx,Wo,We,V9,Wa,Wc,Wh,Wi,Wf,Wd];rw[un]
 ·simp only[KI,KS,KE,bN,R50,R65,R72,R84,Q28,Q41,Q7,Q18,An.val,An2,Int.reduceEq,Int.reduceLE,decide_true,decide_false,Wg,Wb,Wn,Wx,Wo,We,V9,Wa,Wc,Wh,Wi,Wf,Wd];rw[nm2]
 ·simp only[KI,KS,KE,bN,R50,R65,R72,R84,Q28,Q41,Q7,Q18,An.val,An2,Int.reduceEq,Int.reduceLE,decide_true,decide_false,Wg,Wb,Wn,Wx,Wo,We,V9,Wa,Wc,Wh,Wi,Wf,Wd];rw[un]
 ·simp only[KI,KS,KE,bN,R50,R65,R72,R84,Q28,Q41,Q7,Q18,An.val,An2,Int.reduceEq,Int.reduceLE,decide_true,decide_false,Wg,Wb,Wn,Wx,Wo,We,V9,Wa,Wc,Wh,Wi,Wf,Wd];rw[un]
 ·simp only[KI,KS,KE,bN,R50,R65,R72,R84,Q28,Q41,Q7,Q18,An.val,An2,Int.reduceEq,Int.reduceLE,decide_true,decide_false,Wg,Wb,Wn,Wx,Wo,We,V9,Wa,Wc,Wh,Wi,Wf,Wd];rw[un]
  ac_rfl
 ·simp only[KI,KS,KE,bN,R50,R65,R72,R84,Q28,Q41,Q7,Q18,An.val,An2,Int.reduceEq,Int.reduceLE,decide_true,decide_false,Wg,Wb,Wn,Wx,Wo,We,V9,Wa,Wc,Wh,Wi,Wf,Wd];rw[un]
  ac_rfl
 ·simp only[KI,KS,KE,bN,R50,R65,R72,R84,Q28,Q41,Q7,Q18,An.val,An2,Int.reduceEq,Int.reduceLE,decide_true,decide_false,Wg,Wb,Wn,Wx,Wo,We,V9,Wa,Wc,Wh,Wi,Wf,Wd];rw[un]
  ac_rfl
 ·simp only[KI,KS,KE,bN,R50,R65,R72,R84,Q28,Q41,Q7,Q18,An.val,An2,Int.reduceEq,Int.reduceLE,decide_true,decide_false,Wg,Wb,Wn,Wx,Wo,We,V9,Wa,Wc,Wh,Wi,Wf,Wd];rw[un]
  ac_rfl
 ·simp only[KI,KS,KE,bN,R50,R65,R72,R84,Q28,Q41,Q7,Q18,An.val,An2,Int.reduceEq,Int.reduceLE,decide_true,decide_false,Wg,Wb,Wn,Wx,Wo,We,V9,Wa,Wc,Wh,Wi,Wf,Wd];rw[un]
  ac_rfl
 ·simp only[KI,KS,KE,bN,R50,R65,R72,R84,Q28,Q41,Q7,Q18,An.val,An2,Int.reduceEq,Int.reduceLE,decide_true,decide_false,Wg,Wb,Wn,Wx,Wo,We,V9,Wa,Wc,Wh,Wi,Wf,Wd];rw[un]
  ac_rfl
 ·simp only[KI,KS,KE,bN,R50,R65,R72,R84,Q28,Q41,Q7,Q18,An.val,An2,Int.reduceEq,Int.reduceLE,decide_true,decide_false,Wg,Wb,Wn,Wx,Wo,We,V9,Wa,Wc,Wh,Wi,Wf,Wd];rw[un]
  ac_rfl
 ·simp only[KI,KS,KE,bN,R50,R65,R72,R84,Q28,Q41,Q7,Q18,An.val,An2,Int.reduceEq,Int.reduceLE,decide_true,decide_false,Wg,Wb,Wn,Wx,Wo,We,V9,Wa,Wc,Wh,Wi,Wf,Wd];rw[un]
  ac_rfl
 ·simp only[KI,KS,KE,bN,R50,R65,R72,R84,Q28,Q41,Q7,Q18,An.val,An2,Int.reduceEq,Int.reduceLE,decide_true,decide_false,Wg,Wb,Wn,Wx,Wo,We,V9,Wa,Wc,Wh,Wi,Wf,Wd];rw[un]
  ac_rfl
 ·simp only[KI,KS,KE,bN,R50,R65,R72,R84,Q28,Q41,Q7,Q18,An.val,An2,Int.reduceEq,Int.reduceLE,decide_true,decide_false,Wg,Wb,Wn,Wx,Wo,We,V9,Wa,Wc,Wh,Wi,Wf,Wd];rw[un]
  ac_rfl
 ·simp only[KI,KS,KE,bN,R50,R65,R72,R84,Q28,Q41,Q7,Q18,An.val,An2,Int.reduceEq,Int.reduceLE,decide_true,decide_false,Wg,Wb,Wn,Wx,Wo,We,V9,Wa,Wc,Wh,Wi,Wf,Wd];rw[un]
  ac_rfl
 ·simp only[KI,KS,KE,bN,R50,R65,R72,R84,Q28,Q41,Q7,Q18,An.val,An2,Int.reduceEq,Int.reduceLE,decide_true,decide_false,Wg,Wb,Wn,Wx,Wo,We,V9,Wa,Wc,Wh,Wi,Wf,Wd];rw[un]
  ac_rfl
 ·simp only[KI,KS,KE,bN,R50,R65,R72,R84,Q28,Q41,Q7,Q18,An.val,An2,Int.reduceEq,Int.reduceLE,decide_true,decide_false,Wg,Wb,Wn,Wx,Wo,We,V9,Wa,Wc,Wh,Wi,Wf,Wd];rw[un];rw[bs2]
  ac_rfl
 ·simp only[KI,KS,KE,bN,R50,R65,R72,R84,Q28,Q41,Q7,Q18,An.val,An2,Int.reduceEq,Int.reduceLE,decide_true,decide_false,Wg,Wb,Wn,Wx,Wo,We,V9,Wa,Wc,Wh,Wi,Wf,Wd];rw[un];rw[←Bool.and_assoc (decide _) (BS ks),bs1]
  ac_rfl
 ·simp only[KI,KS,KE,bN,R50,R65,R72,R84,Q28,Q41,Q7,Q18,An.val,An2,Int.reduceEq,Int.reduceLE,decide_true,decide_false,Wg,Wb,Wn,Wx,Wo,We,V9,Wa,Wc,Wh,Wi,Wf,Wd];rw[un];rw[bsn]
  ac_rfl
 ·simp only[KI,KS,KE,bN,R50,R65,R72,R84,Q28,Q41,Q7,Q18,An.val,An2,Int.reduceEq,Int.reduceLE,decide_true,decide_false,Wg,Wb,Wn,Wx,Wo,We,V9,Wa,Wc,Wh,Wi,Wf,Wd];rw[un2]
 ·simp only[KI,KS,KE,bN,R50,R65,R72,R84,Q28,Q41,Q7,Q18,An.val,An2,Int.reduceEq,Int.reduceLE,decide_true,decide_false,Wg,Wb,Wn,Wx,Wo,We,V9,Wa,Wc,Wh,Wi,Wf,Wd];rw[nm0,R9]
  ac_rfl
 ·simp only[KI,KS,KE,bN,R50,R65,R72,R84,Q28,Q41,Q7,Q18,An.val,An2,Int.reduceEq,Int.reduceLE,decide_true,decide_false,Wg,Wb,Wn,Wx,Wo,We,V9,Wa,Wc,Wh,Wi,Wf,Wd];rw[un]
  ac_rfl
 ·simp only[KI,KS,KE,bN,R50,R65,R72,R84,Q28,Q41,Q7,Q18,An.val,An2,Int.reduceEq,Int.reduceLE,decide_true,decide_false,Wg,Wb,Wn,Wx,Wo,We,V9,Wa,Wc,Wh,Wi,Wf,Wd];rw[un]
  ac_rfl
 ·simp only[KI,KS,KE,bN,R50,R65,R72,R84,Q28,Q41,Q7,Q18,An.val,An2,Int.reduceEq,Int.reduceLE,decide_true,decide_false,Wg,Wb,Wn,Wx,Wo,We,V9,Wa,Wc,Wh,Wi,Wf,Wd];rw[un]
  ac_rfl
 ·simp only[KI,KS,KE,bN,R50,R65,R72,R84,Q28,Q41,Q7,Q18,An.val,An2,Int.reduceEq,Int.reduceLE,decide_true,decide_false,Wg,Wb,Wn,Wx,Wo,We,V9,Wa,Wc,Wh,Wi,Wf,Wd];rw[un]
  ac_rfl
end Go.Abs.D
end
