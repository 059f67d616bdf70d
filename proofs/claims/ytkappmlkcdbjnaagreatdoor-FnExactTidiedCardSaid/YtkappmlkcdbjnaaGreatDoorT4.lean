/- What is here: the contract of the library's IndexByteString. -/
import Derived.Test.YtkappmlkcdbjnaaGreatDoorT3
import Derived.Test.YtkappmlkcdbjnaaGreatDoorProg
import Derived.Shelf.Strconv.ParseIntPublic10
import Derived.Shelf.Strconv.Itoa4
import Derived.KernelRfl
import Derived.Room.Shelf.Join48
import Derived.Shelf.Strings.Repeat
import Derived.Laws.Bits64b
import Derived.Lib.AppendIntMem
import Derived.WalkKit
import Derived.ProofKit
import Derived.OpenShut
import Derived.ShutString
import Derived.ChangeOld
import Derived.Below
import Derived.SizedLaws
import Derived.LaidMore
import Derived.Lay
import Derived.SevenTiedAt
import Derived.Stop.Joined
set_option autoImplicit true
set_option relaxedAutoImplicit true
set_option linter.all false
set_option maxRecDepth 100000
open Go.IntKind (i64 u64 u8)
open Array renaming getElem?_eq_none → bo3, length_toList → cC, replicate → bq1
open Bool renaming and_eq_false_iff → cQ, and_eq_true → aA, and_false → aT, false → aq, false_eq_true → cf, false_or → bH, not_eq_false' → cU, not_eq_true' → bU, or_eq_true → cO, true → av, true_and → bD
open Decidable renaming decide → I, not_not → bV
open Go.Instr renaming sliceAt → bo2
open Go.IntKind renaming i64 → ar, u64 → aJ, u8 → aO
open Go.Lib renaming cell_of_heap → bT
open Go.Proofs.Tryz renaming func150 → br0, func23 → bt0, prog → aY, underlying20 → bq5, underlying39 → bq6
open Go.Value renaming int → bQ
open Go.World renaming cell? → bs7
open Int renaming le_refl → cM, toNat_natCast → bm
open List renaming all_eq_true → aK, append_assoc → aC, append_nil → aQ, drop_append_of_le_length → bN, drop_eq_getElem_cons → bG, drop_eq_nil_of_le → cn, drop_zero → bY, flatMap_cons → bE, getD_eq_getElem?_getD → aG, getElem?_drop → cJ, getElem?_eq_getElem → aL, getElem?_eq_none → bR, getElem?_eq_some_iff → cr, getElem?_map → bn4, getElem?_take → cT, getElem_mem → bF, length → bo0, length_append → au, length_cons → aw, length_drop → bK, length_map → cH, length_nil → ay, length_pos_iff → b9, length_set → cA, length_take → bl, map_append → bq2, map_cons → cw, mem_append → aP, mem_append_right → aZ, mem_cons → bA, mem_cons_of_mem → aB, mem_cons_self → aD, mem_range → cL, range → cN, range' → bp6, take_append_drop → bo6, take_length → cy, take_succ_eq_append_getElem → cP
open Nat renaming beq → ax, blt → cd, le_of_ble_eq_true → aR, le_refl → aF, le_trans → bn8, lt_or_ge → bB, min_eq_left → bn6, mod_lt → bs3, mul_one → bs8, zero_add → bJ, zero_le → aU
open Option renaming bind_some → al, none → az, some → U
open Sum renaming elim_inl → aH, elim_inr → aW, inl → an, inr → aE
section
set_option maxRecDepth 100000
namespace Go.Abs.Bld
open Go.Proofs
def OF:∀(m:List UInt8) k,l=l.take k++m->k<=l.length->(match(bp6 k m.length).find? λi=>l.getD i 0==c with|some i=>i|none=> -1)=idx (m.map λb=>b.toNat) c.toNat k
 |[],k,_,_=>rfl
 |x::m,k,h,hk=>by
  have hx:l.getD k 0=x:=by
   rw[aG,h,List.getElem?_append_right (by simp;omega)];simp[bn6 hk]
  have hlen:l.length=k+(m.length+1):=by
   have:=congrArg bo0 h;simp only[au,bl,aw]at this;omega
  have ih:=OF (l:=l) (c:=c) m (k+1) (by
   have h':l=l.take k++[x]++m:=by rw[aC];exact h
   have h2:l.take (k+1)=l.take k++[x]:=by
    conv=>lhs;rw[h']
    rw[List.take_left'];simp[bn6 hk]
   rw[h2];exact h') (by omega)
  rw[aw,List.range'_succ,List.find?_cons,hx];simp only[cw,idx]
  by_cases e:x=c
  ·subst e;simp
  ·have e1:(x==c)=false:=(by simpa using e)
   have e2:I (x.toNat=(c.toNat:Int))=false:=by
    simp only[ae];intro h'
    apply e
    have:x.toNat=c.toNat:=(by omega);exact UInt8.toNat_inj.1 this
   rw[e1,e2];simp only[af];rw[ih]
   push_cast
   rfl
def N9 (s) (c):firstIdx s c.toNat.toUInt8=idx (bytesOf s) (byte c) 0:=by
 have h:=OF (l:=s.data.toList) (c:=c.toNat.toUInt8) s.data.toList 0 (by simp) (aU _)
 have hc:((c.toNat.toUInt8).toNat)=byte c:=by
  unfold byte;rw[UInt8.toNat_ofNat']
 rw[hc]at h;have hb:(s.data.toList.map λb=>(b.toNat:Int))=bytesOf s:=rfl;rw[hb]at h;refine Eq.trans ?_ h;unfold firstIdx
 have rr:s.size=s.data.toList.length:=by
  rw[cC];rfl
 rw[rr,List.range_eq_range']
 have:∀i,s[i]! =s.data.toList.getD i 0:=λi=>by
  by_cases h:i<s.size
  ·rw[getElem!_pos s i h]
   have h':i<s.data.toList.length:=by rw[<-rr];exact h
   rw[aG,aL h',Option.getD_some];rfl
  ·rw[getElem!_neg s i h]
   have h':s.data.toList.length<=i:=by rw[<-rr];omega
   rw[aG,bR h'];rfl
 simp only[this];split<;>rename_i e<;>rw[e]
def Me (gU):o9 aY gU 178 ⟨⟨[.one (.fT .str), .one (.fT (.int .u8))], .val (.one (.fT (.int .i64)))⟩,w7⟩:=
 BY (ts:=[.str, .int .u8]) (τ:= .int .i64) rfl rfl λx y hF w us hA=>by
  injection hF with hF
  subst hF;obtain⟨u1,r1,rfl,⟨s,rfl,hs⟩,u2,r2,rfl,h2,h3⟩:=hA;have h2:_=_:=h2;have h3:_=_:=h3;subst h2;subst h3;have hs:x.1=bytesOf s:=hs;unfold ll;rw[run_callFunc_extern Tryz.func178 (by kernel_rfl) (by kernel_rfl) (by kernel_rfl) (e:=Extern.BytealgIndexByte.indexByte) (by kernel_rfl),run_indexByte_string];refine⟨Same.refl w, ?_⟩;show _=bQ .i64 (idx x.1 (byte x.2.1) 0);rw[N9,hs]
end Go.Abs.Bld
end

section
set_option maxRecDepth 100000
namespace Go.Abs.Lay
open Go.Proofs Go.Shelf
def az9:Ren where
 f:=λn=>bif ax n 174 then 148 else bif ax n 247 then 177 else bif ax n 245 then 151 else bif ax n 287 then 150 else bif ax n 279 then 181 else bif ax n 280 then 182 else bif ax n 281 then 183 else bif ax n 282 then 184 else bif ax n 321 then 179 else bif ax n 322 then 180 else bif ax n 316 then 195 else bif ax n 171 then 197 else bif ax n 205 then 196 else bif ax n 243 then 202 else bif ax n 246 then 191 else bif ax n 283 then 198 else bif ax n 284 then 199 else bif ax n 285 then 200 else bif ax n 286 then 201 else bif ax n 129 then 204 else bif ax n 317 then 203 else bif ax n 318 then 205 else bif ax n 319 then 206 else bif ax n 320 then 207 else bif ax n 337 then 208 else bif ax n 338 then 209 else n
 t:=λn=>bif ax n 9 then 9 else bif ax n 3 then 3 else bif ax n 2 then 2 else bif ax n 75 then 101 else bif ax n 85 then 148 else bif ax n 4 then 4 else bif ax n 167 then 165 else bif ax n 5 then 5 else bif ax n 53 then 121 else bif ax n 175 then 122 else bif ax n 46 then 155 else bif ax n 168 then 167 else bif ax n 37 then 39 else bif ax n 0 then 0 else bif ax n 210 then 179 else bif ax n 21 then 21 else bif ax n 127 then 104 else bif ax n 145 then 188 else bif ax n 143 then 186 else bif ax n 171 then 181 else bif ax n 173 then 184 else bif ax n 212 then 190 else bif ax n 51 then 173 else bif ax n 20 then 20 else bif ax n 213 then 191 else bif ax n 232 then 194 else bif ax n 233 then 195 else bif ax n 80 then 68 else n
 g:=λn=>bif ax n 15 then 4 else bif ax n 16 then 5 else bif ax n 17 then 6 else bif ax n 18 then 7 else bif ax n 19 then 8 else n
def WS:LaysC.n174 aY az9 where
 mixed:=by kernel_rfl
 f129:=Tryz.func204.trans (congrArg U (by kernel_rfl))
 f171:=Tryz.func197.trans (congrArg U (by kernel_rfl))
 f174:=Tryz.func148.trans (congrArg U (by kernel_rfl))
 f205:=Tryz.func196.trans (congrArg U (by kernel_rfl))
 f243:=Tryz.func202.trans (congrArg U (by kernel_rfl))
 f245:=Tryz.func151.trans (congrArg U (by kernel_rfl))
 f246:=Tryz.func191.trans (congrArg U (by kernel_rfl))
 f247:=Tryz.func177.trans (congrArg U (by kernel_rfl))
 f279:=Tryz.func181.trans (congrArg U (by kernel_rfl))
 f280:=Tryz.func182.trans (congrArg U (by kernel_rfl))
 f281:=Tryz.func183.trans (congrArg U (by kernel_rfl))
 f282:=Tryz.func184.trans (congrArg U (by kernel_rfl))
 f283:=Tryz.func198.trans (congrArg U (by kernel_rfl))
 f284:=Tryz.func199.trans (congrArg U (by kernel_rfl))
 f285:=Tryz.func200.trans (congrArg U (by kernel_rfl))
 f286:=Tryz.func201.trans (congrArg U (by kernel_rfl))
 f287:=br0.trans (congrArg U (by kernel_rfl))
 f316:=Tryz.func195.trans (congrArg U (by kernel_rfl))
 f317:=Tryz.func203.trans (congrArg U (by kernel_rfl))
 f318:=Tryz.func205.trans (congrArg U (by kernel_rfl))
 f319:=Tryz.func206.trans (congrArg U (by kernel_rfl))
 f320:=Tryz.func207.trans (congrArg U (by kernel_rfl))
 f321:=Tryz.func179.trans (congrArg U (by kernel_rfl))
 f322:=Tryz.func180.trans (congrArg U (by kernel_rfl))
 f337:=Tryz.func208.trans (congrArg U (by kernel_rfl))
 f338:=Tryz.func209.trans (congrArg U (by kernel_rfl))
 t0:=Tryz.underlying0
 a0:=Tryz.isAgg0
 z0:=Tryz.sizeOf0
 v0:=Tryz.zeroValue0
 t2:=Tryz.underlying2
 a2:=Tryz.isAgg2
 z2:=Tryz.sizeOf2
 v2:=Tryz.zeroValue2
 t3:=Tryz.underlying3
 a3:=Tryz.isAgg3
 z3:=Tryz.sizeOf3
 v3:=Tryz.zeroValue3
 t4:=Tryz.underlying4
 a4:=Tryz.isAgg4
 z4:=Tryz.sizeOf4
 v4:=Tryz.zeroValue4
 t5:=Tryz.underlying5
 a5:=Tryz.isAgg5
 z5:=Tryz.sizeOf5
 v5:=Tryz.zeroValue5
 t9:=Tryz.underlying9
 a9:=Tryz.isAgg9
 z9:=Tryz.sizeOf9
 v9:=Tryz.zeroValue9
 t20:=bq5
 a20:=Tryz.isAgg20
 z20:=Tryz.sizeOf20
 v20:=Tryz.zeroValue20
 t21:=Tryz.underlying21
 a21:=Tryz.isAgg21
 z21:=Tryz.sizeOf21
 v21:=Tryz.zeroValue21
 t37:=bq6
 a37:=Tryz.isAgg39
 z37:=Tryz.sizeOf39
 v37:=Tryz.zeroValue39
 t46:=Tryz.underlying155
 a46:=Tryz.isAgg155
 z46:=Tryz.sizeOf155
 v46:=Tryz.zeroValue155
 t51:=Tryz.underlying173
 a51:=Tryz.isAgg173
 z51:=Tryz.sizeOf173
 v51:=Tryz.zeroValue173
 t53:=Tryz.underlying121
 a53:=Tryz.isAgg121
 z53:=Tryz.sizeOf121
 v53:=Tryz.zeroValue121
 t75:=Tryz.underlying101
 a75:=Tryz.isAgg101
 z75:=Tryz.sizeOf101
 v75:=Tryz.zeroValue101
 t85:=Tryz.underlying148
 a85:=Tryz.isAgg148
 z85:=Tryz.sizeOf148
 v85:=Tryz.zeroValue148
 t127:=Tryz.underlying104
 a127:=Tryz.isAgg104
 z127:=Tryz.sizeOf104
 v127:=Tryz.zeroValue104
 t143:=Tryz.underlying186
 a143:=Tryz.isAgg186
 z143:=Tryz.sizeOf186
 v143:=Tryz.zeroValue186
 t145:=Tryz.underlying188
 a145:=Tryz.isAgg188
 z145:=Tryz.sizeOf188
 v145:=Tryz.zeroValue188
 t167:=Tryz.underlying165
 a167:=Tryz.isAgg165
 z167:=Tryz.sizeOf165
 v167:=Tryz.zeroValue165
 t168:=Tryz.underlying167
 a168:=Tryz.isAgg167
 z168:=Tryz.sizeOf167
 v168:=Tryz.zeroValue167
 t171:=Tryz.underlying181
 a171:=Tryz.isAgg181
 z171:=Tryz.sizeOf181
 v171:=Tryz.zeroValue181
 t173:=Tryz.underlying184
 a173:=Tryz.isAgg184
 z173:=Tryz.sizeOf184
 v173:=Tryz.zeroValue184
 t175:=Tryz.underlying122
 a175:=Tryz.isAgg122
 z175:=Tryz.sizeOf122
 v175:=Tryz.zeroValue122
 t210:=Tryz.underlying179
 a210:=Tryz.isAgg179
 z210:=Tryz.sizeOf179
 v210:=Tryz.zeroValue179
 t212:=Tryz.underlying190
 a212:=Tryz.isAgg190
 z212:=Tryz.sizeOf190
 v212:=Tryz.zeroValue190
 t213:=Tryz.underlying191
 a213:=Tryz.isAgg191
 z213:=Tryz.sizeOf191
 t232:=Tryz.underlying194
 a232:=Tryz.isAgg194
 z232:=Tryz.sizeOf194
 v232:=Tryz.zeroValue194
 t233:=Tryz.underlying195
 a233:=Tryz.isAgg195
 z233:=Tryz.sizeOf195
 v233:=Tryz.zeroValue195
 g15:=by kernel_rfl
 g16:=by kernel_rfl
 g17:=by kernel_rfl
 g18:=by kernel_rfl
 g19:=by kernel_rfl
 t80:=Tryz.underlying68
 a80:=Tryz.isAgg68
 z80:=Tryz.sizeOf68
 v80:=Tryz.zeroValue68
 i0:=by kernel_rfl
 i2:=by kernel_rfl
 i3:=by kernel_rfl
 i4:=by kernel_rfl
 i5:=by kernel_rfl
 i9:=by kernel_rfl
 i20:=by kernel_rfl
 i21:=by kernel_rfl
 i37:=by kernel_rfl
 i46:=by kernel_rfl
 i51:=by kernel_rfl
 i53:=by kernel_rfl
 i75:=by kernel_rfl
 i80:=by kernel_rfl
 i85:=by kernel_rfl
 i127:=by kernel_rfl
 i143:=by kernel_rfl
 i145:=by kernel_rfl
 i167:=by kernel_rfl
 i168:=by kernel_rfl
 i171:=by kernel_rfl
 i173:=by kernel_rfl
 i175:=by kernel_rfl
 i210:=by kernel_rfl
 i212:=by kernel_rfl
 i232:=by kernel_rfl
 i233:=by kernel_rfl
 m15:=by kernel_rfl
 m16:=by kernel_rfl
 m17:=by kernel_rfl
 m18:=by kernel_rfl
 m19:=by kernel_rfl
 c0:=by kernel_rfl
 c2:=by kernel_rfl
 c3:=by kernel_rfl
 c4:=by kernel_rfl
 c5:=by kernel_rfl
 c9:=by kernel_rfl
 c20:=by kernel_rfl
 c21:=by kernel_rfl
 c37:=by kernel_rfl
 c46:=by kernel_rfl
 c51:=by kernel_rfl
 c53:=by kernel_rfl
 c75:=by kernel_rfl
 c80:=by kernel_rfl
 c85:=by kernel_rfl
 c127:=by kernel_rfl
 c143:=by kernel_rfl
 c145:=by kernel_rfl
 c167:=by kernel_rfl
 c168:=by kernel_rfl
 c171:=by kernel_rfl
 c173:=by kernel_rfl
 c175:=by kernel_rfl
 c210:=by kernel_rfl
 c212:=by kernel_rfl
 c213:=by kernel_rfl
 c232:=by kernel_rfl
 c233:=by kernel_rfl
def aC8:Ren where
 f:=λn=>bif ax n 173 then 164 else bif ax n 246 then 191 else bif ax n 283 then 198 else bif ax n 284 then 199 else bif ax n 285 then 200 else bif ax n 286 then 201 else bif ax n 129 then 204 else bif ax n 317 then 203 else bif ax n 318 then 205 else bif ax n 319 then 206 else bif ax n 320 then 207 else bif ax n 337 then 208 else bif ax n 338 then 209 else n
 t:=λn=>bif ax n 2 then 2 else bif ax n 3 then 3 else bif ax n 9 then 9 else bif ax n 4 then 4 else bif ax n 171 then 181 else bif ax n 0 then 0 else bif ax n 53 then 121 else bif ax n 37 then 39 else bif ax n 5 then 5 else bif ax n 173 then 184 else bif ax n 212 then 190 else bif ax n 51 then 173 else bif ax n 20 then 20 else bif ax n 213 then 191 else bif ax n 46 then 155 else bif ax n 232 then 194 else bif ax n 233 then 195 else n
 g:=λn=>bif ax n 17 then 6 else bif ax n 18 then 7 else bif ax n 19 then 8 else n
def ah6:LaysM.n173 aY aC8 where
 mixed:=by kernel_rfl
 f129:=Tryz.func204.trans (congrArg U (by kernel_rfl))
 f173:=Tryz.func164.trans (congrArg U (by kernel_rfl))
 f246:=Tryz.func191.trans (congrArg U (by kernel_rfl))
 f283:=Tryz.func198.trans (congrArg U (by kernel_rfl))
 f284:=Tryz.func199.trans (congrArg U (by kernel_rfl))
 f285:=Tryz.func200.trans (congrArg U (by kernel_rfl))
 f286:=Tryz.func201.trans (congrArg U (by kernel_rfl))
 f317:=Tryz.func203.trans (congrArg U (by kernel_rfl))
 f318:=Tryz.func205.trans (congrArg U (by kernel_rfl))
 f319:=Tryz.func206.trans (congrArg U (by kernel_rfl))
 f320:=Tryz.func207.trans (congrArg U (by kernel_rfl))
 f337:=Tryz.func208.trans (congrArg U (by kernel_rfl))
 f338:=Tryz.func209.trans (congrArg U (by kernel_rfl))
 t0:=Tryz.underlying0
 a0:=Tryz.isAgg0
 z0:=Tryz.sizeOf0
 v0:=Tryz.zeroValue0
 t2:=Tryz.underlying2
 a2:=Tryz.isAgg2
 z2:=Tryz.sizeOf2
 v2:=Tryz.zeroValue2
 t3:=Tryz.underlying3
 a3:=Tryz.isAgg3
 z3:=Tryz.sizeOf3
 v3:=Tryz.zeroValue3
 t4:=Tryz.underlying4
 a4:=Tryz.isAgg4
 z4:=Tryz.sizeOf4
 v4:=Tryz.zeroValue4
 t5:=Tryz.underlying5
 a5:=Tryz.isAgg5
 z5:=Tryz.sizeOf5
 v5:=Tryz.zeroValue5
 t9:=Tryz.underlying9
 a9:=Tryz.isAgg9
 z9:=Tryz.sizeOf9
 v9:=Tryz.zeroValue9
 t20:=bq5
 a20:=Tryz.isAgg20
 z20:=Tryz.sizeOf20
 v20:=Tryz.zeroValue20
 t37:=bq6
 a37:=Tryz.isAgg39
 z37:=Tryz.sizeOf39
 v37:=Tryz.zeroValue39
 t46:=Tryz.underlying155
 a46:=Tryz.isAgg155
 z46:=Tryz.sizeOf155
 v46:=Tryz.zeroValue155
 t51:=Tryz.underlying173
 a51:=Tryz.isAgg173
 z51:=Tryz.sizeOf173
 v51:=Tryz.zeroValue173
 t53:=Tryz.underlying121
 a53:=Tryz.isAgg121
 z53:=Tryz.sizeOf121
 v53:=Tryz.zeroValue121
 t171:=Tryz.underlying181
 a171:=Tryz.isAgg181
 z171:=Tryz.sizeOf181
 v171:=Tryz.zeroValue181
 t173:=Tryz.underlying184
 a173:=Tryz.isAgg184
 z173:=Tryz.sizeOf184
 v173:=Tryz.zeroValue184
 t212:=Tryz.underlying190
 a212:=Tryz.isAgg190
 z212:=Tryz.sizeOf190
 v212:=Tryz.zeroValue190
 t213:=Tryz.underlying191
 a213:=Tryz.isAgg191
 z213:=Tryz.sizeOf191
 t232:=Tryz.underlying194
 a232:=Tryz.isAgg194
 z232:=Tryz.sizeOf194
 v232:=Tryz.zeroValue194
 t233:=Tryz.underlying195
 a233:=Tryz.isAgg195
 z233:=Tryz.sizeOf195
 v233:=Tryz.zeroValue195
 g17:=by kernel_rfl
 g18:=by kernel_rfl
 g19:=by kernel_rfl
 i0:=by kernel_rfl
 i2:=by kernel_rfl
 i3:=by kernel_rfl
 i4:=by kernel_rfl
 i5:=by kernel_rfl
 i9:=by kernel_rfl
 i20:=by kernel_rfl
 i37:=by kernel_rfl
 i46:=by kernel_rfl
 i51:=by kernel_rfl
 i53:=by kernel_rfl
 i171:=by kernel_rfl
 i173:=by kernel_rfl
 i212:=by kernel_rfl
 i232:=by kernel_rfl
 i233:=by kernel_rfl
 m17:=by kernel_rfl
 m18:=by kernel_rfl
 m19:=by kernel_rfl
end Go.Abs.Lay
end

section
set_option maxRecDepth 100000
namespace Go.Abs.Lx
open Go.Proofs
def xY (h:RowKit.Below w.heap.size w w'):Same w w':=⟨λb hb=>h.block b hb,h.size,h.os,h.tape,h.output⟩
def Lq (w) (k) (os):Same w (Go.Sort.grow (w.drewN k) os):=by
 refine⟨λb hb=> ?_, ?_,rfl,rfl,rfl⟩
 ·show(w.heap++os)[b]?=_;rw[Array.getElem?_append_left hb]
 ·show _<=(w.heap++os).size;simp
def Ox (hg:gU 5=U [.err aq]):o9 aY gU 148 ⟨⟨[.one (.fT .str), .one (.fT (.int .i64)), .one (.fT (.int .i64))], .xl [.one (.fT (.int .i64)), .one .err]⟩,tD⟩:=by
 intro x y hF dC w args nb hG mM hP qK Cv;obtain⟨hA,rfl⟩:=yS (ts:=[.str, .int .i64, .int .i64]) rfl hP;obtain⟨u1,r1,rfl,⟨s,rfl,hs⟩,u2,r2,rfl,h2,u3,r3,rfl,h3,h4⟩:=hA;have h2:_=_:=h2;have h3:_=_:=h3;have h4:_=_:=h4;subst h2;subst h3;subst h4;have hs:x.1=bytesOf s:=hs;have hF:tD x=U y:=hF;unfold tD at hF
 cases hc:(x.2.1=10&&x.2.2.1=64&&fits x.1.length)with
 |false=>rw[hc]at hF;cases hF
 |true=>
  rw[hc]at hF;simp only[ah]at hF;simp only[aA,ad]at hc;obtain⟨⟨e1,e2⟩,hl⟩:=hc
  have rr:s.size<=1099511627776:=by
   have:=aR hl;rw[hs,iw]at this;exact this
  have f1:x.2.1=10:=e1;have f2:x.2.2.1=64:=e2;show ll aY 148 #[.string s, .int .i64 x.2.1, .int .i64 x.2.2.1] w _;rw[f1,f2];have hu:u8s x.1=s.data.toList:=(by rw[hs,Gg]);rw[hu]at hF
  have fin:∀{v:Int} {b:Bool} {u:Value} {w':World},Same w w'->y=((v,b,()),(),(),(),())->((b=av/\u= .nilIface)\/(b=aq/\∃t p,u= .iface t p))->∃gC n1 n2,After dC w [] gC w' (n1++n2)/\
    z7 gC w' (.xl [.one (.fT (.int .i64)), .one .err]) y.1 (.tuple #[.int .i64 v,u]) n1/\nW gC w w' [.one (.fT .str), .one (.fT (.int .i64)), .one (.fT (.int .i64))] y.2 [.string s, .int .i64 x.2.1, .int .i64 x.2.2.1] n2:=by
   intro v b u w' Qb hy hu;subst hy;refine⟨dC,[],[],Qb.after mM,⟨[_,_],rfl,_,_,[],[],rfl,rfl,⟨rfl,rfl,rfl,_,rfl,rfl⟩,_,_,[],[],rfl,rfl,⟨?_,rfl,_,rfl,hu⟩,rfl,rfl⟩,yN (ts:=[.str, .int .i64, .int .i64]) (y:=x) ⟨_,_,rfl,⟨s,rfl,hs⟩,_,_,rfl,rfl,_,_,rfl,rfl,rfl⟩⟩
   rcases hu with⟨_,rfl⟩|⟨_,t,p,rfl⟩<;>rfl
  rw[f1,f2]at fin
  cases hp:Lib.parseIntB 64 s.data.toList with
  |ok v=>
   rw[hp]at hF
   injection hF with hF
   refine hZ Tryz.func148 rfl (by kernel_rfl) ((Any.strconv_ParseInt_10_at64_ok Lay.WS s (by omega) v hp w).mono ?_);rintro e w' ⟨rfl,hw⟩;refine⟨_,rfl,fin (b:=av) ?_ hF.symm (.inl ⟨rfl,rfl⟩)⟩
   rcases hw with rfl|⟨t,rfl⟩
   ·exact Same.refl _
   ·exact⟨λb hb=>Lib.bytesWorld_at_old w _ t b hb,by rw[Lib.bytesWorld_size];omega,rfl,rfl,rfl⟩
  |range=>
   rw[hp]at hF
   injection hF with hF
   obtain⟨us,hi,aF4⟩:=hG _ _ hg;obtain⟨arr,ty,fr,ha,hL⟩:=mM _ _ hi
   obtain⟨u,r,rfl,hu,hr⟩:=aF4 ⟨dC,λ_=>0,λ_ _=> .nilIface,λ_=>az,λ_=>az,λ_=>[]⟩ λ_ _ h=>h
   have hr:r=[]:=hr;subst hr
   have p9:w.cell? ⟨5,0,az⟩=U u:=by
    rw[bT ha];have:arr[0]?=arr.toList[0]?:=(by simp);rw[this,hL];rfl
   refine hZ Tryz.func148 rfl (by kernel_rfl) ((Any.strconv_ParseInt_10_at64_range Lay.WS s (by omega) hp u w p9 ?_).mono ?_)
   ·rcases hu with⟨h,_⟩|⟨_,t,v,rfl⟩
    ·cases h
    ·exact .inr ⟨t,v,rfl⟩
   rintro e w' ⟨N,rfl,_,_,hw⟩;exact⟨_,rfl,fin (b:=aq) (xY hw) hF.symm (.inr ⟨rfl,_,_,rfl⟩)⟩
  |_=>rw[hp]at hF;cases hF
def Mr (hg:gU 6=U ab3):o9 aY gU 164 ⟨⟨[.one (.fT (.int .i64)), .one (.fT (.int .i64))], .val (.one (.fT .str))⟩,rV⟩:=by
 intro x y hF dC w args nb hG mM hP qK Cv;obtain⟨hA,rfl⟩:=yS (ts:=[.int .i64, .int .i64]) rfl hP;obtain⟨u1,r1,rfl,h1,u2,r2,rfl,h2,h4⟩:=hA;have h1:_=_:=h1;have h2:_=_:=h2;have h4:_=_:=h4;subst h1;subst h2;subst h4;have hF:rV x=U y:=hF;unfold rV at hF
 cases hc:(x.2.1=10&& -9223372036854775808<=x.1&&x.1<=9223372036854775807)with
 |false=>rw[hc]at hF;cases hF
 |true=>
  rw[hc]at hF
  injection hF with hF
  simp only[aA,ad]at hc;obtain⟨⟨e1,e2⟩,e3⟩:=hc;have f1:x.2.1=10:=e1;show ll aY 164 #[.int .i64 x.1, .int .i64 x.2.1] w _;rw[f1];obtain⟨us,hi,aF4⟩:=hG _ _ hg;obtain⟨arr,ty,fr,ha,hL⟩:=mM _ _ hi
  have P5:=aF4 ⟨dC,λ_=>0,λ_ _=> .nilIface,λ_=>az,λ_=>az,λ_=>[]⟩ λ_ _ h=>h
  have aG3:us=Lib.pow10Tab.map λz=>bQ .u64 z:=by
   have all:∀(l:List Int) us g,dG g (l.map λz=> .v (.int .u64) z) us->us=l.map λz=>bQ .u64 z:=by
    intro l
    induction l with
    |nil=>intro us g h;exact h
    |cons z l ih=>
     intro us g h;obtain⟨u,r,rfl,hu,hr⟩:=h;have hu:[u]=[bQ .u64 z]:=hu.2
     injection hu with hu _
     subst hu;rw[ih r g hr];rfl
   exact all _ _ _ P5
  have a41:Lib.TabIs aY w "internal/strconv.uint64pow10" .u64 Lib.pow10Tab:=by
   have hn:aY.globalNamed "internal/strconv.uint64pow10" =U 6:=by kernel_rfl
   unfold Lib.TabIs World.var?;rw[hn];simp only[al,ha]
   have:arr=(Lib.pow10Tab.map λz=>bQ .u64 z).toArray:=by
    apply Array.ext'
    rw[hL,aG3]
   rw[this]
  refine hZ Tryz.func164 rfl (by kernel_rfl) ((Any.strconv_FormatInt_10 Lay.ah6 x.1 e2 e3 w a41).mono ?_);rintro e w' ⟨rfl,k,os,rfl⟩;subst hF;exact⟨_,rfl,dC,[],[],(Lq w k os).after mM,⟨rfl,rfl,rfl,_,rfl,_,rfl,rfl⟩,yN (ts:=[.int .i64, .int .i64]) (y:=x) ⟨_,_,rfl,rfl,_,_,rfl,f1 ▸ rfl,rfl⟩⟩
end Go.Abs.Lx
end

section
set_option maxRecDepth 100000
namespace Go.Abs.Lay
open Go.Proofs Go.Shelf
def Z2:Ren where
 f:=λn=>bif ax n 156 then 45 else bif ax n 165 then 100 else bif ax n 166 then 51 else bif ax n 169 then 23 else bif ax n 240 then 107 else bif ax n 241 then 162 else bif ax n 276 then 167 else bif ax n 277 then 188 else n
 t:=λn=>bif ax n 31 then 42 else bif ax n 9 then 9 else bif ax n 3 then 3 else bif ax n 4 then 4 else bif ax n 0 then 0 else bif ax n 20 then 20 else bif ax n 72 then 63 else bif ax n 76 then 102 else bif ax n 70 then 61 else bif ax n 37 then 39 else bif ax n 75 then 101 else bif ax n 127 then 104 else bif ax n 164 then 161 else bif ax n 5 then 5 else bif ax n 80 then 68 else n
 g:=λn=>n
def WK:Lays.n156 aY Z2 where
 mixed:=by kernel_rfl
 f156:=Tryz.func45.trans (congrArg U (by kernel_rfl))
 f165:=Tryz.func100.trans (congrArg U (by kernel_rfl))
 f166:=Tryz.func51.trans (congrArg U (by kernel_rfl))
 f169:=bt0.trans (congrArg U (by kernel_rfl))
 f240:=Tryz.func107.trans (congrArg U (by kernel_rfl))
 f241:=Tryz.func162.trans (congrArg U (by kernel_rfl))
 f276:=Tryz.func167.trans (congrArg U (by kernel_rfl))
 f277:=Tryz.func188.trans (congrArg U (by kernel_rfl))
 t0:=Tryz.underlying0
 a0:=Tryz.isAgg0
 z0:=Tryz.sizeOf0
 v0:=Tryz.zeroValue0
 t3:=Tryz.underlying3
 a3:=Tryz.isAgg3
 z3:=Tryz.sizeOf3
 v3:=Tryz.zeroValue3
 t4:=Tryz.underlying4
 a4:=Tryz.isAgg4
 z4:=Tryz.sizeOf4
 v4:=Tryz.zeroValue4
 t9:=Tryz.underlying9
 a9:=Tryz.isAgg9
 z9:=Tryz.sizeOf9
 v9:=Tryz.zeroValue9
 t20:=bq5
 a20:=Tryz.isAgg20
 z20:=Tryz.sizeOf20
 v20:=Tryz.zeroValue20
 t31:=Tryz.underlying42
 a31:=Tryz.isAgg42
 z31:=Tryz.sizeOf42
 v31:=Tryz.zeroValue42
 t37:=bq6
 a37:=Tryz.isAgg39
 z37:=Tryz.sizeOf39
 v37:=Tryz.zeroValue39
 t70:=Tryz.underlying61
 a70:=Tryz.isAgg61
 z70:=Tryz.sizeOf61
 v70:=Tryz.zeroValue61
 t72:=Tryz.underlying63
 a72:=Tryz.isAgg63
 z72:=Tryz.sizeOf63
 v72:=Tryz.zeroValue63
 t75:=Tryz.underlying101
 a75:=Tryz.isAgg101
 z75:=Tryz.sizeOf101
 v75:=Tryz.zeroValue101
 t76:=Tryz.underlying102
 a76:=Tryz.isAgg102
 z76:=Tryz.sizeOf102
 v76:=Tryz.zeroValue102
 t127:=Tryz.underlying104
 a127:=Tryz.isAgg104
 z127:=Tryz.sizeOf104
 v127:=Tryz.zeroValue104
 t164:=Tryz.underlying161
 a164:=Tryz.isAgg161
 z164:=Tryz.sizeOf161
 v164:=Tryz.zeroValue161
end Go.Abs.Lay
end

section
set_option maxRecDepth 100000
namespace Go.Abs.Lx
open Go.Proofs
def toB (l:List Int):ByteArray:=⟨(u8s l).toArray⟩
def Gs (s):toB (bytesOf s)=s:=by
 unfold toB;rw[Gg]
def Jq (sep):∀(bs:List ByteArray),Bt (bs.map bytesOf) (bytesOf sep)=ints (Lib.join (bs.map λb=>b.data.toList) sep.data.toList)
 |[]=>rfl
 |[b]=>by rw[cw,List.map_nil,cw,List.map_nil,Lib.join_one];rfl
 |b::c::r=>by
  have ih:=Jq sep (c::r);rw[cw,cw]at ih;rw[cw,cw,Bt,ih];simp only[cw,Lib.join_cons,Lib.joinTail];simp[ints,bytesOf,bq2]
def extra:Builder.Extra aY Lay.Z2 where
 sizeBuilder:=by kernel_rfl
 liesBuilder:=by kernel_rfl
 t5:=by kernel_rfl
 a5:=λw=>by kernel_rfl
 z5:=λw=>by kernel_rfl
 v5:=λw=>by kernel_rfl
 infoByte:=by kernel_rfl
 cellsByte:=by kernel_rfl
 sizeByte:=by kernel_rfl
 neB5:=by decide
def YU (gU):o9 aY gU 45 ⟨⟨[.one (.fT (.sl .str)), .one (.fT .str)], .val (.one (.fT .str))⟩,Bz⟩:=by
 intro x y hF dC w args nb hG mM hP qK Cv;obtain⟨u1,r1,n1,n2,rfl,rfl,⟨_,rfl,_,ap9,e1,hx⟩,u2,r2,n3,n4,rfl,rfl,⟨_,rfl,_,a89,e2,hs⟩,rfl,rfl⟩:=hP
 injection e1 with e1;subst e1
 injection e2 with e2;subst e2
 obtain⟨sep,e3,hs⟩:=hs
 injection e3 with e3;subst e3
 obtain⟨A,c,e4,hc,hx⟩:=hx
 injection e4 with e4;subst e4
 obtain⟨xs,sp,_⟩:=x;have hs:sp=bytesOf sep:=hs;subst hs;have hc:xs.length<=c:=hc;have hF:Bz (xs,bytesOf sep,())=U y:=hF;unfold Bz at hF
 cases hq:(fits xs.length&&fits (Bt xs (bytesOf sep)).length)with
 |false=>
  dsimp only at hF;rw[hq]at hF;cases hF
 |true=>
  dsimp only at hF;rw[hq]at hF
  injection hF with hF
  simp only[aA]at hq;have l1:xs.length<=1099511627776:=aR hq.1;have l2:(Bt xs (bytesOf sep)).length<=1099511627776:=aR hq.2
  have fin:∀{u:Value} {w':World},Same w w'->u= .string ⟨(Lib.join ((xs.map toB).map λb=>b.data.toList) sep.data.toList).toArray⟩->xs=(xs.map toB).map bytesOf->∃gC n1 n2,After dC w [] gC w' (n1++n2)/\
    z7 gC w' (.val (.one (.fT .str))) y.1 u n1/\nW gC w w' [.one (.fT (.sl .str)), .one (.fT .str)] y.2 [.slice A xs.length c, .string sep] n2:=by
   intro u w' Qb hu aH5;subst hF;subst hu;refine⟨dC,[],[],Qb.after mM,⟨rfl,rfl,rfl,_,rfl,_,rfl, ?_⟩,_,_,[],[],rfl,rfl,rfl,_,_,[],[],rfl,rfl,rfl,rfl,rfl⟩;show Bt xs (bytesOf sep)=_
   conv=>lhs;rw[aH5]
   rw[Jq];rfl
  rcases hx with h0|⟨b,o,L,rfl,hb,NP⟩
  ·have h0:xs=[]:=h0;subst h0;refine hZ Tryz.func45 rfl (by kernel_rfl) ((Any.strings_Join_none Lay.WK extra A c sep w).mono ?_);rintro e w' ⟨rfl,rfl⟩;exact⟨_,rfl,fin (Same.refl _) rfl rfl⟩
  ·obtain⟨arr,ty,fr,ha,hL⟩:=mM _ _ hb;have NP:∀i h,Rc dC .str xs[i] ((L.drop (o+i*1)).take 1):=NP
   have aH5:xs=(xs.map toB).map bytesOf:=by
    rw[List.map_map]
    apply List.ext_getElem (by simp)
    intro i h1 h2;obtain⟨s,_,e⟩:=NP i h1;rw[List.getElem_map];show _=bytesOf (toB xs[i]);have e:xs[i]=bytesOf s:=e;rw[e,Gs]
   have p9:∀j z,(xs.map toB)[j]?=U z->w.cell? ⟨b,o+j,az⟩=U (.string z):=by
    intro j z hz;rw[bn4]at hz
    cases hj:xs[j]? with
    |none=>rw[hj]at hz;cases hz
    |some v=>
     rw[hj]at hz
     injection hz with hz
     obtain⟨h1,h2⟩:=cr.1 hj;obtain⟨s,e,e'⟩:=NP j h1;have e':xs[j]=bytesOf s:=e';rw[h2]at e';rw[e',Gs]at hz;subst hz;rw[bT ha]
     have:arr[o+j]?=(L.drop (o+j*1)).head?:=by
      rw[List.head?_drop,<-hL,bs8];simp
     rw[this]
     cases hd:L.drop (o+j*1)with
     |nil=>rw[hd]at e;cases e
     |cons a r=>
      rw[hd]at e
      injection e with e _
      subst e;rfl
   have hlen:(xs.map toB).length=xs.length:=(by simp)
   have aG4:(Lib.join ((xs.map toB).map λb=>b.data.toList) sep.data.toList).length<=281474976710656:=by
    have:=l2;rw[aH5,Jq]at this;rw[ints,cH]at this;omega
   have C:=Any.strings_Join_48 Lay.WK extra b o c (xs.map toB) sep w p9 (lt_of_heap ha) (by rw[hlen];omega) (by rw[hlen];exact hc) aG4;rw[hlen]at C;refine hZ Tryz.func45 rfl (by kernel_rfl) (C.mono ?_);rintro e w' ⟨rfl,hw⟩;exact⟨_,rfl,fin (xY hw) rfl aH5⟩
end Go.Abs.Lx
end

section
set_option maxRecDepth 100000
namespace Go.Abs.Lay
open Go.Proofs Go.Shelf
def ZX:Ren where
 f:=λn=>bif ax n 105 then 101 else bif ax n 212 then 163 else bif ax n 99 then 73 else bif ax n 165 then 100 else bif ax n 166 then 51 else bif ax n 170 then 22 else bif ax n 169 then 23 else bif ax n 263 then 189 else bif ax n 264 then 190 else bif ax n 206 then 147 else bif ax n 240 then 107 else bif ax n 241 then 162 else bif ax n 276 then 167 else bif ax n 277 then 188 else n
 t:=λn=>bif ax n 9 then 9 else bif ax n 3 then 3 else bif ax n 4 then 4 else bif ax n 20 then 20 else bif ax n 0 then 0 else bif ax n 46 then 155 else bif ax n 109 then 156 else bif ax n 5 then 5 else bif ax n 72 then 63 else bif ax n 76 then 102 else bif ax n 51 then 173 else bif ax n 146 then 174 else bif ax n 53 then 121 else bif ax n 148 then 176 else bif ax n 70 then 61 else bif ax n 37 then 39 else bif ax n 75 then 101 else bif ax n 127 then 104 else bif ax n 164 then 161 else bif ax n 80 then 68 else n
 g:=λn=>n
def ai7:Lays.n105 aY ZX where
 mixed:=by kernel_rfl
 f99:=Tryz.func73.trans (congrArg U (by kernel_rfl))
 f105:=Tryz.func101.trans (congrArg U (by kernel_rfl))
 f165:=Tryz.func100.trans (congrArg U (by kernel_rfl))
 f166:=Tryz.func51.trans (congrArg U (by kernel_rfl))
 f169:=bt0.trans (congrArg U (by kernel_rfl))
 f170:=Tryz.func22.trans (congrArg U (by kernel_rfl))
 f206:=Tryz.func147.trans (congrArg U (by kernel_rfl))
 f212:=Tryz.func163.trans (congrArg U (by kernel_rfl))
 f240:=Tryz.func107.trans (congrArg U (by kernel_rfl))
 f241:=Tryz.func162.trans (congrArg U (by kernel_rfl))
 f263:=Tryz.func189.trans (congrArg U (by kernel_rfl))
 f264:=Tryz.func190.trans (congrArg U (by kernel_rfl))
 f276:=Tryz.func167.trans (congrArg U (by kernel_rfl))
 f277:=Tryz.func188.trans (congrArg U (by kernel_rfl))
 t0:=Tryz.underlying0
 a0:=Tryz.isAgg0
 z0:=Tryz.sizeOf0
 v0:=Tryz.zeroValue0
 t3:=Tryz.underlying3
 a3:=Tryz.isAgg3
 z3:=Tryz.sizeOf3
 v3:=Tryz.zeroValue3
 t4:=Tryz.underlying4
 a4:=Tryz.isAgg4
 z4:=Tryz.sizeOf4
 v4:=Tryz.zeroValue4
 t5:=Tryz.underlying5
 a5:=Tryz.isAgg5
 z5:=Tryz.sizeOf5
 v5:=Tryz.zeroValue5
 t9:=Tryz.underlying9
 a9:=Tryz.isAgg9
 z9:=Tryz.sizeOf9
 v9:=Tryz.zeroValue9
 t20:=bq5
 a20:=Tryz.isAgg20
 z20:=Tryz.sizeOf20
 v20:=Tryz.zeroValue20
 t37:=bq6
 a37:=Tryz.isAgg39
 z37:=Tryz.sizeOf39
 v37:=Tryz.zeroValue39
 t46:=Tryz.underlying155
 a46:=Tryz.isAgg155
 z46:=Tryz.sizeOf155
 v46:=Tryz.zeroValue155
 t51:=Tryz.underlying173
 a51:=Tryz.isAgg173
 z51:=Tryz.sizeOf173
 v51:=Tryz.zeroValue173
 t53:=Tryz.underlying121
 a53:=Tryz.isAgg121
 z53:=Tryz.sizeOf121
 v53:=Tryz.zeroValue121
 t70:=Tryz.underlying61
 a70:=Tryz.isAgg61
 z70:=Tryz.sizeOf61
 v70:=Tryz.zeroValue61
 t72:=Tryz.underlying63
 a72:=Tryz.isAgg63
 z72:=Tryz.sizeOf63
 v72:=Tryz.zeroValue63
 t75:=Tryz.underlying101
 a75:=Tryz.isAgg101
 z75:=Tryz.sizeOf101
 v75:=Tryz.zeroValue101
 t76:=Tryz.underlying102
 a76:=Tryz.isAgg102
 z76:=Tryz.sizeOf102
 v76:=Tryz.zeroValue102
 t109:=Tryz.underlying156
 a109:=Tryz.isAgg156
 z109:=Tryz.sizeOf156
 v109:=Tryz.zeroValue156
 t127:=Tryz.underlying104
 a127:=Tryz.isAgg104
 z127:=Tryz.sizeOf104
 v127:=Tryz.zeroValue104
 t146:=Tryz.underlying174
 a146:=Tryz.isAgg174
 z146:=Tryz.sizeOf174
 v146:=Tryz.zeroValue174
 t148:=Tryz.underlying176
 a148:=Tryz.isAgg176
 z148:=Tryz.sizeOf176
 v148:=Tryz.zeroValue176
 t164:=Tryz.underlying161
 a164:=Tryz.isAgg161
 z164:=Tryz.sizeOf161
 v164:=Tryz.zeroValue161
end Go.Abs.Lay
end

section
set_option maxRecDepth 100000
namespace Go.Abs.Lx
open Go.Proofs
def Y2:Builder.Extra aY Lay.ZX where
 sizeBuilder:=by kernel_rfl
 liesBuilder:=by kernel_rfl
 t5:=by kernel_rfl
 a5:=λw=>by kernel_rfl
 z5:=λw=>by kernel_rfl
 v5:=λw=>by kernel_rfl
 infoByte:=by kernel_rfl
 cellsByte:=by kernel_rfl
 sizeByte:=by kernel_rfl
 neB5:=by decide
def S5 (s):∀n:Nat,RD (bytesOf s) n=ints (Lib.repeatL s.data.toList n)
 |0=>rfl
 |n+1=>by
  unfold RD Lib.repeatL;rw[S5 s n];simp[ints,bytesOf,bq2]
def toN (h:0<=c)(h2:c<=9223372036854775807):∃n:Nat,c=(n:Int)/\c.toNat=n/\n<=9223372036854775807:=⟨c.toNat,by omega,rfl,by omega⟩
def T1 (gU):o9 aY gU 101 ⟨⟨[.one (.fT .str), .one (.fT (.int .i64))], .val (.one (.fT .str))⟩,xP⟩:=by
 intro x y hF dC w args nb hG mM hP qK Cv;obtain⟨hA,rfl⟩:=yS (ts:=[.str, .int .i64]) rfl hP;obtain⟨u1,r1,rfl,⟨s,rfl,hs⟩,u2,r2,rfl,h2,h4⟩:=hA;have h2:_=_:=h2;have h4:_=_:=h4;subst h2;subst h4;have hs:x.1=bytesOf s:=hs;have hF:xP x=U y:=hF;unfold xP at hF
 cases hc:(0<=x.2.1&&x.2.1<=9223372036854775807&&fits (x.1.length*x.2.1.toNat))with
 |false=>rw[hc]at hF;cases hF
 |true=>
  rw[hc]at hF
  injection hF with hF
  simp only[aA,ad]at hc;obtain⟨⟨e1,e2⟩,e3⟩:=hc
  have hl:s.size*x.2.1.toNat<=1099511627776:=by
   have:=aR e3;rw[hs,iw]at this;exact this
  obtain⟨n,hn,bl1,Xz⟩:=toN e1 e2;rw[bl1]at hl hF;show ll aY 101 #[.string s, .int .i64 x.2.1] w _;rw[hn];refine hZ Tryz.func101 rfl (by kernel_rfl) ((Any.strings_Repeat Lay.ai7 Y2 s n w Xz (by omega)).mono ?_);rintro e w' ⟨rfl,hw⟩;subst hF;refine⟨_,rfl,dC,[],[],(xY hw).after mM,⟨rfl,rfl,rfl,_,rfl,_,rfl, ?_⟩,yN (ts:=[.str, .int .i64]) (y:=x) ⟨_,_,rfl,⟨s,rfl,hs⟩,_,_,rfl,hn ▸ rfl,rfl⟩⟩;show RD x.1 n=_;rw[hs,S5];rfl
end Go.Abs.Lx
end

section
set_option maxRecDepth 100000
namespace Go.Abs.Lx
open Go.Proofs Go.Shelf Go.RowKit Go.Sort Go.Lib
variable{P:Program}{ρ:Ren}
def Y3 (L:Lays.n286 P ρ) (w):Calls P (ρ.f 319) #[.int .i64 16] w λe w'=>e= .returned (.bool av)/\w'=w:=by
 have key:bits BinOp.and ar 16 15=0:=(by rfl)
 go_enter L.f319,Body.n319_ntmps ρ
 go_wp2_with (simp)
 go_ret
 simp
def YG (L:Lays.n286 P ρ) (w) (p9:w.cell? ⟨ρ.g 19,15,az⟩=U (.int .u8 4)):Calls P (ρ.f 338) #[.int .u64 16] w λe w'=>e= .returned (.int .i64 4)/\w'=w:=by
 have t3:=L.t3;have t5:=L.t5;have a5:=L.a5;have z5:=L.z5;have t233:=L.t233;have key:aJ.wrap (bits BinOp.and aJ 16 (aJ.wrap (-16))*285870213051353865)/288230376151711744=15:=(by rfl)
 go_enter L.f338,Body.n338_ntmps ρ
 go_wp2_with (simp)
 go_ret
 simp
def aB2 (L:Lays.n286 P ρ) (w) (p9:w.cell? ⟨ρ.g 19,15,az⟩=U (.int .u8 4)):Calls P (ρ.f 320) #[.int .u64 16] w λe w'=>e= .returned (.int .i64 4)/\w'=w:=by
 have e338:∀args w,(callFunc (ρ.f 338) args).run P w= .ok (.enter (ρ.f 338) args) w:=enters_of L.f338 (by kernel_rfl) rfl
 go_enter L.f320,Body.n320_ntmps ρ
 go_wp2_with (go_at_fn (ρ.f 338);refine(YG L _ p9).mono ?_;rintro e w' ⟨rfl,rfl⟩)
 go_ret
 simp
def zG:Array Value:=bq1 65 (.int .u8 0)
abbrev PU:UInt8->Value:=λb=>bQ .u8 b.toNat 
def sZ (i:Nat):UInt8:=digits36.data.toList.getD i 0
def Wx (t) (ht:P.underlying t=U .string) (k) (z) (i:Nat)(hz:z=(i:Int))(hi:i<16) (w):
  (Instr.index t (.string digits36) (.int k z)).run P w= .ok (.int .u8 ((sZ i).toNat)) w:=by
 subst hz;have rr:digits36.size=36:=digits36_size;rw[run_index_string w t digits36 k _ ht,dif_pos ⟨by omega,by omega⟩];simp
 have h2:digits36[i]'(by omega)=sZ i:=by
  unfold sZ;rw[aG,aL (by exact(by omega:i<digits36.size))];rfl
 rw[h2]
def jm:Nat->Nat->List UInt8->List UInt8
 |0,_,acc=>acc
 |k+1,n,acc=>if n<16 then sZ (n % 16)::acc else jm k (n/16) (sZ (n % 16)::acc)
structure HInv (u i v:Nat)(d:Array UInt8):Prop where
 size:d.size=65
 lo:50<=i
 hi:i<=65
 small:v<16^(i - 49)
 dig:jm (i - 49) v (d.toList.drop i)=jm 16 u []
def drop_set (d:Array UInt8) (m) (x) (hm:m<d.size):(d.setIfInBounds m x).toList.drop m=x::d.toList.drop (m+1):=by
 simp_all[cA,cC,bG,List.getElem_set_self,List.drop_set_of_lt]
def HInv.step (h:HInv u (m+1) v d)(hv:16<=v):HInv u m (v/16) (d.setIfInBounds m (sZ (v % 16))):=by
 have ax6:=h.lo;have aP5:=h.hi;have hsm:=h.small;have hs:=h.size
 have hn:50<=m:=by
  grind
 obtain⟨k,hk⟩:∃k,m - 49=k:=⟨_,rfl⟩;have aN9:m+1 - 49=k+1:=(by omega);refine⟨by simp_all,hn,by omega, ?_, ?_⟩
 ·grind
 ·rw[drop_set d m _ (by omega),hk,<-h.dig,aN9];simp_all[jm,ai]
def HInv.last (h:HInv u (m+1) v d)(hv:v<16):(d.setIfInBounds m (sZ v)).toList.drop m=jm 16 u []:=by
 have ax6:=h.lo;have aP5:=h.hi;have hs:=h.size;obtain⟨k,hk⟩:∃k,m+1 - 49=k+1:=⟨m - 49,by omega⟩;rw[drop_set d m _ (by omega),<-h.dig,hk];simp_all[jm,aj,Nat.mod_eq_of_lt]
def Tb (v:Nat)(h:v<18446744073709551616):bits .and .u64 v 15=((v % 16:Nat)):=by
 have:=bits_and_u64_nat v 15 h (by decide);rw[show((15:Nat):Int)=15 from rfl]at this;rw[this,Nat.and_two_pow_sub_one_eq_mod v 4]
def MD (w:World) (T):Holds PU (w.alloc (.cells zG T)) w.heap.size 0 (bq1 65 0):=λj hj=>by
 refine⟨?_,World.frozen?_alloc_new _ _ _ _⟩;simp_all[World.cell?_alloc_new,getElem!_pos,zG,Array.getElem?_replicate,aj]
set_option maxHeartbeats 3200000 in
def aQ9 (L:Lays.n286 P ρ) (sl) (u:Nat)(h1:9223372036854775808<=u)(h2:u<18446744073709551616) (w) (p9:w.cell? ⟨ρ.g 19,15,az⟩=U (.int .u8 4))(v213:∀w,(zeroValue (ρ.t 213)).run P w= .ok (.agg zG) w):
  Calls P (ρ.f 286) #[sl, .int .u64 u, .int .i64 16, .bool aq, .bool aq] w λe w'=>e= .returned (.tuple #[.slice az 0 0, .string ⟨(jm 16 u []).toArray⟩])/\∃k os,w'=grow (w.drewN k) os:=by
 have mixed:=L.mixed;have t0:=L.t0;have a0:=L.a0;have z0:=L.z0;have v0:=L.v0;have t3:=L.t3;have a3:=L.a3;have z3:=L.z3;have v3:=L.v3;have t4:=L.t4;have a4:=L.a4;have z4:=L.z4;have v4:=L.v4;have t5:=L.t5;have a5:=L.a5;have z5:=L.z5;have v5:=L.v5;have t9:=L.t9;have a9:=L.a9;have z9:=L.z9;have v9:=L.v9;have t20:=L.t20;have a20:=L.a20;have z20:=L.z20;have v20:=L.v20;have t37:=L.t37;have a37:=L.a37;have z37:=L.z37;have v37:=L.v37;have t46:=L.t46;have a46:=L.a46;have z46:=L.z46;have v46:=L.v46;have t53:=L.t53;have a53:=L.a53;have z53:=L.z53;have v53:=L.v53;have t213:=L.t213;have a213:=L.a213;have z213:=L.z213
 have Km:(w.alloc (.cells zG (ρ.t 213))).cell? ⟨ρ.g 19,15,az⟩=U (.int .u8 4):=by
  rw[World.cell?_alloc_old _ _ _ (by
   rcases bB (ρ.g 19) w.heap.size with h|h
   ·exact Nat.ne_of_lt h
   ·exfalso
    unfold bs7 at p9;rw[bo3 h]at p9
    cases p9)]
  exact p9
 have e319:∀args w,(callFunc (ρ.f 319) args).run P w= .ok (.enter (ρ.f 319) args) w:=enters_of L.f319 (by kernel_rfl) rfl;have e320:∀args w,(callFunc (ρ.f 320) args).run P w= .ok (.enter (ρ.f 320) args) w:=enters_of L.f320 (by kernel_rfl) rfl
 go_enter L.f286,Body.n286_ntmps ρ
 go_name_bytes PN hPN
 go_name_bytes SM hSM
 have bg2:SM=Lib.digits36:=by rw[<-hSM];decide+kernel
 subst bg2;clear hSM hPN
 go_wp2_with (first
  |(go_at_fn (ρ.f 319);refine(Y3 L _).mono ?_;rintro e w' ⟨rfl,rfl⟩)
  |(go_at_fn (ρ.f 320);refine(aB2 L _ Km).mono ?_;rintro e w' ⟨rfl,rfl⟩))
 have hH:=MD w (ρ.t 213)
 generalize hwA:w.alloc (.cells zG (ρ.t 213))=wA at hH Km⊢
 clear p9 Km
 go_loopw [1,13] (λvu vn wr=>∃(i v:Nat) (d:Array UInt8),vu= .int .u64 v/\vn= .int .i64 i/\wr=putRow PU wA w.heap.size 0 d/\Hid (HInv u i v d)) (λvu _ _=>(RowKit.intOf vu).toNat)
 case atStart=>exact⟨65,u,bq1 65 0,rfl,rfl,(putRow_self _ _ _ _ _ hH).symm,⟨by simp,by omega,by omega,by simpa using h2,by simp⟩⟩
 case round=>
  obtain⟨i,v,d,rfl,rfl,a19,HI⟩:=hrel
  rename World=>W0
  have AH:=Lib.hid hH;clear hH;have ax6:=HI.out.lo;have aP5:=HI.out.hi;obtain⟨m,rfl⟩:∃m,i=m+1:=⟨i - 1,by omega⟩
  have a04:v<18446744073709551616:=by
   have:=HI.out.small;have:=Nat.pow_le_pow_right (show 0<16 by decide) (show m+1 - 49<=16 by omega);have e:16^16=18446744073709551616:=(by decide);omega
  have ab7:=HI.out.size
  have aX8:Holds PU W0 w.heap.size 0 d:=by rw[a19];exact holds_putRow _ wA w.heap.size 0 _ d AH.out (by rw[ab7];simp)
  obtain⟨G0,ay1⟩:∃G:Nat->Int,∀t,G t=(d[t]!.toNat):=⟨_,λ_=>rfl⟩
  have ZS:∀t,t<65->W0.cell? ⟨w.heap.size,t,az⟩=U (.int .u8 (G0 t)):=λt ht=>by rw[ay1,<-(aX8 t (by omega)).1,bJ]
  have a92:∀t,t<65->W0.frozen? ⟨w.heap.size,t,az⟩=false:=λt ht=>by rw[<-(aX8 t (by omega)).2,bJ]
  have ba9:=Lib.hid a19;clear a19 ay1 aX8;have aG2:P.arrayLen (ρ.t 213)=65:=(by simp[Program.arrayLen,L.t213]);have bc9:=Tb v a04;have aN5:=ZS m (by omega);have hfm:=a92 m (by omega);clear ZS a92
  by_cases hv:16<=v
  ·have bj4:=Lib.hid (HI.out.step hv);have hX:∀w,(Instr.index (ρ.t 9) (.string digits36) (.int .u64 (v % 16))).run P w= .ok (.int .u8 ((sZ (v % 16)).toNat)) w:=Wx (ρ.t 9) L.t9 .u64 _ _ (by omega) (bs3 _ (by decide))
   go_wp2_with (simp only[bc9])
   go_roundw
   case rel=>
    refine⟨m,v/16,d.setIfInBounds m (sZ (v % 16)),by push_cast;rfl,rfl, ?_,bj4.out⟩;rw[ba9.out,<-putRow_set PU wA w.heap.size 0 d m (sZ (v % 16)) (by omega),bJ]
   case measure=>simp[RowKit.intOf];omega
  ·have hX:∀w,(Instr.index (ρ.t 9) (.string digits36) (.int .u64 v)).run P w= .ok (.int .u8 ((sZ v).toNat)) w:=Wx (ρ.t 9) L.t9 .u64 _ _ rfl (by omega);have hl:=HI.out.last (by omega)
   have ZB:W0.setCell ⟨w.heap.size,m,az⟩ (.int .u8 ((sZ v).toNat))=putRow PU wA w.heap.size 0 (d.setIfInBounds m (sZ v)):=by
    rw[ba9.out,<-putRow_set PU wA w.heap.size 0 d m (sZ v) (by omega),bJ]
   have aZ3:(d.setIfInBounds m (sZ v)).size=65:=(by simp[ab7]);have hlen:(jm 16 u []).length=65 - m:=(by rw[<-hl,bK,cC,aZ3]);have a98:Holds PU (putRow PU wA w.heap.size 0 (d.setIfInBounds m (sZ v))) w.heap.size 0 (d.setIfInBounds m (sZ v)):=holds_putRow _ wA w.heap.size 0 _ _ AH.out (by rw[aZ3];simp)
   have HO:∀W,(bo2 (ρ.t 213) (.pointer (U ⟨w.heap.size,0,az⟩)) (U (.int .i64 m)) az az).run P W= .ok (.slice (U ⟨w.heap.size,m,az⟩) (65 - m) (65 - m)) W:=λW=>by
    rw[run_sliceAt_array_l W (ρ.t 213) ⟨w.heap.size,0,az⟩ (by simp[Program.arrayLen,Program.elem,L.t213]) .i64 m (by omega) (by rw[aG2];omega)]
    go_simp
    omega
   have pz:(Go.convert (ρ.t 37) (ρ.t 9) (.slice (U ⟨w.heap.size,m,az⟩) (65 - m) (65 - m))).run P (W0.setCell ⟨w.heap.size,m,az⟩ (.int .u8 ((sZ v).toNat)))= .ok (.string ⟨(jm 16 u []).toArray⟩) (W0.setCell ⟨w.heap.size,m,az⟩ (.int .u8 ((sZ v).toNat))):=by
    have h:=run_convert_bytes_back (P:=P) (W0.setCell ⟨w.heap.size,m,az⟩ (.int .u8 ((sZ v).toNat))) (ρ.t 37) (ρ.t 9) (ρ.t 5) ⟨w.heap.size,m,az⟩ (65 - m) (jm 16 u []) L.t37 L.t5 L.t9 (λj hj=>by
     rw[ZB,Lib.add_plain];have a00:m+j<(d.setIfInBounds m (sZ v)).size:=(by omega);have hc:=(a98 (m+j) a00).1;rw[bJ,getElem!_pos (d.setIfInBounds m (sZ v)) (m+j) a00]at hc;rw[hc]
     have e:(jm 16 u [])[j]=(d.setIfInBounds m (sZ v))[m+j]:=by
      have:(jm 16 u [])[j]=((d.setIfInBounds m (sZ v)).toList.drop m)[j]'(by rw[hl];exact hj):=(by simp only[hl]);rw[this,List.getElem_drop,Array.getElem_toList]
     rw[e])
    rw[hlen]at h;exact h
   have bk1:=Lib.hid ZB;clear hl ZB a98 aG2 aZ3
   go_wp2
   go_ret2
   refine⟨rfl, ?_⟩;rw[bk1.out,<-hwA];obtain⟨os,e⟩:=Lib.fin_at w (.cells zG (ρ.t 213)) (d.setIfInBounds m (sZ v)) 0 0;exact⟨0,os,e⟩
end Go.Abs.Lx
end

section
set_option maxRecDepth 100000
namespace Go.Abs.Lay
open Go.Proofs Go.Shelf
def aa7:Ren where
 f:=λn=>bif ax n 286 then 201 else bif ax n 319 then 206 else bif ax n 320 then 207 else bif ax n 337 then 208 else bif ax n 338 then 209 else n
 t:=λn=>bif ax n 37 then 39 else bif ax n 53 then 121 else bif ax n 3 then 3 else bif ax n 4 then 4 else bif ax n 9 then 9 else bif ax n 20 then 20 else bif ax n 0 then 0 else bif ax n 213 then 191 else bif ax n 46 then 155 else bif ax n 5 then 5 else bif ax n 51 then 173 else bif ax n 232 then 194 else bif ax n 233 then 195 else n
 g:=λn=>bif ax n 18 then 7 else bif ax n 19 then 8 else n
def ak4:Lays.n286 aY aa7 where
 mixed:=by kernel_rfl
 f286:=Tryz.func201.trans (congrArg U (by kernel_rfl))
 f319:=Tryz.func206.trans (congrArg U (by kernel_rfl))
 f320:=Tryz.func207.trans (congrArg U (by kernel_rfl))
 f337:=Tryz.func208.trans (congrArg U (by kernel_rfl))
 f338:=Tryz.func209.trans (congrArg U (by kernel_rfl))
 t0:=Tryz.underlying0
 a0:=Tryz.isAgg0
 z0:=Tryz.sizeOf0
 v0:=Tryz.zeroValue0
 t3:=Tryz.underlying3
 a3:=Tryz.isAgg3
 z3:=Tryz.sizeOf3
 v3:=Tryz.zeroValue3
 t4:=Tryz.underlying4
 a4:=Tryz.isAgg4
 z4:=Tryz.sizeOf4
 v4:=Tryz.zeroValue4
 t5:=Tryz.underlying5
 a5:=Tryz.isAgg5
 z5:=Tryz.sizeOf5
 v5:=Tryz.zeroValue5
 t9:=Tryz.underlying9
 a9:=Tryz.isAgg9
 z9:=Tryz.sizeOf9
 v9:=Tryz.zeroValue9
 t20:=bq5
 a20:=Tryz.isAgg20
 z20:=Tryz.sizeOf20
 v20:=Tryz.zeroValue20
 t37:=bq6
 a37:=Tryz.isAgg39
 z37:=Tryz.sizeOf39
 v37:=Tryz.zeroValue39
 t46:=Tryz.underlying155
 a46:=Tryz.isAgg155
 z46:=Tryz.sizeOf155
 v46:=Tryz.zeroValue155
 t51:=Tryz.underlying173
 a51:=Tryz.isAgg173
 z51:=Tryz.sizeOf173
 v51:=Tryz.zeroValue173
 t53:=Tryz.underlying121
 a53:=Tryz.isAgg121
 z53:=Tryz.sizeOf121
 v53:=Tryz.zeroValue121
 t213:=Tryz.underlying191
 a213:=Tryz.isAgg191
 z213:=Tryz.sizeOf191
 t232:=Tryz.underlying194
 a232:=Tryz.isAgg194
 z232:=Tryz.sizeOf194
 v232:=Tryz.zeroValue194
 t233:=Tryz.underlying195
 a233:=Tryz.isAgg195
 z233:=Tryz.sizeOf195
 v233:=Tryz.zeroValue195
 g18:=by kernel_rfl
 g19:=by kernel_rfl
end Go.Abs.Lay
end

section
set_option maxRecDepth 100000
namespace Go.Abs.Lx
open Go.Proofs
def U0:∀i:Nat,i<16->((sZ i).toNat)=hexDigit i:=by
 have h:∀i:Fin 16,((sZ i.1).toNat)=hexDigit i.1:=by decide+kernel
 exact λi hi=>h ⟨i,hi⟩
def LL:∀k n acc,ints (jm k n acc)=xL k n (ints acc)
 |0,_,_=>rfl
 |k+1,n,acc=>by
  unfold jm xL
  have hc:ints (sZ (n % 16)::acc)=hexDigit (n % 16)::ints acc:=by
   show((sZ (n % 16)).toNat:Int)::ints acc=_;rw[U0 _ (bs3 _ (by decide))]
  by_cases h:n<16
  ·have hb:cd n 16=true:=Nat.ble_eq_true_of_le h;simp only[hb,ah];rw[aj h,hc]
  ·have hb:cd n 16=false:=by
    cases hh:cd n 16
    ·rfl
    ·exact absurd (aR hh) h
   simp only[hb,af];rw[ai h,LL k _ _,hc]
def KB (hg:gU 8=U deB):o9 aY gU 201 ⟨⟨[.one (.fT (.sl (.int .u8))), .one (.fT (.int .u64)), .one (.fT (.int .i64)), .one (.fT .bool), .one (.fT .bool)], .xl [.one (.fT (.sl (.int .u8))), .one (.fT .str)]⟩,qx⟩:=by
 intro x y hF dC w args nb hG mM hP qK Cv;obtain⟨u1,r1,n1,aH7,rfl,rfl,⟨_,rfl,_,ap9,e1,h1⟩,u2,r2,n2,n2',rfl,rfl,⟨_,rfl,_,a89,e2,h2⟩,u3,r3,n3,n3',rfl,rfl,⟨_,rfl,_,u3',e3,h3⟩,u4,r4,n4,n4',rfl,rfl,⟨_,rfl,_,u4',e4,h4⟩,u5,r5,n5,n5',rfl,rfl,⟨_,rfl,_,u5',e5,h5⟩,rfl,rfl⟩:=hP
 injection e1 with e1;subst e1
 injection e2 with e2;subst e2
 injection e3 with e3;subst e3
 injection e4 with e4;subst e4
 injection e5 with e5;subst e5
 obtain⟨x1,x2,x3,x4,x5,_⟩:=x;have h2:[u2]=[bQ .u64 x2]:=h2;have h3:[u3]=[bQ .i64 x3]:=h3;have h4:[u4]=[Value.bool x4]:=h4;have h5:[u5]=[Value.bool x5]:=h5
 injection h2 with h2;injection h3 with h3;injection h4 with h4;injection h5 with h5
 subst h2;subst h3;subst h4;subst h5;obtain⟨A,c,eA,hc,hx⟩:=h1
 injection eA with eA;subst eA
 have hF:qx (x1,x2,x3,x4,x5,())=U y:=hF;unfold qx at hF;dsimp only at hF
 cases hq:(x3=16&&(!x4)&&(!x5)&&x1.isEmpty&&9223372036854775808<=x2&&x2<=18446744073709551615)with
 |false=>rw[hq]at hF;cases hF
 |true=>
  rw[hq]at hF
  injection hF with Zy
  simp only[aA,ad,bU,List.isEmpty_iff]at hq;obtain⟨⟨⟨⟨⟨q1,q2⟩,q3⟩,q4⟩,q5⟩,q6⟩:=hq;subst q1;subst q2;subst q3;subst q4
  have nat:∀z:Int,9223372036854775808<=z->z<=18446744073709551615->∃u:Nat,z=u/\9223372036854775808<=u/\u<18446744073709551616:=λz a b=>⟨z.toNat,by omega,by omega,by omega⟩
  obtain⟨u,rfl,n1,n2⟩:=nat x2 q5 q6;obtain⟨us,hi,aF4⟩:=hG _ _ hg;obtain⟨arr,ty,fr,ha,hL⟩:=mM _ _ hi
  have P5:=aF4 ⟨dC,λ_=>0,λ_ _=> .nilIface,λ_=>az,λ_=>az,λ_=>[]⟩ λ_ _ h=>h
  have aG3:us=Lib.deBruijn64tab.map λn:Nat=>bQ .u8 n:=by
   have all:∀(l:List Nat) us g,dG g (l.map λn:Nat=> .v (.int .u8) (n:Int)) us->us=l.map λn:Nat=>bQ .u8 n:=by
    intro l
    induction l with
    |nil=>intro us g h;exact h
    |cons z l ih=>
     intro us g h;obtain⟨u,r,rfl,hu,hr⟩:=h;have hu:[u]=[bQ .u8 z]:=hu.2
     injection hu with hu _
     subst hu;rw[ih r g hr];rfl
   exact all _ _ _ P5
  have p9:w.cell? ⟨8,15,az⟩=U (.int .u8 4):=by
   rw[bT ha];have:arr[15]?=arr.toList[15]?:=(by simp);rw[this,hL,aG3];rfl
  have hz:∀w,(zeroValue (Lay.aa7.t 213)).run aY w= .ok (.agg zG) w:=λw=>by kernel_rfl
  refine hZ Tryz.func201 rfl (by kernel_rfl) ((aQ9 Lay.ak4 (.slice A 0 c) u n1 n2 w p9 hz).mono ?_);rintro e w' ⟨rfl,k,os,rfl⟩;subst Zy;have hs:=Lq w k os;refine⟨_,rfl,dC,[],[],hs.after mM,⟨[_,_],rfl,_,_,[],[],rfl,rfl,⟨rfl,rfl,rfl,_,rfl,az,0,rfl,aF _, .inl rfl⟩,_,_,[],[],rfl,rfl,⟨rfl,rfl,rfl,_,rfl,_,rfl, ?_⟩,rfl,rfl⟩, ?_⟩
  ·show xL 16 (u:Int).toNat []=_;rw[bm];exact(LL 16 u []).symm
  ·exact⟨_,_,[],[],rfl,rfl,rfl,_,_,[],[],rfl,rfl,rfl,_,_,[],[],rfl,rfl,rfl,_,_,[],[],rfl,rfl,rfl,_,_,[],[],rfl,rfl,rfl,rfl,rfl⟩
end Go.Abs.Lx
end

section
namespace Go.Proofs.YtkappmlkcdbjnaaGreatDoor
open Go.ChangeShapes Go.WideShapes Go.ChangeAt Go.RowKit
set_option maxRecDepth 100000 in
def sys:∀n,Abs.Sys.TabOk Abs.D.S (Abs.D.S.tab n):=by
 refine Abs.Sys.ok (by kernel_rfl) (λf hf=>Abs.Sys.Yd Abs.D.aj1 hf) (λf c hf hl=> ?_) (by kernel_rfl);have hl:Abs.D.lib f=some c:=hl;unfold Abs.D.lib at hl
 cases h1:Nat.beq f 166 with
 |true=>have:=Abs.beq_eq h1;subst this;rw[h1]at hl;injection hl with hl;subst hl;exact Abs.Bld.Ms _
 |false=>
 rw[h1]at hl
 cases h1:Nat.beq f 51 with
 |true=>have:=Abs.beq_eq h1;subst this;injection hl with hl;subst hl;exact Abs.Bld.HW _
 |false=>
 rw[h1]at hl
 cases h1:Nat.beq f 22 with
 |true=>have:=Abs.beq_eq h1;subst this;injection hl with hl;subst hl;exact Abs.Bld.aj7 _
 |false=>
 rw[h1]at hl
 cases h1:Nat.beq f 23 with
 |true=>have:=Abs.beq_eq h1;subst this;injection hl with hl;subst hl;exact Abs.Bld.TQ _
 |false=>
 rw[h1]at hl
 cases h1:Nat.beq f 178 with
 |true=>have:=Abs.beq_eq h1;subst this;injection hl with hl;subst hl;exact Abs.Bld.Me _
 |false=>
 rw[h1]at hl
 cases h1:Nat.beq f 148 with
 |true=>have:=Abs.beq_eq h1;subst this;injection hl with hl;subst hl;exact Abs.Lx.Ox rfl
 |false=>
 rw[h1]at hl
 cases h1:Nat.beq f 164 with
 |true=>have:=Abs.beq_eq h1;subst this;injection hl with hl;subst hl;exact Abs.Lx.Mr rfl
 |false=>
 rw[h1]at hl
 cases h1:Nat.beq f 45 with
 |true=>have:=Abs.beq_eq h1;subst this;injection hl with hl;subst hl;exact Abs.Lx.YU _
 |false=>
 rw[h1]at hl
 cases h1:Nat.beq f 101 with
 |true=>have:=Abs.beq_eq h1;subst this;injection hl with hl;subst hl;exact Abs.Lx.T1 _
 |false=>
 rw[h1]at hl
 cases h1:Nat.beq f 201 with
 |true=>have:=Abs.beq_eq h1;subst this;injection hl with hl;subst hl;exact Abs.Lx.KB rfl
 |false=>
 rw[h1]at hl;cases hl
def D8:∀{ns:List String}{gs:List (DataW H)}{ps:List MemPlace},DataW.TrodVars enc P w sp ns gs ps->gs.length=ns.length
 |[],[],_,_=>rfl
 |[],_::_,_,h=>h.elim
 |_::_,[],_,h=>h.elim
 |n::ns,d::ds,ps,h=>by
  obtain⟨g,t,cs,fuel,p,q,h1,h2,h3,h4,hs,e⟩:=h;have:=D8 hs;simp[this]
def own:ownKnob Tryz.prog.godebug=none:=by kernel_rfl
def laidOut:laidOutB Tryz.prog=true:=by kernel_rfl
end Go.Proofs.YtkappmlkcdbjnaaGreatDoor
end

section
namespace Go.Abs.D
def xR (k:Int):Bool:=(k=25)||(k=50||(k=62||decide (k=69)))
def ze (k:Int):Bool:=(k=10)||(k=26||(61<=k&&k<=78))
def mS (k:Int):Bool:=(k=1||decide (k=40)||decide (k=2)||decide (k=3)||decide (k=4)||decide (k=24)||decide (k=29)||decide (k=17)||decide (k=49)||decide (k=18)||decide (k=42))||xR k
abbrev Row:=LI×Bool×Bool
def rY (l:LI):Row:=(l,av,aq)
def uG:Row:=([],aq,av)
def uU:Row:=([],aq,aq)
def Cs (k a c:Int):LI×Bool:=
 bif(k=48)then([48,1,a],av)else bif(k=44)then([44,1018,45,a],av)else bif(k=40)then([40,1022,41,c],av)else([],aq)
def aC2 (k:Int):Option (LI):=
 bif(k=22)then U [22,1,1006,1002,1001]else
 bif(k=13)then U [13,1,47,1018,1001]else
 bif(k=18)then U [18,1,1028,1001]else
 bif(k=20)then U [20,1018,1027,1003,1001]else
 bif(k=31)then U [31,1018,1027,1001]else
 bif(k=19)then U [19,1,1004,1001]else
 bif(k=11)||decide (k=23)then U [k,1001]else
 bif(k=27)then U [27,1007,1001]else
 bif(k=30)then U [30,1027,12,1,1008,1027,1001]else
 bif(k=28)then U [28,1018,1001]else
 bif(k=14)then U [14,1015,1001]else
 bif(k=42)then U [1027,1001]else
 bif(k=1)then U [1,1009,1001]else
 bif(k=40)then U [40,1018,41,1011,1001]else az
def jf (s k:Int):Row:=
 bif(s=1000)then(bif(k=5)then rY [5,1000]else match aC2 k with|some l=>rY l|none=>uG)else
 bif(s=1001)then(bif(k=5)then rY [5,1000]else uG)else
 bif(s=1002)then(bif(k=47)then rY [47,1018,1023]else uG)else
 bif(s=1003)then(bif(k=15)then rY [15,1018,1027,1003]else bif(k=16)then rY [16,1027]else uG)else
 bif(s=1004)then(bif(k=47)then rY [47,1018,46,1018,1005,1027]else bif(k=46)then rY [46,1,1006,21,1018,1027]else bif(k=21)then rY [21,1018,1027]else uU)else
 bif(s=1005)then(bif(k=46)then rY [46,1018]else uG)else
 bif(s=1006)then(bif(k=46)then rY [46,1,1006]else uG)else
 bif(s=1007)then(bif mS k then rY [1018,1023]else uG)else
 bif(s=1008)then(bif(k=46)then rY [46,1]else uG)else
 bif(s=1009)then(bif(Cs k 1009 1010).2 then rY (Cs k 1009 1010).1 else bif(k=47)then rY [47,1018,1023]else bif(k=46)then rY [46,1012]else uU)else
 bif(s=1010)then(bif(Cs k 1009 1010).2 then rY (Cs k 1009 1010).1 else uG)else
 bif(s=1011)then((Cs k 1009 1010).1,(Cs k 1009 1010).2,aq)else
 bif(s=1012)then(bif(k=1)then rY [1,1013]else bif(k=40)then rY [40,1018,41,1014]else uU)else
 bif(s=1013)then(bif(Cs k 1013 1014).2 then rY (Cs k 1013 1014).1 else bif(k=47)then rY [47,1018,1023]else bif(k=46)then rY [46,1012]else uU)else
 bif(s=1014)then((Cs k 1013 1014).1,(Cs k 1013 1014).2,aq)else
 bif(s=1015)then(bif(k=1)then rY [1,1016]else bif(k=40)then rY [40,1018,41,1016]else uU)else
 bif(s=1016)then((Cs k 1016 1017).1,(Cs k 1016 1017).2,aq)else
 bif(s=1017)then((Cs k 1016 1017).1,(Cs k 1016 1017).2,av)else
 bif(s=1018)then(bif mS k then rY [1020,1019]else uU)else
 bif(s=1019)then(bif ze k then rY [k,1020,1019]else uG)else
 bif(s=1020)then(bif xR k then rY [k,1020]else bif(k=1)then rY [1,1021]else bif(k=40)then rY [40,1018,41,1021]else bif(k=18)then rY [18,1028]else bif(k=42)then rY [42,1029,43]else bif mS k then rY [k]else uU)else
 bif(s=1021)then((Cs k 1021 1021).1,(Cs k 1021 1021).2,av)else
 bif(s=1022)then(bif mS k then rY [1018,1023]else uG)else
 bif(s=1023)then(bif(k=46)then rY [46,1018,1023]else uG)else
 bif(s=1028)then(bif(k=40)then rY [40,1024,41,1027]else uU)else
 bif(s=1024)then(bif(k=49)then rY [49]else bif(k=1)then rY [1,1025]else uG)else
 bif(s=1025)then(bif(k=46)then rY [46,1026]else uG)else
 bif(s=1026)then(bif(k=1)then rY [1,1025]else bif(k=49)then rY [49]else uU)else
 bif(s=1027)then(bif(k=42)then rY [42,1000,43]else uU)else
 bif(s=1029)then(bif mS k||(k=44||decide (k=48))then rY [1032,1030]else uG)else
 bif(s=1030)then(bif(k=46)then rY [46,1031]else uG)else
 bif(s=1031)then(bif mS k||(k=44||decide (k=48))then rY [1032,1030]else uG)else
 bif(s=1032)then(bif(k=44)then rY [44,1018,45,47,1018]else bif(k=48)then rY [48,1,47,1018]else bif mS k then rY [1018]else uU)else uU
def Zj (t a c:Int):LI:=
 bif(t=48)then [t,1,a]else bif(t=44)then [t,119,45,a]else bif(t=40)then [t,123,41,c]else []
def Z1 (t:Int):LI×Bool:=
 bif(t=22)then([t,1,104,103],av)else
 bif(t=13)then([t,1,47,119],av)else
 bif(t=18)then([t,1,133],av)else
 bif(t=20)then([t,119,132,105],av)else
 bif(t=31)then([t,119,132],av)else
 bif(t=19)then([t,1,106],av)else
 bif(t=11)||decide (t=23)then([t],av)else
 bif(t=27)then([t,108],av)else
 bif(t=30)then([t,132,12,1,109,132],av)else
 bif(t=28)then([t,119],av)else
 bif(t=14)then([t,116],av)else
 bif(t=42)then([132],av)else
 bif(t=1)then([t,110],av)else
 bif(t=40)then([t,119,41,112],av)else([],aq)
def exp2 (s t:Int):LI×Bool:=
 let row:=bif(s=110)||decide (s=111)||decide (s=112)then Zj t 110 111 else bif(s=114)||decide (s=115)then Zj t 114 115 else bif(s=117)||decide (s=118)then Zj t 117 118 else []
 bif !row.isEmpty then(row,av)else
 bif(s=111)||decide (s=118)then([],av)else
 bif(s=110||decide (s=114))&&(t=46)then([t,113],av)else
 bif(s=110||decide (s=114))&&(t=47)then([t,124],av)else
 bif(s=113||decide (s=116))&&(t=1)then([t,bif(s=116)then 117 else 114],av)else
 bif(s=113||decide (s=116))&&(t=40)then([t,119,41,bif(s=116)then 117 else 115],av)else([],aq)
def az4 (t:Int):LI×Bool:=
 bif xR t then([t,120],av)else bif(t=1)then([t,122],av)else bif(t=40)then([t,119,41,122],av)else bif(t=42)then([t,129,43],av)else bif(t=18)then([t,133],av)else([t],mS t)
def RG (t:Int):Bool:=(t=10)||(t=26||decide (60<t))
def aT8 (s t:Int):LI×Bool:=
 bif(s=119)then([120,121],mS t)else
 bif(s=120)then az4 t else
 bif(s=121)then(bif RG t then([t,119],av)else([],av))else
 bif(s=122)then(Zj t 122 122,av)else
 bif(s=123)then(bif mS t then([124],av)else([],av))else
 bif(s=124)then([119,125],mS t)else
 bif(s=125)then(bif(t=46)then([t,119,125],av)else([],av))else
 bif(s=126)||decide (s=128)then(bif(t=1)then([t,127],av)else bif(t=49)then([t],av)else([],I (s=126)))else
 bif(s=127)then(bif(t=46)then([t,128],av)else([],av))else
 bif(s=129)then(bif mS t||(t=48||decide (t=44))then([131,130],av)else([],av))else
 bif(s=130)then(bif(t=46)then([t,129],av)else([],av))else
 bif(s=131)then(bif(t=48)then([t,1,47,119],av)else bif(t=44)then([t,119,45,47,119],av)else([119],mS t))else
 bif(s=132)then([42,100,43],I (t=42))else([40,126,41,132],I (t=40))
def s9 (s t:Int):LI×Bool:=
 bif(s=100)then(bif(t=5)then([t,100],av)else bif(Z1 t).2 then((Z1 t).1++[101],av)else([],av))else
 bif(s=101)then(bif(t=5)then([t,100],av)else([],av))else
 bif(s=103)then(bif(t=47)then([t,124],av)else([],av))else
 bif(s=104)then(bif(t=46)then([t,1,104],av)else([],av))else
 bif(s=105)then(bif(t=15)then([t,119,132,105],av)else bif(t=16)then([t,132],av)else([],av))else
 bif(s=106)then(bif(t=47)then([t,119,46,119,107,132],av)else([104,21,119,132],I (t=46)||decide (t=21)))else
 bif(s=107)then(bif(t=46)then([t,119],av)else([],av))else
 bif(s=108)then(bif mS t then([124],av)else([],av))else
 bif(s=109)then(bif(t=46)then([t,1],av)else([],av))else
 bif(110<=s)&&(s<=118)then exp2 s t else aT8 s t
inductive Out where
 |no|gone|left (l:LI)
 deriving DecidableEq
def xm:Nat->LI->Int->Out
 |0,_,_=> .no
 |_+1,[],_=> .gone
 |n+1,s::r,k=>bif(s<1000)then(bif(s=k)then .left r else .no)else
   bif(jf s k).2.1 then xm n ((jf s k).1++r) k else bif(jf s k).2.2 then xm n r k else .no
def Av:Nat->LI->Int->Out
 |0,_,_=> .no
 |_+1,[],_=> .gone
 |n+1,s::r,k=>bif(s<100)then(bif(s=k)then .left r else .no)else
   bif(s9 s k).2 then Av n ((s9 s k).1++r) k else .no
def nI (s:Int):LI:=bif(s=1018)then [1020,1019]else bif(s=1031)then [1029]else [s]
def nS (s:Int):LI:=
 bif(s=119)then [1020,1019]else bif(s=124)then [1020,1019,1023]else bif(s<100)then [s]else
 [[(100,1000),(101,1001),(103,1002),(104,1006),(105,1003),(106,1004),(107,1005),(108,1007),(109,1008),(110,1009),(111,1010),(112,1011),(113,1012),(114,1013),(115,1014),(116,1015),(117,1016),(118,1017),(120,1020),(121,1019),(122,1021),(123,1022),(125,1023),(126,1024),(127,1025),(128,1026),(129,1029),(130,1030),(131,1032),(132,1027),(133,1028)].lookup s|>.getD 0]
def Out.map (f:LI->LI):Out->Out
 | .no=> .no
 | .gone=> .gone
 | .left l=> .left (f l)
def BE:LI:=[100,101,103,104,105,106,107,108,109,110,111,112,113,114,115,116,117,118,119,120,121,122,123,124,125,126,127,128,129,130,131,132,133]
def allI:LI:=(cN 33).map λ(n:Nat)=>1000+n 
def kinds:LI:=(cN 79).map λ(n:Nat)=>n 
def Yy:(BE.all λs=>kinds.all λk=>I ((Av 9 [s] k).map (·.flatMap nS)=(xm 9 (nS s) k).map (·.flatMap nI)))=true:=by kernel_rfl
def YY:(allI.all λs=>kinds.all λk=>I ((xm 9 [s] k).map (·.flatMap nI)=(xm 9 (nI s) k).map (·.flatMap nI)))=true:=by kernel_rfl
end Go.Abs.D
end

section
namespace Go.Abs.D
def PK (one:Int->Int->Out):LI->Int->Out
 |[],_=> .gone
 |s::r,k=>match one s k with
  | .no=> .no
  | .gone=>PK one r k
  | .left l=> .left (l++r)
def stI (s k:Int):Out:=xm 9 [s] k
def stS (s k:Int):Out:=Av 9 [s] k
def kV:LI->Int->Out:=PK stI
def tJ:LI->Int->Out:=PK stS
def NI (a:LI):LI:=a.flatMap nI
def NS (b:LI):LI:=b.flatMap nS
def Out.then (o:Out)(c:LI)(d:Out):Out:=match o with
 | .no=> .no
 | .gone=>d
 | .left l=> .left (l++c)
def ky (one) (s) (r:LI) (k):PK one (s::r) k=(one s k).then r (PK one r k):=by
 rfl
def TL (o:Out) (r c) (d e):(o.then r d).then c e=o.then (r++c) (d.then c e):=by
 cases o with
 |no=>rfl
 |gone=>rfl
 |left l=>simp[Out.then]
def Bb (one) (k):∀a c:LI,PK one (a++c) k=(PK one a k).then c (PK one c k)
 |[],c=>rfl
 |s::r,c=>by
  rw[List.cons_append,ky,ky,TL,Bb one k r c]
theorem Out.El (f) (hf:∀a b,f (a++b)=f a++f b)(o:Out) (c) (d):(o.then c d).map f=(o.map f).then (f c) (d.map f):=by
 cases o with
 |no=>rfl
 |gone=>rfl
 |left l=>grind [Out.then,Out.map]
def yM (a b):NI (a++b)=NI a++NI b:=List.flatMap_append
def TP (a b):NS (a++b)=NS a++NS b:=List.flatMap_append
def okI (s:Int):Prop:=(0<=s/\s<=78)\/s∈allI
def okS (s:Int):Prop:=(0<=s/\s<=78)\/s∈BE
def Q8 (h:s<=78):nI s=[s]:=by
 grind [nI,aa]
def af1 (h:s<=78):nS s=[s]:=by
 grind [nS,aa,ab]
theorem xQ (h:s<=78):stI s k=bif(s=k)then .left []else .no:=by
 grind [stI,xm,ab]
theorem HC (h:s<=78):stS s k=bif(s=k)then .left []else .no:=by
 grind [stS,Av,ab]
def az2:(allI.all λs=>kinds.all λk=>I (xm 9 (nI s) k=kV (nI s) k))=true:=by kernel_rfl
def ay8:(BE.all λs=>kinds.all λk=>I (xm 9 (nS s) k=kV (nS s) k))=true:=by kernel_rfl
def nfI:(allI.all λs=>I (NI (nI s)=nI s))=true:=by kernel_rfl
def nfS:(BE.all λs=>I (NI (nS s)=nS s))=true:=by kernel_rfl
theorem mC (h0:0<=k)(h1:k<=78):k∈kinds:=by
 exact List.mem_map.2 ⟨k.toNat,cL.2 (by omega),by omega⟩
def aD0 (hs:okI s)(h0:0<=k)(h1:k<=78):(stI s k).map NI=(kV (nI s) k).map NI/\NI (nI s)=nI s:=by
 rcases hs with⟨_,h⟩|h
 ·rw[Q8 h];refine⟨?_,by simp_all[NI,Q8]⟩
  have e:kV [s] k=(stI s k).then [] .gone:=ky stI s [] k
  rw[e,xQ h];cases I (s=k)<;>rfl
 ·have t:=of_decide_eq_true (aK.1 (aK.1 YY s h) k (mC h0 h1));have f:=of_decide_eq_true (aK.1 (aK.1 az2 s h) k (mC h0 h1));have n:=of_decide_eq_true (aK.1 nfI s h);rw[<-f];exact⟨t,n⟩
def aD3 (hs:okS s)(h0:0<=k)(h1:k<=78):(stS s k).map NS=(kV (nS s) k).map NI/\NI (nS s)=nS s:=by
 rcases hs with⟨_,h⟩|h
 ·rw[af1 h];refine⟨?_,by simp_all[NI,Q8]⟩
  have e:kV [s] k=(stI s k).then [] .gone:=ky stI s [] k
  rw[e,xQ h,HC h];cases I (s=k)<;>rfl
 ·have t:=of_decide_eq_true (aK.1 (aK.1 Yy s h) k (mC h0 h1));have f:=of_decide_eq_true (aK.1 (aK.1 ay8 s h) k (mC h0 h1));have n:=of_decide_eq_true (aK.1 nfS s h);rw[<-f];exact⟨t,n⟩
def ab2:∀{a:LI},(∀s∈a,okI s)->NI (NI a)=NI a
 |[],_=>rfl
 |s::r,h=>by
  have e:NI (s::r)=nI s++NI r:=bE;rw[e,yM,ab2 λx hx=>h x (aB _ hx),(aD0 (k:=0) (h s (aD ..)) (by decide) (by decide)).2]
def aa1:∀{b:LI},(∀s∈b,okS s)->NI (NS b)=NS b
 |[],_=>rfl
 |s::r,h=>by
  have e:NS (s::r)=nS s++NS r:=bE;rw[e,yM,aa1 λx hx=>h x (aB _ hx),(aD3 (k:=0) (h s (aD ..)) (by decide) (by decide)).2]
def Sy (h0:0<=k)(h1:k<=78):∀{a:LI},(∀s∈a,okI s)->(kV a k).map NI=(kV (NI a) k).map NI
 |[],_=>rfl
 |s::r,h=>by
  have e:NI (s::r)=nI s++NI r:=bE
  have ih:=Sy h0 h1 (a:=r) λx hx=>h x (aB _ hx)
  have hs:=aD0 (h s (aD ..)) h0 h1
  have hr:NI (NI r)=NI r:=ab2 λx hx=>h x (aB _ hx)
  have e2:kV (s::r) k=(stI s k).then r (kV r k):=ky stI s r k
  have e3:kV (nI s++NI r) k=(kV (nI s) k).then (NI r) (kV (NI r) k):=Bb stI k (nI s) (NI r)
  rw[e,e2,e3,Out.El NI yM,Out.El NI yM,hs.1,ih,hr]
def SG (h0:0<=k)(h1:k<=78):∀{b:LI},(∀s∈b,okS s)->(tJ b k).map NS=(kV (NS b) k).map NI
 |[],_=>rfl
 |s::r,h=>by
  have e:NS (s::r)=nS s++NS r:=bE
  have ih:=SG h0 h1 (b:=r) λx hx=>h x (aB _ hx)
  have hs:=aD3 (h s (aD ..)) h0 h1
  have hr:NI (NS r)=NS r:=aa1 λx hx=>h x (aB _ hx)
  have e2:tJ (s::r) k=(stS s k).then r (tJ r k):=ky stS s r k
  have e3:kV (nS s++NS r) k=(kV (nS s) k).then (NS r) (kV (NS r) k):=Bb stI k (nS s) (NS r)
  rw[e,e2,e3,Out.El NS TP,Out.El NI yM,hs.1,ih,hr]
def OE (h0:0<=k)(h1:k<=78){a b:LI}(ha:∀s∈a,okI s)(hb:∀s∈b,okS s)(h:NI a=NS b):(kV a k).map NI=(tJ b k).map NS:=by
 simp_all[Sy,SG]
end Go.Abs.D
end

section
namespace Go.Abs.D
def eW (c:Int):Bool:=(97<=c&&c<=122)||(65<=c&&c<=90)||decide (c=95)
def dT (c:Int):Bool:=(48<=c)&&(c<=57)
def KX (c:Int):Bool:=(97<=c)&&(c<=102)
def jm (c:Int):Bool:=dT c||KX c
def mK (c:Int):Int:=bif dT c then c - 48 else bif KX c then c - 87 else -1
def get (s:LI)(j:Nat):Int:=s.getD j 0
theorem lK (h:s.length<=j):get s j=0:=by
 simp_all[get,aG,bR]
def aE0 (pre) (x) (r:LI):get (pre++x::r) pre.length=x:=oH pre x r 0
theorem al2:jm 0=false:=rfl
structure Base1 (T:S.Tab):Prop where
 iletter:∀c,oO T c=U (eW c,cV)
 idigit:∀c,mu T c=U (dT c,cV)
 sletter:∀c,mR T c=U (eW c,cV)
 sdigit:∀c,gx T c=U (dT c,cV)
 look:∀(s:LI) (j:Nat),fP T s (j:Int)=U (get s j,cW)
 words:vA T=U (Lx.words,lP)
def zD (T):Base1 (S.step T):=by
 refine⟨λc=> ?_,λc=> ?_,λc=> ?_,λc=> ?_,λs j=> ?_, ?_⟩
 ·grind [HP,iJ,eW,decide]
 ·grind [KJ,iJ,dT,decide]
 ·grind [E5,iJ,eW,decide]
 ·grind [GH,iJ,dT,decide]
 ·rw[H9]
  by_cases h:j<s.length
  ·rw[c8 (by simp_all),c8 (by grind)];rfl
  simp_all[dz,lK]
 ·rw[GK];rfl
structure Base2 (T:S.Tab):Prop extends Base1 T where
 ihex:∀c,yO T c=U (jm c,cV)
 shex:∀c,rW T c=U (mK c,cV)
def Iz (T) (h:Base1 T):Base2 (S.step T):=by
 refine⟨zD T,λc=> ?_,λc=> ?_⟩
 ·rw[Md,h.idigit]
  grind [iJ,jm,KX,dT,decide]
 ·rw[Ky,h.sdigit];simp[mK]
  cases hd:dT c with
  |true=>
   simp[dT]at hd;rw[c8 rfl,Bx _ (by omega) (by omega),wrap64 _ (by omega) (by omega)];rfl
  |false=>
   grind [c8,Bx,wrap64,KX,dz]
def dF:Evt λn=>Base2 (S.tab n):=by
 have h1:Evt λn=>Base1 (S.tab n):=Evt.up (Evt.of (p:=λ_=>True) λ_=>trivial) λn _=>zD _
 exact h1.up λn h=>Iz _ h
def si (c):I (0<=mK c)=jm c:=by
 grind [mK,jm,dT,KX]
def xO (c):mK c<16:=by
 grind [mK,dT,KX]
end Go.Abs.D
end

section
namespace Go.Abs.D
def wq (s:LI)(j:Nat):Bool:=eW (get s j)||dT (get s j)
def dq (s:LI)(j:Nat):Bool:=dT (get s j)
def hq (s:LI)(m j:Nat):Bool:=(j<m)&&jm (get s j)
theorem uX:∀j,s.length<=j->wq s j=false:=λj h=>by unfold wq;rw[lK h];rfl
def tF:∀j,s.length<=j->dq s j=false:=λj h=>by unfold dq;rw[lK h];rfl
def FN:∀j,s.length<=j->hq s m j=false:=λj h=>by simp_all[hq,lK,al2,aT]
def zf (s:LI)(j:Nat):Nat:=stop (wq s) s.length j
def s4 (s:LI)(j:Nat):Nat:=stop (dq s) s.length j
def py (s:LI)(m j:Nat):Nat:=stop (hq s m) s.length j
theorem dK (s) (j):s.getD (j:Int).toNat 0=get s j:=rfl
def p8 {q:Nat->Bool}(h:∀j,N<=j->q j=aq)(hq:q j=av):j<N:=by
 grind
theorem dm {n j:Nat}(h:j<n):(0<=(j:Int)&&j<(n:Int))=true:=by
 grind
theorem eT {j:Nat}(h:j<=4194304):ar.wrap (j+1)=((j+1:Nat)):=by
 grind [wrap64]
variable{s:LI}(hs:s.length<=2097152)
include hs
def Io (i) (t) (j:Nat):Evt λn=>nT (S.tab n) s i t j=U (an (s,i,t,(zf s j:Int),())):=
 adv (F:=λT j=>nT T s i t ↑j) (out:=λj=>an (s,i,t,j,())) dF uX
  (λT j h hq=>by
   have hj:=p8 uX hq;show nT (S.step T) s i t j=nT T s i t ((j+1));rw[A0,c8 (by simp_all),c8 (dm hj),dK,h.iletter,h.idigit,eT (by omega)];simp only[al,iJ,dm hj,ah];unfold wq at hq
   grind)
  (λT j h hq=>by
   show nT (S.step T) s i t j=_;rw[A0]
   by_cases hj:j<s.length
   ·rw[c8 (by simp_all),c8 (dm hj),dK,h.iletter,h.idigit];simp only[al,iJ,dm hj,ah];simp_all[wq,hq]
   simp_all[dz]) s.length j (by omega)
def DK (t3 t4) (j:Nat):Evt λn=>kP (S.tab n) s t3 t4 j=U (an (s,t3,t4,(zf s j:Int),())):=
 adv (F:=λT j=>kP T s t3 t4 ↑j) (out:=λj=>an (s,t3,t4,j,())) dF uX
  (λT j h hq=>by
   have hj:=p8 uX hq;show kP (S.step T) s t3 t4 j=kP T s t3 t4 ((j+1));rw[xx,h.look,eT (by omega)];simp[h.sletter,h.sdigit,iJ];unfold wq at hq
   grind)
  (λT j h hq=>by
   show kP (S.step T) s t3 t4 j=_;rw[xx,h.look];simp[h.sletter,h.sdigit,iJ]
   simp_all[wq,hq]) s.length j (by omega)
def Db (i) (t) (j:Nat):Evt λn=>ji (S.tab n) s i t j=U (an (s,i,t,(s4 s j:Int),())):=
 adv (F:=λT j=>ji T s i t ↑j) (out:=λj=>an (s,i,t,j,())) dF tF
  (λT j h hq=>by
   have hj:=p8 tF hq;show ji (S.step T) s i t j=ji T s i t ((j+1));rw[wK,c8 (by simp_all),c8 (dm hj),dK,h.idigit,eT (by omega)];simp[iJ]
   rw[show dT (get s j)=av from hq];rfl)
  (λT j h hq=>by
   show ji (S.step T) s i t j=_;rw[wK]
   by_cases hj:j<s.length
   ·rw[c8 (by simp_all),c8 (dm hj),dK,h.idigit];simp[iJ];rw[show dT (get s j)=aq from hq];rfl
   simp_all[dz]) s.length j (by omega)
def Da (i) (t) (m) (j:Nat):Evt λn=>ld (S.tab n) s i t ↑j m=U (an (s,i,t,(s4 s j:Int),m,())):=
 adv (F:=λT j=>ld T s i t ↑j m) (out:=λj=>an (s,i,t,j,m,())) dF tF
  (λT j h hq=>by
   have hj:=p8 tF hq;show ld (S.step T) s i t j m=ld T s i t ((j+1)) m;rw[wj,c8 (by simp_all),c8 (dm hj),dK,h.idigit,eT (by omega)];simp[iJ]
   rw[show dT (get s j)=av from hq];rfl)
  (λT j h hq=>by
   show ld (S.step T) s i t j m=_;rw[wj]
   by_cases hj:j<s.length
   ·rw[c8 (by simp_all),c8 (dm hj),dK,h.idigit];simp[iJ];rw[show dT (get s j)=aq from hq];rfl
   simp_all[dz]) s.length j (by omega)
def C5 (i) (t) (m) (j:Nat):Evt λn=>kZ (S.tab n) s i t ↑j m=U (an (s,i,t,(s4 s j:Int),m,())):=
 adv (F:=λT j=>kZ T s i t ↑j m) (out:=λj=>an (s,i,t,j,m,())) dF tF
  (λT j h hq=>by
   have hj:=p8 tF hq;show kZ (S.step T) s i t j m=kZ T s i t ((j+1)) m;rw[wE,c8 (by simp_all),c8 (dm hj),dK,h.idigit,eT (by omega)];simp[iJ]
   rw[show dT (get s j)=av from hq];rfl)
  (λT j h hq=>by
   show kZ (S.step T) s i t j m=_;rw[wE]
   by_cases hj:j<s.length
   ·rw[c8 (by simp_all),c8 (dm hj),dK,h.idigit];simp[iJ];rw[show dT (get s j)=aq from hq];rfl
   simp_all[dz]) s.length j (by omega)
def DW (i:Nat) (t) (j:Nat)(hi:i<=2097152):Evt λn=>lR (S.tab n) s ↑i t j=U (an (s,(i:Int),t,(py s (i+18) j:Int),())):=
 adv (F:=λT j=>lR T s ↑i t ↑j) (out:=λj=>an (s,i,t,j,())) dF FN
  (λT j h ac6=>by
   have hj:=p8 FN ac6;simp[hq]at ac6;show lR (S.step T) s i t j=lR T s i t ((j+1));rw[xD,c8 (by simp_all),wrap64 (i+18) (by omega) (by omega),c8 (by grind),c8 (dm hj),dK,h.ihex,eT (by omega)]
   simp_all[iJ])
  (λT j h ac6=>by
   show lR (S.step T) s i t j=_;rw[xD]
   by_cases hj:j<s.length
   ·rw[c8 (by simp_all),wrap64 ((i:Int)+18) (by omega) (by omega)]
    by_cases a00:j<i+18
    ·rw[c8 (by grind),c8 (dm hj),dK,h.ihex];simp_all[hq,iJ]
    grind [dz]
   simp_all[dz]) s.length j (by omega)
def Cm (t3 t4) (j:Nat):Evt λn=>js (S.tab n) s t3 t4 j=U (an (s,t3,t4,(s4 s j:Int),())):=
 adv (F:=λT j=>js T s t3 t4 ↑j) (out:=λj=>an (s,t3,t4,j,())) dF tF
  (λT j h hq=>by
   have hj:=p8 tF hq;show js (S.step T) s t3 t4 j=js T s t3 t4 ((j+1));rw[u7,h.look,eT (by omega)];simp[h.sdigit,iJ]
   rw[show dT (get s j)=av from hq];rfl)
  (λT j h hq=>by
   show js (S.step T) s t3 t4 j=_;rw[u7,h.look];simp[h.sdigit,iJ]
   rw[show dT (get s j)=aq from hq];rfl) s.length j (by omega)
def AO (t3 t4) (j:Nat):Evt λn=>jA (S.tab n) s t3 t4 j=U (an (s,t3,t4,(s4 s j:Int),())):=
 adv (F:=λT j=>jA T s t3 t4 ↑j) (out:=λj=>an (s,t3,t4,j,())) dF tF
  (λT j h hq=>by
   have hj:=p8 tF hq;show jA (S.step T) s t3 t4 j=jA T s t3 t4 ((j+1));rw[uk,h.look,eT (by omega)];simp[h.sdigit,iJ]
   rw[show dT (get s j)=av from hq];rfl)
  (λT j h hq=>by
   show jA (S.step T) s t3 t4 j=_;rw[uk,h.look];simp[h.sdigit,iJ]
   rw[show dT (get s j)=aq from hq];rfl) s.length j (by omega)
def AJ (t3 t4) (j:Nat):Evt λn=>gL (S.tab n) s t3 t4 j=U (an (s,t3,t4,(s4 s j:Int),())):=
 adv (F:=λT j=>gL T s t3 t4 ↑j) (out:=λj=>an (s,t3,t4,j,())) dF tF
  (λT j h hq=>by
   have hj:=p8 tF hq;show gL (S.step T) s t3 t4 j=gL T s t3 t4 ((j+1));rw[uh,h.look,eT (by omega)];simp[h.sdigit,iJ]
   rw[show dT (get s j)=av from hq];rfl)
  (λT j h hq=>by
   show gL (S.step T) s t3 t4 j=_;rw[uh,h.look];simp[h.sdigit,iJ]
   rw[show dT (get s j)=aq from hq];rfl) s.length j (by omega)
end Go.Abs.D
end

section
namespace Go.Abs.D
def kq (w:LI)(j:Nat):Bool:=(j<22)&& !(Lx.words.getD j []=w)
def Np:∀j,22<=j->kq w j=false:=λj h=>by grind [kq]
def BC (w:LI):Nat:=stop (kq w) 22 0
def Nd (l:List LI)(j:Nat):l.getD (j:Int).toNat []=l.getD j []:=rfl
def GR (w) (j:Nat)(hj:j<=22):Evt λn=>mG (S.tab n) w Lx.words 22 j=
  U (if stop (kq w) 22 j<22 then an (((10+stop (kq w) 22 j:Nat):Int),())else aE (an ())):=
 adv (F:=λT j=>mG T w Lx.words 22 ↑j) (out:=λj=>if j<22 then an (((10+j:Nat)),())else aE (an ())) dF Np
  (λT j h hq=>by
   have hj:=p8 Np hq;show mG (S.step T) w Lx.words 22 j=mG T w Lx.words 22 ((j+1));rw[zW,c8 (by grind),c8 (dm (show j<Lx.words.length from hj)),Nd,eT (by omega)]
   simp_all[kq,aA,bU,hq,dz])
  (λT j h hq=>by
   show mG (S.step T) w Lx.words 22 j=_;rw[zW]
   by_cases hj:j<22
   ·rw[c8 (by grind),c8 (dm (show j<Lx.words.length from hj)),Nd];simp only[kq,hj,decide_true,bD,cU]at hq;rw[c8 hq,aj hj,wrap64 _ (by omega) (by omega)]
    congr 3
   ·rw[dz (by grind),ai hj]) 22 j (by omega)
def DU (t3 t4) (w) (j:Nat)(hj:j<=22):Evt λn=>kQ (S.tab n) t3 t4 w Lx.words 22 j=
  U (if stop (kq w) 22 j<22 then an ((((10+stop (kq w) 22 j:Nat):Int),t3.2),(-1),())else aE (an (t3,t4,w,()))):=
 adv (F:=λT j=>kQ T t3 t4 w Lx.words 22 ↑j) (out:=λj=>if j<22 then an ((((10+j:Nat)),t3.2),(-1),())else aE (an (t3,t4,w,()))) dF Np
  (λT j h hq=>by
   have hj:=p8 Np hq;show kQ (S.step T) t3 t4 w Lx.words 22 j=kQ T t3 t4 w Lx.words 22 ((j+1));rw[xB,c8 (by grind),c8 (dm (show j<Lx.words.length from hj)),Nd,eT (by omega)]
   simp_all[kq,aA,bU,hq,dz])
  (λT j h hq=>by
   show kQ (S.step T) t3 t4 w Lx.words 22 j=_;rw[xB]
   by_cases hj:j<22
   ·rw[c8 (by grind),c8 (dm (show j<Lx.words.length from hj)),Nd];simp only[kq,hj,decide_true,bD,cU]at hq;rw[c8 hq,aj hj,wrap64 _ (by omega) (by omega)]
    congr 4
   ·rw[dz (by grind),ai hj]) 22 j (by omega)
def yZ (w:LI):Int:=if BC w<22 then((10+BC w:Nat))else 1
def Mx (w):Evt λn=>B7 (S.tab n) w=U (yZ w,cV):=
 (GR w 0 (by omega)).up λn h=>by
  show B7 (S.step (S.tab n)) w=_;have h:mG (S.tab n) w Lx.words Lx.words.length 0=_:=h;rw[Mp,h];unfold yZ BC;split<;>rfl
theorem Ga (w):yZ w=1↔¬ BC w<22:=by
 unfold yZ;omega
def KW (s:LI)(i:Nat):di.den:=
 let e:=zf s i
 let w:=sub s ↑i ↑e
 if BC w<22 then(((10+BC w:Nat):Int),(i:Int),(e:Int),0,0,[],())else(1,(i:Int),(e:Int),0,0,w,())
def xe (h:∀j,N<=j->q j=aq):∀k j,j<=N->stop q k j<=N
 |0,j,hj=>hj
 |k+1,j,hj=>by
  unfold stop
  cases hq:q j with
  |false=>grind
  |true=>
   have:=p8 h hq;exact xe h k (j+1) (by omega)
def fO (h1:i<=e)(h2:e<=n):bounds n ↑i e=true:=by
 simp_all[bounds]
def Ij (hs:s.length<=2097152){i:Nat}(hi:i<s.length)(t:di.den)(ht:t=(0,(i:Int),0,0,0,[],())):
  Evt λn=>xE (S.tab n) s t=U ((KW s i, -1,()),fD):=by
 subst ht;have hle:zf s i<=s.length:=xe uX _ _ (by omega);have La:i<=zf s i:=vG _ _
 refine(((DK hs (0,i,0,0,0,[],()) (0,0,0,0,0,[],()) i).and (DU (1,i,(zf s i),0,0,[],()) (0,0,0,0,0,[],()) (sub s ↑i (zf s i)) 0 (by omega))).and dF).up λn ⟨⟨h1,h2⟩,hb⟩=> ?_
 show xE (S.step (S.tab n)) s _=_;rw[Iu];simp[h1,dH,c8 (fO La hle),hb.words];have h2:kQ (S.tab n) (1,i,(zf s i),0,0,[],()) (0,0,0,0,0,[],()) (sub s ↑i (zf s i)) Lx.words Lx.words.length 0=_:=h2;rw[h2];unfold KW BC;simp;split<;>rfl
def KT (hs:s.length<=2097152){i:Nat}(hi:i<s.length)(hl:eW (get s i)=av):
  Evt λn=>lT (S.tab n) s i=U ((KW s i,aq,()),cW):=by
 have hle:zf s i<=s.length:=xe uX _ _ (by omega);have La:i<=zf s i:=vG _ _
 refine(((Io hs ↑i (0,i,0,0,0,[],()) i).and (Mx (sub s ↑i (zf s i)))).and dF).up λn ⟨⟨h1,h2⟩,hb⟩=> ?_
 show lT (S.step (S.tab n)) s _=_;rw[Gn,c8 (dm hi),dK,hb.iletter,hl];simp[c8,h1,dH,c8 (fO La hle),h2];unfold KW
 by_cases hk:BC (sub s ↑i (zf s i))<22
 ·grind [yZ,sub,zf,Ga,dz]
 grind [c8,Ga,yZ]
end Go.Abs.D
end

section
namespace Go.Abs.D
def hv (n:Int)(l:LI):Int:=l.foldl (λn c=>n*16+mK c) n
theorem M3 (n c) (l:LI):hv n (c::l)=hv (n*16+mK c) l:=rfl
def YA (n c) (l):hv n (l++[c])=hv n l*16+mK c:=by simp[hv,List.foldl_append]
def WW (h:a<=b):(16:Int)^a<=16^b:=by
 have:=Nat.pow_le_pow_right (show 0<16 by decide) h
 grind
def vC (h:jm c=av):0<=mK c:=by
 have:=si c;simp_all
def W4:∀l n,0<=n->(∀c∈l,jm c=av)->n<=hv n l
 |[],n,_,_=>cM _
 |c::l,n,h0,h=>by
  have h1:=vC (h c (aD ..))
  have:=W4 l (n*16+mK c) (by omega) λx hx=>h x (aB _ hx)
  grind [M3]
def Xc:∀l n k,0<=n->n<16^k->(∀c∈l,jm c=av)->hv n l<16^(k+l.length)
 |[],n,k,_,hn,_=>hn
 |c::l,n,k,h0,hn,h=>by
  have h1:=vC (h c (aD ..));have h2:=xO c
  have:=Xc l (n*16+mK c) (k+1) (by omega) (by omega) λx hx=>h x (aB _ hx)
  grind [M3,aw]
theorem Gz (x) (h0:0<=x)(h1:x<18446744073709551616):aJ.wrap x=x:=by
 grind [IntKind.wrap,IntKind.bits,IntKind.signed]
structure Base3 (T:S.Tab):Prop extends Base2 T where
 lower:∀c,gj T c=U (intBits .or .u8 c 32,cV)
 j46:∀(m n v:Int) (t9 l:LI) (a b:Int),0<=v->v<16->0<=n->n<1152921504606846976->n*16+v<=m->m<18446744073709551616->
  gy T 16 aq t9 1152921504606846976 m aq n v l a b=U (aE (an (16,aq,t9,1152921504606846976,m,aq,n*16+v,l,a,b,())))
def QH (T) (h:Base1 T):Base3 (S.step T):=by
 refine⟨Iz T h,λc=> ?_,λm n v t9 l a b ay5 ay4 XF ZH hm hM=> ?_⟩
 ·rw[C6]
 ·have bl6:aO.wrap 16=16:=(by decide)
  grind [vS,Gz,dz]
def Z7:Evt λn=>Base3 (S.tab n):=by
 have h1:Evt λn=>Base1 (S.tab n):=Evt.up (Evt.of (p:=λ_=>True) λ_=>trivial) λn _=>zD _
 exact h1.up λn h=>QH _ h
def ay9 (l) (j):l.getD (j:Int).toNat 0=get l j:=rfl
def ag7 (c) (h:KX c=av):intBits .or .u8 c 32=c:=by
 simp[KX]at h;have:c=97\/c=98\/c=99\/c=100\/c=101\/c=102:=(by omega)
 rcases this with rfl|rfl|rfl|rfl|rfl|rfl<;>decide
theorem VM (T) (hb:Base3 T) (t9 l) (m n) (j) (hj:j<l.length)(hl:l.length<=2097152)(hc:jm (get l j)=av)(XF:0<=n)(ZH:n<1152921504606846976)(hm:n*16+mK (get l j)<=m)(hM:m<18446744073709551616):
  ew (S.step T) 16 aq t9 1152921504606846976 m aq n l l.length j=
   ew T 16 aq t9 1152921504606846976 m aq (n*16+mK (get l j)) l l.length ((j+1:Nat)):=by
 have h0:=vC hc;have zT:=xO (get l j);rw[qg,c8 (by simp_all),c8 (dm hj)];rw[ay9,eT (show j<=4194304 by omega)]
 cases hd:dT (get l j)with
 |true=>
  have hv:mK (get l j)=get l j - 48:=by grind [mK]
  simp[dT]at hd
  have mU:I (get l j=95)=false:=by grind
  rw[dz mU,c8 (by simp_all),c8 (by simp_all),Bx _ (by omega) (by omega),<-hv,hb.j46 m n _ t9 l _ _ h0 zT XF ZH hm hM];simp only[al,ep,aW,aH]
  grind [eT]
 |false=>
  have ax6:KX (get l j)=true:=by
   simp_all[jm,bH]
  have hv:mK (get l j)=get l j - 87:=by simp_all[mK]
  have be0:=ag7 _ ax6;simp[KX]at ax6
  have mU:I (get l j=95)=false:=by grind
  have e:aO.wrap (aO.wrap (get l j - 97)+10)=mK (get l j):=by
   grind [Bx,get,hv]
  have h9:¬ get l j<=57:=(by omega)
  have ZK:I (get l j<=57)=false:=by simp_all
  rw[dz mU];simp only[hb.lower,be0,al];rw[c8 (show I (48<=get l j)=av by grind),dz ZK,c8 (show I (97<=get l j)=av by simp_all),c8 (show I (get l j<=122)=av by grind),e,hb.j46 m n _ t9 l _ _ h0 zT XF ZH hm hM];simp only[al,ep,aW,aH]
  grind [eT]
theorem Yp (pre) (c) (r:LI):get (pre++c::r) pre.length=c:=oH pre c r 0
def SV (t9) (m) (hM:m<18446744073709551616):∀r pre n,(∀c∈r,jm c=av)->0<=n->n<16^pre.length->(pre++r).length<=16->hv n r<=m->
  Evt λk=>ew (S.tab k) 16 aq t9 1152921504606846976 m aq n (pre++r) ((pre++r).length) pre.length=U (aE (an (t9,aq,hv n r,())))
 |[],pre,n,_,_,_,_,_=>Z7.up λk hb=>by
  show ew (S.step (S.tab k)) _ _ _ _ _ _ _ _ _ _=_;rw[qg,dz (by simp)];rfl
 |c::r,pre,n,hc,h0,hn,hl,hm=>by
  have h1:=vC (hc c (aD ..));have h2:=xO c
  have La:=W4 r (n*16+mK c) (by omega) λx hx=>hc x (aB _ hx)
  have ih:=SV t9 m hM r (pre++[c]) (n*16+mK c) (λx hx=>hc x (aB _ hx)) (by omega) (by
   grind) (by simp_all) hm
  refine(ih.and Z7).up λk ⟨h,hb⟩=> ?_
  grind [ew,Yp,VM,aD,M3]
def D4 (l:LI) (b) (hb:b=8/\l.length<=2\/b=64/\l.length<=16)(mU:l≠[])(hl:∀c∈l,jm c=av):
  Evt λn=>mh (S.tab n) l 16 b=U ((hv 0 l,av,()),dR):=by
 have mL:=Xc l 0 0 (by decide) (by decide) hl;rw[bJ]at mL;have hlen:l.length<=16:=(by omega)
 let m:Int:=if b=8 then 255 else 18446744073709551615
 have hm:hv 0 l<=m:=by
  rcases hb with⟨rfl,h⟩|⟨rfl,h⟩
  ·have:(16:Int)^l.length<=16^2:=WW h;omega
  ·have:(16:Int)^l.length<=16^16:=WW h;omega
 have hM:m<18446744073709551616:=by
  show(if b=8 then 255 else 18446744073709551615)<_;split<;>decide
 have h1:=SV l m hM l [] 0 hl (cM 0) (by decide) (by simp_all) hm
 have h2:Evt λn=>j9 (S.tab n) l 16 b aq l 1152921504606846976=U (an (hv 0 l,av,())):=h1.up λn h=>by
  have e:aJ.wrap (aJ.wrap (1*2^min (aJ.wrap b).toNat aJ.bits) - 1)=m:=by
   rcases hb with⟨rfl,_⟩|⟨rfl,_⟩<;>decide
  have e0:(0<=aJ.wrap b)=true:=by
   rcases hb with⟨rfl,_⟩|⟨rfl,_⟩<;>decide
  simp_all[vU,c8,ep,iJ]
 have h3:Evt λn=>l7 (S.tab n) l 16 b aq l=U (an (hv 0 l,av,())):=h2.up λn h=>by
  rw[vW,dz (by decide),c8 (by decide),h];rfl
 have h4:Evt λn=>ma (S.tab n) l 16 b aq l=U (an (hv 0 l,av,())):=h3.up λn h=>by
  rw[vV]
  rcases hb with⟨rfl,_⟩|⟨rfl,_⟩
  ·rw[dz (by decide),dz (by decide),dz (by decide),h];rfl
  ·rw[dz (by decide),dz (by decide),dz (by decide),h];rfl
 have h5:Evt λn=>ri (S.tab n) l 16 b=U ((hv 0 l,av,()),dR):=h4.up λn h=>by
  rw[zm,dz (by simp_all),c8 (by decide),c8 (by decide)];have h:ma (S.tab n) l 16 b ((16:Int)=0) l=_:=h;rw[h];rfl
 exact h5.up λn h=>by
  simp_all[AG,al,iJ]
end Go.Abs.D
end

section
namespace Go.Abs.D
def eV (s:LI)(a b:Nat):LI:=(s.take b).drop a
def sV (s:LI)(a b:Nat):sub s ↑a b=eV s a b:=rfl
theorem qV (h1:a<=j)(h2:j<s.length):eV s a (j+1)=eV s a j++[get s j]:=by
 unfold eV get
 grind [List.take_add_one,aL]
theorem qG (a):eV s a a=[]:=by
 simp_all[eV,cn]
theorem pk (h:b<=s.length):(eV s a b).length=b - a:=by
 simp_all[eV]
def Ep {p:Int->Bool}{a:Nat}:∀k,a+k<=s.length->(∀j,a<=j->j<a+k->p (get s j)=av)->∀c∈eV s a (a+k),p c=av
 |0,_,_,c,hc=>by simp_all[Nat.add_zero,qG]
 |k+1,hk,h,c,hc=>by
  rw[show a+(k+1)=a+k+1 by omega,qV (by omega) (by omega)]at hc
  rcases aP.1 hc with hc|hc
  ·exact Ep k (by omega) (λj h1 h2=>h j h1 (by omega)) c hc
  simp_all
def mZ (s:LI)(i:Nat):Nat⊕di.den:=
 let e:=py s (i+18) (i+2)
 if e=i+2 then .inl e else if jm (get s e)=av then .inl e else .inr (2,(i:Int),(e:Int),0,ar.wrap (hv 0 (eV s (i+2) e)),[],())
def k23 (k:Int):Bool:=(k=2)||decide (k=3)
def k4 (k:Int):Bool:=(k=4)
def kB (c k:Int):Bool:=bif dT c then k23 k else bif(c=34)then k4 k else(k=0)
def IR (K:Int->Bool)(r:Nat⊕di.den)(t:di.den)(b:Bool):Prop:=match r with| .inl e=>b=av/\t.2.2.1=(e:Int)/\K t.1=av| .inr t'=>b=aq/\t=t'
def SR (K:Int->Bool)(r:Nat⊕di.den)(t:di.den)(b:Int):Prop:=match r with| .inl e=>b=e/\K t.1=av| .inr t'=>b= -1/\t=t'
def IR.to (h:∀k,K k=L k){r:Nat⊕di.den}{t:di.den}{b:Bool}:IR K r t b->IR L r t b:=by
 rw[show K=L from funext h];simp
def SR.to (h:∀k,K k=L k){r:Nat⊕di.den}{t:di.den}{b:Int}:SR K r t b->SR L r t b:=by
 rw[show K=L from funext h];simp
variable{s:LI}(hs:s.length<=2097152)
include hs
omit hs in
theorem SY {i:Nat}(hi:i+2<=s.length):py s (i+18) (i+2)<=s.length/\i+2<=py s (i+18) (i+2)/\py s (i+18) (i+2)<=i+18:=by
 refine⟨xe FN _ _ hi,vG _ _, ?_⟩;refine xe (q:=hq s (i+18)) (N:=i+18) (λj hj=> ?_) _ _ (by omega)
 grind [hq,cQ,ae]
omit hs in
theorem YR {i:Nat}(hi:i+2<=s.length):∀c∈eV s (i+2) (py s (i+18) (i+2)),jm c=true:=by
 obtain⟨h1,h2,h3⟩:=SY hi;obtain⟨k,hk⟩:∃k,py s (i+18) (i+2)=i+2+k:=⟨py s (i+18) (i+2) - (i+2),by omega⟩;rw[hk]
 refine Ep k (by omega) λj ha hb=> ?_
 grind [rD,hq,py]
def CI (t3 t4:di.den){i:Nat}(ht:t3.2.1=(i:Int))(hi:i+2<=s.length):∀k j,i+2<=j->j<=i+18->s.length<=j+k->(∀c∈eV s (i+2) j,jm c=av)->j<=s.length->
  Evt λn=>pf (S.tab n) s t3 t4 ↑j (hv 0 (eV s (i+2) j))=
   U (bif jm (get s (stop (hq s (i+18)) k j))then an (t3,(stop (hq s (i+18)) k j:Int),())else aE (an (t3,t4,(stop (hq s (i+18)) k j:Int),hv 0 (eV s (i+2) (stop (hq s (i+18)) k j)),())))
 |0,j,h1,h2,hk,Ay,hj=>by
  refine dF.up λn hb=> ?_
  rw[oS,hb.look];simp[hb.shex,si,stop];rw[lK (show s.length<=j by omega),al2,dz rfl];rfl
 |k+1,j,h1,h2,hk,Ay,hj=>by
  cases hc:jm (get s j)with
  |false=>
   have at2:hq s (i+18) j=false:=by grind [hq]
   refine dF.up λn hb=> ?_
   rw[oS,hb.look,BW at2];simp only[al,hb.shex,si,hc];rw[dz rfl];rfl
  |true=>
   have mL:j<s.length:=by
    grind [bB,lK,al2]
   by_cases he:j=i+18
   ·have at2:hq s (i+18) j=false:=by simp_all[hq]
    refine dF.up λn hb=> ?_
    rw[oS,hb.look,BW at2];simp only[al,hb.shex,si,hc,ht];rw[c8 rfl,wrap64 _ (by omega) (by omega),c8 (by grind)];rfl
   ·have bb1:hq s (i+18) j=true:=by
     grind [hq]
    have hlen:(eV s (i+2) j).length=j - (i+2):=pk hj;have UJ:=Xc (eV s (i+2) j) 0 0 (by decide) (by decide) Ay;rw[bJ,hlen]at UJ;have hp:(16:Int)^(j - (i+2))<=16^15:=WW (by omega);have La:=W4 (eV s (i+2) j) 0 (by decide) Ay;have h0:=vC hc;have zT:=xO (get s j)
    have ih:=CI t3 t4 ht hi k (j+1) (by omega) (by omega) (by omega) (by
     grind [qV,get]) (by omega)
    refine(ih.and dF).up λn ⟨h,hb⟩=> ?_
    have e:stop (hq s (i+18)) (k+1) j=stop (hq s (i+18)) k (j+1):=by
     show(bif hq s (i+18) j then _ else _)=_;simp_all
    rw[e,oS,hb.look];simp only[al,hb.shex,si,hc,ht,dK];rw[c8 rfl,wrap64 (j - i) (by omega) (by omega),dz (by grind),c8 (dm mL),eT (by omega)];rw[Gz (hv 0 (eV s (i+2) j)*16) (by omega) (by omega),Gz (mK (get s j)) h0 (by omega),Gz _ (by omega) (by omega)];simp_all[qV,YA]
def G4 (hi:i+2<=s.length):Evt λn=>∃t' b,vv (S.tab n) s (2,(i:Int),0,0,0,[],())=U ((t',b,()),fD)/\SR k23 (mZ s i) t' b:=by
 have hl:=CI hs (2,i,0,0,0,[],()) (0,0,0,0,0,[],()) (i:=i) rfl hi s.length (i+2) (by omega) (by omega) (by omega) (by simp_all[qG]) hi
 refine hl.up λn h=> ?_
 show∃t' b,vv (S.step (S.tab n)) s _=_/\_;rw[qG]at h;have h:pf (S.tab n) s (2,i,0,0,0,[],()) (0,0,0,0,0,[],()) ((i+2:Nat)) 0=U (bif jm (get s (py s (i+18) (i+2)))then _ else _):=h
 have e2:ar.wrap (i+2)=((i+2:Nat)):=by
  grind [wrap64]
 rw[GO];simp only[e2,h]
 cases hx:jm (get s (py s (i+18) (i+2)))with
 |true=>
  have RY:mZ s i= .inl (py s (i+18) (i+2)):=by simp_all[mZ]
  rw[RY];exact⟨_,_,rfl,rfl,rfl⟩
 |false=>
  simp only[af,al,ep,aW,aH,e2]
  by_cases he:py s (i+18) (i+2)=i+2
  ·have RY:mZ s i= .inl (py s (i+18) (i+2)):=by simp_all[mZ]
   rw[c8 (by simp_all[py]),RY];exact⟨_,_,rfl,rfl,rfl⟩
  ·have RY:mZ s i= .inr (2,i,(py s (i+18) (i+2)),0,ar.wrap (hv 0 (eV s (i+2) (py s (i+18) (i+2)))),[],()):=by unfold mZ;simp[he,hx]
   rw[dz (by simp;show¬ ((py s (i+18) (i+2)):Int)=_;omega),RY]
   first|exact⟨_,_,rfl,rfl,rfl⟩|exact⟨_,_,rfl,rfl,rfl,rfl⟩
theorem GP (hi:i+2<=s.length)(h0:get s i=48)(hx:get s (i+1)=120):Evt λn=>∃t' b,sh (S.tab n) s i=U ((t',b,()),cW)/\IR k23 (mZ s i) t' b:=by
 obtain⟨h1,h2,h3⟩:=SY hi;have hl:=DW hs i (2,i,0,0,0,[],()) (i+2) (by omega);have Ay:=YR hi;have e1:ar.wrap (i+1)=((i+1:Nat)):=eT (by omega)
 have e2:ar.wrap (i+2)=((i+2:Nat)):=by
  grind [wrap64]
 have bj7:ar.wrap (i+18)=((i+18)):=by
  grind [wrap64]
 have d0:I (get s i=48)=true:=by simp_all
 have dx:I (get s (i+1)=120)=true:=by simp_all
 by_cases he:py s (i+18) (i+2)=i+2
 ·refine hl.up λn h=> ?_
  show∃t' b,sh (S.step (S.tab n)) s _=_/\_
  have RY:mZ s i= .inl (py s (i+18) (i+2)):=by simp_all[mZ]
  rw[sL,c8 (dm (show i<s.length by omega)),dK,c8 d0,e1,c8 (by grind),c8 (dm (show i+1<s.length by omega)),dK,c8 dx,e2,h];simp only[al,dH,aH,e2];rw[c8 (by simp_all),RY]
  first|exact⟨_,_,rfl,rfl,rfl⟩|exact⟨_,_,rfl,rfl,rfl,rfl⟩
 ·have XZ:=D4 (eV s (i+2) (py s (i+18) (i+2))) 64 (.inr ⟨rfl,by rw[pk h1];omega⟩) (λe=>by
   have:=congrArg bo0 e;rw[pk h1]at this
   simp at this;omega) Ay
  have Xq:jm (get s (py s (i+18) (i+2)))=aq->mZ s i= .inr (2,i,(py s (i+18) (i+2)),0,ar.wrap (hv 0 (eV s (i+2) (py s (i+18) (i+2)))),[],()):=λhx=>by unfold mZ;simp[he,hx]
  refine((hl.and XZ).and dF).up λn ⟨⟨h,hp⟩,hb⟩=> ?_
  show∃t' b,sh (S.step (S.tab n)) s _=_/\_;rw[sL,c8 (dm (show i<s.length by omega)),dK,c8 d0,e1,c8 (by simp;omega),c8 (dm (show i+1<s.length by omega)),dK,c8 dx,e2,h];simp only[al,dH,aH,e2,bj7];rw[dz (by simp;omega)];have CW:=fO h2 h1
  by_cases aq1:py s (i+18) (i+2)=i+18
  ·rw[c8 (by simp;omega)]
   by_cases mL:py s (i+18) (i+2)<s.length
   ·rw[c8 (by simp;omega),c8 (dm mL),dK,hb.ihex];simp only[al]
    cases aN1:jm (get s (py s (i+18) (i+2)))with
    |true=>
     have RY:mZ s i= .inl (py s (i+18) (i+2)):=by unfold mZ;simp[aN1]
     rw[c8 rfl,RY]
     first|exact⟨_,_,rfl,rfl,rfl⟩|exact⟨_,_,rfl,rfl,rfl,rfl⟩
    |false=>
     rw[dz rfl,c8 CW,sV,hp,Xq aN1]
     first|exact⟨_,_,rfl,rfl,rfl⟩|exact⟨_,_,rfl,rfl,rfl,rfl⟩
   ·have hz:jm (get s (py s (i+18) (i+2)))=false:=by rw[lK (by omega)];rfl
    rw[dz (by simp;omega),c8 CW,sV,hp,Xq hz]
    first|exact⟨_,_,rfl,rfl,rfl⟩|exact⟨_,_,rfl,rfl,rfl,rfl⟩
  ·have hz:jm (get s (py s (i+18) (i+2)))=false:=by
    have hq:hq s (i+18) (py s (i+18) (i+2))=false:=uE (q:=hq s (i+18)) FN s.length (i+2) (by omega);simp only[Go.Abs.D.hq,cQ,ae]at hq
    rcases hq with hq|hq
    ·omega
    ·exact hq
   rw[dz (by simp;omega),c8 CW,sV,hp,Xq hz]
   first|exact⟨_,_,rfl,rfl,rfl⟩|exact⟨_,_,rfl,rfl,rfl,rfl⟩
end Go.Abs.D
end

section
namespace Go.Abs.D
def dv (n:Int)(l:LI):Int:=l.foldl (λn c=>n*10+(c - 48)) n
theorem Sl (n c) (l:LI):dv n (c::l)=dv (n*10+(c - 48)) l:=rfl
def Yz (n c) (l):dv n (l++[c])=dv n l*10+(c - 48):=by simp[dv,List.foldl_append]
theorem dig (h:dT c=av):48<=c/\c<=57:=by simp_all[dT]
def GA:∀l n,0<=n->(∀c∈l,dT c=av)->n<=dv n l
 |[],n,_,_=>cM _
 |c::l,n,h0,h=>by
  have:=dig (h c (aD ..))
  have:=GA l (n*10+(c - 48)) (by omega) λx hx=>h x (aB _ hx)
  grind [Sl]
def V8 (h:dT c=av):c.toNat.toUInt8.toNat=c.toNat:=by
 have:=dig h;rw[Nat.toUInt8,UInt8.toNat_ofNat'];omega
def CE:∀(l:LI) a,(∀c∈l,dT c=av)->a<=18446744073709551615->
  Lib.parseUintM (2^64 - 1) a (Lx.u8s l)=(if dv a l<=18446744073709551615 then .ok (dv a l).toNat else .range)
 |[],a,_,ha=>by
  show Lib.NumEnd.ok a=_;rw[aj (by grind [dv])];rfl
 |c::l,a,h,ha=>by
  have hc:=h c (aD ..);have hd:=dig hc
  have hl:=λx hx=>h x (aB _ hx)
  have e:=V8 hc;have La:=GA l (a*10+(c - 48)) (by omega) hl;have ih:a*10+(c.toNat - 48)<=18446744073709551615->_:=CE l (a*10+(c.toNat - 48)) hl;show Lib.parseUintM _ a (c.toNat.toUInt8::Lx.u8s l)=_;rw[Lib.parseUintM,e,aj (by omega),Sl]
  grind
def N7 {l:LI}(hl:∀c∈l,dT c=av)(mU:l≠[])(hn:l.length<=2097152):
  ∃v,Lx.tD (l,10,64,())=U ((bif(dv 0 l<9223372036854775808)then dv 0 l else v,I (dv 0 l<9223372036854775808),()),(),(),(),()):=by
 have La:=GA l 0 (cM 0) hl
 obtain⟨c,r,rfl⟩:∃c r,l=c::r:=by cases l with
  |nil=>simp_all
  |cons c r=>simp
 have hc:=hl c (aD ..);have hd:=dig hc;have e:=V8 hc;have hM:=CE (c::r) 0 hl (by decide);have hB:Lib.parseUintB 64 (Lx.u8s (c::r))=_:=(show Lib.parseUintB 64 (Lx.u8s (c::r))=Lib.parseUintM (2^64 - 1) 0 (Lx.u8s (c::r))by rfl).trans hM
 have hI:Lib.parseIntB 64 (Lx.u8s (c::r))=if dv 0 (c::r)<9223372036854775808 then .ok (dv 0 (c::r))else .range:=by
  show Lib.parseIntB 64 (c.toNat.toUInt8::Lx.u8s r)=_;unfold Lib.parseIntB;have hB:Lib.parseUintB 64 (c.toNat.toUInt8::Lx.u8s r)=_:=hB
  grind
 unfold Lx.tD;rw[show((10:Int)=10&&(64:Int)=64&&fits (c::r).length)=av by grind [fU,lim],ah]
 by_cases h2:dv 0 (c::r)<9223372036854775808
 all_goals simp[*]
def chk {j:Nat}(hc:c≠0){A B:Option ρ}:brk (j<(s.length:Int)) (brk (0<=(j:Int)&&j<(s.length:Int)) (brk (s.getD (j:Int).toNat 0=c) A B) az) B=brk (get s j=c) A B:=by
 by_cases h:j<s.length
 ·rw[c8 (by simp_all),c8 (dm h)];rfl
 simp_all[dz,lK,Ne.symm]
def mY (s:LI)(i j:Nat)(aU9:Bool):di.den:=
 bif aU9|| !(dv 0 (eV s i j)<9223372036854775808)then(3,(i:Int),(j:Int),0,0,eV s i j,())else(2,(i:Int),(j:Int),0,dv 0 (eV s i j),[],())
def digits (s:LI)(i j:Nat):Prop:=∀c∈eV s i j,dT c=av
variable{s:LI}(hs:s.length<=2097152)
include hs
def wM (Uz:i<j)(hj:j<=s.length)(hd:j=w->digits s i j):
  Evt λn=>jV (S.tab n) s ↑i (2,(i:Int),0,0,0,[],()) ↑j w=U (an (mY s i j (!(j=w)),aq,())):=by
 refine dF.up λn hb=> ?_
 have NT:=fO (n:=s.length) (i:=i) (e:=j) (by omega) hj;rw[C7,c8 NT,sV]
 by_cases h:j=w
 ·rw[c8 (by simp_all)];obtain⟨v,hv⟩:=N7 (hd h) (λe=>by grind [pk]) (by grind [pk]);rw[hv];simp;unfold mY;rw[show I (j=w)=av from ab h]
  cases I (dv 0 (eV s i j)<9223372036854775808)with
  |true=>rw[c8 rfl];rfl
  |false=>rw[dz rfl,c8 NT];rfl
 grind [dz,c8,mY,decide,aa]
omit hs in
theorem DX (t:di.den)(ht:t.1=3)(t4:di.den)(j v k:Int):Evt λn=>fw (S.tab n) s t t4 j v k=U (an (s,t,t4,j,v,())):=by
 refine dF.up λn hb=> ?_
 rw[kj]
 cases h:I (k<j)with
 |false=>rw[dz rfl]
 |true=>rw[c8 rfl,dz (by simp_all)]
def zp (hj:j<=s.length)(r:Int×Int×Int×Int×LI×Unit) (t4):∀d k,k+d=j->i<=k->digits s i j->dv 0 (eV s i k)<9223372036854775808->digits s i k->
  Evt λn=>∃v,fw (S.tab n) s (2,r) t4 ↑j (dv 0 (eV s i k)) k=U (an (s,(bif(dv 0 (eV s i j)<9223372036854775808)then 2 else 3,r),t4,(j:Int),v,()))/\(dv 0 (eV s i j)<9223372036854775808->v=dv 0 (eV s i j))
 |0,k,e,hk,hd,hv,Uw=>by
  obtain rfl:k=j:=by omega
  refine dF.up λn hb=>⟨_, ?_,λ_=>rfl⟩
  simp_all[kj,dz,ab,hv]
 |d+1,k,e,hk,hd,hv,Uw=>by
  have ZQ:k<s.length:=(by omega)
  have hc:dT (get s k)=true:=by
   refine hd _ ?_;clear hd;unfold eV get;rw[List.mem_iff_getElem?];refine⟨k - i, ?_⟩;rw[cJ,cT,aj (by omega),aG];simp_all
  have aK8:=dig hc;have h0:=GA (eV s i k) 0 (cM 0) Uw;have N1:eV s i (k+1)=eV s i k++[get s k]:=qV hk ZQ
  have as9:digits s i (k+1):=by
   intro x hx;rw[N1]at hx
   rcases aP.1 hx with hx|hx
   ·exact Uw x hx
   simp_all
  have ay4:dv 0 (eV s i (k+1))=dv 0 (eV s i k)*10+(get s k - 48):=(by rw[N1,Yz])
  have hmono:dv 0 (eV s i (k+1))<=dv 0 (eV s i j):=by
   have e1:eV s i j=eV s i (k+1)++eV s (k+1) j:=by
    unfold eV
    have:(s.take j)=s.take (k+1)++(s.take j).drop (k+1):=by
     conv=>lhs;rw[<-bo6 (k+1) (s.take j)]
     grind
    grind
   rw[e1];have:=GA (eV s (k+1) j) (dv 0 (eV s i (k+1))) (GA _ 0 (cM 0) as9) (λc hc=>hd c (by simp_all));simp_all[dv,List.foldl_append]
  have over:¬ dv 0 (eV s i (k+1))<9223372036854775808->∀v:Int,Evt λn=>∃v',fw (S.tab n) s (3,r) t4 ↑j v ((k+1))=U (an (s,(bif(dv 0 (eV s i j)<9223372036854775808)then 2 else 3,r),t4,(j:Int),v',()))/\(dv 0 (eV s i j)<9223372036854775808->v'=dv 0 (eV s i j)):=λh v=>by
   refine(DX (s:=s) (3,r) rfl t4 j v ((k+1))).mono λn h'=>⟨v, ?_,λh2=>by omega⟩
   grind
  have w1:aO.wrap (get s k - 48)=get s k - 48:=Bx _ (by omega) (by omega);have w2:ar.wrap (k+1)=((k+1)):=eT (by omega);have EV:I (((2,r):di.den).1=2)=true:=rfl
  have mL:I (k<(j:Int))=true:=by grind
  by_cases h1:922337203685477580<dv 0 (eV s i k)
  ·refine(over (by omega) (aJ.wrap (aJ.wrap (dv 0 (eV s i k)*10)+aJ.wrap (aO.wrap (get s k - 48))))).up λn h=> ?_
   show∃v,fw (S.step (S.tab n)) _ _ _ _ _ _=_/\_
   grind [kj,c8,ab,dm,dK]
  ·by_cases h2:dv 0 (eV s i k)=922337203685477580
   ·by_cases h3:55<get s k
    ·refine(over (by omega) (aJ.wrap (aJ.wrap (dv 0 (eV s i k)*10)+aJ.wrap (aO.wrap (get s k - 48))))).up λn h=> ?_
     show∃v,fw (S.step (S.tab n)) _ _ _ _ _ _=_/\_;rw[kj,c8 mL,c8 EV,db h1,dn h2,c8 (dm ZQ),dK,dn h3,c8 (dm ZQ),w2];exact h
    ·have ih:=zp hj r t4 d (k+1) (by omega) (by omega) hd (by omega) as9
     refine ih.up λn h=> ?_
     show∃v,fw (S.step (S.tab n)) _ _ _ _ _ _=_/\_;rw[kj,c8 mL,c8 EV,db h1,dn h2,c8 (dm ZQ),dK,db h3,c8 (dm ZQ),w2,w1]
     grind [Gz,get]
   ·have ih:=zp hj r t4 d (k+1) (by omega) (by omega) hd (by omega) as9
    refine ih.up λn h=> ?_
    show∃v,fw (S.step (S.tab n)) _ _ _ _ _ _=_/\_;rw[kj,c8 mL,c8 EV,db h1,db h2,c8 (dm ZQ),dK,w2,w1];rw[Gz (_*10) (by omega) (by omega),Gz (get s k - 48) (by omega) (by omega),Gz _ (by omega) (by omega),<-ay4];exact h
omit hs in
theorem D3 {i j:Nat}(Uz:i<j)(hj:j<=s.length)(t4:di.den):
  Evt λn=>iM (S.tab n) s (3,(i:Int),0,0,0,([]:LI),()) t4 (j:Int)=U (an (mY s i j av, -1,())):=by
 have hl:=DX (s:=s) (3,(i:Int),(j:Int),0,0,([]:LI),()) rfl t4 j 0 i
 refine hl.up λn h=> ?_
 rw[uo];rw[h];simp[dH];rw[c8 (by simp),c8 (fO (by omega) hj)];rfl
def Mf (Uz:i<j)(hj:j<=s.length) (t4) (hd:digits s i j):
  Evt λn=>iM (S.tab n) s (2,(i:Int),0,0,0,[],()) t4 j=U (an (mY s i j aq, -1,())):=by
 have hl:=zp hs hj (i,j,0,0,[],()) t4 (j - i) i (by omega) (by omega) hd (by rw[qG];decide) (by intro c hc;simp_all[qG]);rw[qG]at hl;have h0:=GA (eV s i j) 0 (cM 0) hd
 refine hl.up λn ⟨v,h,hv⟩=> ?_
 rw[uo];have h:fw (S.tab n) s (2,i,j,0,0,[],()) t4 ↑j 0 i=_:=h;rw[h];simp[dH];unfold mY
 cases mL:I (dv 0 (eV s i j)<9223372036854775808)with
 |true=>
  grind [dz,hv,wrap64]
 |false=>
  rw[c8 (by rfl),c8 (fO (by omega) hj)];rfl
end Go.Abs.D
end

section
namespace Go.Abs.D
def qa (s:LI)(j:Nat):Nat:=bif(get s (j+1)=43)||decide (get s (j+1)=45)then j+2 else j+1
def xh (s:LI)(i j:Nat)(aU9:Bool):Nat⊕di.den:=
 bif(get s j=101)then bif dT (get s (qa s j))then .inr (mY s i (s4 s (qa s j)) av)else .inl (qa s j)else .inr (mY s i j aU9)
def xj (s:LI)(i j:Nat):Nat⊕di.den:=
 bif(get s j=46)&&dT (get s (j+1))then xh s i (s4 s (j+1)) av else xh s i j aq
def oh (s:LI)(i:Nat):Nat⊕di.den:=
 bif(get s i=48)&&(get s (i+1)=120)then mZ s i else xj s i (bif(get s i=48)then i+1 else s4 s (i+1))
theorem tY (h:j<=s.length):s4 s j<=s.length:=xe tF _ _ h
theorem tW (s) (j):j<=s4 s j:=vG _ _
def iU (h:get s j=c)(hc:c≠0):j<s.length:=by
 grind [bB,lK,absurd]
def uv (h:dT (get s j)=av):j<s.length:=by
 rcases bB j s.length with h'|h'
 ·omega
 ·rw[lK h']at h;cases h
theorem Di (h:j<=s.length)(hi:i<=j)(hd:digits s i j):digits s i (s4 s j):=by
 have hle:=tY h;have La:=tW s j;obtain⟨m,hm⟩:∃m,s4 s j=i+m:=⟨s4 s j - i,by omega⟩;intro c hc;rw[hm]at hc;refine Ep (p:=dT) (a:=i) m (by omega) (λk h1 h2=> ?_) c hc
 rcases bB k j with h3|h3
 ·refine hd _ ?_;unfold eV get;rw[List.mem_iff_getElem?];refine⟨k - i, ?_⟩
  grind
 grind [rD,dq,s4]
variable{s:LI}(hs:s.length<=2097152)
include hs
def N4 {i k w:Nat}(hi:i<=2097152)(hk:k<=s.length):Evt λn=>mo (S.tab n) s ↑i (2,(i:Int),0,0,0,[],()) ↑k w=
  U (bif dT (get s k)then aE (an (s,(i:Int),(2,(i:Int),0,0,0,[],()),(s4 s k:Int),(w:Int),()))else an ((2,(i:Int),(k:Int),0,0,[],()),av,())):=by
 refine((C5 hs ↑i (2,i,0,0,0,[],()) ↑w k).and dF).up λn ⟨h,hb⟩=> ?_
 rw[C4]
 by_cases hl:k<s.length
 ·rw[dz (by simp_all),c8 (dm hl),dK,hb.idigit,h];simp
  cases dT (get s k)with
  |true=>rw[dz (by rfl)];rfl
  |false=>simp_all[c8]
 ·rw[c8 (by simp_all),lK (by omega)];rfl
def Gy (Uz:i<w)(hw:w<=j)(hj:j<=s.length)(hd:j=w->digits s i j):
  Evt λn=>∃t' b,jX (S.tab n) s ↑i (2,(i:Int),0,0,0,[],()) ↑j w=U (an (t',b,()))/\IR k23 (xh s i j (!(j=w))) t' b:=by
 have e1:ar.wrap (j+1)=((j+1:Nat)):=eT (by omega);have e2:ar.wrap (((j+1:Nat))+1)=((j+2)):=eT (by omega)
 by_cases he:get s j=101
 ·have aG4:=iU he (by decide)
  have ZQ:qa s j<=s.length:=by
   unfold qa
   by_cases h:get s (j+1)=43
   ·have:=iU h (by decide)
    grind
   ·by_cases h':get s (j+1)=45
    ·have:=iU h' (by decide)
     grind
    grind
  have bi5:j<qa s j:=by grind [qa,decide,get]
  have key:∀T,jX (S.step T) s ↑i (2,i,0,0,0,[],()) ↑j w=(mo T s ↑i (2,i,0,0,0,[],()) (qa s j) ↑w).bind (ep (λqd=>U (an qd)) λqd=>(jV T qd.1 qd.2.1 qd.2.2.1 qd.2.2.2.1 qd.2.2.2.2.1).bind (dH λLb=>U (an Lb))):=λT=>by
   rw[we,chk (by decide),dn he,e1,e2];unfold qa
   by_cases hl:j+1<s.length
   ·rw[c8 (by simp;omega),c8 (dm hl),c8 (dm hl),dK]
    by_cases h:get s (j+1)=43
    ·rw[dn h,ab h];rfl
    ·rw[db h,aa h]
     by_cases h':get s (j+1)=45
     ·rw[dn h',ab h'];rfl
     ·rw[db h',aa h'];rfl
   grind [dz,lK]
  have hex:xh s i j (!(j=w))=bif dT (get s (qa s j))then .inr (mY s i (s4 s (qa s j)) av)else .inl (qa s j):=by
   unfold xh;rw[ab he];rfl
  have K5:=N4 hs (i:=i) (w:=w) (by omega) ZQ;have La:=tW s (qa s j);have zj:=wM hs (i:=i) (j:=s4 s (qa s j)) (w:=w) (by omega) (tY ZQ) (λe=>by omega)
  refine(K5.and zj).up λn ⟨h,h'⟩=> ?_
  show∃t' b,jX (S.step (S.tab n)) _ _ _ _ _=_/\_;rw[key,h,hex]
  cases aK8:dT (get s (qa s j))with
  |true=>
   simp only[ah,al,ep,aW,aH];rw[h',aa (show¬ s4 s (qa s j)=w by omega)]
   first|exact⟨_,_,rfl,rfl,rfl⟩|exact⟨_,_,rfl,rfl,rfl,rfl⟩
  |false=>
   first|exact⟨_,_,rfl,rfl,rfl⟩|exact⟨_,_,rfl,rfl,rfl,rfl⟩
 ·have hex:xh s i j (!(j=w))= .inr (mY s i j (!(j=w))):=by
   unfold xh;rw[aa he];rfl
  refine(wM hs (by omega) hj hd).up λn h=> ?_
  show∃t' b,jX (S.step (S.tab n)) _ _ _ _ _=_/\_;rw[we,chk (by decide),db he,h,hex]
  first|exact⟨_,_,rfl,rfl,rfl⟩|exact⟨_,_,rfl,rfl,rfl,rfl⟩
def Gj (Uz:i<j)(hj:j<=s.length)(hd:digits s i j):
  Evt λn=>∃t' b,jl (S.tab n) s ↑i (2,(i:Int),0,0,0,[],()) j=U (an (t',b,()))/\IR k23 (xj s i j) t' b:=by
 have e1:ar.wrap (j+1)=((j+1:Nat)):=eT (by omega)
 by_cases hf:get s j=46/\dT (get s (j+1))=av
 ·have hl:=uv hf.2;have La:=tW s (j+1);have hle:=tY (s:=s) (j:=j+1) (by omega);have DC:=Da hs ↑i (2,i,0,0,0,[],()) ↑j (j+1);have EV:=Gy hs (i:=i) (j:=s4 s (j+1)) (w:=j) Uz (by omega) hle (λe=>by omega)
  refine((DC.and EV).and dF).up λn ⟨⟨h,t',b,h',hr⟩,hb⟩=> ?_
  show∃t' b,jl (S.step (S.tab n)) _ _ _ _=_/\_;rw[wP,e1,c8 (by simp;omega),c8 (dm (show j<s.length by omega)),dK,c8 (ab hf.1),c8 (dm hl),dK,hb.idigit,hf.2];simp only[al];rw[c8 rfl,h];simp only[al,dH,aH];rw[h'];refine⟨t',b,rfl, ?_⟩;rw[aa (show¬ s4 s (j+1)=j by omega)]at hr;unfold xj;rw[ab hf.1,hf.2];exact hr
 ·have bf3:xj s i j=xh s i j (!(j=j)):=by
   unfold xj;rw[ab (show j=j from rfl)]
   by_cases h:get s j=46
   ·have:dT (get s (j+1))=false:=by
     cases hx:dT (get s (j+1))with
     |true=>exact absurd ⟨h,hx⟩ hf
     |false=>rfl
    rw[this,aT];rfl
   ·rw[aa h];rfl
  have EV:=Gy hs (i:=i) (j:=j) (w:=j) Uz (by omega) hj (λ_=>hd);rw[bf3]
  refine(EV.and dF).up λn ⟨⟨t',b,h',hr⟩,hb⟩=> ?_
  show∃t' b,jl (S.step (S.tab n)) _ _ _ _=_/\_;refine⟨t',b, ?_,hr⟩;rw[wP,e1]
  by_cases hl:j+1<s.length
  ·rw[c8 (by simp;omega),c8 (dm (show j<s.length by omega)),dK]
   by_cases h:get s j=46
   ·have:dT (get s (j+1))=false:=by
     cases hx:dT (get s (j+1))with
     |true=>exact absurd ⟨h,hx⟩ hf
     |false=>rfl
    rw[dn h,c8 (dm hl),dK,hb.idigit,this];simp;rw[dz rfl,h'];rfl
   ·rw[db h,h'];rfl
  ·rw[dz (by simp;omega),h'];rfl
omit hs in
theorem zw {i:Nat}(hi:i<s.length)(h:dT (get s i)=av):digits s i (i+1):=by
 intro c hc;simp_all[qV,aF,qG,get]
def Ie (hi:i<s.length)(hd:dT (get s i)=av):Evt λn=>∃t' b,sh (S.tab n) s i=U ((t',b,()),cW)/\IR k23 (oh s i) t' b:=by
 by_cases h0:get s i=48
 ·by_cases hx:get s (i+1)=120
  ·have hl:=iU hx (by decide)
   grind [oh,mZ,ab,GP]
  ·have e:oh s i=xj s i (i+1):=by simp_all[oh,ab,aa]
   rw[e];have e1:ar.wrap (i+1)=((i+1:Nat)):=eT (by omega)
   refine(Gj hs (i:=i) (j:=i+1) (by omega) (by omega) (zw hi hd)).up λn ⟨t',b,h',hr⟩=>⟨t',b, ?_,hr⟩
   rw[sL,e1,c8 (dm hi),dK,dn h0]
   by_cases hl:i+1<s.length
   ·rw[c8 (by simp;omega),c8 (dm hl),dK,db hx,c8 (dm hi),dz (by rw[ab h0];rfl),h'];rfl
   ·rw[dz (by simp;omega),c8 (dm hi),dz (by rw[ab h0];rfl),h'];rfl
 ·have e:oh s i=xj s i (s4 s (i+1)):=by unfold oh;rw[aa h0];rfl
  rw[e];have e1:ar.wrap (i+1)=((i+1:Nat)):=eT (by omega);have La:=tW s (i+1);have hle:=tY (s:=s) (j:=i+1) (by omega);have Lf:=Db hs ↑i (2,i,0,0,0,[],()) (i+1)
  refine(Lf.and (Gj hs (i:=i) (j:=s4 s (i+1)) (by omega) hle (Di (by omega) (by omega) (zw hi hd)))).up λn ⟨h,t',b,h',hr⟩=>⟨t',b, ?_,hr⟩
  rw[sL,e1,c8 (dm hi),dK,db h0,c8 (dm hi),c8 (by rw[aa h0];rfl),h];simp[dH];rw[h'];rfl
def Bh (f) (Uz:i<j)(hj:j<=s.length) (t4) (hd:f=aq->digits s i j):
  Evt λn=>∃t' b,gO (S.tab n) s (bif f then 3 else 2,(i:Int),0,0,0,[],()) t4 j=U (an (t',b,()))/\SR k23 (xh s i j f) t' b:=by
 have e1:ar.wrap (j+1)=((j+1:Nat)):=eT (by omega);have e2:ar.wrap (((j+1:Nat))+1)=((j+2:Nat)):=eT (by omega)
 by_cases he:get s j=101
 ·have bi5:j<qa s j:=by grind [qa,decide,get]
  have hex:xh s i j f=bif dT (get s (qa s j))then .inr (mY s i (s4 s (qa s j)) av)else .inl (qa s j):=by
   simp_all[xh,ab]
  have key:∀n,Base2 (S.tab n)->gO (S.step (S.tab n)) s (bif f then 3 else 2,i,0,0,0,[],()) t4 j=
    brk (!dT (get s (qa s j))) (U (an ((3,(i:Int),0,0,0,[],()),(qa s j:Int),()))) ((gL (S.tab n) s (3,i,0,0,0,[],()) t4 (qa s j)).bind (dH λzi=>(iM (S.tab n) zi.1 zi.2.1 zi.2.2.1 zi.2.2.2.1).bind (dH λTu=>U (an Tu)))):=λn hb=>by
   rw[uj,hb.look];simp;rw[dn he,e1,e2,hb.look];simp only[al];unfold qa
   by_cases h':get s (j+1)=45
   ·rw[dn h',ab h',Bool.or_true,hb.look];simp[hb.sdigit]
   ·rw[db h',aa h',Bool.or_false]
    by_cases h:get s (j+1)=43
    ·rw[dn h,ab h,hb.look];simp[hb.sdigit]
    ·rw[db h,aa h];simp[hb.sdigit]
  cases aK8:dT (get s (qa s j))with
  |true=>
   have hl:=uv aK8;have La:=tW s (qa s j);have Kp:=AJ hs (3,i,0,0,0,[],()) t4 (qa s j);have Ci:=D3 (s:=s) (i:=i) (j:=s4 s (qa s j)) (by omega) (tY (by omega)) t4
   refine((Kp.and Ci).and dF).up λn ⟨⟨h,h'⟩,hb⟩=> ?_
   show∃t' b,gO (S.step (S.tab n)) _ _ _ _=_/\_;rw[key n hb,hex,aK8,dz (by rfl),h];simp only[ah,al,dH,aH];rw[h']
   first|exact⟨_,_,rfl,rfl,rfl⟩|exact⟨_,_,rfl,rfl,rfl,rfl⟩
  |false=>
   refine dF.up λn hb=> ?_
   show∃t' b,gO (S.step (S.tab n)) _ _ _ _=_/\_;rw[key n hb,hex,aK8,c8 (by rfl)];exact⟨_,_,rfl,rfl,rfl⟩
 ·have hex:xh s i j f= .inr (mY s i j f):=by
   unfold xh;rw[aa he];rfl
  have Ci:Evt λn=>iM (S.tab n) s (bif f then 3 else 2,i,0,0,0,[],()) t4 j=U (an (mY s i j f, -1,())):=by
   cases f with
   |true=>exact D3 (s:=s) Uz hj t4
   |false=>exact Mf hs Uz hj t4 (hd rfl)
  refine(Ci.and dF).up λn ⟨h,hb⟩=> ?_
  show∃t' b,gO (S.step (S.tab n)) _ _ _ _=_/\_;rw[uj,hb.look];simp only[al];rw[db he,h,hex]
  first|exact⟨_,_,rfl,rfl,rfl⟩|exact⟨_,_,rfl,rfl,rfl,rfl⟩
def II (Uz:i<j)(hj:j<=s.length) (t4) (hd:digits s i j):
  Evt λn=>∃t' b,jo (S.tab n) s (2,(i:Int),0,0,0,[],()) t4 j=U (an (t',b,()))/\SR k23 (xj s i j) t' b:=by
 have e1:ar.wrap (j+1)=((j+1:Nat)):=eT (by omega)
 by_cases h:get s j=46
 ·cases hx:dT (get s (j+1))with
  |true=>
   have hl:=uv hx;have La:=tW s (j+1);have hle:=tY (s:=s) (j:=j+1) (by omega);have rP:=AO hs (3,i,0,0,0,[],()) t4 (j+1);have F7:=Bh hs (i:=i) (j:=s4 s (j+1)) av (by omega) hle t4 (λe=>by cases e)
   refine((rP.and F7).and dF).up λn ⟨⟨h1,t',b,h2,hr⟩,hb⟩=>⟨t',b, ?_, ?_⟩
   ·show jo (S.step (S.tab n)) _ _ _ _=_;rw[q9,hb.look];simp;rw[dn h,e1,hb.look];simp only[al,hb.sdigit,hx];rw[c8 rfl,h1];simp[dH];rw[show((3:Int),(i:Int),(0:Int),(0:Int),(0:Int),[],())=(bif av then 3 else 2,(i:Int),0,0,0,[],())from rfl,h2];rfl
   simp_all[xj,ab]
  |false=>
   have F7:=Bh hs (i:=i) (j:=j) aq Uz hj t4 (λ_=>hd)
   refine(F7.and dF).up λn ⟨⟨t',b,h2,hr⟩,hb⟩=>⟨t',b, ?_, ?_⟩
   ·show jo (S.step (S.tab n)) _ _ _ _=_;rw[q9,hb.look];simp;rw[dn h,e1,hb.look];simp[hb.sdigit,hx];have h2:gO (S.tab n) s (2,i,0,0,0,[],()) t4 j=_:=h2;rw[dz rfl,h2];rfl
   ·unfold xj;rw[hx,aT];exact hr
 ·have F7:=Bh hs (i:=i) (j:=j) aq Uz hj t4 (λ_=>hd)
  refine(F7.and dF).up λn ⟨⟨t',b,h2,hr⟩,hb⟩=>⟨t',b, ?_, ?_⟩
  ·show jo (S.step (S.tab n)) _ _ _ _=_;rw[q9,hb.look];simp;have h2:gO (S.tab n) s (2,i,0,0,0,[],()) t4 j=_:=h2;rw[db h,h2];rfl
  ·unfold xj;rw[aa h];exact hr
def Fg (hi:i<s.length)(hd:dT (get s i)=av):Evt λn=>∃t' b,yh (S.tab n) s (0,(i:Int),0,0,0,[],())=U ((t',b,()),fD)/\SR k23 (oh s i) t' b:=by
 have e1:ar.wrap (i+1)=((i+1:Nat)):=eT (by omega)
 by_cases h0:get s i=48
 ·by_cases hx:get s (i+1)=120
  ·have hl:=iU hx (by decide)
   have e:oh s i=mZ s i:=by unfold oh;rw[ab h0,ab hx];rfl
   rw[e]
   refine((G4 hs (i:=i) (by omega)).and dF).up λn ⟨⟨t',b,h,hr⟩,hb⟩=>⟨t',b, ?_,hr⟩
   rw[tn];simp only[e1];rw[c8 (dm hi),dK,dn h0,hb.look];simp;rw[dn hx,h];rfl
  ·have e:oh s i=xj s i (i+1):=by unfold oh;rw[ab h0,aa hx];rfl
   rw[e]
   refine((II hs (i:=i) (j:=i+1) (by omega) (by omega) (0,0,0,0,0,[],()) (zw hi hd)).and dF).up λn ⟨⟨t',b,h,hr⟩,hb⟩=>⟨t',b, ?_,hr⟩
   rw[tn];simp only[e1];rw[c8 (dm hi),dK,dn h0,hb.look];simp only[al];rw[db hx,c8 (dm hi),dz (by rw[ab h0];rfl),h];rfl
 ·have e:oh s i=xj s i (s4 s (i+1)):=by unfold oh;rw[aa h0];rfl
  rw[e];have La:=tW s (i+1);have hle:=tY (s:=s) (j:=i+1) (by omega);have h7:=Cm hs (2,i,0,0,0,[],()) (0,0,0,0,0,[],()) (i+1)
  refine(h7.and (II hs (i:=i) (j:=s4 s (i+1)) (by omega) hle (0,0,0,0,0,[],()) (Di (by omega) (by omega) (zw hi hd)))).up λn ⟨h1,t',b,h,hr⟩=>⟨t',b, ?_,hr⟩
  rw[tn];simp only[e1];rw[c8 (dm hi),dK,db h0,c8 (dm hi),c8 (by rw[aa h0];rfl),h1];simp[dH];rw[h];rfl
end Go.Abs.D
end

section
namespace Go.Abs.D
def iP (s:LI):Nat->Nat->LI->Nat⊕(Nat×LI)
 |0,j,_=> .inl j
 |k+1,j,o=>
  bif(s.length<=j)then .inl j else
  bif(get s j=10)then .inl j else
  bif(get s j=34)then .inr (j+1,o)else
  bif !(get s j=92)then iP s k (j+1) (o++[get s j])else
  bif(get s (j+1)=110)then iP s k (j+2) (o++[10])else
  bif(get s (j+1)=116)then iP s k (j+2) (o++[9])else
  bif(get s (j+1)=34)then iP s k (j+2) (o++[34])else
  bif(get s (j+1)=92)then iP s k (j+2) (o++[92])else
  bif !(get s (j+1)=120)then .inl (j+1)else
  bif !jm (get s (j+2))then .inl (j+2)else
  bif !jm (get s (j+3))then .inl (j+3)else
  iP s k (j+4) (o++[mK (get s (j+2))*16+mK (get s (j+3))])
def K3 (i:Nat):Nat⊕(Nat×LI)->Nat⊕di.den
 | .inl e=> .inl e
 | .inr (e,o)=> .inr (4,(i:Int),(e:Int),0,0,o.map byte,())
def We (s:LI)(i:Nat):Nat⊕di.den:=K3 i (iP s s.length (i+1) [])
variable{s:LI}(hs:s.length<=2097152)
include hs
omit hs in
theorem B8 {j:Nat}(h:jm (get s j)=av):j<s.length:=by
 rcases bB j s.length with h'|h'
 ·omega
 ·rw[lK h']at h;cases h
omit hs in
theorem aB9 (t4:di.den)(o:LI)(j:Nat):Evt λn=>qP (S.tab n) s t4 o ↑j 4=U (aE (an (s,t4,o,(j:Int),()))):=by
 refine dF.up λn hb=> ?_
 simp_all[uP,dz]
def aC1 (t4) (o) (j) (hj:j<s.length):Evt λn=>qP (S.tab n) s t4 o ↑j 3=
  U (bif jm (get s (j+3))then aE (an (s,t4,o,(j:Int),()))else an ((t4.1,t4.2.1,((j+3:Nat):Int),t4.2.2.2),av,())):=by
 have e:ar.wrap (j+3)=((j+3:Nat)):=by grind [wrap64]
 have e4:ar.wrap (3+1)=4:=(by decide)
 refine((aB9 (s:=s) t4 o j).and dF).up λn ⟨h,hb⟩=> ?_
 rw[uP,c8 (by decide),e,e4,h]
 by_cases hl:j+3<s.length
 ·rw[dz (by grind),c8 (dm hl),dK,hb.ihex]
  grind [jm,get,dz,c8]
 ·rw[c8 (by grind),lK (by omega)];rfl
def aA5 (t4) (o) (j) (hj:j<s.length):Evt λn=>qP (S.tab n) s t4 o ↑j 2=
  U (bif jm (get s (j+2))then(bif jm (get s (j+3))then aE (an (s,t4,o,(j:Int),()))else an ((t4.1,t4.2.1,((j+3:Nat):Int),t4.2.2.2),av,()))else an ((t4.1,t4.2.1,((j+2:Nat)),t4.2.2.2),av,())):=by
 have e:ar.wrap (j+2)=((j+2:Nat)):=by grind [wrap64]
 have e3:ar.wrap (2+1)=3:=(by decide)
 refine((aC1 hs t4 o j hj).and dF).up λn ⟨h,hb⟩=> ?_
 rw[uP,c8 (by decide),e,e3,h]
 by_cases hl:j+2<s.length
 ·rw[dz (by grind),c8 (dm hl),dK,hb.ihex]
  grind [jm,get,dz,c8]
 ·rw[c8 (by grind),lK (show s.length<=j+2 by omega)];rfl
omit hs in
theorem aC7 (t3 t4:di.den)(o:LI)(j:Nat):Evt λn=>mf (S.tab n) s t3 t4 ↑j o 3=U (aE (an (s,t3,t4,(j:Int),o,()))):=by
 refine dF.up λn hb=> ?_
 simp_all[qn,dz]
omit hs in
theorem WC (c:Int):I (mK c<0)= !jm c:=by
 rw[<-si]
 grind
def aC4 (t3 t4) (o) (j) (hj:j<=s.length):Evt λn=>mf (S.tab n) s t3 t4 ↑j o 2=
  U (bif jm (get s (j+2))then aE (an (s,t3,t4,(j:Int),o,()))else an (t3,((j+2:Nat):Int),())):=by
 have e:ar.wrap (j+2)=((j+2:Nat)):=by grind [wrap64]
 have e3:ar.wrap (2+1)=3:=(by decide)
 refine((aC7 (s:=s) t3 t4 o j).and dF).up λn ⟨h,hb⟩=> ?_
 rw[qn,c8 (by decide),e,e3,h,hb.look];simp[hb.shex,WC]
 grind [jm,get,dz,c8]
def aA8 (t3 t4) (o) (j) (hj:j<=s.length):Evt λn=>mf (S.tab n) s t3 t4 ↑j o 1=
  U (bif jm (get s (j+1))then(bif jm (get s (j+2))then aE (an (s,t3,t4,(j:Int),o,()))else an (t3,((j+2:Nat):Int),()))else an (t3,((j+1:Nat)),())):=by
 have e:ar.wrap (j+1)=((j+1:Nat)):=eT (by omega);have e3:ar.wrap (1+1)=2:=(by decide)
 refine((aC4 hs t3 t4 o j hj).and dF).up λn ⟨h,hb⟩=> ?_
 rw[qn,c8 (by decide),e,e3,h,hb.look];simp[hb.shex,WC]
 grind [jm,get,dz,c8]
def Bv (c:Int):Int:=bif(c=110)then 0 else bif(c=116)then 1 else bif(c=34)then 2 else bif(c=92)then 3 else -1
omit hs in
theorem Yx (c:Int)(h:isByte c):Bld.idx [110,116,34,92] (byte c) 0=Bv c:=by
 rw[MW h];unfold Bv;simp only[Bld.idx]
 grind
omit hs in
theorem VP (hb:∀c∈s,isByte c)(j:Nat):isByte (get s j):=by
 rcases bB j s.length with h|h
 ·simp_all[get,aG,aL,bF]
 ·rw[lK h];exact⟨by decide,by decide⟩
omit hs in
theorem yR:Evt λn=>∀c,isByte c->kM (S.tab n) [110,116,34,92] c=U (Bv c,cW):=by
 have h1:Evt λn=>∀c,isByte c->l9 (S.tab n) [110,116,34,92] c=U (Bv c,cW):=dF.up λn _ c hc=>by
  simp_all[qe,Bld.w7,al,Yx]
 exact h1.up λn h c hc=>by
  simp_all[ur]
omit hs in
theorem YM (a b:Int)(ha:jm a=av)(hb:jm b=av):hv 0 [a,b]=mK a*16+mK b/\0<=mK a*16+mK b/\mK a*16+mK b<256:=by
 have:=vC ha;have:=vC hb;have:=xO a;have:=xO b;refine⟨?_,by omega,by omega⟩;show(0*16+mK a)*16+mK b=_;omega
omit hs in
theorem Em {j:Nat}(h:j+2<=s.length):eV s j (j+2)=[get s j,get s (j+1)]:=by
 rw[show j+2=j+1+1 from rfl,qV (by omega) (by omega),qV (by omega) (by omega),qG];rfl
def Kz (Hh:∀c∈s,isByte c)(i:Nat):∀k j o,s.length<=j+k->j<=s.length->o.length<=j->
  Evt λn=>∃t' b,fK (S.tab n) s (4,(i:Int),0,0,0,[],()) o j=U (an (t',b,()))/\IR k4 (K3 i (iP s k j o)) t' b:=by
 intro k
 induction k with
 |zero=>
  intro j o hk hj ho
  refine dF.up λn hb=> ?_
  show∃t' b,fK (S.step (S.tab n)) _ _ _ _=_/\_;rw[nz,c8 (by simp_all)]
  first|exact⟨_,_,rfl,rfl,rfl⟩|exact⟨_,_,rfl,rfl,rfl,rfl⟩
 |succ k ih=>
  intro j o hk hj ho;have w1:ar.wrap (j+1)=((j+1:Nat)):=eT (by omega)
  have w2:ar.wrap (j+2)=((j+2:Nat)):=by rw[wrap64 _ (by omega) (by omega)];omega
  have w4:ar.wrap ((j:Int)+4)=((j+4:Nat):Int):=by rw[wrap64 _ (by omega) (by omega)];omega
  have hf:∀x:Int,fits (o.length+[x].length)=true:=λx=>fU (by unfold lim;simp;omega)
  by_cases hl:s.length<=j
  ·have hR:iP s (k+1) j o= .inl j:=by unfold iP;rw[ab hl];rfl
   rw[hR]
   refine dF.up λn hb=> ?_
   show∃t' b,fK (S.step (S.tab n)) _ _ _ _=_/\_;rw[nz,c8 (by simp;omega)]
   first|exact⟨_,_,rfl,rfl,rfl⟩|exact⟨_,_,rfl,rfl,rfl,rfl⟩
  have ym:j<s.length:=(by omega);have qY:=dm ym
  have N0:I ((s.length:Int)<=(j:Int))=false:=by simp;omega
  by_cases c10:get s j=10
  ·have hR:iP s (k+1) j o= .inl j:=by unfold iP;rw[aa hl,ab c10];rfl
   rw[hR]
   refine dF.up λn hb=> ?_
   show∃t' b,fK (S.step (S.tab n)) _ _ _ _=_/\_;rw[nz,dz N0,c8 qY,dK,dn c10]
   first|exact⟨_,_,rfl,rfl,rfl⟩|exact⟨_,_,rfl,rfl,rfl,rfl⟩
  by_cases AA:get s j=34
  ·have hR:iP s (k+1) j o= .inr (j+1,o):=by unfold iP;rw[aa hl,aa c10,ab AA];rfl
   rw[hR]
   refine dF.up λn hb=> ?_
   show∃t' b,fK (S.step (S.tab n)) _ _ _ _=_/\_;rw[nz,dz N0,c8 qY,dK,db c10,c8 qY,dn AA,w1]
   first|exact⟨_,_,rfl,rfl,rfl⟩|exact⟨_,_,rfl,rfl,rfl,rfl⟩
  by_cases c92:¬ (get s j=92)
  ·have hR:iP s (k+1) j o=iP s k (j+1) (o++[get s j]):=by
    conv=>lhs;unfold iP
    rw[aa hl,aa c10,aa AA,aa c92];rfl
   rw[hR]
   refine(ih (j+1) (o++[get s j]) (by omega) (by omega) (by simp;omega)).up λn h=> ?_
   show∃t' b,fK (S.step (S.tab n)) _ _ _ _=_/\_;rw[nz,dz N0,c8 qY,dK,db c10,c8 qY,db AA,c8 qY,c8 (by rw[aa c92];rfl),c8 qY,c8 (hf _),w1];exact h
  replace c92:=bV.1 c92
  have start:∀n,fK (S.step (S.tab n)) s (4,(i:Int),0,0,0,[],()) o (j:Int)=_:=λn=>by
   rw[nz,dz N0,c8 qY,dK,db c10,c8 qY,db AA,c8 qY,dz (by rw[ab c92];rfl),w1,w2]
  by_cases om:¬ (j+1<s.length)
  ·have hR:iP s (k+1) j o= .inl (j+1):=by
    unfold iP;rw[aa hl,aa c10,aa AA,ab c92,lK (show s.length<=j+1 by omega)];rfl
   rw[hR]
   refine dF.up λn hb=> ?_
   show∃t' b,fK (S.step (S.tab n)) _ _ _ _=_/\_;rw[start,c8 (by simp;omega)]
   first|exact⟨_,_,rfl,rfl,rfl⟩|exact⟨_,_,rfl,rfl,rfl,rfl⟩
  replace om:=bV.1 om
  have XX:=dm om
  have Xr:I ((s.length:Int)<=((j+1:Nat):Int))=false:=by simp;omega
  have NU:=VP Hh (j+1)
  have short:∀(x y:Int),get s (j+1)=x->Bv x≥0->((0:Int)<=Bv x&&Bv x<4)=av->[10,9,34,92].getD (Bv x).toNat 0=y->iP s (k+1) j o=iP s k (j+2) (o++[y])->
    Evt λn=>∃t' b,fK (S.tab n) s (4,(i:Int),0,0,0,[],()) o (j:Int)=U (an (t',b,()))/\IR k4 (K3 i (iP s (k+1) j o)) t' b:=λx y hx h0 h4 hy hR=>by
   rw[hR]
   refine((ih (j+2) (o++[y]) (by omega) (by omega) (by simp;omega)).and yR).up λn ⟨h,XV⟩=> ?_
   show∃t' b,fK (S.step (S.tab n)) _ _ _ _=_/\_;rw[start,dz Xr,c8 XX,dK,XV _ NU,hx];simp only[al];rw[c8 (by simpa using h0),c8 h4,hy,c8 (hf _)];exact h
  by_cases e110:get s (j+1)=110
  ·refine short 110 10 e110 (by decide) (by decide) (by decide) ?_
   conv=>lhs;unfold iP
   rw[aa hl,aa c10,aa AA,ab c92,e110];rfl
  by_cases e116:get s (j+1)=116
  ·refine short 116 9 e116 (by decide) (by decide) (by decide) ?_
   conv=>lhs;unfold iP
   rw[aa hl,aa c10,aa AA,ab c92,e116];rfl
  by_cases e34:get s (j+1)=34
  ·refine short 34 34 e34 (by decide) (by decide) (by decide) ?_
   conv=>lhs;unfold iP
   rw[aa hl,aa c10,aa AA,ab c92,e34];rfl
  by_cases e92:get s (j+1)=92
  ·refine short 92 92 e92 (by decide) (by decide) (by decide) ?_
   conv=>lhs;unfold iP
   rw[aa hl,aa c10,aa AA,ab c92,e92];rfl
  have NZ:Bv (get s (j+1))= -1:=by
   unfold Bv;rw[aa e110,aa e116,aa e34,aa e92];rfl
  by_cases e120:¬ (get s (j+1)=120)
  ·have hR:iP s (k+1) j o= .inl (j+1):=by
    unfold iP;rw[aa hl,aa c10,aa AA,ab c92,aa e110,aa e116,aa e34,aa e92,aa e120];rfl
   rw[hR]
   refine yR.up λn XV=> ?_
   show∃t' b,fK (S.step (S.tab n)) _ _ _ _=_/\_;rw[start,dz Xr,c8 XX,dK,XV _ NU,NZ];simp only[al];rw[dz (by decide),c8 XX,c8 (by rw[aa e120];rfl)]
   first|exact⟨_,_,rfl,rfl,rfl⟩|exact⟨_,_,rfl,rfl,rfl,rfl⟩
  replace e120:=bV.1 e120
  have hR:iP s (k+1) j o=bif !jm (get s (j+2))then .inl (j+2)else bif !jm (get s (j+3))then .inl (j+3)else iP s k (j+4) (o++[mK (get s (j+2))*16+mK (get s (j+3))]):=by
   conv=>lhs;unfold iP
   rw[aa hl,aa c10,aa AA,ab c92,e120];rfl
  have a47:=aA5 hs (4,(i:Int),0,0,0,[],()) o j ym
  have go:∀n,(∀c,isByte c->kM (S.tab n) [110,116,34,92] c=U (Bv c,cW))->fK (S.step (S.tab n)) s (4,(i:Int),0,0,0,[],()) o (j:Int)=_:=λn XV=>by
   rw[start,dz Xr,c8 XX,dK,XV _ NU,NZ,al,dz (by decide),c8 XX,dz (by rw[ab e120];rfl)]
  rw[hR]
  cases x2:jm (get s (j+2))with
  |false=>
   refine(a47.and yR).up λn ⟨h,XV⟩=> ?_
   show∃t' b,fK (S.step (S.tab n)) _ _ _ _=_/\_;rw[go n XV,h,x2]
   first|exact⟨_,_,rfl,rfl,rfl⟩|exact⟨_,_,rfl,rfl,rfl,rfl⟩
  |true=>
   cases x3:jm (get s (j+3))with
   |false=>
    refine(a47.and yR).up λn ⟨h,XV⟩=> ?_
    show∃t' b,fK (S.step (S.tab n)) _ _ _ _=_/\_;rw[go n XV,h,x2,x3]
    first|exact⟨_,_,rfl,rfl,rfl⟩|exact⟨_,_,rfl,rfl,rfl,rfl⟩
   |true=>
    have a86:=B8 x3;obtain⟨aW3,Ax,hp1⟩:=YM _ _ x2 x3
    have XZ:=D4 [get s (j+2),get s (j+3)] 8 (.inl ⟨rfl,by simp⟩) (by simp) (by
     intro c hc
     rcases bA.1 hc with rfl|hc
     ·exact x2
     ·have:c=get s (j+3):=(by simpa using hc)
      rw[this];exact x3)
    rw[aW3]at XZ;have h2:=ih (j+4) (o++[mK (get s (j+2))*16+mK (get s (j+3))]) (by omega) (by omega) (by simp;omega)
    refine(((a47.and yR).and XZ).and h2).up λn ⟨⟨⟨h,XV⟩,XZ⟩,h2⟩=> ?_
    show∃t' b,fK (S.step (S.tab n)) _ _ _ _=_/\_;rw[go n XV,h,x2,x3];simp only[ah,al,ep,aW,aH,w2,w4];rw[c8 (fO (by omega) (by omega)),sV,Em (s:=s) (j:=j+2) (by omega),XZ];simp only[al];rw[Bx _ Ax hp1,c8 (hf _)];exact h2
end Go.Abs.D
end

section
namespace Go.Abs.D
def LR (r:Nat⊕di.den)(y:(di.den×Int×Unit)⊕(di.den×di.den×Int×Unit)⊕Empty):Prop:=
 y.elim (λy=>SR k4 r y.1 y.2.1) λy=>y.elim (λy=>SR k4 r y.1 y.2.2.1) Empty.elim
variable{s:LI}(hs:s.length<=2097152)
include hs
def I2 (t3 t4) (j) (o) (c) (hj:j<s.length)(ho:o.length<=j):Evt λn=>kJ (S.tab n) s t3 t4 ↑j o c av=U (an (s,t3,t4,(j:Int),o++[get s j],())):=by
 refine dF.up λn hb=> ?_
 rw[qi,c8 rfl,c8 (dm hj),dK,c8 (fU (by grind [lim]))]
omit hs in
theorem Mj (t3 t4:di.den)(j:Nat)(o:LI)(c:Int)(hc:c≠120):Evt λn=>kJ (S.tab n) s t3 t4 ↑j o c aq=U (aE (an (t3,(j:Int),()))):=by
 refine dF.up λn hb=> ?_
 rw[qi,dz rfl,db hc]
def QF (t3 t4) (j) (o) (hj:j<=s.length)(ho:o.length<=j):Evt λn=>kJ (S.tab n) s t3 t4 ↑j o 120 aq=
  U (bif jm (get s (j+1))then(bif jm (get s (j+2))then an (s,t3,t4,((j+2:Nat):Int),o++[mK (get s (j+1))*16+mK (get s (j+2))],())else aE (an (t3,((j+2:Nat):Int),())))else aE (an (t3,((j+1:Nat)),()))):=by
 have w1:ar.wrap (j+1)=((j+1:Nat)):=eT (by omega)
 have w2:ar.wrap (j+2)=((j+2:Nat)):=by grind [wrap64]
 refine((aA8 hs t3 t4 o j hj).and dF).up λn ⟨h,hb⟩=> ?_
 rw[qi,dz rfl,c8 (by rfl),h]
 cases x1:jm (get s (j+1))with
 |false=>rfl
 |true=>
  cases x2:jm (get s (j+2))with
  |false=>rfl
  |true=>
   have uL:=B8 x2;have h0:=vC x1;have ad5:=vC x2;have h1:=xO (get s (j+1));have UQ:=xO (get s (j+2));have e1:ar.wrap (16*mK (get s (j+1)))=16*mK (get s (j+1)):=wrap64 _ (by omega) (by omega)
   have e2:ar.wrap (16*mK (get s (j+1))+mK (get s (j+2)))=mK (get s (j+1))*16+mK (get s (j+2)):=by grind [wrap64]
   simp only[ah,al,ep,aW,aH,w1,w2];rw[c8 (dm (show j+1<s.length by omega)),dK,hb.shex,al,c8 (dm uL),dK,hb.shex,al]
   grind [Bx,c8,fU,lim]
def KL (t4) (i:Nat):∀k j o,s.length<=j+k->j<=s.length->o.length<=j->
  Evt λn=>∃y,dX (S.tab n) s (4,(i:Int),0,0,0,[],()) t4 ↑j o=U y/\LR (K3 i (iP s k j o)) y:=by
 intro k
 induction k with
 |zero=>
  intro j o hk hj ho
  refine dF.up λn hb=> ?_
  show∃y,dX (S.step (S.tab n)) _ _ _ _ _=_/\_;rw[kY,dz (by simp_all)]
  first|exact⟨_,rfl,rfl,rfl⟩|exact⟨_,rfl,rfl⟩
 |succ k ih=>
  intro j o hk hj ho;have w1:ar.wrap (j+1)=((j+1:Nat)):=eT (by omega)
  have w2:ar.wrap (((j+1:Nat))+1)=((j+2)):=by rw[wrap64 _ (by omega) (by omega)];omega
  have w4:ar.wrap (((j+1+2))+1)=((j+4)):=by rw[wrap64 _ (by omega) (by omega)];omega
  have hf:∀x:Int,fits (o.length+[x].length)=true:=λx=>fU (by unfold lim;simp;omega)
  have aM7:fits (o.length+1)=true:=fU (by unfold lim;omega)
  by_cases hl:s.length<=j
  ·have hR:iP s (k+1) j o= .inl j:=by unfold iP;rw[ab hl];rfl
   rw[hR]
   refine dF.up λn hb=> ?_
   show∃y,dX (S.step (S.tab n)) _ _ _ _ _=_/\_;rw[kY,dz (by simp;omega)]
   first|exact⟨_,rfl,rfl,rfl⟩|exact⟨_,rfl,rfl⟩
  have ym:j<s.length:=(by omega);have qY:=dm ym
  have mL:I (j<(s.length:Int))=true:=by simp;omega
  by_cases c10:get s j=10
  ·have hR:iP s (k+1) j o= .inl j:=by unfold iP;rw[aa hl,ab c10];rfl
   rw[hR]
   refine dF.up λn hb=> ?_
   show∃y,dX (S.step (S.tab n)) _ _ _ _ _=_/\_;rw[kY,c8 mL,c8 qY,dK,db (by omega),dn c10]
   first|exact⟨_,rfl,rfl,rfl⟩|exact⟨_,rfl,rfl⟩
  by_cases AA:get s j=34
  ·have hR:iP s (k+1) j o= .inr (j+1,o):=by unfold iP;rw[aa hl,aa c10,ab AA];rfl
   rw[hR]
   refine dF.up λn hb=> ?_
   show∃y,dX (S.step (S.tab n)) _ _ _ _ _=_/\_;rw[kY,c8 mL,c8 qY,dK,dn AA,w1]
   first|exact⟨_,rfl,rfl,rfl⟩|exact⟨_,rfl,rfl⟩
  by_cases c92:¬ (get s j=92)
  ·have hR:iP s (k+1) j o=iP s k (j+1) (o++[get s j]):=by
    conv=>lhs;unfold iP
    rw[aa hl,aa c10,aa AA,aa c92];rfl
   rw[hR]
   refine(ih (j+1) (o++[get s j]) (by omega) (by omega) (by simp;omega)).up λn h=> ?_
   show∃y,dX (S.step (S.tab n)) _ _ _ _ _=_/\_;rw[kY,c8 mL,c8 qY,dK,db AA,db c10,c8 (by rw[aa c92];rfl),c8 (hf _),w1];exact h
  replace c92:=bV.1 c92
  have start:∀n,Base2 (S.tab n)->dX (S.step (S.tab n)) s (4,(i:Int),0,0,0,[],()) t4 ↑j o=_:=λn hb=>by
   rw[kY,c8 mL,c8 qY,dK,db AA,db c10,dz (by rw[ab c92];rfl),w1,w2,hb.look,al]
  by_cases e110:get s (j+1)=110
  ·have om:=iU e110 (by decide)
   have hR:iP s (k+1) j o=iP s k (j+2) (o++[10]):=by
    conv=>lhs;unfold iP
    rw[aa hl,aa c10,aa AA,ab c92,e110];rfl
   rw[hR]
   refine((ih (j+2) (o++[10]) (by omega) (by omega) (by simp;omega)).and dF).up λn ⟨h,hb⟩=> ?_
   show∃y,dX (S.step (S.tab n)) _ _ _ _ _=_/\_;rw[start n hb,dn e110,c8 aM7];exact h
  by_cases e116:get s (j+1)=116
  ·have om:=iU e116 (by decide)
   have hR:iP s (k+1) j o=iP s k (j+2) (o++[9]):=by
    conv=>lhs;unfold iP
    rw[aa hl,aa c10,aa AA,ab c92,e116];rfl
   rw[hR]
   refine((ih (j+2) (o++[9]) (by omega) (by omega) (by simp;omega)).and dF).up λn ⟨h,hb⟩=> ?_
   show∃y,dX (S.step (S.tab n)) _ _ _ _ _=_/\_;rw[start n hb,db e110,dn e116,c8 aM7];exact h
  by_cases e34:get s (j+1)=34
  ·have om:=iU e34 (by decide)
   have hR:iP s (k+1) j o=iP s k (j+2) (o++[34]):=by
    conv=>lhs;unfold iP
    rw[aa hl,aa c10,aa AA,ab c92,e34];rfl
   rw[hR];have AB:=I2 hs (4,(i:Int),0,0,0,[],()) t4 (j+1) o (get s (j+1)) om (by omega)
   refine(((ih (j+2) (o++[34]) (by omega) (by omega) (by simp;omega)).and dF).and AB).up λn ⟨⟨h,hb⟩,AB⟩=> ?_
   show∃y,dX (S.step (S.tab n)) _ _ _ _ _=_/\_;rw[start n hb,db e110,db e116,dn e34];simp only;rw[ab e34,AB,e34];simp only[al,ep,aH,w2];exact h
  by_cases e92:get s (j+1)=92
  ·have om:=iU e92 (by decide)
   have hR:iP s (k+1) j o=iP s k (j+2) (o++[92]):=by
    conv=>lhs;unfold iP
    rw[aa hl,aa c10,aa AA,ab c92,e92];rfl
   rw[hR];have AB:=I2 hs (4,(i:Int),0,0,0,[],()) t4 (j+1) o (get s (j+1)) om (by omega)
   refine(((ih (j+2) (o++[92]) (by omega) (by omega) (by simp;omega)).and dF).and AB).up λn ⟨⟨h,hb⟩,AB⟩=> ?_
   show∃y,dX (S.step (S.tab n)) _ _ _ _ _=_/\_;rw[start n hb,db e110,db e116,db e34];simp only;rw[ab e92,AB,e92];simp only[al,ep,aH,w2];exact h
  by_cases e120:¬ (get s (j+1)=120)
  ·have hR:iP s (k+1) j o= .inl (j+1):=by
    unfold iP;rw[aa hl,aa c10,aa AA,ab c92,aa e110,aa e116,aa e34,aa e92,aa e120];rfl
   rw[hR];have AB:=Mj (s:=s) (4,(i:Int),0,0,0,[],()) t4 (j+1) o (get s (j+1)) e120
   refine(dF.and AB).up λn ⟨hb,AB⟩=> ?_
   show∃y,dX (S.step (S.tab n)) _ _ _ _ _=_/\_;rw[start n hb,db e110,db e116,db e34];simp only;rw[aa e92,AB]
   first|exact⟨_,rfl,rfl,rfl⟩|exact⟨_,rfl,rfl⟩
  replace e120:=bV.1 e120
  have om:=iU e120 (by decide)
  have hR:iP s (k+1) j o=bif !jm (get s (j+2))then .inl (j+2)else bif !jm (get s (j+3))then .inl (j+3)else iP s k (j+4) (o++[mK (get s (j+2))*16+mK (get s (j+3))]):=by
   conv=>lhs;unfold iP
   rw[aa hl,aa c10,aa AA,ab c92,e120];rfl
  rw[hR];have AB:=QF hs (4,(i:Int),0,0,0,[],()) t4 (j+1) o (by omega) (by omega);have aX4:j+1+1=j+2:=rfl;have bh2:j+1+2=j+3:=rfl;rw[aX4,bh2]at AB
  have go:∀n,Base2 (S.tab n)->dX (S.step (S.tab n)) s (4,(i:Int),0,0,0,[],()) t4 ↑j o=(kJ (S.tab n) s (4,(i:Int),0,0,0,[],()) t4 ((j+1:Nat):Int) o 120 aq).bind (ep (λzS=>dX (S.tab n) zS.1 zS.2.1 zS.2.2.1 (ar.wrap (zS.2.2.2.1+(1:Int))) zS.2.2.2.2.1) (λzS=>U (an zS))):=λn hb=>by
   rw[start n hb,db e110,db e116,db e34];simp;rw[aa e92,e120]
  cases x2:jm (get s (j+2))with
  |false=>
   refine(AB.and dF).up λn ⟨h,hb⟩=> ?_
   show∃y,dX (S.step (S.tab n)) _ _ _ _ _=_/\_;rw[go n hb,h,x2]
   first|exact⟨_,rfl,rfl,rfl⟩|exact⟨_,rfl,rfl⟩
  |true=>
   cases x3:jm (get s (j+3))with
   |false=>
    refine(AB.and dF).up λn ⟨h,hb⟩=> ?_
    show∃y,dX (S.step (S.tab n)) _ _ _ _ _=_/\_;rw[go n hb,h,x2,x3]
    first|exact⟨_,rfl,rfl,rfl⟩|exact⟨_,rfl,rfl⟩
   |true=>
    have a86:=B8 x3;have h2:=ih (j+4) (o++[mK (get s (j+2))*16+mK (get s (j+3))]) (by omega) (by omega) (by simp;omega)
    refine((AB.and dF).and h2).up λn ⟨⟨h,hb⟩,h2⟩=> ?_
    show∃y,dX (S.step (S.tab n)) _ _ _ _ _=_/\_;rw[go n hb,h,x2,x3];have w5:ar.wrap (((j+3:Nat):Int)+1)=((j+4:Nat):Int):=w4;simp only[ah,al,ep,aH,w5];exact h2
def E1 (hi:i<s.length):Evt λn=>∃t' b,tL (S.tab n) s (0,(i:Int),0,0,0,[],())=U ((t',b,()),fD)/\SR k4 (We s i) t' b:=by
 have e1:ar.wrap (i+1)=((i+1:Nat)):=eT (by omega)
 refine(KL hs (0,0,0,0,0,[],()) i s.length (i+1) [] (by omega) (by omega) (by simp)).up λn ⟨y,h,hr⟩=> ?_
 show∃t' b,tL (S.step (S.tab n)) _ _=_/\_;rw[Fi];simp only[e1];rw[h,al]
 rcases y with y|y|y
 ·exact⟨y.1,y.2.1,rfl,hr⟩
 ·exact⟨y.1,y.2.2.1,rfl,hr⟩
 grind
end Go.Abs.D
end

section
namespace Go.Abs.D
def eD:List LI:=[[46,46,46],[46,46],[46],[60,60],[60,61],[60],[62,62],[62,61],[62],[61,61],[61],[126,61],[126],[47,47],[47],[40],[41],[123],[125],[91],[93],[44],[59],[35],[43],[45],[42],[37],[38],[124]]
def opsL:List LI:=[[],[43],[45],[42],[47],[47,47],[37],[38],[124],[126],[60,60],[62,62],[46,46],[61,61],[126,61],[60],[60,61],[62],[62,61]]
def fx (k:Nat):LI:=
 bif(10<=k)&&(k<=31)then Lx.words.getD (k - 10) []else
 bif(40<=k)&&(k<=50)then Lx.rG.getD (k - 40) []else
 bif(61<=k)&&(k<=78)then Lx.zK.getD (k - 61) []else
 bif(k=5)then [59]else []
def okF (f:LI):Bool:= !(f=[])&& !eW (f.getD 0 0)
def runK (p:LI->Bool):Nat->Nat×Nat->Nat×Nat
 |0,st=>st
 |k+1,st=>runK p k (bif okF (fx (k+1))&&p (fx (k+1))&&(st.2<(fx (k+1)).length)then(k+1,(fx (k+1)).length)else st)
def sq (l:List LI)(f:LI)(k:Nat):Bool:=(k<l.length)&& !(l.getD k []=f)
def sgn (f:LI):Nat:=
 bif(stop (sq opsL f) 19 1<19)then 60+stop (sq opsL f) 19 1 else
 bif(stop (sq Lx.rG f) 11 0<11)then 40+stop (sq Lx.rG f) 11 0 else 5
def pq (p:LI->Bool)(k:Nat):Bool:=(k<30)&& !p (eD.getD k [])
def pP (p:LI->Bool):Nat:=stop (pq p) 30 0
def oJ (p:LI->Bool):Nat×Nat:=bif(pP p<30)then(sgn (eD.getD (pP p) []),(eD.getD (pP p) []).length)else(0,0)
def NK (a b c:Int):LI->Bool
 |[x]=>I (a=x)
 |[x,y]=>I (a=x)&&(b=y)
 |[x,y,z]=>I (a=x)&&b=y&&(c=z)
 |_=>aq
def rep (l:LI)(a:Int):Int:=bif l.contains a then a else 0
def lA:LI:=[46,60,62,61,126,47,40,41,123,125,91,93,44,59,35,43,45,42,37,38,124]
def lB:LI:=[46,60,61,62,47]
def lC:LI:=[46]
theorem Ym (l:LI) (a):rep l a∈0::l:=by
 grind [rep,aB,aD]
def Rh (l) (a x) (hx:l.contains x=av)(h0:x≠0):I (rep l a=x)=I (a=x):=by
 unfold rep
 grind
def Dm:∀k st,(∀j,j<=k->okF (fx j)=av->p (fx j)=q (fx j))->runK p k st=runK q k st
 |0,st,_=>rfl
 |k+1,st,h=>by
  unfold runK
  have:(okF (fx (k+1))&&p (fx (k+1)))=(okF (fx (k+1))&&q (fx (k+1))):=by
   grind
  rw[this]
  exact Dm k _ λj hj=>h j (by omega)
theorem QB (h:∀j,p j=q j) (k j):stop p k j=stop q k j:=by
 have:p=q:=funext h
 grind
def zn (h:∀f∈eD,p f=q f):oJ p=oJ q:=by
 have e:∀j,pq p j=pq q j:=λj=>by
  unfold pq
  by_cases hj:j<30
  ·rw[h];rw[aG,aL (show j<eD.length from hj)];simp
  grind
 grind [pP,QB,oJ]
def ZY:∀j,j<=78->okF (fx j)=av->fx j∈eD:=by
 have h:∀j:Fin 79,okF (fx j)=av->fx j∈eD:=by decide+kernel
 exact λj hj=>h ⟨j,by omega⟩
def OY (a b c):∀f∈eD,NK a b c f=NK (rep lA a) (rep lB b) (rep lC c) f:=by
 intro f hf;simp[eD]at hf
 rcases hf with rfl|rfl|rfl|rfl|rfl|rfl|rfl|rfl|rfl|rfl|rfl|rfl|rfl|rfl|rfl|rfl|rfl|rfl|rfl|rfl|rfl|rfl|rfl|rfl|rfl|rfl|rfl|rfl|rfl|rfl<;>
  simp only[NK]<;>(first|rw[Rh lA a _ (by rfl) (by decide)]|skip)<;>(first|rw[Rh lB b _ (by rfl) (by decide)]|skip)<;>(first|rw[Rh lC c _ (by rfl) (by decide)]|skip)
def TY (a b c):runK (NK a b c) 78 (0,0)=oJ (NK a b c):=by
 have h:∀x∈(0::lA),∀y∈(0::lB),∀z∈(0::lC),runK (NK x y z) 78 (0,0)=oJ (NK x y z):=by decide+kernel
 rw[Dm (q:=NK (rep lA a) (rep lB b) (rep lC c)) 78 (0,0) λj hj ho=>OY a b c _ (ZY j hj ho),zn (OY a b c)]
 grind [Ym]
end Go.Abs.D
end

section
namespace Go.Abs.D
def pS (s:LI)(i:Nat)(f:LI):Bool:=(f.length<=s.length - i)&&(eV s i (i+f.length)=f)
def p3 (s:LI)(i:Nat):LI->Bool:=NK (get s i) (get s (i+1)) (get s (i+2))
def J3:Evt λn=>∀v lo hi,ni (S.tab n) v lo hi=U (lo<=v&&I (v<=hi),dR):=dF.up λn _ v lo hi=>by
 rw[IK]
 cases h:I (lo<=v)with
 |true=>rw[c8 rfl];rfl
 |false=>rw[dz rfl];rfl
def Jt:Evt λn=>∀k:Nat,k<=78->qE (S.tab n) k=U (fx k,cV):=J3.up λn h k hk=>by
 rw[CP,h,al];unfold fx
 by_cases h1:10<=k/\k<=31
 ·have e:ar.wrap (k - 10)=((k - 10:Nat)):=by rw[wrap64 _ (by omega) (by omega)];omega
  rw[c8 (by simp;omega),e,c8 (dm (show k - 10<Lx.words.length by show k - 10<22;omega)),ab h1.1,ab h1.2];rfl
 rw[dz (by simp;omega),h,al];rw[show(10<=k&&k<=31)=aq by simp;omega]
 by_cases h2:40<=k/\k<=50
 ·have e:ar.wrap (k - 40)=((k - 40:Nat)):=by rw[wrap64 _ (by omega) (by omega)];omega
  rw[c8 (by simp;omega),e,c8 (dm (show k - 40<Lx.rG.length by show k - 40<11;omega)),ab h2.1,ab h2.2];rfl
 rw[dz (by simp;omega),h,al];rw[show(40<=k&&k<=50)=aq by simp;omega]
 by_cases h3:61<=k/\k<=78
 ·have e:ar.wrap (k - 60)=((k - 60:Nat)):=by rw[wrap64 _ (by omega) (by omega)];omega
  have e':ar.wrap (((k - 60:Nat)) - 1)=((k - 61:Nat)):=by rw[wrap64 _ (by omega) (by omega)];omega
  rw[c8 (by simp;omega),e,e',c8 (dm (show k - 61<Lx.zK.length by show k - 61<18;omega)),ab h3.1,ab h3.2];rfl
 rw[dz (by simp;omega)];rw[show(61<=k&&k<=78)=aq by simp;omega]
 by_cases h5:k=5
 ·subst h5;rw[c8 (by rfl)];rfl
 ·rw[dz (by simp;omega),aa h5];rfl
def aB1 (f):∀j:Nat,1<=j->j<=19->Evt λn=>jQ (S.tab n) f opsL j=U (bif(stop (sq opsL f) 19 j<19)then an (((60+stop (sq opsL f) 19 j:Nat):Int),())else aE (an (f,()))):=λj h1 hj=>
 adv (F:=λT j=>jQ T f opsL ↑j) (out:=λj=>bif(j<19)then an (((60+j)),())else aE (an (f,()))) (N:=19) dF (λj h=>by simp[sq,opsL];omega)
  (λT j _ hq=>by
   simp[sq]at hq;have aL7:j<19:=hq.1;show jQ (S.step T) f opsL j=jQ T f opsL ((j+1:Nat):Int)
   rw[xp,c8 (by simp_all),c8 (dm hq.1),db (show¬ List.getD _ (j:Int).toNat []=f from hq.2),eT (by omega)])
  (λT j _ hq=>by
   simp only[sq,cQ,ae,cU,ad]at hq;show jQ (S.step T) f opsL j=_;rw[xp]
   by_cases hj:j<opsL.length
   ·have aL7:j<19:=hj
    have he:opsL.getD (j:Int).toNat []=f:=by
     simp_all
    rw[c8 (by simp_all),c8 (dm hj),dn he,wrap64 _ (by omega) (by omega),ab aL7];rfl
   ·have aL7:¬ j<19:=hj
    simp_all[dz,aa]) 19 j (by omega)
def aA2 (f):Evt λn=>kN (S.tab n) f Lx.rG 11 0=U (bif(stop (sq Lx.rG f) 11 0<11)then an (((40+stop (sq Lx.rG f) 11 0:Nat):Int),())else aE (an ())):=
 adv (F:=λT j=>kN T f Lx.rG 11 ↑j) (out:=λj=>bif(j<11)then an (((40+j)),())else aE (an ())) (N:=11) dF (λj h=>by simp[sq,Lx.rG];omega)
  (λT j _ hq=>by
   simp[sq]at hq;have vR:j<11:=hq.1;show kN (S.step T) f Lx.rG 11 j=kN T f Lx.rG 11 ((j+1:Nat):Int)
   rw[xy,c8 (by grind),c8 (dm hq.1),db (show¬ List.getD _ (j:Int).toNat []=f from hq.2),eT (by omega)])
  (λT j _ hq=>by
   simp only[sq,cQ,ae,cU,ad]at hq;show kN (S.step T) f Lx.rG 11 j=_;rw[xy]
   by_cases hj:j<Lx.rG.length
   ·have vR:j<11:=hj
    have he:Lx.rG.getD (j:Int).toNat []=f:=by
     simp_all
    rw[c8 (by grind),c8 (dm hj),dn he,wrap64 _ (by omega) (by omega),ab vR];rfl
   ·have vR:¬ j<11:=hj
    grind [dz,aa]) 11 0 (by omega)
def sign_one (f):Evt λn=>nV (S.tab n) f=U ((sgn f:Int),cV):=by
 refine((aB1 f 1 (by omega) (by omega)).and (aA2 f)).up λn ⟨h3,h9⟩=> ?_
 rw[H2];have h3:jQ (S.tab n) f opsL 1=_:=h3;show(jQ (S.tab n) f opsL 1).bind _=_;rw[h3,al];unfold sgn
 cases I (stop (sq opsL f) 19 1<19)with
 |true=>rfl
 |false=>
  show(kN (S.tab n) f Lx.rG 11 0).bind _=_;rw[h9,al]
  cases I (stop (sq Lx.rG f) 11 0<11)with
  |true=>rfl
  |false=>rfl
def Ez {P:α->Nat->Prop}:∀(l:List α),(∀a,Evt λn=>P a n)->Evt λn=>∀a∈l,P a n
 |[],_=>Evt.of λ_ a h=>by cases h
 |x::l,h=>((h x).and (Ez l h)).mono λn ⟨h1,h2⟩ a ha=>by
  grind
def Hy (f):sgn f≠0:=by
 unfold sgn
 grind
def O9:Evt λn=>qN (S.tab n)=U (eD,lP):=dF.up λn _=>by
 rw[G2];rfl
variable{s:LI}(hs:s.length<=2097152)
include hs
omit hs in
theorem sub_one {i:Nat}(h:i+1<=s.length):eV s i (i+1)=[get s i]:=by grind [qV,qG]
omit hs in
theorem Ui {i:Nat}(h:i+3<=s.length):eV s i (i+3)=[get s i,get s (i+1),get s (i+2)]:=by
 rw[show i+3=i+2+1 from rfl,qV (by omega) (by omega),Em (s:=s) (by omega)];rfl
omit hs in
theorem W5 {i:Nat}(hi:i<s.length):∀f∈eD,pS s i f=p3 s i f:=by
 have h1:∀x:Int,x≠0->pS s i [x]=I (get s i=x):=λx h0=>by
  unfold pS;rw[show([x]:LI).length=1 from rfl,sub_one (s:=s) (by omega),ab (by omega),bD];simp
 have h2:∀x y:Int,x≠0->y≠0->pS s i [x,y]=(I (get s i=x)&&I (get s (i+1)=y)):=λx y h0 ad5=>by
  unfold pS;rw[show([x,y]:LI).length=2 from rfl]
  by_cases h:2<=s.length - i
  ·rw[Em (s:=s) (by omega),ab h,bD];simp
  ·rw[aa h,lK (show s.length<=i+1 by omega),show I ((0:Int)=y)=aq from aa (λe=>ad5 e.symm),aT];rfl
 have h3:∀x y z:Int,x≠0->y≠0->z≠0->pS s i [x,y,z]=(I (get s i=x)&&I (get s (i+1)=y)&&I (get s (i+2)=z)):=λx y z h0 ad5 a26=>by
  unfold pS;rw[show([x,y,z]:LI).length=3 from rfl]
  by_cases h:3<=s.length - i
  ·rw[Ui (s:=s) (by omega),ab h,bD]
   grind
  ·rw[aa h,lK (show s.length<=i+2 by omega),show I ((0:Int)=z)=aq from aa (λe=>a26 e.symm),aT];rfl
 intro f hf;simp[eD]at hf
 rcases hf with rfl|rfl|rfl|rfl|rfl|rfl|rfl|rfl|rfl|rfl|rfl|rfl|rfl|rfl|rfl|rfl|rfl|rfl|rfl|rfl|rfl|rfl|rfl|rfl|rfl|rfl|rfl|rfl|rfl|rfl<;>
  first
  |exact h1 _ (by decide)
  |exact h2 _ _ (by decide) (by decide)
  |exact h3 _ _ _ (by decide) (by decide) (by decide)
def am1 (i:Nat)(st:Nat×Nat):di.den:=((st.1:Int),(i:Int),((bif(st.1=0)then 0 else i+st.2:Nat):Int),0,0,[],())
def Bw (i:Nat)(st:Nat×Nat):Nat⊕di.den:=bif(st.1=0)then .inl i else .inr ((st.1:Int),(i:Int),((i+st.2:Nat):Int),0,0,[],())
omit hs in
theorem FE (hs:s.length<=2097152){i:Nat}(hi:i<s.length):Evt λn=>∀f:LI,strings_HasPrefix (S.tab n) (sub s ↑i (s.length:Int)) f=U (pS s i f,cW):=by
 have e:sub s ↑i (s.length:Int)=s.drop i:=by
  simp_all[sV,eV,cy]
 have h1:Evt λn=>∀f:LI,oz (S.tab n) (s.drop i) f=U (pS s i f,cW):=dF.up λn _ f=>by
  rw[vT];unfold pS
  by_cases h:f.length<=s.length - i
  ·have e2:sub (s.drop i) (0:Int) (f.length:Int)=eV s i (i+f.length):=by
    show((s.drop i).take f.length).drop 0=_
    grind [eV,List.take_drop]
   rw[c8 (by simp_all),c8 (show bounds (s.drop i).length (0:Int) (f.length:Int)=av from fO (i:=0) (by omega) (by simp_all)),e2,ab h,bD]
  simp_all[dz,aa]
 exact h1.up λn h f=>by
  grind [AL]
def WQ (hi:i<s.length):∀(k:Nat) st,k<=78->Evt λn=>mI (S.tab n) s ↑i (am1 i st) st.2 k=U (an ((i:Int),am1 i (runK (pS s i) k st),()))
 |0,st,_=>dF.up λn _=>by
  rw[z6,dz (by decide)];rfl
 |k+1,st,hk=>by
  have ih:=λst=>WQ hi k st (by omega)
  refine((((ih st).and (ih (k+1,(fx (k+1)).length))).and Jt).and ((FE hs hi).and dF)).up λn ⟨⟨⟨ap0,av7⟩,hf⟩,hp,hb⟩=> ?_
  have w:ar.wrap (((k+1:Nat)) - 1)=k:=by grind [wrap64]
  rw[z6,c8 (by simp),hf (k+1) (by omega),al,w];unfold runK;unfold okF
  by_cases mU:fx (k+1)=[]
  ·simp_all[dz,ab]
  rw[c8 (by simp_all),aa mU];have hlen:0<(fx (k+1)).length:=b9.2 mU;rw[c8 (by simp_all),hb.iletter,al]
  cases mL:eW ((fx (k+1)).getD 0 0)with
  |true=>
   simp_all[dz]
  |false=>
   rw[c8 (by rfl),c8 (fO (by omega) (aF _)),hp,al]
   cases aF2:pS s i (fx (k+1))with
   |false=>
    simp_all[dz]
   |true=>
    rw[c8 (by rfl)]
    have hle:(fx (k+1)).length<=s.length - i:=by
     unfold pS at aF2;simp at aF2;exact aF2.1
    by_cases CW:st.2<(fx (k+1)).length
    ·have w2:ar.wrap (i+((fx (k+1)).length))=((i+(fx (k+1)).length:Nat)):=by rw[wrap64 _ (by omega) (by omega)];omega
     simp[w2];rw[c8 (by simp;omega),ab CW];exact av7
    ·rw[dz (by simp;omega),aa CW];exact ap0
def aj6 (hi:i<s.length) (t4):Evt λn=>jk (S.tab n) s ↑i t4 (0,(i:Int),0,0,0,[],()) eD 30 0=
  U (bif(pP (pS s i)<30)then an (((sgn (eD.getD (pP (pS s i)) []):Int),(i:Int),((i+(eD.getD (pP (pS s i)) []).length:Nat):Int),0,0,[],()), -1,())else aE (an ((i:Int),t4,(0,(i:Int),0,0,0,[],()),()))):=by
 have hp:Evt λn=>∀f∈eD,nV (S.tab n) f=U ((sgn f:Int),cV):=Ez eD sign_one
 have hlen:∀k,k<30->(eD.getD k []).length<=3:=by
  have h:∀k:Fin 30,(eD.getD k.1 []).length<=3:=(by decide)
  exact λk hk=>h ⟨k,hk⟩
 refine adv (F:=λT j=>jk T s ↑i t4 (0,i,0,0,0,[],()) eD 30 ↑j) (q:=pq (pS s i)) (N:=30) (p:=λT=>∀f∈eD,nV T f=U ((sgn f:Int),cV))
  (out:=λk=>bif(k<30)then an (((sgn (eD.getD k [])),i,((i+(eD.getD k []).length)),0,0,[],()), -1,())else aE (an (i,t4,(0,i,0,0,0,[],()),())))
  hp (λj h=>by simp_all[pq,aa]) ?_ ?_ 30 0 (by omega)
 ·intro T j _ hq;unfold pq pS at hq;simp only[aA,ad,bU,cQ,ae]at hq;have vL:=hq.1;have a86:=hlen j vL;have hj:j<eD.length:=vL;show jk (S.step T) s i t4 _ eD 30 j=jk T s i t4 _ eD 30 ((j+1:Nat));rw[wL,c8 (by grind),c8 (dm hj),eT (by omega),wrap64 (s.length - i) (by omega) (by omega)];show brk (((eD.getD j []).length:Int)<=_) _ _=_
  by_cases hle:(eD.getD j []).length<=s.length - i
  ·have w:ar.wrap (i+((eD.getD j []).length))=((i+(eD.getD j []).length:Nat)):=by grind [wrap64]
   have mU:¬ eV s i (i+(eD.getD j []).length)=eD.getD j []:=by
    grind
   rw[c8 (by grind)];show brk (bounds s.length i (ar.wrap (i+((eD.getD j []).length)))) (brk (sub s i (ar.wrap (i+((eD.getD j []).length)))=eD.getD j []) _ _) _=_;rw[w,c8 (fO (by omega) (by omega)),sV,db mU]
  grind [dz,ae]
 ·intro T j ae8 hq;show jk (S.step T) s i t4 _ eD 30 j=_;rw[wL]
  by_cases vL:j<30
  ·have hj:j<eD.length:=vL;unfold pq at hq;rw[ab vL,bD,cU]at hq;unfold pS at hq;simp only[aA,ad]at hq
   have hm:eD.getD j []∈eD:=by
    rw[aG,aL hj];exact bF _
   have w:ar.wrap (i+((eD.getD j []).length))=((i+(eD.getD j []).length:Nat)):=by rw[wrap64 _ (by omega) (by omega)];omega
   rw[c8 (by simp;omega),c8 (dm hj),wrap64 (s.length - i) (by omega) (by omega)];show brk (((eD.getD j []).length:Int)<=_) (brk (bounds s.length i (ar.wrap (i+((eD.getD j []).length)))) (brk (sub s i (ar.wrap (i+((eD.getD j []).length:Int)))=eD.getD j []) ((nV T (eD.getD j [])).bind λd68=>U (an ((d68.1,_,ar.wrap ((i:Int)+((eD.getD j []).length:Int)),_),_,()))) _) _) _=_;rw[c8 (by simp only[ad];omega),w,c8 (fO (by omega) (by omega)),sV,c8 (ab hq.2),ae8 _ hm,al,ab vL];rfl
  grind [dz,aa]
def oL (s:LI)(i:Nat):Nat⊕di.den:=
 bif eW (get s i)then .inr (KW s i)else bif dT (get s i)then oh s i else bif(get s i=34)then We s i else Bw i (oJ (p3 s i))
def Gk (Hh:∀c∈s,isByte c){i:Nat}(hi:i<s.length):Evt λn=>∃t' b,lT (S.tab n) s i=U ((t',b,()),cW)/\IR (kB (get s i)) (oL s i) t' b:=by
 unfold oL
 cases hl:eW (get s i)with
 |true=>
  exact(KT hs hi hl).mono λn h=>⟨_,_,h,rfl,rfl⟩
 |false=>
  have start:∀n,Base2 (S.tab n)->lT (S.step (S.tab n)) s i=_:=λn hb=>by
   rw[Gn,c8 (dm hi),dK,hb.iletter,hl,al,dz (by rfl),hb.idigit,al]
  cases hd:dT (get s i)with
  |true=>
   refine((Ie hs hi hd).and dF).up λn ⟨⟨t',b,h,hr⟩,hb⟩=>⟨t',b, ?_,hr.to λk=>by simp_all[kB]⟩
   simp_all[start,c8]
  |false=>
   by_cases AA:get s i=34
   ·have w1:ar.wrap (i+1)=((i+1:Nat)):=eT (by omega);rw[ab AA]
    refine((Kz hs Hh i s.length (i+1) [] (by omega) (by omega) (by simp)).and dF).up λn ⟨⟨t',b,h,hr⟩,hb⟩=>⟨t',b, ?_,hr.to λk=>by simp_all[kB,ab]⟩
    rw[start n hb,hd,dz (by rfl),dn AA,w1,h];rfl
   ·rw[aa AA]
    show Evt λn=>∃t' b,_/\IR (kB (get s i)) (Bw i (oJ (p3 s i))) t' b
    have au8:runK (pS s i) 78 (0,0)=oJ (p3 s i):=by
     rw[Dm (q:=p3 s i) 78 (0,0) λj hj ho=>W5 (s:=s) hi _ (ZY j hj ho)];exact TY _ _ _
    refine((WQ hs hi 78 (0,0) (aF _)).and dF).up λn ⟨h,hb⟩=> ?_
    show∃t' b,lT (S.step (S.tab n)) _ _=_/\_;have h:mI (S.tab n) s ↑i (0,i,0,0,0,[],()) 0 78=_:=h;rw[start n hb,hd,dz (by rfl),db AA,h,au8,al]
    generalize oJ (p3 s i)=st
    obtain⟨a,b⟩:=st;unfold Bw am1;simp only[dH,aH]
    by_cases h0:a=0
    ·have d:I ((a:Int)=0)=true:=ab (by omega);rw[c8 d,ab h0];exact⟨_,_,rfl,rfl,rfl,by unfold kB;rw[hd,aa AA];exact d⟩
    ·have d:I ((a:Int)=0)=false:=aa (by omega);rw[dz d,aa h0];exact⟨_,_,rfl,rfl,rfl⟩
def zr (hi:i<s.length)(xo:get s i≠10):Evt λn=>∃t' b,iH (S.tab n) s i=U ((t',b,()),cW)/\SR (kB (get s i)) (oL s i) t' b:=by
 unfold oL
 have start:∀n,Base2 (S.tab n)->iH (S.step (S.tab n)) s i=_:=λn hb=>by
  rw[A1,c8 (dm hi),dK,db xo,hb.sletter,al]
 cases hl:eW (get s i)with
 |true=>
  refine((Ij hs hi _ rfl).and dF).up λn ⟨h,hb⟩=> ?_
  show∃t' b,iH (S.step (S.tab n)) _ _=_/\_;rw[start n hb,hl,c8 (by rfl),h];exact⟨_,_,rfl,rfl,rfl⟩
 |false=>
  cases hd:dT (get s i)with
  |true=>
   refine((Fg hs hi hd).and dF).up λn ⟨⟨t',b,h,hr⟩,hb⟩=>⟨t',b, ?_,hr.to λk=>by simp_all[kB]⟩
   rw[start n hb,hl,dz (by rfl),hb.sdigit,al,hd,c8 (by rfl),h];rfl
  |false=>
   by_cases AA:get s i=34
   ·rw[ab AA]
    refine((E1 hs hi).and dF).up λn ⟨⟨t',b,h,hr⟩,hb⟩=>⟨t',b, ?_,hr.to λk=>by simp_all[kB,ab]⟩
    rw[start n hb,hl,dz (by rfl),hb.sdigit,al,hd,dz (by rfl),dn AA,h];rfl
   ·rw[aa AA]
    show Evt λn=>∃t' b,_/\SR (kB (get s i)) (Bw i (oJ (p3 s i))) t' b
    have au8:oJ (pS s i)=oJ (p3 s i):=zn (W5 (s:=s) hi)
    refine((aj6 hs hi (0,0,0,0,0,[],())).and (O9.and dF)).up λn ⟨h,bj9,hb⟩=> ?_
    show∃t' b,iH (S.step (S.tab n)) _ _=_/\_;rw[start n hb,hl,dz (by rfl),hb.sdigit,al,hd,dz (by rfl),db AA,bj9,al];show∃t' b,(jk (S.tab n) s ↑i _ _ eD 30 0).bind _=_/\_;rw[h,al,<-au8];unfold Bw oJ
    cases I (pP (pS s i)<30)with
    |true=>
     simp only[ah];rw[aa (Hy _)];exact⟨_,_,rfl,rfl,rfl⟩
    |false=>exact⟨_,_,rfl,rfl,by unfold kB;rw[hd,aa AA];rfl⟩
def A6 (hi:i<s.length)(xo:get s i=10):Evt λn=>iH (S.tab n) s i=U (((7,(i:Int),((i+1:Nat):Int),0,0,[],()), -1,()),cW):=dF.up λn hb=>by
 have w1:ar.wrap (i+1)=((i+1)):=eT (by omega)
 grind [A1,c8,dm,dK,ab]
end Go.Abs.D
end

section
namespace Go.Abs.D
def Adv (s:LI)(i:Nat)(t:di.den):Prop:=(∃e:Nat,t.2.2.1=(e:Int)/\i<e/\e<=s.length)/\t.1≠7
theorem Iv (f) (h1:i<j)(h2:j<=s.length):Adv s i (mY s i j f):=by
 unfold mY
 cases f|| !(dv 0 (eV s i j)<9223372036854775808)with
 |true=>exact⟨⟨j,rfl,h1,h2⟩,show 3≠7 by decide⟩
 |false=>exact⟨⟨j,rfl,h1,h2⟩,show 2≠7 by decide⟩
theorem Pl (f) (h1:i<j)(h2:j<=s.length){t:di.den}(h:xh s i j f= .inr t):Adv s i t:=by
 unfold xh at h
 cases h5:I (get s j=101)with
 |true=>
  cases hd:dT (get s (qa s j))with
  |true=>
   have hl:=uv hd
   grind [tW,qa,Iv,tY]
  |false=>simp_all
 |false=>
  grind [Iv]
theorem Pu (h1:i<j)(h2:j<=s.length){t:di.den}(h:xj s i j= .inr t):Adv s i t:=by
 unfold xj at h
 cases h5:(get s j=46)&&dT (get s (j+1))with
 |true=>
  rw[h5]at h;rw[aA]at h5;have hl:=uv h5.2;have:=tW s (j+1);exact Pl _ (by omega) (tY (by omega)) h
 |false=>
  grind [Pl]
theorem Qs (hi:i+2<=s.length){t:di.den}(h:mZ s i= .inr t):Adv s i t:=by
 have h1:py s (i+18) (i+2)<=s.length:=xe FN _ _ hi;have h2:i+2<=py s (i+18) (i+2):=vG _ _;unfold mZ at h
 by_cases he:py s (i+18) (i+2)=i+2
 ·simp_all
 ·simp[he]at h
  cases hx:jm (get s (py s (i+18) (i+2)))with
  |true=>simp_all
  |false=>
   simp only[hx,cf,if_false]at h
   injection h with h
   subst h;exact⟨⟨_,rfl,by omega,h1⟩,show 2≠7 by decide⟩
def Ei:∀k j o e r,iP s k j o= .inr (e,r)->j<e/\e<=s.length
 |0,j,o,e,r,h=>by cases h
 |k+1,j,o,e,r,h=>by
  have ap0:=Ei (s:=s) k (j+1);have av7:=Ei (s:=s) k (j+2);have bf0:=Ei (s:=s) k (j+4);unfold iP at h
  by_cases hl:s.length<=j
  ·simp_all
  cases h1:I (get s j=10)with
  |true=>simp_all
  |false=>
  cases h1:I (get s j=34)with
  |true=>grind
  |false=>
  grind
theorem aT0 (f):sgn f≠7:=by
 unfold sgn
 grind
def Ly (hs:s.length<=2097152){i:Nat}(hi:i<s.length){t:di.den}(h:oL s i= .inr t):Adv s i t:=by
 unfold oL at h
 cases hl:eW (get s i)with
 |true=>
  rw[hl]at h
  injection h with h
  subst h;have hle:zf s i<=s.length:=xe uX _ _ (by omega)
  have a88:i<zf s i:=by
   have hq:wq s i=true:=by simp_all[wq]
   have e:=LB (q:=wq s) (N:=s.length) uX (k:=s.length) (j:=i) (by omega) hq
   grind [vG,wq,zf]
  unfold KW;simp;split
  ·exact⟨⟨_,rfl,a88,hle⟩,by grind⟩
  ·exact⟨⟨_,rfl,a88,hle⟩,show 1≠7 by decide⟩
 |false=>
  rw[hl]at h
  cases hd:dT (get s i)with
  |true=>
   rw[hd]at h;unfold oh at h
   cases h0:I (get s i=48)with
   |true=>
    cases hx:I (get s (i+1)=120)with
    |true=>
     have:=iU (of_decide_eq_true hx) (by decide)
     grind [Qs]
    |false=>
     rw[h0,hx]at h;exact Pu (j:=i+1) (by omega) (by omega) h
   |false=>
    grind [tW,Pu,s4,tY]
  |false=>
   rw[hd]at h
   cases ue:I (get s i=34)with
   |true=>
    rw[ue]at h;have h:K3 i (iP s s.length (i+1) [])= .inr t:=h
    cases hr:iP s s.length (i+1) []with
    |inl e=>rw[hr]at h;cases h
    |inr y=>
     rw[hr]at h;obtain⟨e,r⟩:=y;have:=Ei _ _ _ _ _ hr
     injection h with h
     subst h;exact⟨⟨e,rfl,by omega,by omega⟩,show 4≠7 by decide⟩
   |false=>
    rw[ue]at h;rw[<-zn (W5 (s:=s) hi)]at h;unfold Bw oJ at h
    cases hk:I (pP (pS s i)<30)with
    |false=>simp_all
    |true=>
     rw[hk]at h;simp only[ah]at h;rw[aa (Hy _)]at h
     injection h with h
     subst h;have hq:pq (pS s i) (pP (pS s i))=false:=uE (N:=30) (λj h=>by simp_all[pq,aa]) 30 0 (by omega);unfold pq at hq;rw[hk,bD,cU]at hq;have hq:((eD.getD (pP (pS s i)) []).length<=s.length - i&&eV s i (i+(eD.getD (pP (pS s i)) []).length)=eD.getD (pP (pS s i)) [])=true:=hq;rw[aA,ad]at hq
     have sF:0<(eD.getD (pP (pS s i)) []).length:=by
      have h:∀k:Fin 30,0<(eD.getD k.1 []).length:=(by decide);exact h ⟨_,of_decide_eq_true hk⟩
     exact⟨⟨_,rfl,by omega,by omega⟩,by
      grind [aT0,pP,pS,sgn]⟩
end Go.Abs.D
end

section

end

section
set_option maxRecDepth 100000
namespace Go.Abs.D
noncomputable def sn:Nat->S.Tab->S.Tab
 |0,T=>T
 |n+1,T=>S.step (sn n T)
noncomputable def dw (t0:LI):Option ((LI×Bool×Bool×Unit)×Unit×Unit):=
 U ((t0,av,aq,()),cV)
def H4 (T):dD (sn 1 T)=dw:=by
 rfl
noncomputable def uQ (t0:Int):Option (Bool×Unit×Unit):=brk (t0=22) (brk (t0=22) (U (av,cV)) (U (aq,cV))) (brk (t0=13) (brk (t0=13) (U (av,cV)) (U (aq,cV))) (brk (t0=18) (brk (t0=18) (U (av,cV)) (U (aq,cV))) (brk (t0=20) (brk (t0=20) (U (av,cV)) (U (aq,cV))) (brk (t0=31) (brk (t0=31) (U (av,cV)) (U (aq,cV))) (brk (t0=19) (brk (t0=19) (U (av,cV)) (U (aq,cV))) (brk (t0=11) (brk (t0=11) (U (av,cV)) (U (aq,cV))) (brk (t0=23) (brk (t0=23) (U (av,cV)) (U (aq,cV))) (brk (t0=27) (brk (t0=27) (U (av,cV)) (U (aq,cV))) (brk (t0=30) (brk (t0=30) (U (av,cV)) (U (aq,cV))) (brk (t0=28) (brk (t0=28) (U (av,cV)) (U (aq,cV))) (brk (t0=14) (brk (t0=14) (U (av,cV)) (U (aq,cV))) (brk (t0=42) (brk (t0=42) (U (av,cV)) (U (aq,cV))) (brk (t0=1) (brk (t0=1) (U (av,cV)) (U (aq,cV))) (brk (t0=40) (U (av,cV)) (U (aq,cV))))))))))))))))
def E7 (T):yb (sn 1 T)=uQ:=by
 rfl
noncomputable def fe  :Option ((LI×Bool×Bool×Unit)×Unit):=
 U (([],aq,av,()),lP)
def HT (T):gg (sn 1 T)=fe:=by
 rfl
noncomputable def ig  :Option ((LI×Bool×Bool×Unit)×Unit):=
 U (([],aq,aq,()),lP)
def H3 (T):jG (sn 1 T)=ig:=by
 rfl
noncomputable def fg (t0:Int):Option (Bool×Unit×Unit):=brk (t0=25) (U (av,cV)) (brk (t0=50) (U (av,cV)) (brk (t0=62) (U (av,cV)) (U (I (t0=69),cV))))
def wu (T):eM (sn 1 T)=fg:=by
 funext a0
 show eM (S.step (sn 0 T)) a0=_;rw[vZ];rfl
noncomputable def jY (t0:Int):Option (Bool×Unit×Unit):=brk (t0=1) (brk (t0=1) (U (av,cV)) ((fg t0).bind λd17=>U (d17.1,cV))) (brk (t0=40) (brk (t0=40) (U (av,cV)) ((fg t0).bind λd17=>U (d17.1,cV))) (brk (t0=2) (brk (t0=2) (U (av,cV)) ((fg t0).bind λd17=>U (d17.1,cV))) (brk (t0=3) (brk (t0=3) (U (av,cV)) ((fg t0).bind λd17=>U (d17.1,cV))) (brk (t0=4) (brk (t0=4) (U (av,cV)) ((fg t0).bind λd17=>U (d17.1,cV))) (brk (t0=24) (brk (t0=24) (U (av,cV)) ((fg t0).bind λd17=>U (d17.1,cV))) (brk (t0=29) (brk (t0=29) (U (av,cV)) ((fg t0).bind λd17=>U (d17.1,cV))) (brk (t0=17) (brk (t0=17) (U (av,cV)) ((fg t0).bind λd17=>U (d17.1,cV))) (brk (t0=49) (brk (t0=49) (U (av,cV)) ((fg t0).bind λd17=>U (d17.1,cV))) (brk (t0=18) (brk (t0=18) (U (av,cV)) ((fg t0).bind λd17=>U (d17.1,cV))) (brk (t0=42) (U (av,cV)) ((fg t0).bind λd17=>U (d17.1,cV))))))))))))
def Fp (T):ij (sn 2 T)=jY:=by
 have s7:eM (sn 1 T)=fg:=wu (sn 0 T)
 funext a0
 show ij (S.step (sn 1 T)) a0=_;rw[yy];rw[s7];rfl
noncomputable def kG (t0:Int)(t1:Int)(t2:Int):Option ((LI×Bool×Unit)×Unit×Unit×Int×Unit):=brk (t2=48) (U (([48,1,t0],av,()),(),(),t2,())) (brk (t2=44) (U (([44,1018,45,t0],av,()),(),(),t2,())) (brk (t2=40) (U (([40,1022,41,t1],av,()),(),(),t2,())) (U (([],aq,()),(),(),t2,()))))
def Ig (T):lh (sn 1 T)=kG:=by
 funext a0
 funext a1
 funext a2
 show lh (S.step (sn 0 T)) a0 a1 a2=_;rw[It];rfl
noncomputable def FC (t0:Int)(t1:Int)(t2:Int):Option (Bool×Unit×Unit×Unit×Unit):=brk (t1<=t0) (U (I (t0<=t2),dR)) (U (aq,dR))
def QG (T):ni (sn 1 T)=FC:=by
 funext a0
 funext a1
 funext a2
 show ni (S.step (sn 0 T)) a0 a1 a2=_;rw[IK];rfl
noncomputable def tj (t0:Int):Option (Bool×Unit×Unit):=brk (t0=10) (U (av,cV)) (brk (t0=26) (U (av,cV)) ((FC t0 61 78).bind λd11=>U (d11.1,cV)))
def DP (T):qw (sn 2 T)=tj:=by
 have Uv:ni (sn 1 T)=FC:=QG (sn 0 T)
 funext a0
 show qw (S.step (sn 1 T)) a0=_;rw[DR];rw[Uv];rfl
noncomputable def rK (t3:Int)(t41:Int)(t90:Bool):Option ((LI×Bool×Bool×Unit)⊕(Unit)⊕Empty):=brk (t90) ((dw [t3,1001]).bind λd96=>U (an d96.1)) (brk (t41=27) ((dw [27,1007,1001]).bind λd104=>U (an d104.1)) (brk (t41=30) ((dw [30,1027,12,1,1008,1027,1001]).bind λd112=>U (an d112.1)) (brk (t41=28) ((dw [28,1018,1001]).bind λd120=>U (an d120.1)) (brk (t41=14) ((dw [14,1015,1001]).bind λd128=>U (an d128.1)) (brk (t41=42) ((dw [1027,1001]).bind λd136=>U (an d136.1)) (brk (t41=1) ((dw [1,1009,1001]).bind λd144=>U (an d144.1)) (brk (t41=40) ((dw [40,1018,41,1011,1001]).bind λd152=>U (an d152.1)) (U (aE (an ()))))))))))
def E8 (T):pC (sn 2 T)=rK:=by
 funext a0
 funext a1
 funext a2
 show pC (S.step (sn 1 T)) a0 a1 a2=_;rw[Fh];rfl
noncomputable def Gl (t0:Int)(t1:Int):Option ((LI×Bool×Bool×Unit)×Unit×Unit×Unit):=brk (t0=1000) (brk (t1=5) ((dw [5,1000]).bind λd35=>U (d35.1,cW)) ((uQ t1).bind λd40=>brk (d40.1) (brk (t1=22) ((dw [22,1,1006,1002,1001]).bind λd46=>U (d46.1,cW)) (brk (t1=13) ((dw [13,1,47,1018,1001]).bind λd54=>U (d54.1,cW)) (brk (t1=18) ((dw [18,1,1028,1001]).bind λd62=>U (d62.1,cW)) (brk (t1=20) ((dw [20,1018,1027,1003,1001]).bind λd70=>U (d70.1,cW)) (brk (t1=31) ((dw [31,1018,1027,1001]).bind λd78=>U (d78.1,cW)) (brk (t1=19) ((dw [19,1,1004,1001]).bind λd86=>U (d86.1,cW)) (brk (t1=11) ((rK t1 t1 (t1=11)).bind (ep (λRT=>U (RT,cW)) λRT=>(fe).bind λd157=>U (d157.1,cW))) ((rK t1 t1 (t1=23)).bind (ep (λRT=>U (RT,cW)) λRT=>(fe).bind λd157=>U (d157.1,cW)))))))))) ((fe).bind λd157=>U (d157.1,cW)))) (brk (t0=1001) (brk (t1=5) ((dw [5,1000]).bind λd167=>U (d167.1,cW)) ((fe).bind λd172=>U (d172.1,cW))) (brk (t0=1002) (brk (t1=47) ((dw [47,1018,1023]).bind λd182=>U (d182.1,cW)) ((fe).bind λd187=>U (d187.1,cW))) (brk (t0=1003) (brk (t1=15) ((dw [15,1018,1027,1003]).bind λd197=>U (d197.1,cW)) (brk (t1=16) ((dw [16,1027]).bind λd205=>U (d205.1,cW)) ((fe).bind λd210=>U (d210.1,cW)))) (brk (t0=1004) (brk (t1=47) ((dw [47,1018,46,1018,1005,1027]).bind λd221=>U (d221.1,cW)) (brk (t1=46) ((dw [46,1,1006,21,1018,1027]).bind λd229=>U (d229.1,cW)) (brk (t1=21) ((dw [21,1018,1027]).bind λd237=>U (d237.1,cW)) ((ig).bind λd242=>U (d242.1,cW))))) (brk (t0=1005) (brk (t1=46) ((dw [46,1018]).bind λd252=>U (d252.1,cW)) ((fe).bind λd257=>U (d257.1,cW))) (brk (t0=1006) (brk (t1=46) ((dw [46,1,1006]).bind λd267=>U (d267.1,cW)) ((fe).bind λd272=>U (d272.1,cW))) (brk (t0=1007) ((jY t1).bind λd279=>brk (d279.1) ((dw [1018,1023]).bind λd282=>U (d282.1,cW)) ((fe).bind λd287=>U (d287.1,cW))) (brk (t0=1008) (brk (t1=46) ((dw [46,1]).bind λd297=>U (d297.1,cW)) ((fe).bind λd302=>U (d302.1,cW))) (brk (t0=1009) ((kG 1009 1010 t1).bind λd310=>brk (d310.1.2.1) (U ((d310.1.1,av,aq,()),cW)) (brk (d310.2.2.2.1=47) ((dw [47,1018,1023]).bind λd319=>U (d319.1,cW)) (brk (d310.2.2.2.1=46) ((dw [46,1012]).bind λd327=>U (d327.1,cW)) ((ig).bind λd332=>U (d332.1,cW))))) (brk (t0=1010) ((kG 1009 1010 t1).bind λd340=>brk (d340.1.2.1) (U ((d340.1.1,av,aq,()),cW)) ((fe).bind λd346=>U (d346.1,cW))) (brk (t0=1011) ((kG 1009 1010 t1).bind λd354=>U ((d354.1.1,d354.1.2.1,aq,()),cW)) (brk (t0=1012) (brk (t1=1) ((dw [1,1013]).bind λd365=>U (d365.1,cW)) (brk (t1=40) ((dw [40,1018,41,1014]).bind λar6=>U (ar6.1,cW)) ((ig).bind λan8=>U (an8.1,cW)))) (brk (t0=1013) ((kG 1013 1014 t1).bind λNL=>brk (NL.1.2.1) (U ((NL.1.1,av,aq,()),cW)) (brk (NL.2.2.2.1=47) ((dw [47,1018,1023]).bind λan7=>U (an7.1,cW)) (brk (NL.2.2.2.1=46) ((dw [46,1012]).bind λas8=>U (as8.1,cW)) ((ig).bind λaw7=>U (aw7.1,cW))))) (brk (t0=1014) ((kG 1013 1014 t1).bind λXn=>U ((Xn.1.1,Xn.1.2.1,aq,()),cW)) (brk (t0=1015) (brk (t1=1) ((dw [1,1016]).bind λUF=>U (UF.1,cW)) (brk (t1=40) ((dw [40,1018,41,1016]).bind λaw3=>U (aw3.1,cW)) ((ig).bind λat0=>U (at0.1,cW)))) (brk (t0=1016) ((kG 1016 1017 t1).bind λRZ=>U ((RZ.1.1,RZ.1.2.1,aq,()),cW)) (brk (t0=1017) ((kG 1016 1017 t1).bind λXo=>U ((Xo.1.1,Xo.1.2.1,av,()),cW)) (brk (t0=1018) ((jY t1).bind λau1=>brk (au1.1) ((dw [1020,1019]).bind λau5=>U (au5.1,cW)) ((ig).bind λaw9=>U (aw9.1,cW))) (brk (t0=1019) ((tj t1).bind λXM=>brk (XM.1) ((dw [t1,1020,1019]).bind λan9=>U (an9.1,cW)) ((fe).bind λaq6=>U (aq6.1,cW))) (brk (t0=1020) ((fg t1).bind λau2=>brk (au2.1) ((dw [t1,1020]).bind λUx=>U (Ux.1,cW)) (brk (t1=1) ((dw [1,1021]).bind λau7=>U (au7.1,cW)) (brk (t1=40) ((dw [40,1018,41,1021]).bind λap8=>U (ap8.1,cW)) (brk (t1=18) ((dw [18,1028]).bind λaq0=>U (aq0.1,cW)) (brk (t1=42) ((dw [42,1029,43]).bind λat5=>U (at5.1,cW)) ((jY t1).bind λav9=>brk (av9.1) ((dw [t1]).bind λXD=>U (XD.1,cW)) ((ig).bind λar5=>U (ar5.1,cW)))))))) (brk (t0=1021) ((kG 1021 1021 t1).bind λXJ=>U ((XJ.1.1,XJ.1.2.1,av,()),cW)) (brk (t0=1022) ((jY t1).bind λao6=>brk (ao6.1) ((dw [1018,1023]).bind λav6=>U (av6.1,cW)) ((fe).bind λat1=>U (at1.1,cW))) (brk (t0=1023) (brk (t1=46) ((dw [46,1018,1023]).bind λar2=>U (ar2.1,cW)) ((fe).bind λau6=>U (au6.1,cW))) (brk (t0=1028) (brk (t1=40) ((dw [40,1024,41,1027]).bind λat3=>U (at3.1,cW)) ((ig).bind λan5=>U (an5.1,cW))) (brk (t0=1024) (brk (t1=49) ((dw [49]).bind λaw4=>U (aw4.1,cW)) (brk (t1=1) ((dw [1,1025]).bind λan6=>U (an6.1,cW)) ((fe).bind λap4=>U (ap4.1,cW)))) (brk (t0=1025) (brk (t1=46) ((dw [46,1026]).bind λao8=>U (ao8.1,cW)) ((fe).bind λap3=>U (ap3.1,cW))) (brk (t0=1026) (brk (t1=1) ((dw [1,1025]).bind λau4=>U (au4.1,cW)) (brk (t1=49) ((dw [49]).bind λao0=>U (ao0.1,cW)) ((ig).bind λas3=>U (as3.1,cW)))) (brk (t0=1027) (brk (t1=42) ((dw [42,1000,43]).bind λaq4=>U (aq4.1,cW)) ((ig).bind λaw0=>U (aw0.1,cW))) (brk (t0=1029) ((jY t1).bind λas2=>brk (as2.1) ((dw [1032,1030]).bind λKb=>U (Kb.1,cW)) (brk (t1=44) ((dw [1032,1030]).bind λKb=>U (Kb.1,cW)) (brk (t1=48) ((dw [1032,1030]).bind λKb=>U (Kb.1,cW)) ((fe).bind λar7=>U (ar7.1,cW))))) (brk (t0=1030) (brk (t1=46) ((dw [46,1031]).bind λar8=>U (ar8.1,cW)) ((fe).bind λaw1=>U (aw1.1,cW))) (brk (t0=1031) ((jY t1).bind λas5=>brk (as5.1) ((dw [1032,1030]).bind λKi=>U (Ki.1,cW)) (brk (t1=44) ((dw [1032,1030]).bind λKi=>U (Ki.1,cW)) (brk (t1=48) ((dw [1032,1030]).bind λKi=>U (Ki.1,cW)) ((fe).bind λas7=>U (as7.1,cW))))) (brk (t0=1032) (brk (t1=44) ((dw [44,1018,45,47,1018]).bind λaq8=>U (aq8.1,cW)) (brk (t1=48) ((dw [48,1,47,1018]).bind λaw5=>U (aw5.1,cW)) ((jY t1).bind λap7=>brk (ap7.1) ((dw [1018]).bind λav8=>U (av8.1,cW)) ((ig).bind λaq7=>U (aq7.1,cW))))) ((ig).bind λat4=>U (at4.1,cW))))))))))))))))))))))))))))))))))
def Mq (T):oG (sn 3 T)=Gl:=by
 have Lc:dD (sn 2 T)=dw:=H4 (sn 1 T);have Hn:yb (sn 2 T)=uQ:=E7 (sn 1 T);have K7:gg (sn 2 T)=fe:=HT (sn 1 T);have K9:jG (sn 2 T)=ig:=H3 (sn 1 T);have s7:eM (sn 2 T)=fg:=wu (sn 1 T);have Hd:ij (sn 2 T)=jY:=Fp (sn 0 T);have K6:lh (sn 2 T)=kG:=Ig (sn 1 T);have F3:qw (sn 2 T)=tj:=DP (sn 0 T);have Hk:pC (sn 2 T)=rK:=E8 (sn 0 T)
 funext a0
 funext a1
 show oG (S.step (sn 2 T)) a0 a1=_;rw[MA];rw[Lc,Hn,K7,K9,s7,Hd,K6,F3,Hk];rfl
noncomputable def dr (t0:LI):Option (LI×Unit×Unit):=
 U (t0,cV)
def pL (T):dE (sn 1 T)=dr:=by
 rfl
noncomputable def pW (t0:Int)(t4:Int)(t35:Bool):Option ((LI×Bool×Unit)⊕(Unit)⊕Empty):=brk (t35) ((dr [t0]).bind λd40=>U (an (d40.1,av,()))) (brk (t4=27) ((dr [t0,108]).bind λd45=>U (an (d45.1,av,()))) (brk (t4=30) ((dr [t0,132,12,1,109,132]).bind λd50=>U (an (d50.1,av,()))) (brk (t4=28) ((dr [t0,119]).bind λd55=>U (an (d55.1,av,()))) (brk (t4=14) ((dr [t0,116]).bind λd60=>U (an (d60.1,av,()))) (brk (t4=42) ((dr [132]).bind λd64=>U (an (d64.1,av,()))) (brk (t4=1) ((dr [t0,110]).bind λd69=>U (an (d69.1,av,()))) (brk (t4=40) ((dr [t0,119,41,112]).bind λd74=>U (an (d74.1,av,()))) (U (aE (an ()))))))))))
def C0 (T):nw (sn 2 T)=pW:=by
 funext a0
 funext a1
 funext a2
 show nw (S.step (sn 1 T)) a0 a1 a2=_;rw[Dc];rfl
noncomputable def x9 (t0:Int):Option ((LI×Bool×Unit)×Unit×Unit):=brk (t0=22) ((dr [t0,1,104,103]).bind λd9=>U ((d9.1,av,()),cV)) (brk (t0=13) ((dr [t0,1,47,119]).bind λd14=>U ((d14.1,av,()),cV)) (brk (t0=18) ((dr [t0,1,133]).bind λd19=>U ((d19.1,av,()),cV)) (brk (t0=20) ((dr [t0,119,132,105]).bind λd24=>U ((d24.1,av,()),cV)) (brk (t0=31) ((dr [t0,119,132]).bind λd29=>U ((d29.1,av,()),cV)) (brk (t0=19) ((dr [t0,1,106]).bind λd34=>U ((d34.1,av,()),cV)) (brk (t0=11) ((pW t0 t0 (t0=11)).bind (ep (λov=>U (ov,cV)) λov=>U (([],aq,()),cV))) ((pW t0 t0 (t0=23)).bind (ep (λov=>U (ov,cV)) λov=>U (([],aq,()),cV)))))))))
def Il (T):uy (sn 3 T)=x9:=by
 have kW:dE (sn 2 T)=dr:=pL (sn 1 T);have EN:nw (sn 2 T)=pW:=C0 (sn 0 T)
 funext a0
 show uy (S.step (sn 2 T)) a0=_;rw[H8];rw[kW,EN];rfl
noncomputable def fN (t0:Int):Option (Bool×Unit×Unit):=brk (t0=25) (U (av,cV)) (brk (t0=50) (U (av,cV)) (brk (t0=62) (U (av,cV)) (U (I (t0=69),cV))))
def yB (T):fb (sn 1 T)=fN:=by
 funext a0
 show fb (S.step (sn 0 T)) a0=_;rw[yx];rfl
noncomputable def gY (t0:Int):Option (Bool×Unit×Unit):=brk (t0=1) (brk (t0=1) (U (av,cV)) ((fN t0).bind λd17=>U (d17.1,cV))) (brk (t0=2) (brk (t0=2) (U (av,cV)) ((fN t0).bind λd17=>U (d17.1,cV))) (brk (t0=3) (brk (t0=3) (U (av,cV)) ((fN t0).bind λd17=>U (d17.1,cV))) (brk (t0=4) (brk (t0=4) (U (av,cV)) ((fN t0).bind λd17=>U (d17.1,cV))) (brk (t0=24) (brk (t0=24) (U (av,cV)) ((fN t0).bind λd17=>U (d17.1,cV))) (brk (t0=29) (brk (t0=29) (U (av,cV)) ((fN t0).bind λd17=>U (d17.1,cV))) (brk (t0=17) (brk (t0=17) (U (av,cV)) ((fN t0).bind λd17=>U (d17.1,cV))) (brk (t0=49) (brk (t0=49) (U (av,cV)) ((fN t0).bind λd17=>U (d17.1,cV))) (brk (t0=18) (brk (t0=18) (U (av,cV)) ((fN t0).bind λd17=>U (d17.1,cV))) (brk (t0=40) (brk (t0=40) (U (av,cV)) ((fN t0).bind λd17=>U (d17.1,cV))) (brk (t0=42) (U (av,cV)) ((fN t0).bind λd17=>U (d17.1,cV))))))))))))
def qM (T):fZ (sn 2 T)=gY:=by
 have u6:fb (sn 1 T)=fN:=yB (sn 0 T)
 funext a0
 show fZ (S.step (sn 1 T)) a0=_;rw[yE];rw[u6];rfl
noncomputable def iu (t0:Int)(t1:Int)(t2:Int):Option (LI×Unit×Unit×Unit×Unit):=brk (t0=48) ((dr [t0,1,t1]).bind λd13=>U (d13.1,dR)) (brk (t0=44) ((dr [t0,119,45,t1]).bind λd19=>U (d19.1,dR)) (brk (t0=40) ((dr [t0,123,41,t2]).bind λd25=>U (d25.1,dR)) (U ([],dR))))
def yG (T):iD (sn 2 T)=iu:=by
 funext a0
 funext a1
 funext a2
 show iD (S.step (sn 1 T)) a0 a1 a2=_;rw[Fb];rfl
noncomputable def mB (t0:Int)(t1:Int)(t6:LI)(t9:Int)(t10:Bool):Option ((Int×Int×LI×Unit)⊕Empty):=brk (t10) ((iu t1 110 111).bind λd15=>U (an (t0,t1,d15.1,()))) (brk (t9=114) (brk (t9=114) ((iu t1 114 115).bind λd20=>U (an (t0,t1,d20.1,()))) (brk (t9=117) (brk (t9=117) ((iu t1 117 118).bind λd25=>U (an (t0,t1,d25.1,()))) (U (an (t0,t1,t6,())))) (brk (t9=118) ((iu t1 117 118).bind λd25=>U (an (t0,t1,d25.1,()))) (U (an (t0,t1,t6,())))))) (brk (t9=115) ((iu t1 114 115).bind λd20=>U (an (t0,t1,d20.1,()))) (brk (t9=117) (brk (t9=117) ((iu t1 117 118).bind λd25=>U (an (t0,t1,d25.1,()))) (U (an (t0,t1,t6,())))) (brk (t9=118) ((iu t1 117 118).bind λd25=>U (an (t0,t1,d25.1,()))) (U (an (t0,t1,t6,())))))))
def AE (T):kL (sn 3 T)=mB:=by
 have uZ:iD (sn 2 T)=iu:=yG (sn 0 T)
 funext a0
 funext a1
 funext a2
 funext a3
 funext a4
 show kL (S.step (sn 2 T)) a0 a1 a2 a3 a4=_;rw[AN];rw[uZ];rfl
noncomputable def lN (t0:Int)(t1:Int):Option ((LI×Bool×Unit)⊕Empty):=brk (t0=113) (brk (t0=116) (brk (t1=1) ((dr [t1,117]).bind λd65=>U (an (d65.1,av,()))) (brk (t1=40) ((dr [t1,119,41,117]).bind λd71=>U (an (d71.1,av,()))) (U (an ([],aq,()))))) (brk (t1=1) ((dr [t1,114]).bind λd65=>U (an (d65.1,av,()))) (brk (t1=40) ((dr [t1,119,41,115]).bind λd71=>U (an (d71.1,av,()))) (U (an ([],aq,())))))) (brk (t0=116) (brk (t0=116) (brk (t1=1) ((dr [t1,117]).bind λd65=>U (an (d65.1,av,()))) (brk (t1=40) ((dr [t1,119,41,117]).bind λd71=>U (an (d71.1,av,()))) (U (an ([],aq,()))))) (brk (t1=1) ((dr [t1,114]).bind λd65=>U (an (d65.1,av,()))) (brk (t1=40) ((dr [t1,119,41,115]).bind λd71=>U (an (d71.1,av,()))) (U (an ([],aq,())))))) (U (an ([],aq,()))))
def Ah (T):j4 (sn 2 T)=lN:=by
 funext a0
 funext a1
 show j4 (S.step (sn 1 T)) a0 a1=_;rw[Ao];rfl
noncomputable def lM (t0:Int)(t1:Int)(t6:LI):Option ((LI×Bool×Unit)⊕Empty):=brk (0<(t6.length:Int)) (U (an (t6,av,()))) (brk (t0=111) (U (an ([],av,()))) (brk (t0=118) (U (an ([],av,()))) (brk (t0=110) (brk (t1=46) ((dr [t1,113]).bind λd46=>U (an (d46.1,av,()))) (brk (t1=47) ((dr [t1,124]).bind λd51=>U (an (d51.1,av,()))) ((lN t0 t1).bind (dH λNO=>U (an NO))))) (brk (t0=114) (brk (t1=46) ((dr [t1,113]).bind λd46=>U (an (d46.1,av,()))) (brk (t1=47) ((dr [t1,124]).bind λd51=>U (an (d51.1,av,()))) ((lN t0 t1).bind (dH λNO=>U (an NO))))) ((lN t0 t1).bind (dH λNO=>U (an NO)))))))
def Aq (T):j2 (sn 3 T)=lM:=by
 have kW:dE (sn 2 T)=dr:=pL (sn 1 T);have BK:j4 (sn 2 T)=lN:=Ah (sn 0 T)
 funext a0
 funext a1
 funext a2
 show j2 (S.step (sn 2 T)) a0 a1 a2=_;rw[As];rw[kW,BK];rfl
noncomputable def ti (t0:Int)(t1:Int):Option ((LI×Bool×Unit)×Unit×Unit×Unit):=brk (t0=110) ((mB t0 t1 [] t0 (t0=110)).bind (dH λy6=>(lM y6.1 y6.2.1 y6.2.2.1).bind (dH λpA=>U (pA,cW)))) (brk (t0=111) ((mB t0 t1 [] t0 (t0=111)).bind (dH λy6=>(lM y6.1 y6.2.1 y6.2.2.1).bind (dH λpA=>U (pA,cW)))) ((mB t0 t1 [] t0 (t0=112)).bind (dH λy6=>(lM y6.1 y6.2.1 y6.2.2.1).bind (dH λpA=>U (pA,cW)))))
def DE (T):qt (sn 4 T)=ti:=by
 have Cu:kL (sn 3 T)=mB:=AE (sn 0 T);have BL:j2 (sn 3 T)=lM:=Aq (sn 0 T)
 funext a0
 funext a1
 show qt (S.step (sn 3 T)) a0 a1=_;rw[DQ];rw[Cu,BL];rfl
noncomputable def fX (t0:Int)(t1:Int)(t93:Bool):Option ((LI×Bool×Unit)⊕(kE.den)⊕Empty):=brk (t93) ((ti t0 t1).bind λd105=>U (an d105.1)) (U (aE (an (t0,t1,()))))
def AP (T):fJ (sn 5 T)=fX:=by
 have F1:qt (sn 4 T)=ti:=DE (sn 0 T)
 funext a0
 funext a1
 funext a2
 show fJ (S.step (sn 4 T)) a0 a1 a2=_;rw[AU];rw[F1];rfl
noncomputable def yg (t0:Int):Option ((LI×Bool×Unit)×Unit×Unit):=(fN t0).bind λd5=>brk (d5.1) ((dr [t0,120]).bind λd8=>U ((d8.1,av,()),cV)) (brk (t0=1) ((dr [t0,122]).bind λd14=>U ((d14.1,av,()),cV)) (brk (t0=40) ((dr [t0,119,41,122]).bind λd19=>U ((d19.1,av,()),cV)) (brk (t0=42) ((dr [t0,129,43]).bind λd24=>U ((d24.1,av,()),cV)) (brk (t0=18) ((dr [t0,133]).bind λd29=>U ((d29.1,av,()),cV)) ((dr [t0]).bind λd32=>(gY t0).bind λd34=>U ((d32.1,d34.1,()),cV))))))
def H5 (T):uu (sn 3 T)=yg:=by
 have kW:dE (sn 2 T)=dr:=pL (sn 1 T);have u6:fb (sn 2 T)=fN:=yB (sn 1 T);have mz:fZ (sn 2 T)=gY:=qM (sn 0 T)
 funext a0
 show uu (S.step (sn 2 T)) a0=_;rw[HZ];rw[kW,u6,mz];rfl
noncomputable def wW (t0:Int):Option (Bool×Unit×Unit):=brk (t0=10) (U (av,cV)) (brk (t0=26) (U (av,cV)) (U (I (60<t0),cV)))
def GS (T):nQ (sn 1 T)=wW:=by
 funext a0
 show nQ (S.step (sn 0 T)) a0=_;rw[zX];rfl
noncomputable def nH (t0:Int)(t1:Int)(t6:Int)(t49:Bool):Option ((LI×Bool×Unit)⊕(Int×Unit)⊕Empty):=brk (t49) (brk (t1=1) ((dr [t1,127]).bind λd56=>U (an (d56.1,av,()))) (brk (t1=49) ((dr [t1]).bind λd61=>U (an (d61.1,av,()))) (U (an ([],I (t0=126),()))))) (brk (t6=127) (brk (t1=46) ((dr [t1,128]).bind λd70=>U (an (d70.1,av,()))) (U (an ([],av,())))) (brk (t6=129) ((gY t1).bind λd74=>brk (d74.1) ((dr [131,130]).bind λd84=>U (an (d84.1,av,()))) (brk (t1=48) ((dr [131,130]).bind λd84=>U (an (d84.1,av,()))) (brk (t1=44) ((dr [131,130]).bind λd84=>U (an (d84.1,av,()))) (U (an ([],av,())))))) (brk (t6=130) (brk (t1=46) ((dr [t1,129]).bind λd91=>U (an (d91.1,av,()))) (U (an ([],av,())))) (brk (t6=131) (brk (t1=48) ((dr [t1,1,47,119]).bind λd98=>U (an (d98.1,av,()))) (brk (t1=44) ((dr [t1,119,45,47,119]).bind λd103=>U (an (d103.1,av,()))) ((dr [119]).bind λd105=>(gY t1).bind λd107=>U (an (d105.1,d107.1,()))))) (brk (t6=132) ((dr [42,100,43]).bind λd111=>U (an (d111.1,I (t1=42),()))) (U (aE (an (t1,())))))))))
def At (T):ly (sn 3 T)=nH:=by
 have kW:dE (sn 2 T)=dr:=pL (sn 1 T);have mz:fZ (sn 2 T)=gY:=qM (sn 0 T)
 funext a0
 funext a1
 funext a2
 funext a3
 show ly (S.step (sn 2 T)) a0 a1 a2 a3=_;rw[Ak];rw[kW,mz];rfl
noncomputable def tu (t0:Int)(t1:Int):Option ((LI×Bool×Unit)×Unit×Unit×Unit):=brk (t0=119) ((dr [120,121]).bind λd10=>(gY t1).bind λd12=>U ((d10.1,d12.1,()),cW)) (brk (t0=120) ((yg t1).bind λd16=>U (d16.1,cW)) (brk (t0=121) ((wW t1).bind λd22=>brk (d22.1) ((dr [t1,119]).bind λd25=>U ((d25.1,av,()),cW)) (U (([],av,()),cW))) (brk (t0=122) ((iu t1 122 122).bind λd29=>U ((d29.1,av,()),cW)) (brk (t0=123) ((gY t1).bind λd33=>brk (d33.1) ((dr [124]).bind λd35=>U ((d35.1,av,()),cW)) (U (([],av,()),cW))) (brk (t0=124) ((dr [119,125]).bind λd39=>(gY t1).bind λd41=>U ((d39.1,d41.1,()),cW)) (brk (t0=125) (brk (t1=46) ((dr [t1,119,125]).bind λd48=>U ((d48.1,av,()),cW)) (U (([],av,()),cW))) (brk (t0=126) ((nH t0 t1 t0 (t0=126)).bind (ep (λzS=>U (zS,cW)) λzS=>(dr [40,126,41,132]).bind λd115=>U ((d115.1,I (zS.1=40),()),cW))) ((nH t0 t1 t0 (t0=128)).bind (ep (λzS=>U (zS,cW)) λzS=>(dr [40,126,41,132]).bind λd115=>U ((d115.1,I (zS.1=40),()),cW))))))))))
def DD (T):qp (sn 4 T)=tu:=by
 have kW:dE (sn 3 T)=dr:=pL (sn 2 T);have mz:fZ (sn 3 T)=gY:=qM (sn 1 T);have uZ:iD (sn 3 T)=iu:=yG (sn 1 T);have Lh:uu (sn 3 T)=yg:=H5 (sn 0 T);have Kf:nQ (sn 3 T)=wW:=GS (sn 2 T);have BJ:ly (sn 3 T)=nH:=At (sn 0 T)
 funext a0
 funext a1
 show qp (S.step (sn 3 T)) a0 a1=_;rw[DT];rw[kW,mz,uZ,Lh,Kf,BJ];rfl
noncomputable def fW (t0:Int)(t1:Int):Option ((LI×Bool×Unit)⊕Empty):=
 (tu t0 t1).bind λd110=>
 U (an d110.1)
def AR (T):fH (sn 5 T)=fW:=by
 have F2:qp (sn 4 T)=tu:=DD (sn 0 T)
 funext a0
 funext a1
 show fH (S.step (sn 4 T)) a0 a1=_;rw[AS];rw[F2];rfl
noncomputable def zV (t0:Int)(t1:Int):Option ((LI×Bool×Unit)×Unit×Unit×Unit):=brk (t0=100) (brk (t1=5) ((dr [t1,100]).bind λd15=>U ((d15.1,av,()),cW)) ((x9 t1).bind λd18=>brk (d18.1.2.1) (brk (fits (d18.1.1.length+1)) (U ((d18.1.1++[101],av,()),cW)) az) (U (([],av,()),cW)))) (brk (t0=101) (brk (t1=5) ((dr [t1,100]).bind λd31=>U ((d31.1,av,()),cW)) (U (([],av,()),cW))) (brk (t0=103) (brk (t1=47) ((dr [t1,124]).bind λd38=>U ((d38.1,av,()),cW)) (U (([],av,()),cW))) (brk (t0=104) (brk (t1=46) ((dr [t1,1,104]).bind λd45=>U ((d45.1,av,()),cW)) (U (([],av,()),cW))) (brk (t0=105) (brk (t1=15) ((dr [t1,119,132,105]).bind λd52=>U ((d52.1,av,()),cW)) (brk (t1=16) ((dr [t1,132]).bind λd57=>U ((d57.1,av,()),cW)) (U (([],av,()),cW)))) (brk (t0=106) (brk (t1=47) ((dr [t1,119,46,119,107,132]).bind λd64=>U ((d64.1,av,()),cW)) ((dr [104,21,119,132]).bind λd66=>brk (t1=46) (U ((d66.1,av,()),cW)) (U ((d66.1,I (t1=21),()),cW)))) (brk (t0=107) (brk (t1=46) ((dr [t1,119]).bind λd79=>U ((d79.1,av,()),cW)) (U (([],av,()),cW))) (brk (t0=108) ((gY t1).bind λd83=>brk (d83.1) ((dr [124]).bind λd85=>U ((d85.1,av,()),cW)) (U (([],av,()),cW))) (brk (t0=109) (brk (t1=46) ((dr [t1,1]).bind λd92=>U ((d92.1,av,()),cW)) (U (([],av,()),cW))) (brk (t0=110) ((fX t0 t1 (t0=110)).bind (ep (λn8=>U (n8,cW)) λn8=>(fW n8.1 n8.2.1).bind (dH λBN=>U (BN,cW)))) (brk (t0=111) ((fX t0 t1 (t0=111)).bind (ep (λn8=>U (n8,cW)) λn8=>(fW n8.1 n8.2.1).bind (dH λBN=>U (BN,cW)))) (brk (t0=112) ((fX t0 t1 (t0=112)).bind (ep (λn8=>U (n8,cW)) λn8=>(fW n8.1 n8.2.1).bind (dH λBN=>U (BN,cW)))) (brk (t0=113) ((fX t0 t1 (t0=113)).bind (ep (λn8=>U (n8,cW)) λn8=>(fW n8.1 n8.2.1).bind (dH λBN=>U (BN,cW)))) (brk (t0=114) ((fX t0 t1 (t0=114)).bind (ep (λn8=>U (n8,cW)) λn8=>(fW n8.1 n8.2.1).bind (dH λBN=>U (BN,cW)))) (brk (t0=115) ((fX t0 t1 (t0=115)).bind (ep (λn8=>U (n8,cW)) λn8=>(fW n8.1 n8.2.1).bind (dH λBN=>U (BN,cW)))) (brk (t0=116) ((fX t0 t1 (t0=116)).bind (ep (λn8=>U (n8,cW)) λn8=>(fW n8.1 n8.2.1).bind (dH λBN=>U (BN,cW)))) (brk (t0=117) ((fX t0 t1 (t0=117)).bind (ep (λn8=>U (n8,cW)) λn8=>(fW n8.1 n8.2.1).bind (dH λBN=>U (BN,cW)))) ((fX t0 t1 (t0=118)).bind (ep (λn8=>U (n8,cW)) λn8=>(fW n8.1 n8.2.1).bind (dH λBN=>U (BN,cW))))))))))))))))))))
def Fj (T):mO (sn 6 T)=zV:=by
 have kW:dE (sn 5 T)=dr:=pL (sn 4 T);have K4:uy (sn 5 T)=x9:=Il (sn 2 T);have mz:fZ (sn 5 T)=gY:=qM (sn 3 T);have Cw:fJ (sn 5 T)=fX:=AP (sn 0 T);have Ct:fH (sn 5 T)=fW:=AR (sn 0 T)
 funext a0
 funext a1
 show mO (S.step (sn 5 T)) a0 a1=_;rw[Fv];rw[kW,K4,mz,Cw,Ct];rfl
noncomputable abbrev RI (s:Int):Bool:=kinds.all λk=>I (Gl s k=U (((jf s k).1,(jf s k).2.1,(jf s k).2.2,()),cW))
noncomputable abbrev RS (s:Int):Bool:=kinds.all λk=>I (zV s k=U (((s9 s k).1,(s9 s k).2,()),cW))
theorem aR0:(allI.all RI)=true:=by kernel_rfl
theorem aS9:(BE.all RS)=true:=by kernel_rfl
def ag5 (T) {s:Int}(h:s∈allI):(kinds.all λk=>I (oG (sn 3 T) s k=U (((jf s k).1,(jf s k).2.1,(jf s k).2.2,()),cW)))=true:=by
 rw[Mq]
 grind [aK,aR0]
def ai4 (T) {s:Int}(h:s∈BE):(kinds.all λk=>I (mO (sn 6 T) s k=U (((s9 s k).1,(s9 s k).2,()),cW)))=true:=by
 rw[Fj]
 grind [aK,aS9]
end Go.Abs.D
end

section
namespace Go.Abs.D
def Hw:Evt λn=>∀s k:Int,s∈allI->0<=k->k<=78->oG (S.tab n) s k=U (((jf s k).1,(jf s k).2.1,(jf s k).2.2,()),cW):=by
 have h:Evt λn=>∀s k:Int,s∈allI->0<=k->k<=78->oG (S.tab (n+3)) s k=U (((jf s k).1,(jf s k).2.1,(jf s k).2.2,()),cW):=Evt.of λn s k hs h0 h1=>
  of_decide_eq_true (aK.1 (ag5 (S.tab n) hs) k (mC h0 h1))
 obtain⟨N,h⟩:=h
 exact⟨N+3,λn hn=>by
  have e:n - 3+3=n:=(by omega);rw[<-e]
  grind⟩
def LF:Evt λn=>∀s k:Int,s∈BE->0<=k->k<=78->mO (S.tab n) s k=U (((s9 s k).1,(s9 s k).2,()),cW):=by
 have h:Evt λn=>∀s k:Int,s∈BE->0<=k->k<=78->mO (S.tab (n+6)) s k=U (((s9 s k).1,(s9 s k).2,()),cW):=Evt.of λn s k hs h0 h1=>
  of_decide_eq_true (aK.1 (ai4 (S.tab n) hs) k (mC h0 h1))
 obtain⟨N,h⟩:=h
 exact⟨N+6,λn hn=>by
  have e:n - 6+6=n:=(by omega);rw[<-e]
  grind⟩
def isEmpty_cons (s) (r:LI):(!(s::r).isEmpty)=true:=rfl
def SZ (k) (row) (NN:row.length<=100):∀(m:Nat) st,m<=row.length->Evt λn=>pE (S.tab n) st k row (m - 1)=U (an (row.take m++st,k,()))
 |0,st,_=>dF.up λn _=>by
  simp_all[yD,dz]
 |m+1,st,hm=>by
  have To:m<row.length:=(by omega);have ih:=SZ k row NN m (row[m]::st) (by omega);have e0:((m+1:Nat)) - 1=(m:Int):=(by omega)
  have hg:row.getD (m:Int).toNat 0=row[m]:=by simp_all
  refine ih.up λn ih=> ?_
  rw[e0,yD,c8 (by rfl),c8 (dm To),hg,wrap64 _ (by omega) (by omega),ih,cP To,aC];rfl
def QS (hs:s∈allI)(h0:0<=k)(h1:k<=78) (r) {X:(LI×Unit)⊕Unit⊕Empty}(hlen:(jf s k).1.length<=100)
  (hy:(jf s k).2.1=av->Evt λn=>iq (S.tab n) ((jf s k).1++r) k=U X)
  (he:(jf s k).2.1=aq->(jf s k).2.2=av->Evt λn=>iq (S.tab n) r k=U X)
  (hn:(jf s k).2.1=aq->(jf s k).2.2=aq->X=an ([],())):Evt λn=>iq (S.tab n) (s::r) k=U X:=by
 have La:1000<=s:=by
  unfold allI at hs
  grind
 have start:∀n,(∀s k:Int,s∈allI->0<=k->k<=78->oG (S.tab n) s k=U (((jf s k).1,(jf s k).2.1,(jf s k).2.2,()),cW))->iq (S.step (S.tab n)) (s::r) k=brk (jf s k).2.1 ((pE (S.tab n) r k (jf s k).1 (ar.wrap (((jf s k).1.length) - 1))).bind (dH λpA=>iq (S.tab n) pA.1 pA.2.1)) (brk (jf s k).2.2 (iq (S.tab n) r k) (U (an ([],())))):=λn hr=>by
  rw[uR,c8 (isEmpty_cons s r),c8 (isEmpty_cons s r),c8 (isEmpty_cons s r),dz (by simp_all),c8 (isEmpty_cons s r),c8 (isEmpty_cons s r)];show(oG (S.tab n) s k).bind _=_;simp_all[al,c8,isEmpty_cons,brk]
 cases c1:(jf s k).2.1 with
 |true=>
  refine((Hw.and (hy c1)).and (SZ k (jf s k).1 hlen (jf s k).1.length r (aF _))).up λn ⟨⟨hr,hX⟩,hp⟩=> ?_
  rw[start n hr,c8 c1,wrap64 _ (by omega) (by omega)];show(pE (S.tab n) r k (jf s k).1 (((jf s k).1.length) - 1)).bind _=_;rw[hp,al,cy];exact hX
 |false=>
  cases c2:(jf s k).2.2 with
  |true=>
   refine(Hw.and (he c1 c2)).up λn ⟨hr,hX⟩=> ?_
   simp_all[start,dz,c8]
  |false=>
   refine Hw.up λn hr=> ?_
   simp_all[start,dz]
end Go.Abs.D
end

section
namespace Go.Abs.D
def RO:Nat->LI->Int->Bool
 |0,_,_=>aq
 |_+1,[],_=>av
 |n+1,s::r,k=>bif(s<1000)then av else bif(jf s k).2.1 then RO n ((jf s k).1++r) k else bif(jf s k).2.2 then RO n r k else av
def Xi (s:Int):Bool:=(0<=s&&s<=78)||allI.contains s
theorem Vk:(allI.all λs=>kinds.all λk=>RO 9 [s] k)=true:=by kernel_rfl
def aC6:(allI.all λs=>kinds.all λk=>(jf s k).1.all Xi&&(jf s k).1.length<=100)=true:=by kernel_rfl
def MV (h:Xi s=av):okI s:=by
 unfold Xi at h;simp at h;exact h
def Yl (hs:s∈allI)(h0:0<=k)(h1:k<=78):(∀x∈(jf s k).1,okI x)/\(jf s k).1.length<=100:=by
 have:=aK.1 (aK.1 aC6 s hs) k (mC h0 h1);simp_all[aA,ad,MV,aK]
def Z5 (o:Out)(c:LI):(LI×Unit)⊕Unit⊕Empty:=match o with
 | .no=>an ([],())
 | .gone=>an ([],())
 | .left l=>an (l++c,())
def U5 (h:s<1000)(r:LI)(hr:r≠[]):Evt λn=>iq (S.tab n) (s::r) k=U (bif(s=k)then an (r,())else an ([],())):=dF.up λn _=>by
 rw[uR,c8 (isEmpty_cons s r),c8 (isEmpty_cons s r),c8 (isEmpty_cons s r),c8 (by simp_all),c8 (isEmpty_cons s r),c8 (isEmpty_cons s r)];show brk (s=k) _ _=_
 by_cases e:s=k
 ·rw[dn e,ab e,c8 (isEmpty_cons s r),c8 (isEmpty_cons s r)];show brk r.isEmpty _ _=_;rw[dz (by simp_all),c8 (isEmpty_cons s r),c8 (isEmpty_cons s r)];rfl
 simp_all[dz,aa]
def Jx (h0:0<=k)(h1:k<=78){c:LI}(hc:c≠[]){X:(LI×Unit)⊕Unit⊕Empty}:∀f l,(∀s∈l,okI s)->RO f l k=av->
  (∀l',xm f l k= .left l'->X=an (l'++c,()))->(xm f l k= .no->X=an ([],()))->(xm f l k= .gone->Evt λn=>iq (S.tab n) c k=U X)->Evt λn=>iq (S.tab n) (l++c) k=U X
 |0,l,_,ht,_,_,_=>by cases ht
 |f+1,[],_,_,_,_,hg=>hg rfl
 |f+1,s::r,hs,ht,hl,hn,hg=>by
  have CY:∀x∈r,okI x:=λx hx=>hs x (aB _ hx)
  unfold RO at ht;unfold xm at hl hn hg
  by_cases mL:s<1000
  ·have:=U5 (k:=k) mL (r++c) (by simp[hc])
   grind
  ·rw[aa mL]at ht hl hn hg
   have a99:s∈allI:=by
    rcases hs s (aD ..)with h|h
    all_goals omega
   obtain⟨ro,rl⟩:=Yl a99 h0 h1;refine QS a99 h0 h1 (r++c) rl (λe=> ?_) (λe e2=> ?_) (λe e2=> ?_)
   ·rw[e]at ht hl hn hg;rw[<-aC];exact Jx h0 h1 hc f ((jf s k).1++r) (λx hx=>(aP.1 hx).elim (ro x) (CY x)) ht hl hn hg
   ·rw[e,e2]at ht hl hn hg;exact Jx h0 h1 hc f r CY ht hl hn hg
   simp_all
end Go.Abs.D
end

section
namespace Go.Abs.D
def Yc (h:k≠6):Evt λn=>iq (S.tab n) [6] k=U (an ([],())):=dF.up λn _=>by
 rw[uR,c8 (isEmpty_cons 6 []),c8 (isEmpty_cons 6 []),c8 (isEmpty_cons 6 []),c8 (by rfl),c8 (isEmpty_cons 6 []),c8 (isEmpty_cons 6 [])]
 grind [brk,decide,dz,aa]
def aT6 (hs:okI s)(h0:0<=k)(h1:k<=78):RO 9 [s] k=true:=by
 rcases hs with⟨_,h⟩|h
 all_goals grind [RO,ab,aK,Vk,mC]
def OC (h0:0<=k)(h1:k<=78)(h6:k≠6):∀a:LI,(∀s∈a,okI s)->Evt λn=>iq (S.tab n) (a++[6]) k=U (Z5 (kV a k) [6])
 |[],_=>Yc h6
 |s::r,hs=>by
  have hr:∀x∈r,okI x:=λx hx=>hs x (aB _ hx)
  have ih:=OC h0 h1 h6 r hr;have ax9:=hs s (aD ..)
  have e2:kV (s::r) k=(stI s k).then r (kV r k):=ky stI s r k
  have run:=Jx (k:=k) h0 h1 (c:=r++[6]) (by simp) (X:=Z5 ((stI s k).then r (kV r k)) [6]) 9 [s] (λx hx=>by
   simp_all) (aT6 ax9 h0 h1) (λl' e=> ?_) (λe=> ?_) (λe=> ?_)
  ·grind
  ·have e:stI s k= .left l':=e;rw[e];show an ((l'++r)++[6],())=an (l'++(r++[6]),());simp
  ·have e:stI s k= .no:=e;rw[e];rfl
  ·have e:stI s k= .gone:=e;rw[e];exact ih
def step_ok (h0:0<=k)(h1:k<=78)(h6:k≠6) (a) (ha:∀s∈a,okI s):Evt λn=>tC (S.tab n) (a++[6]) k=U (match kV a k with| .left l=>l++[6]|_=>[],cW):=
 (OC h0 h1 h6 a ha).up λn h=>by
  rw[Mu,h,al];cases kV a k<;>rfl
end Go.Abs.D
end

section
namespace Go.Abs.D
def isLeft:Out->Bool
 | .left _=>av
 |_=>aq
def Ny:Out->Bool
 | .gone=>av
 |_=>aq
def aT2:(allI.all λs=>kinds.all λk=>bif(jf s k).2.1 then isLeft (xm 9 [s] k)else bif(jf s k).2.2 then Ny (xm 9 [s] k)else(xm 9 [s] k= .no))=true:=by kernel_rfl
def Au (o:Out)(d:Bool):Bool:=match o with
 | .no=>aq
 | .gone=>d
 | .left _=>av
def S9 (h0:0<=k)(h1:k<=78):∀a:LI,(∀s∈a,okI s)->Evt λn=>uw (S.tab n) (a++[6]) k=U (an (Au (kV a k) (6=k),()))
 |[],_=>dF.up λn _=>by
  show uw (S.step (S.tab n)) [6] _=_;rw[wY,c8 (isEmpty_cons 6 []),c8 (isEmpty_cons 6 []),c8 (isEmpty_cons 6 []),c8 (by rfl),c8 (isEmpty_cons 6 []),c8 (isEmpty_cons 6 [])];rfl
 |s::r,hs=>by
  have hr:∀x∈r,okI x:=λx hx=>hs x (aB _ hx)
  have ih:=S9 h0 h1 r hr
  have e2:kV (s::r) k=(stI s k).then r (kV r k):=ky stI s r k
  rw[e2,List.cons_append]
  rcases hs s (aD ..)with h|h
  ·refine dF.up λn _=> ?_
   rw[wY,c8 (isEmpty_cons s (r++[6])),c8 (isEmpty_cons s (r++[6])),c8 (isEmpty_cons s (r++[6])),c8 (by grind),c8 (isEmpty_cons s (r++[6])),c8 (isEmpty_cons s (r++[6])),xQ h.2];show U (an (I (s=k),()))=_;cases I (s=k)<;>rfl
  ·have y:=aK.1 (aK.1 aT2 s h) k (mC h0 h1)
   have La:1000<=s:=by
    unfold allI at h
    grind
   refine(ih.and Hw).up λn ⟨ih,aM2⟩=> ?_
   rw[wY,c8 (isEmpty_cons s (r++[6])),c8 (isEmpty_cons s (r++[6])),c8 (isEmpty_cons s (r++[6])),dz (by simp_all),c8 (isEmpty_cons s (r++[6])),c8 (isEmpty_cons s (r++[6]))];show(oG (S.tab n) s k).bind _=_;rw[aM2 s k h h0 h1,al];have e9:stI s k=xm 9 [s] k:=rfl;rw[e9]
   cases c1:(jf s k).2.1 with
   |true=>
    rw[c1]at y;rw[c8 (by rfl)]
    cases ho:xm 9 [s] k with
    |left l=>rfl
    |no=>rw[ho]at y;cases y
    |gone=>rw[ho]at y;cases y
   |false=>
    rw[c1]at y
    cases c2:(jf s k).2.2 with
    |true=>
     rw[c2]at y;rw[dz (by rfl),dz (by rfl),c8 (isEmpty_cons s (r++[6])),c8 (isEmpty_cons s (r++[6]))]
     cases ho:xm 9 [s] k with
     |gone=>exact ih
     |no=>rw[ho]at y;cases y
     |left l=>rw[ho]at y;cases y
    |false=>
     rw[dz (by rfl),c8 (by rfl)]
     cases ho:xm 9 [s] k with
     |no=>rfl
     |gone=>simp_all
     |left l=>simp_all
def JQ (h0:0<=k)(h1:k<=78) (a) (ha:∀s∈a,okI s):Evt λn=>nY (S.tab n) (a++[6]) k=U (Au (kV a k) (6=k),cW):=
 (S9 h0 h1 a ha).up λn h=>by
  rw[N6,h];rfl
end Go.Abs.D
end

section
namespace Go.Abs.D
abbrev Cls:Type:=List kE.den
def Reads (cs:Cls):Int->LI->Prop
 |top,[]=>top= -1
 |top,s::l=>∃(i:Nat) (b:Int),top=i/\cs[i]?=U (s,b,())/\Reads cs b l
theorem Reads.mono:∀{l:LI}{top:Int},Reads cs top l->Reads (cs++ds) top l
 |[],_,h=>h
 |s::l,_,⟨i,b,e,h,hr⟩=>⟨i,b,e,by
   grind,hr.mono⟩
def Reads.push (h:Reads cs top l) (s):Reads (cs++[(s,top,())]) cs.length (s::l):=
 ⟨cs.length,top,rfl,by simp,h.mono⟩
def Jc (cs:Cls)(hl:cs.length<=2000000) (top s):Evt λn=>pD (S.tab n) (cs,()) top s=U ((cs.length:Int),(cs++[(s,top,())],()),(),(),()):=dF.up λn _=>by
 grind [Fo,c8,fU,lim,wrap64]
end Go.Abs.D
end

section
namespace Go.Abs.D
def Ll (k) (row:LI)(NN:row.length<=100):∀m cs top l,m<=row.length->Reads cs top l->cs.length+m<=2000000->
  ∃(ds:Cls) (oq:Int),ds.length=m/\Reads (cs++ds) oq (row.take m++l)/\Evt λn=>nN (S.tab n) (cs,()) top k row (m - 1)=U (an ((cs++ds,()),oq,k,()))
 |0,cs,top,l,hm,hr,_=>⟨[],top,rfl,by simp_all,dF.up λn _=>by
  simp_all[uf,dz,aQ]⟩
 |m+1,cs,top,l,hm,hr,hl=>by
  have To:m<row.length:=(by omega);obtain⟨ds,oq,hd,hR,hE⟩:=Ll k row NN m (cs++[(row[m],top,())]) cs.length (row[m]::l) (by omega) (hr.push row[m]) (by grind);have e0:((m+1:Nat)) - 1=(m:Int):=(by omega)
  have hg:row.getD (m:Int).toNat 0=row[m]:=by simp_all
  refine⟨(row[m],top,())::ds,oq,by grind, ?_, ?_⟩
  ·grind [aC,cP]
  ·refine(hE.and (Jc cs (by omega) top row[m])).up λn ⟨h,hp⟩=> ?_
   rw[e0,uf,c8 (by rfl),c8 (dm To),hg,hp,al,wrap64 _ (by omega) (by omega)];simp_all
def Uq:Nat->LI->Int->Bool
 |0,_,_=>aq
 |_+1,[],_=>av
 |n+1,s::r,k=>bif(s<100)then av else bif(s9 s k).2 then Uq n ((s9 s k).1++r) k else av
def KZ:Nat->LI->Int->Nat
 |0,_,_=>0
 |_+1,[],_=>0
 |n+1,s::r,k=>bif(s<100)then 0 else bif(s9 s k).2 then(s9 s k).1.length+KZ n ((s9 s k).1++r) k else 0
def Y5 (s:Int):Bool:=(0<=s&&s<=78)||BE.contains s
def V4:(BE.all λs=>kinds.all λk=>Uq 9 [s] k)=true:=by kernel_rfl
def Vh:(BE.all λs=>kinds.all λk=>I (KZ 9 [s] k<=20)&&(bif(Av 9 [s] k= .gone)then(KZ 9 [s] k=0)else av))=true:=by kernel_rfl
def az3:(BE.all λs=>kinds.all λk=>(s9 s k).1.all Y5&&(s9 s k).1.length<=100)=true:=by kernel_rfl
def Sh (h:Y5 s=av):okS s:=by
 unfold Y5 at h;simp at h;exact h
def Vn (hs:s∈BE)(h0:0<=k)(h1:k<=78):(∀x∈(s9 s k).1,okS x)/\(s9 s k).1.length<=100:=by
 have:=aK.1 (aK.1 az3 s hs) k (mC h0 h1);simp_all[aA,ad,Sh,aK]
def Pd (h:Reads cs top (s::r)):I (0<=top)=av/\(0<=top&&top<cs.length)=av/\∃b:Int,at_ (τ:=kE) cs top=(s,b,())/\Reads cs b r:=by
 obtain⟨i,b,rfl,hi,hr⟩:=h
 grind [cr,dm,at_,bm]
def Th (cs:Cls)(top k:Int)(y:(List kE.den×Unit)×Int×Bool×Unit):Prop:=Evt λn=>iB (S.tab n) (cs,()) top k=U (an y)
def OW (h0:0<=k)(h1:k<=78){c:LI}:∀f l cs top,(∀s∈l,okS s)->Uq f l k=av->Reads cs top (l++c)->cs.length+KZ f l k<=2000000->
  ∃ds:Cls,ds.length<=KZ f l k/\
   (∀l',Av f l k= .left l'->∃oq,Reads (cs++ds) oq (l'++c)/\Th cs top k ((cs++ds,()),oq,av,()))/\
   (Av f l k= .no->∃oq,Th cs top k ((cs++ds,()),oq,aq,()))/\
   (Av f l k= .gone->∃oq,Reads (cs++ds) oq c/\∀X,(Evt λn=>iB (S.tab n) (cs++ds,()) oq k=U X)->Evt λn=>iB (S.tab n) (cs,()) top k=U X)
 |0,l,_,_,_,ht,_,_=>by cases ht
 |f+1,[],cs,top,_,_,hr,_=>⟨[],aU _,λ_ e=>(by cases e),λe=>(by cases e),λ_=>⟨top,by simp_all,λX h=>by simp_all⟩⟩
 |f+1,s::r,cs,top,hs,ht,hr,hl=>by
  have CY:∀x∈r,okS x:=λx hx=>hs x (aB _ hx)
  obtain⟨d0,d1,b,hb,a48⟩:=Pd (s:=s) (r:=r++c) hr;unfold Uq at ht;unfold KZ at hl⊢;unfold Av
  by_cases mL:s<100
  ·rw[ab mL]at hl⊢;simp only[ah]
   have hE:Th cs top k ((cs,()),b,I (s=k),()):=dF.up λn _=>by
    simp_all[qZ,c8,ab]
   refine⟨[],aU _, ?_⟩
   grind
  ·rw[aa mL]at ht hl⊢
   have bj6:s∈BE:=by
    rcases hs s (aD ..)with h|h
    all_goals omega
   obtain⟨ro,rl⟩:=Vn bj6 h0 h1
   have start:∀n,(∀s k:Int,s∈BE->0<=k->k<=78->mO (S.tab n) s k=U (((s9 s k).1,(s9 s k).2,()),cW))->iB (S.step (S.tab n)) (cs,()) top k=brk (!(s9 s k).2) (U (an ((cs,()),b,aq,()))) ((nN (S.tab n) (cs,()) b k (s9 s k).1 (ar.wrap (((s9 s k).1.length) - 1))).bind (dH λQm=>iB (S.tab n) Qm.1 Qm.2.1 Qm.2.2.1)):=λn hx=>by
    rw[qZ,c8 d0,c8 d1,hb,db mL];simp_all
   cases c1:(s9 s k).2 with
   |false=>
    refine⟨[],aU _,λl' e'=>(by grind),λ_=>⟨b, ?_⟩,λe'=>(by grind)⟩;rw[aQ]
    refine LF.up λn hx=> ?_
    simp_all[start,c8]
   |true=>
    rw[c1]at ht hl;simp at ht hl⊢;obtain⟨ds,aK2,hd,hR,hE⟩:=Ll k (s9 s k).1 rl (s9 s k).1.length cs b (r++c) (aF _) a48 (by omega);rw[cy,<-aC]at hR;obtain⟨es,he,a1,a2,a3⟩:=OW h0 h1 f ((s9 s k).1++r) (cs++ds) aK2 (λx hx=>(aP.1 hx).elim (ro x) (CY x)) ht hR (by grind)
    have pass:∀X,(Evt λn=>iB (S.tab n) (cs++ds,()) aK2 k=U X)->Evt λn=>iB (S.tab n) (cs,()) top k=U X:=λX h=>by
     refine((LF.and h).and hE).up λn ⟨⟨hx,h⟩,hE⟩=> ?_
     rw[start n hx,c1,dz (by rfl),wrap64 _ (by omega) (by omega),hE,al];exact h
    refine⟨ds++es,by simp;omega, ?_⟩;rw[<-aC];refine⟨λl' e'=> ?_,λe'=> ?_,λe'=> ?_⟩
    ·obtain⟨t,h,hF⟩:=a1 l' e';exact⟨t,h,pass _ hF⟩
    ·obtain⟨t,hF⟩:=a2 e';exact⟨t,pass _ hF⟩
    ·obtain⟨t,h,hF⟩:=a3 e';exact⟨t,h,λX hX=>pass _ (hF X hX)⟩
def aB0 (hs:okS s)(h0:0<=k)(h1:k<=78):Uq 9 [s] k=av/\KZ 9 [s] k<=20/\(stS s k= .gone->KZ 9 [s] k=0):=by
 rcases hs with⟨_,h⟩|h
 ·refine⟨by grind [Uq,ab],by unfold KZ;grind,λ_=>by grind [KZ,ab]⟩
 ·have:=aK.1 (aK.1 Vh s h) k (mC h0 h1);rw[aA,ad]at this;refine⟨aK.1 (aK.1 V4 s h) k (mC h0 h1),this.1,λe=> ?_⟩;have e:Av 9 [s] k= .gone:=e;simp_all
def O3 (h0:0<=k)(h1:k<=78) (cs) (hl:cs.length<=1999900):∀b top,(∀s∈b,okS s)->Reads cs top (b++[6])->
  ∃(ds:Cls) (oq:Int),ds.length<=20/\(∀l,tJ b k= .left l->Reads (cs++ds) oq (l++[6]))/\Th cs top k ((cs++ds,()),oq,Au (tJ b k) (6=k),())
 |[],top,_,hr=>by
  obtain⟨d0,d1,b,hb,a48⟩:=Pd (s:=6) (r:=[]) hr;refine⟨[],b,aU _,λl e=>(by cases e), ?_⟩;rw[aQ]
  refine dF.up λn _=> ?_
  rw[qZ,c8 d0,c8 d1,hb,c8 (by rfl)];rfl
 |s::r,top,hs,hr=>by
  have CY:∀x∈r,okS x:=λx hx=>hs x (aB _ hx)
  have ax9:=hs s (aD ..)
  have e2:tJ (s::r) k=(stS s k).then r (tJ r k):=ky stS s r k
  obtain⟨t1,t2,t3⟩:=aB0 ax9 h0 h1
  obtain⟨ds,hd,a1,a2,a3⟩:=OW h0 h1 (c:=r++[6]) 9 [s] cs top (λx hx=>by
   simp_all) t1 hr (by omega)
  rw[e2]
  cases ho:stS s k with
  |left l=>
   obtain⟨t,h,hF⟩:=a1 l ho;refine⟨ds,t,by omega,λl' e=> ?_,hF⟩
   injection e with e
   subst e;rw[aC];exact h
  |no=>
   obtain⟨t,hF⟩:=a2 ho;exact⟨ds,t,by omega,λl' e=>(by cases e),hF⟩
  |gone=>
   obtain⟨t,h,hF⟩:=a3 ho;have bb7:ds=[]:=List.length_eq_zero_iff.1 (by have:=t3 ho;omega);subst bb7;rw[aQ]at h;obtain⟨es,t',he,b1,b2⟩:=O3 h0 h1 cs hl r t CY h;exact⟨es,t',he,b1,hF _ (by rw[aQ];exact b2)⟩
def EC (h0:0<=k)(h1:k<=78) (cs) (hl:cs.length<=1999900) (b) (top) (hs:∀s∈b,okS s)(hr:Reads cs top (b++[6])):
  ∃(ds:Cls) (oq:Int),ds.length<=20/\(∀l,tJ b k= .left l->Reads (cs++ds) oq (l++[6]))/\Evt λn=>od (S.tab n) (cs,()) top k=U ((oq,Au (tJ b k) (6=k),()),(cs++ds,()),(),(),()):=by
 obtain⟨ds,t,hd,h,hF⟩:=O3 h0 h1 cs hl b top hs hr;refine⟨ds,t,hd,h,hF.up λn h=> ?_⟩;rw[Fu,h];rfl
end Go.Abs.D
end

section
namespace Go.Abs.D
def Xf (s:Int):Bool:=Y5 s&& !(s=2||decide (s=3)||decide (s=7))
def SN (p:Int->Bool):Out->Bool
 | .left l=>l.all p
 |_=>av
def aB4:(allI.all λs=>kinds.all λk=>SN Xi (xm 9 [s] k))=true:=by kernel_rfl
def aC3:(BE.all λs=>kinds.all λk=>SN Xf (Av 9 [s] k))=true:=by kernel_rfl
def aS4:(BE.all λs=>(isLeft (Av 9 [s] 2)==isLeft (Av 9 [s] 3))&&(Ny (Av 9 [s] 2)==Ny (Av 9 [s] 3)))=true:=by kernel_rfl
def gdI (a:LI):Prop:=∀s∈a,okI s
def gdS (b:LI):Prop:=∀s∈b,Xf s=av
def MU (h:Xf s=av):okS s/\s≠2/\s≠3/\s≠7:=by
 simp_all[Xf,Sh]
def gdS.ok (h:gdS b):∀s∈b,okS s:=λs hs=>(MU (h s hs)).1
def Jl (h0:0<=k)(h1:k<=78):∀{a l:LI},gdI a->kV a k= .left l->gdI l
 |[],l,_,e=>by cases e
 |s::r,l,h,e=>by
  have hr:gdI r:=λx hx=>h x (aB _ hx)
  have e2:kV (s::r) k=(stI s k).then r (kV r k):=ky stI s r k
  rw[e2]at e
  have hs:∀l',stI s k= .left l'->gdI l':=λl' e' x hx=>by
   rcases h s (aD ..)with⟨_,h⟩|h
   ·grind [xQ,decide]
   ·have:=aK.1 (aK.1 aB4 s h) k (mC h0 h1);have e':xm 9 [s] k= .left l':=e';rw[e']at this;exact MV (aK.1 this x hx)
  cases ho:stI s k with
  |no=>rw[ho]at e;cases e
  |gone=>rw[ho]at e;exact Jl h0 h1 hr e
  |left l'=>
   rw[ho]at e
   injection e with e
   subst e
   exact λx hx=>(aP.1 hx).elim (hs l' ho x) (hr x)
def OS (h0:0<=k)(h1:k<=78):∀{b l:LI},gdS b->tJ b k= .left l->gdS l
 |[],l,_,e=>by cases e
 |s::r,l,h,e=>by
  have hr:gdS r:=λx hx=>h x (aB _ hx)
  have e2:tJ (s::r) k=(stS s k).then r (tJ r k):=ky stS s r k
  rw[e2]at e
  have hs:∀l',stS s k= .left l'->gdS l':=λl' e' x hx=>by
   rcases(MU (h s (aD ..))).1 with⟨_,h⟩|h
   ·grind [HC,decide]
   ·have:=aK.1 (aK.1 aC3 s h) k (mC h0 h1);have e':Av 9 [s] k= .left l':=e';rw[e']at this;exact aK.1 this x hx
  cases ho:stS s k with
  |no=>rw[ho]at e;cases e
  |gone=>rw[ho]at e;exact OS h0 h1 hr e
  |left l'=>
   rw[ho]at e
   injection e with e
   subst e
   exact λx hx=>(aP.1 hx).elim (hs l' ho x) (hr x)
def Fx:∀{b:LI},gdS b->Au (tJ b 2) aq=Au (tJ b 3) aq
 |[],_=>rfl
 |s::r,h=>by
  have hr:gdS r:=λx hx=>h x (aB _ hx)
  have ih:=Fx hr
  have e2:tJ (s::r) 2=(stS s 2).then r (tJ r 2):=ky stS s r 2
  have e3:tJ (s::r) 3=(stS s 3).then r (tJ r 3):=ky stS s r 3
  obtain⟨hs,h2,h3,_⟩:=MU (h s (aD ..));rw[e2,e3]
  rcases hs with⟨_,h⟩|h
  ·rw[HC h,HC h,aa h2,aa h3];rfl
  ·have:=aK.1 aS4 s h;have e:Av 9 [s] 2=stS s 2:=rfl;have e':Av 9 [s] 3=stS s 3:=rfl;rw[e,e']at this
   cases ho:stS s 2<;>cases X6:stS s 3<;>rw[ho,X6]at this<;>first|rfl|exact ih|simp_all[isLeft,Ny]
def yk (a:LI)(k:Int):Bool:=Au (kV a k) (6=k)
def lV (b:LI)(k:Int):Bool:=Au (tJ b k) (6=k)
def Pc (f) (o) (d):Au (o.map f) d=Au o d:=by cases o<;>rfl
def OT (ha:gdI a)(hb:gdS b)(h:NI a=NS b){k:Int}(h0:0<=k)(h1:k<=78):yk a k=lV b k:=by
 unfold yk lV;rw[<-Pc NI (kV a k),<-Pc NS (tJ b k),OE h0 h1 ha hb.ok h]
def Ln (ha:gdI a)(hb:gdS b)(h:NI a=NS b){k:Int}(h0:0<=k)(h1:k<=78)(h6:k≠6)(hc:yk a k=av):∃l m,kV a k= .left l/\tJ b k= .left m/\gdI l/\gdS m/\NI l=NS m:=by
 have hs:=OE h0 h1 ha hb.ok h;unfold yk at hc;rw[aa λe=>h6 e.symm]at hc
 cases ho:kV a k with
 |no=>rw[ho]at hc;cases hc
 |gone=>rw[ho]at hc;cases hc
 |left l=>
  rw[ho]at hs
  cases X6:tJ b k with
  |no=>rw[X6]at hs;cases hs
  |gone=>rw[X6]at hs;cases hs
  |left m=>
   rw[X6]at hs
   injection hs with hs
   exact⟨l,m,rfl,rfl,Jl h0 h1 ha ho,OS h0 h1 hb X6,hs⟩
def pick (p:Int->Bool):Nat->LI
 |0=>[]
 |m+1=>(bif p ((78 - m:Nat))then [((78 - m:Nat):Int)]else [])++pick p m
def Jk:∀{m:Nat}{k:Int},k∈pick p m->p k=av/\k<=78
 |0,k,h=>by cases h
 |m+1,k,h=>by
  rcases aP.1 h with h|h
  ·grind
  ·exact Jk h
def Jm:∀{m:Nat}{k:Int},m<=78->79 - m<=k->k<=78->p k=av->k∈pick p m
 |0,k,_,h,h',_=>by omega
 |m+1,k,hm,h,h',hp=>by
  unfold pick
  by_cases e:k=((78 - m:Nat))
  ·simp_all
  ·exact aZ _ (Jm (by omega) (by omega) h' hp)
def Pg:∀m:Nat,(pick p m).length<=m
 |0=>aF _
 |m+1=>by
  unfold pick;have:=Pg (p:=p) m;cases p ((78 - m:Nat))<;>simp<;>omega
def Rg (cs) (ES:cs.length<=1999900) (b) (top) (hb:gdS b)(hr:Reads cs top (b++[6])):∀m acc,m<=78->acc.length+m<=100->Evt λn=>nD (S.tab n) (cs,()) top acc cs.length ((79 - m:Nat))=U (an ((cs,()),acc++pick (lV b) m,()))
 |0,acc,_,_=>dF.up λn _=>by
  rw[rT,dz (by decide)];show _=U (an ((cs,()),acc++[],()));simp
 |m+1,acc,hm,hl=>by
  have e:(79 - (m+1))=78 - m:=(by omega)
  have w:ar.wrap (((78 - m:Nat))+1)=((79 - m:Nat)):=by grind [wrap64]
  have d:I (((78 - m:Nat):Int)<=78)=true:=by grind
  rw[e];unfold pick;obtain⟨ds,oq,hd,_,hF⟩:=EC (k:=((78 - m:Nat))) (by omega) (by omega) cs ES b top hb.ok hr;have hk:Au (tJ b ((78 - m:Nat))) (6=((78 - m:Nat):Int))=lV b ((78 - m:Nat)):=rfl;rw[hk]at hF;have UI:bounds (cs++ds).length 0 cs.length=true:=fO (i:=0) (aU _) (by simp);have a60:(cs++ds).take (cs.length:Int).toNat=cs:=(by simp)
  cases aP7:lV b ((78 - m:Nat))with
  |true=>
   rw[aP7]at hF
   refine((Rg cs ES b top hb hr m (acc++[((78 - m:Nat):Int)]) (by omega) (by grind)).and hF).up λn ⟨h,hc⟩=> ?_
   rw[rT,c8 d,hc,al];rw[c8 UI,c8 rfl,c8 (fU (by grind [lim])),a60,w,h,aC];rfl
  |false=>
   rw[aP7]at hF
   refine((Rg cs ES b top hb hr m acc (by omega) (by omega)).and hF).up λn ⟨h,hc⟩=> ?_
   rw[rT,c8 d,hc,al];rw[c8 UI,dz rfl,a60,w,h];rfl
def ak5 (cs) (ES:cs.length<=1999900) (b) (top) (hb:gdS b)(hr:Reads cs top (b++[6])):Evt λn=>vy (S.tab n) (cs,()) top=U (pick (lV b) 78,(cs,()),(),()):=
 (Rg cs ES b top hb hr 78 [] (aF _) (by simp)).up λn h=>by
  have h:nD (S.tab n) (cs,()) top [] cs.length 1=_:=h;rw[GG];rw[h];rfl
end Go.Abs.D
end

section
namespace Go.Abs.D
def jS (k:Int)(s:LI):Bool:=
 (0<s.length)&&s.length<=40&&(match oL s 0 with| .inl _=>aq| .inr t=>I (t.1=k)&&t.2.2.1=(s.length:Int))
theorem Oi (s) (i j) (f):(mY s i j f).1=2\/(mY s i j f).1=3:=by
 unfold mY
 grind
theorem TD (h:xh s i j f= .inr t):t.1=2\/t.1=3:=by
 unfold xh at h
 grind [decide,get,dT,qa,Oi]
theorem OG (h:oh s i= .inr t):t.1=2\/t.1=3:=by
 unfold oh at h
 have fr:∀j,xj s i j= .inr t->t.1=2\/t.1=3:=λj h=>by
  grind [xj,decide,get,dT,TD]
 cases h0:(get s i=48)&&(get s (i+1)=120)with
 |false=>grind
 |true=>
  unfold mZ at h
  grind
def kd (t:di.den):Int:=t.1
def aU1 (f):5<=sgn f:=by
 unfold sgn
 grind
def Ey (h:oL s i= .inr t):
  (eW (get s i)=av->kd t=1\/10<=kd t)/\(eW (get s i)=aq->dT (get s i)=av->kd t=2\/kd t=3)/\(eW (get s i)=aq->dT (get s i)=aq->4<=kd t):=by
 unfold oL at h;refine⟨λhl=> ?_,λhl hd=> ?_,λhl hd=> ?_⟩
 ·rw[hl]at h
  injection h with h
  subst h;unfold KW;simp;split
  ·right;show 10<=((10+_));omega
  ·exact .inl rfl
 ·rw[hl,hd]at h;exact OG h
 ·rw[hl,hd]at h
  cases ue:I (get s i=34)with
  |true=>
   rw[ue]at h;have h:K3 i (iP s s.length (i+1) [])= .inr t:=h
   cases hr:iP s s.length (i+1) []with
   |inl e=>rw[hr]at h;cases h
   |inr y=>
    rw[hr]at h
    injection h with h
    subst h;exact cM 4
  |false=>
   rw[ue]at h;unfold Bw oJ at h
   cases hk:I (pP (p3 s i)<30)with
   |false=>simp_all
   |true=>
    rw[hk]at h;simp only[ah]at h;rw[aa (Hy _)]at h
    injection h with h
    subst h;have:=aU1 (eD.getD (pP (p3 s i)) []);show 4<=((sgn _):Int);omega
def one (k:Int)(s:LI):Bool:=match oL s 0 with| .inl _=>aq| .inr t=>I (t.1=k)&&(t.2.2.1=(s.length:Int))
def Ee (h:eW c=av):dT c=false:=by
 grind [dT,dig,eW]
end Go.Abs.D
end

section
namespace Go.Abs.D
def fxI (t:Int):LI:=bif(0<=t)&&(t<=78)then fx t.toNat else []
def Lt (t):Evt λn=>qE (S.tab n) t=U (fxI t,cV):=by
 by_cases h:0<=t/\t<=78
 ·refine Jt.mono λn hf=> ?_
  grind [Int.toNat_of_nonneg,fxI,ab]
 ·refine J3.up λn hi=> ?_
  have e:(0<=t&&t<=78)=false:=by simp_all
  unfold fxI
  rw[e,CP,hi,al,dz (by grind),hi,al,dz (by grind),
   hi,al,dz (by grind),dz (by grind)];rfl
def tq (t:Int)(k:Nat):Bool:=(k<30)&& !(((sgn (eD.getD k [])))=t)
def Y9 (t:Int):LI:=bif(stop (tq t) 30 0<30)then eD.getD (stop (tq t) 30 0) []else []
def QX (t):Evt λn=>jb (S.tab n) t eD 30 0=U (bif(stop (tq t) 30 0<30)then an (eD.getD (stop (tq t) 30 0) [],())else aE (an ())):=by
 have hp:Evt λn=>∀f∈eD,nV (S.tab n) f=U ((sgn f:Int),cV):=Ez eD sign_one
 refine adv (F:=λT j=>jb T t eD 30 ↑j) (q:=tq t) (N:=30) (p:=λT=>∀f∈eD,nV T f=U ((sgn f:Int),cV))
  (out:=λk=>bif(k<30)then an (eD.getD k [],())else aE (an ())) hp (λj h=>by simp_all[tq,aa]) ?_ ?_ 30 0 (by omega)
 ·intro T j hs hq;unfold tq at hq;simp only[aA,ad,bU,ae]at hq;have hj:j<eD.length:=hq.1
  have hm:eD.getD j []∈eD:=by
   simp_all
  show jb (S.step T) t eD 30 j=jb T t eD 30 ((j+1:Nat));rw[xz,c8 (by grind),c8 (dm hj),bm,hs _ hm,al,dz (aa hq.2),eT (by omega)]
 ·intro T j hs hq;show jb (S.step T) t eD 30 j=_;rw[xz]
  by_cases vL:j<30
  ·have hj:j<eD.length:=vL
   have hm:eD.getD j []∈eD:=by
    simp_all
   unfold tq at hq;rw[ab vL,bD,cU,ad]at hq;rw[c8 (by grind),c8 (dm hj),bm,hs _ hm,al,dn hq,ab vL];rfl
  grind [dz,aa]
def Z4:∀k:Nat,k<30->5<=sgn (eD.getD k [])/\sgn (eD.getD k [])<=78:=by
 grind [sgn]
def VR (t) (h5:t≠5)(hw:¬ (10<=t/\t<=31)):Y9 t=fxI t:=by
 by_cases h:0<=t/\t<=78
 ·have key:∀k:Fin 79,k.1≠5->¬ (10<=k.1/\k.1<=31)->Y9 k.1=fxI k.1:=by decide+kernel
  have:=key ⟨t.toNat,by omega⟩ (by grind) (by simp_all)
  grind
 ·have Ay:∀k,k<30->tq t k=true:=λk hk=>by
   have:=Z4 k hk;unfold tq
   grind
  have qc:¬ stop (tq t) 30 0<30:=λmL=>by
   have:=uE (q:=tq t) (N:=30) (λj hj=>by simp_all[tq,aa]) 30 0 (by omega);simp_all
  grind [Y9,fxI,aa,decide]
def FT:Evt λn=>Base1 (S.tab n):=Evt.up (Evt.of (p:=λ_=>True) λ_=>trivial) λn _=>zD _
def LV (t) (h1: -9223372036854775808<=t)(h2:t<=9223372036854775807):Evt λn=>fQ (S.tab n) t=U (fxI t,cV):=by
 by_cases h5:t=5
 ·subst h5
  refine dF.up λn _=> ?_
  rw[AW,c8 (by rfl)];rfl
 refine((QX t).and (O9.and FT)).up λn ⟨h7,ae8,hb⟩=> ?_
 rw[AW,db h5,hb.words,al]
 by_cases hw:10<=t/\t<=31
 ·have e:ar.wrap (t - 10)=((t.toNat - 10:Nat)):=by grind [wrap64]
  have wl:ar.wrap (10+(Lx.words.length))=32:=rfl;rw[c8 (ab hw.1)];show brk (t<ar.wrap (10+(Lx.words.length))) (brk (0<=ar.wrap (t - 10)&&ar.wrap (t - 10)<(Lx.words.length)) (U (Lx.words.getD (ar.wrap (t - 10)).toNat [],cV)) az) _=_;rw[wl,dn (by omega),e,c8 (dm (show t.toNat - 10<Lx.words.length by show t.toNat - 10<22;omega)),bm]
  grind [fxI,fx,ab]
 ·have fin:(qN (S.tab n)).bind (λd23=>(jb (S.tab n) t d23.1 d23.1.length 0).bind (ep (λy7=>U (y7.1,cV)) λy7=>U ([],cV)))=U (fxI t,cV):=by
   rw[ae8,al];show(jb (S.tab n) t eD 30 0).bind _=_;rw[h7,al,<-VR t h5 hw];unfold Y9;cases I (stop (tq t) 30 0<30)<;>rfl
  by_cases xo:10<=t
  ·rw[dn xo];have wl:ar.wrap (10+(Lx.words.length))=32:=rfl;show brk (t<ar.wrap (10+(Lx.words.length))) _ _=_;rw[wl,db (by omega)];exact fin
  simp_all[dz,aa]
end Go.Abs.D
end

section
namespace Go.Abs.D
def cq (s:LI)(i:Nat)(f:LI)(n:Nat):Bool:=(n<f.length)&&(i+n<s.length&&f.getD n 0=get s (i+n))
def cp (s:LI)(i:Nat)(f:LI):Nat:=stop (cq s i f) f.length 0
def Rq:∀j,f.length<=j->cq s i f j=false:=λj h=>by simp_all[cq,aa]
def Nc (h:n<cp s i f):cq s i f n=true:=rD _ _ _ (aU _) h
theorem ah9 (s) (i) (f):cq s i f (cp s i f)=false:=uE Rq _ _ (by omega)
def az5 (h:∀n,n<j->cq s i f n=av):j<=cp s i f:=by
 grind [bB,cp,ah9]
def aj8 (s) (i) (f):cp s i f<=f.length:=xe Rq _ _ (aU _)
def az6 (hi:i<=s.length) (f):i+cp s i f<=s.length:=by
 rcases Nat.eq_zero_or_pos (cp s i f)with h|h
 ·omega
 ·have:=Nc (s:=s) (i:=i) (f:=f) (n:=cp s i f - 1) (by omega)
  grind [cq]
def lq (s:LI)(i n:Nat):Bool:=wq s (i+n)
def idl (s:LI)(i:Nat):Nat:=stop (lq s i) s.length 0
def ag1:∀j,s.length<=j->lq s i j=false:=λj h=>uX _ (by omega)
theorem Sd (s) (i):lq s i (idl s i)=false:=uE ag1 _ _ (by omega)
def WD (h:∀n,n<j->lq s i n=av):j<=idl s i:=by
 grind [bB,idl,Sd]
def WR (h:lq s i j=aq):idl s i<=j:=by
 rcases bB j (idl s i)with hl|hl
 ·have:=rD (q:=lq s i) s.length 0 j (aU _) hl;simp_all
 omega
def Wz (hi:i<=s.length):i+idl s i<=s.length:=by
 have:=WR (s:=s) (i:=i) (j:=s.length - i) (uX _ (by omega));omega
def mxK (can:Int->Bool)(s:LI)(i:Nat):Nat->Nat->Nat
 |0,acc=>acc
 |m+1,acc=>mxK can s i m (bif(fx (78 - m)=[])then acc else bif can ((78 - m:Nat))then max acc (cp s i (fx (78 - m)))else acc)
def WL (s) (i):cp s i []=0:=rfl
def Nn (hj:1<=j):∀m acc,m<=78->(j<=mxK can s i m acc↔j<=acc\/∃k:Nat,79 - m<=k/\k<=78/\can (k:Int)=av/\j<=cp s i (fx k))
 |0,acc,_=>⟨λh=> .inl h,λh=>h.elim id λ⟨k,h1,h2,_⟩=>by omega⟩
 |m+1,acc,hm=>by
  unfold mxK;rw[Nn hj m _ (by omega)]
  have key:(j<=bif(fx (78 - m)=[])then acc else bif can ((78 - m))then max acc (cp s i (fx (78 - m)))else acc)↔j<=acc\/(can ((78 - m))=av/\j<=cp s i (fx (78 - m))):=by
   by_cases hf:fx (78 - m)=[]
   ·simp_all[ab,WL,ah,id]
   grind
  grind
def m0 (s:LI)(i:Nat):Nat:=bif(get s i=45)then 1 else 0
def ng (can:Int->Bool)(s:LI)(i:Nat):Nat:=bif eW (get s i)&&can 1 then max (mxK can s i 78 (m0 s i)) (idl s i)else mxK can s i 78 (m0 s i)
def J6 (p:LI)(k:Int):Bool:=
 (k=1&&eW (get p 0))||(((k=2||decide (k=3))&&dT (get p 0))||((k=4&&get p 0=34)||(p.length<=(fxI k).length&&eV (fxI k) 0 p.length=p)))
def K2 (kinds:LI)(p:LI):Bool:=(p.length=1&&get p 0=45)||kinds.any (J6 p)
def Mw:∀k:Nat,k<=78->eW ((fx k).getD 0 0)=av->∀c∈fx k,eW c=true:=by
 have h:∀k:Fin 79,eW ((fx k.1).getD 0 0)=av->(fx k.1).all eW=true:=by decide+kernel
 exact λk hk h' c hc=>aK.1 (h ⟨k,by omega⟩ h') c hc
def VT (f) (n):f.getD n 0=get f n:=rfl
theorem za (h:a+n<b):get (eV s a b) n=get s (a+n):=by
 simp_all[get,eV,aG,cJ,List.getElem?_take_of_lt]
def TI (hl:a.length=b.length)(h:∀n,n<a.length->get a n=get b n):a=b:=by
 grind [List.ext_getElem,get,aL]
def Wa (hj:i+j<=s.length) (f):((eV s i (i+j)).length<=f.length&&eV f 0 (eV s i (i+j)).length=eV s i (i+j))=av↔j<=cp s i f:=by
 have hl:(eV s i (i+j)).length=j:=by simp_all[pk]
 rw[hl,aA,ad,ad];constructor
 ·rintro⟨h1,h2⟩
  refine az5 λn hn=> ?_
  unfold cq;rw[ab (show n<f.length by omega),ab (show i+n<s.length by omega),bD,bD,ad,VT];have e:get (eV f 0 j) n=get (eV s i (i+j)) n:=congrArg (λl=>get l n) h2;rw[za (by omega),za (by omega),bJ]at e;exact e
 ·intro h;have h1:=aj8 s i f;refine⟨by omega,TI (by grind [pk]) λn hn=> ?_⟩;rw[pk (by omega)]at hn;have:=Nc (s:=s) (i:=i) (f:=f) (n:=n) (by omega);unfold cq at this;simp at this;rw[za (by omega),za (by omega),bJ];exact this.2.2
def S3 {k:Nat}(h:k<=78):fxI k=fx k:=by
 grind [fxI,ab,bm]
structure WrongAt (can:Int->Bool)(c:Int):Prop where
 num:dT c=av->can 2=aq/\can 3=aq
 str:c=34->can 4=aq
def LK (h:eW c=av):dT c=aq/\c≠34/\c≠45:=by
 refine⟨Ee h,λe=> ?_,λe=> ?_⟩<;>(subst e;cases h)
def Vr (hw:WrongAt can (get s i))(hn:(eW (get s i)&&can 1)=aq)(hj:1<=j)(hl:i+j<=s.length):K2 (pick can 78) (eV s i (i+j))=av↔j<=mxK can s i 78 (m0 s i):=by
 have hlen:(eV s i (i+j)).length=j:=by simp_all[pk]
 have hg:get (eV s i (i+j)) 0=get s i:=by grind [za]
 rw[Nn hj 78 _ (aF _)];unfold K2;rw[cO,hlen,hg,aA,ad,ad,List.any_eq_true]
 have e0:(j=1/\get s i=45)↔j<=m0 s i:=by
  unfold m0
  grind
 rw[e0];refine or_congr Iff.rfl ⟨?_, ?_⟩
 ·rintro⟨k,hk,hb⟩;obtain⟨hc,hk78⟩:=Jk hk;unfold J6 at hb;rw[hg]at hb;simp only[cO]at hb
  rcases hb with hb|hb|hb|hb
  ·simp_all
  ·rw[aA,cO,ad,ad]at hb;have:=hw.num hb.2
   grind
  ·rw[aA,ad,ad]at hb;have:=hw.str hb.2;simp_all
  ·have h1:=(Wa hl (fxI k)).1 hb
   have ax6:1<=k:=by
    rcases Int.lt_or_le k 1 with h|h
    ·have e:fxI k=[]:=by
      by_cases h0:k=0
      ·rw[h0];rfl
      ·unfold fxI;rw[aa (by omega)];rfl
     rw[e,WL]at h1;omega
    ·exact h
   have ek:(k.toNat)=k:=Int.toNat_of_nonneg (by omega);refine⟨k.toNat,by omega,by omega,by rw[ek];exact hc, ?_⟩;rw[<-S3 (by omega),ek];exact h1
 ·rintro⟨k,h1,h2,h3,h4⟩;refine⟨k,Jm (aF _) (by omega) (by omega) h3, ?_⟩;unfold J6;rw[(Wa hl (fxI ↑k)).2 (by rw[S3 h2];exact h4)];simp
def Uc {s:LI}{i j:Nat}(hn:(eW (get s i)&&can 1)=av)(hj:1<=j)(hl:i+j<=s.length):K2 (pick can 78) (eV s i (i+j))=true:=by
 have hg:get (eV s i (i+j)) 0=get s i:=by grind [za]
 rw[aA]at hn;unfold K2;rw[cO,List.any_eq_true];refine .inr ⟨1,Jm (aF _) (by omega) (by omega) hn.2, ?_⟩;simp_all[J6]
theorem ag8 (hl:eW (get s i)=av)(hk:k<=78):cp s i (fx k)<=idl s i:=by
 refine WD λn hn=> ?_
 have h0:=Nc (s:=s) (i:=i) (f:=fx k) (n:=0) (by omega);have h1:=Nc hn;unfold cq at h0 h1;have hw:=Mw k hk (by grind)
 grind [lq,wq]
def WE (hl:eW (get s i)=av):mxK can s i 78 (m0 s i)<=idl s i:=by
 rcases Nat.eq_zero_or_pos (mxK can s i 78 (m0 s i))with h|h
 ·omega
 ·rcases(Nn (can:=can) (s:=s) (i:=i) h 78 (m0 s i) (aF _)).1 (aF _)with h'|⟨k,_,h2,_,h4⟩
  ·simp_all[m0,aa,LK]
  grind [bn8,ag8]
def ab0 (hi:i<s.length):i+mxK can s i 78 (m0 s i)<=s.length:=by
 rcases Nat.eq_zero_or_pos (mxK can s i 78 (m0 s i))with h|h
 ·omega
 ·rcases(Nn (can:=can) (s:=s) (i:=i) h 78 (m0 s i) (aF _)).1 (aF _)with h'|⟨k,_,h2,_,h4⟩
  ·grind [m0,decide,get]
  ·have:=az6 (s:=s) (i:=i) (by omega) (fx k);omega
def Ju (hi:i<s.length)(hw:WrongAt can (get s i)):
  i+ng can s i<=s.length/\(eW (get s i)=av->ng can s i<=idl s i)/\
  (∀j,1<=j->i+j<=s.length->(eW (get s i)=av->j<=idl s i)->(K2 (pick can 78) (eV s i (i+j))=av↔j<=ng can s i)):=by
 unfold ng
 cases hn:eW (get s i)&&can 1 with
 |false=>
  simp_all[af,ab0,WE,Vr]
 |true=>
  have hl:eW (get s i)=true:=by simp_all
  have h1:=WE (can:=can) hl;rw[ah,Nat.max_eq_right h1];exact⟨Wz (by omega),λ_=>aF _,λj hj aG4 ao2=>⟨λ_=>ao2 hl,λ_=>Uc hn hj aG4⟩⟩
end Go.Abs.D
end

section
namespace Go.Abs.D
def Vf (kinds:LI)(hk:∀k∈kinds,0<=k/\k<=78):Evt λn=>∀k∈kinds,fQ (S.tab n) k=U (fxI k,cV):=by
 have h:Evt λn=>∀k∈kinds,(0<=k/\k<=78)->fQ (S.tab n) k=U (fxI k,cV):=Ez kinds λk=>by
  by_cases h:0<=k/\k<=78
  ·exact(LV k (by omega) (by omega)).mono λn h' _=>h'
  grind [Evt.of,absurd]
 simp_all
def tB (p:LI)(k:Int):Bool:=(p.length<=(fxI k).length)&&(eV (fxI k) 0 p.length=p)
def zI (ht:fQ T k=U (fxI k,cV)){R N:Option ((Bool×Unit)⊕(Unit)⊕Empty)}:
  ((fQ T k).bind λd52=>brk (p.length<=(d52.1.length:Int)) (brk (bounds d52.1.length 0 p.length) (brk (sub d52.1 0 p.length=p) R N) az) N)=bif tB p k then R else N:=by
 rw[ht,al];unfold tB
 by_cases h:p.length<=(fxI k).length
 ·have UI:bounds (fxI k).length 0 p.length=true:=fO (i:=0) (aU _) h;have Hm:sub (fxI k) 0 p.length=eV (fxI k) 0 p.length:=rfl;rw[c8 (by simp_all),c8 UI,Hm,ab h,bD]
  cases I (eV (fxI k) 0 p.length=p)with
  |true=>rw[c8 rfl];rfl
  |false=>rw[dz rfl];rfl
 simp_all[dz,aa]
theorem I1 (hb:Base1 T){p kinds:LI}(hp:0<p.length){j:Nat}(hj:j<kinds.length)(ht:fQ T (kinds.getD j 0)=U (fxI (kinds.getD j 0),cV))(hl:kinds.length<=100):
  dL (S.step T) p kinds kinds.length j=bif J6 p (kinds.getD j 0)then U (an (av,()))else dL T p kinds kinds.length ((j+1:Nat)):=by
 have sF:I (0<(p.length:Int))=true:=by simp_all
 have g0:p.getD 0 0=get p 0:=rfl;rw[vY,c8 (by simp_all),c8 (dm hj),bm,eT (by omega),g0]
 generalize kinds.getD j 0=k at ht⊢
 generalize dL T p kinds kinds.length ((j+1))=N
 have e:J6 p k=((k=1&&eW (get p 0))||(((k=2||decide (k=3))&&dT (get p 0))||((k=4&&get p 0=34)||tB p k))):=rfl;rw[e]
 by_cases h1:k=1
 ·have h2:¬ k=2:=(by omega);have h3:¬ k=3:=(by omega);have h4:¬ k=4:=(by omega);rw[dn h1,c8 sF,hb.sletter,al,ab h1,aa h2,aa h3,aa h4]
  cases eW (get p 0)with
  |true=>simp_all[c8]
  |false=>rw[dz (by rfl),dz rfl,dz rfl,dz rfl,zI ht];rfl
 rw[db h1,aa h1]
 by_cases h2:k=2
 ·have h4:¬ k=4:=(by omega);rw[dn h2,c8 sF,hb.sdigit,al,ab h2,aa h4]
  cases dT (get p 0)with
  |true=>simp_all[c8]
  |false=>rw[dz (by rfl),dz rfl,zI ht,aT];rfl
 rw[db h2,aa h2]
 by_cases h3:k=3
 ·have h4:¬ k=4:=(by omega);rw[dn h3,c8 sF,hb.sdigit,al,ab h3,aa h4]
  cases dT (get p 0)with
  |true=>simp_all[c8]
  |false=>rw[dz (by rfl),dz rfl,zI ht];rfl
 rw[db h3,aa h3]
 by_cases h4:k=4
 ·rw[dn h4,c8 sF,ab h4]
  by_cases c:get p 0=34
  ·simp_all[c8,ab]
  ·rw[db c,aa c,zI ht];rfl
 rw[db h4,aa h4,zI ht];rfl
def bq (p kinds:LI)(j:Nat):Bool:=(j<kinds.length)&& !J6 p (kinds.getD j 0)
def Wi {p kinds:LI}:∀j,kinds.length<=j->bq p kinds j=false:=λj h=>by simp_all[bq,aa]
def U6 (p kinds):kinds.any (J6 p)=I (stop (bq p kinds) kinds.length 0<kinds.length):=by
 have aL2:=uE (q:=bq p kinds) Wi kinds.length 0 (by omega)
 by_cases h:stop (bq p kinds) kinds.length 0<kinds.length
 ·generalize stop (bq p kinds) kinds.length 0=m at aL2 h
  unfold bq at aL2
  grind
 ·rw[aa h]
  refine List.any_eq_false.2 λk hk=> ?_
  obtain⟨j,hj,rfl⟩:=List.getElem_of_mem hk;have:=rD (q:=bq p kinds) kinds.length 0 j (aU _) (by omega);unfold bq at this;simp_all
def Vc {p kinds:LI}(hp:0<p.length)(hk:∀k∈kinds,0<=k/\k<=78)(hl:kinds.length<=100):Evt λn=>dL (S.tab n) p kinds kinds.length 0=U (bif kinds.any (J6 p)then an (av,())else aE (an ())):=by
 have aF2:Evt λn=>Base1 (S.tab n)/\∀k∈kinds,fQ (S.tab n) k=U (fxI k,cV):=FT.and (Vf kinds hk)
 rw[U6]
 refine adv (F:=λT j=>dL T p kinds kinds.length ↑j) (q:=bq p kinds) (N:=kinds.length) (p:=λT=>Base1 T/\∀k∈kinds,fQ T k=U (fxI k,cV))
  (out:=λj=>bif(j<kinds.length)then an (av,())else aE (an ())) aF2 Wi ?_ ?_ kinds.length 0 (by omega)
 ·intro T j ⟨hb,ht⟩ hq;unfold bq at hq
  grind [dL,kinds,I1,hq]
 ·intro T j ⟨hb,ht⟩ hq;show dL (S.step T) p kinds _ _=_
  by_cases hj:j<kinds.length
  ·unfold bq at hq;simp_all[I1,hq,ab]
  simp_all[vY,dz,aa]
def VO {p kinds:LI}(hp:0<p.length)(hk:∀k∈kinds,0<=k/\k<=78)(hl:kinds.length<=100):Evt λn=>vt (S.tab n) kinds p=U (K2 kinds p,cW):=
 (Vc hp hk hl).up λn h=>by
  have g0:p.getD 0 0=get p 0:=rfl
  have fin:((dL (S.tab n) p kinds kinds.length 0).bind (ep (λy4=>U (y4.1,cW)) λy4=>U (aq,cW)))=U (kinds.any (J6 p),cW):=by
   rw[h];cases kinds.any (J6 p)<;>rfl
  unfold K2;rw[GV,g0]
  grind [c8,ab,get,dz,aa]
def QT:∀k∈pick p 78,0<=k/\k<=78:=λk h=>by
 have:=(Jk h).2
 have h0:∀m k,k∈pick p m->0<=k:=λm=>by
  induction m with
  |zero=>intro k h;cases h
  |succ m ih=>
   grind [pick]
 grind
variable{s:LI}(hs:s.length<=65536)
include hs
def VU (hi:i<s.length)(hw:WrongAt can (get s i)):∀d n,s.length - (i+n)<=d->n<=ng can s i->(eW (get s i)=av->n<idl s i)->Evt λm=>gF (S.tab m) s ↑i (pick can 78) n=U (an ((i:Int),(ng can s i:Int),())):=by
 obtain⟨l1,l2,l3⟩:=Ju hi hw;intro d
 induction d with
 |zero=>
  intro n hd hn aP8;have e:n=ng can s i:=(by omega)
  refine dF.up λm hb=> ?_
  grind [gF,rS,wrap64,dz]
 |succ d ih=>
  intro n hd hn aP8
  by_cases hl:i+n<s.length
  ·have w1:ar.wrap (i+n)=((i+n)):=by grind [wrap64]
   have w2:ar.wrap (((i+n))+1)=((i+(n+1):Nat)):=by grind [wrap64]
   have w3:ar.wrap (n+1)=((n+1:Nat)):=eT (by omega)
   have w4:ar.wrap (i+((n+1:Nat):Int))=((i+(n+1):Nat):Int):=by grind
   have UE:=VO (p:=eV s i (i+(n+1))) (kinds:=pick can 78) (by grind [pk]) QT (bn8 (Pg 78) (by omega));have aI3:=l3 (n+1) (by omega) (by omega) (λh=>by grind)
   have start:∀T:S.Tab,vt T (pick can 78) (eV s i (i+(n+1)))=U (K2 (pick can 78) (eV s i (i+(n+1))),cW)->Base1 T->gF (S.step T) s ↑i (pick can 78) (n:Int)=_:=λT N2 hb=>by
    rw[rS,w1,c8 (by simp;omega),w2,c8 (fO (by omega) (by omega)),sV,N2,al,c8 (dm hi),dK,hb.sletter,al,w3,w4,hb.look,al]
   by_cases hle:n+1<=ng can s i
   ·have aZ0:=aI3.2 hle;rw[aZ0]at UE start
    have next:=λh=>ih (n+1) (by omega) hle h
    by_cases hlet:eW (get s i)=av
    ·by_cases BI:lq s i (n+1)=av
     ·refine((next (λh=>by
       have h1:=aP8 h
       rcases bB (n+1) (idl s i)with h'|h'
       ·exact h'
       ·have:idl s i=n+1:=(by omega);have e:=Sd s i
        rw[this,BI]at e;cases e)).and (UE.and FT)).up λm ⟨hx,N2,hb⟩=> ?_
      show gF (S.step (S.tab m)) _ _ _ _=_;rw[start _ N2 hb,c8 rfl,hlet,c8 rfl,hb.sletter,al];unfold lq wq at BI
      cases uL:eW (get s (i+(n+1)))with
      |true=>rw[dz (by rfl)];exact hx
      |false=>
       rw[uL,bH]at BI;rw[c8 (by rfl),al,hb.sdigit,al,BI,dz (by rfl)];exact hx
     ·have BI:lq s i (n+1)=false:=(by simpa using BI);have h1:=WR BI;have h2:=l2 hlet;have e:ng can s i=n+1:=(by omega)
      refine(UE.and FT).up λm ⟨N2,hb⟩=> ?_
      show gF (S.step (S.tab m)) _ _ _ _=_;rw[start _ N2 hb,c8 rfl,hlet,c8 rfl,hb.sletter,al];unfold lq wq at BI;rw[Bool.or_eq_false_iff]at BI;rw[BI.1,c8 (by rfl),al,hb.sdigit,al,BI.2,c8 (by rfl),e]
    ·have aE5:eW (get s i)=false:=(by simpa using hlet)
     refine((next (λh=>absurd h hlet)).and (UE.and FT)).up λm ⟨hx,N2,hb⟩=> ?_
     show gF (S.step (S.tab m)) _ _ _ _=_;rw[start _ N2 hb,c8 rfl,aE5,dz rfl];exact hx
   ·have bg1:K2 (pick can 78) (eV s i (i+(n+1)))=false:=by
     cases hx:K2 (pick can 78) (eV s i (i+(n+1)))with
     |true=>exact absurd (aI3.1 hx) hle
     |false=>rfl
    have e:ng can s i=n:=(by omega);rw[bg1]at UE start
    refine(UE.and FT).up λm ⟨N2,hb⟩=> ?_
    show gF (S.step (S.tab m)) _ _ _ _=_;rw[rS,w1,c8 (by simp;omega),w2,c8 (fO (by omega) (by omega)),sV,N2,al,dz rfl,e]
  grind
omit hs in
theorem Yu {i:Nat}(h:eW (get s i)=av):0<idl s i:=by
 have:lq s i 0=true:=by simp_all[lq,wq,Nat.add_zero]
 exact WD (j:=1) λn hn=>by
  simp_all
def VB (hi:i<s.length)(hw:WrongAt can (get s i)):Evt λn=>vw (S.tab n) s ↑i (pick can 78)=U (((i+ng can s i:Nat):Int),dR):=
 (VU hs hi hw s.length 0 (by omega) (aU _) Yu).up λn h=>by
  obtain⟨l1,_,_⟩:=Ju hi hw;have h:gF (S.tab n) s ↑i (pick can 78) 0=_:=h;rw[GI,h];simp only[al,dH,aH]
  grind [wrap64]
def Oe (a) (i) (hi:i<=s.length) (t7 t8) (f) (hf:f.length<=100):Evt λn=>ku (S.tab n) a s ↑i t7 t8 f 0=U (an (a,s,(i:Int),t7,t8,(cp s i f:Int),())):=
 adv (F:=λT j=>ku T a s ↑i t7 t8 f ↑j) (q:=cq s i f) (N:=f.length) (p:=λ_=>True) (out:=λj=>an (a,s,i,t7,t8,j,())) (Evt.of λ_=>trivial) Rq
  (λT j _ hq=>by
   unfold cq at hq;simp only[aA,ad]at hq
   have w:ar.wrap ((i:Int)+(j:Int))=((i+j:Nat):Int):=by grind [wrap64]
   show ku (S.step T) _ _ _ _ _ _ _=ku T _ _ _ _ _ _ _
   rw[ve,c8 (by simp_all),w,c8 (by grind),c8 (dm hq.1),c8 (dm hq.2.1),bm,dK,c8 (ab hq.2.2),eT (by omega)])
  (λT j _ hq=>by
   show ku (S.step T) _ _ _ _ _ _ _=_;rw[ve]
   by_cases h1:j<f.length
   ·have w:ar.wrap ((i:Int)+(j:Int))=((i+j:Nat):Int):=by grind [wrap64]
    rw[c8 (by simp_all),w]
    by_cases h2:i+j<s.length
    ·unfold cq at hq;rw[ab h1,ab h2,bD,bD]at hq;rw[c8 (by grind),c8 (dm h1),c8 (dm h2),bm,dK,dz hq]
    grind [dz]
   simp_all[dz]) f.length 0 (by omega)
omit hs in
theorem aD2 {R:Type}{F:S.Tab->Nat->Option R}{q:Nat->Bool}{out:Nat->R}{N:Nat}{p:S.Tab->Prop}(hp:Evt λn=>p (S.tab n))(hN:q N=aq)
  (h1:∀T j,j<N->p T->q j=av->F (S.step T) j=F T (j+1)) (h2:∀T j,j<=N->p T->q j=aq->F (S.step T) j=U (out j)):
  ∀(k j:Nat),N<=j+k->j<=N->Evt λn=>F (S.tab n) j=U (out (stop q k j))
 |0,j,hk,hj=>hp.up λn h=>by
  have e:j=N:=(by omega);show F (S.step (S.tab n)) j=_;rw[h2 _ _ hj h (by simp_all)];rfl
 |k+1,j,hk,hj=>by
  cases hq:q j with
  |false=>
   refine hp.up λn h=> ?_
   simp_all[hq,BW]
  |true=>
   have mL:j<N:=by
    grind
   refine((aD2 hp hN h1 h2 k (j+1) (by omega) (by omega)).and hp).up λn ⟨ih,h⟩=> ?_
   simp_all[stop,hq]
def N8 (i) (hi:i<=s.length) (t7):Evt λn=>jt (S.tab n) s ↑i t7 0=U (an (t7,(idl s i:Int),())):=
 aD2 (F:=λT j=>jt T s ↑i t7 ↑j) (q:=lq s i) (N:=s.length) (p:=λT=>Base2 T) (out:=λj=>an (t7,j,())) dF (uX _ (by omega))
  (λT j hj hb hq=>by
   have hl:i+j<s.length:=by
    grind [bB,uX,lq,hq]
   have w:ar.wrap ((i:Int)+(j:Int))=((i+j:Nat):Int):=by grind [wrap64]
   show jt (S.step T) _ _ _ _=jt T _ _ _ _;rw[vf,w,c8 (by grind),c8 (dm hl),dK,hb.iletter,al,eT (by omega)];unfold lq wq at hq
   cases h:eW (get s (i+j))with
   |true=>simp_all[c8]
   |false=>
    rw[h,bH]at hq
    rw[dz (by rfl),c8 (dm hl),hb.idigit,al,hq,c8 (by rfl)])
  (λT j hj hb hq=>by
   have w:ar.wrap ((i:Int)+(j:Int))=((i+j:Nat):Int):=by grind [wrap64]
   show jt (S.step T) _ _ _ _=_;rw[vf,w]
   by_cases hl:i+j<s.length
   ·unfold lq wq at hq;rw[Bool.or_eq_false_iff]at hq;rw[c8 (by grind),c8 (dm hl),dK,hb.iletter,al,hq.1,dz (by rfl),c8 (dm hl),hb.idigit,al,hq.2,dz (by rfl)]
   grind [dz]) s.length 0 (by omega) (by omega)
omit hs in
theorem af4:∀k:Nat,k<=78->(fx k).length<=100:=by
 have h:∀k:Fin 79,(fx k.1).length<=100:=by decide+kernel
 exact λk hk=>h ⟨k,by omega⟩
def zx (a) (ha:gdI a) (i) (hi:i<=s.length):∀(m acc:Nat),m<=78->Evt λn=>mr (S.tab n) (a++[6]) s ↑i ↑acc ((79 - m:Nat))=U (an (a++[6],s,(i:Int),(mxK (yk a) s i m acc:Int),()))
 |0,acc,_=>dF.up λn _=>by
  rw[oT,dz (by decide)];rfl
 |m+1,acc,hm=>by
  have e:(79 - (m+1))=78 - m:=(by omega)
  have w:ar.wrap (((78 - m:Nat))+1)=((79 - m:Nat)):=by grind [wrap64]
  have d:I (((78 - m:Nat):Int)<=78)=true:=by grind
  have as1:=Jt;rw[e];unfold mxK
  by_cases hf:fx (78 - m)=[]
  ·refine((zx a ha i hi m acc (by omega)).and as1).up λn ⟨h,hx⟩=> ?_
   simp_all[oT,c8,al,ab]
  ·have hc:=JQ (k:=((78 - m:Nat))) (by omega) (by omega) a ha;have hk:Au (kV a ((78 - m:Nat))) (6=((78 - m:Nat):Int))=yk a ((78 - m:Nat)):=rfl;rw[hk]at hc
   cases aP7:yk a ((78 - m:Nat))with
   |false=>
    refine(((zx a ha i hi m acc (by omega)).and as1).and hc).up λn ⟨⟨h,hx⟩,hc⟩=> ?_
    simp_all[oT,c8,al,dz,aa]
   |true=>
    rw[aP7]at hc
    have hmx:(if((cp s i (fx (78 - m))))>acc then((cp s i (fx (78 - m))):Int)else acc)=((max acc (cp s i (fx (78 - m))):Nat)):=by
     omega
    refine((((zx a ha i hi m (max acc (cp s i (fx (78 - m)))) (by omega)).and as1).and hc).and (Oe hs (a++[6]) i hi ↑acc ((78 - m:Nat)) (fx (78 - m)) (af4 _ (by omega)))).up λn ⟨⟨⟨h,hx⟩,hc⟩,xo⟩=> ?_
    rw[oT,c8 d,hx _ (by omega),al,db hf,hc,al,dz (by rfl),xo,al];simp_all[dH,aH]
def Qv (a) (ha:gdI a) (i) (hi:i<s.length):Evt λn=>oY (S.tab n) (a++[6]) s i=U ((ng (yk a) s i:Int),dR):=by
 have bh9:Evt λn=>nB (S.tab n) (a++[6]) s ↑i (m0 s i)=U (an ((ng (yk a) s i:Int),())):=by
  have hc:=JQ (k:=1) (by decide) (by decide) a ha;have hk:Au (kV a 1) ((6:Int)=1)=yk a 1:=rfl;rw[hk]at hc
  refine((((zx hs a ha i (by omega) 78 (m0 s i) (aF _)).and hc).and (N8 hs i (by omega) (mxK (yk a) s i 78 (m0 s i)))).and dF).up λn ⟨⟨⟨h5,hc⟩,Lf⟩,hb⟩=> ?_
  have h5:mr (S.tab n) (a++[6]) s ↑i (m0 s i) 1=_:=h5;rw[CZ,h5,al];simp only[dH,aH];rw[c8 (dm hi),dK,hb.iletter,al];unfold ng
  cases eW (get s i)with
  |false=>simp_all[dz]
  |true=>
   rw[c8 (by rfl),hc,al]
   cases yk a 1 with
   |false=>simp_all[dz]
   |true=>
    rw[c8 (by rfl),Lf,al]
    grind
 refine bh9.up λn h=> ?_
 rw[GY,c8 (dm hi),dK];unfold m0 at h
 by_cases US:get s i=45
 ·rw[ab US]at h;have h:nB (S.tab n) (a++[6]) s ↑i 1=_:=h;rw[dn US,h];rfl
 ·rw[aa US]at h;have h:nB (S.tab n) (a++[6]) s ↑i 0=_:=h;rw[db US,h];rfl
end Go.Abs.D
end

section
namespace Go.Abs.D
def Pq (h:xh s i j f= .inl e):e<=s.length:=by
 unfold xh at h
 cases h5:I (get s j=101)with
 |false=>simp_all
 |true=>
  rw[h5]at h;have hj:=iU (of_decide_eq_true h5) (by decide)
  cases hd:dT (get s (qa s j))with
  |true=>simp_all
  |false=>
   rw[hd]at h
   injection h with h
   subst h;unfold qa
   cases h1:I (get s (j+1)=43)with
   |true=>have:=iU (of_decide_eq_true h1) (by decide);grind
   |false=>
    cases h2:I (get s (j+1)=45)with
    |true=>have:=iU (of_decide_eq_true h2) (by decide);grind
    |false=>grind
def Eo:∀k j o e,j<=s.length->iP s k j o= .inl e->e<=s.length
 |0,j,o,e,hj,h=>by injection h with h;omega
 |k+1,j,o,e,hj,h=>by
  have ap0:=Eo (s:=s) k (j+1);have av7:=Eo (s:=s) k (j+2);have bf0:=Eo (s:=s) k (j+4);unfold iP at h
  by_cases hl:s.length<=j
  ·simp_all
  cases h1:I (get s j=10)with
  |true=>simp_all
  |false=>
  rw[h1]at h
  cases h1:I (get s j=34)with
  |true=>simp_all
  |false=>
  rw[h1]at h
  cases h1:I (get s j=92)with
  |false=>grind
  |true=>
  rw[h1]at h
  cases h1:I (get s (j+1)=110)with
  |true=>have:=iU (of_decide_eq_true h1) (by decide);grind
  |false=>
  rw[h1]at h
  cases h1:I (get s (j+1)=116)with
  |true=>have:=iU (of_decide_eq_true h1) (by decide);grind
  |false=>
  rw[h1]at h
  cases h1:I (get s (j+1)=34)with
  |true=>have:=iU (of_decide_eq_true h1) (by decide);grind
  |false=>
  rw[h1]at h
  cases h1:I (get s (j+1)=92)with
  |true=>have:=iU (of_decide_eq_true h1) (by decide);grind
  |false=>
  cases h1:I (get s (j+1)=120)with
  |false=>grind
  |true=>
  grind [jm,get,B8]
def TJ (hi:i<s.length)(h:oL s i= .inl e):e<=s.length:=by
 unfold oL at h
 cases hl:eW (get s i)with
 |true=>simp_all
 |false=>
  rw[hl]at h
  cases hd:dT (get s i)with
  |true=>
   unfold oh at h
   have fr:∀j,xj s i j= .inl e->e<=s.length:=λj h=>by
    unfold xj at h
    cases h5:(get s j=46)&&dT (get s (j+1))with
    |true=>rw[h5]at h;exact Pq h
    |false=>rw[h5]at h;exact Pq h
   cases h0:(get s i=48)&&(get s (i+1)=120)with
   |false=>grind
   |true=>
    rw[aA]at h0;have:=iU (of_decide_eq_true h0.2) (by decide);have h1:py s (i+18) (i+2)<=s.length:=xe FN _ _ (by omega);unfold mZ at h
    grind
  |false=>
   rw[hd]at h
   cases ue:I (get s i=34)with
   |true=>
    rw[ue]at h;have h:K3 i (iP s s.length (i+1) [])= .inl e:=h
    cases hr:iP s s.length (i+1) []with
    |inl e'=>rw[hr]at h;injection h with h;subst h;exact Eo _ _ _ _ (by omega) hr
    |inr y=>rw[hr]at h;cases h
   |false=>
    grind [Bw,oJ,p3,decide]
end Go.Abs.D
end

section
namespace Go.Abs.D
def nq (s:LI)(j:Nat):Bool:=(j<s.length)&& !(get s j=10)
def KY (s:LI)(j:Nat):Nat:=stop (nq s) s.length j
def blk (s:LI):Nat->Nat->Nat
 |0,j=>j
 |k+1,j=>
  bif(s.length<=j)then j else
  bif(get s j=32)then blk s k (j+1)else
  bif(get s j=9)then blk s k (j+1)else
  bif(get s j=13)then blk s k (j+1)else
  bif(get s j=45)&&(get s (j+1)=45)then blk s k (KY s j)else j
def blank (s:LI)(j:Nat):Nat:=blk s s.length j
def FP:∀j,s.length<=j->nq s j=false:=λj h=>by simp_all[nq,aa]
def Xb (h:j<=s.length):KY s j<=s.length:=xe FP _ _ h
def ab1 (h:get s j=45):j<KY s j:=by
 have hl:=iU h (by decide)
 have hq:nq s j=true:=by simp_all[nq,ab]
 have:=vG (q:=nq s) s.length (j+1);have e:=LB (q:=nq s) (N:=s.length) FP (k:=s.length) (j:=j) (by omega) hq
 grind [KY]
def Q6:∀k j,j<=s.length->blk s k j<=s.length/\j<=blk s k j
 |0,j,h=>⟨h,aF _⟩
 |k+1,j,h=>by
  unfold blk
  by_cases hl:s.length<=j
  ·simp_all
  have ih:=Q6 (s:=s) k (j+1) (by omega);rw[aa hl]
  cases I (get s j=32)with
  |true=>grind
  |false=>
  cases I (get s j=9)with
  |true=>grind
  |false=>
  cases I (get s j=13)with
  |true=>grind
  |false=>
  cases(get s j=45)&&(get s (j+1)=45)with
  |true=>
   have ih:=Q6 (s:=s) k (KY s j) (Xb h);have:=vG (q:=nq s) s.length j;refine⟨ih.1, ?_⟩;have:=ih.2;simp;unfold KY at this⊢;omega
  |false=>simp_all
variable{s:LI}(hs:s.length<=2097152)
include hs
def Qq (j:Nat):Evt λn=>mP (S.tab n) s j=U (an (s,(KY s j:Int),())):=
 adv (F:=λT j=>mP T s ↑j) (out:=λj=>an (s,j,())) dF FP
  (λT j h hq=>by
   have hj:=p8 FP hq;unfold nq at hq;rw[aA]at hq;show mP (S.step T) s j=mP T s ((j+1:Nat))
   rw[yC,c8 (by simp_all),c8 (dm hj),dK,c8 hq.2,eT (by omega)])
  (λT j h hq=>by
   show mP (S.step T) s j=_;rw[yC]
   by_cases hj:j<s.length
   ·unfold nq at hq
    grind [c8,dm,dK,dz,hq]
   simp_all[dz]) s.length j (by omega)
def QR (j:Nat):Evt λn=>kx (S.tab n) s j=U (an (s,(KY s j:Int),())):=
 adv (F:=λT j=>kx T s ↑j) (out:=λj=>an (s,j,())) dF FP
  (λT j h hq=>by
   have hj:=p8 FP hq;unfold nq at hq;rw[aA]at hq;show kx (S.step T) s j=kx T s ((j+1:Nat))
   rw[vc,c8 (by simp_all),c8 (dm hj),dK,c8 hq.2,eT (by omega)])
  (λT j h hq=>by
   show kx (S.step T) s j=_;rw[vc]
   by_cases hj:j<s.length
   ·unfold nq at hq
    grind [c8,dm,dK,dz,hq]
   simp_all[dz]) s.length j (by omega)
def BR (e:Nat)(y:(Int×Unit)⊕(Int×Unit)⊕Empty):Prop:=y= .inl (e,())\/y= .inr (.inl (e,()))
omit hs in
theorem YQ {j:Nat}(hj:j<s.length):pS s j [45,45]=(I (get s j=45)&&I (get s (j+1)=45)):=by
 unfold pS;rw[show([45,45]:LI).length=2 from rfl]
 by_cases h:2<=s.length - j
 ·rw[Em (s:=s) (by omega),ab h,bD];simp
 ·rw[aa h,lK (show s.length<=j+1 by omega),show I ((0:Int)=45)=aq from rfl,aT];rfl
def tw:∀k j,s.length<=j+k->j<=s.length->Evt λn=>∃y,gR (S.tab n) s j=U y/\BR (blk s k j) y
 |0,j,hk,hj=>by
  refine dF.up λn hb=> ?_
  show∃y,gR (S.step (S.tab n)) _ _=_/\_;rw[mT,dz (by simp_all)];exact⟨_,rfl, .inr rfl⟩
 |k+1,j,hk,hj=>by
  by_cases hl:s.length<=j
  ·refine dF.up λn hb=> ?_
   show∃y,gR (S.step (S.tab n)) _ _=_/\_;rw[mT,dz (by simp_all)];refine⟨_,rfl, .inr ?_⟩;simp_all[blk,ab]
  have ym:j<s.length:=(by omega);have qY:=dm ym
  have mL:I (j<(s.length:Int))=true:=by simp_all
  have w1:ar.wrap (j+1)=((j+1)):=eT (by omega);have ih:=tw k (j+1) (by omega) (by omega);unfold blk;rw[aa hl]
  by_cases c1:get s j=32
  ·refine ih.up λn h=> ?_
   grind [gR,mT,c8,dK,ab]
  by_cases c2:get s j=9
  ·refine ih.up λn h=> ?_
   show∃y,gR (S.step (S.tab n)) _ _=_/\_;rw[mT,c8 mL,c8 qY,dK,db c1,c8 qY,dn c2,w1,ab c2,aa c1];exact h
  by_cases c3:get s j=13
  ·refine ih.up λn h=> ?_
   show∃y,gR (S.step (S.tab n)) _ _=_/\_;rw[mT,c8 mL,c8 qY,dK,db c1,c8 qY,db c2,c8 qY,dn c3,w1,ab c3,aa c2,aa c1];exact h
  rw[aa c1,aa c2,aa c3]
  have start:∀n,(∀f:LI,strings_HasPrefix (S.tab n) (sub s ↑j (s.length:Int)) f=U (pS s j f,cW))->gR (S.step (S.tab n)) s j=_:=λn hp=>by
   rw[mT,c8 mL,c8 qY,dK,db c1,c8 qY,db c2,c8 qY,db c3,c8 (fO (by omega) (aF _)),hp,al,YQ (s:=s) ym]
  cases hd:(get s j=45)&&(get s (j+1)=45)with
  |true=>
   have US:get s j=45:=by
    simp_all
   have hg:=ab1 US;have hle:=Xb (s:=s) (j:=j) hj;have ih:=tw k (KY s j) (by omega) hle
   refine((ih.and (Qq hs j)).and (FE hs ym)).up λn ⟨⟨h,h6⟩,hp⟩=> ?_
   show∃y,gR (S.step (S.tab n)) _ _=_/\_;rw[start n hp,hd,c8 (by rfl),h6];exact h
  |false=>
   refine(FE hs ym).up λn hp=> ?_
   show∃y,gR (S.step (S.tab n)) _ _=_/\_;rw[start n hp,hd,dz (by rfl)];exact⟨_,rfl, .inl rfl⟩
def sK:∀k j,s.length<=j+k->j<=s.length->Evt λn=>∃y,fA (S.tab n) s j=U y/\BR (blk s k j) y
 |0,j,hk,hj=>by
  refine dF.up λn hb=> ?_
  show∃y,fA (S.step (S.tab n)) _ _=_/\_;rw[iG,dz (by simp_all)];exact⟨_,rfl, .inr rfl⟩
 |k+1,j,hk,hj=>by
  by_cases hl:s.length<=j
  ·refine dF.up λn hb=> ?_
   show∃y,fA (S.step (S.tab n)) _ _=_/\_;rw[iG,dz (by simp_all)];refine⟨_,rfl, .inr ?_⟩;simp_all[blk,ab]
  have ym:j<s.length:=(by omega);have qY:=dm ym
  have mL:I (j<(s.length:Int))=true:=by simp_all
  have w1:ar.wrap (j+1)=((j+1:Nat)):=eT (by omega);have ih:=sK k (j+1) (by omega) (by omega);unfold blk;rw[aa hl]
  by_cases c1:get s j=32
  ·refine ih.up λn h=> ?_
   grind [fA,iG,c8,dK,ab]
  by_cases c2:get s j=9
  ·refine ih.up λn h=> ?_
   show∃y,fA (S.step (S.tab n)) _ _=_/\_;rw[iG,c8 mL,c8 qY,dK,db c1,dn c2,w1,ab c2,aa c1];exact h
  by_cases c3:get s j=13
  ·refine ih.up λn h=> ?_
   show∃y,fA (S.step (S.tab n)) _ _=_/\_;rw[iG,c8 mL,c8 qY,dK,db c1,db c2,dn c3,w1,ab c3,aa c2,aa c1];exact h
  rw[aa c1,aa c2,aa c3]
  by_cases US:¬ get s j=45
  ·rw[aa US]
   refine dF.up λn hb=> ?_
   show∃y,fA (S.step (S.tab n)) _ _=_/\_;rw[iG,c8 mL,c8 qY,dK,db c1,db c2,db c3,c8 (by simp_all)];exact⟨_,rfl, .inl rfl⟩
  replace US:=bV.1 US
  by_cases Lg:¬ get s (j+1)=45
  ·rw[aa Lg,aT]
   refine dF.up λn hb=> ?_
   show∃y,fA (S.step (S.tab n)) _ _=_/\_;rw[iG,c8 mL,c8 qY,dK,db c1,db c2,db c3,dz (by simp_all),w1,hb.look,al,c8 (by simp_all)];exact⟨_,rfl, .inl rfl⟩
  replace Lg:=bV.1 Lg
  have hg:=ab1 US;have hle:=Xb (s:=s) (j:=j) hj;have ih:=sK k (KY s j) (by omega) hle
  refine((ih.and (QR hs j)).and dF).up λn ⟨⟨h,h6⟩,hb⟩=> ?_
  show∃y,fA (S.step (S.tab n)) _ _=_/\_;rw[iG,c8 mL,c8 qY,dK,db c1,db c2,db c3,dz (by simp_all),w1,hb.look,al,dz (by simp_all),h6,ab US,ab Lg];exact h
def tR (hj:j<=s.length):Evt λn=>mX (S.tab n) s j=U ((blank s j:Int),cW):=
 (tw hs s.length j (by omega) hj).up λn ⟨y,h,hr⟩=>by
  rw[Kx,h,al]
  rcases hr with rfl|rfl<;>rfl
def wR (hj:j<=s.length):Evt λn=>mQ (S.tab n) s j=U ((blank s j:Int),cW):=
 (sK hs s.length j (by omega) hj).up λn ⟨y,h,hr⟩=>by
  rw[Ff,h,al]
  rcases hr with rfl|rfl<;>rfl
end Go.Abs.D
end

section
namespace Go.Abs.D
def aS7:∀k:Nat,k<30->sgn (eD.getD k [])≠6:=by
 grind [sgn]
def Fw (h:oL s i= .inr t):1<=kd t/\kd t<=78/\kd t≠6/\(get s i=34->kd t=4):=by
 unfold oL at h
 cases hl:eW (get s i)with
 |true=>
  rw[hl]at h
  injection h with h
  subst h;have ue:get s i≠34:=(LK hl).2.1;unfold KW;simp;split
  ·rename_i hk;exact⟨by show 1<=((10+BC (sub s ↑i (zf s i))):Int);omega,by show((10+BC (sub s ↑i (zf s i))):Int)<=78;omega,by show((10+BC (sub s ↑i (zf s i))):Int)≠6;omega,λe=>absurd e ue⟩
  ·exact⟨by show 1<=1;decide,by show 1<=78;decide,by show 1≠6;decide,λe=>absurd e ue⟩
 |false=>
  rw[hl]at h
  cases hd:dT (get s i)with
  |true=>
   have ue:get s i≠34:=λe=>by rw[e]at hd;cases hd
   grind [OG,kd,absurd]
  |false=>
   rw[hd]at h
   cases ue:I (get s i=34)with
   |true=>
    rw[ue]at h;have h:K3 i (iP s s.length (i+1) [])= .inr t:=h
    cases hr:iP s s.length (i+1) []with
    |inl e=>rw[hr]at h;cases h
    |inr y=>
     rw[hr]at h
     injection h with h
     subst h;exact⟨by show 1<=4;decide,by show 4<=78;decide,by show 4≠6;decide,λ_=>rfl⟩
   |false=>
    have aV9:get s i≠34:=of_decide_eq_false ue;rw[ue]at h;unfold Bw oJ at h
    cases hk:I (pP (p3 s i)<30)with
    |false=>simp_all
    |true=>
     rw[hk]at h;simp only[ah]at h;rw[aa (Hy _)]at h
     injection h with h
     subst h;have hk:=of_decide_eq_true hk;have h1:=Z4 _ hk;have h2:=aS7 _ hk;refine⟨?_, ?_, ?_,λe=>absurd e aV9⟩
     ·show 1<=((sgn _):Int);omega
     ·show((sgn _):Int)<=78;omega
     ·show((sgn _):Int)≠6;omega
def lnd (t:di.den)(line:Int):di.den:=(t.1,t.2.1,t.2.2.1,line,t.2.2.2.2)
def foldI (a:LI):LI->Option (LI)
 |[]=>U a
 |k::ks=>match kV a k with| .left l=>foldI l ks|_=>az
def Dl:∀ks a b l k,foldI a ks=U b->kV b k= .left l->foldI a (ks++[k])=U l
 |[],a,b,l,k,h,ho=>by
  simp_all[kV,foldI]
 |k'::ks,a,b,l,k,h,ho=>by
  have h:(match kV a k' with| .left l=>foldI l ks|_=>az)=U b:=h;show(match kV a k' with| .left l=>foldI l (ks++[k])|_=>az)=U l
  cases hx:kV a k' with
  |no=>rw[hx]at h;cases h
  |gone=>rw[hx]at h;cases h
  |left m=>rw[hx]at h;exact Dl ks m b l k h ho
def al7 (s:LI)(t:di.den):Prop:=
 (∃(i:Nat) (line:Nat) (t0:di.den),i<s.length/\line<=i+1/\get s i≠10/\oL s i= .inr t0/\t=lnd t0 line)\/
 (∃(i:Nat) (line:Nat),i<s.length/\line<=i+1/\get s i=10/\t=(5,(i:Int),((i+1:Nat):Int),(line:Int),0,[],()))
def Jo (hi:i<s.length):i+ng can s i<=s.length:=by
 unfold ng;have h1:=ab0 (can:=can) hi;have h2:=Wz (s:=s) (Nat.le_of_lt hi)
 grind
def LH (h:∀k:Int,0<=k->k<=78->p k=q k) (s) (i):∀m acc:Nat,m<=78->mxK p s i m acc=mxK q s i m acc
 |0,_,_=>rfl
 |m+1,acc,hm=>by
  unfold mxK;rw[h _ (by omega) (by omega),LH h s i m _ (by omega)]
def Og (h:∀k:Int,0<=k->k<=78->p k=q k) (s) (i):ng p s i=ng q s i:=by
 unfold ng;rw[LH h s i 78 _ (aF _),h 1 (by decide) (by decide)]
def aa3:gdI [1000]:=λx hx=>by
 have h:Xi 1000=true:=by kernel_rfl
 simp_all[MV]
def aU3:gdS [100]:=λx hx=>by
 have h:Xf 100=true:=by kernel_rfl
 simp_all
def Rl (h:j<=s.length):blank s j<=s.length/\j<=blank s j:=Q6 _ _ h
variable{s:LI}(hs:s.length<=65536)(Hh:∀c∈s,isByte c)
include hs
def Lo (hb:gdS b)(hr:Reads cs top (b++[6]))(ES:cs.length<=1999900){i:Nat}(hi:i<s.length)(hw:WrongAt (lV b) (get s i)) (out) (line):
  Evt λn=>∀tok t12 t13 t14,tok.1≠7->jh (S.tab n) (cs,()) s top out line ↑i tok t12 t13 t14 aq=U (aE (an ((cs,()),[],top,((i+ng (lV b) s i:Nat):Int),()))):=
 ((ak5 cs ES b top hb hr).and (VB hs hi hw)).up λn ⟨hm,hx⟩ tok t12 t13 t14 h7=>by
  simp_all[oX,c8,dz,aa,al]
omit hs in
theorem YZ (cs:Cls)(top:Int)(i:Nat)(out:List di.den)(line:Int):Evt λn=>∀(tok:di.den)(e:Nat)(t13 t14:Int),tok.1≠7->jh (S.tab n) (cs,()) s top out line ↑i tok ↑e t13 t14 av=U (aE (an ((cs,()),[],top,(e:Int),()))):=
 dF.up λn _ tok e t13 t14 h7=>by
  simp_all[oX,dz,c8,ad]
def ON (cs:Cls) (top) (i:Nat) (out) (ho:out.length<=70000) (line) (tok:di.den){e:Nat}(he:tok.2.2.1=(e:Int))(NP:e<=s.length) (t13 t14):Evt λn=>jh (S.tab n) (cs,()) s top out line ↑i tok (-1) t13 t14 av=U (aE (aE (an ((cs,()),s,t14,out++[(t13,tok.2)],line,(blank s e:Int),())))):=
 (wR (s:=s) (by omega) (j:=e) NP).up λn P4=>by
  rw[oX,dz (by rfl),dz (by rfl),dz (by rfl),c8 (fU (by grind [lim])),he,P4,al]
def TV (cs:Cls) (top) (i:Nat) (out) (line) (tok:di.den){e:Nat}(he:tok.2.2.1=(e:Int))(h7:tok.1=7)(NP:e<=s.length) (t12 t13 t14):Evt λn=>jh (S.tab n) (cs,()) s top out line ↑i tok t12 t13 t14 aq=U (an ((cs,()),s,top,out,line,(blank s e:Int),())):=
 (wR (s:=s) (by omega) (j:=e) NP).up λn P4=>by
  simp_all[oX,c8,ab,al]
abbrev W16:Type:=((List kE.den×Unit)×LI×Int×List di.den×Int×Int×Unit)⊕((List kE.den×Unit)×List di.den×kE.den)⊕((List kE.den×Unit)×LI×Int×List di.den×Int×Int×Unit)⊕Empty
omit hs in
theorem S1 (y:W16):Uk (λov=>U (an ov:W16)) (λov=>U (aE (an ov))) (λov=>U (aE (aE (an ov)))) y=U y:=by
 rcases y with y|y|y|y
 ·rfl
 ·rfl
 ·rfl
 grind
omit hs in
theorem Bo {k:Int}(hk:1<=k){cs ds:Cls}{top oq:Int}{ok:Bool}{out:List di.den}{line:Int}{i:Nat}{n:Nat}(hF:od (S.tab n) (cs,()) top k=U ((oq,ok,()),(ds,()),(),(),())){tok:di.den}{t12:Int}{y:W16}
  (h:jh (S.tab n) (ds,()) s top out line (i:Int) tok t12 k oq ok=U y):fB (S.step (S.tab n)) (cs,()) s top out line ↑i tok t12 k=U y:=by
 grind [wy,c8,S1]
omit hs in
theorem V0 {cs:Cls}{top:Int}{out:List di.den}{line:Int}{i:Nat}{n:Nat}{tok:di.den}{t12:Int}{y:W16}
  (h:jh (S.tab n) (cs,()) s top out line (i:Int) tok t12 0 top aq=U y):fB (S.step (S.tab n)) (cs,()) s top out line ↑i tok t12 0=U y:=by
 rw[wy,dz (by rfl)]
 grind [jh,bind,S1]
def Tf (hb:gdS b)(hr:Reads cs top (b++[6]))(ES:cs.length<=1999800){i:Nat}(hi:i<s.length){k:Int}(h1:1<=k)(bd5:k<=78)(hw:lV b k=aq->WrongAt (lV b) (get s i)) (out) (line) (e:Nat):
  Evt λn=>∀tok t12,tok.1≠7->(lV b k=av->t12=(e:Int))->∃c t,fB (S.tab n) (cs,()) s top out line ↑i tok t12 k=U (aE (an (c,[],t,((bif lV b k then e else i+ng (lV b) s i:Nat):Int),()))):=by
 obtain⟨ds,oq,hd,_,hF⟩:=EC (k:=k) (by omega) bd5 cs (by omega) b top hb.ok hr;have hk:Au (tJ b k) (6=k)=lV b k:=rfl;rw[hk]at hF
 cases hc:lV b k with
 |false=>
  rw[hc]at hF
  exact(hF.and (Lo hs hb hr.mono (by grind) hi (hw hc) out line)).up λn ⟨hF,zT⟩ tok t12 h7 _=>⟨_,_,Bo h1 hF (zT tok t12 k oq h7)⟩
 |true=>
  rw[hc]at hF
  refine(hF.and (YZ (s:=s) (cs++ds) top i out line)).up λn ⟨hF,zT⟩ tok t12 h7 ht=> ?_
  rw[ht rfl];exact⟨_,_,Bo h1 hF (zT tok e k oq h7)⟩
def aB8 (s:LI)(out:List di.den)(line i:Nat)(a:LI)(cs:Cls)(top:Int):Prop:=
 (∃p:Nat,p<=s.length/\(Evt λn=>∃l,eK (S.tab n) s out (a++[6]) (line:Int) (i:Int)=U (an ([],l,(p:Int),())))/\
  Evt λn=>∃c t,dS (S.tab n) (cs,()) s top out (line:Int) (i:Int)=U (an (c,[],t,(p:Int),())))\/
 (∃(F9:List di.den) (a' b':LI) (F5:Cls) (oq:Int) (CX:Nat),gdI a'/\gdS b'/\NI a'=NS b'/\Reads F5 oq (b'++[6])/\F5.length<=1999900/\F9.length<=s.length/\CX<=s.length+1/\
  foldI [1000] (F9.map kd)=U a'/\(∀t∈F9,al7 s t)/\
  (Evt λn=>eK (S.tab n) s out (a++[6]) line i=U (aE (an (F9,a'++[6],()))))/\
  Evt λn=>dS (S.tab n) (cs,()) s top out line i=U (aE (an ((F5,()),s,oq,F9,(CX:Int),()))))
include Hh in
theorem YB:∀(d i line:Nat)(out:List di.den)(a b:LI)(cs:Cls)(top:Int),s.length<i+d->i<=s.length->line<=i+1->out.length<=i->gdI a->gdS b->NI a=NS b->Reads cs top (b++[6])->cs.length<=20*i+2->
    foldI [1000] (out.map kd)=U a->(∀t∈out,al7 s t)->aB8 s out line i a cs top:=by
  have UR:s.length<=2097152:=(by omega);intro d
  induction d with
  |zero=>omega
  |succ d ih=>
    intro i line out a b cs top hd hi ae7 ho ha hb hn hr ES hf aM9
    by_cases hl:s.length<=i
    ·
      refine .inr ⟨out,a,b,cs,top,line,ha,hb,hn,hr,by omega,by omega,by omega,hf,aM9,dF.up λn _=> ?_,dF.up λn _=> ?_⟩
      · show eK (S.step (S.tab n)) _ _ _ _ _=_
        rw[rN,dz (by simp;omega)]
      · show dS (S.step (S.tab n)) _ _ _ _ _ _=_
        rw[pU,dz (by simp;omega)]
    have ym:i<s.length:=(by omega)
    have mL:I ((i:Int)<(s.length:Int))=true:=by simp;omega
    have qY:=dm ym;have w1:ar.wrap ((i:Int)+1)=((i+1:Nat):Int):=eT (by omega);have wl:ar.wrap ((line:Int)+1)=((line+1:Nat):Int):=eT (by omega)
    have tb:∀x:di.den,fits (out.length+([x]:List di.den).length)=true:=λx=>fU (by unfold lim;simp;omega)
    have P5:∀k:Int,0<=k->k<=78->yk a k=lV b k:=λk h0 h1=>OT ha hb hn h0 h1
    by_cases xo:get s i=10
    ·
      have Qk:=Rl (s:=s) (j:=i+1) (by omega);obtain⟨ds,oq,ar3,hR,hF⟩:=EC (k:=5) (by decide) (by decide) cs (by omega) b top hb.ok hr;have hk:Au (tJ b 5) (I ((6:Int)=5))=lV b 5:=rfl;rw[hk]at hF;have s6:=JQ (k:=5) (by decide) (by decide) a ha;have hk:Au (kV a 5) (I ((6:Int)=5))=yk a 5:=rfl;rw[hk,P5 5 (by decide) (by decide)]at s6
      cases hc:lV b 5 with
      |false=>
        rw[hc]at hF s6;have ih:=ih (blank s (i+1)) (line+1) out a b (cs++ds) top (by omega) Qk.1 (by omega) (by omega) ha hb hn hr.mono (by simp;omega) hf aM9
        have GF:∀n,nY (S.tab n) (a++[6]) 5=U (aq,cW)->mX (S.tab n) s ((i+1:Nat):Int)=U ((blank s (i+1):Int),cW)->eK (S.step (S.tab n)) s out (a++[6]) (line:Int) (i:Int)=eK (S.tab n) s out (a++[6]) ((line+1:Nat):Int) (blank s (i+1):Int):=λn s6 P4=>by
          rw[rN,c8 mL,c8 qY,dK,dn xo,s6,al,dz (by rfl),w1,P4,al,wl]
        have P6:Evt λn=>fB (S.tab n) (cs,()) s top out ((line+1:Nat):Int) ↑i (7,(i:Int),((i+1:Nat):Int),(line:Int),0,([]:LI),()) (-1) 5=U (an ((cs++ds,()),s,top,out,((line+1:Nat):Int),(blank s (i+1):Int),())):=
          (hF.and (TV hs (cs++ds) top i out ((line+1:Nat):Int) (7,(i:Int),((i+1:Nat):Int),(line:Int),0,([]:LI),()) (e:=i+1) rfl rfl (by omega) (-1) 5 oq)).up λn ⟨hF,zT⟩=>Bo (by decide) hF zT
        have GC:∀n,iH (S.tab n) s (i:Int)=U (((7,(i:Int),((i+1:Nat):Int),0,0,([]:LI),()), -1,()),cW)->fB (S.tab n) (cs,()) s top out ((line+1:Nat):Int) ↑i (7,(i:Int),((i+1:Nat):Int),(line:Int),0,([]:LI),()) (-1) 5=U (an ((cs++ds,()),s,top,out,((line+1:Nat):Int),(blank s (i+1):Int),()))->
            dS (S.step (S.tab n)) (cs,()) s top out (line:Int) (i:Int)=dS (S.tab n) (cs++ds,()) s top out ((line+1:Nat):Int) (blank s (i+1):Int):=λn Hg rP=>by
          rw[pU,c8 mL,Hg,al];dsimp only;rw[c8 (by rfl),wl,rP];rfl
        have Hg:=A6 UR ym xo;have P4:=tR (s:=s) UR (j:=i+1) (by omega)
        rcases ih with⟨p,hp,e1,e2⟩|⟨F9,a',b',F5,Kd,CX,g1,g2,g3,g4,g5,g6,g7,g8,g9,e1,e2⟩
        · refine .inl ⟨p,hp,((e1.and s6).and P4).up λn ⟨⟨⟨l,h⟩,hc⟩,hk⟩=>⟨l, ?_⟩,((e2.and Hg).and P6).up λn ⟨⟨⟨c,t,h⟩,Hg⟩,rP⟩=>⟨c,t, ?_⟩⟩
          · show eK (S.step (S.tab n)) _ _ _ _ _=_
            rw[GF n hc hk,h]
          · show dS (S.step (S.tab n)) _ _ _ _ _ _=_
            rw[GC n Hg rP,h]
        · refine .inr ⟨F9,a',b',F5,Kd,CX,g1,g2,g3,g4,g5,g6,g7,g8,g9,((e1.and s6).and P4).up λn ⟨⟨h,hc⟩,hk⟩=> ?_,((e2.and Hg).and P6).up λn ⟨⟨h,Hg⟩,rP⟩=> ?_⟩
          · show eK (S.step (S.tab n)) _ _ _ _ _=_
            rw[GF n hc hk,h]
          · show dS (S.step (S.tab n)) _ _ _ _ _ _=_
            rw[GC n Hg rP,h]
      |true=>
        rw[hc]at hF s6;obtain⟨l,m,ae4,aW7,gl,gm,ad2⟩:=Ln ha hb hn (k:=5) (by decide) (by decide) (by decide) (by rw[P5 5 (by decide) (by decide)];exact hc);have qc:=step_ok (k:=5) (by decide) (by decide) (by decide) a ha;rw[ae4]at qc
        have ih:=ih (blank s (i+1)) (line+1) (out++[(5,(i:Int),((i+1:Nat):Int),(line:Int),0,([]:LI),())]) l m (cs++ds) oq (by omega) Qk.1 (by omega) (by simp;omega) gl gm ad2 (hR m aW7) (by simp;omega)
          (by rw[bq2];exact Dl _ _ a l 5 hf ae4) (λt ht=>(aP.1 ht).elim (aM9 t) λht=> .inr ⟨i,line,ym,ae7,xo,by simpa using ht⟩)
        have GF:∀n,nY (S.tab n) (a++[6]) 5=U (av,cW)->tC (S.tab n) (a++[6]) 5=U (l++[6],cW)->mX (S.tab n) s ((i+1:Nat):Int)=U ((blank s (i+1):Int),cW)->eK (S.step (S.tab n)) s out (a++[6]) (line:Int) (i:Int)=eK (S.tab n) s (out++[(5,(i:Int),((i+1:Nat):Int),(line:Int),0,([]:LI),())]) (l++[6]) ((line+1:Nat):Int) (blank s (i+1):Int):=λn s6 qc P4=>by
          rw[rN,c8 mL,c8 qY,dK,dn xo,s6,al,c8 (by rfl),qc,al,c8 (tb _),w1,P4,al,wl]
        have P6:Evt λn=>fB (S.tab n) (cs,()) s top out ((line+1:Nat):Int) ↑i (7,(i:Int),((i+1:Nat):Int),(line:Int),0,([]:LI),()) (-1) 5=U (aE (aE (an ((cs++ds,()),s,oq,out++[(5,(i:Int),((i+1:Nat):Int),(line:Int),0,([]:LI),())],((line+1:Nat):Int),(blank s (i+1):Int),())))):=
          (hF.and (ON hs (cs++ds) top i out (by omega) ((line+1:Nat):Int) (7,(i:Int),((i+1:Nat):Int),(line:Int),0,([]:LI),()) (e:=i+1) rfl (by omega) 5 oq)).up λn ⟨hF,zT⟩=>Bo (by decide) hF zT
        have GC:∀n,iH (S.tab n) s (i:Int)=U (((7,(i:Int),((i+1:Nat):Int),0,0,([]:LI),()), -1,()),cW)->fB (S.tab n) (cs,()) s top out ((line+1:Nat):Int) ↑i (7,(i:Int),((i+1:Nat):Int),(line:Int),0,([]:LI),()) (-1) 5=U (aE (aE (an ((cs++ds,()),s,oq,out++[(5,(i:Int),((i+1:Nat):Int),(line:Int),0,([]:LI),())],((line+1:Nat):Int),(blank s (i+1):Int),()))))->
            dS (S.step (S.tab n)) (cs,()) s top out (line:Int) (i:Int)=dS (S.tab n) (cs++ds,()) s oq (out++[(5,(i:Int),((i+1:Nat):Int),(line:Int),0,([]:LI),())]) ((line+1:Nat):Int) (blank s (i+1):Int):=λn Hg rP=>by
          rw[pU,c8 mL,Hg,al];dsimp only;rw[c8 (by rfl),wl,rP];rfl
        have Hg:=A6 UR ym xo;have P4:=tR (s:=s) UR (j:=i+1) (by omega)
        rcases ih with⟨p,hp,e1,e2⟩|⟨F9,a',b',F5,Kd,CX,g1,g2,g3,g4,g5,g6,g7,g8,g9,e1,e2⟩
        · refine .inl ⟨p,hp,(((e1.and s6).and qc).and P4).up λn ⟨⟨⟨⟨l',h⟩,hc⟩,qc⟩,hk⟩=>⟨l', ?_⟩,((e2.and Hg).and P6).up λn ⟨⟨⟨c,t,h⟩,Hg⟩,rP⟩=>⟨c,t, ?_⟩⟩
          · show eK (S.step (S.tab n)) _ _ _ _ _=_
            rw[GF n hc qc hk,h]
          · show dS (S.step (S.tab n)) _ _ _ _ _ _=_
            rw[GC n Hg rP,h]
        · refine .inr ⟨F9,a',b',F5,Kd,CX,g1,g2,g3,g4,g5,g6,g7,g8,g9,(((e1.and s6).and qc).and P4).up λn ⟨⟨⟨h,hc⟩,qc⟩,hk⟩=> ?_,((e2.and Hg).and P6).up λn ⟨⟨h,Hg⟩,rP⟩=> ?_⟩
          · show eK (S.step (S.tab n)) _ _ _ _ _=_
            rw[GF n hc qc hk,h]
          · show dS (S.step (S.tab n)) _ _ _ _ _ _=_
            rw[GC n Hg rP,h]
    have Ke:=zr UR ym xo;have R5:=Gk UR Hh ym;have Qf:=Qv hs a ha i ym;rw[Og P5 s i]at Qf
    have wI:∀n,oY (S.tab n) (a++[6]) s (i:Int)=U ((ng (lV b) s i:Int),dR)->WrongAt (lV b) (get s i)->((oY (S.tab n) (a++[6]) s ↑i).bind λd61=>U (an (([]:List di.den),a++[6],ar.wrap ((i:Int)+d61.1),())))=(U (an ([],a++[6],((i+ng (lV b) s i:Nat):Int),())):Option ((List di.den×LI×Int×Unit)⊕(List di.den×LI×Unit)⊕Empty)):=λn h hw=>by
      obtain⟨l1,_,_⟩:=Ju ym hw;rw[h,al];dsimp only;rw[wrap64 _ (by omega) (by omega)];rfl
    have R8:∀n t' bd,lT (S.tab n) s (i:Int)=U ((t',bd,()),cW)->eK (S.step (S.tab n)) s out (a++[6]) (line:Int) (i:Int)=_:=λn t' bd h=>by
      rw[rN,c8 mL,c8 qY,dK,db xo,h,al]
    have F4:∀n (t':di.den) (bd:Int),iH (S.tab n) s (i:Int)=U ((t',bd,()),cW)->t'.1≠7->dS (S.step (S.tab n)) (cs,()) s top out (line:Int) (i:Int)=(fB (S.tab n) (cs,()) s top out (line:Int) ↑i (t'.1,t'.2.1,t'.2.2.1,(line:Int),t'.2.2.2.2) bd t'.1).bind (Uk
       (λpB=>dS (S.tab n) pB.1 pB.2.1 pB.2.2.1 pB.2.2.2.1 pB.2.2.2.2.1 pB.2.2.2.2.2.1)
       (λpB=>U (an pB))
       (λpB=>dS (S.tab n) pB.1 pB.2.1 pB.2.2.1 pB.2.2.2.1 pB.2.2.2.2.1 pB.2.2.2.2.2.1)):=λn t' bd h h7=>by
      rw[pU,c8 mL,h,al];dsimp only;rw[db h7]
    have ZP:∀n (t':di.den) (bd:Bool) (k:Int) (e:Nat),t'.1=k->k≠0->lT (S.tab n) s (i:Int)=U ((t',bd,()),cW)->nY (S.tab n) (a++[6]) k=U (lV b k,cW)->oY (S.tab n) (a++[6]) s (i:Int)=U ((ng (lV b) s i:Int),dR)->(lV b k=av->bd=av/\t'.2.2.1=(e:Int))->(lV b k=aq->WrongAt (lV b) (get s i))->
        eK (S.step (S.tab n)) s out (a++[6]) (line:Int) (i:Int)=U (an ([],a++[6],((bif lV b k then e else i+ng (lV b) s i:Nat):Int),())):=λn t' bd k e hk h0 hx hc X3 h1 h2=>by
      rw[R8 n t' bd hx];dsimp only;rw[db (by rw[hk];exact h0)];rw[hk,hc,al]
      cases hv:lV b k with
      |false=>
        rw[c8 (by rfl)];exact wI n X3 (h2 hv)
      |true=>
        obtain⟨rfl,e2⟩:=h1 hv;rw[dz (by rfl),c8 rfl,e2];rfl
    have Xw:∀k:Int,0<=k->k<=78->Evt λn=>nY (S.tab n) (a++[6]) k=U (lV b k,cW):=λk h0 h1=>by
      have s6:=JQ h0 h1 a ha;have hk:Au (kV a k) (I ((6:Int)=k))=yk a k:=rfl;rw[hk,P5 k h0 h1]at s6;exact s6
    cases hx:oL s i with
    |inl e=>
      rw[hx]at Ke R5;have Ci:lV b 2=lV b 3:=Fx hb
      have pe:∀c:Bool,(bif c then e else i+ng (lV b) s i)<=s.length:=λc=>by cases c;exact Jo ym;exact TJ ym hx
      cases hd:dT (get s i)with
      |true=>
        have ue:get s i≠34:=λe=>by rw[e]at hd;cases hd
        have hw:lV b 2=aq->WrongAt (lV b) (get s i):=λh=>⟨λ_=>⟨h,by rw[<-Ci];exact h⟩,λe=>absurd e ue⟩
        have kind:∀k:Int,kB (get s i) k=av->k=2\/k=3:=λk h=>by
          unfold kB at h;rw[hd]at h;have h:k23 k=true:=h;unfold k23 at h;simpa only[cO,ad]using h
        refine .inl ⟨bif lV b 2 then e else i+ng (lV b) s i,pe (lV b 2),((((Xw 2 (by decide) (by decide)).and (Xw 3 (by decide) (by decide))).and Qf).and R5).up λn ⟨⟨⟨c2,c3⟩,X3⟩,t',bd,h,hR⟩=>⟨a++[6], ?_⟩, ?_⟩
        · show eK (S.step (S.tab n)) _ _ _ _ _=_
          obtain⟨r1,r2,r3⟩:bd=av/\t'.2.2.1=(e:Int)/\kB (get s i) t'.1=true:=hR
          rcases kind _ r3 with hk|hk
          · exact ZP n t' bd 2 e hk (by decide) h c2 X3 (λ_=>⟨r1,r2⟩) hw
          · rw[Ci]
            exact ZP n t' bd 3 e hk (by decide) h c3 X3 (λ_=>⟨r1,r2⟩) (λh=>hw (by rw[Ci];exact h))
        · refine(((Tf hs hb hr (by omega) ym (k:=2) (by decide) (by decide) hw out line e).and (Tf hs hb hr (by omega) ym (k:=3) (by decide) (by decide) (λh=>hw (by rw[Ci];exact h)) out line e)).and Ke).up λn ⟨⟨b2,b3⟩,t',bd,h,hR⟩=> ?_
          obtain⟨r1,r3⟩:bd=(e:Int)/\kB (get s i) t'.1=true:=hR;show∃c t,dS (S.step (S.tab n)) _ _ _ _ _ _=_
          rcases kind _ r3 with hk|hk
          · obtain⟨c,t,hh⟩:=b2 (t'.1,t'.2.1,t'.2.2.1,(line:Int),t'.2.2.2.2) bd (by show t'.1≠7;rw[hk];decide) (λ_=>r1)
            rw[F4 n t' bd h (by rw[hk];decide)];rw[<-hk]at hh;refine⟨c,t, ?_⟩;rw[hh,hk];rfl
          · obtain⟨c,t,hh⟩:=b3 (t'.1,t'.2.1,t'.2.2.1,(line:Int),t'.2.2.2.2) bd (by show t'.1≠7;rw[hk];decide) (λ_=>r1)
            rw[F4 n t' bd h (by rw[hk];decide)];rw[<-hk]at hh;refine⟨c,t, ?_⟩;rw[hh,hk,Ci];rfl
      |false=>
        by_cases ue:get s i=34
        · have hw:lV b 4=aq->WrongAt (lV b) (get s i):=λh=>⟨λe=>(by rw[hd]at e;cases e),λ_=>h⟩
          have kind:∀k:Int,kB (get s i) k=av->k=4:=λk h=>by
            unfold kB at h;rw[hd,ab ue]at h;exact of_decide_eq_true h
          refine .inl ⟨bif lV b 4 then e else i+ng (lV b) s i,pe (lV b 4),(((Xw 4 (by decide) (by decide)).and Qf).and R5).up λn ⟨⟨c4,X3⟩,t',bd,h,hR⟩=>⟨a++[6], ?_⟩,((Tf hs hb hr (by omega) ym (k:=4) (by decide) (by decide) hw out line e).and Ke).up λn ⟨b4,t',bd,h,hR⟩=> ?_⟩
          · show eK (S.step (S.tab n)) _ _ _ _ _=_
            obtain⟨r1,r2,r3⟩:bd=av/\t'.2.2.1=(e:Int)/\kB (get s i) t'.1=true:=hR;exact ZP n t' bd 4 e (kind _ r3) (by decide) h c4 X3 (λ_=>⟨r1,r2⟩) hw
          · obtain⟨r1,r3⟩:bd=(e:Int)/\kB (get s i) t'.1=true:=hR
            show∃c t,dS (S.step (S.tab n)) _ _ _ _ _ _=_;have hk:=kind _ r3;obtain⟨c,t,hh⟩:=b4 (t'.1,t'.2.1,t'.2.2.1,(line:Int),t'.2.2.2.2) bd (by show t'.1≠7;rw[hk];decide) (λ_=>r1);rw[F4 n t' bd h (by rw[hk];decide)];rw[<-hk]at hh;refine⟨c,t, ?_⟩;rw[hh,hk];rfl
        · have hw:WrongAt (lV b) (get s i):=⟨λe=>(by rw[hd]at e;cases e),λe=>absurd e ue⟩
          have kind:∀k:Int,kB (get s i) k=av->k=0:=λk h=>by
            unfold kB at h;rw[hd,aa ue]at h;exact of_decide_eq_true h
          refine .inl ⟨i+ng (lV b) s i,Jo ym,(Qf.and R5).up λn ⟨X3,t',bd,h,hR⟩=>⟨a++[6], ?_⟩, ?_⟩
          · show eK (S.step (S.tab n)) _ _ _ _ _=_
            obtain⟨r1,r2,r3⟩:bd=av/\t'.2.2.1=(e:Int)/\kB (get s i) t'.1=true:=hR;rw[R8 n t' bd h];dsimp only;rw[dn (kind _ r3)];exact wI n X3 hw
          · have rP:Evt λn=>∀(tok:di.den) (t12:Int),tok.1≠7->fB (S.tab n) (cs,()) s top out (line:Int) ↑i tok t12 0=U (aE (an ((cs,()),[],top,((i+ng (lV b) s i:Nat):Int),()))):=
              (Lo hs hb hr (by omega) ym hw out line).up λn zT tok t12 h7=>V0 (zT tok t12 0 top h7)
            refine(rP.and Ke).up λn ⟨rP,t',bd,h,hR⟩=>⟨(cs,()),top, ?_⟩
            obtain⟨r1,r3⟩:bd=(e:Int)/\kB (get s i) t'.1=true:=hR;have hk:=kind _ r3;rw[F4 n t' bd h (by rw[hk];decide)];have hh:=rP (t'.1,t'.2.1,t'.2.2.1,(line:Int),t'.2.2.2.2) bd (by show t'.1≠7;rw[hk];decide);rw[<-hk]at hh;rw[hh];rfl
    |inr t=>
      rw[hx]at Ke R5;obtain⟨k1,ax0,k6,bg4⟩:=Fw hx;obtain⟨⟨e,he,hie,NP⟩,h7⟩:=Ly UR ym hx
      cases hc:lV b (kd t)with
      |false=>
        have Ci:lV b 2=lV b 3:=Fx hb
        have hw:WrongAt (lV b) (get s i):=⟨λhd=>by
            have hl:eW (get s i)=false:=by
              cases h:eW (get s i)with
              |false=>rfl
              |true=>rw[Ee h]at hd;cases hd
            rcases(Ey hx).2.1 hl hd with e|e
            · rw[e]at hc;exact⟨hc,by rw[<-Ci];exact hc⟩
            · rw[e]at hc;exact⟨by rw[Ci];exact hc,hc⟩,λe=>by rw[bg4 e]at hc;exact hc⟩
        refine .inl ⟨i+ng (lV b) s i,Jo ym,(((Xw (kd t) (by omega) ax0).and Qf).and R5).up λn ⟨⟨ck,X3⟩,t',bd,h,hR⟩=>⟨a++[6], ?_⟩,((Tf hs hb hr (by omega) ym k1 ax0 (λ_=>hw) out line 0).and Ke).up λn ⟨b4,t',bd,h,hR⟩=> ?_⟩
        · show eK (S.step (S.tab n)) _ _ _ _ _=_
          obtain⟨r1,r2⟩:bd=aq/\t'=t:=hR;subst r2;have:=ZP n t' bd (kd t') 0 rfl (by omega) h ck X3 (λe=>by rw[hc]at e;cases e) (λ_=>hw);rw[hc]at this;exact this
        · obtain⟨r1,r2⟩:bd= -1/\t'=t:=hR
          subst r2;show∃c t,dS (S.step (S.tab n)) _ _ _ _ _ _=_;obtain⟨c,t,hh⟩:=b4 (t'.1,t'.2.1,t'.2.2.1,(line:Int),t'.2.2.2.2) bd h7 (λe=>by rw[hc]at e;cases e);rw[F4 n t' bd h h7];rw[hc]at hh;have hh:fB (S.tab n) (cs,()) s top out (line:Int) ↑i (t'.1,t'.2.1,t'.2.2.1,(line:Int),t'.2.2.2.2) bd t'.1=_:=hh;exact⟨c,t,by rw[hh];rfl⟩
      |true=>
        have Qk:=Rl (s:=s) (j:=e) NP;obtain⟨ds,oq,ar3,hR,hF⟩:=EC (k:=kd t) (by omega) ax0 cs (by omega) b top hb.ok hr;have hk:Au (tJ b (kd t)) (I ((6:Int)=kd t))=lV b (kd t):=rfl;rw[hk,hc]at hF;obtain⟨l,m,ae4,aW7,gl,gm,ad2⟩:=Ln ha hb hn (k:=kd t) (by omega) ax0 k6 (by rw[P5 _ (by omega) ax0];exact hc);have qc:=step_ok (k:=kd t) (by omega) ax0 k6 a ha;rw[ae4]at qc;have s6:=Xw (kd t) (by omega) ax0;rw[hc]at s6
        have ih:=ih (blank s e) line (out++[lnd t line]) l m (cs++ds) oq (by omega) Qk.1 (by omega) (by simp;omega) gl gm ad2 (hR m aW7) (by simp;omega)
          (by rw[bq2];exact Dl _ _ a l (kd t) hf ae4) (λx ht=>(aP.1 ht).elim (aM9 x) λht=> .inl ⟨i,line,t,ym,ae7,xo,hx,by simpa using ht⟩)
        have P4:=tR (s:=s) UR (j:=e) NP
        have GF:∀n,lT (S.tab n) s (i:Int)=U ((t,aq,()),cW)->nY (S.tab n) (a++[6]) (kd t)=U (av,cW)->tC (S.tab n) (a++[6]) (kd t)=U (l++[6],cW)->mX (S.tab n) s (e:Int)=U ((blank s e:Int),cW)->eK (S.step (S.tab n)) s out (a++[6]) (line:Int) (i:Int)=eK (S.tab n) s (out++[lnd t line]) (l++[6]) (line:Int) (blank s e:Int):=λn RY s6 qc P4=>by
          have s6:nY (S.tab n) (a++[6]) t.1=_:=s6;have qc:tC (S.tab n) (a++[6]) t.1=_:=qc
          have X9:¬ t.1=0:=λe=>by have e:kd t=0:=e;omega
          rw[R8 n t aq RY];dsimp only;rw[db X9,s6,al,dz (by rfl),dz rfl,qc,al,c8 (tb _),he,P4,al];unfold lnd;rw[he]
        have P6:Evt λn=>fB (S.tab n) (cs,()) s top out (line:Int) ↑i (t.1,t.2.1,t.2.2.1,(line:Int),t.2.2.2.2) (-1) (kd t)=U (aE (aE (an ((cs++ds,()),s,oq,out++[lnd t line],(line:Int),(blank s e:Int),())))):=
          (hF.and (ON hs (cs++ds) top i out (by omega) (line:Int) (t.1,t.2.1,t.2.2.1,(line:Int),t.2.2.2.2) (e:=e) he NP (kd t) oq)).up λn ⟨hF,zT⟩=>Bo k1 hF zT
        have GC:∀n,iH (S.tab n) s (i:Int)=U ((t, -1,()),cW)->fB (S.tab n) (cs,()) s top out (line:Int) ↑i (t.1,t.2.1,t.2.2.1,(line:Int),t.2.2.2.2) (-1) (kd t)=U (aE (aE (an ((cs++ds,()),s,oq,out++[lnd t line],(line:Int),(blank s e:Int),()))))->
            dS (S.step (S.tab n)) (cs,()) s top out (line:Int) (i:Int)=dS (S.tab n) (cs++ds,()) s oq (out++[lnd t line]) (line:Int) (blank s e:Int):=λn Hg rP=>by
          have rP:fB (S.tab n) (cs,()) s top out (line:Int) ↑i (t.1,t.2.1,t.2.2.1,(line:Int),t.2.2.2.2) (-1) t.1=_:=rP;rw[F4 n t (-1) Hg h7,rP];rfl
        have ab8:Evt λn=>lT (S.tab n) s (i:Int)=U ((t,aq,()),cW):=R5.mono λn ⟨t',bd,h,hR⟩=>by
          obtain⟨r1,r2⟩:bd=aq/\t'=t:=hR;rw[r1,r2]at h;exact h
        have XE:Evt λn=>iH (S.tab n) s (i:Int)=U ((t, -1,()),cW):=Ke.mono λn ⟨t',bd,h,hR⟩=>by
          obtain⟨r1,r2⟩:bd= -1/\t'=t:=hR;rw[r1,r2]at h;exact h
        rcases ih with⟨p,hp,e1,e2⟩|⟨F9,a',b',F5,Kd,CX,g1,g2,g3,g4,g5,g6,g7,g8,g9,e1,e2⟩
        · refine .inl ⟨p,hp,((((e1.and ab8).and s6).and qc).and P4).up λn ⟨⟨⟨⟨⟨l',h⟩,RY⟩,hc⟩,qc⟩,hk⟩=>⟨l', ?_⟩,((e2.and XE).and P6).up λn ⟨⟨⟨c,t,h⟩,Hg⟩,rP⟩=>⟨c,t, ?_⟩⟩
          · show eK (S.step (S.tab n)) _ _ _ _ _=_
            rw[GF n RY hc qc hk,h]
          · show dS (S.step (S.tab n)) _ _ _ _ _ _=_
            rw[GC n Hg rP,h]
        · refine .inr ⟨F9,a',b',F5,Kd,CX,g1,g2,g3,g4,g5,g6,g7,g8,g9,((((e1.and ab8).and s6).and qc).and P4).up λn ⟨⟨⟨⟨h,RY⟩,hc⟩,qc⟩,hk⟩=> ?_,((e2.and XE).and P6).up λn ⟨⟨h,Hg⟩,rP⟩=> ?_⟩
          · show eK (S.step (S.tab n)) _ _ _ _ _=_
            rw[GF n RY hc qc hk,h]
          · show dS (S.step (S.tab n)) _ _ _ _ _ _=_
            rw[GC n Hg rP,h]
include Hh in
theorem Yh:(∃p:Nat,p<=s.length/\(Evt λn=>∃l,vO (S.tab n) s=U (([],l,(p:Int),()),cV))/\Evt λn=>∃c t,ss (S.tab n) ([],()) s=U (([],t,(p:Int),()),c,(),()))\/
  (∃(out:List di.den) (a b:LI) (cs:Cls) (top:Int) (line:Nat),gdI a/\gdS b/\NI a=NS b/\Reads cs top (b++[6])/\cs.length<=1999900/\out.length<=s.length/\line<=s.length+1/\
   foldI [1000] (out.map kd)=U a/\(∀t∈out,al7 s t)/\
   (Evt λn=>vO (S.tab n) s=U ((out,a++[6],(-1:Int),()),cV))/\
   Evt λn=>ss (S.tab n) ([],()) s=U ((out++[(6,(s.length:Int),(s.length:Int),(line:Int),0,([]:LI),())],top,(-1:Int),()),(cs,()),(),())):=by
 have Qk:=Rl (s:=s) (j:=0) (by omega);have aN7:Reads [(6,(-1:Int),()),(100,(0:Int),())] 1 ([100]++[6]):=⟨1,0,rfl,rfl,0, -1,rfl,rfl,rfl⟩
 have XO:Evt λn=>wT (S.tab n) ([],())=U (1,([(6,(-1:Int),()),(100,(0:Int),())],()),()):=
  ((Jc [] (by simp) (-1) 6).and (Jc [(6,(-1:Int),())] (by simp) 0 100)).up λn ⟨h1,h2⟩=>by
   simp_all[DL,al,pD,bind]
 have ae5:Evt λn=>zt (S.tab n)=U ([1000,6],lP):=dF.up λn _=>by
  rw[G6]
 have XW:=tR (s:=s) (by omega) (j:=0) (by omega);have ba4:=wR (s:=s) (by omega) (j:=0) (by omega)
 have hw:=YB hs Hh (s.length+1) (blank s 0) 1 [] [1000] [100] [(6,(-1:Int),()),(100,(0:Int),())] 1 (by omega) Qk.1 (by omega) (by simp)
  aa3 aU3 (by kernel_rfl) aN7 (by simp) rfl (λt ht=>by grind)
 rcases hw with⟨p,hp,e1,e2⟩|⟨F9,a',b',F5,Kd,CX,g1,g2,g3,g4,g5,g6,g7,g8,g9,e1,e2⟩
 ·refine .inl ⟨p,hp,((e1.and ae5).and XW).up λn ⟨⟨⟨l,h⟩,hm⟩,hk⟩=>⟨l, ?_⟩,((e2.and XO).and ba4).up λn ⟨⟨⟨c,t,h⟩,hm⟩,hk⟩=>⟨c,t, ?_⟩⟩
  ·show vO (S.step (S.tab n)) _=_;have hk:mX (S.tab n) s 0=_:=hk;have h:eK (S.tab n) s [] [1000,6] 1 (blank s 0:Int)=_:=h;rw[D2,hm,al,hk,al];rw[h];rfl
  ·show ss (S.step (S.tab n)) _ _=_;have hk:mQ (S.tab n) s 0=_:=hk;have h:dS (S.tab n) ([(6,(-1:Int),()),(100,(0:Int),())],()) s 1 [] 1 (blank s 0:Int)=_:=h;rw[A3,hm,al,hk,al];rw[h];rfl
 ·refine .inr ⟨F9,a',b',F5,Kd,CX,g1,g2,g3,g4,g5,g6,g7,g8,g9,((e1.and ae5).and XW).up λn ⟨⟨h,hm⟩,hk⟩=> ?_,((e2.and XO).and ba4).up λn ⟨⟨h,hm⟩,hk⟩=> ?_⟩
  ·show vO (S.step (S.tab n)) _=_;have hk:mX (S.tab n) s 0=_:=hk;have h:eK (S.tab n) s [] [1000,6] 1 (blank s 0:Int)=_:=h;rw[D2,hm,al,hk,al];dsimp only;rw[h];rfl
  ·show ss (S.step (S.tab n)) _ _=_;have hk:mQ (S.tab n) s 0=_:=hk;have h:dS (S.tab n) ([(6,(-1:Int),()),(100,(0:Int),())],()) s 1 [] 1 (blank s 0:Int)=_:=h;rw[A3,hm,al,hk,al];rw[h,al];simp[ep];rw[c8 (fU (by unfold lim;simp;omega))]
end Go.Abs.D
end

section
namespace Go.Abs.D
def KA (out:List di.den)(a:Nat):Int:=(out.map kd).getD a 6
def Ac (out:List di.den)(st:LI)(a:Nat):Prop:=∃b,foldI st ((out.map kd).drop a)=U b/\kV b 6= .gone
theorem yT {r:LI}(ha:a<=out.length)(h:Ac out (s::r) a):
  (∃l,stI s (KA out a)= .left l/\a<out.length/\Ac out (l++r) (a+1))\/(stI s (KA out a)= .gone/\Ac out r a):=by
 obtain⟨b,h1,h2⟩:=h
 have ho:∀k,kV (s::r) k=(stI s k).then r (kV r k):=λk=>ky stI s r k
 rcases bB a out.length with hl|hl
 ·have hd:(out.map kd).drop a=KA out a::(out.map kd).drop (a+1):=by
   simp_all[bG,KA,aG,aL]
  rw[hd]at h1;have h1:(match kV (s::r) (KA out a)with| .left l=>foldI l ((out.map kd).drop (a+1))|_=>az)=U b:=h1;rw[ho]at h1
  cases hs:stI s (KA out a)with
  |no=>rw[hs]at h1;cases h1
  |gone=>
   rw[hs]at h1;refine .inr ⟨rfl,b, ?_,h2⟩;rw[hd];exact h1
  |left l=>rw[hs]at h1;exact .inl ⟨l,rfl,hl,b,h1,h2⟩
 ·have hk:KA out a=6:=by
   simp_all[KA,aG,bR]
  have hd:(out.map kd).drop a=[]:=cn (by simp_all);rw[hd]at h1
  injection h1 with h1
  subst h1;rw[ho]at h2;rw[hk]
  cases hs:stI s 6 with
  |no=>rw[hs]at h2;cases h2
  |left l=>rw[hs]at h2;cases h2
  |gone=>rw[hs]at h2;exact .inr ⟨rfl,r,by rw[hd];rfl,h2⟩
def my (h:Ac out (s::r) a)(ha:a<=out.length)(hs:s<=78):a<out.length/\KA out a=s/\Ac out r (a+1):=by
 rcases yT ha h with⟨l,e,hl,h⟩|⟨e,h⟩
 ·rw[xQ hs]at e
  grind
 grind [xQ,decide,KA]
def fE {l r:LI}(e:stI s k= .left l)(hk:KA out a=k)(h:Ac out (s::r) a)(ha:a<=out.length):a<out.length/\Ac out (l++r) (a+1):=by
 rcases yT ha h with⟨l',e',hl,h⟩|⟨e',h⟩
 all_goals simp_all
def jw (e:stI s k= .gone)(hk:KA out a=k)(h:Ac out (s::r) a)(ha:a<=out.length):Ac out r a:=by
 grind [yT]
def vl (e:stI s k= .no)(hk:KA out a=k)(h:Ac out (s::r) a)(ha:a<=out.length):False:=by
 rcases yT ha h with⟨l',e',hl,h⟩|⟨e',h⟩<;>(simp_all)
def pw (k:Int):Int:=bif(k=26)then 1 else bif(k=10)then 2 else [9,9,10,10,10,10,7,5,6,8,8,4,3,3,3,3,3,3].getD (k - 61).toNat 0
def pr (k:Int):Int:=bif(k=72)then 4 else pw k+1
def unK (k:Int):Int:=bif(k=25)then 21 else bif(k=50)then 22 else bif(k=69)then 20 else 19
def ai9:(kinds.all λk=>I (stI 1020 k=bif xR k then .left [1020]else bif(k=1)then .left [1021]else bif(k=40)then .left [1018,41,1021]else bif(k=18)then .left [1028]else bif(k=42)then .left [1029,43]else bif mS k then .left []else .no))=true:=by kernel_rfl
def ah5:(kinds.all λk=>I (stI 1018 k=(stI 1020 k).then [1019] .no))=true:=by kernel_rfl
def WN:(kinds.all λk=>I (stI 1019 k=bif ze k then .left [1020,1019]else .gone))=true:=by kernel_rfl
def Sk:(kinds.all λk=>I (stI 1023 k=bif(k=46)then .left [1018,1023]else .gone))=true:=by kernel_rfl
def af3:(kinds.all λk=>I (stI 1022 k=bif mS k then(stI 1018 k).then [1023] .no else .gone))=true:=by kernel_rfl
def aA6:(kinds.all λk=>I (stI 1007 k=bif mS k then(stI 1018 k).then [1023] .no else .gone))=true:=by kernel_rfl
def HJ:(kinds.all λk=>I (stI 1006 k=bif(k=46)then .left [1,1006]else .gone))=true:=by kernel_rfl
def aj3:(kinds.all λk=> !xR k||(mS k&& !(k=1)&& !(k=40)))=true:=by kernel_rfl
def aa5:(kinds.all λk=>(ze k==RG k)&&(!ze k||(1<=pw k&&pw k<=10)))=true:=by kernel_rfl
end Go.Abs.D
end

section
namespace Go.Abs.D
abbrev Node:Type:=cZ.den
def cX (x:cZ.den):LI:=x.2.2.2.2.2.2.2.2.1
def df (x:cZ.den):List LI:=x.2.2.2.2.2.2.2.1
structure NodeOk (x:cZ.den):Prop where
 text:∀c∈x.2.2.2.2.2.2.1,isByte c
 names:∀m∈df x,∀c∈m,isByte c
 nn:(df x).length<=2097152
 nk:(cX x).length<=2097152
@[reducible] def rg (n:Int):Prop:= -9223372036854775808<=n/\n<=9223372036854775807
structure RgI (x:cZ.den):Prop where
 f1:rg x.1
 f2:rg x.2.1
 f3:rg x.2.2.1
 f4:rg x.2.2.2.1
 f5:rg x.2.2.2.2.1
 f6:rg x.2.2.2.2.2.1
end Go.Abs.D
end

section
set_option maxRecDepth 100000
namespace Go.Abs.D
abbrev StT:Type:=List di.den×Int×List Node×Unit
def uN:Unit×Unit×Unit×Unit×Unit×Unit×Unit×Unit×Unit×Unit:=((),(),(),(),(),(),(),(),(),())
def tkA (ts:List di.den)(a:Nat):di.den:=at_ (τ:=di) ts ↑a
def NC (ts:List di.den)(b a:Nat)(x:Node):Node:=(x.1,(tkA ts b).2.1,(tkA ts (a - 1)).2.2.1,(tkA ts b).2.2.2.1,x.2.2.2.2)
structure PBs (ts:List di.den)(L:Nat)(T:S.Tab):Prop where
 kI:∀(a:Nat) nd,a<=L->fh T (ts,(a:Int),nd,())=U ((tkA ts a).1,(ts,(a:Int),nd,()),())
 tI:∀(a:Nat) nd,a<L->dy T (ts,(a:Int),nd,())=U (tkA ts a,(ts,((a+1:Nat):Int),nd,()),())
 eI:∀(a:Nat) nd k,a<=L->fo T (ts,(a:Int),nd,()) k=U (I ((tkA ts a).1=k),(ts,(((bif I ((tkA ts a).1=k)then a+1 else a):Nat):Int),nd,()),(),())
 cI:∀(a b:Nat) nd x,a<L->b<L->nd.length<=300000->dt T (ts,((a+1:Nat):Int),nd,()) (b:Int) x=U ((nd.length:Int),(ts,((a+1:Nat):Int),nd++[NC ts b (a+1) x],()),(),uN,())
 aI:∀(a:Int) nd x,nd.length<=300000->lf T (ts,a,nd,()) x=U ((nd.length:Int),(ts,a,nd++[x],()),uN,())
 kS:∀(a:Nat) nd,a<=L->fC T (ts,(a:Int),nd,())=U ((tkA ts a).1,(ts,(a:Int),nd,()),())
 tS:∀(a:Nat) nd,a<L->dN T (ts,(a:Int),nd,())=U (tkA ts a,(ts,((a+1:Nat):Int),nd,()),())
 eS:∀(a:Nat) nd k,a<=L->lj T (ts,(a:Int),nd,()) k=U (I ((tkA ts a).1=k),(ts,(((bif I ((tkA ts a).1=k)then a+1 else a):Nat):Int),nd,()),(),())
 aS:∀(a:Nat) nd x,a<L->nd.length<=300000->dJ T (ts,((a+1:Nat):Int),nd,()) x=U ((nd.length:Int),(ts,((a+1:Nat):Int),nd++[(x.1,x.2.1,(tkA ts a).2.2.1,x.2.2.2)],()),uN,())
 nS:∀k t,eG T k t=U ((k,t.2.1,0,t.2.2.2.1,0,0,([]:LI),[],[],()),fD)
 uI:∀(x:Node) (a b:Nat) nd,a<L->b<L->nd.length<=300000->gp T x (ts,(a:Int),nd,()) (b:Int)=U ((nd.length:Int),uN,(ts,((a+1:Nat):Int),nd++[NC ts b (a+1) x],()),(b:Int),())
 pI:∀k:Int,eM T k=U (xR k,cV)
 pS:∀k:Int,fb T k=U (xR k,cV)
 bI:∀k:Int,ij T k=U (mS k,cV)
 bS:∀k:Int,fZ T k=U (mS k,cV)
 iS:∀k:Int,nQ T k=U (RG k,cV)
 sS:∀k:Int,vq T k=U (unK k,cV)
 wS:∀k:Int,k∈kinds->ze k=av->kR T k=U ((pw k,pr k,()),cV)
 wI:∀k:Int,k∈kinds->oZ T k=U (bif ze k then pw k else 0,cV)
def ak6 (T):(kinds.all λk=> !ze k||decide (kR (S.step (S.step T)) k=U ((pw k,pr k,()),cV)))=true:=by kernel_rfl
def af2 (T):(kinds.all λk=>I (oZ (S.step (S.step T)) k=U (bif ze k then pw k else 0,cV)))=true:=by kernel_rfl
def Td (h:a<=4194304):ar.wrap (((a+1:Nat)) - 1)=a:=by
 grind [wrap64]
structure PB1 (ts:List di.den)(L:Nat)(T:S.Tab):Prop where
 kI:∀(a:Nat) nd,a<=L->fh T (ts,(a:Int),nd,())=U ((tkA ts a).1,(ts,(a:Int),nd,()),())
 tI:∀(a:Nat) nd,a<L->dy T (ts,(a:Int),nd,())=U (tkA ts a,(ts,((a+1:Nat):Int),nd,()),())
 aI:∀(a:Int) nd x,nd.length<=300000->lf T (ts,a,nd,()) x=U ((nd.length:Int),(ts,a,nd++[x],()),uN,())
 kS:∀(a:Nat) nd,a<=L->fC T (ts,(a:Int),nd,())=U ((tkA ts a).1,(ts,(a:Int),nd,()),())
 pI:∀k:Int,eM T k=U (xR k,cV)
 pS:∀k:Int,fb T k=U (xR k,cV)
theorem pb1 (hl:ts.length=L+1)(hL:L<=65536) (T):PB1 ts L (S.step T):=by
 refine⟨λa nd ha=> ?_,λa nd ha=> ?_,λa nd x hn=> ?_,λa nd ha=> ?_,λk=> ?_,λk=> ?_⟩
 ·rw[Co];dsimp only;exact c8 (dm (by omega))
 ·rw[Cn];dsimp only;rw[eT (by omega),Td (by omega),c8 (dm (by omega))];rfl
 ·rw[C8];rw[c8 (fU (by grind [lim])),wrap64 _ (by simp) (by grind)];simp
 ·rw[Fk];dsimp only;exact c8 (dm (by omega))
 all_goals grind [vZ,iJ,xR,decide,yx]
structure PB2 (ts:List di.den)(L:Nat)(T:S.Tab):Prop extends PB1 ts L T where
 cI:∀(a b:Nat) nd x,a<L->b<L->nd.length<=300000->dt T (ts,((a+1:Nat):Int),nd,()) (b:Int) x=U ((nd.length:Int),(ts,((a+1:Nat):Int),nd++[NC ts b (a+1) x],()),(),uN,())
theorem pb2 (hl:ts.length=L+1)(hL:L<=65536){T:S.Tab}(h:PB1 ts L T):PB2 ts L (S.step T):=by
 refine⟨pb1 hl hL T,λa b nd x ha hb hn=> ?_⟩;rw[AI];dsimp only;rw[Td (by omega),c8 (dm (by omega)),c8 (dm (by omega)),c8 (dm (by omega)),h.aI _ _ _ hn];rfl
theorem pb3 {L:Nat}(hl:ts.length=L+1)(hL:L<=65536){T0:S.Tab}(h:PB2 ts L (S.step T0)):PBs ts L (S.step (S.step T0)):=by
 have h1:=pb2 hl hL h.toPB1;refine⟨h1.kI,h1.tI,λa nd k ha=> ?_,h1.cI,h1.aI,h1.kS,λa nd ha=> ?_,λa nd k ha=> ?_,λa nd x ha hn=> ?_,λk t=> ?_,λx a b nd ha hb hn=> ?_,h1.pI,h1.pS,λk=> ?_,λk=> ?_,λk=> ?_,λk=> ?_,λk hk hi=> ?_,λk hk=> ?_⟩
 ·rw[Dd,h.kI _ _ ha,al];dsimp only
  cases I ((tkA ts a).1=k)with
  |true=>rw[c8 rfl,eT (by omega)];rfl
  |false=>rw[dz rfl];rfl
 ·rw[E2];dsimp only;rw[eT (by omega),Td (by omega),c8 (dm (by omega))];rfl
 ·rw[H7,h.kS _ _ ha,al]
  grind [decide,tkA,dz,eT,c8]
 ·rw[G9];dsimp only;rw[Td (by omega),c8 (dm (by omega)),c8 (fU (by grind [lim,aw,ay])),wrap64 _ (by simp) (by grind)];simp only[au,aw,ay];rw[show((nd.length+(0+1):Nat):Int) - 1=(nd.length:Int)by omega];rfl
 ·rw[Ir]
 ·rw[Ar,h.tI _ _ ha,al];dsimp only;rw[h.cI _ _ _ _ ha hb hn];rfl
 ·rw[yy];simp only[iJ,h.pI,al,mS];cases I (k=1)<;>cases I (k=40)<;>cases I (k=2)<;>cases I (k=3)<;>cases I (k=4)<;>cases I (k=24)<;>cases I (k=29)<;>cases I (k=17)<;>cases I (k=49)<;>cases I (k=18)<;>cases I (k=42)<;>rfl
 ·rw[yE];simp only[iJ,h.pS,al,mS];cases I (k=1)<;>cases I (k=40)<;>cases I (k=2)<;>cases I (k=3)<;>cases I (k=4)<;>cases I (k=24)<;>cases I (k=29)<;>cases I (k=17)<;>cases I (k=49)<;>cases I (k=18)<;>cases I (k=42)<;>rfl
 ·grind [zX,iJ,RG,decide]
 ·grind [G3,iJ,unK,decide]
 ·have:=aK.1 (ak6 T0) k hk;simp_all
 ·exact of_decide_eq_true (aK.1 (af2 T0) k hk)
def ZW (hl:ts.length=L+1)(hL:L<=65536):Evt λn=>PBs ts L (S.tab n):=
 ⟨3,λn hn=>by
  obtain⟨m,rfl⟩:∃m,n=m+3:=⟨n - 3,by omega⟩
  grind [pb3,pb2,pb1]⟩
end Go.Abs.D
end

section
namespace Go.Abs.D
variable{s:LI}(Hh:∀c∈s,isByte c)
include Hh
def Sg (k) (hk:k=1\/k=3)(hlen:s.length<=40):Evt λn=>BZ (S.tab n) s k=U (jS k s,cW):=by
 by_cases h0:s=[]
 ·subst h0
  exact dF.up λn _=>by
   rw[D5,c8 (by simp)];rfl
 have sF:0<s.length:=b9.2 h0
 have mL:I (0<(s.length:Int))=true:=by simp_all
 have iE:jS k s=one k s:=by
  simp_all[jS,one,ab]
 rw[iE]
 have fin:∀n,(∃t' b,lT (S.tab n) s (0)=U ((t',b,()),cW)/\IR (kB (get s 0)) (oL s 0) t' b)->
   ((lT (S.tab n) s 0).bind λd28=>brk (!d28.1.2.1) (brk (d28.1.1.1=k) (U (I (d28.1.1.2.2.1=s.length),cW)) (U (aq,cW))) (U (aq,cW)))=U (one k s,cW):=λn ⟨t',b,h,hr⟩=>by
  have h:lT (S.tab n) s 0=_:=h;rw[h,al];unfold one
  cases hx:oL s 0 with
  |inl e=>
   rw[hx]at hr;obtain⟨rfl,_⟩:b=av/\_:=hr;simp_all[dz]
  |inr t=>
   rw[hx]at hr;obtain⟨rfl,rfl⟩:b=aq/\t'=t:=hr;rw[c8 (by rfl)];simp
   cases I (t'.1=k)with
   |true=>rw[c8 rfl];rfl
   |false=>rw[dz rfl];rfl
 refine((Gk (s:=s) (by omega) Hh (i:=0) sF).and dF).up λn ⟨h,hb⟩=> ?_
 have g0:s.getD 0 0=get s 0:=rfl;rw[D5,dz (by simp_all),c8 mL,g0]
 by_cases AA:get s 0=34
 ·grind [dz,ab]
 rw[c8 (by simp_all),c8 mL,hb.iletter,al]
 cases hl:eW (get s 0)with
 |true=>grind [dz]
 |false=>
  rw[c8 (by rfl),c8 mL,hb.idigit,al]
  cases hd:dT (get s 0)with
  |true=>grind [dz]
  |false=>
   rw[c8 (by rfl)];unfold one
   cases hx:oL s 0 with
   |inl e=>rfl
   |inr t=>
    have:=(Ey hx).2.2 hl hd;simp only
    have mU:kd t≠k:=by rcases hk with rfl|rfl<;>omega
    rw[aa (show¬ (t.1=k)from mU)];rfl
def Bj:Evt λn=>kH (S.tab n) s=U (jS 1 s,cV):=by
 by_cases h:s.length<=40
 ·refine(Sg Hh 1 (.inl rfl) h).up λn h1=> ?_
  grind [yw,c8]
 ·refine dF.up λn _=> ?_
  unfold jS;rw[yw,dz (by grind),aa h,aT];rfl
def Ef:Evt λn=>qv (S.tab n) s=U (jS 3 s,cV):=by
 by_cases h:s.length<=40
 ·refine(Sg Hh 3 (.inr rfl) h).up λn h1=> ?_
  grind [xv,c8]
 ·refine dF.up λn _=> ?_
  unfold jS;rw[xv,dz (by grind),aa h,aT];rfl
omit Hh in
theorem LU:Evt λn=>lF (S.tab n) s=U (jS 1 s,cV):=by
 by_cases h0:s.length=0
 ·refine dF.up λn _=> ?_
  simp_all[jS,tm,c8,ad,aa]
 by_cases h:¬ s.length<=40
 ·refine dF.up λn _=> ?_
  unfold jS;rw[tm,dz (by simp_all),c8 (by grind),aa h,aT];rfl
 replace h:=bV.1 h
 have sF:0<s.length:=(by omega)
 have mL:I ((0:Int)<(s.length:Int))=true:=by simp_all
 have g0:s.getD 0 0=get s 0:=rfl
 have iE:jS 1 s=one 1 s:=by
  simp_all[jS,one,ab]
 rw[iE]
 have start:∀n,Base2 (S.tab n)->lF (S.step (S.tab n)) s=_:=λn hb=>by
  rw[tm,dz (by simp only[ae];omega),dz (by simp;omega),c8 mL,g0,hb.sletter,al]
 cases hl:eW (get s 0)with
 |false=>
  refine dF.up λn hb=> ?_
  rw[start n hb,hl,c8 (by rfl)];unfold one
  cases hx:oL s 0 with
  |inl e=>rfl
  |inr t=>
   have hk:=Ey hx
   grind [kd,dT,get,aa]
 |true=>
  have xo:get s 0≠10:=λe=>by rw[e]at hl;cases hl
  refine((zr (s:=s) (by omega) sF xo).and dF).up λn ⟨⟨t',b,h1,hr⟩,hb⟩=> ?_
  have h1:iH (S.tab n) s (0:Int)=_:=h1;rw[start n hb,hl,dz (by rfl),h1,al];unfold one
  cases hx:oL s 0 with
  |inl e=>
   rw[hx]at hr;have hr:b=(e:Int):=hr.1;simp_all[dz,ae]
  |inr t=>
   rw[hx]at hr;obtain⟨rfl,rfl⟩:b= -1/\t'=t:=hr;rw[c8 (show I ((-1:Int)<0)=av from rfl)];simp
   cases I (t'.1=1)with
   |true=>rw[c8 rfl];rfl
   |false=>rw[dz rfl];rfl
omit Hh in
theorem VF:Evt λn=>sO (S.tab n) s=U (jS 3 s,cV):=by
 by_cases h0:s.length=0
 ·refine dF.up λn _=> ?_
  simp_all[jS,uO,c8,ad,aa]
 by_cases h:¬ s.length<=40
 ·refine dF.up λn _=> ?_
  unfold jS;rw[uO,dz (by simp_all),c8 (by grind),aa h,aT];rfl
 replace h:=bV.1 h
 have sF:0<s.length:=(by omega)
 have mL:I ((0:Int)<(s.length:Int))=true:=by simp_all
 have g0:s.getD 0 0=get s 0:=rfl
 have iE:jS 3 s=one 3 s:=by
  simp_all[jS,one,ab]
 rw[iE]
 have start:∀n,Base2 (S.tab n)->sO (S.step (S.tab n)) s=_:=λn hb=>by
  rw[uO,dz (by simp only[ae];omega),dz (by simp;omega),c8 mL,g0,hb.sdigit,al]
 cases hd:dT (get s 0)with
 |false=>
  refine dF.up λn hb=> ?_
  rw[start n hb,hd,c8 (by rfl)];unfold one
  cases hx:oL s 0 with
  |inl e=>rfl
  |inr t=>
   have hk:=Ey hx
   grind [kd,eW,get,aa]
 |true=>
  have xo:get s 0≠10:=λe=>by rw[e]at hd;cases hd
  refine((zr (s:=s) (by omega) sF xo).and dF).up λn ⟨⟨t',b,h1,hr⟩,hb⟩=> ?_
  have h1:iH (S.tab n) s (0:Int)=_:=h1;rw[start n hb,hd,dz (by rfl),h1,al];unfold one
  cases hx:oL s 0 with
  |inl e=>
   rw[hx]at hr;have hr:b=(e:Int):=hr.1;simp_all[dz,ae]
  |inr t=>
   rw[hx]at hr;obtain⟨rfl,rfl⟩:b= -1/\t'=t:=hr;rw[c8 (show I ((-1:Int)<0)=av from rfl)];simp
   cases I (t'.1=3)with
   |true=>rw[c8 rfl];rfl
   |false=>rw[dz rfl];rfl
end Go.Abs.D
end

