/- What is here: WriteByte, WriteString and String of strings.Builder, at any place of a box, as contracts. -/
import Derived.Test.YtdoinjofjojmbaaGreatDoorV4
import Derived.Lib.AppendStr
import Derived.Lib.UnsafeStr
import Derived.Test.YtdoinjofjojmbaaGreatDoorProg
import Derived.Shelf.Strconv.ParseIntPublic10
import Derived.Shelf.Strconv.Itoa4
import Derived.KernelRfl
import Derived.Room.Shelf.Join48
import Derived.WalkKit
import Derived.ProofKit
import Derived.OpenShut
import Derived.ShutString
import Derived.ChangeOld
import Derived.Below
import Derived.SizedLaws
import Derived.LaidMore
import Derived.Lay
import Derived.SevenTiedAt
import Derived.Stop.Joined
set_option linter.all false
set_option maxRecDepth 100000
open Go.IntKind (i64 u64 u8)
open Array renaming ext' → a84, getElem?_push → a29, getElem?_setIfInBounds → cB, length_toList → a30
open Bool renaming and_eq_false_iff → cI, and_eq_true → aA, and_false → aQ, false → ar, false_and → a47, false_eq_true → bZ, false_or → cH, not_eq_false' → cM, not_eq_true' → cq, true → av, true_and → ct
open Decidable renaming decide → I, not_not → bP
open Go.Addr renaming add_lit → a16
open Go.Builtin renaming append_ → a18, unsafeSliceData_ → a27
open Go.IntKind renaming i64 → aq, u64 → aH, u8 → aN
open Go.Lib renaming cell_of_heap → cn, pow10Tab → a50
open Go.Proofs.Tryz renaming func176 → a52, prog → aZ
open Go.Result renaming andThen → a74
open Go.Sem renaming run_bind → bH
open Go.Value renaming int → bN
open Int renaming le_refl → bF, toNat_natCast → bq
open List renaming all_eq_true → aW, append_assoc → aI, append_nil → aU, drop_eq_getElem_cons → bJ, drop_eq_nil_of_le → cd, getD_eq_getElem?_getD → aG, getElem?_drop → cL, getElem?_eq_getElem → aJ, getElem?_eq_none → bM, getElem?_eq_some_iff → bw, getElem?_map → a05, getElem?_take → cK, getElem_mem → bm, length → a14, length_append → ax, length_cons → az, length_map → bT, length_nil → aB, length_pos_iff → cp, length_take → bl, map_cons → bW, mem_append → aL, mem_cons → bA, mem_cons_of_mem → aD, mem_cons_self → aF, mem_map → cG, mem_of_mem_drop → cD, mem_of_mem_take → cC, mem_range → a03, mem_singleton → bD, nodup_cons → cg, nodup_nil → bf, range → a09, range' → a32, take_length → ck, take_succ_eq_append_getElem → cu
open Nat renaming beq → aw, le_of_ble_eq_true → aP, le_refl → aC, le_succ → bR, le_trans → bX, lt_or_ge → bG, min_eq_left → a07, mul_one → a57, zero_add → cj, zero_le → aX
open Option renaming bind_some → au, none → ay, some → J
open Sum renaming elim_inl → aO, elim_inr → aT, inl → an, inr → aE
section
namespace Go.Abs.Bld
open Go.Proofs
theorem Kp {w:World}{b k:Nat}{arr:Array Value}{ty:TypeId}{v:Value}(h:w.heap[b]?=J (.cells arr ty (0,0)))(hv:arr[k]?=J v):w.setCell ⟨b,k,ay⟩ v=w:=by
 have:w.heap.modify b (λ| .cells c elem frozen=> .cells (c.setIfInBounds k v) elem frozen|o=>o)=w.heap:=by
  apply Array.ext_getElem?
  intro i;rw[Array.getElem?_modify]
  by_cases e:b=i
  ·subst e;rw[ak rfl,h];simp only[Option.map_some]
   have:arr.setIfInBounds k v=arr:=by
    apply Array.ext_getElem?
    intro j;rw[cB]
    by_cases e:k=j
    ·subst e;rw[ak rfl,hv];split
     ·rfl
     ·rename_i kI;rw[Array.getElem?_eq_none (by omega)]at hv;cases hv
    ·rw[aj e]
   rw[this]
  ·rw[aj e]
 show{w with heap:=_}=w;exact congrArg (λh=>{w with heap:=h}) this
theorem qc {arr:Array Value}{o:Nat}{x y:Value}(h:(arr.toList.drop o).take 2=[x,y]):arr[o]?=J x/\arr[o+1]?=J y:=by
 have h0:=congrArg (·[0]?) h;have h1:=congrArg (·[1]?) h;simp only[cK,cL]at h0 h1;simp at h0 h1;exact⟨h0,h1⟩
theorem JA {dj:Rd}{b o ty:Nat}{arr:Array Value}{w:World}{xs:List Int}{nb:List Nat}(ha:w.heap[b]?=J (.cells arr ty (0,0)))(kM:Im places ty o arr.size=av)(hB:sC dj w (b,o) xs ((arr.toList.drop o).take 2) nb):
  Calls aZ 37 #[.pointer (J ⟨b,o,ay⟩)] w λe w'=>e= .returned (.tuple #[])/\w'=w.setCell ⟨b,o,ay⟩ (.pointer (J ⟨b,o,ay⟩)):=by
 rcases hB with⟨h1,h2,h3⟩|⟨u2,h1,h2,h4⟩
 ·obtain⟨c0,c1⟩:=qc h1;exact FA b o ty arr.size w (by rw[cn ha,c0]) (by simp[World.shape?,ha]) (Lib.frozen_of_heap ha o) kM
 ·obtain⟨c0,c1⟩:=qc h1;refine(GC b o w (by rw[cn ha,c0])).mono ?_;rintro e w' ⟨rfl,rfl⟩;exact⟨rfl,(Kp ha c0).symm⟩
noncomputable def H0:TypeInfo:=match aZ.info? 5 with
 |some i=>i
 |none=>default
theorem EI:aZ.info? 5=J H0:=by kernel_rfl
def Nc (dj:Rd)(w1:World)(nb:List Nat)(xs:List Int)(v:Value)(w':World):Prop:=∃ku,After dj w1 nb dj w' ku/\OwnAt dj w' ar (.int .u8) xs [v] ku/\∀b∈ku,∃arr,w'.heap[b]?=J (.cells arr nF (0,0))
def Written (dj:Rd)(w:World)(b o ty:Nat)(arr:Array Value)(nb:List Nat)(xs:List Int)(w':World):Prop:=∃ku oa v,After dj w (b::nb) dj w' (b::ku)/\w'.heap[b]?=J (.cells oa ty (0,0))/\
 oa.toList=arr.toList.take o++[.pointer (J ⟨b,o,ay⟩),v]++arr.toList.drop (o+2)/\OwnAt dj w' ar (.int .u8) xs [v] ku/\∀b∈ku,∃arr,w'.heap[b]?=J (.cells arr nF (0,0))
set_option maxHeartbeats 2000000 in
set_option maxRecDepth 100000 in
theorem RY {dj:Rd}{b o ty:Nat}{arr:Array Value}{w:World}{xs:List Int}{nb:List Nat}(c:Int)(ha:w.heap[b]?=J (.cells arr ty (0,0)))(hle:o+2<=arr.size)(kM:Im places ty o arr.size=av)
  (hB:sC dj w (b,o) xs ((arr.toList.drop o).take 2) nb) (hn:(b::nb).Nodup) (hi:∀y∈b::nb,dj y=ay/\y<w.heap.size) (hc:∀b L,dj b=J L->∃arr ty fr,w.heap[b]?=J (.cells arr ty fr)/\arr.toList=L)
  (u5:xs.length+1<=1099511627776):
  Calls aZ 35 #[.pointer (J ⟨b,o,ay⟩), .int .u8 c] w λe w'=>e= .returned .nilIface/\Written dj w b o ty arr nb (xs++[c]) w':=by
 go_enter Tryz.func35,Tryz.ntmps35
 go_wp2_with (go_at_call 37;refine(JA ha kM hB).mono ?_)
 rintro e w1 ⟨rfl,e1⟩
 obtain⟨u,hu,hO,Qa⟩:∃u,arr[o+1]?=J u/\OwnAt dj w ar (.int .u8) xs [u] nb/\∀b∈nb,∃arr,w.heap[b]?=J (.cells arr nF (0,0)):=by
  rcases hB with⟨h1,h2,h3⟩|⟨u2,h1,h2,h3⟩
  ·exact⟨_,(qc h1).2, .inl ⟨rfl,h2,h3⟩,λy hy=>by rw[h3]at hy;simp at hy⟩
  ·exact⟨_,(qc h1).2,h2,h3⟩
 obtain⟨s1,s2,s3⟩:=pX (k:=o) ha (.pointer (J ⟨b,o,ay⟩));rw[<-e1]at s1 s2 s3;have Be:=cg.1 hn
 have Yd:OwnAt dj w1 ar (.int .u8) xs [u] nb:=hO.other λy hy=>s2 y λe=>Be.1 (e ▸ hy)
 have ZZ:∀y∈nb,∃arr,w1.heap[y]?=J (.cells arr nF (0,0)):=λy hy=>by
  obtain⟨a,k⟩:=Qa y hy;exact⟨a,by rw[s2 y λe=>Be.1 (e ▸ hy)];exact k⟩
 have Yn:∀y∈nb,dj y=ay/\y<w1.heap.size:=λy hy=>⟨(hi y (aD _ hy)).1,by rw[s3];exact(hi y (aD _ hy)).2⟩
 have c1:w1.cell? ⟨b,o+1,ay⟩=J u:=by
  rw[cn s1,cB,aj (by omega)];exact hu
 have EA:∀b L,dj b=J L->∃arr ty fr,w1.heap[b]?=J (.cells arr ty fr)/\arr.toList=L:=λy L h=>by
  rw[s2 y λe=>by rw[e,(hi b (aF ..)).1]at h;cases h];exact hc y L h
 have PW:(w1.alloc (.cells #[.int .u8 c] 5)).heap[w1.heap.size]?=J (.cells #[.int .u8 c] 5 (0,0)):=by
  show(w1.heap.push _)[w1.heap.size]?=_;rw[a29,ak rfl]
 have hold:∀{y:Nat} {x:Go.Obj},w1.heap[y]?=J x->(w1.alloc (.cells #[.int .u8 c] 5)).heap[y]?=J x:=λ{y x} k=>by
  have:=lt_of_heap k;show(w1.heap.push _)[y]?=_;rw[a29,aj (by omega)];exact k
 have hr:∃v w',(a18 #[22,22] 22 #[u, .slice (J ⟨w1.heap.size,0,ay⟩) 1 1]).run aZ (w1.alloc (.cells #[.int .u8 c] 5))= .ok v w'/\Nc dj w1 nb (xs++[c]) v w':=by
  obtain⟨v,w',ku,h1,h2,h3,h4⟩:=JE (P:=aZ) (t:=22) (tx:=22) (ty:=22) (e:=5) (ys:=[c]) (i:=H0) (z:= .int .u8 0) (by kernel_rfl) EI (by kernel_rfl) (by kernel_rfl) (aP (by kernel_rfl)) rfl (Yd.alloc (λy hy=>(Yn y hy).2) (.cells #[.int .u8 c] 5))
   (Src.ofSlice (P:=aZ) (w:=w1.alloc (.cells #[.int .u8 c] 5)) (e':=5) (by kernel_rfl) ⟨w1.heap.size,0,ay⟩ 1 1 [.int .u8 c] rfl (λj x hj=>by
    rw[a16,cn PW]
    match j,hj with
    |0,hj=>simpa using hj) (λx hx=>by
    have:x= .int .u8 c:=(by simpa using hx)
    subst this;rfl)) u5 (λy L h=>by
    obtain⟨a,t,f,k1,k2⟩:=EA y L h
    exact⟨a,t,f,hold k1,k2⟩) (λy hy=>⟨(Yn y hy).1,by
     have:=(Yn y hy).2;show y<(w1.heap.push _).size
     simp;omega⟩) (λy hy=>by
    obtain⟨a,k⟩:=ZZ y hy
    exact⟨a,hold k⟩)
  exact⟨v,w',h1,ku,h2.WX (λy L h=>by obtain⟨a,t,f,k1,k2⟩:=EA y L h;exact lt_of_heap k1),h3,h4⟩
 have XP:∃_:True,w1=w.setCell ⟨b,o,ay⟩ (.pointer (J ⟨b,o,ay⟩))/\w1.heap.size=w.heap.size:=⟨trivial,e1,s3⟩;clear e1 s3
 go_wp2_with (at_builtin;refine vr rfl _ _ 22 22 rfl _ _ rfl rfl _ hr ?_)
 rintro v w2 ⟨SX,A,P7,ZJ⟩;obtain⟨_,e1,s3⟩:=XP;obtain⟨B1,B2,oa,B3,B4,B5,B6⟩:=JS ha hle hn hi hc e1 A P7
 have Z2:∀y∈SX,∃arr,(w2.setCell ⟨b,o+1,ay⟩ v).heap[y]?=J (.cells arr nF (0,0)):=λy hy=>by
  obtain⟨a,k⟩:=ZJ y hy;exact⟨a,by rw[(pX (k:=o+1) B6 v).2.1 y λe=>B2 (e ▸ hy)];exact k⟩
 obtain⟨ao,n',cap,rfl⟩:∃ao n' cap,v= .slice ao n' cap:=by
  rcases P7 with⟨h1,_⟩|⟨b',cap,oa,Ds,ku,h1,_⟩
  ·injection h1 with h1 _;exact⟨_,_,_,h1⟩
  ·injection h1 with h1 _;exact⟨_,_,_,h1⟩
 have d1:w2.cell? ⟨b,o+1,ay⟩=J u:=by
  rw[cn B6,cB,aj (by omega)];exact hu
 have f1:w2.frozen? ⟨b,o+1,ay⟩=false:=Lib.frozen_of_heap B6 (o+1);clear e1
 go_wp2
 go_ret
 exact⟨rfl,SX,oa,_,B1,B3,B4,B5,Z2⟩
set_option maxHeartbeats 2000000 in
set_option maxRecDepth 100000 in
theorem writeString {dj:Rd}{b o ty:Nat}{arr:Array Value}{w:World}{xs:List Int}{nb:List Nat}(s:ByteArray)(ha:w.heap[b]?=J (.cells arr ty (0,0)))(hle:o+2<=arr.size)(kM:Im places ty o arr.size=av)
  (hB:sC dj w (b,o) xs ((arr.toList.drop o).take 2) nb) (hn:(b::nb).Nodup) (hi:∀y∈b::nb,dj y=ay/\y<w.heap.size) (hc:∀b L,dj b=J L->∃arr ty fr,w.heap[b]?=J (.cells arr ty fr)/\arr.toList=L)
  (u5:xs.length+(bytesOf s).length<=1099511627776):
  Calls aZ 20 #[.pointer (J ⟨b,o,ay⟩), .string s] w λe w'=>e= .returned (.tuple #[.int .i64 s.size, .nilIface])/\Written dj w b o ty arr nb (xs++bytesOf s) w':=by
 go_enter Tryz.func20,Tryz.ntmps20
 go_wp2_with (go_at_call 37;refine(JA ha kM hB).mono ?_)
 rintro e w1 ⟨rfl,e1⟩
 obtain⟨u,hu,hO,Qa⟩:∃u,arr[o+1]?=J u/\OwnAt dj w ar (.int .u8) xs [u] nb/\∀b∈nb,∃arr,w.heap[b]?=J (.cells arr nF (0,0)):=by
  rcases hB with⟨h1,h2,h3⟩|⟨u2,h1,h2,h3⟩
  ·exact⟨_,(qc h1).2, .inl ⟨rfl,h2,h3⟩,λy hy=>by rw[h3]at hy;simp at hy⟩
  ·exact⟨_,(qc h1).2,h2,h3⟩
 obtain⟨s1,s2,s3⟩:=pX (k:=o) ha (.pointer (J ⟨b,o,ay⟩));rw[<-e1]at s1 s2 s3;have Be:=cg.1 hn
 have Yd:OwnAt dj w1 ar (.int .u8) xs [u] nb:=hO.other λy hy=>s2 y λe=>Be.1 (e ▸ hy)
 have ZZ:∀y∈nb,∃arr,w1.heap[y]?=J (.cells arr nF (0,0)):=λy hy=>by
  obtain⟨a,k⟩:=Qa y hy;exact⟨a,by rw[s2 y λe=>Be.1 (e ▸ hy)];exact k⟩
 have Yn:∀y∈nb,dj y=ay/\y<w1.heap.size:=λy hy=>⟨(hi y (aD _ hy)).1,by rw[s3];exact(hi y (aD _ hy)).2⟩
 have c1:w1.cell? ⟨b,o+1,ay⟩=J u:=by
  rw[cn s1,cB,aj (by omega)];exact hu
 have EA:∀b L,dj b=J L->∃arr ty fr,w1.heap[b]?=J (.cells arr ty fr)/\arr.toList=L:=λy L h=>by
  rw[s2 y λe=>by rw[e,(hi b (aF ..)).1]at h;cases h];exact hc y L h
 have hr:∃v w',(a18 #[22,9] 22 #[u, .string s]).run aZ w1= .ok v w'/\Nc dj w1 nb (xs++bytesOf s) v w':=by
  have hb:Go.byteCells s=(bytesOf s).map (bN .u8):=by
   unfold Go.byteCells bytesOf;rw[List.map_map];rfl
  have hs:Src aZ 1 9 (.string s) (bytesOf s).length ((bytesOf s).map (bN .u8)) w1:=by
   rw[<-hb,iy];exact Src.ofString w1 (by kernel_rfl) s
  obtain⟨v,w',ku,h1,h2,h3,h4⟩:=JE (P:=aZ) (t:=22) (tx:=9) (ty:=22) (e:=5) (ys:=bytesOf s) (i:=H0) (z:= .int .u8 0) (by kernel_rfl) EI (by kernel_rfl) (by kernel_rfl) (aP (by kernel_rfl)) rfl Yd hs u5 EA Yn ZZ;exact⟨v,w',h1,ku,h2,h3,h4⟩
 have XP:∃_:True,w1=w.setCell ⟨b,o,ay⟩ (.pointer (J ⟨b,o,ay⟩))/\w1.heap.size=w.heap.size:=⟨trivial,e1,s3⟩;clear e1 s3
 go_wp2_with (at_builtin;refine vr rfl _ _ 22 9 rfl _ _ rfl rfl _ hr ?_)
 rintro v w2 ⟨SX,A,P7,ZJ⟩;obtain⟨_,e1,s3⟩:=XP;obtain⟨B1,B2,oa,B3,B4,B5,B6⟩:=JS ha hle hn hi hc e1 A P7
 have Z2:∀y∈SX,∃arr,(w2.setCell ⟨b,o+1,ay⟩ v).heap[y]?=J (.cells arr nF (0,0)):=λy hy=>by
  obtain⟨a,k⟩:=ZJ y hy;exact⟨a,by rw[(pX (k:=o+1) B6 v).2.1 y λe=>B2 (e ▸ hy)];exact k⟩
 obtain⟨ao,n',cap,rfl⟩:∃ao n' cap,v= .slice ao n' cap:=by
  rcases P7 with⟨h1,_⟩|⟨b',cap,oa,Ds,ku,h1,_⟩
  ·injection h1 with h1 _;exact⟨_,_,_,h1⟩
  ·injection h1 with h1 _;exact⟨_,_,_,h1⟩
 have d1:w2.cell? ⟨b,o+1,ay⟩=J u:=by
  rw[cn B6,cB,aj (by omega)];exact hu
 have f1:w2.frozen? ⟨b,o+1,ay⟩=false:=Lib.frozen_of_heap B6 (o+1);clear e1
 go_wp2
 go_ret2
 exact⟨rfl,SX,oa,_,B1,B3,B4,B5,Z2⟩
end Go.Abs.Bld
end

section
set_option maxRecDepth 100000
namespace Go.Abs.Bld
open Go.Proofs
theorem Ha {P:Program}{w:World}:∀(xs:List Int) (a:Addr) (acc:ByteArray),(∀j x,xs[j]?=J x->w.cell? (a.add j)=J (.int .u8 x))->
  ∃st,(loadBytes a acc xs.length).run P w= .ok st w/\bytesOf st=bytesOf acc++xs.map byte
 |[],a,acc,_=>⟨acc,by simp[loadBytes],by simp⟩
 |x::xs,a,acc,h=>by
  have h0:w.cell? a=J (.int .u8 x):=by
   have:=h 0 x rfl;simpa[Addr.add]using this
  obtain⟨st,h1,h2⟩:=Ha (P:=P) (w:=w) xs (a.add 1) (acc.push x.toNat.toUInt8) (λj y hy=>by
   have:=h (j+1) y (by simpa using hy)
   have e:(a.add 1).add j=a.add (j+1):=by
    unfold Addr.add
    by_cases hj:j=0
    ·subst hj;simp
    ·simp[hj];omega
   rw[e];exact this)
  refine⟨st, ?_, ?_⟩
  ·simp only[az,loadBytes,bH,run_load,h0,a74];exact h1
  ·rw[h2]
   have:bytesOf (acc.push x.toNat.toUInt8)=bytesOf acc++[byte x]:=by
    unfold bytesOf byte;rw[ByteArray.data_push];simp
   rw[this];simp
theorem I0 {P:Program}{w:World}(pt it ty e:TypeId)(hp:P.underlying pt=J (.pointer e))(hc:P.cellsOf e=1)(g cells:Nat)(av7:w.shape? g=J (e,cells))(xs:List Int)(h0:xs≠[])(hn:xs.length<=cells)(h63:xs.length<=9223372036854775807)
  (xa:∀j x,xs[j]?=J x->w.cell? ((⟨g,0,ay⟩:Addr).add j)=J (.int .u8 x)):
  ∃st,(Builtin.unsafeString_ #[pt,it] ty #[.pointer (J ⟨g,0,ay⟩), .int .i64 xs.length]).run P w= .ok (.string st) (w.freeze ⟨g,0,ay⟩ xs.length)/\bytesOf st=xs.map byte:=by
 have hl:xs.length≠0:=(by simpa using h0);obtain⟨st,SN,pH⟩:=Ha (P:=P) (w:=w) xs ⟨g,0,ay⟩ .empty xa;refine⟨st, ?_,by rw[pH];simp[bytesOf]⟩;have al4:=Lib.liesAt_bytes (P:=P) hc (cells/P.cellsOf e) xs.length (by rw[hc];simpa using hn);have aH8:¬ (9223372036854775807:Int)<(xs.length:Int):=(by omega)
 have aE4:Builtin.unsafeString_ #[pt,it] ty #[.pointer (J ⟨g,0,ay⟩), .int .i64 xs.length]=
   (do
    let n<-Go.asInt (.int .i64 xs.length)
    if n<0 then runtimePanic (.error "unsafe.String: len out of range")
    if n>aq.max then unsupported (.unsafePointer "String: a length above the largest int")
    if n=0 then pure (.string .empty)
    else if<-variablesAt ⟨g,0,ay⟩ (<-elemOf pt) n.toNat then do
     let s<-loadBytes ⟨g,0,ay⟩ .empty n.toNat
     freeze ⟨g,0,ay⟩ n.toNat
     pure (.string s)
    else unsupported (.unsafePointer "String: not so many bytes at ptr")):=rfl
 rw[aE4];have ZW:aq.max=9223372036854775807:=rfl;have LQ:¬ (xs.length:Int)<0:=(by omega);simp[Go.asInt,asIntOf,ZW,aH8,LQ,hl,variablesAt,av7,elemOf,run_underlying hp,al4,SN]
structure Read (dj:Rd)(w:World)(nb:List Nat)(w':World):Prop where
 other:∀b,b<w.heap.size->b∉nb->w'.heap[b]?=w.heap[b]?
 size:w.heap.size<=w'.heap.size
 os:w'.os=w.os
 tape:w'.tape=w.tape
 output:w'.output=w.output
theorem Read.after {dj:Rd}{w w':World}{nb:List Nat}(h:Read dj w nb w')(hn:∀y∈nb,dj y=ay/\y<w.heap.size)(hc:∀b L,dj b=J L->∃arr ty fr,w.heap[b]?=J (.cells arr ty fr)/\arr.toList=L):After dj w nb dj w' []:=
 ⟨λ_ _ h=>h,λb L k=>by
  obtain⟨a,t,f,k1,k2⟩:=hc b L k;refine⟨a,t,f, ?_,k2⟩;rw[h.other b (lt_of_heap k1) λhm=>by rw[(hn b hm).1]at k;cases k]
  exact k1,λb h1 h2 h3=>⟨h.other b h1 h2,h3⟩,bf,(λb hb=>by simp at hb),h.size,h.os,h.tape,h.output,λb L k=>by
  obtain⟨a,t,f,k1,k2⟩:=hc b L k
  exact h.other b (lt_of_heap k1) λhm=>by rw[(hn b hm).1]at k;cases k⟩
theorem Read.drew (dj:Rd)(w:World)(nb:List Nat):Read dj w nb w.drew:=⟨λ_ _ _=>rfl,aC _,rfl,rfl,rfl⟩
theorem Read.RV (dj:Rd)(w:World)(nb:List Nat)(o:Go.Obj):Read dj w nb (w.drew.alloc o):=
 ⟨λb h _=>by
  show(w.heap.push _)[b]?=_
  rw[a29,aj (by omega)],by show _<=(w.heap.push _).size;simp,rfl,rfl,rfl⟩
theorem Read.freeze {dj:Rd}{w:World}{nb:List Nat}{g:Nat}(hg:g∈nb)(n:Nat):Read dj w nb (w.drew.freeze ⟨g,0,ay⟩ n):=by
 unfold World.freeze;split
 ·exact Read.drew dj w nb
 ·refine⟨λb _ hb=> ?_,by simp,rfl,rfl,rfl⟩;simp only[Array.getElem?_modify];rw[aj (λe:g=b=>hb (e ▸ hg))];rfl
set_option maxHeartbeats 2000000 in
set_option maxRecDepth 100000 in
theorem string {dj:Rd}{b o ty:Nat}{arr:Array Value}{w:World}{xs:List Int}{nb:List Nat}(ha:w.heap[b]?=J (.cells arr ty (0,0)))(hle:o+2<=arr.size)
  (hB:sC dj w (b,o) xs ((arr.toList.drop o).take 2) nb) (u5:xs.length<=1099511627776):
  Calls aZ 22 #[.pointer (J ⟨b,o,ay⟩)] w λe w'=>∃st,e= .returned (.string st)/\bytesOf st=xs.map byte/\Read dj w nb w':=by
 obtain⟨u,hu,hO,Qa⟩:∃u,arr[o+1]?=J u/\OwnAt dj w ar (.int .u8) xs [u] nb/\∀b∈nb,∃arr,w.heap[b]?=J (.cells arr nF (0,0)):=by
  rcases hB with⟨h1,h2,h3⟩|⟨u2,h1,h2,h3⟩
  ·exact⟨_,(qc h1).2, .inl ⟨rfl,h2,h3⟩,λy hy=>by rw[h3]at hy;simp at hy⟩
  ·exact⟨_,(qc h1).2,h2,h3⟩
 have hd:w.drew.heap[b]?=J (.cells arr ty (0,0)):=ha
 have c1:w.drew.cell? ⟨b,o+1,ay⟩=J u:=by rw[cn hd];exact hu
 have c0:w.cell? ⟨b,o+1,ay⟩=J u:=c1
 have hnone:∀(W:World) (q:Option Addr),(Builtin.unsafeString_ #[86,3] 9 #[.pointer q, .int .i64 0]).run aZ W= .ok (.string .empty) W:=λW q=>Lib.run_unsafeString_none W _ _ _ q
 rcases hO with⟨h1,rfl,_⟩|⟨g,cap,oa,Ds,ku,h1,h2,h3,h4,h5,h6⟩
 ·injection h1 with h1 _
  subst h1;have aD6:(a27 #[22] 86 #[.slice ay 0 0]).run aZ w.drew= .ok (.pointer ay) w.drew:=rfl;have fin:=Read.drew dj w nb;clear hB Qa
  go_enter Tryz.func22,Tryz.ntmps22
  go_wp2
  go_region
  all_goals (go_wp2;go_ret;exact⟨_,rfl,rfl,fin⟩)
 ·injection h1 with h1 _
  subst h1
  have hg:g∈nb:=by rw[h2];simp
  obtain⟨aI5,k1⟩:=Qa g hg;rw[h3]at k1
  injection k1 with k1;injection k1 with _ k2
  subst k2
  have ZR:oa.size=cap:=by simpa[Ty.size]using h5
  have Xz:w.drew.heap[g]?=J (.cells oa nF (0,0)):=h3
  by_cases hx:xs=[]
  ·subst hx
   by_cases hc0:cap=0
   ·subst hc0
    have aD6:(a27 #[22] 86 #[.slice (J ⟨g,0,ay⟩) 0 0]).run aZ w.drew= .ok (.pointer (J ⟨w.drew.heap.size,0,ay⟩)) (w.drew.alloc (.view ⟨g,0,ay⟩ 5)):=
     Lib.run_unsafeSliceData_zero w.drew _ _ 5 (by kernel_rfl) ⟨g,0,ay⟩ 0 (5,oa.size) (by simp[World.shape?,Xz,nF])
    have c2:(w.drew.alloc (.view ⟨g,0,ay⟩ 5)).cell? ⟨b,o+1,ay⟩=J (.slice (J ⟨g,0,ay⟩) 0 0):=by
     have:(w.drew.alloc (.view ⟨g,0,ay⟩ 5)).heap[b]?=J (.cells arr ty (0,0)):=(Lib.alloc_old w.drew _ b (lt_of_heap ha)).trans ha;rw[cn this];exact hu
    have c3:(w.alloc (.view ⟨g,0,ay⟩ 5)).drew.cell? ⟨b,o+1,ay⟩=J (.slice (J ⟨g,0,ay⟩) 0 0):=c2;have fin:=Read.RV dj w nb (.view ⟨g,0,ay⟩ 5);clear hB Qa
    go_enter Tryz.func22,Tryz.ntmps22
    go_wp2
    go_region
    all_goals (go_wp2;go_ret;exact⟨_,rfl,rfl,fin⟩)
   ·have aD6:(a27 #[22] 86 #[.slice (J ⟨g,0,ay⟩) 0 cap]).run aZ w.drew= .ok (.pointer (J ⟨g,0,ay⟩)) w.drew:=
     Lib.run_unsafeSliceData_row _ _ _ _ _ _ hc0
    have fin:=Read.drew dj w nb;clear hB Qa hc0
    go_enter Tryz.func22,Tryz.ntmps22
    go_wp2
    go_region
    all_goals (go_wp2;go_ret;exact⟨_,rfl,rfl,fin⟩)
  ·have tu:0<xs.length:=cp.2 hx
   have aD6:(a27 #[22] 86 #[.slice (J ⟨g,0,ay⟩) xs.length cap]).run aZ w.drew= .ok (.pointer (J ⟨g,0,ay⟩)) w.drew:=
    Lib.run_unsafeSliceData_row _ _ _ _ _ _ (by omega)
   obtain⟨st,hUS,pH⟩:=I0 (P:=aZ) (w:=w.drew) 86 3 9 5 (by kernel_rfl) (by kernel_rfl) g oa.size (by simp[World.shape?,Xz,nF]) xs hx (by omega) (by omega) (λj x hj=>by
    obtain⟨Ys,rfl⟩:=bw.1 hj;rw[a16]
    exact Eb Xz h6.1 j Ys)
   have fin:Read dj w nb (w.drew.freeze ⟨g,0,ay⟩ xs.length):=Read.freeze hg _;clear hB Qa hx
   go_enter Tryz.func22,Tryz.ntmps22
   go_wp2
   go_region
   all_goals (go_wp2;go_ret;exact⟨_,rfl,pH,fin⟩)
end Go.Abs.Bld
end

section
set_option maxRecDepth 100000
namespace Go.Abs.Bld
open Go.Proofs
theorem HF {ρ:Type}{n:Nat}{x y:ρ}(h:(bif fits n then J x else ay)=J y):n<=1099511627776/\x=y:=by
 cases e:fits n with
 |false=>rw[e]at h;cases h
 |true=>rw[e]at h;injection h with h;exact⟨aP e,h⟩
theorem MK {dj:Rd}{w w':World}{b o ty:Nat}{arr:Array Value}{nb:List Nat}{xs:List Int}(ha:w.heap[b]?=J (.cells arr ty (0,0)))(hle:o+2<=arr.size)(h:Written dj w b o ty arr nb xs w'):
  ∃ku,After dj w (b::nb) dj w' (b::ku)/\pn dj w w' (.ptr ar (0,places) .uY) xs (0,0) [.pointer (J ⟨b,o,ay⟩)] [.pointer (J ⟨b,o,ay⟩)] (b::ku):=by
 obtain⟨ku,oa,v,A,h1,h2,h3,h4⟩:=h;refine⟨ku,A,b,o,arr,ty,oa,[.pointer (J ⟨b,o,ay⟩),v],ku,rfl,rfl,rfl,ha,h1,h2,hle,rfl, .inr ⟨v,rfl,h3,h4⟩⟩
theorem Ka (fH:Nat->Option (List Cell)):oF aZ fH 35 ⟨⟨[bp, .one (.fh (.int .u8))], .val (.one .err)⟩,mj⟩:=by
 intro x y hF dj w args nb hG hc hP hn hi;obtain⟨u5,rfl⟩:=HF hF;obtain⟨u1,r1,n1,n2,rfl,rfl,⟨_,b,o,arr,ty,ku,e1,rfl,ha,hw,hle,hB⟩,u2,r2,n3,n4,rfl,rfl,⟨_,rfl,_,u3,e2,h3⟩,rfl,rfl⟩:=hP
 injection e1 with e1 _
 injection e2 with e2 _
 subst e1;subst e2;have h3:[_]=[_]:=h3
 injection h3 with h3 _
 subst h3;simp only[aU]at hn hi;refine gU Tryz.func35 rfl (by kernel_rfl) ((RY x.2.1 ha hle (hw.2 rfl) hB hn hi hc u5).mono ?_);rintro e w' ⟨rfl,hW⟩;obtain⟨al1,A,aD7⟩:=MK ha hle hW;refine⟨_,rfl,dj,[],b::al1,by simpa using A,⟨rfl,rfl,_,rfl, .inl ⟨rfl,rfl⟩⟩,_,_,b::al1,[],rfl,by simp,aD7,_,_,[],[],rfl,rfl,rfl,rfl,rfl⟩
theorem GD (fH:Nat->Option (List Cell)):oF aZ fH 20 ⟨⟨[bp, .one (.fh .str)], .yc [.one (.fh (.int .i64)), .one .err]⟩,kA⟩:=by
 intro x y hF dj w args nb hG hc hP hn hi;obtain⟨u5,rfl⟩:=HF hF;obtain⟨u1,r1,n1,n2,rfl,rfl,⟨_,b,o,arr,ty,ku,e1,rfl,ha,hw,hle,hB⟩,u2,r2,n3,n4,rfl,rfl,⟨_,rfl,_,u3,e2,s,h3,h4⟩,rfl,rfl⟩:=hP
 injection e1 with e1 _
 injection e2 with e2 _
 subst e1;subst e2
 injection h3 with h3 _
 subst h3;simp only[aU]at hn hi;have VM:x.2.1=bytesOf s:=h4;refine gU Tryz.func20 rfl (by kernel_rfl) ((writeString s ha hle (hw.2 rfl) hB hn hi hc (by rw[<-VM];exact u5)).mono ?_);rintro e w' ⟨rfl,hW⟩;rw[<-VM]at hW;obtain⟨al1,A,aD7⟩:=MK ha hle hW;refine⟨_,rfl,dj,[],b::al1,by simpa using A,⟨[_,_],rfl,_,_,[],[],rfl,rfl,⟨rfl,rfl,rfl,_,rfl, ?_⟩,_,_,[],[],rfl,rfl,⟨rfl,rfl,_,rfl, .inl ⟨rfl,rfl⟩⟩,rfl,rfl⟩,_,_,b::al1,[],rfl,by simp,aD7,_,_,[],[],rfl,rfl,rfl,rfl,rfl⟩;show [_]=[_];rw[<-iy,<-VM]
theorem RP (fH:Nat->Option (List Cell)):oF aZ fH 22 ⟨⟨[.one (.Bc places)], .val (.one (.fh .str))⟩,vD⟩:=by
 intro x y hF dj w args nb hG hc hP hn hi;obtain⟨u5,rfl⟩:=HF hF;obtain⟨u1,r1,n1,n2,rfl,rfl,⟨_,b,o,arr,ty,e1,ha,kM,hle,hB⟩,rfl,rfl⟩:=hP
 injection e1 with e1 _
 subst e1;simp only[aU]at hn hi;refine gU Tryz.func22 rfl (by kernel_rfl) ((string ha hle hB u5).mono ?_);rintro e w' ⟨st,rfl,pH,hR⟩;refine⟨_,rfl,dj,[],[], ?_,⟨rfl,rfl,rfl,_,rfl,st,rfl,pH.symm⟩,_,_,[],[],rfl,rfl,rfl,rfl,rfl⟩;rw[aU];exact hR.after hi hc
end Go.Abs.Bld
end

section
set_option maxRecDepth 100000
namespace Go.Abs.Bld
open Go.Proofs
theorem ND {l:List UInt8}{c:UInt8}:∀(m:List UInt8) (k:Nat),l=l.take k++m->k<=l.length->(match(a32 k m.length).find? λi=>l.getD i 0==c with|some i=>(i:Int)|none=> -1)=idx (m.map λb=>(b.toNat:Int)) (c.toNat:Int) k
 |[],k,_,_=>rfl
 |x::m,k,h,hk=>by
  have hx:l.getD k 0=x:=by
   rw[aG,h,List.getElem?_append_right (by simp;omega)];simp[a07 hk]
  have hlen:l.length=k+(m.length+1):=by
   have:=congrArg a14 h;simp only[ax,bl,az]at this;omega
  have ih:=ND (l:=l) (c:=c) m (k+1) (by
   have h':l=l.take k++[x]++m:=by rw[aI];exact h
   have h2:l.take (k+1)=l.take k++[x]:=by
    conv=>lhs;rw[h']
    rw[List.take_left'];simp[a07 hk]
   rw[h2];exact h') (by omega)
  rw[az,List.range'_succ,List.find?_cons,hx];simp only[bW,idx]
  by_cases e:x=c
  ·subst e;simp
  ·have e1:(x==c)=false:=(by simpa using e)
   have e2:I ((x.toNat:Int)=(c.toNat:Int))=false:=by
    simp only[af];intro h'
    apply e
    have:x.toNat=c.toNat:=(by omega);exact UInt8.toNat_inj.1 this
   rw[e1,e2];simp only[ah];rw[ih]
   push_cast
   rfl
theorem My (s:ByteArray)(c:Int):firstIdx s c.toNat.toUInt8=idx (bytesOf s) (byte c) 0:=by
 have h:=ND (l:=s.data.toList) (c:=c.toNat.toUInt8) s.data.toList 0 (by simp) (aX _)
 have hc:((c.toNat.toUInt8).toNat:Int)=byte c:=by
  unfold byte;rw[UInt8.toNat_ofNat']
 rw[hc]at h;have hb:(s.data.toList.map λb=>(b.toNat:Int))=bytesOf s:=rfl;rw[hb]at h;refine Eq.trans ?_ h;unfold firstIdx
 have po:s.size=s.data.toList.length:=by
  rw[a30];rfl
 rw[po,List.range_eq_range']
 have:∀i,s[i]! =s.data.toList.getD i 0:=λi=>by
  by_cases h:i<s.size
  ·rw[getElem!_pos s i h]
   have h':i<s.data.toList.length:=by rw[<-po];exact h
   rw[aG,aJ h',Option.getD_some];rfl
  ·rw[getElem!_neg s i h]
   have h':s.data.toList.length<=i:=by rw[<-po];omega
   rw[aG,bM h'];rfl
 simp only[this];split<;>rename_i e<;>rw[e]
theorem Kk (fH:Nat->Option (List Cell)):oF aZ fH 131 ⟨⟨[.one (.fh .str), .one (.fh (.int .u8))], .val (.one (.fh (.int .i64)))⟩,uH⟩:=
 zQ (ts:=[.str, .int .u8]) (τ:= .int .i64) rfl rfl λx y hF w us hA=>by
  injection hF with hF
  subst hF;obtain⟨u1,r1,rfl,⟨s,rfl,hs⟩,u2,r2,rfl,h2,h3⟩:=hA;have h2:_=_:=h2;have h3:_=_:=h3;subst h2;subst h3;have hs:x.1=bytesOf s:=hs;unfold jR;rw[run_callFunc_extern Tryz.func131 (by kernel_rfl) (by kernel_rfl) (by kernel_rfl) (e:=Extern.BytealgIndexByte.indexByte) (by kernel_rfl),run_indexByte_string];refine⟨Same.refl w, ?_⟩;show _=bN .i64 (idx x.1 (byte x.2.1) 0);rw[My,hs]
end Go.Abs.Bld
end

section
set_option maxRecDepth 100000
namespace Go.Abs.Lay
open Go.Proofs Go.Shelf
def ae3:Ren where
 f:=λn=>bif aw n 174 then 175 else bif aw n 247 then 179 else bif aw n 245 then 177 else bif aw n 287 then 176 else bif aw n 279 then 182 else bif aw n 280 then 183 else bif aw n 281 then 184 else bif aw n 282 then 185 else bif aw n 321 then 180 else bif aw n 322 then 181 else bif aw n 316 then 186 else bif aw n 171 then 17 else bif aw n 205 then 187 else bif aw n 243 then 33 else bif aw n 246 then 34 else bif aw n 283 then 61 else bif aw n 284 then 62 else bif aw n 285 then 63 else bif aw n 286 then 64 else bif aw n 129 then 127 else bif aw n 317 then 126 else bif aw n 318 then 128 else bif aw n 319 then 129 else bif aw n 320 then 130 else bif aw n 337 then 156 else bif aw n 338 then 157 else n
 t:=λn=>bif aw n 9 then 9 else bif aw n 3 then 3 else bif aw n 2 then 2 else bif aw n 75 then 62 else bif aw n 85 then 169 else bif aw n 4 then 4 else bif aw n 167 then 172 else bif aw n 5 then 5 else bif aw n 53 then 48 else bif aw n 175 then 166 else bif aw n 46 then 84 else bif aw n 168 then 174 else bif aw n 37 then 22 else bif aw n 0 then 0 else bif aw n 210 then 178 else bif aw n 21 then 21 else bif aw n 127 then 86 else bif aw n 145 then 182 else bif aw n 143 then 180 else bif aw n 171 then 111 else bif aw n 173 then 114 else bif aw n 212 then 148 else bif aw n 51 then 149 else bif aw n 20 then 20 else bif aw n 213 then 150 else bif aw n 232 then 164 else bif aw n 233 then 165 else bif aw n 80 then 51 else n
 g:=λn=>bif aw n 15 then 7 else bif aw n 16 then 8 else bif aw n 17 then 0 else bif aw n 18 then 2 else bif aw n 19 then 3 else n
theorem T5:LaysC.n174 aZ ae3 where
 mixed:=by kernel_rfl
 f129:=Tryz.func127.trans (congrArg J (by kernel_rfl))
 f171:=Tryz.func17.trans (congrArg J (by kernel_rfl))
 f174:=Tryz.func175.trans (congrArg J (by kernel_rfl))
 f205:=Tryz.func187.trans (congrArg J (by kernel_rfl))
 f243:=Tryz.func33.trans (congrArg J (by kernel_rfl))
 f245:=Tryz.func177.trans (congrArg J (by kernel_rfl))
 f246:=Tryz.func34.trans (congrArg J (by kernel_rfl))
 f247:=Tryz.func179.trans (congrArg J (by kernel_rfl))
 f279:=Tryz.func182.trans (congrArg J (by kernel_rfl))
 f280:=Tryz.func183.trans (congrArg J (by kernel_rfl))
 f281:=Tryz.func184.trans (congrArg J (by kernel_rfl))
 f282:=Tryz.func185.trans (congrArg J (by kernel_rfl))
 f283:=Tryz.func61.trans (congrArg J (by kernel_rfl))
 f284:=Tryz.func62.trans (congrArg J (by kernel_rfl))
 f285:=Tryz.func63.trans (congrArg J (by kernel_rfl))
 f286:=Tryz.func64.trans (congrArg J (by kernel_rfl))
 f287:=a52.trans (congrArg J (by kernel_rfl))
 f316:=Tryz.func186.trans (congrArg J (by kernel_rfl))
 f317:=Tryz.func126.trans (congrArg J (by kernel_rfl))
 f318:=Tryz.func128.trans (congrArg J (by kernel_rfl))
 f319:=Tryz.func129.trans (congrArg J (by kernel_rfl))
 f320:=Tryz.func130.trans (congrArg J (by kernel_rfl))
 f321:=Tryz.func180.trans (congrArg J (by kernel_rfl))
 f322:=Tryz.func181.trans (congrArg J (by kernel_rfl))
 f337:=Tryz.func156.trans (congrArg J (by kernel_rfl))
 f338:=Tryz.func157.trans (congrArg J (by kernel_rfl))
 t0:=Tryz.underlying0
 a0:=Tryz.isAgg0
 z0:=Tryz.sizeOf0
 v0:=Tryz.zeroValue0
 t2:=Tryz.underlying2
 a2:=Tryz.isAgg2
 z2:=Tryz.sizeOf2
 v2:=Tryz.zeroValue2
 t3:=Tryz.underlying3
 a3:=Tryz.isAgg3
 z3:=Tryz.sizeOf3
 v3:=Tryz.zeroValue3
 t4:=Tryz.underlying4
 a4:=Tryz.isAgg4
 z4:=Tryz.sizeOf4
 v4:=Tryz.zeroValue4
 t5:=Tryz.underlying5
 a5:=Tryz.isAgg5
 z5:=Tryz.sizeOf5
 v5:=Tryz.zeroValue5
 t9:=Tryz.underlying9
 a9:=Tryz.isAgg9
 z9:=Tryz.sizeOf9
 v9:=Tryz.zeroValue9
 t20:=Tryz.underlying20
 a20:=Tryz.isAgg20
 z20:=Tryz.sizeOf20
 v20:=Tryz.zeroValue20
 t21:=Tryz.underlying21
 a21:=Tryz.isAgg21
 z21:=Tryz.sizeOf21
 v21:=Tryz.zeroValue21
 t37:=Tryz.underlying22
 a37:=Tryz.isAgg22
 z37:=Tryz.sizeOf22
 v37:=Tryz.zeroValue22
 t46:=Tryz.underlying84
 a46:=Tryz.isAgg84
 z46:=Tryz.sizeOf84
 v46:=Tryz.zeroValue84
 t51:=Tryz.underlying149
 a51:=Tryz.isAgg149
 z51:=Tryz.sizeOf149
 v51:=Tryz.zeroValue149
 t53:=Tryz.underlying48
 a53:=Tryz.isAgg48
 z53:=Tryz.sizeOf48
 v53:=Tryz.zeroValue48
 t75:=Tryz.underlying62
 a75:=Tryz.isAgg62
 z75:=Tryz.sizeOf62
 v75:=Tryz.zeroValue62
 t85:=Tryz.underlying169
 a85:=Tryz.isAgg169
 z85:=Tryz.sizeOf169
 v85:=Tryz.zeroValue169
 t127:=Tryz.underlying86
 a127:=Tryz.isAgg86
 z127:=Tryz.sizeOf86
 v127:=Tryz.zeroValue86
 t143:=Tryz.underlying180
 a143:=Tryz.isAgg180
 z143:=Tryz.sizeOf180
 v143:=Tryz.zeroValue180
 t145:=Tryz.underlying182
 a145:=Tryz.isAgg182
 z145:=Tryz.sizeOf182
 v145:=Tryz.zeroValue182
 t167:=Tryz.underlying172
 a167:=Tryz.isAgg172
 z167:=Tryz.sizeOf172
 v167:=Tryz.zeroValue172
 t168:=Tryz.underlying174
 a168:=Tryz.isAgg174
 z168:=Tryz.sizeOf174
 v168:=Tryz.zeroValue174
 t171:=Tryz.underlying111
 a171:=Tryz.isAgg111
 z171:=Tryz.sizeOf111
 v171:=Tryz.zeroValue111
 t173:=Tryz.underlying114
 a173:=Tryz.isAgg114
 z173:=Tryz.sizeOf114
 v173:=Tryz.zeroValue114
 t175:=Tryz.underlying166
 a175:=Tryz.isAgg166
 z175:=Tryz.sizeOf166
 v175:=Tryz.zeroValue166
 t210:=Tryz.underlying178
 a210:=Tryz.isAgg178
 z210:=Tryz.sizeOf178
 v210:=Tryz.zeroValue178
 t212:=Tryz.underlying148
 a212:=Tryz.isAgg148
 z212:=Tryz.sizeOf148
 v212:=Tryz.zeroValue148
 t213:=Tryz.underlying150
 a213:=Tryz.isAgg150
 z213:=Tryz.sizeOf150
 t232:=Tryz.underlying164
 a232:=Tryz.isAgg164
 z232:=Tryz.sizeOf164
 v232:=Tryz.zeroValue164
 t233:=Tryz.underlying165
 a233:=Tryz.isAgg165
 z233:=Tryz.sizeOf165
 v233:=Tryz.zeroValue165
 g15:=by kernel_rfl
 g16:=by kernel_rfl
 g17:=by kernel_rfl
 g18:=by kernel_rfl
 g19:=by kernel_rfl
 t80:=Tryz.underlying51
 a80:=Tryz.isAgg51
 z80:=Tryz.sizeOf51
 v80:=Tryz.zeroValue51
 i0:=by kernel_rfl
 i2:=by kernel_rfl
 i3:=by kernel_rfl
 i4:=by kernel_rfl
 i5:=by kernel_rfl
 i9:=by kernel_rfl
 i20:=by kernel_rfl
 i21:=by kernel_rfl
 i37:=by kernel_rfl
 i46:=by kernel_rfl
 i51:=by kernel_rfl
 i53:=by kernel_rfl
 i75:=by kernel_rfl
 i80:=by kernel_rfl
 i85:=by kernel_rfl
 i127:=by kernel_rfl
 i143:=by kernel_rfl
 i145:=by kernel_rfl
 i167:=by kernel_rfl
 i168:=by kernel_rfl
 i171:=by kernel_rfl
 i173:=by kernel_rfl
 i175:=by kernel_rfl
 i210:=by kernel_rfl
 i212:=by kernel_rfl
 i232:=by kernel_rfl
 i233:=by kernel_rfl
 m15:=by kernel_rfl
 m16:=by kernel_rfl
 m17:=by kernel_rfl
 m18:=by kernel_rfl
 m19:=by kernel_rfl
 c0:=by kernel_rfl
 c2:=by kernel_rfl
 c3:=by kernel_rfl
 c4:=by kernel_rfl
 c5:=by kernel_rfl
 c9:=by kernel_rfl
 c20:=by kernel_rfl
 c21:=by kernel_rfl
 c37:=by kernel_rfl
 c46:=by kernel_rfl
 c51:=by kernel_rfl
 c53:=by kernel_rfl
 c75:=by kernel_rfl
 c80:=by kernel_rfl
 c85:=by kernel_rfl
 c127:=by kernel_rfl
 c143:=by kernel_rfl
 c145:=by kernel_rfl
 c167:=by kernel_rfl
 c168:=by kernel_rfl
 c171:=by kernel_rfl
 c173:=by kernel_rfl
 c175:=by kernel_rfl
 c210:=by kernel_rfl
 c212:=by kernel_rfl
 c213:=by kernel_rfl
 c232:=by kernel_rfl
 c233:=by kernel_rfl
def ah3:Ren where
 f:=λn=>bif aw n 173 then 18 else bif aw n 246 then 34 else bif aw n 283 then 61 else bif aw n 284 then 62 else bif aw n 285 then 63 else bif aw n 286 then 64 else bif aw n 129 then 127 else bif aw n 317 then 126 else bif aw n 318 then 128 else bif aw n 319 then 129 else bif aw n 320 then 130 else bif aw n 337 then 156 else bif aw n 338 then 157 else n
 t:=λn=>bif aw n 2 then 2 else bif aw n 3 then 3 else bif aw n 9 then 9 else bif aw n 4 then 4 else bif aw n 171 then 111 else bif aw n 0 then 0 else bif aw n 53 then 48 else bif aw n 37 then 22 else bif aw n 5 then 5 else bif aw n 173 then 114 else bif aw n 212 then 148 else bif aw n 51 then 149 else bif aw n 20 then 20 else bif aw n 213 then 150 else bif aw n 46 then 84 else bif aw n 232 then 164 else bif aw n 233 then 165 else n
 g:=λn=>bif aw n 17 then 0 else bif aw n 18 then 2 else bif aw n 19 then 3 else n
theorem Zb:LaysM.n173 aZ ah3 where
 mixed:=by kernel_rfl
 f129:=Tryz.func127.trans (congrArg J (by kernel_rfl))
 f173:=Tryz.func18.trans (congrArg J (by kernel_rfl))
 f246:=Tryz.func34.trans (congrArg J (by kernel_rfl))
 f283:=Tryz.func61.trans (congrArg J (by kernel_rfl))
 f284:=Tryz.func62.trans (congrArg J (by kernel_rfl))
 f285:=Tryz.func63.trans (congrArg J (by kernel_rfl))
 f286:=Tryz.func64.trans (congrArg J (by kernel_rfl))
 f317:=Tryz.func126.trans (congrArg J (by kernel_rfl))
 f318:=Tryz.func128.trans (congrArg J (by kernel_rfl))
 f319:=Tryz.func129.trans (congrArg J (by kernel_rfl))
 f320:=Tryz.func130.trans (congrArg J (by kernel_rfl))
 f337:=Tryz.func156.trans (congrArg J (by kernel_rfl))
 f338:=Tryz.func157.trans (congrArg J (by kernel_rfl))
 t0:=Tryz.underlying0
 a0:=Tryz.isAgg0
 z0:=Tryz.sizeOf0
 v0:=Tryz.zeroValue0
 t2:=Tryz.underlying2
 a2:=Tryz.isAgg2
 z2:=Tryz.sizeOf2
 v2:=Tryz.zeroValue2
 t3:=Tryz.underlying3
 a3:=Tryz.isAgg3
 z3:=Tryz.sizeOf3
 v3:=Tryz.zeroValue3
 t4:=Tryz.underlying4
 a4:=Tryz.isAgg4
 z4:=Tryz.sizeOf4
 v4:=Tryz.zeroValue4
 t5:=Tryz.underlying5
 a5:=Tryz.isAgg5
 z5:=Tryz.sizeOf5
 v5:=Tryz.zeroValue5
 t9:=Tryz.underlying9
 a9:=Tryz.isAgg9
 z9:=Tryz.sizeOf9
 v9:=Tryz.zeroValue9
 t20:=Tryz.underlying20
 a20:=Tryz.isAgg20
 z20:=Tryz.sizeOf20
 v20:=Tryz.zeroValue20
 t37:=Tryz.underlying22
 a37:=Tryz.isAgg22
 z37:=Tryz.sizeOf22
 v37:=Tryz.zeroValue22
 t46:=Tryz.underlying84
 a46:=Tryz.isAgg84
 z46:=Tryz.sizeOf84
 v46:=Tryz.zeroValue84
 t51:=Tryz.underlying149
 a51:=Tryz.isAgg149
 z51:=Tryz.sizeOf149
 v51:=Tryz.zeroValue149
 t53:=Tryz.underlying48
 a53:=Tryz.isAgg48
 z53:=Tryz.sizeOf48
 v53:=Tryz.zeroValue48
 t171:=Tryz.underlying111
 a171:=Tryz.isAgg111
 z171:=Tryz.sizeOf111
 v171:=Tryz.zeroValue111
 t173:=Tryz.underlying114
 a173:=Tryz.isAgg114
 z173:=Tryz.sizeOf114
 v173:=Tryz.zeroValue114
 t212:=Tryz.underlying148
 a212:=Tryz.isAgg148
 z212:=Tryz.sizeOf148
 v212:=Tryz.zeroValue148
 t213:=Tryz.underlying150
 a213:=Tryz.isAgg150
 z213:=Tryz.sizeOf150
 t232:=Tryz.underlying164
 a232:=Tryz.isAgg164
 z232:=Tryz.sizeOf164
 v232:=Tryz.zeroValue164
 t233:=Tryz.underlying165
 a233:=Tryz.isAgg165
 z233:=Tryz.sizeOf165
 v233:=Tryz.zeroValue165
 g17:=by kernel_rfl
 g18:=by kernel_rfl
 g19:=by kernel_rfl
 i0:=by kernel_rfl
 i2:=by kernel_rfl
 i3:=by kernel_rfl
 i4:=by kernel_rfl
 i5:=by kernel_rfl
 i9:=by kernel_rfl
 i20:=by kernel_rfl
 i37:=by kernel_rfl
 i46:=by kernel_rfl
 i51:=by kernel_rfl
 i53:=by kernel_rfl
 i171:=by kernel_rfl
 i173:=by kernel_rfl
 i212:=by kernel_rfl
 i232:=by kernel_rfl
 i233:=by kernel_rfl
 m17:=by kernel_rfl
 m18:=by kernel_rfl
 m19:=by kernel_rfl
end Go.Abs.Lay
end

section
set_option maxRecDepth 100000
namespace Go.Abs.Lx
open Go.Proofs
theorem AQ {w w':World}(h:RowKit.Below w.heap.size w w'):Same w w':=⟨λb hb=>h.block b hb,h.size,h.os,h.tape,h.output⟩
theorem JR (w:World)(k:Nat)(os:Array Go.Obj):Same w (Go.Sort.grow (w.drewN k) os):=by
 refine⟨λb hb=> ?_, ?_,rfl,rfl,rfl⟩
 ·show(w.heap++os)[b]?=_;rw[Array.getElem?_append_left hb]
 ·show _<=(w.heap++os).size;simp
theorem Mq {fH:Nat->Option (List Cell)}(hg:fH 8=J [.err ar]):oF aZ fH 175 ⟨⟨[.one (.fh .str), .one (.fh (.int .i64)), .one (.fh (.int .i64))], .yc [.one (.fh (.int .i64)), .one .err]⟩,rh⟩:=by
 intro x y hF dj w args nb hG kG hP o9 Be;obtain⟨hA,rfl⟩:=wN (ts:=[.str, .int .i64, .int .i64]) rfl hP;obtain⟨u1,r1,rfl,⟨s,rfl,hs⟩,u2,r2,rfl,h2,u3,r3,rfl,h3,h4⟩:=hA;have h2:_=_:=h2;have h3:_=_:=h3;have h4:_=_:=h4;subst h2;subst h3;subst h4;have hs:x.1=bytesOf s:=hs;have hF:rh x=J y:=hF;unfold rh at hF
 cases hc:(I (x.2.1=10)&&I (x.2.2.1=64)&&fits x.1.length)with
 |false=>rw[hc]at hF;cases hF
 |true=>
  rw[hc]at hF;simp only[ai]at hF;simp only[aA,ae]at hc;obtain⟨⟨e1,e2⟩,hl⟩:=hc
  have po:s.size<=1099511627776:=by
   have:=aP hl;rw[hs,iy]at this;exact this
  have f1:x.2.1=10:=e1;have f2:x.2.2.1=64:=e2;show jR aZ 175 #[.string s, .int .i64 x.2.1, .int .i64 x.2.2.1] w _;rw[f1,f2];have hu:u8s x.1=s.data.toList:=(by rw[hs,EU]);rw[hu]at hF
  have fin:∀{v:Int} {b:Bool} {u:Value} {w':World},Same w w'->y=((v,b,()),(),(),(),())->((b=av/\u= .nilIface)\/(b=ar/\∃t p,u= .iface t p))->∃fw n1 n2,After dj w [] fw w' (n1++n2)/\
    xW fw w' (.yc [.one (.fh (.int .i64)), .one .err]) y.1 (.tuple #[.int .i64 v,u]) n1/\l6 fw w w' [.one (.fh .str), .one (.fh (.int .i64)), .one (.fh (.int .i64))] y.2 [.string s, .int .i64 x.2.1, .int .i64 x.2.2.1] n2:=by
   intro v b u w' Vd hy hu;subst hy;refine⟨dj,[],[],Vd.after kG,⟨[_,_],rfl,_,_,[],[],rfl,rfl,⟨rfl,rfl,rfl,_,rfl,rfl⟩,_,_,[],[],rfl,rfl,⟨?_,rfl,_,rfl,hu⟩,rfl,rfl⟩,wP (ts:=[.str, .int .i64, .int .i64]) (y:=x) ⟨_,_,rfl,⟨s,rfl,hs⟩,_,_,rfl,rfl,_,_,rfl,rfl,rfl⟩⟩
   rcases hu with⟨_,rfl⟩|⟨_,t,p,rfl⟩<;>rfl
  rw[f1,f2]at fin
  cases hp:Lib.parseIntB 64 s.data.toList with
  |ok v=>
   rw[hp]at hF
   injection hF with hF
   refine gU Tryz.func175 rfl (by kernel_rfl) ((Any.strconv_ParseInt_10_at64_ok Lay.T5 s (by omega) v hp w).mono ?_);rintro e w' ⟨rfl,hw⟩;refine⟨_,rfl,fin (b:=av) ?_ hF.symm (.inl ⟨rfl,rfl⟩)⟩
   rcases hw with rfl|⟨t,rfl⟩
   ·exact Same.refl _
   ·exact⟨λb hb=>Lib.bytesWorld_at_old w _ t b hb,by rw[Lib.bytesWorld_size];omega,rfl,rfl,rfl⟩
  |range=>
   rw[hp]at hF
   injection hF with hF
   obtain⟨us,hi,aq0⟩:=hG _ _ hg;obtain⟨arr,ty,fr,ha,hL⟩:=kG _ _ hi
   obtain⟨u,r,rfl,hu,hr⟩:=aq0 ⟨dj,λ_=>0,λ_ _=> .nilIface,λ_=>ay,λ_=>ay,λ_=>[]⟩ λ_ _ h=>h
   have hr:r=[]:=hr;subst hr
   have xa:w.cell? ⟨8,0,ay⟩=J u:=by
    rw[cn ha];have:arr[0]?=arr.toList[0]?:=(by simp);rw[this,hL];rfl
   refine gU Tryz.func175 rfl (by kernel_rfl) ((Any.strconv_ParseInt_10_at64_range Lay.T5 s (by omega) hp u w xa ?_).mono ?_)
   ·rcases hu with⟨h,_⟩|⟨_,t,v,rfl⟩
    ·cases h
    ·exact .inr ⟨t,v,rfl⟩
   rintro e w' ⟨N,rfl,_,_,hw⟩;exact⟨_,rfl,fin (b:=ar) (AQ hw) hF.symm (.inr ⟨rfl,_,_,rfl⟩)⟩
  |_=>rw[hp]at hF;cases hF
theorem Kx {fH:Nat->Option (List Cell)}(hg:fH 0=J Q8):oF aZ fH 18 ⟨⟨[.one (.fh (.int .i64)), .one (.fh (.int .i64))], .val (.one (.fh .str))⟩,pT⟩:=by
 intro x y hF dj w args nb hG kG hP o9 Be;obtain⟨hA,rfl⟩:=wN (ts:=[.int .i64, .int .i64]) rfl hP;obtain⟨u1,r1,rfl,h1,u2,r2,rfl,h2,h4⟩:=hA;have h1:_=_:=h1;have h2:_=_:=h2;have h4:_=_:=h4;subst h1;subst h2;subst h4;have hF:pT x=J y:=hF;unfold pT at hF
 cases hc:(I (x.2.1=10)&&I (-9223372036854775808<=x.1)&&I (x.1<=9223372036854775807))with
 |false=>rw[hc]at hF;cases hF
 |true=>
  rw[hc]at hF
  injection hF with hF
  simp only[aA,ae]at hc;obtain⟨⟨e1,e2⟩,e3⟩:=hc;have f1:x.2.1=10:=e1;show jR aZ 18 #[.int .i64 x.1, .int .i64 x.2.1] w _;rw[f1];obtain⟨us,hi,aq0⟩:=hG _ _ hg;obtain⟨arr,ty,fr,ha,hL⟩:=kG _ _ hi
  have VB:=aq0 ⟨dj,λ_=>0,λ_ _=> .nilIface,λ_=>ay,λ_=>ay,λ_=>[]⟩ λ_ _ h=>h
  have aq5:us=a50.map λz=>bN .u64 z:=by
   have all:∀(l:List Int) (us:List Value) (g:Gh),dr g (l.map λz=> .v (.int .u64) z) us->us=l.map λz=>bN .u64 z:=by
    intro l
    induction l with
    |nil=>intro us g h;exact h
    |cons z l ih=>
     intro us g h;obtain⟨u,r,rfl,hu,hr⟩:=h;have hu:[u]=[bN .u64 z]:=hu.2
     injection hu with hu _
     subst hu;rw[ih r g hr];rfl
   exact all _ _ _ VB
  have aG7:Lib.TabIs aZ w "internal/strconv.uint64pow10" .u64 a50:=by
   have hn:aZ.globalNamed "internal/strconv.uint64pow10" =J 0:=by kernel_rfl
   unfold Lib.TabIs World.var?;rw[hn];simp only[au,ha]
   have:arr=(a50.map λz=>bN .u64 z).toArray:=by
    apply a84
    rw[hL,aq5]
   rw[this]
  refine gU Tryz.func18 rfl (by kernel_rfl) ((Any.strconv_FormatInt_10 Lay.Zb x.1 e2 e3 w aG7).mono ?_);rintro e w' ⟨rfl,k,os,rfl⟩;subst hF;exact⟨_,rfl,dj,[],[],(JR w k os).after kG,⟨rfl,rfl,rfl,_,rfl,_,rfl,rfl⟩,wP (ts:=[.int .i64, .int .i64]) (y:=x) ⟨_,_,rfl,rfl,_,_,rfl,f1 ▸ rfl,rfl⟩⟩
end Go.Abs.Lx
end

section
set_option maxRecDepth 100000
namespace Go.Abs.Lay
open Go.Proofs Go.Shelf
def af5:Ren where
 f:=λn=>bif aw n 171 then 17 else bif aw n 243 then 33 else bif aw n 246 then 34 else bif aw n 283 then 61 else bif aw n 284 then 62 else bif aw n 285 then 63 else bif aw n 286 then 64 else bif aw n 129 then 127 else bif aw n 317 then 126 else bif aw n 318 then 128 else bif aw n 319 then 129 else bif aw n 320 then 130 else bif aw n 337 then 156 else bif aw n 338 then 157 else n
 t:=λn=>bif aw n 3 then 3 else bif aw n 9 then 9 else bif aw n 2 then 2 else bif aw n 4 then 4 else bif aw n 171 then 111 else bif aw n 0 then 0 else bif aw n 53 then 48 else bif aw n 37 then 22 else bif aw n 5 then 5 else bif aw n 173 then 114 else bif aw n 212 then 148 else bif aw n 51 then 149 else bif aw n 20 then 20 else bif aw n 213 then 150 else bif aw n 46 then 84 else bif aw n 232 then 164 else bif aw n 233 then 165 else n
 g:=λn=>bif aw n 17 then 0 else bif aw n 18 then 2 else bif aw n 19 then 3 else n
theorem YP:LaysM.n171 aZ af5 where
 mixed:=by kernel_rfl
 f129:=Tryz.func127.trans (congrArg J (by kernel_rfl))
 f171:=Tryz.func17.trans (congrArg J (by kernel_rfl))
 f243:=Tryz.func33.trans (congrArg J (by kernel_rfl))
 f246:=Tryz.func34.trans (congrArg J (by kernel_rfl))
 f283:=Tryz.func61.trans (congrArg J (by kernel_rfl))
 f284:=Tryz.func62.trans (congrArg J (by kernel_rfl))
 f285:=Tryz.func63.trans (congrArg J (by kernel_rfl))
 f286:=Tryz.func64.trans (congrArg J (by kernel_rfl))
 f317:=Tryz.func126.trans (congrArg J (by kernel_rfl))
 f318:=Tryz.func128.trans (congrArg J (by kernel_rfl))
 f319:=Tryz.func129.trans (congrArg J (by kernel_rfl))
 f320:=Tryz.func130.trans (congrArg J (by kernel_rfl))
 f337:=Tryz.func156.trans (congrArg J (by kernel_rfl))
 f338:=Tryz.func157.trans (congrArg J (by kernel_rfl))
 t0:=Tryz.underlying0
 a0:=Tryz.isAgg0
 z0:=Tryz.sizeOf0
 v0:=Tryz.zeroValue0
 t2:=Tryz.underlying2
 a2:=Tryz.isAgg2
 z2:=Tryz.sizeOf2
 v2:=Tryz.zeroValue2
 t3:=Tryz.underlying3
 a3:=Tryz.isAgg3
 z3:=Tryz.sizeOf3
 v3:=Tryz.zeroValue3
 t4:=Tryz.underlying4
 a4:=Tryz.isAgg4
 z4:=Tryz.sizeOf4
 v4:=Tryz.zeroValue4
 t5:=Tryz.underlying5
 a5:=Tryz.isAgg5
 z5:=Tryz.sizeOf5
 v5:=Tryz.zeroValue5
 t9:=Tryz.underlying9
 a9:=Tryz.isAgg9
 z9:=Tryz.sizeOf9
 v9:=Tryz.zeroValue9
 t20:=Tryz.underlying20
 a20:=Tryz.isAgg20
 z20:=Tryz.sizeOf20
 v20:=Tryz.zeroValue20
 t37:=Tryz.underlying22
 a37:=Tryz.isAgg22
 z37:=Tryz.sizeOf22
 v37:=Tryz.zeroValue22
 t46:=Tryz.underlying84
 a46:=Tryz.isAgg84
 z46:=Tryz.sizeOf84
 v46:=Tryz.zeroValue84
 t51:=Tryz.underlying149
 a51:=Tryz.isAgg149
 z51:=Tryz.sizeOf149
 v51:=Tryz.zeroValue149
 t53:=Tryz.underlying48
 a53:=Tryz.isAgg48
 z53:=Tryz.sizeOf48
 v53:=Tryz.zeroValue48
 t171:=Tryz.underlying111
 a171:=Tryz.isAgg111
 z171:=Tryz.sizeOf111
 v171:=Tryz.zeroValue111
 t173:=Tryz.underlying114
 a173:=Tryz.isAgg114
 z173:=Tryz.sizeOf114
 v173:=Tryz.zeroValue114
 t212:=Tryz.underlying148
 a212:=Tryz.isAgg148
 z212:=Tryz.sizeOf148
 v212:=Tryz.zeroValue148
 t213:=Tryz.underlying150
 a213:=Tryz.isAgg150
 z213:=Tryz.sizeOf150
 t232:=Tryz.underlying164
 a232:=Tryz.isAgg164
 z232:=Tryz.sizeOf164
 v232:=Tryz.zeroValue164
 t233:=Tryz.underlying165
 a233:=Tryz.isAgg165
 z233:=Tryz.sizeOf165
 v233:=Tryz.zeroValue165
 g17:=by kernel_rfl
 g18:=by kernel_rfl
 g19:=by kernel_rfl
 i0:=by kernel_rfl
 i2:=by kernel_rfl
 i3:=by kernel_rfl
 i4:=by kernel_rfl
 i5:=by kernel_rfl
 i9:=by kernel_rfl
 i20:=by kernel_rfl
 i37:=by kernel_rfl
 i46:=by kernel_rfl
 i51:=by kernel_rfl
 i53:=by kernel_rfl
 i171:=by kernel_rfl
 i173:=by kernel_rfl
 i212:=by kernel_rfl
 i232:=by kernel_rfl
 i233:=by kernel_rfl
 m17:=by kernel_rfl
 m18:=by kernel_rfl
 m19:=by kernel_rfl
def X0:Ren where
 f:=λn=>bif aw n 156 then 21 else bif aw n 165 then 38 else bif aw n 166 then 20 else bif aw n 169 then 22 else bif aw n 240 then 37 else bif aw n 241 then 67 else bif aw n 276 then 66 else bif aw n 277 then 132 else n
 t:=λn=>bif aw n 31 then 32 else bif aw n 9 then 9 else bif aw n 3 then 3 else bif aw n 4 then 4 else bif aw n 0 then 0 else bif aw n 20 then 20 else bif aw n 72 then 57 else bif aw n 76 then 63 else bif aw n 70 then 55 else bif aw n 37 then 22 else bif aw n 75 then 62 else bif aw n 127 then 86 else bif aw n 164 then 116 else bif aw n 5 then 5 else bif aw n 80 then 51 else n
 g:=λn=>n
theorem T0:Lays.n156 aZ X0 where
 mixed:=by kernel_rfl
 f156:=Tryz.func21.trans (congrArg J (by kernel_rfl))
 f165:=Tryz.func38.trans (congrArg J (by kernel_rfl))
 f166:=Tryz.func20.trans (congrArg J (by kernel_rfl))
 f169:=Tryz.func22.trans (congrArg J (by kernel_rfl))
 f240:=Tryz.func37.trans (congrArg J (by kernel_rfl))
 f241:=Tryz.func67.trans (congrArg J (by kernel_rfl))
 f276:=Tryz.func66.trans (congrArg J (by kernel_rfl))
 f277:=Tryz.func132.trans (congrArg J (by kernel_rfl))
 t0:=Tryz.underlying0
 a0:=Tryz.isAgg0
 z0:=Tryz.sizeOf0
 v0:=Tryz.zeroValue0
 t3:=Tryz.underlying3
 a3:=Tryz.isAgg3
 z3:=Tryz.sizeOf3
 v3:=Tryz.zeroValue3
 t4:=Tryz.underlying4
 a4:=Tryz.isAgg4
 z4:=Tryz.sizeOf4
 v4:=Tryz.zeroValue4
 t9:=Tryz.underlying9
 a9:=Tryz.isAgg9
 z9:=Tryz.sizeOf9
 v9:=Tryz.zeroValue9
 t20:=Tryz.underlying20
 a20:=Tryz.isAgg20
 z20:=Tryz.sizeOf20
 v20:=Tryz.zeroValue20
 t31:=Tryz.underlying32
 a31:=Tryz.isAgg32
 z31:=Tryz.sizeOf32
 v31:=Tryz.zeroValue32
 t37:=Tryz.underlying22
 a37:=Tryz.isAgg22
 z37:=Tryz.sizeOf22
 v37:=Tryz.zeroValue22
 t70:=Tryz.underlying55
 a70:=Tryz.isAgg55
 z70:=Tryz.sizeOf55
 v70:=Tryz.zeroValue55
 t72:=Tryz.underlying57
 a72:=Tryz.isAgg57
 z72:=Tryz.sizeOf57
 v72:=Tryz.zeroValue57
 t75:=Tryz.underlying62
 a75:=Tryz.isAgg62
 z75:=Tryz.sizeOf62
 v75:=Tryz.zeroValue62
 t76:=Tryz.underlying63
 a76:=Tryz.isAgg63
 z76:=Tryz.sizeOf63
 v76:=Tryz.zeroValue63
 t127:=Tryz.underlying86
 a127:=Tryz.isAgg86
 z127:=Tryz.sizeOf86
 v127:=Tryz.zeroValue86
 t164:=Tryz.underlying116
 a164:=Tryz.isAgg116
 z164:=Tryz.sizeOf116
 v164:=Tryz.zeroValue116
end Go.Abs.Lay
end

section
set_option maxRecDepth 100000
namespace Go.Abs.Lx
open Go.Proofs
theorem YN {fH:Nat->Option (List Cell)}(hg:fH 0=J Q8){dj:Rd}{w:World}(hG:jG fH dj)(kG:∀b L,dj b=J L->∃arr ty fr,w.heap[b]?=J (.cells arr ty fr)/\arr.toList=L):Lib.TabIs aZ w "internal/strconv.uint64pow10" .u64 a50:=by
 obtain⟨us,hi,aq0⟩:=hG _ _ hg;obtain⟨arr,ty,fr,ha,hL⟩:=kG _ _ hi
 have VB:=aq0 ⟨dj,λ_=>0,λ_ _=> .nilIface,λ_=>ay,λ_=>ay,λ_=>[]⟩ λ_ _ h=>h
 have aq5:us=a50.map λz=>bN .u64 z:=by
  have all:∀(l:List Int) (us:List Value) (g:Gh),dr g (l.map λz=> .v (.int .u64) z) us->us=l.map λz=>bN .u64 z:=by
   intro l
   induction l with
   |nil=>intro us g h;exact h
   |cons z l ih=>
    intro us g h;obtain⟨u,r,rfl,hu,hr⟩:=h;have hu:[u]=[bN .u64 z]:=hu.2
    injection hu with hu _
    subst hu;rw[ih r g hr];rfl
  exact all _ _ _ VB
 have hn:aZ.globalNamed "internal/strconv.uint64pow10" =J 0:=by kernel_rfl
 unfold Lib.TabIs World.var?;rw[hn];simp only[au,ha]
 have:arr=(a50.map λz=>bN .u64 z).toArray:=by
  apply a84
  rw[hL,aq5]
 rw[this]
theorem VT {fH:Nat->Option (List Cell)}(hg:fH 0=J Q8):oF aZ fH 17 ⟨⟨[.one (.fh (.int .i64))], .val (.one (.fh .str))⟩,sZ⟩:=by
 intro x y hF dj w args nb hG kG hP o9 Be;obtain⟨hA,rfl⟩:=wN (ts:=[.int .i64]) rfl hP;obtain⟨u1,r1,rfl,h1,h4⟩:=hA;have h1:_=_:=h1;have h4:_=_:=h4;subst h1;subst h4;have hF:sZ x=J y:=hF;unfold sZ at hF
 cases hc:(I (-9223372036854775808<=x.1)&&I (x.1<=9223372036854775807))with
 |false=>rw[hc]at hF;cases hF
 |true=>
  rw[hc]at hF
  injection hF with hF
  simp only[aA,ae]at hc;obtain⟨e2,e3⟩:=hc;refine gU Tryz.func17 rfl (by kernel_rfl) ((Any.strconv_Itoa Lay.YP x.1 e2 e3 w (YN hg hG kG)).mono ?_);rintro e w' ⟨rfl,k,os,rfl⟩;subst hF;exact⟨_,rfl,dj,[],[],(JR w k os).after kG,⟨rfl,rfl,rfl,_,rfl,_,rfl,rfl⟩,wP (ts:=[.int .i64]) (y:=x) ⟨_,_,rfl,rfl,rfl⟩⟩
def toB (l:List Int):ByteArray:=⟨(u8s l).toArray⟩
theorem ES (s:ByteArray):toB (bytesOf s)=s:=by
 unfold toB;rw[EU]
theorem HP (sep:ByteArray):∀(bs:List ByteArray),sY (bs.map bytesOf) (bytesOf sep)=ints (Lib.join (bs.map λb=>b.data.toList) sep.data.toList)
 |[]=>rfl
 |[b]=>by rw[bW,List.map_nil,bW,List.map_nil,Lib.join_one];rfl
 |b::c::r=>by
  have ih:=HP sep (c::r);rw[bW,bW]at ih;rw[bW,bW,sY,ih];simp only[bW,Lib.join_cons,Lib.joinTail];simp[ints,bytesOf,List.map_append]
theorem extra:Builder.Extra aZ Lay.X0 where
 sizeBuilder:=by kernel_rfl
 liesBuilder:=by kernel_rfl
 t5:=by kernel_rfl
 a5:=λw=>by kernel_rfl
 z5:=λw=>by kernel_rfl
 v5:=λw=>by kernel_rfl
 infoByte:=by kernel_rfl
 cellsByte:=by kernel_rfl
 sizeByte:=by kernel_rfl
 neB5:=by decide
theorem WA (fH:Nat->Option (List Cell)):oF aZ fH 21 ⟨⟨[.one (.fh (.sl .str)), .one (.fh .str)], .val (.one (.fh .str))⟩,E2⟩:=by
 intro x y hF dj w args nb hG kG hP o9 Be;obtain⟨u1,r1,n1,n2,rfl,rfl,⟨_,rfl,_,ad3,e1,hx⟩,u2,r2,n3,n4,rfl,rfl,⟨_,rfl,_,aT5,e2,hs⟩,rfl,rfl⟩:=hP
 injection e1 with e1;subst e1
 injection e2 with e2;subst e2
 obtain⟨sep,e3,hs⟩:=hs
 injection e3 with e3;subst e3
 obtain⟨A,c,e4,hc,hx⟩:=hx
 injection e4 with e4;subst e4
 obtain⟨xs,sp,_⟩:=x;have hs:sp=bytesOf sep:=hs;subst hs;have hc:xs.length<=c:=hc;have hF:E2 (xs,bytesOf sep,())=J y:=hF;unfold E2 at hF
 cases hq:(fits xs.length&&fits (sY xs (bytesOf sep)).length)with
 |false=>
  dsimp only at hF;rw[hq]at hF;cases hF
 |true=>
  dsimp only at hF;rw[hq]at hF
  injection hF with hF
  simp only[aA]at hq;have l1:xs.length<=1099511627776:=aP hq.1;have l2:(sY xs (bytesOf sep)).length<=1099511627776:=aP hq.2
  have fin:∀{u:Value} {w':World},Same w w'->u= .string ⟨(Lib.join ((xs.map toB).map λb=>b.data.toList) sep.data.toList).toArray⟩->xs=(xs.map toB).map bytesOf->∃fw n1 n2,After dj w [] fw w' (n1++n2)/\
    xW fw w' (.val (.one (.fh .str))) y.1 u n1/\l6 fw w w' [.one (.fh (.sl .str)), .one (.fh .str)] y.2 [.slice A xs.length c, .string sep] n2:=by
   intro u w' Vd hu av4;subst hF;subst hu;refine⟨dj,[],[],Vd.after kG,⟨rfl,rfl,rfl,_,rfl,_,rfl, ?_⟩,_,_,[],[],rfl,rfl,rfl,_,_,[],[],rfl,rfl,rfl,rfl,rfl⟩;show sY xs (bytesOf sep)=_
   conv=>lhs;rw[av4]
   rw[HP];rfl
  rcases hx with h0|⟨b,o,L,rfl,hb,Ox⟩
  ·have h0:xs=[]:=h0;subst h0;refine gU Tryz.func21 rfl (by kernel_rfl) ((Any.strings_Join_none Lay.T0 extra A c sep w).mono ?_);rintro e w' ⟨rfl,rfl⟩;exact⟨_,rfl,fin (Same.refl _) rfl rfl⟩
  ·obtain⟨arr,ty,fr,ha,hL⟩:=kG _ _ hb;have Ox:∀i (h:i<xs.length),Rc dj .str xs[i] ((L.drop (o+i*1)).take 1):=Ox
   have av4:xs=(xs.map toB).map bytesOf:=by
    rw[List.map_map]
    apply List.ext_getElem (by simp)
    intro i h1 h2;obtain⟨s,_,e⟩:=Ox i h1;rw[List.getElem_map];show _=bytesOf (toB xs[i]);have e:xs[i]=bytesOf s:=e;rw[e,ES]
   have xa:∀(j:Nat) z,(xs.map toB)[j]?=J z->w.cell? ⟨b,o+j,ay⟩=J (.string z):=by
    intro j z hz;rw[a05]at hz
    cases hj:xs[j]? with
    |none=>rw[hj]at hz;cases hz
    |some v=>
     rw[hj]at hz
     injection hz with hz
     obtain⟨h1,h2⟩:=bw.1 hj;obtain⟨s,e,e'⟩:=Ox j h1;have e':xs[j]=bytesOf s:=e';rw[h2]at e';rw[e',ES]at hz;subst hz;rw[cn ha]
     have:arr[o+j]?=(L.drop (o+j*1)).head?:=by
      rw[List.head?_drop,<-hL,a57];simp
     rw[this]
     cases hd:L.drop (o+j*1)with
     |nil=>rw[hd]at e;cases e
     |cons a r=>
      rw[hd]at e
      injection e with e _
      subst e;rfl
   have hlen:(xs.map toB).length=xs.length:=(by simp)
   have ao9:(Lib.join ((xs.map toB).map λb=>b.data.toList) sep.data.toList).length<=281474976710656:=by
    have:=l2;rw[av4,HP]at this;rw[ints,bT]at this;omega
   have C:=Any.strings_Join_48 Lay.T0 extra b o c (xs.map toB) sep w xa (lt_of_heap ha) (by rw[hlen];omega) (by rw[hlen];exact hc) ao9;rw[hlen]at C;refine gU Tryz.func21 rfl (by kernel_rfl) (C.mono ?_);rintro e w' ⟨rfl,hw⟩;exact⟨_,rfl,fin (AQ hw) rfl av4⟩
end Go.Abs.Lx
end

section
namespace Go.Proofs.YtdoinjofjojmbaaGreatDoor
open Go.ChangeShapes Go.WideShapes Go.ChangeAt Go.RowKit
set_option maxRecDepth 100000 in
theorem sys:∀n,Abs.Sys.TabOk Abs.D.S (Abs.D.S.tab n):=by
 refine Abs.Sys.ok (by kernel_rfl) (λf hf=>Abs.Sys.VX Abs.D.YR hf) (λf c hf hl=> ?_) (by kernel_rfl);have hl:Abs.D.lib f=some c:=hl;unfold Abs.D.lib at hl
 cases h1:Nat.beq f 35 with
 |true=>have:=Abs.beq_eq h1;subst this;rw[h1]at hl;injection hl with hl;subst hl;exact Abs.Bld.Ka _
 |false=>
 rw[h1]at hl
 cases h1:Nat.beq f 20 with
 |true=>have:=Abs.beq_eq h1;subst this;injection hl with hl;subst hl;exact Abs.Bld.GD _
 |false=>
 rw[h1]at hl
 cases h1:Nat.beq f 22 with
 |true=>have:=Abs.beq_eq h1;subst this;injection hl with hl;subst hl;exact Abs.Bld.RP _
 |false=>
 rw[h1]at hl
 cases h1:Nat.beq f 131 with
 |true=>have:=Abs.beq_eq h1;subst this;injection hl with hl;subst hl;exact Abs.Bld.Kk _
 |false=>
 rw[h1]at hl
 cases h1:Nat.beq f 175 with
 |true=>have:=Abs.beq_eq h1;subst this;injection hl with hl;subst hl;exact Abs.Lx.Mq rfl
 |false=>
 rw[h1]at hl
 cases h1:Nat.beq f 18 with
 |true=>have:=Abs.beq_eq h1;subst this;injection hl with hl;subst hl;exact Abs.Lx.Kx rfl
 |false=>
 rw[h1]at hl
 cases h1:Nat.beq f 17 with
 |true=>have:=Abs.beq_eq h1;subst this;injection hl with hl;subst hl;exact Abs.Lx.VT rfl
 |false=>
 rw[h1]at hl
 cases h1:Nat.beq f 21 with
 |true=>have:=Abs.beq_eq h1;subst this;injection hl with hl;subst hl;exact Abs.Lx.WA _
 |false=>
 rw[h1]at hl;cases hl
theorem CX {H:Type}{enc:TypeId×Value->H}{P:Program}{w:World}{sp:Nat->Bool}:∀{ns:List String} {gs:List (DataW H)} {ps:List MemPlace},DataW.TrodVars enc P w sp ns gs ps->gs.length=ns.length
 |[],[],_,_=>rfl
 |[],_::_,_,h=>h.elim
 |_::_,[],_,h=>h.elim
 |n::ns,d::ds,ps,h=>by
  obtain⟨g,t,cs,fuel,p,q,h1,h2,h3,h4,hs,e⟩:=h;have:=CX hs;simp[this]
theorem own:ownKnob Tryz.prog.godebug=none:=by kernel_rfl
theorem laidOut:laidOutB Tryz.prog=true:=by kernel_rfl
end Go.Proofs.YtdoinjofjojmbaaGreatDoor
end

section
namespace Go.Abs.D
def iI (c:Int):Bool:=(I (97<=c)&&I (c<=122))||(I (65<=c)&&I (c<=90))||decide (c=95)
def dJ (c:Int):Bool:=I (48<=c)&&I (c<=57)
def I9 (c:Int):Bool:=I (97<=c)&&I (c<=102)
def jS (c:Int):Bool:=dJ c||I9 c
def kF (c:Int):Int:=bif dJ c then c - 48 else bif I9 c then c - 87 else -1
def get (s:LI)(j:Nat):Int:=s.getD j 0
theorem ke {s:LI}{j:Nat}(h:s.length<=j):get s j=0:=by
 simp_all[get,aG,bM]
theorem aj7 (pre:LI)(x:Int)(r:LI):get (pre++x::r) pre.length=x:=ju pre x r 0
theorem Zv:jS 0=false:=rfl
structure Base1 (T:S.Tab):Prop where
 iletter:∀c,pW T c=J (iI c,cO)
 idigit:∀c,kT T c=J (dJ c,cO)
 sletter:∀c,jI T c=J (iI c,cO)
 sdigit:∀c,eV T c=J (dJ c,cO)
 look:∀(s:LI) (j:Nat),eH T s (j:Int)=J (get s j,cQ)
 words:tb T=J (Lx.words,qp)
theorem xy (T:S.Tab):Base1 (S.step T):=by
 refine⟨λc=> ?_,λc=> ?_,λc=> ?_,λc=> ?_,λs j=> ?_, ?_⟩
 ·grind [Ge,gC,iI,decide]
 ·grind [I5,gC,dJ,decide]
 ·grind [Dv,gC,iI,decide]
 ·grind [Fl,gC,dJ,decide]
 ·rw[GF]
  by_cases h:j<s.length
  ·rw[cU (by simp_all),cU (by grind)];rfl
  simp_all[dm,ke]
 ·rw[Fe];rfl
structure Base2 (T:S.Tab):Prop extends Base1 T where
 ihex:∀c,wO T c=J (jS c,cO)
 shex:∀c,pR T c=J (kF c,cO)
theorem GX (T:S.Tab)(h:Base1 T):Base2 (S.step T):=by
 refine⟨xy T,λc=> ?_,λc=> ?_⟩
 ·rw[Kc,h.idigit]
  grind [gC,jS,I9,dJ,decide]
 ·rw[IL,h.sdigit];simp[kF]
  cases hd:dJ c with
  |true=>
   simp[dJ]at hd;rw[cU rfl,xX _ (by omega) (by omega),wrap64 _ (by omega) (by omega)];rfl
  |false=>
   grind [cU,xX,wrap64,I9,dm]
theorem dt:Evt λn=>Base2 (S.tab n):=by
 have h1:Evt λn=>Base1 (S.tab n):=Evt.up (Evt.of (p:=λ_=>True) λ_=>trivial) λn _=>xy _
 exact h1.up λn h=>GX _ h
theorem pY (c:Int):I (0<=kF c)=jS c:=by
 grind [kF,jS,dJ,I9]
theorem vC (c:Int):kF c<16:=by
 grind [kF,dJ,I9]
end Go.Abs.D
end

section
namespace Go.Abs.D
def wq (s:LI)(j:Nat):Bool:=iI (get s j)||dJ (get s j)
def dq (s:LI)(j:Nat):Bool:=dJ (get s j)
def hq (s:LI)(m j:Nat):Bool:=I (j<m)&&jS (get s j)
theorem zw {s:LI}:∀j,s.length<=j->wq s j=false:=λj h=>by unfold wq;rw[ke h];rfl
theorem ri {s:LI}:∀j,s.length<=j->dq s j=false:=λj h=>by unfold dq;rw[ke h];rfl
theorem Ib {s:LI}{m:Nat}:∀j,s.length<=j->hq s m j=false:=λj h=>by simp_all[hq,ke,Zv,aQ]
def w8 (s:LI)(j:Nat):Nat:=stop (wq s) s.length j
def qG (s:LI)(j:Nat):Nat:=stop (dq s) s.length j
def nI (s:LI)(m j:Nat):Nat:=stop (hq s m) s.length j
theorem dC (s:LI)(j:Nat):s.getD (j:Int).toNat 0=get s j:=rfl
theorem oY {q:Nat->Bool}{N j:Nat}(h:∀j,N<=j->q j=ar)(hq:q j=av):j<N:=by
 grind
theorem db {n j:Nat}(h:j<n):(I ((0:Int)<=(j:Int))&&I ((j:Int)<(n:Int)))=true:=by
 grind
theorem dX {j:Nat}(h:j<=4194304):aq.wrap ((j:Int)+1)=((j+1:Nat):Int):=by
 grind [wrap64]
variable{s:LI}(hs:s.length<=2097152)
include hs
theorem GM (i:Int)(t:cZ.den)(j:Nat):Evt λn=>lW (S.tab n) s i t (j:Int)=J (an (s,i,t,(w8 s j:Int),())):=
 adv (F:=λT j=>lW T s i t ↑j) (out:=λj=>an (s,i,t,(j:Int),())) dt zw
  (λT j h hq=>by
   have hj:=oY zw hq;show lW (S.step T) s i t j=lW T s i t ((j+1:Nat):Int);rw[yQ,cU (by simp_all),cU (db hj),dC,h.iletter,h.idigit,dX (by omega)];simp only[au,gC,db hj,ai];unfold wq at hq
   grind)
  (λT j h hq=>by
   show lW (S.step T) s i t j=_;rw[yQ]
   by_cases hj:j<s.length
   ·rw[cU (by simp_all),cU (db hj),dC,h.iletter,h.idigit];simp only[au,gC,db hj,ai];simp_all[wq,hq]
   simp_all[dm]) s.length j (by omega)
theorem Cv (t3 t4:cZ.den)(j:Nat):Evt λn=>jj (S.tab n) s t3 t4 (j:Int)=J (an (s,t3,t4,(w8 s j:Int),())):=
 adv (F:=λT j=>jj T s t3 t4 ↑j) (out:=λj=>an (s,t3,t4,(j:Int),())) dt zw
  (λT j h hq=>by
   have hj:=oY zw hq;show jj (S.step T) s t3 t4 j=jj T s t3 t4 ((j+1:Nat):Int);rw[vo,h.look,dX (by omega)];simp[h.sletter,h.sdigit,gC];unfold wq at hq
   grind)
  (λT j h hq=>by
   show jj (S.step T) s t3 t4 j=_;rw[vo,h.look];simp[h.sletter,h.sdigit,gC]
   simp_all[wq,hq]) s.length j (by omega)
theorem Bk (i:Int)(t:cZ.den)(j:Nat):Evt λn=>gO (S.tab n) s i t (j:Int)=J (an (s,i,t,(qG s j:Int),())):=
 adv (F:=λT j=>gO T s i t ↑j) (out:=λj=>an (s,i,t,(j:Int),())) dt ri
  (λT j h hq=>by
   have hj:=oY ri hq;show gO (S.step T) s i t j=gO T s i t ((j+1:Nat):Int);rw[tT,cU (by simp_all),cU (db hj),dC,h.idigit,dX (by omega)];simp[gC]
   rw[show dJ (get s j)=av from hq];rfl)
  (λT j h hq=>by
   show gO (S.step T) s i t j=_;rw[tT]
   by_cases hj:j<s.length
   ·rw[cU (by simp_all),cU (db hj),dC,h.idigit];simp[gC];rw[show dJ (get s j)=ar from hq];rfl
   simp_all[dm]) s.length j (by omega)
theorem Bm (i:Int)(t:cZ.den)(m:Int)(j:Nat):Evt λn=>jq (S.tab n) s i t ↑j m=J (an (s,i,t,(qG s j:Int),m,())):=
 adv (F:=λT j=>jq T s i t ↑j m) (out:=λj=>an (s,i,t,(j:Int),m,())) dt ri
  (λT j h hq=>by
   have hj:=oY ri hq;show jq (S.step T) s i t j m=jq T s i t ((j+1:Nat):Int) m;rw[tQ,cU (by simp_all),cU (db hj),dC,h.idigit,dX (by omega)];simp[gC]
   rw[show dJ (get s j)=av from hq];rfl)
  (λT j h hq=>by
   show jq (S.step T) s i t j m=_;rw[tQ]
   by_cases hj:j<s.length
   ·rw[cU (by simp_all),cU (db hj),dC,h.idigit];simp[gC];rw[show dJ (get s j)=ar from hq];rfl
   simp_all[dm]) s.length j (by omega)
theorem Bq (i:Int)(t:cZ.den)(m:Int)(j:Nat):Evt λn=>jr (S.tab n) s i t ↑j m=J (an (s,i,t,(qG s j:Int),m,())):=
 adv (F:=λT j=>jr T s i t ↑j m) (out:=λj=>an (s,i,t,(j:Int),m,())) dt ri
  (λT j h hq=>by
   have hj:=oY ri hq;show jr (S.step T) s i t j m=jr T s i t ((j+1:Nat):Int) m;rw[uh,cU (by simp_all),cU (db hj),dC,h.idigit,dX (by omega)];simp[gC]
   rw[show dJ (get s j)=av from hq];rfl)
  (λT j h hq=>by
   show jr (S.step T) s i t j m=_;rw[uh]
   by_cases hj:j<s.length
   ·rw[cU (by simp_all),cU (db hj),dC,h.idigit];simp[gC];rw[show dJ (get s j)=ar from hq];rfl
   simp_all[dm]) s.length j (by omega)
theorem Ct (i:Nat)(t:cZ.den)(j:Nat)(hi:i<=2097152):Evt λn=>jY (S.tab n) s ↑i t (j:Int)=J (an (s,(i:Int),t,(nI s (i+18) j:Int),())):=
 adv (F:=λT j=>jY T s ↑i t ↑j) (out:=λj=>an (s,(i:Int),t,(j:Int),())) dt Ib
  (λT j h Vs=>by
   have hj:=oY Ib Vs;simp[hq]at Vs;show jY (S.step T) s i t j=jY T s i t ((j+1:Nat):Int);rw[vd,cU (by simp_all),wrap64 ((i:Int)+18) (by omega) (by omega),cU (by grind),cU (db hj),dC,h.ihex,dX (by omega)]
   simp_all[gC])
  (λT j h Vs=>by
   show jY (S.step T) s i t j=_;rw[vd]
   by_cases hj:j<s.length
   ·rw[cU (by simp_all),wrap64 ((i:Int)+18) (by omega) (by omega)]
    by_cases hj2:j<i+18
    ·rw[cU (by grind),cU (db hj),dC,h.ihex];simp_all[hq,gC]
    grind [dm]
   simp_all[dm]) s.length j (by omega)
theorem Al (t3 t4:cZ.den)(j:Nat):Evt λn=>gT (S.tab n) s t3 t4 (j:Int)=J (an (s,t3,t4,(qG s j:Int),())):=
 adv (F:=λT j=>gT T s t3 t4 ↑j) (out:=λj=>an (s,t3,t4,(j:Int),())) dt ri
  (λT j h hq=>by
   have hj:=oY ri hq;show gT (S.step T) s t3 t4 j=gT T s t3 t4 ((j+1:Nat):Int);rw[sQ,h.look,dX (by omega)];simp[h.sdigit,gC]
   rw[show dJ (get s j)=av from hq];rfl)
  (λT j h hq=>by
   show gT (S.step T) s t3 t4 j=_;rw[sQ,h.look];simp[h.sdigit,gC]
   rw[show dJ (get s j)=ar from hq];rfl) s.length j (by omega)
theorem yE (t3 t4:cZ.den)(j:Nat):Evt λn=>ia (S.tab n) s t3 t4 (j:Int)=J (an (s,t3,t4,(qG s j:Int),())):=
 adv (F:=λT j=>ia T s t3 t4 ↑j) (out:=λj=>an (s,t3,t4,(j:Int),())) dt ri
  (λT j h hq=>by
   have hj:=oY ri hq;show ia (S.step T) s t3 t4 j=ia T s t3 t4 ((j+1:Nat):Int);rw[rN,h.look,dX (by omega)];simp[h.sdigit,gC]
   rw[show dJ (get s j)=av from hq];rfl)
  (λT j h hq=>by
   show ia (S.step T) s t3 t4 j=_;rw[rN,h.look];simp[h.sdigit,gC]
   rw[show dJ (get s j)=ar from hq];rfl) s.length j (by omega)
theorem yA (t3 t4:cZ.den)(j:Nat):Evt λn=>fD (S.tab n) s t3 t4 (j:Int)=J (an (s,t3,t4,(qG s j:Int),())):=
 adv (F:=λT j=>fD T s t3 t4 ↑j) (out:=λj=>an (s,t3,t4,(j:Int),())) dt ri
  (λT j h hq=>by
   have hj:=oY ri hq;show fD (S.step T) s t3 t4 j=fD T s t3 t4 ((j+1:Nat):Int);rw[rM,h.look,dX (by omega)];simp[h.sdigit,gC]
   rw[show dJ (get s j)=av from hq];rfl)
  (λT j h hq=>by
   show fD (S.step T) s t3 t4 j=_;rw[rM,h.look];simp[h.sdigit,gC]
   rw[show dJ (get s j)=ar from hq];rfl) s.length j (by omega)
end Go.Abs.D
end

section
namespace Go.Abs.D
def kq (w:LI)(j:Nat):Bool:=I (j<22)&& !I (Lx.words.getD j []=w)
theorem Ll {w:LI}:∀j,22<=j->kq w j=false:=λj h=>by grind [kq]
def zB (w:LI):Nat:=stop (kq w) 22 0
theorem Lm (l:List LI)(j:Nat):l.getD (j:Int).toNat []=l.getD j []:=rfl
theorem Fu (w:LI)(j:Nat)(hj:j<=22):Evt λn=>kD (S.tab n) w Lx.words 22 (j:Int)=
  J (if stop (kq w) 22 j<22 then an (((10+stop (kq w) 22 j:Nat):Int),())else aE (an ())):=
 adv (F:=λT j=>kD T w Lx.words 22 ↑j) (out:=λj=>if j<22 then an (((10+j:Nat):Int),())else aE (an ())) dt Ll
  (λT j h hq=>by
   have hj:=oY Ll hq;show kD (S.step T) w Lx.words 22 j=kD T w Lx.words 22 ((j+1:Nat):Int);rw[xT,cU (by grind),cU (db (show j<Lx.words.length from hj)),Lm,dX (by omega)]
   simp_all[kq,aA,cq,hq,dm])
  (λT j h hq=>by
   show kD (S.step T) w Lx.words 22 j=_;rw[xT]
   by_cases hj:j<22
   ·rw[cU (by grind),cU (db (show j<Lx.words.length from hj)),Lm];simp only[kq,hj,decide_true,ct,cM]at hq;rw[cU hq,ak hj,wrap64 _ (by omega) (by omega)]
    congr 3
   ·rw[dm (by grind),aj hj]) 22 j (by omega)
theorem Cg (t3 t4:cZ.den)(w:LI)(j:Nat)(hj:j<=22):Evt λn=>ji (S.tab n) t3 t4 w Lx.words 22 (j:Int)=
  J (if stop (kq w) 22 j<22 then an ((((10+stop (kq w) 22 j:Nat):Int),t3.2),(-1:Int),())else aE (an (t3,t4,w,()))):=
 adv (F:=λT j=>ji T t3 t4 w Lx.words 22 ↑j) (out:=λj=>if j<22 then an ((((10+j:Nat):Int),t3.2),(-1:Int),())else aE (an (t3,t4,w,()))) dt Ll
  (λT j h hq=>by
   have hj:=oY Ll hq;show ji (S.step T) t3 t4 w Lx.words 22 j=ji T t3 t4 w Lx.words 22 ((j+1:Nat):Int);rw[vi,cU (by grind),cU (db (show j<Lx.words.length from hj)),Lm,dX (by omega)]
   simp_all[kq,aA,cq,hq,dm])
  (λT j h hq=>by
   show ji (S.step T) t3 t4 w Lx.words 22 j=_;rw[vi]
   by_cases hj:j<22
   ·rw[cU (by grind),cU (db (show j<Lx.words.length from hj)),Lm];simp only[kq,hj,decide_true,ct,cM]at hq;rw[cU hq,ak hj,wrap64 _ (by omega) (by omega)]
    congr 4
   ·rw[dm (by grind),aj hj]) 22 j (by omega)
def wU (w:LI):Int:=if zB w<22 then((10+zB w:Nat):Int)else 1
theorem Ku (w:LI):Evt λn=>zW (S.tab n) w=J (wU w,cO):=
 (Fu w 0 (by omega)).up λn h=>by
  show zW (S.step (S.tab n)) w=_;have h:kD (S.tab n) w Lx.words (Lx.words.length:Int) 0=_:=h;rw[J8,h];unfold wU zB;split<;>rfl
theorem EL (w:LI):wU w=1↔¬ zB w<22:=by
 unfold wU;omega
def I7 (s:LI)(i:Nat):cZ.den:=
 let e:=w8 s i
 let w:=sub s ↑i ↑e
 if zB w<22 then(((10+zB w:Nat):Int),(i:Int),(e:Int),0,0,([]:LI),())else(1,(i:Int),(e:Int),0,0,w,())
theorem xE {q:Nat->Bool}{N:Nat}(h:∀j,N<=j->q j=ar):∀(k j:Nat),j<=N->stop q k j<=N
 |0,j,hj=>hj
 |k+1,j,hj=>by
  unfold stop
  cases hq:q j with
  |false=>grind
  |true=>
   have:=oY h hq;exact xE h k (j+1) (by omega)
theorem fS {n i e:Nat}(h1:i<=e)(h2:e<=n):bounds n ↑i (e:Int)=true:=by
 simp_all[bounds]
theorem Gs {s:LI}(hs:s.length<=2097152){i:Nat}(hi:i<s.length)(t:cZ.den)(ht:t=(0,(i:Int),0,0,0,([]:LI),())):
  Evt λn=>vy (S.tab n) s t=J ((I7 s i, -1,()),eP):=by
 subst ht;have hle:w8 s i<=s.length:=xE zw _ _ (by omega);have LY:i<=w8 s i:=tj _ _
 refine(((Cv hs (0,(i:Int),0,0,0,([]:LI),()) (0,0,0,0,0,([]:LI),()) i).and (Cg (1,(i:Int),(w8 s i:Int),0,0,([]:LI),()) (0,0,0,0,0,([]:LI),()) (sub s ↑i (w8 s i:Int)) 0 (by omega))).and dt).up λn ⟨⟨h1,h2⟩,hb⟩=> ?_
 show vy (S.step (S.tab n)) s _=_;rw[Gx];simp[h1,dB,cU (fS LY hle),hb.words];have h2:ji (S.tab n) (1,(i:Int),(w8 s i:Int),0,0,([]:LI),()) (0,0,0,0,0,([]:LI),()) (sub s ↑i (w8 s i:Int)) Lx.words (Lx.words.length:Int) 0=_:=h2;rw[h2];unfold I7 zB;simp;split<;>rfl
theorem IM {s:LI}(hs:s.length<=2097152){i:Nat}(hi:i<s.length)(hl:iI (get s i)=av):
  Evt λn=>nr (S.tab n) s (i:Int)=J ((I7 s i,ar,()),cQ):=by
 have hle:w8 s i<=s.length:=xE zw _ _ (by omega);have LY:i<=w8 s i:=tj _ _
 refine(((GM hs ↑i (0,(i:Int),0,0,0,([]:LI),()) i).and (Ku (sub s ↑i (w8 s i:Int)))).and dt).up λn ⟨⟨h1,h2⟩,hb⟩=> ?_
 show nr (S.step (S.tab n)) s _=_;rw[EY,cU (db hi),dC,hb.iletter,hl];simp[cU,h1,dB,cU (fS LY hle),h2];unfold I7
 by_cases hk:zB (sub s ↑i (w8 s i:Int))<22
 ·grind [wU,sub,w8,EL,dm]
 grind [cU,EL,wU]
end Go.Abs.D
end

section
namespace Go.Abs.D
def hv (n:Int)(l:LI):Int:=l.foldl (λn c=>n*16+kF c) n
theorem KZ (n c:Int)(l:LI):hv n (c::l)=hv (n*16+kF c) l:=rfl
theorem Wj (n c:Int)(l:LI):hv n (l++[c])=hv n l*16+kF c:=by simp[hv,List.foldl_append]
theorem UL {a b:Nat}(h:a<=b):(16:Int)^a<=16^b:=by
 have:=Nat.pow_le_pow_right (show 0<16 by decide) h
 grind
theorem td {c:Int}(h:jS c=av):0<=kF c:=by
 have:=pY c;simp_all
theorem UT:∀(l:LI) (n:Int),0<=n->(∀c∈l,jS c=av)->n<=hv n l
 |[],n,_,_=>bF _
 |c::l,n,h0,h=>by
  have h1:=td (h c (aF ..))
  have:=UT l (n*16+kF c) (by omega) λx hx=>h x (aD _ hx)
  grind [KZ]
theorem UO:∀(l:LI) (n:Int) (k:Nat),0<=n->n<16^k->(∀c∈l,jS c=av)->hv n l<16^(k+l.length)
 |[],n,k,_,hn,_=>hn
 |c::l,n,k,h0,hn,h=>by
  have h1:=td (h c (aF ..));have h2:=vC c
  have:=UO l (n*16+kF c) (k+1) (by omega) (by omega) λx hx=>h x (aD _ hx)
  grind [KZ,az]
theorem Dd (x:Int)(h0:0<=x)(h1:x<18446744073709551616):aH.wrap x=x:=by
 grind [IntKind.wrap,IntKind.bits,IntKind.signed]
structure Base3 (T:S.Tab):Prop extends Base2 T where
 lower:∀c,e9 T c=J (intBits .or .u8 c 32,cO)
 j46:∀(m n v:Int) (t9 l:LI) (a b:Int),0<=v->v<16->0<=n->n<1152921504606846976->n*16+v<=m->m<18446744073709551616->
  fk T 16 ar t9 1152921504606846976 m ar n v l a b=J (aE (an (16,ar,t9,1152921504606846976,m,ar,n*16+v,l,a,b,())))
theorem O9 (T:S.Tab)(h:Base1 T):Base3 (S.step T):=by
 refine⟨GX T h,λc=> ?_,λm n v t9 l a b ab5 ac8 Vk Oc hm hM=> ?_⟩
 ·rw[Br]
 ·have e16:aN.wrap 16=16:=(by decide)
  grind [tF,Dd,dm]
theorem XV:Evt λn=>Base3 (S.tab n):=by
 have h1:Evt λn=>Base1 (S.tab n):=Evt.up (Evt.of (p:=λ_=>True) λ_=>trivial) λn _=>xy _
 exact h1.up λn h=>O9 _ h
theorem ad8 (l:LI)(j:Nat):l.getD (j:Int).toNat 0=get l j:=rfl
theorem Zk (c:Int)(h:I9 c=av):intBits .or .u8 c 32=c:=by
 simp[I9]at h;have:c=97\/c=98\/c=99\/c=100\/c=101\/c=102:=(by omega)
 rcases this with rfl|rfl|rfl|rfl|rfl|rfl<;>decide
theorem TS (T:S.Tab)(hb:Base3 T)(t9 l:LI)(m n:Int)(j:Nat)(hj:j<l.length)(hl:l.length<=2097152)(hc:jS (get l j)=av)(Vk:0<=n)(Oc:n<1152921504606846976)(hm:n*16+kF (get l j)<=m)(hM:m<18446744073709551616):
  dP (S.step T) 16 ar t9 1152921504606846976 m ar n l (l.length:Int) (j:Int)=
   dP T 16 ar t9 1152921504606846976 m ar (n*16+kF (get l j)) l (l.length:Int) ((j+1:Nat):Int):=by
 have h0:=td hc;have Aj:=vC (get l j);rw[og,cU (by simp_all),cU (db hj)];rw[ad8,dX (show j<=4194304 by omega)]
 cases hd:dJ (get l j)with
 |true=>
  have hv:kF (get l j)=get l j - 48:=by grind [kF]
  simp[dJ]at hd
  have yu:I (get l j=95)=false:=by grind
  rw[dm yu,cU (by simp_all),cU (by simp_all),xX _ (by omega) (by omega),<-hv,hb.j46 m n _ t9 l _ _ h0 Aj Vk Oc hm hM];simp only[au,dM,aT,aO]
  grind [dX]
 |false=>
  have aM6:I9 (get l j)=true:=by
   simp_all[jS,cH]
  have hv:kF (get l j)=get l j - 87:=by simp_all[kF]
  have aZ6:=Zk _ aM6;simp[I9]at aM6
  have yu:I (get l j=95)=false:=by grind
  have e:aN.wrap (aN.wrap (get l j - 97)+10)=kF (get l j):=by
   grind [xX,get,hv]
  have h9:¬ get l j<=57:=(by omega)
  have XO:I (get l j<=57)=false:=by simp_all
  rw[dm yu];simp only[hb.lower,aZ6,au];rw[cU (show I (48<=get l j)=av by grind),dm XO,cU (show I (97<=get l j)=av by simp_all),cU (show I (get l j<=122)=av by grind),e,hb.j46 m n _ t9 l _ _ h0 Aj Vk Oc hm hM];simp only[au,dM,aT,aO]
  grind [dX]
theorem V6 (pre:LI)(c:Int)(r:LI):get (pre++c::r) pre.length=c:=ju pre c r 0
theorem QI (t9:LI)(m:Int)(hM:m<18446744073709551616):∀(r pre:LI) (n:Int),(∀c∈r,jS c=av)->0<=n->n<16^pre.length->(pre++r).length<=16->hv n r<=m->
  Evt λk=>dP (S.tab k) 16 ar t9 1152921504606846976 m ar n (pre++r) ((pre++r).length:Int) (pre.length:Int)=J (aE (an (t9,ar,hv n r,())))
 |[],pre,n,_,_,_,_,_=>XV.up λk hb=>by
  show dP (S.step (S.tab k)) _ _ _ _ _ _ _ _ _ _=_;rw[og,dm (by simp)];rfl
 |c::r,pre,n,hc,h0,hn,hl,hm=>by
  have h1:=td (hc c (aF ..));have h2:=vC c
  have LY:=UT r (n*16+kF c) (by omega) λx hx=>hc x (aD _ hx)
  have ih:=QI t9 m hM r (pre++[c]) (n*16+kF c) (λx hx=>hc x (aD _ hx)) (by omega) (by
   grind) (by simp_all) hm
  refine(ih.and XV).up λk ⟨h,hb⟩=> ?_
  grind [dP,V6,TS,aF,KZ]
theorem CN (l:LI)(b:Int)(hb:b=8/\l.length<=2\/b=64/\l.length<=16)(yu:l≠[])(hl:∀c∈l,jS c=av):
  Evt λn=>j8 (S.tab n) l 16 b=J ((hv 0 l,av,()),dU):=by
 have kI:=UO l 0 0 (by decide) (by decide) hl;rw[cj]at kI;have hlen:l.length<=16:=(by omega)
 let m:Int:=if b=8 then 255 else 18446744073709551615
 have hm:hv 0 l<=m:=by
  rcases hb with⟨rfl,h⟩|⟨rfl,h⟩
  ·have:(16:Int)^l.length<=16^2:=UL h;omega
  ·have:(16:Int)^l.length<=16^16:=UL h;omega
 have hM:m<18446744073709551616:=by
  show(if b=8 then(255:Int)else 18446744073709551615)<_;split<;>decide
 have h1:=QI l m hM l [] 0 hl (bF 0) (by decide) (by simp_all) hm
 have h2:Evt λn=>iN (S.tab n) l 16 b ar l 1152921504606846976=J (an (hv 0 l,av,())):=h1.up λn h=>by
  have e:aH.wrap (aH.wrap (1*2^min (aH.wrap b).toNat aH.bits) - 1)=m:=by
   rcases hb with⟨rfl,_⟩|⟨rfl,_⟩<;>decide
  have e0:I ((0:Int)<=aH.wrap b)=true:=by
   rcases hb with⟨rfl,_⟩|⟨rfl,_⟩<;>decide
  simp_all[tE,cU,dM,gC]
 have h3:Evt λn=>j2 (S.tab n) l 16 b ar l=J (an (hv 0 l,av,())):=h2.up λn h=>by
  rw[tG,dm (by decide),cU (by decide),h];rfl
 have h4:Evt λn=>j3 (S.tab n) l 16 b ar l=J (an (hv 0 l,av,())):=h3.up λn h=>by
  rw[tD]
  rcases hb with⟨rfl,_⟩|⟨rfl,_⟩
  ·rw[dm (by decide),dm (by decide),dm (by decide),h];rfl
  ·rw[dm (by decide),dm (by decide),dm (by decide),h];rfl
 have h5:Evt λn=>pe (S.tab n) l 16 b=J ((hv 0 l,av,()),dU):=h4.up λn h=>by
  rw[xe,dm (by simp_all),cU (by decide),cU (by decide)];have h:j3 (S.tab n) l 16 b (I ((16:Int)=0)) l=_:=h;rw[h];rfl
 exact h5.up λn h=>by
  simp_all[yC,au,gC]
end Go.Abs.D
end

section
namespace Go.Abs.D
def eR (s:LI)(a b:Nat):LI:=(s.take b).drop a
theorem rI (s:LI)(a b:Nat):sub s ↑a (b:Int)=eR s a b:=rfl
theorem oW {s:LI}{a j:Nat}(h1:a<=j)(h2:j<s.length):eR s a (j+1)=eR s a j++[get s j]:=by
 unfold eR get
 grind [List.take_add_one,aJ]
theorem oE {s:LI}(a:Nat):eR s a a=[]:=by
 simp_all[eR,cd]
theorem sx {s:LI}{a b:Nat}(h:b<=s.length):(eR s a b).length=b - a:=by
 simp_all[eR]
theorem C2 {s:LI}{p:Int->Bool}{a:Nat}:∀(k:Nat),a+k<=s.length->(∀j,a<=j->j<a+k->p (get s j)=av)->∀c∈eR s a (a+k),p c=av
 |0,_,_,c,hc=>by simp_all[Nat.add_zero,oE]
 |k+1,hk,h,c,hc=>by
  rw[show a+(k+1)=a+k+1 by omega,oW (by omega) (by omega)]at hc
  rcases aL.1 hc with hc|hc
  ·exact C2 k (by omega) (λj h1 h2=>h j h1 (by omega)) c hc
  simp_all
def lf (s:LI)(i:Nat):Nat⊕cZ.den:=
 let e:=nI s (i+18) (i+2)
 if e=i+2 then .inl e else if jS (get s e)=av then .inl e else .inr (2,(i:Int),(e:Int),0,aq.wrap (hv 0 (eR s (i+2) e)),([]:LI),())
def k23 (k:Int):Bool:=I (k=2)||decide (k=3)
def k4 (k:Int):Bool:=I (k=4)
def kB (c k:Int):Bool:=bif dJ c then k23 k else bif I (c=34)then k4 k else I (k=0)
def IR (K:Int->Bool)(r:Nat⊕cZ.den)(t:cZ.den)(b:Bool):Prop:=match r with| .inl e=>b=av/\t.2.2.1=(e:Int)/\K t.1=av| .inr t'=>b=ar/\t=t'
def SR (K:Int->Bool)(r:Nat⊕cZ.den)(t:cZ.den)(b:Int):Prop:=match r with| .inl e=>b=(e:Int)/\K t.1=av| .inr t'=>b= -1/\t=t'
theorem IR.to {K L:Int->Bool}(h:∀k,K k=L k){r:Nat⊕cZ.den}{t:cZ.den}{b:Bool}:IR K r t b->IR L r t b:=by
 rw[show K=L from funext h];simp
theorem SR.to {K L:Int->Bool}(h:∀k,K k=L k){r:Nat⊕cZ.den}{t:cZ.den}{b:Int}:SR K r t b->SR L r t b:=by
 rw[show K=L from funext h];simp
variable{s:LI}(hs:s.length<=2097152)
include hs
omit hs in
theorem Q1 {i:Nat}(hi:i+2<=s.length):nI s (i+18) (i+2)<=s.length/\i+2<=nI s (i+18) (i+2)/\nI s (i+18) (i+2)<=i+18:=by
 refine⟨xE Ib _ _ hi,tj _ _, ?_⟩;refine xE (q:=hq s (i+18)) (N:=i+18) (λj hj=> ?_) _ _ (by omega)
 grind [hq,cI,af]
omit hs in
theorem Wh {i:Nat}(hi:i+2<=s.length):∀c∈eR s (i+2) (nI s (i+18) (i+2)),jS c=true:=by
 obtain⟨h1,h2,h3⟩:=Q1 hi;obtain⟨k,hk⟩:∃k,nI s (i+18) (i+2)=i+2+k:=⟨nI s (i+18) (i+2) - (i+2),by omega⟩;rw[hk]
 refine C2 k (by omega) λj ha hb=> ?_
 grind [uJ,hq,nI]
theorem A4 (t3 t4:cZ.den){i:Nat}(ht:t3.2.1=(i:Int))(hi:i+2<=s.length):∀(k j:Nat),i+2<=j->j<=i+18->s.length<=j+k->(∀c∈eR s (i+2) j,jS c=av)->j<=s.length->
  Evt λn=>mX (S.tab n) s t3 t4 ↑j (hv 0 (eR s (i+2) j))=
   J (bif jS (get s (stop (hq s (i+18)) k j))then an (t3,(stop (hq s (i+18)) k j:Int),())else aE (an (t3,t4,(stop (hq s (i+18)) k j:Int),hv 0 (eR s (i+2) (stop (hq s (i+18)) k j)),())))
 |0,j,h1,h2,hk,we,hj=>by
  refine dt.up λn hb=> ?_
  rw[mN,hb.look];simp[hb.shex,pY,stop];rw[ke (show s.length<=j by omega),Zv,dm rfl];rfl
 |k+1,j,h1,h2,hk,we,hj=>by
  cases hc:jS (get s j)with
  |false=>
   have ZT:hq s (i+18) j=false:=by grind [hq]
   refine dt.up λn hb=> ?_
   rw[mN,hb.look,D9 ZT];simp only[au,hb.shex,pY,hc];rw[dm rfl];rfl
  |true=>
   have kI:j<s.length:=by
    grind [bG,ke,Zv]
   by_cases he:j=i+18
   ·have ZT:hq s (i+18) j=false:=by simp_all[hq]
    refine dt.up λn hb=> ?_
    rw[mN,hb.look,D9 ZT];simp only[au,hb.shex,pY,hc,ht];rw[cU rfl,wrap64 _ (by omega) (by omega),cU (by grind)];rfl
   ·have ac7:hq s (i+18) j=true:=by
     grind [hq]
    have hlen:(eR s (i+2) j).length=j - (i+2):=sx hj;have SO:=UO (eR s (i+2) j) 0 0 (by decide) (by decide) we;rw[cj,hlen]at SO;have hp:(16:Int)^(j - (i+2))<=16^15:=UL (by omega);have LY:=UT (eR s (i+2) j) 0 (by decide) we;have h0:=td hc;have Aj:=vC (get s j)
    have ih:=A4 t3 t4 ht hi k (j+1) (by omega) (by omega) (by omega) (by
     grind [oW,get]) (by omega)
    refine(ih.and dt).up λn ⟨h,hb⟩=> ?_
    have e:stop (hq s (i+18)) (k+1) j=stop (hq s (i+18)) k (j+1):=by
     show(bif hq s (i+18) j then _ else _)=_;simp_all
    rw[e,mN,hb.look];simp only[au,hb.shex,pY,hc,ht,dC];rw[cU rfl,wrap64 ((j:Int) - (i:Int)) (by omega) (by omega),dm (by grind),cU (db kI),dX (by omega)];rw[Dd (hv 0 (eR s (i+2) j)*16) (by omega) (by omega),Dd (kF (get s j)) h0 (by omega),Dd _ (by omega) (by omega)];simp_all[oW,Wj]
theorem Fh {i:Nat}(hi:i+2<=s.length):Evt λn=>∃t' b,s7 (S.tab n) s (2,(i:Int),0,0,0,([]:LI),())=J ((t',b,()),eP)/\SR k23 (lf s i) t' b:=by
 have hl:=A4 hs (2,(i:Int),0,0,0,([]:LI),()) (0,0,0,0,0,([]:LI),()) (i:=i) rfl hi s.length (i+2) (by omega) (by omega) (by omega) (by simp_all[oE]) hi
 refine hl.up λn h=> ?_
 show∃t' b,s7 (S.step (S.tab n)) s _=_/\_;rw[oE]at h;have h:mX (S.tab n) s (2,(i:Int),0,0,0,([]:LI),()) (0,0,0,0,0,([]:LI),()) ((i+2:Nat):Int) 0=J (bif jS (get s (nI s (i+18) (i+2)))then _ else _):=h
 have e2:aq.wrap ((i:Int)+2)=((i+2:Nat):Int):=by
  grind [wrap64]
 rw[Fb];simp only[e2,h]
 cases hx:jS (get s (nI s (i+18) (i+2)))with
 |true=>
  have XD:lf s i= .inl (nI s (i+18) (i+2)):=by simp_all[lf]
  rw[XD];exact⟨_,_,rfl,rfl,rfl⟩
 |false=>
  simp only[ah,au,dM,aT,aO,e2]
  by_cases he:nI s (i+18) (i+2)=i+2
  ·have XD:lf s i= .inl (nI s (i+18) (i+2)):=by simp_all[lf]
   rw[cU (by simp_all[nI]),XD];exact⟨_,_,rfl,rfl,rfl⟩
  ·have XD:lf s i= .inr (2,(i:Int),(nI s (i+18) (i+2):Int),0,aq.wrap (hv 0 (eR s (i+2) (nI s (i+18) (i+2)))),([]:LI),()):=by unfold lf;simp[he,hx]
   rw[dm (by simp;show¬ ((nI s (i+18) (i+2):Nat):Int)=_;omega),XD]
   first|exact⟨_,_,rfl,rfl,rfl⟩|exact⟨_,_,rfl,rfl,rfl,rfl⟩
theorem Fk {i:Nat}(hi:i+2<=s.length)(h0:get s i=48)(hx:get s (i+1)=120):Evt λn=>∃t' b,p8 (S.tab n) s (i:Int)=J ((t',b,()),cQ)/\IR k23 (lf s i) t' b:=by
 obtain⟨h1,h2,h3⟩:=Q1 hi;have hl:=Ct hs i (2,(i:Int),0,0,0,([]:LI),()) (i+2) (by omega);have we:=Wh hi;have e1:aq.wrap ((i:Int)+1)=((i+1:Nat):Int):=dX (by omega)
 have e2:aq.wrap ((i:Int)+2)=((i+2:Nat):Int):=by
  grind [wrap64]
 have aQ5:aq.wrap ((i:Int)+18)=((i+18:Nat):Int):=by
  grind [wrap64]
 have d0:I (get s i=48)=true:=by simp_all
 have dx:I (get s (i+1)=120)=true:=by simp_all
 by_cases he:nI s (i+18) (i+2)=i+2
 ·refine hl.up λn h=> ?_
  show∃t' b,p8 (S.step (S.tab n)) s _=_/\_
  have XD:lf s i= .inl (nI s (i+18) (i+2)):=by simp_all[lf]
  rw[qt,cU (db (show i<s.length by omega)),dC,cU d0,e1,cU (by grind),cU (db (show i+1<s.length by omega)),dC,cU dx,e2,h];simp only[au,dB,aO,e2];rw[cU (by simp_all),XD]
  first|exact⟨_,_,rfl,rfl,rfl⟩|exact⟨_,_,rfl,rfl,rfl,rfl⟩
 ·have ac6:=CN (eR s (i+2) (nI s (i+18) (i+2))) 64 (.inr ⟨rfl,by rw[sx h1];omega⟩) (λe=>by
   have:=congrArg a14 e;rw[sx h1]at this
   simp at this;omega) we
  have Vq:jS (get s (nI s (i+18) (i+2)))=ar->lf s i= .inr (2,(i:Int),(nI s (i+18) (i+2):Int),0,aq.wrap (hv 0 (eR s (i+2) (nI s (i+18) (i+2)))),([]:LI),()):=λhx=>by unfold lf;simp[he,hx]
  refine((hl.and ac6).and dt).up λn ⟨⟨h,hp⟩,hb⟩=> ?_
  show∃t' b,p8 (S.step (S.tab n)) s _=_/\_;rw[qt,cU (db (show i<s.length by omega)),dC,cU d0,e1,cU (by simp;omega),cU (db (show i+1<s.length by omega)),dC,cU dx,e2,h];simp only[au,dB,aO,e2,aQ5];rw[dm (by simp;omega)];have Cb:=fS h2 h1
  by_cases SM:nI s (i+18) (i+2)=i+18
  ·rw[cU (by simp;omega)]
   by_cases kI:nI s (i+18) (i+2)<s.length
   ·rw[cU (by simp;omega),cU (db kI),dC,hb.ihex];simp only[au]
    cases at3:jS (get s (nI s (i+18) (i+2)))with
    |true=>
     have XD:lf s i= .inl (nI s (i+18) (i+2)):=by unfold lf;simp[at3]
     rw[cU rfl,XD]
     first|exact⟨_,_,rfl,rfl,rfl⟩|exact⟨_,_,rfl,rfl,rfl,rfl⟩
    |false=>
     rw[dm rfl,cU Cb,rI,hp,Vq at3]
     first|exact⟨_,_,rfl,rfl,rfl⟩|exact⟨_,_,rfl,rfl,rfl,rfl⟩
   ·have hz:jS (get s (nI s (i+18) (i+2)))=false:=by rw[ke (by omega)];rfl
    rw[dm (by simp;omega),cU Cb,rI,hp,Vq hz]
    first|exact⟨_,_,rfl,rfl,rfl⟩|exact⟨_,_,rfl,rfl,rfl,rfl⟩
  ·have hz:jS (get s (nI s (i+18) (i+2)))=false:=by
    have hq:hq s (i+18) (nI s (i+18) (i+2))=false:=zn (q:=hq s (i+18)) Ib s.length (i+2) (by omega);simp only[Go.Abs.D.hq,cI,af]at hq
    rcases hq with hq|hq
    ·omega
    ·exact hq
   rw[dm (by simp;omega),cU Cb,rI,hp,Vq hz]
   first|exact⟨_,_,rfl,rfl,rfl⟩|exact⟨_,_,rfl,rfl,rfl,rfl⟩
end Go.Abs.D
end

section
namespace Go.Abs.D
def dv (n:Int)(l:LI):Int:=l.foldl (λn c=>n*10+(c - 48)) n
theorem QR (n c:Int)(l:LI):dv n (c::l)=dv (n*10+(c - 48)) l:=rfl
theorem VU (n c:Int)(l:LI):dv n (l++[c])=dv n l*10+(c - 48):=by simp[dv,List.foldl_append]
theorem dig {c:Int}(h:dJ c=av):48<=c/\c<=57:=by simp_all[dJ]
theorem E5:∀(l:LI) (n:Int),0<=n->(∀c∈l,dJ c=av)->n<=dv n l
 |[],n,_,_=>bF _
 |c::l,n,h0,h=>by
  have:=dig (h c (aF ..))
  have:=E5 l (n*10+(c - 48)) (by omega) λx hx=>h x (aD _ hx)
  grind [QR]
theorem T6 {c:Int}(h:dJ c=av):c.toNat.toUInt8.toNat=c.toNat:=by
 have:=dig h;rw[Nat.toUInt8,UInt8.toNat_ofNat'];omega
theorem AV:∀(l:LI) (a:Nat),(∀c∈l,dJ c=av)->a<=18446744073709551615->
  Lib.parseUintM (2^64 - 1) a (Lx.u8s l)=(if dv a l<=18446744073709551615 then .ok (dv a l).toNat else .range)
 |[],a,_,ha=>by
  show Lib.NumEnd.ok a=_;rw[ak (by grind [dv])];rfl
 |c::l,a,h,ha=>by
  have hc:=h c (aF ..);have hd:=dig hc
  have hl:=λx hx=>h x (aD _ hx)
  have e:=T6 hc;have LY:=E5 l ((a:Int)*10+(c - 48)) (by omega) hl;have ih:a*10+(c.toNat - 48)<=18446744073709551615->_:=AV l (a*10+(c.toNat - 48)) hl;show Lib.parseUintM _ a (c.toNat.toUInt8::Lx.u8s l)=_;rw[Lib.parseUintM,e,ak (by omega),QR]
  grind
theorem Mu {l:LI}(hl:∀c∈l,dJ c=av)(yu:l≠[])(hn:l.length<=2097152):
  ∃v,Lx.rh (l,10,64,())=J ((bif I (dv 0 l<9223372036854775808)then dv 0 l else v,I (dv 0 l<9223372036854775808),()),(),(),(),()):=by
 have LY:=E5 l 0 (bF 0) hl
 obtain⟨c,r,rfl⟩:∃c r,l=c::r:=by cases l with
  |nil=>simp_all
  |cons c r=>simp
 have hc:=hl c (aF ..);have hd:=dig hc;have e:=T6 hc;have hM:=AV (c::r) 0 hl (by decide);have hB:Lib.parseUintB 64 (Lx.u8s (c::r))=_:=(show Lib.parseUintB 64 (Lx.u8s (c::r))=Lib.parseUintM (2^64 - 1) 0 (Lx.u8s (c::r))by rfl).trans hM
 have hI:Lib.parseIntB 64 (Lx.u8s (c::r))=if dv 0 (c::r)<9223372036854775808 then .ok (dv 0 (c::r))else .range:=by
  show Lib.parseIntB 64 (c.toNat.toUInt8::Lx.u8s r)=_;unfold Lib.parseIntB;have hB:Lib.parseUintB 64 (c.toNat.toUInt8::Lx.u8s r)=_:=hB
  grind
 unfold Lx.rh;rw[show(I ((10:Int)=10)&&I ((64:Int)=64)&&fits (c::r).length)=av by grind [dE,lim],ai]
 by_cases h2:dv 0 (c::r)<9223372036854775808
 all_goals simp[*]
theorem chk {ρ:Type}{s:LI}{j:Nat}{c:Int}(hc:c≠0){A B:Option ρ}:brk (I ((j:Int)<(s.length:Int))) (brk (I ((0:Int)<=(j:Int))&&I ((j:Int)<(s.length:Int))) (brk (I (s.getD (j:Int).toNat 0=c)) A B) ay) B=brk (I (get s j=c)) A B:=by
 by_cases h:j<s.length
 ·rw[cU (by simp_all),cU (db h)];rfl
 simp_all[dm,ke,Ne.symm]
def kU (s:LI)(i j:Nat)(aF0:Bool):cZ.den:=
 bif aF0|| !I (dv 0 (eR s i j)<9223372036854775808)then(3,(i:Int),(j:Int),0,0,eR s i j,())else(2,(i:Int),(j:Int),0,dv 0 (eR s i j),([]:LI),())
def digits (s:LI)(i j:Nat):Prop:=∀c∈eR s i j,dJ c=av
variable{s:LI}(hs:s.length<=2097152)
include hs
theorem uj {i j w:Nat}(SP:i<j)(hj:j<=s.length)(hd:j=w->digits s i j):
  Evt λn=>iE (S.tab n) s ↑i (2,(i:Int),0,0,0,([]:LI),()) ↑j (w:Int)=J (an (kU s i j (!I (j=w)),ar,())):=by
 refine dt.up λn hb=> ?_
 have P5:=fS (n:=s.length) (i:=i) (e:=j) (by omega) hj;rw[Bs,cU P5,rI]
 by_cases h:j=w
 ·rw[cU (by simp_all)];obtain⟨v,hv⟩:=Mu (hd h) (λe=>by grind [sx]) (by grind [sx]);rw[hv];simp;unfold kU;rw[show I (j=w)=av from ab h]
  cases I (dv 0 (eR s i j)<9223372036854775808)with
  |true=>rw[cU rfl];rfl
  |false=>rw[dm rfl,cU P5];rfl
 grind [dm,cU,kU,decide,aa]
omit hs in
theorem CU (t:cZ.den)(ht:t.1=3)(t4:cZ.den)(j v k:Int):Evt λn=>eD (S.tab n) s t t4 j v k=J (an (s,t,t4,j,v,())):=by
 refine dt.up λn hb=> ?_
 rw[iP]
 cases h:I (k<j)with
 |false=>rw[dm rfl]
 |true=>rw[cU rfl,dm (by simp_all)]
theorem xf {i j:Nat}(hj:j<=s.length)(r:Int×Int×Int×Int×LI×Unit)(t4:cZ.den):∀(d k:Nat),k+d=j->i<=k->digits s i j->dv 0 (eR s i k)<9223372036854775808->digits s i k->
  Evt λn=>∃v,eD (S.tab n) s (2,r) t4 ↑j (dv 0 (eR s i k)) (k:Int)=J (an (s,(bif I (dv 0 (eR s i j)<9223372036854775808)then 2 else 3,r),t4,(j:Int),v,()))/\(dv 0 (eR s i j)<9223372036854775808->v=dv 0 (eR s i j))
 |0,k,e,hk,hd,hv,SL=>by
  obtain rfl:k=j:=by omega
  refine dt.up λn hb=>⟨_, ?_,λ_=>rfl⟩
  simp_all[iP,dm,ab,hv]
 |d+1,k,e,hk,hd,hv,SL=>by
  have VI:k<s.length:=(by omega)
  have hc:dJ (get s k)=true:=by
   refine hd _ ?_;clear hd;unfold eR get;rw[List.mem_iff_getElem?];refine⟨k - i, ?_⟩;rw[cL,cK,ak (by omega),aG];simp_all
  have ap3:=dig hc;have h0:=E5 (eR s i k) 0 (bF 0) SL;have ac9:eR s i (k+1)=eR s i k++[get s k]:=oW hk VI
  have aa4:digits s i (k+1):=by
   intro x hx;rw[ac9]at hx
   rcases aL.1 hx with hx|hx
   ·exact SL x hx
   simp_all
  have ac8:dv 0 (eR s i (k+1))=dv 0 (eR s i k)*10+(get s k - 48):=(by rw[ac9,VU])
  have hmono:dv 0 (eR s i (k+1))<=dv 0 (eR s i j):=by
   have e1:eR s i j=eR s i (k+1)++eR s (k+1) j:=by
    unfold eR
    have:(s.take j)=s.take (k+1)++(s.take j).drop (k+1):=by
     conv=>lhs;rw[<-List.take_append_drop (k+1) (s.take j)]
     grind
    grind
   rw[e1];have:=E5 (eR s (k+1) j) (dv 0 (eR s i (k+1))) (E5 _ 0 (bF 0) aa4) (λc hc=>hd c (by simp_all));simp_all[dv,List.foldl_append]
  have over:¬ dv 0 (eR s i (k+1))<9223372036854775808->∀v:Int,Evt λn=>∃v',eD (S.tab n) s (3,r) t4 ↑j v ((k+1:Nat):Int)=J (an (s,(bif I (dv 0 (eR s i j)<9223372036854775808)then 2 else 3,r),t4,(j:Int),v',()))/\(dv 0 (eR s i j)<9223372036854775808->v'=dv 0 (eR s i j)):=λh v=>by
   refine(CU (s:=s) (3,r) rfl t4 j v ((k+1:Nat):Int)).mono λn h'=>⟨v, ?_,λh2=>by omega⟩
   grind
  have w1:aN.wrap (get s k - 48)=get s k - 48:=xX _ (by omega) (by omega);have w2:aq.wrap ((k:Int)+1)=((k+1:Nat):Int):=dX (by omega);have P4:I (((2,r):cZ.den).1=2)=true:=rfl
  have kI:I ((k:Int)<(j:Int))=true:=by grind
  by_cases h1:922337203685477580<dv 0 (eR s i k)
  ·refine(over (by omega) (aH.wrap (aH.wrap (dv 0 (eR s i k)*10)+aH.wrap (aN.wrap (get s k - 48))))).up λn h=> ?_
   show∃v,eD (S.step (S.tab n)) _ _ _ _ _ _=_/\_
   grind [iP,cU,ab,db,dC]
  ·by_cases h2:dv 0 (eR s i k)=922337203685477580
   ·by_cases h3:55<get s k
    ·refine(over (by omega) (aH.wrap (aH.wrap (dv 0 (eR s i k)*10)+aH.wrap (aN.wrap (get s k - 48))))).up λn h=> ?_
     show∃v,eD (S.step (S.tab n)) _ _ _ _ _ _=_/\_;rw[iP,cU kI,cU P4,da h1,dA h2,cU (db VI),dC,dA h3,cU (db VI),w2];exact h
    ·have ih:=xf hj r t4 d (k+1) (by omega) (by omega) hd (by omega) aa4
     refine ih.up λn h=> ?_
     show∃v,eD (S.step (S.tab n)) _ _ _ _ _ _=_/\_;rw[iP,cU kI,cU P4,da h1,dA h2,cU (db VI),dC,da h3,cU (db VI),w2,w1]
     grind [Dd,get]
   ·have ih:=xf hj r t4 d (k+1) (by omega) (by omega) hd (by omega) aa4
    refine ih.up λn h=> ?_
    show∃v,eD (S.step (S.tab n)) _ _ _ _ _ _=_/\_;rw[iP,cU kI,cU P4,da h1,da h2,cU (db VI),dC,w2,w1];rw[Dd (_*10) (by omega) (by omega),Dd (get s k - 48) (by omega) (by omega),Dd _ (by omega) (by omega),<-ac8];exact h
omit hs in
theorem CO {i j:Nat}(SP:i<j)(hj:j<=s.length)(t4:cZ.den):
  Evt λn=>gz (S.tab n) s (3,(i:Int),0,0,0,([]:LI),()) t4 (j:Int)=J (an (kU s i j av, -1,())):=by
 have hl:=CU (s:=s) (3,(i:Int),(j:Int),0,0,([]:LI),()) rfl t4 j 0 i
 refine hl.up λn h=> ?_
 rw[rZ];rw[h];simp[dB];rw[cU (by simp),cU (fS (by omega) hj)];rfl
theorem Kv {i j:Nat}(SP:i<j)(hj:j<=s.length)(t4:cZ.den)(hd:digits s i j):
  Evt λn=>gz (S.tab n) s (2,(i:Int),0,0,0,([]:LI),()) t4 (j:Int)=J (an (kU s i j ar, -1,())):=by
 have hl:=xf hs hj ((i:Int),(j:Int),0,0,([]:LI),()) t4 (j - i) i (by omega) (by omega) hd (by rw[oE];decide) (by intro c hc;simp_all[oE]);rw[oE]at hl;have h0:=E5 (eR s i j) 0 (bF 0) hd
 refine hl.up λn ⟨v,h,hv⟩=> ?_
 rw[rZ];have h:eD (S.tab n) s (2,(i:Int),(j:Int),0,0,([]:LI),()) t4 ↑j 0 (i:Int)=_:=h;rw[h];simp[dB];unfold kU
 cases kI:I (dv 0 (eR s i j)<9223372036854775808)with
 |true=>
  grind [dm,hv,wrap64]
 |false=>
  rw[cU (by rfl),cU (fS (by omega) hj)];rfl
end Go.Abs.D
end

section
namespace Go.Abs.D
def oZ (s:LI)(j:Nat):Nat:=bif I (get s (j+1)=43)||decide (get s (j+1)=45)then j+2 else j+1
def vY (s:LI)(i j:Nat)(aF0:Bool):Nat⊕cZ.den:=
 bif I (get s j=101)then bif dJ (get s (oZ s j))then .inr (kU s i (qG s (oZ s j)) av)else .inl (oZ s j)else .inr (kU s i j aF0)
def v8 (s:LI)(i j:Nat):Nat⊕cZ.den:=
 bif I (get s j=46)&&dJ (get s (j+1))then vY s i (qG s (j+1)) av else vY s i j ar
def mJ (s:LI)(i:Nat):Nat⊕cZ.den:=
 bif I (get s i=48)&&I (get s (i+1)=120)then lf s i else v8 s i (bif I (get s i=48)then i+1 else qG s (i+1))
theorem rK {s:LI}{j:Nat}(h:j<=s.length):qG s j<=s.length:=xE ri _ _ h
theorem rH (s:LI)(j:Nat):j<=qG s j:=tj _ _
theorem lD {s:LI}{j:Nat}{c:Int}(h:get s j=c)(hc:c≠0):j<s.length:=by
 grind [bG,ke,absurd]
theorem sd {s:LI}{j:Nat}(h:dJ (get s j)=av):j<s.length:=by
 rcases bG j s.length with h'|h'
 ·omega
 ·rw[ke h']at h;cases h
theorem BD {s:LI}{i j:Nat}(h:j<=s.length)(hi:i<=j)(hd:digits s i j):digits s i (qG s j):=by
 have hle:=rK h;have LY:=rH s j;obtain⟨m,hm⟩:∃m,qG s j=i+m:=⟨qG s j - i,by omega⟩;intro c hc;rw[hm]at hc;refine C2 (p:=dJ) (a:=i) m (by omega) (λk h1 h2=> ?_) c hc
 rcases bG k j with h3|h3
 ·refine hd _ ?_;unfold eR get;rw[List.mem_iff_getElem?];refine⟨k - i, ?_⟩
  grind
 grind [uJ,dq,qG]
variable{s:LI}(hs:s.length<=2097152)
include hs
theorem MB {i k w:Nat}(hi:i<=2097152)(hk:k<=s.length):Evt λn=>kh (S.tab n) s ↑i (2,(i:Int),0,0,0,([]:LI),()) ↑k (w:Int)=
  J (bif dJ (get s k)then aE (an (s,(i:Int),(2,(i:Int),0,0,0,([]:LI),()),(qG s k:Int),(w:Int),()))else an ((2,(i:Int),(k:Int),0,0,([]:LI),()),av,())):=by
 refine((Bq hs ↑i (2,(i:Int),0,0,0,([]:LI),()) ↑w k).and dt).up λn ⟨h,hb⟩=> ?_
 rw[Bp]
 by_cases hl:k<s.length
 ·rw[dm (by simp_all),cU (db hl),dC,hb.idigit,h];simp
  cases dJ (get s k)with
  |true=>rw[dm (by rfl)];rfl
  |false=>simp_all[cU]
 ·rw[cU (by simp_all),ke (by omega)];rfl
theorem ER {i j w:Nat}(SP:i<w)(hw:w<=j)(hj:j<=s.length)(hd:j=w->digits s i j):
  Evt λn=>∃t' b,iF (S.tab n) s ↑i (2,(i:Int),0,0,0,([]:LI),()) ↑j (w:Int)=J (an (t',b,()))/\IR k23 (vY s i j (!I (j=w))) t' b:=by
 have e1:aq.wrap ((j:Int)+1)=((j+1:Nat):Int):=dX (by omega);have e2:aq.wrap (((j+1:Nat):Int)+1)=((j+2:Nat):Int):=dX (by omega)
 by_cases he:get s j=101
 ·have ao9:=lD he (by decide)
  have VI:oZ s j<=s.length:=by
   unfold oZ
   by_cases h:get s (j+1)=43
   ·have:=lD h (by decide)
    grind
   ·by_cases h':get s (j+1)=45
    ·have:=lD h' (by decide)
     grind
    grind
  have aL5:j<oZ s j:=by grind [oZ,decide,get]
  have key:∀T,iF (S.step T) s ↑i (2,(i:Int),0,0,0,([]:LI),()) ↑j (w:Int)=(kh T s ↑i (2,(i:Int),0,0,0,([]:LI),()) (oZ s j:Int) ↑w).bind (dM (λpG=>J (an pG)) (λpG=>(iE T pG.1 pG.2.1 pG.2.2.1 pG.2.2.2.1 pG.2.2.2.2.1).bind (dB (λJi=>J (an Ji))))):=λT=>by
   rw[tK,chk (by decide),dA he,e1,e2];unfold oZ
   by_cases hl:j+1<s.length
   ·rw[cU (by simp;omega),cU (db hl),cU (db hl),dC]
    by_cases h:get s (j+1)=43
    ·rw[dA h,ab h];rfl
    ·rw[da h,aa h]
     by_cases h':get s (j+1)=45
     ·rw[dA h',ab h'];rfl
     ·rw[da h',aa h'];rfl
   grind [dm,ke]
  have hex:vY s i j (!I (j=w))=bif dJ (get s (oZ s j))then .inr (kU s i (qG s (oZ s j)) av)else .inl (oZ s j):=by
   unfold vY;rw[ab he];rfl
  have Xx:=MB hs (i:=i) (w:=w) (by omega) VI;have LY:=rH s (oZ s j);have J4:=uj hs (i:=i) (j:=qG s (oZ s j)) (w:=w) (by omega) (rK VI) (λe=>by omega)
  refine(Xx.and J4).up λn ⟨h,h'⟩=> ?_
  show∃t' b,iF (S.step (S.tab n)) _ _ _ _ _=_/\_;rw[key,h,hex]
  cases ap3:dJ (get s (oZ s j))with
  |true=>
   simp only[ai,au,dM,aT,aO];rw[h',aa (show¬ qG s (oZ s j)=w by omega)]
   first|exact⟨_,_,rfl,rfl,rfl⟩|exact⟨_,_,rfl,rfl,rfl,rfl⟩
  |false=>
   first|exact⟨_,_,rfl,rfl,rfl⟩|exact⟨_,_,rfl,rfl,rfl,rfl⟩
 ·have hex:vY s i j (!I (j=w))= .inr (kU s i j (!I (j=w))):=by
   unfold vY;rw[aa he];rfl
  refine(uj hs (by omega) hj hd).up λn h=> ?_
  show∃t' b,iF (S.step (S.tab n)) _ _ _ _ _=_/\_;rw[tK,chk (by decide),da he,h,hex]
  first|exact⟨_,_,rfl,rfl,rfl⟩|exact⟨_,_,rfl,rfl,rfl,rfl⟩
theorem EZ {i j:Nat}(SP:i<j)(hj:j<=s.length)(hd:digits s i j):
  Evt λn=>∃t' b,gP (S.tab n) s ↑i (2,(i:Int),0,0,0,([]:LI),()) (j:Int)=J (an (t',b,()))/\IR k23 (v8 s i j) t' b:=by
 have e1:aq.wrap ((j:Int)+1)=((j+1:Nat):Int):=dX (by omega)
 by_cases hf:get s j=46/\dJ (get s (j+1))=av
 ·have hl:=sd hf.2;have LY:=rH s (j+1);have hle:=rK (s:=s) (j:=j+1) (by omega);have P3:=Bm hs ↑i (2,(i:Int),0,0,0,([]:LI),()) ↑j (j+1);have P4:=ER hs (i:=i) (j:=qG s (j+1)) (w:=j) SP (by omega) hle (λe=>by omega)
  refine((P3.and P4).and dt).up λn ⟨⟨h,t',b,h',hr⟩,hb⟩=> ?_
  show∃t' b,gP (S.step (S.tab n)) _ _ _ _=_/\_;rw[uf,e1,cU (by simp;omega),cU (db (show j<s.length by omega)),dC,cU (ab hf.1),cU (db hl),dC,hb.idigit,hf.2];simp only[au];rw[cU rfl,h];simp only[au,dB,aO];rw[h'];refine⟨t',b,rfl, ?_⟩;rw[aa (show¬ qG s (j+1)=j by omega)]at hr;unfold v8;rw[ab hf.1,hf.2];exact hr
 ·have aR2:v8 s i j=vY s i j (!I (j=j)):=by
   unfold v8;rw[ab (show j=j from rfl)]
   by_cases h:get s j=46
   ·have:dJ (get s (j+1))=false:=by
     cases hx:dJ (get s (j+1))with
     |true=>exact absurd ⟨h,hx⟩ hf
     |false=>rfl
    rw[this,aQ];rfl
   ·rw[aa h];rfl
  have P4:=ER hs (i:=i) (j:=j) (w:=j) SP (by omega) hj (λ_=>hd);rw[aR2]
  refine(P4.and dt).up λn ⟨⟨t',b,h',hr⟩,hb⟩=> ?_
  show∃t' b,gP (S.step (S.tab n)) _ _ _ _=_/\_;refine⟨t',b, ?_,hr⟩;rw[uf,e1]
  by_cases hl:j+1<s.length
  ·rw[cU (by simp;omega),cU (db (show j<s.length by omega)),dC]
   by_cases h:get s j=46
   ·have:dJ (get s (j+1))=false:=by
     cases hx:dJ (get s (j+1))with
     |true=>exact absurd ⟨h,hx⟩ hf
     |false=>rfl
    rw[dA h,cU (db hl),dC,hb.idigit,this];simp;rw[dm rfl,h'];rfl
   ·rw[da h,h'];rfl
  ·rw[dm (by simp;omega),h'];rfl
omit hs in
theorem xu {i:Nat}(hi:i<s.length)(h:dJ (get s i)=av):digits s i (i+1):=by
 intro c hc;simp_all[oW,aC,oE,get]
theorem GL {i:Nat}(hi:i<s.length)(hd:dJ (get s i)=av):Evt λn=>∃t' b,p8 (S.tab n) s (i:Int)=J ((t',b,()),cQ)/\IR k23 (mJ s i) t' b:=by
 by_cases h0:get s i=48
 ·by_cases hx:get s (i+1)=120
  ·have hl:=lD hx (by decide)
   grind [mJ,lf,ab,Fk]
  ·have e:mJ s i=v8 s i (i+1):=by simp_all[mJ,ab,aa]
   rw[e];have e1:aq.wrap ((i:Int)+1)=((i+1:Nat):Int):=dX (by omega)
   refine(EZ hs (i:=i) (j:=i+1) (by omega) (by omega) (xu hi hd)).up λn ⟨t',b,h',hr⟩=>⟨t',b, ?_,hr⟩
   rw[qt,e1,cU (db hi),dC,dA h0]
   by_cases hl:i+1<s.length
   ·rw[cU (by simp;omega),cU (db hl),dC,da hx,cU (db hi),dm (by rw[ab h0];rfl),h'];rfl
   ·rw[dm (by simp;omega),cU (db hi),dm (by rw[ab h0];rfl),h'];rfl
 ·have e:mJ s i=v8 s i (qG s (i+1)):=by unfold mJ;rw[aa h0];rfl
  rw[e];have e1:aq.wrap ((i:Int)+1)=((i+1:Nat):Int):=dX (by omega);have LY:=rH s (i+1);have hle:=rK (s:=s) (j:=i+1) (by omega);have ID:=Bk hs ↑i (2,(i:Int),0,0,0,([]:LI),()) (i+1)
  refine(ID.and (EZ hs (i:=i) (j:=qG s (i+1)) (by omega) hle (BD (by omega) (by omega) (xu hi hd)))).up λn ⟨h,t',b,h',hr⟩=>⟨t',b, ?_,hr⟩
  rw[qt,e1,cU (db hi),dC,da h0,cU (db hi),cU (by rw[aa h0];rfl),h];simp[dB];rw[h'];rfl
theorem yZ {i j:Nat}(f:Bool)(SP:i<j)(hj:j<=s.length)(t4:cZ.den)(hd:f=ar->digits s i j):
  Evt λn=>∃t' b,fC (S.tab n) s (bif f then 3 else 2,(i:Int),0,0,0,([]:LI),()) t4 (j:Int)=J (an (t',b,()))/\SR k23 (vY s i j f) t' b:=by
 have e1:aq.wrap ((j:Int)+1)=((j+1:Nat):Int):=dX (by omega);have e2:aq.wrap (((j+1:Nat):Int)+1)=((j+2:Nat):Int):=dX (by omega)
 by_cases he:get s j=101
 ·have aL5:j<oZ s j:=by grind [oZ,decide,get]
  have hex:vY s i j f=bif dJ (get s (oZ s j))then .inr (kU s i (qG s (oZ s j)) av)else .inl (oZ s j):=by
   simp_all[vY,ab]
  have key:∀n,Base2 (S.tab n)->fC (S.step (S.tab n)) s (bif f then 3 else 2,(i:Int),0,0,0,([]:LI),()) t4 (j:Int)=
    brk (!dJ (get s (oZ s j))) (J (an ((3,(i:Int),0,0,0,([]:LI),()),(oZ s j:Int),()))) ((fD (S.tab n) s (3,(i:Int),0,0,0,([]:LI),()) t4 (oZ s j:Int)).bind (dB (λzL=>(gz (S.tab n) zL.1 zL.2.1 zL.2.2.1 zL.2.2.2.1).bind (dB (λJ5=>J (an J5)))))):=λn hb=>by
   rw[rO,hb.look];simp;rw[dA he,e1,e2,hb.look];simp only[au];unfold oZ
   by_cases h':get s (j+1)=45
   ·rw[dA h',ab h',Bool.or_true,hb.look];simp[hb.sdigit]
   ·rw[da h',aa h',Bool.or_false]
    by_cases h:get s (j+1)=43
    ·rw[dA h,ab h,hb.look];simp[hb.sdigit]
    ·rw[da h,aa h];simp[hb.sdigit]
  cases ap3:dJ (get s (oZ s j))with
  |true=>
   have hl:=sd ap3;have LY:=rH s (oZ s j);have XE:=yA hs (3,(i:Int),0,0,0,([]:LI),()) t4 (oZ s j);have On:=CO (s:=s) (i:=i) (j:=qG s (oZ s j)) (by omega) (rK (by omega)) t4
   refine((XE.and On).and dt).up λn ⟨⟨h,h'⟩,hb⟩=> ?_
   show∃t' b,fC (S.step (S.tab n)) _ _ _ _=_/\_;rw[key n hb,hex,ap3,dm (by rfl),h];simp only[ai,au,dB,aO];rw[h']
   first|exact⟨_,_,rfl,rfl,rfl⟩|exact⟨_,_,rfl,rfl,rfl,rfl⟩
  |false=>
   refine dt.up λn hb=> ?_
   show∃t' b,fC (S.step (S.tab n)) _ _ _ _=_/\_;rw[key n hb,hex,ap3,cU (by rfl)];exact⟨_,_,rfl,rfl,rfl⟩
 ·have hex:vY s i j f= .inr (kU s i j f):=by
   unfold vY;rw[aa he];rfl
  have On:Evt λn=>gz (S.tab n) s (bif f then 3 else 2,(i:Int),0,0,0,([]:LI),()) t4 (j:Int)=J (an (kU s i j f, -1,())):=by
   cases f with
   |true=>exact CO (s:=s) SP hj t4
   |false=>exact Kv hs SP hj t4 (hd rfl)
  refine(On.and dt).up λn ⟨h,hb⟩=> ?_
  show∃t' b,fC (S.step (S.tab n)) _ _ _ _=_/\_;rw[rO,hb.look];simp only[au];rw[da he,h,hex]
  first|exact⟨_,_,rfl,rfl,rfl⟩|exact⟨_,_,rfl,rfl,rfl,rfl⟩
theorem Hc {i j:Nat}(SP:i<j)(hj:j<=s.length)(t4:cZ.den)(hd:digits s i j):
  Evt λn=>∃t' b,gS (S.tab n) s (2,(i:Int),0,0,0,([]:LI),()) t4 (j:Int)=J (an (t',b,()))/\SR k23 (v8 s i j) t' b:=by
 have e1:aq.wrap ((j:Int)+1)=((j+1:Nat):Int):=dX (by omega)
 by_cases h:get s j=46
 ·cases hx:dJ (get s (j+1))with
  |true=>
   have hl:=sd hx;have LY:=rH s (j+1);have hle:=rK (s:=s) (j:=j+1) (by omega);have uZ:=yE hs (3,(i:Int),0,0,0,([]:LI),()) t4 (j+1);have ED:=yZ hs (i:=i) (j:=qG s (j+1)) av (by omega) hle t4 (λe=>by cases e)
   refine((uZ.and ED).and dt).up λn ⟨⟨h1,t',b,h2,hr⟩,hb⟩=>⟨t',b, ?_, ?_⟩
   ·show gS (S.step (S.tab n)) _ _ _ _=_;rw[pd,hb.look];simp;rw[dA h,e1,hb.look];simp only[au,hb.sdigit,hx];rw[cU rfl,h1];simp[dB];rw[show((3:Int),(i:Int),(0:Int),(0:Int),(0:Int),([]:LI),())=(bif av then 3 else 2,(i:Int),0,0,0,([]:LI),())from rfl,h2];rfl
   simp_all[v8,ab]
  |false=>
   have ED:=yZ hs (i:=i) (j:=j) ar SP hj t4 (λ_=>hd)
   refine(ED.and dt).up λn ⟨⟨t',b,h2,hr⟩,hb⟩=>⟨t',b, ?_, ?_⟩
   ·show gS (S.step (S.tab n)) _ _ _ _=_;rw[pd,hb.look];simp;rw[dA h,e1,hb.look];simp[hb.sdigit,hx];have h2:fC (S.tab n) s (2,(i:Int),0,0,0,([]:LI),()) t4 (j:Int)=_:=h2;rw[dm rfl,h2];rfl
   ·unfold v8;rw[hx,aQ];exact hr
 ·have ED:=yZ hs (i:=i) (j:=j) ar SP hj t4 (λ_=>hd)
  refine(ED.and dt).up λn ⟨⟨t',b,h2,hr⟩,hb⟩=>⟨t',b, ?_, ?_⟩
  ·show gS (S.step (S.tab n)) _ _ _ _=_;rw[pd,hb.look];simp;have h2:fC (S.tab n) s (2,(i:Int),0,0,0,([]:LI),()) t4 (j:Int)=_:=h2;rw[da h,h2];rfl
  ·unfold v8;rw[aa h];exact hr
theorem DW {i:Nat}(hi:i<s.length)(hd:dJ (get s i)=av):Evt λn=>∃t' b,vL (S.tab n) s (0,(i:Int),0,0,0,([]:LI),())=J ((t',b,()),eP)/\SR k23 (mJ s i) t' b:=by
 have e1:aq.wrap ((i:Int)+1)=((i+1:Nat):Int):=dX (by omega)
 by_cases h0:get s i=48
 ·by_cases hx:get s (i+1)=120
  ·have hl:=lD hx (by decide)
   have e:mJ s i=lf s i:=by unfold mJ;rw[ab h0,ab hx];rfl
   rw[e]
   refine((Fh hs (i:=i) (by omega)).and dt).up λn ⟨⟨t',b,h,hr⟩,hb⟩=>⟨t',b, ?_,hr⟩
   rw[qU];simp only[e1];rw[cU (db hi),dC,dA h0,hb.look];simp;rw[dA hx,h];rfl
  ·have e:mJ s i=v8 s i (i+1):=by unfold mJ;rw[ab h0,aa hx];rfl
   rw[e]
   refine((Hc hs (i:=i) (j:=i+1) (by omega) (by omega) (0,0,0,0,0,([]:LI),()) (xu hi hd)).and dt).up λn ⟨⟨t',b,h,hr⟩,hb⟩=>⟨t',b, ?_,hr⟩
   rw[qU];simp only[e1];rw[cU (db hi),dC,dA h0,hb.look];simp only[au];rw[da hx,cU (db hi),dm (by rw[ab h0];rfl),h];rfl
 ·have e:mJ s i=v8 s i (qG s (i+1)):=by unfold mJ;rw[aa h0];rfl
  rw[e];have LY:=rH s (i+1);have hle:=rK (s:=s) (j:=i+1) (by omega);have h7:=Al hs (2,(i:Int),0,0,0,([]:LI),()) (0,0,0,0,0,([]:LI),()) (i+1)
  refine(h7.and (Hc hs (i:=i) (j:=qG s (i+1)) (by omega) hle (0,0,0,0,0,([]:LI),()) (BD (by omega) (by omega) (xu hi hd)))).up λn ⟨h1,t',b,h,hr⟩=>⟨t',b, ?_,hr⟩
  rw[qU];simp only[e1];rw[cU (db hi),dC,da h0,cU (db hi),cU (by rw[aa h0];rfl),h1];simp[dB];rw[h];rfl
end Go.Abs.D
end

section
namespace Go.Abs.D
def gR (s:LI):Nat->Nat->LI->Nat⊕(Nat×LI)
 |0,j,_=> .inl j
 |k+1,j,o=>
  bif I (s.length<=j)then .inl j else
  bif I (get s j=10)then .inl j else
  bif I (get s j=34)then .inr (j+1,o)else
  bif !I (get s j=92)then gR s k (j+1) (o++[get s j])else
  bif I (get s (j+1)=110)then gR s k (j+2) (o++[10])else
  bif I (get s (j+1)=116)then gR s k (j+2) (o++[9])else
  bif I (get s (j+1)=34)then gR s k (j+2) (o++[34])else
  bif I (get s (j+1)=92)then gR s k (j+2) (o++[92])else
  bif !I (get s (j+1)=120)then .inl (j+1)else
  bif !jS (get s (j+2))then .inl (j+2)else
  bif !jS (get s (j+3))then .inl (j+3)else
  gR s k (j+4) (o++[kF (get s (j+2))*16+kF (get s (j+3))])
def LD (i:Nat):Nat⊕(Nat×LI)->Nat⊕cZ.den
 | .inl e=> .inl e
 | .inr (e,o)=> .inr (4,(i:Int),(e:Int),0,0,o.map byte,())
def Uu (s:LI)(i:Nat):Nat⊕cZ.den:=LD i (gR s s.length (i+1) [])
variable{s:LI}(hs:s.length<=2097152)
include hs
omit hs in
theorem Ee {j:Nat}(h:jS (get s j)=av):j<s.length:=by
 rcases bG j s.length with h'|h'
 ·omega
 ·rw[ke h']at h;cases h
omit hs in
theorem ag0 (t4:cZ.den)(o:LI)(j:Nat):Evt λn=>oQ (S.tab n) s t4 o ↑j 4=J (aE (an (s,t4,o,(j:Int),()))):=by
 refine dt.up λn hb=> ?_
 simp_all[sF,dm]
theorem af8 (t4:cZ.den)(o:LI)(j:Nat)(hj:j<s.length):Evt λn=>oQ (S.tab n) s t4 o ↑j 3=
  J (bif jS (get s (j+3))then aE (an (s,t4,o,(j:Int),()))else an ((t4.1,t4.2.1,((j+3:Nat):Int),t4.2.2.2),av,())):=by
 have e:aq.wrap ((j:Int)+3)=((j+3:Nat):Int):=by grind [wrap64]
 have e4:aq.wrap ((3:Int)+1)=4:=(by decide)
 refine((ag0 (s:=s) t4 o j).and dt).up λn ⟨h,hb⟩=> ?_
 rw[sF,cU (by decide),e,e4,h]
 by_cases hl:j+3<s.length
 ·rw[dm (by grind),cU (db hl),dC,hb.ihex]
  grind [jS,get,dm,cU]
 ·rw[cU (by grind),ke (by omega)];rfl
theorem af9 (t4:cZ.den)(o:LI)(j:Nat)(hj:j<s.length):Evt λn=>oQ (S.tab n) s t4 o ↑j 2=
  J (bif jS (get s (j+2))then(bif jS (get s (j+3))then aE (an (s,t4,o,(j:Int),()))else an ((t4.1,t4.2.1,((j+3:Nat):Int),t4.2.2.2),av,()))else an ((t4.1,t4.2.1,((j+2:Nat):Int),t4.2.2.2),av,())):=by
 have e:aq.wrap ((j:Int)+2)=((j+2:Nat):Int):=by grind [wrap64]
 have e3:aq.wrap ((2:Int)+1)=3:=(by decide)
 refine((af8 hs t4 o j hj).and dt).up λn ⟨h,hb⟩=> ?_
 rw[sF,cU (by decide),e,e3,h]
 by_cases hl:j+2<s.length
 ·rw[dm (by grind),cU (db hl),dC,hb.ihex]
  grind [jS,get,dm,cU]
 ·rw[cU (by grind),ke (show s.length<=j+2 by omega)];rfl
omit hs in
theorem ah2 (t3 t4:cZ.den)(o:LI)(j:Nat):Evt λn=>j5 (S.tab n) s t3 t4 ↑j o 3=J (aE (an (s,t3,t4,(j:Int),o,()))):=by
 refine dt.up λn hb=> ?_
 simp_all[ou,dm]
omit hs in
theorem UD (c:Int):I (kF c<0)= !jS c:=by
 rw[<-pY]
 grind
theorem ae1 (t3 t4:cZ.den)(o:LI)(j:Nat)(hj:j<=s.length):Evt λn=>j5 (S.tab n) s t3 t4 ↑j o 2=
  J (bif jS (get s (j+2))then aE (an (s,t3,t4,(j:Int),o,()))else an (t3,((j+2:Nat):Int),())):=by
 have e:aq.wrap ((j:Int)+2)=((j+2:Nat):Int):=by grind [wrap64]
 have e3:aq.wrap ((2:Int)+1)=3:=(by decide)
 refine((ah2 (s:=s) t3 t4 o j).and dt).up λn ⟨h,hb⟩=> ?_
 rw[ou,cU (by decide),e,e3,h,hb.look];simp[hb.shex,UD]
 grind [jS,get,dm,cU]
theorem ag5 (t3 t4:cZ.den)(o:LI)(j:Nat)(hj:j<=s.length):Evt λn=>j5 (S.tab n) s t3 t4 ↑j o 1=
  J (bif jS (get s (j+1))then(bif jS (get s (j+2))then aE (an (s,t3,t4,(j:Int),o,()))else an (t3,((j+2:Nat):Int),()))else an (t3,((j+1:Nat):Int),())):=by
 have e:aq.wrap ((j:Int)+1)=((j+1:Nat):Int):=dX (by omega);have e3:aq.wrap ((1:Int)+1)=2:=(by decide)
 refine((ae1 hs t3 t4 o j hj).and dt).up λn ⟨h,hb⟩=> ?_
 rw[ou,cU (by decide),e,e3,h,hb.look];simp[hb.shex,UD]
 grind [jS,get,dm,cU]
def zz (c:Int):Int:=bif I (c=110)then 0 else bif I (c=116)then 1 else bif I (c=34)then 2 else bif I (c=92)then 3 else -1
omit hs in
theorem VR (c:Int)(h:isByte c):Bld.idx [110,116,34,92] (byte c) 0=zz c:=by
 rw[KH h];unfold zz;simp only[Bld.idx]
 grind
omit hs in
theorem TC (hb:∀c∈s,isByte c)(j:Nat):isByte (get s j):=by
 rcases bG j s.length with h|h
 ·simp_all[get,aG,aJ,bm]
 ·rw[ke h];exact⟨by decide,by decide⟩
omit hs in
theorem wR:Evt λn=>∀c,isByte c->jb (S.tab n) [110,116,34,92] c=J (zz c,cQ):=by
 have h1:Evt λn=>∀c,isByte c->j4 (S.tab n) [110,116,34,92] c=J (zz c,cQ):=dt.up λn _ c hc=>by
  simp_all[oe,Bld.uH,au,VR]
 exact h1.up λn h c hc=>by
  simp_all[rW]
omit hs in
theorem WW (a b:Int)(ha:jS a=av)(hb:jS b=av):hv 0 [a,b]=kF a*16+kF b/\0<=kF a*16+kF b/\kF a*16+kF b<256:=by
 have:=td ha;have:=td hb;have:=vC a;have:=vC b;refine⟨?_,by omega,by omega⟩;show(0*16+kF a)*16+kF b=_;omega
omit hs in
theorem HG {j:Nat}(h:j+2<=s.length):eR s j (j+2)=[get s j,get s (j+1)]:=by
 rw[show j+2=j+1+1 from rfl,oW (by omega) (by omega),oW (by omega) (by omega),oE];rfl
theorem I3 (Iq:∀c∈s,isByte c)(i:Nat):∀(k j:Nat) (o:LI),s.length<=j+k->j<=s.length->o.length<=j->
  Evt λn=>∃t' b,eN (S.tab n) s (4,(i:Int),0,0,0,([]:LI),()) o (j:Int)=J (an (t',b,()))/\IR k4 (LD i (gR s k j o)) t' b:=by
 intro k
 induction k with
 |zero=>
  intro j o hk hj ho
  refine dt.up λn hb=> ?_
  show∃t' b,eN (S.step (S.tab n)) _ _ _ _=_/\_;rw[lr,cU (by simp_all)]
  first|exact⟨_,_,rfl,rfl,rfl⟩|exact⟨_,_,rfl,rfl,rfl,rfl⟩
 |succ k ih=>
  intro j o hk hj ho;have w1:aq.wrap ((j:Int)+1)=((j+1:Nat):Int):=dX (by omega)
  have w2:aq.wrap ((j:Int)+2)=((j+2:Nat):Int):=by rw[wrap64 _ (by omega) (by omega)];omega
  have w4:aq.wrap ((j:Int)+4)=((j+4:Nat):Int):=by rw[wrap64 _ (by omega) (by omega)];omega
  have hf:∀x:Int,fits (o.length+[x].length)=true:=λx=>dE (by unfold lim;simp;omega)
  by_cases hl:s.length<=j
  ·have hR:gR s (k+1) j o= .inl j:=by unfold gR;rw[ab hl];rfl
   rw[hR]
   refine dt.up λn hb=> ?_
   show∃t' b,eN (S.step (S.tab n)) _ _ _ _=_/\_;rw[lr,cU (by simp;omega)]
   first|exact⟨_,_,rfl,rfl,rfl⟩|exact⟨_,_,rfl,rfl,rfl,rfl⟩
  have Iz:j<s.length:=(by omega);have rL:=db Iz
  have OD:I ((s.length:Int)<=(j:Int))=false:=by simp;omega
  by_cases c10:get s j=10
  ·have hR:gR s (k+1) j o= .inl j:=by unfold gR;rw[aa hl,ab c10];rfl
   rw[hR]
   refine dt.up λn hb=> ?_
   show∃t' b,eN (S.step (S.tab n)) _ _ _ _=_/\_;rw[lr,dm OD,cU rL,dC,dA c10]
   first|exact⟨_,_,rfl,rfl,rfl⟩|exact⟨_,_,rfl,rfl,rfl,rfl⟩
  by_cases yr:get s j=34
  ·have hR:gR s (k+1) j o= .inr (j+1,o):=by unfold gR;rw[aa hl,aa c10,ab yr];rfl
   rw[hR]
   refine dt.up λn hb=> ?_
   show∃t' b,eN (S.step (S.tab n)) _ _ _ _=_/\_;rw[lr,dm OD,cU rL,dC,da c10,cU rL,dA yr,w1]
   first|exact⟨_,_,rfl,rfl,rfl⟩|exact⟨_,_,rfl,rfl,rfl,rfl⟩
  by_cases c92:¬ (get s j=92)
  ·have hR:gR s (k+1) j o=gR s k (j+1) (o++[get s j]):=by
    conv=>lhs;unfold gR
    rw[aa hl,aa c10,aa yr,aa c92];rfl
   rw[hR]
   refine(ih (j+1) (o++[get s j]) (by omega) (by omega) (by simp;omega)).up λn h=> ?_
   show∃t' b,eN (S.step (S.tab n)) _ _ _ _=_/\_;rw[lr,dm OD,cU rL,dC,da c10,cU rL,da yr,cU rL,cU (by rw[aa c92];rfl),cU rL,cU (hf _),w1];exact h
  replace c92:=bP.1 c92
  have start:∀n,eN (S.step (S.tab n)) s (4,(i:Int),0,0,0,([]:LI),()) o (j:Int)=_:=λn=>by
   rw[lr,dm OD,cU rL,dC,da c10,cU rL,da yr,cU rL,dm (by rw[ab c92];rfl),w1,w2]
  by_cases nJ:¬ (j+1<s.length)
  ·have hR:gR s (k+1) j o= .inl (j+1):=by
    unfold gR;rw[aa hl,aa c10,aa yr,ab c92,ke (show s.length<=j+1 by omega)];rfl
   rw[hR]
   refine dt.up λn hb=> ?_
   show∃t' b,eN (S.step (S.tab n)) _ _ _ _=_/\_;rw[start,cU (by simp;omega)]
   first|exact⟨_,_,rfl,rfl,rfl⟩|exact⟨_,_,rfl,rfl,rfl,rfl⟩
  replace nJ:=bP.1 nJ
  have Ve:=db nJ
  have Vg:I ((s.length:Int)<=((j+1:Nat):Int))=false:=by simp;omega
  have LP:=TC Iq (j+1)
  have short:∀(x y:Int),get s (j+1)=x->zz x≥0->(I ((0:Int)<=zz x)&&I (zz x<4))=av->([10,9,34,92]:LI).getD (zz x).toNat 0=y->gR s (k+1) j o=gR s k (j+2) (o++[y])->
    Evt λn=>∃t' b,eN (S.tab n) s (4,(i:Int),0,0,0,([]:LI),()) o (j:Int)=J (an (t',b,()))/\IR k4 (LD i (gR s (k+1) j o)) t' b:=λx y hx h0 h4 hy hR=>by
   rw[hR]
   refine((ih (j+2) (o++[y]) (by omega) (by omega) (by simp;omega)).and wR).up λn ⟨h,Vh⟩=> ?_
   show∃t' b,eN (S.step (S.tab n)) _ _ _ _=_/\_;rw[start,dm Vg,cU Ve,dC,Vh _ LP,hx];simp only[au];rw[cU (by simpa using h0),cU h4,hy,cU (hf _)];exact h
  by_cases e110:get s (j+1)=110
  ·refine short 110 10 e110 (by decide) (by decide) (by decide) ?_
   conv=>lhs;unfold gR
   rw[aa hl,aa c10,aa yr,ab c92,e110];rfl
  by_cases e116:get s (j+1)=116
  ·refine short 116 9 e116 (by decide) (by decide) (by decide) ?_
   conv=>lhs;unfold gR
   rw[aa hl,aa c10,aa yr,ab c92,e116];rfl
  by_cases e34:get s (j+1)=34
  ·refine short 34 34 e34 (by decide) (by decide) (by decide) ?_
   conv=>lhs;unfold gR
   rw[aa hl,aa c10,aa yr,ab c92,e34];rfl
  by_cases e92:get s (j+1)=92
  ·refine short 92 92 e92 (by decide) (by decide) (by decide) ?_
   conv=>lhs;unfold gR
   rw[aa hl,aa c10,aa yr,ab c92,e92];rfl
  have LQ:zz (get s (j+1))= -1:=by
   unfold zz;rw[aa e110,aa e116,aa e34,aa e92];rfl
  by_cases e120:¬ (get s (j+1)=120)
  ·have hR:gR s (k+1) j o= .inl (j+1):=by
    unfold gR;rw[aa hl,aa c10,aa yr,ab c92,aa e110,aa e116,aa e34,aa e92,aa e120];rfl
   rw[hR]
   refine wR.up λn Vh=> ?_
   show∃t' b,eN (S.step (S.tab n)) _ _ _ _=_/\_;rw[start,dm Vg,cU Ve,dC,Vh _ LP,LQ];simp only[au];rw[dm (by decide),cU Ve,cU (by rw[aa e120];rfl)]
   first|exact⟨_,_,rfl,rfl,rfl⟩|exact⟨_,_,rfl,rfl,rfl,rfl⟩
  replace e120:=bP.1 e120
  have hR:gR s (k+1) j o=bif !jS (get s (j+2))then .inl (j+2)else bif !jS (get s (j+3))then .inl (j+3)else gR s k (j+4) (o++[kF (get s (j+2))*16+kF (get s (j+3))]):=by
   conv=>lhs;unfold gR
   rw[aa hl,aa c10,aa yr,ab c92,e120];rfl
  have aH1:=af9 hs (4,(i:Int),0,0,0,([]:LI),()) o j Iz
  have go:∀n,(∀c,isByte c->jb (S.tab n) [110,116,34,92] c=J (zz c,cQ))->eN (S.step (S.tab n)) s (4,(i:Int),0,0,0,([]:LI),()) o (j:Int)=_:=λn Vh=>by
   rw[start,dm Vg,cU Ve,dC,Vh _ LP,LQ,au,dm (by decide),cU Ve,dm (by rw[ab e120];rfl)]
  rw[hR]
  cases x2:jS (get s (j+2))with
  |false=>
   refine(aH1.and wR).up λn ⟨h,Vh⟩=> ?_
   show∃t' b,eN (S.step (S.tab n)) _ _ _ _=_/\_;rw[go n Vh,h,x2]
   first|exact⟨_,_,rfl,rfl,rfl⟩|exact⟨_,_,rfl,rfl,rfl,rfl⟩
  |true=>
   cases x3:jS (get s (j+3))with
   |false=>
    refine(aH1.and wR).up λn ⟨h,Vh⟩=> ?_
    show∃t' b,eN (S.step (S.tab n)) _ _ _ _=_/\_;rw[go n Vh,h,x2,x3]
    first|exact⟨_,_,rfl,rfl,rfl⟩|exact⟨_,_,rfl,rfl,rfl,rfl⟩
   |true=>
    have au9:=Ee x3;obtain⟨aA9,yq,hp1⟩:=WW _ _ x2 x3
    have ac6:=CN [get s (j+2),get s (j+3)] 8 (.inl ⟨rfl,by simp⟩) (by simp) (by
     intro c hc
     rcases bA.1 hc with rfl|hc
     ·exact x2
     ·have:c=get s (j+3):=(by simpa using hc)
      rw[this];exact x3)
    rw[aA9]at ac6;have h2:=ih (j+4) (o++[kF (get s (j+2))*16+kF (get s (j+3))]) (by omega) (by omega) (by simp;omega)
    refine(((aH1.and wR).and ac6).and h2).up λn ⟨⟨⟨h,Vh⟩,ac6⟩,h2⟩=> ?_
    show∃t' b,eN (S.step (S.tab n)) _ _ _ _=_/\_;rw[go n Vh,h,x2,x3];simp only[ai,au,dM,aT,aO,w2,w4];rw[cU (fS (by omega) (by omega)),rI,HG (s:=s) (j:=j+2) (by omega),ac6];simp only[au];rw[xX _ yq hp1,cU (hf _)];exact h2
end Go.Abs.D
end

section
namespace Go.Abs.D
def LR (r:Nat⊕cZ.den)(y:(cZ.den×Int×Unit)⊕(cZ.den×cZ.den×Int×Unit)⊕Empty):Prop:=
 y.elim (λy=>SR k4 r y.1 y.2.1) λy=>y.elim (λy=>SR k4 r y.1 y.2.2.1) Empty.elim
variable{s:LI}(hs:s.length<=2097152)
include hs
theorem G2 (t3 t4:cZ.den)(j:Nat)(o:LI)(c:Int)(hj:j<s.length)(ho:o.length<=j):Evt λn=>jf (S.tab n) s t3 t4 ↑j o c av=J (an (s,t3,t4,(j:Int),o++[get s j],())):=by
 refine dt.up λn hb=> ?_
 rw[oh,cU rfl,cU (db hj),dC,cU (dE (by grind [lim]))]
omit hs in
theorem Ki (t3 t4:cZ.den)(j:Nat)(o:LI)(c:Int)(hc:c≠120):Evt λn=>jf (S.tab n) s t3 t4 ↑j o c ar=J (aE (an (t3,(j:Int),()))):=by
 refine dt.up λn hb=> ?_
 rw[oh,dm rfl,da hc]
theorem Pf (t3 t4:cZ.den)(j:Nat)(o:LI)(hj:j<=s.length)(ho:o.length<=j):Evt λn=>jf (S.tab n) s t3 t4 ↑j o 120 ar=
  J (bif jS (get s (j+1))then(bif jS (get s (j+2))then an (s,t3,t4,((j+2:Nat):Int),o++[kF (get s (j+1))*16+kF (get s (j+2))],())else aE (an (t3,((j+2:Nat):Int),())))else aE (an (t3,((j+1:Nat):Int),()))):=by
 have w1:aq.wrap ((j:Int)+1)=((j+1:Nat):Int):=dX (by omega)
 have w2:aq.wrap ((j:Int)+2)=((j+2:Nat):Int):=by grind [wrap64]
 refine((ag5 hs t3 t4 o j hj).and dt).up λn ⟨h,hb⟩=> ?_
 rw[oh,dm rfl,cU (by rfl),h]
 cases x1:jS (get s (j+1))with
 |false=>rfl
 |true=>
  cases x2:jS (get s (j+2))with
  |false=>rfl
  |true=>
   have pb:=Ee x2;have h0:=td x1;have YC:=td x2;have h1:=vC (get s (j+1));have SV:=vC (get s (j+2));have e1:aq.wrap (16*kF (get s (j+1)))=16*kF (get s (j+1)):=wrap64 _ (by omega) (by omega)
   have e2:aq.wrap (16*kF (get s (j+1))+kF (get s (j+2)))=kF (get s (j+1))*16+kF (get s (j+2)):=by grind [wrap64]
   simp only[ai,au,dM,aT,aO,w1,w2];rw[cU (db (show j+1<s.length by omega)),dC,hb.shex,au,cU (db pb),dC,hb.shex,au]
   grind [xX,cU,dE,lim]
theorem I1 (t4:cZ.den)(i:Nat):∀(k j:Nat) (o:LI),s.length<=j+k->j<=s.length->o.length<=j->
  Evt λn=>∃y,dK (S.tab n) s (4,(i:Int),0,0,0,([]:LI),()) t4 ↑j o=J y/\LR (LD i (gR s k j o)) y:=by
 intro k
 induction k with
 |zero=>
  intro j o hk hj ho
  refine dt.up λn hb=> ?_
  show∃y,dK (S.step (S.tab n)) _ _ _ _ _=_/\_;rw[jo,dm (by simp_all)]
  first|exact⟨_,rfl,rfl,rfl⟩|exact⟨_,rfl,rfl⟩
 |succ k ih=>
  intro j o hk hj ho;have w1:aq.wrap ((j:Int)+1)=((j+1:Nat):Int):=dX (by omega)
  have w2:aq.wrap (((j+1:Nat):Int)+1)=((j+2:Nat):Int):=by rw[wrap64 _ (by omega) (by omega)];omega
  have w4:aq.wrap (((j+1+2:Nat):Int)+1)=((j+4:Nat):Int):=by rw[wrap64 _ (by omega) (by omega)];omega
  have hf:∀x:Int,fits (o.length+[x].length)=true:=λx=>dE (by unfold lim;simp;omega)
  have an9:fits (o.length+1)=true:=dE (by unfold lim;omega)
  by_cases hl:s.length<=j
  ·have hR:gR s (k+1) j o= .inl j:=by unfold gR;rw[ab hl];rfl
   rw[hR]
   refine dt.up λn hb=> ?_
   show∃y,dK (S.step (S.tab n)) _ _ _ _ _=_/\_;rw[jo,dm (by simp;omega)]
   first|exact⟨_,rfl,rfl,rfl⟩|exact⟨_,rfl,rfl⟩
  have Iz:j<s.length:=(by omega);have rL:=db Iz
  have kI:I ((j:Int)<(s.length:Int))=true:=by simp;omega
  by_cases c10:get s j=10
  ·have hR:gR s (k+1) j o= .inl j:=by unfold gR;rw[aa hl,ab c10];rfl
   rw[hR]
   refine dt.up λn hb=> ?_
   show∃y,dK (S.step (S.tab n)) _ _ _ _ _=_/\_;rw[jo,cU kI,cU rL,dC,da (by omega),dA c10]
   first|exact⟨_,rfl,rfl,rfl⟩|exact⟨_,rfl,rfl⟩
  by_cases yr:get s j=34
  ·have hR:gR s (k+1) j o= .inr (j+1,o):=by unfold gR;rw[aa hl,aa c10,ab yr];rfl
   rw[hR]
   refine dt.up λn hb=> ?_
   show∃y,dK (S.step (S.tab n)) _ _ _ _ _=_/\_;rw[jo,cU kI,cU rL,dC,dA yr,w1]
   first|exact⟨_,rfl,rfl,rfl⟩|exact⟨_,rfl,rfl⟩
  by_cases c92:¬ (get s j=92)
  ·have hR:gR s (k+1) j o=gR s k (j+1) (o++[get s j]):=by
    conv=>lhs;unfold gR
    rw[aa hl,aa c10,aa yr,aa c92];rfl
   rw[hR]
   refine(ih (j+1) (o++[get s j]) (by omega) (by omega) (by simp;omega)).up λn h=> ?_
   show∃y,dK (S.step (S.tab n)) _ _ _ _ _=_/\_;rw[jo,cU kI,cU rL,dC,da yr,da c10,cU (by rw[aa c92];rfl),cU (hf _),w1];exact h
  replace c92:=bP.1 c92
  have start:∀n,Base2 (S.tab n)->dK (S.step (S.tab n)) s (4,(i:Int),0,0,0,([]:LI),()) t4 ↑j o=_:=λn hb=>by
   rw[jo,cU kI,cU rL,dC,da yr,da c10,dm (by rw[ab c92];rfl),w1,w2,hb.look,au]
  by_cases e110:get s (j+1)=110
  ·have nJ:=lD e110 (by decide)
   have hR:gR s (k+1) j o=gR s k (j+2) (o++[10]):=by
    conv=>lhs;unfold gR
    rw[aa hl,aa c10,aa yr,ab c92,e110];rfl
   rw[hR]
   refine((ih (j+2) (o++[10]) (by omega) (by omega) (by simp;omega)).and dt).up λn ⟨h,hb⟩=> ?_
   show∃y,dK (S.step (S.tab n)) _ _ _ _ _=_/\_;rw[start n hb,dA e110,cU an9];exact h
  by_cases e116:get s (j+1)=116
  ·have nJ:=lD e116 (by decide)
   have hR:gR s (k+1) j o=gR s k (j+2) (o++[9]):=by
    conv=>lhs;unfold gR
    rw[aa hl,aa c10,aa yr,ab c92,e116];rfl
   rw[hR]
   refine((ih (j+2) (o++[9]) (by omega) (by omega) (by simp;omega)).and dt).up λn ⟨h,hb⟩=> ?_
   show∃y,dK (S.step (S.tab n)) _ _ _ _ _=_/\_;rw[start n hb,da e110,dA e116,cU an9];exact h
  by_cases e34:get s (j+1)=34
  ·have nJ:=lD e34 (by decide)
   have hR:gR s (k+1) j o=gR s k (j+2) (o++[34]):=by
    conv=>lhs;unfold gR
    rw[aa hl,aa c10,aa yr,ab c92,e34];rfl
   rw[hR];have FM:=G2 hs (4,(i:Int),0,0,0,([]:LI),()) t4 (j+1) o (get s (j+1)) nJ (by omega)
   refine(((ih (j+2) (o++[34]) (by omega) (by omega) (by simp;omega)).and dt).and FM).up λn ⟨⟨h,hb⟩,FM⟩=> ?_
   show∃y,dK (S.step (S.tab n)) _ _ _ _ _=_/\_;rw[start n hb,da e110,da e116,dA e34];simp only;rw[ab e34,FM,e34];simp only[au,dM,aO,w2];exact h
  by_cases e92:get s (j+1)=92
  ·have nJ:=lD e92 (by decide)
   have hR:gR s (k+1) j o=gR s k (j+2) (o++[92]):=by
    conv=>lhs;unfold gR
    rw[aa hl,aa c10,aa yr,ab c92,e92];rfl
   rw[hR];have FM:=G2 hs (4,(i:Int),0,0,0,([]:LI),()) t4 (j+1) o (get s (j+1)) nJ (by omega)
   refine(((ih (j+2) (o++[92]) (by omega) (by omega) (by simp;omega)).and dt).and FM).up λn ⟨⟨h,hb⟩,FM⟩=> ?_
   show∃y,dK (S.step (S.tab n)) _ _ _ _ _=_/\_;rw[start n hb,da e110,da e116,da e34];simp only;rw[ab e92,FM,e92];simp only[au,dM,aO,w2];exact h
  by_cases e120:¬ (get s (j+1)=120)
  ·have hR:gR s (k+1) j o= .inl (j+1):=by
    unfold gR;rw[aa hl,aa c10,aa yr,ab c92,aa e110,aa e116,aa e34,aa e92,aa e120];rfl
   rw[hR];have FM:=Ki (s:=s) (4,(i:Int),0,0,0,([]:LI),()) t4 (j+1) o (get s (j+1)) e120
   refine(dt.and FM).up λn ⟨hb,FM⟩=> ?_
   show∃y,dK (S.step (S.tab n)) _ _ _ _ _=_/\_;rw[start n hb,da e110,da e116,da e34];simp only;rw[aa e92,FM]
   first|exact⟨_,rfl,rfl,rfl⟩|exact⟨_,rfl,rfl⟩
  replace e120:=bP.1 e120
  have nJ:=lD e120 (by decide)
  have hR:gR s (k+1) j o=bif !jS (get s (j+2))then .inl (j+2)else bif !jS (get s (j+3))then .inl (j+3)else gR s k (j+4) (o++[kF (get s (j+2))*16+kF (get s (j+3))]):=by
   conv=>lhs;unfold gR
   rw[aa hl,aa c10,aa yr,ab c92,e120];rfl
  rw[hR];have FM:=Pf hs (4,(i:Int),0,0,0,([]:LI),()) t4 (j+1) o (by omega) (by omega);have aW8:j+1+1=j+2:=rfl;have aZ1:j+1+2=j+3:=rfl;rw[aW8,aZ1]at FM
  have go:∀n,Base2 (S.tab n)->dK (S.step (S.tab n)) s (4,(i:Int),0,0,0,([]:LI),()) t4 ↑j o=(jf (S.tab n) s (4,(i:Int),0,0,0,([]:LI),()) t4 ((j+1:Nat):Int) o 120 ar).bind (dM (λxJ=>dK (S.tab n) xJ.1 xJ.2.1 xJ.2.2.1 (aq.wrap (xJ.2.2.2.1+(1:Int))) xJ.2.2.2.2.1) (λxJ=>J (an xJ))):=λn hb=>by
   rw[start n hb,da e110,da e116,da e34];simp;rw[aa e92,e120]
  cases x2:jS (get s (j+2))with
  |false=>
   refine(FM.and dt).up λn ⟨h,hb⟩=> ?_
   show∃y,dK (S.step (S.tab n)) _ _ _ _ _=_/\_;rw[go n hb,h,x2]
   first|exact⟨_,rfl,rfl,rfl⟩|exact⟨_,rfl,rfl⟩
  |true=>
   cases x3:jS (get s (j+3))with
   |false=>
    refine(FM.and dt).up λn ⟨h,hb⟩=> ?_
    show∃y,dK (S.step (S.tab n)) _ _ _ _ _=_/\_;rw[go n hb,h,x2,x3]
    first|exact⟨_,rfl,rfl,rfl⟩|exact⟨_,rfl,rfl⟩
   |true=>
    have au9:=Ee x3;have h2:=ih (j+4) (o++[kF (get s (j+2))*16+kF (get s (j+3))]) (by omega) (by omega) (by simp;omega)
    refine((FM.and dt).and h2).up λn ⟨⟨h,hb⟩,h2⟩=> ?_
    show∃y,dK (S.step (S.tab n)) _ _ _ _ _=_/\_;rw[go n hb,h,x2,x3];have w5:aq.wrap (((j+3:Nat):Int)+1)=((j+4:Nat):Int):=w4;simp only[ai,au,dM,aO,w5];exact h2
theorem DQ {i:Nat}(hi:i<s.length):Evt λn=>∃t' b,rD (S.tab n) s (0,(i:Int),0,0,0,([]:LI),())=J ((t',b,()),eP)/\SR k4 (Uu s i) t' b:=by
 have e1:aq.wrap ((i:Int)+1)=((i+1:Nat):Int):=dX (by omega)
 refine(I1 hs (0,0,0,0,0,([]:LI),()) i s.length (i+1) [] (by omega) (by omega) (by simp)).up λn ⟨y,h,hr⟩=> ?_
 show∃t' b,rD (S.step (S.tab n)) _ _=_/\_;rw[DR];simp only[e1];rw[h,au]
 rcases y with y|y|y
 ·exact⟨y.1,y.2.1,rfl,hr⟩
 ·exact⟨y.1,y.2.2.1,rfl,hr⟩
 grind
end Go.Abs.D
end

section
namespace Go.Abs.D
def dS:List LI:=[[46,46,46],[46,46],[46],[60,60],[60,61],[60],[62,62],[62,61],[62],[61,61],[61],[126,61],[126],[47,47],[47],[40],[41],[123],[125],[91],[93],[44],[59],[35],[43],[45],[42],[37],[38],[124]]
def opsL:List LI:=[[],[43],[45],[42],[47],[47,47],[37],[38],[124],[126],[60,60],[62,62],[46,46],[61,61],[126,61],[60],[60,61],[62],[62,61]]
def fx (k:Nat):LI:=
 bif I (10<=k)&&I (k<=31)then Lx.words.getD (k - 10) []else
 bif I (40<=k)&&I (k<=50)then Lx.pC.getD (k - 40) []else
 bif I (61<=k)&&I (k<=78)then Lx.xz.getD (k - 61) []else
 bif I (k=5)then [59]else []
def okF (f:LI):Bool:= !I (f=[])&& !iI (f.getD 0 0)
def runK (p:LI->Bool):Nat->Nat×Nat->Nat×Nat
 |0,st=>st
 |k+1,st=>runK p k (bif okF (fx (k+1))&&p (fx (k+1))&&I (st.2<(fx (k+1)).length)then(k+1,(fx (k+1)).length)else st)
def sq (l:List LI)(f:LI)(k:Nat):Bool:=I (k<l.length)&& !I (l.getD k []=f)
def sgn (f:LI):Nat:=
 bif I (stop (sq opsL f) 19 1<19)then 60+stop (sq opsL f) 19 1 else
 bif I (stop (sq Lx.pC f) 11 0<11)then 40+stop (sq Lx.pC f) 11 0 else 5
def pq (p:LI->Bool)(k:Nat):Bool:=I (k<30)&& !p (dS.getD k [])
def nH (p:LI->Bool):Nat:=stop (pq p) 30 0
def mU (p:LI->Bool):Nat×Nat:=bif I (nH p<30)then(sgn (dS.getD (nH p) []),(dS.getD (nH p) []).length)else(0,0)
def LH (a b c:Int):LI->Bool
 |[x]=>I (a=x)
 |[x,y]=>I (a=x)&&I (b=y)
 |[x,y,z]=>I (a=x)&&I (b=y)&&I (c=z)
 |_=>ar
def rep (l:LI)(a:Int):Int:=bif l.contains a then a else 0
def lA:LI:=[46,60,62,61,126,47,40,41,123,125,91,93,44,59,35,43,45,42,37,38,124]
def lB:LI:=[46,60,61,62,47]
def lC:LI:=[46]
theorem Wp (l:LI)(a:Int):rep l a∈0::l:=by
 grind [rep,aD,aF]
theorem PH (l:LI)(a x:Int)(hx:l.contains x=av)(h0:x≠0):I (rep l a=x)=I (a=x):=by
 unfold rep
 grind
theorem BE {p q:LI->Bool}:∀(k:Nat) (st:Nat×Nat),(∀j,j<=k->okF (fx j)=av->p (fx j)=q (fx j))->runK p k st=runK q k st
 |0,st,_=>rfl
 |k+1,st,h=>by
  unfold runK
  have:(okF (fx (k+1))&&p (fx (k+1)))=(okF (fx (k+1))&&q (fx (k+1))):=by
   grind
  rw[this]
  exact BE k _ λj hj=>h j (by omega)
theorem OJ {p q:Nat->Bool}(h:∀j,p j=q j)(k j:Nat):stop p k j=stop q k j:=by
 have:p=q:=funext h
 grind
theorem xh {p q:LI->Bool}(h:∀f∈dS,p f=q f):mU p=mU q:=by
 have e:∀j,pq p j=pq q j:=λj=>by
  unfold pq
  by_cases hj:j<30
  ·rw[h];rw[aG,aJ (show j<dS.length from hj)];simp
  grind
 grind [nH,OJ,mU]
theorem XZ:∀j,j<=78->okF (fx j)=av->fx j∈dS:=by
 have h:∀j:Fin 79,okF (fx j)=av->fx j∈dS:=by decide+kernel
 exact λj hj=>h ⟨j,by omega⟩
theorem NK (a b c:Int):∀f∈dS,LH a b c f=LH (rep lA a) (rep lB b) (rep lC c) f:=by
 intro f hf;simp[dS]at hf
 rcases hf with rfl|rfl|rfl|rfl|rfl|rfl|rfl|rfl|rfl|rfl|rfl|rfl|rfl|rfl|rfl|rfl|rfl|rfl|rfl|rfl|rfl|rfl|rfl|rfl|rfl|rfl|rfl|rfl|rfl|rfl<;>
  simp only[LH]<;>(first|rw[PH lA a _ (by rfl) (by decide)]|skip)<;>(first|rw[PH lB b _ (by rfl) (by decide)]|skip)<;>(first|rw[PH lC c _ (by rfl) (by decide)]|skip)
theorem R9 (a b c:Int):runK (LH a b c) 78 (0,0)=mU (LH a b c):=by
 have h:∀x∈(0::lA),∀y∈(0::lB),∀z∈(0::lC),runK (LH x y z) 78 (0,0)=mU (LH x y z):=by decide+kernel
 rw[BE (q:=LH (rep lA a) (rep lB b) (rep lC c)) 78 (0,0) λj hj ho=>NK a b c _ (XZ j hj ho),xh (NK a b c)]
 grind [Wp]
end Go.Abs.D
end

section
namespace Go.Abs.D
def pS (s:LI)(i:Nat)(f:LI):Bool:=I (f.length<=s.length - i)&&I (eR s i (i+f.length)=f)
def p3 (s:LI)(i:Nat):LI->Bool:=LH (get s i) (get s (i+1)) (get s (i+2))
theorem JZ:Evt λn=>∀v lo hi,nX (S.tab n) v lo hi=J (I (lo<=v)&&I (v<=hi),dU):=dt.up λn _ v lo hi=>by
 rw[Pd]
 cases h:I (lo<=v)with
 |true=>rw[cU rfl];rfl
 |false=>rw[dm rfl];rfl
theorem Tj:Evt λn=>∀k:Nat,k<=78->BF (S.tab n) (k:Int)=J (fx k,cO):=JZ.up λn h k hk=>by
 rw[IS,h,au];unfold fx
 by_cases h1:10<=k/\k<=31
 ·have e:aq.wrap ((k:Int) - 10)=((k - 10:Nat):Int):=by rw[wrap64 _ (by omega) (by omega)];omega
  rw[cU (by simp;omega),e,cU (db (show k - 10<Lx.words.length by show k - 10<22;omega)),ab h1.1,ab h1.2];rfl
 rw[dm (by simp;omega),h,au];rw[show(I (10<=k)&&I (k<=31))=ar by simp;omega]
 by_cases h2:40<=k/\k<=50
 ·have e:aq.wrap ((k:Int) - 40)=((k - 40:Nat):Int):=by rw[wrap64 _ (by omega) (by omega)];omega
  rw[cU (by simp;omega),e,cU (db (show k - 40<Lx.pC.length by show k - 40<11;omega)),ab h2.1,ab h2.2];rfl
 rw[dm (by simp;omega),h,au];rw[show(I (40<=k)&&I (k<=50))=ar by simp;omega]
 by_cases h3:61<=k/\k<=78
 ·have e:aq.wrap ((k:Int) - 60)=((k - 60:Nat):Int):=by rw[wrap64 _ (by omega) (by omega)];omega
  have e':aq.wrap (((k - 60:Nat):Int) - 1)=((k - 61:Nat):Int):=by rw[wrap64 _ (by omega) (by omega)];omega
  rw[cU (by simp;omega),e,e',cU (db (show k - 61<Lx.xz.length by show k - 61<18;omega)),ab h3.1,ab h3.2];rfl
 rw[dm (by simp;omega)];rw[show(I (61<=k)&&I (k<=78))=ar by simp;omega]
 by_cases h5:k=5
 ·subst h5;rw[cU (by rfl)];rfl
 ·rw[dm (by simp;omega),aa h5];rfl
theorem ae4 (f:LI):∀j:Nat,1<=j->j<=19->Evt λn=>ir (S.tab n) f opsL (j:Int)=J (bif I (stop (sq opsL f) 19 j<19)then an (((60+stop (sq opsL f) 19 j:Nat):Int),())else aE (an (f,()))):=λj h1 hj=>
 adv (F:=λT (j:Nat)=>ir T f opsL ↑j) (out:=λj=>bif I (j<19)then an (((60+j:Nat):Int),())else aE (an (f,()))) (N:=19) dt (λj h=>by simp[sq,opsL];omega)
  (λT j _ hq=>by
   simp[sq]at hq;have ak4:j<19:=hq.1;show ir (S.step T) f opsL j=ir T f opsL ((j+1:Nat):Int)
   rw[vg,cU (by simp_all),cU (db hq.1),da (show¬ List.getD _ (j:Int).toNat []=f from hq.2),dX (by omega)])
  (λT j _ hq=>by
   simp only[sq,cI,af,cM,ae]at hq;show ir (S.step T) f opsL j=_;rw[vg]
   by_cases hj:j<opsL.length
   ·have ak4:j<19:=hj
    have he:opsL.getD (j:Int).toNat []=f:=by
     simp_all
    rw[cU (by simp_all),cU (db hj),dA he,wrap64 _ (by omega) (by omega),ab ak4];rfl
   ·have ak4:¬ j<19:=hj
    simp_all[dm,aa]) 19 j (by omega)
theorem ag6 (f:LI):Evt λn=>jh (S.tab n) f Lx.pC 11 0=J (bif I (stop (sq Lx.pC f) 11 0<11)then an (((40+stop (sq Lx.pC f) 11 0:Nat):Int),())else aE (an ())):=
 adv (F:=λT (j:Nat)=>jh T f Lx.pC 11 ↑j) (out:=λj=>bif I (j<11)then an (((40+j:Nat):Int),())else aE (an ())) (N:=11) dt (λj h=>by simp[sq,Lx.pC];omega)
  (λT j _ hq=>by
   simp[sq]at hq;have yp:j<11:=hq.1;show jh (S.step T) f Lx.pC 11 j=jh T f Lx.pC 11 ((j+1:Nat):Int)
   rw[vu,cU (by grind),cU (db hq.1),da (show¬ List.getD _ (j:Int).toNat []=f from hq.2),dX (by omega)])
  (λT j _ hq=>by
   simp only[sq,cI,af,cM,ae]at hq;show jh (S.step T) f Lx.pC 11 j=_;rw[vu]
   by_cases hj:j<Lx.pC.length
   ·have yp:j<11:=hj
    have he:Lx.pC.getD (j:Int).toNat []=f:=by
     simp_all
    rw[cU (by grind),cU (db hj),dA he,wrap64 _ (by omega) (by omega),ab yp];rfl
   ·have yp:¬ j<11:=hj
    grind [dm,aa]) 11 0 (by omega)
theorem sign_one (f:LI):Evt λn=>lY (S.tab n) f=J ((sgn f:Int),cO):=by
 refine((ae4 f 1 (by omega) (by omega)).and (ag6 f)).up λn ⟨h3,h9⟩=> ?_
 rw[Gp];have h3:ir (S.tab n) f opsL 1=_:=h3;show(ir (S.tab n) f opsL 1).bind _=_;rw[h3,au];unfold sgn
 cases I (stop (sq opsL f) 19 1<19)with
 |true=>rfl
 |false=>
  show(jh (S.tab n) f Lx.pC 11 0).bind _=_;rw[h9,au]
  cases I (stop (sq Lx.pC f) 11 0<11)with
  |true=>rfl
  |false=>rfl
theorem F7 {α:Type}{P:α->Nat->Prop}:∀(l:List α),(∀a,Evt λn=>P a n)->Evt λn=>∀a∈l,P a n
 |[],_=>Evt.of λ_ a h=>by cases h
 |x::l,h=>((h x).and (F7 l h)).mono λn ⟨h1,h2⟩ a ha=>by
  grind
theorem FV (f:LI):sgn f≠0:=by
 unfold sgn
 grind
theorem NL:Evt λn=>oS (S.tab n)=J (dS,qp):=dt.up λn _=>by
 rw[Fi];rfl
variable{s:LI}(hs:s.length<=2097152)
include hs
omit hs in
theorem sub_one {i:Nat}(h:i+1<=s.length):eR s i (i+1)=[get s i]:=by grind [oW,oE]
omit hs in
theorem Sb {i:Nat}(h:i+3<=s.length):eR s i (i+3)=[get s i,get s (i+1),get s (i+2)]:=by
 rw[show i+3=i+2+1 from rfl,oW (by omega) (by omega),HG (s:=s) (by omega)];rfl
omit hs in
theorem UJ {i:Nat}(hi:i<s.length):∀f∈dS,pS s i f=p3 s i f:=by
 have h1:∀x:Int,x≠0->pS s i [x]=I (get s i=x):=λx h0=>by
  unfold pS;rw[show([x]:LI).length=1 from rfl,sub_one (s:=s) (by omega),ab (by omega),ct];simp
 have h2:∀x y:Int,x≠0->y≠0->pS s i [x,y]=(I (get s i=x)&&I (get s (i+1)=y)):=λx y h0 YC=>by
  unfold pS;rw[show([x,y]:LI).length=2 from rfl]
  by_cases h:2<=s.length - i
  ·rw[HG (s:=s) (by omega),ab h,ct];simp
  ·rw[aa h,ke (show s.length<=i+1 by omega),show I ((0:Int)=y)=ar from aa (λe=>YC e.symm),aQ];rfl
 have h3:∀x y z:Int,x≠0->y≠0->z≠0->pS s i [x,y,z]=(I (get s i=x)&&I (get s (i+1)=y)&&I (get s (i+2)=z)):=λx y z h0 YC aJ5=>by
  unfold pS;rw[show([x,y,z]:LI).length=3 from rfl]
  by_cases h:3<=s.length - i
  ·rw[Sb (s:=s) (by omega),ab h,ct]
   grind
  ·rw[aa h,ke (show s.length<=i+2 by omega),show I ((0:Int)=z)=ar from aa (λe=>aJ5 e.symm),aQ];rfl
 intro f hf;simp[dS]at hf
 rcases hf with rfl|rfl|rfl|rfl|rfl|rfl|rfl|rfl|rfl|rfl|rfl|rfl|rfl|rfl|rfl|rfl|rfl|rfl|rfl|rfl|rfl|rfl|rfl|rfl|rfl|rfl|rfl|rfl|rfl|rfl<;>
  first
  |exact h1 _ (by decide)
  |exact h2 _ _ (by decide) (by decide)
  |exact h3 _ _ _ (by decide) (by decide) (by decide)
def Zx (i:Nat)(st:Nat×Nat):cZ.den:=((st.1:Int),(i:Int),((bif I (st.1=0)then 0 else i+st.2:Nat):Int),0,0,([]:LI),())
def A7 (i:Nat)(st:Nat×Nat):Nat⊕cZ.den:=bif I (st.1=0)then .inl i else .inr ((st.1:Int),(i:Int),((i+st.2:Nat):Int),0,0,([]:LI),())
omit hs in
theorem Se (hs:s.length<=2097152){i:Nat}(hi:i<s.length):Evt λn=>∀f:LI,qk (S.tab n) (sub s ↑i (s.length:Int)) f=J (pS s i f,cQ):=by
 have e:sub s ↑i (s.length:Int)=s.drop i:=by
  simp_all[rI,eR,ck]
 have h1:Evt λn=>∀f:LI,my (S.tab n) (s.drop i) f=J (pS s i f,cQ):=dt.up λn _ f=>by
  rw[tH];unfold pS
  by_cases h:f.length<=s.length - i
  ·have e2:sub (s.drop i) (0:Int) (f.length:Int)=eR s i (i+f.length):=by
    show((s.drop i).take f.length).drop 0=_
    grind [eR,List.take_drop]
   rw[cU (by simp_all),cU (show bounds (s.drop i).length (0:Int) (f.length:Int)=av from fS (i:=0) (by omega) (by simp_all)),e2,ab h,ct]
  simp_all[dm,aa]
 exact h1.up λn h f=>by
  grind [yv]
theorem UG {i:Nat}(hi:i<s.length):∀(k:Nat) (st:Nat×Nat),k<=78->Evt λn=>kC (S.tab n) s ↑i (Zx i st) (st.2:Int) (k:Int)=J (an ((i:Int),Zx i (runK (pS s i) k st),()))
 |0,st,_=>dt.up λn _=>by
  rw[xU,dm (by decide)];rfl
 |k+1,st,hk=>by
  have ih:=λst=>UG hi k st (by omega)
  refine((((ih st).and (ih (k+1,(fx (k+1)).length))).and Tj).and ((Se hs hi).and dt)).up λn ⟨⟨⟨ad4,ac5⟩,hf⟩,hp,hb⟩=> ?_
  have w:aq.wrap (((k+1:Nat):Int) - 1)=(k:Int):=by grind [wrap64]
  rw[xU,cU (by simp),hf (k+1) (by omega),au,w];unfold runK;unfold okF
  by_cases yu:fx (k+1)=[]
  ·simp_all[dm,ab]
  rw[cU (by simp_all),aa yu];have hlen:0<(fx (k+1)).length:=cp.2 yu;rw[cU (by simp_all),hb.iletter,au]
  cases kI:iI ((fx (k+1)).getD 0 0)with
  |true=>
   simp_all[dm]
  |false=>
   rw[cU (by rfl),cU (fS (by omega) (aC _)),hp,au]
   cases aC7:pS s i (fx (k+1))with
   |false=>
    simp_all[dm]
   |true=>
    rw[cU (by rfl)]
    have hle:(fx (k+1)).length<=s.length - i:=by
     unfold pS at aC7;simp at aC7;exact aC7.1
    by_cases Cb:st.2<(fx (k+1)).length
    ·have w2:aq.wrap ((i:Int)+((fx (k+1)).length:Int))=((i+(fx (k+1)).length:Nat):Int):=by rw[wrap64 _ (by omega) (by omega)];omega
     simp[w2];rw[cU (by simp;omega),ab Cb];exact ac5
    ·rw[dm (by simp;omega),aa Cb];exact ad4
theorem YO {i:Nat}(hi:i<s.length)(t4:cZ.den):Evt λn=>gM (S.tab n) s ↑i t4 (0,(i:Int),0,0,0,([]:LI),()) dS 30 0=
  J (bif I (nH (pS s i)<30)then an (((sgn (dS.getD (nH (pS s i)) []):Int),(i:Int),((i+(dS.getD (nH (pS s i)) []).length:Nat):Int),0,0,([]:LI),()), -1,())else aE (an ((i:Int),t4,(0,(i:Int),0,0,0,([]:LI),()),()))):=by
 have hp:Evt λn=>∀f∈dS,lY (S.tab n) f=J ((sgn f:Int),cO):=F7 dS sign_one
 have hlen:∀k,k<30->(dS.getD k []).length<=3:=by
  have h:∀k:Fin 30,(dS.getD k.1 []).length<=3:=(by decide)
  exact λk hk=>h ⟨k,hk⟩
 refine adv (F:=λT (j:Nat)=>gM T s ↑i t4 (0,(i:Int),0,0,0,([]:LI),()) dS 30 ↑j) (q:=pq (pS s i)) (N:=30) (p:=λT=>∀f∈dS,lY T f=J ((sgn f:Int),cO))
  (out:=λk=>bif I (k<30)then an (((sgn (dS.getD k []):Int),(i:Int),((i+(dS.getD k []).length:Nat):Int),0,0,([]:LI),()), -1,())else aE (an ((i:Int),t4,(0,(i:Int),0,0,0,([]:LI),()),())))
  hp (λj h=>by simp_all[pq,aa]) ?_ ?_ 30 0 (by omega)
 ·intro T j _ hq;unfold pq pS at hq;simp only[aA,ae,cq,cI,af]at hq;have Dq:=hq.1;have au9:=hlen j Dq;have hj:j<dS.length:=Dq;show gM (S.step T) s i t4 _ dS 30 j=gM T s i t4 _ dS 30 ((j+1:Nat):Int);rw[tP,cU (by grind),cU (db hj),dX (by omega),wrap64 ((s.length:Int) - (i:Int)) (by omega) (by omega)];show brk (I (((dS.getD j []).length:Int)<=_)) _ _=_
  by_cases hle:(dS.getD j []).length<=s.length - i
  ·have w:aq.wrap ((i:Int)+((dS.getD j []).length:Int))=((i+(dS.getD j []).length:Nat):Int):=by grind [wrap64]
   have yu:¬ eR s i (i+(dS.getD j []).length)=dS.getD j []:=by
    grind
   rw[cU (by grind)];show brk (bounds s.length i (aq.wrap ((i:Int)+((dS.getD j []).length:Int)))) (brk (I (sub s i (aq.wrap ((i:Int)+((dS.getD j []).length:Int)))=dS.getD j [])) _ _) _=_;rw[w,cU (fS (by omega) (by omega)),rI,da yu]
  grind [dm,af]
 ·intro T j au1 hq;show gM (S.step T) s i t4 _ dS 30 j=_;rw[tP]
  by_cases Dq:j<30
  ·have hj:j<dS.length:=Dq;unfold pq at hq;rw[ab Dq,ct,cM]at hq;unfold pS at hq;simp only[aA,ae]at hq
   have hm:dS.getD j []∈dS:=by
    rw[aG,aJ hj];exact bm _
   have w:aq.wrap ((i:Int)+((dS.getD j []).length:Int))=((i+(dS.getD j []).length:Nat):Int):=by rw[wrap64 _ (by omega) (by omega)];omega
   rw[cU (by simp;omega),cU (db hj),wrap64 ((s.length:Int) - (i:Int)) (by omega) (by omega)];show brk (I (((dS.getD j []).length:Int)<=_)) (brk (bounds s.length i (aq.wrap ((i:Int)+((dS.getD j []).length:Int)))) (brk (I (sub s i (aq.wrap ((i:Int)+((dS.getD j []).length:Int)))=dS.getD j [])) ((lY T (dS.getD j [])).bind λd68=>J (an ((d68.1,_,aq.wrap ((i:Int)+((dS.getD j []).length:Int)),_),_,()))) _) _) _=_;rw[cU (by simp only[ae];omega),w,cU (fS (by omega) (by omega)),rI,cU (ab hq.2),au1 _ hm,au,ab Dq];rfl
  grind [dm,aa]
def nZ (s:LI)(i:Nat):Nat⊕cZ.den:=
 bif iI (get s i)then .inr (I7 s i)else bif dJ (get s i)then mJ s i else bif I (get s i=34)then Uu s i else A7 i (mU (p3 s i))
theorem Mb (Iq:∀c∈s,isByte c){i:Nat}(hi:i<s.length):Evt λn=>∃t' b,nr (S.tab n) s (i:Int)=J ((t',b,()),cQ)/\IR (kB (get s i)) (nZ s i) t' b:=by
 unfold nZ
 cases hl:iI (get s i)with
 |true=>
  exact(IM hs hi hl).mono λn h=>⟨_,_,h,rfl,rfl⟩
 |false=>
  have start:∀n,Base2 (S.tab n)->nr (S.step (S.tab n)) s (i:Int)=_:=λn hb=>by
   rw[EY,cU (db hi),dC,hb.iletter,hl,au,dm (by rfl),hb.idigit,au]
  cases hd:dJ (get s i)with
  |true=>
   refine((GL hs hi hd).and dt).up λn ⟨⟨t',b,h,hr⟩,hb⟩=>⟨t',b, ?_,hr.to λk=>by simp_all[kB]⟩
   simp_all[start,cU]
  |false=>
   by_cases yr:get s i=34
   ·have w1:aq.wrap ((i:Int)+1)=((i+1:Nat):Int):=dX (by omega);rw[ab yr]
    refine((I3 hs Iq i s.length (i+1) [] (by omega) (by omega) (by simp)).and dt).up λn ⟨⟨t',b,h,hr⟩,hb⟩=>⟨t',b, ?_,hr.to λk=>by simp_all[kB,ab]⟩
    rw[start n hb,hd,dm (by rfl),dA yr,w1,h];rfl
   ·rw[aa yr]
    show Evt λn=>∃t' b,_/\IR (kB (get s i)) (A7 i (mU (p3 s i))) t' b
    have Z3:runK (pS s i) 78 (0,0)=mU (p3 s i):=by
     rw[BE (q:=p3 s i) 78 (0,0) λj hj ho=>UJ (s:=s) hi _ (XZ j hj ho)];exact R9 _ _ _
    refine((UG hs hi 78 (0,0) (aC _)).and dt).up λn ⟨h,hb⟩=> ?_
    show∃t' b,nr (S.step (S.tab n)) _ _=_/\_;have h:kC (S.tab n) s ↑i (0,(i:Int),0,0,0,([]:LI),()) 0 78=_:=h;rw[start n hb,hd,dm (by rfl),da yr,h,Z3,au]
    generalize mU (p3 s i)=st
    obtain⟨a,b⟩:=st;unfold A7 Zx;simp only[dB,aO]
    by_cases h0:a=0
    ·have d:I ((a:Int)=0)=true:=ab (by omega);rw[cU d,ab h0];exact⟨_,_,rfl,rfl,rfl,by unfold kB;rw[hd,aa yr];exact d⟩
    ·have d:I ((a:Int)=0)=false:=aa (by omega);rw[dm d,aa h0];exact⟨_,_,rfl,rfl,rfl⟩
theorem xk {i:Nat}(hi:i<s.length)(AH:get s i≠10):Evt λn=>∃t' b,iS (S.tab n) s (i:Int)=J ((t',b,()),cQ)/\SR (kB (get s i)) (nZ s i) t' b:=by
 unfold nZ
 have start:∀n,Base2 (S.tab n)->iS (S.step (S.tab n)) s (i:Int)=_:=λn hb=>by
  rw[yX,cU (db hi),dC,da AH,hb.sletter,au]
 cases hl:iI (get s i)with
 |true=>
  refine((Gs hs hi _ rfl).and dt).up λn ⟨h,hb⟩=> ?_
  show∃t' b,iS (S.step (S.tab n)) _ _=_/\_;rw[start n hb,hl,cU (by rfl),h];exact⟨_,_,rfl,rfl,rfl⟩
 |false=>
  cases hd:dJ (get s i)with
  |true=>
   refine((DW hs hi hd).and dt).up λn ⟨⟨t',b,h,hr⟩,hb⟩=>⟨t',b, ?_,hr.to λk=>by simp_all[kB]⟩
   rw[start n hb,hl,dm (by rfl),hb.sdigit,au,hd,cU (by rfl),h];rfl
  |false=>
   by_cases yr:get s i=34
   ·rw[ab yr]
    refine((DQ hs hi).and dt).up λn ⟨⟨t',b,h,hr⟩,hb⟩=>⟨t',b, ?_,hr.to λk=>by simp_all[kB,ab]⟩
    rw[start n hb,hl,dm (by rfl),hb.sdigit,au,hd,dm (by rfl),dA yr,h];rfl
   ·rw[aa yr]
    show Evt λn=>∃t' b,_/\SR (kB (get s i)) (A7 i (mU (p3 s i))) t' b
    have Z3:mU (pS s i)=mU (p3 s i):=xh (UJ (s:=s) hi)
    refine((YO hs hi (0,0,0,0,0,([]:LI),())).and (NL.and dt)).up λn ⟨h,aT1,hb⟩=> ?_
    show∃t' b,iS (S.step (S.tab n)) _ _=_/\_;rw[start n hb,hl,dm (by rfl),hb.sdigit,au,hd,dm (by rfl),da yr,aT1,au];show∃t' b,(gM (S.tab n) s ↑i _ _ dS 30 0).bind _=_/\_;rw[h,au,<-Z3];unfold A7 mU
    cases I (nH (pS s i)<30)with
    |true=>
     simp only[ai];rw[aa (FV _)];exact⟨_,_,rfl,rfl,rfl⟩
    |false=>exact⟨_,_,rfl,rfl,by unfold kB;rw[hd,aa yr];rfl⟩
theorem GN {i:Nat}(hi:i<s.length)(AH:get s i=10):Evt λn=>iS (S.tab n) s (i:Int)=J (((7,(i:Int),((i+1:Nat):Int),0,0,([]:LI),()), -1,()),cQ):=dt.up λn hb=>by
 have w1:aq.wrap ((i:Int)+1)=((i+1:Nat):Int):=dX (by omega)
 grind [yX,cU,db,dC,ab]
end Go.Abs.D
end

section
namespace Go.Abs.D
def Adv (s:LI)(i:Nat)(t:cZ.den):Prop:=(∃e:Nat,t.2.2.1=(e:Int)/\i<e/\e<=s.length)/\t.1≠7
theorem Hr {s:LI}{i j:Nat}(f:Bool)(h1:i<j)(h2:j<=s.length):Adv s i (kU s i j f):=by
 unfold kU
 cases f|| !I (dv 0 (eR s i j)<9223372036854775808)with
 |true=>exact⟨⟨j,rfl,h1,h2⟩,show(3:Int)≠7 by decide⟩
 |false=>exact⟨⟨j,rfl,h1,h2⟩,show(2:Int)≠7 by decide⟩
theorem MQ {s:LI}{i j:Nat}(f:Bool)(h1:i<j)(h2:j<=s.length){t:cZ.den}(h:vY s i j f= .inr t):Adv s i t:=by
 unfold vY at h
 cases h5:I (get s j=101)with
 |true=>
  cases hd:dJ (get s (oZ s j))with
  |true=>
   have hl:=sd hd
   grind [rH,oZ,Hr,rK]
  |false=>simp_all
 |false=>
  grind [Hr]
theorem MN {s:LI}{i j:Nat}(h1:i<j)(h2:j<=s.length){t:cZ.den}(h:v8 s i j= .inr t):Adv s i t:=by
 unfold v8 at h
 cases h5:I (get s j=46)&&dJ (get s (j+1))with
 |true=>
  rw[h5]at h;rw[aA]at h5;have hl:=sd h5.2;have:=rH s (j+1);exact MQ _ (by omega) (rK (by omega)) h
 |false=>
  grind [MQ]
theorem Pb {s:LI}{i:Nat}(hi:i+2<=s.length){t:cZ.den}(h:lf s i= .inr t):Adv s i t:=by
 have h1:nI s (i+18) (i+2)<=s.length:=xE Ib _ _ hi;have h2:i+2<=nI s (i+18) (i+2):=tj _ _;unfold lf at h
 by_cases he:nI s (i+18) (i+2)=i+2
 ·simp_all
 ·simp[he]at h
  cases hx:jS (get s (nI s (i+18) (i+2)))with
  |true=>simp_all
  |false=>
   simp only[hx,bZ,if_false]at h
   injection h with h
   subst h;exact⟨⟨_,rfl,by omega,h1⟩,show(2:Int)≠7 by decide⟩
theorem C0 {s:LI}:∀(k j:Nat) (o:LI) (e:Nat) (r:LI),gR s k j o= .inr (e,r)->j<e/\e<=s.length
 |0,j,o,e,r,h=>by cases h
 |k+1,j,o,e,r,h=>by
  have ad4:=C0 (s:=s) k (j+1);have ac5:=C0 (s:=s) k (j+2);have ih4:=C0 (s:=s) k (j+4);unfold gR at h
  by_cases hl:s.length<=j
  ·simp_all
  cases h1:I (get s j=10)with
  |true=>simp_all
  |false=>
  cases h1:I (get s j=34)with
  |true=>grind
  |false=>
  grind
theorem ay8 (f:LI):sgn f≠7:=by
 unfold sgn
 grind
theorem Sf {s:LI}(hs:s.length<=2097152){i:Nat}(hi:i<s.length){t:cZ.den}(h:nZ s i= .inr t):Adv s i t:=by
 unfold nZ at h
 cases hl:iI (get s i)with
 |true=>
  rw[hl]at h
  injection h with h
  subst h;have hle:w8 s i<=s.length:=xE zw _ _ (by omega)
  have aM5:i<w8 s i:=by
   have hq:wq s i=true:=by simp_all[wq]
   have e:=Jt (q:=wq s) (N:=s.length) zw (k:=s.length) (j:=i) (by omega) hq
   grind [tj,wq,w8]
  unfold I7;simp;split
  ·exact⟨⟨_,rfl,aM5,hle⟩,by grind⟩
  ·exact⟨⟨_,rfl,aM5,hle⟩,show(1:Int)≠7 by decide⟩
 |false=>
  rw[hl]at h
  cases hd:dJ (get s i)with
  |true=>
   rw[hd]at h;unfold mJ at h
   cases h0:I (get s i=48)with
   |true=>
    cases hx:I (get s (i+1)=120)with
    |true=>
     have:=lD (of_decide_eq_true hx) (by decide)
     grind [Pb]
    |false=>
     rw[h0,hx]at h;exact MN (j:=i+1) (by omega) (by omega) h
   |false=>
    grind [rH,MN,qG,rK]
  |false=>
   rw[hd]at h
   cases Dm:I (get s i=34)with
   |true=>
    rw[Dm]at h;have h:LD i (gR s s.length (i+1) [])= .inr t:=h
    cases hr:gR s s.length (i+1) []with
    |inl e=>rw[hr]at h;cases h
    |inr y=>
     rw[hr]at h;obtain⟨e,r⟩:=y;have:=C0 _ _ _ _ _ hr
     injection h with h
     subst h;exact⟨⟨e,rfl,by omega,by omega⟩,show(4:Int)≠7 by decide⟩
   |false=>
    rw[Dm]at h;rw[<-xh (UJ (s:=s) hi)]at h;unfold A7 mU at h
    cases hk:I (nH (pS s i)<30)with
    |false=>simp_all
    |true=>
     rw[hk]at h;simp only[ai]at h;rw[aa (FV _)]at h
     injection h with h
     subst h;have hq:pq (pS s i) (nH (pS s i))=false:=zn (N:=30) (λj h=>by simp_all[pq,aa]) 30 0 (by omega);unfold pq at hq;rw[hk,ct,cM]at hq;have hq:(I ((dS.getD (nH (pS s i)) []).length<=s.length - i)&&I (eR s i (i+(dS.getD (nH (pS s i)) []).length)=dS.getD (nH (pS s i)) []))=true:=hq;rw[aA,ae]at hq
     have tu:0<(dS.getD (nH (pS s i)) []).length:=by
      have h:∀k:Fin 30,0<(dS.getD k.1 []).length:=(by decide);exact h ⟨_,of_decide_eq_true hk⟩
     exact⟨⟨_,rfl,by omega,by omega⟩,by
      grind [ay8,nH,pS,sgn]⟩
end Go.Abs.D
end

section

end

section
namespace Go.Abs.D
def A8 (k:Int):Bool:=I (k=25)||(I (k=50)||(I (k=62)||decide (k=69)))
def pD (k:Int):Bool:=(I (k=1)||decide (k=40)||decide (k=2)||decide (k=3)||decide (k=4)||decide (k=24)||decide (k=29)||decide (k=17)||decide (k=49)||decide (k=18)||decide (k=42))||A8 k
def Xe (t a c:Int):LI:=
 bif I (t=48)then [t,1,a]else bif I (t=44)then [t,119,45,a]else bif I (t=40)then [t,123,41,c]else []
def XW (t:Int):LI×Bool:=
 bif I (t=22)then([t,1,104,103],av)else
 bif I (t=13)then([t,1,47,119],av)else
 bif I (t=18)then([t,1,133],av)else
 bif I (t=20)then([t,119,132,105],av)else
 bif I (t=31)then([t,119,132],av)else
 bif I (t=19)then([t,1,106],av)else
 bif I (t=11)||decide (t=23)then([t],av)else
 bif I (t=27)then([t,108],av)else
 bif I (t=30)then([t,132,12,1,109,132],av)else
 bif I (t=28)then([t,119],av)else
 bif I (t=14)then([t,116],av)else
 bif I (t=42)then([132],av)else
 bif I (t=1)then([t,110],av)else
 bif I (t=40)then([t,119,41,112],av)else([],ar)
def exp2 (s t:Int):LI×Bool:=
 let row:=bif I (s=110)||decide (s=111)||decide (s=112)then Xe t 110 111 else bif I (s=114)||decide (s=115)then Xe t 114 115 else bif I (s=117)||decide (s=118)then Xe t 117 118 else []
 bif !row.isEmpty then(row,av)else
 bif I (s=111)||decide (s=118)then([],av)else
 bif(I (s=110)||decide (s=114))&&I (t=46)then([t,113],av)else
 bif(I (s=110)||decide (s=114))&&I (t=47)then([t,124],av)else
 bif(I (s=113)||decide (s=116))&&I (t=1)then([t,bif I (s=116)then 117 else 114],av)else
 bif(I (s=113)||decide (s=116))&&I (t=40)then([t,119,41,bif I (s=116)then 117 else 115],av)else([],ar)
def ag8 (t:Int):LI×Bool:=
 bif A8 t then([t,120],av)else bif I (t=1)then([t,122],av)else bif I (t=40)then([t,119,41,122],av)else bif I (t=42)then([t,129,43],av)else bif I (t=18)then([t,133],av)else([t],pD t)
def Ip (t:Int):Bool:=I (t=10)||(I (t=26)||decide (60<t))
def az3 (s t:Int):LI×Bool:=
 bif I (s=119)then([120,121],pD t)else
 bif I (s=120)then ag8 t else
 bif I (s=121)then(bif Ip t then([t,119],av)else([],av))else
 bif I (s=122)then(Xe t 122 122,av)else
 bif I (s=123)then(bif pD t then([124],av)else([],av))else
 bif I (s=124)then([119,125],pD t)else
 bif I (s=125)then(bif I (t=46)then([t,119,125],av)else([],av))else
 bif I (s=126)||decide (s=128)then(bif I (t=1)then([t,127],av)else bif I (t=49)then([t],av)else([],I (s=126)))else
 bif I (s=127)then(bif I (t=46)then([t,128],av)else([],av))else
 bif I (s=129)then(bif pD t||(I (t=48)||decide (t=44))then([131,130],av)else([],av))else
 bif I (s=130)then(bif I (t=46)then([t,129],av)else([],av))else
 bif I (s=131)then(bif I (t=48)then([t,1,47,119],av)else bif I (t=44)then([t,119,45,47,119],av)else([119],pD t))else
 bif I (s=132)then([42,100,43],I (t=42))else([40,126,41,132],I (t=40))
def qH (s t:Int):LI×Bool:=
 bif I (s=100)then(bif I (t=5)then([t,100],av)else bif(XW t).2 then((XW t).1++[101],av)else([],av))else
 bif I (s=101)then(bif I (t=5)then([t,100],av)else([],av))else
 bif I (s=103)then(bif I (t=47)then([t,124],av)else([],av))else
 bif I (s=104)then(bif I (t=46)then([t,1,104],av)else([],av))else
 bif I (s=105)then(bif I (t=15)then([t,119,132,105],av)else bif I (t=16)then([t,132],av)else([],av))else
 bif I (s=106)then(bif I (t=47)then([t,119,46,119,107,132],av)else([104,21,119,132],I (t=46)||decide (t=21)))else
 bif I (s=107)then(bif I (t=46)then([t,119],av)else([],av))else
 bif I (s=108)then(bif pD t then([124],av)else([],av))else
 bif I (s=109)then(bif I (t=46)then([t,1],av)else([],av))else
 bif I (110<=s)&&I (s<=118)then exp2 s t else az3 s t
inductive Out where
 |no|gone|left (l:LI)
 deriving DecidableEq
def xH:Nat->LI->Int->Out
 |0,_,_=> .no
 |_+1,[],_=> .gone
 |n+1,s::r,k=>bif I (s<100)then(bif I (s=k)then .left r else .no)else
   bif(qH s k).2 then xH n ((qH s k).1++r) k else .no
def BZ:LI:=[100,101,103,104,105,106,107,108,109,110,111,112,113,114,115,116,117,118,119,120,121,122,123,124,125,126,127,128,129,130,131,132,133]
def kinds:LI:=(a09 79).map λ(n:Nat)=>(n:Int)
def W4 (one:Int->Int->Out):LI->Int->Out
 |[],_=> .gone
 |s::r,k=>match one s k with
  | .no=> .no
  | .gone=>W4 one r k
  | .left l=> .left (l++r)
def stS (s k:Int):Out:=xH 9 [s] k
def mK:LI->Int->Out:=W4 stS
def Out.then (o:Out)(c:LI)(d:Out):Out:=match o with
 | .no=> .no
 | .gone=>d
 | .left l=> .left (l++c)
theorem tz (one:Int->Int->Out)(s:Int)(r:LI)(k:Int):W4 one (s::r) k=(one s k).then r (W4 one r k):=by
 rfl
def okS (s:Int):Prop:=(0<=s/\s<=78)\/s∈BZ
theorem Ae {s k:Int}(h:s<=78):stS s k=bif I (s=k)then .left []else .no:=by
 grind [stS,xH,ab]
theorem wW {k:Int}(h0:0<=k)(h1:k<=78):k∈kinds:=by
 exact cG.2 ⟨k.toNat,a03.2 (by omega),by omega⟩
def isLeft:Out->Bool
 | .left _=>av
 |_=>ar
def LF (o:Out)(d:Bool):Bool:=match o with
 | .no=>ar
 | .gone=>d
 | .left _=>av
end Go.Abs.D
end

section
set_option maxRecDepth 100000
namespace Go.Abs.D
noncomputable def sn:Nat->S.Tab->S.Tab
 |0,T=>T
 |n+1,T=>S.step (sn n T)
noncomputable def c8 (t0:LI):Option (LI×Unit×Unit):=
 J (t0,cO)
theorem jN (T:S.Tab):di (sn 1 T)=c8:=by
 funext a0
 show di (S.step (sn 0 T)) a0=_;rw[I6];rfl
noncomputable def nM (t0:Int)(t4:Int)(t35:Bool):Option ((LI×Bool×Unit)⊕(Unit)⊕Empty):=
 brk (t35) (
  (c8 ([t0]:LI)).bind λd40=>
  J (an (d40.1,av,()))) (
  brk (I (t4=27)) (
   (c8 ([t0,108]:LI)).bind λd45=>
   J (an (d45.1,av,()))) (
   brk (I (t4=30)) (
    (c8 ([t0,132,12,1,109,132]:LI)).bind λd50=>
    J (an (d50.1,av,()))) (
    brk (I (t4=28)) (
     (c8 ([t0,119]:LI)).bind λd55=>
     J (an (d55.1,av,()))) (
     brk (I (t4=14)) (
      (c8 ([t0,116]:LI)).bind λd60=>
      J (an (d60.1,av,()))) (
      brk (I (t4=42)) (
       (c8 ([132]:LI)).bind λd64=>
       J (an (d64.1,av,()))) (
       brk (I (t4=1)) (
        (c8 ([t0,110]:LI)).bind λd69=>
        J (an (d69.1,av,()))) (
        brk (I (t4=40)) (
         (c8 ([t0,119,41,112]:LI)).bind λd74=>
         J (an (d74.1,av,()))) (
         J (aE (an ()))))))))))
theorem Bw (T:S.Tab):lk (sn 2 T)=nM:=by
 have fE:di (sn 1 T)=c8:=jN (sn 0 T)
 funext a0
 funext a1
 funext a2
 show lk (S.step (sn 1 T)) a0 a1 a2=_;rw[Bt];rw[fE];rfl
noncomputable def vK (t0:Int):Option ((LI×Bool×Unit)×Unit×Unit):=
 brk (I (t0=22)) (
  (c8 ([t0,1,104,103]:LI)).bind λd9=>
  J ((d9.1,av,()),cO)) (
  brk (I (t0=13)) (
   (c8 ([t0,1,47,119]:LI)).bind λd14=>
   J ((d14.1,av,()),cO)) (
   brk (I (t0=18)) (
    (c8 ([t0,1,133]:LI)).bind λd19=>
    J ((d19.1,av,()),cO)) (
    brk (I (t0=20)) (
     (c8 ([t0,119,132,105]:LI)).bind λd24=>
     J ((d24.1,av,()),cO)) (
     brk (I (t0=31)) (
      (c8 ([t0,119,132]:LI)).bind λd29=>
      J ((d29.1,av,()),cO)) (
      brk (I (t0=19)) (
       (c8 ([t0,1,106]:LI)).bind λd34=>
       J ((d34.1,av,()),cO)) (
       brk (I (t0=11)) (
        (nM t0 t0 (I (t0=11))).bind (dM
          (λmq=>
         J (mq,cO))
          (λmq=>
         J (([],ar,()),cO)))) (
        (nM t0 t0 (I (t0=23))).bind (dM
          (λmq=>
         J (mq,cO))
          (λmq=>
         J (([],ar,()),cO))))))))))
theorem Gw (T:S.Tab):se (sn 3 T)=vK:=by
 have fE:di (sn 2 T)=c8:=jN (sn 1 T);have Dl:lk (sn 2 T)=nM:=Bw (sn 0 T)
 funext a0
 show se (S.step (sn 2 T)) a0=_;rw[Gz];rw[fE,Dl];rfl
noncomputable def eQ (t0:Int):Option (Bool×Unit×Unit):=
 brk (I (t0=25)) (
  J (av,cO)) (
  brk (I (t0=50)) (
   J (av,cO)) (
   brk (I (t0=62)) (
    J (av,cO)) (
    J (I (t0=69),cO))))
theorem wG (T:S.Tab):eG (sn 1 T)=eQ:=by
 funext a0
 show eG (S.step (sn 0 T)) a0=_;rw[wE];rfl
noncomputable def fN (t0:Int):Option (Bool×Unit×Unit):=
 brk (I (t0=1)) (
  brk (I (t0=1)) (
   J (av,cO)) (
   (eQ t0).bind λd17=>
   J (d17.1,cO))) (
  brk (I (t0=2)) (
   brk (I (t0=2)) (
    J (av,cO)) (
    (eQ t0).bind λd17=>
    J (d17.1,cO))) (
   brk (I (t0=3)) (
    brk (I (t0=3)) (
     J (av,cO)) (
     (eQ t0).bind λd17=>
     J (d17.1,cO))) (
    brk (I (t0=4)) (
     brk (I (t0=4)) (
      J (av,cO)) (
      (eQ t0).bind λd17=>
      J (d17.1,cO))) (
     brk (I (t0=24)) (
      brk (I (t0=24)) (
       J (av,cO)) (
       (eQ t0).bind λd17=>
       J (d17.1,cO))) (
      brk (I (t0=29)) (
       brk (I (t0=29)) (
        J (av,cO)) (
        (eQ t0).bind λd17=>
        J (d17.1,cO))) (
       brk (I (t0=17)) (
        brk (I (t0=17)) (
         J (av,cO)) (
         (eQ t0).bind λd17=>
         J (d17.1,cO))) (
        brk (I (t0=49)) (
         brk (I (t0=49)) (
          J (av,cO)) (
          (eQ t0).bind λd17=>
          J (d17.1,cO))) (
         brk (I (t0=18)) (
          brk (I (t0=18)) (
           J (av,cO)) (
           (eQ t0).bind λd17=>
           J (d17.1,cO))) (
          brk (I (t0=40)) (
           brk (I (t0=40)) (
            J (av,cO)) (
            (eQ t0).bind λd17=>
            J (d17.1,cO))) (
           brk (I (t0=42)) (
            J (av,cO)) (
            (eQ t0).bind λd17=>
            J (d17.1,cO))))))))))))
theorem oJ (T:S.Tab):fv (sn 2 T)=fN:=by
 have sP:eG (sn 1 T)=eQ:=wG (sn 0 T)
 funext a0
 show fv (S.step (sn 1 T)) a0=_;rw[wB];rw[sP];rfl
noncomputable def fZ (t0:Int)(t1:Int)(t2:Int):Option (LI×Unit×Unit×Unit×Unit):=
 brk (I (t0=48)) (
  (c8 ([t0,1,t1]:LI)).bind λd13=>
  J (d13.1,dU)) (
  brk (I (t0=44)) (
   (c8 ([t0,119,45,t1]:LI)).bind λd19=>
   J (d19.1,dU)) (
   brk (I (t0=40)) (
    (c8 ([t0,123,41,t2]:LI)).bind λd25=>
    J (d25.1,dU)) (
    J ([],dU))))
theorem wH (T:S.Tab):gu (sn 2 T)=fZ:=by
 have fE:di (sn 1 T)=c8:=jN (sn 0 T)
 funext a0
 funext a1
 funext a2
 show gu (S.step (sn 1 T)) a0 a1 a2=_;rw[Dz];rw[fE];rfl
noncomputable def kv (t0:Int)(t1:Int)(t6:LI)(t9:Int)(t10:Bool):Option ((Int×Int×LI×Unit)⊕Empty):=
 brk (t10) (
  (fZ t1 110 111).bind λd15=>
  J (an (t0,t1,d15.1,()))) (
  brk (I (t9=114)) (
   brk (I (t9=114)) (
    (fZ t1 114 115).bind λd20=>
    J (an (t0,t1,d20.1,()))) (
    brk (I (t9=117)) (
     brk (I (t9=117)) (
      (fZ t1 117 118).bind λd25=>
      J (an (t0,t1,d25.1,()))) (
      J (an (t0,t1,t6,())))) (
     brk (I (t9=118)) (
      (fZ t1 117 118).bind λd25=>
      J (an (t0,t1,d25.1,()))) (
      J (an (t0,t1,t6,())))))) (
   brk (I (t9=115)) (
    (fZ t1 114 115).bind λd20=>
    J (an (t0,t1,d20.1,()))) (
    brk (I (t9=117)) (
     brk (I (t9=117)) (
      (fZ t1 117 118).bind λd25=>
      J (an (t0,t1,d25.1,()))) (
      J (an (t0,t1,t6,())))) (
     brk (I (t9=118)) (
      (fZ t1 117 118).bind λd25=>
      J (an (t0,t1,d25.1,()))) (
      J (an (t0,t1,t6,())))))))
theorem yK (T:S.Tab):jd (sn 3 T)=kv:=by
 have sO:gu (sn 2 T)=fZ:=wH (sn 0 T)
 funext a0
 funext a1
 funext a2
 funext a3
 funext a4
 show jd (S.step (sn 2 T)) a0 a1 a2 a3 a4=_;rw[yM];rw[sO];rfl
noncomputable def jU (t0:Int)(t1:Int):Option ((LI×Bool×Unit)⊕Empty):=
 brk (I (t0=113)) (
  brk (I (t0=116)) (
   brk (I (t1=1)) (
    (c8 ([t1,117]:LI)).bind λd65=>
    J (an (d65.1,av,()))) (
    brk (I (t1=40)) (
     (c8 ([t1,119,41,117]:LI)).bind λd71=>
     J (an (d71.1,av,()))) (
     J (an ([],ar,()))))) (
   brk (I (t1=1)) (
    (c8 ([t1,114]:LI)).bind λd65=>
    J (an (d65.1,av,()))) (
    brk (I (t1=40)) (
     (c8 ([t1,119,41,115]:LI)).bind λd71=>
     J (an (d71.1,av,()))) (
     J (an ([],ar,())))))) (
  brk (I (t0=116)) (
   brk (I (t0=116)) (
    brk (I (t1=1)) (
     (c8 ([t1,117]:LI)).bind λd65=>
     J (an (d65.1,av,()))) (
     brk (I (t1=40)) (
      (c8 ([t1,119,41,117]:LI)).bind λd71=>
      J (an (d71.1,av,()))) (
      J (an ([],ar,()))))) (
    brk (I (t1=1)) (
     (c8 ([t1,114]:LI)).bind λd65=>
     J (an (d65.1,av,()))) (
     brk (I (t1=40)) (
      (c8 ([t1,119,41,115]:LI)).bind λd71=>
      J (an (d71.1,av,()))) (
      J (an ([],ar,())))))) (
   J (an ([],ar,()))))
theorem yl (T:S.Tab):iK (sn 2 T)=jU:=by
 have fE:di (sn 1 T)=c8:=jN (sn 0 T)
 funext a0
 funext a1
 show iK (S.step (sn 1 T)) a0 a1=_;rw[ye];rw[fE];rfl
noncomputable def jX (t0:Int)(t1:Int)(t6:LI):Option ((LI×Bool×Unit)⊕Empty):=
 brk (I (0<(t6.length:Int))) (
  J (an (t6,av,()))) (
  brk (I (t0=111)) (
   J (an ([],av,()))) (
   brk (I (t0=118)) (
    J (an ([],av,()))) (
    brk (I (t0=110)) (
     brk (I (t1=46)) (
      (c8 ([t1,113]:LI)).bind λd46=>
      J (an (d46.1,av,()))) (
      brk (I (t1=47)) (
       (c8 ([t1,124]:LI)).bind λd51=>
       J (an (d51.1,av,()))) (
       (jU t0 t1).bind (dB
         (λLU=>
        J (an LU)))))) (
     brk (I (t0=114)) (
      brk (I (t1=46)) (
       (c8 ([t1,113]:LI)).bind λd46=>
       J (an (d46.1,av,()))) (
       brk (I (t1=47)) (
        (c8 ([t1,124]:LI)).bind λd51=>
        J (an (d51.1,av,()))) (
        (jU t0 t1).bind (dB
          (λLU=>
         J (an LU)))))) (
      (jU t0 t1).bind (dB
        (λLU=>
       J (an LU))))))))
theorem yg (T:S.Tab):iJ (sn 3 T)=jX:=by
 have fE:di (sn 2 T)=c8:=jN (sn 1 T);have zJ:iK (sn 2 T)=jU:=yl (sn 0 T)
 funext a0
 funext a1
 funext a2
 show iJ (S.step (sn 2 T)) a0 a1 a2=_;rw[yh];rw[fE,zJ];rfl
noncomputable def qR (t0:Int)(t1:Int):Option ((LI×Bool×Unit)×Unit×Unit×Unit):=
 brk (I (t0=110)) (
  (kv t0 t1 [] t0 (I (t0=110))).bind (dB
    (λy6=>
   (jX y6.1 y6.2.1 y6.2.2.1).bind (dB
     (λml=>
    J (ml,cQ)))))) (
  brk (I (t0=111)) (
   (kv t0 t1 [] t0 (I (t0=111))).bind (dB
     (λy6=>
    (jX y6.1 y6.2.1 y6.2.2.1).bind (dB
      (λml=>
     J (ml,cQ)))))) (
   (kv t0 t1 [] t0 (I (t0=112))).bind (dB
     (λy6=>
    (jX y6.1 y6.2.1 y6.2.2.1).bind (dB
      (λml=>
     J (ml,cQ)))))))
theorem Ci (T:S.Tab):oz (sn 4 T)=qR:=by
 have AI:jd (sn 3 T)=kv:=yK (sn 0 T);have zN:iJ (sn 3 T)=jX:=yg (sn 0 T)
 funext a0
 funext a1
 show oz (S.step (sn 3 T)) a0 a1=_;rw[CA];rw[AI,zN];rfl
noncomputable def eT (t0:Int)(t1:Int)(t93:Bool):Option ((LI×Bool×Unit)⊕(ja.den)⊕Empty):=
 brk (t93) (
  (qR t0 t1).bind λd105=>
  J (an d105.1)) (
  J (aE (an (t0,t1,()))))
theorem yI (T:S.Tab):eK (sn 5 T)=eT:=by
 have Ex:oz (sn 4 T)=qR:=Ci (sn 0 T)
 funext a0
 funext a1
 funext a2
 show eK (S.step (sn 4 T)) a0 a1 a2=_;rw[yB];rw[Ex];rfl
noncomputable def vQ (t0:Int):Option ((LI×Bool×Unit)×Unit×Unit):=
 (eQ t0).bind λd5=>
 brk (d5.1) (
  (c8 ([t0,120]:LI)).bind λd8=>
  J ((d8.1,av,()),cO)) (
  brk (I (t0=1)) (
   (c8 ([t0,122]:LI)).bind λd14=>
   J ((d14.1,av,()),cO)) (
   brk (I (t0=40)) (
    (c8 ([t0,119,41,122]:LI)).bind λd19=>
    J ((d19.1,av,()),cO)) (
    brk (I (t0=42)) (
     (c8 ([t0,129,43]:LI)).bind λd24=>
     J ((d24.1,av,()),cO)) (
     brk (I (t0=18)) (
      (c8 ([t0,133]:LI)).bind λd29=>
      J ((d29.1,av,()),cO)) (
      (c8 ([t0]:LI)).bind λd32=>
      (fN t0).bind λd34=>
      J ((d32.1,d34.1,()),cO))))))
theorem GH (T:S.Tab):r9 (sn 3 T)=vQ:=by
 have fE:di (sn 2 T)=c8:=jN (sn 1 T);have sP:eG (sn 2 T)=eQ:=wG (sn 1 T);have kr:fv (sn 2 T)=fN:=oJ (sn 0 T)
 funext a0
 show r9 (S.step (sn 2 T)) a0=_;rw[Gv];rw[fE,sP,kr];rfl
noncomputable def uE (t0:Int):Option (Bool×Unit×Unit):=
 brk (I (t0=10)) (
  J (av,cO)) (
  brk (I (t0=26)) (
   J (av,cO)) (
   J (I (60<t0),cO)))
theorem E8 (T:S.Tab):mS (sn 1 T)=uE:=by
 funext a0
 show mS (S.step (sn 0 T)) a0=_;rw[xO];rfl
noncomputable def lG (t0:Int)(t1:Int)(t6:Int)(t49:Bool):Option ((LI×Bool×Unit)⊕(Int×Unit)⊕Empty):=
 brk (t49) (
  brk (I (t1=1)) (
   (c8 ([t1,127]:LI)).bind λd56=>
   J (an (d56.1,av,()))) (
   brk (I (t1=49)) (
    (c8 ([t1]:LI)).bind λd61=>
    J (an (d61.1,av,()))) (
    J (an ([],I (t0=126),()))))) (
  brk (I (t6=127)) (
   brk (I (t1=46)) (
    (c8 ([t1,128]:LI)).bind λd70=>
    J (an (d70.1,av,()))) (
    J (an ([],av,())))) (
   brk (I (t6=129)) (
    (fN t1).bind λd74=>
    brk (d74.1) (
     (c8 ([131,130]:LI)).bind λd84=>
     J (an (d84.1,av,()))) (
     brk (I (t1=48)) (
      (c8 ([131,130]:LI)).bind λd84=>
      J (an (d84.1,av,()))) (
      brk (I (t1=44)) (
       (c8 ([131,130]:LI)).bind λd84=>
       J (an (d84.1,av,()))) (
       J (an ([],av,())))))) (
    brk (I (t6=130)) (
     brk (I (t1=46)) (
      (c8 ([t1,129]:LI)).bind λd91=>
      J (an (d91.1,av,()))) (
      J (an ([],av,())))) (
     brk (I (t6=131)) (
      brk (I (t1=48)) (
       (c8 ([t1,1,47,119]:LI)).bind λd98=>
       J (an (d98.1,av,()))) (
       brk (I (t1=44)) (
        (c8 ([t1,119,45,47,119]:LI)).bind λd103=>
        J (an (d103.1,av,()))) (
        (c8 ([119]:LI)).bind λd105=>
        (fN t1).bind λd107=>
        J (an (d105.1,d107.1,()))))) (
      brk (I (t6=132)) (
       (c8 ([42,100,43]:LI)).bind λd111=>
       J (an (d111.1,I (t1=42),()))) (
       J (aE (an (t1,())))))))))
theorem yj (T:S.Tab):jy (sn 3 T)=lG:=by
 have fE:di (sn 2 T)=c8:=jN (sn 1 T);have kr:fv (sn 2 T)=fN:=oJ (sn 0 T)
 funext a0
 funext a1
 funext a2
 funext a3
 show jy (S.step (sn 2 T)) a0 a1 a2 a3=_;rw[yf];rw[fE,kr];rfl
noncomputable def qW (t0:Int)(t1:Int):Option ((LI×Bool×Unit)×Unit×Unit×Unit):=
 brk (I (t0=119)) (
  (c8 ([120,121]:LI)).bind λd10=>
  (fN t1).bind λd12=>
  J ((d10.1,d12.1,()),cQ)) (
  brk (I (t0=120)) (
   (vQ t1).bind λd16=>
   J (d16.1,cQ)) (
   brk (I (t0=121)) (
    (uE t1).bind λd22=>
    brk (d22.1) (
     (c8 ([t1,119]:LI)).bind λd25=>
     J ((d25.1,av,()),cQ)) (
     J (([],av,()),cQ))) (
    brk (I (t0=122)) (
     (fZ t1 122 122).bind λd29=>
     J ((d29.1,av,()),cQ)) (
     brk (I (t0=123)) (
      (fN t1).bind λd33=>
      brk (d33.1) (
       (c8 ([124]:LI)).bind λd35=>
       J ((d35.1,av,()),cQ)) (
       J (([],av,()),cQ))) (
      brk (I (t0=124)) (
       (c8 ([119,125]:LI)).bind λd39=>
       (fN t1).bind λd41=>
       J ((d39.1,d41.1,()),cQ)) (
       brk (I (t0=125)) (
        brk (I (t1=46)) (
         (c8 ([t1,119,125]:LI)).bind λd48=>
         J ((d48.1,av,()),cQ)) (
         J (([],av,()),cQ))) (
        brk (I (t0=126)) (
         (lG t0 t1 t0 (I (t0=126))).bind (dM
           (λxJ=>
          J (xJ,cQ))
           (λxJ=>
          (c8 ([40,126,41,132]:LI)).bind λd115=>
          J ((d115.1,I (xJ.1=40),()),cQ)))) (
         (lG t0 t1 t0 (I (t0=128))).bind (dM
           (λxJ=>
          J (xJ,cQ))
           (λxJ=>
          (c8 ([40,126,41,132]:LI)).bind λd115=>
          J ((d115.1,I (xJ.1=40),()),cQ)))))))))))
theorem Cx (T:S.Tab):oy (sn 4 T)=qW:=by
 have fE:di (sn 3 T)=c8:=jN (sn 2 T);have kr:fv (sn 3 T)=fN:=oJ (sn 1 T);have sO:gu (sn 3 T)=fZ:=wH (sn 1 T);have Jj:r9 (sn 3 T)=vQ:=GH (sn 0 T);have Iv:mS (sn 3 T)=uE:=E8 (sn 2 T);have zM:jy (sn 3 T)=lG:=yj (sn 0 T)
 funext a0
 funext a1
 show oy (S.step (sn 3 T)) a0 a1=_;rw[Cp];rw[fE,kr,sO,Jj,Iv,zM];rfl
noncomputable def eU (t0:Int)(t1:Int):Option ((LI×Bool×Unit)⊕Empty):=
 (qW t0 t1).bind λd110=>
 J (an d110.1)
theorem yP (T:S.Tab):eM (sn 5 T)=eU:=by
 have EE:oy (sn 4 T)=qW:=Cx (sn 0 T)
 funext a0
 funext a1
 show eM (S.step (sn 4 T)) a0 a1=_;rw[yw];rw[EE];rfl
noncomputable def xP (t0:Int)(t1:Int):Option ((LI×Bool×Unit)×Unit×Unit×Unit):=
 brk (I (t0=100)) (
  brk (I (t1=5)) (
   (c8 ([t1,100]:LI)).bind λd15=>
   J ((d15.1,av,()),cQ)) (
   (vK t1).bind λd18=>
   brk (d18.1.2.1) (
    brk (fits (d18.1.1.length+1)) (
    J ((d18.1.1++([101]:LI),av,()),cQ)) ay) (
    J (([],av,()),cQ)))) (
  brk (I (t0=101)) (
   brk (I (t1=5)) (
    (c8 ([t1,100]:LI)).bind λd31=>
    J ((d31.1,av,()),cQ)) (
    J (([],av,()),cQ))) (
   brk (I (t0=103)) (
    brk (I (t1=47)) (
     (c8 ([t1,124]:LI)).bind λd38=>
     J ((d38.1,av,()),cQ)) (
     J (([],av,()),cQ))) (
    brk (I (t0=104)) (
     brk (I (t1=46)) (
      (c8 ([t1,1,104]:LI)).bind λd45=>
      J ((d45.1,av,()),cQ)) (
      J (([],av,()),cQ))) (
     brk (I (t0=105)) (
      brk (I (t1=15)) (
       (c8 ([t1,119,132,105]:LI)).bind λd52=>
       J ((d52.1,av,()),cQ)) (
       brk (I (t1=16)) (
        (c8 ([t1,132]:LI)).bind λd57=>
        J ((d57.1,av,()),cQ)) (
        J (([],av,()),cQ)))) (
      brk (I (t0=106)) (
       brk (I (t1=47)) (
        (c8 ([t1,119,46,119,107,132]:LI)).bind λd64=>
        J ((d64.1,av,()),cQ)) (
        (c8 ([104,21,119,132]:LI)).bind λd66=>
        brk (I (t1=46)) (
         J ((d66.1,av,()),cQ)) (
         J ((d66.1,I (t1=21),()),cQ)))) (
       brk (I (t0=107)) (
        brk (I (t1=46)) (
         (c8 ([t1,119]:LI)).bind λd79=>
         J ((d79.1,av,()),cQ)) (
         J (([],av,()),cQ))) (
        brk (I (t0=108)) (
         (fN t1).bind λd83=>
         brk (d83.1) (
          (c8 ([124]:LI)).bind λd85=>
          J ((d85.1,av,()),cQ)) (
          J (([],av,()),cQ))) (
         brk (I (t0=109)) (
          brk (I (t1=46)) (
           (c8 ([t1,1]:LI)).bind λd92=>
           J ((d92.1,av,()),cQ)) (
           J (([],av,()),cQ))) (
          brk (I (t0=110)) (
           (eT t0 t1 (I (t0=110))).bind (dM
             (λme=>
            J (me,cQ))
             (λme=>
            (eU me.1 me.2.1).bind (dB
              (λzH=>
             J (zH,cQ)))))) (
           brk (I (t0=111)) (
            (eT t0 t1 (I (t0=111))).bind (dM
              (λme=>
             J (me,cQ))
              (λme=>
             (eU me.1 me.2.1).bind (dB
               (λzH=>
              J (zH,cQ)))))) (
            brk (I (t0=112)) (
             (eT t0 t1 (I (t0=112))).bind (dM
               (λme=>
              J (me,cQ))
               (λme=>
              (eU me.1 me.2.1).bind (dB
                (λzH=>
               J (zH,cQ)))))) (
             brk (I (t0=113)) (
              (eT t0 t1 (I (t0=113))).bind (dM
                (λme=>
               J (me,cQ))
                (λme=>
               (eU me.1 me.2.1).bind (dB
                 (λzH=>
                J (zH,cQ)))))) (
              brk (I (t0=114)) (
               (eT t0 t1 (I (t0=114))).bind (dM
                 (λme=>
                J (me,cQ))
                 (λme=>
                (eU me.1 me.2.1).bind (dB
                  (λzH=>
                 J (zH,cQ)))))) (
               brk (I (t0=115)) (
                (eT t0 t1 (I (t0=115))).bind (dM
                  (λme=>
                 J (me,cQ))
                  (λme=>
                 (eU me.1 me.2.1).bind (dB
                   (λzH=>
                  J (zH,cQ)))))) (
                brk (I (t0=116)) (
                 (eT t0 t1 (I (t0=116))).bind (dM
                   (λme=>
                  J (me,cQ))
                   (λme=>
                  (eU me.1 me.2.1).bind (dB
                    (λzH=>
                   J (zH,cQ)))))) (
                 brk (I (t0=117)) (
                  (eT t0 t1 (I (t0=117))).bind (dM
                    (λme=>
                   J (me,cQ))
                    (λme=>
                   (eU me.1 me.2.1).bind (dB
                     (λzH=>
                    J (zH,cQ)))))) (
                  (eT t0 t1 (I (t0=118))).bind (dM
                    (λme=>
                   J (me,cQ))
                    (λme=>
                   (eU me.1 me.2.1).bind (dB
                     (λzH=>
                    J (zH,cQ))))))))))))))))))))))
theorem DX (T:S.Tab):kJ (sn 6 T)=xP:=by
 have fE:di (sn 5 T)=c8:=jN (sn 4 T);have Je:se (sn 5 T)=vK:=Gw (sn 2 T);have kr:fv (sn 5 T)=fN:=oJ (sn 3 T);have AE:eK (sn 5 T)=eT:=yI (sn 0 T);have AD:eM (sn 5 T)=eU:=yP (sn 0 T)
 funext a0
 funext a1
 show kJ (S.step (sn 5 T)) a0 a1=_;rw[Dy];rw[fE,Je,kr,AE,AD];rfl
noncomputable abbrev RS (s:Int):Bool:=kinds.all λk=>I (xP s k=J (((qH s k).1,(qH s k).2,()),cQ))
theorem aA1:(BZ.all RS)=true:=by kernel_rfl
theorem YY (T:S.Tab){s:Int}(h:s∈BZ):(kinds.all λk=>I (kJ (sn 6 T) s k=J (((qH s k).1,(qH s k).2,()),cQ)))=true:=by
 rw[DX];exact aW.1 aA1 s h
end Go.Abs.D
end

section
namespace Go.Abs.D
theorem JC:Evt λn=>∀s k:Int,s∈BZ->0<=k->k<=78->kJ (S.tab n) s k=J (((qH s k).1,(qH s k).2,()),cQ):=by
 have h:Evt λn=>∀s k:Int,s∈BZ->0<=k->k<=78->kJ (S.tab (n+6)) s k=J (((qH s k).1,(qH s k).2,()),cQ):=Evt.of λn s k hs h0 h1=>
  of_decide_eq_true (aW.1 (YY (S.tab n) hs) k (wW h0 h1))
 obtain⟨N,h⟩:=h
 exact⟨N+6,λn hn=>by
  have e:n - 6+6=n:=(by omega);rw[<-e]
  grind⟩
abbrev Cls:Type:=List ja.den
def Reads (cs:Cls):Int->LI->Prop
 |top,[]=>top= -1
 |top,s::l=>∃(i:Nat) (b:Int),top=(i:Int)/\cs[i]?=J (s,b,())/\Reads cs b l
theorem Reads.mono {cs ds:Cls}:∀{l:LI} {top:Int},Reads cs top l->Reads (cs++ds) top l
 |[],_,h=>h
 |s::l,_,⟨i,b,e,h,hr⟩=>⟨i,b,e,by
   grind,hr.mono⟩
theorem Reads.push {cs:Cls}{l:LI}{top:Int}(h:Reads cs top l)(s:Int):Reads (cs++[(s,top,())]) (cs.length:Int) (s::l):=
 ⟨cs.length,top,rfl,by simp,h.mono⟩
theorem HU (cs:Cls)(hl:cs.length<=2000000)(top s:Int):Evt λn=>nz (S.tab n) (cs,()) top s=J ((cs.length:Int),(cs++[(s,top,())],()),(),(),()):=dt.up λn _=>by
 grind [Dx,cU,dE,lim,wrap64]
theorem Jm (k:Int)(row:LI)(Qc:row.length<=100):∀(m:Nat) (cs:Cls) (top:Int) (l:LI),m<=row.length->Reads cs top l->cs.length+m<=2000000->
  ∃(ds:Cls) (nx:Int),ds.length=m/\Reads (cs++ds) nx (row.take m++l)/\Evt λn=>lM (S.tab n) (cs,()) top k row ((m:Int) - 1)=J (an ((cs++ds,()),nx,k,()))
 |0,cs,top,l,hm,hr,_=>⟨[],top,rfl,by simp_all,dt.up λn _=>by
  simp_all[rY,dm,aU]⟩
 |m+1,cs,top,l,hm,hr,hl=>by
  have PY:m<row.length:=(by omega);obtain⟨ds,nx,hd,hR,hE⟩:=Jm k row Qc m (cs++[(row[m],top,())]) (cs.length:Int) (row[m]::l) (by omega) (hr.push row[m]) (by grind);have e0:((m+1:Nat):Int) - 1=(m:Int):=(by omega)
  have hg:row.getD (m:Int).toNat 0=row[m]:=by simp_all
  refine⟨(row[m],top,())::ds,nx,by grind, ?_, ?_⟩
  ·grind [aI,cu]
  ·refine(hE.and (HU cs (by omega) top row[m])).up λn ⟨h,hp⟩=> ?_
   rw[e0,rY,cU (by rfl),cU (db PY),hg,hp,au,wrap64 _ (by omega) (by omega)];simp_all
def Sz:Nat->LI->Int->Bool
 |0,_,_=>ar
 |_+1,[],_=>av
 |n+1,s::r,k=>bif I (s<100)then av else bif(qH s k).2 then Sz n ((qH s k).1++r) k else av
def I8:Nat->LI->Int->Nat
 |0,_,_=>0
 |_+1,[],_=>0
 |n+1,s::r,k=>bif I (s<100)then 0 else bif(qH s k).2 then(qH s k).1.length+I8 n ((qH s k).1++r) k else 0
def Xd (s:Int):Bool:=(I (0<=s)&&I (s<=78))||BZ.contains s
theorem Ts:(BZ.all λs=>kinds.all λk=>Sz 9 [s] k)=true:=by kernel_rfl
theorem TK:(BZ.all λs=>kinds.all λk=>I (I8 9 [s] k<=20)&&(bif I (xH 9 [s] k= .gone)then I (I8 9 [s] k=0)else av))=true:=by kernel_rfl
theorem ad9:(BZ.all λs=>kinds.all λk=>(qH s k).1.all Xd&&I ((qH s k).1.length<=100))=true:=by kernel_rfl
theorem Ql {s:Int}(h:Xd s=av):okS s:=by
 unfold Xd at h;simp at h;exact h
theorem Tg {s k:Int}(hs:s∈BZ)(h0:0<=k)(h1:k<=78):(∀x∈(qH s k).1,okS x)/\(qH s k).1.length<=100:=by
 have:=aW.1 (aW.1 ad9 s hs) k (wW h0 h1);simp_all[aA,ae,Ql,aW]
theorem Nj {cs:Cls}{top s:Int}{r:LI}(h:Reads cs top (s::r)):I (0<=top)=av/\(I (0<=top)&&I (top<(cs.length:Int)))=av/\∃b:Int,at_ (τ:=ja) cs top=(s,b,())/\Reads cs b r:=by
 obtain⟨i,b,rfl,hi,hr⟩:=h
 grind [bw,db,at_,bq]
def Q9 (cs:Cls)(top k:Int)(y:(List ja.den×Unit)×Int×Bool×Unit):Prop:=Evt λn=>gr (S.tab n) (cs,()) top k=J (an y)
theorem MU {k:Int}(h0:0<=k)(h1:k<=78){c:LI}:∀(f:Nat) (l:LI) (cs:Cls) (top:Int),(∀s∈l,okS s)->Sz f l k=av->Reads cs top (l++c)->cs.length+I8 f l k<=2000000->
  ∃ds:Cls,ds.length<=I8 f l k/\
   (∀l',xH f l k= .left l'->∃nx,Reads (cs++ds) nx (l'++c)/\Q9 cs top k ((cs++ds,()),nx,av,()))/\
   (xH f l k= .no->∃nx,Q9 cs top k ((cs++ds,()),nx,ar,()))/\
   (xH f l k= .gone->∃nx,Reads (cs++ds) nx c/\∀X,(Evt λn=>gr (S.tab n) (cs++ds,()) nx k=J X)->Evt λn=>gr (S.tab n) (cs,()) top k=J X)
 |0,l,_,_,_,ht,_,_=>by cases ht
 |f+1,[],cs,top,_,_,hr,_=>⟨[],aX _,λ_ e=>(by cases e),λe=>(by cases e),λ_=>⟨top,by simp_all,λX h=>by simp_all⟩⟩
 |f+1,s::r,cs,top,hs,ht,hr,hl=>by
  have Ix:∀x∈r,okS x:=λx hx=>hs x (aD _ hx)
  obtain⟨d0,d1,b,hb,aM8⟩:=Nj (s:=s) (r:=r++c) hr;unfold Sz at ht;unfold I8 at hl⊢;unfold xH
  by_cases kI:s<100
  ·rw[ab kI]at hl⊢;simp only[ai]
   have hE:Q9 cs top k ((cs,()),b,I (s=k),()):=dt.up λn _=>by
    simp_all[pf,cU,ab]
   refine⟨[],aX _, ?_⟩
   grind
  ·rw[aa kI]at ht hl⊢
   have aY4:s∈BZ:=by
    rcases hs s (aF ..)with h|h
    all_goals omega
   obtain⟨ro,rl⟩:=Tg aY4 h0 h1
   have start:∀n,(∀s k:Int,s∈BZ->0<=k->k<=78->kJ (S.tab n) s k=J (((qH s k).1,(qH s k).2,()),cQ))->gr (S.step (S.tab n)) (cs,()) top k=brk (!(qH s k).2) (J (an ((cs,()),b,ar,()))) ((lM (S.tab n) (cs,()) b k (qH s k).1 (aq.wrap (((qH s k).1.length:Int) - 1))).bind (dB λZ6=>gr (S.tab n) Z6.1 Z6.2.1 Z6.2.2.1)):=λn hx=>by
    rw[pf,cU d0,cU d1,hb,da kI];simp_all
   cases c1:(qH s k).2 with
   |false=>
    refine⟨[],aX _,λl' e'=>(by grind),λ_=>⟨b, ?_⟩,λe'=>(by grind)⟩;rw[aU]
    refine JC.up λn hx=> ?_
    simp_all[start,cU]
   |true=>
    rw[c1]at ht hl;simp at ht hl⊢;obtain⟨ds,ak2,hd,hR,hE⟩:=Jm k (qH s k).1 rl (qH s k).1.length cs b (r++c) (aC _) aM8 (by omega);rw[ck,<-aI]at hR;obtain⟨es,he,a1,a2,a3⟩:=MU h0 h1 f ((qH s k).1++r) (cs++ds) ak2 (λx hx=>(aL.1 hx).elim (ro x) (Ix x)) ht hR (by grind)
    have pass:∀X,(Evt λn=>gr (S.tab n) (cs++ds,()) ak2 k=J X)->Evt λn=>gr (S.tab n) (cs,()) top k=J X:=λX h=>by
     refine((JC.and h).and hE).up λn ⟨⟨hx,h⟩,hE⟩=> ?_
     rw[start n hx,c1,dm (by rfl),wrap64 _ (by omega) (by omega),hE,au];exact h
    refine⟨ds++es,by simp;omega, ?_⟩;rw[<-aI];refine⟨λl' e'=> ?_,λe'=> ?_,λe'=> ?_⟩
    ·obtain⟨t,h,hF⟩:=a1 l' e';exact⟨t,h,pass _ hF⟩
    ·obtain⟨t,hF⟩:=a2 e';exact⟨t,pass _ hF⟩
    ·obtain⟨t,h,hF⟩:=a3 e';exact⟨t,h,λX hX=>pass _ (hF X hX)⟩
theorem ag3 {s k:Int}(hs:okS s)(h0:0<=k)(h1:k<=78):Sz 9 [s] k=av/\I8 9 [s] k<=20/\(stS s k= .gone->I8 9 [s] k=0):=by
 rcases hs with⟨_,h⟩|h
 ·refine⟨by grind [Sz,ab],by unfold I8;grind,λ_=>by grind [I8,ab]⟩
 ·have:=aW.1 (aW.1 TK s h) k (wW h0 h1);rw[aA,ae]at this;refine⟨aW.1 (aW.1 Ts s h) k (wW h0 h1),this.1,λe=> ?_⟩;have e:xH 9 [s] k= .gone:=e;simp_all
theorem Nr {k:Int}(h0:0<=k)(h1:k<=78)(cs:Cls)(hl:cs.length<=1999900):∀(b:LI) (top:Int),(∀s∈b,okS s)->Reads cs top (b++[6])->
  ∃(ds:Cls) (nx:Int),ds.length<=20/\(∀l,mK b k= .left l->Reads (cs++ds) nx (l++[6]))/\Q9 cs top k ((cs++ds,()),nx,LF (mK b k) (I (6=k)),())
 |[],top,_,hr=>by
  obtain⟨d0,d1,b,hb,aM8⟩:=Nj (s:=6) (r:=[]) hr;refine⟨[],b,aX _,λl e=>(by cases e), ?_⟩;rw[aU]
  refine dt.up λn _=> ?_
  rw[pf,cU d0,cU d1,hb,cU (by rfl)];rfl
 |s::r,top,hs,hr=>by
  have Ix:∀x∈r,okS x:=λx hx=>hs x (aD _ hx)
  have av9:=hs s (aF ..)
  have e2:mK (s::r) k=(stS s k).then r (mK r k):=tz stS s r k
  obtain⟨t1,t2,t3⟩:=ag3 av9 h0 h1
  obtain⟨ds,hd,a1,a2,a3⟩:=MU h0 h1 (c:=r++[6]) 9 [s] cs top (λx hx=>by
   simp_all) t1 hr (by omega)
  rw[e2]
  cases ho:stS s k with
  |left l=>
   obtain⟨t,h,hF⟩:=a1 l ho;refine⟨ds,t,by omega,λl' e=> ?_,hF⟩
   injection e with e
   subst e;rw[aI];exact h
  |no=>
   obtain⟨t,hF⟩:=a2 ho;exact⟨ds,t,by omega,λl' e=>(by cases e),hF⟩
  |gone=>
   obtain⟨t,h,hF⟩:=a3 ho;have aV0:ds=[]:=List.length_eq_zero_iff.1 (by have:=t3 ho;omega);subst aV0;rw[aU]at h;obtain⟨es,t',he,b1,b2⟩:=Nr h0 h1 cs hl r t Ix h;exact⟨es,t',he,b1,hF _ (by rw[aU];exact b2)⟩
theorem Da {k:Int}(h0:0<=k)(h1:k<=78)(cs:Cls)(hl:cs.length<=1999900)(b:LI)(top:Int)(hs:∀s∈b,okS s)(hr:Reads cs top (b++[6])):
  ∃(ds:Cls) (nx:Int),ds.length<=20/\(∀l,mK b k= .left l->Reads (cs++ds) nx (l++[6]))/\Evt λn=>mh (S.tab n) (cs,()) top k=J ((nx,LF (mK b k) (I (6=k)),()),(cs++ds,()),(),(),()):=by
 obtain⟨ds,t,hd,h,hF⟩:=Nr h0 h1 cs hl b top hs hr;refine⟨ds,t,hd,h,hF.up λn h=> ?_⟩;rw[DH,h];rfl
def UZ (s:Int):Bool:=Xd s&& !(I (s=2)||decide (s=3)||decide (s=6))
def WE (p:Int->Bool):Out->Bool
 | .left l=>l.all p
 |_=>av
def PB:Out->Bool
 | .gone=>av
 |_=>ar
theorem ae6:(BZ.all λs=>kinds.all λk=>WE UZ (xH 9 [s] k))=true:=by kernel_rfl
theorem aw3:(BZ.all λs=> !isLeft (xH 9 [s] 6))=true:=by kernel_rfl
theorem ax4:(BZ.all λs=>(isLeft (xH 9 [s] 2)==isLeft (xH 9 [s] 3))&&(PB (xH 9 [s] 2)==PB (xH 9 [s] 3)))=true:=by kernel_rfl
def gdS (b:LI):Prop:=∀s∈b,UZ s=av
theorem FU {s:Int}(h:UZ s=av):okS s/\s≠2/\s≠3/\s≠6:=by
 simp_all[UZ,Ql]
theorem gdS.ok {b:LI}(h:gdS b):∀s∈b,okS s:=λs hs=>(FU (h s hs)).1
theorem HK {k:Int}(h0:0<=k)(h1:k<=78):∀{b l:LI},gdS b->mK b k= .left l->gdS l
 |[],l,_,e=>by cases e
 |s::r,l,h,e=>by
  have hr:gdS r:=λx hx=>h x (aD _ hx)
  have e2:mK (s::r) k=(stS s k).then r (mK r k):=tz stS s r k
  rw[e2]at e
  have hs:∀l',stS s k= .left l'->gdS l':=λl' e' x hx=>by
   rcases(FU (h s (aF ..))).1 with⟨_,h⟩|h
   ·grind [Ae,decide]
   ·have:=aW.1 (aW.1 ae6 s h) k (wW h0 h1);have e':xH 9 [s] k= .left l':=e';rw[e']at this;exact aW.1 this x hx
  cases ho:stS s k with
  |no=>rw[ho]at e;cases e
  |gone=>rw[ho]at e;exact HK h0 h1 hr e
  |left l'=>
   rw[ho]at e
   injection e with e
   subst e
   exact λx hx=>(aL.1 hx).elim (hs l' ho x) (hr x)
theorem Ud:∀{b:LI},gdS b->isLeft (mK b 6)=ar
 |[],_=>rfl
 |s::r,h=>by
  have hr:gdS r:=λx hx=>h x (aD _ hx)
  have e2:mK (s::r) 6=(stS s 6).then r (mK r 6):=tz stS s r 6
  obtain⟨hs,_,_,h6⟩:=FU (h s (aF ..));rw[e2]
  rcases hs with⟨_,h⟩|h
  ·rw[Ae h,aa h6];rfl
  ·have:=aW.1 aw3 s h;have e:xH 9 [s] 6=stS s 6:=rfl;rw[e]at this
   cases ho:stS s 6 with
   |no=>rfl
   |gone=>exact Ud hr
   |left l=>rw[ho]at this;cases this
theorem Jl:∀{b:LI},gdS b->LF (mK b 2) ar=LF (mK b 3) ar
 |[],_=>rfl
 |s::r,h=>by
  have hr:gdS r:=λx hx=>h x (aD _ hx)
  have ih:=Jl hr
  have e2:mK (s::r) 2=(stS s 2).then r (mK r 2):=tz stS s r 2
  have e3:mK (s::r) 3=(stS s 3).then r (mK r 3):=tz stS s r 3
  obtain⟨hs,h2,h3,_⟩:=FU (h s (aF ..));rw[e2,e3]
  rcases hs with⟨_,h⟩|h
  ·rw[Ae h,Ae h,aa h2,aa h3];rfl
  ·have:=aW.1 ax4 s h;have e:xH 9 [s] 2=stS s 2:=rfl;have e':xH 9 [s] 3=stS s 3:=rfl;rw[e,e']at this
   cases ho:stS s 2<;>cases an6:stS s 3<;>rw[ho,an6]at this<;>first|rfl|exact ih|simp_all[isLeft,PB]
def uX (b:LI)(k:Int):Bool:=LF (mK b k) (I (6=k))
def pick (p:Int->Bool):Nat->LI
 |0=>[]
 |m+1=>(bif p ((78 - m:Nat):Int)then [((78 - m:Nat):Int)]else [])++pick p m
theorem Np {p:Int->Bool}:∀m:Nat,(pick p m).length<=m
 |0=>aC _
 |m+1=>by
  unfold pick;have:=Np (p:=p) m;cases p ((78 - m:Nat):Int)<;>simp<;>omega
theorem PJ (cs:Cls)(Ez:cs.length<=1999900)(b:LI)(top:Int)(hb:gdS b)(hr:Reads cs top (b++[6])):∀(m:Nat) (acc:LI),m<=78->acc.length+m<=100->Evt λn=>lj (S.tab n) (cs,()) top acc (cs.length:Int) ((79 - m:Nat):Int)=J (an ((cs,()),acc++pick (uX b) m,()))
 |0,acc,_,_=>dt.up λn _=>by
  rw[pO,dm (by decide)];show _=J (an ((cs,()),acc++[],()));simp
 |m+1,acc,hm,hl=>by
  have e:(79 - (m+1):Nat)=78 - m:=(by omega)
  have w:aq.wrap (((78 - m:Nat):Int)+1)=((79 - m:Nat):Int):=by grind [wrap64]
  have d:I (((78 - m:Nat):Int)<=78)=true:=by grind
  rw[e];unfold pick;obtain⟨ds,nx,hd,_,hF⟩:=Da (k:=((78 - m:Nat):Int)) (by omega) (by omega) cs Ez b top hb.ok hr;have hk:LF (mK b ((78 - m:Nat):Int)) (I ((6:Int)=((78 - m:Nat):Int)))=uX b ((78 - m:Nat):Int):=rfl;rw[hk]at hF;have Xt:bounds (cs++ds).length 0 (cs.length:Int)=true:=fS (i:=0) (aX _) (by simp);have aK8:(cs++ds).take (cs.length:Int).toNat=cs:=(by simp)
  cases aM7:uX b ((78 - m:Nat):Int)with
  |true=>
   rw[aM7]at hF
   refine((PJ cs Ez b top hb hr m (acc++[((78 - m:Nat):Int)]) (by omega) (by grind)).and hF).up λn ⟨h,hc⟩=> ?_
   rw[pO,cU d,hc,au];rw[cU Xt,cU rfl,cU (dE (by grind [lim])),aK8,w,h,aI];rfl
  |false=>
   rw[aM7]at hF
   refine((PJ cs Ez b top hb hr m acc (by omega) (by omega)).and hF).up λn ⟨h,hc⟩=> ?_
   rw[pO,cU d,hc,au];rw[cU Xt,dm rfl,aK8,w,h];rfl
theorem YV (cs:Cls)(Ez:cs.length<=1999900)(b:LI)(top:Int)(hb:gdS b)(hr:Reads cs top (b++[6])):Evt λn=>s8 (S.tab n) (cs,()) top=J (pick (uX b) 78,(cs,()),(),()):=
 (PJ cs Ez b top hb hr 78 [] (aC _) (by simp)).up λn h=>by
  have h:lj (S.tab n) (cs,()) top [] (cs.length:Int) 1=_:=h;rw[Fj];rw[h];rfl
theorem Ht {p:Int->Bool}:∀(m:Nat),∀k∈pick p m,0<=k/\k<=78
 |0,k,h=>nomatch h
 |m+1,k,h=>by
  rcases aL.1 h with h|h
  ·grind
  ·exact Ht m k h
end Go.Abs.D
end

section
namespace Go.Abs.D
def dV {R:Type}(p:R->Prop)(F:S.Tab->Option R):Prop:=∃r,p r/\Evt λn=>F (S.tab n)=J r
section
variable{R Q:Type}{p:R->Prop}{q:Q->Prop}{F G:S.Tab->Option R}
theorem dV.up (e:∀T,F (S.step T)=G T):dV p G->dV p F
 |⟨r,hp,he⟩=>⟨r,hp,he.up λn h=>(e (S.tab n)).trans h⟩
theorem dV.bind {H:S.Tab->Option Q}{K:S.Tab->Q->Option R}(h:dV q H)(k:∀r,q r->dV p λT=>K T r):dV p λT=>(H T).bind (K T):=by
 obtain⟨r,hr,e⟩:=h;obtain⟨s,hs,e2⟩:=k r hr;exact⟨s,hs,(e.and e2).mono λn h=>by show(H (S.tab n)).bind (K (S.tab n))=_;rw[h.1];exact h.2⟩
theorem dV.ret {r:R}(h:p r):dV p λ_=>J r:=⟨r,h,Evt.of λ_=>rfl⟩
theorem dV.mono {p':R->Prop}(h:dV p F)(k:∀r,p r->p' r):dV p' F:=by
 obtain⟨r,hr,e⟩:=h;exact⟨r,k r hr,e⟩
theorem dV.brk {b:Bool}(h:b=av->dV p F)(k:b=ar->dV p G):dV p λT=>brk b (F T) (G T):=by
 cases hb:b with
 |true=>obtain⟨r,hr,e⟩:=h hb;exact⟨r,hr,e.mono λn h=>(cU rfl).trans h⟩
 |false=>obtain⟨r,hr,e⟩:=k hb;exact⟨r,hr,e.mono λn h=>(dm rfl).trans h⟩
theorem dV.ite {c:Prop} [Decidable c] (h:c->dV p F)(k:¬ c->dV p G):dV p λT=>Abs.brk (decide c) (F T) (G T):= .brk (λe=>h (of_decide_eq_true e)) λe=>k (of_decide_eq_false e)
theorem dV.yes {b:Bool}(hb:b=av)(h:dV p F):dV p λT=>Abs.brk b (F T) (G T):= .brk (λ_=>h) λe=>by rw[hb]at e;cases e
theorem dV.no {b:Bool}(hb:b=ar)(h:dV p G):dV p λT=>Abs.brk b (F T) (G T):= .brk (λe=>by rw[hb]at e;cases e) λ_=>h
end
theorem inb {i n:Int}(h0:0<=i)(h1:i<n):(I (0<=i)&&I (i<n))=true:=by
 rw[ab h0,ab h1];rfl
theorem HV {α:Type}{l:List α}{d:α}{i:Int}(h0:0<=i)(h1:i<l.length):l.getD i.toNat d∈l:=by
 rw[aG,aJ (show i.toNat<l.length by omega)];exact bm _
theorem dV.then {R Q:Type}{p:R->Prop}{c:Q}{H:S.Tab->Option Q}{K:S.Tab->Q->Option R}(h:Evt λn=>H (S.tab n)=J c)(k:dV p λT=>K T c):dV p λT=>(H T).bind (K T):= .bind ⟨c,rfl,h⟩ λr hr=>hr ▸ k
end Go.Abs.D
end

section
namespace Go.Abs.D
def iY (k:Int)(s:LI):Bool:=
 I (0<s.length)&&I (s.length<=40)&&(match nZ s 0 with| .inl _=>ar| .inr t=>I (t.1=k)&&I (t.2.2.1=(s.length:Int)))
theorem Mr (s:LI)(i j:Nat)(f:Bool):(kU s i j f).1=2\/(kU s i j f).1=3:=by
 unfold kU
 grind
theorem R8 {s:LI}{i j:Nat}{f:Bool}{t:cZ.den}(h:vY s i j f= .inr t):t.1=2\/t.1=3:=by
 unfold vY at h
 grind [decide,get,dJ,oZ,Mr]
theorem NJ {s:LI}{i:Nat}{t:cZ.den}(h:mJ s i= .inr t):t.1=2\/t.1=3:=by
 unfold mJ at h
 have fr:∀j,v8 s i j= .inr t->t.1=2\/t.1=3:=λj h=>by
  grind [v8,decide,get,dJ,R8]
 cases h0:I (get s i=48)&&I (get s (i+1)=120)with
 |false=>grind
 |true=>
  unfold lf at h
  grind
def kd (t:cZ.den):Int:=t.1
theorem aw7 (f:LI):5<=sgn f:=by
 unfold sgn
 grind
theorem H3 {s:LI}{i:Nat}{t:cZ.den}(h:nZ s i= .inr t):
  (iI (get s i)=av->kd t=1\/10<=kd t)/\(iI (get s i)=ar->dJ (get s i)=av->kd t=2\/kd t=3)/\(iI (get s i)=ar->dJ (get s i)=ar->4<=kd t):=by
 unfold nZ at h;refine⟨λhl=> ?_,λhl hd=> ?_,λhl hd=> ?_⟩
 ·rw[hl]at h
  injection h with h
  subst h;unfold I7;simp;split
  ·right;show(10:Int)<=((10+_:Nat):Int);omega
  ·exact .inl rfl
 ·rw[hl,hd]at h;exact NJ h
 ·rw[hl,hd]at h
  cases Dm:I (get s i=34)with
  |true=>
   rw[Dm]at h;have h:LD i (gR s s.length (i+1) [])= .inr t:=h
   cases hr:gR s s.length (i+1) []with
   |inl e=>rw[hr]at h;cases h
   |inr y=>
    rw[hr]at h
    injection h with h
    subst h;exact bF 4
  |false=>
   rw[Dm]at h;unfold A7 mU at h
   cases hk:I (nH (p3 s i)<30)with
   |false=>simp_all
   |true=>
    rw[hk]at h;simp only[ai]at h;rw[aa (FV _)]at h
    injection h with h
    subst h;have:=aw7 (dS.getD (nH (p3 s i)) []);show(4:Int)<=((sgn _:Nat):Int);omega
def one (k:Int)(s:LI):Bool:=match nZ s 0 with| .inl _=>ar| .inr t=>I (t.1=k)&&I (t.2.2.1=(s.length:Int))
theorem Kh {c:Int}(h:iI c=av):dJ c=false:=by
 grind [dJ,dig,iI]
end Go.Abs.D
end

section
namespace Go.Abs.D
def fxI (t:Int):LI:=bif I (0<=t)&&I (t<=78)then fx t.toNat else []
def tq (t:Int)(k:Nat):Bool:=I (k<30)&& !I (((sgn (dS.getD k []):Nat):Int)=t)
def W0 (t:Int):LI:=bif I (stop (tq t) 30 0<30)then dS.getD (stop (tq t) 30 0) []else []
theorem OZ (t:Int):Evt λn=>gI (S.tab n) t dS 30 0=J (bif I (stop (tq t) 30 0<30)then an (dS.getD (stop (tq t) 30 0) [],())else aE (an ())):=by
 have hp:Evt λn=>∀f∈dS,lY (S.tab n) f=J ((sgn f:Int),cO):=F7 dS sign_one
 refine adv (F:=λT (j:Nat)=>gI T t dS 30 ↑j) (q:=tq t) (N:=30) (p:=λT=>∀f∈dS,lY T f=J ((sgn f:Int),cO))
  (out:=λk=>bif I (k<30)then an (dS.getD k [],())else aE (an ())) hp (λj h=>by simp_all[tq,aa]) ?_ ?_ 30 0 (by omega)
 ·intro T j hs hq;unfold tq at hq;simp only[aA,ae,cq,af]at hq;have hj:j<dS.length:=hq.1
  have hm:dS.getD j []∈dS:=by
   simp_all
  show gI (S.step T) t dS 30 j=gI T t dS 30 ((j+1:Nat):Int);rw[vq,cU (by grind),cU (db hj),bq,hs _ hm,au,dm (aa hq.2),dX (by omega)]
 ·intro T j hs hq;show gI (S.step T) t dS 30 j=_;rw[vq]
  by_cases Dq:j<30
  ·have hj:j<dS.length:=Dq
   have hm:dS.getD j []∈dS:=by
    simp_all
   unfold tq at hq;rw[ab Dq,ct,cM,ae]at hq;rw[cU (by grind),cU (db hj),bq,hs _ hm,au,dA hq,ab Dq];rfl
  grind [dm,aa]
theorem XY:∀k:Nat,k<30->5<=sgn (dS.getD k [])/\sgn (dS.getD k [])<=78:=by
 grind [sgn]
theorem S7 (t:Int)(h5:t≠5)(hw:¬ (10<=t/\t<=31)):W0 t=fxI t:=by
 by_cases h:0<=t/\t<=78
 ·have key:∀k:Fin 79,k.1≠5->¬ (10<=k.1/\k.1<=31)->W0 (k.1:Int)=fxI (k.1:Int):=by decide+kernel
  have:=key ⟨t.toNat,by omega⟩ (by grind) (by simp_all)
  grind
 ·have we:∀k,k<30->tq t k=true:=λk hk=>by
   have:=XY k hk;unfold tq
   grind
  have pH:¬ stop (tq t) 30 0<30:=λkI=>by
   have:=zn (q:=tq t) (N:=30) (λj hj=>by simp_all[tq,aa]) 30 0 (by omega);simp_all
  grind [W0,fxI,aa,decide]
theorem Lu:Evt λn=>Base1 (S.tab n):=Evt.up (Evt.of (p:=λ_=>True) λ_=>trivial) λn _=>xy _
theorem Jy (t:Int)(h1: -9223372036854775808<=t)(h2:t<=9223372036854775807):Evt λn=>fK (S.tab n) t=J (fxI t,cO):=by
 by_cases h5:t=5
 ·subst h5
  refine dt.up λn _=> ?_
  rw[yY,cU (by rfl)];rfl
 refine((OZ t).and (NL.and Lu)).up λn ⟨h7,au1,hb⟩=> ?_
 rw[yY,da h5,hb.words,au]
 by_cases hw:10<=t/\t<=31
 ·have e:aq.wrap (t - 10)=((t.toNat - 10:Nat):Int):=by grind [wrap64]
  have wl:aq.wrap (10+((Lx.words.length:Nat):Int))=32:=rfl;rw[cU (ab hw.1)];show brk (I (t<aq.wrap (10+((Lx.words.length:Nat):Int)))) (brk (I (0<=aq.wrap (t - 10))&&I (aq.wrap (t - 10)<((Lx.words.length:Nat):Int))) (J (Lx.words.getD (aq.wrap (t - 10)).toNat [],cO)) ay) _=_;rw[wl,dA (by omega),e,cU (db (show t.toNat - 10<Lx.words.length by show t.toNat - 10<22;omega)),bq]
  grind [fxI,fx,ab]
 ·have fin:(oS (S.tab n)).bind (λd23=>(gI (S.tab n) t d23.1 (d23.1.length:Int) (0:Int)).bind (dM (λy7=>J (y7.1,cO)) (λy7=>J (([]:LI),cO))))=J (fxI t,cO):=by
   rw[au1,au];show(gI (S.tab n) t dS 30 0).bind _=_;rw[h7,au,<-S7 t h5 hw];unfold W0;cases I (stop (tq t) 30 0<30)<;>rfl
  by_cases AH:10<=t
  ·rw[dA AH];have wl:aq.wrap (10+((Lx.words.length:Nat):Int))=32:=rfl;show brk (I (t<aq.wrap (10+((Lx.words.length:Nat):Int)))) _ _=_;rw[wl,da (by omega)];exact fin
  simp_all[dm,aa]
end Go.Abs.D
end

section
namespace Go.Abs.D
abbrev Node:Type:=cR.den
def cP (x:cR.den):LI:=x.2.2.2.2.2.2.2.2.1
def cW (x:cR.den):List LI:=x.2.2.2.2.2.2.2.1
structure NodeOk (x:cR.den):Prop where
 text:∀c∈x.2.2.2.2.2.2.1,isByte c
 names:∀m∈cW x,∀c∈m,isByte c
 nn:(cW x).length<=2097152
 nk:(cP x).length<=2097152
@[reducible] def rg (n:Int):Prop:= -9223372036854775808<=n/\n<=9223372036854775807
structure RgI (x:cR.den):Prop where
 f1:rg x.1
 f2:rg x.2.1
 f3:rg x.2.2.1
 f4:rg x.2.2.2.1
 f5:rg x.2.2.2.2.1
 f6:rg x.2.2.2.2.2.1
end Go.Abs.D
end

section
namespace Go.Abs.D
theorem Sa {c:Int}(h:iI c=av):dJ c=ar/\c≠34/\c≠45:=by
 refine⟨Kh h,λe=> ?_,λe=> ?_⟩<;>(subst e;cases h)
theorem ay2:∀k:Nat,k<30->sgn (dS.getD k [])≠6:=by
 grind [sgn]
theorem Sm {s:LI}{i:Nat}{t:cZ.den}(h:nZ s i= .inr t):1<=kd t/\kd t<=78/\kd t≠6/\(get s i=34->kd t=4):=by
 unfold nZ at h
 cases hl:iI (get s i)with
 |true=>
  rw[hl]at h
  injection h with h
  subst h;have Dm:get s i≠34:=(Sa hl).2.1;unfold I7;simp;split
  ·rename_i hk;exact⟨by show(1:Int)<=((10+zB (sub s ↑i (w8 s i:Int)):Nat):Int);omega,by show((10+zB (sub s ↑i (w8 s i:Int)):Nat):Int)<=78;omega,by show((10+zB (sub s ↑i (w8 s i:Int)):Nat):Int)≠6;omega,λe=>absurd e Dm⟩
  ·exact⟨by show(1:Int)<=1;decide,by show(1:Int)<=78;decide,by show(1:Int)≠6;decide,λe=>absurd e Dm⟩
 |false=>
  rw[hl]at h
  cases hd:dJ (get s i)with
  |true=>
   have Dm:get s i≠34:=λe=>by rw[e]at hd;cases hd
   grind [NJ,kd,absurd]
  |false=>
   rw[hd]at h
   cases Dm:I (get s i=34)with
   |true=>
    rw[Dm]at h;have h:LD i (gR s s.length (i+1) [])= .inr t:=h
    cases hr:gR s s.length (i+1) []with
    |inl e=>rw[hr]at h;cases h
    |inr y=>
     rw[hr]at h
     injection h with h
     subst h;exact⟨by show(1:Int)<=4;decide,by show(4:Int)<=78;decide,by show(4:Int)≠6;decide,λ_=>rfl⟩
   |false=>
    have aH0:get s i≠34:=of_decide_eq_false Dm;rw[Dm]at h;unfold A7 mU at h
    cases hk:I (nH (p3 s i)<30)with
    |false=>simp_all
    |true=>
     rw[hk]at h;simp only[ai]at h;rw[aa (FV _)]at h
     injection h with h
     subst h;have hk:=of_decide_eq_true hk;have h1:=XY _ hk;have h2:=ay2 _ hk;refine⟨?_, ?_, ?_,λe=>absurd e aH0⟩
     ·show(1:Int)<=((sgn _:Nat):Int);omega
     ·show((sgn _:Nat):Int)<=78;omega
     ·show((sgn _:Nat):Int)≠6;omega
def lnd (t:cZ.den)(line:Int):cZ.den:=(t.1,t.2.1,t.2.2.1,line,t.2.2.2.2)
theorem QY (n:Int):rg (aq.wrap n):=by
 grind [IntKind.wrap_i64]
theorem D7 {s:LI}(Iq:∀c∈s,isByte c)(a b:Int):∀c∈sub s a b,isByte c:=λc hc=>Iq c (cC (cD hc))
theorem OI {s:LI}(Iq:∀c∈s,isByte c)(a b:Nat):∀c∈eR s a b,isByte c:=λc hc=>Iq c (cC (cD hc))
theorem MF {s:LI}(Iq:∀c∈s,isByte c)(i j:Nat)(f:Bool):∀c∈(kU s i j f).2.2.2.2.2.1,isByte c:=by
 grind [kU,decide,dv,eR,OI]
theorem Tu {s:LI}(Iq:∀c∈s,isByte c){i:Nat}{t:cZ.den}(h:mJ s i= .inr t):∀c∈t.2.2.2.2.2.1,isByte c:=by
 unfold mJ at h
 have ex:∀{j f},vY s i j f= .inr t->∀c∈t.2.2.2.2.2.1,isByte c:=λ{j f} h=>by
  unfold vY at h
  grind [decide,get,dJ,oZ,MF]
 have fr:∀j,v8 s i j= .inr t->∀c∈t.2.2.2.2.2.1,isByte c:=λj h=>by
  grind [v8,decide,get,dJ]
 cases h0:I (get s i=48)&&I (get s (i+1)=120)with
 |false=>grind
 |true=>
  unfold lf at h
  grind
theorem TG {s:LI}(Iq:∀c∈s,isByte c){i:Nat}{t:cZ.den}(h:nZ s i= .inr t):∀c∈t.2.2.2.2.2.1,isByte c:=by
 unfold nZ at h
 cases hl:iI (get s i)with
 |true=>
  grind [I7,D7]
 |false=>
  rw[hl]at h
  cases hd:dJ (get s i)with
  |true=>grind [Tu]
  |false=>
   rw[hd]at h
   cases Dm:I (get s i=34)with
   |true=>
    rw[Dm]at h;have h:LD i (gR s s.length (i+1) [])= .inr t:=h
    cases hr:gR s s.length (i+1) []with
    |inl e=>rw[hr]at h;cases h
    |inr y=>
     rw[hr]at h
     injection h with h
     intro c hc
     grind [byte,isByte]
   |false=>
    grind [A7,mU,p3,decide]
theorem OK {s:LI}{i j:Nat}(f:Bool)(hd:f=ar->digits s i j):(kU s i j f).2.1=(i:Int)/\rg (kU s i j f).2.2.2.2.1:=by
 unfold kU
 cases f with
 |true=>grind
 |false=>
  cases hl:I (dv 0 (eR s i j)<9223372036854775808)with
  |false=>grind
  |true=>
   have h1:=E5 (eR s i j) 0 (bF 0) (hd rfl)
   grind
theorem Wo {s:LI}{i:Nat}(hi:i<s.length){t:cZ.den}(h:nZ s i= .inr t):t.2.1=(i:Int)/\rg t.2.2.2.2.1:=by
 unfold nZ at h
 cases hl:iI (get s i)with
 |true=>
  rw[hl]at h
  injection h with h
  subst h;unfold I7
  grind
 |false=>
  rw[hl]at h
  cases hd:dJ (get s i)with
  |true=>
   rw[hd]at h
   have ex:∀{j f},(f=ar->digits s i j)->vY s i j f= .inr t->t.2.1=(i:Int)/\rg t.2.2.2.2.1:=λ{j f} hf h=>by
    unfold vY at h
    grind [decide,get,dJ,oZ,OK]
   have d1:digits s i (i+1):=λc hc=>by
    refine C2 (p:=dJ) (a:=i) 1 (by omega) (λk h1 h2=> ?_) c hc
    grind
   have fr:∀j,digits s i j->v8 s i j= .inr t->t.2.1=(i:Int)/\rg t.2.2.2.2.1:=λj hj h=>by
    grind [v8,decide,get,dJ]
   unfold mJ at h
   cases h0:I (get s i=48)&&I (get s (i+1)=120)with
   |false=>
    grind [decide,get,BD]
   |true=>
    rw[h0]at h;unfold lf at h
    by_cases he:nI s (i+18) (i+2)=i+2
    ·simp_all
    ·simp[he]at h
     cases hx:jS (get s (nI s (i+18) (i+2)))with
     |true=>simp_all
     |false=>simp only[hx,bZ,if_false]at h;injection h with h;subst h;exact⟨rfl,QY _⟩
  |false=>
   rw[hd]at h
   cases Dm:I (get s i=34)with
   |true=>
    rw[Dm]at h;have h:LD i (gR s s.length (i+1) [])= .inr t:=h
    cases hr:gR s s.length (i+1) []with
    |inl e=>rw[hr]at h;cases h
    |inr y=>rw[hr]at h;injection h with h;grind
   |false=>
    rw[Dm]at h;unfold A7 at h
    grind
end Go.Abs.D
end

section
namespace Go.Abs.D
def nq (s:LI)(j:Nat):Bool:=I (j<s.length)&& !I (get s j=10)
def N6 (s:LI)(j:Nat):Nat:=stop (nq s) s.length j
def blk (s:LI):Nat->Nat->Nat
 |0,j=>j
 |k+1,j=>
  bif I (s.length<=j)then j else
  bif I (get s j=32)then blk s k (j+1)else
  bif I (get s j=9)then blk s k (j+1)else
  bif I (get s j=13)then blk s k (j+1)else
  bif I (get s j=45)&&I (get s (j+1)=45)then blk s k (N6 s j)else j
def blank (s:LI)(j:Nat):Nat:=blk s s.length j
theorem Lz {s:LI}:∀j,s.length<=j->nq s j=false:=λj h=>by simp_all[nq,aa]
theorem XT {s:LI}{j:Nat}(h:j<=s.length):N6 s j<=s.length:=xE Lz _ _ h
theorem ag2 {s:LI}{j:Nat}(h:get s j=45):j<N6 s j:=by
 have hl:=lD h (by decide)
 have hq:nq s j=true:=by simp_all[nq,ab]
 have:=tj (q:=nq s) s.length (j+1);have e:=Jt (q:=nq s) (N:=s.length) Lz (k:=s.length) (j:=j) (by omega) hq
 grind [N6]
theorem Ih {s:LI}:∀(k j:Nat),j<=s.length->blk s k j<=s.length/\j<=blk s k j
 |0,j,h=>⟨h,aC _⟩
 |k+1,j,h=>by
  unfold blk
  by_cases hl:s.length<=j
  ·simp_all
  have ih:=Ih (s:=s) k (j+1) (by omega);rw[aa hl]
  cases I (get s j=32)with
  |true=>grind
  |false=>
  cases I (get s j=9)with
  |true=>grind
  |false=>
  cases I (get s j=13)with
  |true=>grind
  |false=>
  cases I (get s j=45)&&I (get s (j+1)=45)with
  |true=>
   have ih:=Ih (s:=s) k (N6 s j) (XT h);have:=tj (q:=nq s) s.length j;refine⟨ih.1, ?_⟩;have:=ih.2;simp;unfold N6 at this⊢;omega
  |false=>simp_all
variable{s:LI}(hs:s.length<=2097152)
include hs
theorem OP (j:Nat):Evt λn=>iR (S.tab n) s (j:Int)=J (an (s,(N6 s j:Int),())):=
 adv (F:=λT j=>iR T s ↑j) (out:=λj=>an (s,(j:Int),())) dt Lz
  (λT j h hq=>by
   have hj:=oY Lz hq;unfold nq at hq;rw[aA]at hq;show iR (S.step T) s j=iR T s ((j+1:Nat):Int)
   rw[sT,cU (by simp_all),cU (db hj),dC,cU hq.2,dX (by omega)])
  (λT j h hq=>by
   show iR (S.step T) s j=_;rw[sT]
   by_cases hj:j<s.length
   ·unfold nq at hq
    grind [cU,db,dC,dm,hq]
   simp_all[dm]) s.length j (by omega)
def BR (e:Nat)(y:(Int×Unit)⊕(Int×Unit)⊕Empty):Prop:=y= .inl ((e:Int),())\/y= .inr (.inl ((e:Int),()))
theorem qm:∀(k j:Nat),s.length<=j+k->j<=s.length->Evt λn=>∃y,eE (S.tab n) s (j:Int)=J y/\BR (blk s k j) y
 |0,j,hk,hj=>by
  refine dt.up λn hb=> ?_
  show∃y,eE (S.step (S.tab n)) _ _=_/\_;rw[gw,dm (by simp_all)];exact⟨_,rfl, .inr rfl⟩
 |k+1,j,hk,hj=>by
  by_cases hl:s.length<=j
  ·refine dt.up λn hb=> ?_
   show∃y,eE (S.step (S.tab n)) _ _=_/\_;rw[gw,dm (by simp_all)];refine⟨_,rfl, .inr ?_⟩;simp_all[blk,ab]
  have Iz:j<s.length:=(by omega);have rL:=db Iz
  have kI:I ((j:Int)<(s.length:Int))=true:=by simp_all
  have w1:aq.wrap ((j:Int)+1)=((j+1:Nat):Int):=dX (by omega);have ih:=qm k (j+1) (by omega) (by omega);unfold blk;rw[aa hl]
  by_cases c1:get s j=32
  ·refine ih.up λn h=> ?_
   grind [eE,gw,cU,dC,ab]
  by_cases c2:get s j=9
  ·refine ih.up λn h=> ?_
   show∃y,eE (S.step (S.tab n)) _ _=_/\_;rw[gw,cU kI,cU rL,dC,da c1,dA c2,w1,ab c2,aa c1];exact h
  by_cases c3:get s j=13
  ·refine ih.up λn h=> ?_
   show∃y,eE (S.step (S.tab n)) _ _=_/\_;rw[gw,cU kI,cU rL,dC,da c1,da c2,dA c3,w1,ab c3,aa c2,aa c1];exact h
  rw[aa c1,aa c2,aa c3]
  by_cases h45:¬ get s j=45
  ·rw[aa h45]
   refine dt.up λn hb=> ?_
   show∃y,eE (S.step (S.tab n)) _ _=_/\_;rw[gw,cU kI,cU rL,dC,da c1,da c2,da c3,cU (by simp_all)];exact⟨_,rfl, .inl rfl⟩
  replace h45:=bP.1 h45
  by_cases E6:¬ get s (j+1)=45
  ·rw[aa E6,aQ]
   refine dt.up λn hb=> ?_
   show∃y,eE (S.step (S.tab n)) _ _=_/\_;rw[gw,cU kI,cU rL,dC,da c1,da c2,da c3,dm (by simp_all),w1,hb.look,au,cU (by simp_all)];exact⟨_,rfl, .inl rfl⟩
  replace E6:=bP.1 E6
  have hg:=ag2 h45;have hle:=XT (s:=s) (j:=j) hj;have ih:=qm k (N6 s j) (by omega) hle
  refine((ih.and (OP hs j)).and dt).up λn ⟨⟨h,h6⟩,hb⟩=> ?_
  show∃y,eE (S.step (S.tab n)) _ _=_/\_;rw[gw,cU kI,cU rL,dC,da c1,da c2,da c3,dm (by simp_all),w1,hb.look,au,dm (by simp_all),h6,ab h45,ab E6];exact h
theorem uA {j:Nat}(hj:j<=s.length):Evt λn=>mg (S.tab n) s (j:Int)=J ((blank s j:Int),cQ):=
 (qm hs s.length j (by omega) hj).up λn ⟨y,h,hr⟩=>by
  rw[DP,h,au]
  rcases hr with rfl|rfl<;>rfl
end Go.Abs.D
end

section
namespace Go.Abs.D
abbrev BgR:Type:=(Bool×Unit)⊕(Unit)⊕Empty
theorem HB (c:Int):Evt λn=>jI (S.tab n) c=J (iI c,cO):=Lu.mono λn h=>h.sletter c
theorem KU (c:Int):Evt λn=>eV (S.tab n) c=J (dJ c,cO):=Lu.mono λn h=>h.sdigit c
theorem T1 (s:LI)(j:Nat):Evt λn=>eH (S.tab n) s (j:Int)=J (get s j,cQ):=Lu.mono λn h=>h.look s j
theorem Hq {p ks:LI}(hp:0<p.length)(hk:∀k∈ks,0<=k/\k<=78)(hl:ks.length<=100):∀(m j:Nat),j+m=ks.length->dV (λ_:BgR=>True) λT=>dz T p ks (ks.length:Int) ↑j
 |0,j,h=> .up (λT=>tO T _ _ _ _) (.no (aa (by omega)) (.ret trivial))
 |m+1,j,h=>by
  have rL:j<ks.length:=(by omega);have ih:=Hq hp hk hl m (j+1) (by omega);rw[<-dX (show j<=4194304 by omega)]at ih;have tu:I ((0:Int)<(p.length:Int))=true:=ab (by omega);have aL5:0<=ks.getD j 0/\ks.getD j 0<=78:=hk _ (by rw[aG,aJ rL];exact bm _);refine .up (λT=>tO T _ _ _ _) (.yes (ab (by omega)) (.yes (db rL) ?_));have ek:ks.getD ((j:Nat):Int).toNat 0=ks.getD j 0:=rfl;rw[ek]
  have tail:dV (λ_:BgR=>True) λT=>(fK T (ks.getD j 0)).bind λd52=>brk (I ((p.length:Int)<=(d52.1.length:Int))) (brk (bounds d52.1.length 0 (p.length:Int)) (brk (I ((sub d52.1 0 (p.length:Int))=p)) (J (an (av,()))) (dz T p ks (ks.length:Int) (aq.wrap ((j:Int)+1)))) ay) (dz T p ks (ks.length:Int) (aq.wrap ((j:Int)+1))):=
   .then (Jy _ (by omega) (by omega)) (.ite (λh=> .yes (fS (i:=0) (aX _) (Int.ofNat_le.1 h)) (.ite (λ_=> .ret trivial) λ_=>ih)) λ_=>ih)
  have t4:dV (λ_:BgR=>True) λT=>brk (I (ks.getD j 0=4)) (brk (I (0<(p.length:Int))) (brk (I (p.getD 0 0=34)) (J (an (av,()))) ((fK T (ks.getD j 0)).bind λd52=>brk (I ((p.length:Int)<=(d52.1.length:Int))) (brk (bounds d52.1.length 0 (p.length:Int)) (brk (I ((sub d52.1 0 (p.length:Int))=p)) (J (an (av,()))) (dz T p ks (ks.length:Int) (aq.wrap ((j:Int)+1)))) ay) (dz T p ks (ks.length:Int) (aq.wrap ((j:Int)+1))))) ay) ((fK T (ks.getD j 0)).bind λd52=>brk (I ((p.length:Int)<=(d52.1.length:Int))) (brk (bounds d52.1.length 0 (p.length:Int)) (brk (I ((sub d52.1 0 (p.length:Int))=p)) (J (an (av,()))) (dz T p ks (ks.length:Int) (aq.wrap ((j:Int)+1)))) ay) (dz T p ks (ks.length:Int) (aq.wrap ((j:Int)+1)))):=
   .brk (λ_=> .yes tu (.brk (λ_=> .ret trivial) λ_=>tail)) λ_=>tail
  refine .brk (λ_=> .yes tu (.then (HB _) (.brk (λ_=> .ret trivial) λ_=> ?_))) λ_=> ?_ <;>
   exact .brk (λ_=> .yes tu (.then (KU _) (.brk (λ_=> .ret trivial) λ_=>t4))) λ_=> .brk (λ_=> .yes tu (.then (KU _) (.brk (λ_=> .ret trivial) λ_=>t4))) λ_=>t4
theorem Pc {p ks:LI}(hp:0<p.length)(hk:∀k∈ks,0<=k/\k<=78)(hl:ks.length<=100):dV (λ_:Bool×Unit×Unit×Unit=>True) λT=>xn T ks p:=by
 have t:dV (λ_:Bool×Unit×Unit×Unit=>True) λT=>(dz T p ks (ks.length:Int) 0).bind (dM (λy4=>J (y4.1,cQ)) (λy4=>J (ar,cQ))):=
  .bind (Hq hp hk hl ks.length 0 (by omega)) λr _=>match r with
   | .inl _=> .ret trivial
   | .inr (.inl _)=> .ret trivial
 exact .up (λT=>FC T _ _) (.brk (λ_=> .yes (ab (by omega)) (.brk (λ_=> .ret trivial) λ_=>t)) λ_=>t)
variable{s:LI}(hs:s.length<=65536)
include hs
theorem Hf {ks:LI}(hk:∀k∈ks,0<=k/\k<=78)(hl:ks.length<=100){i:Nat}(hi:i<s.length):∀(d n:Nat),s.length<=i+n+d->i+n<=s.length->dV (λr:(Int×Int×Unit)⊕Empty=>∃m:Nat,r=an ((i:Int),(m:Int),())/\i+m<=s.length) λT=>ko T s ↑i ks ↑n
 |0,n,h,hn=> .up (λT=>tX T _ _ _ _) (.no (aa (by rw[wrap64 _ (by omega) (by omega)];omega)) (.ret ⟨n,rfl,hn⟩))
 |d+1,n,h,hn=>by
  have w1:aq.wrap ((i:Int)+(n:Int))=((i+n:Nat):Int):=by rw[wrap64 _ (by omega) (by omega)];omega
  refine .up (λT=>tX T _ _ _ _) (.ite (λkI=> ?_) λ_=> .ret ⟨n,rfl,hn⟩);rw[w1]at kI
  have w2:aq.wrap (((i+n:Nat):Int)+1)=((i+(n+1):Nat):Int):=by rw[wrap64 _ (by omega) (by omega)];omega
  have w3:aq.wrap ((n:Int)+1)=((n+1:Nat):Int):=dX (by omega)
  have w4:aq.wrap ((i:Int)+((n+1:Nat):Int))=((i+(n+1):Nat):Int):=by rw[wrap64 _ (by omega) (by omega)];omega
  have ih:=Hf hk hl hi d (n+1) (by omega) (by omega);rw[w1,w2,w3,w4,rI];refine .yes (fS (by omega) (by omega)) (.bind (Pc (by rw[sx (by omega)];omega) hk hl) λr _=> .brk (λ_=> .yes (db hi) (.then (HB _) (.brk (λ_=> .then (T1 s _) (.then (HB _) (.brk (λ_=> .then (T1 s _) (.then (KU _) (.brk (λ_=> .ret ⟨n+1,rfl,by omega⟩) λ_=>ih))) λ_=>ih))) λ_=>ih))) λ_=> .ret ⟨n,rfl,hn⟩)
theorem OG {ks:LI}(hk:∀k∈ks,0<=k/\k<=78)(hl:ks.length<=100){i:Nat}(hi:i<s.length):∃w:Nat,Evt λn=>qw (S.tab n) s ↑i ks=J ((w:Int),dU):=by
 obtain⟨r,⟨m,rfl,hm⟩,h⟩:=Hf hs hk hl hi (s.length) 0 (by omega) (by omega);refine⟨i+m,h.up λn h=> ?_⟩;have h:ko (S.tab n) s ↑i ks 0=_:=h;rw[Fp,h,au];show J (aq.wrap ((i:Int)+(m:Int)),dU)=_;rw[wrap64 _ (by omega) (by omega),show(i:Int)+(m:Int)=((i+m:Nat):Int)by omega]
omit hs in
def xY (a:LI):LI->Option (LI)
 |[]=>J a
 |k::ks=>match mK a k with| .left l=>xY l ks|_=>ay
omit hs in
theorem BI:∀(ks:LI) (a b l:LI) (k:Int),xY a ks=J b->mK b k= .left l->xY a (ks++[k])=J l
 |[],a,b,l,k,h,ho=>by simp_all[xY]
 |k'::ks,a,b,l,k,h,ho=>by
  have h:(match mK a k' with| .left l=>xY l ks|_=>ay)=J b:=h;show(match mK a k' with| .left l=>xY l (ks++[k])|_=>ay)=J l
  cases hx:mK a k' with
  |no=>rw[hx]at h;cases h
  |gone=>rw[hx]at h;cases h
  |left m=>rw[hx]at h;exact BI ks m b l k h ho
omit hs in
def W9 (s:LI)(t:cZ.den):Prop:=∃i e line:Nat,(i<e/\e<=s.length/\line<=i+1)/\(t.2.1=(i:Int)/\t.2.2.1=(e:Int)/\t.2.2.2.1=(line:Int))/\(1<=kd t/\kd t<=78)/\rg t.2.2.2.2.1/\∀c∈t.2.2.2.2.2.1,isByte c
omit hs in
def frT (t:cZ.den):Int:=t.2.1
omit hs in
def toT (t:cZ.den):Int:=t.2.2.1
omit hs in
def Srt (out:List cZ.den)(i:Nat):Prop:=(∀t∈out,toT t<=(i:Int))/\out.Pairwise λx y=>toT x<=frT y
omit hs in
theorem Srt.snoc {out:List cZ.den}{i e j:Nat}{t:cZ.den}(h:Srt out i)(h1:frT t=(i:Int))(h2:toT t=(e:Int))(hi:i<=e)(he:e<=j):Srt (out++[t]) j:=by
 refine⟨λx hx=> ?_,List.pairwise_append.2 ⟨h.2,List.pairwise_singleton ..,λx hx y hy=> ?_⟩⟩
 ·rcases aL.1 hx with hx|hx
  ·have:=h.1 x hx;omega
  ·rw[bD.1 hx];omega
 ·rw[bD.1 hy];have:=h.1 x hx;omega
omit hs in
theorem Srt.mono {out:List cZ.den}{i j:Nat}(h:Srt out i)(k:i<=j):Srt out j:=⟨λt ht=>by have:=h.1 t ht;omega,h.2⟩
abbrev W16:Type:=((List ja.den×Unit)×LI×Int×List cZ.den×Int×Int×Unit)⊕((List ja.den×Unit)×List cZ.den×ja.den)⊕((List ja.den×Unit)×LI×Int×List cZ.den×Int×Int×Unit)⊕Empty
omit hs in
theorem We (y:W16):Sy (λmq=>J (an mq:W16)) (λmq=>J (aE (an mq))) (λmq=>J (aE (aE (an mq)))) y=J y:=by
 rcases y with y|y|y|y
 ·rfl
 ·rfl
 ·rfl
 grind
omit hs in
theorem zo {k:Int}(hk:1<=k){cs ds:Cls}{top nx:Int}{ok:Bool}{out:List cZ.den}{line:Int}{i:Nat}{n:Nat}(hF:mh (S.tab n) (cs,()) top k=J ((nx,ok,()),(ds,()),(),(),())){tok:cZ.den}{t12:Int}{y:W16}
  (h:iG (S.tab n) (ds,()) s top out line (i:Int) tok t12 k nx ok=J y):fY (S.step (S.tab n)) (cs,()) s top out line ↑i tok t12 k=J y:=by
 grind [uo,cU,We]
theorem Nh (cs:Cls)(top:Int)(i:Nat)(out:List cZ.den)(ho:out.length<=70000)(line:Int)(tok:cZ.den){e:Nat}(he:tok.2.2.1=(e:Int))(Ox:e<=s.length)(t13 t14:Int):Evt λn=>iG (S.tab n) (cs,()) s top out line ↑i tok (-1) t13 t14 av=J (aE (aE (an ((cs,()),s,t14,out++[(t13,tok.2)],line,(blank s e:Int),())))):=
 (uA (s:=s) (by omega) (j:=e) Ox).up λn aF1=>by
  rw[mP,dm (by rfl),dm (by rfl),dm (by rfl),cU (dE (by grind [lim])),he,aF1,au]
omit hs in
theorem UN {b:LI}{cs:Cls}{top:Int}(hb:gdS b)(hr:Reads cs top (b++[6]))(Ez:cs.length<=1999800){i:Nat}{w:Nat}(hw:Evt λn=>qw (S.tab n) s (i:Int) (pick (uX b) 78)=J ((w:Int),dU)){k:Int}(h0:0<=k)(aT7:k<=78)(out:List cZ.den)(line:Int)(e:Nat):
  Evt λn=>∀(tok:cZ.den) (t12:Int),tok.1≠7->(1<=k->uX b k=av->t12=(e:Int))->∃c t,fY (S.tab n) (cs,()) s top out line ↑i tok t12 k=J (aE (an (c,[],t,((bif I (1<=k)&&uX b k then e else w:Nat):Int),()))):=by
 have Yq:∀{ds:Cls},Reads ds top (b++[6])->ds.length<=1999900->Evt λn=>∀(tok:cZ.den) (t12 t13 t14:Int),tok.1≠7->iG (S.tab n) (ds,()) s top out line ↑i tok t12 t13 t14 ar=J (aE (an ((ds,()),[],top,(w:Int),()))):=λ{ds} hr hl=>
  ((YV ds hl b top hb hr).and hw).up λn ⟨hm,hx⟩ tok t12 t13 t14 h7=>by
   simp_all[mP,cU,dm,aa,au]
 by_cases h1:1<=k
 ·obtain⟨ds,nx,hd,_,hF⟩:=Da (k:=k) h0 aT7 cs (by omega) b top hb.ok hr;have hk:LF (mK b k) (I ((6:Int)=k))=uX b k:=rfl;rw[hk]at hF;rw[ab h1,ct]
  cases hc:uX b k with
  |false=>
   rw[hc]at hF
   exact(hF.and (Yq hr.mono (by grind))).up λn ⟨hF,Aj⟩ tok t12 h7 _=>⟨_,_,zo h1 hF (Aj tok t12 k nx h7)⟩
  |true=>
   rw[hc]at hF
   refine(hF.and dt).up λn ⟨hF,_⟩ tok t12 h7 ht=> ?_
   rw[ht h1 rfl];refine⟨(cs++ds,()),top, ?_⟩
   obtain⟨m,rfl⟩:∃m,n=m+1:=⟨n - 1,by
    rcases Nat.eq_zero_or_pos n with h|h
    ·subst h;cases hF
    ·omega⟩
   refine zo h1 hF (y:=aE (an ((cs++ds,()),[],top,(e:Int),()))) ?_;show iG (S.step (S.tab m)) _ _ _ _ _ _ _ _ _ _ _=_;rw[mP,dm (by rfl),dm (by rfl),dA (show(0:Int)<=(e:Int)by omega)]
 ·rw[aa h1,a47];have SY:k=0:=(by omega);subst SY
  refine(Yq hr (by omega)).up λn Aj tok t12 h7 _=>⟨(cs,()),top, ?_⟩
  rw[uo,dm (by rfl)];show(iG (S.tab n) (cs,()) s top out line ↑i tok t12 0 top ar).bind _=_;rw[Aj tok t12 0 top h7];rfl
omit hs in
def Q6 (s:LI)(out:List cZ.den)(line i:Nat)(cs:Cls)(top:Int):Prop:=
 (∃p:Nat,Evt λn=>∃c t,ep (S.tab n) (cs,()) s top out (line:Int) (i:Int)=J (an (c,[],t,(p:Int),())))\/
 (∃(PV:List cZ.den) (b':LI) (Jg:Cls) (nx:Int) (Rp:Nat),(gdS b'/\Reads Jg nx (b'++[6])/\Jg.length<=1999900)/\(PV.length<=s.length/\Rp<=s.length+1)/\
  xY [100] (PV.map kd)=J b'/\((∀t∈PV,W9 s t)/\Srt PV s.length)/\
  Evt λn=>ep (S.tab n) (cs,()) s top out (line:Int) (i:Int)=J (aE (an ((Jg,()),s,nx,PV,(Rp:Int),()))))
omit hs in
theorem Q6.up {out o:List cZ.den}{line i l j:Nat}{cs c:Cls}{top t:Int}(h:Q6 s out line i cs top)(e:Evt λn=>ep (S.tab (n+1)) (c,()) s t o (l:Int) (j:Int)=ep (S.tab n) (cs,()) s top out (line:Int) (i:Int)):Q6 s o l j c t:=by
 rcases h with⟨p,h⟩|⟨PV,b',Jg,nx,Rp,h1,h2,h3,h4,h⟩
 ·exact .inl ⟨p,(h.and e).up λn ⟨⟨c,t,h⟩,e⟩=>⟨c,t,e.trans h⟩⟩
 ·exact .inr ⟨PV,b',Jg,nx,Rp,h1,h2,h3,h4,(h.and e).up λn ⟨h,e⟩=>e.trans h⟩
theorem WN (Iq:∀c∈s,isByte c):∀(d i line:Nat) (out:List cZ.den) (b:LI) (cs:Cls) (top:Int),s.length<i+d->i<=s.length->line<=i+1->out.length<=i->gdS b->Reads cs top (b++[6])->cs.length<=20*i+2->
    xY [100] (out.map kd)=J b->(∀t∈out,W9 s t)->Srt out i->Q6 s out line i cs top:=by
  have ac1:s.length<=2097152:=(by omega);intro d
  induction d with
  |zero=>omega
  |succ d ih=>
    intro i line out b cs top hd hi Yz ho hb hr Ez hf as9 VF
    by_cases hl:s.length<=i
    · refine .inr ⟨out,b,cs,top,line,⟨hb,hr,by omega⟩,⟨by omega,by omega⟩,hf,⟨as9,VF.mono hi⟩,dt.up λn _=> ?_⟩
      show ep (S.step (S.tab n)) _ _ _ _ _ _=_;rw[nK,da (by omega)]
    have Iz:i<s.length:=(by omega);have kI:I ((i:Int)<(s.length:Int))=true:=ab (by omega);have wl:aq.wrap ((line:Int)+1)=((line+1:Nat):Int):=dX (by omega)
    by_cases AH:get s i=10
    · have J1:=Ih (s:=s) s.length (i+1) (by omega)
      have J1:blank s (i+1)<=s.length/\i+1<=blank s (i+1):=J1;obtain⟨ds,nx,ZY,hR,hF⟩:=Da (k:=5) (by decide) (by decide) cs (by omega) b top hb.ok hr;have hk:LF (mK b 5) (I ((6:Int)=5))=uX b 5:=rfl;rw[hk]at hF;have VK:=GN ac1 Iz AH
      cases hc:uX b 5 with
      |false=>
        rw[hc]at hF
        have Aj:Evt λn=>iG (S.tab n) (cs++ds,()) s top out ((line+1:Nat):Int) ↑i (7,(i:Int),((i+1:Nat):Int),(line:Int),0,([]:LI),()) (-1) 5 nx ar=J (an ((cs++ds,()),s,top,out,((line+1:Nat):Int),(blank s (i+1):Int),())):=
          (uA (s:=s) ac1 (j:=i+1) (by omega)).up λn aF1=>by
            rw[mP,cU (by rfl),cU (by rfl),aF1];rfl
        have uZ:Evt λn=>fY (S.tab n) (cs,()) s top out ((line+1:Nat):Int) ↑i (7,(i:Int),((i+1:Nat):Int),(line:Int),0,([]:LI),()) (-1) 5=_:=(hF.and Aj).up λn ⟨hF,Aj⟩=>zo (by decide) hF Aj
        refine(ih (blank s (i+1)) (line+1) out b (cs++ds) top (by omega) J1.1 (by omega) (by omega) hb hr.mono (by simp;omega) hf as9 (VF.mono (by omega))).up ((uZ.and VK).mono λn ⟨uZ,VK⟩=> ?_);show ep (S.step (S.tab n)) _ _ _ _ _ _=_;rw[nK,cU kI,VK,au];dsimp only;rw[cU (by rfl),wl,uZ];rfl
      |true=>
        rw[hc]at hF
        obtain⟨l,S0⟩:∃l,mK b 5= .left l:=by
          unfold uX at hc
          cases ho:mK b 5 with
          |no=>rw[ho]at hc;cases hc
          |gone=>rw[ho]at hc;cases hc
          |left l=>exact⟨l,rfl⟩
        have Aj:=Nh hs (cs++ds) top i out (by omega) ((line+1:Nat):Int) (7,(i:Int),((i+1:Nat):Int),(line:Int),0,([]:LI),()) (e:=i+1) rfl (by omega) 5 nx
        have uZ:Evt λn=>fY (S.tab n) (cs,()) s top out ((line+1:Nat):Int) ↑i (7,(i:Int),((i+1:Nat):Int),(line:Int),0,([]:LI),()) (-1) 5=_:=(hF.and Aj).up λn ⟨hF,Aj⟩=>zo (by decide) hF Aj
        refine(ih (blank s (i+1)) (line+1) (out++[(5,(i:Int),((i+1:Nat):Int),(line:Int),0,([]:LI),())]) l (cs++ds) nx (by omega) J1.1 (by omega) (by simp;omega) (HK (by decide) (by decide) hb S0) (hR l S0) (by simp;omega)
          (by rw[List.map_append];exact BI _ _ b l 5 hf S0) (λt ht=>(aL.1 ht).elim (as9 t) λht=> ?_) (VF.snoc rfl rfl (by omega) J1.2)).up ((uZ.and VK).mono λn ⟨uZ,VK⟩=> ?_)
        · rw[bD.1 ht]
          exact⟨i,i+1,line,⟨by omega,by omega,Yz⟩,⟨rfl,rfl,rfl⟩,⟨by show(1:Int)<=5;decide,by show(5:Int)<=78;decide⟩,(by decide:rg 0),λ_ h=>nomatch h⟩
        · show ep (S.step (S.tab n)) _ _ _ _ _ _=_
          rw[nK,cU kI,VK,au];dsimp only;rw[cU (by rfl),wl,uZ];rfl
    have Rn:=xk ac1 Iz AH
    have P8:∀n (t':cZ.den) (bd:Int),iS (S.tab n) s (i:Int)=J ((t',bd,()),cQ)->t'.1≠7->ep (S.step (S.tab n)) (cs,()) s top out (line:Int) (i:Int)=(fY (S.tab n) (cs,()) s top out (line:Int) ↑i (t'.1,t'.2.1,t'.2.2.1,(line:Int),t'.2.2.2.2) bd t'.1).bind (Sy
       (λmn=>ep (S.tab n) mn.1 mn.2.1 mn.2.2.1 mn.2.2.2.1 mn.2.2.2.2.1 mn.2.2.2.2.2.1)
       (λmn=>J (an mn))
       (λmn=>ep (S.tab n) mn.1 mn.2.1 mn.2.2.1 mn.2.2.2.1 mn.2.2.2.2.1 mn.2.2.2.2.2.1)):=λn t' bd h h7=>by
      rw[nK,cU kI,h,au];dsimp only;rw[da h7]
    obtain⟨w,hw⟩:=OG hs (Ht 78) (bX (Np 78) (by omega)) Iz (ks:=pick (uX b) 78)
    cases hx:nZ s i with
    |inl e=>
      rw[hx]at Rn;have On:uX b 2=uX b 3:=Jl hb
      have kind:∀k:Int,kB (get s i) k=av->k=(bif dJ (get s i)then 2 else bif I (get s i=34)then 4 else 0)\/dJ (get s i)=av/\k=3:=λk h=>by
        unfold kB at h
        cases hd:dJ (get s i)with
        |true=>
          rw[hd]at h;have h:k23 k=true:=h;unfold k23 at h
          rcases(by simpa only[Bool.or_eq_true,ae]using h:k=2\/k=3)with h|h
          · exact .inl h
          · exact .inr ⟨rfl,h⟩
        |false=>
          rw[hd]at h
          cases h4:I (get s i=34)with
          |true=>rw[h4]at h;exact .inl (of_decide_eq_true h)
          |false=>rw[h4]at h;exact .inl (of_decide_eq_true h)
      generalize SY:(bif dJ (get s i)then(2:Int)else bif I (get s i=34)then 4 else 0)=k0 at kind
      have aa2:0<=k0/\k0<=78:=by rw[<-SY];cases dJ (get s i)<;>cases I (get s i=34)<;>exact⟨by decide,by decide⟩
      refine .inl ⟨bif I (1<=k0)&&uX b k0 then e else w,(((UN hb hr (by omega) hw aa2.1 aa2.2 out line e).and (UN hb hr (by omega) hw (k:=3) (by decide) (by decide) out line e)).and Rn).up λn ⟨⟨b2,b3⟩,t',bd,h,hR⟩=> ?_⟩;obtain⟨r1,r3⟩:bd=(e:Int)/\kB (get s i) t'.1=true:=hR;show∃c t,ep (S.step (S.tab n)) _ _ _ _ _ _=_
      have h7:t'.1≠7:=by
        rcases kind _ r3 with h|⟨_,h⟩
        · rw[h,<-SY];cases dJ (get s i)<;>cases I (get s i=34)<;>decide
        · rw[h];decide
      rw[P8 n t' bd h h7]
      rcases kind _ r3 with hk|⟨hd,hk⟩
      · obtain⟨c,t,hh⟩:=b2 (t'.1,t'.2.1,t'.2.2.1,(line:Int),t'.2.2.2.2) bd h7 (λ_ _=>r1)
        rw[<-hk]at hh;exact⟨c,t,by rw[hh,hk];rfl⟩
      · obtain⟨c,t,hh⟩:=b3 (t'.1,t'.2.1,t'.2.2.1,(line:Int),t'.2.2.2.2) bd h7 (λ_ _=>r1)
        rw[<-hk]at hh;rw[hd]at SY;refine⟨c,t, ?_⟩;rw[hh,<-SY,hk,<-On];rfl
    |inr t=>
      rw[hx]at Rn;obtain⟨k1,av2,k6,k34⟩:=Sm hx;obtain⟨⟨e,he,aP7,Ox⟩,h7⟩:=Sf ac1 Iz hx
      have Vi:Evt λn=>iS (S.tab n) s (i:Int)=J ((t, -1,()),cQ):=Rn.mono λn ⟨t',bd,h,hR⟩=>by
        obtain⟨r1,r2⟩:bd= -1/\t'=t:=hR;rw[r1,r2]at h;exact h
      cases hc:uX b (kd t)with
      |false=>
        refine .inl ⟨w,((UN hb hr (by omega) hw (k:=kd t) (by omega) av2 out line 0).and Vi).up λn ⟨b4,h⟩=> ?_⟩;obtain⟨c,t4,hh⟩:=b4 (t.1,t.2.1,t.2.2.1,(line:Int),t.2.2.2.2) (-1) h7 (λ_ e=>by rw[hc]at e;cases e);rw[hc,aQ]at hh;have hh:fY (S.tab n) (cs,()) s top out (line:Int) ↑i (t.1,t.2.1,t.2.2.1,(line:Int),t.2.2.2.2) (-1) t.1=_:=hh;refine⟨c,t4, ?_⟩;show ep (S.step (S.tab n)) _ _ _ _ _ _=_;rw[P8 n t (-1) h h7,hh];rfl
      |true=>
        have J1:blank s e<=s.length/\e<=blank s e:=Ih (s:=s) s.length e Ox;obtain⟨ds,nx,ZY,hR,hF⟩:=Da (k:=kd t) (by omega) av2 cs (by omega) b top hb.ok hr;have hk:LF (mK b (kd t)) (I ((6:Int)=kd t))=uX b (kd t):=rfl;rw[hk,hc]at hF
        obtain⟨m,aJ4⟩:∃l,mK b (kd t)= .left l:=by
          unfold uX at hc;rw[aa (λe=>k6 e.symm)]at hc
          cases ho:mK b (kd t)with
          |no=>rw[ho]at hc;cases hc
          |gone=>rw[ho]at hc;cases hc
          |left l=>exact⟨l,rfl⟩
        obtain⟨rf,rn⟩:=Wo Iz hx;have Aj:=Nh hs (cs++ds) top i out (by omega) (line:Int) (t.1,t.2.1,t.2.2.1,(line:Int),t.2.2.2.2) (e:=e) he Ox (kd t) nx
        have uZ:Evt λn=>fY (S.tab n) (cs,()) s top out (line:Int) ↑i (t.1,t.2.1,t.2.2.1,(line:Int),t.2.2.2.2) (-1) (kd t)=_:=(hF.and Aj).up λn ⟨hF,Aj⟩=>zo k1 hF Aj
        refine(ih (blank s e) line (out++[lnd t line]) m (cs++ds) nx (by omega) J1.1 (by omega) (by simp;omega) (HK (by omega) av2 hb aJ4) (hR m aJ4) (by simp;omega)
          (by rw[List.map_append];exact BI _ _ b m (kd t) hf aJ4) (λx ht=>(aL.1 ht).elim (as9 x) λht=> ?_) (VF.snoc (t:=lnd t line) rf he (by omega) J1.2)).up ((uZ.and Vi).mono λn ⟨uZ,VK⟩=> ?_)
        · rw[bD.1 ht]
          exact⟨i,e,line,⟨aP7,Ox,Yz⟩,⟨rf,he,rfl⟩,⟨k1,av2⟩,rn,by have:=TG Iq hx;exact this⟩
        · show ep (S.step (S.tab n)) _ _ _ _ _ _=_
          have uZ:fY (S.tab n) (cs,()) s top out (line:Int) ↑i (t.1,t.2.1,t.2.2.1,(line:Int),t.2.2.2.2) (-1) t.1=_:=uZ;rw[P8 n t (-1) VK h7,uZ];rfl
omit hs in
theorem ay5:gdS [100]:=λx hx=>by
 have h:UZ 100=true:=by kernel_rfl
 simp_all
omit hs in
theorem TO:∀{a:LI},gdS a->uX a 6=av->mK a 6= .gone:=λ{a} ha h=>by
 have h6:=Ud ha;unfold uX at h
 cases ho:mK a 6 with
 |no=>rw[ho]at h;cases h
 |left l=>rw[ho]at h6;cases h6
 |gone=>rfl
omit hs in
def Va (s:LI)(line:Nat):cZ.den:=(6,(s.length:Int),(s.length:Int),(line:Int),0,([]:LI),())
theorem Qr (Iq:∀c∈s,isByte c):(∃p:Nat,Evt λn=>mi (S.tab n) s=J (([],(p:Int),()),cO))\/
  (∃(out:List cZ.den) (b:LI) (line:Nat),xY [100] (out.map kd)=J b/\mK b 6= .gone/\out.length<=s.length/\line<=s.length+1/\(∀t∈out,W9 s t)/\Srt out s.length/\Evt λn=>mi (S.tab n) s=J ((out++[Va s line],(-1:Int),()),cO)):=by
 have J1:blank s 0<=s.length/\0<=blank s 0:=Ih (s:=s) s.length 0 (by omega);have aa2:Reads [(6,(-1:Int),()),(100,(0:Int),())] 1 ([100]++[6]):=⟨1,0,rfl,rfl,0, -1,rfl,rfl,rfl⟩
 have ZI:Evt λn=>uw (S.tab n) ([],())=J (1,([(6,(-1:Int),()),(100,(0:Int),())],()),()):=
  ((HU [] (by simp) (-1) 6).and (HU [(6,(-1:Int),())] (by simp) 0 100)).up λn ⟨h1,h2⟩=>by
   simp_all[Cq,au,nz,bind]
 have aU4:=uA (s:=s) (by omega) (j:=0) (by omega)
 have start:Evt λn=>p9 (S.tab (n+1)) ([],()) s=(ep (S.tab n) ([(6,(-1:Int),()),(100,(0:Int),())],()) s 1 [] ((1:Nat):Int) (blank s 0:Int)).bind _:=(ZI.and aU4).mono λn ⟨hm,hk⟩=>by
  have hk:mg (S.tab n) s 0=_:=hk;show p9 (S.step (S.tab n)) _ _=_;rw[Gg,hm,au,hk];rfl
 rcases WN hs Iq (s.length+1) (blank s 0) 1 [] [100] [(6,(-1:Int),()),(100,(0:Int),())] 1 (by omega) J1.1 (by omega) (by simp) ay5 aa2 (by simp) rfl (λt ht=>nomatch ht) ⟨(λt ht=>nomatch ht),List.Pairwise.nil⟩with⟨p,e2⟩|⟨out,b,cs,top,line,⟨gb,hr,Ez⟩,⟨S0,aK9⟩,hf,⟨hq,VF⟩,e2⟩
 ·refine .inl ⟨p,((e2.and start).up λn ⟨⟨c,t,h⟩,pH⟩=>⟨c,t,pH.trans (by rw[h];rfl)⟩:Evt λn=>∃c t,p9 (S.tab n) ([],()) s=J (([],t,(p:Int),()),c,(),())).up λn ⟨c,t,h⟩=> ?_⟩;rw[qV,h,au];dsimp only;rw[dA (show(0:Int)<=(p:Int)by omega)]
 have e3:Evt λn=>p9 (S.tab n) ([],()) s=J ((out++[Va s line],top,(-1:Int),()),(cs,()),(),()):=(e2.and start).up λn ⟨h,pH⟩=>pH.trans (by
  rw[h,au]
  exact cU (dE (by unfold lim;simp;omega)))
 obtain⟨ds,nx,_,_,J6⟩:=Da (k:=6) (by decide) (by decide) cs Ez b top gb.ok hr
 have J6:Evt λn=>mh (S.tab n) (cs,()) top 6=J ((nx,uX b 6,()),(cs++ds,()),(),(),()):=J6
 cases hc:uX b 6 with
 |false=>
  rw[hc]at J6;refine .inl ⟨s.length,(e3.and J6).up λn ⟨h,hf⟩=> ?_⟩;rw[qV,h,au];dsimp only;rw[dm (by rfl),hf,au];exact cU rfl
 |true=>
  rw[hc]at J6;refine .inr ⟨out,b,line,hf,TO gb hc,S0,aK9,hq,VF,(e3.and J6).up λn ⟨h,hf⟩=> ?_⟩;rw[qV,h,au];dsimp only;rw[dm (by rfl),hf,au];exact dm rfl
end Go.Abs.D
end

section
set_option maxRecDepth 100000
namespace Go.Abs.D
def KA (out:List cZ.den)(a:Nat):Int:=(out.map kd).getD a 6
def Ac (out:List cZ.den)(st:LI)(a:Nat):Prop:=∃b,xY st ((out.map kd).drop a)=J b/\mK b 6= .gone
theorem Ef (s:Int)(r:LI)(k:Int):mK (s::r) k=(stS s k).then r (mK r k):=tz stS s r k
theorem K0 {out:List cZ.den}{a:Nat}(hl:a<out.length):(out.map kd).drop a=KA out a::(out.map kd).drop (a+1):=by
 simp_all[bJ,KA,aG,aJ]
theorem qA {out:List cZ.den}{s:Int}{r:LI}{a:Nat}(ha:a<=out.length)(h:Ac out (s::r) a):
  (∃l,stS s (KA out a)= .left l/\a<out.length/\Ac out (l++r) (a+1))\/(stS s (KA out a)= .gone/\Ac out r a):=by
 obtain⟨b,h1,h2⟩:=h
 rcases bG a out.length with hl|hl
 ·rw[K0 hl]at h1;have h1:(match mK (s::r) (KA out a)with| .left l=>xY l ((out.map kd).drop (a+1))|_=>ay)=J b:=h1;rw[Ef]at h1
  cases hs:stS s (KA out a)with
  |no=>rw[hs]at h1;cases h1
  |gone=>
   rw[hs]at h1;exact .inr ⟨rfl,b,by rw[K0 hl];exact h1,h2⟩
  |left l=>rw[hs]at h1;exact .inl ⟨l,rfl,hl,b,h1,h2⟩
 ·have hk:KA out a=6:=by
   simp_all[KA,aG,bM]
  have hd:(out.map kd).drop a=[]:=cd (by simp_all);rw[hd]at h1
  injection h1 with h1
  subst h1;rw[Ef]at h2;rw[hk]
  cases hs:stS s 6 with
  |no=>rw[hs]at h2;cases h2
  |left l=>rw[hs]at h2;cases h2
  |gone=>rw[hs]at h2;exact .inr ⟨rfl,r,by rw[hd];rfl,h2⟩
theorem jF {out:List cZ.den}{s:Int}{r:LI}{a:Nat}(h:Ac out (s::r) a)(ha:a<=out.length)(hs:s<=78):a<out.length/\KA out a=s/\Ac out r (a+1):=by
 rcases qA ha h with⟨l,e,hl,h⟩|⟨e,h⟩
 ·rw[Ae hs]at e
  grind
 grind [Ae,decide,KA]
theorem fU {out:List cZ.den}{s k:Int}{l r:LI}{a:Nat}(e:stS s k= .left l)(hk:KA out a=k)(h:Ac out (s::r) a)(ha:a<=out.length):a<out.length/\Ac out (l++r) (a+1):=by
 rcases qA ha h with⟨l',e',hl,h⟩|⟨e',h⟩
 all_goals simp_all
theorem gF {out:List cZ.den}{s k:Int}{r:LI}{a:Nat}(e:stS s k= .gone)(hk:KA out a=k)(h:Ac out (s::r) a)(ha:a<=out.length):Ac out r a:=by
 grind [qA]
theorem sB {out:List cZ.den}{s k:Int}{r:LI}{a:Nat}(e:stS s k= .no)(hk:KA out a=k)(h:Ac out (s::r) a)(ha:a<=out.length):False:=by
 rcases qA ha h with⟨l',e',hl,h⟩|⟨e',h⟩<;>(simp_all)
theorem UK {out:List cZ.den}{s:Int}{l r:LI}{a:Nat}(e:stS s (KA out a)= .left l)(ha:a<out.length)(h:Ac out (l++r) (a+1)):Ac out (s::r) a:=by
 obtain⟨b,h1,h2⟩:=h;refine⟨b, ?_,h2⟩;rw[K0 ha];show(match mK (s::r) (KA out a)with| .left l=>xY l ((out.map kd).drop (a+1))|_=>ay)=J b;rw[Ef,e];exact h1
theorem Es {out:List cZ.den}{s s':Int}{q r:LI}{a:Nat}(e:stS s (KA out a)=(stS s' (KA out a)).then q .no)(h:Ac out (s::r) a)(ha:a<=out.length):Ac out (s'::(q++r)) a:=by
 rcases qA ha h with⟨l,e',hl,h⟩|⟨e',h⟩
 ·rw[e]at e'
  cases hs:stS s' (KA out a)with
  |no=>rw[hs]at e';cases e'
  |gone=>rw[hs]at e';cases e'
  |left l0=>
   rw[hs]at e'
   injection e' with e'
   grind [UK,aI]
 ·rw[e]at e';cases hs:stS s' (KA out a)<;>(rw[hs]at e';cases e')
theorem Uj {out:List cZ.den}{a:Nat}(ha:a<=out.length)(h:Ac out [] a):a=out.length/\KA out a=6:=by
 obtain⟨b,h1,h2⟩:=h
 rcases bG a out.length with hl|hl
 ·have aW9:a<(out.map kd).length:=by simp_all
  rw[bJ aW9]at h1;cases h1
 grind [KA,bM]
def pw (k:Int):Int:=bif I (k=26)then 1 else bif I (k=10)then 2 else([9,9,10,10,10,10,7,5,6,8,8,4,3,3,3,3,3,3]:LI).getD (k - 61).toNat 0
def pr (k:Int):Int:=bif I (k=72)then 4 else pw k+1
def unK (k:Int):Int:=bif I (k=25)then 21 else bif I (k=50)then 22 else bif I (k=69)then 20 else 19
theorem Zi:(kinds.all λk=>I (stS 120 k=bif A8 k then .left [120]else bif I (k=1)then .left [122]else bif I (k=40)then .left [119,41,122]else bif I (k=18)then .left [133]else bif I (k=42)then .left [129,43]else bif pD k then .left []else .no))=true:=by kernel_rfl
theorem Lj:(kinds.all λk=>I (stS 119 k=(stS 120 k).then [121] .no)&&I (stS 119 k≠ .gone))=true:=by kernel_rfl
theorem UE:(kinds.all λk=>I (stS 121 k=bif Ip k then .left [119]else .gone)&&(!Ip k||decide (1<=pw k)))=true:=by kernel_rfl
theorem KY:(kinds.all λk=>I (stS 125 k=bif I (k=46)then .left [119,125]else .gone)&&I (stS 124 k=(stS 119 k).then [125] .no))=true:=by kernel_rfl
theorem Uw:(kinds.all λk=>I (stS 123 k=bif pD k then(stS 119 k).then [125] .no else .gone)&&I (stS 108 k=bif pD k then(stS 119 k).then [125] .no else .gone))=true:=by kernel_rfl
abbrev StT:Type:=List cZ.den×Int×List Node×Unit
def uN:Unit×Unit×Unit×Unit×Unit×Unit×Unit×Unit×Unit×Unit:=((),(),(),(),(),(),(),(),(),())
def tkA (ts:List cZ.den)(a:Nat):cZ.den:=at_ (τ:=cZ) ts ↑a
structure TokR (z:cZ.den):Prop where
 f:rg z.2.1
 t:rg z.2.2.1
 l:rg z.2.2.2.1
 n:rg z.2.2.2.2.1
@[reducible] def rg3 (a b c:Int):Prop:=rg a/\rg b/\rg c
def NW (x:Node):Prop:=NodeOk x/\RgI x
structure Toks where
 out:List cZ.den
 en:cZ.den
 e6:en.1=6
 len:out.length<=65536
 kind:∀a:Nat,0<=KA out a/\KA out a<=78
 txt:∀a:Nat,∀c∈(tkA out a).2.2.2.2.2.1,isByte c
 au5:∀a:Nat,TokR (tkA out a)
variable(G:Toks){U:Type}
def Toks.tS:List cZ.den:=G.out++[G.en]
@[reducible] def st (a:Nat)(nd:List Node):StT:=(G.tS,(a:Int),nd,())
theorem Toks.lS:G.tS.length=G.out.length+1:=by simp[Toks.tS]
theorem Toks.aS {a:Nat}(h:a<G.out.length):at_ (τ:=cZ) G.tS (a:Int)=tkA G.out a:=by
 unfold tkA at_ Toks.tS;rw[bq,aG,aG,List.getElem?_append_left h]
theorem Toks.kdA {a:Nat}(h:a<G.out.length):(tkA G.out a).1=KA G.out a:=by
 unfold tkA at_ KA kd;rw[bq,aG,aG,a05,aJ h];rfl
theorem Toks.kS {a:Nat}(h:a<=G.out.length):(at_ (τ:=cZ) G.tS ↑a).1=KA G.out a:=by
 rcases bG a G.out.length with hl|hl
 ·rw[G.aS hl,G.kdA hl]
 ·have:a=G.out.length:=(by omega);subst this;unfold at_ Toks.tS KA;rw[bq,aG,aG];simp[G.e6]
theorem Toks.tab {p:Int->Bool}(h:kinds.all p=av)(a:Nat):p (KA G.out a)=true:=aW.1 h _ (wW (G.kind a).1 (G.kind a).2)
theorem Toks.inb {a:Nat}(h:a<=G.out.length):(I ((0:Int)<=(a:Int))&&I ((a:Int)<(G.tS.length:Int)))=true:=db (by rw[G.lS];omega)
variable{a:Nat}{nd:List Node}
theorem pU (ha:a<=G.out.length):Evt λn=>eY (S.tab n) (st G a nd)=J (KA G.out a,st G a nd,()):=dt.up λn _=>by
 rw[DA];dsimp only;rw[cU (G.inb ha),G.kS ha]
theorem XU {a:Nat}(h:a<=4194304):aq.wrap (((a+1:Nat):Int) - 1)=(a:Int):=by
 grind [wrap64]
theorem iL (ha:a<G.out.length):Evt λn=>dD (S.tab n) (st G a nd)=J (tkA G.out a,st G (a+1) nd,()):=dt.up λn _=>by
 have:=G.len;rw[DI];dsimp only;rw[dX (by omega),XU (by omega),cU (G.inb (by omega)),G.aS ha]
theorem ah4 (ha:a<=G.out.length)(k:Int):Evt λn=>iT (S.tab n) (st G a nd) k=J (I (KA G.out a=k),st G (bif I (KA G.out a=k)then a+1 else a) nd,(),()):=(pU G (nd:=nd) ha).up λn h=>by
 have:=G.len;rw[Gl,h,au];dsimp only
 cases I (KA G.out a=k)with
 |true=>rw[dm (by rfl),dX (by omega)];rfl
 |false=>exact cU (by rfl)
theorem LM (ha:a<=G.out.length){k:Int}(hk:KA G.out a=k):Evt λn=>iT (S.tab n) (st G a nd) k=J (av,st G (a+1) nd,(),()):=(ah4 G ha k).mono λn h=>by rw[h,ab hk];rfl
theorem Jc (ha:a<=G.out.length){k:Int}(hk:KA G.out a≠k):Evt λn=>iT (S.tab n) (st G a nd) k=J (ar,st G a nd,(),()):=(ah4 G ha k).mono λn h=>by rw[h,aa hk];rfl
theorem ky (ha:a<G.out.length)(hn:nd.length<=300000)(x:Node):Evt λn=>dy (S.tab n) (st G (a+1) nd) x=J ((nd.length:Int),st G (a+1) (nd++[(x.1,x.2.1,(tkA G.out a).2.2.1,x.2.2.2)]),uN,()):=dt.up λn _=>by
 have:=G.len;rw[Fy];dsimp only;rw[XU (by omega),cU (G.inb (by omega)),G.aS ha,cU (dE (by unfold lim;simp;omega)),wrap64 _ (by simp) (by simp;omega)];simp only[ax,az,aB];rw[show((nd.length+(0+1):Nat):Int) - 1=(nd.length:Int)by omega]
theorem iz (k:Int)(t:cZ.den):Evt λn=>dT (S.tab n) k t=J ((k,t.2.1,0,t.2.2.2.1,0,0,([]:LI),[],[],()),eP):=dt.up λn _=>by rw[GB]
theorem UA (k:Int):Evt λn=>eG (S.tab n) k=J (A8 k,cO):=dt.up λn _=>by
 grind [gC,A8,decide,wE]
theorem To (k:Int):Evt λn=>fv (S.tab n) k=J (pD k,cO):=(UA k).up λn h=>by
 rw[wB];simp only[gC,h,au,pD];cases I (k=1)<;>cases I (k=40)<;>cases I (k=2)<;>cases I (k=3)<;>cases I (k=4)<;>cases I (k=24)<;>cases I (k=29)<;>cases I (k=17)<;>cases I (k=49)<;>cases I (k=18)<;>cases I (k=42)<;>rfl
theorem VZ (k:Int):Evt λn=>mS (S.tab n) k=J (Ip k,cO):=dt.up λn _=>by
 grind [xO,gC,Ip,decide]
theorem V9 (k:Int):Evt λn=>xp (S.tab n) k=J (unK k,cO):=dt.up λn _=>by
 grind [FF,gC,unK,decide]
theorem Zp (T:S.Tab):(kinds.all λk=> !Ip k||decide (jQ (S.step (S.step T)) k=J ((pw k,pr k,()),cO)))=true:=by kernel_rfl
theorem WO (hi:Ip (KA G.out a)=av):Evt λn=>jQ (S.tab n) (KA G.out a)=J ((pw (KA G.out a),pr (KA G.out a),()),cO):=⟨2,λn hn=>by
 obtain⟨m,rfl⟩:∃m,n=m+2:=⟨n - 2,by omega⟩;have:=G.tab (Zp (S.tab m)) a;rw[hi]at this
 exact of_decide_eq_true this⟩
def Spn (nd:List Node)(m:Int)(a a':Nat):Prop:=∃(j b c:Nat) (x:Node),m=(j:Int)/\nd[j]?=J x/\(a<=b/\b<c/\c<=a')/\x.2.1=(tkA G.out b).2.1/\x.2.2.1=(tkA G.out (c - 1)).2.2.1
inductive Kd (nd:List Node):Nat->LI->Nat->Prop
 |nil {a b:Nat} (h:a<=b):Kd nd a [] b
 |snoc {a b c c' d:Nat} {xs:LI} {m:Int} (h:Kd nd a xs b) (h1:b<=c) (s:Spn G nd m c c') (h2:c'<=d):Kd nd a (xs++[m]) d
variable{G} {m:Int}{a' b b' c:Nat}{od l:List Node}{xs:LI}{k:Nat}
theorem Spn.ext (h:Spn G nd m a a'):Spn G (nd++l) m a a':=by
 obtain⟨j,b,c,x,h1,h2,h3⟩:=h;refine⟨j,b,c,x,h1, ?_,h3⟩;rw[List.getElem?_append_left (bw.1 h2).1];exact h2
theorem Spn.wide (h:Spn G nd m a a')(h1:b<=a)(h2:a'<=b'):Spn G nd m b b':=by
 obtain⟨j,b,c,x,h1,h2,⟨h3,h4,h5⟩,h6⟩:=h;exact⟨j,b,c,x,h1,h2,⟨by omega,h4,by omega⟩,h6⟩
theorem Spn.lt (h:Spn G nd m a a'):∃j:Nat,m=(j:Int)/\j<nd.length:=by
 obtain⟨j,b,c,x,h1,h2,h3⟩:=h;exact⟨j,h1,(bw.1 h2).1⟩
theorem Kd.ext (h:Kd G nd a xs b):Kd G (nd++l) a xs b:=by
 induction h with
 |nil h=>exact .nil h
 |snoc h h1 s h2 ih=>exact .snoc ih h1 s.ext h2
theorem Kd.up (h:Kd G nd a xs b)(h2:b<=b'):Kd G nd a xs b':=by
 cases h with
 |nil h=>exact .nil (by omega)
 |snoc h h1 s h3=>exact .snoc h h1 s (by omega)
theorem Kd.down (h:Kd G nd a xs b)(h2:c<=a):Kd G nd c xs b:=by
 induction h with
 |nil h=>exact .nil (by omega)
 |snoc h h1 s h3 ih=>exact .snoc ih h1 s h3
theorem Kd.le (h:Kd G nd a xs b):xs.length+a<=b:=by
 induction h with
 |nil h=>simpa using h
 |snoc h h1 s h3 ih=>
  obtain⟨j,b,c,x,_,_,⟨h4,h5,h6⟩,_⟩:=s;rw[ax];simp only[az,aB];omega
theorem Kd.one (s:Spn G nd m b b')(h1:a<=b)(h2:b'<=a'):Kd G nd a [m] a':= .snoc (xs:=[]) (.nil (aC a)) h1 s h2
structure Nd (nd:List Node)(x:Node):Prop where
 g:NW x
 pl:∃b c:Nat,b<c/\c<=G.out.length/\x.2.1=(tkA G.out b).2.1/\x.2.2.1=(tkA G.out (c - 1)).2.2.1/\x.2.2.2.1=(tkA G.out b).2.2.2.1/\Kd G nd (bif I (x.1=36)then b+1 else b) (cP x) c
structure Md (a:Nat)(nd:List Node)(a':Nat)(od:List Node)(k:Nat):Prop where
 le:a<=a'
 top:a'<=G.out.length
 Z9:od.length+4*a+k<=nd.length+4*a'
 pre:∃l,od=nd++l
 ok:(∀x∈nd,Nd (G:=G) nd x)->∀x∈od,Nd (G:=G) od x
abbrev MD (G:Toks):= @Md G
variable{a1:Nat}{jT:List Node}{j:Nat}
theorem Md.refl (h:a<=G.out.length):MD G a nd a nd 0:=⟨aC _,h,by omega,⟨[],by simp⟩,λh=>h⟩
theorem Md.tok (h:MD G a nd a' od k)(h1:a'<G.out.length):MD G a nd (a'+1) od (k+4):=⟨by have:=h.le;omega,h1,by have:=h.Z9;omega,h.pre,h.ok⟩
theorem Md.trans (h:MD G a nd a1 jT k)(h2:MD G a1 jT a' od j):MD G a nd a' od (k+j):=by
 obtain⟨l,e⟩:=h.pre;obtain⟨l',e'⟩:=h2.pre;exact⟨bX h.le h2.le,h2.top,by have:=h.Z9;have:=h2.Z9;omega,⟨l++l',by rw[e',e,aI]⟩,λq=>h2.ok (h.ok q)⟩
theorem Md.less (h:MD G a nd a' od k)(h1:j<=k):MD G a nd a' od j:=⟨h.le,h.top,by have:=h.Z9;omega,h.pre,h.ok⟩
theorem Md.len (h:MD G a nd a' od k)(hn:nd.length<=4*a):od.length<=4*a'/\od.length<=300000:=by have:=h.Z9;have:=h.top;have:=G.len;omega
theorem Md.kid (h:MD G a1 jT a' od k)(s:Kd G jT b xs b'):Kd G od b xs b':=by
 obtain⟨l,e⟩:=h.pre;rw[e];exact s.ext
theorem Md.spn (h:MD G a1 jT a' od k)(s:Spn G jT m b b'):Spn G od m b b':=by
 obtain⟨l,e⟩:=h.pre;rw[e];exact s.ext
def Got (P:Nat->Prop)(a:Nat)(nd:List Node)(k:Nat)(x:Int×StT×U):Prop:=∃(a':Nat) (od:List Node),x.2.1=st G a' od/\MD G a nd a' od k/\a<a'/\Spn G od x.1 a a'/\P a'
abbrev GOT (G:Toks):= @Got G
@[reducible] def mkN (G:Toks)(b c:Nat)(ki op num:Int)(t:LI)(ns:List LI)(ks:LI):Node:=(ki,(tkA G.out b).2.1,(tkA G.out c).2.2.1,(tkA G.out b).2.2.2.1,op,num,t,ns,ks,())
theorem Md.add {ki op num:Int}{t:LI}{ns:List LI}(h:MD G a nd (c+1) od (k+1))(hr:rg3 ki op num)(h1:∀c∈t,isByte c)(h2:(∀m∈ns,∀c∈m,isByte c)/\ns.length<=70000)(hb:b<=c)(kd:Kd G od (bif I (ki=36)then b+1 else b) xs (c+1)):
  MD G a nd (c+1) (od++[mkN G b c ki op num t ns xs]) k:=by
 obtain⟨l,e⟩:=h.pre;have ht:=h.top;refine⟨h.le,ht,by have:=h.Z9;simp;omega,⟨l++[mkN G b c ki op num t ns xs],by rw[e,aI]⟩,λq x hx=> ?_⟩
 rcases aL.1 hx with hx|hx
 ·obtain⟨g,b,c,p1,p2,p3,p4,p5,p6⟩:=h.ok q x hx;exact⟨g,b,c,p1,p2,p3,p4,p5,p6.ext⟩
 ·rw[bD.1 hx];have:=kd.le;have:=G.len;refine⟨⟨⟨h1,h2.1,bX h2.2 (by decide), ?_⟩,hr.1,(G.au5 b).f,(G.au5 c).t,(G.au5 b).l,hr.2.1,hr.2.2⟩,b,c+1,by omega,ht,rfl,rfl,rfl,kd.ext⟩;show xs.length<=2097152;omega
theorem z7 {ki op num:Int}{t:LI}{ns:List LI}{ks:LI}(hb:a<=b)(hc:b<=c)(h:c+1<=a'):Spn G (nd++[mkN G b c ki op num t ns ks]) (nd.length:Int) a a':=
 ⟨nd.length,b,c+1,mkN G b c ki op num t ns ks,rfl,by simp,⟨hb,by omega,h⟩,rfl,rfl⟩
theorem V0 {P:Nat->Prop}{ki op num:Int}{t:LI}{ns:List LI}{u:U}(h:MD G a nd (c+1) od (k+1))(hr:rg3 ki op num)(h1:∀c∈t,isByte c)(h2:(∀m∈ns,∀c∈m,isByte c)/\ns.length<=70000)(ad6:a<=b)(hb:b<=c)(kd:Kd G od (bif I (ki=36)then b+1 else b) xs (c+1))(hP:P (c+1)):
  GOT G P a nd k ((od.length:Int),st G (c+1) (od++[mkN G b c ki op num t ns xs]),u):=⟨c+1,_,rfl,h.add hr h1 h2 hb kd,by omega,z7 ad6 hb (aC _),hP⟩
theorem uU {P:Nat->Prop}(ki op num:Int){t:LI}{ns:List LI}{u:U}(h:MD G a nd (c+1) od (k+1))(hr:rg3 ki op num)(h1:∀c∈t,isByte c)(h2:(∀m∈ns,∀c∈m,isByte c)/\ns.length<=70000)(ad6:a<=b)(hb:b<=c)(kd:Kd G od (bif I (ki=36)then b+1 else b) xs (c+1))(hP:P (c+1)):
  GOT G P a nd k ((od.length:Int),st G (c+1) (od++[mkN G b c ki op num t ns xs]),u):=V0 h hr h1 h2 ad6 hb kd hP
theorem ns0:(∀m∈([]:List LI),∀c∈m,isByte c)/\([]:List LI).length<=70000:=⟨(λ_ h=>nomatch h),by simp⟩
theorem tx0:∀c∈([]:LI),isByte c:=λ_ h=>nomatch h
end Go.Abs.D
end

section
set_option maxRecDepth 100000
namespace Go.Abs.D
variable{G:Toks}{U:Type}{a b c:Nat}{nd:List Node}{m:Int}
theorem N4 {α:Type}{l:List α}{x:α}(h:l.length<=140000):fits (l.length+[x].length)=true:=dE (by grind [lim])
def Sn (G:Toks)(f:S.Tab->StT->Option (Int×StT×U))(s:LI)(k a:Nat):Prop:=∀(nd:List Node) (r:LI),a<=G.out.length->nd.length<=4*a->Ac G.out (s++r) a->dV (GOT G (Ac G.out r) a nd k) λT=>f T (st G a nd)
def Zy (G:Toks)(r:LI)(l:Int)(a:Nat):Prop:=Ac G.out (121::r) a/\(Ip (KA G.out a)=av->pw (KA G.out a)<l)
def En (G:Toks)(a:Nat):Prop:=∀(l:Int) (nd:List Node) (r:LI),a<=G.out.length->nd.length<=4*a->Ac G.out (120::121::r) a->dV (GOT G (Zy G r l) a nd 2) λT=>fF T (st G a nd) l
def Xn (G:Toks)(a:Nat):Prop:=Sn G (λT s=>fF T s 0) [119] 2 a
def At (G:Toks)(P:Nat->Prop)(b:Nat)(nd:List Node)(s:StT)(m:Int):Prop:=∃(a':Nat) (od:List Node),s=st G a' od/\MD G b nd a' od 2/\b<a'/\Spn G od m b a'/\P a'
theorem Ss {l:Int}(hn:nd.length<=4*b)(hE:∀a',b<a'->En G a')(r:LI):∀(d a1:Nat) (jT:List Node) (m1:Int),G.out.length<a1+d->MD G b nd a1 jT 2->b<a1->Spn G jT m1 b a1->Ac G.out (121::r) a1->
  dV (λy=>∃s m,(y=an (s,m,())\/y=aE (an (s,m,())))/\At G (Zy G r l) b nd s m) λT=>jD T (st G a1 jT) l (tkA G.out b) m1:=by
 intro d
 induction d with
 |zero=>intro a1 jT m1 h M;have:=M.top;omega
 |succ d ih=>
  intro a1 jT m1 hd M hb s1 hA;have aJ7:=M.top;refine .up (λT=>Ao T _ _ _ _) (.then (pU G aJ7) (.then (VZ _) (.brk (λhi=> ?_) λhi=> .ret ⟨_,_, .inr rfl,a1,jT,rfl,M,hb,s1,hA,λh=>by rw[show Ip (KA G.out a1)=ar from hi]at h;cases h⟩)));have hi:Ip (KA G.out a1)=true:=hi
  refine .then (pU G aJ7) (.then (WO G hi) (.ite (λhw=> .ret ⟨_,_, .inl rfl,a1,jT,rfl,M,hb,s1,hA,λ_=>hw⟩) λhw=> ?_))
  have ht:=G.tab UE a1;rw[hi]at ht;simp only[aA,ae]at ht;obtain⟨aB3,pa⟩:=fU ht.1 rfl hA aJ7;have Vj:=G.tab Lj (a1+1);simp only[aA,ae]at Vj;have pa:=Es Vj.1 pa (by omega);have M1:=M.tok aB3
  refine .then (iL G aB3) (.bind (hE (a1+1) (by omega) _ jT r aB3 (M1.len hn).1 pa) ?_)
  rintro⟨m3,_,u⟩ ⟨a3,Ro,rfl,M3,aP1,s3,Ey,_⟩;obtain⟨c,rfl⟩:∃c,a3=c+1:=⟨a3 - 1,by omega⟩;have hc:c<G.out.length:=M3.top;have M2:=M1.trans M3;have hl:=(M2.len hn).2;have kd:Kd G Ro b [m1,m3] (c+1):=Kd.snoc (xs:=[m1]) (Kd.one (M3.spn s1) (aC _) (aC _)) (bR _) s3 (aC _)
  have go:∀ki op:Int,rg3 ki op 0->ki≠36->dV (λy=>∃s m,(y=an (s,m,())\/y=aE (an (s,m,())))/\At G (Zy G r l) b nd s m) λT=>jD T (st G (c+1) (Ro++[mkN G b c ki op 0 [] [] [m1,m3]])) l (tkA G.out b) (Ro.length:Int):=λki op hr AK=>
   ih (c+1) _ _ (by omega) ((M2.less (j:=3) (by omega)).add hr tx0 ns0 (by omega) (by rw[aa AK];exact kd)) (by omega) (z7 (aC _) (by omega) (aC _)) Ey
  exact .then (iz _ _) (.ite (λ_=> .then (ky G hc hl _) (go 28 0 (by decide) (by decide))) λ_=> .ite (λ_=> .then (ky G hc hl _) (go 29 0 (by decide) (by decide))) λ_=> .then (ky G hc hl _) (go 31 _ ⟨by decide,QY _,by decide⟩ (by decide)))
theorem ad7 (hU:Sn G (λT s=>pA T s) [120] 2 a)(hE:∀a',a<a'->En G a'):En G a:=by
 intro l nd r ha hn hA;refine .up (λT=>DO T _ _) (.yes (G.inb ha) (.bind (hU nd (121::r) ha hn hA) ?_));rintro⟨m1,_,u⟩ ⟨a1,jT,rfl,M,lt,s1,pa⟩;have h:=Ss (l:=l) hn hE r (G.out.length+1) a1 jT m1 (by omega) M lt s1 pa;rw[<-G.aS (show a<G.out.length by have:=M.top;omega)]at h;refine .bind h ?_;rintro _ ⟨_,m2,rfl|rfl,a2,w9,rfl,M2,ao8,s2,hW⟩<;>exact .ret ⟨a2,w9,rfl,M2,ao8,s2,hW⟩
theorem ae7 (h:En G a):Xn G a:=by
 intro nd r ha hn hA;have Vj:=G.tab Lj a;simp only[aA,ae]at Vj;refine(h 0 nd r ha hn (Es Vj.1 hA ha)).mono ?_;rintro x ⟨a',od,e,M,lt,s,pa,hw⟩;refine⟨a',od,e,M,lt,s, ?_⟩;have ht:=G.tab UE a';simp only[aA,ae]at ht
 cases hi:Ip (KA G.out a')with
 |false=>rw[hi]at ht;exact gF ht.1 rfl pa M.top
 |true=>rw[hi]at ht;have:=hw hi;simp at ht;omega
def Zs (G:Toks)(P:Nat->Prop)(a:Nat)(nd:List Node)(x:LI×StT×Unit):Prop:=∃(a':Nat) (od:List Node),x.2.1=st G a' od/\MD G a nd a' od 2/\a<a'/\Kd G od a x.1 a'/\P a'
def Ln (G:Toks)(a:Nat):Prop:=∀(nd:List Node) (r:LI),a<=G.out.length->nd.length<=4*a->Ac G.out (119::125::r) a->dV (Zs G (Ac G.out r) a nd) λT=>iw T (st G a nd)
def Q5 (G:Toks)(Q:LI->Prop):Prop:=∀st a,Q st->a<=G.out.length->Ac G.out st a->KA G.out a=46->a<G.out.length/\∃Jd,Q Jd/\Ac G.out (119::Jd) (a+1)
def Xi (G:Toks)(Q:LI->Prop)(a:Nat):Prop:=∃Jd,Q Jd/\Ac G.out Jd a/\KA G.out a≠46
theorem O7 {Q:LI->Prop}(hQ:Q5 G Q)(hn:nd.length<=4*b)(hX:∀a',b<a'->Xn G a'):∀(d a:Nat) (xs:LI) (jT:List Node) (q:LI),G.out.length<a+d->b<a->MD G b nd a jT 2->Kd G jT b xs a->Q q->Ac G.out q a->
  dV (λy=>∃s ys,y=an (s,ys,())/\Zs G (Xi G Q) b nd (ys,s,())) λT=>nV T (st G a jT) xs:=by
 intro d
 induction d with
 |zero=>intro a xs jT q h _ M;have:=M.top;omega
 |succ d ih=>
  intro a xs jT q hd h0 M k hq hA;have Yk:=M.top;have hL:=G.len
  by_cases hk:KA G.out a=46
  ·obtain⟨hl,q1,ac7,hA⟩:=hQ q a hq Yk hA hk;have M1:=M.tok hl;refine .up (λT=>r6 T _ _) (.then (LM G Yk hk) (.yes rfl (.bind (hX (a+1) (by omega) jT q1 hl (M1.len hn).1 hA) ?_)));rintro⟨m,_,u⟩ ⟨a1,w9,rfl,M2,lt,s,pa⟩;have:=k.le;exact .yes (N4 (by omega)) (ih a1 _ w9 q1 (by omega) (by omega) ((M1.trans M2).less (by omega)) (.snoc (M2.kid k) (by omega) s (aC _)) ac7 pa)
  ·exact .up (λT=>r6 T _ _) (.then (Jc G Yk hk) (.no rfl (.ret ⟨_,_,rfl,a,jT,rfl,M,h0,k,q,hq,hA,hk⟩)))
theorem JF {Q:LI->Prop}(hQ:Q5 G Q)(hX:∀a',a<=a'->Xn G a'){q:LI}(ha:a<=G.out.length)(hn:nd.length<=4*a)(hq:Q q)(hA:Ac G.out (119::q) a):dV (Zs G (Xi G Q) a nd) λT=>iw T (st G a nd):=by
 refine .up (λT=>Cu T _) (.bind (hX a (aC _) nd q ha hn hA) ?_);rintro⟨m,_,u⟩ ⟨a1,jT,rfl,M,lt,s,pa⟩;refine .bind (O7 hQ hn (λa' h=>hX a' (by omega)) (G.out.length+1) a1 [m] jT q (by omega) lt M (.one s (aC _) (aC _)) hq pa) ?_;rintro _ ⟨s,ys,rfl,h⟩;exact .ret h
theorem Rg (hX:∀a',a<=a'->Xn G a'):Ln G a:=by
 intro nd r ha hn hA
 have hQ:Q5 G (λq=>q=125::r):=λq a' e PX L4 hk=>by
  subst e;have ht:=G.tab KY a';simp only[aA,ae]at ht;rw[ab hk]at ht;obtain⟨hl,hA⟩:=fU ht.1 rfl L4 PX;exact⟨hl,_,rfl,hA⟩
 refine(JF hQ hX ha hn rfl hA).mono ?_;rintro x ⟨a1,jT,e,M,lt,k,_,rfl,pa,hk⟩;have ht:=G.tab KY a1;simp only[aA,ae]at ht;rw[aa hk]at ht;exact⟨a1,jT,e,M,lt,k,gF ht.1 rfl pa M.top⟩
def SC (F:LI):Prop:=∀s∈F,∃f∈F,∃c∈F,stS s 48= .left [1,f]/\stS s 44= .left [119,45,f]/\stS s 40= .left [123,41,c]
def SD (G:Toks)(F r:LI)(a:Nat):Prop:=∃s'∈F,Ac G.out (s'::r) a/\KA G.out a≠48/\KA G.out a≠44/\KA G.out a≠40
theorem MI (tk:cZ.den)(s:StT)(x0 x1 x2 x3 x4 x5:Int)(x6:LI)(x7:List LI):∀(r pre ks:LI),(pre++r).length<=70000->ks.length+r.length<=140000->
  Evt λn=>kW (S.tab n) s tk (x0,x1,x2,x3,x4,x5,x6,x7,ks,()) (pre++r) ((pre++r).length:Int) (pre.length:Int)=J (an (s,tk,(x0,x1,x2,x3,x4,x5,x6,x7,ks++r,()),()))
 |[],pre,ks,_,_=>dt.up λn _=>by
  simp_all[px,dm]
 |m::r,pre,ks,hl,hk=>by
  have ih:=MI tk s x0 x1 x2 x3 x4 x5 x6 x7 r (pre++[m]) (ks++[m]) (by simpa using hl) (by simp at hk⊢;omega);have hlen:(pre++m::r).length=pre.length+(r.length+1):=(by simp);have e1:(pre++[m])++r=pre++m::r:=(by simp);have e2:(pre++[m]).length=pre.length+1:=(by simp);have hg:(pre++m::r).getD (pre.length:Int).toNat 0=m:=ju pre _ _ 0;rw[e1,e2]at ih
  refine ih.up λn h=> ?_
  rw[px,cU (by simp;omega),cU (db (by omega))];rw[cU (dE (by unfold lim;simp;omega)),dX (by omega),hg,h];simp
theorem TB {F:LI}(hF:SC F)(hn:nd.length<=4*b)(r:LI)(hX:∀a',b<a'->Xn G a'):∀(d a:Nat) (jT:List Node) (m1 s:Int),G.out.length<a+d->MD G b nd a jT 2->b<a->Spn G jT m1 b a->s∈F->Ac G.out (s::r) a->
  dV (λy=>∃s m,y=an (s,m,())/\At G (SD G F r) b nd s m) λT=>fI T (st G a jT) m1 (tkA G.out b):=by
 intro d
 induction d with
 |zero=>intro a jT m1 s h M;have:=M.top;omega
 |succ d ih=>
  intro a jT m1 s hd M hb s1 hs hA;have Yk:=M.top;have hL:=G.len;obtain⟨f,hf,c,hc,t1,t2,t3⟩:=hF s hs
  have go:∀{e:Nat} {w9:List Node} {f:Int} (ki:Int) (t ks:LI),MD G b nd (e+1) w9 3->a<e+1->f∈F->rg3 ki 0 0->ki≠36->(∀c∈t,isByte c)->Kd G w9 b ks (e+1)->Ac G.out (f::r) (e+1)->
    dV (λy=>∃s m,y=an (s,m,())/\At G (SD G F r) b nd s m) λT=>fI T (st G (e+1) (w9++[mkN G b e ki 0 0 t [] ks])) (w9.length:Int) (tkA G.out b):=λ{e w9 f} ki t ks M2 he hf hr AK ht kd hA=>
   ih (e+1) _ _ f (by omega) (M2.add hr ht ns0 (by omega) (by rw[aa AK];exact kd)) (by omega) (z7 (aC _) (by omega) (aC _)) hf hA
  refine .up (λT=>vG T _ _ _) (.then (iz _ _) (.then (pU G Yk) (.ite (λk1=> ?_) λk1=> .ite (λk2=> ?_) λk2=> .ite (λk3=> ?_) λk3=> .ret ⟨_,_,rfl,a,jT,rfl,M,hb,s1,s,hs,hA,k1,k2,k3⟩)))
  ·obtain⟨hl,hA⟩:=fU t1 k1 hA Yk;obtain⟨pb,_,hA⟩:=jF hA (by omega) (by decide);have M2:=(M.tok hl).tok pb
   exact .then (iL G hl) (.then (iL G pb) (.then (ky G pb (M2.len hn).2 _) (go 33 _ _ (M2.less (by omega)) (by omega) hf (by decide) (by decide) (G.txt _) (.one s1 (aC _) (by omega)) hA)))
  ·obtain⟨hl,hA⟩:=fU t2 k2 hA Yk;have M1:=M.tok hl
   refine .then (iL G hl) (.bind (hX (a+1) (by omega) jT (45::f::r) hl (M1.len hn).1 hA) ?_)
   rintro⟨m3,_,u⟩ ⟨a3,Ro,rfl,M3,aP1,s3,Ey⟩;obtain⟨pb,_,hA⟩:=jF Ey M3.top (by decide);have M4:=(M1.trans M3).tok pb
   exact .then (iL G pb) (.yes rfl (.then (ky G pb (M4.len hn).2 _) (go 32 _ _ (M4.less (by omega)) (by omega) hf (by decide) (by decide) tx0 (Kd.snoc (xs:=[m1]) (Kd.one (M3.spn s1) (aC _) (aC _)) (bR _) s3 (by omega)) hA)))
  ·obtain⟨hl,hA⟩:=fU t3 k3 hA Yk;have M1:=M.tok hl;have ta:=G.tab Uw (a+1);simp only[aA,ae]at ta
   refine .then (iL G hl) (.then (pU G hl) (.brk (λk4=> ?_) λk4=> ?_))
   ·have k4:KA G.out (a+1)≠41:=λe=>by rw[show KA G.out (a+1)=41 from e]at k4;cases k4
    have wg:Ac G.out (119::125::41::c::r) (a+1):=by
     cases hu:pD (KA G.out (a+1))with
     |true=>rw[hu]at ta;exact Es ta.1 hA hl
     |false=>rw[hu]at ta;exact absurd (jF (gF ta.1 rfl hA hl) hl (by decide)).2.1 k4
    refine .bind (Rg (λa' h=>hX a' (by omega)) jT _ hl (M1.len hn).1 wg) ?_;rintro⟨xs,_,u⟩ ⟨a3,Ro,rfl,M3,aP1,k3,Ey⟩;obtain⟨pb,_,hA⟩:=jF Ey M3.top (by decide);have hx:xs.length+(a+1)<=a3:=k3.le;have SH:=MI (tkA G.out b) (st G a3 Ro) 34 (tkA G.out b).2.1 0 (tkA G.out b).2.2.2.1 0 0 [] [] xs [] [m1] (by simp;omega) (by simp;omega);have M4:=(M1.trans M3).tok pb
    have kk:∀{xs:LI} {e:Nat},Kd G Ro (a+1) xs e->Kd G Ro b ([m1]++xs) e:=λ{xs e} h=>by
     induction h with
     |nil h=>exact .one (M3.spn s1) (aC _) (by omega)
     |snoc h h1 s h2 ih=>rw[<-aI];exact .snoc ih h1 s h2
    exact .then SH (.then (iL G pb) (.then (ky G pb (M4.len hn).2 _) (go 34 _ _ (M4.less (by omega)) (by omega) hc (by decide) (by decide) tx0 ((kk k3).up (by omega)) hA)))
   ·have k4:KA G.out (a+1)=41:=by
     rcases Decidable.em (KA G.out (a+1)=41)with h|h
     ·exact h
     ·rw[show I (KA G.out (a+1)=41)=ar from aa h]at k4;cases k4
    have hA:=gF (s:=123) (k:=41) (by kernel_rfl) k4 hA (by omega);obtain⟨pb,_,hA⟩:=jF hA (by omega) (by decide);have M4:=M1.tok pb
    exact .then (iL G pb) (.then (ky G pb (M4.len hn).2 _) (go 34 _ _ (M4.less (by omega)) (by omega) hc (by decide) (by decide) tx0 (.one s1 (aC _) (by omega)) hA))
theorem vA {F:LI}(hF:SC F)(hX:∀a',a<a'->Xn G a')(nd:List Node)(r:LI){s0:Int}(am7:s0∈F)(ha:a<G.out.length)(hn:nd.length<=4*a)(hA:(KA G.out a=1/\Ac G.out (s0::r) (a+1))\/(KA G.out a=40/\Ac G.out (119::41::s0::r) (a+1))):
  dV (GOT G (SD G F r) a nd 2) λT=>hZ T (st G a nd):=by
 have M0:=(Md.refl (G:=G) (nd:=nd) (Nat.le_of_lt ha)).tok ha
 have tail:∀{a1:Nat} {jT:List Node} {m1:Int},MD G a nd a1 jT 2->a<a1->Spn G jT m1 a a1->Ac G.out (s0::r) a1->dV (GOT G (SD G F r) a nd 2) λT=>(fJ T (st G a1 jT) m1 (tkA G.out a)).bind (dB λtC=>J (tC.2.1,tC.1,())):=λ{a1 jT m1} M lt s1 pa=>by
  have h:=TB hF hn r hX (G.out.length+1) a1 jT m1 s0 (by omega) M lt s1 am7 pa
  have h2:dV (λy=>∃s m,y=an (s,m,())/\At G (SD G F r) a nd s m) λT=>fJ T (st G a1 jT) m1 (tkA G.out a):= .up (λT=>vI T _ _ _) (.bind h λy hy=>by
   obtain⟨s,m,rfl,h⟩:=hy
   exact .ret ⟨s,m,rfl,h⟩)
  refine .bind h2 ?_;rintro _ ⟨s,m,rfl,h⟩;exact .ret h
 refine .up (λT=>yy T _) (.then (iL G ha) ?_)
 rcases hA with⟨hk,hA⟩|⟨hk,hA⟩
 ·exact .yes (ab ((G.kdA ha).trans hk)) (.then (iz _ _) (.then (ky G ha (M0.less (aX _)|>.len (by omega)|>.2) _) (tail (M0.add (k:=3) (ki:=26) (op:=0) (num:=0) (by decide) (G.txt a) ns0 (aC _) (.nil (bR _))|>.less (by omega)) (by omega) (z7 (aC _) (aC _) (aC _)) hA)))
 ·refine .no (aa λe=>by rw[G.kdA ha,hk]at e;cases e) (.bind (hX (a+1) (by omega) nd (41::s0::r) ha (by omega) hA) ?_);rintro⟨m1,_,u⟩ ⟨a1,jT,rfl,M1,lt1,s1,pa⟩;have s1:Spn G jT m1 (a+1) a1:=s1;obtain⟨pb,_,hA⟩:=jF pa M1.top (by decide);have M2:=(M0.trans M1).tok pb;obtain⟨j,hj,ao9⟩:=s1.lt
  have e:dV (GOT G (SD G F r) a nd 2) λT=>(dT T 37 (tkA G.out a)).bind λd45=>(dy T (st G (a1+1) jT) (d45.1.1,d45.1.2.1,d45.1.2.2.1,d45.1.2.2.2.1,d45.1.2.2.2.2.1,d45.1.2.2.2.2.2.1,d45.1.2.2.2.2.2.2.1,d45.1.2.2.2.2.2.2.2.1,([m1]:LI),())).bind λd51=>(fJ T d51.2.1 d51.1 (tkA G.out a)).bind (dB λtC=>J (tC.2.1,tC.1,())):=
   .then (iz _ _) (.then (ky G pb (M2.len hn).2 _) (tail ((M2.less (j:=3) (by omega)).add (ki:=37) (op:=0) (num:=0) (by decide) tx0 ns0 (by omega) (.one s1 (bR _) (bR _))) (by omega) (z7 (aC _) (by omega) (aC _)) hA))
  exact .then (iL G pb) (.yes (by rw[hj];exact db ao9) (.brk (λ_=>e) λ_=> .brk (λ_=>e) λ_=>tail (M2.less (by omega)) (by omega) (s1.wide (by omega) (by omega)) hA))
end Go.Abs.D
end
