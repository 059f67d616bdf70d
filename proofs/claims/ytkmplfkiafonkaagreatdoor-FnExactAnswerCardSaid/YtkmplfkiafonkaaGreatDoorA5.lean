/- What is here: WriteByte, WriteString and String of strings.Builder, at any place of a box, as contracts. -/
import Derived.Test.YtkmplfkiafonkaaGreatDoorA4
import Derived.Lib.AppendStr
import Derived.Lib.UnsafeStr
import Derived.Test.YtkmplfkiafonkaaGreatDoorProg
import Derived.Lib.Bytealg
import Derived.Shelf.Strconv.ParseIntPublic10
import Derived.Shelf.Strconv.Itoa4
import Derived.KernelRfl
import Derived.Room.Shelf.Join48
import Derived.WalkKit
import Derived.ProofKit
import Derived.OpenShut
import Derived.ShutString
import Derived.ChangeOld
import Derived.Below
import Derived.SizedLaws
import Derived.LaidMore
import Derived.Lay
import Derived.SevenTiedAt
import Derived.Stop.Joined
set_option linter.unusedVariables false
set_option linter.unusedSimpArgs false
set_option maxRecDepth 100000
open Go.IntKind (i64 u64 u8)
section
namespace Go.Abs.Bld
open Go.Proofs
theorem Hy {w:World}{b k:Nat}{arr:Array Value}{ty:TypeId}{v:Value}(h:w.heap[b]?=some (.cells arr ty (0,0)))(hv:arr[k]?=some v):w.setCell ⟨b,k,none⟩ v=w:=by
 have:w.heap.modify b (λ| .cells c elem frozen=> .cells (c.setIfInBounds k v) elem frozen|o=>o)=w.heap:=by
  apply Array.ext_getElem?
  intro i;rw[Array.getElem?_modify]
  by_cases e:b=i
  ·subst e;rw[aG3 rfl,h];simp only[Option.map_some]
   have:arr.setIfInBounds k v=arr:=by
    apply Array.ext_getElem?
    intro j;rw[Array.getElem?_setIfInBounds]
    by_cases e:k=j
    ·subst e;rw[aG3 rfl,hv];split
     ·rfl
     ·rename_i gX;rw[Array.getElem?_eq_none (by omega)]at hv;cases hv
    ·rw[aF4 e]
   rw[this]
  ·rw[aF4 e]
 show{w with heap:=_}=w;exact congrArg (λh=>{w with heap:=h}) this
theorem n7 {arr:Array Value}{o:Nat}{x y:Value}(h:(arr.toList.drop o).take 2=[x,y]):arr[o]?=some x/\arr[o+1]?=some y:=by
 have h0:=congrArg (·[0]?) h;have h1:=congrArg (·[1]?) h;simp only[List.getElem?_take,List.getElem?_drop]at h0 h1;simp at h0 h1;exact⟨h0,h1⟩
theorem GA {aD:Rd}{b o ty:Nat}{arr:Array Value}{w:World}{xs:List Int}{nb:List Nat}(ha:w.heap[b]?=some (.cells arr ty (0,0)))(IT:Fw places ty o arr.size=true)(hB:qd aD w (b,o) xs ((arr.toList.drop o).take 2) nb):
  Calls Tryz.prog 110 #[.pointer (some ⟨b,o,none⟩)] w λe w'=>e= .returned (.tuple #[])/\w'=w.setCell ⟨b,o,none⟩ (.pointer (some ⟨b,o,none⟩)):=by
 rcases hB with⟨h1,h2,h3⟩|⟨u2,h1,h2,h4⟩
 ·obtain⟨c0,c1⟩:=n7 h1;exact C0 b o ty arr.size w (by rw[Lib.cell_of_heap ha,c0]) (by simp[World.shape?,ha]) (Lib.frozen_of_heap ha o) IT
 ·obtain⟨c0,c1⟩:=n7 h1;refine(DH b o w (by rw[Lib.cell_of_heap ha,c0])).mono ?_;rintro e w' ⟨rfl,rfl⟩;exact⟨rfl,(Hy ha c0).symm⟩
noncomputable def E1:TypeInfo:=match Tryz.prog.info? 5 with
 |some i=>i
 |none=>default
theorem Ch:Tryz.prog.info? 5=some E1:=by kernel_rfl
def J2 (aD:Rd)(w1:World)(nb:List Nat)(xs:List Int)(v:Value)(w':World):Prop:=∃jd,After aD w1 nb aD w' jd/\OwnAt aD w' false (.int .u8) xs [v] jd/\∀b∈jd,∃arr,w'.heap[b]?=some (.cells arr lQ (0,0))
def Written (aD:Rd)(w:World)(b o ty:Nat)(arr:Array Value)(nb:List Nat)(xs:List Int)(w':World):Prop:=∃jd lD v,After aD w (b::nb) aD w' (b::jd)/\w'.heap[b]?=some (.cells lD ty (0,0))/\
 lD.toList=arr.toList.take o++[.pointer (some ⟨b,o,none⟩),v]++arr.toList.drop (o+2)/\OwnAt aD w' false (.int .u8) xs [v] jd/\∀b∈jd,∃arr,w'.heap[b]?=some (.cells arr lQ (0,0))
set_option maxHeartbeats 2000000 in
set_option maxRecDepth 100000 in
theorem Oe {aD:Rd}{b o ty:Nat}{arr:Array Value}{w:World}{xs:List Int}{nb:List Nat}(c:Int)(ha:w.heap[b]?=some (.cells arr ty (0,0)))(hle:o+2<=arr.size)(IT:Fw places ty o arr.size=true)
  (hB:qd aD w (b,o) xs ((arr.toList.drop o).take 2) nb) (hn:(b::nb).Nodup) (hi:∀y∈b::nb,aD y=none/\y<w.heap.size) (hc:∀b L,aD b=some L->∃arr ty fr,w.heap[b]?=some (.cells arr ty fr)/\arr.toList=L)
  (pk:xs.length+1<=1099511627776):
  Calls Tryz.prog 155 #[.pointer (some ⟨b,o,none⟩), .int .u8 c] w λe w'=>e= .returned .nilIface/\Written aD w b o ty arr nb (xs++[c]) w':=by
 go_enter Tryz.func155,Tryz.ntmps155
 go_wp2_with (go_at_call 110;refine(GA ha IT hB).mono ?_)
 rintro e w1 ⟨rfl,e1⟩
 obtain⟨u,hu,hO,Mv⟩:∃u,arr[o+1]?=some u/\OwnAt aD w false (.int .u8) xs [u] nb/\∀b∈nb,∃arr,w.heap[b]?=some (.cells arr lQ (0,0)):=by
  rcases hB with⟨h1,h2,h3⟩|⟨u2,h1,h2,h3⟩
  ·exact⟨_,(n7 h1).2, .inl ⟨rfl,h2,h3⟩,λy hy=>by rw[h3]at hy;simp at hy⟩
  ·exact⟨_,(n7 h1).2,h2,h3⟩
 obtain⟨s1,s2,s3⟩:=nY (k:=o) ha (.pointer (some ⟨b,o,none⟩));rw[<-e1]at s1 s2 s3;have oS:=List.nodup_cons.1 hn
 have Ub:OwnAt aD w1 false (.int .u8) xs [u] nb:=hO.other λy hy=>s2 y λe=>oS.1 (e ▸ hy)
 have Xj:∀y∈nb,∃arr,w1.heap[y]?=some (.cells arr lQ (0,0)):=λy hy=>by
  obtain⟨a,k⟩:=Mv y hy;exact⟨a,by rw[s2 y λe=>oS.1 (e ▸ hy)];exact k⟩
 have WK:∀y∈nb,aD y=none/\y<w1.heap.size:=λy hy=>⟨(hi y (aD9 _ hy)).1,by rw[s3];exact(hi y (aD9 _ hy)).2⟩
 have c1:w1.cell? ⟨b,o+1,none⟩=some u:=by
  rw[Lib.cell_of_heap s1,Array.getElem?_setIfInBounds,aF4 (by omega)];exact hu
 have AO:∀b L,aD b=some L->∃arr ty fr,w1.heap[b]?=some (.cells arr ty fr)/\arr.toList=L:=λy L h=>by
  rw[s2 y λe=>by rw[e,(hi b (aE0 ..)).1]at h;cases h];exact hc y L h
 have Mu:(w1.alloc (.cells #[.int .u8 c] 5)).heap[w1.heap.size]?=some (.cells #[.int .u8 c] 5 (0,0)):=by
  show(w1.heap.push _)[w1.heap.size]?=_;rw[Array.getElem?_push,aG3 rfl]
 have hold:∀{y:Nat} {x:Go.Obj},w1.heap[y]?=some x->(w1.alloc (.cells #[.int .u8 c] 5)).heap[y]?=some x:=λ{y x} k=>by
  have:=lt_of_heap k;show(w1.heap.push _)[y]?=_;rw[Array.getElem?_push,aF4 (by omega)];exact k
 have hr:∃v w',(Builtin.append_ #[45,45] 45 #[u, .slice (some ⟨w1.heap.size,0,none⟩) 1 1]).run Tryz.prog (w1.alloc (.cells #[.int .u8 c] 5))= .ok v w'/\J2 aD w1 nb (xs++[c]) v w':=by
  obtain⟨v,w',jd,h1,h2,h3,h4⟩:=GR (P:=Tryz.prog) (t:=45) (tx:=45) (ty:=45) (e:=5) (ys:=[c]) (i:=E1) (z:= .int .u8 0) (by kernel_rfl) Ch (by kernel_rfl) (by kernel_rfl) (aE7 (by kernel_rfl)) rfl (Ub.alloc (λy hy=>(WK y hy).2) (.cells #[.int .u8 c] 5))
   (Src.ofSlice (P:=Tryz.prog) (w:=w1.alloc (.cells #[.int .u8 c] 5)) (e':=5) (by kernel_rfl) ⟨w1.heap.size,0,none⟩ 1 1 [.int .u8 c] rfl (λj x hj=>by
    rw[Addr.add_lit,Lib.cell_of_heap Mu]
    match j,hj with
    |0,hj=>simpa using hj) (λx hx=>by
    have:x= .int .u8 c:=(by simpa using hx)
    subst this;rfl)) pk (λy L h=>by
    obtain⟨a,t,f,k1,k2⟩:=AO y L h
    exact⟨a,t,f,hold k1,k2⟩) (λy hy=>⟨(WK y hy).1,by
     have:=(WK y hy).2;show y<(w1.heap.push _).size
     simp;omega⟩) (λy hy=>by
    obtain⟨a,k⟩:=Xj y hy
    exact⟨a,hold k⟩)
  exact⟨v,w',h1,jd,h2.SH (λy L h=>by obtain⟨a,t,f,k1,k2⟩:=AO y L h;exact lt_of_heap k1),h3,h4⟩
 have ad2:∃_:True,w1=w.setCell ⟨b,o,none⟩ (.pointer (some ⟨b,o,none⟩))/\w1.heap.size=w.heap.size:=⟨trivial,e1,s3⟩;clear e1 s3
 go_wp2_with (at_builtin;refine sI rfl _ _ 45 45 rfl _ _ rfl rfl _ hr ?_)
 rintro v w2 ⟨O9,A,Mz,Xd⟩;obtain⟨_,e1,s3⟩:=ad2;obtain⟨B1,B2,lD,B3,B4,B5,B6⟩:=GM ha hle hn hi hc e1 A Mz
 have Wn:∀y∈O9,∃arr,(w2.setCell ⟨b,o+1,none⟩ v).heap[y]?=some (.cells arr lQ (0,0)):=λy hy=>by
  obtain⟨a,k⟩:=Xd y hy;exact⟨a,by rw[(nY (k:=o+1) B6 v).2.1 y λe=>B2 (e ▸ hy)];exact k⟩
 obtain⟨ao,n',cap,rfl⟩:∃ao n' cap,v= .slice ao n' cap:=by
  rcases Mz with⟨h1,_⟩|⟨b',cap,lD,zD,jd,h1,_⟩
  ·injection h1 with h1 _;exact⟨_,_,_,h1⟩
  ·injection h1 with h1 _;exact⟨_,_,_,h1⟩
 have d1:w2.cell? ⟨b,o+1,none⟩=some u:=by
  rw[Lib.cell_of_heap B6,Array.getElem?_setIfInBounds,aF4 (by omega)];exact hu
 have f1:w2.frozen? ⟨b,o+1,none⟩=false:=Lib.frozen_of_heap B6 (o+1);clear e1
 go_wp2
 go_ret
 exact⟨rfl,O9,lD,_,B1,B3,B4,B5,Wn⟩
set_option maxHeartbeats 2000000 in
set_option maxRecDepth 100000 in
theorem writeString {aD:Rd}{b o ty:Nat}{arr:Array Value}{w:World}{xs:List Int}{nb:List Nat}(s:ByteArray)(ha:w.heap[b]?=some (.cells arr ty (0,0)))(hle:o+2<=arr.size)(IT:Fw places ty o arr.size=true)
  (hB:qd aD w (b,o) xs ((arr.toList.drop o).take 2) nb) (hn:(b::nb).Nodup) (hi:∀y∈b::nb,aD y=none/\y<w.heap.size) (hc:∀b L,aD b=some L->∃arr ty fr,w.heap[b]?=some (.cells arr ty fr)/\arr.toList=L)
  (pk:xs.length+(bytesOf s).length<=1099511627776):
  Calls Tryz.prog 63 #[.pointer (some ⟨b,o,none⟩), .string s] w λe w'=>e= .returned (.tuple #[.int .i64 s.size, .nilIface])/\Written aD w b o ty arr nb (xs++bytesOf s) w':=by
 go_enter Tryz.func63,Tryz.ntmps63
 go_wp2_with (go_at_call 110;refine(GA ha IT hB).mono ?_)
 rintro e w1 ⟨rfl,e1⟩
 obtain⟨u,hu,hO,Mv⟩:∃u,arr[o+1]?=some u/\OwnAt aD w false (.int .u8) xs [u] nb/\∀b∈nb,∃arr,w.heap[b]?=some (.cells arr lQ (0,0)):=by
  rcases hB with⟨h1,h2,h3⟩|⟨u2,h1,h2,h3⟩
  ·exact⟨_,(n7 h1).2, .inl ⟨rfl,h2,h3⟩,λy hy=>by rw[h3]at hy;simp at hy⟩
  ·exact⟨_,(n7 h1).2,h2,h3⟩
 obtain⟨s1,s2,s3⟩:=nY (k:=o) ha (.pointer (some ⟨b,o,none⟩));rw[<-e1]at s1 s2 s3;have oS:=List.nodup_cons.1 hn
 have Ub:OwnAt aD w1 false (.int .u8) xs [u] nb:=hO.other λy hy=>s2 y λe=>oS.1 (e ▸ hy)
 have Xj:∀y∈nb,∃arr,w1.heap[y]?=some (.cells arr lQ (0,0)):=λy hy=>by
  obtain⟨a,k⟩:=Mv y hy;exact⟨a,by rw[s2 y λe=>oS.1 (e ▸ hy)];exact k⟩
 have WK:∀y∈nb,aD y=none/\y<w1.heap.size:=λy hy=>⟨(hi y (aD9 _ hy)).1,by rw[s3];exact(hi y (aD9 _ hy)).2⟩
 have c1:w1.cell? ⟨b,o+1,none⟩=some u:=by
  rw[Lib.cell_of_heap s1,Array.getElem?_setIfInBounds,aF4 (by omega)];exact hu
 have AO:∀b L,aD b=some L->∃arr ty fr,w1.heap[b]?=some (.cells arr ty fr)/\arr.toList=L:=λy L h=>by
  rw[s2 y λe=>by rw[e,(hi b (aE0 ..)).1]at h;cases h];exact hc y L h
 have hr:∃v w',(Builtin.append_ #[45,9] 45 #[u, .string s]).run Tryz.prog w1= .ok v w'/\J2 aD w1 nb (xs++bytesOf s) v w':=by
  have hb:Go.byteCells s=(bytesOf s).map (Value.int .u8):=by
   unfold Go.byteCells bytesOf;rw[List.map_map];rfl
  have hs:Src Tryz.prog 1 9 (.string s) (bytesOf s).length ((bytesOf s).map (Value.int .u8)) w1:=by
   rw[<-hb,eN];exact Src.ofString w1 (by kernel_rfl) s
  obtain⟨v,w',jd,h1,h2,h3,h4⟩:=GR (P:=Tryz.prog) (t:=45) (tx:=9) (ty:=45) (e:=5) (ys:=bytesOf s) (i:=E1) (z:= .int .u8 0) (by kernel_rfl) Ch (by kernel_rfl) (by kernel_rfl) (aE7 (by kernel_rfl)) rfl Ub hs pk AO WK Xj;exact⟨v,w',h1,jd,h2,h3,h4⟩
 have ad2:∃_:True,w1=w.setCell ⟨b,o,none⟩ (.pointer (some ⟨b,o,none⟩))/\w1.heap.size=w.heap.size:=⟨trivial,e1,s3⟩;clear e1 s3
 go_wp2_with (at_builtin;refine sI rfl _ _ 45 9 rfl _ _ rfl rfl _ hr ?_)
 rintro v w2 ⟨O9,A,Mz,Xd⟩;obtain⟨_,e1,s3⟩:=ad2;obtain⟨B1,B2,lD,B3,B4,B5,B6⟩:=GM ha hle hn hi hc e1 A Mz
 have Wn:∀y∈O9,∃arr,(w2.setCell ⟨b,o+1,none⟩ v).heap[y]?=some (.cells arr lQ (0,0)):=λy hy=>by
  obtain⟨a,k⟩:=Xd y hy;exact⟨a,by rw[(nY (k:=o+1) B6 v).2.1 y λe=>B2 (e ▸ hy)];exact k⟩
 obtain⟨ao,n',cap,rfl⟩:∃ao n' cap,v= .slice ao n' cap:=by
  rcases Mz with⟨h1,_⟩|⟨b',cap,lD,zD,jd,h1,_⟩
  ·injection h1 with h1 _;exact⟨_,_,_,h1⟩
  ·injection h1 with h1 _;exact⟨_,_,_,h1⟩
 have d1:w2.cell? ⟨b,o+1,none⟩=some u:=by
  rw[Lib.cell_of_heap B6,Array.getElem?_setIfInBounds,aF4 (by omega)];exact hu
 have f1:w2.frozen? ⟨b,o+1,none⟩=false:=Lib.frozen_of_heap B6 (o+1);clear e1
 go_wp2
 go_ret2
 exact⟨rfl,O9,lD,_,B1,B3,B4,B5,Wn⟩
end Go.Abs.Bld
end

section
set_option maxRecDepth 100000
namespace Go.Abs.Bld
open Go.Proofs
theorem D9 {P:Program}{w:World}:∀(xs:List Int)(a:Addr)(acc:ByteArray),(∀j x,xs[j]?=some x->w.cell? (a.add j)=some (.int .u8 x))->
  ∃st,(loadBytes a acc xs.length).run P w= .ok st w/\bytesOf st=bytesOf acc++xs.map byte
 |[],a,acc,_=>⟨acc,by simp[loadBytes],by simp⟩
 |x::xs,a,acc,h=>by
  have h0:w.cell? a=some (.int .u8 x):=by
   have:=h 0 x rfl;simpa[Addr.add]using this
  obtain⟨st,h1,h2⟩:=D9 (P:=P) (w:=w) xs (a.add 1) (acc.push x.toNat.toUInt8) (λj y hy=>by
   have:=h (j+1) y (by simpa using hy)
   have e:(a.add 1).add j=a.add (j+1):=by
    unfold Addr.add
    by_cases hj:j=0
    ·subst hj;simp
    ·simp[hj];omega
   rw[e];exact this)
  refine⟨st, ?_, ?_⟩
  ·simp only[aC3,loadBytes,Sem.run_bind,run_load,h0,Result.andThen];exact h1
  ·rw[h2]
   have:bytesOf (acc.push x.toNat.toUInt8)=bytesOf acc++[byte x]:=by
    unfold bytesOf byte;rw[ByteArray.data_push];simp
   rw[this];simp
theorem FR {P:Program}{w:World}(pt it ty e:TypeId)(hp:P.underlying pt=some (.pointer e))(hc:P.cellsOf e=1)(g cells:Nat)(Zv:w.shape? g=some (e,cells))(xs:List Int)(h0:xs≠[])(hn:xs.length<=cells)(h63:xs.length<=9223372036854775807)
  (oF:∀j x,xs[j]?=some x->w.cell? ((⟨g,0,none⟩:Addr).add j)=some (.int .u8 x)):
  ∃st,(Builtin.unsafeString_ #[pt,it] ty #[.pointer (some ⟨g,0,none⟩), .int .i64 xs.length]).run P w= .ok (.string st) (w.freeze ⟨g,0,none⟩ xs.length)/\bytesOf st=xs.map byte:=by
 have hl:xs.length≠0:=(by simpa using h0);obtain⟨st,OV,mB⟩:=D9 (P:=P) (w:=w) xs ⟨g,0,none⟩ .empty oF;refine⟨st, ?_,by rw[mB];simp[bytesOf]⟩;have Yu:=Lib.liesAt_bytes (P:=P) hc (cells/P.cellsOf e) xs.length (by rw[hc];simpa using hn);have ab7:¬ (9223372036854775807:Int)<(xs.length:Int):=(by omega)
 have ak5:Builtin.unsafeString_ #[pt,it] ty #[.pointer (some ⟨g,0,none⟩), .int .i64 xs.length]=
   (do
    let n<-Go.asInt (.int .i64 xs.length)
    if n<0 then runtimePanic (.error "unsafe.String: len out of range")
    if n>i64.max then unsupported (.unsafePointer "String: a length above the largest int")
    if n=0 then pure (.string .empty)
    else if<-variablesAt ⟨g,0,none⟩ (<-elemOf pt) n.toNat then do
     let s<-loadBytes ⟨g,0,none⟩ .empty n.toNat
     freeze ⟨g,0,none⟩ n.toNat
     pure (.string s)
    else unsupported (.unsafePointer "String: not so many bytes at ptr")):=rfl
 rw[ak5];have ah6:i64.max=9223372036854775807:=rfl;have yh:¬ (xs.length:Int)<0:=(by omega);simp[Go.asInt,asIntOf,ah6,ab7,yh,hl,variablesAt,Zv,elemOf,run_underlying hp,Yu,OV]
structure Read (aD:Rd)(w:World)(nb:List Nat)(w':World):Prop where
 other:∀b,b<w.heap.size->b∉nb->w'.heap[b]?=w.heap[b]?
 size:w.heap.size<=w'.heap.size
 os:w'.os=w.os
 tape:w'.tape=w.tape
 output:w'.output=w.output
theorem Read.after {aD:Rd}{w w':World}{nb:List Nat}(h:Read aD w nb w')(hn:∀y∈nb,aD y=none/\y<w.heap.size)(hc:∀b L,aD b=some L->∃arr ty fr,w.heap[b]?=some (.cells arr ty fr)/\arr.toList=L):After aD w nb aD w' []:=
 ⟨λ_ _ h=>h,λb L k=>by
  obtain⟨a,t,f,k1,k2⟩:=hc b L k;refine⟨a,t,f, ?_,k2⟩;rw[h.other b (lt_of_heap k1) λhm=>by rw[(hn b hm).1]at k;cases k]
  exact k1,λb h1 h2 h3=>⟨h.other b h1 h2,h3⟩,aG5,(λb hb=>by simp at hb),h.size,h.os,h.tape,h.output,λb L k=>by
  obtain⟨a,t,f,k1,k2⟩:=hc b L k
  exact h.other b (lt_of_heap k1) λhm=>by rw[(hn b hm).1]at k;cases k⟩
theorem Read.drew (aD:Rd)(w:World)(nb:List Nat):Read aD w nb w.drew:=⟨λ_ _ _=>rfl,aE5 _,rfl,rfl,rfl⟩
theorem Read.N3 (aD:Rd)(w:World)(nb:List Nat)(o:Go.Obj):Read aD w nb (w.drew.alloc o):=
 ⟨λb h _=>by
  show(w.heap.push _)[b]?=_
  rw[Array.getElem?_push,aF4 (by omega)],by show _<=(w.heap.push _).size;simp,rfl,rfl,rfl⟩
theorem Read.freeze {aD:Rd}{w:World}{nb:List Nat}{g:Nat}(hg:g∈nb)(n:Nat):Read aD w nb (w.drew.freeze ⟨g,0,none⟩ n):=by
 unfold World.freeze;split
 ·exact Read.drew aD w nb
 ·refine⟨λb _ hb=> ?_,by simp,rfl,rfl,rfl⟩;simp only[Array.getElem?_modify];rw[aF4 (λe:g=b=>hb (e ▸ hg))];rfl
set_option maxHeartbeats 2000000 in
set_option maxRecDepth 100000 in
theorem string {aD:Rd}{b o ty:Nat}{arr:Array Value}{w:World}{xs:List Int}{nb:List Nat}(ha:w.heap[b]?=some (.cells arr ty (0,0)))(hle:o+2<=arr.size)
  (hB:qd aD w (b,o) xs ((arr.toList.drop o).take 2) nb) (pk:xs.length<=1099511627776):
  Calls Tryz.prog 30 #[.pointer (some ⟨b,o,none⟩)] w λe w'=>∃st,e= .returned (.string st)/\bytesOf st=xs.map byte/\Read aD w nb w':=by
 obtain⟨u,hu,hO,Mv⟩:∃u,arr[o+1]?=some u/\OwnAt aD w false (.int .u8) xs [u] nb/\∀b∈nb,∃arr,w.heap[b]?=some (.cells arr lQ (0,0)):=by
  rcases hB with⟨h1,h2,h3⟩|⟨u2,h1,h2,h3⟩
  ·exact⟨_,(n7 h1).2, .inl ⟨rfl,h2,h3⟩,λy hy=>by rw[h3]at hy;simp at hy⟩
  ·exact⟨_,(n7 h1).2,h2,h3⟩
 have hd:w.drew.heap[b]?=some (.cells arr ty (0,0)):=ha
 have c1:w.drew.cell? ⟨b,o+1,none⟩=some u:=by rw[Lib.cell_of_heap hd];exact hu
 have c0:w.cell? ⟨b,o+1,none⟩=some u:=c1
 have hnone:∀(W:World) (q:Option Addr),(Builtin.unsafeString_ #[101,3] 9 #[.pointer q, .int .i64 0]).run Tryz.prog W= .ok (.string .empty) W:=λW q=>Lib.run_unsafeString_none W _ _ _ q
 rcases hO with⟨h1,rfl,_⟩|⟨g,cap,lD,zD,jd,h1,h2,h3,h4,h5,h6⟩
 ·injection h1 with h1 _
  subst h1;have ab5:(Builtin.unsafeSliceData_ #[45] 101 #[.slice none 0 0]).run Tryz.prog w.drew= .ok (.pointer none) w.drew:=rfl;have fin:=Read.drew aD w nb;clear hB Mv
  go_enter Tryz.func30,Tryz.ntmps30
  go_wp2
  go_region
  all_goals (go_wp2;go_ret;exact⟨_,rfl,rfl,fin⟩)
 ·injection h1 with h1 _
  subst h1
  have hg:g∈nb:=by rw[h2];simp
  obtain⟨af9,k1⟩:=Mv g hg;rw[h3]at k1
  injection k1 with k1;injection k1 with _ k2
  subst k2
  have VV:lD.size=cap:=by simpa[Ty.size]using h5
  have Pf:w.drew.heap[g]?=some (.cells lD lQ (0,0)):=h3
  by_cases hx:xs=[]
  ·subst hx
   by_cases Xo:cap=0
   ·subst Xo
    have ab5:(Builtin.unsafeSliceData_ #[45] 101 #[.slice (some ⟨g,0,none⟩) 0 0]).run Tryz.prog w.drew= .ok (.pointer (some ⟨w.drew.heap.size,0,none⟩)) (w.drew.alloc (.view ⟨g,0,none⟩ 5)):=
     Lib.run_unsafeSliceData_zero w.drew _ _ 5 (by kernel_rfl) ⟨g,0,none⟩ 0 (5,lD.size) (by simp[World.shape?,Pf,lQ])
    have c2:(w.drew.alloc (.view ⟨g,0,none⟩ 5)).cell? ⟨b,o+1,none⟩=some (.slice (some ⟨g,0,none⟩) 0 0):=by
     have:(w.drew.alloc (.view ⟨g,0,none⟩ 5)).heap[b]?=some (.cells arr ty (0,0)):=(Lib.alloc_old w.drew _ b (lt_of_heap ha)).trans ha;rw[Lib.cell_of_heap this];exact hu
    have c3:(w.alloc (.view ⟨g,0,none⟩ 5)).drew.cell? ⟨b,o+1,none⟩=some (.slice (some ⟨g,0,none⟩) 0 0):=c2;have fin:=Read.N3 aD w nb (.view ⟨g,0,none⟩ 5);clear hB Mv
    go_enter Tryz.func30,Tryz.ntmps30
    go_wp2
    go_region
    all_goals (go_wp2;go_ret;exact⟨_,rfl,rfl,fin⟩)
   ·have ab5:(Builtin.unsafeSliceData_ #[45] 101 #[.slice (some ⟨g,0,none⟩) 0 cap]).run Tryz.prog w.drew= .ok (.pointer (some ⟨g,0,none⟩)) w.drew:=
     Lib.run_unsafeSliceData_row _ _ _ _ _ _ Xo
    have fin:=Read.drew aD w nb;clear hB Mv Xo
    go_enter Tryz.func30,Tryz.ntmps30
    go_wp2
    go_region
    all_goals (go_wp2;go_ret;exact⟨_,rfl,rfl,fin⟩)
  ·have qf:0<xs.length:=List.length_pos_iff.2 hx
   have ab5:(Builtin.unsafeSliceData_ #[45] 101 #[.slice (some ⟨g,0,none⟩) xs.length cap]).run Tryz.prog w.drew= .ok (.pointer (some ⟨g,0,none⟩)) w.drew:=
    Lib.run_unsafeSliceData_row _ _ _ _ _ _ (by omega)
   obtain⟨st,hUS,mB⟩:=FR (P:=Tryz.prog) (w:=w.drew) 101 3 9 5 (by kernel_rfl) (by kernel_rfl) g lD.size (by simp[World.shape?,Pf,lQ]) xs hx (by omega) (by omega) (λj x hj=>by
    obtain⟨WZ,rfl⟩:=List.getElem?_eq_some_iff.1 hj;rw[Addr.add_lit]
    exact Bs Pf h6.1 j WZ)
   have fin:Read aD w nb (w.drew.freeze ⟨g,0,none⟩ xs.length):=Read.freeze hg _;clear hB Mv hx
   go_enter Tryz.func30,Tryz.ntmps30
   go_wp2
   go_region
   all_goals (go_wp2;go_ret;exact⟨_,rfl,mB,fin⟩)
end Go.Abs.Bld
end

section
set_option maxRecDepth 100000
namespace Go.Abs.Bld
open Go.Proofs
theorem E9 {ρ:Type}{n:Nat}{x y:ρ}(h:(bif fits n then some x else none)=some y):n<=1099511627776/\x=y:=by
 cases e:fits n with
 |false=>rw[e]at h;cases h
 |true=>rw[e]at h;injection h with h;exact⟨aE7 e,h⟩
theorem Ke {aD:Rd}{w w':World}{b o ty:Nat}{arr:Array Value}{nb:List Nat}{xs:List Int}(ha:w.heap[b]?=some (.cells arr ty (0,0)))(hle:o+2<=arr.size)(h:Written aD w b o ty arr nb xs w'):
  ∃jd,After aD w (b::nb) aD w' (b::jd)/\nA aD w w' (.ptr false (0,places) .sA) xs (0,0) [.pointer (some ⟨b,o,none⟩)] [.pointer (some ⟨b,o,none⟩)] (b::jd):=by
 obtain⟨jd,lD,v,A,h1,h2,h3,h4⟩:=h;refine⟨jd,A,b,o,arr,ty,lD,[.pointer (some ⟨b,o,none⟩),v],jd,rfl,rfl,rfl,ha,h1,h2,hle,rfl, .inr ⟨v,rfl,h3,h4⟩⟩
theorem Hu (df:Nat->Option (List Cell)):lP Tryz.prog df 155 ⟨⟨[bp, .one (.cH (.int .u8))], .val (.one .err)⟩,kh⟩:=by
 intro x y hF aD w args nb hG hc hP hn hi;obtain⟨pk,rfl⟩:=E9 hF;obtain⟨u1,r1,n1,n2,rfl,rfl,⟨_,b,o,arr,ty,jd,e1,rfl,ha,hw,hle,hB⟩,u2,r2,n3,n4,rfl,rfl,⟨_,rfl,_,u3,e2,h3⟩,rfl,rfl⟩:=hP
 injection e1 with e1 _
 injection e2 with e2 _
 subst e1;subst e2;have h3:[_]=[_]:=h3
 injection h3 with h3 _
 subst h3;simp only[aF0]at hn hi;refine eZ Tryz.func155 rfl (by kernel_rfl) ((Oe x.2.1 ha hle (hw.2 rfl) hB hn hi hc pk).mono ?_);rintro e w' ⟨rfl,hW⟩;obtain⟨Zb,A,ag1⟩:=Ke ha hle hW;refine⟨_,rfl,aD,[],b::Zb,by simpa using A,⟨rfl,rfl,_,rfl, .inl ⟨rfl,rfl⟩⟩,_,_,b::Zb,[],rfl,by simp,ag1,_,_,[],[],rfl,rfl,rfl,rfl,rfl⟩
theorem DC (df:Nat->Option (List Cell)):lP Tryz.prog df 63 ⟨⟨[bp, .one (.cH .str)], .tb [.one (.cH (.int .i64)), .one .err]⟩,jk⟩:=by
 intro x y hF aD w args nb hG hc hP hn hi;obtain⟨pk,rfl⟩:=E9 hF;obtain⟨u1,r1,n1,n2,rfl,rfl,⟨_,b,o,arr,ty,jd,e1,rfl,ha,hw,hle,hB⟩,u2,r2,n3,n4,rfl,rfl,⟨_,rfl,_,u3,e2,s,h3,h4⟩,rfl,rfl⟩:=hP
 injection e1 with e1 _
 injection e2 with e2 _
 subst e1;subst e2
 injection h3 with h3 _
 subst h3;simp only[aF0]at hn hi;have RZ:x.2.1=bytesOf s:=h4;refine eZ Tryz.func63 rfl (by kernel_rfl) ((writeString s ha hle (hw.2 rfl) hB hn hi hc (by rw[<-RZ];exact pk)).mono ?_);rintro e w' ⟨rfl,hW⟩;rw[<-RZ]at hW;obtain⟨Zb,A,ag1⟩:=Ke ha hle hW;refine⟨_,rfl,aD,[],b::Zb,by simpa using A,⟨[_,_],rfl,_,_,[],[],rfl,rfl,⟨rfl,rfl,rfl,_,rfl, ?_⟩,_,_,[],[],rfl,rfl,⟨rfl,rfl,_,rfl, .inl ⟨rfl,rfl⟩⟩,rfl,rfl⟩,_,_,b::Zb,[],rfl,by simp,ag1,_,_,[],[],rfl,rfl,rfl,rfl,rfl⟩;show [_]=[_];rw[<-eN,<-RZ]
theorem On (df:Nat->Option (List Cell)):lP Tryz.prog df 30 ⟨⟨[.one (.yK places)], .val (.one (.cH .str))⟩,s5⟩:=by
 intro x y hF aD w args nb hG hc hP hn hi;obtain⟨pk,rfl⟩:=E9 hF;obtain⟨u1,r1,n1,n2,rfl,rfl,⟨_,b,o,arr,ty,e1,ha,IT,hle,hB⟩,rfl,rfl⟩:=hP
 injection e1 with e1 _
 subst e1;simp only[aF0]at hn hi;refine eZ Tryz.func30 rfl (by kernel_rfl) ((string ha hle hB pk).mono ?_);rintro e w' ⟨st,rfl,mB,hR⟩;refine⟨_,rfl,aD,[],[], ?_,⟨rfl,rfl,rfl,_,rfl,st,rfl,mB.symm⟩,_,_,[],[],rfl,rfl,rfl,rfl,rfl⟩;rw[aF0];exact hR.after hi hc
end Go.Abs.Bld
end

section
set_option maxRecDepth 100000
namespace Go.Abs.Bld
open Go.Proofs
theorem Kg {l:List UInt8}{c:UInt8}:∀(m:List UInt8)(k:Nat),l=l.take k++m->k<=l.length->(match(List.range' k m.length).find? λi=>l.getD i 0==c with|some i=>(i:Int)|none=> -1)=idx (m.map λb=>(b.toNat:Int)) (c.toNat:Int) k
 |[],k,_,_=>rfl
 |x::m,k,h,hk=>by
  have hx:l.getD k 0=x:=by
   rw[aE2,h,List.getElem?_append_right (by simp;omega)];simp[Nat.min_eq_left hk]
  have hlen:l.length=k+(m.length+1):=by
   have:=congrArg List.length h;simp only[aC2,aF5,aC3]at this;omega
  have ih:=Kg (l:=l) (c:=c) m (k+1) (by
   have h':l=l.take k++[x]++m:=by rw[aC7];exact h
   have h2:l.take (k+1)=l.take k++[x]:=by
    conv=>lhs;rw[h']
    rw[List.take_left'];simp[Nat.min_eq_left hk]
   rw[h2];exact h') (by omega)
  rw[aC3,List.range'_succ,List.find?_cons,hx];simp only[List.map_cons,idx]
  by_cases e:x=c
  ·subst e;simp
  ·have e1:(x==c)=false:=(by simpa using e)
   have e2:decide ((x.toNat:Int)=(c.toNat:Int))=false:=by
    simp only[aC8];intro h'
    apply e
    have:x.toNat=c.toNat:=(by omega);exact UInt8.toNat_inj.1 this
   rw[e1,e2];simp only[aD1];rw[ih]
   push_cast
   rfl
theorem I4 (s:ByteArray)(c:Int):firstIdx s c.toNat.toUInt8=idx (bytesOf s) (byte c) 0:=by
 have h:=Kg (l:=s.data.toList) (c:=c.toNat.toUInt8) s.data.toList 0 (by simp) (aG8 _)
 have hc:((c.toNat.toUInt8).toNat:Int)=byte c:=by
  unfold byte;rw[UInt8.toNat_ofNat']
 rw[hc]at h;have hb:(s.data.toList.map λb=>(b.toNat:Int))=bytesOf s:=rfl;rw[hb]at h;refine Eq.trans ?_ h;unfold firstIdx
 have lh:s.size=s.data.toList.length:=by
  rw[Array.length_toList];rfl
 rw[lh,List.range_eq_range']
 have:∀i,s[i]! =s.data.toList.getD i 0:=λi=>by
  by_cases h:i<s.size
  ·rw[getElem!_pos s i h]
   have h':i<s.data.toList.length:=by rw[<-lh];exact h
   rw[aE2,aE1 h',Option.getD_some];rfl
  ·rw[getElem!_neg s i h]
   have h':s.data.toList.length<=i:=by rw[<-lh];omega
   rw[aE2,List.getElem?_eq_none h'];rfl
 simp only[this];split<;>rename_i e<;>rw[e]
theorem HB (df:Nat->Option (List Cell)):lP Tryz.prog df 235 ⟨⟨[.one (.cH .str), .one (.cH (.int .u8))], .val (.one (.cH (.int .i64)))⟩,r7⟩:=
 ur (ts:=[.str, .int .u8]) (τ:= .int .i64) rfl rfl λx y hF w us hA=>by
  injection hF with hF
  subst hF;obtain⟨u1,r1,rfl,⟨s,rfl,hs⟩,u2,r2,rfl,h2,h3⟩:=hA;have h2:_=_:=h2;have h3:_=_:=h3;subst h2;subst h3;have hs:x.1=bytesOf s:=hs;unfold gY;rw[run_callFunc_extern Tryz.func235 (by kernel_rfl) (by kernel_rfl) (by kernel_rfl) (e:=Extern.BytealgIndexByte.indexByte) (by kernel_rfl),run_indexByte_string];refine⟨Same.refl w, ?_⟩;show _=Value.int .i64 (idx x.1 (byte x.2.1) 0);rw[I4,hs]
end Go.Abs.Bld
end

section
set_option maxRecDepth 100000
namespace Go.Abs.Bld
open Go.Proofs
theorem count_map (c:UInt8):∀l:List UInt8,(l.map λb=>(b.toNat:Int)).count (c.toNat:Int)=l.count c
 |[]=>rfl
 |x::l=>by
  have ih:=count_map c l;rw[List.map_cons,List.count_cons,List.count_cons,ih]
  congr 1
  by_cases e:x=c
  ·subst e;simp
  ·have:¬ (x.toNat:Int)=(c.toNat:Int):=λh=>e (UInt8.toNat_inj.1 (by omega))
   simp[e,this]
theorem PZ (df:Nat->Option (List Cell)):lP Tryz.prog df 83 ⟨⟨[.one (.cH .str), .one (.cH (.int .u8))], .val (.one (.cH (.int .i64)))⟩,Fm⟩:=
 ur (ts:=[.str, .int .u8]) (τ:= .int .i64) rfl rfl λx y hF w us hA=>by
  injection hF with hF
  subst hF;obtain⟨u1,r1,rfl,⟨s,rfl,hs⟩,u2,r2,rfl,h2,h3⟩:=hA;have h2:_=_:=h2;have h3:_=_:=h3;subst h2;subst h3;have hs:x.1=bytesOf s:=hs
  have hc:((x.2.1.toNat.toUInt8).toNat:Int)=byte x.2.1:=by
   unfold byte;rw[UInt8.toNat_ofNat']
  unfold gY;rw[run_callFunc_extern Tryz.func83 (by kernel_rfl) (by kernel_rfl) (by kernel_rfl) (e:=Extern.BytealgCount.count) (by kernel_rfl),Go.Lib.run_countString];refine⟨Same.refl w, ?_⟩;show _=Value.int .i64 (((x.1.count (byte x.2.1):Nat):Int));rw[hs,<-hc];unfold Go.Lib.countByte;rw[<-count_map];rfl
end Go.Abs.Bld
end

section
set_option maxRecDepth 100000
namespace Go.Abs.Lay
open Go.Proofs Go.Shelf
def XK:Ren where
 f:=λn=>bif Nat.beq n 174 then 209 else bif Nat.beq n 247 then 234 else bif Nat.beq n 245 then 212 else bif Nat.beq n 287 then 211 else bif Nat.beq n 279 then 238 else bif Nat.beq n 280 then 239 else bif Nat.beq n 281 then 240 else bif Nat.beq n 282 then 241 else bif Nat.beq n 321 then 236 else bif Nat.beq n 322 then 237 else bif Nat.beq n 316 then 252 else bif Nat.beq n 171 then 45 else bif Nat.beq n 205 then 253 else bif Nat.beq n 243 then 86 else bif Nat.beq n 246 then 154 else bif Nat.beq n 283 then 214 else bif Nat.beq n 284 then 215 else bif Nat.beq n 285 then 216 else bif Nat.beq n 286 then 217 else bif Nat.beq n 129 then 245 else bif Nat.beq n 317 then 244 else bif Nat.beq n 318 then 246 else bif Nat.beq n 319 then 247 else bif Nat.beq n 320 then 248 else bif Nat.beq n 337 then 254 else bif Nat.beq n 338 then 255 else n
 t:=λn=>bif Nat.beq n 9 then 9 else bif Nat.beq n 3 then 3 else bif Nat.beq n 2 then 2 else bif Nat.beq n 75 then 98 else bif Nat.beq n 85 then 187 else bif Nat.beq n 4 then 4 else bif Nat.beq n 167 then 204 else bif Nat.beq n 5 then 5 else bif Nat.beq n 53 then 154 else bif Nat.beq n 175 then 155 else bif Nat.beq n 46 then 164 else bif Nat.beq n 168 then 206 else bif Nat.beq n 37 then 45 else bif Nat.beq n 0 then 0 else bif Nat.beq n 210 then 216 else bif Nat.beq n 21 then 21 else bif Nat.beq n 127 then 101 else bif Nat.beq n 145 then 221 else bif Nat.beq n 143 then 219 else bif Nat.beq n 171 then 190 else bif Nat.beq n 173 then 193 else bif Nat.beq n 212 then 211 else bif Nat.beq n 51 then 197 else bif Nat.beq n 20 then 20 else bif Nat.beq n 213 then 212 else bif Nat.beq n 232 then 222 else bif Nat.beq n 233 then 223 else bif Nat.beq n 80 then 64 else n
 g:=λn=>bif Nat.beq n 15 then 5 else bif Nat.beq n 16 then 6 else bif Nat.beq n 17 then 4 else bif Nat.beq n 18 then 7 else bif Nat.beq n 19 then 8 else n
theorem QJ:LaysC.n174 Tryz.prog XK where
 mixed:=by kernel_rfl
 f129:=Tryz.func245.trans (congrArg some (by kernel_rfl))
 f171:=Tryz.func45.trans (congrArg some (by kernel_rfl))
 f174:=Tryz.func209.trans (congrArg some (by kernel_rfl))
 f205:=Tryz.func253.trans (congrArg some (by kernel_rfl))
 f243:=Tryz.func86.trans (congrArg some (by kernel_rfl))
 f245:=Tryz.func212.trans (congrArg some (by kernel_rfl))
 f246:=Tryz.func154.trans (congrArg some (by kernel_rfl))
 f247:=Tryz.func234.trans (congrArg some (by kernel_rfl))
 f279:=Tryz.func238.trans (congrArg some (by kernel_rfl))
 f280:=Tryz.func239.trans (congrArg some (by kernel_rfl))
 f281:=Tryz.func240.trans (congrArg some (by kernel_rfl))
 f282:=Tryz.func241.trans (congrArg some (by kernel_rfl))
 f283:=Tryz.func214.trans (congrArg some (by kernel_rfl))
 f284:=Tryz.func215.trans (congrArg some (by kernel_rfl))
 f285:=Tryz.func216.trans (congrArg some (by kernel_rfl))
 f286:=Tryz.func217.trans (congrArg some (by kernel_rfl))
 f287:=Tryz.func211.trans (congrArg some (by kernel_rfl))
 f316:=Tryz.func252.trans (congrArg some (by kernel_rfl))
 f317:=Tryz.func244.trans (congrArg some (by kernel_rfl))
 f318:=Tryz.func246.trans (congrArg some (by kernel_rfl))
 f319:=Tryz.func247.trans (congrArg some (by kernel_rfl))
 f320:=Tryz.func248.trans (congrArg some (by kernel_rfl))
 f321:=Tryz.func236.trans (congrArg some (by kernel_rfl))
 f322:=Tryz.func237.trans (congrArg some (by kernel_rfl))
 f337:=Tryz.func254.trans (congrArg some (by kernel_rfl))
 f338:=Tryz.func255.trans (congrArg some (by kernel_rfl))
 t0:=Tryz.underlying0
 a0:=Tryz.isAgg0
 z0:=Tryz.sizeOf0
 v0:=Tryz.zeroValue0
 t2:=Tryz.underlying2
 a2:=Tryz.isAgg2
 z2:=Tryz.sizeOf2
 v2:=Tryz.zeroValue2
 t3:=Tryz.underlying3
 a3:=Tryz.isAgg3
 z3:=Tryz.sizeOf3
 v3:=Tryz.zeroValue3
 t4:=Tryz.underlying4
 a4:=Tryz.isAgg4
 z4:=Tryz.sizeOf4
 v4:=Tryz.zeroValue4
 t5:=Tryz.underlying5
 a5:=Tryz.isAgg5
 z5:=Tryz.sizeOf5
 v5:=Tryz.zeroValue5
 t9:=Tryz.underlying9
 a9:=Tryz.isAgg9
 z9:=Tryz.sizeOf9
 v9:=Tryz.zeroValue9
 t20:=Tryz.underlying20
 a20:=Tryz.isAgg20
 z20:=Tryz.sizeOf20
 v20:=Tryz.zeroValue20
 t21:=Tryz.underlying21
 a21:=Tryz.isAgg21
 z21:=Tryz.sizeOf21
 v21:=Tryz.zeroValue21
 t37:=Tryz.underlying45
 a37:=Tryz.isAgg45
 z37:=Tryz.sizeOf45
 v37:=Tryz.zeroValue45
 t46:=Tryz.underlying164
 a46:=Tryz.isAgg164
 z46:=Tryz.sizeOf164
 v46:=Tryz.zeroValue164
 t51:=Tryz.underlying197
 a51:=Tryz.isAgg197
 z51:=Tryz.sizeOf197
 v51:=Tryz.zeroValue197
 t53:=Tryz.underlying154
 a53:=Tryz.isAgg154
 z53:=Tryz.sizeOf154
 v53:=Tryz.zeroValue154
 t75:=Tryz.underlying98
 a75:=Tryz.isAgg98
 z75:=Tryz.sizeOf98
 v75:=Tryz.zeroValue98
 t85:=Tryz.underlying187
 a85:=Tryz.isAgg187
 z85:=Tryz.sizeOf187
 v85:=Tryz.zeroValue187
 t127:=Tryz.underlying101
 a127:=Tryz.isAgg101
 z127:=Tryz.sizeOf101
 v127:=Tryz.zeroValue101
 t143:=Tryz.underlying219
 a143:=Tryz.isAgg219
 z143:=Tryz.sizeOf219
 v143:=Tryz.zeroValue219
 t145:=Tryz.underlying221
 a145:=Tryz.isAgg221
 z145:=Tryz.sizeOf221
 v145:=Tryz.zeroValue221
 t167:=Tryz.underlying204
 a167:=Tryz.isAgg204
 z167:=Tryz.sizeOf204
 v167:=Tryz.zeroValue204
 t168:=Tryz.underlying206
 a168:=Tryz.isAgg206
 z168:=Tryz.sizeOf206
 v168:=Tryz.zeroValue206
 t171:=Tryz.underlying190
 a171:=Tryz.isAgg190
 z171:=Tryz.sizeOf190
 v171:=Tryz.zeroValue190
 t173:=Tryz.underlying193
 a173:=Tryz.isAgg193
 z173:=Tryz.sizeOf193
 v173:=Tryz.zeroValue193
 t175:=Tryz.underlying155
 a175:=Tryz.isAgg155
 z175:=Tryz.sizeOf155
 v175:=Tryz.zeroValue155
 t210:=Tryz.underlying216
 a210:=Tryz.isAgg216
 z210:=Tryz.sizeOf216
 v210:=Tryz.zeroValue216
 t212:=Tryz.underlying211
 a212:=Tryz.isAgg211
 z212:=Tryz.sizeOf211
 v212:=Tryz.zeroValue211
 t213:=Tryz.underlying212
 a213:=Tryz.isAgg212
 z213:=Tryz.sizeOf212
 t232:=Tryz.underlying222
 a232:=Tryz.isAgg222
 z232:=Tryz.sizeOf222
 v232:=Tryz.zeroValue222
 t233:=Tryz.underlying223
 a233:=Tryz.isAgg223
 z233:=Tryz.sizeOf223
 v233:=Tryz.zeroValue223
 g15:=by kernel_rfl
 g16:=by kernel_rfl
 g17:=by kernel_rfl
 g18:=by kernel_rfl
 g19:=by kernel_rfl
 t80:=Tryz.underlying64
 a80:=Tryz.isAgg64
 z80:=Tryz.sizeOf64
 v80:=Tryz.zeroValue64
 i0:=by kernel_rfl
 i2:=by kernel_rfl
 i3:=by kernel_rfl
 i4:=by kernel_rfl
 i5:=by kernel_rfl
 i9:=by kernel_rfl
 i20:=by kernel_rfl
 i21:=by kernel_rfl
 i37:=by kernel_rfl
 i46:=by kernel_rfl
 i51:=by kernel_rfl
 i53:=by kernel_rfl
 i75:=by kernel_rfl
 i80:=by kernel_rfl
 i85:=by kernel_rfl
 i127:=by kernel_rfl
 i143:=by kernel_rfl
 i145:=by kernel_rfl
 i167:=by kernel_rfl
 i168:=by kernel_rfl
 i171:=by kernel_rfl
 i173:=by kernel_rfl
 i175:=by kernel_rfl
 i210:=by kernel_rfl
 i212:=by kernel_rfl
 i232:=by kernel_rfl
 i233:=by kernel_rfl
 m15:=by kernel_rfl
 m16:=by kernel_rfl
 m17:=by kernel_rfl
 m18:=by kernel_rfl
 m19:=by kernel_rfl
 c0:=by kernel_rfl
 c2:=by kernel_rfl
 c3:=by kernel_rfl
 c4:=by kernel_rfl
 c5:=by kernel_rfl
 c9:=by kernel_rfl
 c20:=by kernel_rfl
 c21:=by kernel_rfl
 c37:=by kernel_rfl
 c46:=by kernel_rfl
 c51:=by kernel_rfl
 c53:=by kernel_rfl
 c75:=by kernel_rfl
 c80:=by kernel_rfl
 c85:=by kernel_rfl
 c127:=by kernel_rfl
 c143:=by kernel_rfl
 c145:=by kernel_rfl
 c167:=by kernel_rfl
 c168:=by kernel_rfl
 c171:=by kernel_rfl
 c173:=by kernel_rfl
 c175:=by kernel_rfl
 c210:=by kernel_rfl
 c212:=by kernel_rfl
 c213:=by kernel_rfl
 c232:=by kernel_rfl
 c233:=by kernel_rfl
def X0:Ren where
 f:=λn=>bif Nat.beq n 173 then 80 else bif Nat.beq n 246 then 154 else bif Nat.beq n 283 then 214 else bif Nat.beq n 284 then 215 else bif Nat.beq n 285 then 216 else bif Nat.beq n 286 then 217 else bif Nat.beq n 129 then 245 else bif Nat.beq n 317 then 244 else bif Nat.beq n 318 then 246 else bif Nat.beq n 319 then 247 else bif Nat.beq n 320 then 248 else bif Nat.beq n 337 then 254 else bif Nat.beq n 338 then 255 else n
 t:=λn=>bif Nat.beq n 2 then 2 else bif Nat.beq n 3 then 3 else bif Nat.beq n 9 then 9 else bif Nat.beq n 4 then 4 else bif Nat.beq n 171 then 190 else bif Nat.beq n 0 then 0 else bif Nat.beq n 53 then 154 else bif Nat.beq n 37 then 45 else bif Nat.beq n 5 then 5 else bif Nat.beq n 173 then 193 else bif Nat.beq n 212 then 211 else bif Nat.beq n 51 then 197 else bif Nat.beq n 20 then 20 else bif Nat.beq n 213 then 212 else bif Nat.beq n 46 then 164 else bif Nat.beq n 232 then 222 else bif Nat.beq n 233 then 223 else n
 g:=λn=>bif Nat.beq n 17 then 4 else bif Nat.beq n 18 then 7 else bif Nat.beq n 19 then 8 else n
theorem UZ:LaysM.n173 Tryz.prog X0 where
 mixed:=by kernel_rfl
 f129:=Tryz.func245.trans (congrArg some (by kernel_rfl))
 f173:=Tryz.func80.trans (congrArg some (by kernel_rfl))
 f246:=Tryz.func154.trans (congrArg some (by kernel_rfl))
 f283:=Tryz.func214.trans (congrArg some (by kernel_rfl))
 f284:=Tryz.func215.trans (congrArg some (by kernel_rfl))
 f285:=Tryz.func216.trans (congrArg some (by kernel_rfl))
 f286:=Tryz.func217.trans (congrArg some (by kernel_rfl))
 f317:=Tryz.func244.trans (congrArg some (by kernel_rfl))
 f318:=Tryz.func246.trans (congrArg some (by kernel_rfl))
 f319:=Tryz.func247.trans (congrArg some (by kernel_rfl))
 f320:=Tryz.func248.trans (congrArg some (by kernel_rfl))
 f337:=Tryz.func254.trans (congrArg some (by kernel_rfl))
 f338:=Tryz.func255.trans (congrArg some (by kernel_rfl))
 t0:=Tryz.underlying0
 a0:=Tryz.isAgg0
 z0:=Tryz.sizeOf0
 v0:=Tryz.zeroValue0
 t2:=Tryz.underlying2
 a2:=Tryz.isAgg2
 z2:=Tryz.sizeOf2
 v2:=Tryz.zeroValue2
 t3:=Tryz.underlying3
 a3:=Tryz.isAgg3
 z3:=Tryz.sizeOf3
 v3:=Tryz.zeroValue3
 t4:=Tryz.underlying4
 a4:=Tryz.isAgg4
 z4:=Tryz.sizeOf4
 v4:=Tryz.zeroValue4
 t5:=Tryz.underlying5
 a5:=Tryz.isAgg5
 z5:=Tryz.sizeOf5
 v5:=Tryz.zeroValue5
 t9:=Tryz.underlying9
 a9:=Tryz.isAgg9
 z9:=Tryz.sizeOf9
 v9:=Tryz.zeroValue9
 t20:=Tryz.underlying20
 a20:=Tryz.isAgg20
 z20:=Tryz.sizeOf20
 v20:=Tryz.zeroValue20
 t37:=Tryz.underlying45
 a37:=Tryz.isAgg45
 z37:=Tryz.sizeOf45
 v37:=Tryz.zeroValue45
 t46:=Tryz.underlying164
 a46:=Tryz.isAgg164
 z46:=Tryz.sizeOf164
 v46:=Tryz.zeroValue164
 t51:=Tryz.underlying197
 a51:=Tryz.isAgg197
 z51:=Tryz.sizeOf197
 v51:=Tryz.zeroValue197
 t53:=Tryz.underlying154
 a53:=Tryz.isAgg154
 z53:=Tryz.sizeOf154
 v53:=Tryz.zeroValue154
 t171:=Tryz.underlying190
 a171:=Tryz.isAgg190
 z171:=Tryz.sizeOf190
 v171:=Tryz.zeroValue190
 t173:=Tryz.underlying193
 a173:=Tryz.isAgg193
 z173:=Tryz.sizeOf193
 v173:=Tryz.zeroValue193
 t212:=Tryz.underlying211
 a212:=Tryz.isAgg211
 z212:=Tryz.sizeOf211
 v212:=Tryz.zeroValue211
 t213:=Tryz.underlying212
 a213:=Tryz.isAgg212
 z213:=Tryz.sizeOf212
 t232:=Tryz.underlying222
 a232:=Tryz.isAgg222
 z232:=Tryz.sizeOf222
 v232:=Tryz.zeroValue222
 t233:=Tryz.underlying223
 a233:=Tryz.isAgg223
 z233:=Tryz.sizeOf223
 v233:=Tryz.zeroValue223
 g17:=by kernel_rfl
 g18:=by kernel_rfl
 g19:=by kernel_rfl
 i0:=by kernel_rfl
 i2:=by kernel_rfl
 i3:=by kernel_rfl
 i4:=by kernel_rfl
 i5:=by kernel_rfl
 i9:=by kernel_rfl
 i20:=by kernel_rfl
 i37:=by kernel_rfl
 i46:=by kernel_rfl
 i51:=by kernel_rfl
 i53:=by kernel_rfl
 i171:=by kernel_rfl
 i173:=by kernel_rfl
 i212:=by kernel_rfl
 i232:=by kernel_rfl
 i233:=by kernel_rfl
 m17:=by kernel_rfl
 m18:=by kernel_rfl
 m19:=by kernel_rfl
end Go.Abs.Lay
end

section
set_option maxRecDepth 100000
namespace Go.Abs.Lx
open Go.Proofs
theorem yF {w w':World}(h:RowKit.Below w.heap.size w w'):Same w w':=⟨λb hb=>h.block b hb,h.size,h.os,h.tape,h.output⟩
theorem GY (w:World)(k:Nat)(os:Array Go.Obj):Same w (Go.Sort.grow (w.drewN k) os):=by
 refine⟨λb hb=> ?_, ?_,rfl,rfl,rfl⟩
 ·show(w.heap++os)[b]?=_;rw[Array.getElem?_append_left hb]
 ·show _<=(w.heap++os).size;simp
theorem Jf {df:Nat->Option (List Cell)}(hg:df 6=some [.err false]):lP Tryz.prog df 209 ⟨⟨[.one (.cH .str), .one (.cH (.int .i64)), .one (.cH (.int .i64))], .tb [.one (.cH (.int .i64)), .one .err]⟩,o8⟩:=by
 intro x y hF aD w args nb hG iG hP mR oS;obtain⟨hA,rfl⟩:=uv (ts:=[.str, .int .i64, .int .i64]) rfl hP;obtain⟨u1,r1,rfl,⟨s,rfl,hs⟩,u2,r2,rfl,h2,u3,r3,rfl,h3,h4⟩:=hA;have h2:_=_:=h2;have h3:_=_:=h3;have h4:_=_:=h4;subst h2;subst h3;subst h4;have hs:x.1=bytesOf s:=hs;have hF:o8 x=some y:=hF;unfold o8 at hF
 cases hc:(decide (x.2.1=10)&&decide (x.2.2.1=64)&&fits x.1.length)with
 |false=>rw[hc]at hF;cases hF
 |true=>
  rw[hc]at hF;simp only[aD6]at hF;simp only[aC6,aC4]at hc;obtain⟨⟨e1,e2⟩,hl⟩:=hc
  have lh:s.size<=1099511627776:=by
   have:=aE7 hl;rw[hs,eN]at this;exact this
  have f1:x.2.1=10:=e1;have f2:x.2.2.1=64:=e2;show gY Tryz.prog 209 #[.string s, .int .i64 x.2.1, .int .i64 x.2.2.1] w _;rw[f1,f2];have hu:u8s x.1=s.data.toList:=(by rw[hs,Cf]);rw[hu]at hF
  have fin:∀{v:Int} {b:Bool} {u:Value} {w':World},Same w w'->y=((v,b,()),(),(),(),())->((b=true/\u= .nilIface)\/(b=false/\∃t p,u= .iface t p))->∃cQ n1 n2,After aD w [] cQ w' (n1++n2)/\
    vE cQ w' (.tb [.one (.cH (.int .i64)), .one .err]) y.1 (.tuple #[.int .i64 v,u]) n1/\j7 cQ w w' [.one (.cH .str), .one (.cH (.int .i64)), .one (.cH (.int .i64))] y.2 [.string s, .int .i64 x.2.1, .int .i64 x.2.2.1] n2:=by
   intro v b u w' KN hy hu;subst hy;refine⟨aD,[],[],KN.after iG,⟨[_,_],rfl,_,_,[],[],rfl,rfl,⟨rfl,rfl,rfl,_,rfl,rfl⟩,_,_,[],[],rfl,rfl,⟨?_,rfl,_,rfl,hu⟩,rfl,rfl⟩,uw (ts:=[.str, .int .i64, .int .i64]) (y:=x) ⟨_,_,rfl,⟨s,rfl,hs⟩,_,_,rfl,rfl,_,_,rfl,rfl,rfl⟩⟩
   rcases hu with⟨_,rfl⟩|⟨_,t,p,rfl⟩<;>rfl
  rw[f1,f2]at fin
  cases hp:Lib.parseIntB 64 s.data.toList with
  |ok v=>
   rw[hp]at hF
   injection hF with hF
   refine eZ Tryz.func209 rfl (by kernel_rfl) ((Any.strconv_ParseInt_10_at64_ok Lay.QJ s (by omega) v hp w).mono ?_);rintro e w' ⟨rfl,hw⟩;refine⟨_,rfl,fin (b:=true) ?_ hF.symm (.inl ⟨rfl,rfl⟩)⟩
   rcases hw with rfl|⟨t,rfl⟩
   ·exact Same.refl _
   ·exact⟨λb hb=>Lib.bytesWorld_at_old w _ t b hb,by rw[Lib.bytesWorld_size];omega,rfl,rfl,rfl⟩
  |range=>
   rw[hp]at hF
   injection hF with hF
   obtain⟨us,hi,YI⟩:=hG _ _ hg;obtain⟨arr,ty,fr,ha,hL⟩:=iG _ _ hi
   obtain⟨u,r,rfl,hu,hr⟩:=YI ⟨aD,λ_=>0,λ_ _=> .nilIface,λ_=>none,λ_=>none,λ_=>[]⟩ λ_ _ h=>h
   have hr:r=[]:=hr;subst hr
   have oF:w.cell? ⟨6,0,none⟩=some u:=by
    rw[Lib.cell_of_heap ha];have:arr[0]?=arr.toList[0]?:=(by simp);rw[this,hL];rfl
   refine eZ Tryz.func209 rfl (by kernel_rfl) ((Any.strconv_ParseInt_10_at64_range Lay.QJ s (by omega) hp u w oF ?_).mono ?_)
   ·rcases hu with⟨h,_⟩|⟨_,t,v,rfl⟩
    ·cases h
    ·exact .inr ⟨t,v,rfl⟩
   rintro e w' ⟨N,rfl,_,_,hw⟩;exact⟨_,rfl,fin (b:=false) (yF hw) hF.symm (.inr ⟨rfl,_,_,rfl⟩)⟩
  |_=>rw[hp]at hF;cases hF
theorem HE {df:Nat->Option (List Cell)}(hg:df 4=some Nz):lP Tryz.prog df 80 ⟨⟨[.one (.cH (.int .i64)), .one (.cH (.int .i64))], .val (.one (.cH .str))⟩,nL⟩:=by
 intro x y hF aD w args nb hG iG hP mR oS;obtain⟨hA,rfl⟩:=uv (ts:=[.int .i64, .int .i64]) rfl hP;obtain⟨u1,r1,rfl,h1,u2,r2,rfl,h2,h4⟩:=hA;have h1:_=_:=h1;have h2:_=_:=h2;have h4:_=_:=h4;subst h1;subst h2;subst h4;have hF:nL x=some y:=hF;unfold nL at hF
 cases hc:(decide (x.2.1=10)&&decide (-9223372036854775808<=x.1)&&decide (x.1<=9223372036854775807))with
 |false=>rw[hc]at hF;cases hF
 |true=>
  rw[hc]at hF
  injection hF with hF
  simp only[aC6,aC4]at hc;obtain⟨⟨e1,e2⟩,e3⟩:=hc;have f1:x.2.1=10:=e1;show gY Tryz.prog 80 #[.int .i64 x.1, .int .i64 x.2.1] w _;rw[f1];obtain⟨us,hi,YI⟩:=hG _ _ hg;obtain⟨arr,ty,fr,ha,hL⟩:=iG _ _ hi
  have KY:=YI ⟨aD,λ_=>0,λ_ _=> .nilIface,λ_=>none,λ_=>none,λ_=>[]⟩ λ_ _ h=>h
  have Ys:us=Lib.pow10Tab.map λz=>Value.int .u64 z:=by
   have all:∀(l:List Int) (us:List Value) (g:Gh),aF g (l.map λz=> .v (.int .u64) z) us->us=l.map λz=>Value.int .u64 z:=by
    intro l
    induction l with
    |nil=>intro us g h;exact h
    |cons z l ih=>
     intro us g h;obtain⟨u,r,rfl,hu,hr⟩:=h;have hu:[u]=[Value.int .u64 z]:=hu.2
     injection hu with hu _
     subst hu;rw[ih r g hr];rfl
   exact all _ _ _ KY
  have ah2:Lib.TabIs Tryz.prog w "internal/strconv.uint64pow10" .u64 Lib.pow10Tab:=by
   have hn:Tryz.prog.globalNamed "internal/strconv.uint64pow10" =some 4:=by kernel_rfl
   unfold Lib.TabIs World.var?;rw[hn];simp only[aC0,ha]
   have:arr=(Lib.pow10Tab.map λz=>Value.int .u64 z).toArray:=by
    apply Array.ext'
    rw[hL,Ys]
   rw[this]
  refine eZ Tryz.func80 rfl (by kernel_rfl) ((Any.strconv_FormatInt_10 Lay.UZ x.1 e2 e3 w ah2).mono ?_);rintro e w' ⟨rfl,k,os,rfl⟩;subst hF;exact⟨_,rfl,aD,[],[],(GY w k os).after iG,⟨rfl,rfl,rfl,_,rfl,_,rfl,rfl⟩,uw (ts:=[.int .i64, .int .i64]) (y:=x) ⟨_,_,rfl,rfl,_,_,rfl,f1 ▸ rfl,rfl⟩⟩
end Go.Abs.Lx
end

section
set_option maxRecDepth 100000
namespace Go.Abs.Lay
open Go.Proofs Go.Shelf
def XR:Ren where
 f:=λn=>bif Nat.beq n 171 then 45 else bif Nat.beq n 243 then 86 else bif Nat.beq n 246 then 154 else bif Nat.beq n 283 then 214 else bif Nat.beq n 284 then 215 else bif Nat.beq n 285 then 216 else bif Nat.beq n 286 then 217 else bif Nat.beq n 129 then 245 else bif Nat.beq n 317 then 244 else bif Nat.beq n 318 then 246 else bif Nat.beq n 319 then 247 else bif Nat.beq n 320 then 248 else bif Nat.beq n 337 then 254 else bif Nat.beq n 338 then 255 else n
 t:=λn=>bif Nat.beq n 3 then 3 else bif Nat.beq n 9 then 9 else bif Nat.beq n 2 then 2 else bif Nat.beq n 4 then 4 else bif Nat.beq n 171 then 190 else bif Nat.beq n 0 then 0 else bif Nat.beq n 53 then 154 else bif Nat.beq n 37 then 45 else bif Nat.beq n 5 then 5 else bif Nat.beq n 173 then 193 else bif Nat.beq n 212 then 211 else bif Nat.beq n 51 then 197 else bif Nat.beq n 20 then 20 else bif Nat.beq n 213 then 212 else bif Nat.beq n 46 then 164 else bif Nat.beq n 232 then 222 else bif Nat.beq n 233 then 223 else n
 g:=λn=>bif Nat.beq n 17 then 4 else bif Nat.beq n 18 then 7 else bif Nat.beq n 19 then 8 else n
theorem Vr:LaysM.n171 Tryz.prog XR where
 mixed:=by kernel_rfl
 f129:=Tryz.func245.trans (congrArg some (by kernel_rfl))
 f171:=Tryz.func45.trans (congrArg some (by kernel_rfl))
 f243:=Tryz.func86.trans (congrArg some (by kernel_rfl))
 f246:=Tryz.func154.trans (congrArg some (by kernel_rfl))
 f283:=Tryz.func214.trans (congrArg some (by kernel_rfl))
 f284:=Tryz.func215.trans (congrArg some (by kernel_rfl))
 f285:=Tryz.func216.trans (congrArg some (by kernel_rfl))
 f286:=Tryz.func217.trans (congrArg some (by kernel_rfl))
 f317:=Tryz.func244.trans (congrArg some (by kernel_rfl))
 f318:=Tryz.func246.trans (congrArg some (by kernel_rfl))
 f319:=Tryz.func247.trans (congrArg some (by kernel_rfl))
 f320:=Tryz.func248.trans (congrArg some (by kernel_rfl))
 f337:=Tryz.func254.trans (congrArg some (by kernel_rfl))
 f338:=Tryz.func255.trans (congrArg some (by kernel_rfl))
 t0:=Tryz.underlying0
 a0:=Tryz.isAgg0
 z0:=Tryz.sizeOf0
 v0:=Tryz.zeroValue0
 t2:=Tryz.underlying2
 a2:=Tryz.isAgg2
 z2:=Tryz.sizeOf2
 v2:=Tryz.zeroValue2
 t3:=Tryz.underlying3
 a3:=Tryz.isAgg3
 z3:=Tryz.sizeOf3
 v3:=Tryz.zeroValue3
 t4:=Tryz.underlying4
 a4:=Tryz.isAgg4
 z4:=Tryz.sizeOf4
 v4:=Tryz.zeroValue4
 t5:=Tryz.underlying5
 a5:=Tryz.isAgg5
 z5:=Tryz.sizeOf5
 v5:=Tryz.zeroValue5
 t9:=Tryz.underlying9
 a9:=Tryz.isAgg9
 z9:=Tryz.sizeOf9
 v9:=Tryz.zeroValue9
 t20:=Tryz.underlying20
 a20:=Tryz.isAgg20
 z20:=Tryz.sizeOf20
 v20:=Tryz.zeroValue20
 t37:=Tryz.underlying45
 a37:=Tryz.isAgg45
 z37:=Tryz.sizeOf45
 v37:=Tryz.zeroValue45
 t46:=Tryz.underlying164
 a46:=Tryz.isAgg164
 z46:=Tryz.sizeOf164
 v46:=Tryz.zeroValue164
 t51:=Tryz.underlying197
 a51:=Tryz.isAgg197
 z51:=Tryz.sizeOf197
 v51:=Tryz.zeroValue197
 t53:=Tryz.underlying154
 a53:=Tryz.isAgg154
 z53:=Tryz.sizeOf154
 v53:=Tryz.zeroValue154
 t171:=Tryz.underlying190
 a171:=Tryz.isAgg190
 z171:=Tryz.sizeOf190
 v171:=Tryz.zeroValue190
 t173:=Tryz.underlying193
 a173:=Tryz.isAgg193
 z173:=Tryz.sizeOf193
 v173:=Tryz.zeroValue193
 t212:=Tryz.underlying211
 a212:=Tryz.isAgg211
 z212:=Tryz.sizeOf211
 v212:=Tryz.zeroValue211
 t213:=Tryz.underlying212
 a213:=Tryz.isAgg212
 z213:=Tryz.sizeOf212
 t232:=Tryz.underlying222
 a232:=Tryz.isAgg222
 z232:=Tryz.sizeOf222
 v232:=Tryz.zeroValue222
 t233:=Tryz.underlying223
 a233:=Tryz.isAgg223
 z233:=Tryz.sizeOf223
 v233:=Tryz.zeroValue223
 g17:=by kernel_rfl
 g18:=by kernel_rfl
 g19:=by kernel_rfl
 i0:=by kernel_rfl
 i2:=by kernel_rfl
 i3:=by kernel_rfl
 i4:=by kernel_rfl
 i5:=by kernel_rfl
 i9:=by kernel_rfl
 i20:=by kernel_rfl
 i37:=by kernel_rfl
 i46:=by kernel_rfl
 i51:=by kernel_rfl
 i53:=by kernel_rfl
 i171:=by kernel_rfl
 i173:=by kernel_rfl
 i212:=by kernel_rfl
 i232:=by kernel_rfl
 i233:=by kernel_rfl
 m17:=by kernel_rfl
 m18:=by kernel_rfl
 m19:=by kernel_rfl
def TV:Ren where
 f:=λn=>bif Nat.beq n 156 then 57 else bif Nat.beq n 165 then 103 else bif Nat.beq n 166 then 63 else bif Nat.beq n 169 then 30 else bif Nat.beq n 240 then 110 else bif Nat.beq n 241 then 179 else bif Nat.beq n 276 then 183 else bif Nat.beq n 277 then 223 else n
 t:=λn=>bif Nat.beq n 31 then 48 else bif Nat.beq n 9 then 9 else bif Nat.beq n 3 then 3 else bif Nat.beq n 4 then 4 else bif Nat.beq n 0 then 0 else bif Nat.beq n 20 then 20 else bif Nat.beq n 72 then 59 else bif Nat.beq n 76 then 99 else bif Nat.beq n 70 then 57 else bif Nat.beq n 37 then 45 else bif Nat.beq n 75 then 98 else bif Nat.beq n 127 then 101 else bif Nat.beq n 164 then 178 else bif Nat.beq n 5 then 5 else bif Nat.beq n 80 then 64 else n
 g:=λn=>n
theorem QM:Lays.n156 Tryz.prog TV where
 mixed:=by kernel_rfl
 f156:=Tryz.func57.trans (congrArg some (by kernel_rfl))
 f165:=Tryz.func103.trans (congrArg some (by kernel_rfl))
 f166:=Tryz.func63.trans (congrArg some (by kernel_rfl))
 f169:=Tryz.func30.trans (congrArg some (by kernel_rfl))
 f240:=Tryz.func110.trans (congrArg some (by kernel_rfl))
 f241:=Tryz.func179.trans (congrArg some (by kernel_rfl))
 f276:=Tryz.func183.trans (congrArg some (by kernel_rfl))
 f277:=Tryz.func223.trans (congrArg some (by kernel_rfl))
 t0:=Tryz.underlying0
 a0:=Tryz.isAgg0
 z0:=Tryz.sizeOf0
 v0:=Tryz.zeroValue0
 t3:=Tryz.underlying3
 a3:=Tryz.isAgg3
 z3:=Tryz.sizeOf3
 v3:=Tryz.zeroValue3
 t4:=Tryz.underlying4
 a4:=Tryz.isAgg4
 z4:=Tryz.sizeOf4
 v4:=Tryz.zeroValue4
 t9:=Tryz.underlying9
 a9:=Tryz.isAgg9
 z9:=Tryz.sizeOf9
 v9:=Tryz.zeroValue9
 t20:=Tryz.underlying20
 a20:=Tryz.isAgg20
 z20:=Tryz.sizeOf20
 v20:=Tryz.zeroValue20
 t31:=Tryz.underlying48
 a31:=Tryz.isAgg48
 z31:=Tryz.sizeOf48
 v31:=Tryz.zeroValue48
 t37:=Tryz.underlying45
 a37:=Tryz.isAgg45
 z37:=Tryz.sizeOf45
 v37:=Tryz.zeroValue45
 t70:=Tryz.underlying57
 a70:=Tryz.isAgg57
 z70:=Tryz.sizeOf57
 v70:=Tryz.zeroValue57
 t72:=Tryz.underlying59
 a72:=Tryz.isAgg59
 z72:=Tryz.sizeOf59
 v72:=Tryz.zeroValue59
 t75:=Tryz.underlying98
 a75:=Tryz.isAgg98
 z75:=Tryz.sizeOf98
 v75:=Tryz.zeroValue98
 t76:=Tryz.underlying99
 a76:=Tryz.isAgg99
 z76:=Tryz.sizeOf99
 v76:=Tryz.zeroValue99
 t127:=Tryz.underlying101
 a127:=Tryz.isAgg101
 z127:=Tryz.sizeOf101
 v127:=Tryz.zeroValue101
 t164:=Tryz.underlying178
 a164:=Tryz.isAgg178
 z164:=Tryz.sizeOf178
 v164:=Tryz.zeroValue178
end Go.Abs.Lay
end

section
set_option maxRecDepth 100000
namespace Go.Abs.Lx
open Go.Proofs
theorem UT {df:Nat->Option (List Cell)}(hg:df 4=some Nz){aD:Rd}{w:World}(hG:ie df aD)(iG:∀b L,aD b=some L->∃arr ty fr,w.heap[b]?=some (.cells arr ty fr)/\arr.toList=L):Lib.TabIs Tryz.prog w "internal/strconv.uint64pow10" .u64 Lib.pow10Tab:=by
 obtain⟨us,hi,YI⟩:=hG _ _ hg;obtain⟨arr,ty,fr,ha,hL⟩:=iG _ _ hi
 have KY:=YI ⟨aD,λ_=>0,λ_ _=> .nilIface,λ_=>none,λ_=>none,λ_=>[]⟩ λ_ _ h=>h
 have Ys:us=Lib.pow10Tab.map λz=>Value.int .u64 z:=by
  have all:∀(l:List Int) (us:List Value) (g:Gh),aF g (l.map λz=> .v (.int .u64) z) us->us=l.map λz=>Value.int .u64 z:=by
   intro l
   induction l with
   |nil=>intro us g h;exact h
   |cons z l ih=>
    intro us g h;obtain⟨u,r,rfl,hu,hr⟩:=h;have hu:[u]=[Value.int .u64 z]:=hu.2
    injection hu with hu _
    subst hu;rw[ih r g hr];rfl
  exact all _ _ _ KY
 have hn:Tryz.prog.globalNamed "internal/strconv.uint64pow10" =some 4:=by kernel_rfl
 unfold Lib.TabIs World.var?;rw[hn];simp only[aC0,ha]
 have:arr=(Lib.pow10Tab.map λz=>Value.int .u64 z).toArray:=by
  apply Array.ext'
  rw[hL,Ys]
 rw[this]
theorem SB {df:Nat->Option (List Cell)}(hg:df 4=some Nz):lP Tryz.prog df 45 ⟨⟨[.one (.cH (.int .i64))], .val (.one (.cH .str))⟩,oP⟩:=by
 intro x y hF aD w args nb hG iG hP mR oS;obtain⟨hA,rfl⟩:=uv (ts:=[.int .i64]) rfl hP;obtain⟨u1,r1,rfl,h1,h4⟩:=hA;have h1:_=_:=h1;have h4:_=_:=h4;subst h1;subst h4;have hF:oP x=some y:=hF;unfold oP at hF
 cases hc:(decide (-9223372036854775808<=x.1)&&decide (x.1<=9223372036854775807))with
 |false=>rw[hc]at hF;cases hF
 |true=>
  rw[hc]at hF
  injection hF with hF
  simp only[aC6,aC4]at hc;obtain⟨e2,e3⟩:=hc;refine eZ Tryz.func45 rfl (by kernel_rfl) ((Any.strconv_Itoa Lay.Vr x.1 e2 e3 w (UT hg hG iG)).mono ?_);rintro e w' ⟨rfl,k,os,rfl⟩;subst hF;exact⟨_,rfl,aD,[],[],(GY w k os).after iG,⟨rfl,rfl,rfl,_,rfl,_,rfl,rfl⟩,uw (ts:=[.int .i64]) (y:=x) ⟨_,_,rfl,rfl,rfl⟩⟩
def toB (l:List Int):ByteArray:=⟨(u8s l).toArray⟩
theorem Cd (s:ByteArray):toB (bytesOf s)=s:=by
 unfold toB;rw[Cf]
theorem E5 (sep:ByteArray):∀(bs:List ByteArray),qE (bs.map bytesOf) (bytesOf sep)=ints (Lib.join (bs.map λb=>b.data.toList) sep.data.toList)
 |[]=>rfl
 |[b]=>by rw[List.map_cons,List.map_nil,List.map_cons,List.map_nil,Lib.join_one];rfl
 |b::c::r=>by
  have ih:=E5 sep (c::r);rw[List.map_cons,List.map_cons]at ih;rw[List.map_cons,List.map_cons,qE,ih];simp only[List.map_cons,Lib.join_cons,Lib.joinTail];simp[ints,bytesOf,List.map_append]
theorem extra:Builder.Extra Tryz.prog Lay.TV where
 sizeBuilder:=by kernel_rfl
 liesBuilder:=by kernel_rfl
 t5:=by kernel_rfl
 a5:=λw=>by kernel_rfl
 z5:=λw=>by kernel_rfl
 v5:=λw=>by kernel_rfl
 infoByte:=by kernel_rfl
 cellsByte:=by kernel_rfl
 sizeByte:=by kernel_rfl
 neB5:=by decide
theorem Sn (df:Nat->Option (List Cell)):lP Tryz.prog df 57 ⟨⟨[.one (.cH (.sl .str)), .one (.cH .str)], .val (.one (.cH .str))⟩,Cv⟩:=by
 intro x y hF aD w args nb hG iG hP mR oS;obtain⟨u1,r1,n1,n2,rfl,rfl,⟨_,rfl,_,u1',e1,hx⟩,u2,r2,n3,n4,rfl,rfl,⟨_,rfl,_,u2',e2,hs⟩,rfl,rfl⟩:=hP
 injection e1 with e1;subst e1
 injection e2 with e2;subst e2
 obtain⟨sep,e3,hs⟩:=hs
 injection e3 with e3;subst e3
 obtain⟨A,c,e4,hc,hx⟩:=hx
 injection e4 with e4;subst e4
 obtain⟨xs,sp,_⟩:=x;have hs:sp=bytesOf sep:=hs;subst hs;have hc:xs.length<=c:=hc;have hF:Cv (xs,bytesOf sep,())=some y:=hF;unfold Cv at hF
 cases hq:(fits xs.length&&fits (qE xs (bytesOf sep)).length)with
 |false=>
  dsimp only at hF;rw[hq]at hF;cases hF
 |true=>
  dsimp only at hF;rw[hq]at hF
  injection hF with hF
  simp only[aC6]at hq;have l1:xs.length<=1099511627776:=aE7 hq.1;have l2:(qE xs (bytesOf sep)).length<=1099511627776:=aE7 hq.2
  have fin:∀{u:Value} {w':World},Same w w'->u= .string ⟨(Lib.join ((xs.map toB).map λb=>b.data.toList) sep.data.toList).toArray⟩->xs=(xs.map toB).map bytesOf->∃cQ n1 n2,After aD w [] cQ w' (n1++n2)/\
    vE cQ w' (.val (.one (.cH .str))) y.1 u n1/\j7 cQ w w' [.one (.cH (.sl .str)), .one (.cH .str)] y.2 [.slice A xs.length c, .string sep] n2:=by
   intro u w' KN hu Zx;subst hF;subst hu;refine⟨aD,[],[],KN.after iG,⟨rfl,rfl,rfl,_,rfl,_,rfl, ?_⟩,_,_,[],[],rfl,rfl,rfl,_,_,[],[],rfl,rfl,rfl,rfl,rfl⟩;show qE xs (bytesOf sep)=_
   conv=>lhs;rw[Zx]
   rw[E5];rfl
  rcases hx with h0|⟨b,o,L,rfl,hb,IU⟩
  ·have h0:xs=[]:=h0;subst h0;refine eZ Tryz.func57 rfl (by kernel_rfl) ((Any.strings_Join_none Lay.QM extra A c sep w).mono ?_);rintro e w' ⟨rfl,rfl⟩;exact⟨_,rfl,fin (Same.refl _) rfl rfl⟩
  ·obtain⟨arr,ty,fr,ha,hL⟩:=iG _ _ hb;have IU:∀i (h:i<xs.length),Rc aD .str xs[i] ((L.drop (o+i*1)).take 1):=IU
   have Zx:xs=(xs.map toB).map bytesOf:=by
    rw[List.map_map]
    apply List.ext_getElem (by simp)
    intro i h1 h2;obtain⟨s,_,e⟩:=IU i h1;rw[List.getElem_map];show _=bytesOf (toB xs[i]);have e:xs[i]=bytesOf s:=e;rw[e,Cd]
   have oF:∀(j:Nat) z,(xs.map toB)[j]?=some z->w.cell? ⟨b,o+j,none⟩=some (.string z):=by
    intro j z hz;rw[List.getElem?_map]at hz
    cases hj:xs[j]? with
    |none=>rw[hj]at hz;cases hz
    |some v=>
     rw[hj]at hz
     injection hz with hz
     obtain⟨h1,h2⟩:=List.getElem?_eq_some_iff.1 hj;obtain⟨s,e,e'⟩:=IU j h1;have e':xs[j]=bytesOf s:=e';rw[h2]at e';rw[e',Cd]at hz;subst hz;rw[Lib.cell_of_heap ha]
     have:arr[o+j]?=(L.drop (o+j*1)).head?:=by
      rw[List.head?_drop,<-hL,Nat.mul_one];simp
     rw[this]
     cases hd:L.drop (o+j*1)with
     |nil=>rw[hd]at e;cases e
     |cons a r=>
      rw[hd]at e
      injection e with e _
      subst e;rfl
   have hlen:(xs.map toB).length=xs.length:=(by simp)
   have Uc:(Lib.join ((xs.map toB).map λb=>b.data.toList) sep.data.toList).length<=281474976710656:=by
    have:=l2;rw[Zx,E5]at this;rw[ints,List.length_map]at this;omega
   have C:=Any.strings_Join_48 Lay.QM extra b o c (xs.map toB) sep w oF (lt_of_heap ha) (by rw[hlen];omega) (by rw[hlen];exact hc) Uc;rw[hlen]at C;refine eZ Tryz.func57 rfl (by kernel_rfl) (C.mono ?_);rintro e w' ⟨rfl,hw⟩;exact⟨_,rfl,fin (yF hw) rfl Zx⟩
end Go.Abs.Lx
end

section
namespace Go.Proofs.YtkmplfkiafonkaaGreatDoor
open Go.ChangeShapes Go.WideShapes Go.ChangeAt Go.RowKit
set_option maxRecDepth 100000 in
theorem sys:∀n,Abs.Sys.TabOk Abs.D.S (Abs.D.S.tab n):=by
 refine Abs.Sys.ok (by kernel_rfl) (λf hf=>Abs.Sys.SG Abs.D.UM hf) (λf c hf hl=> ?_) (by kernel_rfl);have hl:Abs.D.lib f=some c:=hl;unfold Abs.D.lib at hl
 cases h1:Nat.beq f 155 with
 |true=>have:=Abs.beq_eq h1;subst this;rw[h1]at hl;injection hl with hl;subst hl;exact Abs.Bld.Hu _
 |false=>
 rw[h1]at hl
 cases h1:Nat.beq f 63 with
 |true=>have:=Abs.beq_eq h1;subst this;injection hl with hl;subst hl;exact Abs.Bld.DC _
 |false=>
 rw[h1]at hl
 cases h1:Nat.beq f 30 with
 |true=>have:=Abs.beq_eq h1;subst this;injection hl with hl;subst hl;exact Abs.Bld.On _
 |false=>
 rw[h1]at hl
 cases h1:Nat.beq f 235 with
 |true=>have:=Abs.beq_eq h1;subst this;injection hl with hl;subst hl;exact Abs.Bld.HB _
 |false=>
 rw[h1]at hl
 cases h1:Nat.beq f 209 with
 |true=>have:=Abs.beq_eq h1;subst this;injection hl with hl;subst hl;exact Abs.Lx.Jf rfl
 |false=>
 rw[h1]at hl
 cases h1:Nat.beq f 80 with
 |true=>have:=Abs.beq_eq h1;subst this;injection hl with hl;subst hl;exact Abs.Lx.HE rfl
 |false=>
 rw[h1]at hl
 cases h1:Nat.beq f 45 with
 |true=>have:=Abs.beq_eq h1;subst this;injection hl with hl;subst hl;exact Abs.Lx.SB rfl
 |false=>
 rw[h1]at hl
 cases h1:Nat.beq f 57 with
 |true=>have:=Abs.beq_eq h1;subst this;injection hl with hl;subst hl;exact Abs.Lx.Sn _
 |false=>
 rw[h1]at hl
 cases h1:Nat.beq f 83 with
 |true=>have:=Abs.beq_eq h1;subst this;injection hl with hl;subst hl;exact Abs.Bld.PZ _
 |false=>
 rw[h1]at hl;cases hl
theorem zT {H:Type}{enc:TypeId×Value->H}{P:Program}{w:World}{sp:Nat->Bool}:∀{ns:List String}{gs:List (DataW H)}{ps:List MemPlace},DataW.TrodVars enc P w sp ns gs ps->gs.length=ns.length
 |[],[],_,_=>rfl
 |[],_::_,_,h=>h.elim
 |_::_,[],_,h=>h.elim
 |n::ns,d::ds,ps,h=>by
  obtain⟨g,t,cs,fuel,p,q,h1,h2,h3,h4,hs,e⟩:=h;have:=zT hs;simp[this]
theorem own:ownKnob Tryz.prog.godebug=none:=by kernel_rfl
theorem laidOut:laidOutB Tryz.prog=true:=by kernel_rfl
end Go.Proofs.YtkmplfkiafonkaaGreatDoor
end

section
namespace Go.Abs.D
def sh (k:Int):Bool:=decide (k=25)||(decide (k=50)||(decide (k=62)||decide (k=69)))
def uL (k:Int):Bool:=decide (k=10)||(decide (k=26)||(decide (61<=k)&&decide (k<=78)))
def ju (k:Int):Bool:=(decide (k=1)||decide (k=40)||decide (k=2)||decide (k=3)||decide (k=4)||decide (k=24)||decide (k=29)||decide (k=17)||decide (k=49)||decide (k=18)||decide (k=42))||sh k
abbrev Row:=LI×Bool×Bool
def rY (l:LI):Row:=(l,true,false)
def qe:Row:=([],false,true)
def qq:Row:=([],false,false)
def yb (k a c:Int):LI×Bool:=
 bif decide (k=48)then([48,1,a],true)else bif decide (k=44)then([44,1018,45,a],true)else bif decide (k=40)then([40,1022,41,c],true)else([],false)
def XG (k:Int):Option (LI):=
 bif decide (k=22)then some [22,1,1006,1002,1001]else
 bif decide (k=13)then some [13,1,47,1018,1001]else
 bif decide (k=18)then some [18,1,1028,1001]else
 bif decide (k=20)then some [20,1018,1027,1003,1001]else
 bif decide (k=31)then some [31,1018,1027,1001]else
 bif decide (k=19)then some [19,1,1004,1001]else
 bif decide (k=11)||decide (k=23)then some [k,1001]else
 bif decide (k=27)then some [27,1007,1001]else
 bif decide (k=30)then some [30,1027,12,1,1008,1027,1001]else
 bif decide (k=28)then some [28,1018,1001]else
 bif decide (k=14)then some [14,1015,1001]else
 bif decide (k=42)then some [1027,1001]else
 bif decide (k=1)then some [1,1009,1001]else
 bif decide (k=40)then some [40,1018,41,1011,1001]else none
def eP (s k:Int):Row:=
 bif decide (s=1000)then(bif decide (k=5)then rY [5,1000]else match XG k with|some l=>rY l|none=>qe)else
 bif decide (s=1001)then(bif decide (k=5)then rY [5,1000]else qe)else
 bif decide (s=1002)then(bif decide (k=47)then rY [47,1018,1023]else qe)else
 bif decide (s=1003)then(bif decide (k=15)then rY [15,1018,1027,1003]else bif decide (k=16)then rY [16,1027]else qe)else
 bif decide (s=1004)then(bif decide (k=47)then rY [47,1018,46,1018,1005,1027]else bif decide (k=46)then rY [46,1,1006,21,1018,1027]else bif decide (k=21)then rY [21,1018,1027]else qq)else
 bif decide (s=1005)then(bif decide (k=46)then rY [46,1018]else qe)else
 bif decide (s=1006)then(bif decide (k=46)then rY [46,1,1006]else qe)else
 bif decide (s=1007)then(bif ju k then rY [1018,1023]else qe)else
 bif decide (s=1008)then(bif decide (k=46)then rY [46,1]else qe)else
 bif decide (s=1009)then(bif(yb k 1009 1010).2 then rY (yb k 1009 1010).1 else bif decide (k=47)then rY [47,1018,1023]else bif decide (k=46)then rY [46,1012]else qq)else
 bif decide (s=1010)then(bif(yb k 1009 1010).2 then rY (yb k 1009 1010).1 else qe)else
 bif decide (s=1011)then((yb k 1009 1010).1,(yb k 1009 1010).2,false)else
 bif decide (s=1012)then(bif decide (k=1)then rY [1,1013]else bif decide (k=40)then rY [40,1018,41,1014]else qq)else
 bif decide (s=1013)then(bif(yb k 1013 1014).2 then rY (yb k 1013 1014).1 else bif decide (k=47)then rY [47,1018,1023]else bif decide (k=46)then rY [46,1012]else qq)else
 bif decide (s=1014)then((yb k 1013 1014).1,(yb k 1013 1014).2,false)else
 bif decide (s=1015)then(bif decide (k=1)then rY [1,1016]else bif decide (k=40)then rY [40,1018,41,1016]else qq)else
 bif decide (s=1016)then((yb k 1016 1017).1,(yb k 1016 1017).2,false)else
 bif decide (s=1017)then((yb k 1016 1017).1,(yb k 1016 1017).2,true)else
 bif decide (s=1018)then(bif ju k then rY [1020,1019]else qq)else
 bif decide (s=1019)then(bif uL k then rY [k,1020,1019]else qe)else
 bif decide (s=1020)then(bif sh k then rY [k,1020]else bif decide (k=1)then rY [1,1021]else bif decide (k=40)then rY [40,1018,41,1021]else bif decide (k=18)then rY [18,1028]else bif decide (k=42)then rY [42,1029,43]else bif ju k then rY [k]else qq)else
 bif decide (s=1021)then((yb k 1021 1021).1,(yb k 1021 1021).2,true)else
 bif decide (s=1022)then(bif ju k then rY [1018,1023]else qe)else
 bif decide (s=1023)then(bif decide (k=46)then rY [46,1018,1023]else qe)else
 bif decide (s=1028)then(bif decide (k=40)then rY [40,1024,41,1027]else qq)else
 bif decide (s=1024)then(bif decide (k=49)then rY [49]else bif decide (k=1)then rY [1,1025]else qe)else
 bif decide (s=1025)then(bif decide (k=46)then rY [46,1026]else qe)else
 bif decide (s=1026)then(bif decide (k=1)then rY [1,1025]else bif decide (k=49)then rY [49]else qq)else
 bif decide (s=1027)then(bif decide (k=42)then rY [42,1000,43]else qq)else
 bif decide (s=1029)then(bif ju k||(decide (k=44)||decide (k=48))then rY [1032,1030]else qe)else
 bif decide (s=1030)then(bif decide (k=46)then rY [46,1031]else qe)else
 bif decide (s=1031)then(bif ju k||(decide (k=44)||decide (k=48))then rY [1032,1030]else qe)else
 bif decide (s=1032)then(bif decide (k=44)then rY [44,1018,45,47,1018]else bif decide (k=48)then rY [48,1,47,1018]else bif ju k then rY [1018]else qq)else qq
def S3 (t a c:Int):LI:=
 bif decide (t=48)then [t,1,a]else bif decide (t=44)then [t,119,45,a]else bif decide (t=40)then [t,123,41,c]else []
def T5 (t:Int):LI×Bool:=
 bif decide (t=22)then([t,1,104,103],true)else
 bif decide (t=13)then([t,1,47,119],true)else
 bif decide (t=18)then([t,1,133],true)else
 bif decide (t=20)then([t,119,132,105],true)else
 bif decide (t=31)then([t,119,132],true)else
 bif decide (t=19)then([t,1,106],true)else
 bif decide (t=11)||decide (t=23)then([t],true)else
 bif decide (t=27)then([t,108],true)else
 bif decide (t=30)then([t,132,12,1,109,132],true)else
 bif decide (t=28)then([t,119],true)else
 bif decide (t=14)then([t,116],true)else
 bif decide (t=42)then([132],true)else
 bif decide (t=1)then([t,110],true)else
 bif decide (t=40)then([t,119,41,112],true)else([],false)
def exp2 (s t:Int):LI×Bool:=
 let row:=bif decide (s=110)||decide (s=111)||decide (s=112)then S3 t 110 111 else bif decide (s=114)||decide (s=115)then S3 t 114 115 else bif decide (s=117)||decide (s=118)then S3 t 117 118 else []
 bif !row.isEmpty then(row,true)else
 bif decide (s=111)||decide (s=118)then([],true)else
 bif(decide (s=110)||decide (s=114))&&decide (t=46)then([t,113],true)else
 bif(decide (s=110)||decide (s=114))&&decide (t=47)then([t,124],true)else
 bif(decide (s=113)||decide (s=116))&&decide (t=1)then([t,bif decide (s=116)then 117 else 114],true)else
 bif(decide (s=113)||decide (s=116))&&decide (t=40)then([t,119,41,bif decide (s=116)then 117 else 115],true)else([],false)
def XC (t:Int):LI×Bool:=
 bif sh t then([t,120],true)else bif decide (t=1)then([t,122],true)else bif decide (t=40)then([t,119,41,122],true)else bif decide (t=42)then([t,129,43],true)else bif decide (t=18)then([t,133],true)else([t],ju t)
def Mq (t:Int):Bool:=decide (t=10)||(decide (t=26)||decide (60<t))
def Z3 (s t:Int):LI×Bool:=
 bif decide (s=119)then([120,121],ju t)else
 bif decide (s=120)then XC t else
 bif decide (s=121)then(bif Mq t then([t,119],true)else([],true))else
 bif decide (s=122)then(S3 t 122 122,true)else
 bif decide (s=123)then(bif ju t then([124],true)else([],true))else
 bif decide (s=124)then([119,125],ju t)else
 bif decide (s=125)then(bif decide (t=46)then([t,119,125],true)else([],true))else
 bif decide (s=126)||decide (s=128)then(bif decide (t=1)then([t,127],true)else bif decide (t=49)then([t],true)else([],decide (s=126)))else
 bif decide (s=127)then(bif decide (t=46)then([t,128],true)else([],true))else
 bif decide (s=129)then(bif ju t||(decide (t=48)||decide (t=44))then([131,130],true)else([],true))else
 bif decide (s=130)then(bif decide (t=46)then([t,129],true)else([],true))else
 bif decide (s=131)then(bif decide (t=48)then([t,1,47,119],true)else bif decide (t=44)then([t,119,45,47,119],true)else([119],ju t))else
 bif decide (s=132)then([42,100,43],decide (t=42))else([40,126,41,132],decide (t=40))
def oH (s t:Int):LI×Bool:=
 bif decide (s=100)then(bif decide (t=5)then([t,100],true)else bif(T5 t).2 then((T5 t).1++[101],true)else([],true))else
 bif decide (s=101)then(bif decide (t=5)then([t,100],true)else([],true))else
 bif decide (s=103)then(bif decide (t=47)then([t,124],true)else([],true))else
 bif decide (s=104)then(bif decide (t=46)then([t,1,104],true)else([],true))else
 bif decide (s=105)then(bif decide (t=15)then([t,119,132,105],true)else bif decide (t=16)then([t,132],true)else([],true))else
 bif decide (s=106)then(bif decide (t=47)then([t,119,46,119,107,132],true)else([104,21,119,132],decide (t=46)||decide (t=21)))else
 bif decide (s=107)then(bif decide (t=46)then([t,119],true)else([],true))else
 bif decide (s=108)then(bif ju t then([124],true)else([],true))else
 bif decide (s=109)then(bif decide (t=46)then([t,1],true)else([],true))else
 bif decide (110<=s)&&decide (s<=118)then exp2 s t else Z3 s t
inductive Out where
 |no|gone|left (l:LI)
 deriving DecidableEq
def sC:Nat->LI->Int->Out
 |0,_,_=> .no
 |_+1,[],_=> .gone
 |n+1,s::r,k=>bif decide (s<1000)then(bif decide (s=k)then .left r else .no)else
   bif(eP s k).2.1 then sC n ((eP s k).1++r) k else bif(eP s k).2.2 then sC n r k else .no
def vV:Nat->LI->Int->Out
 |0,_,_=> .no
 |_+1,[],_=> .gone
 |n+1,s::r,k=>bif decide (s<100)then(bif decide (s=k)then .left r else .no)else
   bif(oH s k).2 then vV n ((oH s k).1++r) k else .no
def nI (s:Int):LI:=bif decide (s=1018)then [1020,1019]else bif decide (s=1031)then [1029]else [s]
def nS (s:Int):LI:=
 bif decide (s=119)then [1020,1019]else bif decide (s=124)then [1020,1019,1023]else bif decide (s<100)then [s]else
 [([(100,1000),(101,1001),(103,1002),(104,1006),(105,1003),(106,1004),(107,1005),(108,1007),(109,1008),(110,1009),(111,1010),(112,1011),(113,1012),(114,1013),(115,1014),(116,1015),(117,1016),(118,1017),(120,1020),(121,1019),(122,1021),(123,1022),(125,1023),(126,1024),(127,1025),(128,1026),(129,1029),(130,1030),(131,1032),(132,1027),(133,1028)]:List (Int×Int)).lookup s|>.getD 0]
def Out.map (f:LI->LI):Out->Out
 | .no=> .no
 | .gone=> .gone
 | .left l=> .left (f l)
def xu:LI:=[100,101,103,104,105,106,107,108,109,110,111,112,113,114,115,116,117,118,119,120,121,122,123,124,125,126,127,128,129,130,131,132,133]
def allI:LI:=(List.range 33).map λ(n:Nat)=>1000+(n:Int)
def kinds:LI:=(List.range 79).map λ(n:Nat)=>(n:Int)
theorem SO:(xu.all λs=>kinds.all λk=>decide ((vV 9 [s] k).map (·.flatMap nS)=(sC 9 (nS s) k).map (·.flatMap nI)))=true:=by kernel_rfl
theorem Sm:(allI.all λs=>kinds.all λk=>decide ((sC 9 [s] k).map (·.flatMap nI)=(sC 9 (nI s) k).map (·.flatMap nI)))=true:=by kernel_rfl
end Go.Abs.D
end

section
namespace Go.Abs.D
def IJ (one:Int->Int->Out):LI->Int->Out
 |[],_=> .gone
 |s::r,k=>match one s k with
  | .no=> .no
  | .gone=>IJ one r k
  | .left l=> .left (l++r)
def stI (s k:Int):Out:=sC 9 [s] k
def stS (s k:Int):Out:=vV 9 [s] k
def gO:LI->Int->Out:=IJ stI
def pj:LI->Int->Out:=IJ stS
def NI (a:LI):LI:=a.flatMap nI
def NS (b:LI):LI:=b.flatMap nS
def Out.then (o:Out)(c:LI)(d:Out):Out:=match o with
 | .no=> .no
 | .gone=>d
 | .left l=> .left (l++c)
theorem gu (one:Int->Int->Out)(s:Int)(r:LI)(k:Int):IJ one (s::r) k=(one s k).then r (IJ one r k):=by
 show(match one s k with| .no=>Out.no| .gone=>IJ one r k| .left l=> .left (l++r))=_;cases one s k<;>rfl
theorem Oo (o:Out)(r c:LI)(d e:Out):(o.then r d).then c e=o.then (r++c) (d.then c e):=by
 cases o with
 |no=>rfl
 |gone=>rfl
 |left l=>simp[Out.then]
theorem wX (one:Int->Int->Out)(k:Int):∀a c:LI,IJ one (a++c) k=(IJ one a k).then c (IJ one c k)
 |[],c=>rfl
 |s::r,c=>by
  rw[List.cons_append,gu,gu,Oo,wX one k r c]
theorem Out.Ax (f:LI->LI)(hf:∀a b,f (a++b)=f a++f b)(o:Out)(c:LI)(d:Out):(o.then c d).map f=(o.map f).then (f c) (d.map f):=by
 cases o with
 |no=>rfl
 |gone=>rfl
 |left l=>simp[Out.then,Out.map,hf]
theorem uq (a b:LI):NI (a++b)=NI a++NI b:=List.flatMap_append
theorem Oj (a b:LI):NS (a++b)=NS a++NS b:=List.flatMap_append
def okI (s:Int):Prop:=(0<=s/\s<=78)\/s∈allI
def okS (s:Int):Prop:=(0<=s/\s<=78)\/s∈xu
theorem LQ {s:Int}(h:s<=78):nI s=[s]:=by
 unfold nI;rw[aB9 (by omega),aB9 (by omega)];rfl
theorem UJ {s:Int}(h:s<=78):nS s=[s]:=by
 unfold nS;rw[aB9 (by omega),aB9 (by omega),aC1 (by omega)];rfl
theorem s6 {s k:Int}(h:s<=78):stI s k=bif decide (s=k)then .left []else .no:=by
 unfold stI sC;rw[aC1 (show s<1000 by omega)];rfl
theorem Dp {s k:Int}(h:s<=78):stS s k=bif decide (s=k)then .left []else .no:=by
 unfold stS vV;rw[aC1 (show s<100 by omega)];rfl
theorem XX:(allI.all λs=>kinds.all λk=>decide (sC 9 (nI s) k=gO (nI s) k))=true:=by kernel_rfl
theorem XO:(xu.all λs=>kinds.all λk=>decide (sC 9 (nS s) k=gO (nS s) k))=true:=by kernel_rfl
theorem nfI:(allI.all λs=>decide (NI (nI s)=nI s))=true:=by kernel_rfl
theorem nfS:(xu.all λs=>decide (NI (nS s)=nS s))=true:=by kernel_rfl
theorem jf {k:Int}(h0:0<=k)(h1:k<=78):k∈kinds:=by
 unfold kinds;exact List.mem_map.2 ⟨k.toNat,List.mem_range.2 (by omega),by omega⟩
theorem Yj {s k:Int}(hs:okI s)(h0:0<=k)(h1:k<=78):(stI s k).map NI=(gO (nI s) k).map NI/\NI (nI s)=nI s:=by
 rcases hs with⟨_,h⟩|h
 ·rw[LQ h];refine⟨?_,by unfold NI;simp[LQ h]⟩
  have e:gO [s] k=(stI s k).then [] .gone:=gu stI s [] k
  rw[e,s6 h];cases decide (s=k)<;>rfl
 ·have t:=of_decide_eq_true (List.all_eq_true.1 (List.all_eq_true.1 Sm s h) k (jf h0 h1));have f:=of_decide_eq_true (List.all_eq_true.1 (List.all_eq_true.1 XX s h) k (jf h0 h1));have n:=of_decide_eq_true (List.all_eq_true.1 nfI s h);rw[<-f];exact⟨t,n⟩
theorem Yi {s k:Int}(hs:okS s)(h0:0<=k)(h1:k<=78):(stS s k).map NS=(gO (nS s) k).map NI/\NI (nS s)=nS s:=by
 rcases hs with⟨_,h⟩|h
 ·rw[UJ h];refine⟨?_,by unfold NI;simp[LQ h]⟩
  have e:gO [s] k=(stI s k).then [] .gone:=gu stI s [] k
  rw[e,s6 h,Dp h];cases decide (s=k)<;>rfl
 ·have t:=of_decide_eq_true (List.all_eq_true.1 (List.all_eq_true.1 SO s h) k (jf h0 h1));have f:=of_decide_eq_true (List.all_eq_true.1 (List.all_eq_true.1 XO s h) k (jf h0 h1));have n:=of_decide_eq_true (List.all_eq_true.1 nfS s h);rw[<-f];exact⟨t,n⟩
theorem TG:∀{a:LI},(∀s∈a,okI s)->NI (NI a)=NI a
 |[],_=>rfl
 |s::r,h=>by
  have e:NI (s::r)=nI s++NI r:=List.flatMap_cons;rw[e,uq,TG λx hx=>h x (aD9 _ hx),(Yj (k:=0) (h s (aE0 ..)) (by decide) (by decide)).2]
theorem TM:∀{b:LI},(∀s∈b,okS s)->NI (NS b)=NS b
 |[],_=>rfl
 |s::r,h=>by
  have e:NS (s::r)=nS s++NS r:=List.flatMap_cons;rw[e,uq,TM λx hx=>h x (aD9 _ hx),(Yi (k:=0) (h s (aE0 ..)) (by decide) (by decide)).2]
theorem Nu {k:Int}(h0:0<=k)(h1:k<=78):∀{a:LI},(∀s∈a,okI s)->(gO a k).map NI=(gO (NI a) k).map NI
 |[],_=>rfl
 |s::r,h=>by
  have e:NI (s::r)=nI s++NI r:=List.flatMap_cons
  have ih:=Nu h0 h1 (a:=r) λx hx=>h x (aD9 _ hx)
  have hs:=Yj (h s (aE0 ..)) h0 h1
  have hr:NI (NI r)=NI r:=TG λx hx=>h x (aD9 _ hx)
  have e2:gO (s::r) k=(stI s k).then r (gO r k):=gu stI s r k
  have e3:gO (nI s++NI r) k=(gO (nI s) k).then (NI r) (gO (NI r) k):=wX stI k (nI s) (NI r)
  rw[e,e2,e3,Out.Ax NI uq,Out.Ax NI uq,hs.1,ih,hr]
theorem MP {k:Int}(h0:0<=k)(h1:k<=78):∀{b:LI},(∀s∈b,okS s)->(pj b k).map NS=(gO (NS b) k).map NI
 |[],_=>rfl
 |s::r,h=>by
  have e:NS (s::r)=nS s++NS r:=List.flatMap_cons
  have ih:=MP h0 h1 (b:=r) λx hx=>h x (aD9 _ hx)
  have hs:=Yi (h s (aE0 ..)) h0 h1
  have hr:NI (NS r)=NS r:=TM λx hx=>h x (aD9 _ hx)
  have e2:pj (s::r) k=(stS s k).then r (pj r k):=gu stS s r k
  have e3:gO (nS s++NS r) k=(gO (nS s) k).then (NS r) (gO (NS r) k):=wX stI k (nS s) (NS r)
  rw[e,e2,e3,Out.Ax NS Oj,Out.Ax NI uq,hs.1,ih,hr]
theorem J5 {k:Int}(h0:0<=k)(h1:k<=78){a b:LI}(ha:∀s∈a,okI s)(hb:∀s∈b,okS s)(h:NI a=NS b):(gO a k).map NI=(pj b k).map NS:=by
 rw[Nu h0 h1 ha,MP h0 h1 hb,h]
end Go.Abs.D
end

section
namespace Go.Abs.D
def bC (c:Int):Bool:=(decide (97<=c)&&decide (c<=122))||(decide (65<=c)&&decide (c<=90))||decide (c=95)
def aR (c:Int):Bool:=decide (48<=c)&&decide (c<=57)
def xt (c:Int):Bool:=decide (97<=c)&&decide (c<=102)
def gy (c:Int):Bool:=aR c||xt c
def jh (c:Int):Int:=bif aR c then c - 48 else bif xt c then c - 87 else -1
def get (s:LI)(j:Nat):Int:=s.getD j 0
theorem ir {s:LI}{j:Nat}(h:s.length<=j):get s j=0:=by
 unfold get;rw[aE2,List.getElem?_eq_none h];rfl
theorem Yn (pre:LI)(x:Int)(r:LI):get (pre++x::r) pre.length=x:=my pre x r 0
theorem Vx:gy 0=false:=rfl
structure Base1 (T:S.Tab):Prop where
 iletter:∀c,kO T c=some (bC c,aa)
 idigit:∀c,iX T c=some (aR c,aa)
 sletter:∀c,js T c=some (bC c,aa)
 sdigit:∀c,cN T c=some (aR c,aa)
 look:∀(s:LI) (j:Nat),cw T s (j:Int)=some (get s j,ab)
 words:qP T=some (Lx.words,fE)
theorem u9 (T:S.Tab):Base1 (S.step T):=by
 refine⟨λc=> ?_,λc=> ?_,λc=> ?_,λc=> ?_,λs j=> ?_, ?_⟩
 ·rw[DL];simp only[dO,bC];cases decide (97<=c)<;>cases decide (c<=122)<;>cases decide (65<=c)<;>cases decide (c<=90)<;>simp
 ·rw[FW];simp only[dO,aR];cases decide (48<=c)<;>simp
 ·rw[A6];simp only[dO,bC];cases decide (97<=c)<;>cases decide (c<=122)<;>cases decide (65<=c)<;>cases decide (c<=90)<;>simp
 ·rw[CS];simp only[dO,aR];cases decide (48<=c)<;>simp
 ·rw[DM]
  by_cases h:j<s.length
  ·rw[ad (by simpa using h),ad (by simp[h])];rfl
  ·rw[aB (by simpa using h),ir (by omega)]
 ·rw[CE];rfl
structure Base2 (T:S.Tab):Prop extends Base1 T where
 ihex:∀c,um T c=some (gy c,aa)
 shex:∀c,nM T c=some (jh c,aa)
theorem D8 (T:S.Tab)(h:Base1 T):Base2 (S.step T):=by
 refine⟨u9 T,λc=> ?_,λc=> ?_⟩
 ·rw[Hj,h.idigit];simp only[aC0,dO,gy,xt];cases aR c<;>cases decide (97<=c)<;>simp
 ·rw[F0,h.sdigit];simp only[aC0,jh]
  cases hd:aR c with
  |true=>
   simp only[aR,aC6,aC4]at hd;rw[ad rfl,vI _ (by omega) (by omega),wrap64 _ (by omega) (by omega)];rfl
  |false=>
   rw[aB rfl]
   by_cases h1:97<=c
   ·rw[ad (by simpa using h1)]
    by_cases h2:c<=102
    ·rw[ad (by simpa using h2),vI _ (by omega) (by omega),wrap64 (c - 97) (by omega) (by omega),wrap64 _ (by omega) (by omega)];have:xt c=true:=(by simp[xt,h1,h2]);rw[this];simp only[aD1,aD6,aG1,aH2,and_true];omega
    ·rw[aB (by simpa using h2)];have:xt c=false:=(by simp[xt,h2]);rw[this];rfl
   ·rw[aB (by simpa using h1)];have:xt c=false:=(by simp[xt,h1]);rw[this];rfl
theorem aG:Evt λn=>Base2 (S.tab n):=by
 have h1:Evt λn=>Base1 (S.tab n):=Evt.up (Evt.of (p:=λ_=>True) λ_=>trivial) λn _=>u9 _
 exact h1.up λn h=>D8 _ h
theorem nX (c:Int):decide (0<=jh c)=gy c:=by
 unfold jh gy
 cases hd:aR c with
 |true=>
  simp only[aR,aC6,aC4]at hd;simp only[aD6,aD7,aC4];omega
 |false=>
  cases hl:xt c with
  |true=>
   simp only[xt,aC6,aC4]at hl;simp only[aD6,aD1,aD8,aC4];omega
  |false=>simp
theorem s9 (c:Int):jh c<16:=by
 unfold jh
 cases hd:aR c with
 |true=>
  simp only[aR,aC6,aC4]at hd;simp only[aD6];omega
 |false=>
  cases hl:xt c with
  |true=>
   simp only[xt,aC6,aC4]at hl;simp only[aD6,aD1];omega
  |false=>simp
end Go.Abs.D
end

section
namespace Go.Abs.D
def wq (s:LI)(j:Nat):Bool:=bC (get s j)||aR (get s j)
def dq (s:LI)(j:Nat):Bool:=aR (get s j)
def hq (s:LI)(m j:Nat):Bool:=decide (j<m)&&gy (get s j)
theorem qm {s:LI}:∀j,s.length<=j->wq s j=false:=λj h=>by unfold wq;rw[ir h];rfl
theorem pb {s:LI}:∀j,s.length<=j->dq s j=false:=λj h=>by unfold dq;rw[ir h];rfl
theorem BH {s:LI}{m:Nat}:∀j,s.length<=j->hq s m j=false:=λj h=>by unfold hq;rw[ir h,Vx,aD0]
def tJ (s:LI)(j:Nat):Nat:=stop (wq s) s.length j
def oC (s:LI)(j:Nat):Nat:=stop (dq s) s.length j
def j8 (s:LI)(m j:Nat):Nat:=stop (hq s m) s.length j
theorem aJ (s:LI)(j:Nat):s.getD (j:Int).toNat 0=get s j:=rfl
theorem lX {q:Nat->Bool}{N j:Nat}(h:∀j,N<=j->q j=false)(hq:q j=true):j<N:=by
 rcases Nat.lt_or_ge j N with h'|h'
 ·exact h'
 ·rw[h j h']at hq;cases hq
theorem an {n j:Nat}(h:j<n):(decide ((0:Int)<=(j:Int))&&decide ((j:Int)<(n:Int)))=true:=by
 simp[h]
theorem bH {j:Nat}(h:j<=4194304):i64.wrap ((j:Int)+1)=((j+1:Nat):Int):=by
 rw[wrap64 _ (by omega) (by omega)];omega
variable{s:LI}(hs:s.length<=2097152)
include hs
theorem Dx (i:Int)(t:al.den)(j:Nat):Evt λn=>j4 (S.tab n) s i t (j:Int)=some (Sum.inl (s,i,t,(tJ s j:Int),())):=
 adv (F:=λT j=>j4 T s i t ↑j) (out:=λj=>Sum.inl (s,i,t,(j:Int),())) aG qm
  (λT j h hq=>by
   have hj:=lX qm hq;show j4 (S.step T) s i t j=j4 T s i t ((j+1:Nat):Int);rw[wN,ad (by simpa using hj),ad (an hj),aJ,h.iletter,h.idigit,bH (by omega)];simp only[aC0,dO,an hj,aD6];unfold wq at hq
   cases hl:bC (get s j)with
   |true=>rfl
   |false=>rw[hl,aD3]at hq;rw[hq];rfl)
  (λT j h hq=>by
   show j4 (S.step T) s i t j=_;rw[wN]
   by_cases hj:j<s.length
   ·rw[ad (by simpa using hj),ad (an hj),aJ,h.iletter,h.idigit];simp only[aC0,dO,an hj,aD6];unfold wq at hq;simp only[Bool.or_eq_false_iff]at hq;rw[hq.1,hq.2];rfl
   ·rw[aB (by simpa using hj)]) s.length j (by omega)
theorem zM (t3 t4:al.den)(j:Nat):Evt λn=>gG (S.tab n) s t3 t4 (j:Int)=some (Sum.inl (s,t3,t4,(tJ s j:Int),())):=
 adv (F:=λT j=>gG T s t3 t4 ↑j) (out:=λj=>Sum.inl (s,t3,t4,(j:Int),())) aG qm
  (λT j h hq=>by
   have hj:=lX qm hq;show gG (S.step T) s t3 t4 j=gG T s t3 t4 ((j+1:Nat):Int);rw[sP,h.look,bH (by omega)];simp only[aC0,h.sletter,h.sdigit,dO];unfold wq at hq
   cases hl:bC (get s j)with
   |true=>rfl
   |false=>rw[hl,aD3]at hq;rw[hq];rfl)
  (λT j h hq=>by
   show gG (S.step T) s t3 t4 j=_;rw[sP,h.look];simp only[aC0,h.sletter,h.sdigit,dO];unfold wq at hq;simp only[Bool.or_eq_false_iff]at hq
   rw[hq.1,hq.2];rfl) s.length j (by omega)
theorem za (i:Int)(t:al.den)(j:Nat):Evt λn=>eR (S.tab n) s i t (j:Int)=some (Sum.inl (s,i,t,(oC s j:Int),())):=
 adv (F:=λT j=>eR T s i t ↑j) (out:=λj=>Sum.inl (s,i,t,(j:Int),())) aG pb
  (λT j h hq=>by
   have hj:=lX pb hq;show eR (S.step T) s i t j=eR T s i t ((j+1:Nat):Int);rw[rI,ad (by simpa using hj),ad (an hj),aJ,h.idigit,bH (by omega)];simp only[aC0,dO]
   rw[show aR (get s j)=true from hq];rfl)
  (λT j h hq=>by
   show eR (S.step T) s i t j=_;rw[rI]
   by_cases hj:j<s.length
   ·rw[ad (by simpa using hj),ad (an hj),aJ,h.idigit];simp only[aC0,dO];rw[show aR (get s j)=false from hq];rfl
   ·rw[aB (by simpa using hj)]) s.length j (by omega)
theorem yS (i:Int)(t:al.den)(m:Int)(j:Nat):Evt λn=>gT (S.tab n) s i t ↑j m=some (Sum.inl (s,i,t,(oC s j:Int),m,())):=
 adv (F:=λT j=>gT T s i t ↑j m) (out:=λj=>Sum.inl (s,i,t,(j:Int),m,())) aG pb
  (λT j h hq=>by
   have hj:=lX pb hq;show gT (S.step T) s i t j m=gT T s i t ((j+1:Nat):Int) m;rw[rL,ad (by simpa using hj),ad (an hj),aJ,h.idigit,bH (by omega)];simp only[aC0,dO]
   rw[show aR (get s j)=true from hq];rfl)
  (λT j h hq=>by
   show gT (S.step T) s i t j m=_;rw[rL]
   by_cases hj:j<s.length
   ·rw[ad (by simpa using hj),ad (an hj),aJ,h.idigit];simp only[aC0,dO];rw[show aR (get s j)=false from hq];rfl
   ·rw[aB (by simpa using hj)]) s.length j (by omega)
theorem yP (i:Int)(t:al.den)(m:Int)(j:Nat):Evt λn=>gR (S.tab n) s i t ↑j m=some (Sum.inl (s,i,t,(oC s j:Int),m,())):=
 adv (F:=λT j=>gR T s i t ↑j m) (out:=λj=>Sum.inl (s,i,t,(j:Int),m,())) aG pb
  (λT j h hq=>by
   have hj:=lX pb hq;show gR (S.step T) s i t j m=gR T s i t ((j+1:Nat):Int) m;rw[rG,ad (by simpa using hj),ad (an hj),aJ,h.idigit,bH (by omega)];simp only[aC0,dO]
   rw[show aR (get s j)=true from hq];rfl)
  (λT j h hq=>by
   show gR (S.step T) s i t j m=_;rw[rG]
   by_cases hj:j<s.length
   ·rw[ad (by simpa using hj),ad (an hj),aJ,h.idigit];simp only[aC0,dO];rw[show aR (get s j)=false from hq];rfl
   ·rw[aB (by simpa using hj)]) s.length j (by omega)
theorem zJ (i:Nat)(t:al.den)(j:Nat)(hi:i<=2097152):Evt λn=>iA (S.tab n) s ↑i t (j:Int)=some (Sum.inl (s,(i:Int),t,(j8 s (i+18) j:Int),())):=
 adv (F:=λT j=>iA T s ↑i t ↑j) (out:=λj=>Sum.inl (s,(i:Int),t,(j:Int),())) aG BH
  (λT j h Pd=>by
   have hj:=lX BH Pd;simp only[hq,aC6,aC4]at Pd;show iA (S.step T) s i t j=iA T s i t ((j+1:Nat):Int);rw[sU,ad (by simpa using hj),wrap64 ((i:Int)+18) (by omega) (by omega),ad (by simp only[aC4];omega),ad (an hj),aJ,h.ihex,bH (by omega)];simp only[aC0,dO]
   rw[Pd.2];rfl)
  (λT j h Pd=>by
   show iA (S.step T) s i t j=_;rw[sU]
   by_cases hj:j<s.length
   ·rw[ad (by simpa using hj),wrap64 ((i:Int)+18) (by omega) (by omega)]
    by_cases hj2:j<i+18
    ·rw[ad (by simp only[aC4];omega),ad (an hj),aJ,h.ihex];simp only[hq,hj2,decide_true,aC9]at Pd;simp only[aC0,dO];rw[Pd];rfl
    ·rw[aB (by simp only[aC8];omega)]
   ·rw[aB (by simpa using hj)]) s.length j (by omega)
theorem xX (t3 t4:al.den)(j:Nat):Evt λn=>fh (S.tab n) s t3 t4 (j:Int)=some (Sum.inl (s,t3,t4,(oC s j:Int),())):=
 adv (F:=λT j=>fh T s t3 t4 ↑j) (out:=λj=>Sum.inl (s,t3,t4,(j:Int),())) aG pb
  (λT j h hq=>by
   have hj:=lX pb hq;show fh (S.step T) s t3 t4 j=fh T s t3 t4 ((j+1:Nat):Int);rw[qy,h.look,bH (by omega)];simp only[aC0,h.sdigit,dO]
   rw[show aR (get s j)=true from hq];rfl)
  (λT j h hq=>by
   show fh (S.step T) s t3 t4 j=_;rw[qy,h.look];simp only[aC0,h.sdigit,dO]
   rw[show aR (get s j)=false from hq];rfl) s.length j (by omega)
theorem wu (t3 t4:al.den)(j:Nat):Evt λn=>fu (S.tab n) s t3 t4 (j:Int)=some (Sum.inl (s,t3,t4,(oC s j:Int),())):=
 adv (F:=λT j=>fu T s t3 t4 ↑j) (out:=λj=>Sum.inl (s,t3,t4,(j:Int),())) aG pb
  (λT j h hq=>by
   have hj:=lX pb hq;show fu (S.step T) s t3 t4 j=fu T s t3 t4 ((j+1:Nat):Int);rw[pP,h.look,bH (by omega)];simp only[aC0,h.sdigit,dO]
   rw[show aR (get s j)=true from hq];rfl)
  (λT j h hq=>by
   show fu (S.step T) s t3 t4 j=_;rw[pP,h.look];simp only[aC0,h.sdigit,dO]
   rw[show aR (get s j)=false from hq];rfl) s.length j (by omega)
theorem wC (t3 t4:al.den)(j:Nat):Evt λn=>c8 (S.tab n) s t3 t4 (j:Int)=some (Sum.inl (s,t3,t4,(oC s j:Int),())):=
 adv (F:=λT j=>c8 T s t3 t4 ↑j) (out:=λj=>Sum.inl (s,t3,t4,(j:Int),())) aG pb
  (λT j h hq=>by
   have hj:=lX pb hq;show c8 (S.step T) s t3 t4 j=c8 T s t3 t4 ((j+1:Nat):Int);rw[pN,h.look,bH (by omega)];simp only[aC0,h.sdigit,dO]
   rw[show aR (get s j)=true from hq];rfl)
  (λT j h hq=>by
   show c8 (S.step T) s t3 t4 j=_;rw[pN,h.look];simp only[aC0,h.sdigit,dO]
   rw[show aR (get s j)=false from hq];rfl) s.length j (by omega)
end Go.Abs.D
end

section
namespace Go.Abs.D
def kq (w:LI)(j:Nat):Bool:=decide (j<22)&& !decide (Lx.words.getD j []=w)
theorem It {w:LI}:∀j,22<=j->kq w j=false:=λj h=>by simp[kq];omega
def uG (w:LI):Nat:=stop (kq w) 22 0
theorem Ip (l:List LI)(j:Nat):l.getD (j:Int).toNat []=l.getD j []:=rfl
theorem CN (w:LI)(j:Nat)(hj:j<=22):Evt λn=>ji (S.tab n) w Lx.words 22 (j:Int)=
  some (if stop (kq w) 22 j<22 then Sum.inl (((10+stop (kq w) 22 j:Nat):Int),())else Sum.inr (Sum.inl ())):=
 adv (F:=λT j=>ji T w Lx.words 22 ↑j) (out:=λj=>if j<22 then Sum.inl (((10+j:Nat):Int),())else Sum.inr (Sum.inl ())) aG It
  (λT j h hq=>by
   have hj:=lX It hq;show ji (S.step T) w Lx.words 22 j=ji T w Lx.words 22 ((j+1:Nat):Int);rw[vC,ad (by simp;omega),ad (an (show j<Lx.words.length from hj)),Ip,bH (by omega)];simp only[kq,aC6,aH3]at hq
   rw[aB hq.2])
  (λT j h hq=>by
   show ji (S.step T) w Lx.words 22 j=_;rw[vC]
   by_cases hj:j<22
   ·rw[ad (by simp;omega),ad (an (show j<Lx.words.length from hj)),Ip];simp only[kq,hj,decide_true,aC9,Bool.not_eq_false']at hq;rw[ad hq,aG3 hj,wrap64 _ (by omega) (by omega)]
    congr 3
   ·rw[aB (by simp;omega),aF4 hj]) 22 j (by omega)
theorem zO (t3 t4:al.den)(w:LI)(j:Nat)(hj:j<=22):Evt λn=>gH (S.tab n) t3 t4 w Lx.words 22 (j:Int)=
  some (if stop (kq w) 22 j<22 then Sum.inl ((((10+stop (kq w) 22 j:Nat):Int),t3.2),(-1:Int),())else Sum.inr (Sum.inl (t3,t4,w,()))):=
 adv (F:=λT j=>gH T t3 t4 w Lx.words 22 ↑j) (out:=λj=>if j<22 then Sum.inl ((((10+j:Nat):Int),t3.2),(-1:Int),())else Sum.inr (Sum.inl (t3,t4,w,()))) aG It
  (λT j h hq=>by
   have hj:=lX It hq;show gH (S.step T) t3 t4 w Lx.words 22 j=gH T t3 t4 w Lx.words 22 ((j+1:Nat):Int);rw[sV,ad (by simp;omega),ad (an (show j<Lx.words.length from hj)),Ip,bH (by omega)];simp only[kq,aC6,aH3]at hq
   rw[aB hq.2])
  (λT j h hq=>by
   show gH (S.step T) t3 t4 w Lx.words 22 j=_;rw[sV]
   by_cases hj:j<22
   ·rw[ad (by simp;omega),ad (an (show j<Lx.words.length from hj)),Ip];simp only[kq,hj,decide_true,aC9,Bool.not_eq_false']at hq;rw[ad hq,aG3 hj,wrap64 _ (by omega) (by omega)]
    congr 4
   ·rw[aB (by simp;omega),aF4 hj]) 22 j (by omega)
def sd (w:LI):Int:=if uG w<22 then((10+uG w:Nat):Int)else 1
theorem HF (w:LI):Evt λn=>xR (S.tab n) w=some (sd w,aa):=
 (CN w 0 (by omega)).up λn h=>by
  show xR (S.step (S.tab n)) w=_;have h:ji (S.tab n) w Lx.words (Lx.words.length:Int) 0=_:=h;rw[HL,h];unfold sd uG;split<;>rfl
theorem Cj (w:LI):sd w=1↔¬ uG w<22:=by
 unfold sd;split
 ·omega
 ·rename_i h;exact⟨λ_=>h,λ_=>rfl⟩
def Ge (s:LI)(i:Nat):al.den:=
 let e:=tJ s i
 let w:=sub s ↑i ↑e
 if uG w<22 then(((10+uG w:Nat):Int),(i:Int),(e:Int),0,0,([]:LI),())else(1,(i:Int),(e:Int),0,0,w,())
theorem se {q:Nat->Bool}{N:Nat}(h:∀j,N<=j->q j=false):∀(k j:Nat),j<=N->stop q k j<=N
 |0,j,hj=>hj
 |k+1,j,hj=>by
  unfold stop
  cases hq:q j with
  |false=>exact hj
  |true=>
   have:=lX h hq;exact se h k (j+1) (by omega)
theorem dZ {n i e:Nat}(h1:i<=e)(h2:e<=n):bounds n ↑i (e:Int)=true:=by
 unfold bounds;simp only[aC6,aC4];omega
theorem D2 {s:LI}(hs:s.length<=2097152){i:Nat}(hi:i<s.length)(t:al.den)(ht:t=(0,(i:Int),0,0,0,([]:LI),())):
  Evt λn=>sY (S.tab n) s t=some ((Ge s i, -1,()),b8):=by
 subst ht;have hle:tJ s i<=s.length:=se qm _ _ (by omega);have FQ:i<=tJ s i:=qU _ _
 refine(((zM hs (0,(i:Int),0,0,0,([]:LI),()) (0,0,0,0,0,([]:LI),()) i).and (zO (1,(i:Int),(tJ s i:Int),0,0,([]:LI),()) (0,0,0,0,0,([]:LI),()) (sub s ↑i (tJ s i:Int)) 0 (by omega))).and aG).up λn ⟨⟨h1,h2⟩,hb⟩=> ?_
 show sY (S.step (S.tab n)) s _=_;rw[DA];simp only[h1,aC0,aO,aE3,ad (dZ FQ hle),hb.words];have h2:gH (S.tab n) (1,(i:Int),(tJ s i:Int),0,0,([]:LI),()) (0,0,0,0,0,([]:LI),()) (sub s ↑i (tJ s i:Int)) Lx.words (Lx.words.length:Int) 0=_:=h2;rw[h2];unfold Ge uG;simp only[aC0];split<;>rfl
theorem F1 {s:LI}(hs:s.length<=2097152){i:Nat}(hi:i<s.length)(hl:bC (get s i)=true):
  Evt λn=>iB (S.tab n) s (i:Int)=some ((Ge s i,false,()),ab):=by
 have hle:tJ s i<=s.length:=se qm _ _ (by omega);have FQ:i<=tJ s i:=qU _ _
 refine(((Dx hs ↑i (0,(i:Int),0,0,0,([]:LI),()) i).and (HF (sub s ↑i (tJ s i:Int)))).and aG).up λn ⟨⟨h1,h2⟩,hb⟩=> ?_
 show iB (S.step (S.tab n)) s _=_;rw[Ca,ad (an hi),aJ,hb.iletter,hl];simp only[aC0,ad,h1,aO,aE3,ad (dZ FQ hle),h2];unfold Ge
 by_cases hk:uG (sub s ↑i (tJ s i:Int))<22
 ·have:sd (sub s ↑i (tJ s i:Int))≠1:=λe=>(Cj _).1 e hk
  rw[aB (by simpa using this)];simp only[hk,if_true,sd]
 ·rw[ad (by simpa using(Cj _).2 hk)];simp only[hk,aH6,sd]
end Go.Abs.D
end

section
namespace Go.Abs.D
def hv (n:Int)(l:LI):Int:=l.foldl (λn c=>n*16+jh c) n
theorem HX (n c:Int)(l:LI):hv n (c::l)=hv (n*16+jh c) l:=rfl
theorem Sf (n c:Int)(l:LI):hv n (l++[c])=hv n l*16+jh c:=by simp[hv,List.foldl_append]
theorem NH {a b:Nat}(h:a<=b):(16:Int)^a<=16^b:=by
 have:=Nat.pow_le_pow_right (show 0<16 by decide) h
 have e:∀k:Nat,(16:Int)^k=((16^k:Nat):Int):=λk=>by simp
 rw[e,e];omega
theorem qW {c:Int}(h:gy c=true):0<=jh c:=by
 have:=nX c;rw[h]at this;simpa using this
theorem Q0:∀(l:LI)(n:Int),0<=n->(∀c∈l,gy c=true)->n<=hv n l
 |[],n,_,_=>Int.le_refl _
 |c::l,n,h0,h=>by
  have h1:=qW (h c (aE0 ..))
  have:=Q0 l (n*16+jh c) (by omega) λx hx=>h x (aD9 _ hx)
  rw[HX];omega
theorem QX:∀(l:LI)(n:Int)(k:Nat),0<=n->n<16^k->(∀c∈l,gy c=true)->hv n l<16^(k+l.length)
 |[],n,k,_,hn,_=>hn
 |c::l,n,k,h0,hn,h=>by
  have h1:=qW (h c (aE0 ..));have h2:=s9 c
  have:=QX l (n*16+jh c) (k+1) (by omega) (by rw[Int.pow_succ];omega) λx hx=>h x (aD9 _ hx)
  rw[HX,aC3,show k+(l.length+1)=k+1+l.length by omega];exact this
theorem vG (x:Int)(h0:0<=x)(h1:x<18446744073709551616):u64.wrap x=x:=by
 have:u64.wrap x=x % 18446744073709551616:=(by simp[IntKind.wrap,IntKind.bits,IntKind.signed]);rw[this];omega
structure Base3 (T:S.Tab):Prop extends Base2 T where
 lower:∀c,cE T c=some (intBits .or .u8 c 32,aa)
 j46:∀(m n v:Int) (t9 l:LI) (a b:Int),0<=v->v<16->0<=n->n<1152921504606846976->n*16+v<=m->m<18446744073709551616->
  cO T 16 false t9 1152921504606846976 m false n v l a b=some (Sum.inr (Sum.inl (16,false,t9,1152921504606846976,m,false,n*16+v,l,a,b,())))
theorem LC (T:S.Tab)(h:Base1 T):Base3 (S.step T):=by
 refine⟨D8 T h,λc=> ?_,λm n v t9 l a b Wp Xm YF IM hm hM=> ?_⟩
 ·rw[yX]
 ·have at6:u8.wrap 16=16:=(by decide);have ah3:u64.wrap 16=16:=(by decide);rw[q9,at6,ah3,vG (n*16) (by omega) (by omega),vG v Wp (by omega),vG (n*16+v) (by omega) (by omega)];rw[aB (by simp only[aC8];omega),aB (by simp only[aC8];omega),aB (by simp only[aC8];omega),aB (by simp only[aC8];omega)]
theorem TX:Evt λn=>Base3 (S.tab n):=by
 have h1:Evt λn=>Base1 (S.tab n):=Evt.up (Evt.of (p:=λ_=>True) λ_=>trivial) λn _=>u9 _
 exact h1.up λn h=>LC _ h
theorem XD (l:LI)(j:Nat):l.getD (j:Int).toNat 0=get l j:=rfl
theorem UU (c:Int)(h:xt c=true):intBits .or .u8 c 32=c:=by
 simp only[xt,aC6,aC4]at h;have:c=97\/c=98\/c=99\/c=100\/c=101\/c=102:=(by omega)
 rcases this with rfl|rfl|rfl|rfl|rfl|rfl<;>decide
theorem PJ (T:S.Tab)(hb:Base3 T)(t9 l:LI)(m n:Int)(j:Nat)(hj:j<l.length)(hl:l.length<=2097152)(hc:gy (get l j)=true)(YF:0<=n)(IM:n<1152921504606846976)(hm:n*16+jh (get l j)<=m)(hM:m<18446744073709551616):
  aZ (S.step T) 16 false t9 1152921504606846976 m false n l (l.length:Int) (j:Int)=
   aZ T 16 false t9 1152921504606846976 m false (n*16+jh (get l j)) l (l.length:Int) ((j+1:Nat):Int):=by
 have h0:=qW hc;have FM:=s9 (get l j);rw[l9,ad (by simpa using hj),ad (an hj)];rw[XD,bH (show j<=4194304 by omega)]
 cases hd:aR (get l j)with
 |true=>
  have hv:jh (get l j)=get l j - 48:=(by simp[jh,hd]);simp only[aR,aC6,aC4]at hd
  have jy:decide (get l j=95)=false:=by simp only[aC8];omega
  rw[aB jy,ad (by simpa using hd.1),ad (by simpa using hd.2),vI _ (by omega) (by omega),<-hv,hb.j46 m n _ t9 l _ _ h0 FM YF IM hm hM];simp only[aC0,bB,aF2,aE3];rw[bH (by omega)]
 |false=>
  have Za:xt (get l j)=true:=by
   unfold gy at hc;rw[hd,aD3]at hc;exact hc
  have hv:jh (get l j)=get l j - 87:=(by simp[jh,hd,Za]);have au8:=UU _ Za;simp only[xt,aC6,aC4]at Za
  have jy:decide (get l j=95)=false:=by simp only[aC8];omega
  have e:u8.wrap (u8.wrap (get l j - 97)+10)=jh (get l j):=by
   rw[vI (get l j - 97) (by omega) (by omega),vI _ (by omega) (by omega),hv];omega
  have h9:¬ get l j<=57:=(by omega);have Tg:decide (get l j<=57)=false:=(by simpa using h9);rw[aB jy];simp only[hb.lower,au8,aC0];rw[ad (show decide (48<=get l j)=true by simp only[aC4];omega),aB Tg,ad (show decide (97<=get l j)=true by simpa using Za.1),ad (show decide (get l j<=122)=true by simp only[aC4];omega),e,hb.j46 m n _ t9 l _ _ h0 FM YF IM hm hM];simp only[aC0,bB,aF2,aE3];rw[bH (by omega)]
theorem SU (pre:LI)(c:Int)(r:LI):get (pre++c::r) pre.length=c:=my pre c r 0
theorem MS (t9:LI)(m:Int)(hM:m<18446744073709551616):∀(r pre:LI)(n:Int),(∀c∈r,gy c=true)->0<=n->n<16^pre.length->(pre++r).length<=16->hv n r<=m->
  Evt λk=>aZ (S.tab k) 16 false t9 1152921504606846976 m false n (pre++r) ((pre++r).length:Int) (pre.length:Int)=some (Sum.inr (Sum.inl (t9,false,hv n r,())))
 |[],pre,n,_,_,_,_,_=>TX.up λk hb=>by
  show aZ (S.step (S.tab k)) _ _ _ _ _ _ _ _ _ _=_;rw[l9,aB (by simp)];rfl
 |c::r,pre,n,hc,h0,hn,hl,hm=>by
  have hlen:(pre++c::r).length=pre.length+(r.length+1):=(by simp);have h1:=qW (hc c (aE0 ..));have h2:=s9 c
  have FQ:=Q0 r (n*16+jh c) (by omega) λx hx=>hc x (aD9 _ hx)
  have hp:(16:Int)^pre.length<=16^15:=NH (by omega)
  have ih:=MS t9 m hM r (pre++[c]) (n*16+jh c) (λx hx=>hc x (aD9 _ hx)) (by omega) (by
   rw[aC2,aH4,Int.pow_succ];omega) (by simpa using hl) hm
  refine(ih.and TX).up λk ⟨h,hb⟩=> ?_
  show aZ (S.step (S.tab k)) _ _ _ _ _ _ _ _ _ _=_;have hg:=SU pre c r;rw[PJ _ hb t9 (pre++c::r) m n pre.length (by omega) (by omega) (by rw[hg];exact hc c (aE0 ..)) h0 (by omega) (by rw[hg];rw[HX]at hm;omega) hM,hg];have e1:(pre++[c]).length=pre.length+1:=(by simp);have e2:pre++[c]++r=pre++c::r:=(by simp);rw[e1,e2]at h;exact h
theorem zY (l:LI)(b:Int)(hb:b=8/\l.length<=2\/b=64/\l.length<=16)(jy:l≠[])(hl:∀c∈l,gy c=true):
  Evt λn=>iN (S.tab n) l 16 b=some ((hv 0 l,true,()),aT):=by
 have gX:=QX l 0 0 (by decide) (by decide) hl;rw[Nat.zero_add]at gX;have hlen:l.length<=16:=(by omega)
 let m:Int:=if b=8 then 255 else 18446744073709551615
 have hm:hv 0 l<=m:=by
  rcases hb with⟨rfl,h⟩|⟨rfl,h⟩
  ·have:(16:Int)^l.length<=16^2:=NH h;show hv 0 l<=255;omega
  ·have:(16:Int)^l.length<=16^16:=NH h;show hv 0 l<=18446744073709551615;omega
 have hM:m<18446744073709551616:=by
  show(if b=8 then(255:Int)else 18446744073709551615)<_;split<;>decide
 have h1:=MS l m hM l [] 0 hl (Int.le_refl 0) (by decide) (by simpa using hlen) hm
 have h2:Evt λn=>fX (S.tab n) l 16 b false l 1152921504606846976=some (Sum.inl (hv 0 l,true,())):=h1.up λn h=>by
  have h:aZ (S.tab n) 16 false l 1152921504606846976 m false 0 l (l.length:Int) 0=some (Sum.inr (Sum.inl (l,false,hv 0 l,()))):=h
  have e:u64.wrap (u64.wrap (1*2^min (u64.wrap b).toNat u64.bits) - 1)=m:=by
   rcases hb with⟨rfl,_⟩|⟨rfl,_⟩<;>decide
  have e0:decide ((0:Int)<=u64.wrap b)=true:=by
   rcases hb with⟨rfl,_⟩|⟨rfl,_⟩<;>decide
  rw[rf,ad e0,e,h];simp only[aC0,bB,aF2,aE3,dO,aD1]
 have h3:Evt λn=>iJ (S.tab n) l 16 b false l=some (Sum.inl (hv 0 l,true,())):=h2.up λn h=>by
  rw[q8,aB (by decide),ad (by decide),h];rfl
 have h4:Evt λn=>iM (S.tab n) l 16 b false l=some (Sum.inl (hv 0 l,true,())):=h3.up λn h=>by
  rw[re]
  rcases hb with⟨rfl,_⟩|⟨rfl,_⟩
  ·rw[aB (by decide),aB (by decide),aB (by decide),h];rfl
  ·rw[aB (by decide),aB (by decide),aB (by decide),h];rfl
 have h5:Evt λn=>mU (S.tab n) l 16 b=some ((hv 0 l,true,()),aT):=h4.up λn h=>by
  rw[uP,aB (by simpa using jy),ad (by decide),ad (by decide)];have h:iM (S.tab n) l 16 b (decide ((16:Int)=0)) l=_:=h;rw[h];rfl
 exact h5.up λn h=>by
  rw[v8,h];simp only[aC0,dO];rfl
end Go.Abs.D
end

section
namespace Go.Abs.D
def bJ (s:LI)(a b:Nat):LI:=(s.take b).drop a
theorem oy (s:LI)(a b:Nat):sub s ↑a (b:Int)=bJ s a b:=rfl
theorem mL {s:LI}{a j:Nat}(h1:a<=j)(h2:j<s.length):bJ s a (j+1)=bJ s a j++[get s j]:=by
 unfold bJ get;rw[List.take_add_one,aE1 h2];rw[List.drop_append_of_le_length (by simp;omega)];rw[aE2,aE1 h2];rfl
theorem mz {s:LI}(a:Nat):bJ s a a=[]:=by
 unfold bJ;exact List.drop_eq_nil_of_le (by simp;omega)
theorem lr {s:LI}{a b:Nat}(h:b<=s.length):(bJ s a b).length=b - a:=by
 unfold bJ;simp;omega
theorem Ap {s:LI}{p:Int->Bool}{a:Nat}:∀(k:Nat),a+k<=s.length->(∀j,a<=j->j<a+k->p (get s j)=true)->∀c∈bJ s a (a+k),p c=true
 |0,_,_,c,hc=>by rw[Nat.add_zero,mz]at hc;cases hc
 |k+1,hk,h,c,hc=>by
  rw[show a+(k+1)=a+k+1 by omega,mL (by omega) (by omega)]at hc
  rcases aE9.1 hc with hc|hc
  ·exact Ap k (by omega) (λj h1 h2=>h j h1 (by omega)) c hc
  ·have:c=get s (a+k):=(by simpa using hc);subst this;exact h _ (by omega) (by omega)
def ic (s:LI)(i:Nat):Nat⊕al.den:=
 let e:=j8 s (i+18) (i+2)
 if e=i+2 then .inl e else if gy (get s e)=true then .inl e else .inr (2,(i:Int),(e:Int),0,i64.wrap (hv 0 (bJ s (i+2) e)),([]:LI),())
def k23 (k:Int):Bool:=decide (k=2)||decide (k=3)
def k4 (k:Int):Bool:=decide (k=4)
def kB (c k:Int):Bool:=bif aR c then k23 k else bif decide (c=34)then k4 k else decide (k=0)
def IR (K:Int->Bool)(r:Nat⊕al.den)(t:al.den)(b:Bool):Prop:=match r with| .inl e=>b=true/\t.2.2.1=(e:Int)/\K t.1=true| .inr t'=>b=false/\t=t'
def SR (K:Int->Bool)(r:Nat⊕al.den)(t:al.den)(b:Int):Prop:=match r with| .inl e=>b=(e:Int)/\K t.1=true| .inr t'=>b= -1/\t=t'
theorem IR.to {K L:Int->Bool}(h:∀k,K k=L k){r:Nat⊕al.den}{t:al.den}{b:Bool}:IR K r t b->IR L r t b:=by
 rw[show K=L from funext h];exact id
theorem SR.to {K L:Int->Bool}(h:∀k,K k=L k){r:Nat⊕al.den}{t:al.den}{b:Int}:SR K r t b->SR L r t b:=by
 rw[show K=L from funext h];exact id
variable{s:LI}(hs:s.length<=2097152)
include hs
omit hs in
theorem HQ {i:Nat}(hi:i+2<=s.length):j8 s (i+18) (i+2)<=s.length/\i+2<=j8 s (i+18) (i+2)/\j8 s (i+18) (i+2)<=i+18:=by
 refine⟨se BH _ _ hi,qU _ _, ?_⟩;refine se (q:=hq s (i+18)) (N:=i+18) (λj hj=> ?_) _ _ (by omega);simp only[hq,aG9,aC8];exact .inl (by omega)
omit hs in
theorem Sw {i:Nat}(hi:i+2<=s.length):∀c∈bJ s (i+2) (j8 s (i+18) (i+2)),gy c=true:=by
 obtain⟨h1,h2,h3⟩:=HQ hi;obtain⟨k,hk⟩:∃k,j8 s (i+18) (i+2)=i+2+k:=⟨j8 s (i+18) (i+2) - (i+2),by omega⟩;rw[hk]
 refine Ap k (by omega) λj ha hb=> ?_
 have:=nx (q:=hq s (i+18)) s.length (i+2) j ha (by
  show j<j8 s (i+18) (i+2)
  omega)
 simp only[hq,aC6]at this;exact this.2
theorem yr (t3 t4:al.den){i:Nat}(ht:t3.2.1=(i:Int))(hi:i+2<=s.length):∀(k j:Nat),i+2<=j->j<=i+18->s.length<=j+k->(∀c∈bJ s (i+2) j,gy c=true)->j<=s.length->
  Evt λn=>ll (S.tab n) s t3 t4 ↑j (hv 0 (bJ s (i+2) j))=
   some (bif gy (get s (stop (hq s (i+18)) k j))then Sum.inl (t3,(stop (hq s (i+18)) k j:Int),())else Sum.inr (Sum.inl (t3,t4,(stop (hq s (i+18)) k j:Int),hv 0 (bJ s (i+2) (stop (hq s (i+18)) k j)),())))
 |0,j,h1,h2,hk,sy,hj=>by
  refine aG.up λn hb=> ?_
  rw[kY,hb.look];simp only[aC0,hb.shex,nX,stop];rw[ir (show s.length<=j by omega),Vx,aB rfl];rfl
 |k+1,j,h1,h2,hk,sy,hj=>by
  cases hc:gy (get s j)with
  |false=>
   have TB:hq s (i+18) j=false:=(by simp[hq,hc])
   refine aG.up λn hb=> ?_
   rw[kY,hb.look,xN TB];simp only[aC0,hb.shex,nX,hc];rw[aB rfl];rfl
  |true=>
   have gX:j<s.length:=by
    rcases Nat.lt_or_ge j s.length with h|h
    ·exact h
    ·rw[ir h,Vx]at hc;cases hc
   by_cases he:j=i+18
   ·have TB:hq s (i+18) j=false:=by simp[hq];omega
    refine aG.up λn hb=> ?_
    rw[kY,hb.look,xN TB];simp only[aC0,hb.shex,nX,hc,ht];rw[ad rfl,wrap64 _ (by omega) (by omega),ad (by simp only[aC4];omega)];rfl
   ·have ad7:hq s (i+18) j=true:=by
     simp only[hq,hc,aD4,aC4];omega
    have hlen:(bJ s (i+2) j).length=j - (i+2):=lr hj;have O3:=QX (bJ s (i+2) j) 0 0 (by decide) (by decide) sy;rw[Nat.zero_add,hlen]at O3;have hp:(16:Int)^(j - (i+2))<=16^15:=NH (by omega);have FQ:=Q0 (bJ s (i+2) j) 0 (by decide) sy;have h0:=qW hc;have FM:=s9 (get s j)
    have ih:=yr t3 t4 ht hi k (j+1) (by omega) (by omega) (by omega) (by
     rw[mL h1 gX];intro c MD
     rcases aE9.1 MD with MD|MD
     ·exact sy c MD
     ·have:c=get s j:=(by simpa using MD)
      subst this;exact hc) (by omega)
    refine(ih.and aG).up λn ⟨h,hb⟩=> ?_
    have e:stop (hq s (i+18)) (k+1) j=stop (hq s (i+18)) k (j+1):=by
     show(bif hq s (i+18) j then _ else _)=_;rw[ad7];rfl
    rw[e,kY,hb.look];simp only[aC0,hb.shex,nX,hc,ht,aJ];rw[ad rfl,wrap64 ((j:Int) - (i:Int)) (by omega) (by omega),aB (by simp only[aC8];omega),ad (an gX),bH (by omega)];rw[vG (hv 0 (bJ s (i+2) j)*16) (by omega) (by omega),vG (jh (get s j)) h0 (by omega),vG _ (by omega) (by omega)];rw[mL h1 gX,Sf]at h;exact h
theorem CJ {i:Nat}(hi:i+2<=s.length):Evt λn=>∃t' b,qN (S.tab n) s (2,(i:Int),0,0,0,([]:LI),())=some ((t',b,()),b8)/\SR k23 (ic s i) t' b:=by
 obtain⟨h1,h2,h3⟩:=HQ hi;have hl:=yr hs (2,(i:Int),0,0,0,([]:LI),()) (0,0,0,0,0,([]:LI),()) (i:=i) rfl hi s.length (i+2) (by omega) (by omega) (by omega) (by rw[mz];intro c hc;cases hc) hi
 refine hl.up λn h=> ?_
 show∃t' b,qN (S.step (S.tab n)) s _=_/\_;rw[mz]at h;have h:ll (S.tab n) s (2,(i:Int),0,0,0,([]:LI),()) (0,0,0,0,0,([]:LI),()) ((i+2:Nat):Int) 0=some (bif gy (get s (j8 s (i+18) (i+2)))then _ else _):=h
 have e2:i64.wrap ((i:Int)+2)=((i+2:Nat):Int):=by
  rw[wrap64 _ (by omega) (by omega)];omega
 rw[CP];simp only[e2,h]
 cases hx:gy (get s (j8 s (i+18) (i+2)))with
 |true=>
  have Mx:ic s i= .inl (j8 s (i+18) (i+2)):=by unfold ic;simp only[hx,if_true,ite_self]
  rw[Mx];simp only[aD6,aC0,bB,aE3];exact⟨_,_,rfl,rfl,rfl⟩
 |false=>
  simp only[aD1,aC0,bB,aF2,aE3,e2]
  by_cases he:j8 s (i+18) (i+2)=i+2
  ·have Mx:ic s i= .inl (j8 s (i+18) (i+2)):=by unfold ic;simp only[he,if_true]
   rw[ad (by simp[j8]at he⊢;omega),Mx];exact⟨_,_,rfl,rfl,rfl⟩
  ·have Mx:ic s i= .inr (2,(i:Int),(j8 s (i+18) (i+2):Int),0,i64.wrap (hv 0 (bJ s (i+2) (j8 s (i+18) (i+2)))),([]:LI),()):=by unfold ic;simp only[he,aH6,hx,aG2]
   rw[aB (by simp only[aC8];show¬ ((j8 s (i+18) (i+2):Nat):Int)=_;omega),Mx]
   first|exact⟨_,_,rfl,rfl,rfl⟩|exact⟨_,_,rfl,rfl,rfl,rfl⟩
theorem CL {i:Nat}(hi:i+2<=s.length)(h0:get s i=48)(hx:get s (i+1)=120):Evt λn=>∃t' b,nU (S.tab n) s (i:Int)=some ((t',b,()),ab)/\IR k23 (ic s i) t' b:=by
 obtain⟨h1,h2,h3⟩:=HQ hi;have hl:=zJ hs i (2,(i:Int),0,0,0,([]:LI),()) (i+2) (by omega);have sy:=Sw hi;have e1:i64.wrap ((i:Int)+1)=((i+1:Nat):Int):=bH (by omega)
 have e2:i64.wrap ((i:Int)+2)=((i+2:Nat):Int):=by
  rw[wrap64 _ (by omega) (by omega)];omega
 have aw5:i64.wrap ((i:Int)+18)=((i+18:Nat):Int):=by
  rw[wrap64 _ (by omega) (by omega)];omega
 have d0:decide (get s i=48)=true:=by rw[h0];rfl
 have dx:decide (get s (i+1)=120)=true:=by rw[hx];rfl
 by_cases he:j8 s (i+18) (i+2)=i+2
 ·refine hl.up λn h=> ?_
  show∃t' b,nU (S.step (S.tab n)) s _=_/\_
  have Mx:ic s i= .inl (j8 s (i+18) (i+2)):=by unfold ic;simp only[he,if_true]
  rw[ot,ad (an (show i<s.length by omega)),aJ,ad d0,e1,ad (by simp only[aC4];omega),ad (an (show i+1<s.length by omega)),aJ,ad dx,e2,h];simp only[aC0,aO,aE3,e2];rw[ad (by simp only[aC4];omega),Mx]
  first|exact⟨_,_,rfl,rfl,rfl⟩|exact⟨_,_,rfl,rfl,rfl,rfl⟩
 ·have RX:=zY (bJ s (i+2) (j8 s (i+18) (i+2))) 64 (.inr ⟨rfl,by rw[lr h1];omega⟩) (λe=>by
   have:=congrArg List.length e;rw[lr h1]at this
   simp at this;omega) sy
  have Rx:gy (get s (j8 s (i+18) (i+2)))=false->ic s i= .inr (2,(i:Int),(j8 s (i+18) (i+2):Int),0,i64.wrap (hv 0 (bJ s (i+2) (j8 s (i+18) (i+2)))),([]:LI),()):=λhx=>by unfold ic;simp only[he,aH6,hx,aG2]
  refine((hl.and RX).and aG).up λn ⟨⟨h,hp⟩,hb⟩=> ?_
  show∃t' b,nU (S.step (S.tab n)) s _=_/\_;rw[ot,ad (an (show i<s.length by omega)),aJ,ad d0,e1,ad (by simp only[aC4];omega),ad (an (show i+1<s.length by omega)),aJ,ad dx,e2,h];simp only[aC0,aO,aE3,e2,aw5];rw[aB (by simp only[aC8];omega)];have AP:=dZ h2 h1
  by_cases Wc:j8 s (i+18) (i+2)=i+18
  ·rw[ad (by simp only[aC4];omega)]
   by_cases gX:j8 s (i+18) (i+2)<s.length
   ·rw[ad (by simp only[aC4];omega),ad (an gX),aJ,hb.ihex];simp only[aC0]
    cases ZJ:gy (get s (j8 s (i+18) (i+2)))with
    |true=>
     have Mx:ic s i= .inl (j8 s (i+18) (i+2)):=by unfold ic;simp only[ZJ,if_true,ite_self]
     rw[ad rfl,Mx]
     first|exact⟨_,_,rfl,rfl,rfl⟩|exact⟨_,_,rfl,rfl,rfl,rfl⟩
    |false=>
     rw[aB rfl,ad AP,oy,hp,Rx ZJ]
     first|exact⟨_,_,rfl,rfl,rfl⟩|exact⟨_,_,rfl,rfl,rfl,rfl⟩
   ·have hz:gy (get s (j8 s (i+18) (i+2)))=false:=by rw[ir (by omega)];rfl
    rw[aB (by simp only[aC8];omega),ad AP,oy,hp,Rx hz]
    first|exact⟨_,_,rfl,rfl,rfl⟩|exact⟨_,_,rfl,rfl,rfl,rfl⟩
  ·have hz:gy (get s (j8 s (i+18) (i+2)))=false:=by
    have hq:hq s (i+18) (j8 s (i+18) (i+2))=false:=pY (q:=hq s (i+18)) BH s.length (i+2) (by omega);simp only[Go.Abs.D.hq,aG9,aC8]at hq
    rcases hq with hq|hq
    ·omega
    ·exact hq
   rw[aB (by simp only[aC8];omega),ad AP,oy,hp,Rx hz]
   first|exact⟨_,_,rfl,rfl,rfl⟩|exact⟨_,_,rfl,rfl,rfl,rfl⟩
end Go.Abs.D
end

section
namespace Go.Abs.D
def dv (n:Int)(l:LI):Int:=l.foldl (λn c=>n*10+(c - 48)) n
theorem No (n c:Int)(l:LI):dv n (c::l)=dv (n*10+(c - 48)) l:=rfl
theorem So (n c:Int)(l:LI):dv n (l++[c])=dv n l*10+(c - 48):=by simp[dv,List.foldl_append]
theorem dig {c:Int}(h:aR c=true):48<=c/\c<=57:=by simpa[aR]using h
theorem Cy:∀(l:LI)(n:Int),0<=n->(∀c∈l,aR c=true)->n<=dv n l
 |[],n,_,_=>Int.le_refl _
 |c::l,n,h0,h=>by
  have:=dig (h c (aE0 ..))
  have:=Cy l (n*10+(c - 48)) (by omega) λx hx=>h x (aD9 _ hx)
  rw[No];omega
theorem QD {c:Int}(h:aR c=true):c.toNat.toUInt8.toNat=c.toNat:=by
 have:=dig h;rw[Nat.toUInt8,UInt8.toNat_ofNat'];omega
theorem yt:∀(l:LI)(a:Nat),(∀c∈l,aR c=true)->a<=18446744073709551615->
  Lib.parseUintM (2^64 - 1) a (Lx.u8s l)=(if dv a l<=18446744073709551615 then .ok (dv a l).toNat else .range)
 |[],a,_,ha=>by
  show Lib.NumEnd.ok a=_;rw[aG3 (by simp only[dv,List.foldl_nil];omega)];simp[dv]
 |c::l,a,h,ha=>by
  have hc:=h c (aE0 ..);have hd:=dig hc
  have hl:=λx hx=>h x (aD9 _ hx)
  have e:=QD hc;have FQ:=Cy l ((a:Int)*10+(c - 48)) (by omega) hl;have ih:a*10+(c.toNat - 48)<=18446744073709551615->_:=yt l (a*10+(c.toNat - 48)) hl;have e2:((a*10+(c.toNat - 48):Nat):Int)=(a:Int)*10+(c - 48):=(by omega);rw[e2]at ih;show Lib.parseUintM _ a (c.toNat.toUInt8::Lx.u8s l)=_;rw[Lib.parseUintM,e,aG3 (by omega),No]
  by_cases h1:1844674407370955162<=a
  ·rw[aG3 h1,aF4 (by omega)]
  ·rw[aF4 h1]
   by_cases h2:2^64 - 1<a*10+(c.toNat - 48)
   ·rw[aG3 h2,aF4 (by omega)]
   ·rw[aF4 h2,ih (by omega)]
theorem Jn {l:LI}(hl:∀c∈l,aR c=true)(jy:l≠[])(hn:l.length<=2097152):
  ∃v,Lx.o8 (l,10,64,())=some ((bif decide (dv 0 l<9223372036854775808)then dv 0 l else v,decide (dv 0 l<9223372036854775808),()),(),(),(),()):=by
 have FQ:=Cy l 0 (Int.le_refl 0) hl
 obtain⟨c,r,rfl⟩:∃c r,l=c::r:=by cases l with
  |nil=>exact absurd rfl jy
  |cons c r=>exact⟨c,r,rfl⟩
 have hc:=hl c (aE0 ..);have hd:=dig hc;have e:=QD hc;have hM:=yt (c::r) 0 hl (by decide);have hB:Lib.parseUintB 64 (Lx.u8s (c::r))=_:=(show Lib.parseUintB 64 (Lx.u8s (c::r))=Lib.parseUintM (2^64 - 1) 0 (Lx.u8s (c::r))by unfold Lib.parseUintB;rw[aF4 (by simp[Lx.u8s])]).trans hM
 have hI:Lib.parseIntB 64 (Lx.u8s (c::r))=if dv 0 (c::r)<9223372036854775808 then .ok (dv 0 (c::r))else .range:=by
  show Lib.parseIntB 64 (c.toNat.toUInt8::Lx.u8s r)=_;unfold Lib.parseIntB;simp only[e];rw[aF4 (show¬ (c.toNat=43\/c.toNat=45)by omega)];have hB:Lib.parseUintB 64 (c.toNat.toUInt8::Lx.u8s r)=_:=hB;rw[hB]
  by_cases h1:dv 0 (c::r)<=18446744073709551615
  ·have K9:dv ((0:Nat):Int) (c::r)<=18446744073709551615:=h1;rw[aG3 K9];show(if¬ (c.toNat=45)/\2^(64 - 1)<=(dv 0 (c::r)).toNat then Lib.NumEnd.range else _)=_
   by_cases h2:dv 0 (c::r)<9223372036854775808
   ·rw[aF4 (by omega),aF4 (by omega),aF4 (by omega),aG3 h2]
    congr 1
    show((dv 0 (c::r)).toNat:Int)=_;omega
   ·rw[aG3 (by constructor<;>omega),aF4 h2]
  ·have K9:¬ dv ((0:Nat):Int) (c::r)<=18446744073709551615:=h1;rw[aF4 K9,aF4 (by omega)]
 unfold Lx.o8;rw[show(decide ((10:Int)=10)&&decide ((64:Int)=64)&&fits (c::r).length)=true by rw[bc (show(c::r).length<=lim by unfold lim;omega)];rfl,aD6];simp only[hI]
 by_cases h2:dv 0 (c::r)<9223372036854775808
 ·rw[aG3 h2,show decide (dv 0 (c::r)<9223372036854775808)=true from aC1 h2];exact⟨0,rfl⟩
 ·rw[aF4 h2,show decide (dv 0 (c::r)<9223372036854775808)=false from aB9 h2];exact⟨Lib.intSat 64 (Lx.u8s (c::r)),rfl⟩
theorem chk {ρ:Type}{s:LI}{j:Nat}{c:Int}(hc:c≠0){A B:Option ρ}:brk (decide ((j:Int)<(s.length:Int))) (brk (decide ((0:Int)<=(j:Int))&&decide ((j:Int)<(s.length:Int))) (brk (decide (s.getD (j:Int).toNat 0=c)) A B) none) B=brk (decide (get s j=c)) A B:=by
 by_cases h:j<s.length
 ·rw[ad (by simpa using h),ad (an h)];rfl
 ·rw[aB (by simpa using h),aB (by rw[ir (by omega)];simpa using(Ne.symm hc))]
def jC (s:LI)(i j:Nat)(ag7:Bool):al.den:=
 bif ag7|| !decide (dv 0 (bJ s i j)<9223372036854775808)then(3,(i:Int),(j:Int),0,0,bJ s i j,())else(2,(i:Int),(j:Int),0,dv 0 (bJ s i j),([]:LI),())
def digits (s:LI)(i j:Nat):Prop:=∀c∈bJ s i j,aR c=true
variable{s:LI}(hs:s.length<=2097152)
include hs
theorem rH {i j w:Nat}(OX:i<j)(hj:j<=s.length)(hd:j=w->digits s i j):
  Evt λn=>fL (S.tab n) s ↑i (2,(i:Int),0,0,0,([]:LI),()) ↑j (w:Int)=some (Sum.inl (jC s i j (!decide (j=w)),false,())):=by
 refine aG.up λn hb=> ?_
 have Pg:=dZ (n:=s.length) (i:=i) (e:=j) (by omega) hj;rw[zb,ad Pg,oy]
 by_cases h:j=w
 ·rw[ad (by simp only[aC4];omega)];obtain⟨v,hv⟩:=Jn (hd h) (λe=>by have:=congrArg List.length e;rw[lr hj]at this;simp at this;omega) (by rw[lr hj];omega);rw[hv];simp only[aC0];unfold jC;rw[show decide (j=w)=true from aC1 h]
  cases decide (dv 0 (bJ s i j)<9223372036854775808)with
  |true=>rw[ad rfl];rfl
  |false=>rw[aB rfl,ad Pg];rfl
 ·rw[aB (by simp only[aC8];omega),ad Pg];unfold jC;rw[show decide (j=w)=false from aB9 h];rfl
omit hs in
theorem Ah (t:al.den)(ht:t.1=3)(t4:al.den)(j v k:Int):Evt λn=>bU (S.tab n) s t t4 j v k=some (Sum.inl (s,t,t4,j,v,())):=by
 refine aG.up λn hb=> ?_
 rw[gk]
 cases h:decide (k<j)with
 |false=>rw[aB rfl]
 |true=>rw[ad rfl,aB (by rw[ht];rfl)]
theorem uS {i j:Nat}(hj:j<=s.length)(r:Int×Int×Int×Int×LI×Unit)(t4:al.den):∀(d k:Nat),k+d=j->i<=k->digits s i j->dv 0 (bJ s i k)<9223372036854775808->digits s i k->
  Evt λn=>∃v,bU (S.tab n) s (2,r) t4 ↑j (dv 0 (bJ s i k)) (k:Int)=some (Sum.inl (s,(bif decide (dv 0 (bJ s i j)<9223372036854775808)then 2 else 3,r),t4,(j:Int),v,()))/\(dv 0 (bJ s i j)<9223372036854775808->v=dv 0 (bJ s i j))
 |0,k,e,hk,hd,hv,OY=>by
  obtain rfl:k=j:=by omega
  refine aG.up λn hb=>⟨_, ?_,λ_=>rfl⟩
  rw[gk,aB (by simp),aC1 hv];rfl
 |d+1,k,e,hk,hd,hv,OY=>by
  have RF:k<s.length:=(by omega)
  have hc:aR (get s k)=true:=by
   refine hd _ ?_;obtain⟨m,rfl⟩:∃m,j=k+1+m:=⟨j - (k+1),by omega⟩;clear hd;unfold bJ get;rw[List.mem_iff_getElem?];refine⟨k - i, ?_⟩;rw[List.getElem?_drop,List.getElem?_take,aG3 (by omega),aE2];rw[show i+(k - i)=k by omega,aE1 RF];rfl
  have YT:=dig hc;have h0:=Cy (bJ s i k) 0 (Int.le_refl 0) OY;have Pb:bJ s i (k+1)=bJ s i k++[get s k]:=mL hk RF
  have VZ:digits s i (k+1):=by
   intro x hx;rw[Pb]at hx
   rcases aE9.1 hx with hx|hx
   ·exact OY x hx
   ·have:x=get s k:=(by simpa using hx);rw[this];exact hc
  have Xm:dv 0 (bJ s i (k+1))=dv 0 (bJ s i k)*10+(get s k - 48):=(by rw[Pb,So])
  have hmono:dv 0 (bJ s i (k+1))<=dv 0 (bJ s i j):=by
   have e1:bJ s i j=bJ s i (k+1)++bJ s (k+1) j:=by
    unfold bJ
    have:(s.take j)=s.take (k+1)++(s.take j).drop (k+1):=by
     conv=>lhs;rw[<-List.take_append_drop (k+1) (s.take j)]
     rw[List.take_take,Nat.min_eq_left (by omega)]
    conv=>lhs;rw[this]
    rw[List.drop_append_of_le_length (by simp;omega)]
   rw[e1];have:=Cy (bJ s (k+1) j) (dv 0 (bJ s i (k+1))) (Cy _ 0 (Int.le_refl 0) VZ) (λc hc=>hd c (by rw[e1];exact aF3 _ hc));unfold dv at this⊢;rw[List.foldl_append];exact this
  have over:¬ dv 0 (bJ s i (k+1))<9223372036854775808->∀v:Int,Evt λn=>∃v',bU (S.tab n) s (3,r) t4 ↑j v ((k+1:Nat):Int)=some (Sum.inl (s,(bif decide (dv 0 (bJ s i j)<9223372036854775808)then 2 else 3,r),t4,(j:Int),v',()))/\(dv 0 (bJ s i j)<9223372036854775808->v'=dv 0 (bJ s i j)):=λh v=>by
   refine(Ah (s:=s) (3,r) rfl t4 j v ((k+1:Nat):Int)).mono λn h'=>⟨v, ?_,λh2=>by omega⟩
   rw[h',aB9 (show¬ dv 0 (bJ s i j)<9223372036854775808 by omega)];rfl
  have w1:u8.wrap (get s k - 48)=get s k - 48:=vI _ (by omega) (by omega);have w2:i64.wrap ((k:Int)+1)=((k+1:Nat):Int):=bH (by omega);have T6:decide (((2,r):al.den).1=2)=true:=rfl
  have gX:decide ((k:Int)<(j:Int))=true:=by simp only[aC4];omega
  by_cases h1:922337203685477580<dv 0 (bJ s i k)
  ·refine(over (by omega) (u64.wrap (u64.wrap (dv 0 (bJ s i k)*10)+u64.wrap (u8.wrap (get s k - 48))))).up λn h=> ?_
   show∃v,bU (S.step (S.tab n)) _ _ _ _ _ _=_/\_;rw[gk,ad gX,ad T6,aN h1,ad (an RF),aJ,w2];exact h
  ·by_cases h2:dv 0 (bJ s i k)=922337203685477580
   ·by_cases h3:55<get s k
    ·refine(over (by omega) (u64.wrap (u64.wrap (dv 0 (bJ s i k)*10)+u64.wrap (u8.wrap (get s k - 48))))).up λn h=> ?_
     show∃v,bU (S.step (S.tab n)) _ _ _ _ _ _=_/\_;rw[gk,ad gX,ad T6,aM h1,aN h2,ad (an RF),aJ,aN h3,ad (an RF),w2];exact h
    ·have ih:=uS hj r t4 d (k+1) (by omega) (by omega) hd (by omega) VZ
     refine ih.up λn h=> ?_
     show∃v,bU (S.step (S.tab n)) _ _ _ _ _ _=_/\_;rw[gk,ad gX,ad T6,aM h1,aN h2,ad (an RF),aJ,aM h3,ad (an RF),w2,w1];rw[vG (_*10) (by omega) (by omega),vG (get s k - 48) (by omega) (by omega),vG _ (by omega) (by omega),<-Xm];exact h
   ·have ih:=uS hj r t4 d (k+1) (by omega) (by omega) hd (by omega) VZ
    refine ih.up λn h=> ?_
    show∃v,bU (S.step (S.tab n)) _ _ _ _ _ _=_/\_;rw[gk,ad gX,ad T6,aM h1,aM h2,ad (an RF),aJ,w2,w1];rw[vG (_*10) (by omega) (by omega),vG (get s k - 48) (by omega) (by omega),vG _ (by omega) (by omega),<-Xm];exact h
omit hs in
theorem Aj {i j:Nat}(OX:i<j)(hj:j<=s.length)(t4:al.den):
  Evt λn=>ey (S.tab n) s (3,(i:Int),0,0,0,([]:LI),()) t4 (j:Int)=some (Sum.inl (jC s i j true, -1,())):=by
 have hl:=Ah (s:=s) (3,(i:Int),(j:Int),0,0,([]:LI),()) rfl t4 j 0 i
 refine hl.up λn h=> ?_
 rw[pM];simp only;rw[h];simp only[aC0,aO,aE3];rw[ad (by simp),ad (dZ (by omega) hj)];rfl
theorem HH {i j:Nat}(OX:i<j)(hj:j<=s.length)(t4:al.den)(hd:digits s i j):
  Evt λn=>ey (S.tab n) s (2,(i:Int),0,0,0,([]:LI),()) t4 (j:Int)=some (Sum.inl (jC s i j false, -1,())):=by
 have hl:=uS hs hj ((i:Int),(j:Int),0,0,([]:LI),()) t4 (j - i) i (by omega) (by omega) hd (by rw[mz];decide) (by intro c hc;rw[mz]at hc;cases hc);rw[mz]at hl;have h0:=Cy (bJ s i j) 0 (Int.le_refl 0) hd
 refine hl.up λn ⟨v,h,hv⟩=> ?_
 rw[pM];simp only;have h:bU (S.tab n) s (2,(i:Int),(j:Int),0,0,([]:LI),()) t4 ↑j 0 (i:Int)=_:=h;rw[h];simp only[aC0,aO,aE3];unfold jC;rw[aD3]
 cases gX:decide (dv 0 (bJ s i j)<9223372036854775808)with
 |true=>
  rw[aC4]at gX;rw[aB (by rfl),hv gX,wrap64 _ (by omega) (by omega)];rfl
 |false=>
  rw[ad (by rfl),ad (dZ (by omega) hj)];rfl
end Go.Abs.D
end

section
namespace Go.Abs.D
def lz (s:LI)(j:Nat):Nat:=bif decide (get s (j+1)=43)||decide (get s (j+1)=45)then j+2 else j+1
def sw (s:LI)(i j:Nat)(ag7:Bool):Nat⊕al.den:=
 bif decide (get s j=101)then bif aR (get s (lz s j))then .inr (jC s i (oC s (lz s j)) true)else .inl (lz s j)else .inr (jC s i j ag7)
def sj (s:LI)(i j:Nat):Nat⊕al.den:=
 bif decide (get s j=46)&&aR (get s (j+1))then sw s i (oC s (j+1)) true else sw s i j false
def iZ (s:LI)(i:Nat):Nat⊕al.den:=
 bif decide (get s i=48)&&decide (get s (i+1)=120)then ic s i else sj s i (bif decide (get s i=48)then i+1 else oC s (i+1))
theorem pD {s:LI}{j:Nat}(h:j<=s.length):oC s j<=s.length:=se pb _ _ h
theorem pE (s:LI)(j:Nat):j<=oC s j:=qU _ _
theorem dH {s:LI}{j:Nat}{c:Int}(h:get s j=c)(hc:c≠0):j<s.length:=by
 rcases Nat.lt_or_ge j s.length with h'|h'
 ·exact h'
 ·rw[ir h']at h;exact absurd h.symm hc
theorem pW {s:LI}{j:Nat}(h:aR (get s j)=true):j<s.length:=by
 rcases Nat.lt_or_ge j s.length with h'|h'
 ·exact h'
 ·rw[ir h']at h;cases h
theorem zg {s:LI}{i j:Nat}(h:j<=s.length)(hi:i<=j)(hd:digits s i j):digits s i (oC s j):=by
 have hle:=pD h;have FQ:=pE s j;obtain⟨m,hm⟩:∃m,oC s j=i+m:=⟨oC s j - i,by omega⟩;intro c hc;rw[hm]at hc;refine Ap (p:=aR) (a:=i) m (by omega) (λk h1 h2=> ?_) c hc
 rcases Nat.lt_or_ge k j with h3|h3
 ·refine hd _ ?_;unfold bJ get;rw[List.mem_iff_getElem?];refine⟨k - i, ?_⟩;rw[List.getElem?_drop,List.getElem?_take,aG3 (by omega),aE2];rw[show i+(k - i)=k by omega,aE1 (by omega)];rfl
 ·exact nx (q:=dq s) s.length j k h3 (by show k<oC s j;omega)
variable{s:LI}(hs:s.length<=2097152)
include hs
theorem Jp {i k w:Nat}(hi:i<=2097152)(hk:k<=s.length):Evt λn=>iV (S.tab n) s ↑i (2,(i:Int),0,0,0,([]:LI),()) ↑k (w:Int)=
  some (bif aR (get s k)then Sum.inr (Sum.inl (s,(i:Int),(2,(i:Int),0,0,0,([]:LI),()),(oC s k:Int),(w:Int),()))else Sum.inl ((2,(i:Int),(k:Int),0,0,([]:LI),()),true,())):=by
 refine((yP hs ↑i (2,(i:Int),0,0,0,([]:LI),()) ↑w k).and aG).up λn ⟨h,hb⟩=> ?_
 rw[yY]
 by_cases hl:k<s.length
 ·rw[aB (by simp only[aC8];omega),ad (an hl),aJ,hb.idigit,h];simp only[aC0,aO,aE3]
  cases aR (get s k)with
  |true=>rw[aB (by rfl)];rfl
  |false=>rw[ad (by rfl)];rfl
 ·rw[ad (by simp only[aC4];omega),ir (by omega)];rfl
theorem B7 {i j w:Nat}(OX:i<w)(hw:w<=j)(hj:j<=s.length)(hd:j=w->digits s i j):
  Evt λn=>∃t' b,fH (S.tab n) s ↑i (2,(i:Int),0,0,0,([]:LI),()) ↑j (w:Int)=some (Sum.inl (t',b,()))/\IR k23 (sw s i j (!decide (j=w))) t' b:=by
 have e1:i64.wrap ((j:Int)+1)=((j+1:Nat):Int):=bH (by omega);have e2:i64.wrap (((j+1:Nat):Int)+1)=((j+2:Nat):Int):=bH (by omega)
 by_cases he:get s j=101
 ·have Uc:=dH he (by decide)
  have RF:lz s j<=s.length:=by
   unfold lz
   by_cases h:get s (j+1)=43
   ·have:=dH h (by decide);rw[aC1 h];simp only[aD7,aD6];omega
   ·by_cases h':get s (j+1)=45
    ·have:=dH h' (by decide);rw[aC1 h'];simp only[aD8,aD6];omega
    ·rw[aB9 h,aB9 h'];simp only[aD5,aD1];omega
  have az5:j<lz s j:=by unfold lz;cases decide (get s (j+1)=43)||decide (get s (j+1)=45)<;>simp
  have key:∀T,fH (S.step T) s ↑i (2,(i:Int),0,0,0,([]:LI),()) ↑j (w:Int)=(iV T s ↑i (2,(i:Int),0,0,0,([]:LI),()) (lz s j:Int) ↑w).bind (bB (λnC=>some (Sum.inl nC)) (λnC=>(fL T nC.1 nC.2.1 nC.2.2.1 nC.2.2.2.1 nC.2.2.2.2.1).bind (aO (λKM=>some (Sum.inl KM))))):=λT=>by
   rw[rA,chk (by decide),aN he,e1,e2];unfold lz
   by_cases hl:j+1<s.length
   ·rw[ad (by simp only[aC4];omega),ad (an hl),ad (an hl),aJ]
    by_cases h:get s (j+1)=43
    ·rw[aN h,aC1 h];rfl
    ·rw[aM h,aB9 h]
     by_cases h':get s (j+1)=45
     ·rw[aN h',aC1 h'];rfl
     ·rw[aM h',aB9 h'];rfl
   ·rw[aB (by simp only[aC8];omega),ir (by omega)];rfl
  have hex:sw s i j (!decide (j=w))=bif aR (get s (lz s j))then .inr (jC s i (oC s (lz s j)) true)else .inl (lz s j):=by
   unfold sw;rw[aC1 he];rfl
  have aB4:=Jp hs (i:=i) (w:=w) (by omega) RF;have FQ:=pE s (lz s j);have av2:=rH hs (i:=i) (j:=oC s (lz s j)) (w:=w) (by omega) (pD RF) (λe=>by omega)
  refine(aB4.and av2).up λn ⟨h,h'⟩=> ?_
  show∃t' b,fH (S.step (S.tab n)) _ _ _ _ _=_/\_;rw[key,h,hex]
  cases YT:aR (get s (lz s j))with
  |true=>
   simp only[aD6,aC0,bB,aF2,aE3];rw[h',aB9 (show¬ oC s (lz s j)=w by omega)]
   first|exact⟨_,_,rfl,rfl,rfl⟩|exact⟨_,_,rfl,rfl,rfl,rfl⟩
  |false=>
   simp only[aD1,aC0,bB,aE3]
   first|exact⟨_,_,rfl,rfl,rfl⟩|exact⟨_,_,rfl,rfl,rfl,rfl⟩
 ·have hex:sw s i j (!decide (j=w))= .inr (jC s i j (!decide (j=w))):=by
   unfold sw;rw[aB9 he];rfl
  refine(rH hs (by omega) hj hd).up λn h=> ?_
  show∃t' b,fH (S.step (S.tab n)) _ _ _ _ _=_/\_;rw[rA,chk (by decide),aM he,h,hex]
  first|exact⟨_,_,rfl,rfl,rfl⟩|exact⟨_,_,rfl,rfl,rfl,rfl⟩
theorem Cn {i j:Nat}(OX:i<j)(hj:j<=s.length)(hd:digits s i j):
  Evt λn=>∃t' b,eT (S.tab n) s ↑i (2,(i:Int),0,0,0,([]:LI),()) (j:Int)=some (Sum.inl (t',b,()))/\IR k23 (sj s i j) t' b:=by
 have e1:i64.wrap ((j:Int)+1)=((j+1:Nat):Int):=bH (by omega)
 by_cases hf:get s j=46/\aR (get s (j+1))=true
 ·have hl:=pW hf.2;have FQ:=pE s (j+1);have hle:=pD (s:=s) (j:=j+1) (by omega);have VQ:=yS hs ↑i (2,(i:Int),0,0,0,([]:LI),()) ↑j (j+1);have T6:=B7 hs (i:=i) (j:=oC s (j+1)) (w:=j) OX (by omega) hle (λe=>by omega)
  refine((VQ.and T6).and aG).up λn ⟨⟨h,t',b,h',hr⟩,hb⟩=> ?_
  show∃t' b,eT (S.step (S.tab n)) _ _ _ _=_/\_;rw[ry,e1,ad (by simp only[aC4];omega),ad (an (show j<s.length by omega)),aJ,ad (aC1 hf.1),ad (an hl),aJ,hb.idigit,hf.2];simp only[aC0];rw[ad rfl,h];simp only[aC0,aO,aE3];rw[h'];refine⟨t',b,rfl, ?_⟩;rw[aB9 (show¬ oC s (j+1)=j by omega)]at hr;unfold sj;rw[aC1 hf.1,hf.2];exact hr
 ·have ar1:sj s i j=sw s i j (!decide (j=j)):=by
   unfold sj;rw[aC1 (show j=j from rfl)]
   by_cases h:get s j=46
   ·have:aR (get s (j+1))=false:=by
     cases hx:aR (get s (j+1))with
     |true=>exact absurd ⟨h,hx⟩ hf
     |false=>rfl
    rw[this,aD0];rfl
   ·rw[aB9 h];rfl
  have T6:=B7 hs (i:=i) (j:=j) (w:=j) OX (by omega) hj (λ_=>hd);rw[ar1]
  refine(T6.and aG).up λn ⟨⟨t',b,h',hr⟩,hb⟩=> ?_
  show∃t' b,eT (S.step (S.tab n)) _ _ _ _=_/\_;refine⟨t',b, ?_,hr⟩;rw[ry,e1]
  by_cases hl:j+1<s.length
  ·rw[ad (by simp only[aC4];omega),ad (an (show j<s.length by omega)),aJ]
   by_cases h:get s j=46
   ·have:aR (get s (j+1))=false:=by
     cases hx:aR (get s (j+1))with
     |true=>exact absurd ⟨h,hx⟩ hf
     |false=>rfl
    rw[aN h,ad (an hl),aJ,hb.idigit,this];simp only[aC0];rw[aB rfl,h'];rfl
   ·rw[aM h,h'];rfl
  ·rw[aB (by simp only[aC8];omega),h'];rfl
omit hs in
theorem uW {i:Nat}(hi:i<s.length)(h:aR (get s i)=true):digits s i (i+1):=by
 intro c hc;rw[mL (aE5 _) hi,mz]at hc;have:c=get s i:=(by simpa using hc);rw[this];exact h
theorem DD {i:Nat}(hi:i<s.length)(hd:aR (get s i)=true):Evt λn=>∃t' b,nU (S.tab n) s (i:Int)=some ((t',b,()),ab)/\IR k23 (iZ s i) t' b:=by
 by_cases h0:get s i=48
 ·by_cases hx:get s (i+1)=120
  ·have hl:=dH hx (by decide)
   have:iZ s i=ic s i:=by unfold iZ;rw[aC1 h0,aC1 hx];rfl
   rw[this];exact CL hs (by omega) h0 hx
  ·have e:iZ s i=sj s i (i+1):=by unfold iZ;rw[aC1 h0,aB9 hx];rfl
   rw[e];have e1:i64.wrap ((i:Int)+1)=((i+1:Nat):Int):=bH (by omega)
   refine(Cn hs (i:=i) (j:=i+1) (by omega) (by omega) (uW hi hd)).up λn ⟨t',b,h',hr⟩=>⟨t',b, ?_,hr⟩
   rw[ot,e1,ad (an hi),aJ,aN h0]
   by_cases hl:i+1<s.length
   ·rw[ad (by simp only[aC4];omega),ad (an hl),aJ,aM hx,ad (an hi),aB (by rw[aC1 h0];rfl),h'];rfl
   ·rw[aB (by simp only[aC8];omega),ad (an hi),aB (by rw[aC1 h0];rfl),h'];rfl
 ·have e:iZ s i=sj s i (oC s (i+1)):=by unfold iZ;rw[aB9 h0];rfl
  rw[e];have e1:i64.wrap ((i:Int)+1)=((i+1:Nat):Int):=bH (by omega);have FQ:=pE s (i+1);have hle:=pD (s:=s) (j:=i+1) (by omega);have OU:=za hs ↑i (2,(i:Int),0,0,0,([]:LI),()) (i+1)
  refine(OU.and (Cn hs (i:=i) (j:=oC s (i+1)) (by omega) hle (zg (by omega) (by omega) (uW hi hd)))).up λn ⟨h,t',b,h',hr⟩=>⟨t',b, ?_,hr⟩
  rw[ot,e1,ad (an hi),aJ,aM h0,ad (an hi),ad (by rw[aB9 h0];rfl),h];simp only[aC0,aO,aE3];rw[h'];rfl
theorem w6 {i j:Nat}(f:Bool)(OX:i<j)(hj:j<=s.length)(t4:al.den)(hd:f=false->digits s i j):
  Evt λn=>∃t' b,cY (S.tab n) s (bif f then 3 else 2,(i:Int),0,0,0,([]:LI),()) t4 (j:Int)=some (Sum.inl (t',b,()))/\SR k23 (sw s i j f) t' b:=by
 have e1:i64.wrap ((j:Int)+1)=((j+1:Nat):Int):=bH (by omega);have e2:i64.wrap (((j+1:Nat):Int)+1)=((j+2:Nat):Int):=bH (by omega)
 by_cases he:get s j=101
 ·have Uc:=dH he (by decide)
  have az5:j<lz s j:=by unfold lz;cases decide (get s (j+1)=43)||decide (get s (j+1)=45)<;>simp
  have hex:sw s i j f=bif aR (get s (lz s j))then .inr (jC s i (oC s (lz s j)) true)else .inl (lz s j):=by
   unfold sw;rw[aC1 he];rfl
  have key:∀n,Base2 (S.tab n)->cY (S.step (S.tab n)) s (bif f then 3 else 2,(i:Int),0,0,0,([]:LI),()) t4 (j:Int)=
    brk (!aR (get s (lz s j))) (some (Sum.inl ((3,(i:Int),0,0,0,([]:LI),()),(lz s j:Int),()))) ((c8 (S.tab n) s (3,(i:Int),0,0,0,([]:LI),()) t4 (lz s j:Int)).bind (aO (λxz=>(ey (S.tab n) xz.1 xz.2.1 xz.2.2.1 xz.2.2.2.1).bind (aO (λNP=>some (Sum.inl NP)))))):=λn hb=>by
   rw[pK,hb.look];simp only[aC0];rw[aN he,e1,e2,hb.look];simp only[aC0];unfold lz
   by_cases h':get s (j+1)=45
   ·rw[aN h',aC1 h',aD8,hb.look];simp only[aC0,hb.sdigit,aD6]
   ·rw[aM h',aB9 h',aD5]
    by_cases h:get s (j+1)=43
    ·rw[aN h,aC1 h,hb.look];simp only[aC0,hb.sdigit,aD6]
    ·rw[aM h,aB9 h];simp only[aC0,hb.sdigit,aD1]
  cases YT:aR (get s (lz s j))with
  |true=>
   have hl:=pW YT;have FQ:=pE s (lz s j);have at4:=wC hs (3,(i:Int),0,0,0,([]:LI),()) t4 (lz s j);have IV:=Aj (s:=s) (i:=i) (j:=oC s (lz s j)) (by omega) (pD (by omega)) t4
   refine((at4.and IV).and aG).up λn ⟨⟨h,h'⟩,hb⟩=> ?_
   show∃t' b,cY (S.step (S.tab n)) _ _ _ _=_/\_;rw[key n hb,hex,YT,aB (by rfl),h];simp only[aD6,aC0,aO,aE3];rw[h']
   first|exact⟨_,_,rfl,rfl,rfl⟩|exact⟨_,_,rfl,rfl,rfl,rfl⟩
  |false=>
   refine aG.up λn hb=> ?_
   show∃t' b,cY (S.step (S.tab n)) _ _ _ _=_/\_;rw[key n hb,hex,YT,ad (by rfl)];exact⟨_,_,rfl,rfl,rfl⟩
 ·have hex:sw s i j f= .inr (jC s i j f):=by
   unfold sw;rw[aB9 he];rfl
  have IV:Evt λn=>ey (S.tab n) s (bif f then 3 else 2,(i:Int),0,0,0,([]:LI),()) t4 (j:Int)=some (Sum.inl (jC s i j f, -1,())):=by
   cases f with
   |true=>exact Aj (s:=s) OX hj t4
   |false=>exact HH hs OX hj t4 (hd rfl)
  refine(IV.and aG).up λn ⟨h,hb⟩=> ?_
  show∃t' b,cY (S.step (S.tab n)) _ _ _ _=_/\_;rw[pK,hb.look];simp only[aC0];rw[aM he,h,hex]
  first|exact⟨_,_,rfl,rfl,rfl⟩|exact⟨_,_,rfl,rfl,rfl,rfl⟩
theorem Eb {i j:Nat}(OX:i<j)(hj:j<=s.length)(t4:al.den)(hd:digits s i j):
  Evt λn=>∃t' b,eY (S.tab n) s (2,(i:Int),0,0,0,([]:LI),()) t4 (j:Int)=some (Sum.inl (t',b,()))/\SR k23 (sj s i j) t' b:=by
 have e1:i64.wrap ((j:Int)+1)=((j+1:Nat):Int):=bH (by omega)
 by_cases h:get s j=46
 ·cases hx:aR (get s (j+1))with
  |true=>
   have hl:=pW hx;have FQ:=pE s (j+1);have hle:=pD (s:=s) (j:=j+1) (by omega);have sB:=wu hs (3,(i:Int),0,0,0,([]:LI),()) t4 (j+1);have Rv:=w6 hs (i:=i) (j:=oC s (j+1)) true (by omega) hle t4 (λe=>by cases e)
   refine((sB.and Rv).and aG).up λn ⟨⟨h1,t',b,h2,hr⟩,hb⟩=>⟨t',b, ?_, ?_⟩
   ·show eY (S.step (S.tab n)) _ _ _ _=_;rw[mX,hb.look];simp only[aC0];rw[aN h,e1,hb.look];simp only[aC0,hb.sdigit,hx];rw[ad rfl,h1];simp only[aC0,aO,aE3];rw[show((3:Int),(i:Int),(0:Int),(0:Int),(0:Int),([]:LI),())=(bif true then 3 else 2,(i:Int),0,0,0,([]:LI),())from rfl,h2];rfl
   ·unfold sj;rw[aC1 h,hx];exact hr
  |false=>
   have Rv:=w6 hs (i:=i) (j:=j) false OX hj t4 (λ_=>hd)
   refine(Rv.and aG).up λn ⟨⟨t',b,h2,hr⟩,hb⟩=>⟨t',b, ?_, ?_⟩
   ·show eY (S.step (S.tab n)) _ _ _ _=_;rw[mX,hb.look];simp only[aC0];rw[aN h,e1,hb.look];simp only[aC0,hb.sdigit,hx];have h2:cY (S.tab n) s (2,(i:Int),0,0,0,([]:LI),()) t4 (j:Int)=_:=h2;rw[aB rfl,h2];rfl
   ·unfold sj;rw[hx,aD0];exact hr
 ·have Rv:=w6 hs (i:=i) (j:=j) false OX hj t4 (λ_=>hd)
  refine(Rv.and aG).up λn ⟨⟨t',b,h2,hr⟩,hb⟩=>⟨t',b, ?_, ?_⟩
  ·show eY (S.step (S.tab n)) _ _ _ _=_;rw[mX,hb.look];simp only[aC0];have h2:cY (S.tab n) s (2,(i:Int),0,0,0,([]:LI),()) t4 (j:Int)=_:=h2;rw[aM h,h2];rfl
  ·unfold sj;rw[aB9 h];exact hr
theorem Bc {i:Nat}(hi:i<s.length)(hd:aR (get s i)=true):Evt λn=>∃t' b,tD (S.tab n) s (0,(i:Int),0,0,0,([]:LI),())=some ((t',b,()),b8)/\SR k23 (iZ s i) t' b:=by
 have e1:i64.wrap ((i:Int)+1)=((i+1:Nat):Int):=bH (by omega)
 by_cases h0:get s i=48
 ·by_cases hx:get s (i+1)=120
  ·have hl:=dH hx (by decide)
   have e:iZ s i=ic s i:=by unfold iZ;rw[aC1 h0,aC1 hx];rfl
   rw[e]
   refine((CJ hs (i:=i) (by omega)).and aG).up λn ⟨⟨t',b,h,hr⟩,hb⟩=>⟨t',b, ?_,hr⟩
   rw[oY];simp only[e1];rw[ad (an hi),aJ,aN h0,hb.look];simp only[aC0];rw[aN hx,h];rfl
  ·have e:iZ s i=sj s i (i+1):=by unfold iZ;rw[aC1 h0,aB9 hx];rfl
   rw[e]
   refine((Eb hs (i:=i) (j:=i+1) (by omega) (by omega) (0,0,0,0,0,([]:LI),()) (uW hi hd)).and aG).up λn ⟨⟨t',b,h,hr⟩,hb⟩=>⟨t',b, ?_,hr⟩
   rw[oY];simp only[e1];rw[ad (an hi),aJ,aN h0,hb.look];simp only[aC0];rw[aM hx,ad (an hi),aB (by rw[aC1 h0];rfl),h];rfl
 ·have e:iZ s i=sj s i (oC s (i+1)):=by unfold iZ;rw[aB9 h0];rfl
  rw[e];have FQ:=pE s (i+1);have hle:=pD (s:=s) (j:=i+1) (by omega);have h7:=xX hs (2,(i:Int),0,0,0,([]:LI),()) (0,0,0,0,0,([]:LI),()) (i+1)
  refine(h7.and (Eb hs (i:=i) (j:=oC s (i+1)) (by omega) hle (0,0,0,0,0,([]:LI),()) (zg (by omega) (by omega) (uW hi hd)))).up λn ⟨h1,t',b,h,hr⟩=>⟨t',b, ?_,hr⟩
  rw[oY];simp only[e1];rw[ad (an hi),aJ,aM h0,ad (an hi),ad (by rw[aB9 h0];rfl),h1];simp only[aC0,aO,aE3];rw[h];rfl
end Go.Abs.D
end

section
namespace Go.Abs.D
def eB (s:LI):Nat->Nat->LI->Nat⊕(Nat×LI)
 |0,j,_=> .inl j
 |k+1,j,o=>
  bif decide (s.length<=j)then .inl j else
  bif decide (get s j=10)then .inl j else
  bif decide (get s j=34)then .inr (j+1,o)else
  bif !decide (get s j=92)then eB s k (j+1) (o++[get s j])else
  bif decide (get s (j+1)=110)then eB s k (j+2) (o++[10])else
  bif decide (get s (j+1)=116)then eB s k (j+2) (o++[9])else
  bif decide (get s (j+1)=34)then eB s k (j+2) (o++[34])else
  bif decide (get s (j+1)=92)then eB s k (j+2) (o++[92])else
  bif !decide (get s (j+1)=120)then .inl (j+1)else
  bif !gy (get s (j+2))then .inl (j+2)else
  bif !gy (get s (j+3))then .inl (j+3)else
  eB s k (j+4) (o++[jh (get s (j+2))*16+jh (get s (j+3))])
def Gf (i:Nat):Nat⊕(Nat×LI)->Nat⊕al.den
 | .inl e=> .inl e
 | .inr (e,o)=> .inr (4,(i:Int),(e:Int),0,0,o.map byte,())
def Ql (s:LI)(i:Nat):Nat⊕al.den:=Gf i (eB s s.length (i+1) [])
variable{s:LI}(hs:s.length<=2097152)
include hs
omit hs in
theorem uu {j:Nat}(h:gy (get s j)=true):j<s.length:=by
 rcases Nat.lt_or_ge j s.length with h'|h'
 ·exact h'
 ·rw[ir h']at h;cases h
omit hs in
theorem XE (t4:al.den)(o:LI)(j:Nat):Evt λn=>mJ (S.tab n) s t4 o ↑j 4=some (Sum.inr (Sum.inl (s,t4,o,(j:Int),()))):=by
 refine aG.up λn hb=> ?_
 rw[qh,aB (by decide)]
theorem XV (t4:al.den)(o:LI)(j:Nat)(hj:j<s.length):Evt λn=>mJ (S.tab n) s t4 o ↑j 3=
  some (bif gy (get s (j+3))then Sum.inr (Sum.inl (s,t4,o,(j:Int),()))else Sum.inl ((t4.1,t4.2.1,((j+3:Nat):Int),t4.2.2.2),true,())):=by
 have e:i64.wrap ((j:Int)+3)=((j+3:Nat):Int):=by rw[wrap64 _ (by omega) (by omega)];omega
 have e4:i64.wrap ((3:Int)+1)=4:=(by decide)
 refine((XE (s:=s) t4 o j).and aG).up λn ⟨h,hb⟩=> ?_
 rw[qh,ad (by decide),e,e4,h]
 by_cases hl:j+3<s.length
 ·rw[aB (by simp only[aC8];omega),ad (an hl),aJ,hb.ihex];simp only[aC0]
  cases gy (get s (j+3))with
  |true=>rw[aB (by rfl)];rfl
  |false=>rw[ad (by rfl)];rfl
 ·rw[ad (by simp only[aC4];omega),ir (by omega)];rfl
theorem XF (t4:al.den)(o:LI)(j:Nat)(hj:j<s.length):Evt λn=>mJ (S.tab n) s t4 o ↑j 2=
  some (bif gy (get s (j+2))then(bif gy (get s (j+3))then Sum.inr (Sum.inl (s,t4,o,(j:Int),()))else Sum.inl ((t4.1,t4.2.1,((j+3:Nat):Int),t4.2.2.2),true,()))else Sum.inl ((t4.1,t4.2.1,((j+2:Nat):Int),t4.2.2.2),true,())):=by
 have e:i64.wrap ((j:Int)+2)=((j+2:Nat):Int):=by rw[wrap64 _ (by omega) (by omega)];omega
 have e3:i64.wrap ((2:Int)+1)=3:=(by decide)
 refine((XV hs t4 o j hj).and aG).up λn ⟨h,hb⟩=> ?_
 rw[qh,ad (by decide),e,e3,h]
 by_cases hl:j+2<s.length
 ·rw[aB (by simp only[aC8];omega),ad (an hl),aJ,hb.ihex];simp only[aC0]
  cases gy (get s (j+2))with
  |true=>rw[aB (by rfl)];rfl
  |false=>rw[ad (by rfl)];rfl
 ·rw[ad (by simp only[aC4];omega),ir (show s.length<=j+2 by omega)];rfl
omit hs in
theorem XB (t3 t4:al.den)(o:LI)(j:Nat):Evt λn=>iQ (S.tab n) s t3 t4 ↑j o 3=some (Sum.inr (Sum.inl (s,t3,t4,(j:Int),o,()))):=by
 refine aG.up λn hb=> ?_
 rw[mh,aB (by decide)]
omit hs in
theorem Qo (c:Int):decide (jh c<0)= !gy c:=by
 rw[<-nX]
 by_cases h:0<=jh c
 ·rw[aC1 h,aB9 (by omega)];rfl
 ·rw[aB9 h,aC1 (by omega)];rfl
theorem XU (t3 t4:al.den)(o:LI)(j:Nat)(hj:j<=s.length):Evt λn=>iQ (S.tab n) s t3 t4 ↑j o 2=
  some (bif gy (get s (j+2))then Sum.inr (Sum.inl (s,t3,t4,(j:Int),o,()))else Sum.inl (t3,((j+2:Nat):Int),())):=by
 have e:i64.wrap ((j:Int)+2)=((j+2:Nat):Int):=by rw[wrap64 _ (by omega) (by omega)];omega
 have e3:i64.wrap ((2:Int)+1)=3:=(by decide)
 refine((XB (s:=s) t3 t4 o j).and aG).up λn ⟨h,hb⟩=> ?_
 rw[mh,ad (by decide),e,e3,h,hb.look];simp only[aC0,hb.shex,Qo]
 cases gy (get s (j+2))with
 |true=>rw[aB (by rfl)];rfl
 |false=>rw[ad (by rfl)];rfl
theorem XT (t3 t4:al.den)(o:LI)(j:Nat)(hj:j<=s.length):Evt λn=>iQ (S.tab n) s t3 t4 ↑j o 1=
  some (bif gy (get s (j+1))then(bif gy (get s (j+2))then Sum.inr (Sum.inl (s,t3,t4,(j:Int),o,()))else Sum.inl (t3,((j+2:Nat):Int),()))else Sum.inl (t3,((j+1:Nat):Int),())):=by
 have e:i64.wrap ((j:Int)+1)=((j+1:Nat):Int):=bH (by omega);have e3:i64.wrap ((1:Int)+1)=2:=(by decide)
 refine((XU hs t3 t4 o j hj).and aG).up λn ⟨h,hb⟩=> ?_
 rw[mh,ad (by decide),e,e3,h,hb.look];simp only[aC0,hb.shex,Qo]
 cases gy (get s (j+1))with
 |true=>rw[aB (by rfl)];rfl
 |false=>rw[ad (by rfl)];rfl
def xq (c:Int):Int:=bif decide (c=110)then 0 else bif decide (c=116)then 1 else bif decide (c=34)then 2 else bif decide (c=92)then 3 else -1
omit hs in
theorem Sq (c:Int)(h:isByte c):Bld.idx [110,116,34,92] (byte c) 0=xq c:=by
 rw[Ie h];unfold xq;simp only[Bld.idx]
 by_cases h1:c=110
 ·subst h1;rfl
 by_cases h2:c=116
 ·subst h2;rfl
 by_cases h3:c=34
 ·subst h3;rfl
 by_cases h4:c=92
 ·subst h4;rfl
 have e1:=Ne.symm h1;have e2:=Ne.symm h2;have e3:=Ne.symm h3;have e4:=Ne.symm h4;simp[h1,h2,h3,h4,e1,e2,e3,e4]
omit hs in
theorem PS (hb:∀c∈s,isByte c)(j:Nat):isByte (get s j):=by
 rcases Nat.lt_or_ge j s.length with h|h
 ·unfold get;rw[aE2,aE1 h];exact hb _ (aG7 h)
 ·rw[ir h];exact⟨by decide,by decide⟩
omit hs in
theorem uo:Evt λn=>∀c,isByte c->gD (S.tab n) [110,116,34,92] c=some (xq c,ab):=by
 have h1:Evt λn=>∀c,isByte c->iL (S.tab n) [110,116,34,92] c=some (xq c,ab):=aG.up λn _ c hc=>by
  rw[l8];unfold Bld.r7;rw[aC0,Sq c hc]
 exact h1.up λn h c hc=>by
  rw[pJ,h c hc];rfl
omit hs in
theorem Nd (a b:Int)(ha:gy a=true)(hb:gy b=true):hv 0 [a,b]=jh a*16+jh b/\0<=jh a*16+jh b/\jh a*16+jh b<256:=by
 have:=qW ha;have:=qW hb;have:=s9 a;have:=s9 b;refine⟨?_,by omega,by omega⟩;show(0*16+jh a)*16+jh b=_;omega
omit hs in
theorem Al {j:Nat}(h:j+2<=s.length):bJ s j (j+2)=[get s j,get s (j+1)]:=by
 rw[show j+2=j+1+1 from rfl,mL (by omega) (by omega),mL (by omega) (by omega),mz];rfl
theorem F9 (yM:∀c∈s,isByte c)(i:Nat):∀(k j:Nat)(o:LI),s.length<=j+k->j<=s.length->o.length<=j->
  Evt λn=>∃t' b,cr (S.tab n) s (4,(i:Int),0,0,0,([]:LI),()) o (j:Int)=some (Sum.inl (t',b,()))/\IR k4 (Gf i (eB s k j o)) t' b:=by
 intro k
 induction k with
 |zero=>
  intro j o hk hj ho
  refine aG.up λn hb=> ?_
  show∃t' b,cr (S.step (S.tab n)) _ _ _ _=_/\_;rw[jU,ad (by simp only[aC4];omega)]
  first|exact⟨_,_,rfl,rfl,rfl⟩|exact⟨_,_,rfl,rfl,rfl,rfl⟩
 |succ k ih=>
  intro j o hk hj ho;have w1:i64.wrap ((j:Int)+1)=((j+1:Nat):Int):=bH (by omega)
  have w2:i64.wrap ((j:Int)+2)=((j+2:Nat):Int):=by rw[wrap64 _ (by omega) (by omega)];omega
  have w4:i64.wrap ((j:Int)+4)=((j+4:Nat):Int):=by rw[wrap64 _ (by omega) (by omega)];omega
  have hf:∀x:Int,fits (o.length+[x].length)=true:=λx=>bc (by unfold lim;simp only[aH4];omega)
  by_cases hl:s.length<=j
  ·have hR:eB s (k+1) j o= .inl j:=by unfold eB;rw[aC1 hl];rfl
   rw[hR]
   refine aG.up λn hb=> ?_
   show∃t' b,cr (S.step (S.tab n)) _ _ _ _=_/\_;rw[jU,ad (by simp only[aC4];omega)]
   first|exact⟨_,_,rfl,rfl,rfl⟩|exact⟨_,_,rfl,rfl,rfl,rfl⟩
  have tL:j<s.length:=(by omega);have ng:=an tL
  have KR:decide ((s.length:Int)<=(j:Int))=false:=by simp only[aC8];omega
  by_cases c10:get s j=10
  ·have hR:eB s (k+1) j o= .inl j:=by unfold eB;rw[aB9 hl,aC1 c10];rfl
   rw[hR]
   refine aG.up λn hb=> ?_
   show∃t' b,cr (S.step (S.tab n)) _ _ _ _=_/\_;rw[jU,aB KR,ad ng,aJ,aN c10]
   first|exact⟨_,_,rfl,rfl,rfl⟩|exact⟨_,_,rfl,rfl,rfl,rfl⟩
  by_cases uO:get s j=34
  ·have hR:eB s (k+1) j o= .inr (j+1,o):=by unfold eB;rw[aB9 hl,aB9 c10,aC1 uO];rfl
   rw[hR]
   refine aG.up λn hb=> ?_
   show∃t' b,cr (S.step (S.tab n)) _ _ _ _=_/\_;rw[jU,aB KR,ad ng,aJ,aM c10,ad ng,aN uO,w1]
   first|exact⟨_,_,rfl,rfl,rfl⟩|exact⟨_,_,rfl,rfl,rfl,rfl⟩
  by_cases c92:¬ (get s j=92)
  ·have hR:eB s (k+1) j o=eB s k (j+1) (o++[get s j]):=by
    conv=>lhs;unfold eB
    rw[aB9 hl,aB9 c10,aB9 uO,aB9 c92];rfl
   rw[hR]
   refine(ih (j+1) (o++[get s j]) (by omega) (by omega) (by simp;omega)).up λn h=> ?_
   show∃t' b,cr (S.step (S.tab n)) _ _ _ _=_/\_;rw[jU,aB KR,ad ng,aJ,aM c10,ad ng,aM uO,ad ng,ad (by rw[aB9 c92];rfl),ad ng,ad (hf _),w1];exact h
  replace c92:=Decidable.not_not.1 c92
  have start:∀n,cr (S.step (S.tab n)) s (4,(i:Int),0,0,0,([]:LI),()) o (j:Int)=_:=λn=>by
   rw[jU,aB KR,ad ng,aJ,aM c10,ad ng,aM uO,ad ng,aB (by rw[aC1 c92];rfl),w1,w2]
  by_cases oR:¬ (j+1<s.length)
  ·have hR:eB s (k+1) j o= .inl (j+1):=by
    unfold eB;rw[aB9 hl,aB9 c10,aB9 uO,aC1 c92,ir (show s.length<=j+1 by omega)];rfl
   rw[hR]
   refine aG.up λn hb=> ?_
   show∃t' b,cr (S.step (S.tab n)) _ _ _ _=_/\_;rw[start,ad (by simp only[aC4];omega)]
   first|exact⟨_,_,rfl,rfl,rfl⟩|exact⟨_,_,rfl,rfl,rfl,rfl⟩
  replace oR:=Decidable.not_not.1 oR
  have RA:=an oR
  have Rs:decide ((s.length:Int)<=((j+1:Nat):Int))=false:=by simp only[aC8];omega
  have IQ:=PS yM (j+1)
  have short:∀(x y:Int),get s (j+1)=x->xq x≥0->(decide ((0:Int)<=xq x)&&decide (xq x<4))=true->([10,9,34,92]:LI).getD (xq x).toNat 0=y->eB s (k+1) j o=eB s k (j+2) (o++[y])->
    Evt λn=>∃t' b,cr (S.tab n) s (4,(i:Int),0,0,0,([]:LI),()) o (j:Int)=some (Sum.inl (t',b,()))/\IR k4 (Gf i (eB s (k+1) j o)) t' b:=λx y hx h0 h4 hy hR=>by
   rw[hR]
   refine((ih (j+2) (o++[y]) (by omega) (by omega) (by simp;omega)).and uo).up λn ⟨h,RQ⟩=> ?_
   show∃t' b,cr (S.step (S.tab n)) _ _ _ _=_/\_;rw[start,aB Rs,ad RA,aJ,RQ _ IQ,hx];simp only[aC0];rw[ad (by simpa using h0),ad h4,hy,ad (hf _)];exact h
  by_cases e110:get s (j+1)=110
  ·refine short 110 10 e110 (by decide) (by decide) (by decide) ?_
   conv=>lhs;unfold eB
   rw[aB9 hl,aB9 c10,aB9 uO,aC1 c92,e110];rfl
  by_cases e116:get s (j+1)=116
  ·refine short 116 9 e116 (by decide) (by decide) (by decide) ?_
   conv=>lhs;unfold eB
   rw[aB9 hl,aB9 c10,aB9 uO,aC1 c92,e116];rfl
  by_cases e34:get s (j+1)=34
  ·refine short 34 34 e34 (by decide) (by decide) (by decide) ?_
   conv=>lhs;unfold eB
   rw[aB9 hl,aB9 c10,aB9 uO,aC1 c92,e34];rfl
  by_cases e92:get s (j+1)=92
  ·refine short 92 92 e92 (by decide) (by decide) (by decide) ?_
   conv=>lhs;unfold eB
   rw[aB9 hl,aB9 c10,aB9 uO,aC1 c92,e92];rfl
  have yh:xq (get s (j+1))= -1:=by
   unfold xq;rw[aB9 e110,aB9 e116,aB9 e34,aB9 e92];rfl
  by_cases e120:¬ (get s (j+1)=120)
  ·have hR:eB s (k+1) j o= .inl (j+1):=by
    unfold eB;rw[aB9 hl,aB9 c10,aB9 uO,aC1 c92,aB9 e110,aB9 e116,aB9 e34,aB9 e92,aB9 e120];rfl
   rw[hR]
   refine uo.up λn RQ=> ?_
   show∃t' b,cr (S.step (S.tab n)) _ _ _ _=_/\_;rw[start,aB Rs,ad RA,aJ,RQ _ IQ,yh];simp only[aC0];rw[aB (by decide),ad RA,ad (by rw[aB9 e120];rfl)]
   first|exact⟨_,_,rfl,rfl,rfl⟩|exact⟨_,_,rfl,rfl,rfl,rfl⟩
  replace e120:=Decidable.not_not.1 e120
  have hR:eB s (k+1) j o=bif !gy (get s (j+2))then .inl (j+2)else bif !gy (get s (j+3))then .inl (j+3)else eB s k (j+4) (o++[jh (get s (j+2))*16+jh (get s (j+3))]):=by
   conv=>lhs;unfold eB
   rw[aB9 hl,aB9 c10,aB9 uO,aC1 c92,e120];rfl
  have ai4:=XF hs (4,(i:Int),0,0,0,([]:LI),()) o j tL
  have go:∀n,(∀c,isByte c->gD (S.tab n) [110,116,34,92] c=some (xq c,ab))->cr (S.step (S.tab n)) s (4,(i:Int),0,0,0,([]:LI),()) o (j:Int)=_:=λn RQ=>by
   rw[start,aB Rs,ad RA,aJ,RQ _ IQ,yh,aC0,aB (by decide),ad RA,aB (by rw[aC1 e120];rfl)]
  rw[hR]
  cases x2:gy (get s (j+2))with
  |false=>
   refine(ai4.and uo).up λn ⟨h,RQ⟩=> ?_
   show∃t' b,cr (S.step (S.tab n)) _ _ _ _=_/\_;rw[go n RQ,h,x2]
   first|exact⟨_,_,rfl,rfl,rfl⟩|exact⟨_,_,rfl,rfl,rfl,rfl⟩
  |true=>
   cases x3:gy (get s (j+3))with
   |false=>
    refine(ai4.and uo).up λn ⟨h,RQ⟩=> ?_
    show∃t' b,cr (S.step (S.tab n)) _ _ _ _=_/\_;rw[go n RQ,h,x2,x3]
    first|exact⟨_,_,rfl,rfl,rfl⟩|exact⟨_,_,rfl,rfl,rfl,rfl⟩
   |true=>
    have ac6:=uu x3;obtain⟨ag9,vr,hp1⟩:=Nd _ _ x2 x3
    have RX:=zY [get s (j+2),get s (j+3)] 8 (.inl ⟨rfl,by simp⟩) (by simp) (by
     intro c hc
     rcases aF8.1 hc with rfl|hc
     ·exact x2
     ·have:c=get s (j+3):=(by simpa using hc)
      rw[this];exact x3)
    rw[ag9]at RX;have h2:=ih (j+4) (o++[jh (get s (j+2))*16+jh (get s (j+3))]) (by omega) (by omega) (by simp;omega)
    refine(((ai4.and uo).and RX).and h2).up λn ⟨⟨⟨h,RQ⟩,RX⟩,h2⟩=> ?_
    show∃t' b,cr (S.step (S.tab n)) _ _ _ _=_/\_;rw[go n RQ,h,x2,x3];simp only[aD6,aC0,bB,aF2,aE3,w2,w4];rw[ad (dZ (by omega) (by omega)),oy,Al (s:=s) (j:=j+2) (by omega),RX];simp only[aC0];rw[vI _ vr hp1,ad (hf _)];exact h2
end Go.Abs.D
end

section
namespace Go.Abs.D
def LR (r:Nat⊕al.den)(y:(al.den×Int×Unit)⊕(al.den×al.den×Int×Unit)⊕Empty):Prop:=
 y.elim (λy=>SR k4 r y.1 y.2.1) λy=>y.elim (λy=>SR k4 r y.1 y.2.2.1) Empty.elim
variable{s:LI}(hs:s.length<=2097152)
include hs
theorem En (t3 t4:al.den)(j:Nat)(o:LI)(c:Int)(hj:j<s.length)(ho:o.length<=j):Evt λn=>gF (S.tab n) s t3 t4 ↑j o c true=some (Sum.inl (s,t3,t4,(j:Int),o++[get s j],())):=by
 refine aG.up λn hb=> ?_
 rw[mf,ad rfl,ad (an hj),aJ,ad (bc (by unfold lim;simp only[aH4];omega))]
omit hs in
theorem Hm (t3 t4:al.den)(j:Nat)(o:LI)(c:Int)(hc:c≠120):Evt λn=>gF (S.tab n) s t3 t4 ↑j o c false=some (Sum.inr (Sum.inl (t3,(j:Int),()))):=by
 refine aG.up λn hb=> ?_
 rw[mf,aB rfl,aM hc]
theorem Ly (t3 t4:al.den)(j:Nat)(o:LI)(hj:j<=s.length)(ho:o.length<=j):Evt λn=>gF (S.tab n) s t3 t4 ↑j o 120 false=
  some (bif gy (get s (j+1))then(bif gy (get s (j+2))then Sum.inl (s,t3,t4,((j+2:Nat):Int),o++[jh (get s (j+1))*16+jh (get s (j+2))],())else Sum.inr (Sum.inl (t3,((j+2:Nat):Int),())))else Sum.inr (Sum.inl (t3,((j+1:Nat):Int),()))):=by
 have w1:i64.wrap ((j:Int)+1)=((j+1:Nat):Int):=bH (by omega)
 have w2:i64.wrap ((j:Int)+2)=((j+2:Nat):Int):=by rw[wrap64 _ (by omega) (by omega)];omega
 refine((XT hs t3 t4 o j hj).and aG).up λn ⟨h,hb⟩=> ?_
 rw[mf,aB rfl,ad (by rfl),h]
 cases x1:gy (get s (j+1))with
 |false=>rfl
 |true=>
  cases x2:gy (get s (j+2))with
  |false=>rfl
  |true=>
   have oI:=uu x2;obtain⟨_,vr,hp1⟩:=Nd _ _ x1 x2;have h0:=qW x1;have Ut:=qW x2;have h1:=s9 (get s (j+1));have K9:=s9 (get s (j+2));have e1:i64.wrap (16*jh (get s (j+1)))=16*jh (get s (j+1)):=wrap64 _ (by omega) (by omega)
   have e2:i64.wrap (16*jh (get s (j+1))+jh (get s (j+2)))=jh (get s (j+1))*16+jh (get s (j+2)):=by rw[wrap64 _ (by omega) (by omega)];omega
   simp only[aD6,aC0,bB,aF2,aE3,w1,w2];rw[ad (an (show j+1<s.length by omega)),aJ,hb.shex,aC0,ad (an oI),aJ,hb.shex,aC0];simp only[e1,e2];rw[vI _ vr hp1,ad (bc (by unfold lim;simp only[aH4];omega))]
theorem F4 (t4:al.den)(i:Nat):∀(k j:Nat)(o:LI),s.length<=j+k->j<=s.length->o.length<=j->
  Evt λn=>∃y,aX (S.tab n) s (4,(i:Int),0,0,0,([]:LI),()) t4 ↑j o=some y/\LR (Gf i (eB s k j o)) y:=by
 intro k
 induction k with
 |zero=>
  intro j o hk hj ho
  refine aG.up λn hb=> ?_
  show∃y,aX (S.step (S.tab n)) _ _ _ _ _=_/\_;rw[gQ,aB (by simp only[aC8];omega)]
  first|exact⟨_,rfl,rfl,rfl⟩|exact⟨_,rfl,rfl⟩
 |succ k ih=>
  intro j o hk hj ho;have w1:i64.wrap ((j:Int)+1)=((j+1:Nat):Int):=bH (by omega)
  have w2:i64.wrap (((j+1:Nat):Int)+1)=((j+2:Nat):Int):=by rw[wrap64 _ (by omega) (by omega)];omega
  have w4:i64.wrap (((j+1+2:Nat):Int)+1)=((j+4:Nat):Int):=by rw[wrap64 _ (by omega) (by omega)];omega
  have hf:∀x:Int,fits (o.length+[x].length)=true:=λx=>bc (by unfold lim;simp only[aH4];omega)
  have ZI:fits (o.length+1)=true:=bc (by unfold lim;omega)
  by_cases hl:s.length<=j
  ·have hR:eB s (k+1) j o= .inl j:=by unfold eB;rw[aC1 hl];rfl
   rw[hR]
   refine aG.up λn hb=> ?_
   show∃y,aX (S.step (S.tab n)) _ _ _ _ _=_/\_;rw[gQ,aB (by simp only[aC8];omega)]
   first|exact⟨_,rfl,rfl,rfl⟩|exact⟨_,rfl,rfl⟩
  have tL:j<s.length:=(by omega);have ng:=an tL
  have gX:decide ((j:Int)<(s.length:Int))=true:=by simp only[aC4];omega
  by_cases c10:get s j=10
  ·have hR:eB s (k+1) j o= .inl j:=by unfold eB;rw[aB9 hl,aC1 c10];rfl
   rw[hR]
   refine aG.up λn hb=> ?_
   show∃y,aX (S.step (S.tab n)) _ _ _ _ _=_/\_;rw[gQ,ad gX,ad ng,aJ,aM (by omega),aN c10]
   first|exact⟨_,rfl,rfl,rfl⟩|exact⟨_,rfl,rfl⟩
  by_cases uO:get s j=34
  ·have hR:eB s (k+1) j o= .inr (j+1,o):=by unfold eB;rw[aB9 hl,aB9 c10,aC1 uO];rfl
   rw[hR]
   refine aG.up λn hb=> ?_
   show∃y,aX (S.step (S.tab n)) _ _ _ _ _=_/\_;rw[gQ,ad gX,ad ng,aJ,aN uO,w1]
   first|exact⟨_,rfl,rfl,rfl⟩|exact⟨_,rfl,rfl⟩
  by_cases c92:¬ (get s j=92)
  ·have hR:eB s (k+1) j o=eB s k (j+1) (o++[get s j]):=by
    conv=>lhs;unfold eB
    rw[aB9 hl,aB9 c10,aB9 uO,aB9 c92];rfl
   rw[hR]
   refine(ih (j+1) (o++[get s j]) (by omega) (by omega) (by simp;omega)).up λn h=> ?_
   show∃y,aX (S.step (S.tab n)) _ _ _ _ _=_/\_;rw[gQ,ad gX,ad ng,aJ,aM uO,aM c10,ad (by rw[aB9 c92];rfl),ad (hf _),w1];exact h
  replace c92:=Decidable.not_not.1 c92
  have start:∀n,Base2 (S.tab n)->aX (S.step (S.tab n)) s (4,(i:Int),0,0,0,([]:LI),()) t4 ↑j o=_:=λn hb=>by
   rw[gQ,ad gX,ad ng,aJ,aM uO,aM c10,aB (by rw[aC1 c92];rfl),w1,w2,hb.look,aC0]
  by_cases e110:get s (j+1)=110
  ·have oR:=dH e110 (by decide)
   have hR:eB s (k+1) j o=eB s k (j+2) (o++[10]):=by
    conv=>lhs;unfold eB
    rw[aB9 hl,aB9 c10,aB9 uO,aC1 c92,e110];rfl
   rw[hR]
   refine((ih (j+2) (o++[10]) (by omega) (by omega) (by simp;omega)).and aG).up λn ⟨h,hb⟩=> ?_
   show∃y,aX (S.step (S.tab n)) _ _ _ _ _=_/\_;rw[start n hb,aN e110,ad ZI];exact h
  by_cases e116:get s (j+1)=116
  ·have oR:=dH e116 (by decide)
   have hR:eB s (k+1) j o=eB s k (j+2) (o++[9]):=by
    conv=>lhs;unfold eB
    rw[aB9 hl,aB9 c10,aB9 uO,aC1 c92,e116];rfl
   rw[hR]
   refine((ih (j+2) (o++[9]) (by omega) (by omega) (by simp;omega)).and aG).up λn ⟨h,hb⟩=> ?_
   show∃y,aX (S.step (S.tab n)) _ _ _ _ _=_/\_;rw[start n hb,aM e110,aN e116,ad ZI];exact h
  by_cases e34:get s (j+1)=34
  ·have oR:=dH e34 (by decide)
   have hR:eB s (k+1) j o=eB s k (j+2) (o++[34]):=by
    conv=>lhs;unfold eB
    rw[aB9 hl,aB9 c10,aB9 uO,aC1 c92,e34];rfl
   rw[hR];have K3:=En hs (4,(i:Int),0,0,0,([]:LI),()) t4 (j+1) o (get s (j+1)) oR (by omega)
   refine(((ih (j+2) (o++[34]) (by omega) (by omega) (by simp;omega)).and aG).and K3).up λn ⟨⟨h,hb⟩,K3⟩=> ?_
   show∃y,aX (S.step (S.tab n)) _ _ _ _ _=_/\_;rw[start n hb,aM e110,aM e116,aN e34];simp only;rw[aC1 e34,K3,e34];simp only[aC0,bB,aE3,w2];exact h
  by_cases e92:get s (j+1)=92
  ·have oR:=dH e92 (by decide)
   have hR:eB s (k+1) j o=eB s k (j+2) (o++[92]):=by
    conv=>lhs;unfold eB
    rw[aB9 hl,aB9 c10,aB9 uO,aC1 c92,e92];rfl
   rw[hR];have K3:=En hs (4,(i:Int),0,0,0,([]:LI),()) t4 (j+1) o (get s (j+1)) oR (by omega)
   refine(((ih (j+2) (o++[92]) (by omega) (by omega) (by simp;omega)).and aG).and K3).up λn ⟨⟨h,hb⟩,K3⟩=> ?_
   show∃y,aX (S.step (S.tab n)) _ _ _ _ _=_/\_;rw[start n hb,aM e110,aM e116,aM e34];simp only;rw[aC1 e92,K3,e92];simp only[aC0,bB,aE3,w2];exact h
  by_cases e120:¬ (get s (j+1)=120)
  ·have hR:eB s (k+1) j o= .inl (j+1):=by
    unfold eB;rw[aB9 hl,aB9 c10,aB9 uO,aC1 c92,aB9 e110,aB9 e116,aB9 e34,aB9 e92,aB9 e120];rfl
   rw[hR];have K3:=Hm (s:=s) (4,(i:Int),0,0,0,([]:LI),()) t4 (j+1) o (get s (j+1)) e120
   refine(aG.and K3).up λn ⟨hb,K3⟩=> ?_
   show∃y,aX (S.step (S.tab n)) _ _ _ _ _=_/\_;rw[start n hb,aM e110,aM e116,aM e34];simp only;rw[aB9 e92,K3]
   first|exact⟨_,rfl,rfl,rfl⟩|exact⟨_,rfl,rfl⟩
  replace e120:=Decidable.not_not.1 e120
  have oR:=dH e120 (by decide)
  have hR:eB s (k+1) j o=bif !gy (get s (j+2))then .inl (j+2)else bif !gy (get s (j+3))then .inl (j+3)else eB s k (j+4) (o++[jh (get s (j+2))*16+jh (get s (j+3))]):=by
   conv=>lhs;unfold eB
   rw[aB9 hl,aB9 c10,aB9 uO,aC1 c92,e120];rfl
  rw[hR];have K3:=Ly hs (4,(i:Int),0,0,0,([]:LI),()) t4 (j+1) o (by omega) (by omega);have ar5:j+1+1=j+2:=rfl;have ay1:j+1+2=j+3:=rfl;rw[ar5,ay1]at K3
  have go:∀n,Base2 (S.tab n)->aX (S.step (S.tab n)) s (4,(i:Int),0,0,0,([]:LI),()) t4 ↑j o=(gF (S.tab n) s (4,(i:Int),0,0,0,([]:LI),()) t4 ((j+1:Nat):Int) o 120 false).bind (bB (λvp=>aX (S.tab n) vp.1 vp.2.1 vp.2.2.1 (i64.wrap (vp.2.2.2.1+(1:Int))) vp.2.2.2.2.1) (λvp=>some (Sum.inl vp))):=λn hb=>by
   rw[start n hb,aM e110,aM e116,aM e34];simp only;rw[aB9 e92,e120]
  cases x2:gy (get s (j+2))with
  |false=>
   refine(K3.and aG).up λn ⟨h,hb⟩=> ?_
   show∃y,aX (S.step (S.tab n)) _ _ _ _ _=_/\_;rw[go n hb,h,x2]
   first|exact⟨_,rfl,rfl,rfl⟩|exact⟨_,rfl,rfl⟩
  |true=>
   cases x3:gy (get s (j+3))with
   |false=>
    refine(K3.and aG).up λn ⟨h,hb⟩=> ?_
    show∃y,aX (S.step (S.tab n)) _ _ _ _ _=_/\_;rw[go n hb,h,x2,x3]
    first|exact⟨_,rfl,rfl,rfl⟩|exact⟨_,rfl,rfl⟩
   |true=>
    have ac6:=uu x3;have h2:=ih (j+4) (o++[jh (get s (j+2))*16+jh (get s (j+3))]) (by omega) (by omega) (by simp;omega)
    refine((K3.and aG).and h2).up λn ⟨⟨h,hb⟩,h2⟩=> ?_
    show∃y,aX (S.step (S.tab n)) _ _ _ _ _=_/\_;rw[go n hb,h,x2,x3];have w5:i64.wrap (((j+3:Nat):Int)+1)=((j+4:Nat):Int):=w4;simp only[aD6,aC0,bB,aE3,w5];exact h2
theorem A7 {i:Nat}(hi:i<s.length):Evt λn=>∃t' b,pz (S.tab n) s (0,(i:Int),0,0,0,([]:LI),())=some ((t',b,()),b8)/\SR k4 (Ql s i) t' b:=by
 have e1:i64.wrap ((i:Int)+1)=((i+1:Nat):Int):=bH (by omega)
 refine(F4 hs (0,0,0,0,0,([]:LI),()) i s.length (i+1) [] (by omega) (by omega) (by simp)).up λn ⟨y,h,hr⟩=> ?_
 show∃t' b,pz (S.step (S.tab n)) _ _=_/\_;rw[AS];simp only[e1];rw[h,aC0]
 rcases y with y|y|y
 ·exact⟨y.1,y.2.1,rfl,hr⟩
 ·exact⟨y.1,y.2.2.1,rfl,hr⟩
 ·exact y.elim
end Go.Abs.D
end

section
namespace Go.Abs.D
def bh:List LI:=[[46,46,46],[46,46],[46],[60,60],[60,61],[60],[62,62],[62,61],[62],[61,61],[61],[126,61],[126],[47,47],[47],[40],[41],[123],[125],[91],[93],[44],[59],[35],[43],[45],[42],[37],[38],[124]]
def opsL:List LI:=[[],[43],[45],[42],[47],[47,47],[37],[38],[124],[126],[60,60],[62,62],[46,46],[61,61],[126,61],[60],[60,61],[62],[62,61]]
def fx (k:Nat):LI:=
 bif decide (10<=k)&&decide (k<=31)then Lx.words.getD (k - 10) []else
 bif decide (40<=k)&&decide (k<=50)then Lx.lY.getD (k - 40) []else
 bif decide (61<=k)&&decide (k<=78)then Lx.vj.getD (k - 61) []else
 bif decide (k=5)then [59]else []
def okF (f:LI):Bool:= !decide (f=[])&& !bC (f.getD 0 0)
def runK (p:LI->Bool):Nat->Nat×Nat->Nat×Nat
 |0,st=>st
 |k+1,st=>runK p k (bif okF (fx (k+1))&&p (fx (k+1))&&decide (st.2<(fx (k+1)).length)then(k+1,(fx (k+1)).length)else st)
def sq (l:List LI)(f:LI)(k:Nat):Bool:=decide (k<l.length)&& !decide (l.getD k []=f)
def sgn (f:LI):Nat:=
 bif decide (stop (sq opsL f) 19 1<19)then 60+stop (sq opsL f) 19 1 else
 bif decide (stop (sq Lx.lY f) 11 0<11)then 40+stop (sq Lx.lY f) 11 0 else 5
def pq (p:LI->Bool)(k:Nat):Bool:=decide (k<30)&& !p (bh.getD k [])
def lf (p:LI->Bool):Nat:=stop (pq p) 30 0
def ja (p:LI->Bool):Nat×Nat:=bif decide (lf p<30)then(sgn (bh.getD (lf p) []),(bh.getD (lf p) []).length)else(0,0)
def IE (a b c:Int):LI->Bool
 |[x]=>decide (a=x)
 |[x,y]=>decide (a=x)&&decide (b=y)
 |[x,y,z]=>decide (a=x)&&decide (b=y)&&decide (c=z)
 |_=>false
def rep (l:LI)(a:Int):Int:=bif l.contains a then a else 0
def lA:LI:=[46,60,62,61,126,47,40,41,123,125,91,93,44,59,35,43,45,42,37,38,124]
def lB:LI:=[46,60,61,62,47]
def lC:LI:=[46]
theorem Ig (l:LI)(a:Int):rep l a∈0::l:=by
 unfold rep
 cases h:l.contains a with
 |true=>exact aD9 _ (by simpa using h)
 |false=>exact aE0 ..
theorem LY (l:LI)(a x:Int)(hx:l.contains x=true)(h0:x≠0):decide (rep l a=x)=decide (a=x):=by
 unfold rep
 cases h:l.contains a with
 |true=>rfl
 |false=>
  have:a≠x:=λe=>by rw[e,hx]at h;cases h
  rw[aB9 this,aD1,aB9 (λe=>h0 e.symm)]
theorem zf {p q:LI->Bool}:∀(k:Nat)(st:Nat×Nat),(∀j,j<=k->okF (fx j)=true->p (fx j)=q (fx j))->runK p k st=runK q k st
 |0,st,_=>rfl
 |k+1,st,h=>by
  unfold runK
  have:(okF (fx (k+1))&&p (fx (k+1)))=(okF (fx (k+1))&&q (fx (k+1))):=by
   cases ho:okF (fx (k+1))with
   |true=>rw[h (k+1) (aE5 _) ho]
   |false=>rfl
  rw[this]
  exact zf k _ λj hj=>h j (by omega)
theorem LA {p q:Nat->Bool}(h:∀j,p j=q j)(k j:Nat):stop p k j=stop q k j:=by
 have:p=q:=funext h;rw[this]
theorem uV {p q:LI->Bool}(h:∀f∈bh,p f=q f):ja p=ja q:=by
 have e:∀j,pq p j=pq q j:=λj=>by
  unfold pq
  by_cases hj:j<30
  ·rw[h];rw[aE2,aE1 (show j<bh.length from hj)];exact aG7 _
  ·rw[aB9 hj];rfl
 have:lf p=lf q:=LA e 30 0;unfold ja;rw[this]
theorem TQ:∀j,j<=78->okF (fx j)=true->fx j∈bh:=by
 have h:∀j:Fin 79,okF (fx j)=true->fx j∈bh:=by decide+kernel
 exact λj hj=>h ⟨j,by omega⟩
theorem J9 (a b c:Int):∀f∈bh,IE a b c f=IE (rep lA a) (rep lB b) (rep lC c) f:=by
 intro f hf;simp only[bh,aF8,List.not_mem_nil,or_false]at hf
 rcases hf with rfl|rfl|rfl|rfl|rfl|rfl|rfl|rfl|rfl|rfl|rfl|rfl|rfl|rfl|rfl|rfl|rfl|rfl|rfl|rfl|rfl|rfl|rfl|rfl|rfl|rfl|rfl|rfl|rfl|rfl<;>
  simp only[IE]<;>(first|rw[LY lA a _ (by rfl) (by decide)]|skip)<;>(first|rw[LY lB b _ (by rfl) (by decide)]|skip)<;>(first|rw[LY lC c _ (by rfl) (by decide)]|skip)
theorem N8 (a b c:Int):runK (IE a b c) 78 (0,0)=ja (IE a b c):=by
 have h:∀x∈(0::lA),∀y∈(0::lB),∀z∈(0::lC),runK (IE x y z) 78 (0,0)=ja (IE x y z):=by decide+kernel
 rw[zf (q:=IE (rep lA a) (rep lB b) (rep lC c)) 78 (0,0) λj hj ho=>J9 a b c _ (TQ j hj ho),uV (J9 a b c)];exact h _ (Ig ..) _ (Ig ..) _ (Ig ..)
end Go.Abs.D
end

section
namespace Go.Abs.D
def pS (s:LI)(i:Nat)(f:LI):Bool:=decide (f.length<=s.length - i)&&decide (bJ s i (i+f.length)=f)
def p3 (s:LI)(i:Nat):LI->Bool:=IE (get s i) (get s (i+1)) (get s (i+2))
theorem G7:Evt λn=>∀v lo hi,jF (S.tab n) v lo hi=some (decide (lo<=v)&&decide (v<=hi),aT):=aG.up λn _ v lo hi=>by
 rw[Ev]
 cases h:decide (lo<=v)with
 |true=>rw[ad rfl];rfl
 |false=>rw[aB rfl];rfl
theorem Kn:Evt λn=>∀k:Nat,k<=78->vd (S.tab n) (k:Int)=some (fx k,aa):=G7.up λn h k hk=>by
 rw[Ga,h,aC0];unfold fx
 by_cases h1:10<=k/\k<=31
 ·have e:i64.wrap ((k:Int) - 10)=((k - 10:Nat):Int):=by rw[wrap64 _ (by omega) (by omega)];omega
  rw[ad (by simp only[aC6,aC4];omega),e,ad (an (show k - 10<Lx.words.length by show k - 10<22;omega)),aC1 h1.1,aC1 h1.2];rfl
 rw[aB (by simp only[aG9,aC8];omega),h,aC0];rw[show(decide (10<=k)&&decide (k<=31))=false by simp only[aG9,aC8];omega]
 by_cases h2:40<=k/\k<=50
 ·have e:i64.wrap ((k:Int) - 40)=((k - 40:Nat):Int):=by rw[wrap64 _ (by omega) (by omega)];omega
  rw[ad (by simp only[aC6,aC4];omega),e,ad (an (show k - 40<Lx.lY.length by show k - 40<11;omega)),aC1 h2.1,aC1 h2.2];rfl
 rw[aB (by simp only[aG9,aC8];omega),h,aC0];rw[show(decide (40<=k)&&decide (k<=50))=false by simp only[aG9,aC8];omega]
 by_cases h3:61<=k/\k<=78
 ·have e:i64.wrap ((k:Int) - 60)=((k - 60:Nat):Int):=by rw[wrap64 _ (by omega) (by omega)];omega
  have e':i64.wrap (((k - 60:Nat):Int) - 1)=((k - 61:Nat):Int):=by rw[wrap64 _ (by omega) (by omega)];omega
  rw[ad (by simp only[aC6,aC4];omega),e,e',ad (an (show k - 61<Lx.vj.length by show k - 61<18;omega)),aC1 h3.1,aC1 h3.2];rfl
 rw[aB (by simp only[aG9,aC8];omega)];rw[show(decide (61<=k)&&decide (k<=78))=false by simp only[aG9,aC8];omega]
 by_cases h5:k=5
 ·subst h5;rw[ad (by rfl)];rfl
 ·rw[aB (by simp only[aC8];omega),aB9 h5];rfl
theorem XZ (f:LI):∀j:Nat,1<=j->j<=19->Evt λn=>fC (S.tab n) f opsL (j:Int)=some (bif decide (stop (sq opsL f) 19 j<19)then Sum.inl (((60+stop (sq opsL f) 19 j:Nat):Int),())else Sum.inr (Sum.inl (f,()))):=λj h1 hj=>
 adv (F:=λT (j:Nat)=>fC T f opsL ↑j) (out:=λj=>bif decide (j<19)then Sum.inl (((60+j:Nat):Int),())else Sum.inr (Sum.inl (f,()))) (N:=19) aG (λj h=>by simp[sq,opsL];omega)
  (λT j _ hq=>by
   simp only[sq,aC6,aC4,aH3,aC8]at hq;have Xw:j<19:=hq.1;show fC (S.step T) f opsL j=fC T f opsL ((j+1:Nat):Int)
   rw[sT,ad (by simp only[aC4];omega),ad (an hq.1),aM (show¬ List.getD _ (j:Int).toNat []=f from hq.2),bH (by omega)])
  (λT j _ hq=>by
   simp only[sq,aG9,aC8,Bool.not_eq_false',aC4]at hq;show fC (S.step T) f opsL j=_;rw[sT]
   by_cases hj:j<opsL.length
   ·have Xw:j<19:=hj
    have he:opsL.getD (j:Int).toNat []=f:=by
     rcases hq with hq|hq
     ·exact absurd hj hq
     ·exact hq
    rw[ad (by simp only[aC4];omega),ad (an hj),aN he,wrap64 _ (by omega) (by omega),aC1 Xw];simp only[aD6]
    congr 2
   ·have Xw:¬ j<19:=hj
    rw[aB (by simp only[aC8];omega),aB9 Xw];rfl) 19 j (by omega)
theorem XQ (f:LI):Evt λn=>gJ (S.tab n) f Lx.lY 11 0=some (bif decide (stop (sq Lx.lY f) 11 0<11)then Sum.inl (((40+stop (sq Lx.lY f) 11 0:Nat):Int),())else Sum.inr (Sum.inl ())):=
 adv (F:=λT (j:Nat)=>gJ T f Lx.lY 11 ↑j) (out:=λj=>bif decide (j<11)then Sum.inl (((40+j:Nat):Int),())else Sum.inr (Sum.inl ())) (N:=11) aG (λj h=>by simp[sq,Lx.lY];omega)
  (λT j _ hq=>by
   simp only[sq,aC6,aC4,aH3,aC8]at hq;have BW:j<11:=hq.1;show gJ (S.step T) f Lx.lY 11 j=gJ T f Lx.lY 11 ((j+1:Nat):Int)
   rw[sG,ad (by simp only[aC4];omega),ad (an hq.1),aM (show¬ List.getD _ (j:Int).toNat []=f from hq.2),bH (by omega)])
  (λT j _ hq=>by
   simp only[sq,aG9,aC8,Bool.not_eq_false',aC4]at hq;show gJ (S.step T) f Lx.lY 11 j=_;rw[sG]
   by_cases hj:j<Lx.lY.length
   ·have BW:j<11:=hj
    have he:Lx.lY.getD (j:Int).toNat []=f:=by
     rcases hq with hq|hq
     ·exact absurd hj hq
     ·exact hq
    rw[ad (by simp only[aC4];omega),ad (an hj),aN he,wrap64 _ (by omega) (by omega),aC1 BW];simp only[aD6]
    congr 2
   ·have BW:¬ j<11:=hj
    rw[aB (by simp only[aC8];omega),aB9 BW];rfl) 11 0 (by omega)
theorem sign_one (f:LI):Evt λn=>j2 (S.tab n) f=some ((sgn f:Int),aa):=by
 refine((XZ f 1 (by omega) (by omega)).and (XQ f)).up λn ⟨h3,h9⟩=> ?_
 rw[DR];have h3:fC (S.tab n) f opsL 1=_:=h3;show(fC (S.tab n) f opsL 1).bind _=_;rw[h3,aC0];unfold sgn
 cases decide (stop (sq opsL f) 19 1<19)with
 |true=>rfl
 |false=>
  show(gJ (S.tab n) f Lx.lY 11 0).bind _=_;rw[h9,aC0]
  cases decide (stop (sq Lx.lY f) 11 0<11)with
  |true=>rfl
  |false=>rfl
theorem Az {α:Type}{P:α->Nat->Prop}:∀(l:List α),(∀a,Evt λn=>P a n)->Evt λn=>∀a∈l,P a n
 |[],_=>Evt.of λ_ a h=>by cases h
 |x::l,h=>((h x).and (Az l h)).mono λn ⟨h1,h2⟩ a ha=>by
  rcases aF8.1 ha with rfl|ha
  ·exact h1
  ·exact h2 a ha
theorem Dr (f:LI):sgn f≠0:=by
 unfold sgn
 cases h1:decide (stop (sq opsL f) 19 1<19)with
 |true=>rw[aD6];omega
 |false=>
  cases h2:decide (stop (sq Lx.lY f) 11 0<11)with
  |true=>rw[aD1,aD6];omega
  |false=>rw[aD1,aD1];omega
theorem J0:Evt λn=>mH (S.tab n)=some (bh,fE):=aG.up λn _=>by
 rw[CT];rfl
variable{s:LI}(hs:s.length<=2097152)
include hs
omit hs in
theorem sub_one {i:Nat}(h:i+1<=s.length):bJ s i (i+1)=[get s i]:=by rw[mL (by omega) (by omega),mz];rfl
omit hs in
theorem Oi {i:Nat}(h:i+3<=s.length):bJ s i (i+3)=[get s i,get s (i+1),get s (i+2)]:=by
 rw[show i+3=i+2+1 from rfl,mL (by omega) (by omega),Al (s:=s) (by omega)];rfl
omit hs in
theorem QZ {i:Nat}(hi:i<s.length):∀f∈bh,pS s i f=p3 s i f:=by
 have h1:∀x:Int,x≠0->pS s i [x]=decide (get s i=x):=λx h0=>by
  unfold pS;rw[show([x]:LI).length=1 from rfl,sub_one (s:=s) (by omega),aC1 (by omega),aC9];simp
 have h2:∀x y:Int,x≠0->y≠0->pS s i [x,y]=(decide (get s i=x)&&decide (get s (i+1)=y)):=λx y h0 Ut=>by
  unfold pS;rw[show([x,y]:LI).length=2 from rfl]
  by_cases h:2<=s.length - i
  ·rw[Al (s:=s) (by omega),aC1 h,aC9];simp
  ·rw[aB9 h,ir (show s.length<=i+1 by omega),show decide ((0:Int)=y)=false from aB9 (λe=>Ut e.symm),aD0];rfl
 have h3:∀x y z:Int,x≠0->y≠0->z≠0->pS s i [x,y,z]=(decide (get s i=x)&&decide (get s (i+1)=y)&&decide (get s (i+2)=z)):=λx y z h0 Ut ac2=>by
  unfold pS;rw[show([x,y,z]:LI).length=3 from rfl]
  by_cases h:3<=s.length - i
  ·rw[Oi (s:=s) (by omega),aC1 h,aC9];simp[Bool.and_assoc]
  ·rw[aB9 h,ir (show s.length<=i+2 by omega),show decide ((0:Int)=z)=false from aB9 (λe=>ac2 e.symm),aD0];rfl
 intro f hf;simp only[bh,aF8,List.not_mem_nil,or_false]at hf;unfold p3
 rcases hf with rfl|rfl|rfl|rfl|rfl|rfl|rfl|rfl|rfl|rfl|rfl|rfl|rfl|rfl|rfl|rfl|rfl|rfl|rfl|rfl|rfl|rfl|rfl|rfl|rfl|rfl|rfl|rfl|rfl|rfl<;>
  first
  |exact h1 _ (by decide)
  |exact h2 _ _ (by decide) (by decide)
  |exact h3 _ _ _ (by decide) (by decide) (by decide)
def Vu (i:Nat)(st:Nat×Nat):al.den:=((st.1:Int),(i:Int),((bif decide (st.1=0)then 0 else i+st.2:Nat):Int),0,0,([]:LI),())
def qc (i:Nat)(st:Nat×Nat):Nat⊕al.den:=bif decide (st.1=0)then .inl i else .inr ((st.1:Int),(i:Int),((i+st.2:Nat):Int),0,0,([]:LI),())
omit hs in
theorem Bw (hs:s.length<=2097152){i:Nat}(hi:i<s.length):Evt λn=>∀f:LI,jY (S.tab n) (sub s ↑i (s.length:Int)) f=some (pS s i f,ab):=by
 have e:sub s ↑i (s.length:Int)=s.drop i:=by
  rw[oy];unfold bJ;rw[List.take_length]
 have h1:Evt λn=>∀f:LI,kA (S.tab n) (s.drop i) f=some (pS s i f,ab):=aG.up λn _ f=>by
  rw[rh];unfold pS
  by_cases h:f.length<=s.length - i
  ·have e2:sub (s.drop i) (0:Int) (f.length:Int)=bJ s i (i+f.length):=by
    show((s.drop i).take f.length).drop 0=_;unfold bJ;rw[List.drop_zero,List.take_drop]
   rw[ad (by simp only[aC4,aG6];omega),ad (show bounds (s.drop i).length (0:Int) (f.length:Int)=true from dZ (i:=0) (by omega) (by rw[aG6];omega)),e2,aC1 h,aC9]
  ·rw[aB (by simp only[aC8,aG6];omega),aB9 h];rfl
 rw[e]
 exact h1.up λn h f=>by
  rw[wB,h];rfl
theorem Qw {i:Nat}(hi:i<s.length):∀(k:Nat)(st:Nat×Nat),k<=78->Evt λn=>jj (S.tab n) s ↑i (Vu i st) (st.2:Int) (k:Int)=some (Sum.inl ((i:Int),Vu i (runK (pS s i) k st),()))
 |0,st,_=>aG.up λn _=>by
  rw[vz,aB (by decide)];rfl
 |k+1,st,hk=>by
  have ih:=λst=>Qw hi k st (by omega)
  refine((((ih st).and (ih (k+1,(fx (k+1)).length))).and Kn).and ((Bw hs hi).and aG)).up λn ⟨⟨⟨Pc,MC⟩,hf⟩,hp,hb⟩=> ?_
  have w:i64.wrap (((k+1:Nat):Int) - 1)=(k:Int):=by rw[wrap64 _ (by omega) (by omega)];omega
  rw[vz,ad (by simp only[aC4];omega),hf (k+1) (by omega),aC0,w];unfold runK;unfold okF
  by_cases jy:fx (k+1)=[]
  ·rw[aB (by rw[aC1 jy];rfl),aC1 jy];exact Pc
  rw[ad (by rw[aB9 jy];rfl),aB9 jy];have hlen:0<(fx (k+1)).length:=List.length_pos_iff.2 jy;rw[ad (by simp only[aC4];omega),hb.iletter,aC0]
  cases gX:bC ((fx (k+1)).getD 0 0)with
  |true=>
   rw[aB (by rfl)];exact Pc
  |false=>
   rw[ad (by rfl),ad (dZ (by omega) (aE5 _)),hp,aC0]
   cases YL:pS s i (fx (k+1))with
   |false=>
    rw[aB (by rfl)];exact Pc
   |true=>
    rw[ad (by rfl)]
    have hle:(fx (k+1)).length<=s.length - i:=by
     unfold pS at YL;simp only[aC6,aC4]at YL;exact YL.1
    by_cases AP:st.2<(fx (k+1)).length
    ·have w2:i64.wrap ((i:Int)+((fx (k+1)).length:Int))=((i+(fx (k+1)).length:Nat):Int):=by rw[wrap64 _ (by omega) (by omega)];omega
     simp only[w2];rw[ad (by simp only[aC4];omega),aC1 AP];exact MC
    ·rw[aB (by simp only[aC8];omega),aB9 AP];exact Pc
theorem Vg {i:Nat}(hi:i<s.length)(t4:al.den):Evt λn=>eQ (S.tab n) s ↑i t4 (0,(i:Int),0,0,0,([]:LI),()) bh 30 0=
  some (bif decide (lf (pS s i)<30)then Sum.inl (((sgn (bh.getD (lf (pS s i)) []):Int),(i:Int),((i+(bh.getD (lf (pS s i)) []).length:Nat):Int),0,0,([]:LI),()), -1,())else Sum.inr (Sum.inl ((i:Int),t4,(0,(i:Int),0,0,0,([]:LI),()),()))):=by
 have hp:Evt λn=>∀f∈bh,j2 (S.tab n) f=some ((sgn f:Int),aa):=Az bh sign_one
 have hlen:∀k,k<30->(bh.getD k []).length<=3:=by
  have h:∀k:Fin 30,(bh.getD k.1 []).length<=3:=(by decide)
  exact λk hk=>h ⟨k,hk⟩
 refine adv (F:=λT (j:Nat)=>eQ T s ↑i t4 (0,(i:Int),0,0,0,([]:LI),()) bh 30 ↑j) (q:=pq (pS s i)) (N:=30) (p:=λT=>∀f∈bh,j2 T f=some ((sgn f:Int),aa))
  (out:=λk=>bif decide (k<30)then Sum.inl (((sgn (bh.getD k []):Int),(i:Int),((i+(bh.getD k []).length:Nat):Int),0,0,([]:LI),()), -1,())else Sum.inr (Sum.inl ((i:Int),t4,(0,(i:Int),0,0,0,([]:LI),()),())))
  hp (λj h=>by unfold pq;rw[aB9 (by omega)];rfl) ?_ ?_ 30 0 (by omega)
 ·intro T j _ hq;unfold pq pS at hq;simp only[aC6,aC4,aH3,aG9,aC8]at hq;have Gt:=hq.1;have ac6:=hlen j Gt;have hj:j<bh.length:=Gt;show eQ (S.step T) s i t4 _ bh 30 j=eQ T s i t4 _ bh 30 ((j+1:Nat):Int);rw[rR,ad (by simp only[aC4];omega),ad (an hj),bH (by omega),wrap64 ((s.length:Int) - (i:Int)) (by omega) (by omega)];show brk (decide (((bh.getD j []).length:Int)<=_)) _ _=_
  by_cases hle:(bh.getD j []).length<=s.length - i
  ·have w:i64.wrap ((i:Int)+((bh.getD j []).length:Int))=((i+(bh.getD j []).length:Nat):Int):=by rw[wrap64 _ (by omega) (by omega)];omega
   have jy:¬ bJ s i (i+(bh.getD j []).length)=bh.getD j []:=by
    rcases hq.2 with h|h
    ·exact absurd hle h
    ·exact h
   rw[ad (by simp only[aC4];omega)];show brk (bounds s.length i (i64.wrap ((i:Int)+((bh.getD j []).length:Int)))) (brk (decide (sub s i (i64.wrap ((i:Int)+((bh.getD j []).length:Int)))=bh.getD j [])) _ _) _=_;rw[w,ad (dZ (by omega) (by omega)),oy,aM jy]
  ·rw[aB (by simp only[aC8];omega)]
 ·intro T j ac4 hq;show eQ (S.step T) s i t4 _ bh 30 j=_;rw[rR]
  by_cases Gt:j<30
  ·have ac6:=hlen j Gt;have hj:j<bh.length:=Gt;unfold pq at hq;rw[aC1 Gt,aC9,Bool.not_eq_false']at hq;unfold pS at hq;simp only[aC6,aC4]at hq
   have hm:bh.getD j []∈bh:=by
    rw[aE2,aE1 hj];exact aG7 _
   have w:i64.wrap ((i:Int)+((bh.getD j []).length:Int))=((i+(bh.getD j []).length:Nat):Int):=by rw[wrap64 _ (by omega) (by omega)];omega
   rw[ad (by simp only[aC4];omega),ad (an hj),wrap64 ((s.length:Int) - (i:Int)) (by omega) (by omega)];show brk (decide (((bh.getD j []).length:Int)<=_)) (brk (bounds s.length i (i64.wrap ((i:Int)+((bh.getD j []).length:Int)))) (brk (decide (sub s i (i64.wrap ((i:Int)+((bh.getD j []).length:Int)))=bh.getD j [])) ((j2 T (bh.getD j [])).bind λd68=>some (Sum.inl ((d68.1,_,i64.wrap ((i:Int)+((bh.getD j []).length:Int)),_),_,()))) _) _) _=_;rw[ad (by simp only[aC4];omega),w,ad (dZ (by omega) (by omega)),oy,ad (aC1 hq.2),ac4 _ hm,aC0,aC1 Gt];rfl
  ·rw[aB (by simp only[aC8];omega),aB9 Gt];rfl
def kL (s:LI)(i:Nat):Nat⊕al.den:=
 bif bC (get s i)then .inr (Ge s i)else bif aR (get s i)then iZ s i else bif decide (get s i=34)then Ql s i else qc i (ja (p3 s i))
theorem Co (yM:∀c∈s,isByte c){i:Nat}(hi:i<s.length):Evt λn=>∃t' b,iB (S.tab n) s (i:Int)=some ((t',b,()),ab)/\IR (kB (get s i)) (kL s i) t' b:=by
 unfold kL
 cases hl:bC (get s i)with
 |true=>
  exact(F1 hs hi hl).mono λn h=>⟨_,_,h,rfl,rfl⟩
 |false=>
  have start:∀n,Base2 (S.tab n)->iB (S.step (S.tab n)) s (i:Int)=_:=λn hb=>by
   rw[Ca,ad (an hi),aJ,hb.iletter,hl,aC0,aB (by rfl),hb.idigit,aC0]
  cases hd:aR (get s i)with
  |true=>
   refine((DD hs hi hd).and aG).up λn ⟨⟨t',b,h,hr⟩,hb⟩=>⟨t',b, ?_,hr.to λk=>by unfold kB;rw[hd];rfl⟩
   rw[start n hb,hd,ad (by rfl),h];rfl
  |false=>
   by_cases uO:get s i=34
   ·have w1:i64.wrap ((i:Int)+1)=((i+1:Nat):Int):=bH (by omega);rw[aC1 uO]
    refine((F9 hs yM i s.length (i+1) [] (by omega) (by omega) (by simp)).and aG).up λn ⟨⟨t',b,h,hr⟩,hb⟩=>⟨t',b, ?_,hr.to λk=>by unfold kB;rw[hd,aC1 uO];rfl⟩
    rw[start n hb,hd,aB (by rfl),aN uO,w1,h];rfl
   ·rw[aB9 uO]
    show Evt λn=>∃t' b,_/\IR (kB (get s i)) (qc i (ja (p3 s i))) t' b
    have VR:runK (pS s i) 78 (0,0)=ja (p3 s i):=by
     rw[zf (q:=p3 s i) 78 (0,0) λj hj ho=>QZ (s:=s) hi _ (TQ j hj ho)];exact N8 _ _ _
    refine((Qw hs hi 78 (0,0) (aE5 _)).and aG).up λn ⟨h,hb⟩=> ?_
    show∃t' b,iB (S.step (S.tab n)) _ _=_/\_;have h:jj (S.tab n) s ↑i (0,(i:Int),0,0,0,([]:LI),()) 0 78=_:=h;rw[start n hb,hd,aB (by rfl),aM uO,h,VR,aC0]
    generalize ja (p3 s i)=st
    obtain⟨a,b⟩:=st;unfold qc Vu;simp only[aO,aE3]
    by_cases h0:a=0
    ·have d:decide ((a:Int)=0)=true:=aC1 (by omega);rw[ad d,aC1 h0];exact⟨_,_,rfl,rfl,rfl,by unfold kB;rw[hd,aB9 uO];exact d⟩
    ·have d:decide ((a:Int)=0)=false:=aB9 (by omega);rw[aB d,aB9 h0];exact⟨_,_,rfl,rfl,rfl⟩
theorem uR {i:Nat}(hi:i<s.length)(yg:get s i≠10):Evt λn=>∃t' b,dX (S.tab n) s (i:Int)=some ((t',b,()),ab)/\SR (kB (get s i)) (kL s i) t' b:=by
 unfold kL
 have start:∀n,Base2 (S.tab n)->dX (S.step (S.tab n)) s (i:Int)=_:=λn hb=>by
  rw[wF,ad (an hi),aJ,aM yg,hb.sletter,aC0]
 cases hl:bC (get s i)with
 |true=>
  refine((D2 hs hi _ rfl).and aG).up λn ⟨h,hb⟩=> ?_
  show∃t' b,dX (S.step (S.tab n)) _ _=_/\_;rw[start n hb,hl,ad (by rfl),h];exact⟨_,_,rfl,rfl,rfl⟩
 |false=>
  cases hd:aR (get s i)with
  |true=>
   refine((Bc hs hi hd).and aG).up λn ⟨⟨t',b,h,hr⟩,hb⟩=>⟨t',b, ?_,hr.to λk=>by unfold kB;rw[hd];rfl⟩
   rw[start n hb,hl,aB (by rfl),hb.sdigit,aC0,hd,ad (by rfl),h];rfl
  |false=>
   by_cases uO:get s i=34
   ·rw[aC1 uO]
    refine((A7 hs hi).and aG).up λn ⟨⟨t',b,h,hr⟩,hb⟩=>⟨t',b, ?_,hr.to λk=>by unfold kB;rw[hd,aC1 uO];rfl⟩
    rw[start n hb,hl,aB (by rfl),hb.sdigit,aC0,hd,aB (by rfl),aN uO,h];rfl
   ·rw[aB9 uO]
    show Evt λn=>∃t' b,_/\SR (kB (get s i)) (qc i (ja (p3 s i))) t' b
    have VR:ja (pS s i)=ja (p3 s i):=uV (QZ (s:=s) hi)
    refine((Vg hs hi (0,0,0,0,0,([]:LI),())).and (J0.and aG)).up λn ⟨h,au3,hb⟩=> ?_
    show∃t' b,dX (S.step (S.tab n)) _ _=_/\_;rw[start n hb,hl,aB (by rfl),hb.sdigit,aC0,hd,aB (by rfl),aM uO,au3,aC0];show∃t' b,(eQ (S.tab n) s ↑i _ _ bh 30 0).bind _=_/\_;rw[h,aC0,<-VR];unfold qc ja
    cases decide (lf (pS s i)<30)with
    |true=>
     simp only[aD6];rw[aB9 (Dr _)];exact⟨_,_,rfl,rfl,rfl⟩
    |false=>exact⟨_,_,rfl,rfl,by unfold kB;rw[hd,aB9 uO];rfl⟩
theorem wL {i:Nat}(hi:i<s.length)(yg:get s i=10):Evt λn=>dX (S.tab n) s (i:Int)=some (((7,(i:Int),((i+1:Nat):Int),0,0,([]:LI),()), -1,()),ab):=aG.up λn hb=>by
 have w1:i64.wrap ((i:Int)+1)=((i+1:Nat):Int):=bH (by omega);rw[wF,ad (an hi),aJ,aN yg,w1]
end Go.Abs.D
end

section
namespace Go.Abs.D
def Adv (s:LI)(i:Nat)(t:al.den):Prop:=(∃e:Nat,t.2.2.1=(e:Int)/\i<e/\e<=s.length)/\t.1≠7
theorem Ea {s:LI}{i j:Nat}(f:Bool)(h1:i<j)(h2:j<=s.length):Adv s i (jC s i j f):=by
 unfold jC
 cases f|| !decide (dv 0 (bJ s i j)<9223372036854775808)with
 |true=>exact⟨⟨j,rfl,h1,h2⟩,show(3:Int)≠7 by decide⟩
 |false=>exact⟨⟨j,rfl,h1,h2⟩,show(2:Int)≠7 by decide⟩
theorem JH {s:LI}{i j:Nat}(f:Bool)(h1:i<j)(h2:j<=s.length){t:al.den}(h:sw s i j f= .inr t):Adv s i t:=by
 unfold sw at h
 cases h5:decide (get s j=101)with
 |true=>
  rw[h5]at h
  cases hd:aR (get s (lz s j))with
  |true=>
   rw[hd]at h;have hl:=pW hd
   have hk:j<lz s j:=by unfold lz;cases decide (get s (j+1)=43)||decide (get s (j+1)=45)<;>simp
   have:=pE s (lz s j)
   injection h with h
   subst h;exact Ea _ (by omega) (pD (by omega))
  |false=>rw[hd]at h;cases h
 |false=>
  rw[h5]at h
  injection h with h
  subst h;exact Ea _ h1 h2
theorem JV {s:LI}{i j:Nat}(h1:i<j)(h2:j<=s.length){t:al.den}(h:sj s i j= .inr t):Adv s i t:=by
 unfold sj at h
 cases h5:decide (get s j=46)&&aR (get s (j+1))with
 |true=>
  rw[h5]at h;rw[aC6]at h5;have hl:=pW h5.2;have:=pE s (j+1);exact JH _ (by omega) (pD (by omega)) h
 |false=>
  rw[h5]at h;exact JH _ h1 h2 h
theorem LD {s:LI}{i:Nat}(hi:i+2<=s.length){t:al.den}(h:ic s i= .inr t):Adv s i t:=by
 have h1:j8 s (i+18) (i+2)<=s.length:=se BH _ _ hi;have h2:i+2<=j8 s (i+18) (i+2):=qU _ _;unfold ic at h
 by_cases he:j8 s (i+18) (i+2)=i+2
 ·simp only[he,if_true]at h;cases h
 ·simp only[he,aH6]at h
  cases hx:gy (get s (j8 s (i+18) (i+2)))with
  |true=>simp only[hx,if_true]at h;cases h
  |false=>
   simp only[hx,aG2,aH6]at h
   injection h with h
   subst h;exact⟨⟨_,rfl,by omega,h1⟩,show(2:Int)≠7 by decide⟩
theorem Ao {s:LI}:∀(k j:Nat)(o:LI)(e:Nat)(r:LI),eB s k j o= .inr (e,r)->j<e/\e<=s.length
 |0,j,o,e,r,h=>by cases h
 |k+1,j,o,e,r,h=>by
  have Pc:=Ao (s:=s) k (j+1);have MC:=Ao (s:=s) k (j+2);have ae2:=Ao (s:=s) k (j+4);unfold eB at h
  by_cases hl:s.length<=j
  ·rw[aC1 hl]at h;cases h
  rw[aB9 hl]at h
  cases h1:decide (get s j=10)with
  |true=>rw[h1]at h;cases h
  |false=>
  rw[h1]at h
  cases h1:decide (get s j=34)with
  |true=>rw[h1]at h;injection h with h;injection h with h _;subst h;omega
  |false=>
  rw[h1]at h
  cases h1:decide (get s j=92)with
  |false=>rw[h1]at h;have:=Pc _ _ _ h;omega
  |true=>
  rw[h1]at h
  cases h1:decide (get s (j+1)=110)with
  |true=>rw[h1]at h;have:=MC _ _ _ h;omega
  |false=>
  rw[h1]at h
  cases h1:decide (get s (j+1)=116)with
  |true=>rw[h1]at h;have:=MC _ _ _ h;omega
  |false=>
  rw[h1]at h
  cases h1:decide (get s (j+1)=34)with
  |true=>rw[h1]at h;have:=MC _ _ _ h;omega
  |false=>
  rw[h1]at h
  cases h1:decide (get s (j+1)=92)with
  |true=>rw[h1]at h;have:=MC _ _ _ h;omega
  |false=>
  rw[h1]at h
  cases h1:decide (get s (j+1)=120)with
  |false=>rw[h1]at h;cases h
  |true=>
  rw[h1]at h
  cases h1:gy (get s (j+2))with
  |false=>rw[h1]at h;cases h
  |true=>
  rw[h1]at h
  cases h1:gy (get s (j+3))with
  |false=>rw[h1]at h;cases h
  |true=>rw[h1]at h;have:=ae2 _ _ _ h;omega
theorem aa6 (f:LI):sgn f≠7:=by
 unfold sgn
 cases h1:decide (stop (sq opsL f) 19 1<19)with
 |true=>rw[aD6];omega
 |false=>
  cases h2:decide (stop (sq Lx.lY f) 11 0<11)with
  |true=>rw[aD1,aD6];omega
  |false=>rw[aD1,aD1];omega
theorem GK {s:LI}(hs:s.length<=2097152){i:Nat}(hi:i<s.length){t:al.den}(h:kL s i= .inr t):Adv s i t:=by
 unfold kL at h
 cases hl:bC (get s i)with
 |true=>
  rw[hl]at h
  injection h with h
  subst h;have hle:tJ s i<=s.length:=se qm _ _ (by omega)
  have am0:i<tJ s i:=by
   have hq:wq s i=true:=by unfold wq;rw[hl];rfl
   have e:=G0 (q:=wq s) (N:=s.length) qm (k:=s.length) (j:=i) (by omega) hq;have:=qU (q:=wq s) s.length (i+1);unfold tJ;omega
  unfold Ge;simp only;split
  ·exact⟨⟨_,rfl,am0,hle⟩,by show((10+uG _:Nat):Int)≠7;omega⟩
  ·exact⟨⟨_,rfl,am0,hle⟩,show(1:Int)≠7 by decide⟩
 |false=>
  rw[hl]at h
  cases hd:aR (get s i)with
  |true=>
   rw[hd]at h;have h:iZ s i= .inr t:=h;unfold iZ at h
   cases h0:decide (get s i=48)with
   |true=>
    cases hx:decide (get s (i+1)=120)with
    |true=>
     rw[h0,hx]at h;have:=dH (of_decide_eq_true hx) (by decide);exact LD (by omega) h
    |false=>
     rw[h0,hx]at h;exact JV (j:=i+1) (by omega) (by omega) h
   |false=>
    rw[h0]at h;have:=pE s (i+1);exact JV (j:=oC s (i+1)) (by omega) (pD (by omega)) h
  |false=>
   rw[hd]at h
   cases zC:decide (get s i=34)with
   |true=>
    rw[zC]at h;have h:Gf i (eB s s.length (i+1) [])= .inr t:=h
    cases hr:eB s s.length (i+1) []with
    |inl e=>rw[hr]at h;cases h
    |inr y=>
     rw[hr]at h;obtain⟨e,r⟩:=y;have:=Ao _ _ _ _ _ hr
     injection h with h
     subst h;exact⟨⟨e,rfl,by omega,by omega⟩,show(4:Int)≠7 by decide⟩
   |false=>
    rw[zC]at h;have h:qc i (ja (p3 s i))= .inr t:=h;rw[<-uV (QZ (s:=s) hi)]at h;unfold qc ja at h
    cases hk:decide (lf (pS s i)<30)with
    |false=>rw[hk]at h;cases h
    |true=>
     rw[hk]at h;simp only[aD6]at h;rw[aB9 (Dr _)]at h
     injection h with h
     subst h;have hq:pq (pS s i) (lf (pS s i))=false:=pY (N:=30) (λj h=>by unfold pq;rw[aB9 (by omega)];rfl) 30 0 (by omega);unfold pq at hq;rw[hk,aC9,Bool.not_eq_false']at hq;have hq:(decide ((bh.getD (lf (pS s i)) []).length<=s.length - i)&&decide (bJ s i (i+(bh.getD (lf (pS s i)) []).length)=bh.getD (lf (pS s i)) []))=true:=hq;rw[aC6,aC4]at hq
     have qf:0<(bh.getD (lf (pS s i)) []).length:=by
      have h:∀k:Fin 30,0<(bh.getD k.1 []).length:=(by decide);exact h ⟨_,of_decide_eq_true hk⟩
     exact⟨⟨_,rfl,by omega,by omega⟩,by
      have:=aa6 (bh.getD (lf (pS s i)) []);show((sgn _:Nat):Int)≠7
      omega⟩
end Go.Abs.D
end

section

end

section
set_option maxRecDepth 100000
namespace Go.Abs.D
noncomputable def sn:Nat->S.Tab->S.Tab
 |0,T=>T
 |n+1,T=>S.step (sn n T)
noncomputable def ar (t0:LI):Option ((LI×Bool×Bool×Unit)×Unit×Unit):=
 some ((t0,true,false,()),aa)
theorem wU (T:S.Tab):aC (sn 1 T)=ar:=by
 funext a0
 show aC (S.step (sn 0 T)) a0=_;rw[DF];rfl
noncomputable def qk (t0:Int):Option (Bool×Unit×Unit):=
 brk (decide (t0=22)) (
  brk (decide (t0=22)) (
   some (true,aa)) (
   some (false,aa))) (
  brk (decide (t0=13)) (
   brk (decide (t0=13)) (
    some (true,aa)) (
    some (false,aa))) (
   brk (decide (t0=18)) (
    brk (decide (t0=18)) (
     some (true,aa)) (
     some (false,aa))) (
    brk (decide (t0=20)) (
     brk (decide (t0=20)) (
      some (true,aa)) (
      some (false,aa))) (
     brk (decide (t0=31)) (
      brk (decide (t0=31)) (
       some (true,aa)) (
       some (false,aa))) (
      brk (decide (t0=19)) (
       brk (decide (t0=19)) (
        some (true,aa)) (
        some (false,aa))) (
       brk (decide (t0=11)) (
        brk (decide (t0=11)) (
         some (true,aa)) (
         some (false,aa))) (
        brk (decide (t0=23)) (
         brk (decide (t0=23)) (
          some (true,aa)) (
          some (false,aa))) (
         brk (decide (t0=27)) (
          brk (decide (t0=27)) (
           some (true,aa)) (
           some (false,aa))) (
          brk (decide (t0=30)) (
           brk (decide (t0=30)) (
            some (true,aa)) (
            some (false,aa))) (
           brk (decide (t0=28)) (
            brk (decide (t0=28)) (
             some (true,aa)) (
             some (false,aa))) (
            brk (decide (t0=14)) (
             brk (decide (t0=14)) (
              some (true,aa)) (
              some (false,aa))) (
             brk (decide (t0=42)) (
              brk (decide (t0=42)) (
               some (true,aa)) (
               some (false,aa))) (
              brk (decide (t0=1)) (
               brk (decide (t0=1)) (
                some (true,aa)) (
                some (false,aa))) (
               brk (decide (t0=40)) (
                some (true,aa)) (
                some (false,aa))))))))))))))))
theorem AZ (T:S.Tab):nj (sn 1 T)=qk:=by
 funext a0
 show nj (S.step (sn 0 T)) a0=_;rw[A8];rfl
noncomputable def bL  :Option ((LI×Bool×Bool×Unit)×Unit):=
 some (([],false,true,()),fE)
theorem DI (T:S.Tab):cd (sn 1 T)=bL:=by
 show cd (S.step (sn 0 T))=_;rw[DY];rfl
noncomputable def dA  :Option ((LI×Bool×Bool×Unit)×Unit):=
 some (([],false,false,()),fE)
theorem DU (T:S.Tab):dW (sn 1 T)=dA:=by
 show dW (S.step (sn 0 T))=_;rw[DP];rfl
noncomputable def bN (t0:Int):Option (Bool×Unit×Unit):=
 brk (decide (t0=25)) (
  some (true,aa)) (
  brk (decide (t0=50)) (
   some (true,aa)) (
   brk (decide (t0=62)) (
    some (true,aa)) (
    some (decide (t0=69),aa))))
theorem rq (T:S.Tab):bw (sn 1 T)=bN:=by
 funext a0
 show bw (S.step (sn 0 T)) a0=_;rw[ri];rfl
noncomputable def fG (t0:Int):Option (Bool×Unit×Unit):=
 brk (decide (t0=1)) (
  brk (decide (t0=1)) (
   some (true,aa)) (
   (bN t0).bind λd17=>
   some (d17.1,aa))) (
  brk (decide (t0=40)) (
   brk (decide (t0=40)) (
    some (true,aa)) (
    (bN t0).bind λd17=>
    some (d17.1,aa))) (
   brk (decide (t0=2)) (
    brk (decide (t0=2)) (
     some (true,aa)) (
     (bN t0).bind λd17=>
     some (d17.1,aa))) (
    brk (decide (t0=3)) (
     brk (decide (t0=3)) (
      some (true,aa)) (
      (bN t0).bind λd17=>
      some (d17.1,aa))) (
     brk (decide (t0=4)) (
      brk (decide (t0=4)) (
       some (true,aa)) (
       (bN t0).bind λd17=>
       some (d17.1,aa))) (
      brk (decide (t0=24)) (
       brk (decide (t0=24)) (
        some (true,aa)) (
        (bN t0).bind λd17=>
        some (d17.1,aa))) (
       brk (decide (t0=29)) (
        brk (decide (t0=29)) (
         some (true,aa)) (
         (bN t0).bind λd17=>
         some (d17.1,aa))) (
        brk (decide (t0=17)) (
         brk (decide (t0=17)) (
          some (true,aa)) (
          (bN t0).bind λd17=>
          some (d17.1,aa))) (
         brk (decide (t0=49)) (
          brk (decide (t0=49)) (
           some (true,aa)) (
           (bN t0).bind λd17=>
           some (d17.1,aa))) (
          brk (decide (t0=18)) (
           brk (decide (t0=18)) (
            some (true,aa)) (
            (bN t0).bind λd17=>
            some (d17.1,aa))) (
           brk (decide (t0=42)) (
            some (true,aa)) (
            (bN t0).bind λd17=>
            some (d17.1,aa))))))))))))
theorem Bj (T:S.Tab):dB (sn 2 T)=fG:=by
 have oD:bw (sn 1 T)=bN:=rq (sn 0 T)
 funext a0
 show dB (S.step (sn 1 T)) a0=_;rw[uj];rw[oD];rfl
noncomputable def gA (t0:Int)(t1:Int)(t2:Int):Option ((LI×Bool×Unit)×Unit×Unit×Int×Unit):=
 brk (decide (t2=48)) (
  some ((([48,1,t0]:LI),true,()),(),(),t2,())) (
  brk (decide (t2=44)) (
   some ((([44,1018,45,t0]:LI),true,()),(),(),t2,())) (
   brk (decide (t2=40)) (
    some ((([40,1022,41,t1]:LI),true,()),(),(),t2,())) (
    some (([],false,()),(),(),t2,()))))
theorem DQ (T:S.Tab):gV (sn 1 T)=gA:=by
 funext a0
 funext a1
 funext a2
 show gV (S.step (sn 0 T)) a0 a1 a2=_;rw[Dz];rfl
noncomputable def Bn (t0:Int)(t1:Int)(t2:Int):Option (Bool×Unit×Unit×Unit×Unit):=
 brk (decide (t1<=t0)) (
  some (decide (t0<=t2),aT)) (
  some (false,aT))
theorem Li (T:S.Tab):jF (sn 1 T)=Bn:=by
 funext a0
 funext a1
 funext a2
 show jF (S.step (sn 0 T)) a0 a1 a2=_;rw[Ev];rfl
noncomputable def oU (t0:Int):Option (Bool×Unit×Unit):=
 brk (decide (t0=10)) (
  some (true,aa)) (
  brk (decide (t0=26)) (
   some (true,aa)) (
   (Bn t0 61 78).bind λd11=>
   some (d11.1,aa)))
theorem zP (T:S.Tab):mm (sn 2 T)=oU:=by
 have OQ:jF (sn 1 T)=Bn:=Li (sn 0 T)
 funext a0
 show mm (S.step (sn 1 T)) a0=_;rw[zN];rw[OQ];rfl
noncomputable def nD (t3:Int)(t41:Int)(t90:Bool):Option ((LI×Bool×Bool×Unit)⊕(Unit)⊕Empty):=
 brk (t90) (
  (ar ([t3,1001]:LI)).bind λd96=>
  some (Sum.inl d96.1)) (
  brk (decide (t41=27)) (
   (ar ([27,1007,1001]:LI)).bind λd104=>
   some (Sum.inl d104.1)) (
   brk (decide (t41=30)) (
    (ar ([30,1027,12,1,1008,1027,1001]:LI)).bind λd112=>
    some (Sum.inl d112.1)) (
    brk (decide (t41=28)) (
     (ar ([28,1018,1001]:LI)).bind λd120=>
     some (Sum.inl d120.1)) (
     brk (decide (t41=14)) (
      (ar ([14,1015,1001]:LI)).bind λd128=>
      some (Sum.inl d128.1)) (
      brk (decide (t41=42)) (
       (ar ([1027,1001]:LI)).bind λd136=>
       some (Sum.inl d136.1)) (
       brk (decide (t41=1)) (
        (ar ([1,1009,1001]:LI)).bind λd144=>
        some (Sum.inl d144.1)) (
        brk (decide (t41=40)) (
         (ar ([40,1018,41,1011,1001]:LI)).bind λd152=>
         some (Sum.inl d152.1)) (
         some (Sum.inr (Sum.inl ()))))))))))
theorem AR (T:S.Tab):lM (sn 2 T)=nD:=by
 have tK:aC (sn 1 T)=ar:=wU (sn 0 T)
 funext a0
 funext a1
 funext a2
 show lM (S.step (sn 1 T)) a0 a1 a2=_;rw[A2];rw[tK];rfl
noncomputable def Ce (t0:Int)(t1:Int):Option ((LI×Bool×Bool×Unit)×Unit×Unit×Unit):=
 brk (decide (t0=1000)) (
  brk (decide (t1=5)) (
   (ar ([5,1000]:LI)).bind λd35=>
   some (d35.1,ab)) (
   (qk t1).bind λd40=>
   brk (d40.1) (
    brk (decide (t1=22)) (
     (ar ([22,1,1006,1002,1001]:LI)).bind λd46=>
     some (d46.1,ab)) (
     brk (decide (t1=13)) (
      (ar ([13,1,47,1018,1001]:LI)).bind λd54=>
      some (d54.1,ab)) (
      brk (decide (t1=18)) (
       (ar ([18,1,1028,1001]:LI)).bind λd62=>
       some (d62.1,ab)) (
       brk (decide (t1=20)) (
        (ar ([20,1018,1027,1003,1001]:LI)).bind λd70=>
        some (d70.1,ab)) (
        brk (decide (t1=31)) (
         (ar ([31,1018,1027,1001]:LI)).bind λd78=>
         some (d78.1,ab)) (
         brk (decide (t1=19)) (
          (ar ([19,1,1004,1001]:LI)).bind λd86=>
          some (d86.1,ab)) (
          brk (decide (t1=11)) (
           (nD t1 t1 (decide (t1=11))).bind (bB
             (λMH=>
            some (MH,ab))
             (λMH=>
            (bL).bind λd157=>
            some (d157.1,ab)))) (
           (nD t1 t1 (decide (t1=23))).bind (bB
             (λMH=>
            some (MH,ab))
             (λMH=>
            (bL).bind λd157=>
            some (d157.1,ab))))))))))) (
    (bL).bind λd157=>
    some (d157.1,ab)))) (
  brk (decide (t0=1001)) (
   brk (decide (t1=5)) (
    (ar ([5,1000]:LI)).bind λd167=>
    some (d167.1,ab)) (
    (bL).bind λd172=>
    some (d172.1,ab))) (
   brk (decide (t0=1002)) (
    brk (decide (t1=47)) (
     (ar ([47,1018,1023]:LI)).bind λd182=>
     some (d182.1,ab)) (
     (bL).bind λd187=>
     some (d187.1,ab))) (
    brk (decide (t0=1003)) (
     brk (decide (t1=15)) (
      (ar ([15,1018,1027,1003]:LI)).bind λd197=>
      some (d197.1,ab)) (
      brk (decide (t1=16)) (
       (ar ([16,1027]:LI)).bind λd205=>
       some (d205.1,ab)) (
       (bL).bind λd210=>
       some (d210.1,ab)))) (
     brk (decide (t0=1004)) (
      brk (decide (t1=47)) (
       (ar ([47,1018,46,1018,1005,1027]:LI)).bind λd221=>
       some (d221.1,ab)) (
       brk (decide (t1=46)) (
        (ar ([46,1,1006,21,1018,1027]:LI)).bind λd229=>
        some (d229.1,ab)) (
        brk (decide (t1=21)) (
         (ar ([21,1018,1027]:LI)).bind λd237=>
         some (d237.1,ab)) (
         (dA).bind λd242=>
         some (d242.1,ab))))) (
      brk (decide (t0=1005)) (
       brk (decide (t1=46)) (
        (ar ([46,1018]:LI)).bind λd252=>
        some (d252.1,ab)) (
        (bL).bind λd257=>
        some (d257.1,ab))) (
       brk (decide (t0=1006)) (
        brk (decide (t1=46)) (
         (ar ([46,1,1006]:LI)).bind λd267=>
         some (d267.1,ab)) (
         (bL).bind λd272=>
         some (d272.1,ab))) (
        brk (decide (t0=1007)) (
         (fG t1).bind λd279=>
         brk (d279.1) (
          (ar ([1018,1023]:LI)).bind λd282=>
          some (d282.1,ab)) (
          (bL).bind λd287=>
          some (d287.1,ab))) (
         brk (decide (t0=1008)) (
          brk (decide (t1=46)) (
           (ar ([46,1]:LI)).bind λd297=>
           some (d297.1,ab)) (
           (bL).bind λd302=>
           some (d302.1,ab))) (
          brk (decide (t0=1009)) (
           (gA 1009 1010 t1).bind λd310=>
           brk (d310.1.2.1) (
            some ((d310.1.1,true,false,()),ab)) (
            brk (decide (d310.2.2.2.1=47)) (
             (ar ([47,1018,1023]:LI)).bind λd319=>
             some (d319.1,ab)) (
             brk (decide (d310.2.2.2.1=46)) (
              (ar ([46,1012]:LI)).bind λd327=>
              some (d327.1,ab)) (
              (dA).bind λd332=>
              some (d332.1,ab))))) (
           brk (decide (t0=1010)) (
            (gA 1009 1010 t1).bind λd340=>
            brk (d340.1.2.1) (
             some ((d340.1.1,true,false,()),ab)) (
             (bL).bind λd346=>
             some (d346.1,ab))) (
            brk (decide (t0=1011)) (
             (gA 1009 1010 t1).bind λd354=>
             some ((d354.1.1,d354.1.2.1,false,()),ab)) (
             brk (decide (t0=1012)) (
              brk (decide (t1=1)) (
               (ar ([1,1013]:LI)).bind λd365=>
               some (d365.1,ab)) (
               brk (decide (t1=40)) (
                (ar ([40,1018,41,1014]:LI)).bind λWX=>
                some (WX.1,ab)) (
                (dA).bind λWx=>
                some (Wx.1,ab)))) (
              brk (decide (t0=1013)) (
               (gA 1013 1014 t1).bind λIN=>
               brk (IN.1.2.1) (
                some ((IN.1.1,true,false,()),ab)) (
                brk (decide (IN.2.2.2.1=47)) (
                 (ar ([47,1018,1023]:LI)).bind λWz=>
                 some (Wz.1,ab)) (
                 brk (decide (IN.2.2.2.1=46)) (
                  (ar ([46,1012]:LI)).bind λWr=>
                  some (Wr.1,ab)) (
                  (dA).bind λWB=>
                  some (WB.1,ab))))) (
               brk (decide (t0=1014)) (
                (gA 1013 1014 t1).bind λRj=>
                some ((Rj.1.1,Rj.1.2.1,false,()),ab)) (
                brk (decide (t0=1015)) (
                 brk (decide (t1=1)) (
                  (ar ([1,1016]:LI)).bind λOW=>
                  some (OW.1,ab)) (
                  brk (decide (t1=40)) (
                   (ar ([40,1018,41,1016]:LI)).bind λWQ=>
                   some (WQ.1,ab)) (
                   (dA).bind λWM=>
                   some (WM.1,ab)))) (
                 brk (decide (t0=1016)) (
                  (gA 1016 1017 t1).bind λMB=>
                  some ((MB.1.1,MB.1.2.1,false,()),ab)) (
                  brk (decide (t0=1017)) (
                   (gA 1016 1017 t1).bind λRD=>
                   some ((RD.1.1,RD.1.2.1,true,()),ab)) (
                   brk (decide (t0=1018)) (
                    (fG t1).bind λWN=>
                    brk (WN.1) (
                     (ar ([1020,1019]:LI)).bind λXb=>
                     some (Xb.1,ab)) (
                     (dA).bind λWj=>
                     some (Wj.1,ab))) (
                    brk (decide (t0=1019)) (
                     (oU t1).bind λRM=>
                     brk (RM.1) (
                      (ar ([t1,1020,1019]:LI)).bind λW5=>
                      some (W5.1,ab)) (
                      (bL).bind λWG=>
                      some (WG.1,ab))) (
                     brk (decide (t0=1020)) (
                      (bN t1).bind λVW=>
                      brk (VW.1) (
                       (ar ([t1,1020]:LI)).bind λO6=>
                       some (O6.1,ab)) (
                       brk (decide (t1=1)) (
                        (ar ([1,1021]:LI)).bind λVY=>
                        some (VY.1,ab)) (
                        brk (decide (t1=40)) (
                         (ar ([40,1018,41,1021]:LI)).bind λWW=>
                         some (WW.1,ab)) (
                         brk (decide (t1=18)) (
                          (ar ([18,1028]:LI)).bind λWq=>
                          some (Wq.1,ab)) (
                          brk (decide (t1=42)) (
                           (ar ([42,1029,43]:LI)).bind λVP=>
                           some (VP.1,ab)) (
                           (fG t1).bind λWg=>
                           brk (Wg.1) (
                            (ar ([t1]:LI)).bind λRB=>
                            some (RB.1,ab)) (
                            (dA).bind λV5=>
                            some (V5.1,ab)))))))) (
                      brk (decide (t0=1021)) (
                       (gA 1021 1021 t1).bind λRC=>
                       some ((RC.1.1,RC.1.2.1,true,()),ab)) (
                       brk (decide (t0=1022)) (
                        (fG t1).bind λVU=>
                        brk (VU.1) (
                         (ar ([1018,1023]:LI)).bind λXk=>
                         some (Xk.1,ab)) (
                         (bL).bind λWO=>
                         some (WO.1,ab))) (
                        brk (decide (t0=1023)) (
                         brk (decide (t1=46)) (
                          (ar ([46,1018,1023]:LI)).bind λWH=>
                          some (WH.1,ab)) (
                          (bL).bind λV6=>
                          some (V6.1,ab))) (
                         brk (decide (t0=1028)) (
                          brk (decide (t1=40)) (
                           (ar ([40,1024,41,1027]:LI)).bind λXf=>
                           some (Xf.1,ab)) (
                           (dA).bind λW6=>
                           some (W6.1,ab))) (
                          brk (decide (t0=1024)) (
                           brk (decide (t1=49)) (
                            (ar ([49]:LI)).bind λWv=>
                            some (Wv.1,ab)) (
                            brk (decide (t1=1)) (
                             (ar ([1,1025]:LI)).bind λXg=>
                             some (Xg.1,ab)) (
                             (bL).bind λVS=>
                             some (VS.1,ab)))) (
                           brk (decide (t0=1025)) (
                            brk (decide (t1=46)) (
                             (ar ([46,1026]:LI)).bind λW8=>
                             some (W8.1,ab)) (
                             (bL).bind λVL=>
                             some (VL.1,ab))) (
                            brk (decide (t0=1026)) (
                             brk (decide (t1=1)) (
                              (ar ([1,1025]:LI)).bind λVH=>
                              some (VH.1,ab)) (
                              brk (decide (t1=49)) (
                               (ar ([49]:LI)).bind λWf=>
                               some (Wf.1,ab)) (
                               (dA).bind λWT=>
                               some (WT.1,ab)))) (
                             brk (decide (t0=1027)) (
                              brk (decide (t1=42)) (
                               (ar ([42,1000,43]:LI)).bind λWE=>
                               some (WE.1,ab)) (
                               (dA).bind λWd=>
                               some (Wd.1,ab))) (
                              brk (decide (t0=1029)) (
                               (fG t1).bind λVX=>
                               brk (VX.1) (
                                (ar ([1032,1030]:LI)).bind λFI=>
                                some (FI.1,ab)) (
                                brk (decide (t1=44)) (
                                 (ar ([1032,1030]:LI)).bind λFI=>
                                 some (FI.1,ab)) (
                                 brk (decide (t1=48)) (
                                  (ar ([1032,1030]:LI)).bind λFI=>
                                  some (FI.1,ab)) (
                                  (bL).bind λWm=>
                                  some (Wm.1,ab))))) (
                               brk (decide (t0=1030)) (
                                brk (decide (t1=46)) (
                                 (ar ([46,1031]:LI)).bind λVM=>
                                 some (VM.1,ab)) (
                                 (bL).bind λWa=>
                                 some (Wa.1,ab))) (
                                brk (decide (t0=1031)) (
                                 (fG t1).bind λWw=>
                                 brk (Ww.1) (
                                  (ar ([1032,1030]:LI)).bind λFx=>
                                  some (Fx.1,ab)) (
                                  brk (decide (t1=44)) (
                                   (ar ([1032,1030]:LI)).bind λFx=>
                                   some (Fx.1,ab)) (
                                   brk (decide (t1=48)) (
                                    (ar ([1032,1030]:LI)).bind λFx=>
                                    some (Fx.1,ab)) (
                                    (bL).bind λXe=>
                                    some (Xe.1,ab))))) (
                                 brk (decide (t0=1032)) (
                                  brk (decide (t1=44)) (
                                   (ar ([44,1018,45,47,1018]:LI)).bind λWI=>
                                   some (WI.1,ab)) (
                                   brk (decide (t1=48)) (
                                    (ar ([48,1,47,1018]:LI)).bind λWD=>
                                    some (WD.1,ab)) (
                                    (fG t1).bind λXi=>
                                    brk (Xi.1) (
                                     (ar ([1018]:LI)).bind λW4=>
                                     some (W4.1,ab)) (
                                     (dA).bind λW0=>
                                     some (W0.1,ab))))) (
                                  (dA).bind λWe=>
                                  some (We.1,ab))))))))))))))))))))))))))))))))))
theorem HD (T:S.Tab):kJ (sn 3 T)=Ce:=by
 have tK:aC (sn 2 T)=ar:=wU (sn 1 T);have C5:nj (sn 2 T)=qk:=AZ (sn 1 T);have Gy:cd (sn 2 T)=bL:=DI (sn 1 T);have Gq:dW (sn 2 T)=dA:=DU (sn 1 T);have oD:bw (sn 2 T)=bN:=rq (sn 1 T);have C3:dB (sn 2 T)=fG:=Bj (sn 0 T);have Gv:gV (sn 2 T)=gA:=DQ (sn 1 T);have BV:mm (sn 2 T)=oU:=zP (sn 0 T);have C7:lM (sn 2 T)=nD:=AR (sn 0 T)
 funext a0
 funext a1
 show kJ (S.step (sn 2 T)) a0 a1=_;rw[Ho];rw[tK,C5,Gy,Gq,oD,C3,Gv,BV,C7];rfl
noncomputable def aq (t0:LI):Option (LI×Unit×Unit):=
 some (t0,aa)
theorem il (T:S.Tab):aA (sn 1 T)=aq:=by
 funext a0
 show aA (S.step (sn 0 T)) a0=_;rw[F3];rfl
noncomputable def lT (t0:Int)(t4:Int)(t35:Bool):Option ((LI×Bool×Unit)⊕(Unit)⊕Empty):=
 brk (t35) (
  (aq ([t0]:LI)).bind λd40=>
  some (Sum.inl (d40.1,true,()))) (
  brk (decide (t4=27)) (
   (aq ([t0,108]:LI)).bind λd45=>
   some (Sum.inl (d45.1,true,()))) (
   brk (decide (t4=30)) (
    (aq ([t0,132,12,1,109,132]:LI)).bind λd50=>
    some (Sum.inl (d50.1,true,()))) (
    brk (decide (t4=28)) (
     (aq ([t0,119]:LI)).bind λd55=>
     some (Sum.inl (d55.1,true,()))) (
     brk (decide (t4=14)) (
      (aq ([t0,116]:LI)).bind λd60=>
      some (Sum.inl (d60.1,true,()))) (
      brk (decide (t4=42)) (
       (aq ([132]:LI)).bind λd64=>
       some (Sum.inl (d64.1,true,()))) (
       brk (decide (t4=1)) (
        (aq ([t0,110]:LI)).bind λd69=>
        some (Sum.inl (d69.1,true,()))) (
        brk (decide (t4=40)) (
         (aq ([t0,119,41,112]:LI)).bind λd74=>
         some (Sum.inl (d74.1,true,()))) (
         some (Sum.inr (Sum.inl ()))))))))))
theorem yU (T:S.Tab):jM (sn 2 T)=lT:=by
 have db:aA (sn 1 T)=aq:=il (sn 0 T)
 funext a0
 funext a1
 funext a2
 show jM (S.step (sn 1 T)) a0 a1 a2=_;rw[zc];rw[db];rfl
noncomputable def tC (t0:Int):Option ((LI×Bool×Unit)×Unit×Unit):=
 brk (decide (t0=22)) (
  (aq ([t0,1,104,103]:LI)).bind λd9=>
  some ((d9.1,true,()),aa)) (
  brk (decide (t0=13)) (
   (aq ([t0,1,47,119]:LI)).bind λd14=>
   some ((d14.1,true,()),aa)) (
   brk (decide (t0=18)) (
    (aq ([t0,1,133]:LI)).bind λd19=>
    some ((d19.1,true,()),aa)) (
    brk (decide (t0=20)) (
     (aq ([t0,119,132,105]:LI)).bind λd24=>
     some ((d24.1,true,()),aa)) (
     brk (decide (t0=31)) (
      (aq ([t0,119,132]:LI)).bind λd29=>
      some ((d29.1,true,()),aa)) (
      brk (decide (t0=19)) (
       (aq ([t0,1,106]:LI)).bind λd34=>
       some ((d34.1,true,()),aa)) (
       brk (decide (t0=11)) (
        (lT t0 t0 (decide (t0=11))).bind (bB
          (λkv=>
         some (kv,aa))
          (λkv=>
         some (([],false,()),aa)))) (
        (lT t0 t0 (decide (t0=23))).bind (bB
          (λkv=>
         some (kv,aa))
          (λkv=>
         some (([],false,()),aa))))))))))
theorem D0 (T:S.Tab):pV (sn 3 T)=tC:=by
 have db:aA (sn 2 T)=aq:=il (sn 1 T);have AI:jM (sn 2 T)=lT:=yU (sn 0 T)
 funext a0
 show pV (S.step (sn 2 T)) a0=_;rw[DB];rw[db,AI];rfl
noncomputable def cu (t0:Int):Option (Bool×Unit×Unit):=
 brk (decide (t0=25)) (
  some (true,aa)) (
  brk (decide (t0=50)) (
   some (true,aa)) (
   brk (decide (t0=62)) (
    some (true,aa)) (
    some (decide (t0=69),aa))))
theorem ui (T:S.Tab):bM (sn 1 T)=cu:=by
 funext a0
 show bM (S.step (sn 0 T)) a0=_;rw[tZ];rfl
noncomputable def dt (t0:Int):Option (Bool×Unit×Unit):=
 brk (decide (t0=1)) (
  brk (decide (t0=1)) (
   some (true,aa)) (
   (cu t0).bind λd17=>
   some (d17.1,aa))) (
  brk (decide (t0=2)) (
   brk (decide (t0=2)) (
    some (true,aa)) (
    (cu t0).bind λd17=>
    some (d17.1,aa))) (
   brk (decide (t0=3)) (
    brk (decide (t0=3)) (
     some (true,aa)) (
     (cu t0).bind λd17=>
     some (d17.1,aa))) (
    brk (decide (t0=4)) (
     brk (decide (t0=4)) (
      some (true,aa)) (
      (cu t0).bind λd17=>
      some (d17.1,aa))) (
     brk (decide (t0=24)) (
      brk (decide (t0=24)) (
       some (true,aa)) (
       (cu t0).bind λd17=>
       some (d17.1,aa))) (
      brk (decide (t0=29)) (
       brk (decide (t0=29)) (
        some (true,aa)) (
        (cu t0).bind λd17=>
        some (d17.1,aa))) (
       brk (decide (t0=17)) (
        brk (decide (t0=17)) (
         some (true,aa)) (
         (cu t0).bind λd17=>
         some (d17.1,aa))) (
        brk (decide (t0=49)) (
         brk (decide (t0=49)) (
          some (true,aa)) (
          (cu t0).bind λd17=>
          some (d17.1,aa))) (
         brk (decide (t0=18)) (
          brk (decide (t0=18)) (
           some (true,aa)) (
           (cu t0).bind λd17=>
           some (d17.1,aa))) (
          brk (decide (t0=40)) (
           brk (decide (t0=40)) (
            some (true,aa)) (
            (cu t0).bind λd17=>
            some (d17.1,aa))) (
           brk (decide (t0=42)) (
            some (true,aa)) (
            (cu t0).bind λd17=>
            some (d17.1,aa))))))))))))
theorem mC (T:S.Tab):cB (sn 2 T)=dt:=by
 have qv:bM (sn 1 T)=cu:=ui (sn 0 T)
 funext a0
 show cB (S.step (sn 1 T)) a0=_;rw[tT];rw[qv];rfl
noncomputable def dL (t0:Int)(t1:Int)(t2:Int):Option (LI×Unit×Unit×Unit×Unit):=
 brk (decide (t0=48)) (
  (aq ([t0,1,t1]:LI)).bind λd13=>
  some (d13.1,aT)) (
  brk (decide (t0=44)) (
   (aq ([t0,119,45,t1]:LI)).bind λd19=>
   some (d19.1,aT)) (
   brk (decide (t0=40)) (
    (aq ([t0,123,41,t2]:LI)).bind λd25=>
    some (d25.1,aT)) (
    some ([],aT))))
theorem uk (T:S.Tab):dT (sn 2 T)=dL:=by
 have db:aA (sn 1 T)=aq:=il (sn 0 T)
 funext a0
 funext a1
 funext a2
 show dT (S.step (sn 1 T)) a0 a1 a2=_;rw[AU];rw[db];rfl
noncomputable def je (t0:Int)(t1:Int)(t6:LI)(t9:Int)(t10:Bool):Option ((Int×Int×LI×Unit)⊕Empty):=
 brk (t10) (
  (dL t1 110 111).bind λd15=>
  some (Sum.inl (t0,t1,d15.1,()))) (
  brk (decide (t9=114)) (
   brk (decide (t9=114)) (
    (dL t1 114 115).bind λd20=>
    some (Sum.inl (t0,t1,d20.1,()))) (
    brk (decide (t9=117)) (
     brk (decide (t9=117)) (
      (dL t1 117 118).bind λd25=>
      some (Sum.inl (t0,t1,d25.1,()))) (
      some (Sum.inl (t0,t1,t6,())))) (
     brk (decide (t9=118)) (
      (dL t1 117 118).bind λd25=>
      some (Sum.inl (t0,t1,d25.1,()))) (
      some (Sum.inl (t0,t1,t6,())))))) (
   brk (decide (t9=115)) (
    (dL t1 114 115).bind λd20=>
    some (Sum.inl (t0,t1,d20.1,()))) (
    brk (decide (t9=117)) (
     brk (decide (t9=117)) (
      (dL t1 117 118).bind λd25=>
      some (Sum.inl (t0,t1,d25.1,()))) (
      some (Sum.inl (t0,t1,t6,())))) (
     brk (decide (t9=118)) (
      (dL t1 117 118).bind λd25=>
      some (Sum.inl (t0,t1,d25.1,()))) (
      some (Sum.inl (t0,t1,t6,())))))))
theorem wv (T:S.Tab):gE (sn 3 T)=je:=by
 have qw:dT (sn 2 T)=dL:=uk (sn 0 T)
 funext a0
 funext a1
 funext a2
 funext a3
 funext a4
 show gE (S.step (sn 2 T)) a0 a1 a2 a3 a4=_;rw[wy];rw[qw];rfl
noncomputable def ix (t0:Int)(t1:Int):Option ((LI×Bool×Unit)⊕Empty):=
 brk (decide (t0=113)) (
  brk (decide (t0=116)) (
   brk (decide (t1=1)) (
    (aq ([t1,117]:LI)).bind λd65=>
    some (Sum.inl (d65.1,true,()))) (
    brk (decide (t1=40)) (
     (aq ([t1,119,41,117]:LI)).bind λd71=>
     some (Sum.inl (d71.1,true,()))) (
     some (Sum.inl ([],false,()))))) (
   brk (decide (t1=1)) (
    (aq ([t1,114]:LI)).bind λd65=>
    some (Sum.inl (d65.1,true,()))) (
    brk (decide (t1=40)) (
     (aq ([t1,119,41,115]:LI)).bind λd71=>
     some (Sum.inl (d71.1,true,()))) (
     some (Sum.inl ([],false,())))))) (
  brk (decide (t0=116)) (
   brk (decide (t0=116)) (
    brk (decide (t1=1)) (
     (aq ([t1,117]:LI)).bind λd65=>
     some (Sum.inl (d65.1,true,()))) (
     brk (decide (t1=40)) (
      (aq ([t1,119,41,117]:LI)).bind λd71=>
      some (Sum.inl (d71.1,true,()))) (
      some (Sum.inl ([],false,()))))) (
    brk (decide (t1=1)) (
     (aq ([t1,114]:LI)).bind λd65=>
     some (Sum.inl (d65.1,true,()))) (
     brk (decide (t1=40)) (
      (aq ([t1,119,41,115]:LI)).bind λd71=>
      some (Sum.inl (d71.1,true,()))) (
      some (Sum.inl ([],false,())))))) (
   some (Sum.inl ([],false,()))))
theorem vR (T:S.Tab):fV (sn 2 T)=ix:=by
 have db:aA (sn 1 T)=aq:=il (sn 0 T)
 funext a0
 funext a1
 show fV (S.step (sn 1 T)) a0 a1=_;rw[vN];rw[db];rfl
noncomputable def iy (t0:Int)(t1:Int)(t6:LI):Option ((LI×Bool×Unit)⊕Empty):=
 brk (decide (0<(t6.length:Int))) (
  some (Sum.inl (t6,true,()))) (
  brk (decide (t0=111)) (
   some (Sum.inl ([],true,()))) (
   brk (decide (t0=118)) (
    some (Sum.inl ([],true,()))) (
    brk (decide (t0=110)) (
     brk (decide (t1=46)) (
      (aq ([t1,113]:LI)).bind λd46=>
      some (Sum.inl (d46.1,true,()))) (
      brk (decide (t1=47)) (
       (aq ([t1,124]:LI)).bind λd51=>
       some (Sum.inl (d51.1,true,()))) (
       (ix t0 t1).bind (aO
         (λIP=>
        some (Sum.inl IP)))))) (
     brk (decide (t0=114)) (
      brk (decide (t1=46)) (
       (aq ([t1,113]:LI)).bind λd46=>
       some (Sum.inl (d46.1,true,()))) (
       brk (decide (t1=47)) (
        (aq ([t1,124]:LI)).bind λd51=>
        some (Sum.inl (d51.1,true,()))) (
        (ix t0 t1).bind (aO
          (λIP=>
         some (Sum.inl IP)))))) (
      (ix t0 t1).bind (aO
        (λIP=>
       some (Sum.inl IP))))))))
theorem vO (T:S.Tab):fU (sn 3 T)=iy:=by
 have db:aA (sn 2 T)=aq:=il (sn 1 T);have xE:fV (sn 2 T)=ix:=vR (sn 0 T)
 funext a0
 funext a1
 funext a2
 show fU (S.step (sn 2 T)) a0 a1 a2=_;rw[vP];rw[db,xE];rfl
noncomputable def oT (t0:Int)(t1:Int):Option ((LI×Bool×Unit)×Unit×Unit×Unit):=
 brk (decide (t0=110)) (
  (je t0 t1 [] t0 (decide (t0=110))).bind (aO
    (λy6=>
   (iy y6.1 y6.2.1 y6.2.2.1).bind (aO
     (λlE=>
    some (lE,ab)))))) (
  brk (decide (t0=111)) (
   (je t0 t1 [] t0 (decide (t0=111))).bind (aO
     (λy6=>
    (iy y6.1 y6.2.1 y6.2.2.1).bind (aO
      (λlE=>
     some (lE,ab)))))) (
   (je t0 t1 [] t0 (decide (t0=112))).bind (aO
     (λy6=>
    (iy y6.1 y6.2.1 y6.2.2.1).bind (aO
      (λlE=>
     some (lE,ab)))))))
theorem zH (T:S.Tab):mj (sn 4 T)=oT:=by
 have yf:gE (sn 3 T)=je:=wv (sn 0 T);have xD:fU (sn 3 T)=iy:=vO (sn 0 T)
 funext a0
 funext a1
 show mj (S.step (sn 3 T)) a0 a1=_;rw[zI];rw[yf,xD];rfl
noncomputable def cz (t0:Int)(t1:Int)(t93:Bool):Option ((LI×Bool×Unit)⊕(gz.den)⊕Empty):=
 brk (t93) (
  (oT t0 t1).bind λd105=>
  some (Sum.inl d105.1)) (
  some (Sum.inr (Sum.inl (t0,t1,()))))
theorem wg (T:S.Tab):cj (sn 5 T)=cz:=by
 have BX:mj (sn 4 T)=oT:=zH (sn 0 T)
 funext a0
 funext a1
 funext a2
 show cj (S.step (sn 4 T)) a0 a1 a2=_;rw[wE];rw[BX];rfl
noncomputable def tj (t0:Int):Option ((LI×Bool×Unit)×Unit×Unit):=
 (cu t0).bind λd5=>
 brk (d5.1) (
  (aq ([t0,120]:LI)).bind λd8=>
  some ((d8.1,true,()),aa)) (
  brk (decide (t0=1)) (
   (aq ([t0,122]:LI)).bind λd14=>
   some ((d14.1,true,()),aa)) (
   brk (decide (t0=40)) (
    (aq ([t0,119,41,122]:LI)).bind λd19=>
    some ((d19.1,true,()),aa)) (
    brk (decide (t0=42)) (
     (aq ([t0,129,43]:LI)).bind λd24=>
     some ((d24.1,true,()),aa)) (
     brk (decide (t0=18)) (
      (aq ([t0,133]:LI)).bind λd29=>
      some ((d29.1,true,()),aa)) (
      (aq ([t0]:LI)).bind λd32=>
      (dt t0).bind λd34=>
      some ((d32.1,d34.1,()),aa))))))
theorem DS (T:S.Tab):pR (sn 3 T)=tj:=by
 have db:aA (sn 2 T)=aq:=il (sn 1 T);have qv:bM (sn 2 T)=cu:=ui (sn 1 T);have jc:cB (sn 2 T)=dt:=mC (sn 0 T)
 funext a0
 show pR (S.step (sn 2 T)) a0=_;rw[DX];rw[db,qv,jc];rfl
noncomputable def rU (t0:Int):Option (Bool×Unit×Unit):=
 brk (decide (t0=10)) (
  some (true,aa)) (
  brk (decide (t0=26)) (
   some (true,aa)) (
   some (decide (60<t0),aa)))
theorem CY (T:S.Tab):jZ (sn 1 T)=rU:=by
 funext a0
 show jZ (S.step (sn 0 T)) a0=_;rw[vA];rfl
noncomputable def jW (t0:Int)(t1:Int)(t6:Int)(t49:Bool):Option ((LI×Bool×Unit)⊕(Int×Unit)⊕Empty):=
 brk (t49) (
  brk (decide (t1=1)) (
   (aq ([t1,127]:LI)).bind λd56=>
   some (Sum.inl (d56.1,true,()))) (
   brk (decide (t1=49)) (
    (aq ([t1]:LI)).bind λd61=>
    some (Sum.inl (d61.1,true,()))) (
    some (Sum.inl ([],decide (t0=126),()))))) (
  brk (decide (t6=127)) (
   brk (decide (t1=46)) (
    (aq ([t1,128]:LI)).bind λd70=>
    some (Sum.inl (d70.1,true,()))) (
    some (Sum.inl ([],true,())))) (
   brk (decide (t6=129)) (
    (dt t1).bind λd74=>
    brk (d74.1) (
     (aq ([131,130]:LI)).bind λd84=>
     some (Sum.inl (d84.1,true,()))) (
     brk (decide (t1=48)) (
      (aq ([131,130]:LI)).bind λd84=>
      some (Sum.inl (d84.1,true,()))) (
      brk (decide (t1=44)) (
       (aq ([131,130]:LI)).bind λd84=>
       some (Sum.inl (d84.1,true,()))) (
       some (Sum.inl ([],true,())))))) (
    brk (decide (t6=130)) (
     brk (decide (t1=46)) (
      (aq ([t1,129]:LI)).bind λd91=>
      some (Sum.inl (d91.1,true,()))) (
      some (Sum.inl ([],true,())))) (
     brk (decide (t6=131)) (
      brk (decide (t1=48)) (
       (aq ([t1,1,47,119]:LI)).bind λd98=>
       some (Sum.inl (d98.1,true,()))) (
       brk (decide (t1=44)) (
        (aq ([t1,119,45,47,119]:LI)).bind λd103=>
        some (Sum.inl (d103.1,true,()))) (
        (aq ([119]:LI)).bind λd105=>
        (dt t1).bind λd107=>
        some (Sum.inl (d105.1,d107.1,()))))) (
      brk (decide (t6=132)) (
       (aq ([42,100,43]:LI)).bind λd111=>
       some (Sum.inl (d111.1,decide (t1=42),()))) (
       some (Sum.inr (Sum.inl (t1,())))))))))
theorem vL (T:S.Tab):hZ (sn 3 T)=jW:=by
 have db:aA (sn 2 T)=aq:=il (sn 1 T);have jc:cB (sn 2 T)=dt:=mC (sn 0 T)
 funext a0
 funext a1
 funext a2
 funext a3
 show hZ (S.step (sn 2 T)) a0 a1 a2 a3=_;rw[vM];rw[db,jc];rfl
noncomputable def oW (t0:Int)(t1:Int):Option ((LI×Bool×Unit)×Unit×Unit×Unit):=
 brk (decide (t0=119)) (
  (aq ([120,121]:LI)).bind λd10=>
  (dt t1).bind λd12=>
  some ((d10.1,d12.1,()),ab)) (
  brk (decide (t0=120)) (
   (tj t1).bind λd16=>
   some (d16.1,ab)) (
   brk (decide (t0=121)) (
    (rU t1).bind λd22=>
    brk (d22.1) (
     (aq ([t1,119]:LI)).bind λd25=>
     some ((d25.1,true,()),ab)) (
     some (([],true,()),ab))) (
    brk (decide (t0=122)) (
     (dL t1 122 122).bind λd29=>
     some ((d29.1,true,()),ab)) (
     brk (decide (t0=123)) (
      (dt t1).bind λd33=>
      brk (d33.1) (
       (aq ([124]:LI)).bind λd35=>
       some ((d35.1,true,()),ab)) (
       some (([],true,()),ab))) (
      brk (decide (t0=124)) (
       (aq ([119,125]:LI)).bind λd39=>
       (dt t1).bind λd41=>
       some ((d39.1,d41.1,()),ab)) (
       brk (decide (t0=125)) (
        brk (decide (t1=46)) (
         (aq ([t1,119,125]:LI)).bind λd48=>
         some ((d48.1,true,()),ab)) (
         some (([],true,()),ab))) (
        brk (decide (t0=126)) (
         (jW t0 t1 t0 (decide (t0=126))).bind (bB
           (λvp=>
          some (vp,ab))
           (λvp=>
          (aq ([40,126,41,132]:LI)).bind λd115=>
          some ((d115.1,decide (vp.1=40),()),ab)))) (
         (jW t0 t1 t0 (decide (t0=128))).bind (bB
           (λvp=>
          some (vp,ab))
           (λvp=>
          (aq ([40,126,41,132]:LI)).bind λd115=>
          some ((d115.1,decide (vp.1=40),()),ab)))))))))))
theorem zG (T:S.Tab):ml (sn 4 T)=oW:=by
 have db:aA (sn 3 T)=aq:=il (sn 2 T);have jc:cB (sn 3 T)=dt:=mC (sn 1 T);have qw:dT (sn 3 T)=dL:=uk (sn 1 T);have Gu:pR (sn 3 T)=tj:=DS (sn 0 T);have FF:jZ (sn 3 T)=rU:=CY (sn 2 T);have xH:hZ (sn 3 T)=jW:=vL (sn 0 T)
 funext a0
 funext a1
 show ml (S.step (sn 3 T)) a0 a1=_;rw[zK];rw[db,jc,qw,Gu,FF,xH];rfl
noncomputable def cy (t0:Int)(t1:Int):Option ((LI×Bool×Unit)⊕Empty):=
 (oW t0 t1).bind λd110=>
 some (Sum.inl d110.1)
theorem vZ (T:S.Tab):cn (sn 5 T)=cy:=by
 have BO:ml (sn 4 T)=oW:=zG (sn 0 T)
 funext a0
 funext a1
 show cn (S.step (sn 4 T)) a0 a1=_;rw[wD];rw[BO];rfl
noncomputable def vy (t0:Int)(t1:Int):Option ((LI×Bool×Unit)×Unit×Unit×Unit):=
 brk (decide (t0=100)) (
  brk (decide (t1=5)) (
   (aq ([t1,100]:LI)).bind λd15=>
   some ((d15.1,true,()),ab)) (
   (tC t1).bind λd18=>
   brk (d18.1.2.1) (
    brk (fits (d18.1.1.length+1)) (
    some ((d18.1.1++([101]:LI),true,()),ab)) none) (
    some (([],true,()),ab)))) (
  brk (decide (t0=101)) (
   brk (decide (t1=5)) (
    (aq ([t1,100]:LI)).bind λd31=>
    some ((d31.1,true,()),ab)) (
    some (([],true,()),ab))) (
   brk (decide (t0=103)) (
    brk (decide (t1=47)) (
     (aq ([t1,124]:LI)).bind λd38=>
     some ((d38.1,true,()),ab)) (
     some (([],true,()),ab))) (
    brk (decide (t0=104)) (
     brk (decide (t1=46)) (
      (aq ([t1,1,104]:LI)).bind λd45=>
      some ((d45.1,true,()),ab)) (
      some (([],true,()),ab))) (
     brk (decide (t0=105)) (
      brk (decide (t1=15)) (
       (aq ([t1,119,132,105]:LI)).bind λd52=>
       some ((d52.1,true,()),ab)) (
       brk (decide (t1=16)) (
        (aq ([t1,132]:LI)).bind λd57=>
        some ((d57.1,true,()),ab)) (
        some (([],true,()),ab)))) (
      brk (decide (t0=106)) (
       brk (decide (t1=47)) (
        (aq ([t1,119,46,119,107,132]:LI)).bind λd64=>
        some ((d64.1,true,()),ab)) (
        (aq ([104,21,119,132]:LI)).bind λd66=>
        brk (decide (t1=46)) (
         some ((d66.1,true,()),ab)) (
         some ((d66.1,decide (t1=21),()),ab)))) (
       brk (decide (t0=107)) (
        brk (decide (t1=46)) (
         (aq ([t1,119]:LI)).bind λd79=>
         some ((d79.1,true,()),ab)) (
         some (([],true,()),ab))) (
        brk (decide (t0=108)) (
         (dt t1).bind λd83=>
         brk (d83.1) (
          (aq ([124]:LI)).bind λd85=>
          some ((d85.1,true,()),ab)) (
          some (([],true,()),ab))) (
         brk (decide (t0=109)) (
          brk (decide (t1=46)) (
           (aq ([t1,1]:LI)).bind λd92=>
           some ((d92.1,true,()),ab)) (
           some (([],true,()),ab))) (
          brk (decide (t0=110)) (
           (cz t0 t1 (decide (t0=110))).bind (bB
             (λj9=>
            some (j9,ab))
             (λj9=>
            (cy j9.1 j9.2.1).bind (aO
              (λxB=>
             some (xB,ab)))))) (
           brk (decide (t0=111)) (
            (cz t0 t1 (decide (t0=111))).bind (bB
              (λj9=>
             some (j9,ab))
              (λj9=>
             (cy j9.1 j9.2.1).bind (aO
               (λxB=>
              some (xB,ab)))))) (
            brk (decide (t0=112)) (
             (cz t0 t1 (decide (t0=112))).bind (bB
               (λj9=>
              some (j9,ab))
               (λj9=>
              (cy j9.1 j9.2.1).bind (aO
                (λxB=>
               some (xB,ab)))))) (
             brk (decide (t0=113)) (
              (cz t0 t1 (decide (t0=113))).bind (bB
                (λj9=>
               some (j9,ab))
                (λj9=>
               (cy j9.1 j9.2.1).bind (aO
                 (λxB=>
                some (xB,ab)))))) (
              brk (decide (t0=114)) (
               (cz t0 t1 (decide (t0=114))).bind (bB
                 (λj9=>
                some (j9,ab))
                 (λj9=>
                (cy j9.1 j9.2.1).bind (aO
                  (λxB=>
                 some (xB,ab)))))) (
               brk (decide (t0=115)) (
                (cz t0 t1 (decide (t0=115))).bind (bB
                  (λj9=>
                 some (j9,ab))
                  (λj9=>
                 (cy j9.1 j9.2.1).bind (aO
                   (λxB=>
                  some (xB,ab)))))) (
                brk (decide (t0=116)) (
                 (cz t0 t1 (decide (t0=116))).bind (bB
                   (λj9=>
                  some (j9,ab))
                   (λj9=>
                  (cy j9.1 j9.2.1).bind (aO
                    (λxB=>
                   some (xB,ab)))))) (
                 brk (decide (t0=117)) (
                  (cz t0 t1 (decide (t0=117))).bind (bB
                    (λj9=>
                   some (j9,ab))
                    (λj9=>
                   (cy j9.1 j9.2.1).bind (aO
                     (λxB=>
                    some (xB,ab)))))) (
                  (cz t0 t1 (decide (t0=118))).bind (bB
                    (λj9=>
                   some (j9,ab))
                    (λj9=>
                   (cy j9.1 j9.2.1).bind (aO
                     (λxB=>
                    some (xB,ab))))))))))))))))))))))
theorem AX (T:S.Tab):im (sn 6 T)=vy:=by
 have db:aA (sn 5 T)=aq:=il (sn 4 T);have Gp:pV (sn 5 T)=tC:=D0 (sn 2 T);have jc:cB (sn 5 T)=dt:=mC (sn 3 T);have yk:cj (sn 5 T)=cz:=wg (sn 0 T);have ym:cn (sn 5 T)=cy:=vZ (sn 0 T)
 funext a0
 funext a1
 show im (S.step (sn 5 T)) a0 a1=_;rw[AQ];rw[db,Gp,jc,yk,ym];rfl
noncomputable abbrev RI (s:Int):Bool:=kinds.all λk=>decide (Ce s k=some (((eP s k).1,(eP s k).2.1,(eP s k).2.2,()),ab))
noncomputable abbrev RS (s:Int):Bool:=kinds.all λk=>decide (vy s k=some (((oH s k).1,(oH s k).2,()),ab))
theorem Z2:(allI.all RI)=true:=by kernel_rfl
theorem aa1:(xu.all RS)=true:=by kernel_rfl
theorem Vh (T:S.Tab){s:Int}(h:s∈allI):(kinds.all λk=>decide (kJ (sn 3 T) s k=some (((eP s k).1,(eP s k).2.1,(eP s k).2.2,()),ab)))=true:=by
 rw[HD];exact List.all_eq_true.1 Z2 s h
theorem UN (T:S.Tab){s:Int}(h:s∈xu):(kinds.all λk=>decide (im (sn 6 T) s k=some (((oH s k).1,(oH s k).2,()),ab)))=true:=by
 rw[AX];exact List.all_eq_true.1 aa1 s h
end Go.Abs.D
end

section
namespace Go.Abs.D
theorem Ds:Evt λn=>∀s k:Int,s∈allI->0<=k->k<=78->kJ (S.tab n) s k=some (((eP s k).1,(eP s k).2.1,(eP s k).2.2,()),ab):=by
 have h:Evt λn=>∀s k:Int,s∈allI->0<=k->k<=78->kJ (S.tab (n+3)) s k=some (((eP s k).1,(eP s k).2.1,(eP s k).2.2,()),ab):=Evt.of λn s k hs h0 h1=>
  of_decide_eq_true (List.all_eq_true.1 (Vh (S.tab n) hs) k (jf h0 h1))
 obtain⟨N,h⟩:=h
 exact⟨N+3,λn hn=>by
  have e:n - 3+3=n:=(by omega);rw[<-e]
  exact h (n - 3) (by omega)⟩
theorem GN:Evt λn=>∀s k:Int,s∈xu->0<=k->k<=78->im (S.tab n) s k=some (((oH s k).1,(oH s k).2,()),ab):=by
 have h:Evt λn=>∀s k:Int,s∈xu->0<=k->k<=78->im (S.tab (n+6)) s k=some (((oH s k).1,(oH s k).2,()),ab):=Evt.of λn s k hs h0 h1=>
  of_decide_eq_true (List.all_eq_true.1 (UN (S.tab n) hs) k (jf h0 h1))
 obtain⟨N,h⟩:=h
 exact⟨N+6,λn hn=>by
  have e:n - 6+6=n:=(by omega);rw[<-e]
  exact h (n - 6) (by omega)⟩
theorem isEmpty_cons (s:Int)(r:LI):(!(s::r).isEmpty)=true:=rfl
theorem Nl (k:Int)(row:LI)(IY:row.length<=100):∀(m:Nat)(st:LI),m<=row.length->Evt λn=>lF (S.tab n) st k row ((m:Int) - 1)=some (Sum.inl (row.take m++st,k,()))
 |0,st,_=>aG.up λn _=>by
  rw[tY,aB (by decide)];rfl
 |m+1,st,hm=>by
  have KT:m<row.length:=(by omega);have ih:=Nl k row IY m (row[m]::st) (by omega);have e0:((m+1:Nat):Int) - 1=(m:Int):=(by omega)
  have hg:row.getD (m:Int).toNat 0=row[m]:=by rw[Int.toNat_natCast,aE2,aE1 KT];rfl
  refine ih.up λn ih=> ?_
  rw[e0,tY,ad (by simp only[aC4];omega),ad (an KT),hg,wrap64 _ (by omega) (by omega),ih,List.take_succ_eq_append_getElem KT,aC7];rfl
theorem LN {s k:Int}(hs:s∈allI)(h0:0<=k)(h1:k<=78)(r:LI){X:(LI×Unit)⊕Unit⊕Empty}(hlen:(eP s k).1.length<=100)
  (hy:(eP s k).2.1=true->Evt λn=>dI (S.tab n) ((eP s k).1++r) k=some X)
  (he:(eP s k).2.1=false->(eP s k).2.2=true->Evt λn=>dI (S.tab n) r k=some X)
  (hn:(eP s k).2.1=false->(eP s k).2.2=false->X=Sum.inl ([],())):Evt λn=>dI (S.tab n) (s::r) k=some X:=by
 have FQ:1000<=s:=by
  unfold allI at hs;obtain⟨n,_,rfl⟩:=List.mem_map.1 hs;omega
 have start:∀n,(∀s k:Int,s∈allI->0<=k->k<=78->kJ (S.tab n) s k=some (((eP s k).1,(eP s k).2.1,(eP s k).2.2,()),ab))->dI (S.step (S.tab n)) (s::r) k=brk (eP s k).2.1 ((lF (S.tab n) r k (eP s k).1 (i64.wrap (((eP s k).1.length:Int) - 1))).bind (aO λlE=>dI (S.tab n) lE.1 lE.2.1)) (brk (eP s k).2.2 (dI (S.tab n) r k) (some (Sum.inl (([]:LI),())))):=λn hr=>by
  rw[qg,ad (isEmpty_cons s r),ad (isEmpty_cons s r),ad (isEmpty_cons s r),aB (by show decide (s<1000)=false;simp only[aC8];omega),ad (isEmpty_cons s r),ad (isEmpty_cons s r)];show(kJ (S.tab n) s k).bind _=_;rw[hr s k hs h0 h1,aC0];dsimp only;rw[ad (isEmpty_cons s r)];show brk _ (brk (!(s::r).isEmpty) _ none) _=_;rw[ad (isEmpty_cons s r),ad (isEmpty_cons s r),ad (isEmpty_cons s r)];rfl
 cases c1:(eP s k).2.1 with
 |true=>
  refine((Ds.and (hy c1)).and (Nl k (eP s k).1 hlen (eP s k).1.length r (aE5 _))).up λn ⟨⟨hr,hX⟩,hp⟩=> ?_
  rw[start n hr,ad c1,wrap64 _ (by omega) (by omega)];show(lF (S.tab n) r k (eP s k).1 (((eP s k).1.length:Int) - 1)).bind _=_;rw[hp,aC0,List.take_length];exact hX
 |false=>
  cases c2:(eP s k).2.2 with
  |true=>
   refine(Ds.and (he c1 c2)).up λn ⟨hr,hX⟩=> ?_
   rw[start n hr,aB c1,ad c2];exact hX
  |false=>
   refine Ds.up λn hr=> ?_
   rw[start n hr,aB c1,aB c2,hn c1 c2]
end Go.Abs.D
end

section
namespace Go.Abs.D
def Mo:Nat->LI->Int->Bool
 |0,_,_=>false
 |_+1,[],_=>true
 |n+1,s::r,k=>bif decide (s<1000)then true else bif(eP s k).2.1 then Mo n ((eP s k).1++r) k else bif(eP s k).2.2 then Mo n r k else true
def Q4 (s:Int):Bool:=(decide (0<=s)&&decide (s<=78))||allI.contains s
theorem Pn:(allI.all λs=>kinds.all λk=>Mo 9 [s] k)=true:=by kernel_rfl
theorem X3:(allI.all λs=>kinds.all λk=>(eP s k).1.all Q4&&decide ((eP s k).1.length<=100))=true:=by kernel_rfl
theorem H6 {s:Int}(h:Q4 s=true):okI s:=by
 unfold Q4 at h;simp only[aG0,aC6,aC4,List.contains_iff_mem]at h;exact h
theorem Sh {s k:Int}(hs:s∈allI)(h0:0<=k)(h1:k<=78):(∀x∈(eP s k).1,okI x)/\(eP s k).1.length<=100:=by
 have:=List.all_eq_true.1 (List.all_eq_true.1 X3 s hs) k (jf h0 h1);rw[aC6,aC4]at this;exact⟨λx hx=>H6 (List.all_eq_true.1 this.1 x hx),this.2⟩
def TJ (o:Out)(c:LI):(LI×Unit)⊕Unit⊕Empty:=match o with
 | .no=>Sum.inl ([],())
 | .gone=>Sum.inl ([],())
 | .left l=>Sum.inl (l++c,())
theorem Px {s k:Int}(h:s<1000)(r:LI)(hr:r≠[]):Evt λn=>dI (S.tab n) (s::r) k=some (bif decide (s=k)then Sum.inl (r,())else Sum.inl ([],())):=aG.up λn _=>by
 rw[qg,ad (isEmpty_cons s r),ad (isEmpty_cons s r),ad (isEmpty_cons s r),ad (by show decide (s<1000)=true;exact aC1 h),ad (isEmpty_cons s r),ad (isEmpty_cons s r)];show brk (decide (s=k)) _ _=_
 by_cases e:s=k
 ·rw[aN e,aC1 e,ad (isEmpty_cons s r),ad (isEmpty_cons s r)];show brk r.isEmpty _ _=_;rw[aB (by cases r with|nil=>exact absurd rfl hr|cons a b=>rfl),ad (isEmpty_cons s r),ad (isEmpty_cons s r)];rfl
 ·rw[aM e,aB9 e];rfl
theorem EL {k:Int}(h0:0<=k)(h1:k<=78){c:LI}(hc:c≠[]){X:(LI×Unit)⊕Unit⊕Empty}:∀(f:Nat)(l:LI),(∀s∈l,okI s)->Mo f l k=true->
  (∀l',sC f l k= .left l'->X=Sum.inl (l'++c,()))->(sC f l k= .no->X=Sum.inl ([],()))->(sC f l k= .gone->Evt λn=>dI (S.tab n) c k=some X)->Evt λn=>dI (S.tab n) (l++c) k=some X
 |0,l,_,ht,_,_,_=>by cases ht
 |f+1,[],_,_,_,_,hg=>hg rfl
 |f+1,s::r,hs,ht,hl,hn,hg=>by
  have yL:∀x∈r,okI x:=λx hx=>hs x (aD9 _ hx)
  unfold Mo at ht;unfold sC at hl hn hg
  by_cases gX:s<1000
  ·rw[aC1 gX]at hl hn hg;simp only[aD6]at hl hn hg;have:=Px (k:=k) gX (r++c) (by simp[hc])
   by_cases e:s=k
   ·rw[aC1 e]at hl hn hg this;rw[hl r rfl];exact this
   ·rw[aB9 e]at hl hn hg this;rw[hn rfl];exact this
  ·rw[aB9 gX]at ht hl hn hg;simp only[aD1]at ht hl hn hg
   have aq6:s∈allI:=by
    rcases hs s (aE0 ..)with h|h
    ·omega
    ·exact h
   obtain⟨ro,rl⟩:=Sh aq6 h0 h1;refine LN aq6 h0 h1 (r++c) rl (λe=> ?_) (λe e2=> ?_) (λe e2=> ?_)
   ·rw[e]at ht hl hn hg;rw[<-aC7];exact EL h0 h1 hc f ((eP s k).1++r) (λx hx=>(aE9.1 hx).elim (ro x) (yL x)) ht hl hn hg
   ·rw[e,e2]at ht hl hn hg;exact EL h0 h1 hc f r yL ht hl hn hg
   ·rw[e,e2]at hl hn hg;exact hn rfl
end Go.Abs.D
end

section
namespace Go.Abs.D
theorem SJ {k:Int}(h:k≠6):Evt λn=>dI (S.tab n) [6] k=some (Sum.inl ([],())):=aG.up λn _=>by
 rw[qg,ad (isEmpty_cons 6 []),ad (isEmpty_cons 6 []),ad (isEmpty_cons 6 []),ad (by rfl),ad (isEmpty_cons 6 []),ad (isEmpty_cons 6 [])];show brk (decide ((6:Int)=k)) _ _=_;rw[aM (λe=>h e.symm)]
theorem aa2 {s k:Int}(hs:okI s)(h0:0<=k)(h1:k<=78):Mo 9 [s] k=true:=by
 rcases hs with⟨_,h⟩|h
 ·unfold Mo;rw[aC1 (show s<1000 by omega)];rfl
 ·exact List.all_eq_true.1 (List.all_eq_true.1 Pn s h) k (jf h0 h1)
theorem Kd {k:Int}(h0:0<=k)(h1:k<=78)(h6:k≠6):∀a:LI,(∀s∈a,okI s)->Evt λn=>dI (S.tab n) (a++[6]) k=some (TJ (gO a k) [6])
 |[],_=>SJ h6
 |s::r,hs=>by
  have hr:∀x∈r,okI x:=λx hx=>hs x (aD9 _ hx)
  have ih:=Kd h0 h1 h6 r hr;have TD:=hs s (aE0 ..)
  have e2:gO (s::r) k=(stI s k).then r (gO r k):=gu stI s r k
  rw[e2]
  have run:=EL (k:=k) h0 h1 (c:=r++[6]) (by simp) (X:=TJ ((stI s k).then r (gO r k)) [6]) 9 [s] (λx hx=>by
   have:x=s:=(by simpa using hx)
   subst this;exact TD) (aa2 TD h0 h1) (λl' e=> ?_) (λe=> ?_) (λe=> ?_)
  ·exact run
  ·have e:stI s k= .left l':=e;rw[e];show Sum.inl ((l'++r)++[6],())=Sum.inl (l'++(r++[6]),());rw[aC7]
  ·have e:stI s k= .no:=e;rw[e];rfl
  ·have e:stI s k= .gone:=e;rw[e];exact ih
theorem Dq {k:Int}(h0:0<=k)(h1:k<=78)(h6:k≠6)(a:LI)(ha:∀s∈a,okI s):Evt λn=>o9 (S.tab n) (a++[6]) k=some (match gO a k with| .left l=>l++[6]|_=>[],ab):=
 (Kd h0 h1 h6 a ha).up λn h=>by
  rw[Hr,h,aC0];cases gO a k<;>rfl
end Go.Abs.D
end

section
namespace Go.Abs.D
def isLeft:Out->Bool
 | .left _=>true
 |_=>false
def Im:Out->Bool
 | .gone=>true
 |_=>false
theorem Z5:(allI.all λs=>kinds.all λk=>bif(eP s k).2.1 then isLeft (sC 9 [s] k)else bif(eP s k).2.2 then Im (sC 9 [s] k)else decide (sC 9 [s] k= .no))=true:=by kernel_rfl
def vS (o:Out)(d:Bool):Bool:=match o with
 | .no=>false
 | .gone=>d
 | .left _=>true
theorem MT {k:Int}(h0:0<=k)(h1:k<=78):∀a:LI,(∀s∈a,okI s)->Evt λn=>pU (S.tab n) (a++[6]) k=some (Sum.inl (vS (gO a k) (decide (6=k)),()))
 |[],_=>aG.up λn _=>by
  show pU (S.step (S.tab n)) [6] _=_;rw[r4,ad (isEmpty_cons 6 []),ad (isEmpty_cons 6 []),ad (isEmpty_cons 6 []),ad (by rfl),ad (isEmpty_cons 6 []),ad (isEmpty_cons 6 [])];rfl
 |s::r,hs=>by
  have hr:∀x∈r,okI x:=λx hx=>hs x (aD9 _ hx)
  have ih:=MT h0 h1 r hr
  have e2:gO (s::r) k=(stI s k).then r (gO r k):=gu stI s r k
  rw[e2,List.cons_append]
  rcases hs s (aE0 ..)with h|h
  ·refine aG.up λn _=> ?_
   rw[r4,ad (isEmpty_cons s (r++[6])),ad (isEmpty_cons s (r++[6])),ad (isEmpty_cons s (r++[6])),ad (by show decide (s<1000)=true;simp only[aC4];omega),ad (isEmpty_cons s (r++[6])),ad (isEmpty_cons s (r++[6])),s6 h.2];show some (Sum.inl (decide (s=k),()))=_;cases decide (s=k)<;>rfl
  ·have y:=List.all_eq_true.1 (List.all_eq_true.1 Z5 s h) k (jf h0 h1)
   have FQ:1000<=s:=by
    unfold allI at h;obtain⟨n,_,rfl⟩:=List.mem_map.1 h;omega
   refine(ih.and Ds).up λn ⟨ih,Y6⟩=> ?_
   rw[r4,ad (isEmpty_cons s (r++[6])),ad (isEmpty_cons s (r++[6])),ad (isEmpty_cons s (r++[6])),aB (by show decide (s<1000)=false;simp only[aC8];omega),ad (isEmpty_cons s (r++[6])),ad (isEmpty_cons s (r++[6]))];show(kJ (S.tab n) s k).bind _=_;rw[Y6 s k h h0 h1,aC0];dsimp only;have e9:stI s k=sC 9 [s] k:=rfl;rw[e9]
   cases c1:(eP s k).2.1 with
   |true=>
    rw[c1]at y;rw[ad (by rfl)]
    cases ho:sC 9 [s] k with
    |left l=>rfl
    |no=>rw[ho]at y;cases y
    |gone=>rw[ho]at y;cases y
   |false=>
    rw[c1]at y
    cases c2:(eP s k).2.2 with
    |true=>
     rw[c2]at y;rw[aB (by rfl),aB (by rfl),ad (isEmpty_cons s (r++[6])),ad (isEmpty_cons s (r++[6]))]
     cases ho:sC 9 [s] k with
     |gone=>exact ih
     |no=>rw[ho]at y;cases y
     |left l=>rw[ho]at y;cases y
    |false=>
     rw[c2]at y;rw[aB (by rfl),ad (by rfl)]
     cases ho:sC 9 [s] k with
     |no=>rfl
     |gone=>rw[ho]at y;cases y
     |left l=>rw[ho]at y;cases y
theorem Ff {k:Int}(h0:0<=k)(h1:k<=78)(a:LI)(ha:∀s∈a,okI s):Evt λn=>j5 (S.tab n) (a++[6]) k=some (vS (gO a k) (decide (6=k)),ab):=
 (MT h0 h1 a ha).up λn h=>by
  rw[I7,h];rfl
end Go.Abs.D
end

section
namespace Go.Abs.D
abbrev Cls:Type:=List gz.den
def Reads (cs:Cls):Int->LI->Prop
 |top,[]=>top= -1
 |top,s::l=>∃(i:Nat) (b:Int),top=(i:Int)/\cs[i]?=some (s,b,())/\Reads cs b l
theorem Reads.mono {cs ds:Cls}:∀{l:LI}{top:Int},Reads cs top l->Reads (cs++ds) top l
 |[],_,h=>h
 |s::l,_,⟨i,b,e,h,hr⟩=>⟨i,b,e,by
   have hi:=(List.getElem?_eq_some_iff.1 h).1
   rw[List.getElem?_append_left hi];exact h,hr.mono⟩
theorem Reads.push {cs:Cls}{l:LI}{top:Int}(h:Reads cs top l)(s:Int):Reads (cs++[(s,top,())]) (cs.length:Int) (s::l):=
 ⟨cs.length,top,rfl,by simp,h.mono⟩
theorem ET (cs:Cls)(hl:cs.length<=2000000)(top s:Int):Evt λn=>lL (S.tab n) (cs,()) top s=some ((cs.length:Int),(cs++[(s,top,())],()),(),(),()):=aG.up λn _=>by
 rw[Ba];dsimp only;rw[ad (bc (by unfold lim;simp;omega)),wrap64 _ (by simp) (by simp;omega)];simp
end Go.Abs.D
end

section
namespace Go.Abs.D
theorem GO (k:Int)(row:LI)(IY:row.length<=100):∀(m:Nat)(cs:Cls)(top:Int)(l:LI),m<=row.length->Reads cs top l->cs.length+m<=2000000->
  ∃(ds:Cls) (ko:Int),ds.length=m/\Reads (cs++ds) ko (row.take m++l)/\Evt λn=>jX (S.tab n) (cs,()) top k row ((m:Int) - 1)=some (Sum.inl ((cs++ds,()),ko,k,()))
 |0,cs,top,l,hm,hr,_=>⟨[],top,rfl,by rw[aF0];exact hr,aG.up λn _=>by
  rw[pO,aB (by decide),aF0]⟩
 |m+1,cs,top,l,hm,hr,hl=>by
  have KT:m<row.length:=(by omega);obtain⟨ds,ko,hd,hR,hE⟩:=GO k row IY m (cs++[(row[m],top,())]) (cs.length:Int) (row[m]::l) (by omega) (hr.push row[m]) (by simp;omega);have e0:((m+1:Nat):Int) - 1=(m:Int):=(by omega)
  have hg:row.getD (m:Int).toNat 0=row[m]:=by rw[Int.toNat_natCast,aE2,aE1 KT];rfl
  refine⟨(row[m],top,())::ds,ko,by simp[hd], ?_, ?_⟩
  ·have e:cs++(row[m],top,())::ds=cs++[(row[m],top,())]++ds:=by rw[aC7];rfl
   have e':row.take (m+1)++l=row.take m++row[m]::l:=by rw[List.take_succ_eq_append_getElem KT,aC7];rfl
   rw[e,e'];exact hR
  ·refine(hE.and (ET cs (by omega) top row[m])).up λn ⟨h,hp⟩=> ?_
   rw[e0,pO,ad (by simp only[aC4];omega),ad (an KT),hg,hp,aC0,wrap64 _ (by omega) (by omega)];dsimp only;rw[h,aC7];rfl
def OJ:Nat->LI->Int->Bool
 |0,_,_=>false
 |_+1,[],_=>true
 |n+1,s::r,k=>bif decide (s<100)then true else bif(oH s k).2 then OJ n ((oH s k).1++r) k else true
def Gg:Nat->LI->Int->Nat
 |0,_,_=>0
 |_+1,[],_=>0
 |n+1,s::r,k=>bif decide (s<100)then 0 else bif(oH s k).2 then(oH s k).1.length+Gg n ((oH s k).1++r) k else 0
def S7 (s:Int):Bool:=(decide (0<=s)&&decide (s<=78))||xu.contains s
theorem PD:(xu.all λs=>kinds.all λk=>OJ 9 [s] k)=true:=by kernel_rfl
theorem P3:(xu.all λs=>kinds.all λk=>decide (Gg 9 [s] k<=20)&&(bif decide (vV 9 [s] k= .gone)then decide (Gg 9 [s] k=0)else true))=true:=by kernel_rfl
theorem XJ:(xu.all λs=>kinds.all λk=>(oH s k).1.all S7&&decide ((oH s k).1.length<=100))=true:=by kernel_rfl
theorem Nn {s:Int}(h:S7 s=true):okS s:=by
 unfold S7 at h;simp only[aG0,aC6,aC4,List.contains_iff_mem]at h;exact h
theorem PX {s k:Int}(hs:s∈xu)(h0:0<=k)(h1:k<=78):(∀x∈(oH s k).1,okS x)/\(oH s k).1.length<=100:=by
 have:=List.all_eq_true.1 (List.all_eq_true.1 XJ s hs) k (jf h0 h1);rw[aC6,aC4]at this;exact⟨λx hx=>Nn (List.all_eq_true.1 this.1 x hx),this.2⟩
theorem Ki {cs:Cls}{top s:Int}{r:LI}(h:Reads cs top (s::r)):decide (0<=top)=true/\(decide (0<=top)&&decide (top<(cs.length:Int)))=true/\∃b:Int,at_ (τ:=gz) cs top=(s,b,())/\Reads cs b r:=by
 obtain⟨i,b,rfl,hi,hr⟩:=h;have hl:=(List.getElem?_eq_some_iff.1 hi).1;refine⟨by simp,an hl,b, ?_,hr⟩;unfold at_;rw[Int.toNat_natCast,aE2,hi];rfl
def Ny (cs:Cls)(top k:Int)(y:(List gz.den×Unit)×Int×Bool×Unit):Prop:=Evt λn=>dS (S.tab n) (cs,()) top k=some (Sum.inl y)
theorem J3 {k:Int}(h0:0<=k)(h1:k<=78){c:LI}:∀(f:Nat)(l:LI)(cs:Cls)(top:Int),(∀s∈l,okS s)->OJ f l k=true->Reads cs top (l++c)->cs.length+Gg f l k<=2000000->
  ∃ds:Cls,ds.length<=Gg f l k/\
   (∀l',vV f l k= .left l'->∃ko,Reads (cs++ds) ko (l'++c)/\Ny cs top k ((cs++ds,()),ko,true,()))/\
   (vV f l k= .no->∃ko,Ny cs top k ((cs++ds,()),ko,false,()))/\
   (vV f l k= .gone->∃ko,Reads (cs++ds) ko c/\∀X,(Evt λn=>dS (S.tab n) (cs++ds,()) ko k=some X)->Evt λn=>dS (S.tab n) (cs,()) top k=some X)
 |0,l,_,_,_,ht,_,_=>by cases ht
 |f+1,[],cs,top,_,_,hr,_=>⟨[],aG8 _,λ_ e=>(by cases e),λe=>(by cases e),λ_=>⟨top,by rw[aF0];exact hr,λX h=>by rw[aF0]at h;exact h⟩⟩
 |f+1,s::r,cs,top,hs,ht,hr,hl=>by
  have yL:∀x∈r,okS x:=λx hx=>hs x (aD9 _ hx)
  obtain⟨d0,d1,b,hb,ag6⟩:=Ki (s:=s) (r:=r++c) hr;unfold OJ at ht;unfold Gg at hl⊢;unfold vV
  by_cases gX:s<100
  ·rw[aC1 gX]at hl⊢;simp only[aD6]
   have hE:Ny cs top k ((cs,()),b,decide (s=k),()):=aG.up λn _=>by
    rw[mV,ad d0,ad d1,hb,aN gX]
   refine⟨[],aG8 _, ?_⟩;rw[aF0]
   by_cases e:s=k
   ·rw[aC1 e]at hE⊢;refine⟨λl' e'=> ?_,λe'=>(by cases e'),λe'=>(by cases e')⟩
    injection e' with e'
    subst e';exact⟨b,ag6,hE⟩
   ·rw[aB9 e]at hE⊢;exact⟨λl' e'=>(by cases e'),λ_=>⟨b,hE⟩,λe'=>(by cases e')⟩
  ·rw[aB9 gX]at ht hl⊢;simp only[aD1]at ht hl⊢
   have al2:s∈xu:=by
    rcases hs s (aE0 ..)with h|h
    ·omega
    ·exact h
   obtain⟨ro,rl⟩:=PX al2 h0 h1
   have start:∀n,(∀s k:Int,s∈xu->0<=k->k<=78->im (S.tab n) s k=some (((oH s k).1,(oH s k).2,()),ab))->dS (S.step (S.tab n)) (cs,()) top k=brk (!(oH s k).2) (some (Sum.inl ((cs,()),b,false,()))) ((jX (S.tab n) (cs,()) b k (oH s k).1 (i64.wrap (((oH s k).1.length:Int) - 1))).bind (aO λLa=>dS (S.tab n) La.1 La.2.1 La.2.2.1)):=λn hx=>by
    rw[mV,ad d0,ad d1,hb,aM gX];show(im (S.tab n) s k).bind _=_;rw[hx s k al2 h0 h1,aC0]
   cases c1:(oH s k).2 with
   |false=>
    refine⟨[],aG8 _,λl' e'=>(by cases e'),λ_=>⟨b, ?_⟩,λe'=>(by cases e')⟩;rw[aF0]
    refine GN.up λn hx=> ?_
    rw[start n hx,c1,ad (by rfl)]
   |true=>
    rw[c1]at ht hl;simp only[aD6]at ht hl⊢;obtain⟨ds,YA,hd,hR,hE⟩:=GO k (oH s k).1 rl (oH s k).1.length cs b (r++c) (aE5 _) ag6 (by omega);rw[List.take_length,<-aC7]at hR;obtain⟨es,he,a1,a2,a3⟩:=J3 h0 h1 f ((oH s k).1++r) (cs++ds) YA (λx hx=>(aE9.1 hx).elim (ro x) (yL x)) ht hR (by simp;omega)
    have pass:∀X,(Evt λn=>dS (S.tab n) (cs++ds,()) YA k=some X)->Evt λn=>dS (S.tab n) (cs,()) top k=some X:=λX h=>by
     refine((GN.and h).and hE).up λn ⟨⟨hx,h⟩,hE⟩=> ?_
     rw[start n hx,c1,aB (by rfl),wrap64 _ (by omega) (by omega),hE,aC0];exact h
    refine⟨ds++es,by simp;omega, ?_⟩;rw[<-aC7];refine⟨λl' e'=> ?_,λe'=> ?_,λe'=> ?_⟩
    ·obtain⟨t,h,hF⟩:=a1 l' e';exact⟨t,h,pass _ hF⟩
    ·obtain⟨t,hF⟩:=a2 e';exact⟨t,pass _ hF⟩
    ·obtain⟨t,h,hF⟩:=a3 e';exact⟨t,h,λX hX=>pass _ (hF X hX)⟩
theorem X8 {s k:Int}(hs:okS s)(h0:0<=k)(h1:k<=78):OJ 9 [s] k=true/\Gg 9 [s] k<=20/\(stS s k= .gone->Gg 9 [s] k=0):=by
 rcases hs with⟨_,h⟩|h
 ·refine⟨by unfold OJ;rw[aC1 (show s<100 by omega)];rfl,by unfold Gg;rw[aC1 (show s<100 by omega)];exact aG8 _,λ_=>by unfold Gg;rw[aC1 (show s<100 by omega)];rfl⟩
 ·have:=List.all_eq_true.1 (List.all_eq_true.1 P3 s h) k (jf h0 h1);rw[aC6,aC4]at this;refine⟨List.all_eq_true.1 (List.all_eq_true.1 PD s h) k (jf h0 h1),this.1,λe=> ?_⟩;have e:vV 9 [s] k= .gone:=e;rw[aC1 e]at this;exact of_decide_eq_true this.2
theorem J7 {k:Int}(h0:0<=k)(h1:k<=78)(cs:Cls)(hl:cs.length<=1999900):∀(b:LI)(top:Int),(∀s∈b,okS s)->Reads cs top (b++[6])->
  ∃(ds:Cls) (ko:Int),ds.length<=20/\(∀l,pj b k= .left l->Reads (cs++ds) ko (l++[6]))/\Ny cs top k ((cs++ds,()),ko,vS (pj b k) (decide (6=k)),())
 |[],top,_,hr=>by
  obtain⟨d0,d1,b,hb,ag6⟩:=Ki (s:=6) (r:=[]) hr;refine⟨[],b,aG8 _,λl e=>(by cases e), ?_⟩;rw[aF0]
  refine aG.up λn _=> ?_
  rw[mV,ad d0,ad d1,hb,ad (by rfl)];rfl
 |s::r,top,hs,hr=>by
  have yL:∀x∈r,okS x:=λx hx=>hs x (aD9 _ hx)
  have TD:=hs s (aE0 ..)
  have e2:pj (s::r) k=(stS s k).then r (pj r k):=gu stS s r k
  obtain⟨t1,t2,t3⟩:=X8 TD h0 h1
  obtain⟨ds,hd,a1,a2,a3⟩:=J3 h0 h1 (c:=r++[6]) 9 [s] cs top (λx hx=>by
   have:x=s:=(by simpa using hx)
   subst this;exact TD) t1 hr (by omega)
  rw[e2]
  cases ho:stS s k with
  |left l=>
   obtain⟨t,h,hF⟩:=a1 l ho;refine⟨ds,t,by omega,λl' e=> ?_,hF⟩
   injection e with e
   subst e;rw[aC7];exact h
  |no=>
   obtain⟨t,hF⟩:=a2 ho;exact⟨ds,t,by omega,λl' e=>(by cases e),hF⟩
  |gone=>
   obtain⟨t,h,hF⟩:=a3 ho;have ax7:ds=[]:=List.length_eq_zero_iff.1 (by have:=t3 ho;omega);subst ax7;rw[aF0]at h;obtain⟨es,t',he,b1,b2⟩:=J7 h0 h1 cs hl r t yL h;exact⟨es,t',he,b1,hF _ (by rw[aF0];exact b2)⟩
theorem AD {k:Int}(h0:0<=k)(h1:k<=78)(cs:Cls)(hl:cs.length<=1999900)(b:LI)(top:Int)(hs:∀s∈b,okS s)(hr:Reads cs top (b++[6])):
  ∃(ds:Cls) (ko:Int),ds.length<=20/\(∀l,pj b k= .left l->Reads (cs++ds) ko (l++[6]))/\Evt λn=>kf (S.tab n) (cs,()) top k=some ((ko,vS (pj b k) (decide (6=k)),()),(cs++ds,()),(),(),()):=by
 obtain⟨ds,t,hd,h,hF⟩:=J7 h0 h1 cs hl b top hs hr;refine⟨ds,t,hd,h,hF.up λn h=> ?_⟩;rw[Bb,h];rfl
end Go.Abs.D
end

section
namespace Go.Abs.D
def Q5 (s:Int):Bool:=S7 s&& !(decide (s=2)||decide (s=3)||decide (s=7))
def MN (p:Int->Bool):Out->Bool
 | .left l=>l.all p
 |_=>true
theorem XW:(allI.all λs=>kinds.all λk=>MN Q4 (sC 9 [s] k))=true:=by kernel_rfl
theorem XL:(xu.all λs=>kinds.all λk=>MN Q5 (vV 9 [s] k))=true:=by kernel_rfl
theorem ab0:(xu.all λs=>(isLeft (vV 9 [s] 2)==isLeft (vV 9 [s] 3))&&(Im (vV 9 [s] 2)==Im (vV 9 [s] 3)))=true:=by kernel_rfl
def gdI (a:LI):Prop:=∀s∈a,okI s
def gdS (b:LI):Prop:=∀s∈b,Q5 s=true
theorem HZ {s:Int}(h:Q5 s=true):okS s/\s≠2/\s≠3/\s≠7:=by
 unfold Q5 at h;simp only[aC6,aH3,Bool.or_eq_false_iff,aC8]at h;exact⟨Nn h.1,h.2.1.1,h.2.1.2,h.2.2⟩
theorem gdS.ok {b:LI}(h:gdS b):∀s∈b,okS s:=λs hs=>(HZ (h s hs)).1
theorem E8 {k:Int}(h0:0<=k)(h1:k<=78):∀{a l:LI},gdI a->gO a k= .left l->gdI l
 |[],l,_,e=>by cases e
 |s::r,l,h,e=>by
  have hr:gdI r:=λx hx=>h x (aD9 _ hx)
  have e2:gO (s::r) k=(stI s k).then r (gO r k):=gu stI s r k
  rw[e2]at e
  have hs:∀l',stI s k= .left l'->gdI l':=λl' e' x hx=>by
   rcases h s (aE0 ..)with⟨_,h⟩|h
   ·rw[s6 h]at e'
    cases hd:decide (s=k)with
    |true=>rw[hd]at e';injection e' with e';subst e';cases hx
    |false=>rw[hd]at e';cases e'
   ·have:=List.all_eq_true.1 (List.all_eq_true.1 XW s h) k (jf h0 h1);have e':sC 9 [s] k= .left l':=e';rw[e']at this;exact H6 (List.all_eq_true.1 this x hx)
  cases ho:stI s k with
  |no=>rw[ho]at e;cases e
  |gone=>rw[ho]at e;exact E8 h0 h1 hr e
  |left l'=>
   rw[ho]at e
   injection e with e
   subst e
   exact λx hx=>(aE9.1 hx).elim (hs l' ho x) (hr x)
theorem JO {k:Int}(h0:0<=k)(h1:k<=78):∀{b l:LI},gdS b->pj b k= .left l->gdS l
 |[],l,_,e=>by cases e
 |s::r,l,h,e=>by
  have hr:gdS r:=λx hx=>h x (aD9 _ hx)
  have e2:pj (s::r) k=(stS s k).then r (pj r k):=gu stS s r k
  rw[e2]at e
  have hs:∀l',stS s k= .left l'->gdS l':=λl' e' x hx=>by
   rcases(HZ (h s (aE0 ..))).1 with⟨_,h⟩|h
   ·rw[Dp h]at e'
    cases hd:decide (s=k)with
    |true=>rw[hd]at e';injection e' with e';subst e';cases hx
    |false=>rw[hd]at e';cases e'
   ·have:=List.all_eq_true.1 (List.all_eq_true.1 XL s h) k (jf h0 h1);have e':vV 9 [s] k= .left l':=e';rw[e']at this;exact List.all_eq_true.1 this x hx
  cases ho:stS s k with
  |no=>rw[ho]at e;cases e
  |gone=>rw[ho]at e;exact JO h0 h1 hr e
  |left l'=>
   rw[ho]at e
   injection e with e
   subst e
   exact λx hx=>(aE9.1 hx).elim (hs l' ho x) (hr x)
theorem BB:∀{b:LI},gdS b->vS (pj b 2) false=vS (pj b 3) false
 |[],_=>rfl
 |s::r,h=>by
  have hr:gdS r:=λx hx=>h x (aD9 _ hx)
  have ih:=BB hr
  have e2:pj (s::r) 2=(stS s 2).then r (pj r 2):=gu stS s r 2
  have e3:pj (s::r) 3=(stS s 3).then r (pj r 3):=gu stS s r 3
  obtain⟨hs,h2,h3,_⟩:=HZ (h s (aE0 ..));rw[e2,e3]
  rcases hs with⟨_,h⟩|h
  ·rw[Dp h,Dp h,aB9 h2,aB9 h3];rfl
  ·have:=List.all_eq_true.1 ab0 s h;have e:vV 9 [s] 2=stS s 2:=rfl;have e':vV 9 [s] 3=stS s 3:=rfl;rw[e,e']at this
   cases ho:stS s 2<;>cases NL:stS s 3<;>rw[ho,NL]at this<;>first|rfl|exact ih|(simp[isLeft,Im]at this)
def qt (a:LI)(k:Int):Bool:=vS (gO a k) (decide (6=k))
def iE (b:LI)(k:Int):Bool:=vS (pj b k) (decide (6=k))
theorem J1 (f:LI->LI)(o:Out)(d:Bool):vS (o.map f) d=vS o d:=by cases o<;>rfl
theorem JG {a b:LI}(ha:gdI a)(hb:gdS b)(h:NI a=NS b){k:Int}(h0:0<=k)(h1:k<=78):qt a k=iE b k:=by
 unfold qt iE;rw[<-J1 NI (gO a k),<-J1 NS (pj b k),J5 h0 h1 ha hb.ok h]
theorem GZ {a b:LI}(ha:gdI a)(hb:gdS b)(h:NI a=NS b){k:Int}(h0:0<=k)(h1:k<=78)(h6:k≠6)(hc:qt a k=true):∃l m,gO a k= .left l/\pj b k= .left m/\gdI l/\gdS m/\NI l=NS m:=by
 have hs:=J5 h0 h1 ha hb.ok h;unfold qt at hc;rw[aB9 (λe=>h6 e.symm)]at hc
 cases ho:gO a k with
 |no=>rw[ho]at hc;cases hc
 |gone=>rw[ho]at hc;cases hc
 |left l=>
  rw[ho]at hs
  cases NL:pj b k with
  |no=>rw[NL]at hs;cases hs
  |gone=>rw[NL]at hs;cases hs
  |left m=>
   rw[NL]at hs
   injection hs with hs
   exact⟨l,m,rfl,rfl,E8 h0 h1 ha ho,JO h0 h1 hb NL,hs⟩
def pick (p:Int->Bool):Nat->LI
 |0=>[]
 |m+1=>(bif p ((78 - m:Nat):Int)then [((78 - m:Nat):Int)]else [])++pick p m
theorem E4 {p:Int->Bool}:∀{m:Nat}{k:Int},k∈pick p m->p k=true/\k<=78
 |0,k,h=>by cases h
 |m+1,k,h=>by
  unfold pick at h
  rcases aE9.1 h with h|h
  ·cases hp:p ((78 - m:Nat):Int)with
   |true=>
    rw[hp]at h;have:k=((78 - m:Nat):Int):=(by simpa using h);rw[this];exact⟨hp,by omega⟩
   |false=>rw[hp]at h;cases h
  ·exact E4 h
theorem EO {p:Int->Bool}:∀{m:Nat}{k:Int},m<=78->(79:Int) - (m:Int)<=k->k<=78->p k=true->k∈pick p m
 |0,k,_,h,h',_=>by omega
 |m+1,k,hm,h,h',hp=>by
  unfold pick
  by_cases e:k=((78 - m:Nat):Int)
  ·rw[<-e,hp];exact aF6 _ (List.mem_singleton.2 rfl)
  ·exact aF3 _ (EO (by omega) (by omega) h' hp)
theorem Kj {p:Int->Bool}:∀m:Nat,(pick p m).length<=m
 |0=>aE5 _
 |m+1=>by
  unfold pick;have:=Kj (p:=p) m;cases p ((78 - m:Nat):Int)<;>simp<;>omega
theorem L9 (cs:Cls)(zB:cs.length<=1999900)(b:LI)(top:Int)(hb:gdS b)(hr:Reads cs top (b++[6])):∀(m:Nat)(acc:LI),m<=78->acc.length+m<=100->Evt λn=>jR (S.tab n) (cs,()) top acc (cs.length:Int) ((79 - m:Nat):Int)=some (Sum.inl ((cs,()),acc++pick (iE b) m,()))
 |0,acc,_,_=>aG.up λn _=>by
  rw[nK,aB (by decide)];show _=some (Sum.inl ((cs,()),acc++[],()));rw[aF0]
 |m+1,acc,hm,hl=>by
  have e:(79 - (m+1):Nat)=78 - m:=(by omega)
  have w:i64.wrap (((78 - m:Nat):Int)+1)=((79 - m:Nat):Int):=by rw[wrap64 _ (by omega) (by omega)];omega
  have d:decide (((78 - m:Nat):Int)<=78)=true:=by simp only[aC4];omega
  rw[e];unfold pick;obtain⟨ds,ko,hd,_,hF⟩:=AD (k:=((78 - m:Nat):Int)) (by omega) (by omega) cs zB b top hb.ok hr;have hk:vS (pj b ((78 - m:Nat):Int)) (decide ((6:Int)=((78 - m:Nat):Int)))=iE b ((78 - m:Nat):Int):=rfl;rw[hk]at hF;have Un:bounds (cs++ds).length 0 (cs.length:Int)=true:=dZ (i:=0) (aG8 _) (by simp);have ap8:(cs++ds).take (cs.length:Int).toNat=cs:=(by rw[Int.toNat_natCast,List.take_left])
  cases Zq:iE b ((78 - m:Nat):Int)with
  |true=>
   rw[Zq]at hF
   refine((L9 cs zB b top hb hr m (acc++[((78 - m:Nat):Int)]) (by omega) (by simp;omega)).and hF).up λn ⟨h,hc⟩=> ?_
   rw[nK,ad d,hc,aC0];dsimp only;rw[ad Un,ad rfl,ad (bc (by unfold lim;simp;omega)),ap8,w,h,aC7];rfl
  |false=>
   rw[Zq]at hF
   refine((L9 cs zB b top hb hr m acc (by omega) (by omega)).and hF).up λn ⟨h,hc⟩=> ?_
   rw[nK,ad d,hc,aC0];dsimp only;rw[ad Un,aB rfl,ap8,w,h];rfl
theorem Vn (cs:Cls)(zB:cs.length<=1999900)(b:LI)(top:Int)(hb:gdS b)(hr:Reads cs top (b++[6])):Evt λn=>qG (S.tab n) (cs,()) top=some (pick (iE b) 78,(cs,()),(),()):=
 (L9 cs zB b top hb hr 78 [] (aE5 _) (by simp)).up λn h=>by
  have h:jR (S.tab n) (cs,()) top [] (cs.length:Int) 1=_:=h;rw[C1];dsimp only;rw[h];rfl
end Go.Abs.D
end

section
namespace Go.Abs.D
def fz (k:Int)(s:LI):Bool:=
 decide (0<s.length)&&decide (s.length<=40)&&(match kL s 0 with| .inl _=>false| .inr t=>decide (t.1=k)&&decide (t.2.2.1=(s.length:Int)))
theorem Cb (s:LI)(i j:Nat)(f:Bool):(jC s i j f).1=2\/(jC s i j f).1=3:=by
 unfold jC
 cases f|| !decide (dv 0 (bJ s i j)<9223372036854775808)with
 |true=>exact .inr rfl
 |false=>exact .inl rfl
theorem GH {s:LI}{i j:Nat}{f:Bool}{t:al.den}(h:sw s i j f= .inr t):t.1=2\/t.1=3:=by
 unfold sw at h
 cases h5:decide (get s j=101)with
 |true=>
  rw[h5]at h
  cases hd:aR (get s (lz s j))with
  |true=>rw[hd]at h;injection h with h;subst h;exact Cb ..
  |false=>rw[hd]at h;cases h
 |false=>rw[h5]at h;injection h with h;subst h;exact Cb ..
theorem Ko {s:LI}{i:Nat}{t:al.den}(h:iZ s i= .inr t):t.1=2\/t.1=3:=by
 unfold iZ at h
 have fr:∀j,sj s i j= .inr t->t.1=2\/t.1=3:=λj h=>by
  unfold sj at h
  cases h5:decide (get s j=46)&&aR (get s (j+1))with
  |true=>rw[h5]at h;exact GH h
  |false=>rw[h5]at h;exact GH h
 cases h0:decide (get s i=48)&&decide (get s (i+1)=120)with
 |false=>rw[h0]at h;exact fr _ h
 |true=>
  rw[h0]at h;have h:ic s i= .inr t:=h;unfold ic at h
  by_cases he:j8 s (i+18) (i+2)=i+2
  ·simp only[he,if_true]at h;cases h
  ·simp only[he,aH6]at h
   cases hx:gy (get s (j8 s (i+18) (i+2)))with
   |true=>simp only[hx,if_true]at h;cases h
   |false=>simp only[hx,aG2,aH6]at h;injection h with h;subst h;exact .inl rfl
def kd (t:al.den):Int:=t.1
theorem Z9 (f:LI):5<=sgn f:=by
 unfold sgn
 cases h1:decide (stop (sq opsL f) 19 1<19)with
 |true=>rw[aD6];omega
 |false=>
  cases h2:decide (stop (sq Lx.lY f) 11 0<11)with
  |true=>rw[aD1,aD6];omega
  |false=>rw[aD1,aD1];omega
theorem Aw {s:LI}{i:Nat}{t:al.den}(h:kL s i= .inr t):
  (bC (get s i)=true->kd t=1\/10<=kd t)/\(bC (get s i)=false->aR (get s i)=true->kd t=2\/kd t=3)/\(bC (get s i)=false->aR (get s i)=false->4<=kd t):=by
 unfold kL at h;refine⟨λhl=> ?_,λhl hd=> ?_,λhl hd=> ?_⟩
 ·rw[hl]at h
  injection h with h
  subst h;unfold Ge;simp only;split
  ·right;show(10:Int)<=((10+_:Nat):Int);omega
  ·exact .inl rfl
 ·rw[hl,hd]at h;exact Ko h
 ·rw[hl,hd]at h
  cases zC:decide (get s i=34)with
  |true=>
   rw[zC]at h;have h:Gf i (eB s s.length (i+1) [])= .inr t:=h
   cases hr:eB s s.length (i+1) []with
   |inl e=>rw[hr]at h;cases h
   |inr y=>
    rw[hr]at h;obtain⟨e,r⟩:=y
    injection h with h
    subst h;exact Int.le_refl 4
  |false=>
   rw[zC]at h;have h:qc i (ja (p3 s i))= .inr t:=h;unfold qc ja at h
   cases hk:decide (lf (p3 s i)<30)with
   |false=>rw[hk]at h;cases h
   |true=>
    rw[hk]at h;simp only[aD6]at h;rw[aB9 (Dr _)]at h
    injection h with h
    subst h;have:=Z9 (bh.getD (lf (p3 s i)) []);show(4:Int)<=((sgn _:Nat):Int);omega
def one (k:Int)(s:LI):Bool:=match kL s 0 with| .inl _=>false| .inr t=>decide (t.1=k)&&decide (t.2.2.1=(s.length:Int))
theorem zV {c:Int}(h:bC c=true):aR c=false:=by
 cases hd:aR c with
 |false=>rfl
 |true=>
  have:=dig hd;simp only[bC,aG0,aC6,aC4]at h;omega
end Go.Abs.D
end
