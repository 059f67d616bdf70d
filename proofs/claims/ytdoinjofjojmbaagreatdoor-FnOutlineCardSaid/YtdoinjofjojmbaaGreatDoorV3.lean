/- What is here: append to a row of bytes, told by the world alone; for the library's functions. -/
import Derived.Test.YtdoinjofjojmbaaGreatDoorV2
import Derived.Laws.Externs
import Derived.LaidMore
import Derived.LaidHandle
set_option linter.all false
set_option maxRecDepth 100000
open Go.IntKind (i64 u64 u8)
open Bool renaming and_eq_true → aA, false → ar, true → av
open Go.Addr renaming add_lit → a16
open Go.Builtin renaming append_ → a18
open Go.DataW renaming trod → a34
open Go.IntKind renaming u8 → aN
open Go.Value renaming int → bN
open List renaming all_cons → cz, append_assoc → aI, drop → a77, drop_eq_getElem_cons → bJ, ext_getElem? → a06, getElem?_drop → cL, getElem?_eq_getElem → aJ, getElem?_eq_none → bM, getElem?_map → a05, getElem?_take → cK, length_cons → az, length_nil → aB, length_pos_iff → cp, length_set → cA, length_take → bl, mem_cons → bA, mem_cons_of_mem → aD, mem_cons_self → aF, nodup_cons → cg, nodup_nil → bf, take → a78
open Nat renaming le_refl → aC, mul_le_mul → a13, mul_one → a57, zero_add → cj
open Option renaming bind_some → au, map_eq_some_iff → bj, none → ay, some → J
open Prod.mk renaming injEq → cy
section
namespace Go.Abs
theorem Ry (w:World)(o:Go.Obj):(w.drew.alloc o).heap[w.heap.size]?=J o:=by
 show(w.heap.push _)[w.heap.size]?=_;simp
theorem RK {P:Program}{dj:Rd}{w:World}{t tx ty e:TypeId}{i:TypeInfo}{z:Value}(ht:P.underlying t=J (.slice e))(hi:P.info? e=J i)(hz:i.zero=J z)
  (po:i.size=1) (LP:i.bytes<=128) {xs ys:List Int} {u x:Value} {nb:List Nat} (hT:OwnAt dj w ar (.int .u8) xs [u] nb) (Qa:∀b∈nb,∃arr,w.heap[b]?=J (.cells arr e (0,0))) (hS:Src P 1 tx x ys.length (ys.map (bN .u8)) w)
  (u5:xs.length+ys.length<=1099511627776) {v:Value} {w':World} (hr:(a18 #[t,tx] ty #[u,x]).run P w= .ok v w') {b n cap:Nat} (hv:v= .slice (J ⟨b,0,ay⟩) n cap):
  ∃arr,w'.heap[b]?=J (.cells arr e (0,0)):=by
 have ab6:=hS;rw[<-po]at ab6
 have grow:∀{base:Option Addr} {sCap:Nat} {olds:List Value},u= .slice base xs.length sCap->(Builtin.firstCells i.size xs.length (.slice base xs.length sCap)).run P w.drew= .ok olds.toArray w.drew->sCap<xs.length+ys.length->
   ∃arr,w'.heap[b]?=J (.cells arr e (0,0)):=by
  intro base sCap olds hu hold hg
  have hb:(xs.length+ys.length)*i.bytes<=140737488355328:=by
   have:(xs.length+ys.length)*i.bytes<=1099511627776*128:=a13 u5 LP;omega
  have as1:=run_append_grow_src (P:=P) w t tx ty e i z ht hi hz base xs.length sCap olds hold x ys.length _ ab6 hg (by omega) (growslice_fits hg hb)
  grind [Ry]
 rcases hT with⟨h1,rfl,_⟩|⟨b',Jf,arr,Ds,ku,h1,h2,h3,h4,h5,h6⟩
 ·injection h1 with h1 _
  subst h1
  by_cases h0:ys=[]
  ·simp_all[run_append_nothing,aC]
  ·have tu:0<ys.length:=cp.2 h0;exact grow rfl (olds:=[]) (by rfl) (by omega)
 ·injection h1 with h1 _
  subst h1;obtain⟨aI5,k1⟩:=Qa b' (by simp_all);rw[h3]at k1
  injection k1 with k1;injection k1 with _ k2
  subst k2
  have ZR:arr.size=Jf:=by simp_all[Ty.size]
  by_cases hroom:xs.length+ys.length<=Jf
  ·obtain⟨a1,a2,a3⟩:=ET (P:=P) (us:=ys.map (bN .u8)) (o:=xs.length) h3 (by simp;omega) hS.one;have as1:=run_append_room_src (P:=P) w t tx ty Ds i ht hi b' 0 xs.length Jf x ys.length _ ab6 hroom (by simpa[po]using a1) (by simpa[po]using a2);rw[po,cj,a57,a3]at as1;rw[as1]at hr
   injection hr with h1 h2
   rw[hv]at h1
   injection h1 with h1 _
   injection h1 with h1;injection h1 with h1
   subst h2;rw[<-h1];exact⟨_,setRow_heap w b' arr _ Ds (0,0) h3⟩
  ·have hE:Els dj (.int .u8) xs arr.toList 0:=h6.1;obtain⟨EA,L5⟩:=KQ hE;refine grow (olds:=arr.toList.take (xs.length*1)) rfl ?_ (by omega);rw[po];refine run_firstCells_some (P:=P) w.drew 1 xs.length _ xs.length Jf _ (by simpa[Ty.size]using L5) (λj v hj=> ?_);rw[a16,World.cell?_drew];exact jE h3 (o:=0) _ j v (by simpa using hj)
open Classical in
theorem JE {P:Program}{dj:Rd}{w:World}{t tx ty e:TypeId}{i:TypeInfo}{z:Value}(ht:P.underlying t=J (.slice e))(hi:P.info? e=J i)(hz:i.zero=J z)
  (po:i.size=1) (LP:i.bytes<=128) (Qd:z.cells.size=1) {xs ys:List Int} {u x:Value} {nb:List Nat} (hT:OwnAt dj w ar (.int .u8) xs [u] nb) (hS:Src P 1 tx x ys.length (ys.map (bN .u8)) w)
  (u5:xs.length+ys.length<=1099511627776) (hc:∀b L,dj b=J L->∃arr ty fr,w.heap[b]?=J (.cells arr ty fr)/\arr.toList=L) (hn:∀b∈nb,dj b=ay/\b<w.heap.size) (Qa:∀b∈nb,∃arr,w.heap[b]?=J (.cells arr e (0,0))):
  ∃v w' ku,(a18 #[t,tx] ty #[u,x]).run P w= .ok v w'/\After dj w nb dj w' ku/\OwnAt dj w' ar (.int .u8) (xs++ys) [v] ku/\∀b∈ku,∃arr,w'.heap[b]?=J (.cells arr e (0,0)):=by
 let g:Gh:={dj:=dj,top:=λ_=>0,cv:=λ_ _=> .nilIface,fL:=λy=>if y∈nb then J 1 else ay,gA:=λ_=>ay,outer:=λ_=>[]}
 let B:Base:={dj:=dj,fL:=g.fL,w:=w,arg:=λ_=> .nilIface}
 have R:HRel B g [] w:=by
  refine⟨λid=>rfl,λid o h=>(by cases h),λb L h=> ?_,λb L h=>(by cases h),λb h=> ?_,λb L h=>h,λb _ h1 h2=>⟨h1,h2,rfl⟩,aC _,rfl,rfl,rfl,λ_ _ _=>rfl⟩
  all_goals grind
 have ez:(Value.cells z).size=(Ty.int .u8).size:=Qd
 have aZ5:Tgt g [] w (ar&& !(Ty.int aN).flat) (.int .u8) xs u []:=by
  rcases hT with⟨h1,h2,h3⟩|⟨b,cap,arr,Ds,ku,h1,h2,h3,h4,h5,h6⟩
  ·injection h1 with h1 _
   exact .inl ⟨h1,h2,rfl⟩
  ·injection h1 with h1 _
   obtain⟨h6,h7⟩:=h6;subst h7
   have hb:b∈nb:=by simp_all
   refine .inr ⟨b,cap,arr,Ds,h1,⟨λ_ _ _ h=>(by cases h), ?_,(hn b hb).1,rfl,λh=> ?_⟩,by simp,(hn b hb).2,h3,h4,h5,h6,rfl⟩
   all_goals grind
 have hQ:iZ g (ar&& !(Ty.int aN).flat) (.int .u8) ys (ys.map (bN .u8)) []:=by
  refine⟨λj hj=> ?_,rfl⟩;show a78 1 (a77 (0+j*1) (ys.map (bN .u8)))=[bN .u8 ys[j]];simp_all[cj,a57,bJ]
 obtain⟨v,w',g',hr,l,R',xa⟩:=Hh (τ:= .int .u8) (ty:=ty) ht hi hz po LP ez R aZ5 hS hQ (λ_ h=>by simp) u5 (λ_ _ h=>by grind) 7;have nE:v=g'.cv 7 0:=xa.2.1
 have oH:∀b,b<w.heap.size->b∉nb->dj b=ay->w'.heap[b]?=w.heap[b]?/\g'.fL b=none:=λb h1 h2 h3=>by
  obtain⟨a1,_,a3⟩:=R'.frame b h1 (aj h2) h3
  grind
 have ab1:∀b L,dj b=J L->g'.fL b=ay/\∃arr ty fr,w'.heap[b]?=J (.cells arr ty fr)/\arr.toList=L:=λb L h=>by
  obtain⟨a1,_,a3⟩:=R'.dj b L (R'.kH b L h);simp_all
 have hO:=R'.gE 7 _ (du _ _ _)
 rcases hO with⟨h1,h2⟩|⟨b,cap,arr,Ds,h1,h2,h3,h4,h5,h6,h7⟩
 ·refine⟨v,w',[],hr,⟨λ_ _ h=>h,λb L h=>(ab1 b L h).2,λb h1 h2 h3=>⟨(oH b h1 h2 h3).1,h3⟩,bf,λb h=>by simp at h,R'.size,R'.os,R'.tape,R'.output,λb L h=>R'.fix b L h⟩, .inl ⟨by rw[nE];exact congrArg (λv=>[v]) h1,h2,rfl⟩,λb hb=>by simp at hb⟩
 ·have Yj:dj b=none:=by
   cases e:dj b with
   |none=>rfl
   |some L=>
    have:=(ab1 b L e).1;rw[h2]at this;cases this
  refine⟨v,w',[b],hr,⟨λ_ _ h=>h,λb L h=>(ab1 b L h).2,λb h1 h2 h3=>⟨(oH b h1 h2 h3).1,h3⟩,by simp,λy hy=> ?_,R'.size,R'.os,R'.tape,R'.output,λb L h=>R'.fix b L h⟩, .inr ⟨b,cap,arr,Ds,[],by rw[nE];exact congrArg (λv=>[v]) h1,rfl,h4,h5,h6, ?_,rfl⟩,λy hy=> ?_⟩
  ·have hy:y=b:=(by simpa using hy);subst hy;refine⟨Yj, ?_,R'.gD _ (by rw[h2];simp)⟩
   by_cases hm:y∈nb
   ·exact .inl hm
   ·refine .inr (Nat.le_of_not_lt λkI=> ?_);have:=(oH y kI hm Yj).2;rw[h2]at this;cases this
  ·exact Els.flat rfl h7
  ·have hy:y=b:=(by simpa using hy);subst hy;exact RK ht hi hz po LP hT Qa hS u5 hr (nE.trans h1)
theorem pX {w:World}{b k:Nat}{arr:Array Value}{ty:TypeId}(h:w.heap[b]?=J (.cells arr ty (0,0)))(v:Value):
  (w.setCell ⟨b,k,ay⟩ v).heap[b]?=J (.cells (arr.setIfInBounds k v) ty (0,0))/\(∀x,x≠b->(w.setCell ⟨b,k,ay⟩ v).heap[x]?=w.heap[x]?)/\(w.setCell ⟨b,k,ay⟩ v).heap.size=w.heap.size:=
 ⟨heap_setCell_same w b k arr ty v h,λx hx=>heap_setCell_other w _ x v hx,by simp⟩
theorem lt_of_heap {w:World}{b:Nat}{o:Go.Obj}(h:w.heap[b]?=J o):b<w.heap.size:=by
 grind
theorem OwnAt.other {dj:Rd}{w w':World}{xs:List Int}{us:List Value}{nb:List Nat}(h:OwnAt dj w ar (.int .u8) xs us nb)(k:∀b∈nb,w'.heap[b]?=w.heap[b]?):OwnAt dj w' ar (.int .u8) xs us nb:=by
 rcases h with h|⟨b,cap,arr,ty,ku,h1,h2,h3,h4,h5,h6,h7⟩
 ·exact .inl h
 ·exact .inr ⟨b,cap,arr,ty,ku,h1,h2,by simp_all,h4,h5,h6,h7⟩
theorem JS {dj:Rd}{w w1 w2:World}{b o:Nat}{arr:Array Value}{ty:TypeId}{xs:List Int}{v:Value}{self:Value}{OB SX:List Nat}
  (ha:w.heap[b]?=J (.cells arr ty (0,0))) (hle:o+2<=arr.size) (hn:(b::OB).Nodup) (hi:∀y∈b::OB,dj y=ay/\y<w.heap.size)
  (hc:∀b L,dj b=J L->∃arr ty fr,w.heap[b]?=J (.cells arr ty fr)/\arr.toList=L)
  (e1:w1=w.setCell ⟨b,o,ay⟩ self) (A:After dj w1 OB dj w2 SX) (hO:OwnAt dj w2 ar (.int .u8) xs [v] SX):
  After dj w (b::OB) dj (w2.setCell ⟨b,o+1,ay⟩ v) (b::SX)/\b∉SX/\∃oa,(w2.setCell ⟨b,o+1,ay⟩ v).heap[b]?=J (.cells oa ty (0,0))/\
   oa.toList=arr.toList.take o++[self,v]++arr.toList.drop (o+2)/\OwnAt dj (w2.setCell ⟨b,o+1,ay⟩ v) ar (.int .u8) xs [v] SX/\w2.heap[b]?=J (.cells (arr.setIfInBounds o self) ty (0,0)):=by
 obtain⟨s1,s2,s3⟩:=pX (k:=o) ha self;rw[<-e1]at s1 s2 s3;have XG:b<w1.heap.size:=lt_of_heap s1;have Be:=cg.1 hn;have YH:=(hi b (aF ..)).1
 have h2:w2.heap[b]?=J (.cells (arr.setIfInBounds o self) ty (0,0)):=by rw[(A.same b XG Be.1 YH).1];omega
 have LZ:b∉SX:=λhm=>by
  rcases(A.Yo b hm).2.1 with h|h
  all_goals grind
 obtain⟨t1,t2,t3⟩:=pX (k:=o+1) h2 v;refine⟨⟨λ_ _ h=>h,λy L h=> ?_,λy h1 hm h3=> ?_,cg.2 ⟨LZ,A.nodup⟩,λy hy=> ?_, ?_, ?_, ?_, ?_,λy L h=> ?_⟩,LZ,_,t1, ?_,hO.other λy hy=>t2 y (λe=>LZ (e ▸ hy)),h2⟩
 ·have ab4:y≠b:=λe=>by simp_all
  obtain⟨a,t,f,k1,k2⟩:=A.cells y L h;simp_all
 ·have ab4:y≠b:=λe=>hm (e ▸ aF ..)
  have aP4:y∉OB:=λe=>hm (aD _ e)
  rw[t2 y ab4,(A.same y (by omega) aP4 h3).1,s2 y ab4];simp_all
 ·rcases bA.1 hy with rfl|hy
  ·grind
  ·obtain⟨k1,k2,k3⟩:=A.Yo y hy
   grind
 ·rw[t3,<-s3];exact A.size
 ·show w2.os=w.os;rw[A.os,e1];rfl
 ·show w2.tape=w.tape;rw[A.tape,e1];rfl
 ·show w2.output=w.output;rw[A.output,e1];rfl
 ·have ab4:y≠b:=λe=>by subst e;rw[YH]at h;cases h
  rw[t2 y ab4,A.fix y L h,s2 y ab4]
 ·simp only[Array.toList_setIfInBounds]
  apply a06
  intro j;have hl:arr.toList.length=arr.size:=rfl;simp only[List.getElem?_set,cA,aI,List.getElem?_append,bl,cK,az,aB,cL]
  rcases Nat.lt_trichotomy j o with h|h|h
  ·rw[aj (by omega),aj (by omega),ak (by omega),ak h]
  ·subst h;rw[aj (by omega),ak rfl,ak (by omega),aj (by omega),ak (by omega)];rw[show j - min j arr.toList.length=0 by omega];rfl
  ·by_cases h2:j=o+1
   ·subst h2;rw[ak rfl,ak (by omega),aj (by omega),ak (by omega),show o+1 - min o arr.toList.length=1 by omega];rfl
   ·rw[aj (by omega),aj (by omega),aj (by omega),aj (by omega)]
    congr 1
    omega
theorem vr {P:Program}{w:World}{ops:Array Oper}{rest:List Oper}{o:Oper}{a:Act}{Q:Exit->Act->World->Prop}(as4:o.guard=ay)(s x:Operand)(t u:TypeId)
  (ho:o.op= .call {callee:= .builtin .append,args:=#[s,x],argTypes:=#[t,u]}) (vs vx:Value) (hs:a.eval s=vs) (hx:a.eval x=vx) (R:Value->World->Prop)
  (hr:∃v w',(a18 #[t,u] o.type #[vs,vx]).run P w= .ok v w'/\R v w') (h:∀v w',R v w'->wpList P ops Q rest (a.put o.dst v) w'):wpList P ops Q (o::rest) a w:=by
 obtain⟨v,w',hr,hR⟩:=hr
 refine wpList_plain as4 λK hK=> ?_
 unfold Oper.wp execOp;simp[ho,resolve,invoke,builtin,hs,hx,hr];exact hK _ _ (h v w' hR)
theorem After.WX {dj:Rd}{w w':World}{nb ku:List Nat}{o:Go.Obj}(hc:∀b L,dj b=J L->b<w.heap.size)(h:After dj (w.alloc o) nb dj w' ku):After dj w nb dj w' ku:=by
 have hs:(w.alloc o).heap.size=w.heap.size+1:=(by simp);refine⟨h.mono,h.cells,λb h1 h2 h3=> ?_,h.nodup,λb hb=> ?_, ?_,h.os,h.tape,h.output,λb L hb=> ?_⟩
 ·rw[(h.same b (by omega) h2 h3).1];refine⟨?_,h3⟩;show(w.heap.push _)[b]?=_
  grind
 ·obtain⟨a1,a2,a3⟩:=h.Yo b hb
  grind
 ·have:=h.size;omega
 ·rw[h.fix b L hb];show(w.heap.push _)[b]?=_
  grind
theorem OwnAt.alloc {dj:Rd}{w:World}{xs:List Int}{us:List Value}{nb:List Nat}(h:OwnAt dj w ar (.int .u8) xs us nb)(k:∀b∈nb,b<w.heap.size)(o:Go.Obj):OwnAt dj (w.alloc o) ar (.int .u8) xs us nb:=
 h.other λb hb=>by
  show(w.heap.push _)[b]?=_
  grind
end Go.Abs
end

section
namespace Go.Abs
theorem gU {P:Program}{f:FuncId}{fn:Func}{c:Code}{args:Array Value}{w:World}{R:Value->World->Prop}(hf:P.funcs[f]?=J fn)(hb:fn.body=J c)(Rl:(fn.name== "runtime.NumGoroutine")=ar)
  (h:Calls P f args w λe w'=>∃v,e= .returned v/\R v w'):jR P f args w R:=by
 have N8:(callFunc f args).run P w= .ok (.enter f args) w:=by
  have h1:fn.name≠ "runtime.NumGoroutine" :=(by simpa using Rl)
  simp[callFunc,hf,h1,hb]
 unfold jR;rw[N8];exact h
structure Same (w w':World):Prop where
 other:∀b,b<w.heap.size->w'.heap[b]?=w.heap[b]?
 size:w.heap.size<=w'.heap.size
 os:w'.os=w.os
 tape:w'.tape=w.tape
 output:w'.output=w.output
theorem Same.refl (w:World):Same w w:=⟨λ_ _=>rfl,aC _,rfl,rfl,rfl⟩
theorem Same.after {dj:Rd}{w w':World}(h:Same w w')(hc:∀b L,dj b=J L->∃arr ty fr,w.heap[b]?=J (.cells arr ty fr)/\arr.toList=L):After dj w [] dj w' []:=
 ⟨λ_ _ h=>h,λb L k=>by
  obtain⟨a,t,f,k1,k2⟩:=hc b L k
  exact⟨a,t,f,by rw[h.other b (lt_of_heap k1)];exact k1,k2⟩,λb h1 _ h3=>⟨h.other b h1,h3⟩,bf,(λb hb=>by simp at hb),h.size,h.os,h.tape,h.output,λb L k=>by
  obtain⟨a,t,f,k1,k2⟩:=hc b L k
  exact h.other b (lt_of_heap k1)⟩
def Is:(τ:Ty)->τ.den->Value->Prop
 | .int k,x,u=>u= .int k x
 | .bool,b,u=>u= .bool b
 | .str,l,u=>∃s,u= .string s/\l=bytesOf s
 |_,_,_=>False
def sJ:List Ty->List VSp
 |[]=>[]
 |τ::r=> .one (.fh τ)::sJ r
def BU:(ts:List Ty)->(eI (sJ ts)).den->List Value->Prop
 |[],_,us=>us=[]
 |τ::r,x,us=>∃u v,us=u::v/\Is τ x.1 u/\BU r x.2 v
def simple:Ty->Bool
 | .int _=>av
 | .bool=>av
 | .str=>av
 |_=>ar
theorem Tl {r:Rd}{τ:Ty}{x:τ.den}{u:Value}(hs:simple τ=av)(h:Rc r τ x [u]):Is τ x u:=by
 cases τ with
 |int k=>have h:_=_:=h;injection h
 |bool=>have h:_=_:=h;injection h
 |str=>obtain⟨s,e,h⟩:=h;injection e with e;exact⟨s,e,h⟩
 |_=>cases hs
theorem Nw {r:Rd}{τ:Ty}{x:τ.den}{u:Value}(hs:simple τ=av)(h:Is τ x u):Rc r τ x [u]/\oc u=av/\τ.one=true:=by
 cases τ with
 |int k=>have h:_=_:=h;subst h;exact⟨rfl,rfl,rfl⟩
 |bool=>have h:_=_:=h;subst h;exact⟨rfl,rfl,rfl⟩
 |str=>obtain⟨s,e,h⟩:=h;subst e;exact⟨⟨s,rfl,h⟩,rfl,rfl⟩
 |_=>cases hs
theorem wN {dj:Rd}{w:World}:∀{ts:List Ty} {x:(eI (sJ ts)).den} {us:List Value} {nb:List Nat},(ts.all simple)=av->jk dj w (sJ ts) x us nb->BU ts x us/\nb=[]
 |[],_,_,_,_,h=>h
 |τ::r,x,us,nb,hs,⟨u,v,n1,n2,e,e',⟨_,h1,_,u',e2,h2⟩,h3⟩=>by
  simp only[cz,aA]at hs
  injection e2 with e2
  subst e2;obtain⟨k1,k2⟩:=wN hs.2 h3;exact⟨⟨u,v,e,Tl hs.1 h2,k1⟩,by rw[e',h1,k2];rfl⟩
theorem wP {dj:Rd}{w w':World}:∀{ts:List Ty} {x:(rk (sJ ts)).den} {y:(eI (sJ ts)).den} {us:List Value},BU ts y us->l6 dj w w' (sJ ts) x us []
 |[],_,_,_,h=>⟨h,rfl⟩
 |_::_,_,_,_,⟨u,v,e,_,h⟩=>⟨u,v,[],[],e,rfl,rfl,wP h⟩
theorem zQ {P:Program}{fH:Nat->Option (List Cell)}{f:FuncId}{ts:List Ty}{τ:Ty}(aC6:ts.all simple=av)(hτ:simple τ=av){F:(eI (sJ ts)).den->Option (Ty.pr τ (rk (sJ ts))).den}
  (h:∀x y,F x=J y->∀w us,BU ts x us->jR P f us.toArray w λv w'=>Same w w'/\Is τ y.1 v):oF P fH f ⟨⟨sJ ts, .val (.one (.fh τ))⟩,F⟩:=by
 intro x y hF dj w args nb hG kG hP o9 Be;obtain⟨hA,rfl⟩:=wN aC6 hP;refine jR.mono (λv w' hk=> ?_) (h x y hF w args hA);obtain⟨hs,hv⟩:=hk;obtain⟨k1,k2,k3⟩:=Nw (r:=dj) hτ hv;exact⟨dj,[],[],hs.after kG,⟨k2,rfl,k3,v,rfl,k1⟩,wP hA⟩
theorem BU.map {dj:Rd}{w:World}:∀{ts:List Ty} {x:(eI (sJ ts)).den} {us:List Value},(ts.all simple)=av->BU ts x us->tn dj w (sJ ts) x us []
 |[],_,_,_,h=>⟨h,rfl⟩
 |τ::r,x,us,hs,⟨u,v,e,h1,h2⟩=>by
  simp only[cz,aA]at hs;obtain⟨k1,k2,k3⟩:=Nw (r:=dj) hs.1 h1;exact⟨u,v,[],[],e,rfl,⟨k2,rfl,k3,u,rfl,k1⟩,BU.map hs.2 h2⟩
end Go.Abs
end

section
namespace Go.Abs
theorem HD {P:Program}{W:World}{n:String}{g:Nat}{cs:Array Value}(hg:P.globalNamed n=J g)(h:W.var? P n=J cs):snap W g=J cs.toList:=by
 unfold World.var? at h;rw[hg,au]at h;unfold snap;split at h
 ·rename_i arr a b e;rw[e]
  injection h with h
  rw[h]
 ·cases h
theorem HW {H:Type}{enc:TypeId×Value->H}{P:Program}{W:World}{n:String}{g g' t:Nat}{cs:Array Value}{fuel:Nat}{d:DataW H}{p:List MemPlace}{τ:Ty}{x:τ.den}{sp:Nat->Bool}{held:Bool}{k:Nat}
  (hg:P.globalNamed n=J g) (ht:(P.globals[g]?).map (·.type)=J t) (hv:W.var? P n=J cs) (hd:a34 enc P W 0 sp held fuel t cs.toList=J (d,p))
  (eg:P.globalNamed n=J g') (ef:((P.globals[g']?).map (·.type)).all (λt=>NV P k t τ)=av) (ho:τ.one=av) (hs:∀us,Rc (snap W) τ x us->us.length=1) (ex:ofD τ d=x):
  ∃us,snap W g'=J us/\∀gh:Gh,(∀b L,snap W b=J L->gh.dj b=J L)->dr gh [.v τ x] us:=by
 obtain rfl:=Option.some.inj (hg.symm.trans eg);rw[ht]at ef;have h:=(FR k fuel t τ cs.toList (d,p) ef hd).1;rw[ex]at h;have hl:=hs _ h;refine⟨cs.toList,HD hg hv,λgh hi=> ?_⟩
 match hc:cs.toList,hl with
 |[u],_=>
  rw[hc]at h;exact⟨u,[],rfl,⟨ho,h.mono hi⟩,rfl⟩
theorem Py {r:Rd}{e:Ty}{xs:List e.den}:∀us,Rc r (.sl e) xs us->us.length=1:=by
 rintro us ⟨A,c,rfl,_⟩;rfl
theorem Tb {H:Type}{enc:TypeId×Value->H}{P:Program}{W:World}{n:String}{g g' t:Nat}{cs:Array Value}{fuel:Nat}{d:DataW H}{p:List MemPlace}{sp:Nat->Bool}{nm:String}
  (hg:P.globalNamed n=J g) (ht:(P.globals[g]?).map (·.type)=J t) (hv:W.var? P n=J cs) (hd:a34 enc P W 0 sp ar fuel t cs.toList=J (.iface nm d,p))
  (eg:P.globalNamed n=J g') (ef:((P.globals[g']?).map (·.type)).all (λt=>match P.underlying t with|some (.interface _)=>av|_=>ar)=av):
  ∃us,snap W g'=J us/\∀gh:Gh,(∀b L,snap W b=J L->gh.dj b=J L)->dr gh [.err ar] us:=by
 obtain rfl:=Option.some.inj (hg.symm.trans eg);rw[ht]at ef;refine⟨cs.toList,HD hg hv,λgh hi=> ?_⟩;have ef:(match P.underlying t with|some (.interface _)=>av|_=>ar)=true:=ef
 cases hu:P.underlying t with
 |none=>rw[hu]at ef;cases ef
 |some k=>
  cases k with
  |interface ms=>
   cases fuel with
   |zero=>simp[a34]at hd
   |succ m=>
    unfold a34 at hd;rw[hu]at hd;simp only at hd;split at hd<;>simp_all;rename_i u v hc _;exact⟨_,_,rfl, .inr ⟨rfl,_,_,rfl⟩,rfl⟩
  |_=>rw[hu]at ef;cases ef
theorem Hv {gh:Gh}{k:IntKind}:∀zs:List Int,dr gh (zs.map λz=> .v (.int k) z) (zs.map λz=> .int k z)
 |[]=>rfl
 |z::zs=>⟨_,_,rfl,⟨rfl,rfl⟩,Hv zs⟩
theorem R7 {H:Type}{enc:TypeId×Value->H}{P:Program}{W:World}{n:String}{g g' t m e:Nat}{cs:Array Value}{fuel:Nat}{ds:List (DataW H)}{p:List MemPlace}{sp:Nat->Bool}{held:Bool}{k:IntKind}
  (hg:P.globalNamed n=J g) (ht:(P.globals[g]?).map (·.type)=J t) (hv:W.var? P n=J cs) (hd:a34 enc P W 0 sp held fuel t cs.toList=J (.agg ds,p))
  (eg:P.globalNamed n=J g') (zs:List Int) (ez:ds.map (ofD (.int k))=zs)
  (et:((P.globals[g']?).bind λgl=>P.underlying gl.type)=J (.array m e)) (ee:P.underlying e=J (.int k)) (e1:P.cellsOf e=1) (en:((P.globals[g']?).map λgl=>P.cellsOf gl.type)=J m):
  ∃us,snap W g'=J us/\∀gh:Gh,(∀b L,snap W b=J L->gh.dj b=J L)->dr gh (zs.map λz=> .v (.int k) z) us:=by
 obtain rfl:=Option.some.inj (hg.symm.trans eg);refine⟨cs.toList,HD hg hv,λgh hi=> ?_⟩;obtain⟨gl,aY6,rfl⟩:=bj.1 ht;rw[aY6]at et en;have et:P.underlying gl.type=J (.array m e):=et;have en:J (P.cellsOf gl.type)=J m:=en
 injection en with en
 obtain⟨xs,q,_,ex,hl,hx,Ox⟩:=DataW.trod_array et hd;rw[en]at hl;simp only[cy,DataW.agg.injEq]at ex
 have:cs.toList=zs.map λz=> .int k z:=by
  refine a06 λi=> ?_
  by_cases hi:i<m
  ·have h:=Ox i hi;rw[e1,a57,aJ (show i<xs.length by omega)]at h;obtain⟨z,h1,h2,_⟩:=DataW.trod_int ee h
   have h3:cs.toList[i]?=J (.int k z):=by
    have:((cs.toList.drop i).take 1)[0]?=J (.int k z):=by rw[h1];rfl
    simpa using this
   rw[h3,<-ez,ex.1,List.map_map,List.map_map,a05,aJ (show i<xs.length by omega)];simp only[Option.map_some,Function.comp,h2];rfl
  ·rw[bM (by omega),bM (by rw[<-ez,ex.1];simp;omega)]
 rw[this];exact Hv zs
end Go.Abs
end
