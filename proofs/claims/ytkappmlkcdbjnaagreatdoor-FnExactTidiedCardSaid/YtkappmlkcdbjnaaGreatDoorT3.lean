/- What is here: what strings.Builder's functions and IndexByte answer, as plain functions. -/
import Derived.Test.YtkappmlkcdbjnaaGreatDoorT2
import Derived.Lib.ParseIntB
import Derived.Lib.ItoaNum
import Derived.Lib.LaidTab
import Derived.Shelf.Strconv.Itoa4
import Derived.Lib.TrailingZeros
import Derived.Test.YtkappmlkcdbjnaaGreatDoorProg
import Derived.Test.YtkappmlkcdbjnaaGreatDoorRows
import Derived.Test.YtkappmlkcdbjnaaGreatDoorTie
import Derived.Lib.Builder
import Derived.Lib.Walk
import Derived.Lib.Slices
import Derived.Lib.Strings
import Derived.WalkKit
import Derived.Laws.Externs
import Derived.Lib.AppendStr
import Derived.Lib.UnsafeStr
set_option autoImplicit true
set_option relaxedAutoImplicit true
set_option linter.all false
set_option maxRecDepth 100000
open Go.IntKind (i64 u64 u8)
open Array renaming getElem?_eq_none → bo3, getElem?_push → bp5, getElem?_setIfInBounds → cK, length_toList → cC
open Bool renaming and_eq_true → aA, false → aq, or_eq_true → cO, true → av
open Decidable renaming decide → I
open Go.Addr renaming add_lit → bo8
open Go.Builtin renaming append_ → bo9, unsafeSliceData_ → bp4
open Go.IntKind renaming i64 → ar, u64 → aJ, u8 → aO
open Go.Lib renaming cell_of_heap → bT
open Go.Proofs.Tryz renaming func112 → bq0, func150 → br0, func23 → bt0, func44 → bs9, func77 → bp8, func99 → bo7, prog → aY
open Go.Result renaming andThen → bu7
open Go.Sem renaming run_bind → bL
open Go.Value renaming int → bQ
open List renaming all_eq_true → aK, append_assoc → aC, append_nil → aQ, drop_drop → bX, getElem?_drop → cJ, getElem?_eq_some_iff → cr, getElem?_take → cT, length_cons → aw, length_drop → bK, length_pos_iff → b9, length_take → bl, mem_cons_of_mem → aB, mem_cons_self → aD, nodup_cons → cu, nodup_nil → bf, replicate → aN, take_append_drop → bo6
open Nat renaming beq → ax, ble → bo5, blt → cd, le_of_ble_eq_true → aR, le_refl → aF
open Option renaming map_eq_some_iff → bj, none → az, some → U
open Sum renaming inl → an, inr → aE
section
namespace Go.Abs.Bld
def places:List (Nat×Nat×Nat):=[(63,0,2),(65,1,3)]
@[reducible] def bp:VSp:= .one (.ptr aq (0,places) .vp)
def og (x:List Int×Int×Unit):Option (Bool×List Int×Unit×Unit):=bif fits (x.1.length+1)then U (av,x.1++[x.2.1],(),())else az
def mH (x:List Int×List Int×Unit):Option ((Int×Bool×Unit)×List Int×Unit×Unit):=bif fits (x.1.length+x.2.1.length)then U ((x.2.1.length,av,()),x.1++x.2.1,(),())else az
def xN (x:List Int×Unit):Option (List Int×Unit×Unit):=bif fits x.1.length then U (x.1.map byte,(),())else az
def Ul (x:List Int×Unit):Option (Int×List Int×Unit):=U (x.1.length,x.1,())
def idx:List Int->Int->Int->Int
 |[],_,_=> -1
 |x::r,c,n=>bif(x=c)then n else idx r c (n+1)
def w7 (x:List Int×Int×Unit):Option (Int×Unit×Unit×Unit):=U (idx x.1 (byte x.2.1) 0,(),(),())
end Go.Abs.Bld
end

section
namespace Go.Abs.Lx
def words:List (List Int):=[[97,110,100],[98,114,101,97,107],[99,97,116,99,104],[99,111,110,115,116],[100,101,102,101,114],[101,108,105,102],[101,108,115,101],[102,97,108,115,101],[102,110],[102,111,114],[105,102],[105,110],[108,101,116],[110,101,120,116],[110,105,108],[110,111,116],[111,114],[114,101,116,117,114,110],[116,104,114,111,119],[116,114,117,101],[116,114,121],[119,104,105,108,101]]
def rG:List (List Int):=[[40],[41],[123],[125],[91],[93],[44],[61],[46],[46,46,46],[35]]
def zK:List (List Int):=[[43],[45],[42],[47],[47,47],[37],[38],[124],[126],[60,60],[62,62],[46,46],[61,61],[126,61],[60],[60,61],[62],[62,61]]
def u8s (l:List Int):List UInt8:=l.map λc=>c.toNat.toUInt8
def ints (l:List UInt8):List Int:=l.map λb=>b.toNat 
def tD (x:List Int×Int×Int×Unit):Option ((Int×Bool×Unit)×Unit×Unit×Unit×Unit):=
 bif(x.2.1=10)&&x.2.2.1=64&&fits x.1.length then
  match Lib.parseIntB 64 (u8s x.1)with
  | .ok v=>U ((v,av,()),(),(),(),())
  | .range=>U ((Lib.intSat 64 (u8s x.1),aq,()),(),(),(),())
  |_=>az
 else az
def rV (x:Int×Int×Unit):Option (List Int×Unit×Unit×Unit):=
 bif(x.2.1=10)&& -9223372036854775808<=x.1&&(x.1<=9223372036854775807)then U (ints (Lib.itoa x.1),(),(),())else az
def hexDigit (n:Nat):Int:=bif cd n 10 then((48+n:Nat))else((87+n:Nat))
def xL:Nat->Nat->List Int->List Int
 |0,_,acc=>acc
 |k+1,n,acc=>let d:=hexDigit (n % 16);bif cd n 16 then d::acc else xL k (n/16) (d::acc)
def Bt:List (List Int)->List Int->List Int
 |[],_=>[]
 |[x],_=>x
 |x::y::r,s=>x++(s++Bt (y::r) s)
def Bz (x:List (List Int)×List Int×Unit):Option (List Int×Unit×Unit×Unit):=
 bif fits x.1.length&&fits (Bt x.1 x.2.1).length then U (Bt x.1 x.2.1,(),(),())else az
def RD (l:List Int):Nat->List Int
 |0=>[]
 |n+1=>l++RD l n
def xP (x:List Int×Int×Unit):Option (List Int×Unit×Unit×Unit):=
 bif(0<=x.2.1)&&x.2.1<=9223372036854775807&&fits (x.1.length*x.2.1.toNat)then U (RD x.1 x.2.1.toNat,(),(),())else az
def ab3:List Cell:=Lib.pow10Tab.map λz=> .v (.int .u64) z
def tables (k:Nat):Option (List Cell):=bif ax k 6 then U ab3 else bif ax k 5 then U [.err aq]else az
def Gg (s):u8s (bytesOf s)=s.data.toList:=by
 unfold u8s bytesOf;rw[List.map_map]
 have:((λc:Int=>c.toNat.toUInt8) ∘ λb:UInt8=>(b.toNat:Int))=id:=by
  funext b
  simp
 rw[this,List.map_id]
end Go.Abs.Lx
end

section
namespace Go.Abs.Lx
def deB:List Cell:=Lib.deBruijn64tab.map λn:Nat=> .v (.int .u8) (n:Int)
def Hq (k:Nat):Option (List Cell):=bif ax k 8 then U deB else tables k
def qx (x:List Int×Int×Int×Bool×Bool×Unit):Option ((List Int×List Int×Unit)×Unit×Unit×Unit×Unit×Unit×Unit):=
 bif(x.2.2.1=16)&&(!x.2.2.2.1)&&(!x.2.2.2.2.1)&&x.1.isEmpty&&9223372036854775808<=x.2.1&&(x.2.1<=18446744073709551615)then U (([],xL 16 x.2.1.toNat [],()),(),(),(),(),(),())else az
end Go.Abs.Lx
end

section
set_option maxRecDepth 100000
namespace Go.Abs.D
open Go.Proofs
abbrev di:Ty:=(.pr (.int .i64) (.pr (.int .i64) (.pr (.int .i64) (.pr (.int .i64) (.pr (.int .i64) (.pr .str .un))))))
abbrev cZ:Ty:=(.pr (.int .i64) (.pr (.int .i64) (.pr (.int .i64) (.pr (.int .i64) (.pr (.int .i64) (.pr (.int .i64) (.pr .str (.pr (.sl .str) (.pr (.sl (.int .i64)) .un)))))))))
abbrev kE:Ty:=(.pr (.int .i64) (.pr (.int .i64) .un))
abbrev vs0:VSp:= .one (.ptr av (54,[]) (.pr (.fT (.int .i64)) (.pr (.fT (.int .i64)) (.pr (.fT (.int .i64)) (.pr (.fT (.int .i64)) (.pr (.fT (.int .i64)) (.pr (.fT .str) .un)))))))
abbrev vs1:VSp:= .one (.fT (.int .i64))
abbrev vs2:VSp:= .one (.ptr av (45,[]) (.pr (.fT (.int .i64)) (.pr (.fT (.int .i64)) (.pr (.fT (.int .i64)) (.pr (.fT (.int .i64)) (.pr (.fT (.int .i64)) (.pr (.fT (.int .i64)) (.pr (.fT .str) (.pr (.fT (.sl .str)) (.pr (.fT (.sl (.int .i64))) .un))))))))))
abbrev vs3:VSp:= .one (.ptr av (79,[]) (.pr (.fT (.sl di)) (.pr (.fT (.int .i64)) (.pr (.own cZ av) .un))))
abbrev vs4:VSp:= .one (.ptr av (56,[]) (.pr (.fT (.sl di)) (.pr (.fT (.int .i64)) (.pr (.own cZ av) .un))))
abbrev vs5:VSp:= .one (.ptr av (41,[]) (.pr (.pr (.fT (.sl cZ)) .un) (.pr (.own (.int .u8) av) (.pr (.fT (.int .i64)) .un))))
abbrev vs6:VSp:= .one (.ptr av (45,[]) (.pr (.fT (.int .i64)) (.pr (.fT (.int .i64)) (.pr (.fT (.int .i64)) (.pr (.fT (.int .i64)) (.pr (.fT (.int .i64)) (.pr (.fT (.int .i64)) (.pr (.fT .str) (.pr (.own .str av) (.pr (.own (.int .i64) av) .un))))))))))
abbrev vs7:VSp:= .agg (.pr (.fT (.int .i64)) (.pr (.fT (.int .i64)) (.pr (.fT (.int .i64)) (.pr (.fT (.int .i64)) (.pr (.fT (.int .i64)) (.pr (.fT (.int .i64)) (.pr (.fT .str) (.pr (.fT (.sl .str)) (.pr (.fT (.sl (.int .i64))) .un)))))))))
abbrev vs8:VSp:= .agg (.pr (.fT (.int .i64)) (.pr (.fT (.int .i64)) (.pr (.fT (.int .i64)) (.pr (.fT (.int .i64)) (.pr (.fT (.int .i64)) (.pr (.fT .str) .un))))))
abbrev vs9:VSp:= .one (.fT .bool)
abbrev eH:VSp:= .one (.fT .str)
abbrev s5:VSp:= .one (.ptr av (36,[]) (.pr (.fT (.int .i64)) (.pr (.fT (.int .i64)) .un)))
abbrev uH:VSp:= .one (.ptr av (65,[]) (.pr (.pr (.fT (.sl cZ)) .un) (.pr .vp .un)))
abbrev qX:VSp:= .one (.ptr av (26,[]) (.pr (.fT (.sl cZ)) .un))
abbrev kz:VSp:= .one (.own (.int .i64) av)
abbrev Uu:VSp:= .agg (.pr (.fT (.int .i64)) (.pr (.fT (.int .i64)) (.pr (.fT (.int .i64)) (.pr (.fT (.int .i64)) (.pr (.fT (.int .i64)) (.pr (.fT (.int .i64)) (.pr (.fT .str) (.pr (.own .str av) (.pr (.own (.int .i64) av) .un)))))))))
abbrev s8:VSp:= .one (.ptr av (3,[]) (.fT (.int .i64)))
abbrev xi:VSp:= .one (.ptr av (72,[]) (.pr (.own kE av) .un))
abbrev rn:VSp:= .one (.fT (.sl (.int .i64)))
abbrev vJ:VSp:= .one (.fT (.int .u64))
abbrev Ka:VSp:= .one (.ptr av (2,[]) (.fT (.int .i64)))
abbrev Hc:VSp:= .agg (.pr (.fT (.sl cZ)) .un)
abbrev PJ:VSp:= .one (.ptr av (43,[]) (.own (.int .i64) av))
abbrev EI:VSp:= .one (.own (.int .u8) av)
abbrev BF:VSp:= .one (.own di av)
abbrev Rz:VSp:= .one (.ptr av (43,[]) (.fT (.sl (.int .i64))))
abbrev NF:VSp:= .one (.ptr av (9,[]) (.fT .str))
abbrev FY:VSp:= .one (.fT (.int .u8))
abbrev zN:VSp:= .one (.fT .cl)
abbrev FW:VSp:= .one (.own .str av)
abbrev aD4:VSp:= .agg (.pr (.fT (.int .i64)) (.pr (.fT (.int .i64)) (.pr (.pr (.own cZ av) .un) .un)))
abbrev Um:VSp:= .one (.fT (.sl cZ))
abbrev aE1:VSp:= .agg (.pr (.fT (.int .i64)) (.pr (.fT (.int .i64)) .un))
abbrev Xm:VSp:= .one (.fT (.sl .str))
abbrev Zf:VSp:= .one (.fT (.int .i32))
abbrev am4:VSp:= .one (.fT (.sl (.int .u8)))
abbrev RA:VSp:= .one .err
def sig (f:Nat):Sig:=
 bif ax f 58 then⟨[xi,vs1,vs1], .val vs1⟩else
 bif ax f 52 then⟨[xi], .val vs1⟩else
 bif ax f 108 then⟨[eH,vs1], .val FY⟩else
 bif ax f 53 then⟨[eH,vs1], .val vs1⟩else
 bif ax f 109 then⟨[FY], .val vs9⟩else
 bif ax f 111 then⟨[FY], .val vs9⟩else
 bif ax f 143 then⟨[], .val FW⟩else
 bif ax f 110 then⟨[eH,vs8], .xl [vs8,vs1]⟩else
 bif ax f 169 then⟨[FY], .val vs1⟩else
 bif ax f 168 then⟨[eH,vs8], .xl [vs8,vs1]⟩else
 bif ax f 112 then⟨[eH,vs8], .xl [vs8,vs1]⟩else
 bif ax f 113 then⟨[eH,vs8], .xl [vs8,vs1]⟩else
 bif ax f 114 then⟨[], .val FW⟩else
 bif ax f 115 then⟨[eH], .val vs1⟩else
 bif ax f 54 then⟨[eH,vs1], .xl [vs8,vs1]⟩else
 bif ax f 117 then⟨[kz], .val kz⟩else
 bif ax f 118 then⟨[vs1], .xl [kz,vs9]⟩else
 bif ax f 170 then⟨[vs1], .val vs9⟩else
 bif ax f 119 then⟨[vs1], .val vs9⟩else
 bif ax f 171 then⟨[vs1,vs1,vs1], .val kz⟩else
 bif ax f 120 then⟨[vs1,vs1], .xl [kz,vs9]⟩else
 bif ax f 172 then⟨[vs1], .xl [kz,vs9]⟩else
 bif ax f 173 then⟨[vs1], .val vs9⟩else
 bif ax f 121 then⟨[vs1,vs1], .xl [kz,vs9]⟩else
 bif ax f 57 then⟨[vs1,vs1], .xl [kz,vs9]⟩else
 bif ax f 25 then⟨[xi,vs1,vs1], .xl [vs1,vs9]⟩else
 bif ax f 56 then⟨[xi,vs1], .val kz⟩else
 bif ax f 68 then⟨[vs1], .val eH⟩else
 bif ax f 116 then⟨[rn,eH], .val vs9⟩else
 bif ax f 55 then⟨[eH,vs1,rn], .val vs1⟩else
 bif ax f 24 then⟨[xi,eH], .xl [BF,vs1,vs1]⟩else
 bif ax f 10 then⟨[eH], .xl [BF,vs1]⟩else
 bif ax f 59 then⟨[vs3], .val vs1⟩else
 bif ax f 60 then⟨[vs3,vs1], .val vs9⟩else
 bif ax f 124 then⟨[vs3], .val vs8⟩else
 bif ax f 125 then⟨[vs1,vs8], .val Uu⟩else
 bif ax f 128 then⟨[vs3,Uu], .val vs1⟩else
 bif ax f 122 then⟨[vs3], .val vs1⟩else
 bif ax f 193 then⟨[vs1], .val vs1⟩else
 bif ax f 130 then⟨[vs3,Uu], .val vs1⟩else
 bif ax f 194 then⟨[vs3], .val vs1⟩else
 bif ax f 174 then⟨[vs3], .val vs1⟩else
 bif ax f 141 then⟨[vs1], .xl [vs1,vs1]⟩else
 bif ax f 129 then⟨[vs3,vs1], .val vs1⟩else
 bif ax f 127 then⟨[vs3], .val kz⟩else
 bif ax f 133 then⟨[vs3], .val vs1⟩else
 bif ax f 123 then⟨[vs3], .val vs1⟩else
 bif ax f 126 then⟨[vs3], .val FW⟩else
 bif ax f 131 then⟨[vs3,vs8], .val vs1⟩else
 bif ax f 132 then⟨[vs3,vs8], .val vs1⟩else
 bif ax f 61 then⟨[vs3], .val vs1⟩else
 bif ax f 26 then⟨[vs3,vs1], .val kz⟩else
 bif ax f 11 then⟨[eH, .one (.fT (.sl di))], .val (.agg (.pr (.own cZ av) .un))⟩else
 bif ax f 62 then⟨[vs1], .val vs9⟩else
 bif ax f 134 then⟨[Hc,vs7,vs1], .val vs1⟩else
 bif ax f 135 then⟨[vs7,vs9,vs9,vs9,vs9], .val vs9⟩else
 bif ax f 140 then⟨[eH], .val vs9⟩else
 bif ax f 136 then⟨[vs7,vs1,vs1], .val vs9⟩else
 bif ax f 175 then⟨[vs1], .val vs9⟩else
 bif ax f 137 then⟨[Hc,vs7,vs1,vs1], .val vs9⟩else
 bif ax f 138 then⟨[vs1], .val vs9⟩else
 bif ax f 63 then⟨[Hc,vs7], .val vs9⟩else
 bif ax f 139 then⟨[eH], .val vs9⟩else
 bif ax f 64 then⟨[Hc,vs7], .val vs9⟩else
 bif ax f 27 then⟨[Hc,vs1], .val vs9⟩else
 bif ax f 28 then⟨[Hc], .val kz⟩else
 bif ax f 12 then⟨[Hc], .val aE1⟩else
 bif ax f 6 then⟨[eH], .val aD4⟩else
 bif ax f 14 then⟨[vs5,eH], .none⟩else
 bif ax f 65 then⟨[vs5], .none⟩else
 bif ax f 29 then⟨[vs5,vs1], .none⟩else
 bif ax f 30 then⟨[vs5,Xm], .none⟩else
 bif ax f 66 then⟨[vs7], .val vs1⟩else
 bif ax f 142 then⟨[vs7], .val vs1⟩else
 bif ax f 67 then⟨[vs5,vs7,eH,vs1], .none⟩else
 bif ax f 69 then⟨[vs5,vs7], .none⟩else
 bif ax f 144 then⟨[vs1], .val vs9⟩else
 bif ax f 70 then⟨[vs5,vs1], .none⟩else
 bif ax f 71 then⟨[vs5,vs7], .none⟩else
 bif ax f 33 then⟨[vs5,vs1], .none⟩else
 bif ax f 176 then⟨[vs1], .val eH⟩else
 bif ax f 145 then⟨[vs1], .val eH⟩else
 bif ax f 146 then⟨[eH], .val eH⟩else
 bif ax f 72 then⟨[vs5,vs7], .none⟩else
 bif ax f 32 then⟨[vs5,vs1,vs1], .none⟩else
 bif ax f 31 then⟨[vs5,rn], .none⟩else
 bif ax f 34 then⟨[vs5,vs7,eH], .none⟩else
 bif ax f 13 then⟨[vs5,vs1], .none⟩else
 bif ax f 7 then⟨[Hc], .val eH⟩else
 bif ax f 4 then⟨[eH], .val eH⟩else
 bif ax f 35 then⟨[], .val zN⟩else
 bif ax f 147 then⟨[eH,eH], .val vs9⟩else
 bif ax f 73 then⟨[eH,eH], .val vs9⟩else
 bif ax f 36 then⟨[eH,vs1], .val vs1⟩else
 bif ax f 82 then⟨[rn], .xl [rn,vs9,vs9]⟩else
 bif ax f 86 then⟨[vs1], .val vs9⟩else
 bif ax f 83 then⟨[], .xl [kz,vs9,vs9]⟩else
 bif ax f 84 then⟨[], .xl [kz,vs9,vs9]⟩else
 bif ax f 89 then⟨[vs1], .val vs9⟩else
 bif ax f 87 then⟨[vs1], .val vs9⟩else
 bif ax f 85 then⟨[vs1,vs1,s8], .xl [kz,vs9]⟩else
 bif ax f 152 then⟨[vs1,vs1,vs1], .val vs9⟩else
 bif ax f 88 then⟨[vs1], .val vs9⟩else
 bif ax f 40 then⟨[vs1,vs1], .xl [rn,vs9,vs9]⟩else
 bif ax f 16 then⟨[zN,vs1], .val vs9⟩else
 bif ax f 37 then⟨[zN,vs1], .val zN⟩else
 bif ax f 74 then⟨[FY], .val vs9⟩else
 bif ax f 75 then⟨[FY], .val vs9⟩else
 bif ax f 76 then⟨[eH], .val vs1⟩else
 bif ax f 79 then⟨[FY], .val vs9⟩else
 bif ax f 179 then⟨[FY], .val FY⟩else
 bif ax f 180 then⟨[eH], .val vs9⟩else
 bif ax f 150 then⟨[eH,vs1,vs1], .xl [vJ,RA]⟩else
 bif ax f 80 then⟨[eH,vs1,vs1], .xl [vJ,RA]⟩else
 bif ax f 77 then⟨[eH,vs1], .xl [vs8,vs9]⟩else
 bif ax f 149 then⟨[eH,FY], .val vs1⟩else
 bif ax f 78 then⟨[eH,FY], .val vs1⟩else
 bif ax f 81 then⟨[vs1], .val eH⟩else
 bif ax f 38 then⟨[eH,vs1], .xl [vs8,vs9]⟩else
 bif ax f 39 then⟨[zN,eH,vs1], .val vs1⟩else
 bif ax f 15 then⟨[eH], .xl [BF,zN,vs1]⟩else
 bif ax f 42 then⟨[vs4], .val vs1⟩else
 bif ax f 41 then⟨[vs4,vs1], .val vs9⟩else
 bif ax f 90 then⟨[vs4], .val vs8⟩else
 bif ax f 91 then⟨[vs4], .val FW⟩else
 bif ax f 18 then⟨[vs4,Uu], .val vs1⟩else
 bif ax f 93 then⟨[vs4,vs1,Uu], .val vs1⟩else
 bif ax f 185 then⟨[Uu, .one (.ptr av (52,[]) (.ptr av (56,[]) (.pr (.fT (.sl di)) (.pr (.fT (.int .i64)) (.pr (.own cZ av) .un))))),s8], .val vs1⟩else
 bif ax f 97 then⟨[vs4], .val vs1⟩else
 bif ax f 95 then⟨[vs4,vs1], .val vs1⟩else
 bif ax f 186 then⟨[vs4], .val vs1⟩else
 bif ax f 98 then⟨[vs4], .val vs1⟩else
 bif ax f 153 then⟨[vs4], .val vs1⟩else
 bif ax f 154 then⟨[vs1], .val vs1⟩else
 bif ax f 94 then⟨[vs4,vs1], .val vs1⟩else
 bif ax f 92 then⟨[vs4], .val kz⟩else
 bif ax f 96 then⟨[vs4], .val vs1⟩else
 bif ax f 43 then⟨[vs4], .val vs1⟩else
 bif ax f 17 then⟨[vs4], .val kz⟩else
 bif ax f 187 then⟨[eH,vs1], .val vs9⟩else
 bif ax f 155 then⟨[eH], .val vs9⟩else
 bif ax f 160 then⟨[vs1], .val vs9⟩else
 bif ax f 158 then⟨[vs9,vs9,vs9,vs9,s8,s8,Ka,NF], .val vs9⟩else
 bif ax f 157 then⟨[vs1], .val vs9⟩else
 bif ax f 156 then⟨[vs1,vs1,Rz], .val vs9⟩else
 bif ax f 161 then⟨[eH], .val vs9⟩else
 bif ax f 159 then⟨[s8,Rz], .val vs9⟩else
 bif ax f 99 then⟨[Hc,vs1], .val vs9⟩else
 bif ax f 44 then⟨[Hc], .val aE1⟩else
 bif ax f 19 then⟨[Hc], .val vs9⟩else
 bif ax f 8 then⟨[eH], .val aD4⟩else
 bif ax f 21 then⟨[uH,eH], .none⟩else
 bif ax f 46 then⟨[uH,vs1,vs1], .none⟩else
 bif ax f 192 then⟨[vJ,vs1], .val eH⟩else
 bif ax f 165 then⟨[vJ,vs1], .val eH⟩else
 bif ax f 103 then⟨[eH], .val eH⟩else
 bif ax f 102 then⟨[vs8], .val eH⟩else
 bif ax f 104 then⟨[uH,vs1], .val vs1⟩else
 bif ax f 105 then⟨[uH,vs1,vs1,vs9], .none⟩else
 bif ax f 106 then⟨[uH,vs1,vs1], .none⟩else
 bif ax f 49 then⟨[uH,vs1,vs1], .none⟩else
 bif ax f 48 then⟨[uH,vs1,vs1], .none⟩else
 bif ax f 47 then⟨[uH,rn,vs1], .none⟩else
 bif ax f 50 then⟨[uH,vs7,vs1], .none⟩else
 bif ax f 20 then⟨[uH,vs1,vs1], .none⟩else
 bif ax f 9 then⟨[Hc], .val eH⟩else
 bif ax f 5 then⟨[eH], .val eH⟩else
 bif ax f 3 then⟨[eH], .val vs9⟩else
 ⟨[], .none⟩
def fns:List Nat:=[58,52,108,53,109,111,143,110,169,168,112,113,114,115,54,117,118,170,119,171,120,172,173,121,57,25,56,68,116,55,24,10,59,60,124,125,128,122,193,130,194,174,141,129,127,133,123,126,131,132,61,26,11,62,134,135,140,136,175,137,138,63,139,64,27,28,12,6,14,65,29,30,66,142,67,69,144,70,71,33,176,145,146,72,32,31,34,13,7,4,35,147,73,36,82,86,83,84,89,87,85,152,88,40,16,37,74,75,76,79,179,180,150,80,77,149,78,81,38,39,15,42,41,90,91,18,93,185,97,95,186,98,153,154,94,92,96,43,17,187,155,160,158,157,156,161,159,99,44,19,8,21,46,192,165,103,102,104,105,106,49,48,47,50,20,9,5,3]
def known (f:Nat):Bool:=fns.any (ax f)
def qJ (f:Nat):List Nat:=
 bif ax f 58 then [0]else
 bif ax f 52 then [0]else
 bif ax f 25 then [0]else
 bif ax f 56 then [0]else
 bif ax f 24 then [0]else
 bif ax f 59 then [0]else
 bif ax f 60 then [0]else
 bif ax f 124 then [0]else
 bif ax f 128 then [0]else
 bif ax f 122 then [0]else
 bif ax f 130 then [0]else
 bif ax f 194 then [0]else
 bif ax f 174 then [0]else
 bif ax f 129 then [0]else
 bif ax f 127 then [0]else
 bif ax f 133 then [0]else
 bif ax f 123 then [0]else
 bif ax f 126 then [0]else
 bif ax f 131 then [0]else
 bif ax f 132 then [0]else
 bif ax f 61 then [0]else
 bif ax f 26 then [0]else
 bif ax f 14 then [0]else
 bif ax f 65 then [0]else
 bif ax f 29 then [0]else
 bif ax f 30 then [0]else
 bif ax f 67 then [0]else
 bif ax f 69 then [0]else
 bif ax f 70 then [0]else
 bif ax f 71 then [0]else
 bif ax f 33 then [0]else
 bif ax f 72 then [0]else
 bif ax f 32 then [0]else
 bif ax f 31 then [0]else
 bif ax f 34 then [0]else
 bif ax f 13 then [0]else
 bif ax f 85 then [2]else
 bif ax f 42 then [0]else
 bif ax f 41 then [0]else
 bif ax f 90 then [0]else
 bif ax f 91 then [0]else
 bif ax f 18 then [0]else
 bif ax f 93 then [0]else
 bif ax f 185 then [1,2]else
 bif ax f 97 then [0]else
 bif ax f 95 then [0]else
 bif ax f 186 then [0]else
 bif ax f 98 then [0]else
 bif ax f 153 then [0]else
 bif ax f 94 then [0]else
 bif ax f 92 then [0]else
 bif ax f 96 then [0]else
 bif ax f 43 then [0]else
 bif ax f 17 then [0]else
 bif ax f 158 then [4,5,6,7]else
 bif ax f 156 then [2]else
 bif ax f 159 then [0,1]else
 bif ax f 21 then [0]else
 bif ax f 46 then [0]else
 bif ax f 104 then [0]else
 bif ax f 105 then [0]else
 bif ax f 106 then [0]else
 bif ax f 49 then [0]else
 bif ax f 48 then [0]else
 bif ax f 47 then [0]else
 bif ax f 50 then [0]else
 bif ax f 20 then [0]else
 []
def kk (f:Nat)(k:Bool)(r a:Nat)(b:Bool)(c:Nat):Bool:=ax f a&&k==b&&ax r c
def EE (f:Nat)(k:Bool)(r:Nat):Bool:=kk f k r 7 av 6||kk f k r 9 av 5||kk f k r 12 av 4||kk f k r 12 av 11||kk f k r 12 av 20||kk f k r 12 av 23||kk f k r 12 av 28||kk f k r 13 aq 31||kk f k r 15 av 4||kk f k r 16 av 1||kk f k r 17 av 2||kk f k r 17 av 1002||kk f k r 24 av 5||kk f k r 24 aq 12||kk f k r 24 aq 16||kk f k r 25 av 1||kk f k r 25 av 10||kk f k r 26 av 2||kk f k r 27 av 5||kk f k r 28 av 3||kk f k r 28 av 8||kk f k r 29 av 6||kk f k r 30 av 1||kk f k r 31 av 1||kk f k r 36 av 1||kk f k r 36 av 6||kk f k r 37 av 1||kk f k r 37 av 13||kk f k r 38 av 5||kk f k r 38 av 18||kk f k r 38 av 39||kk f k r 38 av 49||kk f k r 39 aq 4||kk f k r 39 av 5||kk f k r 39 av 10||kk f k r 39 av 15||kk f k r 40 aq 25||kk f k r 43 av 65||kk f k r 44 av 5||kk f k r 44 av 12||kk f k r 44 av 16||kk f k r 44 av 27||kk f k r 44 av 30||kk f k r 44 av 35||kk f k r 46 av 5||kk f k r 47 av 1||kk f k r 48 aq 15||kk f k r 48 aq 21||kk f k r 48 aq 26||kk f k r 48 aq 43||kk f k r 53 av 1||kk f k r 53 av 7||kk f k r 54 av 14||kk f k r 55 av 2||kk f k r 56 av 4||kk f k r 57 aq 52||kk f k r 57 aq 53||kk f k r 61 aq 57||kk f k r 63 av 5||kk f k r 63 av 21||kk f k r 63 aq 28||kk f k r 63 aq 41||kk f k r 63 aq 46||kk f k r 64 aq 7||kk f k r 64 aq 18||kk f k r 64 av 31||kk f k r 64 aq 46||kk f k r 65 av 2||kk f k r 68 av 7||kk f k r 69 aq 12||kk f k r 71 av 3||kk f k r 71 aq 7||kk f k r 76 av 2||kk f k r 77 av 5||kk f k r 77 av 15||kk f k r 77 aq 17||kk f k r 77 av 20||kk f k r 77 aq 22||kk f k r 77 aq 26||kk f k r 77 av 29||kk f k r 77 aq 31||kk f k r 91 av 2||kk f k r 92 av 2||kk f k r 94 av 3||kk f k r 94 aq 11||kk f k r 95 av 3||kk f k r 98 av 11||kk f k r 98 aq 1011||kk f k r 99 av 6||kk f k r 99 av 13||kk f k r 99 av 26||kk f k r 99 av 42||kk f k r 99 aq 50||kk f k r 99 aq 65||kk f k r 99 aq 72||kk f k r 99 aq 84||kk f k r 99 av 97||kk f k r 103 av 6||kk f k r 106 aq 7||kk f k r 110 av 2||kk f k r 110 av 8||kk f k r 112 av 7||kk f k r 112 aq 9||kk f k r 112 av 12||kk f k r 112 aq 14||kk f k r 112 av 21||kk f k r 112 aq 23||kk f k r 112 av 26||kk f k r 113 av 4||kk f k r 113 aq 24||kk f k r 113 av 27||kk f k r 115 av 3||kk f k r 115 av 9||kk f k r 116 av 4||kk f k r 118 aq 16||kk f k r 120 aq 6||kk f k r 120 aq 13||kk f k r 120 aq 22||kk f k r 121 aq 24||kk f k r 123 av 9||kk f k r 123 av 15||kk f k r 126 av 3||kk f k r 127 av 3||kk f k r 129 av 3||kk f k r 130 av 2||kk f k r 133 av 14||kk f k r 133 av 33||kk f k r 133 aq 1014||kk f k r 136 av 4||kk f k r 137 av 2||kk f k r 141 aq 13||kk f k r 145 av 6||kk f k r 146 av 4||kk f k r 150 aq 21||kk f k r 150 aq 25||kk f k r 150 aq 32||kk f k r 150 av 36||kk f k r 150 aq 46||kk f k r 154 aq 20||kk f k r 156 av 2||kk f k r 168 av 3||kk f k r 174 av 34||kk f k r 176 av 5||kk f k r 176 aq 14||kk f k r 176 av 15||kk f k r 180 aq 5||kk f k r 180 av 10||kk f k r 180 aq 1010||kk f k r 186 av 4||kk f k r 194 aq 14
def cut (f:Nat)(k:Bool)(r:Nat):Cut:=
 bif kk f k r 7 av 6 then⟨[4,23,24,25],[vs5,rn,vs1,vs1],[⟨.exit 0,[4],[vs5],[]⟩],[]⟩else
 bif kk f k r 9 av 5 then⟨[3,20,21,22],[uH,rn,vs1,vs1],[⟨.exit 0,[3],[uH],[]⟩],[]⟩else
 bif kk f k r 12 av 4 then⟨[1,2,38,39],[qX,s5,vs1,vs1],[⟨.ret,[2],[s5],[]⟩,⟨.exit 0,[1,2],[qX,s5],[]⟩],[]⟩else
 bif kk f k r 12 av 11 then⟨[1,2,4,51,52,53],[qX,s5,rn,rn,vs1,vs1],[⟨.ret,[2],[s5],[]⟩,⟨.exit 2,[1,2,4],[qX,s5,rn],[]⟩],[]⟩else
 bif kk f k r 12 av 20 then⟨[1,2,7,8],[qX,s5,kz,vs1],[⟨.exit 4,[2,7],[s5,kz],[]⟩],[]⟩else
 bif kk f k r 12 av 23 then⟨[1,2,7,8,93,94,95],[qX,s5,kz,vs1,rn,vs1,vs1],[⟨.exit 6,[1,2,7,8],[qX,s5,kz,vs1],[]⟩],[]⟩else
 bif kk f k r 12 av 28 then⟨[2,108,109,110],[s5,kz,vs1,vs1],[⟨.ret,[2],[s5],[]⟩,⟨.exit 8,[2],[s5],[]⟩],[]⟩else
 bif kk f k r 13 aq 31 then⟨[0,4,15,119],[vs5,vs2,vs1,vs9],[⟨.normal,[0],[vs5],[]⟩],[]⟩else
 bif kk f k r 15 av 4 then⟨[0,2,3,5,6],[eH,BF,zN,vs1,vs1],[⟨.ret,[2,3,4],[BF,zN,vs1],[]⟩,⟨.exit 0,[2,3],[BF,zN],[]⟩],[]⟩else
 bif kk f k r 16 av 1 then⟨[0,1],[zN,vs1],[⟨.ret,[4],[vs9],[]⟩,⟨.exit 0,[],[],[]⟩],[]⟩else
 bif kk f k r 17 av 2 then⟨[0,3],[vs4,kz],[⟨.exit 2,[0,3],[vs4,kz],[]⟩],[]⟩else
 bif kk f k r 17 av 1002 then⟨[0,3],[vs4,kz],[⟨.ret,[0,2],[vs4,kz],[]⟩],[]⟩else
 bif kk f k r 24 av 5 then⟨[0,1,7,8,9,10],[xi,eH,vs1,BF,vs1,vs1],[⟨.ret,[0,4,5,6],[xi,BF,vs1,vs1],[]⟩,⟨.exit 0,[0,1,7,8,9],[xi,eH,vs1,BF,vs1],[]⟩],[]⟩else
 bif kk f k r 24 aq 12 then⟨[0,1,7,8,9,10,11,12,13],[xi,eH,vs1,BF,vs1,vs1,vs0,vs1,vs1],[⟨.exit 1,[0,1,7,8,9,10],[xi,eH,vs1,BF,vs1,vs1],[]⟩,⟨.ret,[0,4,5,6],[xi,BF,vs1,vs1],[]⟩,⟨.normal,[0,1,7,8,9,10],[xi,eH,vs1,BF,vs1,vs1],[]⟩],[]⟩else
 bif kk f k r 24 aq 16 then⟨[0,1,7,8,9,10,11,12,13,14,15],[xi,eH,vs1,BF,vs1,vs1,vs0,vs1,vs1,vs1,vs9],[⟨.exit 1,[0,1,7,8,9,10],[xi,eH,vs1,BF,vs1,vs1],[]⟩,⟨.ret,[0,4,5,6],[xi,BF,vs1,vs1],[]⟩,⟨.normal,[0,1,7,8,9,10],[xi,eH,vs1,BF,vs1,vs1],[]⟩],[]⟩else
 bif kk f k r 25 av 1 then⟨[0,1,2],[xi,vs1,vs1],[⟨.ret,[0,6,7],[xi,vs1,vs9],[]⟩,⟨.exit 0,[0,1],[xi,vs1],[]⟩],[]⟩else
 bif kk f k r 25 av 10 then⟨[0,1,2,9,11],[xi,vs1,vs1,kz,vs1],[⟨.exit 2,[0,1,2],[xi,vs1,vs1],[]⟩],[]⟩else
 bif kk f k r 26 av 2 then⟨[0,1,5],[vs3,vs1,kz],[⟨.exit 0,[0,5],[vs3,kz],[]⟩],[]⟩else
 bif kk f k r 27 av 5 then⟨[1,2,5,35,36,37],[vs1,qX,vs2,rn,vs1,vs1],[⟨.ret,[4],[vs9],[]⟩,⟨.exit 0,[2,5],[qX,vs2],[]⟩],[]⟩else
 bif kk f k r 28 av 3 then⟨[3,15,16,17],[kz,Um,vs1,vs1],[⟨.exit 0,[3],[kz],[]⟩],[]⟩else
 bif kk f k r 28 av 8 then⟨[3,4,5,6,7,8,15,16,17],[kz,vs1,vs2,vs1,vs9,vs1,Um,vs1,vs1],[⟨.exit 2,[3,4,6,7,15,16,17],[kz,vs1,vs1,vs9,Um,vs1,vs1],[]⟩],[]⟩else
 bif kk f k r 29 av 6 then⟨[0,30,31,32],[vs5,rn,vs1,vs1],[⟨.exit 0,[0],[vs5],[]⟩],[]⟩else
 bif kk f k r 30 av 1 then⟨[0,6,7,8],[vs5,Xm,vs1,vs1],[⟨.exit 0,[0],[vs5],[]⟩],[]⟩else
 bif kk f k r 31 av 1 then⟨[0,6,7,8],[vs5,rn,vs1,vs1],[⟨.exit 0,[0],[vs5],[]⟩],[]⟩else
 bif kk f k r 36 av 1 then⟨[0,1],[eH,vs1],[⟨.ret,[4],[vs1],[]⟩,⟨.exit 0,[1],[vs1],[]⟩],[]⟩else
 bif kk f k r 36 av 6 then⟨[0,1],[eH,vs1],[⟨.exit 3,[0,1],[eH,vs1],[]⟩],[]⟩else
 bif kk f k r 37 av 1 then⟨[0,1],[zN,vs1],[⟨.ret,[4],[zN],[]⟩,⟨.exit 0,[],[],[]⟩],[]⟩else
 bif kk f k r 37 av 13 then⟨[0,1,5,8],[zN,vs1,rn,vs1],[⟨.exit 3,[0,1],[zN,vs1],[]⟩],[]⟩else
 bif kk f k r 38 av 5 then⟨[0,1,4,7],[eH,vs1,vs0,vs1],[⟨.exit 1,[0,1,4,7],[eH,vs1,vs0,vs1],[]⟩],[]⟩else
 bif kk f k r 38 av 18 then⟨[0,4,8,9],[eH,vs0,EI,vs1],[⟨.ret,[4,5],[vs0,vs9],[]⟩],[]⟩else
 bif kk f k r 38 av 39 then⟨[0,4,8,9,11],[eH,vs0,EI,vs1,vs1],[⟨.ret,[4,5],[vs0,vs9],[]⟩,⟨.exit 5,[0,4,8,9],[eH,vs0,EI,vs1],[]⟩],[]⟩else
 bif kk f k r 38 av 49 then⟨[0,1,4,14,15],[eH,vs1,vs0,vs1,vs1],[⟨.exit 7,[1,4],[vs1,vs0],[]⟩],[]⟩else
 bif kk f k r 39 aq 4 then⟨[0,1,2,7],[zN,eH,vs1,vs1],[⟨.ret,[6],[vs1],[]⟩],[]⟩else
 bif kk f k r 39 av 5 then⟨[0,1,2,7,8],[zN,eH,vs1,vs1,vs1],[⟨.exit 0,[0,1,2,7],[zN,eH,vs1,vs1],[]⟩],[]⟩else
 bif kk f k r 39 av 10 then⟨[0,1,2,7,8,9,10],[zN,eH,vs1,vs1,vs1,eH,vs1],[⟨.exit 2,[0,1,2,7,8,10],[zN,eH,vs1,vs1,vs1,vs1],[]⟩],[]⟩else
 bif kk f k r 39 av 15 then⟨[1,2,7,11],[eH,vs1,vs1,vs1],[⟨.exit 4,[7,11],[vs1,vs1],[]⟩],[]⟩else
 bif kk f k r 40 aq 25 then⟨[3,41,90],[s8,vs1,vs9],[⟨.ret,[4,5,6],[rn,vs9,vs9],[]⟩,⟨.normal,[],[],[(8,83,[])]⟩],[(7,82,[]),(8,83,[])]⟩else
 bif kk f k r 43 av 65 then⟨[0,3,14],[vs4,vs1,kz],[⟨.exit 1,[0,3,14],[vs4,vs1,kz],[]⟩],[]⟩else
 bif kk f k r 44 av 5 then⟨[1,2,3,37,38],[qX,s5,vs1,vs1,vs1],[⟨.ret,[2],[s5],[]⟩,⟨.exit 0,[1,2,3],[qX,s5,vs1],[]⟩],[]⟩else
 bif kk f k r 44 av 12 then⟨[1,2,3,5,51,52,53],[qX,s5,vs1,kz,Um,vs1,vs1],[⟨.ret,[2],[s5],[]⟩,⟨.exit 2,[1,2,3],[qX,s5,vs1],[]⟩],[]⟩else
 bif kk f k r 44 av 16 then⟨[1,2,3,5,6,7,8,9,51,52,53],[qX,s5,vs1,kz,vs1,vs2,vs1,vs1,Um,vs1,vs1],[⟨.ret,[2],[s5],[]⟩,⟨.exit 4,[1,2,3,5,6,8,51,52,53],[qX,s5,vs1,kz,vs1,vs1,Um,vs1,vs1],[]⟩],[]⟩else
 bif kk f k r 44 av 27 then⟨[1,2,10,11],[qX,s5,kz,vs1],[⟨.exit 6,[2,10],[s5,kz],[]⟩],[]⟩else
 bif kk f k r 44 av 30 then⟨[1,2,10,11,113,114,115],[qX,s5,kz,vs1,rn,vs1,vs1],[⟨.exit 8,[1,2,10,11],[qX,s5,kz,vs1],[]⟩],[]⟩else
 bif kk f k r 44 av 35 then⟨[2,10,129,130],[s5,kz,vs1,vs1],[⟨.ret,[2],[s5],[]⟩,⟨.exit 10,[2],[s5],[]⟩],[]⟩else
 bif kk f k r 46 av 5 then⟨[0,2,25,26,27],[uH,vs1,rn,vs1,vs1],[⟨.exit 0,[0,2],[uH,vs1],[]⟩],[]⟩else
 bif kk f k r 47 av 1 then⟨[0,2,8,9,10],[uH,vs1,rn,vs1,vs1],[⟨.exit 0,[0],[uH],[]⟩],[]⟩else
 bif kk f k r 48 aq 15 then⟨[0,1,2,6,7,25,50],[uH,vs1,vs1,vs2,rn,vs1,vs9],[⟨.normal,[0],[uH],[]⟩],[]⟩else
 bif kk f k r 48 aq 21 then⟨[0,1,2,6,7,25,64],[uH,vs1,vs1,vs2,rn,vs1,vs9],[⟨.normal,[0],[uH],[]⟩],[]⟩else
 bif kk f k r 48 aq 26 then⟨[0,2,7,8,9,10],[uH,vs1,rn,vs1,vs9,eH],[⟨.normal,[0],[uH],[]⟩],[]⟩else
 bif kk f k r 48 aq 43 then⟨[0,2,7],[uH,vs1,rn],[⟨.normal,[0],[uH],[]⟩],[]⟩else
 bif kk f k r 53 av 1 then⟨[0,1],[eH,vs1],[⟨.ret,[4],[vs1],[]⟩,⟨.exit 0,[1],[vs1],[]⟩],[]⟩else
 bif kk f k r 53 av 7 then⟨[0,1],[eH,vs1],[⟨.exit 2,[0,1],[eH,vs1],[]⟩],[]⟩else
 bif kk f k r 54 av 14 then⟨[0,1,4,6,43,44,45],[eH,vs1,vs0,vs0,FW,vs1,vs1],[⟨.ret,[4,5],[vs0,vs1],[]⟩,⟨.exit 0,[1,4,6],[vs1,vs0,vs0],[]⟩],[]⟩else
 bif kk f k r 55 av 2 then⟨[0,1,2,7],[eH,vs1,rn,vs1],[⟨.exit 0,[1,7],[vs1,vs1],[]⟩],[]⟩else
 bif kk f k r 56 av 4 then⟨[0,1,5,6,7],[xi,vs1,kz,vs1,vs1],[⟨.exit 0,[0,5],[xi,kz],[]⟩],[]⟩else
 bif kk f k r 57 aq 52 then⟨[0,1,93],[vs1,vs1,vs9],[⟨.ret,[4,5],[kz,vs9],[]⟩,⟨.normal,[0,1],[vs1,vs1],[]⟩],[]⟩else
 bif kk f k r 57 aq 53 then⟨[0,1],[vs1,vs1],[⟨.ret,[4,5],[kz,vs9],[]⟩],[]⟩else
 bif kk f k r 61 aq 57 then⟨[0,3,17],[vs3,vs0,vs1],[⟨.ret,[0,2],[vs3,vs1],[]⟩],[]⟩else
 bif kk f k r 63 av 5 then⟨[2,3,17,18],[qX,vs2,vs1,vs1],[⟨.ret,[4],[vs9],[]⟩,⟨.exit 1,[3],[vs2],[]⟩],[]⟩else
 bif kk f k r 63 av 21 then⟨[2,3,5,7],[qX,vs2,vs1,vs1],[⟨.ret,[4],[vs9],[]⟩,⟨.exit 3,[2,3,5],[qX,vs2,vs1],[]⟩],[]⟩else
 bif kk f k r 63 aq 28 then⟨[2,3,5,12,113],[qX,vs2,vs1,vs1,vs9],[⟨.ret,[4],[vs9],[]⟩,⟨.normal,[2,3,5],[qX,vs2,vs1],[]⟩],[]⟩else
 bif kk f k r 63 aq 41 then⟨[2,3,5,12,240],[qX,vs2,vs1,vs1,vs9],[⟨.ret,[4],[vs9],[]⟩,⟨.normal,[2,3,5],[qX,vs2,vs1],[]⟩],[]⟩else
 bif kk f k r 63 aq 46 then⟨[2,3,5],[qX,vs2,vs1],[⟨.ret,[4],[vs9],[]⟩],[]⟩else
 bif kk f k r 64 aq 7 then⟨[2,3,5,12,13],[qX,vs2,vs1,vs1,vs9],[⟨.ret,[4],[vs9],[]⟩,⟨.normal,[2,3,5],[qX,vs2,vs1],[]⟩],[]⟩else
 bif kk f k r 64 aq 18 then⟨[2,3,5,12,72],[qX,vs2,vs1,vs1,vs9],[⟨.ret,[4],[vs9],[]⟩,⟨.normal,[2,3,5],[qX,vs2,vs1],[]⟩],[]⟩else
 bif kk f k r 64 av 31 then⟨[2,3,199,200],[qX,vs2,vs1,vs1],[⟨.ret,[4],[vs9],[]⟩,⟨.exit 1,[3],[vs2],[]⟩],[]⟩else
 bif kk f k r 64 aq 46 then⟨[2,3,5],[qX,vs2,vs1],[⟨.ret,[4],[vs9],[]⟩],[]⟩else
 bif kk f k r 65 av 2 then⟨[0,2],[vs5,vs1],[⟨.exit 0,[0],[vs5],[]⟩],[]⟩else
 bif kk f k r 68 av 7 then⟨[0,23,24,25],[vs1,FW,vs1,vs1],[⟨.ret,[2],[eH],[]⟩,⟨.exit 0,[],[],[]⟩],[]⟩else
 bif kk f k r 69 aq 12 then⟨[0,3],[vs5,vs2],[⟨.normal,[0],[vs5],[]⟩],[]⟩else
 bif kk f k r 71 av 3 then⟨[0,10,11,12],[vs5,rn,vs1,vs1],[⟨.exit 0,[0],[vs5],[]⟩],[]⟩else
 bif kk f k r 71 aq 7 then⟨[0,5,10,11,12],[vs5,vs1,rn,vs1,vs1],[⟨.normal,[0,10,11,12],[vs5,rn,vs1,vs1],[]⟩],[]⟩else
 bif kk f k r 76 av 2 then⟨[0,5,6,7],[eH,Xm,vs1,vs1],[⟨.ret,[2],[vs1],[]⟩,⟨.exit 0,[],[],[]⟩],[]⟩else
 bif kk f k r 77 av 5 then⟨[0,1,4,6],[eH,vs1,vs0,vs1],[⟨.exit 0,[0,1,4,6],[eH,vs1,vs0,vs1],[]⟩],[]⟩else
 bif kk f k r 77 av 15 then⟨[0,1,4,6],[eH,vs1,vs0,vs1],[⟨.exit 2,[0,1,4,6],[eH,vs1,vs0,vs1],[]⟩],[]⟩else
 bif kk f k r 77 aq 17 then⟨[0,1,4,6],[eH,vs1,vs0,vs1],[⟨.ret,[4,5],[vs0,vs9],[]⟩],[]⟩else
 bif kk f k r 77 av 20 then⟨[0,1,4,6,9],[eH,vs1,vs0,vs1,vs1],[⟨.exit 4,[0,1,4,6,9],[eH,vs1,vs0,vs1,vs1],[]⟩],[]⟩else
 bif kk f k r 77 aq 22 then⟨[0,1,4,6,9],[eH,vs1,vs0,vs1,vs1],[⟨.ret,[4,5],[vs0,vs9],[]⟩],[]⟩else
 bif kk f k r 77 aq 26 then⟨[0,1,4,6,9],[eH,vs1,vs0,vs1,vs1],[⟨.ret,[4,5],[vs0,vs9],[]⟩,⟨.normal,[0,1,4,6,9],[eH,vs1,vs0,vs1,vs1],[]⟩],[]⟩else
 bif kk f k r 77 av 29 then⟨[0,1,4,6,9],[eH,vs1,vs0,vs1,vs1],[⟨.exit 6,[0,1,4,6,9],[eH,vs1,vs0,vs1,vs1],[]⟩],[]⟩else
 bif kk f k r 77 aq 31 then⟨[0,1,4,6,9],[eH,vs1,vs0,vs1,vs1],[⟨.ret,[4,5],[vs0,vs9],[]⟩],[]⟩else
 bif kk f k r 91 av 2 then⟨[0,3],[vs4,FW],[⟨.exit 0,[0,3],[vs4,FW],[]⟩],[]⟩else
 bif kk f k r 92 av 2 then⟨[0,3],[vs4,kz],[⟨.exit 0,[0,3],[vs4,kz],[]⟩],[]⟩else
 bif kk f k r 94 av 3 then⟨[0,1,5,6],[vs4,vs1,vs1,vs1],[⟨.ret,[0,4],[vs4,vs1],[]⟩],[]⟩else
 bif kk f k r 94 aq 11 then⟨[0,1,5,6,7,9],[vs4,vs1,vs1,vs1,vs1,vs1],[⟨.normal,[0,1,5,6],[vs4,vs1,vs1,vs1],[]⟩],[]⟩else
 bif kk f k r 95 av 3 then⟨[0,1,5],[vs4,vs1,vs6],[⟨.exit 0,[0,1,5],[vs4,vs1,vs6],[]⟩],[]⟩else
 bif kk f k r 98 av 11 then⟨[0,3,4],[vs4,vs1,vs1],[⟨.ret,[0,2],[vs4,vs1],[]⟩],[]⟩else
 bif kk f k r 98 aq 1011 then⟨[0,3,4],[vs4,vs1,vs1],[⟨.ret,[0,2],[vs4,vs1],[]⟩],[]⟩else
 bif kk f k r 99 av 6 then⟨[1,2,5,6,58,59,60],[vs1,qX,vs2,PJ,rn,vs1,vs1],[⟨.ret,[4],[vs9],[]⟩,⟨.exit 0,[5,6],[vs2,PJ],[]⟩],[]⟩else
 bif kk f k r 99 av 13 then⟨[5,6,80,81,82],[vs2,PJ,Xm,vs1,vs1],[⟨.ret,[4],[vs9],[]⟩,⟨.exit 2,[5,6],[vs2,PJ],[]⟩],[]⟩else
 bif kk f k r 99 av 26 then⟨[11,12,13,14,108,109,110],[s8,s8,Ka,NF,kz,vs1,vs1],[⟨.ret,[4],[vs9],[]⟩,⟨.exit 5,[11,12,13,14],[s8,s8,Ka,NF],[(17,158,[11,12,13,14])]⟩],[(17,158,[11,12,13,14])]⟩else
 bif kk f k r 99 av 42 then⟨[6,13,16,184,185,186],[Rz,Ka,s8,rn,vs1,vs1],[⟨.ret,[4],[vs9],[]⟩,⟨.exit 7,[6,13,16],[Rz,Ka,s8],[(15,156,[6])]⟩],[(15,156,[6])]⟩else
 bif kk f k r 99 aq 50 then⟨[6,11,12,13,14,16,105,205],[PJ,s8,s8,Ka,NF,s8,vs1,vs9],[⟨.ret,[4],[vs9],[]⟩,⟨.normal,[],[],[]⟩],[(15,156,[6]),(17,158,[11,12,13,14]),(18,159,[16,6])]⟩else
 bif kk f k r 99 aq 65 then⟨[6,11,12,13,14,16,105,328],[PJ,s8,s8,Ka,NF,s8,vs1,vs9],[⟨.ret,[4],[vs9],[]⟩,⟨.normal,[],[],[]⟩],[(15,156,[6]),(17,158,[11,12,13,14]),(18,159,[16,6])]⟩else
 bif kk f k r 99 aq 72 then⟨[6,11,12,13,14,16,105,378],[PJ,s8,s8,Ka,NF,s8,vs1,vs9],[⟨.ret,[4],[vs9],[]⟩,⟨.normal,[],[],[]⟩],[(15,156,[6]),(17,158,[11,12,13,14]),(18,159,[16,6])]⟩else
 bif kk f k r 99 aq 84 then⟨[6,11,12,13,14,16,105,436],[PJ,s8,s8,Ka,NF,s8,vs1,vs9],[⟨.ret,[4],[vs9],[]⟩,⟨.normal,[],[],[]⟩],[(15,156,[6]),(17,158,[11,12,13,14]),(18,159,[16,6])]⟩else
 bif kk f k r 99 av 97 then⟨[11,12,13,14,529,530,531],[s8,s8,Ka,NF,kz,vs1,vs1],[⟨.ret,[4],[vs9],[]⟩,⟨.exit 9,[11,12,13,14],[s8,s8,Ka,NF],[(17,158,[11,12,13,14])]⟩],[(17,158,[11,12,13,14])]⟩else
 bif kk f k r 103 av 6 then⟨[0,3,4],[eH, .one (.ptr av (63,[]) .vp),vs1],[⟨.exit 0,[3],[.one (.ptr av (63,[]) .vp)],[]⟩],[]⟩else
 bif kk f k r 106 aq 7 then⟨[0,1,2,19],[uH,vs1,vs1,vs9],[⟨.normal,[0],[uH],[]⟩],[]⟩else
 bif kk f k r 110 av 2 then⟨[0,3,4,6],[eH,vs0,vs0,vs1],[⟨.exit 0,[0,3,4,6],[eH,vs0,vs0,vs1],[]⟩],[]⟩else
 bif kk f k r 110 av 8 then⟨[3,4,7,32,33,34],[vs0,vs0,eH,FW,vs1,vs1],[⟨.ret,[4,5],[vs0,vs1],[]⟩,⟨.exit 2,[3,4,7],[vs0,vs0,eH],[]⟩],[]⟩else
 bif kk f k r 112 av 7 then⟨[0,3,4,6],[eH,vs0,vs0,vs1],[⟨.exit 0,[0,3,4,6],[eH,vs0,vs0,vs1],[]⟩],[]⟩else
 bif kk f k r 112 aq 9 then⟨[0,3,4,6],[eH,vs0,vs0,vs1],[⟨.ret,[4,5],[vs0,vs1],[]⟩],[]⟩else
 bif kk f k r 112 av 12 then⟨[0,3,4,6],[eH,vs0,vs0,vs1],[⟨.exit 2,[0,3,4,6],[eH,vs0,vs0,vs1],[]⟩],[]⟩else
 bif kk f k r 112 aq 14 then⟨[0,3,4,6],[eH,vs0,vs0,vs1],[⟨.ret,[4,5],[vs0,vs1],[]⟩],[]⟩else
 bif kk f k r 112 av 21 then⟨[0,3,4,6],[eH,vs0,vs0,vs1],[⟨.exit 4,[0,3,4,6],[eH,vs0,vs0,vs1],[]⟩],[]⟩else
 bif kk f k r 112 aq 23 then⟨[0,3,4,6],[eH,vs0,vs0,vs1],[⟨.ret,[4,5],[vs0,vs1],[]⟩],[]⟩else
 bif kk f k r 112 av 26 then⟨[0,3,4,6,7,8],[eH,vs0,vs0,vs1,vJ,vs1],[⟨.exit 6,[0,3,4,6,7],[eH,vs0,vs0,vs1,vJ],[]⟩],[]⟩else
 bif kk f k r 113 av 4 then⟨[0,3,4,6,7],[eH,vs0,vs0,vs1,EI],[⟨.ret,[4,5],[vs0,vs1],[]⟩,⟨.exit 0,[3,4,6],[vs0,vs0,vs1],[]⟩],[]⟩else
 bif kk f k r 113 aq 24 then⟨[0,3,4,6,7,46,59],[eH,vs0,vs0,vs1,EI,FY,vs9],[⟨.normal,[0,3,4,6,7],[eH,vs0,vs0,vs1,EI],[]⟩,⟨.ret,[4,5],[vs0,vs1],[]⟩],[]⟩else
 bif kk f k r 113 av 27 then⟨[0,3,4,6,7,9],[eH,vs0,vs0,vs1,EI,vs1],[⟨.ret,[4,5],[vs0,vs1],[]⟩,⟨.exit 3,[0,3,4,6,7],[eH,vs0,vs0,vs1,EI],[]⟩],[]⟩else
 bif kk f k r 115 av 3 then⟨[0,3,4],[eH,FW,vs1],[⟨.ret,[2],[vs1],[]⟩,⟨.exit 0,[0],[eH],[]⟩],[]⟩else
 bif kk f k r 115 av 9 then⟨[0,24,25,26],[eH,FW,vs1,vs1],[⟨.ret,[2],[vs1],[]⟩,⟨.exit 2,[],[],[]⟩],[]⟩else
 bif kk f k r 116 av 4 then⟨[1,16,17,18],[eH,rn,vs1,vs1],[⟨.ret,[4],[vs9],[]⟩,⟨.exit 0,[],[],[]⟩],[]⟩else
 bif kk f k r 118 aq 16 then⟨[0,4,35],[vs1,vs1,vs9],[⟨.ret,[2,3],[kz,vs9],[]⟩,⟨.normal,[],[],[]⟩],[]⟩else
 bif kk f k r 120 aq 6 then⟨[0,1,6,9,10],[vs1,vs1,kz,vs1,vs9],[⟨.normal,[0,1,6],[vs1,vs1,kz],[]⟩],[]⟩else
 bif kk f k r 120 aq 13 then⟨[0,1,6],[vs1,vs1,kz],[⟨.ret,[4,5],[kz,vs9],[]⟩],[]⟩else
 bif kk f k r 120 aq 22 then⟨[0,1],[vs1,vs1],[⟨.ret,[4,5],[kz,vs9],[]⟩],[]⟩else
 bif kk f k r 121 aq 24 then⟨[0,1,6,49],[vs1,vs1,vs1,vs9],[⟨.ret,[4,5],[kz,vs9],[]⟩,⟨.normal,[1],[vs1],[]⟩],[]⟩else
 bif kk f k r 123 av 9 then⟨[0,3],[vs3,vs6],[⟨.exit 0,[0,3],[vs3,vs6],[]⟩],[]⟩else
 bif kk f k r 123 av 15 then⟨[0,3,74,75,76],[vs3,vs6,kz,vs1,vs1],[⟨.exit 2,[0,3],[vs3,vs6],[]⟩],[]⟩else
 bif kk f k r 126 av 3 then⟨[0,3,4],[vs3,vs0,FW],[⟨.exit 0,[0,4],[vs3,FW],[]⟩],[]⟩else
 bif kk f k r 127 av 3 then⟨[0,4],[vs3,kz],[⟨.exit 0,[0,4],[vs3,kz],[]⟩],[]⟩else
 bif kk f k r 129 av 3 then⟨[0,1,5,6],[vs3,vs1,vs0,vs1],[⟨.ret,[0,4],[vs3,vs1],[]⟩,⟨.exit 0,[0,6],[vs3,vs1],[]⟩],[]⟩else
 bif kk f k r 130 av 2 then⟨[0,3],[vs3,vs6],[⟨.exit 0,[0,3],[vs3,vs6],[]⟩],[]⟩else
 bif kk f k r 133 av 14 then⟨[0,3,4],[vs3,vs1,vs0],[⟨.ret,[0,2],[vs3,vs1],[]⟩],[]⟩else
 bif kk f k r 133 av 33 then⟨[0,4,8,93,94,95],[vs3,vs0,vs6,kz,vs1,vs1],[⟨.exit 3,[0,4,8],[vs3,vs0,vs6],[]⟩],[]⟩else
 bif kk f k r 133 aq 1014 then⟨[0,3,4],[vs3,vs1,vs0],[⟨.ret,[0,2],[vs3,vs1],[]⟩],[]⟩else
 bif kk f k r 136 av 4 then⟨[22,23,24],[Xm,vs1,vs1],[⟨.ret,[6],[vs9],[]⟩,⟨.exit 0,[],[],[]⟩],[]⟩else
 bif kk f k r 137 av 2 then⟨[3,4,5,9],[vs1,qX,vs2,vs1],[⟨.ret,[8],[vs9],[]⟩,⟨.exit 0,[],[],[]⟩],[]⟩else
 bif kk f k r 141 aq 13 then⟨[10,11],[vs1,vs9],[⟨.ret,[2,3],[vs1,vs1],[]⟩,⟨.normal,[],[],[]⟩],[]⟩else
 bif kk f k r 145 av 6 then⟨[0,3,4,5],[vs1,eH,eH,vs1],[⟨.exit 0,[4],[eH],[]⟩],[]⟩else
 bif kk f k r 146 av 4 then⟨[0,3,4,5],[eH,eH,EI,vs1],[⟨.exit 0,[4],[EI],[]⟩],[]⟩else
 bif kk f k r 150 aq 21 then⟨[0,1,2,8,9],[eH,vs1,vs1,vs9,eH],[⟨.ret,[6,7],[vJ,RA],[]⟩],[]⟩else
 bif kk f k r 150 aq 25 then⟨[0,1,2,8,9],[eH,vs1,vs1,vs9,eH],[⟨.ret,[6,7],[vJ,RA],[]⟩],[]⟩else
 bif kk f k r 150 aq 32 then⟨[0,1,2,8,9,10],[eH,vs1,vs1,vs9,eH,vJ],[⟨.ret,[6,7],[vJ,RA],[]⟩],[]⟩else
 bif kk f k r 150 av 36 then⟨[1,8,9,10,11,12,13,99,100,101],[vs1,vs9,eH,vJ,vJ,vs9,vJ,am4,vs1,vs1],[⟨.ret,[6,7],[vJ,RA],[]⟩,⟨.exit 3,[9,12,13],[eH,vs9,vJ],[]⟩],[]⟩else
 bif kk f k r 150 aq 46 then⟨[1,8,9,10,11,12,13,16,99,100,101],[vs1,vs9,eH,vJ,vJ,vs9,vJ,FY,am4,vs1,vs1],[⟨.ret,[6,7],[vJ,RA],[]⟩,⟨.normal,[1,8,9,10,11,12,13,99,100,101],[vs1,vs9,eH,vJ,vJ,vs9,vJ,am4,vs1,vs1],[]⟩],[]⟩else
 bif kk f k r 154 aq 20 then⟨[14,23],[vs1,vs9],[⟨.ret,[2],[vs1],[]⟩,⟨.normal,[],[],[]⟩],[]⟩else
 bif kk f k r 156 av 2 then⟨[2,11,12,13],[Rz,rn,vs1,vs1],[⟨.ret,[2,5],[Rz,vs9],[]⟩,⟨.exit 0,[2],[Rz],[]⟩],[]⟩else
 bif kk f k r 168 av 3 then⟨[0,3,4,6,7],[eH,vs0,vs0,vs1,vJ],[⟨.ret,[4,5],[vs0,vs1],[]⟩,⟨.exit 0,[3,4,6,7],[vs0,vs0,vs1,vJ],[]⟩],[]⟩else
 bif kk f k r 174 av 34 then⟨[0,9],[vs3,vs6],[⟨.exit 1,[0,9],[vs3,vs6],[]⟩],[]⟩else
 bif kk f k r 176 av 5 then⟨[0,3,4],[vs1,vs9,EI],[⟨.exit 0,[3,4],[vs9,EI],[]⟩],[]⟩else
 bif kk f k r 176 aq 14 then⟨[4,6],[EI,eH],[⟨.ret,[2],[eH],[]⟩],[]⟩else
 bif kk f k r 176 av 15 then⟨[4,6,7],[EI,eH,vs1],[⟨.exit 2,[6],[eH],[]⟩],[]⟩else
 bif kk f k r 180 aq 5 then⟨[0,3,4],[eH,Zf,vs1],[⟨.ret,[2],[vs9],[]⟩],[]⟩else
 bif kk f k r 180 av 10 then⟨[0,3,4,5],[eH,Zf,vs1,vs9],[⟨.ret,[2],[vs9],[]⟩,⟨.exit 0,[3],[Zf],[]⟩],[]⟩else
 bif kk f k r 180 aq 1010 then⟨[0,3,4,5],[eH,Zf,vs1,vs9],[⟨.ret,[2],[vs9],[]⟩],[]⟩else
 bif kk f k r 186 av 4 then⟨[0,3,4],[vs4,vs1,vs6],[⟨.exit 0,[0,3,4],[vs4,vs1,vs6],[]⟩],[]⟩else
 bif kk f k r 194 aq 14 then⟨[0,4],[vs3,vs6],[⟨.ret,[0,2],[vs3,vs1],[]⟩],[]⟩else
 ⟨[],[],[],[]⟩
def lib (f:Nat):Option Callee:=
 bif ax f 166 then U ⟨⟨[.one (.ptr aq (0,Bld.places) .vp), .one (.fT (.int .u8))], .val (.one .err)⟩,Bld.og⟩else
 bif ax f 51 then U ⟨⟨[.one (.ptr aq (0,Bld.places) .vp), .one (.fT .str)], .xl [.one (.fT (.int .i64)), .one .err]⟩,Bld.mH⟩else
 bif ax f 22 then U ⟨⟨[.one (.ptr aq (0,Bld.places) .vp)], .val (.one (.fT (.int .i64)))⟩,Bld.Ul⟩else
 bif ax f 23 then U ⟨⟨[.one (.CV Bld.places)], .val (.one (.fT .str))⟩,Bld.xN⟩else
 bif ax f 178 then U ⟨⟨[.one (.fT .str), .one (.fT (.int .u8))], .val (.one (.fT (.int .i64)))⟩,Bld.w7⟩else
 bif ax f 148 then U ⟨⟨[.one (.fT .str), .one (.fT (.int .i64)), .one (.fT (.int .i64))], .xl [.one (.fT (.int .i64)), .one .err]⟩,Lx.tD⟩else
 bif ax f 164 then U ⟨⟨[.one (.fT (.int .i64)), .one (.fT (.int .i64))], .val (.one (.fT .str))⟩,Lx.rV⟩else
 bif ax f 45 then U ⟨⟨[.one (.fT (.sl .str)), .one (.fT .str)], .val (.one (.fT .str))⟩,Lx.Bz⟩else
 bif ax f 101 then U ⟨⟨[.one (.fT .str), .one (.fT (.int .i64))], .val (.one (.fT .str))⟩,Lx.xP⟩else
 bif ax f 201 then U ⟨⟨[.one (.fT (.sl (.int .u8))), .one (.fT (.int .u64)), .one (.fT (.int .i64)), .one (.fT .bool), .one (.fT .bool)], .xl [.one (.fT (.sl (.int .u8))), .one (.fT .str)]⟩,Lx.qx⟩else
 az
noncomputable def S:Sys:={P:=aY,gU:=λk=>bif ax k 0 then U [.v (.sl .str) Lx.words]else bif ax k 1 then U [.v (.sl .str) Lx.rG]else bif ax k 2 then U [.v (.sl .str) Lx.zK]else Lx.Hq k,cl:=48,sig:=sig,known:=known,qJ:=qJ,EE:=EE,cut:=cut,lib:=lib,bors:=[(6,12),(8,19)],trim:=λf=>ax f 56}
abbrev TT0:=List di.den×Int×List cZ.den×Unit
abbrev TT1:=List cZ.den×Unit
abbrev TT2:=Unit×Unit×Unit×Unit×Unit×Unit×Unit×Unit×Unit×Unit
abbrev TT3:=TT1×LI×Int×Unit
abbrev TT4:=Unit×Unit×Unit×Unit×Unit×Unit×Unit
abbrev TT5:=Bool×Unit×Unit
abbrev TT6:=TT1×LI×Unit
abbrev TT7:=List kE.den×Unit
abbrev TT8:=di.den×Int×Unit
abbrev TT9:=LI×Bool×Unit
abbrev zP:=Bool×Unit
abbrev EH:=Int×TT0×Unit
abbrev Xg:=zP⊕(TT1×cZ.den×Int×Unit)⊕Empty
abbrev NJ:=LI×Unit×Unit
abbrev Y6:=(LI×di.den×di.den×Int×Unit)⊕Empty
abbrev BD:=Unit×Unit
abbrev PV:=di.den×Bool×Unit
abbrev RM:=(TT0×Int×Unit)⊕Empty
abbrev Un:=Unit×TT6×Unit×Unit×Unit
abbrev aD1:=TT7×LI×Int×List di.den×kE.den
abbrev aD5:=aD1⊕(TT7×List di.den×kE.den)⊕aD1⊕Empty
abbrev J8:=LI×Unit
abbrev RP:=Unit×TT3×Unit×Unit
abbrev PR:=(TT3×Unit)⊕Empty
abbrev Xl:=(TT0×LI×Unit)⊕Empty
abbrev RL:=(TT6×Unit)⊕Empty
abbrev PQ:=Int×Bool×Unit
abbrev NG:=kE.den×Unit
abbrev Xe:=LI×Bool×Bool×Unit
abbrev Xh:=Bool×Unit×Unit×Unit
abbrev Zi:=(TT0×cZ.den×Unit)⊕Empty
abbrev al1:=(LI×Int×di.den×Int×Unit)⊕Empty
abbrev Xd:=Int×Unit×Unit×Unit
abbrev NB:=Int×Unit
abbrev Up:=Int×Unit×Unit
abbrev am7:=LI×Int×di.den×kE.den
abbrev Zc:=TT8×Unit×TT4×Unit
variable(T:S.Tab)
def aj1:(fns.all S.RH)=true:=by kernel_rfl
def eF (h:S.P.funcs[f]?=U fn){T:S.Tab}{x:(S.sig f).dom.den}{y:Option (S.sig f).cod.den}(e:J1 (S.env T f fn.ntmps) fn (S.sig f) (S.EJ T f) x=y:=by kernel_rfl):(S.step T).fn f x=y:=(Sys.Yg (S:=S) h T x).trans e
def eL (h:S.P.funcs[f]?=U fn)(hb:fn.body=U c:=by rfl){T:S.Tab} {r:Nat} {x:(fF (S.cut f av r).as).den} {y:Option (sB (S.cut f av r).ws)} (e:(S.cut f av r).round (S.env T f fn.ntmps) (S.EJ T f) (o8 av r (eU c)) (T.pc f av r) x=y:=by kernel_rfl):(S.step T).pc f av r x=y:=(Sys.Vd (S:=S) h hb T x).trans e
def eJ (h:S.P.funcs[f]?=U fn)(hb:fn.body=U c:=by rfl){T:S.Tab} {r:Nat} {x:(fF (S.cut f aq r).as).den} {y:Option (sB (S.cut f aq r).ws)} (e:(S.cut f aq r).tail (S.env T f fn.ntmps) (S.EJ T f) (o8 aq r (eU c)) x=y:=by kernel_rfl):(S.step T).pc f aq r x=y:=(Sys.VH (S:=S) h hb T x).trans e
def pD (t0:TT7)(t1:Int)(t2:Int):Option (Int×TT7×Unit×Unit×Unit):=T.fn 58 (t0,t1,t2,())
def wT (t0:TT7):Option (Int×TT7×Unit):=T.fn 52 (t0,())
abbrev cW:Unit×Unit×Unit:=((),((),()))
def fP (t0:LI)(t1:Int):Option Xd:=T.fn 108 (t0,t1,())
def mQ (t0:LI)(t1:Int):Option Xd:=T.fn 53 (t0,t1,())
def fA (t0:LI)(t1:Int):Option (NB⊕NB⊕Empty):=T.pc 53 av 1 (t0,t1,())
def kx (t0:LI)(t1:Int):Option ((LI×Int×Unit)⊕Empty):=T.pc 53 av 7 (t0,t1,())
abbrev cV:Unit×Unit:=((),())
def mR (t0:Int):Option TT5:=T.fn 109 (t0,())
def gx (t0:Int):Option TT5:=T.fn 111 (t0,())
abbrev lP:Unit:=()
def vA:Option (List LI×Unit):=T.fn 143 ()
abbrev fD:Unit×TT4×Unit:=((),(((),((),((),((),((),((),())))))),()))
def xE (t0:LI)(t1:di.den):Option Zc:=T.fn 110 (t0,t1,())
def kP (t0:LI)(t3:di.den)(t4:di.den)(t6:Int):Option Y6:=T.pc 110 av 2 (t0,t3,t4,t6,())
def kQ (t3:di.den)(t4:di.den)(t7:LI)(t32:List LI)(t33:Int)(t34:Int):Option (TT8⊕(di.den×di.den×LI×Unit)⊕Empty):=T.pc 110 av 8 (t3,t4,t7,t32,t33,t34,())
def rW (t0:Int):Option Up:=T.fn 169 (t0,())
def vv (t0:LI)(t1:di.den):Option Zc:=T.fn 168 (t0,t1,())
def pf (t0:LI)(t3:di.den)(t4:di.den)(t6:Int)(t7:Int):Option (TT8⊕(di.den×di.den×Int×Int×Unit)⊕Empty):=T.pc 168 av 3 (t0,t3,t4,t6,t7,())
def yh (t0:LI)(t1:di.den):Option Zc:=T.fn 112 (t0,t1,())
def jo (t0:LI)(t3:di.den)(t4:di.den)(t6:Int):Option (TT8⊕Empty):=T.pc 112 aq 9 (t0,t3,t4,t6,())
def gO (t0:LI)(t3:di.den)(t4:di.den)(t6:Int):Option (TT8⊕Empty):=T.pc 112 aq 14 (t0,t3,t4,t6,())
def iM (t0:LI)(t3:di.den)(t4:di.den)(t6:Int):Option (TT8⊕Empty):=T.pc 112 aq 23 (t0,t3,t4,t6,())
def js (t0:LI)(t3:di.den)(t4:di.den)(t6:Int):Option Y6:=T.pc 112 av 7 (t0,t3,t4,t6,())
def jA (t0:LI)(t3:di.den)(t4:di.den)(t6:Int):Option Y6:=T.pc 112 av 12 (t0,t3,t4,t6,())
def gL (t0:LI)(t3:di.den)(t4:di.den)(t6:Int):Option Y6:=T.pc 112 av 21 (t0,t3,t4,t6,())
def fw (t0:LI)(t3:di.den)(t4:di.den)(t6:Int)(t7:Int)(t8:Int):Option ((LI×di.den×di.den×Int×Int×Unit)⊕Empty):=T.pc 112 av 26 (t0,t3,t4,t6,t7,t8,())
def tL (t0:LI)(t1:di.den):Option Zc:=T.fn 113 (t0,t1,())
def kJ (t0:LI)(t3:di.den)(t4:di.den)(t6:Int)(t7:LI)(t46:Int)(t59:Bool):Option ((LI×di.den×di.den×Int×LI×Unit)⊕TT8⊕Empty):=T.pc 113 aq 24 (t0,t3,t4,t6,t7,t46,t59,())
def dX (t0:LI)(t3:di.den)(t4:di.den)(t6:Int)(t7:LI):Option (TT8⊕(di.den×di.den×Int×Unit)⊕Empty):=T.pc 113 av 4 (t0,t3,t4,t6,t7,())
def mf (t0:LI)(t3:di.den)(t4:di.den)(t6:Int)(t7:LI)(t9:Int):Option (TT8⊕(LI×di.den×di.den×Int×LI×Unit)⊕Empty):=T.pc 113 av 27 (t0,t3,t4,t6,t7,t9,())
def qN:Option (List LI×Unit):=T.fn 114 ()
def nV (t0:LI):Option Up:=T.fn 115 (t0,())
def jQ (t0:LI)(t3:List LI)(t4:Int):Option (NB⊕J8⊕Empty):=T.pc 115 av 3 (t0,t3,t4,())
def kN (t0:LI)(t24:List LI)(t25:Int)(t26:Int):Option (NB⊕(Unit)⊕Empty):=T.pc 115 av 9 (t0,t24,t25,t26,())
def iH (t0:LI)(t1:Int):Option (TT8×Unit×Unit×Unit):=T.fn 54 (t0,t1,())
def jk (t0:LI)(t1:Int)(t4:di.den)(t6:di.den)(t43:List LI)(t44:Int)(t45:Int):Option (TT8⊕(Int×di.den×di.den×Unit)⊕Empty):=T.pc 54 av 14 (t0,t1,t4,t6,t43,t44,t45,())
def dE (t0:LI):Option NJ:=T.fn 117 (t0,())
def uy (t0:Int):Option (TT9×Unit×Unit):=T.fn 118 (t0,())
def nw (t0:Int)(t4:Int)(t35:Bool):Option (TT9⊕(Unit)⊕Empty):=T.pc 118 aq 16 (t0,t4,t35,())
def fb (t0:Int):Option TT5:=T.fn 170 (t0,())
def fZ (t0:Int):Option TT5:=T.fn 119 (t0,())
abbrev dR:Unit×Unit×Unit×Unit:=((),((),((),())))
def iD (t0:Int)(t1:Int)(t2:Int):Option (LI×Unit×Unit×Unit×Unit):=T.fn 171 (t0,t1,t2,())
def qt (t0:Int)(t1:Int):Option (TT9×Unit×Unit×Unit):=T.fn 120 (t0,t1,())
def kL (t0:Int)(t1:Int)(t6:LI)(t9:Int)(t10:Bool):Option ((Int×Int×LI×Unit)⊕Empty):=T.pc 120 aq 6 (t0,t1,t6,t9,t10,())
def j2 (t0:Int)(t1:Int)(t6:LI):Option (TT9⊕Empty):=T.pc 120 aq 13 (t0,t1,t6,())
def j4 (t0:Int)(t1:Int):Option (TT9⊕Empty):=T.pc 120 aq 22 (t0,t1,())
def uu (t0:Int):Option (TT9×Unit×Unit):=T.fn 172 (t0,())
def nQ (t0:Int):Option TT5:=T.fn 173 (t0,())
def qp (t0:Int)(t1:Int):Option (TT9×Unit×Unit×Unit):=T.fn 121 (t0,t1,())
def ly (t0:Int)(t1:Int)(t6:Int)(t49:Bool):Option (TT9⊕NB⊕Empty):=T.pc 121 aq 24 (t0,t1,t6,t49,())
def mO (t0:Int)(t1:Int):Option (TT9×Unit×Unit×Unit):=T.fn 57 (t0,t1,())
def fJ (t0:Int)(t1:Int)(t93:Bool):Option (TT9⊕(kE.den)⊕Empty):=T.pc 57 aq 52 (t0,t1,t93,())
def fH (t0:Int)(t1:Int):Option (TT9⊕Empty):=T.pc 57 aq 53 (t0,t1,())
def od (t0:TT7)(t1:Int)(t2:Int):Option (PQ×TT7×Unit×Unit×Unit):=T.fn 25 (t0,t1,t2,())
def iB (t0:TT7)(t1:Int)(t2:Int):Option ((TT7×Int×Bool×Unit)⊕(TT7×Int×Unit)⊕Empty):=T.pc 25 av 1 (t0,t1,t2,())
def nN (t0:TT7)(t1:Int)(t2:Int)(t9:LI)(t11:Int):Option ((TT7×kE.den)⊕Empty):=T.pc 25 av 10 (t0,t1,t2,t9,t11,())
def vy (t0:TT7)(t1:Int):Option (LI×TT7×Unit×Unit):=T.fn 56 (t0,t1,())
def nD (t0:TT7)(t1:Int)(t5:LI)(t6:Int)(t7:Int):Option ((TT7×LI×Unit)⊕Empty):=T.pc 56 av 4 (t0,t1,t5,t6,t7,())
def fQ (t0:Int):Option NJ:=T.fn 68 (t0,())
def jb (t0:Int)(t23:List LI)(t24:Int)(t25:Int):Option (J8⊕(Unit)⊕Empty):=T.pc 68 av 7 (t0,t23,t24,t25,())
def vt (t0:LI)(t1:LI):Option Xh:=T.fn 116 (t0,t1,())
def dL (t1:LI)(t16:LI)(t17:Int)(t18:Int):Option (zP⊕(Unit)⊕Empty):=T.pc 116 av 4 (t1,t16,t17,t18,())
def vw (t0:LI)(t1:Int)(t2:LI):Option (Int×Unit×Unit×Unit×Unit):=T.fn 55 (t0,t1,t2,())
def gF (t0:LI)(t1:Int)(t2:LI)(t7:Int):Option ((kE.den)⊕Empty):=T.pc 55 av 2 (t0,t1,t2,t7,())
def ss (t0:TT7)(t1:LI):Option ((List di.den×kE.den)×TT7×Unit×Unit):=T.fn 24 (t0,t1,())
def fB (t0:TT7)(t1:LI)(t7:Int)(t8:List di.den)(t9:Int)(t10:Int)(t11:di.den)(t12:Int)(t13:Int):Option aD5:=T.pc 24 aq 12 (t0,t1,t7,t8,t9,t10,t11,t12,t13,())
def jh (t0:TT7)(t1:LI)(t7:Int)(t8:List di.den)(t9:Int)(t10:Int)(t11:di.den)(t12:Int)(t13:Int)(t14:Int)(t15:Bool):Option aD5:=T.pc 24 aq 16 (t0,t1,t7,t8,t9,t10,t11,t12,t13,t14,t15,())
def dS (t0:TT7)(t1:LI)(t7:Int)(t8:List di.den)(t9:Int)(t10:Int):Option ((TT7×List di.den×kE.den)⊕(TT7×LI×Int×List di.den×Int×Unit)⊕Empty):=T.pc 24 av 5 (t0,t1,t7,t8,t9,t10,())
def pF (t0:LI):Option ((List di.den×Int×Unit)×Unit×Unit):=T.fn 10 (t0,())
def fC (t0:TT0):Option EH:=T.fn 59 (t0,())
def lj (t0:TT0)(t1:Int):Option (Bool×TT0×Unit×Unit):=T.fn 60 (t0,t1,())
def dN (t0:TT0):Option (di.den×TT0×Unit):=T.fn 124 (t0,())
def eG (t0:Int)(t1:di.den):Option (cZ.den×Unit×TT4×Unit):=T.fn 125 (t0,t1,())
def dJ (t0:TT0)(t1:cZ.den):Option (Int×TT0×TT2×Unit):=T.fn 128 (t0,t1,())
def gP (t0:TT0):Option EH:=T.fn 122 (t0,())
def vq (t0:Int):Option Up:=T.fn 193 (t0,())
def rB (t0:TT0)(t1:cZ.den):Option (Int×TT0×TT2×Unit):=T.fn 130 (t0,t1,())
def jn (t0:TT0)(t3:cZ.den):Option Zi:=T.pc 130 av 2 (t0,t3,())
def oF (t0:TT0):Option EH:=T.fn 194 (t0,())
def j5 (t0:TT0)(t4:cZ.den):Option RM:=T.pc 194 aq 14 (t0,t4,())
def gQ (t0:TT0):Option EH:=T.fn 174 (t0,())
def jE (t0:TT0)(t9:cZ.den):Option Zi:=T.pc 174 av 34 (t0,t9,())
def kR (t0:Int):Option (kE.den×Unit×Unit):=T.fn 141 (t0,())
def gA (t0:TT0)(t1:Int):Option (Int×TT0×Unit×Unit):=T.fn 129 (t0,t1,())
def jq (t0:TT0)(t1:Int)(t5:di.den)(t6:Int):Option ((TT0×Int×Unit)⊕(TT0×Int×Unit)⊕Empty):=T.pc 129 av 3 (t0,t1,t5,t6,())
def jd (t0:TT0):Option (LI×TT0×Unit):=T.fn 127 (t0,())
def mc (t0:TT0)(t4:LI):Option Xl:=T.pc 127 av 3 (t0,t4,())
def ie (t0:TT0):Option EH:=T.fn 133 (t0,())
def iI (t0:TT0)(t3:Int)(t4:di.den):Option RM:=T.pc 133 aq 1014 (t0,t3,t4,())
def eZ (t0:TT0)(t3:Int)(t4:di.den):Option RM:=T.pc 133 av 14 (t0,t3,t4,())
def lp (t0:TT0)(t4:di.den)(t8:cZ.den)(t93:LI)(t94:Int)(t95:Int):Option ((TT0×di.den×cZ.den×Unit)⊕Empty):=T.pc 133 av 33 (t0,t4,t8,t93,t94,t95,())
def ny (t0:TT0):Option EH:=T.fn 123 (t0,())
def ja (t0:TT0)(t3:cZ.den):Option Zi:=T.pc 123 av 9 (t0,t3,())
def kX (t0:TT0)(t3:cZ.den)(t74:LI)(t75:Int)(t76:Int):Option Zi:=T.pc 123 av 15 (t0,t3,t74,t75,t76,())
def kO (t0:TT0):Option (List LI×TT0×Unit):=T.fn 126 (t0,())
def jy (t0:TT0)(t3:di.den)(t4:List LI):Option ((TT0×List LI×Unit)⊕Empty):=T.pc 126 av 3 (t0,t3,t4,())
def mn (t0:TT0)(t1:di.den):Option (Int×TT0×TT4×Unit):=T.fn 131 (t0,t1,())
def oe (t0:TT0)(t1:di.den):Option (Int×TT0×TT4×Unit):=T.fn 132 (t0,t1,())
def eR (t0:TT0):Option EH:=T.fn 61 (t0,())
def kK (t0:TT0)(t3:di.den)(t17:Int):Option RM:=T.pc 61 aq 57 (t0,t3,t17,())
def lQ (t0:TT0)(t1:Int):Option (LI×TT0×Unit×Unit):=T.fn 26 (t0,t1,())
def gM (t0:TT0)(t1:Int)(t5:LI):Option Xl:=T.pc 26 av 2 (t0,t1,t5,())
def vB (t0:LI)(t1:List di.den):Option (TT1×Unit×Unit×Unit):=T.fn 11 (t0,t1,())
def qz (t0:Int):Option TT5:=T.fn 62 (t0,())
abbrev nR:BD×TT2×Unit×Unit:=(((),()),(((),((),((),((),((),((),((),((),((),()))))))))),((),())))
def ft (t0:TT1)(t1:cZ.den)(t2:Int):Option (Int×BD×TT2×Unit×Unit):=T.fn 134 (t0,t1,t2,())
abbrev eN:TT2×Unit×Unit×Unit×Unit×Unit:=(((),((),((),((),((),((),((),((),((),()))))))))),((),((),((),((),())))))
def ed (t0:cZ.den)(t1:Bool)(t2:Bool)(t3:Bool)(t4:Bool):Option (Bool×TT2×Unit×Unit×Unit×Unit×Unit):=T.fn 135 (t0,t1,t2,t3,t4,())
def lF (t0:LI):Option TT5:=T.fn 140 (t0,())
abbrev oC:TT2×Unit×Unit×Unit:=(((),((),((),((),((),((),((),((),((),()))))))))),((),((),())))
def lJ (t0:cZ.den)(t1:Int)(t2:Int):Option (Bool×TT2×Unit×Unit×Unit):=T.fn 136 (t0,t1,t2,())
def j0 (t22:List LI)(t23:Int)(t24:Int):Option (zP⊕(Unit)⊕Empty):=T.pc 136 av 4 (t22,t23,t24,())
def A9 (t0:Int):Option TT5:=T.fn 175 (t0,())
abbrev gr:BD×TT2×Unit×Unit×Unit:=(((),()),(((),((),((),((),((),((),((),((),((),()))))))))),((),((),()))))
def dY (t0:TT1)(t1:cZ.den)(t2:Int)(t3:Int):Option (Bool×BD×TT2×Unit×Unit×Unit):=T.fn 137 (t0,t1,t2,t3,())
def rM (t3:Int)(t4:TT1)(t5:cZ.den)(t9:Int):Option (zP⊕(Unit)⊕Empty):=T.pc 137 av 2 (t3,t4,t5,t9,())
def yc (t0:Int):Option TT5:=T.fn 138 (t0,())
abbrev du:BD×TT2×Unit:=(((),()),(((),((),((),((),((),((),((),((),((),()))))))))),()))
def qL (t0:TT1)(t1:cZ.den):Option (Bool×BD×TT2×Unit):=T.fn 63 (t0,t1,())
def lO (t2:TT1)(t3:cZ.den)(t5:Int)(t12:Int)(t113:Bool):Option Xg:=T.pc 63 aq 28 (t2,t3,t5,t12,t113,())
def kh (t2:TT1)(t3:cZ.den)(t5:Int)(t12:Int)(t240:Bool):Option Xg:=T.pc 63 aq 41 (t2,t3,t5,t12,t240,())
def iX (t2:TT1)(t3:cZ.den)(t5:Int):Option (zP⊕Empty):=T.pc 63 aq 46 (t2,t3,t5,())
def gX (t2:TT1)(t3:cZ.den)(t17:Int)(t18:Int):Option (zP⊕(cZ.den×Unit)⊕Empty):=T.pc 63 av 5 (t2,t3,t17,t18,())
def gK (t2:TT1)(t3:cZ.den)(t5:Int)(t7:Int):Option Xg:=T.pc 63 av 21 (t2,t3,t5,t7,())
def sO (t0:LI):Option TT5:=T.fn 139 (t0,())
def pX (t0:TT1)(t1:cZ.den):Option (Bool×BD×TT2×Unit):=T.fn 64 (t0,t1,())
def iY (t2:TT1)(t3:cZ.den)(t5:Int)(t12:Int)(t13:Bool):Option Xg:=T.pc 64 aq 7 (t2,t3,t5,t12,t13,())
def jM (t2:TT1)(t3:cZ.den)(t5:Int)(t12:Int)(t72:Bool):Option Xg:=T.pc 64 aq 18 (t2,t3,t5,t12,t72,())
def gw (t2:TT1)(t3:cZ.den)(t5:Int):Option (zP⊕Empty):=T.pc 64 aq 46 (t2,t3,t5,())
def gu (t2:TT1)(t3:cZ.den)(t199:Int)(t200:Int):Option (zP⊕(cZ.den×Unit)⊕Empty):=T.pc 64 av 31 (t2,t3,t199,t200,())
abbrev dB:BD×Unit×Unit:=(((),()),((),()))
def lH (t0:TT1)(t1:Int):Option (Bool×BD×Unit×Unit):=T.fn 27 (t0,t1,())
def iC (t1:Int)(t2:TT1)(t5:cZ.den)(t35:LI)(t36:Int)(t37:Int):Option (zP⊕(TT1×cZ.den×Unit)⊕Empty):=T.pc 27 av 5 (t1,t2,t5,t35,t36,t37,())
abbrev dO:BD×Unit:=(((),()),())
def qR (t0:TT1):Option (LI×BD×Unit):=T.fn 28 (t0,())
def jg (t3:LI)(t15:List cZ.den)(t16:Int)(t17:Int):Option (J8⊕Empty):=T.pc 28 av 3 (t3,t15,t16,t17,())
def nA (t3:LI)(t4:Int)(t5:cZ.den)(t6:Int)(t7:Bool)(t8:Int)(t15:List cZ.den)(t16:Int)(t17:Int):Option ((LI×Int×Int×Bool×List cZ.den×kE.den)⊕Empty):=T.pc 28 av 8 (t3,t4,t5,t6,t7,t8,t15,t16,t17,())
def qA (t0:TT1):Option (kE.den×BD×Unit):=T.fn 12 (t0,())
def jR (t1:TT1)(t2:kE.den)(t38:Int)(t39:Int):Option (NG⊕(TT1×kE.den×Unit)⊕Empty):=T.pc 12 av 4 (t1,t2,t38,t39,())
def ir (t1:TT1)(t2:kE.den)(t4:LI)(t51:LI)(t52:Int)(t53:Int):Option (NG⊕(TT1×kE.den×LI×Unit)⊕Empty):=T.pc 12 av 11 (t1,t2,t4,t51,t52,t53,())
def pj (t1:TT1)(t2:kE.den)(t7:LI)(t8:Int):Option ((kE.den×LI×Unit)⊕Empty):=T.pc 12 av 20 (t1,t2,t7,t8,())
def pb (t1:TT1)(t2:kE.den)(t7:LI)(t8:Int)(t93:LI)(t94:Int)(t95:Int):Option ((TT1×kE.den×LI×Int×Unit)⊕Empty):=T.pc 12 av 23 (t1,t2,t7,t8,t93,t94,t95,())
def jZ (t2:kE.den)(t108:LI)(t109:Int)(t110:Int):Option (NG⊕NG⊕Empty):=T.pc 12 av 28 (t2,t108,t109,t110,())
def qB (t0:LI):Option ((Int×Int×TT1×Unit)×Unit×Unit):=T.fn 6 (t0,())
def dj (t0:TT3)(t1:LI):Option RP:=T.fn 14 (t0,t1,())
def tO (t0:TT3):Option (Unit×TT3×Unit):=T.fn 65 (t0,())
def oB (t0:TT3)(t2:Int):Option PR:=T.pc 65 av 2 (t0,t2,())
def gq (t0:TT3)(t1:Int):Option RP:=T.fn 29 (t0,t1,())
def nL (t0:TT3)(t30:LI)(t31:Int)(t32:Int):Option PR:=T.pc 29 av 6 (t0,t30,t31,t32,())
def oE (t0:TT3)(t1:List LI):Option RP:=T.fn 30 (t0,t1,())
def jF (t0:TT3)(t6:List LI)(t7:Int)(t8:Int):Option PR:=T.pc 30 av 1 (t0,t6,t7,t8,())
abbrev jc:TT2×Unit:=(((),((),((),((),((),((),((),((),((),()))))))))),())
def zu (t0:cZ.den):Option (Int×TT2×Unit):=T.fn 66 (t0,())
def sP (t0:cZ.den):Option (Int×TT2×Unit):=T.fn 142 (t0,())
def qu (t0:TT3)(t1:cZ.den)(t2:LI)(t3:Int):Option (Unit×TT3×TT2×Unit×Unit×Unit):=T.fn 67 (t0,t1,t2,t3,())
def wU (t0:TT3)(t1:cZ.den):Option (Unit×TT3×TT2×Unit):=T.fn 69 (t0,t1,())
def im (t0:TT3)(t3:cZ.den):Option PR:=T.pc 69 aq 12 (t0,t3,())
def Bf (t0:Int):Option TT5:=T.fn 144 (t0,())
def rC (t0:TT3)(t1:Int):Option RP:=T.fn 70 (t0,t1,())
def wX (t0:TT3)(t1:cZ.den):Option (Unit×TT3×TT2×Unit):=T.fn 71 (t0,t1,())
def nO (t0:TT3)(t5:Int)(t10:LI)(t11:Int)(t12:Int):Option ((TT3×LI×kE.den)⊕Empty):=T.pc 71 aq 7 (t0,t5,t10,t11,t12,())
def jz (t0:TT3)(t10:LI)(t11:Int)(t12:Int):Option PR:=T.pc 71 av 3 (t0,t10,t11,t12,())
def tQ (t0:TT3)(t1:Int):Option RP:=T.fn 33 (t0,t1,())
def qq (t0:Int):Option NJ:=T.fn 176 (t0,())
def mW (t4:LI)(t6:LI):Option (J8⊕Empty):=T.pc 176 aq 14 (t4,t6,())
def jC (t0:Int)(t3:Bool)(t4:LI):Option ((Bool×LI×Unit)⊕Empty):=T.pc 176 av 5 (t0,t3,t4,())
def lD (t4:LI)(t6:LI)(t7:Int):Option (J8⊕Empty):=T.pc 176 av 15 (t4,t6,t7,())
def w8 (t0:Int):Option NJ:=T.fn 145 (t0,())
def oa (t0:Int)(t3:LI)(t4:LI)(t5:Int):Option (J8⊕Empty):=T.pc 145 av 6 (t0,t3,t4,t5,())
def qQ (t0:LI):Option NJ:=T.fn 146 (t0,())
def gG (t0:LI)(t3:LI)(t4:LI)(t5:Int):Option (J8⊕Empty):=T.pc 146 av 4 (t0,t3,t4,t5,())
def w6 (t0:TT3)(t1:cZ.den):Option (Unit×TT3×TT2×Unit):=T.fn 72 (t0,t1,())
def dW (t0:TT3)(t1:Int)(t2:Int):Option (Unit×TT3×Unit×Unit×Unit):=T.fn 32 (t0,t1,t2,())
def jP (t0:TT3)(t1:LI):Option RP:=T.fn 31 (t0,t1,())
def jD (t0:TT3)(t6:LI)(t7:Int)(t8:Int):Option PR:=T.pc 31 av 1 (t0,t6,t7,t8,())
def rL (t0:TT3)(t1:cZ.den)(t2:LI):Option (Unit×TT3×TT2×Unit×Unit):=T.fn 34 (t0,t1,t2,())
def tP (t0:TT3)(t1:Int):Option RP:=T.fn 13 (t0,t1,())
def pV (t0:TT3)(t4:cZ.den)(t15:Int)(t119:Bool):Option PR:=T.pc 13 aq 31 (t0,t4,t15,t119,())
def Dq (t0:TT1):Option (LI×BD×Unit):=T.fn 7 (t0,())
def pJ (t4:TT3)(t23:LI)(t24:Int)(t25:Int):Option PR:=T.pc 7 av 6 (t4,t23,t24,t25,())
def xH (t0:LI):Option NJ:=T.fn 4 (t0,())
def zt:Option J8:=T.fn 35 ()
def oz (t0:LI)(t1:LI):Option Xh:=T.fn 147 (t0,t1,())
def strings_HasPrefix (t0:LI)(t1:LI):Option Xh:=T.fn 73 (t0,t1,())
def mX (t0:LI)(t1:Int):Option Xd:=T.fn 36 (t0,t1,())
def gR (t0:LI)(t1:Int):Option (NB⊕NB⊕Empty):=T.pc 36 av 1 (t0,t1,())
def mP (t0:LI)(t1:Int):Option ((LI×Int×Unit)⊕Empty):=T.pc 36 av 6 (t0,t1,())
def dD (t0:LI):Option (Xe×Unit×Unit):=T.fn 82 (t0,())
def yb (t0:Int):Option TT5:=T.fn 86 (t0,())
def gg:Option (Xe×Unit):=T.fn 83 ()
def jG:Option (Xe×Unit):=T.fn 84 ()
def eM (t0:Int):Option TT5:=T.fn 89 (t0,())
def ij (t0:Int):Option TT5:=T.fn 87 (t0,())
def lh (t0:Int)(t1:Int)(t2:Int):Option (TT9×Unit×Unit×Int×Unit):=T.fn 85 (t0,t1,t2,())
def ni (t0:Int)(t1:Int)(t2:Int):Option (Bool×Unit×Unit×Unit×Unit):=T.fn 152 (t0,t1,t2,())
def qw (t0:Int):Option TT5:=T.fn 88 (t0,())
def oG (t0:Int)(t1:Int):Option (Xe×Unit×Unit×Unit):=T.fn 40 (t0,t1,())
def pC (t3:Int)(t41:Int)(t90:Bool):Option (Xe⊕(Unit)⊕Empty):=T.pc 40 aq 25 (t3,t41,t90,())
def nY (t0:LI)(t1:Int):Option Xh:=T.fn 16 (t0,t1,())
def uw (t0:LI)(t1:Int):Option (zP⊕(Unit)⊕Empty):=T.pc 16 av 1 (t0,t1,())
def tC (t0:LI)(t1:Int):Option (LI×Unit×Unit×Unit):=T.fn 37 (t0,t1,())
def iq (t0:LI)(t1:Int):Option (J8⊕(Unit)⊕Empty):=T.pc 37 av 1 (t0,t1,())
def pE (t0:LI)(t1:Int)(t5:LI)(t8:Int):Option ((LI×Int×Unit)⊕Empty):=T.pc 37 av 13 (t0,t1,t5,t8,())
def oO (t0:Int):Option TT5:=T.fn 74 (t0,())
def mu (t0:Int):Option TT5:=T.fn 75 (t0,())
def B7 (t0:LI):Option Up:=T.fn 76 (t0,())
def mG (t0:LI)(t5:List LI)(t6:Int)(t7:Int):Option (NB⊕(Unit)⊕Empty):=T.pc 76 av 2 (t0,t5,t6,t7,())
def yO (t0:Int):Option TT5:=T.fn 79 (t0,())
def gj (t0:Int):Option Up:=T.fn 179 (t0,())
def zl (t0:LI):Option TT5:=T.fn 180 (t0,())
def ri (t0:LI)(t1:Int)(t2:Int):Option (PQ×Unit×Unit×Unit×Unit):=T.fn 150 (t0,t1,t2,())
def ma (t0:LI)(t1:Int)(t2:Int)(t8:Bool)(t9:LI):Option (PQ⊕Empty):=T.pc 150 aq 21 (t0,t1,t2,t8,t9,())
def l7 (t0:LI)(t1:Int)(t2:Int)(t8:Bool)(t9:LI):Option (PQ⊕Empty):=T.pc 150 aq 25 (t0,t1,t2,t8,t9,())
def j9 (t0:LI)(t1:Int)(t2:Int)(t8:Bool)(t9:LI)(t10:Int):Option (PQ⊕Empty):=T.pc 150 aq 32 (t0,t1,t2,t8,t9,t10,())
def gy (t1:Int)(t8:Bool)(t9:LI)(t10:Int)(t11:Int)(t12:Bool)(t13:Int)(t16:Int)(t99:LI)(t100:Int)(t101:Int):Option (PQ⊕(Int×Bool×LI×Int×Int×Bool×Int×LI×kE.den)⊕Empty):=T.pc 150 aq 46 (t1,t8,t9,t10,t11,t12,t13,t16,t99,t100,t101,())
def ew (t1:Int)(t8:Bool)(t9:LI)(t10:Int)(t11:Int)(t12:Bool)(t13:Int)(t99:LI)(t100:Int)(t101:Int):Option (PQ⊕(LI×Bool×Int×Unit)⊕Empty):=T.pc 150 av 36 (t1,t8,t9,t10,t11,t12,t13,t99,t100,t101,())
def mh (t0:LI)(t1:Int)(t2:Int):Option (PQ×Unit×Unit×Unit×Unit):=T.fn 80 (t0,t1,t2,())
def sh (t0:LI)(t1:Int):Option (PV×Unit×Unit×Unit):=T.fn 77 (t0,t1,())
def jl (t0:LI)(t1:Int)(t4:di.den)(t6:Int):Option (PV⊕Empty):=T.pc 77 aq 17 (t0,t1,t4,t6,())
def jX (t0:LI)(t1:Int)(t4:di.den)(t6:Int)(t9:Int):Option (PV⊕Empty):=T.pc 77 aq 22 (t0,t1,t4,t6,t9,())
def mo (t0:LI)(t1:Int)(t4:di.den)(t6:Int)(t9:Int):Option (PV⊕am7⊕Empty):=T.pc 77 aq 26 (t0,t1,t4,t6,t9,())
def jV (t0:LI)(t1:Int)(t4:di.den)(t6:Int)(t9:Int):Option (PV⊕Empty):=T.pc 77 aq 31 (t0,t1,t4,t6,t9,())
def lR (t0:LI)(t1:Int)(t4:di.den)(t6:Int):Option al1:=T.pc 77 av 5 (t0,t1,t4,t6,())
def ji (t0:LI)(t1:Int)(t4:di.den)(t6:Int):Option al1:=T.pc 77 av 15 (t0,t1,t4,t6,())
def ld (t0:LI)(t1:Int)(t4:di.den)(t6:Int)(t9:Int):Option (am7⊕Empty):=T.pc 77 av 20 (t0,t1,t4,t6,t9,())
def kZ (t0:LI)(t1:Int)(t4:di.den)(t6:Int)(t9:Int):Option (am7⊕Empty):=T.pc 77 av 29 (t0,t1,t4,t6,t9,())
def l9 (t0:LI)(t1:Int):Option Xd:=T.fn 149 (t0,t1,())
def kM (t0:LI)(t1:Int):Option Xd:=T.fn 78 (t0,t1,())
def qE (t0:Int):Option NJ:=T.fn 81 (t0,())
def lT (t0:LI)(t1:Int):Option (PV×Unit×Unit×Unit):=T.fn 38 (t0,t1,())
def nT (t0:LI)(t1:Int)(t4:di.den)(t7:Int):Option al1:=T.pc 38 av 5 (t0,t1,t4,t7,())
def fK (t0:LI)(t4:di.den)(t8:LI)(t9:Int):Option (PV⊕Empty):=T.pc 38 av 18 (t0,t4,t8,t9,())
def qP (t0:LI)(t4:di.den)(t8:LI)(t9:Int)(t11:Int):Option (PV⊕(LI×di.den×LI×Int×Unit)⊕Empty):=T.pc 38 av 39 (t0,t4,t8,t9,t11,())
def mI (t0:LI)(t1:Int)(t4:di.den)(t14:Int)(t15:Int):Option ((Int×di.den×Unit)⊕Empty):=T.pc 38 av 49 (t0,t1,t4,t14,t15,())
def oY (t0:LI)(t1:LI)(t2:Int):Option (Int×Unit×Unit×Unit×Unit):=T.fn 39 (t0,t1,t2,())
def nB (t0:LI)(t1:LI)(t2:Int)(t7:Int):Option (NB⊕Empty):=T.pc 39 aq 4 (t0,t1,t2,t7,())
def mr (t0:LI)(t1:LI)(t2:Int)(t7:Int)(t8:Int):Option ((LI×LI×kE.den)⊕Empty):=T.pc 39 av 5 (t0,t1,t2,t7,t8,())
def ku (t0:LI)(t1:LI)(t2:Int)(t7:Int)(t8:Int)(t9:LI)(t10:Int):Option ((LI×LI×Int×Int×kE.den)⊕Empty):=T.pc 39 av 10 (t0,t1,t2,t7,t8,t9,t10,())
def jt (t1:LI)(t2:Int)(t7:Int)(t11:Int):Option ((kE.den)⊕Empty):=T.pc 39 av 15 (t1,t2,t7,t11,())
def vO (t0:LI):Option ((List di.den×LI×Int×Unit)×Unit×Unit):=T.fn 15 (t0,())
def eK (t0:LI)(t2:List di.den)(t3:LI)(t5:Int)(t6:Int):Option ((List di.den×LI×Int×Unit)⊕(List di.den×LI×Unit)⊕Empty):=T.pc 15 av 4 (t0,t2,t3,t5,t6,())
def fh (t0:TT0):Option EH:=T.fn 42 (t0,())
def fo (t0:TT0)(t1:Int):Option (Bool×TT0×Unit×Unit):=T.fn 41 (t0,t1,())
def dy (t0:TT0):Option (di.den×TT0×Unit):=T.fn 90 (t0,())
def me (t0:TT0):Option (List LI×TT0×Unit):=T.fn 91 (t0,())
def ko (t0:TT0)(t3:List LI):Option ((TT0×List LI×Unit)⊕Empty):=T.pc 91 av 2 (t0,t3,())
def lf (t0:TT0)(t1:cZ.den):Option (Int×TT0×TT2×Unit):=T.fn 18 (t0,t1,())
def dt (t0:TT0)(t1:Int)(t2:cZ.den):Option (Int×TT0×Unit×TT2×Unit):=T.fn 93 (t0,t1,t2,())
def gp (t0:cZ.den)(t1:TT0)(t2:Int):Option (Int×TT2×TT0×Int×Unit):=T.fn 185 (t0,t1,t2,())
def fv (t0:TT0):Option EH:=T.fn 97 (t0,())
def oA (t0:TT0)(t1:Int):Option (Int×TT0×Unit×Unit):=T.fn 95 (t0,t1,())
def gW (t0:TT0)(t1:Int)(t5:cZ.den):Option ((TT0×Int×cZ.den×Unit)⊕Empty):=T.pc 95 av 3 (t0,t1,t5,())
def sJ (t0:TT0):Option EH:=T.fn 186 (t0,())
def fk (t0:TT0)(t3:Int)(t4:cZ.den):Option ((TT0×Int×cZ.den×Unit)⊕Empty):=T.pc 186 av 4 (t0,t3,t4,())
def jr (t0:TT0):Option EH:=T.fn 98 (t0,())
def gJ (t0:TT0)(t3:Int)(t4:Int):Option RM:=T.pc 98 aq 1011 (t0,t3,t4,())
def fm (t0:TT0)(t3:Int)(t4:Int):Option RM:=T.pc 98 av 11 (t0,t3,t4,())
def fz (t0:TT0):Option EH:=T.fn 153 (t0,())
def oZ (t0:Int):Option Up:=T.fn 154 (t0,())
def eQ (t0:TT0)(t1:Int):Option (Int×TT0×Unit×Unit):=T.fn 94 (t0,t1,())
def nK (t0:TT0)(t1:Int)(t5:Int)(t6:Int)(t7:Int)(t9:Int):Option ((TT0×Int×kE.den)⊕Empty):=T.pc 94 aq 11 (t0,t1,t5,t6,t7,t9,())
def iF (t0:TT0)(t1:Int)(t5:Int)(t6:Int):Option RM:=T.pc 94 av 3 (t0,t1,t5,t6,())
def gN (t0:TT0):Option (LI×TT0×Unit):=T.fn 92 (t0,())
def kg (t0:TT0)(t3:LI):Option Xl:=T.pc 92 av 2 (t0,t3,())
def j3 (t0:TT0):Option EH:=T.fn 96 (t0,())
def dZ (t0:TT0):Option EH:=T.fn 43 (t0,())
def iZ (t0:TT0)(t3:Int)(t14:LI):Option ((TT0×Int×LI×Unit)⊕Empty):=T.pc 43 av 65 (t0,t3,t14,())
def jB (t0:TT0):Option (LI×TT0×Unit):=T.fn 17 (t0,())
def kf (t0:TT0)(t3:LI):Option Xl:=T.pc 17 av 2 (t0,t3,())
def hY (t0:TT0)(t3:LI):Option Xl:=T.pc 17 av 1002 (t0,t3,())
def BZ (t0:LI)(t1:Int):Option Xh:=T.fn 187 (t0,t1,())
def kH (t0:LI):Option TT5:=T.fn 155 (t0,())
def xJ (t0:Int):Option TT5:=T.fn 160 (t0,())
def dV (t0:Bool)(t1:Bool)(t2:Bool)(t3:Bool)(t4:Int)(t5:Int)(t6:Int)(t7:LI):Option (Bool×Unit×Unit×Unit×Unit×Int×Int×Int×LI×Unit):=T.fn 158 (t0,t1,t2,t3,t4,t5,t6,t7,())
def uz (t0:Int):Option TT5:=T.fn 157 (t0,())
def dU (t0:Int)(t1:Int)(t2:LI):Option (Bool×Unit×Unit×LI×Unit):=T.fn 156 (t0,t1,t2,())
def kv (t2:LI)(t11:LI)(t12:Int)(t13:Int):Option (TT9⊕J8⊕Empty):=T.pc 156 av 2 (t2,t11,t12,t13,())
def qv (t0:LI):Option TT5:=T.fn 161 (t0,())
def pH (t0:Int)(t1:LI):Option (Bool×Int×LI×Unit):=T.fn 159 (t0,t1,())
def nU (t0:TT1)(t1:Int):Option (Bool×BD×Unit×Unit):=T.fn 99 (t0,t1,())
def pd (t6:LI)(t11:Int)(t12:Int)(t13:Int)(t14:LI)(t16:Int)(t105:Int)(t205:Bool):Option (zP⊕(Unit)⊕Empty):=T.pc 99 aq 50 (t6,t11,t12,t13,t14,t16,t105,t205,())
def jj (t6:LI)(t11:Int)(t12:Int)(t13:Int)(t14:LI)(t16:Int)(t105:Int)(Zw:Bool):Option (zP⊕(Unit)⊕Empty):=T.pc 99 aq 65 (t6,t11,t12,t13,t14,t16,t105,Zw,())
def nx (t6:LI)(t11:Int)(t12:Int)(t13:Int)(t14:LI)(t16:Int)(t105:Int)(ZE:Bool):Option (zP⊕(Unit)⊕Empty):=T.pc 99 aq 72 (t6,t11,t12,t13,t14,t16,t105,ZE,())
def mq (t6:LI)(t11:Int)(t12:Int)(t13:Int)(t14:LI)(t16:Int)(t105:Int)(ZO:Bool):Option (zP⊕(Unit)⊕Empty):=T.pc 99 aq 84 (t6,t11,t12,t13,t14,t16,t105,ZO,())
def oD (t1:Int)(t2:TT1)(t5:cZ.den)(t6:LI)(t58:LI)(t59:Int)(t60:Int):Option (zP⊕(cZ.den×LI×Unit)⊕Empty):=T.pc 99 av 6 (t1,t2,t5,t6,t58,t59,t60,())
def gZ (t5:cZ.den)(t6:LI)(t80:List LI)(t81:Int)(t82:Int):Option (zP⊕(cZ.den×LI×Unit)⊕Empty):=T.pc 99 av 13 (t5,t6,t80,t81,t82,())
def jU (t11:Int)(t12:Int)(t13:Int)(t14:LI)(t108:LI)(t109:Int)(t110:Int):Option (zP⊕(Int×Int×Int×LI×Unit)⊕Empty):=T.pc 99 av 26 (t11,t12,t13,t14,t108,t109,t110,())
def gk (t6:LI)(t13:Int)(t16:Int)(t184:LI)(t185:Int)(t186:Int):Option (zP⊕(LI×kE.den)⊕Empty):=T.pc 99 av 42 (t6,t13,t16,t184,t185,t186,())
def jW (t11:Int)(t12:Int)(t13:Int)(t14:LI)(UL:LI)(Xx:Int)(Qe:Int):Option (zP⊕(Int×Int×Int×LI×Unit)⊕Empty):=T.pc 99 av 97 (t11,t12,t13,t14,UL,Xx,Qe,())
def sw (t0:TT1):Option (kE.den×BD×Unit):=T.fn 44 (t0,())
def jO (t1:TT1)(t2:kE.den)(t3:Int)(t37:Int)(t38:Int):Option (NG⊕(TT1×kE.den×Int×Unit)⊕Empty):=T.pc 44 av 5 (t1,t2,t3,t37,t38,())
def hD (t1:TT1)(t2:kE.den)(t3:Int)(t5:LI)(t51:List cZ.den)(t52:Int)(t53:Int):Option (NG⊕(TT1×kE.den×Int×Unit)⊕Empty):=T.pc 44 av 12 (t1,t2,t3,t5,t51,t52,t53,())
def nC (t1:TT1)(t2:kE.den)(t3:Int)(t5:LI)(t6:Int)(t7:cZ.den)(t8:Int)(t9:Int)(t51:List cZ.den)(t52:Int)(t53:Int):Option (NG⊕(TT1×kE.den×Int×LI×Int×Int×List cZ.den×kE.den)⊕Empty):=T.pc 44 av 16 (t1,t2,t3,t5,t6,t7,t8,t9,t51,t52,t53,())
def pa (t1:TT1)(t2:kE.den)(t10:LI)(t11:Int):Option ((kE.den×LI×Unit)⊕Empty):=T.pc 44 av 27 (t1,t2,t10,t11,())
def ph (t1:TT1)(t2:kE.den)(t10:LI)(t11:Int)(t113:LI)(t114:Int)(t115:Int):Option ((TT1×kE.den×LI×Int×Unit)⊕Empty):=T.pc 44 av 30 (t1,t2,t10,t11,t113,t114,t115,())
def jT (t2:kE.den)(t10:LI)(t129:Int)(t130:Int):Option (NG⊕NG⊕Empty):=T.pc 44 av 35 (t2,t10,t129,t130,())
def zA (t0:TT1):Option (Bool×BD×Unit):=T.fn 19 (t0,())
def qC (t0:LI):Option ((Int×Int×TT1×Unit)×Unit×Unit):=T.fn 8 (t0,())
def dh (t0:TT6)(t1:LI):Option (Unit×TT6×Unit×Unit):=T.fn 21 (t0,t1,())
def fy (t0:TT6)(t1:Int)(t2:Int):Option Un:=T.fn 46 (t0,t1,t2,())
def jK (t0:TT6)(t2:Int)(t25:LI)(t26:Int)(t27:Int):Option ((TT6×Int×Unit)⊕Empty):=T.pc 46 av 5 (t0,t2,t25,t26,t27,())
def nE (t0:Int)(t1:Int):Option (LI×Unit×Unit×Unit):=T.fn 192 (t0,t1,())
def oV (t0:Int)(t1:Int):Option (LI×Unit×Unit×Unit):=T.fn 165 (t0,t1,())
def xa (t0:LI):Option NJ:=T.fn 103 (t0,())
def lG (t0:LI)(t3:LI)(t4:Int):Option (J8⊕Empty):=T.pc 103 av 6 (t0,t3,t4,())
abbrev ia:TT4×Unit:=(((),((),((),((),((),((),())))))),())
def sN (t0:di.den):Option (LI×TT4×Unit):=T.fn 102 (t0,())
def lz (t0:TT6)(t1:Int):Option (Int×TT6×Unit×Unit):=T.fn 104 (t0,t1,())
def dM (t0:TT6)(t1:Int)(t2:Int)(t3:Bool):Option (Unit×TT6×Unit×Unit×Unit×Unit):=T.fn 105 (t0,t1,t2,t3,())
def mV (t0:TT6)(t1:Int)(t2:Int):Option Un:=T.fn 106 (t0,t1,t2,())
def eP (t0:TT6)(t1:Int)(t2:Int)(t19:Bool):Option RL:=T.pc 106 aq 7 (t0,t1,t2,t19,())
def pg (t0:TT6)(t1:Int)(t2:Int):Option Un:=T.fn 49 (t0,t1,t2,())
def ey (t0:TT6)(t1:Int)(t2:Int):Option Un:=T.fn 48 (t0,t1,t2,())
def jI (t0:TT6)(t1:Int)(t2:Int)(t6:cZ.den)(t7:LI)(t25:Int)(t50:Bool):Option RL:=T.pc 48 aq 15 (t0,t1,t2,t6,t7,t25,t50,())
def jL (t0:TT6)(t1:Int)(t2:Int)(t6:cZ.den)(t7:LI)(t25:Int)(t64:Bool):Option RL:=T.pc 48 aq 21 (t0,t1,t2,t6,t7,t25,t64,())
def jJ (t0:TT6)(t2:Int)(t7:LI)(t8:Int)(t9:Bool)(t10:LI):Option RL:=T.pc 48 aq 26 (t0,t2,t7,t8,t9,t10,())
def eY (t0:TT6)(t2:Int)(t7:LI):Option RL:=T.pc 48 aq 43 (t0,t2,t7,())
def iN (t0:TT6)(t1:LI)(t2:Int):Option Un:=T.fn 47 (t0,t1,t2,())
def il (t0:TT6)(t2:Int)(t8:LI)(t9:Int)(t10:Int):Option RL:=T.pc 47 av 1 (t0,t2,t8,t9,t10,())
def ow (t0:TT6)(t1:cZ.den)(t2:Int):Option (Unit×TT6×TT2×Unit×Unit):=T.fn 50 (t0,t1,t2,())
def mg (t0:TT6)(t1:Int)(t2:Int):Option Un:=T.fn 20 (t0,t1,t2,())
def Dk (t0:TT1):Option (LI×BD×Unit):=T.fn 9 (t0,())
def pG (t3:TT6)(t20:LI)(t21:Int)(t22:Int):Option RL:=T.pc 9 av 5 (t3,t20,t21,t22,())
def xI (t0:LI):Option NJ:=T.fn 5 (t0,())
def oW (t0:LI):Option TT5:=T.fn 3 (t0,())
theorem Fo (t0 t1 t2):pD (S.step T) t0 t1 t2=brk (fits (t0.1.length+([(t2,t1,())]:List kE.den).length)) (U (ar.wrap (((t0.1++([(t2,t1,())]:List kE.den)).length) - 1),(t0.1++([(t2,t1,())]:List kE.den),()),(),(),())) none:=eF Tryz.func58
def DL (t0):wT (S.step T) t0=(pD T t0 (-1) 6).bind λd5=>(pD T d5.2.1 d5.1 100).bind λd8=>U (d8.1,d8.2.1,()):=eF Tryz.func52
def H9 (t0 t1):fP (S.step T) t0 t1=brk (t1<t0.length) (brk (0<=t1&&t1<t0.length) (U (t0.getD t1.toNat 0,cW)) az) (U (0,cW)):=eF Tryz.func108
def Ff (t0 t1):mQ (S.step T) t0 t1=(fA T t0 t1).bind (ep (λy1=>U (y1.1,cW)) λy1=>U (y1.1,cW)):=eF Tryz.func53
theorem iG (t0 t1):fA (S.step T) t0 t1=brk (t1<t0.length) (brk (0<=t1&&t1<t0.length) (brk (t0.getD t1.toNat 0=32) (fA T t0 (ar.wrap (t1+1))) (brk (t0.getD t1.toNat 0=9) (fA T t0 (ar.wrap (t1+1))) (brk (t0.getD t1.toNat 0=13) (fA T t0 (ar.wrap (t1+1))) (brk (!(t0.getD t1.toNat 0=45)) (U (an (t1,()))) ((fP T t0 (ar.wrap (t1+1))).bind λd31=>brk (!(d31.1=45)) (U (an (t1,()))) ((kx T t0 t1).bind (dH λy7=>fA T y7.1 y7.2.1))))))) az) (U (aE (an (t1,())))):=eL Tryz.func53
def vc (t0 t1):kx (S.step T) t0 t1=brk (t1<t0.length) (brk (0<=t1&&t1<t0.length) (brk (!(t0.getD t1.toNat 0=10)) (kx T t0 (ar.wrap (t1+1))) (U (an (t0,t1,())))) az) (U (an (t0,t1,()))):=eL Tryz.func53
theorem E5 (t0):mR (S.step T) t0=brk (97<=t0) (brk (t0<=122) (U (av,cV)) (brk (65<=t0) (brk (t0<=90) (U (av,cV)) (U (I (t0=95),cV))) (U (I (t0=95),cV)))) (brk (65<=t0) (brk (t0<=90) (U (av,cV)) (U (I (t0=95),cV))) (U (I (t0=95),cV))):=eF Tryz.func109
theorem GH (t0):gx (S.step T) t0=brk (48<=t0) (U (I (t0<=57),cV)) (U (aq,cV)):=eF Tryz.func111
def GK:vA (S.step T)=U (([[97,110,100],[98,114,101,97,107],[99,97,116,99,104],[99,111,110,115,116],[100,101,102,101,114],[101,108,105,102],[101,108,115,101],[102,97,108,115,101],[102,110],[102,111,114],[105,102],[105,110],[108,101,116],[110,101,120,116],[110,105,108],[110,111,116],[111,114],[114,101,116,117,114,110],[116,104,114,111,119],[116,114,117,101],[116,114,121],[119,104,105,108,101]]:List LI),lP):=eF Tryz.func143
def Iu (t0 t1):xE (S.step T) t0 t1=(kP T t0 t1 (0,0,0,0,0,[],()) t1.2.1).bind (dH λy2=>brk (bounds y2.1.length y2.2.1.2.1 y2.2.2.2.1) ((vA T).bind λd32=>(kQ T (1,y2.2.1.2.1,y2.2.2.2.1,y2.2.1.2.2.2) y2.2.2.1 (sub y2.1 y2.2.1.2.1 y2.2.2.2.1) d32.1 d32.1.length 0).bind (ep (λy8=>U (y8,fD)) λy8=>U (((y8.1.1,y8.1.2.1,y8.1.2.2.1,y8.1.2.2.2.1,y8.1.2.2.2.2.1,y8.2.2),(-1),()),fD))) az):=eF Tryz.func110
def xx (t0 t3 t4 t6):kP (S.step T) t0 t3 t4 t6=(fP T t0 t6).bind λd14=>(mR T d14.1).bind λd15=>brk (d15.1) (kP T t0 t3 t4 (ar.wrap (t6+1))) ((fP T t0 t6).bind λd19=>(gx T d19.1).bind λd20=>brk (d20.1) (kP T t0 t3 t4 (ar.wrap (t6+1))) (U (an (t0,t3,t4,t6,())))):=eL Tryz.func110
def xB (t3 t4 t7 t32 t33 t34):kQ (S.step T) t3 t4 t7 t32 t33 t34=brk (t34<t33) (brk (0<=t34&&t34<t32.length) (brk (t32.getD t34.toNat []=t7) (U (an ((ar.wrap (10+t34),t3.2),(-1),()))) (kQ T t3 t4 t7 t32 t33 (ar.wrap (t34+1)))) az) (U (aE (an (t3,t4,t7,())))):=eL Tryz.func110
def Ky (t0):rW (S.step T) t0=(gx T t0).bind λd4=>brk (d4.1) (U (ar.wrap (aO.wrap (t0 - 48)),cV)) (brk (97<=t0) (brk (t0<=102) (U (ar.wrap (ar.wrap (aO.wrap (t0 - 97))+10),cV)) (U ((-1),cV))) (U ((-1),cV))):=eF Tryz.func169
def GO (t0 t1):vv (S.step T) t0 t1=(pf T t0 t1 (0,0,0,0,0,[],()) (ar.wrap (t1.2.1+2)) 0).bind (ep (λy3=>U (y3,fD)) λy3=>brk (y3.2.2.1=ar.wrap (y3.1.2.1+2)) (U ((y3.1,y3.2.2.1,()),fD)) (U (((y3.1.1,y3.1.2.1,y3.2.2.1,y3.1.2.2.2.1,ar.wrap y3.2.2.2.1,y3.1.2.2.2.2.2),(-1),()),fD))):=eF Tryz.func168
def oS (t0 t3 t4 t6 t7):pf (S.step T) t0 t3 t4 t6 t7=(fP T t0 t6).bind λd13=>(rW T d13.1).bind λd14=>brk (0<=d14.1) (brk (ar.wrap (t6 - t3.2.1)=18) (U (an (t3,t6,()))) (brk (0<=t6&&t6<t0.length) ((rW T (t0.getD t6.toNat 0)).bind λd28=>pf T t0 t3 t4 (ar.wrap (t6+1)) (aJ.wrap (aJ.wrap (t7*16)+aJ.wrap d28.1))) az)) (U (aE (an (t3,t4,t6,t7,())))):=eL Tryz.func168
def tn (t0 t1):yh (S.step T) t0 t1=brk (0<=t1.2.1&&t1.2.1<(t0.length:Int)) (brk (t0.getD t1.2.1.toNat 0=48) ((fP T t0 (ar.wrap (t1.2.1+1))).bind λd20=>brk (d20.1=120) ((vv T t0 (2,t1.2)).bind λd25=>U (d25.1,fD)) (brk (0<=t1.2.1&&t1.2.1<(t0.length:Int)) (brk (!(t0.getD t1.2.1.toNat 0=48)) ((js T t0 (2,t1.2) (0,0,0,0,0,[],()) (ar.wrap (t1.2.1+1))).bind (dH λy7=>(jo T y7.1 y7.2.1 y7.2.2.1 y7.2.2.2.1).bind (dH λy9=>U (y9,fD)))) ((jo T t0 (2,t1.2) (0,0,0,0,0,[],()) (ar.wrap (t1.2.1+1))).bind (dH λy9=>U (y9,fD)))) az)) (brk (0<=t1.2.1&&t1.2.1<(t0.length:Int)) (brk (!(t0.getD t1.2.1.toNat 0=48)) ((js T t0 (2,t1.2) (0,0,0,0,0,[],()) (ar.wrap (t1.2.1+1))).bind (dH λy7=>(jo T y7.1 y7.2.1 y7.2.2.1 y7.2.2.2.1).bind (dH λy9=>U (y9,fD)))) ((jo T t0 (2,t1.2) (0,0,0,0,0,[],()) (ar.wrap (t1.2.1+1))).bind (dH λy9=>U (y9,fD)))) az)) none:=eF bq0
def q9 (t0 t3 t4 t6):jo (S.step T) t0 t3 t4 t6=(fP T t0 t6).bind λd43=>brk (d43.1=46) ((fP T t0 (ar.wrap (t6+1))).bind λd49=>(gx T d49.1).bind λd50=>brk (d50.1) ((jA T t0 (3,t3.2) t4 (ar.wrap (t6+1))).bind (dH λpB=>(gO T pB.1 pB.2.1 pB.2.2.1 pB.2.2.2.1).bind (dH λAz=>U (an Az)))) ((gO T t0 t3 t4 t6).bind (dH λAz=>U (an Az)))) ((gO T t0 t3 t4 t6).bind (dH λAz=>U (an Az))):=eJ bq0
def uj (t0 t3 t4 t6):gO (S.step T) t0 t3 t4 t6=(fP T t0 t6).bind λd63=>brk (d63.1=101) ((fP T t0 (ar.wrap (t6+1))).bind λd70=>brk (d70.1=45) ((fP T t0 (ar.wrap (ar.wrap (t6+1)+1))).bind λd82=>(gx T d82.1).bind λd83=>brk (!d83.1) (U (an ((3,t3.2),ar.wrap (ar.wrap (t6+1)+1),()))) ((gL T t0 (3,t3.2) t4 (ar.wrap (ar.wrap (t6+1)+1))).bind (dH λzi=>(iM T zi.1 zi.2.1 zi.2.2.1 zi.2.2.2.1).bind (dH λTu=>U (an Tu))))) ((fP T t0 (ar.wrap (t6+1))).bind λd75=>brk (d75.1=43) ((fP T t0 (ar.wrap (ar.wrap (t6+1)+1))).bind λd82=>(gx T d82.1).bind λd83=>brk (!d83.1) (U (an ((3,t3.2),ar.wrap (ar.wrap (t6+1)+1),()))) ((gL T t0 (3,t3.2) t4 (ar.wrap (ar.wrap (t6+1)+1))).bind (dH λzi=>(iM T zi.1 zi.2.1 zi.2.2.1 zi.2.2.2.1).bind (dH λTu=>U (an Tu))))) ((fP T t0 (ar.wrap (t6+1))).bind λd82=>(gx T d82.1).bind λd83=>brk (!d83.1) (U (an ((3,t3.2),ar.wrap (t6+1),()))) ((gL T t0 (3,t3.2) t4 (ar.wrap (t6+1))).bind (dH λzi=>(iM T zi.1 zi.2.1 zi.2.2.1 zi.2.2.2.1).bind (dH λTu=>U (an Tu))))))) ((iM T t0 t3 t4 t6).bind (dH λTu=>U (an Tu))):=eJ bq0
def uo (t0 t3 t4 t6):iM (S.step T) t0 t3 t4 t6=(fw T t0 (t3.1,t3.2.1,t6,t3.2.2.2) t4 t6 0 t3.2.1).bind (dH λqd=>brk (qd.2.1.1=3) (brk (bounds qd.1.length qd.2.1.2.1 qd.2.2.2.1) (U (an ((qd.2.1.1,qd.2.1.2.1,qd.2.1.2.2.1,qd.2.1.2.2.2.1,qd.2.1.2.2.2.2.1,sub qd.1 qd.2.1.2.1 qd.2.2.2.1,()),(-1),()))) az) (U (an ((qd.2.1.1,qd.2.1.2.1,qd.2.1.2.2.1,qd.2.1.2.2.2.1,ar.wrap qd.2.2.2.2.1,qd.2.1.2.2.2.2.2),(-1),())))):=eJ bq0
def u7 (t0 t3 t4 t6):js (S.step T) t0 t3 t4 t6=(fP T t0 t6).bind λd37=>(gx T d37.1).bind λd38=>brk (d38.1) (js T t0 t3 t4 (ar.wrap (t6+1))) (U (an (t0,t3,t4,t6,()))):=eL bq0
def uk (t0 t3 t4 t6):jA (S.step T) t0 t3 t4 t6=(fP T t0 t6).bind λd57=>(gx T d57.1).bind λd58=>brk (d58.1) (jA T t0 t3 t4 (ar.wrap (t6+1))) (U (an (t0,t3,t4,t6,()))):=eL bq0
def uh (t0 t3 t4 t6):gL (S.step T) t0 t3 t4 t6=(fP T t0 t6).bind λd89=>(gx T d89.1).bind λd90=>brk (d90.1) (gL T t0 t3 t4 (ar.wrap (t6+1))) (U (an (t0,t3,t4,t6,()))):=eL bq0
theorem kj (t0 t3 t4 t6 t7 t8):fw (S.step T) t0 t3 t4 t6 t7 t8=brk (t8<t6) (brk (t3.1=2) (brk (922337203685477580<t7) (brk (0<=t8&&t8<t0.length) (fw T t0 (3,t3.2) t4 t6 (aJ.wrap (aJ.wrap (t7*10)+aJ.wrap (aO.wrap (t0.getD t8.toNat 0 - 48)))) (ar.wrap (t8+1))) az) (brk (t7=922337203685477580) (brk (0<=t8&&t8<t0.length) (brk (55<t0.getD t8.toNat 0) (brk (0<=t8&&t8<t0.length) (fw T t0 (3,t3.2) t4 t6 (aJ.wrap (aJ.wrap (t7*10)+aJ.wrap (aO.wrap (t0.getD t8.toNat 0 - 48)))) (ar.wrap (t8+1))) az) (brk (0<=t8&&t8<t0.length) (fw T t0 t3 t4 t6 (aJ.wrap (aJ.wrap (t7*10)+aJ.wrap (aO.wrap (t0.getD t8.toNat 0 - 48)))) (ar.wrap (t8+1))) az)) az) (brk (0<=t8&&t8<t0.length) (fw T t0 t3 t4 t6 (aJ.wrap (aJ.wrap (t7*10)+aJ.wrap (aO.wrap (t0.getD t8.toNat 0 - 48)))) (ar.wrap (t8+1))) az))) (U (an (t0,t3,t4,t6,t7,())))) (U (an (t0,t3,t4,t6,t7,()))):=eL bq0
def Fi (t0 t1):tL (S.step T) t0 t1=(dX T t0 (4,t1.2) (0,0,0,0,0,[],()) (ar.wrap (t1.2.1+1)) []).bind (ep (λy4=>U (y4,fD)) λy4=>U ((y4.1,y4.2.2),fD)):=eF Tryz.func113
def qi (t0 t3 t4 t6 t7 t46 t59):kJ (S.step T) t0 t3 t4 t6 t7 t46 t59=brk (t59) (brk (0<=t6&&t6<t0.length) (brk (fits (t7.length+[t0.getD t6.toNat 0].length)) (U (an (t0,t3,t4,t6,t7++[t0.getD t6.toNat 0],()))) az) az) (brk (t46=120) ((mf T t0 t3 t4 t6 t7 1).bind (ep (λKt=>U (aE (an Kt))) λKt=>brk (0<=ar.wrap (Kt.2.2.2.1+1)&&ar.wrap (Kt.2.2.2.1+1)<Kt.1.length) ((rW T (Kt.1.getD ((ar.wrap (Kt.2.2.2.1+1)).toNat) 0)).bind λd90=>brk (0<=ar.wrap (Kt.2.2.2.1+2)&&ar.wrap (Kt.2.2.2.1+2)<Kt.1.length) ((rW T (Kt.1.getD ((ar.wrap (Kt.2.2.2.1+2)).toNat) 0)).bind λd96=>brk (fits (Kt.2.2.2.2.1.length+[aO.wrap (ar.wrap (ar.wrap (16*d90.1)+d96.1))].length)) (U (an (Kt.1,Kt.2.1,Kt.2.2.1,ar.wrap (Kt.2.2.2.1+2),Kt.2.2.2.2.1++[aO.wrap (ar.wrap (ar.wrap (16*d90.1)+d96.1))],()))) az) az) az)) (U (aE (an (t3,t6,()))))):=eJ Tryz.func113
def kY (t0 t3 t4 t6 t7):dX (S.step T) t0 t3 t4 t6 t7=brk (t6<t0.length) (brk (0<=t6&&t6<t0.length) (brk (t0.getD t6.toNat 0=34) (U (an ((t3.1,t3.2.1,ar.wrap (t6+1),t3.2.2.2.1,t3.2.2.2.2.1,t7.map byte,()),(-1),()))) (brk (t0.getD t6.toNat 0=10) (U (an (t3,t6,()))) (brk (!(t0.getD t6.toNat 0=92)) (brk (fits (t7.length+[t0.getD t6.toNat 0].length)) (dX T t0 t3 t4 (ar.wrap (t6+1)) (t7++[t0.getD t6.toNat 0])) az) ((fP T t0 (ar.wrap (t6+1))).bind λd46=>brk (d46.1=110) (brk (fits (t7.length+1)) (dX T t0 t3 t4 (ar.wrap (ar.wrap (t6+1)+1)) (t7++[10])) az) (brk (d46.1=116) (brk (fits (t7.length+1)) (dX T t0 t3 t4 (ar.wrap (ar.wrap (t6+1)+1)) (t7++[9])) az) (brk (d46.1=34) ((kJ T t0 t3 t4 (ar.wrap (t6+1)) t7 d46.1 (d46.1=34)).bind (ep (λzS=>dX T zS.1 zS.2.1 zS.2.2.1 (ar.wrap (zS.2.2.2.1+1)) zS.2.2.2.2.1) λzS=>U (an zS))) ((kJ T t0 t3 t4 (ar.wrap (t6+1)) t7 d46.1 (d46.1=92)).bind (ep (λzS=>dX T zS.1 zS.2.1 zS.2.2.1 (ar.wrap (zS.2.2.2.1+1)) zS.2.2.2.2.1) λzS=>U (an zS))))))))) az) (U (aE (an (t3,t4,t6,())))):=eL Tryz.func113
def qn (t0 t3 t4 t6 t7 t9):mf (S.step T) t0 t3 t4 t6 t7 t9=brk (t9<3) ((fP T t0 (ar.wrap (t6+t9))).bind λd78=>(rW T d78.1).bind λd79=>brk (d79.1<0) (U (an (t3,ar.wrap (t6+t9),()))) (mf T t0 t3 t4 t6 t7 (ar.wrap (t9+1)))) (U (aE (an (t0,t3,t4,t6,t7,())))):=eL Tryz.func113
def G2:qN (S.step T)=U (([[46,46,46],[46,46],[46],[60,60],[60,61],[60],[62,62],[62,61],[62],[61,61],[61],[126,61],[126],[47,47],[47],[40],[41],[123],[125],[91],[93],[44],[59],[35],[43],[45],[42],[37],[38],[124]]:List LI),lP):=eF Tryz.func114
def H2 (t0):nV (S.step T) t0=(jQ T t0 ([[],[43],[45],[42],[47],[47,47],[37],[38],[124],[126],[60,60],[62,62],[46,46],[61,61],[126,61],[60],[60,61],[62],[62,61]]) 1).bind (ep (λy3=>U (y3.1,cV)) λy3=>(kN T y3.1 ([[40],[41],[123],[125],[91],[93],[44],[61],[46],[46,46,46],[35]]) (([[40],[41],[123],[125],[91],[93],[44],[61],[46],[46,46,46],[35]]:List LI).length) 0).bind (ep (λy9=>U (y9.1,cV)) λy9=>U (5,cV))):=eF Tryz.func115
def xp (t0 t3 t4):jQ (S.step T) t0 t3 t4=brk (t4<t3.length) (brk (0<=t4&&t4<t3.length) (brk (t3.getD t4.toNat []=t0) (U (an (ar.wrap (60+t4),()))) (jQ T t0 t3 (ar.wrap (t4+1)))) az) (U (aE (an (t0,())))):=eL Tryz.func115
def xy (t0 t24 t25 t26):kN (S.step T) t0 t24 t25 t26=brk (t26<t25) (brk (0<=t26&&t26<t24.length) (brk (t24.getD t26.toNat []=t0) (U (an (ar.wrap (40+t26),()))) (kN T t0 t24 t25 (ar.wrap (t26+1)))) az) (U (aE (an ()))):=eL Tryz.func115
theorem A1 (t0 t1):iH (S.step T) t0 t1=brk (0<=t1&&t1<t0.length) (brk (t0.getD t1.toNat 0=10) (U (((7,t1,ar.wrap (t1+1),0,0,[],()),(-1),()),cW)) ((mR T (t0.getD t1.toNat 0)).bind λd23=>brk (d23.1) ((xE T t0 (0,t1,0,0,0,[],())).bind λd26=>U (d26.1,cW)) ((gx T (t0.getD t1.toNat 0)).bind λd30=>brk (d30.1) ((yh T t0 (0,t1,0,0,0,[],())).bind λd33=>U (d33.1,cW)) (brk (t0.getD t1.toNat 0=34) ((tL T t0 (0,t1,0,0,0,[],())).bind λd40=>U (d40.1,cW)) ((qN T).bind λd43=>(jk T t0 t1 (0,0,0,0,0,[],()) (0,t1,0,0,0,[],()) d43.1 d43.1.length 0).bind (ep (λAz=>U (Az,cW)) λAz=>U ((Az.2.2.1,Az.1,()),cW))))))) none:=eF Tryz.func54
def wL (t0 t1 t4 t6 t43 t44 t45):jk (S.step T) t0 t1 t4 t6 t43 t44 t45=brk (t45<t44) (brk (0<=t45&&t45<t43.length) (brk (((t43.getD t45.toNat []).length)<=ar.wrap (t0.length - t1)) (brk (bounds t0.length t1 (ar.wrap (t1+((t43.getD t45.toNat []).length)))) (brk (sub t0 t1 (ar.wrap (t1+((t43.getD t45.toNat []).length)))=t43.getD t45.toNat []) ((nV T (t43.getD t45.toNat [])).bind λd68=>U (an ((d68.1,t6.2.1,ar.wrap (t1+((t43.getD t45.toNat []).length)),t6.2.2.2),(-1),()))) (jk T t0 t1 t4 t6 t43 t44 (ar.wrap (t45+1)))) az) (jk T t0 t1 t4 t6 t43 t44 (ar.wrap (t45+1)))) az) (U (aE (an (t1,t4,t6,())))):=eL Tryz.func54
def H8 (t0):uy (S.step T) t0=brk (t0=22) ((dE T [t0,1,104,103]).bind λd9=>U ((d9.1,av,()),cV)) (brk (t0=13) ((dE T [t0,1,47,119]).bind λd14=>U ((d14.1,av,()),cV)) (brk (t0=18) ((dE T [t0,1,133]).bind λd19=>U ((d19.1,av,()),cV)) (brk (t0=20) ((dE T [t0,119,132,105]).bind λd24=>U ((d24.1,av,()),cV)) (brk (t0=31) ((dE T [t0,119,132]).bind λd29=>U ((d29.1,av,()),cV)) (brk (t0=19) ((dE T [t0,1,106]).bind λd34=>U ((d34.1,av,()),cV)) (brk (t0=11) ((nw T t0 t0 (t0=11)).bind (ep (λov=>U (ov,cV)) λov=>U (([],aq,()),cV))) ((nw T t0 t0 (t0=23)).bind (ep (λov=>U (ov,cV)) λov=>U (([],aq,()),cV))))))))):=eF Tryz.func118
def Dc (t0 t4 t35):nw (S.step T) t0 t4 t35=brk (t35) ((dE T [t0]).bind λd40=>U (an (d40.1,av,()))) (brk (t4=27) ((dE T [t0,108]).bind λd45=>U (an (d45.1,av,()))) (brk (t4=30) ((dE T [t0,132,12,1,109,132]).bind λd50=>U (an (d50.1,av,()))) (brk (t4=28) ((dE T [t0,119]).bind λd55=>U (an (d55.1,av,()))) (brk (t4=14) ((dE T [t0,116]).bind λd60=>U (an (d60.1,av,()))) (brk (t4=42) ((dE T [132]).bind λd64=>U (an (d64.1,av,()))) (brk (t4=1) ((dE T [t0,110]).bind λd69=>U (an (d69.1,av,()))) (brk (t4=40) ((dE T [t0,119,41,112]).bind λd74=>U (an (d74.1,av,()))) (U (aE (an ())))))))))):=eJ Tryz.func118
theorem yx (t0):fb (S.step T) t0=brk (t0=25) (U (av,cV)) (brk (t0=50) (U (av,cV)) (brk (t0=62) (U (av,cV)) (U (I (t0=69),cV)))):=eF Tryz.func170
def yE (t0):fZ (S.step T) t0=brk (t0=1) (brk (t0=1) (U (av,cV)) ((fb T t0).bind λd17=>U (d17.1,cV))) (brk (t0=2) (brk (t0=2) (U (av,cV)) ((fb T t0).bind λd17=>U (d17.1,cV))) (brk (t0=3) (brk (t0=3) (U (av,cV)) ((fb T t0).bind λd17=>U (d17.1,cV))) (brk (t0=4) (brk (t0=4) (U (av,cV)) ((fb T t0).bind λd17=>U (d17.1,cV))) (brk (t0=24) (brk (t0=24) (U (av,cV)) ((fb T t0).bind λd17=>U (d17.1,cV))) (brk (t0=29) (brk (t0=29) (U (av,cV)) ((fb T t0).bind λd17=>U (d17.1,cV))) (brk (t0=17) (brk (t0=17) (U (av,cV)) ((fb T t0).bind λd17=>U (d17.1,cV))) (brk (t0=49) (brk (t0=49) (U (av,cV)) ((fb T t0).bind λd17=>U (d17.1,cV))) (brk (t0=18) (brk (t0=18) (U (av,cV)) ((fb T t0).bind λd17=>U (d17.1,cV))) (brk (t0=40) (brk (t0=40) (U (av,cV)) ((fb T t0).bind λd17=>U (d17.1,cV))) (brk (t0=42) (U (av,cV)) ((fb T t0).bind λd17=>U (d17.1,cV)))))))))))):=eF Tryz.func119
def Fb (t0 t1 t2):iD (S.step T) t0 t1 t2=brk (t0=48) ((dE T [t0,1,t1]).bind λd13=>U (d13.1,dR)) (brk (t0=44) ((dE T [t0,119,45,t1]).bind λd19=>U (d19.1,dR)) (brk (t0=40) ((dE T [t0,123,41,t2]).bind λd25=>U (d25.1,dR)) (U ([],dR)))):=eF Tryz.func171
def DQ (t0 t1):qt (S.step T) t0 t1=brk (t0=110) ((kL T t0 t1 [] t0 (t0=110)).bind (dH λy6=>(j2 T y6.1 y6.2.1 y6.2.2.1).bind (dH λpA=>U (pA,cW)))) (brk (t0=111) ((kL T t0 t1 [] t0 (t0=111)).bind (dH λy6=>(j2 T y6.1 y6.2.1 y6.2.2.1).bind (dH λpA=>U (pA,cW)))) ((kL T t0 t1 [] t0 (t0=112)).bind (dH λy6=>(j2 T y6.1 y6.2.1 y6.2.2.1).bind (dH λpA=>U (pA,cW))))):=eF Tryz.func120
def AN (t0 t1 t6 t9 t10):kL (S.step T) t0 t1 t6 t9 t10=brk (t10) ((iD T t1 110 111).bind λd15=>U (an (t0,t1,d15.1,()))) (brk (t9=114) (brk (t9=114) ((iD T t1 114 115).bind λd20=>U (an (t0,t1,d20.1,()))) (brk (t9=117) (brk (t9=117) ((iD T t1 117 118).bind λd25=>U (an (t0,t1,d25.1,()))) (U (an (t0,t1,t6,())))) (brk (t9=118) ((iD T t1 117 118).bind λd25=>U (an (t0,t1,d25.1,()))) (U (an (t0,t1,t6,())))))) (brk (t9=115) ((iD T t1 114 115).bind λd20=>U (an (t0,t1,d20.1,()))) (brk (t9=117) (brk (t9=117) ((iD T t1 117 118).bind λd25=>U (an (t0,t1,d25.1,()))) (U (an (t0,t1,t6,())))) (brk (t9=118) ((iD T t1 117 118).bind λd25=>U (an (t0,t1,d25.1,()))) (U (an (t0,t1,t6,()))))))):=eJ Tryz.func120
def As (t0 t1 t6):j2 (S.step T) t0 t1 t6=brk (0<(t6.length:Int)) (U (an (t6,av,()))) (brk (t0=111) (U (an ([],av,()))) (brk (t0=118) (U (an ([],av,()))) (brk (t0=110) (brk (t1=46) ((dE T [t1,113]).bind λd46=>U (an (d46.1,av,()))) (brk (t1=47) ((dE T [t1,124]).bind λd51=>U (an (d51.1,av,()))) ((j4 T t0 t1).bind (dH λNO=>U (an NO))))) (brk (t0=114) (brk (t1=46) ((dE T [t1,113]).bind λd46=>U (an (d46.1,av,()))) (brk (t1=47) ((dE T [t1,124]).bind λd51=>U (an (d51.1,av,()))) ((j4 T t0 t1).bind (dH λNO=>U (an NO))))) ((j4 T t0 t1).bind (dH λNO=>U (an NO))))))):=eJ Tryz.func120
def Ao (t0 t1):j4 (S.step T) t0 t1=brk (t0=113) (brk (t0=116) (brk (t1=1) ((dE T [t1,117]).bind λd65=>U (an (d65.1,av,()))) (brk (t1=40) ((dE T [t1,119,41,117]).bind λd71=>U (an (d71.1,av,()))) (U (an ([],aq,()))))) (brk (t1=1) ((dE T [t1,114]).bind λd65=>U (an (d65.1,av,()))) (brk (t1=40) ((dE T [t1,119,41,115]).bind λd71=>U (an (d71.1,av,()))) (U (an ([],aq,())))))) (brk (t0=116) (brk (t0=116) (brk (t1=1) ((dE T [t1,117]).bind λd65=>U (an (d65.1,av,()))) (brk (t1=40) ((dE T [t1,119,41,117]).bind λd71=>U (an (d71.1,av,()))) (U (an ([],aq,()))))) (brk (t1=1) ((dE T [t1,114]).bind λd65=>U (an (d65.1,av,()))) (brk (t1=40) ((dE T [t1,119,41,115]).bind λd71=>U (an (d71.1,av,()))) (U (an ([],aq,())))))) (U (an ([],aq,())))):=eJ Tryz.func120
def HZ (t0):uu (S.step T) t0=(fb T t0).bind λd5=>brk (d5.1) ((dE T [t0,120]).bind λd8=>U ((d8.1,av,()),cV)) (brk (t0=1) ((dE T [t0,122]).bind λd14=>U ((d14.1,av,()),cV)) (brk (t0=40) ((dE T [t0,119,41,122]).bind λd19=>U ((d19.1,av,()),cV)) (brk (t0=42) ((dE T [t0,129,43]).bind λd24=>U ((d24.1,av,()),cV)) (brk (t0=18) ((dE T [t0,133]).bind λd29=>U ((d29.1,av,()),cV)) ((dE T [t0]).bind λd32=>(fZ T t0).bind λd34=>U ((d32.1,d34.1,()),cV)))))):=eF Tryz.func172
theorem zX (t0):nQ (S.step T) t0=brk (t0=10) (U (av,cV)) (brk (t0=26) (U (av,cV)) (U (I (60<t0),cV))):=eF Tryz.func173
def DT (t0 t1):qp (S.step T) t0 t1=brk (t0=119) ((dE T [120,121]).bind λd10=>(fZ T t1).bind λd12=>U ((d10.1,d12.1,()),cW)) (brk (t0=120) ((uu T t1).bind λd16=>U (d16.1,cW)) (brk (t0=121) ((nQ T t1).bind λd22=>brk (d22.1) ((dE T [t1,119]).bind λd25=>U ((d25.1,av,()),cW)) (U (([],av,()),cW))) (brk (t0=122) ((iD T t1 122 122).bind λd29=>U ((d29.1,av,()),cW)) (brk (t0=123) ((fZ T t1).bind λd33=>brk (d33.1) ((dE T [124]).bind λd35=>U ((d35.1,av,()),cW)) (U (([],av,()),cW))) (brk (t0=124) ((dE T [119,125]).bind λd39=>(fZ T t1).bind λd41=>U ((d39.1,d41.1,()),cW)) (brk (t0=125) (brk (t1=46) ((dE T [t1,119,125]).bind λd48=>U ((d48.1,av,()),cW)) (U (([],av,()),cW))) (brk (t0=126) ((ly T t0 t1 t0 (t0=126)).bind (ep (λzS=>U (zS,cW)) λzS=>(dE T [40,126,41,132]).bind λd115=>U ((d115.1,I (zS.1=40),()),cW))) ((ly T t0 t1 t0 (t0=128)).bind (ep (λzS=>U (zS,cW)) λzS=>(dE T [40,126,41,132]).bind λd115=>U ((d115.1,I (zS.1=40),()),cW)))))))))):=eF Tryz.func121
def Ak (t0 t1 t6 t49):ly (S.step T) t0 t1 t6 t49=brk (t49) (brk (t1=1) ((dE T [t1,127]).bind λd56=>U (an (d56.1,av,()))) (brk (t1=49) ((dE T [t1]).bind λd61=>U (an (d61.1,av,()))) (U (an ([],I (t0=126),()))))) (brk (t6=127) (brk (t1=46) ((dE T [t1,128]).bind λd70=>U (an (d70.1,av,()))) (U (an ([],av,())))) (brk (t6=129) ((fZ T t1).bind λd74=>brk (d74.1) ((dE T [131,130]).bind λd84=>U (an (d84.1,av,()))) (brk (t1=48) ((dE T [131,130]).bind λd84=>U (an (d84.1,av,()))) (brk (t1=44) ((dE T [131,130]).bind λd84=>U (an (d84.1,av,()))) (U (an ([],av,())))))) (brk (t6=130) (brk (t1=46) ((dE T [t1,129]).bind λd91=>U (an (d91.1,av,()))) (U (an ([],av,())))) (brk (t6=131) (brk (t1=48) ((dE T [t1,1,47,119]).bind λd98=>U (an (d98.1,av,()))) (brk (t1=44) ((dE T [t1,119,45,47,119]).bind λd103=>U (an (d103.1,av,()))) ((dE T [119]).bind λd105=>(fZ T t1).bind λd107=>U (an (d105.1,d107.1,()))))) (brk (t6=132) ((dE T [42,100,43]).bind λd111=>U (an (d111.1,I (t1=42),()))) (U (aE (an (t1,()))))))))):=eJ Tryz.func121
def Fv (t0 t1):mO (S.step T) t0 t1=brk (t0=100) (brk (t1=5) ((dE T [t1,100]).bind λd15=>U ((d15.1,av,()),cW)) ((uy T t1).bind λd18=>brk (d18.1.2.1) (brk (fits (d18.1.1.length+1)) (U ((d18.1.1++[101],av,()),cW)) az) (U (([],av,()),cW)))) (brk (t0=101) (brk (t1=5) ((dE T [t1,100]).bind λd31=>U ((d31.1,av,()),cW)) (U (([],av,()),cW))) (brk (t0=103) (brk (t1=47) ((dE T [t1,124]).bind λd38=>U ((d38.1,av,()),cW)) (U (([],av,()),cW))) (brk (t0=104) (brk (t1=46) ((dE T [t1,1,104]).bind λd45=>U ((d45.1,av,()),cW)) (U (([],av,()),cW))) (brk (t0=105) (brk (t1=15) ((dE T [t1,119,132,105]).bind λd52=>U ((d52.1,av,()),cW)) (brk (t1=16) ((dE T [t1,132]).bind λd57=>U ((d57.1,av,()),cW)) (U (([],av,()),cW)))) (brk (t0=106) (brk (t1=47) ((dE T [t1,119,46,119,107,132]).bind λd64=>U ((d64.1,av,()),cW)) ((dE T [104,21,119,132]).bind λd66=>brk (t1=46) (U ((d66.1,av,()),cW)) (U ((d66.1,I (t1=21),()),cW)))) (brk (t0=107) (brk (t1=46) ((dE T [t1,119]).bind λd79=>U ((d79.1,av,()),cW)) (U (([],av,()),cW))) (brk (t0=108) ((fZ T t1).bind λd83=>brk (d83.1) ((dE T [124]).bind λd85=>U ((d85.1,av,()),cW)) (U (([],av,()),cW))) (brk (t0=109) (brk (t1=46) ((dE T [t1,1]).bind λd92=>U ((d92.1,av,()),cW)) (U (([],av,()),cW))) (brk (t0=110) ((fJ T t0 t1 (t0=110)).bind (ep (λn8=>U (n8,cW)) (λn8=>(fH T n8.1 n8.2.1).bind (dH (λBN=>U (BN,cW)))))) (brk (t0=111) ((fJ T t0 t1 (t0=111)).bind (ep (λn8=>U (n8,cW)) (λn8=>(fH T n8.1 n8.2.1).bind (dH (λBN=>U (BN,cW)))))) (brk (t0=112) ((fJ T t0 t1 (t0=112)).bind (ep (λn8=>U (n8,cW)) (λn8=>(fH T n8.1 n8.2.1).bind (dH (λBN=>U (BN,cW)))))) (brk (t0=113) ((fJ T t0 t1 (t0=113)).bind (ep (λn8=>U (n8,cW)) (λn8=>(fH T n8.1 n8.2.1).bind (dH (λBN=>U (BN,cW)))))) (brk (t0=114) ((fJ T t0 t1 (t0=114)).bind (ep (λn8=>U (n8,cW)) (λn8=>(fH T n8.1 n8.2.1).bind (dH (λBN=>U (BN,cW)))))) (brk (t0=115) ((fJ T t0 t1 (t0=115)).bind (ep (λn8=>U (n8,cW)) (λn8=>(fH T n8.1 n8.2.1).bind (dH (λBN=>U (BN,cW)))))) (brk (t0=116) ((fJ T t0 t1 (t0=116)).bind (ep (λn8=>U (n8,cW)) (λn8=>(fH T n8.1 n8.2.1).bind (dH (λBN=>U (BN,cW)))))) (brk (t0=117) ((fJ T t0 t1 (t0=117)).bind (ep (λn8=>U (n8,cW)) (λn8=>(fH T n8.1 n8.2.1).bind (dH (λBN=>U (BN,cW)))))) ((fJ T t0 t1 (t0=118)).bind (ep (λn8=>U (n8,cW)) (λn8=>(fH T n8.1 n8.2.1).bind (dH (λBN=>U (BN,cW)))))))))))))))))))))):=eF Tryz.func57
def AU (t0 t1 t93):fJ (S.step T) t0 t1 t93=brk (t93) ((qt T t0 t1).bind λd105=>U (an d105.1)) (U (aE (an (t0,t1,())))):=eJ Tryz.func57
def AS (t0 t1):fH (S.step T) t0 t1=(qp T t0 t1).bind λd110=>U (an d110.1):=eJ Tryz.func57
def Fu (t0 t1 t2):od (S.step T) t0 t1 t2=(iB T t0 t1 t2).bind (ep (λy1=>U (y1.2,y1.1,(),(),())) λy1=>U ((y1.2.1,aq,()),y1.1,(),(),())):=eF Tryz.func25
def qZ (t0 t1 t2):iB (S.step T) t0 t1 t2=brk (0<=t1) (brk (0<=t1&&t1<t0.1.length) (brk ((at_ (τ:=kE) t0.1 t1).1<100) (U (an (t0,(at_ (τ:=kE) t0.1 t1).2.1,I ((at_ (τ:=kE) t0.1 t1).1=t2),()))) ((mO T (at_ (τ:=kE) t0.1 t1).1 t2).bind λd35=>brk (!d35.1.2.1) (U (an (t0,(at_ (τ:=kE) t0.1 t1).2.1,aq,()))) ((nN T t0 (at_ (τ:=kE) t0.1 t1).2.1 t2 d35.1.1 (ar.wrap (d35.1.1.length - 1))).bind (dH λQm=>iB T Qm.1 Qm.2.1 Qm.2.2.1)))) az) (U (aE (an (t0,t1,())))):=eL Tryz.func25
def uf (t0 t1 t2 t9 t11):nN (S.step T) t0 t1 t2 t9 t11=brk (0<=t11) (brk (0<=t11&&t11<t9.length) ((pD T t0 t1 (t9.getD t11.toNat 0)).bind λd54=>nN T d54.2.1 d54.1 t2 t9 (ar.wrap (t11 - 1))) az) (U (an (t0,t1,t2,()))):=eL Tryz.func25
def GG (t0 t1):vy (S.step T) t0 t1=(nD T t0 t1 [] t0.1.length 1).bind (dH λy4=>U (y4.2.1,y4.1,(),())):=eF Tryz.func56
def rT (t0 t1 t5 t6 t7):nD (S.step T) t0 t1 t5 t6 t7=brk (t7<=78) ((od T t0 t1 t7).bind λd23=>brk (bounds d23.2.1.1.length 0 t6) (brk (d23.1.2.1) (brk (fits (t5.length+[t7].length)) (nD T (d23.2.1.1.take t6.toNat,()) t1 (t5++[t7]) t6 (ar.wrap (t7+1))) az) (nD T (d23.2.1.1.take t6.toNat,()) t1 t5 t6 (ar.wrap (t7+1)))) az) (U (an (t0,t5,()))):=eL Tryz.func56
def AW (t0):fQ (S.step T) t0=brk (t0=5) (U ([59],cV)) ((vA T).bind λd8=>brk (10<=t0) (brk (t0<ar.wrap (10+d8.1.length)) (brk (0<=ar.wrap (t0 - 10)&&ar.wrap (t0 - 10)<d8.1.length) (U (d8.1.getD ((ar.wrap (t0 - 10)).toNat) [],cV)) az) ((qN T).bind λd23=>(jb T t0 d23.1 d23.1.length 0).bind (ep (λy7=>U (y7.1,cV)) λy7=>U ([],cV)))) ((qN T).bind λd23=>(jb T t0 d23.1 d23.1.length 0).bind (ep (λy7=>U (y7.1,cV)) λy7=>U ([],cV)))):=eF Tryz.func68
def xz (t0 t23 t24 t25):jb (S.step T) t0 t23 t24 t25=brk (t25<t24) (brk (0<=t25&&t25<t23.length) ((nV T (t23.getD t25.toNat [])).bind λd30=>brk (d30.1=t0) (U (an (t23.getD t25.toNat [],()))) (jb T t0 t23 t24 (ar.wrap (t25+1)))) az) (U (aE (an ()))):=eL Tryz.func68
def GV (t0 t1):vt (S.step T) t0 t1=brk ((t1.length:Int)=1) (brk (0<(t1.length:Int)) (brk (t1.getD 0 0=45) (U (av,cW)) ((dL T t1 t0 t0.length 0).bind (ep (λy4=>U (y4.1,cW)) λy4=>U (aq,cW)))) az) ((dL T t1 t0 t0.length 0).bind (ep (λy4=>U (y4.1,cW)) λy4=>U (aq,cW))):=eF Tryz.func116
def vY (t1 t16 t17 t18):dL (S.step T) t1 t16 t17 t18=brk (t18<t17) (brk (0<=t18&&t18<t16.length) (brk (t16.getD t18.toNat 0=1) (brk (0<(t1.length:Int)) ((mR T (t1.getD 0 0)).bind λd27=>brk (d27.1) (U (an (av,()))) (brk (t16.getD t18.toNat 0=2) (brk (0<(t1.length:Int)) ((gx T (t1.getD 0 0)).bind λd39=>brk (d39.1) (U (an (av,()))) (brk (t16.getD t18.toNat 0=4) (brk (0<(t1.length:Int)) (brk (t1.getD 0 0=34) (U (an (av,()))) ((fQ T (t16.getD t18.toNat 0)).bind λd52=>brk (t1.length<=(d52.1.length:Int)) (brk (bounds d52.1.length 0 t1.length) (brk (sub d52.1 0 t1.length=t1) (U (an (av,()))) (dL T t1 t16 t17 (ar.wrap (t18+1)))) az) (dL T t1 t16 t17 (ar.wrap (t18+1))))) az) ((fQ T (t16.getD t18.toNat 0)).bind λd52=>brk (t1.length<=(d52.1.length:Int)) (brk (bounds d52.1.length 0 (t1.length:Int)) (brk ((sub d52.1 0 (t1.length:Int))=t1) (U (an (av,()))) (dL T t1 t16 t17 (ar.wrap (t18+1)))) az) (dL T t1 t16 t17 (ar.wrap (t18+1)))))) az) (brk (t16.getD t18.toNat 0=3) (brk (0<(t1.length:Int)) ((gx T (t1.getD 0 0)).bind λd39=>brk (d39.1) (U (an (av,()))) (brk (t16.getD t18.toNat 0=4) (brk (0<(t1.length:Int)) (brk (t1.getD 0 0=34) (U (an (av,()))) ((fQ T (t16.getD t18.toNat 0)).bind λd52=>brk ((t1.length:Int)<=(d52.1.length:Int)) (brk (bounds d52.1.length 0 (t1.length:Int)) (brk ((sub d52.1 0 (t1.length:Int))=t1) (U (an (av,()))) (dL T t1 t16 t17 (ar.wrap (t18+1)))) az) (dL T t1 t16 t17 (ar.wrap (t18+1))))) az) ((fQ T (t16.getD t18.toNat 0)).bind λd52=>brk ((t1.length:Int)<=(d52.1.length:Int)) (brk (bounds d52.1.length 0 (t1.length:Int)) (brk ((sub d52.1 0 (t1.length:Int))=t1) (U (an (av,()))) (dL T t1 t16 t17 (ar.wrap (t18+1)))) az) (dL T t1 t16 t17 (ar.wrap (t18+1)))))) az) (brk (t16.getD t18.toNat 0=4) (brk (0<(t1.length:Int)) (brk (t1.getD 0 0=34) (U (an (av,()))) ((fQ T (t16.getD t18.toNat 0)).bind λd52=>brk ((t1.length:Int)<=(d52.1.length:Int)) (brk (bounds d52.1.length 0 (t1.length:Int)) (brk ((sub d52.1 0 (t1.length:Int))=t1) (U (an (av,()))) (dL T t1 t16 t17 (ar.wrap (t18+1)))) az) (dL T t1 t16 t17 (ar.wrap (t18+1))))) az) ((fQ T (t16.getD t18.toNat 0)).bind λd52=>brk ((t1.length:Int)<=(d52.1.length:Int)) (brk (bounds d52.1.length 0 (t1.length:Int)) (brk ((sub d52.1 0 (t1.length:Int))=t1) (U (an (av,()))) (dL T t1 t16 t17 (ar.wrap (t18+1)))) az) (dL T t1 t16 t17 (ar.wrap (t18+1)))))))) az) (brk (t16.getD t18.toNat 0=2) (brk (0<(t1.length:Int)) ((gx T (t1.getD 0 0)).bind λd39=>brk (d39.1) (U (an (av,()))) (brk (t16.getD t18.toNat 0=4) (brk (0<(t1.length:Int)) (brk (t1.getD 0 0=34) (U (an (av,()))) ((fQ T (t16.getD t18.toNat 0)).bind λd52=>brk ((t1.length:Int)<=(d52.1.length:Int)) (brk (bounds d52.1.length 0 (t1.length:Int)) (brk ((sub d52.1 0 (t1.length:Int))=t1) (U (an (av,()))) (dL T t1 t16 t17 (ar.wrap (t18+1)))) az) (dL T t1 t16 t17 (ar.wrap (t18+1))))) az) ((fQ T (t16.getD t18.toNat 0)).bind λd52=>brk ((t1.length:Int)<=(d52.1.length:Int)) (brk (bounds d52.1.length 0 (t1.length:Int)) (brk ((sub d52.1 0 (t1.length:Int))=t1) (U (an (av,()))) (dL T t1 t16 t17 (ar.wrap (t18+1)))) az) (dL T t1 t16 t17 (ar.wrap (t18+1)))))) az) (brk (t16.getD t18.toNat 0=3) (brk (0<(t1.length:Int)) ((gx T (t1.getD 0 0)).bind λd39=>brk (d39.1) (U (an (av,()))) (brk (t16.getD t18.toNat 0=4) (brk (0<(t1.length:Int)) (brk (t1.getD 0 0=34) (U (an (av,()))) ((fQ T (t16.getD t18.toNat 0)).bind λd52=>brk ((t1.length:Int)<=(d52.1.length:Int)) (brk (bounds d52.1.length 0 (t1.length:Int)) (brk ((sub d52.1 0 (t1.length:Int))=t1) (U (an (av,()))) (dL T t1 t16 t17 (ar.wrap (t18+1)))) az) (dL T t1 t16 t17 (ar.wrap (t18+1))))) az) ((fQ T (t16.getD t18.toNat 0)).bind λd52=>brk ((t1.length:Int)<=(d52.1.length:Int)) (brk (bounds d52.1.length 0 (t1.length:Int)) (brk ((sub d52.1 0 (t1.length:Int))=t1) (U (an (av,()))) (dL T t1 t16 t17 (ar.wrap (t18+1)))) az) (dL T t1 t16 t17 (ar.wrap (t18+1)))))) az) (brk (t16.getD t18.toNat 0=4) (brk (0<(t1.length:Int)) (brk (t1.getD 0 0=34) (U (an (av,()))) ((fQ T (t16.getD t18.toNat 0)).bind λd52=>brk ((t1.length:Int)<=(d52.1.length:Int)) (brk (bounds d52.1.length 0 (t1.length:Int)) (brk ((sub d52.1 0 (t1.length:Int))=t1) (U (an (av,()))) (dL T t1 t16 t17 (ar.wrap (t18+1)))) az) (dL T t1 t16 t17 (ar.wrap (t18+1))))) az) ((fQ T (t16.getD t18.toNat 0)).bind λd52=>brk ((t1.length:Int)<=(d52.1.length:Int)) (brk (bounds d52.1.length 0 (t1.length:Int)) (brk ((sub d52.1 0 (t1.length:Int))=t1) (U (an (av,()))) (dL T t1 t16 t17 (ar.wrap (t18+1)))) az) (dL T t1 t16 t17 (ar.wrap (t18+1)))))))) az) (U (aE (an ()))):=eL Tryz.func116
def GI (t0 t1 t2):vw (S.step T) t0 t1 t2=(gF T t0 t1 t2 0).bind (dH λy2=>U (ar.wrap (y2.1+y2.2.1),dR)):=eF Tryz.func55
theorem rS (t0 t1 t2 t7):gF (S.step T) t0 t1 t2 t7=brk (ar.wrap (t1+t7)<t0.length) (brk (bounds t0.length t1 (ar.wrap (ar.wrap (t1+t7)+1))) ((vt T t2 (sub t0 t1 (ar.wrap (ar.wrap (t1+t7)+1)))).bind λd23=>brk (d23.1) (brk (0<=t1&&t1<t0.length) ((mR T (t0.getD t1.toNat 0)).bind λd30=>brk (d30.1) ((fP T t0 (ar.wrap (t1+ar.wrap (t7+1)))).bind λd36=>(mR T d36.1).bind λd37=>brk (!d37.1) ((fP T t0 (ar.wrap (t1+ar.wrap (t7+1)))).bind λd45=>(gx T d45.1).bind λd46=>brk (!d46.1) (U (an (t1,ar.wrap (t7+1),()))) (gF T t0 t1 t2 (ar.wrap (t7+1)))) (gF T t0 t1 t2 (ar.wrap (t7+1)))) (gF T t0 t1 t2 (ar.wrap (t7+1)))) az) (U (an (t1,t7,())))) az) (U (an (t1,t7,()))):=eL Tryz.func55
def A3 (t0 t1):ss (S.step T) t0 t1=(wT T t0).bind λd17=>(mQ T t1 0).bind λd19=>(dS T d17.2.1 t1 d17.1 [] 1 d19.1).bind (ep (λy5=>U (y5.2,y5.1,(),())) λy5=>brk (fits (y5.2.2.2.1.length+([(6,(y5.2.1.length:Int),(y5.2.1.length:Int),y5.2.2.2.2.1,0,[],())]:List di.den).length)) (U ((y5.2.2.2.1++([(6,(y5.2.1.length:Int),(y5.2.1.length:Int),y5.2.2.2.2.1,0,[],())]:List di.den),y5.2.2.1,(-1:Int),()),y5.1,(),())) az):=eF Tryz.func24
theorem wy (t0 t1 t7 t8 t9 t10 t11 t12 t13):fB (S.step T) t0 t1 t7 t8 t9 t10 t11 t12 t13=brk (0<t13) ((od T t0 t7 t13).bind λd46=>(jh T d46.2.1 t1 t7 t8 t9 t10 t11 t12 t13 d46.1.1 d46.1.2.1).bind (Uk (λov=>U (an ov)) (λov=>U (aE (an ov))) λov=>U (aE (aE (an ov))))) ((jh T t0 t1 t7 t8 t9 t10 t11 t12 t13 t7 (0<t13)).bind (Uk (λov=>U (an ov)) (λov=>U (aE (an ov))) λov=>U (aE (aE (an ov))))):=eJ Tryz.func24
def oX (t0 t1 t7 t8 t9 t10 t11 t12 t13 t14 t15):jh (S.step T) t0 t1 t7 t8 t9 t10 t11 t12 t13 t14 t15=brk (!t15) (brk (t11.1=7) ((mQ T t1 t11.2.2.1).bind λd59=>U (an (t0,t1,t7,t8,t9,d59.1,()))) (brk (!t15) ((vy T t0 t7).bind λd67=>(vw T t1 t10 d67.1).bind λd68=>U (aE (an (d67.2.1,[],t7,d68.1,())))) (brk (0<=t12) (U (aE (an (t0,[],t7,t12,())))) (brk (fits (t8.length+([(t13,t11.2)]:List di.den).length)) ((mQ T t1 t11.2.2.1).bind λd83=>U (aE (aE (an (t0,t1,t14,t8++([(t13,t11.2)]:List di.den),t9,d83.1,()))))) az)))) (brk (!t15) ((vy T t0 t7).bind λd67=>(vw T t1 t10 d67.1).bind λd68=>U (aE (an (d67.2.1,[],t7,d68.1,())))) (brk (0<=t12) (U (aE (an (t0,[],t7,t12,())))) (brk (fits (t8.length+([(t13,t11.2)]:List di.den).length)) ((mQ T t1 t11.2.2.1).bind λd83=>U (aE (aE (an (t0,t1,t14,t8++([(t13,t11.2)]:List di.den),t9,d83.1,()))))) az))):=eJ Tryz.func24
def pU (t0 t1 t7 t8 t9 t10):dS (S.step T) t0 t1 t7 t8 t9 t10=brk (t10<t1.length) ((iH T t1 t10).bind λd27=>brk (d27.1.1.1=7) ((fB T t0 t1 t7 t8 (ar.wrap (t9+1)) t10 (d27.1.1.1,d27.1.1.2.1,d27.1.1.2.2.1,t9,d27.1.1.2.2.2.2) d27.1.2.1 5).bind (Uk (λpB=>dS T pB.1 pB.2.1 pB.2.2.1 pB.2.2.2.1 pB.2.2.2.2.1 pB.2.2.2.2.2.1) (λpB=>U (an pB)) λpB=>dS T pB.1 pB.2.1 pB.2.2.1 pB.2.2.2.1 pB.2.2.2.2.1 pB.2.2.2.2.2.1)) ((fB T t0 t1 t7 t8 t9 t10 (d27.1.1.1,d27.1.1.2.1,d27.1.1.2.2.1,t9,d27.1.1.2.2.2.2) d27.1.2.1 d27.1.1.1).bind (Uk (λpB=>dS T pB.1 pB.2.1 pB.2.2.1 pB.2.2.2.1 pB.2.2.2.2.1 pB.2.2.2.2.2.1) (λpB=>U (an pB)) λpB=>dS T pB.1 pB.2.1 pB.2.2.1 pB.2.2.2.1 pB.2.2.2.2.1 pB.2.2.2.2.2.1))) (U (aE (an (t0,t1,t7,t8,t9,())))):=eL Tryz.func24
def yI (t0):pF (S.step T) t0=(ss T ([],()) t0).bind λd15=>brk (0<=d15.1.2.2.1) (U (([],d15.1.2.2),cV)) ((od T d15.2.1 d15.1.2.1 6).bind λd25=>brk (!d25.1.2.1) (U (([],(t0.length:Int),()),cV)) (U ((d15.1.1,(-1:Int),()),cV))):=eF Tryz.func10
def Fk (t0):fC (S.step T) t0=brk (0<=t0.2.1&&t0.2.1<t0.1.length) (U ((at_ (τ:=di) t0.1 t0.2.1).1,t0,())) none:=eF Tryz.func59
def H7 (t0 t1):lj (S.step T) t0 t1=(fC T t0).bind λd6=>brk (!(d6.1=t1)) (U (aq,d6.2.1,(),())) (U (av,(d6.2.1.1,ar.wrap (d6.2.1.2.1+1),d6.2.1.2.2),(),())):=eF Tryz.func60
def E2 (t0):dN (S.step T) t0=brk (0<=ar.wrap (ar.wrap (t0.2.1+1) - 1)&&ar.wrap (ar.wrap (t0.2.1+1) - 1)<t0.1.length) (U (at_ (τ:=di) t0.1 (ar.wrap (ar.wrap (t0.2.1+1) - 1)),(t0.1,ar.wrap (t0.2.1+1),t0.2.2),())) none:=eF Tryz.func124
def Ir (t0 t1):eG (S.step T) t0 t1=U ((t0,t1.2.1,0,t1.2.2.2.1,0,0,[],[],[],()),fD):=eF Tryz.func125
def G9 (t0 t1):dJ (S.step T) t0 t1=brk (0<=ar.wrap (t0.2.1 - 1)&&ar.wrap (t0.2.1 - 1)<t0.1.length) (brk (fits (t0.2.2.1.length+([(t1.1,t1.2.1,(at_ (τ:=di) t0.1 (ar.wrap (t0.2.1 - 1))).2.2.1,t1.2.2.2)]:List cZ.den).length)) (U (ar.wrap (((t0.2.2.1++([(t1.1,t1.2.1,(at_ (τ:=di) t0.1 (ar.wrap (t0.2.1 - 1))).2.2.1,t1.2.2.2)]:List cZ.den)).length) - 1),(t0.1,t0.2.1,t0.2.2.1++([(t1.1,t1.2.1,(at_ (τ:=di) t0.1 (ar.wrap (t0.2.1 - 1))).2.2.1,t1.2.2.2)]:List cZ.den),()),((),(),(),(),(),(),(),(),(),()),())) az) none:=eF Tryz.func128
def DO (t0):gP (S.step T) t0=(dN T t0).bind λd5=>(eG T 1 d5.1).bind λd6=>(lQ T d5.2.1 43).bind λd8=>(dN T d8.2.1).bind λd11=>(dJ T d11.2.1 (d6.1.1,d6.1.2.1,d6.1.2.2.1,d6.1.2.2.2.1,d6.1.2.2.2.2.1,d6.1.2.2.2.2.2.1,d6.1.2.2.2.2.2.2.1,d6.1.2.2.2.2.2.2.2.1,d8.1,())).bind λd14=>U (d14.1,d14.2.1,()):=eF Tryz.func122
theorem G3 (t0):vq (S.step T) t0=brk (t0=25) (U (21,cV)) (brk (t0=50) (U (22,cV)) (brk (t0=69) (U (20,cV)) (U (19,cV)))):=eF Tryz.func193
def Fq (t0 t1):rB (S.step T) t0 t1=(dN T t0).bind λd8=>(jn T d8.2.1 t1).bind (dH λy2=>(dN T y2.1).bind λd29=>(gP T d29.2.1).bind λd31=>(dJ T d31.2.1 (y2.2.1.1,y2.2.1.2.1,y2.2.1.2.2.1,y2.2.1.2.2.2.1,y2.2.1.2.2.2.2.1,y2.2.1.2.2.2.2.2.1,y2.2.1.2.2.2.2.2.2.1,y2.2.1.2.2.2.2.2.2.2.1,([d31.1]:LI),())).bind λd37=>U (d37.1,d37.2.1,((),(),(),(),(),(),(),(),(),()),())):=eF Tryz.func130
def rh (t0 t3):jn (S.step T) t0 t3=(fC T t0).bind λd10=>brk (!(d10.1=41)) ((dN T d10.2.1).bind λd13=>brk (d13.1.1=1) (brk (fits (t3.2.2.2.2.2.2.2.1.length+([d13.1.2.2.2.2.2.1]:List LI).length)) (jn T d13.2.1 (t3.1,t3.2.1,t3.2.2.1,t3.2.2.2.1,t3.2.2.2.2.1,t3.2.2.2.2.2.1,t3.2.2.2.2.2.2.1,t3.2.2.2.2.2.2.2.1++([d13.1.2.2.2.2.2.1]:List LI),t3.2.2.2.2.2.2.2.2)) az) (brk (d13.1.1=49) (jn T d13.2.1 (t3.1,t3.2.1,t3.2.2.1,t3.2.2.2.1,1,t3.2.2.2.2.2)) (jn T d13.2.1 t3))) (U (an (d10.2.1,t3,()))):=eL Tryz.func130
def sI (t0):oF (S.step T) t0=brk (0<=t0.2.1&&t0.2.1<t0.1.length) ((eG T 40 (at_ (τ:=di) t0.1 t0.2.1)).bind λd19=>(lj T t0 48).bind λd21=>brk (d21.1) ((dN T d21.2.1).bind λd23=>(dN T d23.2.1).bind λd25=>(j5 T d25.2.1 (42,d19.1.2.1,d19.1.2.2.1,d19.1.2.2.2.1,d19.1.2.2.2.2.1,d19.1.2.2.2.2.2.1,d23.1.2.2.2.2.2.1,d19.1.2.2.2.2.2.2.2)).bind (dH λAz=>U (Az.2.1,Az.1,()))) ((lj T d21.2.1 44).bind λd31=>brk (d31.1) ((gA T d31.2.1 0).bind λd33=>(dN T d33.2.1).bind λd35=>(dN T d35.2.1).bind λd37=>brk (fits (d19.1.2.2.2.2.2.2.2.2.1.length+[d33.1].length)) ((j5 T d37.2.1 (41,d19.1.2.1,d19.1.2.2.1,d19.1.2.2.2.1,d19.1.2.2.2.2.1,d19.1.2.2.2.2.2.1,d19.1.2.2.2.2.2.2.1,d19.1.2.2.2.2.2.2.2.1,d19.1.2.2.2.2.2.2.2.2.1++[d33.1],())).bind (dH λAz=>U (Az.2.1,Az.1,()))) az) ((j5 T d31.2.1 d19.1).bind (dH λAz=>U (Az.2.1,Az.1,()))))) none:=eF Tryz.func194
def pO (t0 t4):j5 (S.step T) t0 t4=(gA T t0 0).bind λd46=>brk (fits (t4.2.2.2.2.2.2.2.2.1.length+[d46.1].length)) ((dJ T d46.2.1 (t4.1,t4.2.1,t4.2.2.1,t4.2.2.2.1,t4.2.2.2.2.1,t4.2.2.2.2.2.1,t4.2.2.2.2.2.2.1,t4.2.2.2.2.2.2.2.1,t4.2.2.2.2.2.2.2.2.1++[d46.1],())).bind λd55=>U (an (d55.2.1,d55.1,()))) none:=eJ Tryz.func194
def gD (t0):gQ (S.step T) t0=(fC T t0).bind λd12=>brk (d12.1=1) ((ie T d12.2.1).bind λd20=>U d20) ((fC T d12.2.1).bind λd16=>brk (d16.1=40) ((ie T d16.2.1).bind λd20=>U d20) ((dN T d16.2.1).bind λd22=>(fb T d22.1.1).bind λd25=>brk (d25.1) ((gQ T d22.2.1).bind λd27=>(eG T 30 d22.1).bind λd29=>(vq T d22.1.1).bind λd32=>(dJ T d27.2.1 (d29.1.1,d29.1.2.1,d29.1.2.2.1,d29.1.2.2.2.1,d32.1,d29.1.2.2.2.2.2.1,d29.1.2.2.2.2.2.2.1,d29.1.2.2.2.2.2.2.2.1,([d27.1]:LI),())).bind λd39=>U (d39.1,d39.2.1,())) (brk (d22.1.1=2) ((eG T 23 d22.1).bind λd45=>(dJ T d22.2.1 (d45.1.1,d45.1.2.1,d45.1.2.2.1,d45.1.2.2.2.1,d45.1.2.2.2.2.1,d22.1.2.2.2.2.1,d45.1.2.2.2.2.2.2)).bind λd51=>U (d51.1,d51.2.1,())) (brk (d22.1.1=3) ((eG T 24 d22.1).bind λd55=>(dJ T d22.2.1 (d55.1.1,d55.1.2.1,d55.1.2.2.1,d55.1.2.2.2.1,d55.1.2.2.2.2.1,d55.1.2.2.2.2.2.1,d22.1.2.2.2.2.2.1,d55.1.2.2.2.2.2.2.2)).bind λd61=>U (d61.1,d61.2.1,())) (brk (d22.1.1=4) ((eG T 25 d22.1).bind λd65=>(dJ T d22.2.1 (d65.1.1,d65.1.2.1,d65.1.2.2.1,d65.1.2.2.2.1,d65.1.2.2.2.2.1,d65.1.2.2.2.2.2.1,d22.1.2.2.2.2.2.1,d65.1.2.2.2.2.2.2.2)).bind λd71=>U (d71.1,d71.2.1,())) (brk (d22.1.1=24) ((eG T 20 d22.1).bind λd76=>(dJ T d22.2.1 d76.1).bind λd77=>U (d77.1,d77.2.1,())) (brk (d22.1.1=29) ((eG T 21 d22.1).bind λd82=>(dJ T d22.2.1 d82.1).bind λd83=>U (d83.1,d83.2.1,())) (brk (d22.1.1=17) ((eG T 22 d22.1).bind λd88=>(dJ T d22.2.1 d88.1).bind λd89=>U (d89.1,d89.2.1,())) (brk (d22.1.1=49) ((eG T 27 d22.1).bind λd94=>(dJ T d22.2.1 d94.1).bind λd95=>U (d95.1,d95.2.1,())) (brk (d22.1.1=18) ((eG T 36 d22.1).bind λd100=>(rB T d22.2.1 d100.1).bind λd101=>U (d101.1,d101.2.1,())) ((eG T 35 d22.1).bind λd103=>(jE T d22.2.1 d103.1).bind (dH (λa58=>(dN T a58.1).bind λd118=>(dJ T d118.2.1 a58.2.1).bind λd121=>U (d121.1,d121.2.1,())))))))))))))):=eF Tryz.func174
def qo (t0 t9):jE (S.step T) t0 t9=(fC T t0).bind λd105=>brk (!(d105.1=43)) ((oF T d105.2.1).bind λd108=>brk (fits (t9.2.2.2.2.2.2.2.2.1.length+[d108.1].length)) ((lj T d108.2.1 46).bind λd116=>jE T d116.2.1 (t9.1,t9.2.1,t9.2.2.1,t9.2.2.2.1,t9.2.2.2.2.1,t9.2.2.2.2.2.1,t9.2.2.2.2.2.2.1,t9.2.2.2.2.2.2.2.1,t9.2.2.2.2.2.2.2.2.1++[d108.1],())) az) (U (an (d105.2.1,t9,()))):=eL Tryz.func174
def E6 (t0 t1):gA (S.step T) t0 t1=brk (0<=t0.2.1&&t0.2.1<t0.1.length) ((gQ T t0).bind λd23=>(jq T d23.2.1 t1 (at_ (τ:=di) t0.1 t0.2.1) d23.1).bind (ep (λy3=>U (y3.2.1,y3.1,(),())) λy3=>U (y3.2.1,y3.1,(),()))) none:=eF Tryz.func129
def rf (t0 t1 t5 t6):jq (S.step T) t0 t1 t5 t6=(fC T t0).bind λd25=>(nQ T d25.1).bind λd26=>brk (d26.1) ((fC T d25.2.1).bind λd29=>(kR T d29.1).bind λd30=>brk (d30.1.1<t1) (U (an (d29.2.1,t6,()))) ((dN T d29.2.1).bind λd38=>(gA T d38.2.1 d30.1.2.1).bind λd41=>(eG T 31 t5).bind λd43=>brk (d38.1.1=10) ((dJ T d41.2.1 (28,d43.1.2.1,d43.1.2.2.1,d43.1.2.2.2.1,0,d43.1.2.2.2.2.2.1,d43.1.2.2.2.2.2.2.1,d43.1.2.2.2.2.2.2.2.1,([t6,d41.1]:LI),())).bind λd64=>jq T d64.2.1 t1 t5 d64.1) (brk (d38.1.1=26) ((dJ T d41.2.1 (29,d43.1.2.1,d43.1.2.2.1,d43.1.2.2.2.1,0,d43.1.2.2.2.2.2.1,d43.1.2.2.2.2.2.2.1,d43.1.2.2.2.2.2.2.2.1,([t6,d41.1]:LI),())).bind λd64=>jq T d64.2.1 t1 t5 d64.1) ((dJ T d41.2.1 (d43.1.1,d43.1.2.1,d43.1.2.2.1,d43.1.2.2.2.1,ar.wrap (d38.1.1 - 60),d43.1.2.2.2.2.2.1,d43.1.2.2.2.2.2.2.1,d43.1.2.2.2.2.2.2.2.1,([t6,d41.1]:LI),())).bind λd64=>jq T d64.2.1 t1 t5 d64.1)))) (U (aE (an (d25.2.1,t6,())))):=eL Tryz.func129
def DG (t0):jd (S.step T) t0=(gA T t0 0).bind λd6=>(mc T d6.2.1 [d6.1]).bind (dH λy3=>U (y3.2.1,y3.1,())):=eF Tryz.func127
def ui (t0 t4):mc (S.step T) t0 t4=(lj T t0 46).bind λd10=>brk (d10.1) ((gA T d10.2.1 0).bind λd12=>brk (fits (t4.length+[d12.1].length)) (mc T d12.2.1 (t4++[d12.1])) az) (U (an (d10.2.1,t4,()))):=eL Tryz.func127
def qh (t0):ie (S.step T) t0=(dN T t0).bind λd14=>brk (d14.1.1=1) ((eG T 26 d14.1).bind λd19=>(dJ T d14.2.1 (d19.1.1,d19.1.2.1,d19.1.2.2.1,d19.1.2.2.2.1,d19.1.2.2.2.2.1,d19.1.2.2.2.2.2.1,d14.1.2.2.2.2.2.1,d19.1.2.2.2.2.2.2.2)).bind λd25=>(iI T d25.2.1 d25.1 d14.1).bind (dH λAz=>U (Az.2.1,Az.1,()))) ((gA T d14.2.1 0).bind λd27=>(dN T d27.2.1).bind λd29=>brk (0<=d27.1&&d27.1<d29.2.1.2.2.1.length) (brk ((at_ (τ:=cZ) d29.2.1.2.2.1 d27.1).1=34) ((eG T 37 d14.1).bind λd45=>(dJ T d29.2.1 (d45.1.1,d45.1.2.1,d45.1.2.2.1,d45.1.2.2.2.1,d45.1.2.2.2.2.1,d45.1.2.2.2.2.2.1,d45.1.2.2.2.2.2.2.1,d45.1.2.2.2.2.2.2.2.1,([d27.1]:LI),())).bind λd51=>(iI T d51.2.1 d51.1 d14.1).bind (dH λAz=>U (Az.2.1,Az.1,()))) (brk ((at_ (τ:=cZ) d29.2.1.2.2.1 d27.1).1=27) ((eG T 37 d14.1).bind λd45=>(dJ T d29.2.1 (d45.1.1,d45.1.2.1,d45.1.2.2.1,d45.1.2.2.2.1,d45.1.2.2.2.2.1,d45.1.2.2.2.2.2.1,d45.1.2.2.2.2.2.2.1,d45.1.2.2.2.2.2.2.2.1,([d27.1]:LI),())).bind λd51=>(iI T d51.2.1 d51.1 d14.1).bind (dH λAz=>U (Az.2.1,Az.1,()))) ((iI T d29.2.1 d27.1 d14.1).bind (dH λAz=>U (Az.2.1,Az.1,()))))) az):=eF Tryz.func133
def xT (t0 t3 t4):iI (S.step T) t0 t3 t4=(eZ T t0 t3 t4).bind (dH λAz=>U (an Az)):=eJ Tryz.func133
def jN (t0 t3 t4):eZ (S.step T) t0 t3 t4=(eG T 33 t4).bind λd53=>(fC T t0).bind λd58=>brk (d58.1=48) ((dN T d58.2.1).bind λd63=>(dN T d63.2.1).bind λd65=>(dJ T d65.2.1 (d53.1.1,d53.1.2.1,d53.1.2.2.1,d53.1.2.2.2.1,d53.1.2.2.2.2.1,d53.1.2.2.2.2.2.1,d65.1.2.2.2.2.2.1,d53.1.2.2.2.2.2.2.2.1,([t3]:LI),())).bind λd110=>eZ T d110.2.1 d110.1 t4) (brk (d58.1=44) ((dN T d58.2.1).bind λd72=>(gA T d72.2.1 0).bind λd74=>(dN T d74.2.1).bind λd76=>brk (fits ([t3].length+[d74.1].length)) ((dJ T d76.2.1 (32,d53.1.2.1,d53.1.2.2.1,d53.1.2.2.2.1,d53.1.2.2.2.2.1,d53.1.2.2.2.2.2.1,d53.1.2.2.2.2.2.2.1,d53.1.2.2.2.2.2.2.2.1,[t3]++[d74.1],())).bind λd110=>eZ T d110.2.1 d110.1 t4) az) (brk (d58.1=40) ((dN T d58.2.1).bind λd87=>(fC T d87.2.1).bind λd90=>brk (!(d90.1=41)) ((jd T d90.2.1).bind λd93=>(lp T d93.2.1 t4 (34,d53.1.2.1,d53.1.2.2.1,d53.1.2.2.2.1,d53.1.2.2.2.2.1,d53.1.2.2.2.2.2.1,d53.1.2.2.2.2.2.2.1,d53.1.2.2.2.2.2.2.2.1,([t3]:LI),()) d93.1 d93.1.length 0).bind (dH λa13=>(dN T a13.1).bind λd107=>(dJ T d107.2.1 a13.2.2.1).bind λd110=>eZ T d110.2.1 d110.1 a13.2.1)) ((dN T d90.2.1).bind λd107=>(dJ T d107.2.1 (34,d53.1.2.1,d53.1.2.2.1,d53.1.2.2.2.1,d53.1.2.2.2.2.1,d53.1.2.2.2.2.2.1,d53.1.2.2.2.2.2.2.1,d53.1.2.2.2.2.2.2.2.1,([t3]:LI),())).bind λd110=>eZ T d110.2.1 d110.1 t4)) (U (an (d58.2.1,t3,()))))):=eL Tryz.func133
def rz (t0 t4 t8 t93 t94 t95):lp (S.step T) t0 t4 t8 t93 t94 t95=brk (t95<t94) (brk (0<=t95&&t95<t93.length) (brk (fits (t8.2.2.2.2.2.2.2.2.1.length+[t93.getD t95.toNat 0].length)) (lp T t0 t4 (t8.1,t8.2.1,t8.2.2.1,t8.2.2.2.1,t8.2.2.2.2.1,t8.2.2.2.2.2.1,t8.2.2.2.2.2.2.1,t8.2.2.2.2.2.2.2.1,t8.2.2.2.2.2.2.2.2.1++[t93.getD t95.toNat 0],()) t93 t94 (ar.wrap (t95+1))) az) az) (U (an (t0,t4,t8,()))):=eL Tryz.func133
def vX (t0):ny (S.step T) t0=brk (0<=t0.2.1&&t0.2.1<t0.1.length) ((eG T 5 (at_ (τ:=di) t0.1 t0.2.1)).bind λd17=>(ie T t0).bind λd19=>brk (0<=d19.2.1.2.1&&d19.2.1.2.1<d19.2.1.1.length) (brk (!((at_ (τ:=di) d19.2.1.1 d19.2.1.2.1).1=46)) (brk (0<=d19.2.1.2.1&&d19.2.1.2.1<d19.2.1.1.length) (brk (!((at_ (τ:=di) d19.2.1.1 d19.2.1.2.1).1=47)) ((dJ T d19.2.1 (6,d17.1.2.1,d17.1.2.2.1,d17.1.2.2.2.1,d17.1.2.2.2.2.1,d17.1.2.2.2.2.2.1,d17.1.2.2.2.2.2.2.1,d17.1.2.2.2.2.2.2.2.1,([d19.1]:LI),())).bind λd52=>U (d52.1,d52.2.1,())) ((ja T d19.2.1 (d17.1.1,d17.1.2.1,d17.1.2.2.1,d17.1.2.2.2.1,d17.1.2.2.2.2.1,1,d17.1.2.2.2.2.2.2.1,d17.1.2.2.2.2.2.2.2.1,([d19.1]:LI),())).bind (dH (λy9=>(dN T y9.1).bind λd72=>(jd T d72.2.1).bind λd74=>(kX T d74.2.1 y9.2.1 d74.1 d74.1.length 0).bind (dH (λDB=>(dJ T DB.1 DB.2.1).bind λd89=>U (d89.1,d89.2.1,()))))))) az) ((ja T d19.2.1 (d17.1.1,d17.1.2.1,d17.1.2.2.1,d17.1.2.2.2.1,d17.1.2.2.2.2.1,1,d17.1.2.2.2.2.2.2.1,d17.1.2.2.2.2.2.2.2.1,([d19.1]:LI),())).bind (dH (λy9=>(dN T y9.1).bind λd72=>(jd T d72.2.1).bind λd74=>(kX T d74.2.1 y9.2.1 d74.1 (d74.1.length:Int) 0).bind (dH (λDB=>(dJ T DB.1 DB.2.1).bind λd89=>U (d89.1,d89.2.1,()))))))) az) none:=eF Tryz.func123
def tf (t0 t3):ja (S.step T) t0 t3=(lj T t0 46).bind λd58=>brk (d58.1) ((ie T d58.2.1).bind λd60=>brk (fits (t3.2.2.2.2.2.2.2.2.1.length+[d60.1].length)) (ja T d60.2.1 (t3.1,t3.2.1,t3.2.2.1,t3.2.2.2.1,t3.2.2.2.2.1,ar.wrap (t3.2.2.2.2.2.1+1),t3.2.2.2.2.2.2.1,t3.2.2.2.2.2.2.2.1,t3.2.2.2.2.2.2.2.2.1++[d60.1],())) az) (U (an (d58.2.1,t3,()))):=eL Tryz.func123
def sG (t0 t3 t74 t75 t76):kX (S.step T) t0 t3 t74 t75 t76=brk (t76<t75) (brk (0<=t76&&t76<t74.length) (brk (fits (t3.2.2.2.2.2.2.2.2.1.length+[t74.getD t76.toNat 0].length)) (kX T t0 (t3.1,t3.2.1,t3.2.2.1,t3.2.2.2.1,t3.2.2.2.2.1,t3.2.2.2.2.2.1,t3.2.2.2.2.2.2.1,t3.2.2.2.2.2.2.2.1,t3.2.2.2.2.2.2.2.2.1++[t74.getD t76.toNat 0],()) t74 t75 (ar.wrap (t76+1))) az) az) (U (an (t0,t3,()))):=eL Tryz.func123
def xr (t0):kO (S.step T) t0=(dN T t0).bind λd6=>(jy T d6.2.1 d6.1 [d6.1.2.2.2.2.2.1]).bind (dH λy3=>U (y3.2.1,y3.1,())):=eF Tryz.func126
def ql (t0 t3 t4):jy (S.step T) t0 t3 t4=(lj T t0 46).bind λd11=>brk (d11.1) ((dN T d11.2.1).bind λd13=>brk (fits (t4.length+([d13.1.2.2.2.2.2.1]:List LI).length)) (jy T d13.2.1 d13.1 (t4++([d13.1.2.2.2.2.2.1]:List LI))) az) (U (an (d11.2.1,t4,()))):=eL Tryz.func126
def rR (t0 t1):mn (S.step T) t0 t1=(eG T 7 t1).bind λd11=>(gA T t0 0).bind λd13=>(gP T d13.2.1).bind λd15=>(fC T d15.2.1).bind λd21=>brk (d21.1=15) ((dN T d21.2.1).bind λd25=>(mn T d25.2.1 d25.1).bind λd26=>brk (fits ([d13.1,d15.1].length+[d26.1].length)) ((dJ T d26.2.1 (d11.1.1,d11.1.2.1,d11.1.2.2.1,d11.1.2.2.2.1,d11.1.2.2.2.2.1,d11.1.2.2.2.2.2.1,d11.1.2.2.2.2.2.2.1,d11.1.2.2.2.2.2.2.2.1,[d13.1,d15.1]++[d26.1],())).bind λd45=>U (d45.1,d45.2.1,((),(),(),(),(),(),()),())) az) ((lj T d21.2.1 16).bind λd34=>brk (d34.1) ((gP T d34.2.1).bind λd36=>brk (fits ([d13.1,d15.1].length+[d36.1].length)) ((dJ T d36.2.1 (d11.1.1,d11.1.2.1,d11.1.2.2.1,d11.1.2.2.2.1,d11.1.2.2.2.2.1,d11.1.2.2.2.2.2.1,d11.1.2.2.2.2.2.2.1,d11.1.2.2.2.2.2.2.2.1,[d13.1,d15.1]++[d36.1],())).bind λd45=>U (d45.1,d45.2.1,((),(),(),(),(),(),()),())) az) ((dJ T d34.2.1 (d11.1.1,d11.1.2.1,d11.1.2.2.1,d11.1.2.2.2.1,d11.1.2.2.2.2.1,d11.1.2.2.2.2.2.1,d11.1.2.2.2.2.2.2.1,d11.1.2.2.2.2.2.2.2.1,([d13.1,d15.1]:LI),())).bind λd45=>U (d45.1,d45.2.1,((),(),(),(),(),(),()),()))):=eF Tryz.func131
def yK (t0 t1):oe (S.step T) t0 t1=(kO T t0).bind λd10=>(eG T 10 t1).bind λd12=>(dN T d10.2.1).bind λd16=>brk (d16.1.1=47) ((jd T d16.2.1).bind λd21=>(gP T d21.2.1).bind λd29=>brk (fits (d21.1.length+[d29.1].length)) ((dJ T d29.2.1 (9,d12.1.2.1,d12.1.2.2.1,d12.1.2.2.2.1,d12.1.2.2.2.2.1,d12.1.2.2.2.2.2.1,d12.1.2.2.2.2.2.2.1,d10.1,d21.1++[d29.1],())).bind λd38=>U (d38.1,d38.2.1,((),(),(),(),(),(),()),())) az) ((gA T d16.2.1 0).bind λd24=>(gP T d24.2.1).bind λd29=>brk (fits ([d24.1].length+[d29.1].length)) ((dJ T d29.2.1 (d12.1.1,d12.1.2.1,d12.1.2.2.1,d12.1.2.2.2.1,d12.1.2.2.2.2.1,d12.1.2.2.2.2.2.1,d12.1.2.2.2.2.2.2.1,d10.1,[d24.1]++[d29.1],())).bind λd38=>U (d38.1,d38.2.1,((),(),(),(),(),(),()),())) az):=eF Tryz.func132
def eX (t0):eR (S.step T) t0=(fC T t0).bind λd21=>brk (d21.1=42) ((gP T d21.2.1).bind λd24=>U d24) ((fC T d21.2.1).bind λd26=>brk (d26.1=1) ((ny T d26.2.1).bind λd34=>U d34) ((fC T d26.2.1).bind λd30=>brk (d30.1=40) ((ny T d30.2.1).bind λd34=>U d34) ((dN T d30.2.1).bind λd36=>brk (d36.1.1=22) ((eG T 2 d36.1).bind λd42=>(kO T d36.2.1).bind λd44=>(lj T d44.2.1 47).bind λd47=>brk (d47.1) ((jd T d47.2.1).bind λd49=>(dJ T d49.2.1 (d42.1.1,d42.1.2.1,d42.1.2.2.1,d42.1.2.2.2.1,d42.1.2.2.2.2.1,d42.1.2.2.2.2.2.1,d42.1.2.2.2.2.2.2.1,d44.1,d49.1,())).bind λd53=>U (d53.1,d53.2.1,())) ((dJ T d47.2.1 (d42.1.1,d42.1.2.1,d42.1.2.2.1,d42.1.2.2.2.1,d42.1.2.2.2.2.1,d42.1.2.2.2.2.2.1,d42.1.2.2.2.2.2.2.1,d44.1,d42.1.2.2.2.2.2.2.2.2)).bind λd53=>U (d53.1,d53.2.1,()))) (brk (d36.1.1=13) ((eG T 3 d36.1).bind λd57=>(kO T d36.2.1).bind λd59=>(dN T d59.2.1).bind λd62=>(gA T d62.2.1 0).bind λd64=>(dJ T d64.2.1 (d57.1.1,d57.1.2.1,d57.1.2.2.1,d57.1.2.2.2.1,d57.1.2.2.2.2.1,d57.1.2.2.2.2.2.1,d57.1.2.2.2.2.2.2.1,d59.1,([d64.1]:LI),())).bind λd70=>U (d70.1,d70.2.1,())) (brk (d36.1.1=18) ((eG T 4 d36.1).bind λd74=>(dN T d36.2.1).bind λd76=>brk (0<=d76.2.1.2.1&&d76.2.1.2.1<(d76.2.1.1.length:Int)) ((eG T 36 (at_ (τ:=di) d76.2.1.1 d76.2.1.2.1)).bind λd92=>(rB T d76.2.1 d92.1).bind λd93=>(dJ T d93.2.1 (d74.1.1,d74.1.2.1,d74.1.2.2.1,d74.1.2.2.2.1,d74.1.2.2.2.2.1,d74.1.2.2.2.2.2.1,d74.1.2.2.2.2.2.2.1,([d76.1.2.2.2.2.2.1]:List LI),([d93.1]:LI),())).bind λd99=>U (d99.1,d99.2.1,())) az) (brk (d36.1.1=20) ((mn T d36.2.1 d36.1).bind λd104=>U (d104.1,d104.2.1,())) (brk (d36.1.1=31) ((gA T d36.2.1 0).bind λd108=>(gP T d108.2.1).bind λd110=>(eG T 8 d36.1).bind λd112=>(dJ T d110.2.1 (d112.1.1,d112.1.2.1,d112.1.2.2.1,d112.1.2.2.2.1,d112.1.2.2.2.2.1,d112.1.2.2.2.2.2.1,d112.1.2.2.2.2.2.2.1,d112.1.2.2.2.2.2.2.2.1,([d108.1,d110.1]:LI),())).bind λd119=>U (d119.1,d119.2.1,())) (brk (d36.1.1=19) ((oe T d36.2.1 d36.1).bind λd124=>U (d124.1,d124.2.1,())) (brk (d36.1.1=11) ((eG T 11 d36.1).bind λd129=>(dJ T d36.2.1 d129.1).bind λd130=>U (d130.1,d130.2.1,())) (brk (d36.1.1=23) ((eG T 12 d36.1).bind λd135=>(dJ T d36.2.1 d135.1).bind λd136=>U (d136.1,d136.2.1,())) (brk (d36.1.1=27) ((eG T 13 d36.1).bind λd140=>(fC T d36.2.1).bind λd142=>(fZ T d142.1).bind λd143=>brk (d143.1) ((jd T d142.2.1).bind λd145=>(dJ T d145.2.1 (d140.1.1,d140.1.2.1,d140.1.2.2.1,d140.1.2.2.2.1,d140.1.2.2.2.2.1,d140.1.2.2.2.2.2.1,d140.1.2.2.2.2.2.2.1,d140.1.2.2.2.2.2.2.2.1,d145.1,())).bind λd149=>U (d149.1,d149.2.1,())) ((dJ T d142.2.1 d140.1).bind λd149=>U (d149.1,d149.2.1,()))) (brk (d36.1.1=30) ((gP T d36.2.1).bind λd153=>(dN T d153.2.1).bind λd155=>(eG T 14 d36.1).bind λd157=>(kO T d155.2.1).bind λd159=>(gP T d159.2.1).bind λd162=>(dJ T d162.2.1 (d157.1.1,d157.1.2.1,d157.1.2.2.1,d157.1.2.2.2.1,d157.1.2.2.2.2.1,d157.1.2.2.2.2.2.1,d157.1.2.2.2.2.2.2.1,d159.1,([d153.1,d162.1]:LI),())).bind λd169=>U (d169.1,d169.2.1,())) (brk (d36.1.1=14) ((kK T d36.2.1 d36.1 16).bind (dH (λaK6=>U (aK6.2.1,aK6.1,())))) ((kK T d36.2.1 d36.1 15).bind (dH (λaK6=>U (aK6.2.1,aK6.1,()))))))))))))))))):=eF Tryz.func61
def ug (t0 t3 t17):kK (S.step T) t0 t3 t17=(eG T t17 t3).bind λd175=>brk (t3.1=14) ((ie T t0).bind λd180=>(dJ T d180.2.1 (d175.1.1,d175.1.2.1,d175.1.2.2.1,d175.1.2.2.2.1,d175.1.2.2.2.2.1,d175.1.2.2.2.2.2.1,d175.1.2.2.2.2.2.2.1,d175.1.2.2.2.2.2.2.2.1,([d180.1]:LI),())).bind λd188=>U (an (d188.2.1,d188.1,()))) ((gA T t0 0).bind λd182=>(dJ T d182.2.1 (d175.1.1,d175.1.2.1,d175.1.2.2.1,d175.1.2.2.2.1,d175.1.2.2.2.2.1,d175.1.2.2.2.2.2.1,d175.1.2.2.2.2.2.2.1,d175.1.2.2.2.2.2.2.2.1,([d182.1]:LI),())).bind λd188=>U (an (d188.2.1,d188.1,()))):=eJ Tryz.func61
def xt (t0 t1):lQ (S.step T) t0 t1=(gM T t0 t1 []).bind (dH λy2=>U (y2.2.1,y2.1,(),())):=eF Tryz.func26
def qk (t0 t1 t5):gM (S.step T) t0 t1 t5=(fC T t0).bind λd8=>brk (!(d8.1=t1)) ((lj T d8.2.1 5).bind λd12=>brk (d12.1) (gM T d12.2.1 t1 t5) ((eR T d12.2.1).bind λd14=>brk (fits (t5.length+[d14.1].length)) (gM T d14.2.1 t1 (t5++[d14.1])) az)) (U (an (d8.2.1,t5,()))):=eL Tryz.func26
def GJ (t0 t1):vB (S.step T) t0 t1=(lQ T (t1,0,[],()) 6).bind λd14=>brk (fits (d14.2.1.2.2.1.length+([(1,0,(t0.length:Int),1,0,0,[],[],d14.1,())]:List cZ.den).length)) (U ((d14.2.1.2.2.1++([(1,0,(t0.length:Int),1,0,0,[],[],d14.1,())]:List cZ.den),()),cW)) none:=eF Tryz.func11
def Iq (t0):qz (S.step T) t0=brk (1<=t0) (U (I (t0<=16),cV)) (U (aq,cV)):=eF Tryz.func62
def KQ (t0 t1 t2):ft (S.step T) t0 t1 t2=brk (0<=t2&&t2<t1.2.2.2.2.2.2.2.2.1.length) (brk (0<=t1.2.2.2.2.2.2.2.2.1.getD t2.toNat 0&&t1.2.2.2.2.2.2.2.2.1.getD t2.toNat 0<(t0.1.length:Int)) (U ((at_ (τ:=cZ) t0.1 (t1.2.2.2.2.2.2.2.2.1.getD t2.toNat 0)).1,nR)) az) none:=eF Tryz.func134
def HU (t0 t1 t2 t3 t4):ed (S.step T) t0 t1 t2 t3 t4=brk (t1) (brk (t2) (brk (t3) (brk (t4) (U (av,eN)) (U (I ((t0.2.2.2.2.2.2.2.1.length:Int)=0),eN))) (brk (t0.2.2.2.2.2.2.1=[]) (brk (t4) (U (av,eN)) (U (I ((t0.2.2.2.2.2.2.2.1.length:Int)=0),eN))) (U (aq,eN)))) (brk (t0.2.2.2.2.2.1=0) (brk (t3) (brk (t4) (U (av,eN)) (U (I ((t0.2.2.2.2.2.2.2.1.length:Int)=0),eN))) (brk (t0.2.2.2.2.2.2.1=[]) (brk (t4) (U (av,eN)) (U (I ((t0.2.2.2.2.2.2.2.1.length:Int)=0),eN))) (U (aq,eN)))) (U (aq,eN)))) (brk (t0.2.2.2.2.1=0) (brk (t2) (brk (t3) (brk (t4) (U (av,eN)) (U (I ((t0.2.2.2.2.2.2.2.1.length:Int)=0),eN))) (brk (t0.2.2.2.2.2.2.1=[]) (brk (t4) (U (av,eN)) (U (I ((t0.2.2.2.2.2.2.2.1.length:Int)=0),eN))) (U (aq,eN)))) (brk (t0.2.2.2.2.2.1=0) (brk (t3) (brk (t4) (U (av,eN)) (U (I ((t0.2.2.2.2.2.2.2.1.length:Int)=0),eN))) (brk (t0.2.2.2.2.2.2.1=[]) (brk (t4) (U (av,eN)) (U (I ((t0.2.2.2.2.2.2.2.1.length:Int)=0),eN))) (U (aq,eN)))) (U (aq,eN)))) (U (aq,eN))):=eF Tryz.func135
def tm (t0):lF (S.step T) t0=brk ((t0.length:Int)=0) (U (aq,cV)) (brk (40<(t0.length:Int)) (U (aq,cV)) (brk (0<(t0.length:Int)) ((mR T (t0.getD 0 0)).bind λd16=>brk (!d16.1) (U (aq,cV)) ((iH T t0 0).bind λd21=>brk (d21.1.2.1<0) (brk (d21.1.1.1=1) (U (I (d21.1.1.2.2.1=(t0.length:Int)),cV)) (U (aq,cV))) (U (aq,cV)))) az)):=eF Tryz.func140
def GN (t0 t1 t2):lJ (S.step T) t0 t1 t2=brk (t0.2.2.2.2.2.2.2.1.length<t1) (U (aq,oC)) (brk (t2<t0.2.2.2.2.2.2.2.1.length) (U (aq,oC)) ((j0 T t0.2.2.2.2.2.2.2.1 t0.2.2.2.2.2.2.2.1.length 0).bind (ep (λy4=>U (y4.1,oC)) λy4=>U (av,oC)))):=eF Tryz.func136
theorem wx (t22 t23 t24):j0 (S.step T) t22 t23 t24=brk (t24<t23) (brk (0<=t24&&t24<t22.length) ((lF T (t22.getD t24.toNat [])).bind λd29=>brk (!d29.1) (U (an (aq,()))) (j0 T t22 t23 (ar.wrap (t24+1)))) az) (U (aE (an ()))):=eL Tryz.func136
def Ih (t0):A9 (S.step T) t0=brk (20<=t0) (U (I (t0<=37),cV)) (U (aq,cV)):=eF Tryz.func175
def GZ (t0 t1 t2 t3):dY (S.step T) t0 t1 t2 t3=(rM T t3 t0 t1 t2).bind (ep (λy2=>U (y2.1,gr)) λy2=>U (av,gr)):=eF Tryz.func137
def wC (t3 t4 t5 t9):rM (S.step T) t3 t4 t5 t9=brk (t9<t3) (brk (0<=t9&&t9<t5.2.2.2.2.2.2.2.2.1.length) (brk (0<=t5.2.2.2.2.2.2.2.2.1.getD t9.toNat 0&&t5.2.2.2.2.2.2.2.2.1.getD t9.toNat 0<(t4.1.length:Int)) ((A9 T (at_ (τ:=cZ) t4.1 (t5.2.2.2.2.2.2.2.2.1.getD t9.toNat 0)).1).bind λd26=>brk (!d26.1) (U (an (aq,()))) (rM T t3 t4 t5 (ar.wrap (t9+1)))) az) az) (U (aE (an ()))):=eL Tryz.func137
def Fc (t0):yc (S.step T) t0=brk (t0=26) (U (av,cV)) (brk (t0=32) (U (av,cV)) (U (I (t0=33),cV))):=eF Tryz.func138
def Ck (t0 t1):qL (S.step T) t0 t1=brk (t1.1=1) ((gX T t0 t1 t1.2.2.2.2.2.2.2.2.1.length 0).bind (ep (λy5=>U (y5.1,du)) λy5=>(ed T y5.1 aq aq aq aq).bind λd29=>U (d29.1,du))) (brk (t1.1=2) ((ed T t1 aq aq aq av).bind λd33=>brk (d33.1) ((lJ T t1 1 200).bind λd36=>brk (d36.1) ((dY T t0 t1 0 t1.2.2.2.2.2.2.2.2.1.length).bind λd42=>U (d42.1,du)) (U (aq,du))) (U (aq,du))) (brk (t1.1=3) ((ed T t1 aq aq aq av).bind λd47=>brk (d47.1) ((lJ T t1 1 1).bind λd50=>brk (d50.1) (brk ((t1.2.2.2.2.2.2.2.2.1.length:Int)=1) ((dY T t0 t1 0 1).bind λd59=>U (d59.1,du)) (U (aq,du))) (U (aq,du))) (U (aq,du))) (brk (t1.1=4) ((ed T t1 aq aq aq av).bind λd64=>brk (d64.1) ((lJ T t1 1 1).bind λd67=>brk (d67.1) (brk ((t1.2.2.2.2.2.2.2.2.1.length:Int)=1) ((ft T t0 t1 0).bind λd76=>U (I (d76.1=36),du)) (U (aq,du))) (U (aq,du))) (U (aq,du))) (brk (t1.1=5) ((ed T t1 aq av aq aq).bind λd82=>brk (!d82.1) (U (aq,du)) (brk (t1.2.2.2.2.2.1<1) (U (aq,du)) (brk ((t1.2.2.2.2.2.2.2.2.1.length:Int)<=t1.2.2.2.2.2.1) (U (aq,du)) ((gK T t0 t1 t1.2.2.2.2.2.2.2.2.1.length 0).bind (ep (λzi=>U (zi.1,du)) λzi=>(dY T zi.1 zi.2.1 zi.2.1.2.2.2.2.2.1 zi.2.2.1).bind λd112=>U (d112.1,du)))))) (brk (t1.1=6) ((lO T t0 t1 t1.2.2.2.2.2.2.2.2.1.length t1.1 (t1.1=6)).bind (ep (λL6=>U (L6.1,du)) λL6=>(iX T L6.1 L6.2.1 L6.2.2.1).bind (dH λnj=>U (nj.1,du)))) ((lO T t0 t1 t1.2.2.2.2.2.2.2.2.1.length t1.1 (t1.1=16)).bind (ep (λL6=>U (L6.1,du)) λL6=>(iX T L6.1 L6.2.1 L6.2.2.1).bind (dH λnj=>U (nj.1,du))))))))):=eF Tryz.func63
def yq (t2 t3 t5 t12 t113):lO (S.step T) t2 t3 t5 t12 t113=brk (t113) ((ed T t3 aq aq aq aq).bind λd117=>brk (d117.1) (brk (t5=1) ((ft T t2 t3 0).bind λd125=>U (an (I (d125.1=34),()))) (U (an (aq,())))) (U (an (aq,())))) (brk (t12=7) ((ed T t3 aq aq aq aq).bind λd131=>brk (!d131.1) (U (an (aq,()))) (brk (t5<2) (U (an (aq,()))) (brk (3<t5) (U (an (aq,()))) ((dY T t2 t3 0 1).bind λd144=>brk (!d144.1) (U (an (aq,()))) ((ft T t2 t3 1).bind λd150=>brk (!(d150.1=1)) (U (an (aq,()))) (brk (t5=2) (U (an (av,()))) ((ft T t2 t3 2).bind λd158=>brk (d158.1=1) (U (an (av,()))) ((ft T t2 t3 2).bind λd164=>U (an (I (d164.1=7),())))))))))) (brk (t12=8) ((ed T t3 aq aq aq aq).bind λd170=>brk (d170.1) (brk (t5=2) ((dY T t2 t3 0 1).bind λd178=>brk (d178.1) ((ft T t2 t3 1).bind λd183=>U (an (I (d183.1=1),()))) (U (an (aq,())))) (U (an (aq,())))) (U (an (aq,())))) (brk (t12=9) ((ed T t3 aq aq aq av).bind λd189=>brk (d189.1) ((lJ T t3 1 1).bind λd192=>brk (d192.1) (brk (t5=3) ((dY T t2 t3 0 (ar.wrap (t5 - 1))).bind λd207=>brk (d207.1) ((ft T t2 t3 (ar.wrap (t5 - 1))).bind λd214=>U (an (I (d214.1=1),()))) (U (an (aq,())))) (brk (t5=4) ((dY T t2 t3 0 (ar.wrap (t5 - 1))).bind λd207=>brk (d207.1) ((ft T t2 t3 (ar.wrap (t5 - 1))).bind λd214=>U (an (I (d214.1=1),()))) (U (an (aq,())))) (U (an (aq,()))))) (U (an (aq,())))) (U (an (aq,())))) (brk (t12=10) ((ed T t3 aq aq aq av).bind λd220=>brk (d220.1) ((lJ T t3 1 200).bind λd223=>brk (d223.1) (brk (t5=2) ((dY T t2 t3 0 1).bind λd232=>brk (d232.1) ((ft T t2 t3 1).bind λd237=>U (an (I (d237.1=1),()))) (U (an (aq,())))) (U (an (aq,())))) (U (an (aq,())))) (U (an (aq,())))) (brk (t12=11) ((kh T t2 t3 t5 t12 (t12=11)).bind (ep (λar1=>U (an ar1)) λar1=>U (aE (an ar1)))) ((kh T t2 t3 t5 t12 (t12=12)).bind (ep (λar1=>U (an ar1)) λar1=>U (aE (an ar1))))))))):=eJ Tryz.func63
def yu (t2 t3 t5 t12 t240):kh (S.step T) t2 t3 t5 t12 t240=brk (t240) ((ed T t3 aq aq aq aq).bind λd244=>brk (d244.1) (U (an (I (t5=0),()))) (U (an (aq,())))) (brk (t12=13) ((ed T t3 aq aq aq aq).bind λd252=>brk (d252.1) ((dY T t2 t3 0 t5).bind λd257=>U (an (d257.1,()))) (U (an (aq,())))) (brk (t12=14) ((ed T t3 aq aq aq av).bind λd262=>brk (d262.1) ((lJ T t3 1 2).bind λd265=>brk (d265.1) (brk (t5=2) ((ft T t2 t3 0).bind λd274=>brk (d274.1=1) ((ft T t2 t3 1).bind λd280=>U (an (I (d280.1=1),()))) (U (an (aq,())))) (U (an (aq,())))) (U (an (aq,())))) (U (an (aq,())))) (U (aE (an (t2,t3,t5,())))))):=eJ Tryz.func63
def yn (t2 t3 t5):iX (S.step T) t2 t3 t5=brk (t3.1=15) ((ed T t3 aq aq aq aq).bind λd288=>brk (d288.1) (brk (t5=1) ((dY T t2 t3 0 1).bind λd297=>U (an (d297.1,()))) (U (an (aq,())))) (U (an (aq,())))) (U (an (aq,()))):=eJ Tryz.func63
theorem sH (t2 t3 t17 t18):gX (S.step T) t2 t3 t17 t18=brk (t18<t17) ((ft T t2 t3 t18).bind λd24=>(qz T d24.1).bind λd25=>brk (!d25.1) (U (an (aq,()))) (gX T t2 t3 t17 (ar.wrap (t18+1)))) (U (aE (an (t3,())))):=eL Tryz.func63
def r9 (t2 t3 t5 t7):gK (S.step T) t2 t3 t5 t7=brk (t7<t3.2.2.2.2.2.1) ((ft T t2 t3 t7).bind λd104=>(yc T d104.1).bind λd105=>brk (!d105.1) (U (an (aq,()))) (gK T t2 t3 t5 (ar.wrap (t7+1)))) (U (aE (an (t2,t3,t5,())))):=eL Tryz.func63
def uO (t0):sO (S.step T) t0=brk ((t0.length:Int)=0) (U (aq,cV)) (brk (40<(t0.length:Int)) (U (aq,cV)) (brk (0<(t0.length:Int)) ((gx T (t0.getD 0 0)).bind λd16=>brk (!d16.1) (U (aq,cV)) ((iH T t0 0).bind λd21=>brk (d21.1.2.1<0) (brk (d21.1.1.1=3) (U (I (d21.1.1.2.2.1=(t0.length:Int)),cV)) (U (aq,cV))) (U (aq,cV)))) az)):=eF Tryz.func139
def AQ (t0 t1):pX (S.step T) t0 t1=brk (t1.1=20) ((iY T t0 t1 t1.2.2.2.2.2.2.2.2.1.length t1.1 (t1.1=20)).bind (ep (λy7=>U (y7.1,du)) λy7=>(gw T y7.1 y7.2.1 y7.2.2.1).bind (dH λnj=>U (nj.1,du)))) (brk (t1.1=21) ((iY T t0 t1 t1.2.2.2.2.2.2.2.2.1.length t1.1 (t1.1=21)).bind (ep (λy7=>U (y7.1,du)) λy7=>(gw T y7.1 y7.2.1 y7.2.2.1).bind (dH λnj=>U (nj.1,du)))) (brk (t1.1=22) ((iY T t0 t1 t1.2.2.2.2.2.2.2.2.1.length t1.1 (t1.1=22)).bind (ep (λy7=>U (y7.1,du)) λy7=>(gw T y7.1 y7.2.1 y7.2.2.1).bind (dH λnj=>U (nj.1,du)))) ((iY T t0 t1 t1.2.2.2.2.2.2.2.2.1.length t1.1 (t1.1=27)).bind (ep (λy7=>U (y7.1,du)) λy7=>(gw T y7.1 y7.2.1 y7.2.2.1).bind (dH λnj=>U (nj.1,du)))))):=eF Tryz.func64
def yt (t2 t3 t5 t12 t13):iY (S.step T) t2 t3 t5 t12 t13=brk (t13) (brk (t5=0) ((ed T t3 aq aq aq aq).bind λd22=>U (an (d22.1,()))) (U (an (aq,())))) (brk (t12=23) (brk (t5=0) ((ed T t3 aq av aq aq).bind λd30=>U (an (d30.1,()))) (U (an (aq,())))) (brk (t12=24) (brk (t5=0) ((ed T t3 aq aq av aq).bind λd38=>brk (d38.1) ((sO T t3.2.2.2.2.2.2.1).bind λd43=>U (an (d43.1,()))) (U (an (aq,())))) (U (an (aq,())))) (brk (t12=25) (brk (t5=0) ((ed T t3 aq aq av aq).bind λd51=>brk (d51.1) (U (an (I ((t3.2.2.2.2.2.2.1.length:Int)<=4000),()))) (U (an (aq,())))) (U (an (aq,())))) (brk (t12=26) (brk (t5=0) ((ed T t3 aq aq av aq).bind λd65=>brk (d65.1) ((lF T t3.2.2.2.2.2.2.1).bind λd70=>U (an (d70.1,()))) (U (an (aq,())))) (U (an (aq,())))) (brk (t12=28) ((jM T t2 t3 t5 t12 (t12=28)).bind (ep (λZD=>U (an ZD)) λZD=>U (aE (an ZD)))) ((jM T t2 t3 t5 t12 (t12=29)).bind (ep (λZD=>U (an ZD)) λZD=>U (aE (an ZD))))))))):=eJ Tryz.func64
def xU (t2 t3 t5 t12 t72):jM (S.step T) t2 t3 t5 t12 t72=brk (t72) (brk (t5=2) ((dY T t2 t3 0 2).bind λd80=>brk (d80.1) ((ed T t3 aq aq aq aq).bind λd84=>U (an (d84.1,()))) (U (an (aq,())))) (U (an (aq,())))) (brk (t12=32) (brk (t5=2) ((dY T t2 t3 0 2).bind λd93=>brk (d93.1) ((ft T t2 t3 0).bind λd98=>brk (!(d98.1=27)) ((ed T t3 aq aq aq aq).bind λd103=>U (an (d103.1,()))) (U (an (aq,())))) (U (an (aq,())))) (U (an (aq,())))) (brk (t12=30) (brk (t5=1) ((dY T t2 t3 0 1).bind λd112=>brk (d112.1) ((ed T t3 av aq aq aq).bind λd116=>brk (d116.1) (brk (19<=t3.2.2.2.2.1) (U (an (I (t3.2.2.2.2.1<=22),()))) (U (an (aq,())))) (U (an (aq,())))) (U (an (aq,())))) (U (an (aq,())))) (brk (t12=31) (brk (t5=2) ((dY T t2 t3 0 2).bind λd135=>brk (d135.1) ((ed T t3 av aq aq aq).bind λd139=>brk (d139.1) (brk (1<=t3.2.2.2.2.1) (U (an (I (t3.2.2.2.2.1<=18),()))) (U (an (aq,())))) (U (an (aq,())))) (U (an (aq,())))) (U (an (aq,())))) (brk (t12=33) (brk (t5=1) ((dY T t2 t3 0 1).bind λd158=>brk (d158.1) ((ft T t2 t3 0).bind λd163=>brk (!(d163.1=27)) ((ed T t3 aq aq av aq).bind λd168=>brk (d168.1) ((lF T t3.2.2.2.2.2.2.1).bind λd173=>U (an (d173.1,()))) (U (an (aq,())))) (U (an (aq,())))) (U (an (aq,())))) (U (an (aq,())))) (brk (t12=34) (brk (1<=t5) ((dY T t2 t3 0 t5).bind λd183=>brk (d183.1) ((ft T t2 t3 0).bind λd188=>brk (!(d188.1=27)) ((ed T t3 aq aq aq aq).bind λd193=>U (an (d193.1,()))) (U (an (aq,())))) (U (an (aq,())))) (U (an (aq,())))) (brk (t12=35) ((gu T t2 t3 t3.2.2.2.2.2.2.2.2.1.length 0).bind (ep (λLb=>U (an Lb)) λLb=>(ed T Lb.1 aq aq aq aq).bind λd215=>U (an (d215.1,())))) (brk (t12=36) (brk (t5=1) ((ft T t2 t3 0).bind λd223=>brk (d223.1=1) ((ed T t3 av aq aq av).bind λd228=>brk (d228.1) ((lJ T t3 0 200).bind λd232=>brk (d232.1) (brk (t3.2.2.2.2.1=0) (U (an (av,()))) (U (an (I (t3.2.2.2.2.1=1),())))) (U (an (aq,())))) (U (an (aq,())))) (U (an (aq,())))) (U (an (aq,())))) (brk (t12=37) (brk (t5=1) ((ft T t2 t3 0).bind λd251=>brk (d251.1=34) ((ed T t3 aq aq aq aq).bind λd262=>U (an (d262.1,()))) ((ft T t2 t3 0).bind λd256=>brk (d256.1=27) ((ed T t3 aq aq aq aq).bind λd262=>U (an (d262.1,()))) (U (an (aq,()))))) (U (an (aq,())))) (brk (t12=40) (brk (t5=1) ((dY T t2 t3 0 1).bind λd271=>brk (d271.1) ((ed T t3 aq aq aq aq).bind λd275=>U (an (d275.1,()))) (U (an (aq,())))) (U (an (aq,())))) (brk (t12=41) (brk (t5=2) ((dY T t2 t3 0 2).bind λd284=>brk (d284.1) ((ed T t3 aq aq aq aq).bind λd288=>U (an (d288.1,()))) (U (an (aq,())))) (U (an (aq,())))) (U (aE (an (t2,t3,t5,())))))))))))))):=eJ Tryz.func64
def xW (t2 t3 t5):gw (S.step T) t2 t3 t5=brk (t3.1=42) (brk (t5=1) ((dY T t2 t3 0 1).bind λd300=>brk (d300.1) ((ed T t3 aq aq av aq).bind λd304=>brk (d304.1) ((lF T t3.2.2.2.2.2.2.1).bind λd309=>U (an (d309.1,()))) (U (an (aq,())))) (U (an (aq,())))) (U (an (aq,())))) (U (an (aq,()))):=eJ Tryz.func64
theorem ry (t2 t3 t199 t200):gu (S.step T) t2 t3 t199 t200=brk (t200<t199) ((ft T t2 t3 t200).bind λd206=>brk (d206.1<40) (U (an (aq,()))) (brk (42<d206.1) (U (an (aq,()))) (gu T t2 t3 t199 (ar.wrap (t200+1))))) (U (aE (an (t3,())))):=eL Tryz.func64
def E9 (t0 t1):lH (S.step T) t0 t1=brk (0<=t1&&t1<t0.1.length) (brk ((at_ (τ:=cZ) t0.1 t1).2.1<0) (U (aq,dB)) (brk ((at_ (τ:=cZ) t0.1 t1).2.2.1<(at_ (τ:=cZ) t0.1 t1).2.1) (U (aq,dB)) (brk ((at_ (τ:=cZ) t0.1 t1).2.2.2.1<0) (U (aq,dB)) (brk (200<((at_ (τ:=cZ) t0.1 t1).2.2.2.2.2.2.2.2.1.length:Int)) (U (aq,dB)) ((iC T t1 t0 (at_ (τ:=cZ) t0.1 t1) (at_ (τ:=cZ) t0.1 t1).2.2.2.2.2.2.2.2.1 ((at_ (τ:=cZ) t0.1 t1).2.2.2.2.2.2.2.2.1.length) 0).bind (ep (λy5=>U (y5.1,dB)) λy5=>(qz T y5.2.1.1).bind λd51=>brk (d51.1) ((qL T y5.1 y5.2.1).bind λd54=>U (d54.1,dB)) ((pX T y5.1 y5.2.1).bind λd57=>U (d57.1,dB)))))))) none:=eF Tryz.func27
theorem vh (t1 t2 t5 t35 t36 t37):iC (S.step T) t1 t2 t5 t35 t36 t37=brk (t37<t36) (brk (0<=t37&&t37<t35.length) (brk (t35.getD t37.toNat 0<0) (U (an (aq,()))) (brk (t1<=t35.getD t37.toNat 0) (U (an (aq,()))) (iC T t1 t2 t5 t35 t36 (ar.wrap (t37+1))))) az) (U (aE (an (t2,t5,())))):=eL Tryz.func27
def G1 (t0):qR (S.step T) t0=brk (((0<=(t0.1.length:Int))&&(t0.1.length<=(t0.1.length:Int)))&&((t0.1.length:Int)<=lim)) ((jg T (aN ((t0.1.length:Int).toNat) 0) t0.1 t0.1.length 0).bind (dH λy3=>U (y3.1,dO))) none:=eF Tryz.func28
def wF (t3 t15 t16 t17):jg (S.step T) t3 t15 t16 t17=brk (t17<t16) (brk (0<=t17&&t17<t15.length) ((nA T t3 t17 (at_ (τ:=cZ) t15 t17) t17 av (ar.wrap (((at_ (τ:=cZ) t15 t17).2.2.2.2.2.2.2.2.1.length) - 1)) t15 t16 t17).bind (dH λy8=>brk (y8.2.2.2.1) (brk (0<=y8.2.1&&y8.2.1<y8.1.length) (jg T (y8.1.set y8.2.1.toNat (ar.wrap (ar.wrap (y8.2.1 - y8.2.2.1)+1))) y8.2.2.2.2.1 y8.2.2.2.2.2.1 (ar.wrap (y8.2.2.2.2.2.2.1+1))) az) (jg T y8.1 y8.2.2.2.2.1 y8.2.2.2.2.2.1 (ar.wrap (y8.2.2.2.2.2.2.1+1))))) az) (U (an (t3,()))):=eL Tryz.func28
def oU (t3 t4 t5 t6 t7 t8 t15 t16 t17):nA (S.step T) t3 t4 t5 t6 t7 t8 t15 t16 t17=brk (0<=t8) (brk (0<=t8&&t8<t5.2.2.2.2.2.2.2.2.1.length) (brk (!(t5.2.2.2.2.2.2.2.2.1.getD t8.toNat 0=ar.wrap (t6 - 1))) (U (an (t3,t4,t6,aq,t15,t16,t17,()))) (brk (0<=t5.2.2.2.2.2.2.2.2.1.getD t8.toNat 0&&t5.2.2.2.2.2.2.2.2.1.getD t8.toNat 0<(t3.length:Int)) (brk (t3.getD ((t5.2.2.2.2.2.2.2.2.1.getD t8.toNat 0).toNat) 0=0) (U (an (t3,t4,t6,aq,t15,t16,t17,()))) (brk (0<=t5.2.2.2.2.2.2.2.2.1.getD t8.toNat 0&&t5.2.2.2.2.2.2.2.2.1.getD t8.toNat 0<(t3.length:Int)) (nA T t3 t4 t5 (ar.wrap (t6 - t3.getD ((t5.2.2.2.2.2.2.2.2.1.getD t8.toNat 0).toNat) 0)) t7 (ar.wrap (t8 - 1)) t15 t16 t17) az)) az)) az) (U (an (t3,t4,t6,t7,t15,t16,t17,()))):=eL Tryz.func28
def wZ (t0):qA (S.step T) t0=brk ((t0.1.length:Int)=0) (U ((1,0,()),dO)) (brk (3000<(t0.1.length:Int)) (U ((1,0,()),dO)) (brk (0<=ar.wrap (t0.1.length - 1)&&ar.wrap (t0.1.length - 1)<t0.1.length) (brk (!((at_ (τ:=cZ) t0.1 (ar.wrap (t0.1.length - 1))).1=1)) (U ((1,0,()),dO)) ((jR T t0 (0,0,()) t0.1.length 0).bind (ep (λy4=>U (y4.1,dO)) λy4=>(qR T y4.1).bind λd50=>(ir T y4.1 y4.2.1 d50.1 d50.1 d50.1.length 0).bind (ep (λzg=>U (zg.1,dO)) λzg=>brk (0<=ar.wrap (zg.2.2.1.length - 1)&&ar.wrap (zg.2.2.1.length - 1)<zg.2.2.1.length) (brk (!(zg.2.2.1.getD ((ar.wrap (zg.2.2.1.length - 1)).toNat) 0=zg.2.2.1.length)) (U ((3,ar.wrap (zg.2.2.1.length - 1),()),dO)) (brk (((0<=(zg.1.1.length:Int))&&(zg.1.1.length<=(zg.1.1.length:Int)))&&((zg.1.1.length:Int)<=lim)) ((pj T zg.1 zg.2.1 (aN ((zg.1.1.length:Int).toNat) 0) (ar.wrap (zg.1.1.length - 1))).bind (dH λZn=>(jZ T Zn.1 Zn.2.1 Zn.2.1.length 0).bind (ep (λL6=>U (L6.1,dO)) λL6=>U ((0,0,()),dO)))) az)) az)))) az)):=eF Tryz.func12
def xC (t1 t2 t38 t39):jR (S.step T) t1 t2 t38 t39=brk (t39<t38) ((lH T t1 t39).bind λd44=>brk (!d44.1) (U (an ((2,t39,()),()))) (jR T t1 t2 t38 (ar.wrap (t39+1)))) (U (aE (an (t1,t2,())))):=eL Tryz.func12
def wD (t1 t2 t4 t51 t52 t53):ir (S.step T) t1 t2 t4 t51 t52 t53=brk (t53<t52) (brk (0<=t53&&t53<t51.length) (brk (t51.getD t53.toNat 0=0) (U (an ((3,t53,()),()))) (ir T t1 t2 t4 t51 t52 (ar.wrap (t53+1)))) az) (U (aE (an (t1,t2,t4,())))):=eL Tryz.func12
def wo (t1 t2 t7 t8):pj (S.step T) t1 t2 t7 t8=brk (0<=t8) (brk (0<=t8&&t8<t1.1.length) ((pb T t1 t2 t7 t8 (at_ (τ:=cZ) t1.1 t8).2.2.2.2.2.2.2.2.1 ((at_ (τ:=cZ) t1.1 t8).2.2.2.2.2.2.2.2.1.length) 0).bind (dH λTu=>pj T Tu.1 Tu.2.1 Tu.2.2.1 (ar.wrap (Tu.2.2.2.1 - 1)))) az) (U (an (t2,t7,()))):=eL Tryz.func12
def wH (t1 t2 t7 t8 t93 t94 t95):pb (S.step T) t1 t2 t7 t8 t93 t94 t95=brk (t95<t94) (brk (0<=t95&&t95<t93.length) (brk (0<=t8&&t8<t7.length) (brk (0<=t93.getD t95.toNat 0&&t93.getD t95.toNat 0<t7.length) (pb T t1 t2 (t7.set ((t93.getD t95.toNat 0).toNat) (ar.wrap (t7.getD t8.toNat 0+1))) t8 t93 t94 (ar.wrap (t95+1))) az) az) az) (U (an (t1,t2,t7,t8,()))):=eL Tryz.func12
def wO (t2 t108 t109 t110):jZ (S.step T) t2 t108 t109 t110=brk (t110<t109) (brk (0<=t110&&t110<t108.length) (brk (100<t108.getD t110.toNat 0) (U (an ((4,t110,()),()))) (jZ T t2 t108 t109 (ar.wrap (t110+1)))) az) (U (aE (an (t2,())))):=eL Tryz.func12
def tN (t0):qB (S.step T) t0=brk (65536<(t0.length:Int)) (U ((2,0,([],()),()),cV)) ((pF T t0).bind λd13=>brk (0<=d13.1.2.1) (U ((1,d13.1.2.1,([],()),()),cV)) ((vB T t0 d13.1.1).bind λd22=>((qA T d22.1).map λy=>(y.1,(d22.1,()))).bind λd24=>brk (!(d24.1.1=0)) (U ((2,0,([],()),()),cV)) (U ((0,0,d24.2),cV)))):=eF Tryz.func6
def GW (t0 t1):dj (S.step T) t0 t1=brk (fits (t0.2.1.length+t1.length)) (U ((),(t0.1,t0.2.1++t1,t0.2.2),(),())) none:=eF Tryz.func14
def E0 (t0):tO (S.step T) t0=(dj T t0 [10]).bind λd4=>(oB T d4.2.1 0).bind (dH λy2=>U ((),y2)):=eF Tryz.func65
def vg (t0 t2):oB (S.step T) t0 t2=brk (t2<t0.2.2.1) ((dj T t0 [9]).bind λd14=>oB T d14.2.1 (ar.wrap (t2+1))) (U (an (t0,()))):=eL Tryz.func65
def DN (t0 t1):gq (S.step T) t0 t1=brk (0<=t1&&t1<t0.1.1.length) (brk (((at_ (τ:=cZ) t0.1.1 t1).2.2.2.2.2.2.2.2.1.length:Int)=0) ((dj T t0 [123,125]).bind λd20=>U ((),d20.2.1,(),())) ((dj T t0 [123]).bind λd22=>(nL T (d22.2.1.1,d22.2.1.2.1,ar.wrap (d22.2.1.2.2.1+1),()) (at_ (τ:=cZ) t0.1.1 t1).2.2.2.2.2.2.2.2.1 ((at_ (τ:=cZ) t0.1.1 t1).2.2.2.2.2.2.2.2.1.length) 0).bind (dH λy6=>(tO T (y6.1.1,y6.1.2.1,ar.wrap (y6.1.2.2.1 - 1),())).bind λd50=>(dj T d50.2.1 [125]).bind λd52=>U ((),d52.2.1,(),())))) none:=eF Tryz.func29
def uq (t0 t30 t31 t32):nL (S.step T) t0 t30 t31 t32=brk (t32<t31) (brk (0<=t32&&t32<t30.length) ((tO T t0).bind λd37=>(tP T d37.2.1 (t30.getD t32.toNat 0)).bind λd40=>nL T d40.2.1 t30 t31 (ar.wrap (t32+1))) az) (U (an (t0,()))):=eL Tryz.func29
def DS (t0 t1):oE (S.step T) t0 t1=(jF T t0 t1 t1.length 0).bind (dH λy1=>U ((),y1.1,(),())):=eF Tryz.func30
def nF (t0 t6 t7 t8):jF (S.step T) t0 t6 t7 t8=brk (t8<t7) (brk (0<=t8&&t8<t6.length) (brk (0<t8) ((dj T t0 [44,32]).bind λd16=>(dj T d16.2.1 (t6.getD t8.toNat [])).bind λd19=>jF T d19.2.1 t6 t7 (ar.wrap (t8+1))) ((dj T t0 (t6.getD t8.toNat [])).bind λd19=>jF T d19.2.1 t6 t7 (ar.wrap (t8+1)))) az) (U (an (t0,()))):=eL Tryz.func30
def Ha (t0):zu (S.step T) t0=brk (t0.1=29) (U (1,jc)) (brk (t0.1=28) (U (2,jc)) (brk (t0.1=31) ((kR T (ar.wrap (60+t0.2.2.2.2.1))).bind λd17=>U (d17.1.1,jc)) (brk (t0.1=30) (U (11,jc)) (U (12,jc))))):=eF Tryz.func66
def G8 (t0):sP (S.step T) t0=brk (t0.1=29) (U (2,jc)) (brk (t0.1=28) (U (3,jc)) ((kR T (ar.wrap (60+t0.2.2.2.2.1))).bind λd15=>U (d15.1.2.1,jc))):=eF Tryz.func142
def DF (t0 t1 t2 t3):qu (S.step T) t0 t1 t2 t3=(sP T t1).bind λd11=>brk (d11.1=t3) (brk (0<(t1.2.2.2.2.2.2.2.2.1.length:Int)) ((dW T t0 (t1.2.2.2.2.2.2.2.2.1.getD 0 0) (ar.wrap (t3+1))).bind λd22=>(dj T d22.2.1 t2).bind λd25=>brk (1<(t1.2.2.2.2.2.2.2.2.1.length:Int)) ((sP T t1).bind λd32=>(dW T d25.2.1 (t1.2.2.2.2.2.2.2.2.1.getD 1 0) d32.1).bind λd33=>U ((),d33.2.1,((),(),(),(),(),(),(),(),(),()),(),(),())) az) az) (brk (0<(t1.2.2.2.2.2.2.2.2.1.length:Int)) ((dW T t0 (t1.2.2.2.2.2.2.2.2.1.getD 0 0) t3).bind λd22=>(dj T d22.2.1 t2).bind λd25=>brk (1<(t1.2.2.2.2.2.2.2.2.1.length:Int)) ((sP T t1).bind λd32=>(dW T d25.2.1 (t1.2.2.2.2.2.2.2.2.1.getD 1 0) d32.1).bind λd33=>U ((),d33.2.1,((),(),(),(),(),(),(),(),(),()),(),(),())) az) az):=eF Tryz.func67
def DH (t0 t1):wU (S.step T) t0 t1=brk (t1.2.2.2.2.1=21) ((dj T t0 [110,111,116,32]).bind λd33=>(im T d33.2.1 t1).bind (dH λpB=>U ((),pB.1,((),(),(),(),(),(),(),(),(),()),()))) (brk (t1.2.2.2.2.1=22) ((dj T t0 [35]).bind λd37=>(im T d37.2.1 t1).bind (dH λpB=>U ((),pB.1,((),(),(),(),(),(),(),(),(),()),()))) (brk (t1.2.2.2.2.1=20) ((dj T t0 [126]).bind λd41=>(im T d41.2.1 t1).bind (dH λpB=>U ((),pB.1,((),(),(),(),(),(),(),(),(),()),()))) ((dj T t0 [45]).bind λd8=>brk (0<(t1.2.2.2.2.2.2.2.2.1.length:Int)) (brk (0<=t1.2.2.2.2.2.2.2.2.1.getD 0 0&&t1.2.2.2.2.2.2.2.2.1.getD 0 0<(d8.2.1.1.1.length:Int)) (brk ((at_ (τ:=cZ) d8.2.1.1.1 (t1.2.2.2.2.2.2.2.2.1.getD 0 0)).1=30) (brk ((at_ (τ:=cZ) d8.2.1.1.1 (t1.2.2.2.2.2.2.2.2.1.getD 0 0)).2.2.2.2.1=19) ((dj T d8.2.1 [32]).bind λd29=>(im T d29.2.1 t1).bind (dH λpB=>U ((),pB.1,((),(),(),(),(),(),(),(),(),()),()))) ((im T d8.2.1 t1).bind (dH λpB=>U ((),pB.1,((),(),(),(),(),(),(),(),(),()),())))) ((im T d8.2.1 t1).bind (dH λpB=>U ((),pB.1,((),(),(),(),(),(),(),(),(),()),())))) az) az))):=eF Tryz.func69
def Ai (t0 t3):im (S.step T) t0 t3=brk (0<(t3.2.2.2.2.2.2.2.2.1.length:Int)) ((dW T t0 (t3.2.2.2.2.2.2.2.2.1.getD 0 0) 11).bind λd47=>U (an (d47.2.1,()))) none:=eJ Tryz.func69
theorem HY (t0):Bf (S.step T) t0=brk (t0=26) (U (av,cV)) (brk (t0=32) (U (av,cV)) (brk (t0=33) (U (av,cV)) (brk (t0=34) (U (av,cV)) (U (I (t0=37),cV))))):=eF Tryz.func144
def Fm (t0 t1):rC (S.step T) t0 t1=brk (0<=t1&&t1<t0.1.1.length) ((Bf T (at_ (τ:=cZ) t0.1.1 t1).1).bind λd13=>brk (d13.1) ((dW T t0 t1 0).bind λd16=>U ((),d16.2.1,(),())) ((dj T t0 [40]).bind λd18=>(dW T d18.2.1 t1 0).bind λd21=>(dj T d21.2.1 [41]).bind λd23=>U ((),d23.2.1,(),()))) none:=eF Tryz.func70
def DJ (t0 t1):wX (S.step T) t0 t1=(dj T t0 [123]).bind λd8=>(jz T d8.2.1 t1.2.2.2.2.2.2.2.2.1 t1.2.2.2.2.2.2.2.2.1.length 0).bind (dH λy3=>(dj T y3.1 [125]).bind λd71=>U ((),d71.2.1,((),(),(),(),(),(),(),(),(),()),())):=eF Tryz.func71
def qm (t0 t5 t10 t11 t12):nO (S.step T) t0 t5 t10 t11 t12=brk (0<=t5&&t5<t0.1.1.length) (brk ((at_ (τ:=cZ) t0.1.1 t5).1=41) ((dj T t0 [91]).bind λd40=>brk (0<((at_ (τ:=cZ) t0.1.1 t5).2.2.2.2.2.2.2.2.1.length:Int)) ((dW T d40.2.1 ((at_ (τ:=cZ) t0.1.1 t5).2.2.2.2.2.2.2.2.1.getD 0 0) 0).bind λd46=>(dj T d46.2.1 [93,32,61,32]).bind λd48=>brk (1<((at_ (τ:=cZ) t0.1.1 t5).2.2.2.2.2.2.2.2.1.length:Int)) ((dW T d48.2.1 ((at_ (τ:=cZ) t0.1.1 t5).2.2.2.2.2.2.2.2.1.getD 1 0) 0).bind λd54=>U (an (d54.2.1,t10,t11,t12,()))) az) az) (brk ((at_ (τ:=cZ) t0.1.1 t5).1=42) (brk (fits (1+(at_ (τ:=cZ) t0.1.1 t5).2.2.2.2.2.2.1.length)) (brk (fits (([46]++(at_ (τ:=cZ) t0.1.1 t5).2.2.2.2.2.2.1).length+3)) ((dj T t0 ((([46]:LI)++(at_ (τ:=cZ) t0.1.1 t5).2.2.2.2.2.2.1)++([32,61,32]:LI))).bind λd62=>brk (0<((at_ (τ:=cZ) t0.1.1 t5).2.2.2.2.2.2.2.2.1.length:Int)) ((dW T d62.2.1 ((at_ (τ:=cZ) t0.1.1 t5).2.2.2.2.2.2.2.2.1.getD 0 0) 0).bind λd68=>U (an (d68.2.1,t10,t11,t12,()))) az) az) az) (brk (0<((at_ (τ:=cZ) t0.1.1 t5).2.2.2.2.2.2.2.2.1.length:Int)) ((dW T t0 ((at_ (τ:=cZ) t0.1.1 t5).2.2.2.2.2.2.2.2.1.getD 0 0) 0).bind λd36=>U (an (d36.2.1,t10,t11,t12,()))) az))) none:=eJ Tryz.func71
def nJ (t0 t10 t11 t12):jz (S.step T) t0 t10 t11 t12=brk (t12<t11) (brk (0<=t12&&t12<t10.length) (brk (0<t12) ((dj T t0 [44,32]).bind λd20=>(nO T d20.2.1 (t10.getD t12.toNat 0) t10 t11 t12).bind (dH λy7=>jz T y7.1 y7.2.1 y7.2.2.1 (ar.wrap (y7.2.2.2.1+1)))) ((nO T t0 (t10.getD t12.toNat 0) t10 t11 t12).bind (dH λy7=>jz T y7.1 y7.2.1 y7.2.2.1 (ar.wrap (y7.2.2.2.1+1))))) az) (U (an (t0,()))):=eL Tryz.func71
def tp (t0 t1):tQ (S.step T) t0 t1=brk (0<=t1&&t1<t0.1.1.length) ((dj T t0 [40]).bind λd14=>(oE T d14.2.1 (at_ (τ:=cZ) t0.1.1 t1).2.2.2.2.2.2.2.1).bind λd18=>brk ((at_ (τ:=cZ) t0.1.1 t1).2.2.2.2.1=1) (brk (0<((at_ (τ:=cZ) t0.1.1 t1).2.2.2.2.2.2.2.1.length:Int)) ((dj T d18.2.1 [44,32]).bind λd27=>(dj T d27.2.1 [46,46,46]).bind λd29=>(dj T d29.2.1 [41,32]).bind λd31=>brk (0<((at_ (τ:=cZ) t0.1.1 t1).2.2.2.2.2.2.2.2.1.length:Int)) ((gq T d31.2.1 ((at_ (τ:=cZ) t0.1.1 t1).2.2.2.2.2.2.2.2.1.getD 0 0)).bind λd37=>U ((),d37.2.1,(),())) az) ((dj T d18.2.1 [46,46,46]).bind λd29=>(dj T d29.2.1 [41,32]).bind λd31=>brk (0<((at_ (τ:=cZ) t0.1.1 t1).2.2.2.2.2.2.2.2.1.length:Int)) ((gq T d31.2.1 ((at_ (τ:=cZ) t0.1.1 t1).2.2.2.2.2.2.2.2.1.getD 0 0)).bind λd37=>U ((),d37.2.1,(),())) az)) ((dj T d18.2.1 [41,32]).bind λd31=>brk (0<((at_ (τ:=cZ) t0.1.1 t1).2.2.2.2.2.2.2.2.1.length:Int)) ((gq T d31.2.1 ((at_ (τ:=cZ) t0.1.1 t1).2.2.2.2.2.2.2.2.1.getD 0 0)).bind λd37=>U ((),d37.2.1,(),())) az)) none:=eF Tryz.func33
def xw (t0):qq (S.step T) t0=brk (t0=0) (U ([48],cV)) ((jC T t0 (t0<0) []).bind (dH λy5=>brk (y5.1) ((mW T y5.2.1 [45]).bind (dH λAz=>U (Az.1,cV))) ((mW T y5.2.1 []).bind (dH λAz=>U (Az.1,cV))))):=eF Tryz.func176
def Aj (t4 t6):mW (S.step T) t4 t6=(lD T t4 t6 (ar.wrap (t4.length - 1))).bind (dH λDB=>U (an DB)):=eJ Tryz.func176
theorem qj (t0 t3 t4):jC (S.step T) t0 t3 t4=brk (!(t0=0)) (brk (t0.tmod 10<0) (brk (fits (t4.length+[aO.wrap (ar.wrap (48+ar.wrap (0 - t0.tmod 10)))].length)) (jC T (ar.wrap (t0.tdiv 10)) t3 (t4++[aO.wrap (ar.wrap (48+ar.wrap (0 - t0.tmod 10)))])) az) (brk (fits (t4.length+[aO.wrap (ar.wrap (48+t0.tmod 10))].length)) (jC T (ar.wrap (t0.tdiv 10)) t3 (t4++[aO.wrap (ar.wrap (48+t0.tmod 10))])) az)) (U (an (t3,t4,()))):=eL Tryz.func176
theorem tc (t4 t6 t7):lD (S.step T) t4 t6 t7=brk (0<=t7) (brk (0<=t7&&t7<t4.length) (brk (fits (t6.length+([t4.getD t7.toNat 0].map byte).length)) (lD T t4 (t6++[t4.getD t7.toNat 0].map byte) (ar.wrap (t7 - 1))) az) az) (U (an (t6,()))):=eL Tryz.func176
def KN (t0):w8 (S.step T) t0=brk (0<=t0) ((qq T t0).bind λd9=>U (d9.1,cV)) ((oa T t0 [48,49,50,51,52,53,54,55,56,57,97,98,99,100,101,102] [48,120] 60).bind (dH λy6=>U (y6.1,cV))):=eF Tryz.func145
def yz (t0 t3 t4 t5):oa (S.step T) t0 t3 t4 t5=brk (0<=t5) (brk (0<=aJ.wrap t5) (brk (0<=intBits .and .u64 ((aJ.wrap t0).fdiv (2^min ((aJ.wrap t5).toNat) aJ.bits)) 15&&intBits .and .u64 ((aJ.wrap t0).fdiv (2^min ((aJ.wrap t5).toNat) aJ.bits)) 15<t3.length) (brk (fits (t4.length+([t3.getD ((intBits .and .u64 ((aJ.wrap t0).fdiv (2^min ((aJ.wrap t5).toNat) aJ.bits)) 15).toNat) 0].map byte).length)) (oa T t0 t3 (t4++[t3.getD ((intBits .and .u64 ((aJ.wrap t0).fdiv (2^min ((aJ.wrap t5).toNat) aJ.bits)) 15).toNat) 0].map byte) (ar.wrap (t5 - 4))) az) az) az) (U (an (t4,()))):=eL Tryz.func145
def GU (t0):qQ (S.step T) t0=(gG T t0 [48,49,50,51,52,53,54,55,56,57,97,98,99,100,101,102] [34] 0).bind (dH λy4=>brk (fits (y4.1.length+1)) (U ((y4.1++([34]:LI)).map byte,cV)) az):=eF Tryz.func146
def v8 (t0 t3 t4 t5):gG (S.step T) t0 t3 t4 t5=brk (t5<t0.length) (brk (0<=t5&&t5<t0.length) (brk (t0.getD t5.toNat 0=10) (brk (fits (t4.length+2)) (gG T t0 t3 (t4++[92,110]) (ar.wrap (t5+1))) az) (brk (t0.getD t5.toNat 0=9) (brk (fits (t4.length+2)) (gG T t0 t3 (t4++[92,116]) (ar.wrap (t5+1))) az) (brk (t0.getD t5.toNat 0=34) (brk (fits (t4.length+[92,t0.getD t5.toNat 0].length)) (gG T t0 t3 (t4++[92,t0.getD t5.toNat 0]) (ar.wrap (t5+1))) az) (brk (t0.getD t5.toNat 0=92) (brk (fits (t4.length+[92,t0.getD t5.toNat 0].length)) (gG T t0 t3 (t4++[92,t0.getD t5.toNat 0]) (ar.wrap (t5+1))) az) (brk (t0.getD t5.toNat 0<32) (brk (0<=(t0.getD t5.toNat 0).fdiv (2^min ((4:Int).toNat) aO.bits)&&(t0.getD t5.toNat 0).fdiv (2^min ((4:Int).toNat) aO.bits)<t3.length) (brk (0<=intBits .and .u8 (t0.getD t5.toNat 0) 15&&intBits .and .u8 (t0.getD t5.toNat 0) 15<t3.length) (brk (fits (t4.length+[92,120,t3.getD (((t0.getD t5.toNat 0).fdiv (2^min ((4:Int).toNat) aO.bits)).toNat) 0,t3.getD ((intBits .and .u8 (t0.getD t5.toNat 0) 15).toNat) 0].length)) (gG T t0 t3 (t4++[92,120,t3.getD (((t0.getD t5.toNat 0).fdiv (2^min ((4:Int).toNat) aO.bits)).toNat) 0,t3.getD ((intBits .and .u8 (t0.getD t5.toNat 0) 15).toNat) 0]) (ar.wrap (t5+1))) az) az) az) (brk (126<t0.getD t5.toNat 0) (brk (0<=(t0.getD t5.toNat 0).fdiv (2^min ((4:Int).toNat) aO.bits)&&(t0.getD t5.toNat 0).fdiv (2^min ((4:Int).toNat) aO.bits)<t3.length) (brk (0<=intBits .and .u8 (t0.getD t5.toNat 0) 15&&intBits .and .u8 (t0.getD t5.toNat 0) 15<t3.length) (brk (fits (t4.length+[92,120,t3.getD (((t0.getD t5.toNat 0).fdiv (2^min ((4:Int).toNat) aO.bits)).toNat) 0,t3.getD ((intBits .and .u8 (t0.getD t5.toNat 0) 15).toNat) 0].length)) (gG T t0 t3 (t4++[92,120,t3.getD (((t0.getD t5.toNat 0).fdiv (2^min ((4:Int).toNat) aO.bits)).toNat) 0,t3.getD ((intBits .and .u8 (t0.getD t5.toNat 0) 15).toNat) 0]) (ar.wrap (t5+1))) az) az) az) (brk (fits (t4.length+[t0.getD t5.toNat 0].length)) (gG T t0 t3 (t4++[t0.getD t5.toNat 0]) (ar.wrap (t5+1))) az))))))) az) (U (an (t4,()))):=eL Tryz.func146
def DM (t0 t1):w6 (S.step T) t0 t1=brk (t1.1=20) ((dj T t0 [110,105,108]).bind λd9=>U ((),d9.2.1,((),(),(),(),(),(),(),(),(),()),())) (brk (t1.1=21) ((dj T t0 [116,114,117,101]).bind λd13=>U ((),d13.2.1,((),(),(),(),(),(),(),(),(),()),())) (brk (t1.1=22) ((dj T t0 [102,97,108,115,101]).bind λd17=>U ((),d17.2.1,((),(),(),(),(),(),(),(),(),()),())) (brk (t1.1=23) ((w8 T t1.2.2.2.2.2.1).bind λd23=>(dj T t0 d23.1).bind λd24=>U ((),d24.2.1,((),(),(),(),(),(),(),(),(),()),())) (brk (t1.1=24) (brk (t1.1=24) ((dj T t0 t1.2.2.2.2.2.2.1).bind λd31=>U ((),d31.2.1,((),(),(),(),(),(),(),(),(),()),())) (brk (t1.1=25) ((qQ T t1.2.2.2.2.2.2.1).bind λd37=>(dj T t0 d37.1).bind λd38=>U ((),d38.2.1,((),(),(),(),(),(),(),(),(),()),())) (brk (t1.1=27) ((dj T t0 [46,46,46]).bind λd42=>U ((),d42.2.1,((),(),(),(),(),(),(),(),(),()),())) (U ((),t0,((),(),(),(),(),(),(),(),(),()),()))))) (brk (t1.1=26) ((dj T t0 t1.2.2.2.2.2.2.1).bind λd31=>U ((),d31.2.1,((),(),(),(),(),(),(),(),(),()),())) (brk (t1.1=25) ((qQ T t1.2.2.2.2.2.2.1).bind λd37=>(dj T t0 d37.1).bind λd38=>U ((),d38.2.1,((),(),(),(),(),(),(),(),(),()),())) (brk (t1.1=27) ((dj T t0 [46,46,46]).bind λd42=>U ((),d42.2.1,((),(),(),(),(),(),(),(),(),()),())) (U ((),t0,((),(),(),(),(),(),(),(),(),()),()))))))))):=eF Tryz.func72
def gE (t0 t1 t2):dW (S.step T) t0 t1 t2=brk (0<=t1&&t1<t0.1.1.length) ((zu T (at_ (τ:=cZ) t0.1.1 t1)).bind λd17=>brk (d17.1<t2) ((dj T t0 [40]).bind λd22=>(dW T d22.2.1 t1 0).bind λd25=>(dj T d25.2.1 [41]).bind λd27=>U ((),d27.2.1,(),(),())) (brk ((at_ (τ:=cZ) t0.1.1 t1).1=28) ((qu T t0 (at_ (τ:=cZ) t0.1.1 t1) [32,97,110,100,32] d17.1).bind λd38=>U ((),d38.2.1,(),(),())) (brk ((at_ (τ:=cZ) t0.1.1 t1).1=29) ((qu T t0 (at_ (τ:=cZ) t0.1.1 t1) [32,111,114,32] d17.1).bind λd44=>U ((),d44.2.1,(),(),())) (brk ((at_ (τ:=cZ) t0.1.1 t1).1=31) ((fQ T (ar.wrap (60+(at_ (τ:=cZ) t0.1.1 t1).2.2.2.2.1))).bind λd52=>brk (fits (1+d52.1.length)) (brk (fits (([32]++d52.1).length+1)) ((qu T t0 (at_ (τ:=cZ) t0.1.1 t1) ((([32]:LI)++d52.1)++([32]:LI)) d17.1).bind λd56=>U ((),d56.2.1,(),(),())) az) az) (brk ((at_ (τ:=cZ) t0.1.1 t1).1=30) ((wU T t0 (at_ (τ:=cZ) t0.1.1 t1)).bind λd61=>U ((),d61.2.1,(),(),())) (brk ((at_ (τ:=cZ) t0.1.1 t1).1=32) (brk (0<((at_ (τ:=cZ) t0.1.1 t1).2.2.2.2.2.2.2.2.1.length:Int)) ((rC T t0 ((at_ (τ:=cZ) t0.1.1 t1).2.2.2.2.2.2.2.2.1.getD 0 0)).bind λd69=>(dj T d69.2.1 [91]).bind λd71=>brk (1<((at_ (τ:=cZ) t0.1.1 t1).2.2.2.2.2.2.2.2.1.length:Int)) ((dW T d71.2.1 ((at_ (τ:=cZ) t0.1.1 t1).2.2.2.2.2.2.2.2.1.getD 1 0) 0).bind λd77=>(dj T d77.2.1 [93]).bind λd79=>U ((),d79.2.1,(),(),())) az) az) (brk ((at_ (τ:=cZ) t0.1.1 t1).1=33) (brk (0<((at_ (τ:=cZ) t0.1.1 t1).2.2.2.2.2.2.2.2.1.length:Int)) ((rC T t0 ((at_ (τ:=cZ) t0.1.1 t1).2.2.2.2.2.2.2.2.1.getD 0 0)).bind λd87=>brk (fits (1+(at_ (τ:=cZ) t0.1.1 t1).2.2.2.2.2.2.1.length)) ((dj T d87.2.1 (([46]:LI)++(at_ (τ:=cZ) t0.1.1 t1).2.2.2.2.2.2.1)).bind λd92=>U ((),d92.2.1,(),(),())) az) az) (brk ((at_ (τ:=cZ) t0.1.1 t1).1=34) (brk (0<((at_ (τ:=cZ) t0.1.1 t1).2.2.2.2.2.2.2.2.1.length:Int)) ((rC T t0 ((at_ (τ:=cZ) t0.1.1 t1).2.2.2.2.2.2.2.2.1.getD 0 0)).bind λd100=>(dj T d100.2.1 [40]).bind λd102=>brk (bounds ((at_ (τ:=cZ) t0.1.1 t1).2.2.2.2.2.2.2.2.1.length) 1 ((at_ (τ:=cZ) t0.1.1 t1).2.2.2.2.2.2.2.2.1.length)) ((jP T d102.2.1 (sub (at_ (τ:=cZ) t0.1.1 t1).2.2.2.2.2.2.2.2.1 1 ((at_ (τ:=cZ) t0.1.1 t1).2.2.2.2.2.2.2.2.1.length))).bind λd107=>(dj T d107.2.1 [41]).bind λd109=>U ((),d109.2.1,(),(),())) az) az) (brk ((at_ (τ:=cZ) t0.1.1 t1).1=35) ((wX T t0 (at_ (τ:=cZ) t0.1.1 t1)).bind λd114=>U ((),d114.2.1,(),(),())) (brk ((at_ (τ:=cZ) t0.1.1 t1).1=36) ((dj T t0 [102,110]).bind λd118=>(tQ T d118.2.1 t1).bind λd121=>U ((),d121.2.1,(),(),())) (brk ((at_ (τ:=cZ) t0.1.1 t1).1=37) ((dj T t0 [40]).bind λd125=>brk (0<((at_ (τ:=cZ) t0.1.1 t1).2.2.2.2.2.2.2.2.1.length:Int)) ((dW T d125.2.1 ((at_ (τ:=cZ) t0.1.1 t1).2.2.2.2.2.2.2.2.1.getD 0 0) 0).bind λd131=>(dj T d131.2.1 [41]).bind λd133=>U ((),d133.2.1,(),(),())) az) ((w6 T t0 (at_ (τ:=cZ) t0.1.1 t1)).bind λd32=>U ((),d32.2.1,(),(),()))))))))))))) none:=eF Tryz.func32
def DV (t0 t1):jP (S.step T) t0 t1=(jD T t0 t1 t1.length 0).bind (dH λy1=>U ((),y1.1,(),())):=eF Tryz.func31
def nG (t0 t6 t7 t8):jD (S.step T) t0 t6 t7 t8=brk (t8<t7) (brk (0<=t8&&t8<t6.length) (brk (0<t8) ((dj T t0 [44,32]).bind λd16=>(dW T d16.2.1 (t6.getD t8.toNat 0) 0).bind λd19=>jD T d19.2.1 t6 t7 (ar.wrap (t8+1))) ((dW T t0 (t6.getD t8.toNat 0) 0).bind λd19=>jD T d19.2.1 t6 t7 (ar.wrap (t8+1)))) az) (U (an (t0,()))):=eL Tryz.func31
def rU (t0 t1 t2):rL (S.step T) t0 t1 t2=(dj T t0 t2).bind λd9=>brk (0<(t1.2.2.2.2.2.2.2.2.1.length:Int)) ((dW T d9.2.1 (t1.2.2.2.2.2.2.2.2.1.getD 0 0) 0).bind λd15=>(dj T d15.2.1 [32]).bind λd17=>brk (1<(t1.2.2.2.2.2.2.2.2.1.length:Int)) ((gq T d17.2.1 (t1.2.2.2.2.2.2.2.2.1.getD 1 0)).bind λd23=>brk ((t1.2.2.2.2.2.2.2.2.1.length:Int)<3) (U ((),d23.2.1,((),(),(),(),(),(),(),(),(),()),(),())) (brk (2<(t1.2.2.2.2.2.2.2.2.1.length:Int)) (brk (0<=t1.2.2.2.2.2.2.2.2.1.getD 2 0&&t1.2.2.2.2.2.2.2.2.1.getD 2 0<(d23.2.1.1.1.length:Int)) (brk ((at_ (τ:=cZ) d23.2.1.1.1 (t1.2.2.2.2.2.2.2.2.1.getD 2 0)).1=7) ((rL T d23.2.1 (at_ (τ:=cZ) d23.2.1.1.1 (t1.2.2.2.2.2.2.2.2.1.getD 2 0)) [32,101,108,105,102,32]).bind λd44=>U ((),d44.2.1,((),(),(),(),(),(),(),(),(),()),(),())) ((dj T d23.2.1 [32,101,108,115,101,32]).bind λd46=>brk (2<(t1.2.2.2.2.2.2.2.2.1.length:Int)) ((gq T d46.2.1 (t1.2.2.2.2.2.2.2.2.1.getD 2 0)).bind λd52=>U ((),d52.2.1,((),(),(),(),(),(),(),(),(),()),(),())) az)) az) az)) az) none:=eF Tryz.func34
def iA (t0 t1):tP (S.step T) t0 t1=brk (0<=t1&&t1<t0.1.1.length) (brk ((at_ (τ:=cZ) t0.1.1 t1).1=1) ((gq T t0 t1).bind λd20=>U ((),d20.2.1,(),())) (brk ((at_ (τ:=cZ) t0.1.1 t1).1=2) ((dj T t0 [108,101,116,32]).bind λd24=>(oE T d24.2.1 (at_ (τ:=cZ) t0.1.1 t1).2.2.2.2.2.2.2.1).bind λd28=>brk (0<((at_ (τ:=cZ) t0.1.1 t1).2.2.2.2.2.2.2.2.1.length:Int)) ((dj T d28.2.1 [32,61,32]).bind λd34=>(jP T d34.2.1 (at_ (τ:=cZ) t0.1.1 t1).2.2.2.2.2.2.2.2.1).bind λd38=>U ((),d38.2.1,(),())) (U ((),d28.2.1,(),()))) (brk ((at_ (τ:=cZ) t0.1.1 t1).1=3) (brk (0<((at_ (τ:=cZ) t0.1.1 t1).2.2.2.2.2.2.2.1.length:Int)) (brk (fits (6+((at_ (τ:=cZ) t0.1.1 t1).2.2.2.2.2.2.2.1.getD 0 []).length)) (brk (fits (([99,111,110,115,116,32]++(at_ (τ:=cZ) t0.1.1 t1).2.2.2.2.2.2.2.1.getD 0 []).length+3)) ((dj T t0 ((([99,111,110,115,116,32]:LI)++(at_ (τ:=cZ) t0.1.1 t1).2.2.2.2.2.2.2.1.getD 0 [])++([32,61,32]:LI))).bind λd48=>brk (0<((at_ (τ:=cZ) t0.1.1 t1).2.2.2.2.2.2.2.2.1.length:Int)) ((dW T d48.2.1 ((at_ (τ:=cZ) t0.1.1 t1).2.2.2.2.2.2.2.2.1.getD 0 0) 0).bind λd54=>U ((),d54.2.1,(),())) az) az) az) az) (brk ((at_ (τ:=cZ) t0.1.1 t1).1=4) (brk (0<((at_ (τ:=cZ) t0.1.1 t1).2.2.2.2.2.2.2.1.length:Int)) (brk (fits (3+((at_ (τ:=cZ) t0.1.1 t1).2.2.2.2.2.2.2.1.getD 0 []).length)) ((dj T t0 (([102,110,32]:LI)++(at_ (τ:=cZ) t0.1.1 t1).2.2.2.2.2.2.2.1.getD 0 [])).bind λd63=>brk (0<((at_ (τ:=cZ) t0.1.1 t1).2.2.2.2.2.2.2.2.1.length:Int)) ((tQ T d63.2.1 ((at_ (τ:=cZ) t0.1.1 t1).2.2.2.2.2.2.2.2.1.getD 0 0)).bind λd69=>U ((),d69.2.1,(),())) az) az) az) (brk ((at_ (τ:=cZ) t0.1.1 t1).1=5) (brk (bounds ((at_ (τ:=cZ) t0.1.1 t1).2.2.2.2.2.2.2.2.1.length) 0 (at_ (τ:=cZ) t0.1.1 t1).2.2.2.2.2.1) ((jP T t0 (sub (at_ (τ:=cZ) t0.1.1 t1).2.2.2.2.2.2.2.2.1 0 (at_ (τ:=cZ) t0.1.1 t1).2.2.2.2.2.1)).bind λd78=>(dj T d78.2.1 [32,61,32]).bind λd80=>brk (bounds ((at_ (τ:=cZ) t0.1.1 t1).2.2.2.2.2.2.2.2.1.length) (at_ (τ:=cZ) t0.1.1 t1).2.2.2.2.2.1 ((at_ (τ:=cZ) t0.1.1 t1).2.2.2.2.2.2.2.2.1.length)) ((jP T d80.2.1 (sub (at_ (τ:=cZ) t0.1.1 t1).2.2.2.2.2.2.2.2.1 (at_ (τ:=cZ) t0.1.1 t1).2.2.2.2.2.1 ((at_ (τ:=cZ) t0.1.1 t1).2.2.2.2.2.2.2.2.1.length))).bind λd87=>U ((),d87.2.1,(),())) az) az) (brk ((at_ (τ:=cZ) t0.1.1 t1).1=6) (brk (0<((at_ (τ:=cZ) t0.1.1 t1).2.2.2.2.2.2.2.2.1.length:Int)) ((dW T t0 ((at_ (τ:=cZ) t0.1.1 t1).2.2.2.2.2.2.2.2.1.getD 0 0) 0).bind λd95=>U ((),d95.2.1,(),())) az) (brk ((at_ (τ:=cZ) t0.1.1 t1).1=7) ((rL T t0 (at_ (τ:=cZ) t0.1.1 t1) [105,102,32]).bind λd100=>U ((),d100.2.1,(),())) (brk ((at_ (τ:=cZ) t0.1.1 t1).1=8) ((dj T t0 [119,104,105,108,101,32]).bind λd104=>brk (0<((at_ (τ:=cZ) t0.1.1 t1).2.2.2.2.2.2.2.2.1.length:Int)) ((dW T d104.2.1 ((at_ (τ:=cZ) t0.1.1 t1).2.2.2.2.2.2.2.2.1.getD 0 0) 0).bind λd110=>(dj T d110.2.1 [32]).bind λd112=>brk (1<((at_ (τ:=cZ) t0.1.1 t1).2.2.2.2.2.2.2.2.1.length:Int)) ((gq T d112.2.1 ((at_ (τ:=cZ) t0.1.1 t1).2.2.2.2.2.2.2.2.1.getD 1 0)).bind λd118=>U ((),d118.2.1,(),())) az) az) (brk ((at_ (τ:=cZ) t0.1.1 t1).1=9) ((pV T t0 (at_ (τ:=cZ) t0.1.1 t1) (at_ (τ:=cZ) t0.1.1 t1).1 ((at_ (τ:=cZ) t0.1.1 t1).1=9)).bind (dH (λLb=>U ((),Lb.1,(),())))) ((pV T t0 (at_ (τ:=cZ) t0.1.1 t1) (at_ (τ:=cZ) t0.1.1 t1).1 ((at_ (τ:=cZ) t0.1.1 t1).1=10)).bind (dH (λLb=>U ((),Lb.1,(),()))))))))))))) none:=eF Tryz.func13
def fY (t0 t4 t15 t119):pV (S.step T) t0 t4 t15 t119=brk (t119) ((dj T t0 [102,111,114,32]).bind λd123=>(oE T d123.2.1 t4.2.2.2.2.2.2.2.1).bind λd127=>brk (t4.1=9) ((dj T d127.2.1 [32,61,32]).bind λd132=>brk (bounds t4.2.2.2.2.2.2.2.2.1.length 0 (ar.wrap (t4.2.2.2.2.2.2.2.2.1.length - 1))) ((jP T d132.2.1 (sub t4.2.2.2.2.2.2.2.2.1 0 (ar.wrap (t4.2.2.2.2.2.2.2.2.1.length - 1)))).bind λd144=>(dj T d144.2.1 [32]).bind λd146=>brk (0<=ar.wrap (t4.2.2.2.2.2.2.2.2.1.length - 1)&&ar.wrap (t4.2.2.2.2.2.2.2.2.1.length - 1)<t4.2.2.2.2.2.2.2.2.1.length) ((gq T d146.2.1 (t4.2.2.2.2.2.2.2.2.1.getD ((ar.wrap (t4.2.2.2.2.2.2.2.2.1.length - 1)).toNat) 0)).bind λd153=>U (an (d153.2.1,()))) az) az) ((dj T d127.2.1 [32,105,110,32]).bind λd134=>brk (bounds t4.2.2.2.2.2.2.2.2.1.length 0 (ar.wrap (t4.2.2.2.2.2.2.2.2.1.length - 1))) ((jP T d134.2.1 (sub t4.2.2.2.2.2.2.2.2.1 0 (ar.wrap (t4.2.2.2.2.2.2.2.2.1.length - 1)))).bind λd144=>(dj T d144.2.1 [32]).bind λd146=>brk (0<=ar.wrap (t4.2.2.2.2.2.2.2.2.1.length - 1)&&ar.wrap (t4.2.2.2.2.2.2.2.2.1.length - 1)<t4.2.2.2.2.2.2.2.2.1.length) ((gq T d146.2.1 (t4.2.2.2.2.2.2.2.2.1.getD ((ar.wrap (t4.2.2.2.2.2.2.2.2.1.length - 1)).toNat) 0)).bind λd153=>U (an (d153.2.1,()))) az) az)) (brk (t15=11) ((dj T t0 [98,114,101,97,107]).bind λd157=>U (an (d157.2.1,()))) (brk (t15=12) ((dj T t0 [110,101,120,116]).bind λd161=>U (an (d161.2.1,()))) (brk (t15=13) ((dj T t0 [114,101,116,117,114,110]).bind λd165=>brk (0<(t4.2.2.2.2.2.2.2.2.1.length:Int)) ((dj T d165.2.1 [32]).bind λd171=>(jP T d171.2.1 t4.2.2.2.2.2.2.2.2.1).bind λd175=>U (an (d175.2.1,()))) (U (an (d165.2.1,())))) (brk (t15=14) ((dj T t0 [116,114,121,32]).bind λd179=>brk (0<(t4.2.2.2.2.2.2.2.2.1.length:Int)) ((gq T d179.2.1 (t4.2.2.2.2.2.2.2.2.1.getD 0 0)).bind λd185=>(dj T d185.2.1 [32,99,97,116,99,104,32]).bind λd187=>(oE T d187.2.1 t4.2.2.2.2.2.2.2.1).bind λd191=>(dj T d191.2.1 [32]).bind λd193=>brk (1<(t4.2.2.2.2.2.2.2.2.1.length:Int)) ((gq T d193.2.1 (t4.2.2.2.2.2.2.2.2.1.getD 1 0)).bind λd199=>U (an (d199.2.1,()))) az) az) (brk (t15=15) ((dj T t0 [116,104,114,111,119,32]).bind λd203=>brk (0<(t4.2.2.2.2.2.2.2.2.1.length:Int)) ((dW T d203.2.1 (t4.2.2.2.2.2.2.2.2.1.getD 0 0) 0).bind λd209=>U (an (d209.2.1,()))) az) (brk (t15=16) ((dj T t0 [100,101,102,101,114,32]).bind λd213=>brk (0<(t4.2.2.2.2.2.2.2.2.1.length:Int)) ((dW T d213.2.1 (t4.2.2.2.2.2.2.2.2.1.getD 0 0) 0).bind λd219=>U (an (d219.2.1,()))) az) (U (an (t0,()))))))))):=eJ Tryz.func13
def Cz (t0):Dq (S.step T) t0=(qA T t0).bind λd8=>brk (!(d8.1.1=0)) (U ([],dO)) (brk (0<=ar.wrap (t0.1.length - 1)&&ar.wrap (t0.1.length - 1)<t0.1.length) ((pJ T (t0,[],0,()) (at_ (τ:=cZ) t0.1 (ar.wrap (t0.1.length - 1))).2.2.2.2.2.2.2.2.1 ((at_ (τ:=cZ) t0.1 (ar.wrap (t0.1.length - 1))).2.2.2.2.2.2.2.2.1.length) 0).bind (dH λy6=>brk (65536<(y6.1.2.1.length:Int)) (U ([],dO)) (U (y6.1.2.1.map byte,dO)))) az):=eF Tryz.func7
def yA (t4 t23 t24 t25):pJ (S.step T) t4 t23 t24 t25=brk (t25<t24) (brk (0<=t25&&t25<t23.length) ((tP T t4 (t23.getD t25.toNat 0)).bind λd31=>(dj T d31.2.1 [10]).bind λd33=>pJ T d33.2.1 t23 t24 (ar.wrap (t25+1))) az) (U (an (t4,()))):=eL Tryz.func7
theorem HS (t0):xH (S.step T) t0=(qB T t0).bind λd5=>(Dq T d5.1.2.2.1).bind λd8=>U (d8.1,cV):=eF Tryz.func4
def G6:zt (S.step T)=U (1000::(6::[]),lP):=eF Tryz.func35
def vT (t0 t1):oz (S.step T) t0 t1=brk (t1.length<=(t0.length:Int)) (brk (bounds t0.length 0 t1.length) (U (I (sub t0 0 t1.length=t1),cW)) az) (U (aq,cW)):=eF Tryz.func147
theorem AL (t0 t1):strings_HasPrefix (S.step T) t0 t1=(oz T t0 t1).bind λd7=>U (d7.1,cW):=eF Tryz.func73
def Kx (t0 t1):mX (S.step T) t0 t1=(gR T t0 t1).bind (ep (λy1=>U (y1.1,cW)) λy1=>U (y1.1,cW)):=eF Tryz.func36
theorem mT (t0 t1):gR (S.step T) t0 t1=brk (t1<t0.length) (brk (0<=t1&&t1<t0.length) (brk (t0.getD t1.toNat 0=32) (gR T t0 (ar.wrap (t1+1))) (brk (0<=t1&&t1<t0.length) (brk (t0.getD t1.toNat 0=9) (gR T t0 (ar.wrap (t1+1))) (brk (0<=t1&&t1<t0.length) (brk (t0.getD t1.toNat 0=13) (gR T t0 (ar.wrap (t1+1))) (brk (bounds t0.length t1 t0.length) ((strings_HasPrefix T (sub t0 t1 t0.length) [45,45]).bind λd33=>brk (d33.1) ((mP T t0 t1).bind (dH λy6=>gR T y6.1 y6.2.1)) (U (an (t1,())))) az)) az)) az)) az) (U (aE (an (t1,())))):=eL Tryz.func36
def yC (t0 t1):mP (S.step T) t0 t1=brk (t1<t0.length) (brk (0<=t1&&t1<t0.length) (brk (!(t0.getD t1.toNat 0=10)) (mP T t0 (ar.wrap (t1+1))) (U (an (t0,t1,())))) az) (U (an (t0,t1,()))):=eL Tryz.func36
theorem vZ (t0):eM (S.step T) t0=brk (t0=25) (U (av,cV)) (brk (t0=50) (U (av,cV)) (brk (t0=62) (U (av,cV)) (U (I (t0=69),cV)))):=eF Tryz.func89
def yy (t0):ij (S.step T) t0=brk (t0=1) (brk (t0=1) (U (av,cV)) ((eM T t0).bind λd17=>U (d17.1,cV))) (brk (t0=40) (brk (t0=40) (U (av,cV)) ((eM T t0).bind λd17=>U (d17.1,cV))) (brk (t0=2) (brk (t0=2) (U (av,cV)) ((eM T t0).bind λd17=>U (d17.1,cV))) (brk (t0=3) (brk (t0=3) (U (av,cV)) ((eM T t0).bind λd17=>U (d17.1,cV))) (brk (t0=4) (brk (t0=4) (U (av,cV)) ((eM T t0).bind λd17=>U (d17.1,cV))) (brk (t0=24) (brk (t0=24) (U (av,cV)) ((eM T t0).bind λd17=>U (d17.1,cV))) (brk (t0=29) (brk (t0=29) (U (av,cV)) ((eM T t0).bind λd17=>U (d17.1,cV))) (brk (t0=17) (brk (t0=17) (U (av,cV)) ((eM T t0).bind λd17=>U (d17.1,cV))) (brk (t0=49) (brk (t0=49) (U (av,cV)) ((eM T t0).bind λd17=>U (d17.1,cV))) (brk (t0=18) (brk (t0=18) (U (av,cV)) ((eM T t0).bind λd17=>U (d17.1,cV))) (brk (t0=42) (U (av,cV)) ((eM T t0).bind λd17=>U (d17.1,cV)))))))))))):=eF Tryz.func87
def It (t0 t1 t2):lh (S.step T) t0 t1 t2=brk (t2=48) (U (([48,1,t0],av,()),(),(),t2,())) (brk (t2=44) (U (([44,1018,45,t0],av,()),(),(),t2,())) (brk (t2=40) (U (([40,1022,41,t1],av,()),(),(),t2,())) (U (([],aq,()),(),(),t2,())))):=eF Tryz.func85
def IK (t0 t1 t2):ni (S.step T) t0 t1 t2=brk (t1<=t0) (U (I (t0<=t2),dR)) (U (aq,dR)):=eF Tryz.func152
def DR (t0):qw (S.step T) t0=brk (t0=10) (U (av,cV)) (brk (t0=26) (U (av,cV)) ((ni T t0 61 78).bind λd11=>U (d11.1,cV))):=eF Tryz.func88
def MA (t0 t1):oG (S.step T) t0 t1=brk (t0=1000) (brk (t1=5) ((dD T [5,1000]).bind λd35=>U (d35.1,cW)) ((yb T t1).bind λd40=>brk (d40.1) (brk (t1=22) ((dD T [22,1,1006,1002,1001]).bind λd46=>U (d46.1,cW)) (brk (t1=13) ((dD T [13,1,47,1018,1001]).bind λd54=>U (d54.1,cW)) (brk (t1=18) ((dD T [18,1,1028,1001]).bind λd62=>U (d62.1,cW)) (brk (t1=20) ((dD T [20,1018,1027,1003,1001]).bind λd70=>U (d70.1,cW)) (brk (t1=31) ((dD T [31,1018,1027,1001]).bind λd78=>U (d78.1,cW)) (brk (t1=19) ((dD T [19,1,1004,1001]).bind λd86=>U (d86.1,cW)) (brk (t1=11) ((pC T t1 t1 (t1=11)).bind (ep (λRT=>U (RT,cW)) (λRT=>(gg T).bind λd157=>U (d157.1,cW)))) ((pC T t1 t1 (t1=23)).bind (ep (λRT=>U (RT,cW)) (λRT=>(gg T).bind λd157=>U (d157.1,cW))))))))))) ((gg T).bind λd157=>U (d157.1,cW)))) (brk (t0=1001) (brk (t1=5) ((dD T [5,1000]).bind λd167=>U (d167.1,cW)) ((gg T).bind λd172=>U (d172.1,cW))) (brk (t0=1002) (brk (t1=47) ((dD T [47,1018,1023]).bind λd182=>U (d182.1,cW)) ((gg T).bind λd187=>U (d187.1,cW))) (brk (t0=1003) (brk (t1=15) ((dD T [15,1018,1027,1003]).bind λd197=>U (d197.1,cW)) (brk (t1=16) ((dD T [16,1027]).bind λd205=>U (d205.1,cW)) ((gg T).bind λd210=>U (d210.1,cW)))) (brk (t0=1004) (brk (t1=47) ((dD T [47,1018,46,1018,1005,1027]).bind λd221=>U (d221.1,cW)) (brk (t1=46) ((dD T [46,1,1006,21,1018,1027]).bind λd229=>U (d229.1,cW)) (brk (t1=21) ((dD T [21,1018,1027]).bind λd237=>U (d237.1,cW)) ((jG T).bind λd242=>U (d242.1,cW))))) (brk (t0=1005) (brk (t1=46) ((dD T [46,1018]).bind λd252=>U (d252.1,cW)) ((gg T).bind λd257=>U (d257.1,cW))) (brk (t0=1006) (brk (t1=46) ((dD T [46,1,1006]).bind λd267=>U (d267.1,cW)) ((gg T).bind λd272=>U (d272.1,cW))) (brk (t0=1007) ((ij T t1).bind λd279=>brk (d279.1) ((dD T [1018,1023]).bind λd282=>U (d282.1,cW)) ((gg T).bind λd287=>U (d287.1,cW))) (brk (t0=1008) (brk (t1=46) ((dD T [46,1]).bind λd297=>U (d297.1,cW)) ((gg T).bind λd302=>U (d302.1,cW))) (brk (t0=1009) ((lh T 1009 1010 t1).bind λd310=>brk (d310.1.2.1) (U ((d310.1.1,av,aq,()),cW)) (brk (d310.2.2.2.1=47) ((dD T [47,1018,1023]).bind λd319=>U (d319.1,cW)) (brk (d310.2.2.2.1=46) ((dD T [46,1012]).bind λd327=>U (d327.1,cW)) ((jG T).bind λd332=>U (d332.1,cW))))) (brk (t0=1010) ((lh T 1009 1010 t1).bind λd340=>brk (d340.1.2.1) (U ((d340.1.1,av,aq,()),cW)) ((gg T).bind λd346=>U (d346.1,cW))) (brk (t0=1011) ((lh T 1009 1010 t1).bind λd354=>U ((d354.1.1,d354.1.2.1,aq,()),cW)) (brk (t0=1012) (brk (t1=1) ((dD T [1,1013]).bind λd365=>U (d365.1,cW)) (brk (t1=40) ((dD T [40,1018,41,1014]).bind λar6=>U (ar6.1,cW)) ((jG T).bind λan8=>U (an8.1,cW)))) (brk (t0=1013) ((lh T 1013 1014 t1).bind λNL=>brk (NL.1.2.1) (U ((NL.1.1,av,aq,()),cW)) (brk (NL.2.2.2.1=47) ((dD T [47,1018,1023]).bind λan7=>U (an7.1,cW)) (brk (NL.2.2.2.1=46) ((dD T [46,1012]).bind λas8=>U (as8.1,cW)) ((jG T).bind λaw7=>U (aw7.1,cW))))) (brk (t0=1014) ((lh T 1013 1014 t1).bind λXn=>U ((Xn.1.1,Xn.1.2.1,aq,()),cW)) (brk (t0=1015) (brk (t1=1) ((dD T [1,1016]).bind λUF=>U (UF.1,cW)) (brk (t1=40) ((dD T [40,1018,41,1016]).bind λaw3=>U (aw3.1,cW)) ((jG T).bind λat0=>U (at0.1,cW)))) (brk (t0=1016) ((lh T 1016 1017 t1).bind λRZ=>U ((RZ.1.1,RZ.1.2.1,aq,()),cW)) (brk (t0=1017) ((lh T 1016 1017 t1).bind λXo=>U ((Xo.1.1,Xo.1.2.1,av,()),cW)) (brk (t0=1018) ((ij T t1).bind λau1=>brk (au1.1) ((dD T [1020,1019]).bind λau5=>U (au5.1,cW)) ((jG T).bind λaw9=>U (aw9.1,cW))) (brk (t0=1019) ((qw T t1).bind λXM=>brk (XM.1) ((dD T ([t1,1020,1019]:LI)).bind λan9=>U (an9.1,cW)) ((gg T).bind λaq6=>U (aq6.1,cW))) (brk (t0=1020) ((eM T t1).bind λau2=>brk (au2.1) ((dD T ([t1,1020]:LI)).bind λUx=>U (Ux.1,cW)) (brk (t1=1) ((dD T ([1,1021]:LI)).bind λau7=>U (au7.1,cW)) (brk (t1=40) ((dD T ([40,1018,41,1021]:LI)).bind λap8=>U (ap8.1,cW)) (brk (t1=18) ((dD T ([18,1028]:LI)).bind λaq0=>U (aq0.1,cW)) (brk (t1=42) ((dD T ([42,1029,43]:LI)).bind λat5=>U (at5.1,cW)) ((ij T t1).bind λav9=>brk (av9.1) ((dD T ([t1]:LI)).bind λXD=>U (XD.1,cW)) ((jG T).bind λar5=>U (ar5.1,cW)))))))) (brk (t0=1021) ((lh T 1021 1021 t1).bind λXJ=>U ((XJ.1.1,XJ.1.2.1,av,()),cW)) (brk (t0=1022) ((ij T t1).bind λao6=>brk (ao6.1) ((dD T ([1018,1023]:LI)).bind λav6=>U (av6.1,cW)) ((gg T).bind λat1=>U (at1.1,cW))) (brk (t0=1023) (brk (t1=46) ((dD T ([46,1018,1023]:LI)).bind λar2=>U (ar2.1,cW)) ((gg T).bind λau6=>U (au6.1,cW))) (brk (t0=1028) (brk (t1=40) ((dD T ([40,1024,41,1027]:LI)).bind λat3=>U (at3.1,cW)) ((jG T).bind λan5=>U (an5.1,cW))) (brk (t0=1024) (brk (t1=49) ((dD T ([49]:LI)).bind λaw4=>U (aw4.1,cW)) (brk (t1=1) ((dD T ([1,1025]:LI)).bind λan6=>U (an6.1,cW)) ((gg T).bind λap4=>U (ap4.1,cW)))) (brk (t0=1025) (brk (t1=46) ((dD T ([46,1026]:LI)).bind λao8=>U (ao8.1,cW)) ((gg T).bind λap3=>U (ap3.1,cW))) (brk (t0=1026) (brk (t1=1) ((dD T ([1,1025]:LI)).bind λau4=>U (au4.1,cW)) (brk (t1=49) ((dD T ([49]:LI)).bind λao0=>U (ao0.1,cW)) ((jG T).bind λas3=>U (as3.1,cW)))) (brk (t0=1027) (brk (t1=42) ((dD T ([42,1000,43]:LI)).bind λaq4=>U (aq4.1,cW)) ((jG T).bind λaw0=>U (aw0.1,cW))) (brk (t0=1029) ((ij T t1).bind λas2=>brk (as2.1) ((dD T ([1032,1030]:LI)).bind λKb=>U (Kb.1,cW)) (brk (t1=44) ((dD T ([1032,1030]:LI)).bind λKb=>U (Kb.1,cW)) (brk (t1=48) ((dD T ([1032,1030]:LI)).bind λKb=>U (Kb.1,cW)) ((gg T).bind λar7=>U (ar7.1,cW))))) (brk (t0=1030) (brk (t1=46) ((dD T ([46,1031]:LI)).bind λar8=>U (ar8.1,cW)) ((gg T).bind λaw1=>U (aw1.1,cW))) (brk (t0=1031) ((ij T t1).bind λas5=>brk (as5.1) ((dD T ([1032,1030]:LI)).bind λKi=>U (Ki.1,cW)) (brk (t1=44) ((dD T ([1032,1030]:LI)).bind λKi=>U (Ki.1,cW)) (brk (t1=48) ((dD T ([1032,1030]:LI)).bind λKi=>U (Ki.1,cW)) ((gg T).bind λas7=>U (as7.1,cW))))) (brk (t0=1032) (brk (t1=44) ((dD T ([44,1018,45,47,1018]:LI)).bind λaq8=>U (aq8.1,cW)) (brk (t1=48) ((dD T ([48,1,47,1018]:LI)).bind λaw5=>U (aw5.1,cW)) ((ij T t1).bind λap7=>brk (ap7.1) ((dD T ([1018]:LI)).bind λav8=>U (av8.1,cW)) ((jG T).bind λaq7=>U (aq7.1,cW))))) ((jG T).bind λat4=>U (at4.1,cW)))))))))))))))))))))))))))))))))):=eF Tryz.func40
def Fh (t3 t41 t90):pC (S.step T) t3 t41 t90=brk (t90) ((dD T [t3,1001]).bind λd96=>U (an d96.1)) (brk (t41=27) ((dD T [27,1007,1001]).bind λd104=>U (an d104.1)) (brk (t41=30) ((dD T [30,1027,12,1,1008,1027,1001]).bind λd112=>U (an d112.1)) (brk (t41=28) ((dD T [28,1018,1001]).bind λd120=>U (an d120.1)) (brk (t41=14) ((dD T [14,1015,1001]).bind λd128=>U (an d128.1)) (brk (t41=42) ((dD T [1027,1001]).bind λd136=>U (an d136.1)) (brk (t41=1) ((dD T [1,1009,1001]).bind λd144=>U (an d144.1)) (brk (t41=40) ((dD T [40,1018,41,1011,1001]).bind λd152=>U (an d152.1)) (U (aE (an ())))))))))):=eJ Tryz.func40
def N6 (t0 t1):nY (S.step T) t0 t1=(uw T t0 t1).bind (ep (λy1=>U (y1.1,cW)) λy1=>U (aq,cW)):=eF Tryz.func16
def wY (t0 t1):uw (S.step T) t0 t1=brk (!t0.isEmpty) (brk (!(t0).isEmpty) (brk (!(t0).isEmpty) (brk (t0.headD 0<1000) (brk (!(t0).isEmpty) (brk (!(t0).isEmpty) (U (an (I (t0.headD 0=t1),()))) az) az) (brk (!(t0).isEmpty) (brk (!(t0).isEmpty) ((oG T (t0.headD 0) t1).bind λd27=>brk (d27.1.2.1) (U (an (av,()))) (brk (!d27.1.2.2.1) (U (an (aq,()))) (brk (!(t0).isEmpty) (brk (!(t0).isEmpty) (uw T t0.tail t1) az) az))) az) az)) az) az) (U (aE (an ()))):=eL Tryz.func16
def Mu (t0 t1):tC (S.step T) t0 t1=(iq T t0 t1).bind (ep (λy1=>U (y1.1,cW)) λy1=>U ([],cW)):=eF Tryz.func37
def uR (t0 t1):iq (S.step T) t0 t1=brk (!t0.isEmpty) (brk (!(t0).isEmpty) (brk (!(t0).isEmpty) (brk (t0.headD 0<1000) (brk (!(t0).isEmpty) (brk (!(t0).isEmpty) (brk (t0.headD 0=t1) (brk (!(t0).isEmpty) (brk (!(t0).isEmpty) (brk (t0.tail.isEmpty) (U (an ((-1)::[],()))) (brk (!(t0).isEmpty) (brk (!(t0).isEmpty) (U (an (t0.tail,()))) az) az)) az) az) (U (an ([],())))) az) az) (brk (!(t0).isEmpty) (brk (!(t0).isEmpty) ((oG T (t0.headD 0) t1).bind λd39=>brk (d39.1.2.1) (brk (!(t0).isEmpty) (brk (!(t0).isEmpty) ((pE T t0.tail t1 d39.1.1 (ar.wrap (d39.1.1.length - 1))).bind (dH λpA=>iq T pA.1 pA.2.1)) az) az) (brk (d39.1.2.2.1) (brk (!(t0).isEmpty) (brk (!(t0).isEmpty) (iq T t0.tail t1) az) az) (U (an ([],()))))) az) az)) az) az) (U (aE (an ()))):=eL Tryz.func37
def yD (t0 t1 t5 t8):pE (S.step T) t0 t1 t5 t8=brk (0<=t8) (brk (0<=t8&&t8<t5.length) (pE T ((t5.getD t8.toNat 0)::t0) t1 t5 (ar.wrap (t8 - 1))) az) (U (an (t0,t1,()))):=eL Tryz.func37
theorem HP (t0):oO (S.step T) t0=brk (97<=t0) (brk (t0<=122) (U (av,cV)) (brk (65<=t0) (brk (t0<=90) (U (av,cV)) (U (I (t0=95),cV))) (U (I (t0=95),cV)))) (brk (65<=t0) (brk (t0<=90) (U (av,cV)) (U (I (t0=95),cV))) (U (I (t0=95),cV))):=eF Tryz.func74
theorem KJ (t0):mu (S.step T) t0=brk (48<=t0) (U (I (t0<=57),cV)) (U (aq,cV)):=eF Tryz.func75
def Mp (t0):B7 (S.step T) t0=(mG T t0 Lx.words Lx.words.length 0).bind (ep (λy2=>U (y2.1,cV)) λy2=>U (1,cV)):=eF Tryz.func76
def zW (t0 t5 t6 t7):mG (S.step T) t0 t5 t6 t7=brk (t7<t6) (brk (0<=t7&&t7<t5.length) (brk (t5.getD t7.toNat []=t0) (U (an (ar.wrap (10+t7),()))) (mG T t0 t5 t6 (ar.wrap (t7+1)))) az) (U (aE (an ()))):=eL Tryz.func76
def Md (t0):yO (S.step T) t0=(mu T t0).bind λd4=>brk (d4.1) (U (av,cV)) (brk (97<=t0) (U (I (t0<=102),cV)) (U (aq,cV))):=eF Tryz.func79
def C6 (t0):gj (S.step T) t0=U (intBits .or .u8 t0 32,cV):=eF Tryz.func179
end Go.Abs.D
end

section
set_option maxRecDepth 100000
namespace Go.Abs.D
variable(T:S.Tab)
open Go.Proofs
def zm (t0) (t2):ri (S.step T) t0 16 t2=brk (t0=[]) (U ((0,aq,()),dR)) (brk ((2:Int)<=16) (brk ((16:Int)<=36) ((ma T t0 16 t2 ((16:Int)=0) t0).bind (dH λzi=>U (zi,dR))) az) az):=eF br0
def vV (t0 t1 t2 t8 t9):ma (S.step T) t0 t1 t2 t8 t9=brk (t2=0) ((l7 T t0 t1 64 t8 t9).bind (dH λRT=>U (an RT))) (brk (t2<0) (U (an (0,aq,()))) (brk (64<t2) (U (an (0,aq,()))) ((l7 T t0 t1 t2 t8 t9).bind (dH λRT=>U (an RT))))):=eJ br0
def vW (t0 t1 t2 t8 t9):l7 (S.step T) t0 t1 t2 t8 t9=brk (t1=10) ((j9 T t0 t1 t2 t8 t9 1844674407370955162).bind (dH λaH4=>U (an aH4))) (brk (t1=16) ((j9 T t0 t1 t2 t8 t9 1152921504606846976).bind (dH λaH4=>U (an aH4))) (brk ((aJ.wrap t1)≠0) ((j9 T t0 t1 t2 t8 t9 (aJ.wrap (aJ.wrap ((18446744073709551615:Int).tdiv (aJ.wrap t1))+1))).bind (dH λaH4=>U (an aH4))) az)):=eJ br0
def vU (t0 t1 t2 t8 t9 t10):j9 (S.step T) t0 t1 t2 t8 t9 t10=brk (0<=aJ.wrap t2) ((ew T t1 t8 t9 t10 (aJ.wrap (aJ.wrap (1*2^min ((aJ.wrap t2).toNat) aJ.bits) - 1)) aq 0 t0 t0.length 0).bind (ep (λay3=>U (an ay3)) λay3=>brk (ay3.2.1) ((zl T ay3.1).bind λd167=>brk (!d167.1) (U (an (0,aq,()))) (U (an (ay3.2.2.1,av,())))) (U (an (ay3.2.2.1,av,()))))) none:=eJ br0
theorem vS (t1 t8 t9 t10 t11 t12 t13 t16 t99 t100 t101):gy (S.step T) t1 t8 t9 t10 t11 t12 t13 t16 t99 t100 t101=brk (aO.wrap t1<=t16) (U (an (0,aq,()))) (brk (t10<=t13) (U (an (t11,aq,()))) (brk (aJ.wrap (aJ.wrap (t13*aJ.wrap t1)+aJ.wrap t16)<aJ.wrap (t13*aJ.wrap t1)) (U (an (t11,aq,()))) (brk (t11<aJ.wrap (aJ.wrap (t13*aJ.wrap t1)+aJ.wrap t16)) (U (an (t11,aq,()))) (U (aE (an (t1,t8,t9,t10,t11,t12,aJ.wrap (aJ.wrap (t13*aJ.wrap t1)+aJ.wrap t16),t99,t100,t101,()))))))):=eJ br0
def qg (t1 t8 t9 t10 t11 t12 t13 t99 t100 t101):ew (S.step T) t1 t8 t9 t10 t11 t12 t13 t99 t100 t101=brk (t101<t100) (brk (0<=t101&&t101<t99.length) (brk (t99.getD t101.toNat 0=95) (brk (t8) (ew T t1 t8 t9 t10 t11 av t13 t99 t100 (ar.wrap (t101+1))) (brk (48<=t99.getD t101.toNat 0) (brk (t99.getD t101.toNat 0<=57) ((gy T t1 t8 t9 t10 t11 t12 t13 (aO.wrap (t99.getD t101.toNat 0 - 48)) t99 t100 t101).bind (ep (λnj=>U (an nj)) λnj=>ew T nj.1 nj.2.1 nj.2.2.1 nj.2.2.2.1 nj.2.2.2.2.1 nj.2.2.2.2.2.1 nj.2.2.2.2.2.2.1 nj.2.2.2.2.2.2.2.1 nj.2.2.2.2.2.2.2.2.1 (ar.wrap (nj.2.2.2.2.2.2.2.2.2.1+1)))) ((gj T (t99.getD t101.toNat 0)).bind λd123=>brk (97<=d123.1) ((gj T (t99.getD t101.toNat 0)).bind λd127=>brk (d127.1<=122) ((gj T (t99.getD t101.toNat 0)).bind λd131=>(gy T t1 t8 t9 t10 t11 t12 t13 (aO.wrap (aO.wrap (d131.1 - 97)+10)) t99 t100 t101).bind (ep (λnj=>U (an nj)) λnj=>ew T nj.1 nj.2.1 nj.2.2.1 nj.2.2.2.1 nj.2.2.2.2.1 nj.2.2.2.2.2.1 nj.2.2.2.2.2.2.1 nj.2.2.2.2.2.2.2.1 nj.2.2.2.2.2.2.2.2.1 (ar.wrap (nj.2.2.2.2.2.2.2.2.2.1+1)))) (U (an (0,aq,())))) (U (an (0,aq,()))))) ((gj T (t99.getD t101.toNat 0)).bind λd123=>brk (97<=d123.1) ((gj T (t99.getD t101.toNat 0)).bind λd127=>brk (d127.1<=122) ((gj T (t99.getD t101.toNat 0)).bind λd131=>(gy T t1 t8 t9 t10 t11 t12 t13 (aO.wrap (aO.wrap (d131.1 - 97)+10)) t99 t100 t101).bind (ep (λnj=>U (an nj)) λnj=>ew T nj.1 nj.2.1 nj.2.2.1 nj.2.2.2.1 nj.2.2.2.2.1 nj.2.2.2.2.2.1 nj.2.2.2.2.2.2.1 nj.2.2.2.2.2.2.2.1 nj.2.2.2.2.2.2.2.2.1 (ar.wrap (nj.2.2.2.2.2.2.2.2.2.1+1)))) (U (an (0,aq,())))) (U (an (0,aq,())))))) (brk (48<=t99.getD t101.toNat 0) (brk (t99.getD t101.toNat 0<=57) ((gy T t1 t8 t9 t10 t11 t12 t13 (aO.wrap (t99.getD t101.toNat 0 - 48)) t99 t100 t101).bind (ep (λnj=>U (an nj)) λnj=>ew T nj.1 nj.2.1 nj.2.2.1 nj.2.2.2.1 nj.2.2.2.2.1 nj.2.2.2.2.2.1 nj.2.2.2.2.2.2.1 nj.2.2.2.2.2.2.2.1 nj.2.2.2.2.2.2.2.2.1 (ar.wrap (nj.2.2.2.2.2.2.2.2.2.1+1)))) ((gj T (t99.getD t101.toNat 0)).bind λd123=>brk (97<=d123.1) ((gj T (t99.getD t101.toNat 0)).bind λd127=>brk (d127.1<=122) ((gj T (t99.getD t101.toNat 0)).bind λd131=>(gy T t1 t8 t9 t10 t11 t12 t13 (aO.wrap (aO.wrap (d131.1 - 97)+10)) t99 t100 t101).bind (ep (λnj=>U (an nj)) λnj=>ew T nj.1 nj.2.1 nj.2.2.1 nj.2.2.2.1 nj.2.2.2.2.1 nj.2.2.2.2.2.1 nj.2.2.2.2.2.2.1 nj.2.2.2.2.2.2.2.1 nj.2.2.2.2.2.2.2.2.1 (ar.wrap (nj.2.2.2.2.2.2.2.2.2.1+1)))) (U (an (0,aq,())))) (U (an (0,aq,()))))) ((gj T (t99.getD t101.toNat 0)).bind λd123=>brk (97<=d123.1) ((gj T (t99.getD t101.toNat 0)).bind λd127=>brk (d127.1<=122) ((gj T (t99.getD t101.toNat 0)).bind λd131=>(gy T t1 t8 t9 t10 t11 t12 t13 (aO.wrap (aO.wrap (d131.1 - 97)+10)) t99 t100 t101).bind (ep (λnj=>U (an nj)) λnj=>ew T nj.1 nj.2.1 nj.2.2.1 nj.2.2.2.1 nj.2.2.2.2.1 nj.2.2.2.2.2.1 nj.2.2.2.2.2.2.1 nj.2.2.2.2.2.2.2.1 nj.2.2.2.2.2.2.2.2.1 (ar.wrap (nj.2.2.2.2.2.2.2.2.2.1+1)))) (U (an (0,aq,())))) (U (an (0,aq,())))))) az) (U (aE (an (t9,t12,t13,())))):=eL br0
def AG (t0) (t1) (t2):mh (S.step T) t0 t1 t2=(ri T t0 t1 t2).bind λd14=>brk (!d14.1.2.1) (az) (U ((d14.1.1,av,()),dR)):=eF Tryz.func80
def sL (t0 t1):sh (S.step T) t0 t1=brk (0<=t1&&t1<t0.length) (brk (t0.getD t1.toNat 0=48) (brk (ar.wrap (t1+1)<t0.length) (brk (0<=ar.wrap (t1+1)&&ar.wrap (t1+1)<t0.length) (brk (t0.getD ((ar.wrap (t1+1)).toNat) 0=120) ((lR T t0 t1 (2,t1,0,0,0,[],()) (ar.wrap (t1+2))).bind (dH (λy5=>brk (y5.2.2.2.1=ar.wrap (y5.2.1+2)) (U (((y5.2.2.1.1,y5.2.2.1.2.1,y5.2.2.2.1,y5.2.2.1.2.2.2),av,()),cW)) (brk (y5.2.2.2.1=ar.wrap (y5.2.1+18)) (brk (y5.2.2.2.1<y5.1.length) (brk (0<=y5.2.2.2.1&&y5.2.2.2.1<y5.1.length) ((yO T (y5.1.getD y5.2.2.2.1.toNat 0)).bind λd74=>brk (d74.1) (U (((y5.2.2.1.1,y5.2.2.1.2.1,y5.2.2.2.1,y5.2.2.1.2.2.2),av,()),cW)) (brk (bounds y5.1.length (ar.wrap (y5.2.1+2)) y5.2.2.2.1) ((mh T (sub y5.1 (ar.wrap (y5.2.1+2)) y5.2.2.2.1) 16 64).bind λd84=>U (((y5.2.2.1.1,y5.2.2.1.2.1,y5.2.2.2.1,y5.2.2.1.2.2.2.1,ar.wrap d84.1.1,y5.2.2.1.2.2.2.2.2),aq,()),cW)) az)) az) (brk (bounds y5.1.length (ar.wrap (y5.2.1+2)) y5.2.2.2.1) ((mh T (sub y5.1 (ar.wrap (y5.2.1+2)) y5.2.2.2.1) 16 64).bind λd84=>U (((y5.2.2.1.1,y5.2.2.1.2.1,y5.2.2.2.1,y5.2.2.1.2.2.2.1,ar.wrap d84.1.1,y5.2.2.1.2.2.2.2.2),aq,()),cW)) az)) (brk (bounds y5.1.length (ar.wrap (y5.2.1+2)) y5.2.2.2.1) ((mh T (sub y5.1 (ar.wrap (y5.2.1+2)) y5.2.2.2.1) 16 64).bind λd84=>U (((y5.2.2.1.1,y5.2.2.1.2.1,y5.2.2.2.1,y5.2.2.1.2.2.2.1,ar.wrap d84.1.1,y5.2.2.1.2.2.2.2.2),aq,()),cW)) az))))) (brk (0<=t1&&t1<t0.length) (brk (!(t0.getD t1.toNat 0=48)) ((ji T t0 t1 (2,t1,0,0,0,[],()) (ar.wrap (t1+1))).bind (dH (λDB=>(jl T DB.1 DB.2.1 DB.2.2.1 DB.2.2.2.1).bind (dH (λXP=>U (XP,cW)))))) ((jl T t0 t1 (2,t1,0,0,0,[],()) (ar.wrap (t1+1))).bind (dH (λXP=>U (XP,cW))))) az)) az) (brk (0<=t1&&t1<t0.length) (brk (!(t0.getD t1.toNat 0=48)) ((ji T t0 t1 (2,t1,0,0,0,[],()) (ar.wrap (t1+1))).bind (dH (λDB=>(jl T DB.1 DB.2.1 DB.2.2.1 DB.2.2.2.1).bind (dH (λXP=>U (XP,cW)))))) ((jl T t0 t1 (2,t1,0,0,0,[],()) (ar.wrap (t1+1))).bind (dH (λXP=>U (XP,cW))))) az)) (brk (0<=t1&&t1<t0.length) (brk (!(t0.getD t1.toNat 0=48)) ((ji T t0 t1 (2,t1,0,0,0,[],()) (ar.wrap (t1+1))).bind (dH (λDB=>(jl T DB.1 DB.2.1 DB.2.2.1 DB.2.2.2.1).bind (dH (λXP=>U (XP,cW)))))) ((jl T t0 t1 (2,t1,0,0,0,[],()) (ar.wrap (t1+1))).bind (dH (λXP=>U (XP,cW))))) az)) none:=eF bp8
def wP (t0 t1 t4 t6):jl (S.step T) t0 t1 t4 t6=brk (ar.wrap (t6+1)<t0.length) (brk (0<=t6&&t6<t0.length) (brk (t0.getD t6.toNat 0=46) (brk (0<=ar.wrap (t6+1)&&ar.wrap (t6+1)<t0.length) ((mu T (t0.getD ((ar.wrap (t6+1)).toNat) 0)).bind λd126=>brk (d126.1) ((ld T t0 t1 t4 (ar.wrap (t6+1)) t6).bind (dH λZn=>(jX T Zn.1 Zn.2.1 Zn.2.2.1 Zn.2.2.2.1 Zn.2.2.2.2.1).bind (dH λNO=>U (an NO)))) ((jX T t0 t1 t4 t6 t6).bind (dH λNO=>U (an NO)))) az) ((jX T t0 t1 t4 t6 t6).bind (dH λNO=>U (an NO)))) az) ((jX T t0 t1 t4 t6 t6).bind (dH λNO=>U (an NO))):=eJ bp8
def we (t0 t1 t4 t6 t9):jX (S.step T) t0 t1 t4 t6 t9=brk (t6<t0.length) (brk (0<=t6&&t6<t0.length) (brk (t0.getD t6.toNat 0=101) (brk (ar.wrap (t6+1)<t0.length) (brk (0<=ar.wrap (t6+1)&&ar.wrap (t6+1)<t0.length) (brk (t0.getD ((ar.wrap (t6+1)).toNat) 0=43) ((mo T t0 t1 t4 (ar.wrap (ar.wrap (t6+1)+1)) t9).bind (ep (λqd=>U (an qd)) λqd=>(jV T qd.1 qd.2.1 qd.2.2.1 qd.2.2.2.1 qd.2.2.2.2.1).bind (dH λLb=>U (an Lb)))) (brk (0<=ar.wrap (t6+1)&&ar.wrap (t6+1)<t0.length) (brk (t0.getD ((ar.wrap (t6+1)).toNat) 0=45) ((mo T t0 t1 t4 (ar.wrap (ar.wrap (t6+1)+1)) t9).bind (ep (λqd=>U (an qd)) λqd=>(jV T qd.1 qd.2.1 qd.2.2.1 qd.2.2.2.1 qd.2.2.2.2.1).bind (dH λLb=>U (an Lb)))) ((mo T t0 t1 t4 (ar.wrap (t6+1)) t9).bind (ep (λqd=>U (an qd)) λqd=>(jV T qd.1 qd.2.1 qd.2.2.1 qd.2.2.2.1 qd.2.2.2.2.1).bind (dH λLb=>U (an Lb))))) az)) az) ((mo T t0 t1 t4 (ar.wrap (t6+1)) t9).bind (ep (λqd=>U (an qd)) λqd=>(jV T qd.1 qd.2.1 qd.2.2.1 qd.2.2.2.1 qd.2.2.2.2.1).bind (dH λLb=>U (an Lb))))) ((jV T t0 t1 t4 t6 t9).bind (dH λLb=>U (an Lb)))) az) ((jV T t0 t1 t4 t6 t9).bind (dH λLb=>U (an Lb))):=eJ bp8
def C4 (t0 t1 t4 t6 t9):mo (S.step T) t0 t1 t4 t6 t9=brk (t0.length<=t6) (U (an ((t4.1,t4.2.1,t6,t4.2.2.2),av,()))) (brk (0<=t6&&t6<t0.length) ((mu T (t0.getD t6.toNat 0)).bind λd180=>brk (!d180.1) (U (an ((t4.1,t4.2.1,t6,t4.2.2.2),av,()))) ((kZ T t0 t1 t4 t6 t9).bind (dH λbk7=>U (aE (an bk7))))) az):=eJ bp8
def C7 (t0 t1 t4 t6 t9):jV (S.step T) t0 t1 t4 t6 t9=brk (t6=t9) (brk (bounds t0.length t1 t6) ((Lx.tD (sub t0 t1 t6,10,64,())).bind λd208=>brk (d208.1.2.1) (U (an ((t4.1,t4.2.1,t6,t4.2.2.2.1,d208.1.1,t4.2.2.2.2.2),aq,()))) (brk (bounds t0.length t1 t6) (U (an ((3,t4.2.1,t6,t4.2.2.2.1,t4.2.2.2.2.1,sub t0 t1 t6,()),aq,()))) az)) az) (brk (bounds t0.length t1 t6) (U (an ((3,t4.2.1,t6,t4.2.2.2.1,t4.2.2.2.2.1,sub t0 t1 t6,()),aq,()))) az):=eJ bp8
def xD (t0 t1 t4 t6):lR (S.step T) t0 t1 t4 t6=brk (t6<t0.length) (brk (t6<ar.wrap (t1+18)) (brk (0<=t6&&t6<t0.length) ((yO T (t0.getD t6.toNat 0)).bind λd49=>brk (d49.1) (lR T t0 t1 t4 (ar.wrap (t6+1))) (U (an (t0,t1,t4,t6,())))) az) (U (an (t0,t1,t4,t6,())))) (U (an (t0,t1,t4,t6,()))):=eL bp8
def wK (t0 t1 t4 t6):ji (S.step T) t0 t1 t4 t6=brk (t6<t0.length) (brk (0<=t6&&t6<t0.length) ((mu T (t0.getD t6.toNat 0)).bind λd105=>brk (d105.1) (ji T t0 t1 t4 (ar.wrap (t6+1))) (U (an (t0,t1,t4,t6,())))) az) (U (an (t0,t1,t4,t6,()))):=eL bp8
def wj (t0 t1 t4 t6 t9):ld (S.step T) t0 t1 t4 t6 t9=brk (t6<t0.length) (brk (0<=t6&&t6<t0.length) ((mu T (t0.getD t6.toNat 0)).bind λd138=>brk (d138.1) (ld T t0 t1 t4 (ar.wrap (t6+1)) t9) (U (an (t0,t1,t4,t6,t9,())))) az) (U (an (t0,t1,t4,t6,t9,()))):=eL bp8
def wE (t0 t1 t4 t6 t9):kZ (S.step T) t0 t1 t4 t6 t9=brk (t6<t0.length) (brk (0<=t6&&t6<t0.length) ((mu T (t0.getD t6.toNat 0)).bind λd194=>brk (d194.1) (kZ T t0 t1 t4 (ar.wrap (t6+1)) t9) (U (an (t0,t1,t4,t6,t9,())))) az) (U (an (t0,t1,t4,t6,t9,()))):=eL bp8
theorem qe (t0 t1):l9 (S.step T) t0 t1=(Bld.w7 (t0,t1,())).bind λd7=>U (d7.1,cW):=eF Tryz.func149
theorem ur (t0 t1):kM (S.step T) t0 t1=(l9 T t0 t1).bind λd7=>U (d7.1,cW):=eF Tryz.func78
def CP (t0):qE (S.step T) t0=(ni T t0 10 31).bind λd5=>brk (d5.1) (brk (0<=ar.wrap (t0 - 10)&&ar.wrap (t0 - 10)<Lx.words.length) (U (Lx.words.getD ((ar.wrap (t0 - 10)).toNat) [],cV)) az) ((ni T t0 40 50).bind λd13=>brk (d13.1) (brk (0<=ar.wrap (t0 - 40)&&ar.wrap (t0 - 40)<Lx.rG.length) (U (Lx.rG.getD ((ar.wrap (t0 - 40)).toNat) [],cV)) az) ((ni T t0 61 78).bind λd21=>brk (d21.1) (brk (0<=ar.wrap (ar.wrap (t0 - 60) - 1)&&ar.wrap (ar.wrap (t0 - 60) - 1)<Lx.zK.length) (U (Lx.zK.getD ((ar.wrap (ar.wrap (t0 - 60) - 1)).toNat) [],cV)) az) (brk (t0=5) (U ([59],cV)) (U ([],cV))))):=eF Tryz.func81
def Gn (t0 t1):lT (S.step T) t0 t1=brk (0<=t1&&t1<t0.length) ((oO T (t0.getD t1.toNat 0)).bind λd24=>brk (d24.1) ((nT T t0 t1 (0,t1,0,0,0,[],()) t1).bind (dH λy5=>brk (bounds y5.1.length y5.2.1 y5.2.2.2.1) ((B7 T (sub y5.1 y5.2.1 y5.2.2.2.1)).bind λd50=>brk (d50.1=1) (brk (bounds y5.1.length y5.2.1 y5.2.2.2.1) (U (((d50.1,y5.2.2.1.2.1,y5.2.2.2.1,y5.2.2.1.2.2.2.1,y5.2.2.1.2.2.2.2.1,sub y5.1 y5.2.1 y5.2.2.2.1,()),aq,()),cW)) az) (U (((d50.1,y5.2.2.1.2.1,y5.2.2.2.1,y5.2.2.1.2.2.2),aq,()),cW))) az)) ((mu T (t0.getD t1.toNat 0)).bind λd63=>brk (d63.1) ((sh T t0 t1).bind λd66=>U (d66.1,cW)) (brk (t0.getD t1.toNat 0=34) ((fK T t0 (4,t1,0,0,0,[],()) [] (ar.wrap (t1+1))).bind (dH λZD=>U (ZD,cW))) ((mI T t0 t1 (0,t1,0,0,0,[],()) 0 78).bind (dH λax8=>brk (ax8.2.1.1=0) (U (((ax8.2.1.1,ax8.2.1.2.1,ax8.1,ax8.2.1.2.2.2),av,()),cW)) (U ((ax8.2.1,aq,()),cW))))))) none:=eF Tryz.func38
def A0 (t0 t1 t4 t7):nT (S.step T) t0 t1 t4 t7=brk (t7<t0.length) (brk (0<=t7&&t7<t0.length) ((oO T (t0.getD t7.toNat 0)).bind λd34=>brk (d34.1) (nT T t0 t1 t4 (ar.wrap (t7+1))) (brk (0<=t7&&t7<t0.length) ((mu T (t0.getD t7.toNat 0)).bind λd39=>brk (d39.1) (nT T t0 t1 t4 (ar.wrap (t7+1))) (U (an (t0,t1,t4,t7,())))) az)) az) (U (an (t0,t1,t4,t7,()))):=eL Tryz.func38
def nz (t0 t4 t8 t9):fK (S.step T) t0 t4 t8 t9=brk (t0.length<=t9) (U (an ((t4.1,t4.2.1,t9,t4.2.2.2),av,()))) (brk (0<=t9&&t9<t0.length) (brk (t0.getD t9.toNat 0=10) (U (an ((t4.1,t4.2.1,t9,t4.2.2.2),av,()))) (brk (0<=t9&&t9<t0.length) (brk (t0.getD t9.toNat 0=34) (U (an ((t4.1,t4.2.1,ar.wrap (t9+1),t4.2.2.2.1,t4.2.2.2.2.1,t8.map byte,()),aq,()))) (brk (0<=t9&&t9<t0.length) (brk (!(t0.getD t9.toNat 0=92)) (brk (0<=t9&&t9<t0.length) (brk (fits (t8.length+[t0.getD t9.toNat 0].length)) (fK T t0 t4 (t8++[t0.getD t9.toNat 0]) (ar.wrap (t9+1))) az) az) (brk (t0.length<=ar.wrap (t9+1)) (U (an ((t4.1,t4.2.1,ar.wrap (t9+1),t4.2.2.2),av,()))) (brk (0<=ar.wrap (t9+1)&&ar.wrap (t9+1)<t0.length) ((kM T [110,116,34,92] (t0.getD ((ar.wrap (t9+1)).toNat) 0)).bind λd124=>brk (0<=d124.1) (brk (0<=d124.1&&d124.1<4) (brk (fits (t8.length+([[10,9,34,92].getD d124.1.toNat 0]:LI).length)) (fK T t0 t4 (t8++([[10,9,34,92].getD d124.1.toNat 0])) (ar.wrap (t9+2))) az) az) (brk (0<=ar.wrap (t9+1)&&ar.wrap (t9+1)<t0.length) (brk (!(t0.getD ((ar.wrap (t9+1)).toNat) 0=120)) (U (an ((t4.1,t4.2.1,ar.wrap (t9+1),t4.2.2.2),av,()))) ((qP T t0 t4 t8 t9 2).bind (ep (λUM=>U (an UM)) λUM=>brk (bounds UM.1.length (ar.wrap (UM.2.2.2.1+2)) (ar.wrap (UM.2.2.2.1+4))) ((mh T (sub UM.1 (ar.wrap (UM.2.2.2.1+2)) (ar.wrap (UM.2.2.2.1+4))) 16 8).bind λd174=>brk (fits (UM.2.2.1.length+[aO.wrap d174.1.1].length)) (fK T UM.1 UM.2.1 (UM.2.2.1++[aO.wrap d174.1.1]) (ar.wrap (UM.2.2.2.1+4))) az) az))) az)) az))) az)) az)) az):=eL Tryz.func38
def uP (t0 t4 t8 t9 t11):qP (S.step T) t0 t4 t8 t9 t11=brk (t11<=3) (brk (t0.length<=ar.wrap (t9+t11)) (U (an ((t4.1,t4.2.1,ar.wrap (t9+t11),t4.2.2.2),av,()))) (brk (0<=ar.wrap (t9+t11)&&ar.wrap (t9+t11)<t0.length) ((yO T (t0.getD ((ar.wrap (t9+t11)).toNat) 0)).bind λd159=>brk (!d159.1) (U (an ((t4.1,t4.2.1,ar.wrap (t9+t11),t4.2.2.2),av,()))) (qP T t0 t4 t8 t9 (ar.wrap (t11+1)))) az)) (U (aE (an (t0,t4,t8,t9,())))):=eL Tryz.func38
def z6 (t0 t1 t4 t14 t15):mI (S.step T) t0 t1 t4 t14 t15=brk (0<t15) ((qE T t15).bind λd189=>brk (!(d189.1=[])) (brk (0<(d189.1.length:Int)) ((oO T (d189.1.getD 0 0)).bind λd195=>brk (!d195.1) (brk (bounds t0.length t1 t0.length) ((strings_HasPrefix T (sub t0 t1 t0.length) d189.1).bind λd203=>brk (d203.1) (brk (t14<d189.1.length) (mI T t0 t1 (t15,t4.2.1,ar.wrap (t1+d189.1.length),t4.2.2.2) d189.1.length (ar.wrap (t15 - 1))) (mI T t0 t1 t4 t14 (ar.wrap (t15 - 1)))) (mI T t0 t1 t4 t14 (ar.wrap (t15 - 1)))) az) (mI T t0 t1 t4 t14 (ar.wrap (t15 - 1)))) az) (mI T t0 t1 t4 t14 (ar.wrap (t15 - 1)))) (U (an (t1,t4,()))):=eL Tryz.func38
def GY (t0 t1 t2):oY (S.step T) t0 t1 t2=brk (0<=t2&&t2<t1.length) (brk (t1.getD t2.toNat 0=45) ((nB T t0 t1 t2 1).bind (dH λy4=>U (y4.1,dR))) ((nB T t0 t1 t2 0).bind (dH λy4=>U (y4.1,dR)))) none:=eF Tryz.func39
def CZ (t0 t1 t2 t7):nB (S.step T) t0 t1 t2 t7=(mr T t0 t1 t2 t7 1).bind (dH λy5=>brk (0<=y5.2.2.1&&y5.2.2.1<(y5.2.1.length:Int)) ((oO T (y5.2.1.getD y5.2.2.1.toNat 0)).bind λd61=>brk (d61.1) ((nY T y5.1 1).bind λd64=>brk (d64.1) ((jt T y5.2.1 y5.2.2.1 y5.2.2.2.1 0).bind (dH λDB=>U (an (if DB.2.1>DB.1 then DB.2.1 else DB.1,())))) (U (an y5.2.2.2))) (U (an y5.2.2.2))) az):=eJ Tryz.func39
def oT (t0 t1 t2 t7 t8):mr (S.step T) t0 t1 t2 t7 t8=brk (t8<=78) ((qE T t8).bind λd21=>brk (d21.1=[]) (mr T t0 t1 t2 t7 (ar.wrap (t8+1))) ((nY T t0 t8).bind λd27=>brk (!d27.1) (mr T t0 t1 t2 t7 (ar.wrap (t8+1))) ((ku T t0 t1 t2 t7 t8 d21.1 0).bind (dH λQm=>mr T Qm.1 Qm.2.1 Qm.2.2.1 (if Qm.2.2.2.2.2.1>Qm.2.2.2.1 then Qm.2.2.2.2.2.1 else Qm.2.2.2.1) (ar.wrap (Qm.2.2.2.2.1+1)))))) (U (an (t0,t1,t2,t7,()))):=eL Tryz.func39
def ve (t0 t1 t2 t7 t8 t9 t10):ku (S.step T) t0 t1 t2 t7 t8 t9 t10=brk (t10<t9.length) (brk (ar.wrap (t2+t10)<t1.length) (brk (0<=t10&&t10<t9.length) (brk (0<=ar.wrap (t2+t10)&&ar.wrap (t2+t10)<t1.length) (brk (t9.getD t10.toNat 0=t1.getD ((ar.wrap (t2+t10)).toNat) 0) (ku T t0 t1 t2 t7 t8 t9 (ar.wrap (t10+1))) (U (an (t0,t1,t2,t7,t8,t10,())))) az) az) (U (an (t0,t1,t2,t7,t8,t10,())))) (U (an (t0,t1,t2,t7,t8,t10,()))):=eL Tryz.func39
def vf (t1 t2 t7 t11):jt (S.step T) t1 t2 t7 t11=brk (ar.wrap (t2+t11)<t1.length) (brk (0<=ar.wrap (t2+t11)&&ar.wrap (t2+t11)<t1.length) ((oO T (t1.getD ((ar.wrap (t2+t11)).toNat) 0)).bind λd78=>brk (d78.1) (jt T t1 t2 t7 (ar.wrap (t11+1))) (brk (0<=ar.wrap (t2+t11)&&ar.wrap (t2+t11)<t1.length) ((mu T (t1.getD ((ar.wrap (t2+t11)).toNat) 0)).bind λd85=>brk (d85.1) (jt T t1 t2 t7 (ar.wrap (t11+1))) (U (an (t7,t11,())))) az)) az) (U (an (t7,t11,()))):=eL Tryz.func39
def D2 (t0):vO (S.step T) t0=(zt T).bind λd10=>(mX T t0 0).bind λd12=>(eK T t0 [] d10.1 1 d12.1).bind (ep (λy4=>U (y4,cV)) λy4=>U ((y4.1,y4.2.1,(-1),()),cV)):=eF Tryz.func15
def rN (t0 t2 t3 t5 t6):eK (S.step T) t0 t2 t3 t5 t6=brk (t6<t0.length) (brk (0<=t6&&t6<t0.length) (brk (t0.getD t6.toNat 0=10) ((nY T t3 5).bind λd25=>brk (d25.1) ((tC T t3 5).bind λd27=>brk (fits (t2.length+([(5,t6,ar.wrap (t6+1),t5,0,[],())]:List di.den).length)) ((mX T t0 (ar.wrap (t6+1))).bind λd19=>eK T t0 (t2++([(5,t6,ar.wrap (t6+1),t5,0,[],())]:List di.den)) d27.1 (ar.wrap (t5+1)) d19.1) az) ((mX T t0 (ar.wrap (t6+1))).bind λd19=>eK T t0 t2 t3 (ar.wrap (t5+1)) d19.1)) ((lT T t0 t6).bind λd43=>brk (d43.1.1.1=0) ((oY T t3 t0 t6).bind λd61=>U (an ([],t3,ar.wrap (t6+d61.1),()))) ((nY T t3 d43.1.1.1).bind λd53=>brk (!d53.1) ((oY T t3 t0 t6).bind λd61=>U (an ([],t3,ar.wrap (t6+d61.1),()))) (brk (d43.1.2.1) (U (an ([],t3,d43.1.1.2.2.1,()))) ((tC T t3 d43.1.1.1).bind λd69=>brk (fits (t2.length+([(d43.1.1.1,d43.1.1.2.1,d43.1.1.2.2.1,t5,d43.1.1.2.2.2.2)]:List di.den).length)) ((mX T t0 d43.1.1.2.2.1).bind λd19=>eK T t0 (t2++([(d43.1.1.1,d43.1.1.2.1,d43.1.1.2.2.1,t5,d43.1.1.2.2.2.2)]:List di.den)) d69.1 t5 d19.1) az))))) az) (U (aE (an (t2,t3,())))):=eL Tryz.func15
def Co (t0):fh (S.step T) t0=brk (0<=t0.2.1&&t0.2.1<t0.1.length) (U ((at_ (τ:=di) t0.1 t0.2.1).1,t0,())) none:=eF Tryz.func42
def Dd (t0 t1):fo (S.step T) t0 t1=(fh T t0).bind λd6=>brk (d6.1=t1) (U (av,(d6.2.1.1,ar.wrap (d6.2.1.2.1+1),d6.2.1.2.2),(),())) (U (aq,d6.2.1,(),())):=eF Tryz.func41
def Cn (t0):dy (S.step T) t0=brk (0<=ar.wrap (ar.wrap (t0.2.1+1) - 1)&&ar.wrap (ar.wrap (t0.2.1+1) - 1)<t0.1.length) (U (at_ (τ:=di) t0.1 (ar.wrap (ar.wrap (t0.2.1+1) - 1)),(t0.1,ar.wrap (t0.2.1+1),t0.2.2),())) none:=eF Tryz.func90
def AK (t0):me (S.step T) t0=(dy T t0).bind λd5=>(ko T d5.2.1 [d5.1.2.2.2.2.2.1]).bind (dH λy2=>U (y2.2.1,y2.1,())):=eF Tryz.func91
def r8 (t0 t3):ko (S.step T) t0 t3=(fo T t0 46).bind λd9=>brk (d9.1) ((dy T d9.2.1).bind λd12=>brk (fits (t3.length+([d12.1.2.2.2.2.2.1]:List LI).length)) (ko T d12.2.1 (t3++([d12.1.2.2.2.2.2.1]:List LI))) az) (U (an (d9.2.1,t3,()))):=eL Tryz.func91
def C8 (t0 t1):lf (S.step T) t0 t1=brk (fits (t0.2.2.1.length+[t1].length)) (U (ar.wrap (((t0.2.2.1++[t1]).length) - 1),(t0.1,t0.2.1,t0.2.2.1++[t1],()),((),(),(),(),(),(),(),(),(),()),())) none:=eF Tryz.func18
def AI (t0 t1 t2):dt (S.step T) t0 t1 t2=brk (0<=t1&&t1<t0.1.length) (brk (0<=t1&&t1<t0.1.length) (brk (0<=ar.wrap (t0.2.1 - 1)&&ar.wrap (t0.2.1 - 1)<t0.1.length) ((lf T t0 (t2.1,(at_ (τ:=di) t0.1 t1).2.1,(at_ (τ:=di) t0.1 (ar.wrap (t0.2.1 - 1))).2.2.1,(at_ (τ:=di) t0.1 t1).2.2.2.1,t2.2.2.2.2)).bind λd40=>U (d40.1,d40.2.1,(),((),(),(),(),(),(),(),(),(),()),())) az) az) none:=eF Tryz.func93
def Ar (t0 t1 t2):gp (S.step T) t0 t1 t2=(dy T t1).bind λd6=>(dt T d6.2.1 t2 t0).bind λd10=>U (d10.1,((),(),(),(),(),(),(),(),(),()),d10.2.1,t2,()):=eF Tryz.func185
def AD (t0):fv (S.step T) t0=(dy T t0).bind λd10=>(jB T d10.2.1).bind λd12=>(dy T d12.2.1).bind λd14=>(dt T d14.2.1 t0.2.1 (1,0,0,0,0,0,[],[],d12.1,())).bind λd19=>U (d19.1,d19.2.1,()):=eF Tryz.func97
def Cp (t0 t1):oA (S.step T) t0 t1=(dy T t0).bind λd8=>(gW T d8.2.1 t1 (36,0,0,0,0,0,[],[],[],())).bind (dH λy3=>(fv T y3.1).bind λd30=>(dt T d30.2.1 y3.2.1 (y3.2.2.1.1,y3.2.2.1.2.1,y3.2.2.1.2.2.1,y3.2.2.1.2.2.2.1,y3.2.2.1.2.2.2.2.1,y3.2.2.1.2.2.2.2.2.1,y3.2.2.1.2.2.2.2.2.2.1,y3.2.2.1.2.2.2.2.2.2.2.1,([d30.1]:LI),())).bind λd36=>U (d36.1,d36.2.1,(),())):=eF Tryz.func95
def oQ (t0 t1 t5):gW (S.step T) t0 t1 t5=(fo T t0 41).bind λd11=>brk (!d11.1) ((dy T d11.2.1).bind λd14=>brk (d14.1.1=49) (gW T d14.2.1 t1 (t5.1,t5.2.1,t5.2.2.1,t5.2.2.2.1,1,t5.2.2.2.2.2)) (brk (d14.1.1=1) (brk (fits (t5.2.2.2.2.2.2.2.1.length+([d14.1.2.2.2.2.2.1]:List LI).length)) (gW T d14.2.1 t1 (t5.1,t5.2.1,t5.2.2.1,t5.2.2.2.1,t5.2.2.2.2.1,t5.2.2.2.2.2.1,t5.2.2.2.2.2.2.1,t5.2.2.2.2.2.2.2.1++([d14.1.2.2.2.2.2.1]:List LI),t5.2.2.2.2.2.2.2.2)) az) (gW T d14.2.1 t1 t5))) (U (an (d11.2.1,t1,t5,()))):=eL Tryz.func95
def AV (t0):sJ (S.step T) t0=(dy T t0).bind λd16=>(fk T d16.2.1 t0.2.1 (35,0,0,0,0,0,[],[],[],())).bind (dH λy4=>(dt T y4.1 y4.2.1 y4.2.2.1).bind λd92=>U (d92.1,d92.2.1,())):=eF Tryz.func186
def l6 (t0 t3 t4):fk (S.step T) t0 t3 t4=(fo T t0 43).bind λd19=>brk (!d19.1) ((fh T d19.2.1).bind λd26=>brk (d26.1=44) ((dy T d26.2.1).bind λd43=>(eQ T d43.2.1 0).bind λd45=>(dy T d45.2.1).bind λd47=>(dy T d47.2.1).bind λd49=>(eQ T d49.2.1 0).bind λd51=>(dt T d51.2.1 d19.2.1.2.1 (41,0,0,0,0,0,[],[],([d45.1,d51.1]:LI),())).bind λd60=>brk (fits (t4.2.2.2.2.2.2.2.2.1.length+[d60.1].length)) ((fo T d60.2.1 46).bind λd88=>fk T d88.2.1 t3 (t4.1,t4.2.1,t4.2.2.1,t4.2.2.2.1,t4.2.2.2.2.1,t4.2.2.2.2.2.1,t4.2.2.2.2.2.2.1,t4.2.2.2.2.2.2.2.1,t4.2.2.2.2.2.2.2.2.1++[d60.1],())) az) (brk (d26.1=48) ((dy T d26.2.1).bind λd67=>(dy T d67.2.1).bind λd69=>(dy T d69.2.1).bind λd72=>(eQ T d72.2.1 0).bind λd74=>(dt T d74.2.1 d19.2.1.2.1 (42,0,0,0,0,0,d69.1.2.2.2.2.2.1,[],([d74.1]:LI),())).bind λd83=>brk (fits (t4.2.2.2.2.2.2.2.2.1.length+[d83.1].length)) ((fo T d83.2.1 46).bind λd88=>fk T d88.2.1 t3 (t4.1,t4.2.1,t4.2.2.1,t4.2.2.2.1,t4.2.2.2.2.1,t4.2.2.2.2.2.1,t4.2.2.2.2.2.2.1,t4.2.2.2.2.2.2.2.1,t4.2.2.2.2.2.2.2.2.1++[d83.1],())) az) ((eQ T d26.2.1 0).bind λd28=>(dt T d28.2.1 d19.2.1.2.1 (40,0,0,0,0,0,[],[],([d28.1]:LI),())).bind λd36=>brk (fits (t4.2.2.2.2.2.2.2.2.1.length+[d36.1].length)) ((fo T d36.2.1 46).bind λd88=>fk T d88.2.1 t3 (t4.1,t4.2.1,t4.2.2.1,t4.2.2.2.1,t4.2.2.2.2.1,t4.2.2.2.2.2.1,t4.2.2.2.2.2.2.1,t4.2.2.2.2.2.2.2.1,t4.2.2.2.2.2.2.2.2.1++[d36.1],())) az))) (U (an (d19.2.1,t3,t4,()))):=eL Tryz.func186
def q8 (t0):jr (S.step T) t0=(fo T t0 40).bind λd15=>brk (d15.1) ((eQ T d15.2.1 0).bind λd17=>(dy T d17.2.1).bind λd19=>brk (0<=d17.1&&d17.1<d19.2.1.2.2.1.length) (brk ((at_ (τ:=cZ) d19.2.1.2.2.1 d17.1).1=34) ((dt T d19.2.1 t0.2.1 (37,0,0,0,0,0,[],[],([d17.1]:LI),())).bind λd39=>(gJ T d39.2.1 t0.2.1 d39.1).bind (dH λzg=>U (zg.2.1,zg.1,()))) (brk ((at_ (τ:=cZ) d19.2.1.2.2.1 d17.1).1=27) ((dt T d19.2.1 t0.2.1 (37,0,0,0,0,0,[],[],([d17.1]:LI),())).bind λd39=>(gJ T d39.2.1 t0.2.1 d39.1).bind (dH λzg=>U (zg.2.1,zg.1,()))) ((gJ T d19.2.1 t0.2.1 d17.1).bind (dH λzg=>U (zg.2.1,zg.1,()))))) az) ((dy T d15.2.1).bind λd41=>(dt T d41.2.1 t0.2.1 (26,0,0,0,0,0,d41.1.2.2.2.2.2.1,[],[],())).bind λd47=>(gJ T d47.2.1 t0.2.1 d47.1).bind (dH λzg=>U (zg.2.1,zg.1,()))):=eF Tryz.func98
def yr (t0 t3 t4):gJ (S.step T) t0 t3 t4=(fm T t0 t3 t4).bind (dH λzg=>U (an zg)):=eJ Tryz.func98
def ke (t0 t3 t4):fm (S.step T) t0 t3 t4=(fh T t0).bind λd49=>brk (d49.1=48) ((dy T d49.2.1).bind λd54=>(dy T d54.2.1).bind λd56=>(dt T d56.2.1 t3 (33,0,0,0,0,0,d56.1.2.2.2.2.2.1,[],([t4]:LI),())).bind λd64=>fm T d64.2.1 t3 d64.1) (brk (d49.1=44) ((dy T d49.2.1).bind λd68=>(eQ T d68.2.1 0).bind λd70=>(dy T d70.2.1).bind λd72=>(dt T d72.2.1 t3 (32,0,0,0,0,0,[],[],([t4,d70.1]:LI),())).bind λd79=>fm T d79.2.1 t3 d79.1) (brk (d49.1=40) ((dy T d49.2.1).bind λd83=>(fh T d83.2.1).bind λd87=>brk (!(d87.1=41)) ((gN T d87.2.1).bind λd91=>brk (fits ([t4].length+d91.1.length)) ((dy T d91.2.1).bind λd94=>(dt T d94.2.1 t3 (34,0,0,0,0,0,[],[],[t4]++d91.1,())).bind λd99=>fm T d99.2.1 t3 d99.1) az) ((dy T d87.2.1).bind λd94=>(dt T d94.2.1 t3 (34,0,0,0,0,0,[],[],([t4]:LI),())).bind λd99=>fm T d99.2.1 t3 d99.1)) (U (an (d49.2.1,t4,()))))):=eL Tryz.func98
def fV (t0):fz (S.step T) t0=brk (0<=t0.2.1&&t0.2.1<t0.1.length) ((eM T (at_ (τ:=di) t0.1 t0.2.1).1).bind λd24=>brk (d24.1) ((dy T t0).bind λd26=>(fz T d26.2.1).bind λd36=>(dt T d36.2.1 t0.2.1 (30,0,0,0,J9 0 [(25,21),(50,22),(62,19),(69,20)] (at_ (τ:=di) t0.1 t0.2.1).1,0,[],[],([d36.1]:LI),())).bind λd39=>U (d39.1,d39.2.1,())) (brk ((at_ (τ:=di) t0.1 t0.2.1).1=2) ((gp T (23,0,0,0,0,(at_ (τ:=di) t0.1 t0.2.1).2.2.2.2.1,[],[],[],()) t0 t0.2.1).bind λd48=>U (d48.1,d48.2.2.1,())) (brk ((at_ (τ:=di) t0.1 t0.2.1).1=3) ((gp T (24,0,0,0,0,0,(at_ (τ:=di) t0.1 t0.2.1).2.2.2.2.2.1,[],[],()) t0 t0.2.1).bind λd55=>U (d55.1,d55.2.2.1,())) (brk ((at_ (τ:=di) t0.1 t0.2.1).1=4) ((gp T (25,0,0,0,0,0,(at_ (τ:=di) t0.1 t0.2.1).2.2.2.2.2.1,[],[],()) t0 t0.2.1).bind λd62=>U (d62.1,d62.2.2.1,())) (brk ((at_ (τ:=di) t0.1 t0.2.1).1=24) ((gp T (20,0,0,0,0,0,[],[],[],()) t0 t0.2.1).bind λd67=>U (d67.1,d67.2.2.1,())) (brk ((at_ (τ:=di) t0.1 t0.2.1).1=29) ((gp T (21,0,0,0,0,0,[],[],[],()) t0 t0.2.1).bind λd72=>U (d72.1,d72.2.2.1,())) (brk ((at_ (τ:=di) t0.1 t0.2.1).1=17) ((gp T (22,0,0,0,0,0,[],[],[],()) t0 t0.2.1).bind λd77=>U (d77.1,d77.2.2.1,())) (brk ((at_ (τ:=di) t0.1 t0.2.1).1=49) ((gp T (27,0,0,0,0,0,[],[],[],()) t0 t0.2.1).bind λd82=>U (d82.1,d82.2.2.1,())) (brk ((at_ (τ:=di) t0.1 t0.2.1).1=18) ((dy T t0).bind λd86=>(oA T d86.2.1 t0.2.1).bind λd89=>U (d89.1,d89.2.1,())) (brk ((at_ (τ:=di) t0.1 t0.2.1).1=42) ((sJ T t0).bind λd93=>U d93) ((jr T t0).bind λd95=>U d95))))))))))) none:=eF Tryz.func153
def Cj (t0 t1):eQ (S.step T) t0 t1=(fz T t0).bind λd17=>(iF T d17.2.1 t1 t0.2.1 d17.1).bind (dH λy3=>U (y3.2.1,y3.1,(),())):=eF Tryz.func94
def yp (t0 t1 t5 t6 t7 t9):nK (S.step T) t0 t1 t5 t6 t7 t9=(eQ T t0 t9).bind λd35=>brk (t7=10) (brk (t7=26) ((dt T d35.2.1 t5 (29,0,0,0,0,0,[],[],([t6,d35.1]:LI),())).bind λd53=>U (an (d53.2.1,t1,t5,d53.1,()))) ((dt T d35.2.1 t5 (28,0,0,0,0,0,[],[],([t6,d35.1]:LI),())).bind λd53=>U (an (d53.2.1,t1,t5,d53.1,())))) (brk (t7=26) ((dt T d35.2.1 t5 (29,0,0,0,0,0,[],[],([t6,d35.1]:LI),())).bind λd53=>U (an (d53.2.1,t1,t5,d53.1,()))) ((dt T d35.2.1 t5 (31,0,0,0,ar.wrap (t7 - 60),0,[],[],([t6,d35.1]:LI),())).bind λd53=>U (an (d53.2.1,t1,t5,d53.1,())))):=eJ Tryz.func94
def oP (t0 t1 t5 t6):iF (S.step T) t0 t1 t5 t6=(fh T t0).bind λd19=>(oZ T d19.1).bind λd21=>brk (d21.1<=t1) (U (an (d19.2.1,t6,()))) ((dy T d19.2.1).bind λd27=>brk (d19.1=72) ((nK T d27.2.1 t1 t5 t6 d19.1 (ar.wrap (d21.1 - 1))).bind (dH λzg=>iF T zg.1 zg.2.1 zg.2.2.1 zg.2.2.2.1)) ((nK T d27.2.1 t1 t5 t6 d19.1 d21.1).bind (dH λzg=>iF T zg.1 zg.2.1 zg.2.2.1 zg.2.2.2.1))):=eL Tryz.func94
def AT (t0):gN (S.step T) t0=(eQ T t0 0).bind λd5=>(kg T d5.2.1 [d5.1]).bind (dH λy2=>U (y2.2.1,y2.1,())):=eF Tryz.func92
def r7 (t0 t3):kg (S.step T) t0 t3=(fo T t0 46).bind λd8=>brk (d8.1) ((eQ T d8.2.1 0).bind λd11=>brk (fits (t3.length+[d11.1].length)) (kg T d11.2.1 (t3++[d11.1])) az) (U (an (d8.2.1,t3,()))):=eL Tryz.func92
def pN (t0):j3 (S.step T) t0=(dy T t0).bind λd10=>(eQ T d10.2.1 0).bind λd12=>(fv T d12.2.1).bind λd16=>brk (fits ([d12.1].length+[d16.1].length)) ((fh T d16.2.1).bind λd20=>brk (d20.1=15) ((j3 T d20.2.1).bind λd24=>brk (fits (([d12.1]++[d16.1]).length+[d24.1].length)) ((dt T d24.2.1 t0.2.1 (7,0,0,0,0,0,[],[],([d12.1]++[d16.1])++[d24.1],())).bind λd38=>U (d38.1,d38.2.1,())) az) ((fo T d20.2.1 16).bind λd28=>brk (d28.1) ((fv T d28.2.1).bind λd31=>brk (fits (([d12.1]++[d16.1]).length+[d31.1].length)) ((dt T d31.2.1 t0.2.1 (7,0,0,0,0,0,[],[],([d12.1]++[d16.1])++[d31.1],())).bind λd38=>U (d38.1,d38.2.1,())) az) ((dt T d28.2.1 t0.2.1 (7,0,0,0,0,0,[],[],[d12.1]++[d16.1],())).bind λd38=>U (d38.1,d38.2.1,())))) none:=eF Tryz.func96
def eE (t0):dZ (S.step T) t0=(fh T t0).bind λd21=>brk (d21.1=22) ((dy T d21.2.1).bind λd25=>(me T d25.2.1).bind λd27=>(fo T d27.2.1 47).bind λd30=>brk (d30.1) ((gN T d30.2.1).bind λd32=>(dt T d32.2.1 t0.2.1 (2,0,0,0,0,0,[],d27.1,d32.1,())).bind λd37=>U (d37.1,d37.2.1,())) ((dt T d30.2.1 t0.2.1 (2,0,0,0,0,0,[],d27.1,[],())).bind λd37=>U (d37.1,d37.2.1,()))) (brk (d21.1=13) ((dy T d21.2.1).bind λd41=>(dy T d41.2.1).bind λd43=>(dy T d43.2.1).bind λd48=>(eQ T d48.2.1 0).bind λd50=>(dt T d50.2.1 t0.2.1 (3,0,0,0,0,0,[],([d43.1.2.2.2.2.2.1]:List LI),([d50.1]:LI),())).bind λd56=>U (d56.1,d56.2.1,())) (brk (d21.1=18) ((dy T d21.2.1).bind λd60=>(dy T d60.2.1).bind λd62=>(oA T d62.2.1 d62.2.1.2.1).bind λd71=>(dt T d71.2.1 t0.2.1 (4,0,0,0,0,0,([]:LI),([d62.1.2.2.2.2.2.1]:List LI),([d71.1]:LI),())).bind λd77=>U (d77.1,d77.2.1,())) (brk (d21.1=20) ((j3 T d21.2.1).bind λd81=>U d81) (brk (d21.1=31) ((dy T d21.2.1).bind λd85=>(eQ T d85.2.1 0).bind λd87=>(fv T d87.2.1).bind λd92=>(dt T d92.2.1 t0.2.1 (8,0,0,0,0,0,([]:LI),[],([d87.1,d92.1]:LI),())).bind λd95=>U (d95.1,d95.2.1,())) (brk (d21.1=19) ((dy T d21.2.1).bind λd99=>(me T d99.2.1).bind λd101=>(fo T d101.2.1 47).bind λd103=>brk (d103.1) ((gN T d103.2.1).bind λd105=>(fv T d105.2.1).bind λd111=>brk (fits (d105.1.length+([d111.1]:LI).length)) ((dt T d111.2.1 t0.2.1 (9,0,0,0,0,0,([]:LI),d101.1,d105.1++([d111.1]:LI),())).bind λd115=>U (d115.1,d115.2.1,())) az) ((dy T d103.2.1).bind λd117=>(eQ T d117.2.1 0).bind λd119=>(fv T d119.2.1).bind λd125=>(dt T d125.2.1 t0.2.1 (10,0,0,0,0,0,([]:LI),d101.1,([d119.1,d125.1]:LI),())).bind λd128=>U (d128.1,d128.2.1,()))) (brk (d21.1=11) ((dy T d21.2.1).bind λd132=>(dt T d132.2.1 t0.2.1 (11,0,0,0,0,0,([]:LI),[],[],())).bind λd136=>U (d136.1,d136.2.1,())) (brk (d21.1=23) ((dy T d21.2.1).bind λd140=>(dt T d140.2.1 t0.2.1 (12,0,0,0,0,0,([]:LI),[],[],())).bind λd144=>U (d144.1,d144.2.1,())) (brk (d21.1=27) ((dy T d21.2.1).bind λd148=>(fh T d148.2.1).bind λd151=>(ij T d151.1).bind λd152=>brk (d152.1) ((gN T d151.2.1).bind λd154=>(dt T d154.2.1 t0.2.1 (13,0,0,0,0,0,([]:LI),[],d154.1,())).bind λd159=>U (d159.1,d159.2.1,())) ((dt T d151.2.1 t0.2.1 (13,0,0,0,0,0,([]:LI),[],[],())).bind λd159=>U (d159.1,d159.2.1,()))) (brk (d21.1=30) ((dy T d21.2.1).bind λd163=>(fv T d163.2.1).bind λd165=>(dy T d165.2.1).bind λd167=>(me T d167.2.1).bind λd169=>(fv T d169.2.1).bind λd173=>(dt T d173.2.1 t0.2.1 (14,0,0,0,0,0,([]:LI),d169.1,([d165.1,d173.1]:LI),())).bind λd179=>U (d179.1,d179.2.1,())) (brk (d21.1=28) ((dy T d21.2.1).bind λd183=>(eQ T d183.2.1 0).bind λd187=>(dt T d187.2.1 t0.2.1 (15,0,0,0,0,0,([]:LI),[],([d187.1]:LI),())).bind λd190=>U (d190.1,d190.2.1,())) (brk (d21.1=14) ((dy T d21.2.1).bind λd194=>(jr T d194.2.1).bind λd198=>(dt T d198.2.1 t0.2.1 (16,0,0,0,0,0,([]:LI),[],([d198.1]:LI),())).bind λd201=>U (d201.1,d201.2.1,())) (brk (d21.1=42) ((fv T d21.2.1).bind λd205=>U d205) ((jr T d21.2.1).bind λd207=>(fh T d207.2.1).bind λd210=>brk (!(d210.1=46)) ((fh T d210.2.1).bind λd214=>brk (!(d214.1=47)) ((dt T d214.2.1 t0.2.1 (6,0,0,0,0,0,([]:LI),[],([d207.1]:LI),())).bind λd221=>U (d221.1,d221.2.1,())) ((iZ T d214.2.1 t0.2.1 ([d207.1]:LI)).bind (dH (λEM=>(dy T EM.1).bind λd230=>(gN T d230.2.1).bind λd236=>brk (fits (EM.2.2.1.length+d236.1.length)) ((dt T d236.2.1 EM.2.1 (5,0,0,0,0,(EM.2.2.1.length:Int),([]:LI),[],EM.2.2.1++d236.1,())).bind λd242=>U (d242.1,d242.2.1,())) az)))) ((iZ T d210.2.1 t0.2.1 ([d207.1]:LI)).bind (dH (λEM=>(dy T EM.1).bind λd230=>(gN T d230.2.1).bind λd236=>brk (fits (EM.2.2.1.length+d236.1.length)) ((dt T d236.2.1 EM.2.1 (5,0,0,0,0,(EM.2.2.1.length:Int),([]:LI),[],EM.2.2.1++d236.1,())).bind λd242=>U (d242.1,d242.2.1,())) az)))))))))))))))):=eF Tryz.func43
def sd (t0 t3 t14):iZ (S.step T) t0 t3 t14=(fo T t0 46).bind λd223=>brk (d223.1) ((jr T d223.2.1).bind λd226=>brk (fits (t14.length+[d226.1].length)) (iZ T d226.2.1 t3 (t14++[d226.1])) az) (U (an (d223.2.1,t3,t14,()))):=eL Tryz.func43
def um (t0):jB (S.step T) t0=(hY T t0 []).bind (dH λy2=>U (y2.2.1,y2.1,())):=eF Tryz.func17
def se (t0 t3):kf (S.step T) t0 t3=(fo T t0 5).bind λd5=>brk (d5.1) (kf T d5.2.1 t3) (U (an (d5.2.1,t3,()))):=eL Tryz.func17
def qf (t0 t3):hY (S.step T) t0 t3=(kf T t0 t3).bind (dH λy2=>(fh T y2.1).bind λd7=>brk (d7.1=43) (U (an (d7.2.1,y2.2))) ((fh T d7.2.1).bind λd11=>brk (d11.1=6) (U (an (d11.2.1,y2.2))) ((dZ T d11.2.1).bind λd17=>brk (fits (y2.2.1.length+[d17.1].length)) (hY T d17.2.1 (y2.2.1++[d17.1])) az))):=eL Tryz.func17
def D5 (t0 t1):BZ (S.step T) t0 t1=brk (t0=[]) (U (aq,cW)) (brk (0<(t0.length:Int)) (brk (!(t0.getD 0 0=34)) (brk (0<(t0.length:Int)) ((oO T (t0.getD 0 0)).bind λd16=>brk (!d16.1) (brk (0<(t0.length:Int)) ((mu T (t0.getD 0 0)).bind λd22=>brk (!d22.1) (U (aq,cW)) ((lT T t0 0).bind λd28=>brk (!d28.1.2.1) (brk (d28.1.1.1=t1) (U (I (d28.1.1.2.2.1=(t0.length:Int)),cW)) (U (aq,cW))) (U (aq,cW)))) az) ((lT T t0 0).bind λd28=>brk (!d28.1.2.1) (brk (d28.1.1.1=t1) (U (I (d28.1.1.2.2.1=(t0.length:Int)),cW)) (U (aq,cW))) (U (aq,cW)))) az) ((lT T t0 0).bind λd28=>brk (!d28.1.2.1) (brk (d28.1.1.1=t1) (U (I (d28.1.1.2.2.1=(t0.length:Int)),cW)) (U (aq,cW))) (U (aq,cW)))) az):=eF Tryz.func187
theorem yw (t0):kH (S.step T) t0=brk ((t0.length:Int)<=40) ((BZ T t0 1).bind λd8=>U (d8.1,cV)) (U (aq,cV)):=eF Tryz.func155
def H6 (t0):xJ (S.step T) t0=(ni T t0 1 16).bind λd4=>U (d4.1,cV):=eF Tryz.func160
def E4 (t0 t1 t2 t3 t4 t5 t6 t7):dV (S.step T) t0 t1 t2 t3 t4 t5 t6 t7=brk (t0) (brk (t1) (brk (t2) (brk (t3) (U (av,(),(),(),(),t4,t5,t6,t7,())) (U (I (t7=[]),(),(),(),(),t4,t5,t6,t7,()))) (brk (t6=0) (brk (t3) (U (av,(),(),(),(),t4,t5,t6,t7,())) (U (I (t7=[]),(),(),(),(),t4,t5,t6,t7,()))) (U (aq,(),(),(),(),t4,t5,t6,t7,())))) (brk (t5=0) (brk (t2) (brk (t3) (U (av,(),(),(),(),t4,t5,t6,t7,())) (U (I (t7=[]),(),(),(),(),t4,t5,t6,t7,()))) (brk (t6=0) (brk (t3) (U (av,(),(),(),(),t4,t5,t6,t7,())) (U (I (t7=[]),(),(),(),(),t4,t5,t6,t7,()))) (U (aq,(),(),(),(),t4,t5,t6,t7,())))) (U (aq,(),(),(),(),t4,t5,t6,t7,())))) (brk (t4=0) (brk (t1) (brk (t2) (brk (t3) (U (av,(),(),(),(),t4,t5,t6,t7,())) (U (I (t7=[]),(),(),(),(),t4,t5,t6,t7,()))) (brk (t6=0) (brk (t3) (U (av,(),(),(),(),t4,t5,t6,t7,())) (U (I (t7=[]),(),(),(),(),t4,t5,t6,t7,()))) (U (aq,(),(),(),(),t4,t5,t6,t7,())))) (brk (t5=0) (brk (t2) (brk (t3) (U (av,(),(),(),(),t4,t5,t6,t7,())) (U (I (t7=[]),(),(),(),(),t4,t5,t6,t7,()))) (brk (t6=0) (brk (t3) (U (av,(),(),(),(),t4,t5,t6,t7,())) (U (I (t7=[]),(),(),(),(),t4,t5,t6,t7,()))) (U (aq,(),(),(),(),t4,t5,t6,t7,())))) (U (aq,(),(),(),(),t4,t5,t6,t7,())))) (U (aq,(),(),(),(),t4,t5,t6,t7,()))):=eF Tryz.func158
def HX (t0):uz (S.step T) t0=(ni T t0 20 37).bind λd4=>U (d4.1,cV):=eF Tryz.func157
def Fs (t0 t1 t2):dU (S.step T) t0 t1 t2=brk (bounds t2.length t0 t1) ((kv T t2 (sub t2 t0 t1) ((sub t2 t0 t1).length) 0).bind (ep (λy2=>U (y2.2.1,(),(),y2.1,())) λy2=>U (av,(),(),y2))) none:=eF Tryz.func156
theorem vd (t2 t11 t12 t13):kv (S.step T) t2 t11 t12 t13=brk (t13<t12) (brk (0<=t13&&t13<t11.length) ((uz T (t11.getD t13.toNat 0)).bind λd18=>brk (!d18.1) (U (an (t2,aq,()))) (kv T t2 t11 t12 (ar.wrap (t13+1)))) az) (U (aE (an (t2,())))):=eL Tryz.func156
theorem xv (t0):qv (S.step T) t0=brk ((t0.length:Int)<=40) ((BZ T t0 3).bind λd8=>U (d8.1,cV)) (U (aq,cV)):=eF Tryz.func161
def Fe (t0 t1):pH (S.step T) t0 t1=brk (1<=t0) (brk (0<(t1.length:Int)) ((uz T (t1.getD 0 0)).bind λd9=>brk (d9.1) (brk (0<(t1.length:Int)) (U (!I (t1.getD 0 0=27),t0,t1,())) az) (U (aq,t0,t1,()))) az) (U (aq,t0,t1,())):=eF Tryz.func159
def Im (t0 t1):nU (S.step T) t0 t1=brk (0<=t1&&t1<t0.1.length) (brk ((at_ (τ:=cZ) t0.1 t1).2.1<0) (U (aq,dB)) (brk ((at_ (τ:=cZ) t0.1 t1).2.2.1<(at_ (τ:=cZ) t0.1 t1).2.1) (U (aq,dB)) (brk ((at_ (τ:=cZ) t0.1 t1).2.2.2.1<0) (U (aq,dB)) (brk (200<((at_ (τ:=cZ) t0.1 t1).2.2.2.2.2.2.2.2.1.length:Int)) (U (aq,dB)) (brk (200<((at_ (τ:=cZ) t0.1 t1).2.2.2.2.2.2.2.1.length:Int)) (U (aq,dB)) ((oD T t1 t0 (at_ (τ:=cZ) t0.1 t1) [] (at_ (τ:=cZ) t0.1 t1).2.2.2.2.2.2.2.2.1 ((at_ (τ:=cZ) t0.1 t1).2.2.2.2.2.2.2.2.1.length) 0).bind (ep (λy6=>U (y6.1,dB)) (λy6=>(gZ T y6.1 y6.2.1 y6.1.2.2.2.2.2.2.2.1 y6.1.2.2.2.2.2.2.2.1.length 0).bind (ep (λpA=>U (pA.1,dB)) (λpA=>brk (pA.1.1=1) ((jU T pA.1.2.2.2.2.2.2.2.1.length pA.1.2.2.2.2.1 pA.1.2.2.2.2.2.1 pA.1.2.2.2.2.2.2.1 pA.2.1 pA.2.1.length 0).bind (ep (λqd=>U (qd.1,dB)) (λqd=>(dV T aq aq aq aq qd.1 qd.2.1 qd.2.2.1 qd.2.2.2.1).bind λd119=>U (d119.1,dB)))) (brk (pA.1.1=2) ((dV T av aq aq aq pA.1.2.2.2.2.2.2.2.1.length pA.1.2.2.2.2.1 pA.1.2.2.2.2.2.1 pA.1.2.2.2.2.2.2.1).bind λd123=>brk (d123.1) (brk (1<=d123.2.2.2.2.2.1) ((dU T 0 (pA.2.1.length:Int) pA.2.1).bind λd131=>U (d131.1,dB)) (U (aq,dB))) (U (aq,dB))) (brk (pA.1.1=3) ((dV T av aq aq aq (pA.1.2.2.2.2.2.2.2.1.length:Int) pA.1.2.2.2.2.1 pA.1.2.2.2.2.2.1 pA.1.2.2.2.2.2.2.1).bind λd136=>brk (d136.1) (brk (d136.2.2.2.2.2.1=1) (brk ((pA.2.1.length:Int)=1) ((dU T 0 1 pA.2.1).bind λd147=>U (d147.1,dB)) (U (aq,dB))) (U (aq,dB))) (U (aq,dB))) (brk (pA.1.1=4) ((dV T av aq aq aq (pA.1.2.2.2.2.2.2.2.1.length:Int) pA.1.2.2.2.2.1 pA.1.2.2.2.2.2.1 pA.1.2.2.2.2.2.2.1).bind λd152=>brk (d152.1) (brk (d152.2.2.2.2.2.1=1) (brk ((pA.2.1.length:Int)=1) (brk (0<(pA.2.1.length:Int)) (U (I (pA.2.1.getD 0 0=36),dB)) az) (U (aq,dB))) (U (aq,dB))) (U (aq,dB))) (brk (pA.1.1=5) ((dV T aq aq av aq (pA.1.2.2.2.2.2.2.2.1.length:Int) pA.1.2.2.2.2.1 pA.1.2.2.2.2.2.1 pA.1.2.2.2.2.2.2.1).bind λd170=>brk (!d170.1) (U (aq,dB)) (brk (d170.2.2.2.2.2.2.2.1<1) (U (aq,dB)) (brk (ar.wrap ((pA.2.1.length:Int) - 1)<d170.2.2.2.2.2.2.2.1) (U (aq,dB)) (brk (bounds pA.2.1.length 0 d170.2.2.2.2.2.2.2.1) ((gk T pA.2.1 d170.2.2.2.2.2.2.2.1 (pA.2.1.length:Int) (sub pA.2.1 0 d170.2.2.2.2.2.2.2.1) ((sub pA.2.1 0 d170.2.2.2.2.2.2.2.1).length:Int) 0).bind (ep (λXp=>U (Xp.1,dB)) (λXp=>(dU T Xp.2.1 Xp.2.2.1 Xp.1).bind λd204=>U (d204.1,dB)))) az)))) (brk (pA.1.1=6) ((pd T pA.2.1 (pA.1.2.2.2.2.2.2.2.1.length:Int) pA.1.2.2.2.2.1 pA.1.2.2.2.2.2.1 pA.1.2.2.2.2.2.2.1 (pA.2.1.length:Int) pA.1.1 (pA.1.1=6)).bind (ep (λaE6=>U (aE6.1,dB)) (λaE6=>U (aq,dB)))) ((pd T pA.2.1 (pA.1.2.2.2.2.2.2.2.1.length:Int) pA.1.2.2.2.2.1 pA.1.2.2.2.2.2.1 pA.1.2.2.2.2.2.2.1 (pA.2.1.length:Int) pA.1.1 (pA.1.1=16)).bind (ep (λaE6=>U (aE6.1,dB)) (λaE6=>U (aq,dB))))))))))))))))))) none:=eF bo7
def C1 (t6 t11 t12 t13 t14 t16 t105 t205):pd (S.step T) t6 t11 t12 t13 t14 t16 t105 t205=brk (t205) ((dV T aq aq aq aq t11 t12 t13 t14).bind λd209=>brk (d209.1) (brk (t16=1) (brk (0<(t6.length:Int)) (U (an (I (t6.getD 0 0=34),()))) az) (U (an (aq,())))) (U (an (aq,())))) (brk (t105=7) ((dV T aq aq aq aq t11 t12 t13 t14).bind λd223=>brk (d223.1) (brk (t16=2) ((dU T 0 1 t6).bind λd234=>brk (d234.1) (brk (1<(d234.2.2.2.1.length:Int)) (brk (d234.2.2.2.1.getD 1 0=1) (brk (t16=2) (U (an (av,()))) (brk (2<(d234.2.2.2.1.length:Int)) (brk (d234.2.2.2.1.getD 2 0=1) (U (an (av,()))) (brk (2<(d234.2.2.2.1.length:Int)) (U (an (I (d234.2.2.2.1.getD 2 0=7),()))) az)) az)) (U (an (aq,())))) az) (U (an (aq,())))) (brk (t16=3) ((dU T 0 1 t6).bind λd234=>brk (d234.1) (brk (1<(d234.2.2.2.1.length:Int)) (brk (d234.2.2.2.1.getD 1 0=1) (brk (t16=2) (U (an (av,()))) (brk (2<(d234.2.2.2.1.length:Int)) (brk (d234.2.2.2.1.getD 2 0=1) (U (an (av,()))) (brk (2<(d234.2.2.2.1.length:Int)) (U (an (I (d234.2.2.2.1.getD 2 0=7),()))) az)) az)) (U (an (aq,())))) az) (U (an (aq,())))) (U (an (aq,()))))) (U (an (aq,())))) (brk (t105=8) ((dV T aq aq aq aq t11 t12 t13 t14).bind λd261=>brk (d261.1) (brk (t16=2) ((dU T 0 1 t6).bind λd268=>brk (d268.1) (brk (1<(d268.2.2.2.1.length:Int)) (U (an (I (d268.2.2.2.1.getD 1 0=1),()))) az) (U (an (aq,())))) (U (an (aq,())))) (U (an (aq,())))) (brk (t105=9) ((dV T av aq aq aq t11 t12 t13 t14).bind λd279=>brk (d279.1) (brk (d279.2.2.2.2.2.1=1) (brk (t16=3) ((dU T 0 (ar.wrap (t16 - 1)) t6).bind λd296=>brk (d296.1) (brk (0<=ar.wrap (t16 - 1)&&ar.wrap (t16 - 1)<d296.2.2.2.1.length) (U (an (I (d296.2.2.2.1.getD ((ar.wrap (t16 - 1)).toNat) 0=1),()))) az) (U (an (aq,())))) (brk (t16=4) ((dU T 0 (ar.wrap (t16 - 1)) t6).bind λd296=>brk (d296.1) (brk (0<=ar.wrap (t16 - 1)&&ar.wrap (t16 - 1)<d296.2.2.2.1.length) (U (an (I (d296.2.2.2.1.getD ((ar.wrap (t16 - 1)).toNat) 0=1),()))) az) (U (an (aq,())))) (U (an (aq,()))))) (U (an (aq,())))) (U (an (aq,())))) (brk (t105=10) ((dV T av aq aq aq t11 t12 t13 t14).bind λd309=>brk (d309.1) (brk (1<=d309.2.2.2.2.2.1) (brk (t16=2) ((dU T 0 1 t6).bind λd320=>brk (d320.1) (brk (1<(d320.2.2.2.1.length:Int)) (U (an (I (d320.2.2.2.1.getD 1 0=1),()))) az) (U (an (aq,())))) (U (an (aq,())))) (U (an (aq,())))) (U (an (aq,())))) (brk (t105=11) ((jj T t6 t11 t12 t13 t14 t16 t105 (t105=11)).bind (ep (λEM=>U (an EM)) λEM=>U (aE (an ())))) (brk (t105=12) ((jj T t6 t11 t12 t13 t14 t16 t105 (t105=12)).bind (ep (λEM=>U (an EM)) λEM=>U (aE (an ())))) (brk (t105=20) ((jj T t6 t11 t12 t13 t14 t16 t105 (t105=20)).bind (ep (λEM=>U (an EM)) λEM=>U (aE (an ())))) (brk (t105=21) ((jj T t6 t11 t12 t13 t14 t16 t105 (t105=21)).bind (ep (λEM=>U (an EM)) λEM=>U (aE (an ())))) (brk (t105=22) ((jj T t6 t11 t12 t13 t14 t16 t105 (t105=22)).bind (ep (λEM=>U (an EM)) λEM=>U (aE (an ())))) ((jj T t6 t11 t12 t13 t14 t16 t105 (t105=27)).bind (ep (λEM=>U (an EM)) λEM=>U (aE (an ()))))))))))))):=eJ bo7
def De (t6 t11 t12 t13 t14 t16 t105 Zw):jj (S.step T) t6 t11 t12 t13 t14 t16 t105 Zw=brk (Zw) ((dV T aq aq aq aq t11 t12 t13 t14).bind λd336=>brk (d336.1) (U (an (I (t16=0),()))) (U (an (aq,())))) (brk (t105=13) ((dV T aq aq aq aq t11 t12 t13 t14).bind λd344=>brk (d344.1) ((dU T 0 t16 t6).bind λd348=>U (an (d348.1,()))) (U (an (aq,())))) (brk (t105=14) ((dV T av aq aq aq t11 t12 t13 t14).bind λd353=>brk (d353.1) (brk (d353.2.2.2.2.2.1=1) (brk (t16=2) (brk (0<(t6.length:Int)) (brk (t6.getD 0 0=1) (brk (1<(t6.length:Int)) (U (an (I (t6.getD 1 0=1),()))) az) (U (an (aq,())))) az) (U (an (aq,())))) (brk (d353.2.2.2.2.2.1=2) (brk (t16=2) (brk (0<(t6.length:Int)) (brk (t6.getD 0 0=1) (brk (1<(t6.length:Int)) (U (an (I (t6.getD 1 0=1),()))) az) (U (an (aq,())))) az) (U (an (aq,())))) (U (an (aq,()))))) (U (an (aq,())))) (brk (t105=15) ((nx T t6 t11 t12 t13 t14 t16 t105 (t105=15)).bind (ep (λaF6=>U (an aF6)) λaF6=>U (aE (an ())))) ((nx T t6 t11 t12 t13 t14 t16 t105 (t105=40)).bind (ep (λaF6=>U (an aF6)) λaF6=>U (aE (an ()))))))):=eJ bo7
def C9 (t6 t11 t12 t13 t14 t16 t105 ZE):nx (S.step T) t6 t11 t12 t13 t14 t16 t105 ZE=brk (ZE) ((dV T aq aq aq aq t11 t12 t13 t14).bind λaX6=>brk (aX6.1) (brk (t16=1) ((dU T 0 1 t6).bind λaW8=>U (an (aW8.1,()))) (U (an (aq,())))) (U (an (aq,())))) (brk (t105=23) ((dV T aq aq av aq t11 t12 t13 t14).bind λa01=>brk (a01.1) (U (an (I (t16=0),()))) (U (an (aq,())))) (brk (t105=24) ((dV T aq aq aq av t11 t12 t13 t14).bind λaI8=>brk (aI8.1) (brk (t16=0) ((qv T aI8.2.2.2.2.2.2.2.2.1).bind λa25=>U (an (a25.1,()))) (U (an (aq,())))) (U (an (aq,())))) (brk (t105=25) ((dV T aq aq aq av t11 t12 t13 t14).bind λaE4=>brk (aE4.1) (brk (t16=0) (U (an (I ((aE4.2.2.2.2.2.2.2.2.1.length:Int)<=4000),()))) (U (an (aq,())))) (U (an (aq,())))) (brk (t105=26) ((dV T aq aq aq av t11 t12 t13 t14).bind λUF=>brk (UF.1) (brk (t16=0) ((kH T UF.2.2.2.2.2.2.2.2.1).bind λaV6=>U (an (aV6.1,()))) (U (an (aq,())))) (U (an (aq,())))) (brk (t105=28) ((mq T t6 t11 t12 t13 t14 t16 t105 (t105=28)).bind (ep (λae6=>U (an ae6)) λae6=>U (aE (an ())))) (brk (t105=29) ((mq T t6 t11 t12 t13 t14 t16 t105 (t105=29)).bind (ep (λae6=>U (an ae6)) λae6=>U (aE (an ())))) ((mq T t6 t11 t12 t13 t14 t16 t105 (t105=41)).bind (ep (λae6=>U (an ae6)) λae6=>U (aE (an ())))))))))):=eJ bo7
def C3 (t6 t11 t12 t13 t14 t16 t105 ZO):mq (S.step T) t6 t11 t12 t13 t14 t16 t105 ZO=brk (ZO) ((dV T aq aq aq aq t11 t12 t13 t14).bind λaV8=>brk (aV8.1) (brk (t16=2) ((dU T 0 2 t6).bind λRZ=>U (an (RZ.1,()))) (U (an (aq,())))) (U (an (aq,())))) (brk (t105=30) ((dV T aq av aq aq t11 t12 t13 t14).bind λaJ9=>brk (aJ9.1) ((ni T aJ9.2.2.2.2.2.2.1 19 22).bind λaV5=>brk (aV5.1) (brk (t16=1) ((dU T 0 1 t6).bind λa29=>U (an (a29.1,()))) (U (an (aq,())))) (U (an (aq,())))) (U (an (aq,())))) (brk (t105=31) ((dV T aq av aq aq t11 t12 t13 t14).bind λaF9=>brk (aF9.1) ((ni T aF9.2.2.2.2.2.2.1 1 18).bind λaX7=>brk (aX7.1) (brk (t16=2) ((dU T 0 2 t6).bind λXM=>U (an (XM.1,()))) (U (an (aq,())))) (U (an (aq,())))) (U (an (aq,())))) (brk (t105=32) ((dV T aq aq aq aq t11 t12 t13 t14).bind λaY9=>brk (aY9.1) (brk (t16=2) ((pH T t16 t6).bind λaJ0=>brk (aJ0.1) ((dU T 0 2 aJ0.2.2.1).bind λaZ9=>U (an (aZ9.1,()))) (U (an (aq,())))) (U (an (aq,())))) (U (an (aq,())))) (brk (t105=33) ((dV T aq aq aq av t11 t12 t13 t14).bind λUx=>brk (Ux.1) (brk (t16=1) ((pH T t16 t6).bind λaV3=>brk (aV3.1) ((kH T Ux.2.2.2.2.2.2.2.2.1).bind λa35=>U (an (a35.1,()))) (U (an (aq,())))) (U (an (aq,())))) (U (an (aq,())))) (brk (t105=34) ((dV T aq aq aq aq t11 t12 t13 t14).bind λaW1=>brk (aW1.1) ((pH T t16 t6).bind λat6=>brk (at6.1) ((dU T 0 at6.2.1 at6.2.2.1).bind λaW9=>U (an (aW9.1,()))) (U (an (aq,())))) (U (an (aq,())))) (brk (t105=35) ((jW T t11 t12 t13 t14 t6 t6.length 0).bind (ep (λax2=>U (an ax2)) λax2=>(dV T aq aq aq aq ax2.1 ax2.2.1 ax2.2.2.1 ax2.2.2.2.1).bind λaZ4=>U (an (aZ4.1,())))) (brk (t105=36) ((dV T av av aq aq t11 t12 t13 t14).bind λaJ4=>brk (aJ4.1) ((ni T aJ4.2.2.2.2.2.2.1 0 1).bind λXD=>brk (XD.1) (brk (t16=1) (brk (0<(t6.length:Int)) (U (an (I (t6.getD 0 0=1),()))) az) (U (an (aq,())))) (U (an (aq,())))) (U (an (aq,())))) (brk (t105=37) ((dV T aq aq aq aq t11 t12 t13 t14).bind λa44=>brk (a44.1) (brk (t16=1) (brk (0<(t6.length:Int)) (brk (t6.getD 0 0=34) (U (an (av,()))) (brk (0<(t6.length:Int)) (U (an (I (t6.getD 0 0=27),()))) az)) az) (U (an (aq,())))) (U (an (aq,())))) (brk (t105=42) ((dV T aq aq aq av t11 t12 t13 t14).bind λaG9=>brk (aG9.1) (brk (t16=1) ((dU T 0 1 t6).bind λa07=>brk (a07.1) ((kH T aG9.2.2.2.2.2.2.2.2.1).bind λa38=>U (an (a38.1,()))) (U (an (aq,())))) (U (an (aq,())))) (U (an (aq,())))) (U (aE (an ())))))))))))):=eJ bo7
def xA (t1 t2 t5 t6 t58 t59 t60):oD (S.step T) t1 t2 t5 t6 t58 t59 t60=brk (t60<t59) (brk (0<=t60&&t60<t58.length) ((ni T (t58.getD t60.toNat 0) 0 (ar.wrap (t1 - 1))).bind λd67=>brk (!d67.1) (U (an (aq,()))) (brk (0<=t58.getD t60.toNat 0&&t58.getD t60.toNat 0<t2.1.length) (brk (fits (t6.length+([(at_ (τ:=cZ) t2.1 (t58.getD t60.toNat 0)).1]:LI).length)) (oD T t1 t2 t5 (t6++([(at_ (τ:=cZ) t2.1 (t58.getD t60.toNat 0)).1]:LI)) t58 t59 (ar.wrap (t60+1))) az) az)) az) (U (aE (an (t5,t6,())))):=eL bo7
theorem wg (t5 t6 t80 t81 t82):gZ (S.step T) t5 t6 t80 t81 t82=brk (t82<t81) (brk (0<=t82&&t82<t80.length) ((kH T (t80.getD t82.toNat [])).bind λd87=>brk (!d87.1) (U (an (aq,()))) (gZ T t5 t6 t80 t81 (ar.wrap (t82+1)))) az) (U (aE (an (t5,t6,())))):=eL bo7
theorem wv (t11 t12 t13 t14 t108 t109 t110):jU (S.step T) t11 t12 t13 t14 t108 t109 t110=brk (t110<t109) (brk (0<=t110&&t110<t108.length) ((xJ T (t108.getD t110.toNat 0)).bind λd115=>brk (!d115.1) (U (an (aq,()))) (jU T t11 t12 t13 t14 t108 t109 (ar.wrap (t110+1)))) az) (U (aE (an (t11,t12,t13,t14,())))):=eL bo7
theorem wB (t6 t13 t16 t184 t185 t186):gk (S.step T) t6 t13 t16 t184 t185 t186=brk (t186<t185) (brk (0<=t186&&t186<t184.length) (brk (!(t184.getD t186.toNat 0=26)) (brk (!(t184.getD t186.toNat 0=32)) (brk (!(t184.getD t186.toNat 0=33)) (U (an (aq,()))) (gk T t6 t13 t16 t184 t185 (ar.wrap (t186+1)))) (gk T t6 t13 t16 t184 t185 (ar.wrap (t186+1)))) (gk T t6 t13 t16 t184 t185 (ar.wrap (t186+1)))) az) (U (aE (an (t6,t13,t16,())))):=eL bo7
theorem wN (t11 t12 t13 t14 UL Xx Qe):jW (S.step T) t11 t12 t13 t14 UL Xx Qe=brk (Qe<Xx) (brk (0<=Qe&&Qe<UL.length) ((ni T (UL.getD Qe.toNat 0) 40 42).bind λa18=>brk (!a18.1) (U (an (aq,()))) (jW T t11 t12 t13 t14 UL Xx (ar.wrap (Qe+1)))) az) (U (aE (an (t11,t12,t13,t14,())))):=eL bo7
theorem wV (t0):sw (S.step T) t0=brk ((t0.1.length:Int)=0) (U ((1,0,()),dO)) (brk (3000<(t0.1.length:Int)) (U ((1,0,()),dO)) (brk (0<=ar.wrap (t0.1.length - 1)&&ar.wrap (t0.1.length - 1)<t0.1.length) (brk (!((at_ (τ:=cZ) t0.1 (ar.wrap (t0.1.length - 1))).1=1)) (U ((1,0,()),dO)) ((jO T t0 (0,0,()) t0.1.length t0.1.length 0).bind (ep (λy5=>U (y5.1,dO)) λy5=>brk (((0<=y5.2.2.1)&&(y5.2.2.1<=y5.2.2.1))&&(y5.2.2.1<=lim)) ((hD T y5.1 y5.2.1 y5.2.2.1 (aN y5.2.2.1.toNat 0) y5.1.1 y5.1.1.length 0).bind (ep (λpB=>U (pB.1,dO)) λpB=>brk (((0<=pB.2.2.1)&&(pB.2.2.1<=pB.2.2.1))&&(pB.2.2.1<=lim)) ((pa T pB.1 pB.2.1 (aN pB.2.2.1.toNat 0) (ar.wrap (pB.2.2.1 - 1))).bind (dH λKt=>(jT T Kt.1 Kt.2.1 Kt.2.1.length 0).bind (ep (λa78=>U (a78.1,dO)) λa78=>U ((0,0,()),dO)))) az)) az))) az)):=eF bs9
def xu (t1 t2 t3 t37 t38):jO (S.step T) t1 t2 t3 t37 t38=brk (t38<t37) ((nU T t1 t38).bind λd43=>brk (!d43.1) (U (an ((2,t38,()),()))) (jO T t1 t2 t3 t37 (ar.wrap (t38+1)))) (U (aE (an (t1,t2,t3,())))):=eL bs9
def wG (t1 t2 t3 t5 t51 t52 t53):hD (S.step T) t1 t2 t3 t5 t51 t52 t53=brk (t53<t52) (brk (0<=t53&&t53<t51.length) ((nC T t1 t2 t3 t5 t53 (at_ (τ:=cZ) t51 t53) t53 (ar.wrap (((at_ (τ:=cZ) t51 t53).2.2.2.2.2.2.2.2.1.length) - 1)) t51 t52 t53).bind (ep (λov=>U (an ov)) λov=>brk (0<=ov.2.2.2.2.1&&ov.2.2.2.2.1<ov.2.2.2.1.length) (brk (ov.2.2.2.2.1=ar.wrap (ov.2.2.1 - 1)) (brk (!(ov.2.2.2.2.2.1=0)) (U (an ((3,ov.2.2.2.2.1,()),()))) (hD T ov.1 ov.2.1 ov.2.2.1 (ov.2.2.2.1.set ov.2.2.2.2.1.toNat ov.2.2.2.2.2.1) ov.2.2.2.2.2.2.1 ov.2.2.2.2.2.2.2.1 (ar.wrap (ov.2.2.2.2.2.2.2.2.1+1)))) (hD T ov.1 ov.2.1 ov.2.2.1 (ov.2.2.2.1.set ov.2.2.2.2.1.toNat ov.2.2.2.2.2.1) ov.2.2.2.2.2.2.1 ov.2.2.2.2.2.2.2.1 (ar.wrap (ov.2.2.2.2.2.2.2.2.1+1)))) az)) az) (U (aE (an (t1,t2,t3,())))):=eL bs9
def rQ (t1 t2 t3 t5 t6 t7 t8 t9 t51 t52 t53):nC (S.step T) t1 t2 t3 t5 t6 t7 t8 t9 t51 t52 t53=brk (0<=t9) (brk (0<=t9&&t9<t7.2.2.2.2.2.2.2.2.1.length) (brk (!(t7.2.2.2.2.2.2.2.2.1.getD t9.toNat 0=ar.wrap (t8 - 1))) (U (an ((3,t6,()),()))) (brk (0<=t9&&t9<t7.2.2.2.2.2.2.2.2.1.length) (brk (0<=t7.2.2.2.2.2.2.2.2.1.getD t9.toNat 0&&t7.2.2.2.2.2.2.2.2.1.getD t9.toNat 0<(t5.length:Int)) (nC T t1 t2 t3 t5 t6 t7 (t5.getD ((t7.2.2.2.2.2.2.2.2.1.getD t9.toNat 0).toNat) 0) (ar.wrap (t9 - 1)) t51 t52 t53) az) az)) az) (U (aE (an (t1,t2,t3,t5,t6,t8,t51,t52,t53,())))):=eL bs9
def wJ (t1 t2 t10 t11):pa (S.step T) t1 t2 t10 t11=brk (0<=t11) (brk (0<=t11&&t11<t1.1.length) ((ph T t1 t2 t10 t11 (at_ (τ:=cZ) t1.1 t11).2.2.2.2.2.2.2.2.1 ((at_ (τ:=cZ) t1.1 t11).2.2.2.2.2.2.2.2.1.length) 0).bind (dH λaO9=>pa T aO9.1 aO9.2.1 aO9.2.2.1 (ar.wrap (aO9.2.2.2.1 - 1)))) az) (U (an (t2,t10,()))):=eL bs9
def wQ (t1 t2 t10 t11 t113 t114 t115):ph (S.step T) t1 t2 t10 t11 t113 t114 t115=brk (t115<t114) (brk (0<=t115&&t115<t113.length) (brk (0<=t11&&t11<t10.length) (brk (0<=t113.getD t115.toNat 0&&t113.getD t115.toNat 0<t10.length) (ph T t1 t2 (t10.set ((t113.getD t115.toNat 0).toNat) (ar.wrap (t10.getD t11.toNat 0+1))) t11 t113 t114 (ar.wrap (t115+1))) az) az) az) (U (an (t1,t2,t10,t11,()))):=eL bs9
def wc (t2 t10 t129 t130):jT (S.step T) t2 t10 t129 t130=brk (t130<t129) (brk (0<=t130&&t130<t10.length) (brk (100<t10.getD t130.toNat 0) (U (an ((4,t130,()),()))) (jT T t2 t10 t129 (ar.wrap (t130+1)))) az) (U (aE (an (t2,())))):=eL bs9
def Kw (t0):zA (S.step T) t0=(sw T t0).bind λd4=>U (d4.1.1=0&&(d4.1.2.1=0&&av),dO):=eF Tryz.func19
def tK (t0):qC (S.step T) t0=brk (65536<(t0.length:Int)) (U ((2,0,([],()),()),cV)) ((vO T t0).bind λd15=>brk (0<=d15.1.2.2.1) (U ((1,d15.1.2.2.1,([],()),()),cV)) ((nY T d15.1.2.1 6).bind λd24=>brk (!d24.1) (U ((1,t0.length,([],()),()),cV)) (brk (fits (d15.1.1.length+([(6,0,0,0,0,[],())]:List di.den).length)) ((jB T (d15.1.1++([(6,0,0,0,0,[],())]:List di.den),0,[],())).bind λd36=>(lf T d36.2.1 (1,0,(t0.length:Int),1,0,0,[],[],d36.1,())).bind λd42=>((zA T d42.2.1.2.2).map λy=>(y.1,(d42.2.1.2.2,()))).bind λd49=>brk (!d49.1) (U ((2,0,([],()),()),cV)) (U ((0,0,d49.2),cV))) az))):=eF Tryz.func8
def DI (t0 t1):dh (S.step T) t0 t1=(Bld.mH (t0.2.1,t1,())).bind λd8=>U ((),(t0.1,d8.2.1,()),(),()):=eF Tryz.func21
def Ap (t0 t1 t2):fy (S.step T) t0 t1 t2=brk (0<=t1&&t1<t0.1.1.length) (brk (((at_ (τ:=cZ) t0.1.1 t1).2.2.2.2.2.2.2.2.1.length:Int)=0) ((dh T t0 [123,125]).bind λd22=>U ((),d22.2.1,(),(),())) ((dh T t0 [123,10]).bind λd24=>(jK T d24.2.1 t2 (at_ (τ:=cZ) t0.1.1 t1).2.2.2.2.2.2.2.2.1 ((at_ (τ:=cZ) t0.1.1 t1).2.2.2.2.2.2.2.2.1.length) 0).bind (dH λy5=>(Lx.xP ([9],y5.2)).bind λd46=>brk (fits (d46.1.length+1)) ((dh T y5.1 (d46.1++([125]:LI))).bind λd48=>U ((),d48.2.1,(),(),())) az))) none:=eF Tryz.func46
def rA (t0 t2 t25 t26 t27):jK (S.step T) t0 t2 t25 t26 t27=brk (t27<t26) (brk (0<=t27&&t27<t25.length) ((Lx.xP ([9],ar.wrap (t2+1),())).bind λd34=>(dh T t0 d34.1).bind λd35=>(mg T d35.2.1 (t25.getD t27.toNat 0) (ar.wrap (t2+1))).bind λd40=>(dh T d40.2.1 [10]).bind λd42=>jK T d42.2.1 t2 t25 t26 (ar.wrap (t27+1))) az) (U (an (t0,t2,()))):=eL Tryz.func46
def yo (t0 t1):nE (S.step T) t0 t1=brk (t1=10) (brk (t0<100) (az) az) ((Lx.qx ([],t0,t1,aq,aq,())).bind λd28=>U (d28.1.2.1,cW)):=eF Tryz.func192
def Ag (t0 t1):oV (S.step T) t0 t1=(nE T t0 t1).bind λd7=>U (d7.1,cW):=eF Tryz.func165
theorem CB (t0):xa (S.step T) t0=brk (4000<(t0.length:Int)) (U ([],cV)) ((Bld.og ([],34,())).bind λd10=>(lG T t0 d10.2.1 0).bind (dH λy6=>(Bld.og (y6.1,34,())).bind λd51=>(Bld.xN (d51.2.1,())).bind λd52=>U (d52.1,cV))):=eF Tryz.func103
def yH (t0 t3 t4):lG (S.step T) t0 t3 t4=brk (t4<t0.length) (brk (0<=t4&&t4<t0.length) ((kM T [10,9,34,92] (t0.getD t4.toNat 0)).bind λd21=>brk (0<=d21.1) ((Bld.og (t3,92,())).bind λd24=>brk (0<=d21.1&&d21.1<4) ((Bld.og (d24.2.1,[110,116,34,92].getD d21.1.toNat 0,())).bind λd27=>lG T t0 d27.2.1 (ar.wrap (t4+1))) az) (brk (t0.getD t4.toNat 0<32) (brk (bounds 16 ((t0.getD t4.toNat 0).fdiv (2^min ((4:Int).toNat) aO.bits)) (aO.wrap ((t0.getD t4.toNat 0).fdiv (2^min ((4:Int).toNat) aO.bits)+1))) (brk (fits (2+(sub ([48,49,50,51,52,53,54,55,56,57,97,98,99,100,101,102]:LI) ((t0.getD t4.toNat 0).fdiv (2^min ((4:Int).toNat) aO.bits)) (aO.wrap ((t0.getD t4.toNat 0).fdiv (2^min ((4:Int).toNat) aO.bits)+1))).length)) (brk (bounds 16 (intBits .and .u8 (t0.getD t4.toNat 0) 15) (aO.wrap (intBits .and .u8 (t0.getD t4.toNat 0) 15+1))) (brk (fits (([92,120]++sub ([48,49,50,51,52,53,54,55,56,57,97,98,99,100,101,102]:LI) ((t0.getD t4.toNat 0).fdiv (2^min ((4:Int).toNat) aO.bits)) (aO.wrap (((t0.getD t4.toNat 0).fdiv (2^min ((4:Int).toNat) aO.bits))+1))).length+(sub ([48,49,50,51,52,53,54,55,56,57,97,98,99,100,101,102]:LI) (intBits .and .u8 (t0.getD t4.toNat 0) 15) (aO.wrap ((intBits .and .u8 (t0.getD t4.toNat 0) 15)+1))).length)) ((Bld.mH (t3,([92,120]++(sub [48,49,50,51,52,53,54,55,56,57,97,98,99,100,101,102] ((t0.getD t4.toNat 0).fdiv (2^min ((4:Int).toNat) aO.bits)) (aO.wrap (((t0.getD t4.toNat 0).fdiv (2^min ((4:Int).toNat) aO.bits))+1))))++(sub [48,49,50,51,52,53,54,55,56,57,97,98,99,100,101,102] (intBits .and .u8 (t0.getD t4.toNat 0) 15) (aO.wrap ((intBits .and .u8 (t0.getD t4.toNat 0) 15)+1))),())).bind λd48=>lG T t0 d48.2.1 (ar.wrap (t4+1))) az) az) az) az) (brk (126<t0.getD t4.toNat 0) (brk (bounds 16 ((t0.getD t4.toNat 0).fdiv (2^min ((4:Int).toNat) aO.bits)) (aO.wrap (((t0.getD t4.toNat 0).fdiv (2^min ((4:Int).toNat) aO.bits))+1))) (brk (fits (2+(sub ([48,49,50,51,52,53,54,55,56,57,97,98,99,100,101,102]:LI) ((t0.getD t4.toNat 0).fdiv (2^min ((4:Int).toNat) aO.bits)) (aO.wrap (((t0.getD t4.toNat 0).fdiv (2^min ((4:Int).toNat) aO.bits))+1))).length)) (brk (bounds 16 (intBits .and .u8 (t0.getD t4.toNat 0) 15) (aO.wrap ((intBits .and .u8 (t0.getD t4.toNat 0) 15)+1))) (brk (fits (([92,120]++(sub ([48,49,50,51,52,53,54,55,56,57,97,98,99,100,101,102]:LI) ((t0.getD t4.toNat 0).fdiv (2^min ((4:Int).toNat) aO.bits)) (aO.wrap (((t0.getD t4.toNat 0).fdiv (2^min ((4:Int).toNat) aO.bits))+1)))).length+(sub ([48,49,50,51,52,53,54,55,56,57,97,98,99,100,101,102]:LI) (intBits .and .u8 (t0.getD t4.toNat 0) 15) (aO.wrap ((intBits .and .u8 (t0.getD t4.toNat 0) 15)+1))).length)) ((Bld.mH (t3,([92,120]++(sub [48,49,50,51,52,53,54,55,56,57,97,98,99,100,101,102] ((t0.getD t4.toNat 0).fdiv (2^min ((4:Int).toNat) aO.bits)) (aO.wrap (((t0.getD t4.toNat 0).fdiv (2^min ((4:Int).toNat) aO.bits))+1))))++(sub [48,49,50,51,52,53,54,55,56,57,97,98,99,100,101,102] (intBits .and .u8 (t0.getD t4.toNat 0) 15) (aO.wrap ((intBits .and .u8 (t0.getD t4.toNat 0) 15)+1))),())).bind λd48=>lG T t0 d48.2.1 (ar.wrap (t4+1))) az) az) az) az) ((Bld.og (t3,t0.getD t4.toNat 0,())).bind λd50=>lG T t0 d50.2.1 (ar.wrap (t4+1)))))) az) (U (an (t3,()))):=eL Tryz.func103
def nM (t0):sN (S.step T) t0=brk (t0.1=1) ((kH T t0.2.2.2.2.2.1).bind λd9=>brk (d9.1) (U (t0.2.2.2.2.2.1,ia)) (U ([],ia))) (brk (t0.1=3) ((qv T t0.2.2.2.2.2.1).bind λd16=>brk (d16.1) (U (t0.2.2.2.2.2.1,ia)) (U ([],ia))) (brk (t0.1=2) (brk (0<=t0.2.2.2.2.1) ((Lx.rV (t0.2.2.2.2.1,10,())).bind λd26=>U (d26.1,ia)) ((oV T (aJ.wrap t0.2.2.2.2.1) 16).bind λd30=>brk (fits (2+d30.1.length)) (U (([48,120]:LI)++d30.1,ia)) az)) (brk (t0.1=4) ((xa T t0.2.2.2.2.2.1).bind λd36=>U (d36.1,ia)) (brk (t0.1=7) (U ([10],ia)) ((qE T t0.1).bind λd41=>U (d41.1,ia)))))):=eF Tryz.func102
def Al (t0 t1):lz (S.step T) t0 t1=brk (0<=t1&&t1<t0.1.1.length) (brk ((at_ (τ:=cZ) t0.1.1 t1).1=29) (U (1,t0,(),())) (brk ((at_ (τ:=cZ) t0.1.1 t1).1=28) (U (2,t0,(),())) (brk ((at_ (τ:=cZ) t0.1.1 t1).1=31) ((oZ T (ar.wrap (60+(at_ (τ:=cZ) t0.1.1 t1).2.2.2.2.1))).bind λd25=>U (d25.1,t0,(),())) (U (99,t0,(),()))))) none:=eF Tryz.func104
def zk (t0 t1 t2 t3):dM (S.step T) t0 t1 t2 t3=brk (t3) ((dh T t0 [40]).bind λd10=>(ey T d10.2.1 t1 t2).bind λd14=>brk (t3) ((dh T d14.2.1 [41]).bind λd17=>U ((),d17.2.1,(),(),(),())) (U ((),d14.2.1,(),(),(),()))) ((ey T t0 t1 t2).bind λd14=>brk (t3) ((dh T d14.2.1 [41]).bind λd17=>U ((),d17.2.1,(),(),(),())) (U ((),d14.2.1,(),(),(),()))):=eF Tryz.func105
def Am (t0 t1 t2):mV (S.step T) t0 t1 t2=brk (0<=t1&&t1<t0.1.1.length) (brk ((at_ (τ:=cZ) t0.1.1 t1).1=26) ((eP T t0 t1 t2 ((at_ (τ:=cZ) t0.1.1 t1).1=26)).bind (dH λy7=>U ((),y7.1,(),(),()))) (brk ((at_ (τ:=cZ) t0.1.1 t1).1=32) ((eP T t0 t1 t2 ((at_ (τ:=cZ) t0.1.1 t1).1=32)).bind (dH λy7=>U ((),y7.1,(),(),()))) (brk ((at_ (τ:=cZ) t0.1.1 t1).1=33) ((eP T t0 t1 t2 ((at_ (τ:=cZ) t0.1.1 t1).1=33)).bind (dH λy7=>U ((),y7.1,(),(),()))) (brk ((at_ (τ:=cZ) t0.1.1 t1).1=34) ((eP T t0 t1 t2 ((at_ (τ:=cZ) t0.1.1 t1).1=34)).bind (dH λy7=>U ((),y7.1,(),(),()))) ((eP T t0 t1 t2 ((at_ (τ:=cZ) t0.1.1 t1).1=37)).bind (dH λy7=>U ((),y7.1,(),(),()))))))) none:=eF Tryz.func106
def xV (t0 t1 t2 t19):eP (S.step T) t0 t1 t2 t19=brk (t19) ((dM T t0 t1 t2 aq).bind λd28=>U (an (d28.2.1,()))) ((dM T t0 t1 t2 av).bind λd18=>U (an (d18.2.1,()))):=eJ Tryz.func106
def C2 (t0 t1 t2):pg (S.step T) t0 t1 t2=brk (0<=t1&&t1<t0.1.1.length) (brk (fits (0+(at_ (τ:=cZ) t0.1.1 t1).2.2.2.2.2.2.2.1.length)) (brk ((at_ (τ:=cZ) t0.1.1 t1).2.2.2.2.1=1) (brk (fits ((at_ (τ:=cZ) t0.1.1 t1).2.2.2.2.2.2.2.1.length+([[46,46,46]]:List LI).length)) ((Lx.Bz ((at_ (τ:=cZ) t0.1.1 t1).2.2.2.2.2.2.2.1++([[46,46,46]]:List LI),[44,32],())).bind λd27=>brk (fits (1+d27.1.length)) (brk (fits (([40]++d27.1).length+2)) ((dh T t0 ((([40]:LI)++d27.1)++([41,32]:LI))).bind λd30=>brk (0<((at_ (τ:=cZ) t0.1.1 t1).2.2.2.2.2.2.2.2.1.length:Int)) ((fy T d30.2.1 ((at_ (τ:=cZ) t0.1.1 t1).2.2.2.2.2.2.2.2.1.getD 0 0) t2).bind λd37=>U ((),d37.2.1,(),(),())) az) az) az) az) ((Lx.Bz ((at_ (τ:=cZ) t0.1.1 t1).2.2.2.2.2.2.2.1,[44,32],())).bind λd27=>brk (fits (1+d27.1.length)) (brk (fits (([40]++d27.1).length+2)) ((dh T t0 ((([40]:LI)++d27.1)++([41,32]:LI))).bind λd30=>brk (0<((at_ (τ:=cZ) t0.1.1 t1).2.2.2.2.2.2.2.2.1.length:Int)) ((fy T d30.2.1 ((at_ (τ:=cZ) t0.1.1 t1).2.2.2.2.2.2.2.2.1.getD 0 0) t2).bind λd37=>U ((),d37.2.1,(),(),())) az) az) az)) az) none:=eF Tryz.func49
def kr (t0 t1 t2):ey (S.step T) t0 t1 t2=brk (0<=t1&&t1<t0.1.1.length) (brk ((at_ (τ:=cZ) t0.1.1 t1).1=20) ((dh T t0 [110,105,108]).bind λd29=>U ((),d29.2.1,(),(),())) (brk ((at_ (τ:=cZ) t0.1.1 t1).1=21) ((dh T t0 [116,114,117,101]).bind λd33=>U ((),d33.2.1,(),(),())) (brk ((at_ (τ:=cZ) t0.1.1 t1).1=22) ((dh T t0 [102,97,108,115,101]).bind λd37=>U ((),d37.2.1,(),(),())) (brk ((at_ (τ:=cZ) t0.1.1 t1).1=27) ((dh T t0 [46,46,46]).bind λd41=>U ((),d41.2.1,(),(),())) (brk ((at_ (τ:=cZ) t0.1.1 t1).1=23) ((sN T (2,0,0,0,(at_ (τ:=cZ) t0.1.1 t1).2.2.2.2.2.1,[],())).bind λd48=>(dh T t0 d48.1).bind λd49=>U ((),d49.2.1,(),(),())) (brk ((at_ (τ:=cZ) t0.1.1 t1).1=24) ((jI T t0 t1 t2 (at_ (τ:=cZ) t0.1.1 t1) (at_ (τ:=cZ) t0.1.1 t1).2.2.2.2.2.2.2.2.1 (at_ (τ:=cZ) t0.1.1 t1).1 ((at_ (τ:=cZ) t0.1.1 t1).1=24)).bind (dH λDB=>U ((),DB.1,(),(),()))) ((jI T t0 t1 t2 (at_ (τ:=cZ) t0.1.1 t1) (at_ (τ:=cZ) t0.1.1 t1).2.2.2.2.2.2.2.2.1 (at_ (τ:=cZ) t0.1.1 t1).1 ((at_ (τ:=cZ) t0.1.1 t1).1=26)).bind (dH λDB=>U ((),DB.1,(),(),()))))))))) none:=eF Tryz.func48
def n9 (t0 t1 t2 t6 t7 t25 t50):jI (S.step T) t0 t1 t2 t6 t7 t25 t50=brk (t50) ((dh T t0 t6.2.2.2.2.2.2.1).bind λd56=>U (an (d56.2.1,()))) (brk (t25=25) ((xa T t6.2.2.2.2.2.2.1).bind λd62=>(dh T t0 d62.1).bind λd63=>U (an (d63.2.1,()))) (brk (t25=28) ((jL T t0 t1 t2 t6 t7 t25 (t25=28)).bind (dH λzi=>U (an zi))) (brk (t25=29) ((jL T t0 t1 t2 t6 t7 t25 (t25=29)).bind (dH λzi=>U (an zi))) ((jL T t0 t1 t2 t6 t7 t25 (t25=31)).bind (dH λzi=>U (an zi)))))):=eJ Tryz.func48
def dQ (t0 t1 t2 t6 t7 t25 t64):jL (S.step T) t0 t1 t2 t6 t7 t25 t64=brk (t64) ((lz T t0 t1).bind λd70=>brk (t6.1=31) (brk (t6.1=31) ((qE T (ar.wrap (60+t6.2.2.2.2.1))).bind λd90=>(jJ T d70.2.1 t2 t7 d70.1 (t6.2.2.2.2.1=12) d90.1).bind (dH (λqd=>U (an qd)))) ((jJ T d70.2.1 t2 t7 d70.1 (t6.2.2.2.2.1=12) (J9 [] [(28,[97,110,100]),(29,[111,114])] t6.1)).bind (dH (λqd=>U (an qd))))) (brk (t6.1=31) ((qE T (ar.wrap (60+t6.2.2.2.2.1))).bind λd90=>(jJ T d70.2.1 t2 t7 d70.1 aq d90.1).bind (dH (λqd=>U (an qd)))) ((jJ T d70.2.1 t2 t7 d70.1 aq (J9 [] [(28,[97,110,100]),(29,[111,114])] t6.1)).bind (dH (λqd=>U (an qd)))))) (brk (t25=30) (brk (t6.2.2.2.2.1=21) ((dh T t0 [110,111,116,32]).bind λd148=>(eY T d148.2.1 t2 t7).bind (dH (λPY=>U (an PY)))) (brk (t6.2.2.2.2.1=19) ((dh T t0 [45]).bind λd152=>brk (0<(t7.length:Int)) (brk (0<=t7.getD 0 0&&t7.getD 0 0<d152.2.1.1.1.length) (brk ((at_ (τ:=cZ) d152.2.1.1.1 (t7.getD 0 0)).1=30) (brk ((at_ (τ:=cZ) d152.2.1.1.1 (t7.getD 0 0)).2.2.2.2.1=19) ((dh T d152.2.1 [32]).bind λd172=>(eY T d172.2.1 t2 t7).bind (dH (λPY=>U (an PY)))) ((eY T d152.2.1 t2 t7).bind (dH (λPY=>U (an PY))))) ((eY T d152.2.1 t2 t7).bind (dH (λPY=>U (an PY))))) az) az) (brk (t6.2.2.2.2.1=22) ((dh T t0 [35]).bind λd176=>(eY T d176.2.1 t2 t7).bind (dH (λPY=>U (an PY)))) (brk (t6.2.2.2.2.1=20) ((dh T t0 [126]).bind λd180=>(eY T d180.2.1 t2 t7).bind (dH (λPY=>U (an PY)))) ((eY T t0 t2 t7).bind (dH (λPY=>U (an PY)))))))) (brk (t25=32) (brk (0<(t7.length:Int)) ((mV T t0 (t7.getD 0 0) t2).bind λd200=>(dh T d200.2.1 [91]).bind λd202=>brk (1<(t7.length:Int)) ((ey T d202.2.1 (t7.getD 1 0) t2).bind λd208=>(dh T d208.2.1 [93]).bind λd210=>U (an (d210.2.1,()))) az) az) (brk (t25=33) (brk (0<(t7.length:Int)) ((mV T t0 (t7.getD 0 0) t2).bind λd218=>brk (fits (1+t6.2.2.2.2.2.2.1.length)) ((dh T d218.2.1 (([46]:LI)++t6.2.2.2.2.2.2.1)).bind λd223=>U (an (d223.2.1,()))) az) az) (brk (t25=34) (brk (0<(t7.length:Int)) ((mV T t0 (t7.getD 0 0) t2).bind λd231=>(dh T d231.2.1 [40]).bind λd233=>brk (bounds t7.length 1 (t7.length:Int)) ((iN T d233.2.1 (sub t7 1 (t7.length:Int)) t2).bind λd238=>(dh T d238.2.1 [41]).bind λd240=>U (an (d240.2.1,()))) az) az) (brk (t25=35) ((dh T t0 [123]).bind λd244=>(iN T d244.2.1 t7 t2).bind λd248=>(dh T d248.2.1 [125]).bind λd250=>U (an (d250.2.1,()))) (brk (t25=36) ((dh T t0 [102,110]).bind λd254=>(pg T d254.2.1 t1 t2).bind λd258=>U (an (d258.2.1,()))) (brk (t25=37) (brk (0<(t7.length:Int)) ((dM T t0 (t7.getD 0 0) t2 av).bind λd266=>U (an (d266.2.1,()))) az) (brk (t25=40) (brk (0<(t7.length:Int)) ((ey T t0 (t7.getD 0 0) t2).bind λd274=>U (an (d274.2.1,()))) az) (brk (t25=41) ((dh T t0 [91]).bind λd278=>brk (0<(t7.length:Int)) ((ey T d278.2.1 (t7.getD 0 0) t2).bind λd284=>(dh T d284.2.1 [93,32,61,32]).bind λd286=>brk (1<(t7.length:Int)) ((ey T d286.2.1 (t7.getD 1 0) t2).bind λd292=>U (an (d292.2.1,()))) az) az) (brk (t25=42) (brk (fits (1+t6.2.2.2.2.2.2.1.length)) (brk (fits (([46]++t6.2.2.2.2.2.2.1).length+3)) ((dh T t0 ((([46]:LI)++t6.2.2.2.2.2.2.1)++([32,61,32]:LI))).bind λd300=>brk (0<(t7.length:Int)) ((ey T d300.2.1 (t7.getD 0 0) t2).bind λd306=>U (an (d306.2.1,()))) az) az) az) (U (an (t0,()))))))))))))):=eJ Tryz.func48
def xS (t0 t2 t7 t8 t9 t10):jJ (S.step T) t0 t2 t7 t8 t9 t10=brk (0<(t7.length:Int)) ((lz T t0 (t7.getD 0 0)).bind λd95=>brk (1<(t7.length:Int)) ((lz T d95.2.1 (t7.getD 1 0)).bind λd100=>brk (0<(t7.length:Int)) (brk (d95.1<t8) ((dM T d100.2.1 (t7.getD 0 0) t2 av).bind λd117=>brk (fits (1+t10.length)) (brk (fits (([32]++t10).length+1)) ((dh T d117.2.1 ((([32]:LI)++t10)++([32]:LI))).bind λd122=>brk (1<(t7.length:Int)) (brk (d100.1<t8) ((dM T d122.2.1 (t7.getD 1 0) t2 av).bind λd140=>U (an (d140.2.1,()))) (brk (!t9) ((dM T d122.2.1 (t7.getD 1 0) t2 (d100.1=t8)).bind λd140=>U (an (d140.2.1,()))) ((dM T d122.2.1 (t7.getD 1 0) t2 aq).bind λd140=>U (an (d140.2.1,()))))) az) az) az) (brk (t9) ((dM T d100.2.1 (t7.getD 0 0) t2 (d95.1=t8)).bind λd117=>brk (fits (1+t10.length)) (brk (fits (([32]++t10).length+1)) ((dh T d117.2.1 ((([32]:LI)++t10)++([32]:LI))).bind λd122=>brk (1<(t7.length:Int)) (brk (d100.1<t8) ((dM T d122.2.1 (t7.getD 1 0) t2 av).bind λd140=>U (an (d140.2.1,()))) (brk (!t9) ((dM T d122.2.1 (t7.getD 1 0) t2 (d100.1=t8)).bind λd140=>U (an (d140.2.1,()))) ((dM T d122.2.1 (t7.getD 1 0) t2 aq).bind λd140=>U (an (d140.2.1,()))))) az) az) az) ((dM T d100.2.1 (t7.getD 0 0) t2 aq).bind λd117=>brk (fits (1+t10.length)) (brk (fits (([32]++t10).length+1)) ((dh T d117.2.1 ((([32]:LI)++t10)++([32]:LI))).bind λd122=>brk (1<(t7.length:Int)) (brk (d100.1<t8) ((dM T d122.2.1 (t7.getD 1 0) t2 av).bind λd140=>U (an (d140.2.1,()))) (brk (!t9) ((dM T d122.2.1 (t7.getD 1 0) t2 (d100.1=t8)).bind λd140=>U (an (d140.2.1,()))) ((dM T d122.2.1 (t7.getD 1 0) t2 aq).bind λd140=>U (an (d140.2.1,()))))) az) az) az))) az) az) none:=eJ Tryz.func48
def xX (t0 t2 t7):eY (S.step T) t0 t2 t7=brk (0<(t7.length:Int)) (brk (0<(t7.length:Int)) ((lz T t0 (t7.getD 0 0)).bind λd190=>(dM T d190.2.1 (t7.getD 0 0) t2 (d190.1<99)).bind λd192=>U (an (d192.2.1,()))) az) none:=eJ Tryz.func48
def AF (t0 t1 t2):iN (S.step T) t0 t1 t2=(il T t0 t2 t1 t1.length 0).bind (dH λy1=>U ((),y1.1,(),(),())):=eF Tryz.func47
def l8 (t0 t2 t8 t9 t10):il (S.step T) t0 t2 t8 t9 t10=brk (t10<t9) (brk (0<=t10&&t10<t8.length) (brk (0<t10) ((dh T t0 [44,32]).bind λd18=>(ey T d18.2.1 (t8.getD t10.toNat 0) t2).bind λd22=>il T d22.2.1 t2 t8 t9 (ar.wrap (t10+1))) ((ey T t0 (t8.getD t10.toNat 0) t2).bind λd22=>il T d22.2.1 t2 t8 t9 (ar.wrap (t10+1)))) az) (U (an (t0,()))):=eL Tryz.func47
def oR (t0 t1 t2):ow (S.step T) t0 t1 t2=(dh T t0 [105,102,32]).bind λd8=>brk (0<(t1.2.2.2.2.2.2.2.2.1.length:Int)) ((ey T d8.2.1 (t1.2.2.2.2.2.2.2.2.1.getD 0 0) t2).bind λd15=>(dh T d15.2.1 [32]).bind λd17=>brk (1<(t1.2.2.2.2.2.2.2.2.1.length:Int)) ((fy T d17.2.1 (t1.2.2.2.2.2.2.2.2.1.getD 1 0) t2).bind λd24=>brk ((t1.2.2.2.2.2.2.2.2.1.length:Int)=3) (brk (2<(t1.2.2.2.2.2.2.2.2.1.length:Int)) (brk (0<=t1.2.2.2.2.2.2.2.2.1.getD 2 0&&t1.2.2.2.2.2.2.2.2.1.getD 2 0<(d24.2.1.1.1.length:Int)) (brk ((at_ (τ:=cZ) d24.2.1.1.1 (t1.2.2.2.2.2.2.2.2.1.getD 2 0)).1=7) ((dh T d24.2.1 [32,101,108]).bind λd44=>(ow T d44.2.1 (at_ (τ:=cZ) d24.2.1.1.1 (t1.2.2.2.2.2.2.2.2.1.getD 2 0)) t2).bind λd48=>U ((),d48.2.1,((),(),(),(),(),(),(),(),(),()),(),())) ((dh T d24.2.1 [32,101,108,115,101,32]).bind λd50=>brk (2<(t1.2.2.2.2.2.2.2.2.1.length:Int)) ((fy T d50.2.1 (t1.2.2.2.2.2.2.2.2.1.getD 2 0) t2).bind λd57=>U ((),d57.2.1,((),(),(),(),(),(),(),(),(),()),(),())) az)) az) az) (U ((),d24.2.1,((),(),(),(),(),(),(),(),(),()),(),()))) az) none:=eF Tryz.func50
def fj (t0 t1 t2):mg (S.step T) t0 t1 t2=brk (0<=t1&&t1<(t0.1.1.length:Int)) ((Lx.Bz ((at_ (τ:=cZ) t0.1.1 t1).2.2.2.2.2.2.2.1,[44,32],())).bind λd19=>brk ((at_ (τ:=cZ) t0.1.1 t1).1=1) ((fy T t0 t1 t2).bind λd29=>U ((),d29.2.1,(),(),())) (brk ((at_ (τ:=cZ) t0.1.1 t1).1=2) (brk (fits (4+d19.1.length)) ((dh T t0 (([108,101,116,32]:LI)++d19.1)).bind λd35=>brk (0<((at_ (τ:=cZ) t0.1.1 t1).2.2.2.2.2.2.2.2.1.length:Int)) ((dh T d35.2.1 [32,61,32]).bind λd40=>(iN T d40.2.1 (at_ (τ:=cZ) t0.1.1 t1).2.2.2.2.2.2.2.2.1 t2).bind λd44=>U ((),d44.2.1,(),(),())) (U ((),d35.2.1,(),(),()))) az) (brk ((at_ (τ:=cZ) t0.1.1 t1).1=3) (brk (fits (6+d19.1.length)) (brk (fits ((([99,111,110,115,116,32]:LI)++d19.1).length+3)) ((dh T t0 ((([99,111,110,115,116,32]:LI)++d19.1)++([32,61,32]:LI))).bind λd51=>brk (0<((at_ (τ:=cZ) t0.1.1 t1).2.2.2.2.2.2.2.2.1.length:Int)) ((ey T d51.2.1 ((at_ (τ:=cZ) t0.1.1 t1).2.2.2.2.2.2.2.2.1.getD 0 0) t2).bind λd57=>U ((),d57.2.1,(),(),())) az) az) az) (brk ((at_ (τ:=cZ) t0.1.1 t1).1=4) (brk (fits (3+d19.1.length)) ((dh T t0 (([102,110,32]:LI)++d19.1)).bind λd63=>brk (0<((at_ (τ:=cZ) t0.1.1 t1).2.2.2.2.2.2.2.2.1.length:Int)) ((pg T d63.2.1 ((at_ (τ:=cZ) t0.1.1 t1).2.2.2.2.2.2.2.2.1.getD 0 0) t2).bind λd69=>U ((),d69.2.1,(),(),())) az) az) (brk ((at_ (τ:=cZ) t0.1.1 t1).1=5) (brk (bounds ((at_ (τ:=cZ) t0.1.1 t1).2.2.2.2.2.2.2.2.1.length) 0 (at_ (τ:=cZ) t0.1.1 t1).2.2.2.2.2.1) ((iN T t0 (sub (at_ (τ:=cZ) t0.1.1 t1).2.2.2.2.2.2.2.2.1 0 (at_ (τ:=cZ) t0.1.1 t1).2.2.2.2.2.1) t2).bind λd78=>(dh T d78.2.1 ([32,61,32]:LI)).bind λd80=>brk (bounds ((at_ (τ:=cZ) t0.1.1 t1).2.2.2.2.2.2.2.2.1.length) (at_ (τ:=cZ) t0.1.1 t1).2.2.2.2.2.1 ((at_ (τ:=cZ) t0.1.1 t1).2.2.2.2.2.2.2.2.1.length:Int)) ((iN T d80.2.1 (sub (at_ (τ:=cZ) t0.1.1 t1).2.2.2.2.2.2.2.2.1 (at_ (τ:=cZ) t0.1.1 t1).2.2.2.2.2.1 ((at_ (τ:=cZ) t0.1.1 t1).2.2.2.2.2.2.2.2.1.length:Int)) t2).bind λd87=>U ((),d87.2.1,(),(),())) az) az) (brk ((at_ (τ:=cZ) t0.1.1 t1).1=6) (brk (0<((at_ (τ:=cZ) t0.1.1 t1).2.2.2.2.2.2.2.2.1.length:Int)) ((ey T t0 ((at_ (τ:=cZ) t0.1.1 t1).2.2.2.2.2.2.2.2.1.getD 0 0) t2).bind λd95=>U ((),d95.2.1,(),(),())) az) (brk ((at_ (τ:=cZ) t0.1.1 t1).1=16) ((dh T t0 ([100,101,102,101,114,32]:LI)).bind λd99=>brk (0<((at_ (τ:=cZ) t0.1.1 t1).2.2.2.2.2.2.2.2.1.length:Int)) ((ey T d99.2.1 ((at_ (τ:=cZ) t0.1.1 t1).2.2.2.2.2.2.2.2.1.getD 0 0) t2).bind λd105=>U ((),d105.2.1,(),(),())) az) (brk ((at_ (τ:=cZ) t0.1.1 t1).1=7) ((ow T t0 (at_ (τ:=cZ) t0.1.1 t1) t2).bind λd111=>U ((),d111.2.1,(),(),())) (brk ((at_ (τ:=cZ) t0.1.1 t1).1=8) ((dh T t0 ([119,104,105,108,101,32]:LI)).bind λd115=>brk (0<((at_ (τ:=cZ) t0.1.1 t1).2.2.2.2.2.2.2.2.1.length:Int)) ((ey T d115.2.1 ((at_ (τ:=cZ) t0.1.1 t1).2.2.2.2.2.2.2.2.1.getD 0 0) t2).bind λd121=>(dh T d121.2.1 ([32]:LI)).bind λd123=>brk (1<((at_ (τ:=cZ) t0.1.1 t1).2.2.2.2.2.2.2.2.1.length:Int)) ((fy T d123.2.1 ((at_ (τ:=cZ) t0.1.1 t1).2.2.2.2.2.2.2.2.1.getD 1 0) t2).bind λd129=>U ((),d129.2.1,(),(),())) az) az) (brk ((at_ (τ:=cZ) t0.1.1 t1).1=9) (brk (fits (4+d19.1.length)) (brk (fits ((([102,111,114,32]:LI)++d19.1).length+3)) ((dh T t0 ((([102,111,114,32]:LI)++d19.1)++([32,61,32]:LI))).bind λd136=>brk (bounds ((at_ (τ:=cZ) t0.1.1 t1).2.2.2.2.2.2.2.2.1.length) 0 (ar.wrap (((at_ (τ:=cZ) t0.1.1 t1).2.2.2.2.2.2.2.2.1.length:Int) - 1))) ((iN T d136.2.1 (sub (at_ (τ:=cZ) t0.1.1 t1).2.2.2.2.2.2.2.2.1 0 (ar.wrap (((at_ (τ:=cZ) t0.1.1 t1).2.2.2.2.2.2.2.2.1.length:Int) - 1))) t2).bind λd144=>(dh T d144.2.1 ([32]:LI)).bind λd146=>brk (0<=ar.wrap (((at_ (τ:=cZ) t0.1.1 t1).2.2.2.2.2.2.2.2.1.length:Int) - 1)&&ar.wrap (((at_ (τ:=cZ) t0.1.1 t1).2.2.2.2.2.2.2.2.1.length:Int) - 1)<((at_ (τ:=cZ) t0.1.1 t1).2.2.2.2.2.2.2.2.1.length:Int)) ((fy T d146.2.1 ((at_ (τ:=cZ) t0.1.1 t1).2.2.2.2.2.2.2.2.1.getD ((ar.wrap (((at_ (τ:=cZ) t0.1.1 t1).2.2.2.2.2.2.2.2.1.length:Int) - 1)).toNat) 0) t2).bind λd155=>U ((),d155.2.1,(),(),())) az) az) az) az) (brk ((at_ (τ:=cZ) t0.1.1 t1).1=10) (brk (fits (4+d19.1.length)) (brk (fits ((([102,111,114,32]:LI)++d19.1).length+4)) ((dh T t0 ((([102,111,114,32]:LI)++d19.1)++([32,105,110,32]:LI))).bind λd162=>brk (0<((at_ (τ:=cZ) t0.1.1 t1).2.2.2.2.2.2.2.2.1.length:Int)) ((ey T d162.2.1 ((at_ (τ:=cZ) t0.1.1 t1).2.2.2.2.2.2.2.2.1.getD 0 0) t2).bind λd168=>(dh T d168.2.1 ([32]:LI)).bind λd170=>brk (1<((at_ (τ:=cZ) t0.1.1 t1).2.2.2.2.2.2.2.2.1.length:Int)) ((fy T d170.2.1 ((at_ (τ:=cZ) t0.1.1 t1).2.2.2.2.2.2.2.2.1.getD 1 0) t2).bind λd176=>U ((),d176.2.1,(),(),())) az) az) az) az) (brk ((at_ (τ:=cZ) t0.1.1 t1).1=11) ((dh T t0 ([98,114,101,97,107]:LI)).bind λd180=>U ((),d180.2.1,(),(),())) (brk ((at_ (τ:=cZ) t0.1.1 t1).1=12) ((dh T t0 ([110,101,120,116]:LI)).bind λd184=>U ((),d184.2.1,(),(),())) (brk ((at_ (τ:=cZ) t0.1.1 t1).1=13) ((dh T t0 ([114,101,116,117,114,110]:LI)).bind λd188=>brk (0<((at_ (τ:=cZ) t0.1.1 t1).2.2.2.2.2.2.2.2.1.length:Int)) ((dh T d188.2.1 ([32]:LI)).bind λd193=>(iN T d193.2.1 (at_ (τ:=cZ) t0.1.1 t1).2.2.2.2.2.2.2.2.1 t2).bind λd197=>U ((),d197.2.1,(),(),())) (U ((),d188.2.1,(),(),()))) (brk ((at_ (τ:=cZ) t0.1.1 t1).1=14) ((dh T t0 ([116,114,121,32]:LI)).bind λd201=>brk (0<((at_ (τ:=cZ) t0.1.1 t1).2.2.2.2.2.2.2.2.1.length:Int)) ((fy T d201.2.1 ((at_ (τ:=cZ) t0.1.1 t1).2.2.2.2.2.2.2.2.1.getD 0 0) t2).bind λd207=>brk (fits (7+d19.1.length)) (brk (fits ((([32,99,97,116,99,104,32]:LI)++d19.1).length+1)) ((dh T d207.2.1 ((([32,99,97,116,99,104,32]:LI)++d19.1)++([32]:LI))).bind λd212=>brk (1<((at_ (τ:=cZ) t0.1.1 t1).2.2.2.2.2.2.2.2.1.length:Int)) ((fy T d212.2.1 ((at_ (τ:=cZ) t0.1.1 t1).2.2.2.2.2.2.2.2.1.getD 1 0) t2).bind λd218=>U ((),d218.2.1,(),(),())) az) az) az) az) (brk ((at_ (τ:=cZ) t0.1.1 t1).1=15) ((dh T t0 ([116,104,114,111,119,32]:LI)).bind λd222=>brk (0<((at_ (τ:=cZ) t0.1.1 t1).2.2.2.2.2.2.2.2.1.length:Int)) ((ey T d222.2.1 ((at_ (τ:=cZ) t0.1.1 t1).2.2.2.2.2.2.2.2.1.getD 0 0) t2).bind λd228=>U ((),d228.2.1,(),(),())) az) (U ((),t0,(),(),())))))))))))))))))) none:=eF Tryz.func20
def CD (t0):Dk (S.step T) t0=(zA T t0).bind λd7=>brk (!d7.1) (U ([],dO)) (brk (0<=ar.wrap (t0.1.length - 1)&&ar.wrap (t0.1.length - 1)<t0.1.length) ((pG T (t0,[],()) (at_ (τ:=cZ) t0.1 (ar.wrap (t0.1.length - 1))).2.2.2.2.2.2.2.2.1 ((at_ (τ:=cZ) t0.1 (ar.wrap (t0.1.length - 1))).2.2.2.2.2.2.2.2.1.length) 0).bind (dH λy5=>(Bld.Ul y5.1.2).bind λd35=>brk (65536<d35.1) (U ([],dO)) ((Bld.xN d35.2).bind λd40=>U (d40.1,dO)))) az):=eF Tryz.func9
def yv (t3 t20 t21 t22):pG (S.step T) t3 t20 t21 t22=brk (t22<t21) (brk (0<=t22&&t22<t20.length) ((mg T t3 (t20.getD t22.toNat 0) 0).bind λd28=>(dh T d28.2.1 [10]).bind λd30=>pG T d30.2.1 t20 t21 (ar.wrap (t22+1))) az) (U (an (t3,()))):=eL Tryz.func9
def Ic (t0):xI (S.step T) t0=(qC T t0).bind λd5=>brk (!(d5.1.1=0)) (U ([],cV)) ((Dk T d5.1.2.2.1).bind λd11=>U (d11.1,cV)):=eF Tryz.func5
theorem td (t0):oW (S.step T) t0=brk (1048576<(t0.length:Int)) (U (av,cV)) ((xH T t0).bind λd9=>(xI T t0).bind λd11=>brk (!(d11.1=d9.1)) (U (aq,cV)) (U (av,cV))):=eF Tryz.func3
end Go.Abs.D
end

section
namespace Go.Proofs.YtkappmlkcdbjnaaGreatDoor
open Go.Abs
set_option maxRecDepth 100000 in
def YV (h:laidMetH Tryz.prog Rows.fnExactTidiedRow.laid W):lU Abs.D.S.gU (snap W):=by
 rw[MakeChecks.laidMetH_plain _ _ _ (by kernel_rfl)]at h;obtain⟨ps,hl,_⟩:=h;obtain⟨_,_,_,_,_,_,_,_,_,_,hl,_⟩:=hl;obtain⟨g1,t1,c1,f1,p1,q1,a1,b1,v1,d1,hl,_⟩:=hl;obtain⟨g2,t2,c2,f2,p2,q2,a2,b2,v2,d2,hl,_⟩:=hl;obtain⟨g3,t3,c3,f3,p3,q3,a3,b3,v3,d3,hl,_⟩:=hl;obtain⟨_,_,_,_,_,_,_,_,_,_,hl,_⟩:=hl;obtain⟨g5,t5,c5,f5,p5,q5,a5,b5,v5,d5,hl,_⟩:=hl;obtain⟨g6,t6,c6,f6,p6,q6,a6,b6,v6,d6,hl,_⟩:=hl;obtain⟨g7,t7,c7,f7,p7,q7,a7,b7,v7,d7,hl,_⟩:=hl;have h5:=JA (g':=0) (τ:= .sl .str) (x:=Lx.words) (k:=3) a5 b5 v5 d5 (by kernel_rfl) (by kernel_rfl) rfl Rn (by kernel_rfl);have h6:=JA (g':=1) (τ:= .sl .str) (x:=Lx.rG) (k:=3) a6 b6 v6 d6 (by kernel_rfl) (by kernel_rfl) rfl Rn (by kernel_rfl);have h7:=JA (g':=2) (τ:= .sl .str) (x:=Lx.zK) (k:=3) a7 b7 v7 d7 (by kernel_rfl) (by kernel_rfl) rfl Rn (by kernel_rfl);have h3:=VA (g':=5) a3 b3 v3 d3 (by kernel_rfl) (by kernel_rfl);have h2:=Ls (g':=6) (k:= .u64) (m:=20) (e:=121) a2 b2 v2 d2 (by kernel_rfl) Lib.pow10Tab (by kernel_rfl) (by kernel_rfl) (by kernel_rfl) (by kernel_rfl) (by kernel_rfl);have h1:=Ls (g':=8) (k:= .u8) (m:=64) (e:=5) a1 b1 v1 d1 (by kernel_rfl) (Lib.deBruijn64tab.map λn:Nat=>(n:Int)) (by kernel_rfl) (by kernel_rfl) (by kernel_rfl) (by kernel_rfl) (by kernel_rfl);intro k cs hk;have hk:(bif Nat.beq k 0 then some [.v (.sl .str) Lx.words]else bif Nat.beq k 1 then some [.v (.sl .str) Lx.rG]else bif Nat.beq k 2 then some [.v (.sl .str) Lx.zK]else Lx.Hq k)=some cs:=hk
 cases e5:Nat.beq k 0 with
 |true=>rw[e5]at hk;have:=Nat.eq_of_beq_eq_true e5;subst this;injection hk with hk;subst hk;exact h5
 |false=>
 rw[e5]at hk
 cases e6:Nat.beq k 1 with
 |true=>rw[e6]at hk;have:=Nat.eq_of_beq_eq_true e6;subst this;injection hk with hk;subst hk;exact h6
 |false=>
 rw[e6]at hk
 cases e7:Nat.beq k 2 with
 |true=>rw[e7]at hk;have:=Nat.eq_of_beq_eq_true e7;subst this;injection hk with hk;subst hk;exact h7
 |false=>
 rw[e7]at hk;have hk:Lx.Hq k=some cs:=hk;unfold Lx.Hq at hk
 cases e1:Nat.beq k 8 with
 |true=>rw[e1]at hk;have:=Nat.eq_of_beq_eq_true e1;subst this;injection hk with hk;subst hk;rw[List.map_map]at h1;exact h1
 |false=>
 rw[e1]at hk;have hk:Lx.tables k=some cs:=hk;unfold Lx.tables at hk
 cases e2:Nat.beq k 6 with
 |true=>rw[e2]at hk;have:=Nat.eq_of_beq_eq_true e2;subst this;injection hk with hk;subst hk;exact h2
 |false=>
 rw[e2]at hk
 cases e3:Nat.beq k 5 with
 |true=>rw[e3]at hk;have:=Nat.eq_of_beq_eq_true e3;subst this;injection hk with hk;subst hk;exact h3
 |false=>
 rw[e3]at hk;cases hk
end Go.Proofs.YtkappmlkcdbjnaaGreatDoor
end

section
namespace Go.Abs.Bld
open Go.Proofs
def OL:∀{l:List (Nat×Nat×Nat)}{a b c:Nat},J7 l a b c=av->(a,b,c)∈l
 |t::r,a,b,c,h=>by
  simp only[J7,cO,aA]at h
  rcases h with h|h
  ·rw[<-beq_eq h.1.1,<-beq_eq h.1.2,<-beq_eq h.2];exact aD ..
  ·exact aB _ (OL h)
def aT1:∀t∈places,(bo5 (t.2.1+2) t.2.2&&liesAt aY aY.depth t.1 (t.2.2/aY.cellsOf t.1) t.2.1 63 1)=true:=by
 have:(places.all λt=>bo5 (t.2.1+2) t.2.2&&liesAt aY aY.depth t.1 (t.2.2/aY.cellsOf t.1) t.2.1 63 1)=true:=by kernel_rfl
 exact aK.1 this
set_option maxHeartbeats 1000000 in
set_option maxRecDepth 100000 in
def HR (b o) (w) (h0:w.cell? ⟨b,o,az⟩=U (.pointer (U ⟨b,o,az⟩))):
  Calls aY 107 #[.pointer (U ⟨b,o,az⟩)] w λe w'=>e= .returned (.tuple #[])/\w'=w:=by
 obtain⟨j,hj,_⟩:=bj.1 (show(aY.info? 63).map (·.size)=U 2 by kernel_rfl)
 go_enter Tryz.func107,Tryz.ntmps107
 go_wp2
 rw[Lib.run_neq_ptr_same w _ (by kernel_rfl) hj]
 go_wp2
 go_end0
 exact⟨rfl,rfl⟩
set_option maxHeartbeats 1000000 in
set_option maxRecDepth 100000 in
def G7 (b o ty n:Nat)(w:World)(h0:w.cell? ⟨b,o,az⟩=U (.pointer az))(aP1:w.shape? b=U (ty,n))(bl0:w.frozen? ⟨b,o,az⟩=aq)(iE:J7 places ty o n=av):
  Calls aY 107 #[.pointer (U ⟨b,o,az⟩)] w λe w'=>e= .returned (.tuple #[])/\w'=w.setCell ⟨b,o,az⟩ (.pointer (U ⟨b,o,az⟩)):=by
 obtain⟨j,hj,bd7⟩:=bj.1 (show(aY.info? 63).map (·.size)=U 2 by kernel_rfl);have hl:=aT1 _ (OL iE);simp only[aA]at hl
 have mL:o<n:=by have:=aR hl.1;omega
 go_enter Tryz.func107,Tryz.ntmps107
 go_wp2
 rw[Lib.run_to_unsafe w ⟨b,o,az⟩ (show aY.underlying 61=U (.pointer 63)by kernel_rfl) (show aY.underlying 161=U .unsafePointer by kernel_rfl) hj (by rw[bd7];decide) aP1 mL];simp only[bu7];rw[Oper.upon_value]
 go_wp2
 rw[run_callFunc_extern Tryz.func167 (by kernel_rfl) (by kernel_rfl) (by kernel_rfl) (e:=Extern.AbiNoEscape.same) (by kernel_rfl)];rw[Lib.run_noEscape];simp only[bu7];rw[Oper.upon_value]
 go_wp2
 rw[Lib.run_from_unsafe w ⟨b,o,az⟩ (show aY.underlying 161=U .unsafePointer by kernel_rfl) (show aY.underlying 61=U (.pointer 63)by kernel_rfl) hj aP1 hl.2];simp only[bu7];rw[Oper.upon_value]
 go_wp2
 go_end0
 exact⟨rfl,rfl⟩
end Go.Abs.Bld
end

section
namespace Go.Abs.Bld
open Go.Proofs
def Mv {w:World}(h:w.heap[b]?=U (.cells arr ty (0,0)))(hv:arr[k]?=U v):w.setCell ⟨b,k,az⟩ v=w:=by
 have:w.heap.modify b (λ| .cells c elem frozen=> .cells (c.setIfInBounds k v) elem frozen|o=>o)=w.heap:=by
  apply Array.ext_getElem?
  intro i;rw[Array.getElem?_modify]
  by_cases e:b=i
  ·subst e;rw[aj rfl,h];simp only[Option.map_some]
   have:arr.setIfInBounds k v=arr:=by
    apply Array.ext_getElem?
    intro j;rw[cK]
    by_cases e:k=j
    ·subst e;rw[aj rfl,hv];split
     ·rfl
     ·rename_i mL;rw[bo3 (by omega)]at hv;cases hv
    ·rw[ai e]
   rw[this]
  ·rw[ai e]
 show{w with heap:=_}=w;exact congrArg (λh=>{w with heap:=h}) this
def pM {arr:Array Value}(h:(arr.toList.drop o).take 2=[x,y]):arr[o]?=U x/\arr[o+1]?=U y:=by
 have h0:=congrArg (·[0]?) h;have h1:=congrArg (·[1]?) h;simp only[cT,cJ]at h0 h1;simp at h0 h1;exact⟨h0,h1⟩
def LO (ha:w.heap[b]?=U (.cells arr ty (0,0)))(iE:J7 places ty o arr.size=av)(hB:th dC w (b,o) xs ((arr.toList.drop o).take 2) nb):
  Calls aY 107 #[.pointer (U ⟨b,o,az⟩)] w λe w'=>e= .returned (.tuple #[])/\w'=w.setCell ⟨b,o,az⟩ (.pointer (U ⟨b,o,az⟩)):=by
 rcases hB with⟨h1,h2,h3⟩|⟨u2,h1,h2,h4⟩
 ·obtain⟨c0,c1⟩:=pM h1;exact G7 b o ty arr.size w (by rw[bT ha,c0]) (by simp[World.shape?,ha]) (Lib.frozen_of_heap ha o) iE
 ·obtain⟨c0,c1⟩:=pM h1;refine(HR b o w (by rw[bT ha,c0])).mono ?_;rintro e w' ⟨rfl,rfl⟩;exact⟨rfl,(Mv ha c0).symm⟩
noncomputable def Jp:TypeInfo:=match aY.info? 5 with
 |some i=>i
 |none=>default
def Gc:aY.info? 5=U Jp:=by kernel_rfl
def Pt (dC:Rd)(w1:World)(nb:List Nat)(xs:List Int)(v:Value)(w':World):Prop:=∃lW,After dC w1 nb dC w' lW/\OwnAt dC w' aq (.int .u8) xs [v] lW/\∀b∈lW,∃arr,w'.heap[b]?=U (.cells arr pR (0,0))
def Written (dC:Rd)(w:World)(b o ty:Nat)(arr:Array Value)(nb:List Nat)(xs:List Int)(w':World):Prop:=∃lW pT v,After dC w (b::nb) dC w' (b::lW)/\w'.heap[b]?=U (.cells pT ty (0,0))/\
 pT.toList=arr.toList.take o++[.pointer (U ⟨b,o,az⟩),v]++arr.toList.drop (o+2)/\OwnAt dC w' aq (.int .u8) xs [v] lW/\∀b∈lW,∃arr,w'.heap[b]?=U (.cells arr pR (0,0))
set_option maxHeartbeats 2000000 in
set_option maxRecDepth 100000 in
def TZ (c) (ha:w.heap[b]?=U (.cells arr ty (0,0)))(hle:o+2<=arr.size)(iE:J7 places ty o arr.size=av)
  (hB:th dC w (b,o) xs ((arr.toList.drop o).take 2) nb) (hn:(b::nb).Nodup) (hi:∀y∈b::nb,dC y=az/\y<w.heap.size) (hc:∀b L,dC b=U L->∃arr ty fr,w.heap[b]?=U (.cells arr ty fr)/\arr.toList=L)
  (tb:xs.length+1<=1099511627776):
  Calls aY 166 #[.pointer (U ⟨b,o,az⟩), .int .u8 c] w λe w'=>e= .returned .nilIface/\Written dC w b o ty arr nb (xs++[c]) w':=by
 go_enter Tryz.func166,Tryz.ntmps166
 go_wp2_with (go_at_call 107;refine(LO ha iE hB).mono ?_)
 rintro e w1 ⟨rfl,e1⟩
 obtain⟨u,hu,hO,RR⟩:∃u,arr[o+1]?=U u/\OwnAt dC w aq (.int .u8) xs [u] nb/\∀b∈nb,∃arr,w.heap[b]?=U (.cells arr pR (0,0)):=by
  rcases hB with⟨h1,h2,h3⟩|⟨u2,h1,h2,h3⟩
  ·exact⟨_,(pM h1).2, .inl ⟨rfl,h2,h3⟩,λy hy=>by rw[h3]at hy;simp at hy⟩
  ·exact⟨_,(pM h1).2,h2,h3⟩
 obtain⟨s1,s2,s3⟩:=sj (k:=o) ha (.pointer (U ⟨b,o,az⟩));rw[<-e1]at s1 s2 s3;have Cv:=cu.1 hn
 have ae3:OwnAt dC w1 aq (.int .u8) xs [u] nb:=hO.other λy hy=>s2 y λe=>Cv.1 (e ▸ hy)
 have aw8:∀y∈nb,∃arr,w1.heap[y]?=U (.cells arr pR (0,0)):=λy hy=>by
  obtain⟨a,k⟩:=RR y hy;exact⟨a,by rw[s2 y λe=>Cv.1 (e ▸ hy)];exact k⟩
 have ad1:∀y∈nb,dC y=az/\y<w1.heap.size:=λy hy=>⟨(hi y (aB _ hy)).1,by rw[s3];exact(hi y (aB _ hy)).2⟩
 have c1:w1.cell? ⟨b,o+1,az⟩=U u:=by
  rw[bT s1,cK,ai (by omega)];exact hu
 have FZ:∀b L,dC b=U L->∃arr ty fr,w1.heap[b]?=U (.cells arr ty fr)/\arr.toList=L:=λy L h=>by
  rw[s2 y λe=>by rw[e,(hi b (aD ..)).1]at h;cases h];exact hc y L h
 have RX:(w1.alloc (.cells #[.int .u8 c] 5)).heap[w1.heap.size]?=U (.cells #[.int .u8 c] 5 (0,0)):=by
  show(w1.heap.push _)[w1.heap.size]?=_;rw[bp5,aj rfl]
 have hold:∀{y:Nat} {x:Go.Obj},w1.heap[y]?=U x->(w1.alloc (.cells #[.int .u8 c] 5)).heap[y]?=U x:=λ{y x} k=>by
  have:=lt_of_heap k;show(w1.heap.push _)[y]?=_;rw[bp5,ai (by omega)];exact k
 have hr:∃v w',(bo9 #[39,39] 39 #[u, .slice (U ⟨w1.heap.size,0,az⟩) 1 1]).run aY (w1.alloc (.cells #[.int .u8 c] 5))= .ok v w'/\Pt dC w1 nb (xs++[c]) v w':=by
  obtain⟨v,w',lW,h1,h2,h3,h4⟩:=Lj (P:=aY) (t:=39) (tx:=39) (ty:=39) (e:=5) (ys:=[c]) (i:=Jp) (z:= .int .u8 0) (by kernel_rfl) Gc (by kernel_rfl) (by kernel_rfl) (aR (by kernel_rfl)) rfl (ae3.alloc (λy hy=>(ad1 y hy).2) (.cells #[.int .u8 c] 5))
   (Src.ofSlice (P:=aY) (w:=w1.alloc (.cells #[.int .u8 c] 5)) (e':=5) (by kernel_rfl) ⟨w1.heap.size,0,az⟩ 1 1 [.int .u8 c] rfl (λj x hj=>by
    rw[bo8,bT RX]
    match j,hj with
    |0,hj=>simpa using hj) λx hx=>by
    have:x= .int .u8 c:=(by simpa using hx)
    subst this;rfl) tb (λy L h=>by
    obtain⟨a,t,f,k1,k2⟩:=FZ y L h
    exact⟨a,t,f,hold k1,k2⟩) (λy hy=>⟨(ad1 y hy).1,by
     have:=(ad1 y hy).2;show y<(w1.heap.push _).size
     simp;omega⟩) (λy hy=>by
    obtain⟨a,k⟩:=aw8 y hy
    exact⟨a,hold k⟩)
  exact⟨v,w',h1,lW,h2.Yb λy L h=>by obtain⟨a,t,f,k1,k2⟩:=FZ y L h;exact lt_of_heap k1,h3,h4⟩
 have Zt:∃_:True,w1=w.setCell ⟨b,o,az⟩ (.pointer (U ⟨b,o,az⟩))/\w1.heap.size=w.heap.size:=⟨trivial,e1,s3⟩;clear e1 s3
 go_wp2_with (at_builtin;refine xq rfl _ _ 39 39 rfl _ _ rfl rfl _ hr ?_)
 rintro v w2 ⟨UX,A,Sb,av4⟩;obtain⟨_,e1,s3⟩:=Zt;obtain⟨B1,B2,pT,B3,B4,B5,B6⟩:=LY ha hle hn hi hc e1 A Sb
 have aw6:∀y∈UX,∃arr,(w2.setCell ⟨b,o+1,az⟩ v).heap[y]?=U (.cells arr pR (0,0)):=λy hy=>by
  obtain⟨a,k⟩:=av4 y hy;exact⟨a,by rw[(sj (k:=o+1) B6 v).2.1 y λe=>B2 (e ▸ hy)];exact k⟩
 obtain⟨ao,n',cap,rfl⟩:∃ao n' cap,v= .slice ao n' cap:=by
  rcases Sb with⟨h1,_⟩|⟨b',cap,pT,ER,lW,h1,_⟩
  ·injection h1 with h1 _;exact⟨_,_,_,h1⟩
  ·injection h1 with h1 _;exact⟨_,_,_,h1⟩
 have d1:w2.cell? ⟨b,o+1,az⟩=U u:=by
  rw[bT B6,cK,ai (by omega)];exact hu
 have f1:w2.frozen? ⟨b,o+1,az⟩=false:=Lib.frozen_of_heap B6 (o+1);clear e1
 go_wp2
 go_ret
 exact⟨rfl,UX,pT,_,B1,B3,B4,B5,aw6⟩
set_option maxHeartbeats 2000000 in
set_option maxRecDepth 100000 in
def writeString (s) (ha:w.heap[b]?=U (.cells arr ty (0,0)))(hle:o+2<=arr.size)(iE:J7 places ty o arr.size=av)
  (hB:th dC w (b,o) xs ((arr.toList.drop o).take 2) nb) (hn:(b::nb).Nodup) (hi:∀y∈b::nb,dC y=az/\y<w.heap.size) (hc:∀b L,dC b=U L->∃arr ty fr,w.heap[b]?=U (.cells arr ty fr)/\arr.toList=L)
  (tb:xs.length+(bytesOf s).length<=1099511627776):
  Calls aY 51 #[.pointer (U ⟨b,o,az⟩), .string s] w λe w'=>e= .returned (.tuple #[.int .i64 s.size, .nilIface])/\Written dC w b o ty arr nb (xs++bytesOf s) w':=by
 go_enter Tryz.func51,Tryz.ntmps51
 go_wp2_with (go_at_call 107;refine(LO ha iE hB).mono ?_)
 rintro e w1 ⟨rfl,e1⟩
 obtain⟨u,hu,hO,RR⟩:∃u,arr[o+1]?=U u/\OwnAt dC w aq (.int .u8) xs [u] nb/\∀b∈nb,∃arr,w.heap[b]?=U (.cells arr pR (0,0)):=by
  rcases hB with⟨h1,h2,h3⟩|⟨u2,h1,h2,h3⟩
  ·exact⟨_,(pM h1).2, .inl ⟨rfl,h2,h3⟩,λy hy=>by rw[h3]at hy;simp at hy⟩
  ·exact⟨_,(pM h1).2,h2,h3⟩
 obtain⟨s1,s2,s3⟩:=sj (k:=o) ha (.pointer (U ⟨b,o,az⟩));rw[<-e1]at s1 s2 s3;have Cv:=cu.1 hn
 have ae3:OwnAt dC w1 aq (.int .u8) xs [u] nb:=hO.other λy hy=>s2 y λe=>Cv.1 (e ▸ hy)
 have aw8:∀y∈nb,∃arr,w1.heap[y]?=U (.cells arr pR (0,0)):=λy hy=>by
  obtain⟨a,k⟩:=RR y hy;exact⟨a,by rw[s2 y λe=>Cv.1 (e ▸ hy)];exact k⟩
 have ad1:∀y∈nb,dC y=az/\y<w1.heap.size:=λy hy=>⟨(hi y (aB _ hy)).1,by rw[s3];exact(hi y (aB _ hy)).2⟩
 have c1:w1.cell? ⟨b,o+1,az⟩=U u:=by
  rw[bT s1,cK,ai (by omega)];exact hu
 have FZ:∀b L,dC b=U L->∃arr ty fr,w1.heap[b]?=U (.cells arr ty fr)/\arr.toList=L:=λy L h=>by
  rw[s2 y λe=>by rw[e,(hi b (aD ..)).1]at h;cases h];exact hc y L h
 have hr:∃v w',(bo9 #[39,9] 39 #[u, .string s]).run aY w1= .ok v w'/\Pt dC w1 nb (xs++bytesOf s) v w':=by
  have hb:Go.byteCells s=(bytesOf s).map (bQ .u8):=by
   unfold Go.byteCells bytesOf;rw[List.map_map];rfl
  have hs:Src aY 1 9 (.string s) (bytesOf s).length ((bytesOf s).map (bQ .u8)) w1:=by
   rw[<-hb,iw];exact Src.ofString w1 (by kernel_rfl) s
  obtain⟨v,w',lW,h1,h2,h3,h4⟩:=Lj (P:=aY) (t:=39) (tx:=9) (ty:=39) (e:=5) (ys:=bytesOf s) (i:=Jp) (z:= .int .u8 0) (by kernel_rfl) Gc (by kernel_rfl) (by kernel_rfl) (aR (by kernel_rfl)) rfl ae3 hs tb FZ ad1 aw8;exact⟨v,w',h1,lW,h2,h3,h4⟩
 have Zt:∃_:True,w1=w.setCell ⟨b,o,az⟩ (.pointer (U ⟨b,o,az⟩))/\w1.heap.size=w.heap.size:=⟨trivial,e1,s3⟩;clear e1 s3
 go_wp2_with (at_builtin;refine xq rfl _ _ 39 9 rfl _ _ rfl rfl _ hr ?_)
 rintro v w2 ⟨UX,A,Sb,av4⟩;obtain⟨_,e1,s3⟩:=Zt;obtain⟨B1,B2,pT,B3,B4,B5,B6⟩:=LY ha hle hn hi hc e1 A Sb
 have aw6:∀y∈UX,∃arr,(w2.setCell ⟨b,o+1,az⟩ v).heap[y]?=U (.cells arr pR (0,0)):=λy hy=>by
  obtain⟨a,k⟩:=av4 y hy;exact⟨a,by rw[(sj (k:=o+1) B6 v).2.1 y λe=>B2 (e ▸ hy)];exact k⟩
 obtain⟨ao,n',cap,rfl⟩:∃ao n' cap,v= .slice ao n' cap:=by
  rcases Sb with⟨h1,_⟩|⟨b',cap,pT,ER,lW,h1,_⟩
  ·injection h1 with h1 _;exact⟨_,_,_,h1⟩
  ·injection h1 with h1 _;exact⟨_,_,_,h1⟩
 have d1:w2.cell? ⟨b,o+1,az⟩=U u:=by
  rw[bT B6,cK,ai (by omega)];exact hu
 have f1:w2.frozen? ⟨b,o+1,az⟩=false:=Lib.frozen_of_heap B6 (o+1);clear e1
 go_wp2
 go_ret2
 exact⟨rfl,UX,pT,_,B1,B3,B4,B5,aw6⟩
end Go.Abs.Bld
end

section
set_option maxRecDepth 100000
namespace Go.Abs.Bld
open Go.Proofs
def IX:∀(xs:List Int) a acc,(∀j x,xs[j]?=U x->w.cell? (a.add j)=U (.int .u8 x))->
  ∃st,(loadBytes a acc xs.length).run P w= .ok st w/\bytesOf st=bytesOf acc++xs.map byte
 |[],a,acc,_=>⟨acc,by simp[loadBytes],by simp⟩
 |x::xs,a,acc,h=>by
  have h0:w.cell? a=U (.int .u8 x):=by
   have:=h 0 x rfl;simpa[Addr.add]using this
  obtain⟨st,h1,h2⟩:=IX (P:=P) (w:=w) xs (a.add 1) (acc.push x.toNat.toUInt8) (λj y hy=>by
   have:=h (j+1) y (by simpa using hy)
   have e:(a.add 1).add j=a.add (j+1):=by
    unfold Addr.add
    by_cases hj:j=0
    ·subst hj;simp
    ·simp[hj];omega
   rw[e];exact this)
  refine⟨st, ?_, ?_⟩
  ·simp only[aw,loadBytes,bL,run_load,h0,bu7];exact h1
  ·rw[h2]
   have:bytesOf (acc.push x.toNat.toUInt8)=bytesOf acc++[byte x]:=by
    unfold bytesOf byte;rw[ByteArray.data_push];simp
   rw[this];simp
def KR (pt it ty e) (hp:P.underlying pt=U (.pointer e))(hc:P.cellsOf e=1) (g cells) (aP1:w.shape? g=U (e,cells)) (xs) (h0:xs≠[])(hn:xs.length<=cells)(h63:xs.length<=9223372036854775807)
  (p9:∀j x,xs[j]?=U x->w.cell? ((⟨g,0,az⟩:Addr).add j)=U (.int .u8 x)):
  ∃st,(Builtin.unsafeString_ #[pt,it] ty #[.pointer (U ⟨g,0,az⟩), .int .i64 xs.length]).run P w= .ok (.string st) (w.freeze ⟨g,0,az⟩ xs.length)/\bytesOf st=xs.map byte:=by
 have hl:xs.length≠0:=(by simpa using h0);obtain⟨st,UG,qc⟩:=IX (P:=P) (w:=w) xs ⟨g,0,az⟩ .empty p9;refine⟨st, ?_,by rw[qc];simp[bytesOf]⟩;have aK9:=Lib.liesAt_bytes (P:=P) hc (cells/P.cellsOf e) xs.length (by rw[hc];simpa using hn);have a33:¬ 9223372036854775807<(xs.length:Int):=(by omega)
 have aY8:Builtin.unsafeString_ #[pt,it] ty #[.pointer (U ⟨g,0,az⟩), .int .i64 xs.length]=
   (do
    let n<-Go.asInt (.int .i64 xs.length)
    if n<0 then runtimePanic (.error "unsafe.String: len out of range")
    if n>ar.max then unsupported (.unsafePointer "String: a length above the largest int")
    if n=0 then pure (.string .empty)
    else if<-variablesAt ⟨g,0,az⟩ (<-elemOf pt) n.toNat then do
     let s<-loadBytes ⟨g,0,az⟩ .empty n.toNat
     freeze ⟨g,0,az⟩ n.toNat
     pure (.string s)
    else unsupported (.unsafePointer "String: not so many bytes at ptr")):=rfl
 rw[aY8];have ap2:ar.max=9223372036854775807:=rfl;have NZ:¬ (xs.length:Int)<0:=(by omega);simp[Go.asInt,asIntOf,ap2,a33,NZ,hl,variablesAt,aP1,elemOf,run_underlying hp,aK9,UG]
structure Read (dC:Rd)(w:World)(nb:List Nat)(w':World):Prop where
 other:∀b,b<w.heap.size->b∉nb->w'.heap[b]?=w.heap[b]?
 size:w.heap.size<=w'.heap.size
 os:w'.os=w.os
 tape:w'.tape=w.tape
 output:w'.output=w.output
theorem Read.after (h:Read dC w nb w')(hn:∀y∈nb,dC y=az/\y<w.heap.size)(hc:∀b L,dC b=U L->∃arr ty fr,w.heap[b]?=U (.cells arr ty fr)/\arr.toList=L):After dC w nb dC w' []:=
 ⟨λ_ _ h=>h,λb L k=>by
  obtain⟨a,t,f,k1,k2⟩:=hc b L k;refine⟨a,t,f, ?_,k2⟩;rw[h.other b (lt_of_heap k1) λhm=>by rw[(hn b hm).1]at k;cases k]
  exact k1,λb h1 h2 h3=>⟨h.other b h1 h2,h3⟩,bf,λb hb=>by simp at hb,h.size,h.os,h.tape,h.output,λb L k=>by
  obtain⟨a,t,f,k1,k2⟩:=hc b L k
  exact h.other b (lt_of_heap k1) λhm=>by rw[(hn b hm).1]at k;cases k⟩
def Read.drew (dC) (w) (nb):Read dC w nb w.drew:=⟨λ_ _ _=>rfl,aF _,rfl,rfl,rfl⟩
def Read.TH (dC) (w) (nb) (o):Read dC w nb (w.drew.alloc o):=
 ⟨λb h _=>by
  show(w.heap.push _)[b]?=_
  rw[bp5,ai (by omega)],by show _<=(w.heap.push _).size;simp,rfl,rfl,rfl⟩
def Read.freeze (hg:g∈nb) (n):Read dC w nb (w.drew.freeze ⟨g,0,az⟩ n):=by
 unfold World.freeze;split
 ·exact Read.drew dC w nb
 ·refine⟨λb _ hb=> ?_,by simp,rfl,rfl,rfl⟩;simp only[Array.getElem?_modify];rw[ai λe:g=b=>hb (e ▸ hg)];rfl
set_option maxHeartbeats 2000000 in
set_option maxRecDepth 100000 in
def string (ha:w.heap[b]?=U (.cells arr ty (0,0)))(hle:o+2<=arr.size)
  (hB:th dC w (b,o) xs ((arr.toList.drop o).take 2) nb) (tb:xs.length<=1099511627776):
  Calls aY 23 #[.pointer (U ⟨b,o,az⟩)] w λe w'=>∃st,e= .returned (.string st)/\bytesOf st=xs.map byte/\Read dC w nb w':=by
 obtain⟨u,hu,hO,RR⟩:∃u,arr[o+1]?=U u/\OwnAt dC w aq (.int .u8) xs [u] nb/\∀b∈nb,∃arr,w.heap[b]?=U (.cells arr pR (0,0)):=by
  rcases hB with⟨h1,h2,h3⟩|⟨u2,h1,h2,h3⟩
  ·exact⟨_,(pM h1).2, .inl ⟨rfl,h2,h3⟩,λy hy=>by rw[h3]at hy;simp at hy⟩
  ·exact⟨_,(pM h1).2,h2,h3⟩
 have hd:w.drew.heap[b]?=U (.cells arr ty (0,0)):=ha
 have c1:w.drew.cell? ⟨b,o+1,az⟩=U u:=by rw[bT hd];exact hu
 have c0:w.cell? ⟨b,o+1,az⟩=U u:=c1
 have hnone:∀W q,(Builtin.unsafeString_ #[104,3] 9 #[.pointer q, .int .i64 0]).run aY W= .ok (.string .empty) W:=λW q=>Lib.run_unsafeString_none W _ _ _ q
 rcases hO with⟨h1,rfl,_⟩|⟨g,cap,pT,ER,lW,h1,h2,h3,h4,h5,h6⟩
 ·injection h1 with h1 _
  subst h1;have aV7:(bp4 #[39] 104 #[.slice az 0 0]).run aY w.drew= .ok (.pointer az) w.drew:=rfl;have fin:=Read.drew dC w nb;clear hB RR
  go_enter bt0,Tryz.ntmps23
  go_wp2
  go_region
  all_goals (go_wp2;go_ret;exact⟨_,rfl,rfl,fin⟩)
 ·injection h1 with h1 _
  subst h1
  have hg:g∈nb:=by rw[h2];simp
  obtain⟨a10,k1⟩:=RR g hg;rw[h3]at k1
  injection k1 with k1;injection k1 with _ k2
  subst k2
  have aq9:pT.size=cap:=by simpa[Ty.size]using h5
  have Zs:w.drew.heap[g]?=U (.cells pT pR (0,0)):=h3
  by_cases hx:xs=[]
  ·subst hx
   by_cases ZS:cap=0
   ·subst ZS
    have aV7:(bp4 #[39] 104 #[.slice (U ⟨g,0,az⟩) 0 0]).run aY w.drew= .ok (.pointer (U ⟨w.drew.heap.size,0,az⟩)) (w.drew.alloc (.view ⟨g,0,az⟩ 5)):=
     Lib.run_unsafeSliceData_zero w.drew _ _ 5 (by kernel_rfl) ⟨g,0,az⟩ 0 (5,pT.size) (by simp[World.shape?,Zs,pR])
    have c2:(w.drew.alloc (.view ⟨g,0,az⟩ 5)).cell? ⟨b,o+1,az⟩=U (.slice (U ⟨g,0,az⟩) 0 0):=by
     have:(w.drew.alloc (.view ⟨g,0,az⟩ 5)).heap[b]?=U (.cells arr ty (0,0)):=(Lib.alloc_old w.drew _ b (lt_of_heap ha)).trans ha;rw[bT this];exact hu
    have c3:(w.alloc (.view ⟨g,0,az⟩ 5)).drew.cell? ⟨b,o+1,az⟩=U (.slice (U ⟨g,0,az⟩) 0 0):=c2;have fin:=Read.TH dC w nb (.view ⟨g,0,az⟩ 5);clear hB RR
    go_enter bt0,Tryz.ntmps23
    go_wp2
    go_region
    all_goals (go_wp2;go_ret;exact⟨_,rfl,rfl,fin⟩)
   ·have aV7:(bp4 #[39] 104 #[.slice (U ⟨g,0,az⟩) 0 cap]).run aY w.drew= .ok (.pointer (U ⟨g,0,az⟩)) w.drew:=
     Lib.run_unsafeSliceData_row _ _ _ _ _ _ ZS
    have fin:=Read.drew dC w nb;clear hB RR ZS
    go_enter bt0,Tryz.ntmps23
    go_wp2
    go_region
    all_goals (go_wp2;go_ret;exact⟨_,rfl,rfl,fin⟩)
  ·have sF:0<xs.length:=b9.2 hx
   have aV7:(bp4 #[39] 104 #[.slice (U ⟨g,0,az⟩) xs.length cap]).run aY w.drew= .ok (.pointer (U ⟨g,0,az⟩)) w.drew:=
    Lib.run_unsafeSliceData_row _ _ _ _ _ _ (by omega)
   obtain⟨st,hUS,qc⟩:=KR (P:=aY) (w:=w.drew) 104 3 9 5 (by kernel_rfl) (by kernel_rfl) g pT.size (by simp[World.shape?,Zs,pR]) xs hx (by omega) (by omega) (λj x hj=>by
    obtain⟨Zq,rfl⟩:=cr.1 hj;rw[bo8]
    exact FH Zs h6.1 j Zq)
   have fin:Read dC w nb (w.drew.freeze ⟨g,0,az⟩ xs.length):=Read.freeze hg _;clear hB RR hx
   go_enter bt0,Tryz.ntmps23
   go_wp2
   go_region
   all_goals (go_wp2;go_ret;exact⟨_,rfl,qc,fin⟩)
end Go.Abs.Bld
end

section
set_option maxRecDepth 100000
namespace Go.Abs.Bld
open Go.Proofs
def Ji (h:(bif fits n then U x else az)=U y):n<=1099511627776/\x=y:=by
 cases e:fits n with
 |false=>rw[e]at h;cases h
 |true=>rw[e]at h;injection h with h;exact⟨aR e,h⟩
def Pp (ha:w.heap[b]?=U (.cells arr ty (0,0)))(hle:o+2<=arr.size)(h:Written dC w b o ty arr nb xs w'):
  ∃lW,After dC w (b::nb) dC w' (b::lW)/\rq dC w w' (.ptr aq (0,places) .vp) xs (0,0) [.pointer (U ⟨b,o,az⟩)] [.pointer (U ⟨b,o,az⟩)] (b::lW):=by
 obtain⟨lW,pT,v,A,h1,h2,h3,h4⟩:=h;refine⟨lW,A,b,o,arr,ty,pT,[.pointer (U ⟨b,o,az⟩),v],lW,rfl,rfl,rfl,ha,h1,h2,hle,rfl, .inr ⟨v,rfl,h3,h4⟩⟩
def Ms (gU):o9 aY gU 166 ⟨⟨[bp, .one (.fT (.int .u8))], .val (.one .err)⟩,og⟩:=by
 intro x y hF dC w args nb hG hc hP hn hi;obtain⟨tb,rfl⟩:=Ji hF;obtain⟨u1,r1,n1,n2,rfl,rfl,⟨_,b,o,arr,ty,lW,e1,rfl,ha,hw,hle,hB⟩,u2,r2,n3,n4,rfl,rfl,⟨_,rfl,_,u3,e2,h3⟩,rfl,rfl⟩:=hP
 injection e1 with e1 _
 injection e2 with e2 _
 subst e1;subst e2;have h3:[_]=[_]:=h3
 injection h3 with h3 _
 subst h3;simp only[aQ]at hn hi;refine hZ Tryz.func166 rfl (by kernel_rfl) ((TZ x.2.1 ha hle (hw.2 rfl) hB hn hi hc tb).mono ?_);rintro e w' ⟨rfl,hW⟩;obtain⟨aF1,A,a30⟩:=Pp ha hle hW;refine⟨_,rfl,dC,[],b::aF1,by simpa using A,⟨rfl,rfl,_,rfl, .inl ⟨rfl,rfl⟩⟩,_,_,b::aF1,[],rfl,by simp,a30,_,_,[],[],rfl,rfl,rfl,rfl,rfl⟩
def HW (gU):o9 aY gU 51 ⟨⟨[bp, .one (.fT .str)], .xl [.one (.fT (.int .i64)), .one .err]⟩,mH⟩:=by
 intro x y hF dC w args nb hG hc hP hn hi;obtain⟨tb,rfl⟩:=Ji hF;obtain⟨u1,r1,n1,n2,rfl,rfl,⟨_,b,o,arr,ty,lW,e1,rfl,ha,hw,hle,hB⟩,u2,r2,n3,n4,rfl,rfl,⟨_,rfl,_,u3,e2,s,h3,h4⟩,rfl,rfl⟩:=hP
 injection e1 with e1 _
 injection e2 with e2 _
 subst e1;subst e2
 injection h3 with h3 _
 subst h3;simp only[aQ]at hn hi;have X0:x.2.1=bytesOf s:=h4;refine hZ Tryz.func51 rfl (by kernel_rfl) ((writeString s ha hle (hw.2 rfl) hB hn hi hc (by rw[<-X0];exact tb)).mono ?_);rintro e w' ⟨rfl,hW⟩;rw[<-X0]at hW;obtain⟨aF1,A,a30⟩:=Pp ha hle hW;refine⟨_,rfl,dC,[],b::aF1,by simpa using A,⟨[_,_],rfl,_,_,[],[],rfl,rfl,⟨rfl,rfl,rfl,_,rfl, ?_⟩,_,_,[],[],rfl,rfl,⟨rfl,rfl,_,rfl, .inl ⟨rfl,rfl⟩⟩,rfl,rfl⟩,_,_,b::aF1,[],rfl,by simp,a30,_,_,[],[],rfl,rfl,rfl,rfl,rfl⟩;show [_]=[_];rw[<-iw,<-X0]
def TQ (gU):o9 aY gU 23 ⟨⟨[.one (.CV places)], .val (.one (.fT .str))⟩,xN⟩:=by
 intro x y hF dC w args nb hG hc hP hn hi;obtain⟨tb,rfl⟩:=Ji hF;obtain⟨u1,r1,n1,n2,rfl,rfl,⟨_,b,o,arr,ty,e1,ha,iE,hle,hB⟩,rfl,rfl⟩:=hP
 injection e1 with e1 _
 subst e1;simp only[aQ]at hn hi;refine hZ bt0 rfl (by kernel_rfl) ((string ha hle hB tb).mono ?_);rintro e w' ⟨st,rfl,qc,hR⟩;refine⟨_,rfl,dC,[],[], ?_,⟨rfl,rfl,rfl,_,rfl,st,rfl,qc.symm⟩,_,_,[],[],rfl,rfl,rfl,rfl,rfl⟩;rw[aQ];exact hR.after hi hc
end Go.Abs.Bld
end

section
set_option maxRecDepth 100000
namespace Go.Abs.Bld
open Go.Proofs
def ah7 (ha:w.heap[b]?=U (.cells arr ty (0,0)))(hle:o+2<=arr.size)
  (hB:th dC w (b,o) xs ((arr.toList.drop o).take 2) nb):
  Calls aY 22 #[.pointer (U ⟨b,o,az⟩)] w λe w'=>e= .returned (.int .i64 xs.length)/\w'=w:=by
 obtain⟨u,hu,hO⟩:∃u,arr[o+1]?=U u/\OwnAt dC w aq (.int .u8) xs [u] nb:=by
  rcases hB with⟨h1,h2,h3⟩|⟨u2,h1,h2,h3⟩
  ·exact⟨_,(pM h1).2, .inl ⟨rfl,h2,h3⟩⟩
  ·exact⟨_,(pM h1).2,h2⟩
 have c0:w.cell? ⟨b,o+1,az⟩=U u:=by rw[bT ha];exact hu
 have key:∃A c,u= .slice A xs.length c:=by
  rcases hO with⟨h1,rfl,_⟩|⟨g,cap,pT,ER,lW,h1,_⟩
  ·injection h1 with h1 _
   exact⟨az,0,h1⟩
  ·injection h1 with h1 _
   exact⟨_,cap,h1⟩
 obtain⟨A,c,rfl⟩:=key;clear hB hO hu
 go_enter Tryz.func22,Tryz.ntmps22
 go_wp2
 go_ret
 exact⟨rfl,rfl⟩
def Q0 (hn:nb.Nodup)(hi:∀y∈nb,dC y=az/\y<w.heap.size)(hc:∀b L,dC b=U L->∃arr ty fr,w.heap[b]?=U (.cells arr ty fr)/\arr.toList=L):After dC w nb dC w nb:=by
 refine⟨λ_ _ h=>h,hc,λb _ _ h=>⟨rfl,h⟩,hn,λb hb=>⟨(hi b hb).1, .inl hb,(hi b hb).2⟩,aF _,rfl,rfl,rfl,λ_ _ _=>rfl⟩
def aj7 (gU):o9 aY gU 22 ⟨⟨[bp], .val (.one (.fT (.int .i64)))⟩,Ul⟩:=by
 intro x y hF dC w args nb hG hc hP hn hi;have hF:Ul x=U y:=hF;unfold Ul at hF
 injection hF with hF
 subst hF;obtain⟨u1,r1,n1,n2,rfl,rfl,⟨_,b,o,arr,ty,lW,e1,rfl,ha,hw,hle,hB⟩,rfl,rfl⟩:=hP
 injection e1 with e1 _
 subst e1;simp only[aQ]at hn hi;refine hZ Tryz.func22 rfl (by kernel_rfl) ((ah7 ha hle hB).mono ?_);rintro e w' ⟨rfl,rfl⟩;have R7:o+2<=arr.size:=hle
 have hlen:((arr.toList.drop o).take 2).length=2:=by
  simp only[bl,bK,cC];omega
 refine⟨_,rfl,dC,[],b::lW,by simpa using Q0 hn hi hc,⟨rfl,rfl,rfl,_,rfl,rfl⟩,_,_,b::lW,[],rfl,by simp,⟨b,o,arr,ty,arr,(arr.toList.drop o).take 2,lW,rfl,rfl,rfl,ha,ha, ?_, ?_,hlen,hB⟩,rfl,rfl⟩
 ·rw[hlen];have:arr.toList.drop o=(arr.toList.drop o).take 2++arr.toList.drop (o+2):=(by rw[<-bX,bo6])
  conv=>lhs;rw[<-bo6 o arr.toList,this]
  rw[aC]
 ·rw[hlen];simpa using hle
end Go.Abs.Bld
end

