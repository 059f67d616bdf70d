/- What is here: what strings.Builder's functions and IndexByte answer, as plain functions. -/
import Derived.Test.YtkmplfkiafonkaaGreatDoorR2
import Derived.Lib.ParseIntB
import Derived.Lib.ItoaNum
import Derived.Lib.LaidTab
import Derived.Shelf.Strconv.Itoa4
import Derived.Lib.TrailingZeros
import Derived.Test.YtkmplfkiafonkaaGreatDoorProg
import Derived.Test.YtkmplfkiafonkaaGreatDoorRows
import Derived.Test.YtkmplfkiafonkaaGreatDoorTie
import Derived.Lib.Builder
import Derived.Lib.Walk
import Derived.Lib.Slices
import Derived.Lib.Strings
import Derived.WalkKit
import Derived.Laws.Externs
import Derived.Lib.AppendStr
import Derived.Lib.UnsafeStr
set_option linter.unusedVariables false
set_option linter.unusedSimpArgs false
set_option maxRecDepth 100000
open Go.IntKind (i64 u64 u8)
section
namespace Go.Abs.Bld
def places:List (Nat×Nat×Nat):=[(59,0,2),(61,1,3)]
@[reducible] def bp:VSp:= .one (.ptr false (0,places) .nR)
def gT (x:List Int×Int×Unit):Option (Bool×List Int×Unit×Unit):=bif fits (x.1.length+1)then some (true,x.1++[x.2.1],(),())else none
def fJ (x:List Int×List Int×Unit):Option ((Int×Bool×Unit)×List Int×Unit×Unit):=bif fits (x.1.length+x.2.1.length)then some ((x.2.1.length,true,()),x.1++x.2.1,(),())else none
def pP (x:List Int×Unit):Option (List Int×Unit×Unit):=bif fits x.1.length then some (x.1.map byte,(),())else none
def Ih (x:List Int×Unit):Option (Int×List Int×Unit):=some ((x.1.length:Int),x.1,())
def idx:List Int→Int→Int→Int
 |[],_,_=> -1
 |x::r,c,n=>bif decide (x=c)then n else idx r c (n+1)
def oN (x:List Int×Int×Unit):Option (Int×Unit×Unit×Unit):=some (idx x.1 (byte x.2.1) 0,(),(),())
end Go.Abs.Bld
end

section
namespace Go.Abs.Lx
def words:List (List Int):=[[97,110,100],[98,114,101,97,107],[99,97,116,99,104],[99,111,110,115,116],[100,101,102,101,114],[101,108,105,102],[101,108,115,101],[102,97,108,115,101],[102,110],[102,111,114],[105,102],[105,110],[108,101,116],[110,101,120,116],[110,105,108],[110,111,116],[111,114],[114,101,116,117,114,110],[116,104,114,111,119],[116,114,117,101],[116,114,121],[119,104,105,108,101]]
def jE:List (List Int):=[[40],[41],[123],[125],[91],[93],[44],[61],[46],[46,46,46],[35]]
def ry:List (List Int):=[[43],[45],[42],[47],[47,47],[37],[38],[124],[126],[60,60],[62,62],[46,46],[61,61],[126,61],[60],[60,61],[62],[62,61]]
def u8s (l:List Int):List UInt8:=l.map fun c=>c.toNat.toUInt8
def ints (l:List UInt8):List Int:=l.map fun b=>(b.toNat:Int)
def lZ (x:List Int×Int×Int×Unit):Option ((Int×Bool×Unit)×Unit×Unit×Unit×Unit):=
 bif decide (x.2.1=10)&&decide (x.2.2.1=64)&&fits x.1.length then
  match Lib.parseIntB 64 (u8s x.1)with
  | .ok v=>some ((v,true,()),(),(),(),())
  | .range=>some ((Lib.intSat 64 (u8s x.1),false,()),(),(),(),())
  |_=>none
 else none
def kD (x:Int×Int×Unit):Option (List Int×Unit×Unit×Unit):=
 bif decide (x.2.1=10)&&decide (-9223372036854775808≤x.1)&&decide (x.1≤9223372036854775807)then some (ints (Lib.itoa x.1),(),(),())else none
def hexDigit (n:Nat):Int:=bif Nat.blt n 10 then((48+n:Nat):Int)else((87+n:Nat):Int)
def pK:Nat→Nat→List Int→List Int
 |0,_,acc=>acc
 |k+1,n,acc=>let d:=hexDigit (n % 16);bif Nat.blt n 16 then d::acc else pK k (n/16) (d::acc)
def s7:List (List Int)→List Int→List Int
 |[],_=>[]
 |[x],_=>x
 |x::y::r,s=>x++(s++s7 (y::r) s)
def s9 (x:List (List Int)×List Int×Unit):Option (List Int×Unit×Unit×Unit):=
 bif fits x.1.length&&fits (s7 x.1 x.2.1).length then some (s7 x.1 x.2.1,(),(),())else none
def Gl (l:List Int):Nat→List Int
 |0=>[]
 |n+1=>l++Gl l n
def pM (x:List Int×Int×Unit):Option (List Int×Unit×Unit×Unit):=
 bif decide (0≤x.2.1)&&decide (x.2.1≤9223372036854775807)&&fits (x.1.length*x.2.1.toNat)then some (Gl x.1 x.2.1.toNat,(),(),())else none
def Mp:List Cell:=Lib.pow10Tab.map fun z=> .v (.int .u64) z
def tables (k:Nat):Option (List Cell):=bif Nat.beq k 4 then some Mp else bif Nat.beq k 6 then some [.err false]else none
theorem xz (s:ByteArray):u8s (bytesOf s)=s.data.toList:=by
 unfold u8s bytesOf;rw[List.map_map]
 have:((fun c:Int=>c.toNat.toUInt8) ∘ fun b:UInt8=>(b.toNat:Int))=id:=by
  funext b
  simp
 rw[this,List.map_id]
end Go.Abs.Lx
end

section
namespace Go.Abs.Lx
def deB:List Cell:=Lib.deBruijn64tab.map fun n:Nat=> .v (.int .u8) (n:Int)
def yJ (k:Nat):Option (List Cell):=bif Nat.beq k 8 then some deB else tables k
def jw (x:List Int×Int×Int×Bool×Bool×Unit):Option ((List Int×List Int×Unit)×Unit×Unit×Unit×Unit×Unit×Unit):=
 bif decide (x.2.2.1=16)&&(!x.2.2.2.1)&&(!x.2.2.2.2.1)&&x.1.isEmpty&&decide (9223372036854775808≤x.2.1)&&decide (x.2.1≤18446744073709551615)then some (([],pK 16 x.2.1.toNat [],()),(),(),(),(),(),())else none
end Go.Abs.Lx
end

section
set_option maxRecDepth 100000
namespace Go.Abs.D
open Go.Proofs
abbrev aw:Ty:=(.pr (.int .i64) (.pr (.int .i64) (.pr (.int .i64) (.pr (.int .i64) (.pr (.int .i64) (.pr .str .un))))))
abbrev aa:Ty:=(.pr (.int .i64) (.pr (.int .i64) (.pr (.int .i64) (.pr (.int .i64) (.pr (.int .i64) (.pr (.int .i64) (.pr .str (.pr (.sl .str) (.pr (.sl (.int .i64)) .un)))))))))
abbrev vs0:VSp:= .one (.ptr true (76,[]) (.pr (.cf (.int .i64)) (.pr (.cf (.int .i64)) (.pr (.cf (.int .i64)) (.pr (.cf (.int .i64)) (.pr (.cf (.int .i64)) (.pr (.cf .str) .un)))))))
abbrev vs1:VSp:= .one (.cf (.int .i64))
abbrev vs2:VSp:= .one (.ptr true (51,[]) (.pr (.cf (.int .i64)) (.pr (.cf (.int .i64)) (.pr (.cf (.int .i64)) (.pr (.cf (.int .i64)) (.pr (.cf (.int .i64)) (.pr (.cf (.int .i64)) (.pr (.cf .str) (.pr (.cf (.sl .str)) (.pr (.cf (.sl (.int .i64))) .un))))))))))
abbrev vs3:VSp:= .agg (.pr (.cf (.int .i64)) (.pr (.cf (.int .i64)) (.pr (.cf (.int .i64)) (.pr (.cf (.int .i64)) (.pr (.cf (.int .i64)) (.pr (.cf (.int .i64)) (.pr (.cf .str) (.pr (.cf (.sl .str)) (.pr (.cf (.sl (.int .i64))) .un)))))))))
abbrev vs4:VSp:= .one (.ptr true (47,[]) (.pr (.pr (.cf (.sl aa)) .un) (.pr (.own (.int .u8) true) (.pr (.cf (.int .i64)) .un))))
abbrev vs5:VSp:= .one (.ptr true (42,[]) (.pr (.cf (.int .i64)) (.pr (.cf (.int .i64)) .un)))
abbrev vs6:VSp:= .one (.ptr true (61,[]) (.pr (.pr (.cf (.sl aa)) .un) (.pr .nR .un)))
abbrev vs7:VSp:= .one (.cf .bool)
abbrev vs8:VSp:= .one (.ptr true (29,[]) (.pr (.cf (.sl aa)) .un))
abbrev vs9:VSp:= .agg (.pr (.cf (.int .i64)) (.pr (.cf (.int .i64)) (.pr (.cf (.int .i64)) (.pr (.cf (.int .i64)) (.pr (.cf (.int .i64)) (.pr (.cf .str) .un))))))
abbrev bn:VSp:= .one (.cf .str)
abbrev mZ:VSp:= .one (.ptr true (3,[]) (.cf (.int .i64)))
abbrev kJ:VSp:= .one (.cf (.sl (.int .i64)))
abbrev o6:VSp:= .one (.own (.int .i64) true)
abbrev ta:VSp:= .agg (.pr (.cf (.sl aa)) .un)
abbrev nJ:VSp:= .one (.cf (.int .u64))
abbrev A3:VSp:= .one (.ptr true (2,[]) (.cf (.int .i64)))
abbrev Fe:VSp:= .one (.ptr true (49,[]) (.own (.int .i64) true))
abbrev wF:VSp:= .one (.own (.int .u8) true)
abbrev Gi:VSp:= .one (.ptr true (49,[]) (.cf (.sl (.int .i64))))
abbrev wI:VSp:= .one (.cf (.sl aa))
abbrev DN:VSp:= .one (.ptr true (9,[]) (.cf .str))
abbrev xu:VSp:= .one (.cf (.sl .str))
abbrev xw:VSp:= .one (.cf (.int .u8))
abbrev BK:VSp:= .one (.own .str true)
abbrev PX:VSp:= .agg (.pr (.cf (.int .i64)) (.pr (.cf (.int .i64)) .un))
abbrev LW:VSp:= .one (.cf (.int .i32))
abbrev N9:VSp:= .one (.cf (.sl (.int .u8)))
abbrev NW:VSp:= .one (.own aa true)
abbrev Gj:VSp:= .one .err
def sig (f:Nat):Sig:=
 bif Nat.beq f 87 then⟨[xu,vs1], .val vs1⟩else
 bif Nat.beq f 88 then⟨[kJ,vs1], .val vs1⟩else
 bif Nat.beq f 46 then⟨[vs3,vs1], .val vs1⟩else
 bif Nat.beq f 21 then⟨[wI,vs1], .val vs1⟩else
 bif Nat.beq f 7 then⟨[ta,vs1], .val vs1⟩else
 bif Nat.beq f 100 then⟨[xu], .val BK⟩else
 bif Nat.beq f 101 then⟨[kJ], .val o6⟩else
 bif Nat.beq f 55 then⟨[vs3], .val (.agg (.pr (.cf (.int .i64)) (.pr (.cf (.int .i64)) (.pr (.cf (.int .i64)) (.pr (.cf (.int .i64)) (.pr (.cf (.int .i64)) (.pr (.cf (.int .i64)) (.pr (.cf .str) (.pr (.own .str true) (.pr (.own (.int .i64) true) .un))))))))))⟩else
 bif Nat.beq f 25 then⟨[wI], .val NW⟩else
 bif Nat.beq f 9 then⟨[ta], .val (.agg (.pr (.own aa true) .un))⟩else
 bif Nat.beq f 89 then⟨[vs1], .val vs7⟩else
 bif Nat.beq f 157 then⟨[ta,vs3,vs1], .val vs1⟩else
 bif Nat.beq f 158 then⟨[vs3,vs7,vs7,vs7,vs7], .val vs7⟩else
 bif Nat.beq f 185 then⟨[xw], .val vs7⟩else
 bif Nat.beq f 184 then⟨[bn,vs1], .val xw⟩else
 bif Nat.beq f 187 then⟨[xw], .val vs7⟩else
 bif Nat.beq f 166 then⟨[], .val BK⟩else
 bif Nat.beq f 186 then⟨[bn,vs9], .vi [vs9,vs1]⟩else
 bif Nat.beq f 228 then⟨[xw], .val vs1⟩else
 bif Nat.beq f 227 then⟨[bn,vs9], .vi [vs9,vs1]⟩else
 bif Nat.beq f 188 then⟨[bn,vs9], .vi [vs9,vs1]⟩else
 bif Nat.beq f 189 then⟨[bn,vs9], .vi [vs9,vs1]⟩else
 bif Nat.beq f 167 then⟨[], .val BK⟩else
 bif Nat.beq f 168 then⟨[bn], .val vs1⟩else
 bif Nat.beq f 115 then⟨[bn,vs1], .vi [vs9,vs1]⟩else
 bif Nat.beq f 163 then⟨[bn], .val vs7⟩else
 bif Nat.beq f 159 then⟨[vs3,vs1,vs1], .val vs7⟩else
 bif Nat.beq f 221 then⟨[vs1], .val vs7⟩else
 bif Nat.beq f 160 then⟨[ta,vs3,vs1,vs1], .val vs7⟩else
 bif Nat.beq f 161 then⟨[vs1], .val vs7⟩else
 bif Nat.beq f 90 then⟨[ta,vs3], .val vs7⟩else
 bif Nat.beq f 162 then⟨[bn], .val vs7⟩else
 bif Nat.beq f 91 then⟨[ta,vs3], .val vs7⟩else
 bif Nat.beq f 47 then⟨[ta,vs1], .val vs7⟩else
 bif Nat.beq f 48 then⟨[ta], .val o6⟩else
 bif Nat.beq f 22 then⟨[ta], .val PX⟩else
 bif Nat.beq f 24 then⟨[vs4,bn], .none⟩else
 bif Nat.beq f 92 then⟨[vs4], .none⟩else
 bif Nat.beq f 49 then⟨[vs4,vs1], .none⟩else
 bif Nat.beq f 50 then⟨[vs4,xu], .none⟩else
 bif Nat.beq f 164 then⟨[vs1], .vi [vs1,vs1]⟩else
 bif Nat.beq f 93 then⟨[vs3], .val vs1⟩else
 bif Nat.beq f 165 then⟨[vs3], .val vs1⟩else
 bif Nat.beq f 94 then⟨[vs4,vs3,bn,vs1], .none⟩else
 bif Nat.beq f 95 then⟨[vs1], .val bn⟩else
 bif Nat.beq f 96 then⟨[vs4,vs3], .none⟩else
 bif Nat.beq f 169 then⟨[vs1], .val vs7⟩else
 bif Nat.beq f 97 then⟨[vs4,vs1], .none⟩else
 bif Nat.beq f 98 then⟨[vs4,vs3], .none⟩else
 bif Nat.beq f 53 then⟨[vs4,vs1], .none⟩else
 bif Nat.beq f 41 then⟨[vs1], .val bn⟩else
 bif Nat.beq f 170 then⟨[vs1], .val bn⟩else
 bif Nat.beq f 153 then⟨[bn], .val bn⟩else
 bif Nat.beq f 99 then⟨[vs4,vs3], .none⟩else
 bif Nat.beq f 52 then⟨[vs4,vs1,vs1], .none⟩else
 bif Nat.beq f 51 then⟨[vs4,kJ], .none⟩else
 bif Nat.beq f 54 then⟨[vs4,vs3,bn], .none⟩else
 bif Nat.beq f 23 then⟨[vs4,vs1], .none⟩else
 bif Nat.beq f 8 then⟨[ta], .val bn⟩else
 bif Nat.beq f 171 then⟨[vs1,vs1,vs1], .val vs7⟩else
 bif Nat.beq f 124 then⟨[xw], .val vs7⟩else
 bif Nat.beq f 125 then⟨[xw], .val vs7⟩else
 bif Nat.beq f 126 then⟨[bn], .val vs1⟩else
 bif Nat.beq f 129 then⟨[xw], .val vs7⟩else
 bif Nat.beq f 236 then⟨[xw], .val xw⟩else
 bif Nat.beq f 237 then⟨[bn], .val vs7⟩else
 bif Nat.beq f 211 then⟨[bn,vs1,vs1], .vi [nJ,Gj]⟩else
 bif Nat.beq f 130 then⟨[bn,vs1,vs1], .vi [nJ,Gj]⟩else
 bif Nat.beq f 127 then⟨[bn,vs1], .vi [vs9,vs7]⟩else
 bif Nat.beq f 210 then⟨[bn,xw], .val vs1⟩else
 bif Nat.beq f 128 then⟨[bn,xw], .val vs1⟩else
 bif Nat.beq f 107 then⟨[vs1], .val bn⟩else
 bif Nat.beq f 208 then⟨[bn,bn], .val vs7⟩else
 bif Nat.beq f 123 then⟨[bn,bn], .val vs7⟩else
 bif Nat.beq f 71 then⟨[bn,vs1], .vi [vs9,vs7]⟩else
 bif Nat.beq f 222 then⟨[bn,vs1], .val vs7⟩else
 bif Nat.beq f 172 then⟨[bn], .val vs7⟩else
 bif Nat.beq f 177 then⟨[vs1], .val vs7⟩else
 bif Nat.beq f 175 then⟨[vs7,vs7,vs7,vs7,mZ,mZ,A3,DN], .val vs7⟩else
 bif Nat.beq f 174 then⟨[vs1], .val vs7⟩else
 bif Nat.beq f 173 then⟨[vs1,vs1,Gi], .val vs7⟩else
 bif Nat.beq f 178 then⟨[bn], .val vs7⟩else
 bif Nat.beq f 176 then⟨[mZ,Gi], .val vs7⟩else
 bif Nat.beq f 102 then⟨[ta,vs1], .val vs7⟩else
 bif Nat.beq f 56 then⟨[ta], .val PX⟩else
 bif Nat.beq f 26 then⟨[ta], .val vs7⟩else
 bif Nat.beq f 28 then⟨[vs6,bn], .none⟩else
 bif Nat.beq f 58 then⟨[vs6,vs1,vs1], .none⟩else
 bif Nat.beq f 226 then⟨[nJ,vs1], .val bn⟩else
 bif Nat.beq f 181 then⟨[nJ,vs1], .val bn⟩else
 bif Nat.beq f 81 then⟨[bn], .val bn⟩else
 bif Nat.beq f 105 then⟨[vs9], .val bn⟩else
 bif Nat.beq f 182 then⟨[vs1], .val vs1⟩else
 bif Nat.beq f 106 then⟨[vs6,vs1], .val vs1⟩else
 bif Nat.beq f 108 then⟨[vs6,vs1,vs1,vs7], .none⟩else
 bif Nat.beq f 109 then⟨[vs6,vs1,vs1], .none⟩else
 bif Nat.beq f 61 then⟨[vs6,vs1,vs1], .none⟩else
 bif Nat.beq f 60 then⟨[vs6,vs1,vs1], .none⟩else
 bif Nat.beq f 59 then⟨[vs6,kJ,vs1], .none⟩else
 bif Nat.beq f 62 then⟨[vs6,vs3,vs1], .none⟩else
 bif Nat.beq f 27 then⟨[vs6,vs1,vs1], .none⟩else
 bif Nat.beq f 10 then⟨[ta], .val bn⟩else
 bif Nat.beq f 111 then⟨[xu,xu], .val vs7⟩else
 bif Nat.beq f 112 then⟨[kJ,kJ], .val vs7⟩else
 bif Nat.beq f 64 then⟨[vs3,vs3], .val vs7⟩else
 bif Nat.beq f 31 then⟨[wI,wI], .val vs7⟩else
 bif Nat.beq f 11 then⟨[ta,ta], .val vs7⟩else
 bif Nat.beq f 3 then⟨[ta], .val vs7⟩else
 ⟨[], .none⟩
def fns:List Nat:=[87,88,46,21,7,100,101,55,25,9,89,157,158,185,184,187,166,186,228,227,188,189,167,168,115,163,159,221,160,161,90,162,91,47,48,22,24,92,49,50,164,93,165,94,95,96,169,97,98,53,41,170,153,99,52,51,54,23,8,171,124,125,126,129,236,237,211,130,127,210,128,107,208,123,71,222,172,177,175,174,173,178,176,102,56,26,28,58,226,181,81,105,182,106,108,109,61,60,59,62,27,10,111,112,64,31,11,3]
def known (f:Nat):Bool:=fns.any (Nat.beq f)
def jF (f:Nat):List Nat:=
 bif Nat.beq f 24 then [0]else
 bif Nat.beq f 92 then [0]else
 bif Nat.beq f 49 then [0]else
 bif Nat.beq f 50 then [0]else
 bif Nat.beq f 94 then [0]else
 bif Nat.beq f 96 then [0]else
 bif Nat.beq f 97 then [0]else
 bif Nat.beq f 98 then [0]else
 bif Nat.beq f 53 then [0]else
 bif Nat.beq f 99 then [0]else
 bif Nat.beq f 52 then [0]else
 bif Nat.beq f 51 then [0]else
 bif Nat.beq f 54 then [0]else
 bif Nat.beq f 23 then [0]else
 bif Nat.beq f 175 then [4,5,6,7]else
 bif Nat.beq f 173 then [2]else
 bif Nat.beq f 176 then [0,1]else
 bif Nat.beq f 28 then [0]else
 bif Nat.beq f 58 then [0]else
 bif Nat.beq f 106 then [0]else
 bif Nat.beq f 108 then [0]else
 bif Nat.beq f 109 then [0]else
 bif Nat.beq f 61 then [0]else
 bif Nat.beq f 60 then [0]else
 bif Nat.beq f 59 then [0]else
 bif Nat.beq f 62 then [0]else
 bif Nat.beq f 27 then [0]else
 []
def kk (f:Nat)(k:Bool)(r a:Nat)(b:Bool)(c:Nat):Bool:=Nat.beq f a&&k==b&&Nat.beq r c
def kT (f:Nat)(k:Bool)(r:Nat):Bool:=kk f k r 8 true 6||kk f k r 10 true 5||kk f k r 21 true 5||kk f k r 22 true 4||kk f k r 22 true 11||kk f k r 22 true 20||kk f k r 22 true 23||kk f k r 22 true 28||kk f k r 23 false 31||kk f k r 25 true 3||kk f k r 31 true 4||kk f k r 41 true 5||kk f k r 41 false 14||kk f k r 41 true 15||kk f k r 47 true 5||kk f k r 48 true 3||kk f k r 48 true 8||kk f k r 49 true 6||kk f k r 50 true 1||kk f k r 51 true 1||kk f k r 56 true 5||kk f k r 56 true 12||kk f k r 56 true 16||kk f k r 56 true 27||kk f k r 56 true 30||kk f k r 56 true 35||kk f k r 58 true 5||kk f k r 59 true 1||kk f k r 60 false 15||kk f k r 60 false 21||kk f k r 60 false 26||kk f k r 60 false 43||kk f k r 71 true 5||kk f k r 71 true 18||kk f k r 71 true 39||kk f k r 71 true 49||kk f k r 81 true 6||kk f k r 87 true 5||kk f k r 90 true 5||kk f k r 90 true 21||kk f k r 90 false 28||kk f k r 90 false 41||kk f k r 90 false 46||kk f k r 91 false 7||kk f k r 91 false 18||kk f k r 91 true 31||kk f k r 91 false 46||kk f k r 92 true 2||kk f k r 95 true 7||kk f k r 96 false 12||kk f k r 98 true 3||kk f k r 98 false 7||kk f k r 100 true 3||kk f k r 101 true 3||kk f k r 102 true 6||kk f k r 102 true 13||kk f k r 102 true 26||kk f k r 102 true 42||kk f k r 102 false 50||kk f k r 102 false 65||kk f k r 102 false 72||kk f k r 102 false 84||kk f k r 102 true 97||kk f k r 109 false 7||kk f k r 111 true 4||kk f k r 112 true 4||kk f k r 115 true 14||kk f k r 126 true 2||kk f k r 127 true 5||kk f k r 127 true 15||kk f k r 127 false 17||kk f k r 127 true 20||kk f k r 127 false 22||kk f k r 127 false 26||kk f k r 127 true 29||kk f k r 127 false 31||kk f k r 153 true 4||kk f k r 159 true 4||kk f k r 160 true 2||kk f k r 164 false 13||kk f k r 168 true 3||kk f k r 168 true 9||kk f k r 170 true 6||kk f k r 173 true 2||kk f k r 182 false 20||kk f k r 186 true 2||kk f k r 186 true 8||kk f k r 188 true 7||kk f k r 188 false 9||kk f k r 188 true 12||kk f k r 188 false 14||kk f k r 188 true 21||kk f k r 188 false 23||kk f k r 188 true 26||kk f k r 189 true 4||kk f k r 189 false 24||kk f k r 189 true 27||kk f k r 211 false 21||kk f k r 211 false 25||kk f k r 211 false 32||kk f k r 211 true 36||kk f k r 211 false 46||kk f k r 227 true 3||kk f k r 237 false 5||kk f k r 237 false 10||kk f k r 237 true 10
def cut (f:Nat)(k:Bool)(r:Nat):Cut:=
 bif kk f k r 8 true 6 then⟨[4,23,24,25],[vs4,kJ,vs1,vs1],[⟨.exit 0,[4],[vs4],[]⟩],[]⟩else
 bif kk f k r 10 true 5 then⟨[3,20,21,22],[vs6,kJ,vs1,vs1],[⟨.exit 0,[3],[vs6],[]⟩],[]⟩else
 bif kk f k r 21 true 5 then⟨[0,1,5],[wI,vs1,vs1],[⟨.ret,[4],[vs1],[]⟩,⟨.exit 0,[1],[vs1],[]⟩],[]⟩else
 bif kk f k r 22 true 4 then⟨[1,2,38,39],[vs8,vs5,vs1,vs1],[⟨.ret,[2],[vs5],[]⟩,⟨.exit 0,[1,2],[vs8,vs5],[]⟩],[]⟩else
 bif kk f k r 22 true 11 then⟨[1,2,4,51,52,53],[vs8,vs5,kJ,kJ,vs1,vs1],[⟨.ret,[2],[vs5],[]⟩,⟨.exit 2,[1,2,4],[vs8,vs5,kJ],[]⟩],[]⟩else
 bif kk f k r 22 true 20 then⟨[1,2,7,8],[vs8,vs5,o6,vs1],[⟨.exit 4,[2,7],[vs5,o6],[]⟩],[]⟩else
 bif kk f k r 22 true 23 then⟨[1,2,7,8,93,94,95],[vs8,vs5,o6,vs1,kJ,vs1,vs1],[⟨.exit 6,[1,2,7,8],[vs8,vs5,o6,vs1],[]⟩],[]⟩else
 bif kk f k r 22 true 28 then⟨[2,108,109,110],[vs5,o6,vs1,vs1],[⟨.ret,[2],[vs5],[]⟩,⟨.exit 8,[2],[vs5],[]⟩],[]⟩else
 bif kk f k r 23 false 31 then⟨[0,4,15,119],[vs4,vs2,vs1,vs7],[⟨.normal,[0],[vs4],[]⟩],[]⟩else
 bif kk f k r 25 true 3 then⟨[0,3,4],[wI,NW,vs1],[⟨.exit 0,[3],[NW],[]⟩],[]⟩else
 bif kk f k r 31 true 4 then⟨[0,1,5],[wI,wI,vs1],[⟨.ret,[4],[vs7],[]⟩,⟨.exit 0,[],[],[]⟩],[]⟩else
 bif kk f k r 41 true 5 then⟨[0,3,4],[vs1,vs7,wF],[⟨.exit 0,[3,4],[vs7,wF],[]⟩],[]⟩else
 bif kk f k r 41 false 14 then⟨[4,6],[wF,bn],[⟨.ret,[2],[bn],[]⟩],[]⟩else
 bif kk f k r 41 true 15 then⟨[4,6,7],[wF,bn,vs1],[⟨.exit 2,[6],[bn],[]⟩],[]⟩else
 bif kk f k r 47 true 5 then⟨[1,2,5,35,36,37],[vs1,vs8,vs2,kJ,vs1,vs1],[⟨.ret,[4],[vs7],[]⟩,⟨.exit 0,[2,5],[vs8,vs2],[]⟩],[]⟩else
 bif kk f k r 48 true 3 then⟨[3,15,16,17],[o6,wI,vs1,vs1],[⟨.exit 0,[3],[o6],[]⟩],[]⟩else
 bif kk f k r 48 true 8 then⟨[3,4,5,6,7,8,15,16,17],[o6,vs1,vs2,vs1,vs7,vs1,wI,vs1,vs1],[⟨.exit 2,[3,4,6,7,15,16,17],[o6,vs1,vs1,vs7,wI,vs1,vs1],[]⟩],[]⟩else
 bif kk f k r 49 true 6 then⟨[0,30,31,32],[vs4,kJ,vs1,vs1],[⟨.exit 0,[0],[vs4],[]⟩],[]⟩else
 bif kk f k r 50 true 1 then⟨[0,6,7,8],[vs4,xu,vs1,vs1],[⟨.exit 0,[0],[vs4],[]⟩],[]⟩else
 bif kk f k r 51 true 1 then⟨[0,6,7,8],[vs4,kJ,vs1,vs1],[⟨.exit 0,[0],[vs4],[]⟩],[]⟩else
 bif kk f k r 56 true 5 then⟨[1,2,3,37,38],[vs8,vs5,vs1,vs1,vs1],[⟨.ret,[2],[vs5],[]⟩,⟨.exit 0,[1,2,3],[vs8,vs5,vs1],[]⟩],[]⟩else
 bif kk f k r 56 true 12 then⟨[1,2,3,5,51,52,53],[vs8,vs5,vs1,o6,wI,vs1,vs1],[⟨.ret,[2],[vs5],[]⟩,⟨.exit 2,[1,2,3],[vs8,vs5,vs1],[]⟩],[]⟩else
 bif kk f k r 56 true 16 then⟨[1,2,3,5,6,7,8,9,51,52,53],[vs8,vs5,vs1,o6,vs1,vs2,vs1,vs1,wI,vs1,vs1],[⟨.ret,[2],[vs5],[]⟩,⟨.exit 4,[1,2,3,5,6,8,51,52,53],[vs8,vs5,vs1,o6,vs1,vs1,wI,vs1,vs1],[]⟩],[]⟩else
 bif kk f k r 56 true 27 then⟨[1,2,10,11],[vs8,vs5,o6,vs1],[⟨.exit 6,[2,10],[vs5,o6],[]⟩],[]⟩else
 bif kk f k r 56 true 30 then⟨[1,2,10,11,113,114,115],[vs8,vs5,o6,vs1,kJ,vs1,vs1],[⟨.exit 8,[1,2,10,11],[vs8,vs5,o6,vs1],[]⟩],[]⟩else
 bif kk f k r 56 true 35 then⟨[2,10,129,130],[vs5,o6,vs1,vs1],[⟨.ret,[2],[vs5],[]⟩,⟨.exit 10,[2],[vs5],[]⟩],[]⟩else
 bif kk f k r 58 true 5 then⟨[0,2,25,26,27],[vs6,vs1,kJ,vs1,vs1],[⟨.exit 0,[0,2],[vs6,vs1],[]⟩],[]⟩else
 bif kk f k r 59 true 1 then⟨[0,2,8,9,10],[vs6,vs1,kJ,vs1,vs1],[⟨.exit 0,[0],[vs6],[]⟩],[]⟩else
 bif kk f k r 60 false 15 then⟨[0,1,2,6,7,25,50],[vs6,vs1,vs1,vs2,kJ,vs1,vs7],[⟨.normal,[0],[vs6],[]⟩],[]⟩else
 bif kk f k r 60 false 21 then⟨[0,1,2,6,7,25,64],[vs6,vs1,vs1,vs2,kJ,vs1,vs7],[⟨.normal,[0],[vs6],[]⟩],[]⟩else
 bif kk f k r 60 false 26 then⟨[0,2,7,8,9,10],[vs6,vs1,kJ,vs1,vs7,bn],[⟨.normal,[0],[vs6],[]⟩],[]⟩else
 bif kk f k r 60 false 43 then⟨[0,2,7],[vs6,vs1,kJ],[⟨.normal,[0],[vs6],[]⟩],[]⟩else
 bif kk f k r 71 true 5 then⟨[0,1,4,7],[bn,vs1,vs0,vs1],[⟨.exit 1,[0,1,4,7],[bn,vs1,vs0,vs1],[]⟩],[]⟩else
 bif kk f k r 71 true 18 then⟨[0,4,8,9],[bn,vs0,wF,vs1],[⟨.ret,[4,5],[vs0,vs7],[]⟩],[]⟩else
 bif kk f k r 71 true 39 then⟨[0,4,8,9,11],[bn,vs0,wF,vs1,vs1],[⟨.ret,[4,5],[vs0,vs7],[]⟩,⟨.exit 5,[0,4,8,9],[bn,vs0,wF,vs1],[]⟩],[]⟩else
 bif kk f k r 71 true 49 then⟨[0,1,4,14,15],[bn,vs1,vs0,vs1,vs1],[⟨.exit 7,[1,4],[vs1,vs0],[]⟩],[]⟩else
 bif kk f k r 81 true 6 then⟨[0,3,4],[bn, .one (.ptr true (59,[]) .nR),vs1],[⟨.exit 0,[3],[.one (.ptr true (59,[]) .nR)],[]⟩],[]⟩else
 bif kk f k r 87 true 5 then⟨[0,1,5],[xu,vs1,vs1],[⟨.ret,[4],[vs1],[]⟩,⟨.exit 0,[1],[vs1],[]⟩],[]⟩else
 bif kk f k r 90 true 5 then⟨[2,3,17,18],[vs8,vs2,vs1,vs1],[⟨.ret,[4],[vs7],[]⟩,⟨.exit 1,[3],[vs2],[]⟩],[]⟩else
 bif kk f k r 90 true 21 then⟨[2,3,5,7],[vs8,vs2,vs1,vs1],[⟨.ret,[4],[vs7],[]⟩,⟨.exit 3,[2,3,5],[vs8,vs2,vs1],[]⟩],[]⟩else
 bif kk f k r 90 false 28 then⟨[2,3,5,12,113],[vs8,vs2,vs1,vs1,vs7],[⟨.ret,[4],[vs7],[]⟩,⟨.normal,[2,3,5],[vs8,vs2,vs1],[]⟩],[]⟩else
 bif kk f k r 90 false 41 then⟨[2,3,5,12,240],[vs8,vs2,vs1,vs1,vs7],[⟨.ret,[4],[vs7],[]⟩,⟨.normal,[2,3,5],[vs8,vs2,vs1],[]⟩],[]⟩else
 bif kk f k r 90 false 46 then⟨[2,3,5],[vs8,vs2,vs1],[⟨.ret,[4],[vs7],[]⟩],[]⟩else
 bif kk f k r 91 false 7 then⟨[2,3,5,12,13],[vs8,vs2,vs1,vs1,vs7],[⟨.ret,[4],[vs7],[]⟩,⟨.normal,[2,3,5],[vs8,vs2,vs1],[]⟩],[]⟩else
 bif kk f k r 91 false 18 then⟨[2,3,5,12,72],[vs8,vs2,vs1,vs1,vs7],[⟨.ret,[4],[vs7],[]⟩,⟨.normal,[2,3,5],[vs8,vs2,vs1],[]⟩],[]⟩else
 bif kk f k r 91 true 31 then⟨[2,3,199,200],[vs8,vs2,vs1,vs1],[⟨.ret,[4],[vs7],[]⟩,⟨.exit 1,[3],[vs2],[]⟩],[]⟩else
 bif kk f k r 91 false 46 then⟨[2,3,5],[vs8,vs2,vs1],[⟨.ret,[4],[vs7],[]⟩],[]⟩else
 bif kk f k r 92 true 2 then⟨[0,2],[vs4,vs1],[⟨.exit 0,[0],[vs4],[]⟩],[]⟩else
 bif kk f k r 95 true 7 then⟨[0,23,24,25],[vs1,BK,vs1,vs1],[⟨.ret,[2],[bn],[]⟩,⟨.exit 0,[],[],[]⟩],[]⟩else
 bif kk f k r 96 false 12 then⟨[0,3],[vs4,vs2],[⟨.normal,[0],[vs4],[]⟩],[]⟩else
 bif kk f k r 98 true 3 then⟨[0,10,11,12],[vs4,kJ,vs1,vs1],[⟨.exit 0,[0],[vs4],[]⟩],[]⟩else
 bif kk f k r 98 false 7 then⟨[0,5,10,11,12],[vs4,vs1,kJ,vs1,vs1],[⟨.normal,[0,10,11,12],[vs4,kJ,vs1,vs1],[]⟩],[]⟩else
 bif kk f k r 100 true 3 then⟨[0,3,4],[xu,BK,vs1],[⟨.exit 0,[3],[BK],[]⟩],[]⟩else
 bif kk f k r 101 true 3 then⟨[0,3,4],[kJ,o6,vs1],[⟨.exit 0,[3],[o6],[]⟩],[]⟩else
 bif kk f k r 102 true 6 then⟨[1,2,5,6,58,59,60],[vs1,vs8,vs2,Fe,kJ,vs1,vs1],[⟨.ret,[4],[vs7],[]⟩,⟨.exit 0,[5,6],[vs2,Fe],[]⟩],[]⟩else
 bif kk f k r 102 true 13 then⟨[5,6,80,81,82],[vs2,Fe,xu,vs1,vs1],[⟨.ret,[4],[vs7],[]⟩,⟨.exit 2,[5,6],[vs2,Fe],[]⟩],[]⟩else
 bif kk f k r 102 true 26 then⟨[11,12,13,14,108,109,110],[mZ,mZ,A3,DN,o6,vs1,vs1],[⟨.ret,[4],[vs7],[]⟩,⟨.exit 5,[11,12,13,14],[mZ,mZ,A3,DN],[(17,175,[11,12,13,14])]⟩],[(17,175,[11,12,13,14])]⟩else
 bif kk f k r 102 true 42 then⟨[6,13,16,184,185,186],[Gi,A3,mZ,kJ,vs1,vs1],[⟨.ret,[4],[vs7],[]⟩,⟨.exit 7,[6,13,16],[Gi,A3,mZ],[(15,173,[6])]⟩],[(15,173,[6])]⟩else
 bif kk f k r 102 false 50 then⟨[6,11,12,13,14,16,105,205],[Fe,mZ,mZ,A3,DN,mZ,vs1,vs7],[⟨.ret,[4],[vs7],[]⟩,⟨.normal,[],[],[]⟩],[(15,173,[6]),(17,175,[11,12,13,14]),(18,176,[16,6])]⟩else
 bif kk f k r 102 false 65 then⟨[6,11,12,13,14,16,105,328],[Fe,mZ,mZ,A3,DN,mZ,vs1,vs7],[⟨.ret,[4],[vs7],[]⟩,⟨.normal,[],[],[]⟩],[(15,173,[6]),(17,175,[11,12,13,14]),(18,176,[16,6])]⟩else
 bif kk f k r 102 false 72 then⟨[6,11,12,13,14,16,105,378],[Fe,mZ,mZ,A3,DN,mZ,vs1,vs7],[⟨.ret,[4],[vs7],[]⟩,⟨.normal,[],[],[]⟩],[(15,173,[6]),(17,175,[11,12,13,14]),(18,176,[16,6])]⟩else
 bif kk f k r 102 false 84 then⟨[6,11,12,13,14,16,105,436],[Fe,mZ,mZ,A3,DN,mZ,vs1,vs7],[⟨.ret,[4],[vs7],[]⟩,⟨.normal,[],[],[]⟩],[(15,173,[6]),(17,175,[11,12,13,14]),(18,176,[16,6])]⟩else
 bif kk f k r 102 true 97 then⟨[11,12,13,14,529,530,531],[mZ,mZ,A3,DN,o6,vs1,vs1],[⟨.ret,[4],[vs7],[]⟩,⟨.exit 9,[11,12,13,14],[mZ,mZ,A3,DN],[(17,175,[11,12,13,14])]⟩],[(17,175,[11,12,13,14])]⟩else
 bif kk f k r 109 false 7 then⟨[0,1,2,19],[vs6,vs1,vs1,vs7],[⟨.normal,[0],[vs6],[]⟩],[]⟩else
 bif kk f k r 111 true 4 then⟨[0,1,5],[xu,xu,vs1],[⟨.ret,[4],[vs7],[]⟩,⟨.exit 0,[],[],[]⟩],[]⟩else
 bif kk f k r 112 true 4 then⟨[0,1,5],[kJ,kJ,vs1],[⟨.ret,[4],[vs7],[]⟩,⟨.exit 0,[],[],[]⟩],[]⟩else
 bif kk f k r 115 true 14 then⟨[0,1,4,6,43,44,45],[bn,vs1,vs0,vs0,BK,vs1,vs1],[⟨.ret,[4,5],[vs0,vs1],[]⟩,⟨.exit 0,[1,4,6],[vs1,vs0,vs0],[]⟩],[]⟩else
 bif kk f k r 126 true 2 then⟨[0,5,6,7],[bn,xu,vs1,vs1],[⟨.ret,[2],[vs1],[]⟩,⟨.exit 0,[],[],[]⟩],[]⟩else
 bif kk f k r 127 true 5 then⟨[0,1,4,6],[bn,vs1,vs0,vs1],[⟨.exit 0,[0,1,4,6],[bn,vs1,vs0,vs1],[]⟩],[]⟩else
 bif kk f k r 127 true 15 then⟨[0,1,4,6],[bn,vs1,vs0,vs1],[⟨.exit 2,[0,1,4,6],[bn,vs1,vs0,vs1],[]⟩],[]⟩else
 bif kk f k r 127 false 17 then⟨[0,1,4,6],[bn,vs1,vs0,vs1],[⟨.ret,[4,5],[vs0,vs7],[]⟩],[]⟩else
 bif kk f k r 127 true 20 then⟨[0,1,4,6,9],[bn,vs1,vs0,vs1,vs1],[⟨.exit 4,[0,1,4,6,9],[bn,vs1,vs0,vs1,vs1],[]⟩],[]⟩else
 bif kk f k r 127 false 22 then⟨[0,1,4,6,9],[bn,vs1,vs0,vs1,vs1],[⟨.ret,[4,5],[vs0,vs7],[]⟩],[]⟩else
 bif kk f k r 127 false 26 then⟨[0,1,4,6,9],[bn,vs1,vs0,vs1,vs1],[⟨.ret,[4,5],[vs0,vs7],[]⟩,⟨.normal,[0,1,4,6,9],[bn,vs1,vs0,vs1,vs1],[]⟩],[]⟩else
 bif kk f k r 127 true 29 then⟨[0,1,4,6,9],[bn,vs1,vs0,vs1,vs1],[⟨.exit 6,[0,1,4,6,9],[bn,vs1,vs0,vs1,vs1],[]⟩],[]⟩else
 bif kk f k r 127 false 31 then⟨[0,1,4,6,9],[bn,vs1,vs0,vs1,vs1],[⟨.ret,[4,5],[vs0,vs7],[]⟩],[]⟩else
 bif kk f k r 153 true 4 then⟨[0,3,4,5],[bn,bn,wF,vs1],[⟨.exit 0,[4],[wF],[]⟩],[]⟩else
 bif kk f k r 159 true 4 then⟨[22,23,24],[xu,vs1,vs1],[⟨.ret,[6],[vs7],[]⟩,⟨.exit 0,[],[],[]⟩],[]⟩else
 bif kk f k r 160 true 2 then⟨[3,4,5,9],[vs1,vs8,vs2,vs1],[⟨.ret,[8],[vs7],[]⟩,⟨.exit 0,[],[],[]⟩],[]⟩else
 bif kk f k r 164 false 13 then⟨[10,11],[vs1,vs7],[⟨.ret,[2,3],[vs1,vs1],[]⟩,⟨.normal,[],[],[]⟩],[]⟩else
 bif kk f k r 168 true 3 then⟨[0,3,4],[bn,BK,vs1],[⟨.ret,[2],[vs1],[]⟩,⟨.exit 0,[0],[bn],[]⟩],[]⟩else
 bif kk f k r 168 true 9 then⟨[0,24,25,26],[bn,BK,vs1,vs1],[⟨.ret,[2],[vs1],[]⟩,⟨.exit 2,[],[],[]⟩],[]⟩else
 bif kk f k r 170 true 6 then⟨[0,3,4,5],[vs1,bn,bn,vs1],[⟨.exit 0,[4],[bn],[]⟩],[]⟩else
 bif kk f k r 173 true 2 then⟨[2,11,12,13],[Gi,kJ,vs1,vs1],[⟨.ret,[2,5],[Gi,vs7],[]⟩,⟨.exit 0,[2],[Gi],[]⟩],[]⟩else
 bif kk f k r 182 false 20 then⟨[14,23],[vs1,vs7],[⟨.ret,[2],[vs1],[]⟩,⟨.normal,[],[],[]⟩],[]⟩else
 bif kk f k r 186 true 2 then⟨[0,3,4,6],[bn,vs0,vs0,vs1],[⟨.exit 0,[0,3,4,6],[bn,vs0,vs0,vs1],[]⟩],[]⟩else
 bif kk f k r 186 true 8 then⟨[3,4,7,32,33,34],[vs0,vs0,bn,BK,vs1,vs1],[⟨.ret,[4,5],[vs0,vs1],[]⟩,⟨.exit 2,[3,4,7],[vs0,vs0,bn],[]⟩],[]⟩else
 bif kk f k r 188 true 7 then⟨[0,3,4,6],[bn,vs0,vs0,vs1],[⟨.exit 0,[0,3,4,6],[bn,vs0,vs0,vs1],[]⟩],[]⟩else
 bif kk f k r 188 false 9 then⟨[0,3,4,6],[bn,vs0,vs0,vs1],[⟨.ret,[4,5],[vs0,vs1],[]⟩],[]⟩else
 bif kk f k r 188 true 12 then⟨[0,3,4,6],[bn,vs0,vs0,vs1],[⟨.exit 2,[0,3,4,6],[bn,vs0,vs0,vs1],[]⟩],[]⟩else
 bif kk f k r 188 false 14 then⟨[0,3,4,6],[bn,vs0,vs0,vs1],[⟨.ret,[4,5],[vs0,vs1],[]⟩],[]⟩else
 bif kk f k r 188 true 21 then⟨[0,3,4,6],[bn,vs0,vs0,vs1],[⟨.exit 4,[0,3,4,6],[bn,vs0,vs0,vs1],[]⟩],[]⟩else
 bif kk f k r 188 false 23 then⟨[0,3,4,6],[bn,vs0,vs0,vs1],[⟨.ret,[4,5],[vs0,vs1],[]⟩],[]⟩else
 bif kk f k r 188 true 26 then⟨[0,3,4,6,7,8],[bn,vs0,vs0,vs1,nJ,vs1],[⟨.exit 6,[0,3,4,6,7],[bn,vs0,vs0,vs1,nJ],[]⟩],[]⟩else
 bif kk f k r 189 true 4 then⟨[0,3,4,6,7],[bn,vs0,vs0,vs1,wF],[⟨.ret,[4,5],[vs0,vs1],[]⟩,⟨.exit 0,[3,4,6],[vs0,vs0,vs1],[]⟩],[]⟩else
 bif kk f k r 189 false 24 then⟨[0,3,4,6,7,46,59],[bn,vs0,vs0,vs1,wF,xw,vs7],[⟨.normal,[0,3,4,6,7],[bn,vs0,vs0,vs1,wF],[]⟩,⟨.ret,[4,5],[vs0,vs1],[]⟩],[]⟩else
 bif kk f k r 189 true 27 then⟨[0,3,4,6,7,9],[bn,vs0,vs0,vs1,wF,vs1],[⟨.ret,[4,5],[vs0,vs1],[]⟩,⟨.exit 3,[0,3,4,6,7],[bn,vs0,vs0,vs1,wF],[]⟩],[]⟩else
 bif kk f k r 211 false 21 then⟨[0,1,2,8,9],[bn,vs1,vs1,vs7,bn],[⟨.ret,[6,7],[nJ,Gj],[]⟩],[]⟩else
 bif kk f k r 211 false 25 then⟨[0,1,2,8,9],[bn,vs1,vs1,vs7,bn],[⟨.ret,[6,7],[nJ,Gj],[]⟩],[]⟩else
 bif kk f k r 211 false 32 then⟨[0,1,2,8,9,10],[bn,vs1,vs1,vs7,bn,nJ],[⟨.ret,[6,7],[nJ,Gj],[]⟩],[]⟩else
 bif kk f k r 211 true 36 then⟨[1,8,9,10,11,12,13,99,100,101],[vs1,vs7,bn,nJ,nJ,vs7,nJ,N9,vs1,vs1],[⟨.ret,[6,7],[nJ,Gj],[]⟩,⟨.exit 3,[9,12,13],[bn,vs7,nJ],[]⟩],[]⟩else
 bif kk f k r 211 false 46 then⟨[1,8,9,10,11,12,13,16,99,100,101],[vs1,vs7,bn,nJ,nJ,vs7,nJ,xw,N9,vs1,vs1],[⟨.ret,[6,7],[nJ,Gj],[]⟩,⟨.normal,[1,8,9,10,11,12,13,99,100,101],[vs1,vs7,bn,nJ,nJ,vs7,nJ,N9,vs1,vs1],[]⟩],[]⟩else
 bif kk f k r 227 true 3 then⟨[0,3,4,6,7],[bn,vs0,vs0,vs1,nJ],[⟨.ret,[4,5],[vs0,vs1],[]⟩,⟨.exit 0,[3,4,6,7],[vs0,vs0,vs1,nJ],[]⟩],[]⟩else
 bif kk f k r 237 false 5 then⟨[0,3,4],[bn,LW,vs1],[⟨.ret,[2],[vs7],[]⟩],[]⟩else
 bif kk f k r 237 false 10 then⟨[0,3,4,5],[bn,LW,vs1,vs7],[⟨.ret,[2],[vs7],[]⟩],[]⟩else
 bif kk f k r 237 true 10 then⟨[0,3,4,5],[bn,LW,vs1,vs7],[⟨.ret,[2],[vs7],[]⟩,⟨.exit 0,[3],[LW],[]⟩],[]⟩else
 ⟨[],[],[],[]⟩
def lib (f:Nat):Option Callee:=
 bif Nat.beq f 155 then some ⟨⟨[.one (.ptr false (0,Bld.places) .nR), .one (.cf (.int .u8))], .val (.one .err)⟩,Bld.gT⟩else
 bif Nat.beq f 63 then some ⟨⟨[.one (.ptr false (0,Bld.places) .nR), .one (.cf .str)], .vi [.one (.cf (.int .i64)), .one .err]⟩,Bld.fJ⟩else
 bif Nat.beq f 29 then some ⟨⟨[.one (.ptr false (0,Bld.places) .nR)], .val (.one (.cf (.int .i64)))⟩,Bld.Ih⟩else
 bif Nat.beq f 30 then some ⟨⟨[.one (.vj Bld.places)], .val (.one (.cf .str))⟩,Bld.pP⟩else
 bif Nat.beq f 235 then some ⟨⟨[.one (.cf .str), .one (.cf (.int .u8))], .val (.one (.cf (.int .i64)))⟩,Bld.oN⟩else
 bif Nat.beq f 209 then some ⟨⟨[.one (.cf .str), .one (.cf (.int .i64)), .one (.cf (.int .i64))], .vi [.one (.cf (.int .i64)), .one .err]⟩,Lx.lZ⟩else
 bif Nat.beq f 80 then some ⟨⟨[.one (.cf (.int .i64)), .one (.cf (.int .i64))], .val (.one (.cf .str))⟩,Lx.kD⟩else
 bif Nat.beq f 57 then some ⟨⟨[.one (.cf (.sl .str)), .one (.cf .str)], .val (.one (.cf .str))⟩,Lx.s9⟩else
 bif Nat.beq f 104 then some ⟨⟨[.one (.cf .str), .one (.cf (.int .i64))], .val (.one (.cf .str))⟩,Lx.pM⟩else
 bif Nat.beq f 217 then some ⟨⟨[.one (.cf (.sl (.int .u8))), .one (.cf (.int .u64)), .one (.cf (.int .i64)), .one (.cf .bool), .one (.cf .bool)], .vi [.one (.cf (.sl (.int .u8))), .one (.cf .str)]⟩,Lx.jw⟩else
 none
noncomputable def S:Sys:={P:=Tryz.prog,cd:=fun k=>bif Nat.beq k 1 then some [.v (.sl .str) Lx.words]else bif Nat.beq k 2 then some [.v (.sl .str) Lx.jE]else bif Nat.beq k 3 then some [.v (.sl .str) Lx.ry]else Lx.yJ k,cl:=70,sig:=sig,known:=known,jF:=jF,kT:=kT,cut:=cut,lib:=lib}
variable(T:S.Tab)
theorem Nj:(fns.all S.Gk)=true:=by kernel_rfl
theorem eF {f:FuncId}{fn:Func}(h:S.P.funcs[f]?=some fn){T:S.Tab}{x:(S.sig f).dom.den}{y:Option (S.sig f).cod.den}(e:AZ (S.env T f fn.ntmps) fn (S.sig f) (S.wJ T f) x=y):(S.step T).fn f x=y:=(Sys.LC (S:=S) h T x).trans e
theorem eL {f:FuncId}{fn:Func}{c:Code}(h:S.P.funcs[f]?=some fn)(hb:fn.body=some c){T:S.Tab}{r:Nat}{x:(bO (S.cut f true r).as).den}{y:Option (kU (S.cut f true r).ws)}(e:(S.cut f true r).round (S.env T f fn.ntmps) (S.wJ T f) (iC true r (ba c)) (T.pc f true r) x=y):(S.step T).pc f true r x=y:=(Sys.Je (S:=S) h hb T x).trans e
theorem eJ {f:FuncId}{fn:Func}{c:Code}(h:S.P.funcs[f]?=some fn)(hb:fn.body=some c){T:S.Tab}{r:Nat}{x:(bO (S.cut f false r).as).den}{y:Option (kU (S.cut f false r).ws)}(e:(S.cut f false r).tail (S.env T f fn.ntmps) (S.wJ T f) (iC false r (ba c)) x=y):(S.step T).pc f false r x=y:=(Sys.Jp (S:=S) h hb T x).trans e
abbrev jL:Unit×Unit×Unit:=((),((),()))
def jv (t0:List LI)(t1:Int):Option (Int×Unit×Unit×Unit):=T.fn 87 (t0,t1,())
def cJ (t0:List LI)(t1:Int)(t5:Int):Option ((Int×Unit)⊕(Int×Unit)⊕Empty):=T.pc 87 true 5 (t0,t1,t5,())
abbrev qh:Unit×Unit×Unit:=((),((),()))
def pH (t0:LI)(t1:Int):Option (Int×Unit×Unit×Unit):=T.fn 88 (t0,t1,())
abbrev iV:(Unit×Unit×Unit×Unit×Unit×Unit×Unit×Unit×Unit×Unit)×Unit×Unit:=(((),((),((),((),((),((),((),((),((),()))))))))),((),()))
def pD (t0:aa.den)(t1:Int):Option (Int×(Unit×Unit×Unit×Unit×Unit×Unit×Unit×Unit×Unit×Unit)×Unit×Unit):=T.fn 46 (t0,t1,())
abbrev ll:Unit×Unit×Unit:=((),((),()))
def ny (t0:List aa.den)(t1:Int):Option (Int×Unit×Unit×Unit):=T.fn 21 (t0,t1,())
def dM (t0:List aa.den)(t1:Int)(t5:Int):Option ((Int×Unit)⊕(Int×Unit)⊕Empty):=T.pc 21 true 5 (t0,t1,t5,())
abbrev qe:(Unit×Unit)×Unit×Unit:=(((),()),((),()))
def sQ (t0:List aa.den×Unit)(t1:Int):Option (Int×(Unit×Unit)×Unit×Unit):=T.fn 7 (t0,t1,())
abbrev qD:Unit×Unit:=((),())
def lq (t0:List LI):Option (List LI×Unit×Unit):=T.fn 100 (t0,())
def gH (t0:List LI)(t3:List LI)(t4:Int):Option ((List LI×Unit)⊕Empty):=T.pc 100 true 3 (t0,t3,t4,())
abbrev tU:Unit×Unit:=((),())
def pB (t0:LI):Option (LI×Unit×Unit):=T.fn 101 (t0,())
def ju (t0:LI)(t3:LI)(t4:Int):Option ((LI×Unit)⊕Empty):=T.pc 101 true 3 (t0,t3,t4,())
abbrev tQ:(Unit×Unit×Unit×Unit×Unit×Unit×Unit×Unit×Unit×Unit)×Unit:=(((),((),((),((),((),((),((),((),((),()))))))))),())
def sW (t0:aa.den):Option (aa.den×(Unit×Unit×Unit×Unit×Unit×Unit×Unit×Unit×Unit×Unit)×Unit):=T.fn 55 (t0,())
abbrev sA:Unit×Unit:=((),())
def nB (t0:List aa.den):Option (List aa.den×Unit×Unit):=T.fn 25 (t0,())
def iG (t0:List aa.den)(t3:List aa.den)(t4:Int):Option ((List aa.den×Unit)⊕Empty):=T.pc 25 true 3 (t0,t3,t4,())
abbrev ui:(Unit×Unit)×Unit:=(((),()),())
def mF (t0:List aa.den×Unit):Option ((List aa.den×Unit)×(Unit×Unit)×Unit):=T.fn 9 (t0,())
abbrev mf:Unit×Unit:=((),())
def jx (t0:Int):Option (Bool×Unit×Unit):=T.fn 89 (t0,())
abbrev gJ:(Unit×Unit)×(Unit×Unit×Unit×Unit×Unit×Unit×Unit×Unit×Unit×Unit)×Unit×Unit:=(((),()),(((),((),((),((),((),((),((),((),((),()))))))))),((),())))
def bh (t0:List aa.den×Unit)(t1:aa.den)(t2:Int):Option (Int×(Unit×Unit)×(Unit×Unit×Unit×Unit×Unit×Unit×Unit×Unit×Unit×Unit)×Unit×Unit):=T.fn 157 (t0,t1,t2,())
abbrev aU:(Unit×Unit×Unit×Unit×Unit×Unit×Unit×Unit×Unit×Unit)×Unit×Unit×Unit×Unit×Unit:=(((),((),((),((),((),((),((),((),((),()))))))))),((),((),((),((),())))))
def aP (t0:aa.den)(t1:Bool)(t2:Bool)(t3:Bool)(t4:Bool):Option (Bool×(Unit×Unit×Unit×Unit×Unit×Unit×Unit×Unit×Unit×Unit)×Unit×Unit×Unit×Unit×Unit):=T.fn 158 (t0,t1,t2,t3,t4,())
abbrev eO:Unit×Unit:=((),())
def ke (t0:Int):Option (Bool×Unit×Unit):=T.fn 185 (t0,())
abbrev p9:Unit×Unit×Unit:=((),((),()))
def bU (t0:LI)(t1:Int):Option (Int×Unit×Unit×Unit):=T.fn 184 (t0,t1,())
abbrev oM:Unit×Unit:=((),())
def da (t0:Int):Option (Bool×Unit×Unit):=T.fn 187 (t0,())
abbrev sx:Unit:=()
def nC:Option (List LI×Unit):=T.fn 166 ()
abbrev pX:Unit×(Unit×Unit×Unit×Unit×Unit×Unit×Unit)×Unit:=((),(((),((),((),((),((),((),())))))),()))
def pE (t0:LI)(t1:aw.den):Option ((aw.den×Int×Unit)×Unit×(Unit×Unit×Unit×Unit×Unit×Unit×Unit)×Unit):=T.fn 186 (t0,t1,())
def eM (t0:LI)(t3:aw.den)(t4:aw.den)(t6:Int):Option ((LI×aw.den×aw.den×Int×Unit)⊕Empty):=T.pc 186 true 2 (t0,t3,t4,t6,())
def eK (t3:aw.den)(t4:aw.den)(t7:LI)(t32:List LI)(t33:Int)(t34:Int):Option ((aw.den×Int×Unit)⊕(aw.den×aw.den×LI×Unit)⊕Empty):=T.pc 186 true 8 (t3,t4,t7,t32,t33,t34,())
abbrev lr:Unit×Unit:=((),())
def kC (t0:Int):Option (Int×Unit×Unit):=T.fn 228 (t0,())
abbrev lf:Unit×(Unit×Unit×Unit×Unit×Unit×Unit×Unit)×Unit:=((),(((),((),((),((),((),((),())))))),()))
def nz (t0:LI)(t1:aw.den):Option ((aw.den×Int×Unit)×Unit×(Unit×Unit×Unit×Unit×Unit×Unit×Unit)×Unit):=T.fn 227 (t0,t1,())
def iI (t0:LI)(t3:aw.den)(t4:aw.den)(t6:Int)(t7:Int):Option ((aw.den×Int×Unit)⊕(aw.den×aw.den×Int×Int×Unit)⊕Empty):=T.pc 227 true 3 (t0,t3,t4,t6,t7,())
abbrev gw:Unit×(Unit×Unit×Unit×Unit×Unit×Unit×Unit)×Unit:=((),(((),((),((),((),((),((),())))))),()))
def pZ (t0:LI)(t1:aw.den):Option ((aw.den×Int×Unit)×Unit×(Unit×Unit×Unit×Unit×Unit×Unit×Unit)×Unit):=T.fn 188 (t0,t1,())
def c8 (t0:LI)(t3:aw.den)(t4:aw.den)(t6:Int):Option ((aw.den×Int×Unit)⊕Empty):=T.pc 188 false 9 (t0,t3,t4,t6,())
def bT (t0:LI)(t3:aw.den)(t4:aw.den)(t6:Int):Option ((aw.den×Int×Unit)⊕Empty):=T.pc 188 false 14 (t0,t3,t4,t6,())
def cK (t0:LI)(t3:aw.den)(t4:aw.den)(t6:Int):Option ((aw.den×Int×Unit)⊕Empty):=T.pc 188 false 23 (t0,t3,t4,t6,())
def cZ (t0:LI)(t3:aw.den)(t4:aw.den)(t6:Int):Option ((LI×aw.den×aw.den×Int×Unit)⊕Empty):=T.pc 188 true 7 (t0,t3,t4,t6,())
def df (t0:LI)(t3:aw.den)(t4:aw.den)(t6:Int):Option ((LI×aw.den×aw.den×Int×Unit)⊕Empty):=T.pc 188 true 12 (t0,t3,t4,t6,())
def bS (t0:LI)(t3:aw.den)(t4:aw.den)(t6:Int):Option ((LI×aw.den×aw.den×Int×Unit)⊕Empty):=T.pc 188 true 21 (t0,t3,t4,t6,())
def bl (t0:LI)(t3:aw.den)(t4:aw.den)(t6:Int)(t7:Int)(t8:Int):Option ((LI×aw.den×aw.den×Int×Int×Unit)⊕Empty):=T.pc 188 true 26 (t0,t3,t4,t6,t7,t8,())
abbrev mS:Unit×(Unit×Unit×Unit×Unit×Unit×Unit×Unit)×Unit:=((),(((),((),((),((),((),((),())))))),()))
def mi (t0:LI)(t1:aw.den):Option ((aw.den×Int×Unit)×Unit×(Unit×Unit×Unit×Unit×Unit×Unit×Unit)×Unit):=T.fn 189 (t0,t1,())
def eG (t0:LI)(t3:aw.den)(t4:aw.den)(t6:Int)(t7:LI)(t46:Int)(t59:Bool):Option ((LI×aw.den×aw.den×Int×LI×Unit)⊕(aw.den×Int×Unit)⊕Empty):=T.pc 189 false 24 (t0,t3,t4,t6,t7,t46,t59,())
def aM (t0:LI)(t3:aw.den)(t4:aw.den)(t6:Int)(t7:LI):Option ((aw.den×Int×Unit)⊕(aw.den×aw.den×Int×Unit)⊕Empty):=T.pc 189 true 4 (t0,t3,t4,t6,t7,())
def fz (t0:LI)(t3:aw.den)(t4:aw.den)(t6:Int)(t7:LI)(t9:Int):Option ((aw.den×Int×Unit)⊕(LI×aw.den×aw.den×Int×LI×Unit)⊕Empty):=T.pc 189 true 27 (t0,t3,t4,t6,t7,t9,())
abbrev sw:Unit:=()
def jP:Option (List LI×Unit):=T.fn 167 ()
abbrev fT:Unit×Unit:=((),())
def gM (t0:LI):Option (Int×Unit×Unit):=T.fn 168 (t0,())
def dB (t0:LI)(t3:List LI)(t4:Int):Option ((Int×Unit)⊕(LI×Unit)⊕Empty):=T.pc 168 true 3 (t0,t3,t4,())
def eI (t0:LI)(t24:List LI)(t25:Int)(t26:Int):Option ((Int×Unit)⊕(Unit)⊕Empty):=T.pc 168 true 9 (t0,t24,t25,t26,())
abbrev gR:Unit×Unit×Unit:=((),((),()))
def gL (t0:LI)(t1:Int):Option ((aw.den×Int×Unit)×Unit×Unit×Unit):=T.fn 115 (t0,t1,())
def cT (t0:LI)(t1:Int)(t4:aw.den)(t6:aw.den)(t43:List LI)(t44:Int)(t45:Int):Option ((aw.den×Int×Unit)⊕(Int×aw.den×aw.den×Unit)⊕Empty):=T.pc 115 true 14 (t0,t1,t4,t6,t43,t44,t45,())
abbrev dL:Unit×Unit:=((),())
def eX (t0:LI):Option (Bool×Unit×Unit):=T.fn 163 (t0,())
abbrev hZ:(Unit×Unit×Unit×Unit×Unit×Unit×Unit×Unit×Unit×Unit)×Unit×Unit×Unit:=(((),((),((),((),((),((),((),((),((),()))))))))),((),((),())))
def eZ (t0:aa.den)(t1:Int)(t2:Int):Option (Bool×(Unit×Unit×Unit×Unit×Unit×Unit×Unit×Unit×Unit×Unit)×Unit×Unit×Unit):=T.fn 159 (t0,t1,t2,())
def dP (t22:List LI)(t23:Int)(t24:Int):Option ((Bool×Unit)⊕(Unit)⊕Empty):=T.pc 159 true 4 (t22,t23,t24,())
abbrev qc:Unit×Unit:=((),())
def sH (t0:Int):Option (Bool×Unit×Unit):=T.fn 221 (t0,())
abbrev bI:(Unit×Unit)×(Unit×Unit×Unit×Unit×Unit×Unit×Unit×Unit×Unit×Unit)×Unit×Unit×Unit:=(((),()),(((),((),((),((),((),((),((),((),((),()))))))))),((),((),()))))
def aN (t0:List aa.den×Unit)(t1:aa.den)(t2:Int)(t3:Int):Option (Bool×(Unit×Unit)×(Unit×Unit×Unit×Unit×Unit×Unit×Unit×Unit×Unit×Unit)×Unit×Unit×Unit):=T.fn 160 (t0,t1,t2,t3,())
def kr (t3:Int)(t4:List aa.den×Unit)(t5:aa.den)(t9:Int):Option ((Bool×Unit)⊕(Unit)⊕Empty):=T.pc 160 true 2 (t3,t4,t5,t9,())
abbrev ku:Unit×Unit:=((),())
def qg (t0:Int):Option (Bool×Unit×Unit):=T.fn 161 (t0,())
abbrev az:(Unit×Unit)×(Unit×Unit×Unit×Unit×Unit×Unit×Unit×Unit×Unit×Unit)×Unit:=(((),()),(((),((),((),((),((),((),((),((),((),()))))))))),()))
def jJ (t0:List aa.den×Unit)(t1:aa.den):Option (Bool×(Unit×Unit)×(Unit×Unit×Unit×Unit×Unit×Unit×Unit×Unit×Unit×Unit)×Unit):=T.fn 90 (t0,t1,())
def fb (t2:List aa.den×Unit)(t3:aa.den)(t5:Int)(t12:Int)(t113:Bool):Option ((Bool×Unit)⊕((List aa.den×Unit)×aa.den×Int×Unit)⊕Empty):=T.pc 90 false 28 (t2,t3,t5,t12,t113,())
def dX (t2:List aa.den×Unit)(t3:aa.den)(t5:Int)(t12:Int)(t240:Bool):Option ((Bool×Unit)⊕((List aa.den×Unit)×aa.den×Int×Unit)⊕Empty):=T.pc 90 false 41 (t2,t3,t5,t12,t240,())
def cO (t2:List aa.den×Unit)(t3:aa.den)(t5:Int):Option ((Bool×Unit)⊕Empty):=T.pc 90 false 46 (t2,t3,t5,())
def bW (t2:List aa.den×Unit)(t3:aa.den)(t17:Int)(t18:Int):Option ((Bool×Unit)⊕(aa.den×Unit)⊕Empty):=T.pc 90 true 5 (t2,t3,t17,t18,())
def bR (t2:List aa.den×Unit)(t3:aa.den)(t5:Int)(t7:Int):Option ((Bool×Unit)⊕((List aa.den×Unit)×aa.den×Int×Unit)⊕Empty):=T.pc 90 true 21 (t2,t3,t5,t7,())
abbrev fe:Unit×Unit:=((),())
def lz (t0:LI):Option (Bool×Unit×Unit):=T.fn 162 (t0,())
abbrev bq:(Unit×Unit)×(Unit×Unit×Unit×Unit×Unit×Unit×Unit×Unit×Unit×Unit)×Unit:=(((),()),(((),((),((),((),((),((),((),((),((),()))))))))),()))
def jc (t0:List aa.den×Unit)(t1:aa.den):Option (Bool×(Unit×Unit)×(Unit×Unit×Unit×Unit×Unit×Unit×Unit×Unit×Unit×Unit)×Unit):=T.fn 91 (t0,t1,())
def cP (t2:List aa.den×Unit)(t3:aa.den)(t5:Int)(t12:Int)(t13:Bool):Option ((Bool×Unit)⊕((List aa.den×Unit)×aa.den×Int×Unit)⊕Empty):=T.pc 91 false 7 (t2,t3,t5,t12,t13,())
def dw (t2:List aa.den×Unit)(t3:aa.den)(t5:Int)(t12:Int)(t72:Bool):Option ((Bool×Unit)⊕((List aa.den×Unit)×aa.den×Int×Unit)⊕Empty):=T.pc 91 false 18 (t2,t3,t5,t12,t72,())
def bK (t2:List aa.den×Unit)(t3:aa.den)(t5:Int):Option ((Bool×Unit)⊕Empty):=T.pc 91 false 46 (t2,t3,t5,())
def bJ (t2:List aa.den×Unit)(t3:aa.den)(t199:Int)(t200:Int):Option ((Bool×Unit)⊕(aa.den×Unit)⊕Empty):=T.pc 91 true 31 (t2,t3,t199,t200,())
abbrev cw:(Unit×Unit)×Unit×Unit:=(((),()),((),()))
def eY (t0:List aa.den×Unit)(t1:Int):Option (Bool×(Unit×Unit)×Unit×Unit):=T.fn 47 (t0,t1,())
def cA (t1:Int)(t2:List aa.den×Unit)(t5:aa.den)(t35:LI)(t36:Int)(t37:Int):Option ((Bool×Unit)⊕((List aa.den×Unit)×aa.den×Unit)⊕Empty):=T.pc 47 true 5 (t1,t2,t5,t35,t36,t37,())
abbrev sn:(Unit×Unit)×Unit:=(((),()),())
def jM (t0:List aa.den×Unit):Option (LI×(Unit×Unit)×Unit):=T.fn 48 (t0,())
def cU (t3:LI)(t15:List aa.den)(t16:Int)(t17:Int):Option ((LI×Unit)⊕Empty):=T.pc 48 true 3 (t3,t15,t16,t17,())
def gy (t3:LI)(t4:Int)(t5:aa.den)(t6:Int)(t7:Bool)(t8:Int)(t15:List aa.den)(t16:Int)(t17:Int):Option ((LI×Int×Int×Bool×List aa.den×Int×Int×Unit)⊕Empty):=T.pc 48 true 8 (t3,t4,t5,t6,t7,t8,t15,t16,t17,())
abbrev dD:(Unit×Unit)×Unit:=(((),()),())
def kP (t0:List aa.den×Unit):Option ((Int×Int×Unit)×(Unit×Unit)×Unit):=T.fn 22 (t0,())
def dA (t1:List aa.den×Unit)(t2:Int×Int×Unit)(t38:Int)(t39:Int):Option (((Int×Int×Unit)×Unit)⊕((List aa.den×Unit)×(Int×Int×Unit)×Unit)⊕Empty):=T.pc 22 true 4 (t1,t2,t38,t39,())
def cu (t1:List aa.den×Unit)(t2:Int×Int×Unit)(t4:LI)(t51:LI)(t52:Int)(t53:Int):Option (((Int×Int×Unit)×Unit)⊕((List aa.den×Unit)×(Int×Int×Unit)×LI×Unit)⊕Empty):=T.pc 22 true 11 (t1,t2,t4,t51,t52,t53,())
def iH (t1:List aa.den×Unit)(t2:Int×Int×Unit)(t7:LI)(t8:Int):Option (((Int×Int×Unit)×LI×Unit)⊕Empty):=T.pc 22 true 20 (t1,t2,t7,t8,())
def gz (t1:List aa.den×Unit)(t2:Int×Int×Unit)(t7:LI)(t8:Int)(t93:LI)(t94:Int)(t95:Int):Option (((List aa.den×Unit)×(Int×Int×Unit)×LI×Int×Unit)⊕Empty):=T.pc 22 true 23 (t1,t2,t7,t8,t93,t94,t95,())
def dN (t2:Int×Int×Unit)(t108:LI)(t109:Int)(t110:Int):Option (((Int×Int×Unit)×Unit)⊕((Int×Int×Unit)×Unit)⊕Empty):=T.pc 22 true 28 (t2,t108,t109,t110,())
def au (t0:(List aa.den×Unit)×LI×Int×Unit)(t1:LI):Option (Unit×((List aa.den×Unit)×LI×Int×Unit)×Unit×Unit):=T.fn 24 (t0,t1,())
def me (t0:(List aa.den×Unit)×LI×Int×Unit):Option (Unit×((List aa.den×Unit)×LI×Int×Unit)×Unit):=T.fn 92 (t0,())
def hY (t0:(List aa.den×Unit)×LI×Int×Unit)(t2:Int):Option ((((List aa.den×Unit)×LI×Int×Unit)×Unit)⊕Empty):=T.pc 92 true 2 (t0,t2,())
def bH (t0:(List aa.den×Unit)×LI×Int×Unit)(t1:Int):Option (Unit×((List aa.den×Unit)×LI×Int×Unit)×Unit×Unit):=T.fn 49 (t0,t1,())
def gI (t0:(List aa.den×Unit)×LI×Int×Unit)(t30:LI)(t31:Int)(t32:Int):Option ((((List aa.den×Unit)×LI×Int×Unit)×Unit)⊕Empty):=T.pc 49 true 6 (t0,t30,t31,t32,())
def ic (t0:(List aa.den×Unit)×LI×Int×Unit)(t1:List LI):Option (Unit×((List aa.den×Unit)×LI×Int×Unit)×Unit×Unit):=T.fn 50 (t0,t1,())
def dm (t0:(List aa.den×Unit)×LI×Int×Unit)(t6:List LI)(t7:Int)(t8:Int):Option ((((List aa.den×Unit)×LI×Int×Unit)×Unit)⊕Empty):=T.pc 50 true 1 (t0,t6,t7,t8,())
abbrev oF:Unit×Unit:=((),())
def iA (t0:Int):Option ((Int×Int×Unit)×Unit×Unit):=T.fn 164 (t0,())
abbrev ie:(Unit×Unit×Unit×Unit×Unit×Unit×Unit×Unit×Unit×Unit)×Unit:=(((),((),((),((),((),((),((),((),((),()))))))))),())
def qZ (t0:aa.den):Option (Int×(Unit×Unit×Unit×Unit×Unit×Unit×Unit×Unit×Unit×Unit)×Unit):=T.fn 93 (t0,())
abbrev js:(Unit×Unit×Unit×Unit×Unit×Unit×Unit×Unit×Unit×Unit)×Unit:=(((),((),((),((),((),((),((),((),((),()))))))))),())
def ly (t0:aa.den):Option (Int×(Unit×Unit×Unit×Unit×Unit×Unit×Unit×Unit×Unit×Unit)×Unit):=T.fn 165 (t0,())
def jt (t0:(List aa.den×Unit)×LI×Int×Unit)(t1:aa.den)(t2:LI)(t3:Int):Option (Unit×((List aa.den×Unit)×LI×Int×Unit)×(Unit×Unit×Unit×Unit×Unit×Unit×Unit×Unit×Unit×Unit)×Unit×Unit×Unit):=T.fn 94 (t0,t1,t2,t3,())
abbrev dE:Unit×Unit:=((),())
def sP (t0:Int):Option (LI×Unit×Unit):=T.fn 95 (t0,())
def cQ (t0:Int)(t23:List LI)(t24:Int)(t25:Int):Option ((LI×Unit)⊕(Unit)⊕Empty):=T.pc 95 true 7 (t0,t23,t24,t25,())
def oH (t0:(List aa.den×Unit)×LI×Int×Unit)(t1:aa.den):Option (Unit×((List aa.den×Unit)×LI×Int×Unit)×(Unit×Unit×Unit×Unit×Unit×Unit×Unit×Unit×Unit×Unit)×Unit):=T.fn 96 (t0,t1,())
def ct (t0:(List aa.den×Unit)×LI×Int×Unit)(t3:aa.den):Option ((((List aa.den×Unit)×LI×Int×Unit)×Unit)⊕Empty):=T.pc 96 false 12 (t0,t3,())
abbrev iU:Unit×Unit:=((),())
def sR (t0:Int):Option (Bool×Unit×Unit):=T.fn 169 (t0,())
def j9 (t0:(List aa.den×Unit)×LI×Int×Unit)(t1:Int):Option (Unit×((List aa.den×Unit)×LI×Int×Unit)×Unit×Unit):=T.fn 97 (t0,t1,())
def oI (t0:(List aa.den×Unit)×LI×Int×Unit)(t1:aa.den):Option (Unit×((List aa.den×Unit)×LI×Int×Unit)×(Unit×Unit×Unit×Unit×Unit×Unit×Unit×Unit×Unit×Unit)×Unit):=T.fn 98 (t0,t1,())
def gG (t0:(List aa.den×Unit)×LI×Int×Unit)(t5:Int)(t10:LI)(t11:Int)(t12:Int):Option ((((List aa.den×Unit)×LI×Int×Unit)×LI×Int×Int×Unit)⊕Empty):=T.pc 98 false 7 (t0,t5,t10,t11,t12,())
def dj (t0:(List aa.den×Unit)×LI×Int×Unit)(t10:LI)(t11:Int)(t12:Int):Option ((((List aa.den×Unit)×LI×Int×Unit)×Unit)⊕Empty):=T.pc 98 true 3 (t0,t10,t11,t12,())
def mj (t0:(List aa.den×Unit)×LI×Int×Unit)(t1:Int):Option (Unit×((List aa.den×Unit)×LI×Int×Unit)×Unit×Unit):=T.fn 53 (t0,t1,())
abbrev jI:Unit×Unit:=((),())
def jq (t0:Int):Option (LI×Unit×Unit):=T.fn 41 (t0,())
def fW (t4:LI)(t6:LI):Option ((LI×Unit)⊕Empty):=T.pc 41 false 14 (t4,t6,())
def dn (t0:Int)(t3:Bool)(t4:LI):Option ((Bool×LI×Unit)⊕Empty):=T.pc 41 true 5 (t0,t3,t4,())
def eT (t4:LI)(t6:LI)(t7:Int):Option ((LI×Unit)⊕Empty):=T.pc 41 true 15 (t4,t6,t7,())
abbrev nD:Unit×Unit:=((),())
def oR (t0:Int):Option (LI×Unit×Unit):=T.fn 170 (t0,())
def gS (t0:Int)(t3:LI)(t4:LI)(t5:Int):Option ((LI×Unit)⊕Empty):=T.pc 170 true 6 (t0,t3,t4,t5,())
abbrev zw:Unit×Unit:=((),())
def jQ (t0:LI):Option (LI×Unit×Unit):=T.fn 153 (t0,())
def bQ (t0:LI)(t3:LI)(t4:LI)(t5:Int):Option ((LI×Unit)⊕Empty):=T.pc 153 true 4 (t0,t3,t4,t5,())
def oL (t0:(List aa.den×Unit)×LI×Int×Unit)(t1:aa.den):Option (Unit×((List aa.den×Unit)×LI×Int×Unit)×(Unit×Unit×Unit×Unit×Unit×Unit×Unit×Unit×Unit×Unit)×Unit):=T.fn 99 (t0,t1,())
def aJ (t0:(List aa.den×Unit)×LI×Int×Unit)(t1:Int)(t2:Int):Option (Unit×((List aa.den×Unit)×LI×Int×Unit)×Unit×Unit×Unit):=T.fn 52 (t0,t1,t2,())
def dC (t0:(List aa.den×Unit)×LI×Int×Unit)(t1:LI):Option (Unit×((List aa.den×Unit)×LI×Int×Unit)×Unit×Unit):=T.fn 51 (t0,t1,())
def di (t0:(List aa.den×Unit)×LI×Int×Unit)(t6:LI)(t7:Int)(t8:Int):Option ((((List aa.den×Unit)×LI×Int×Unit)×Unit)⊕Empty):=T.pc 51 true 1 (t0,t6,t7,t8,())
def ko (t0:(List aa.den×Unit)×LI×Int×Unit)(t1:aa.den)(t2:LI):Option (Unit×((List aa.den×Unit)×LI×Int×Unit)×(Unit×Unit×Unit×Unit×Unit×Unit×Unit×Unit×Unit×Unit)×Unit×Unit):=T.fn 54 (t0,t1,t2,())
def mb (t0:(List aa.den×Unit)×LI×Int×Unit)(t1:Int):Option (Unit×((List aa.den×Unit)×LI×Int×Unit)×Unit×Unit):=T.fn 23 (t0,t1,())
def jd (t0:(List aa.den×Unit)×LI×Int×Unit)(t4:aa.den)(t15:Int)(t119:Bool):Option ((((List aa.den×Unit)×LI×Int×Unit)×Unit)⊕Empty):=T.pc 23 false 31 (t0,t4,t15,t119,())
abbrev nG:(Unit×Unit)×Unit:=(((),()),())
def uJ (t0:List aa.den×Unit):Option (LI×(Unit×Unit)×Unit):=T.fn 8 (t0,())
def iS (t4:(List aa.den×Unit)×LI×Int×Unit)(t23:LI)(t24:Int)(t25:Int):Option ((((List aa.den×Unit)×LI×Int×Unit)×Unit)⊕Empty):=T.pc 8 true 6 (t4,t23,t24,t25,())
abbrev qE:Unit×Unit×Unit×Unit:=((),((),((),())))
def je (t0:Int)(t1:Int)(t2:Int):Option (Bool×Unit×Unit×Unit×Unit):=T.fn 171 (t0,t1,t2,())
abbrev fS:Unit×Unit:=((),())
def kN (t0:Int):Option (Bool×Unit×Unit):=T.fn 124 (t0,())
abbrev qY:Unit×Unit:=((),())
def fY (t0:Int):Option (Bool×Unit×Unit):=T.fn 125 (t0,())
abbrev sV:Unit×Unit:=((),())
def th (t0:LI):Option (Int×Unit×Unit):=T.fn 126 (t0,())
def fK (t0:LI)(t5:List LI)(t6:Int)(t7:Int):Option ((Int×Unit)⊕(Unit)⊕Empty):=T.pc 126 true 2 (t0,t5,t6,t7,())
abbrev pF:Unit×Unit:=((),())
def qI (t0:Int):Option (Bool×Unit×Unit):=T.fn 129 (t0,())
abbrev pk:Unit×Unit:=((),())
def bF (t0:Int):Option (Int×Unit×Unit):=T.fn 236 (t0,())
def qX (t0:LI):Option (Bool×Unit×Unit):=T.fn 237 (t0,())
abbrev ja:Unit×Unit×Unit×Unit:=((),((),((),())))
def j0 (t0:LI)(t1:Int)(t2:Int):Option ((Int×Bool×Unit)×Unit×Unit×Unit×Unit):=T.fn 211 (t0,t1,t2,())
def ft (t0:LI)(t1:Int)(t2:Int)(t8:Bool)(t9:LI):Option ((Int×Bool×Unit)⊕Empty):=T.pc 211 false 21 (t0,t1,t2,t8,t9,())
def fu (t0:LI)(t1:Int)(t2:Int)(t8:Bool)(t9:LI):Option ((Int×Bool×Unit)⊕Empty):=T.pc 211 false 25 (t0,t1,t2,t8,t9,())
def dU (t0:LI)(t1:Int)(t2:Int)(t8:Bool)(t9:LI)(t10:Int):Option ((Int×Bool×Unit)⊕Empty):=T.pc 211 false 32 (t0,t1,t2,t8,t9,t10,())
def bL (t1:Int)(t8:Bool)(t9:LI)(t10:Int)(t11:Int)(t12:Bool)(t13:Int)(t16:Int)(t99:LI)(t100:Int)(t101:Int):Option ((Int×Bool×Unit)⊕(Int×Bool×LI×Int×Int×Bool×Int×LI×Int×Int×Unit)⊕Empty):=T.pc 211 false 46 (t1,t8,t9,t10,t11,t12,t13,t16,t99,t100,t101,())
def aO (t1:Int)(t8:Bool)(t9:LI)(t10:Int)(t11:Int)(t12:Bool)(t13:Int)(t99:LI)(t100:Int)(t101:Int):Option ((Int×Bool×Unit)⊕(LI×Bool×Int×Unit)⊕Empty):=T.pc 211 true 36 (t1,t8,t9,t10,t11,t12,t13,t99,t100,t101,())
abbrev nh:Unit×Unit×Unit×Unit:=((),((),((),())))
def fy (t0:LI)(t1:Int)(t2:Int):Option ((Int×Bool×Unit)×Unit×Unit×Unit×Unit):=T.fn 130 (t0,t1,t2,())
abbrev cC:Unit×Unit×Unit:=((),((),()))
def kL (t0:LI)(t1:Int):Option ((aw.den×Bool×Unit)×Unit×Unit×Unit):=T.fn 127 (t0,t1,())
def cV (t0:LI)(t1:Int)(t4:aw.den)(t6:Int):Option ((aw.den×Bool×Unit)⊕Empty):=T.pc 127 false 17 (t0,t1,t4,t6,())
def dJ (t0:LI)(t1:Int)(t4:aw.den)(t6:Int)(t9:Int):Option ((aw.den×Bool×Unit)⊕Empty):=T.pc 127 false 22 (t0,t1,t4,t6,t9,())
def fD (t0:LI)(t1:Int)(t4:aw.den)(t6:Int)(t9:Int):Option ((aw.den×Bool×Unit)⊕(LI×Int×aw.den×Int×Int×Unit)⊕Empty):=T.pc 127 false 26 (t0,t1,t4,t6,t9,())
def dK (t0:LI)(t1:Int)(t4:aw.den)(t6:Int)(t9:Int):Option ((aw.den×Bool×Unit)⊕Empty):=T.pc 127 false 31 (t0,t1,t4,t6,t9,())
def fg (t0:LI)(t1:Int)(t4:aw.den)(t6:Int):Option ((LI×Int×aw.den×Int×Unit)⊕Empty):=T.pc 127 true 5 (t0,t1,t4,t6,())
def cW (t0:LI)(t1:Int)(t4:aw.den)(t6:Int):Option ((LI×Int×aw.den×Int×Unit)⊕Empty):=T.pc 127 true 15 (t0,t1,t4,t6,())
def eQ (t0:LI)(t1:Int)(t4:aw.den)(t6:Int)(t9:Int):Option ((LI×Int×aw.den×Int×Int×Unit)⊕Empty):=T.pc 127 true 20 (t0,t1,t4,t6,t9,())
def eR (t0:LI)(t1:Int)(t4:aw.den)(t6:Int)(t9:Int):Option ((LI×Int×aw.den×Int×Int×Unit)⊕Empty):=T.pc 127 true 29 (t0,t1,t4,t6,t9,())
abbrev jX:Unit×Unit×Unit:=((),((),()))
def fv (t0:LI)(t1:Int):Option (Int×Unit×Unit×Unit):=T.fn 210 (t0,t1,())
abbrev jZ:Unit×Unit×Unit:=((),((),()))
def eH (t0:LI)(t1:Int):Option (Int×Unit×Unit×Unit):=T.fn 128 (t0,t1,())
abbrev iz:Unit×Unit:=((),())
def kE (t0:Int):Option (LI×Unit×Unit):=T.fn 107 (t0,())
abbrev gm:Unit×Unit×Unit:=((),((),()))
def hD (t0:LI)(t1:LI):Option (Bool×Unit×Unit×Unit):=T.fn 208 (t0,t1,())
abbrev nj:Unit×Unit×Unit:=((),((),()))
def strings_HasPrefix (t0:LI)(t1:LI):Option (Bool×Unit×Unit×Unit):=T.fn 123 (t0,t1,())
abbrev iB:Unit×Unit×Unit:=((),((),()))
def iM (t0:LI)(t1:Int):Option ((aw.den×Bool×Unit)×Unit×Unit×Unit):=T.fn 71 (t0,t1,())
def gO (t0:LI)(t1:Int)(t4:aw.den)(t7:Int):Option ((LI×Int×aw.den×Int×Unit)⊕Empty):=T.pc 71 true 5 (t0,t1,t4,t7,())
def bu (t0:LI)(t4:aw.den)(t8:LI)(t9:Int):Option ((aw.den×Bool×Unit)⊕Empty):=T.pc 71 true 18 (t0,t4,t8,t9,())
def jN (t0:LI)(t4:aw.den)(t8:LI)(t9:Int)(t11:Int):Option ((aw.den×Bool×Unit)⊕(LI×aw.den×LI×Int×Unit)⊕Empty):=T.pc 71 true 39 (t0,t4,t8,t9,t11,())
def fL (t0:LI)(t1:Int)(t4:aw.den)(t14:Int)(t15:Int):Option ((Int×aw.den×Unit)⊕Empty):=T.pc 71 true 49 (t0,t1,t4,t14,t15,())
abbrev cD:Unit×Unit×Unit:=((),((),()))
def ti (t0:LI)(t1:Int):Option (Bool×Unit×Unit×Unit):=T.fn 222 (t0,t1,())
abbrev gq:Unit×Unit:=((),())
def eE (t0:LI):Option (Bool×Unit×Unit):=T.fn 172 (t0,())
abbrev pY:Unit×Unit:=((),())
def pG (t0:Int):Option (Bool×Unit×Unit):=T.fn 177 (t0,())
def aK (t0:Bool)(t1:Bool)(t2:Bool)(t3:Bool)(t4:Int)(t5:Int)(t6:Int)(t7:LI):Option (Bool×Unit×Unit×Unit×Unit×Int×Int×Int×LI×Unit):=T.fn 175 (t0,t1,t2,t3,t4,t5,t6,t7,())
abbrev qb:Unit×Unit:=((),())
def mG (t0:Int):Option (Bool×Unit×Unit):=T.fn 174 (t0,())
def aL (t0:Int)(t1:Int)(t2:LI):Option (Bool×Unit×Unit×LI×Unit):=T.fn 173 (t0,t1,t2,())
def dY (t2:LI)(t11:LI)(t12:Int)(t13:Int):Option ((LI×Bool×Unit)⊕(LI×Unit)⊕Empty):=T.pc 173 true 2 (t2,t11,t12,t13,())
abbrev jH:Unit×Unit:=((),())
def jr (t0:LI):Option (Bool×Unit×Unit):=T.fn 178 (t0,())
def iT (t0:Int)(t1:LI):Option (Bool×Int×LI×Unit):=T.fn 176 (t0,t1,())
abbrev aD:(Unit×Unit)×Unit×Unit:=(((),()),((),()))
def gN (t0:List aa.den×Unit)(t1:Int):Option (Bool×(Unit×Unit)×Unit×Unit):=T.fn 102 (t0,t1,())
def iF (t6:LI)(t11:Int)(t12:Int)(t13:Int)(t14:LI)(t16:Int)(t105:Int)(t205:Bool):Option ((Bool×Unit)⊕(Unit)⊕Empty):=T.pc 102 false 50 (t6,t11,t12,t13,t14,t16,t105,t205,())
def cX (t6:LI)(t11:Int)(t12:Int)(t13:Int)(t14:LI)(t16:Int)(t105:Int)(L4:Bool):Option ((Bool×Unit)⊕(Unit)⊕Empty):=T.pc 102 false 65 (t6,t11,t12,t13,t14,t16,t105,L4,())
def gx (t6:LI)(t11:Int)(t12:Int)(t13:Int)(t14:LI)(t16:Int)(t105:Int)(Mj:Bool):Option ((Bool×Unit)⊕(Unit)⊕Empty):=T.pc 102 false 72 (t6,t11,t12,t13,t14,t16,t105,Mj,())
def fC (t6:LI)(t11:Int)(t12:Int)(t13:Int)(t14:LI)(t16:Int)(t105:Int)(Mh:Bool):Option ((Bool×Unit)⊕(Unit)⊕Empty):=T.pc 102 false 84 (t6,t11,t12,t13,t14,t16,t105,Mh,())
def ia (t1:Int)(t2:List aa.den×Unit)(t5:aa.den)(t6:LI)(t58:LI)(t59:Int)(t60:Int):Option ((Bool×Unit)⊕(aa.den×LI×Unit)⊕Empty):=T.pc 102 true 6 (t1,t2,t5,t6,t58,t59,t60,())
def bX (t5:aa.den)(t6:LI)(t80:List LI)(t81:Int)(t82:Int):Option ((Bool×Unit)⊕(aa.den×LI×Unit)⊕Empty):=T.pc 102 true 13 (t5,t6,t80,t81,t82,())
def dI (t11:Int)(t12:Int)(t13:Int)(t14:LI)(t108:LI)(t109:Int)(t110:Int):Option ((Bool×Unit)⊕(Int×Int×Int×LI×Unit)⊕Empty):=T.pc 102 true 26 (t11,t12,t13,t14,t108,t109,t110,())
def bG (t6:LI)(t13:Int)(t16:Int)(t184:LI)(t185:Int)(t186:Int):Option ((Bool×Unit)⊕(LI×Int×Int×Unit)⊕Empty):=T.pc 102 true 42 (t6,t13,t16,t184,t185,t186,())
def dO (t11:Int)(t12:Int)(t13:Int)(t14:LI)(Ix:LI)(KA:Int)(Fl:Int):Option ((Bool×Unit)⊕(Int×Int×Int×LI×Unit)⊕Empty):=T.pc 102 true 97 (t11,t12,t13,t14,Ix,KA,Fl,())
abbrev fR:(Unit×Unit)×Unit:=(((),()),())
def kR (t0:List aa.den×Unit):Option ((Int×Int×Unit)×(Unit×Unit)×Unit):=T.fn 56 (t0,())
def dz (t1:List aa.den×Unit)(t2:Int×Int×Unit)(t3:Int)(t37:Int)(t38:Int):Option (((Int×Int×Unit)×Unit)⊕((List aa.den×Unit)×(Int×Int×Unit)×Int×Unit)⊕Empty):=T.pc 56 true 5 (t1,t2,t3,t37,t38,())
def bY (t1:List aa.den×Unit)(t2:Int×Int×Unit)(t3:Int)(t5:LI)(t51:List aa.den)(t52:Int)(t53:Int):Option (((Int×Int×Unit)×Unit)⊕((List aa.den×Unit)×(Int×Int×Unit)×Int×Unit)⊕Empty):=T.pc 56 true 12 (t1,t2,t3,t5,t51,t52,t53,())
def gu (t1:List aa.den×Unit)(t2:Int×Int×Unit)(t3:Int)(t5:LI)(t6:Int)(t7:aa.den)(t8:Int)(t9:Int)(t51:List aa.den)(t52:Int)(t53:Int):Option (((Int×Int×Unit)×Unit)⊕((List aa.den×Unit)×(Int×Int×Unit)×Int×LI×Int×Int×List aa.den×Int×Int×Unit)⊕Empty):=T.pc 56 true 16 (t1,t2,t3,t5,t6,t7,t8,t9,t51,t52,t53,())
def iK (t1:List aa.den×Unit)(t2:Int×Int×Unit)(t10:LI)(t11:Int):Option (((Int×Int×Unit)×LI×Unit)⊕Empty):=T.pc 56 true 27 (t1,t2,t10,t11,())
def gA (t1:List aa.den×Unit)(t2:Int×Int×Unit)(t10:LI)(t11:Int)(t113:LI)(t114:Int)(t115:Int):Option (((List aa.den×Unit)×(Int×Int×Unit)×LI×Int×Unit)⊕Empty):=T.pc 56 true 30 (t1,t2,t10,t11,t113,t114,t115,())
def dH (t2:Int×Int×Unit)(t10:LI)(t129:Int)(t130:Int):Option (((Int×Int×Unit)×Unit)⊕((Int×Int×Unit)×Unit)⊕Empty):=T.pc 56 true 35 (t2,t10,t129,t130,())
abbrev vS:(Unit×Unit)×Unit:=(((),()),())
def uL (t0:List aa.den×Unit):Option (Bool×(Unit×Unit)×Unit):=T.fn 26 (t0,())
def ar (t0:(List aa.den×Unit)×LI×Unit)(t1:LI):Option (Unit×((List aa.den×Unit)×LI×Unit)×Unit×Unit):=T.fn 28 (t0,t1,())
def bm (t0:(List aa.den×Unit)×LI×Unit)(t1:Int)(t2:Int):Option (Unit×((List aa.den×Unit)×LI×Unit)×Unit×Unit×Unit):=T.fn 58 (t0,t1,t2,())
def dt (t0:(List aa.den×Unit)×LI×Unit)(t2:Int)(t25:LI)(t26:Int)(t27:Int):Option ((((List aa.den×Unit)×LI×Unit)×Int×Unit)⊕Empty):=T.pc 58 true 5 (t0,t2,t25,t26,t27,())
abbrev ld:Unit×Unit×Unit:=((),((),()))
def gB (t0:Int)(t1:Int):Option (LI×Unit×Unit×Unit):=T.fn 226 (t0,t1,())
abbrev mr:Unit×Unit×Unit:=((),((),()))
def iy (t0:Int)(t1:Int):Option (LI×Unit×Unit×Unit):=T.fn 181 (t0,t1,())
abbrev vI:Unit×Unit:=((),())
def oP (t0:LI):Option (LI×Unit×Unit):=T.fn 81 (t0,())
def eD (t0:LI)(t3:LI)(t4:Int):Option ((LI×Unit)⊕Empty):=T.pc 81 true 6 (t0,t3,t4,())
abbrev bZ:(Unit×Unit×Unit×Unit×Unit×Unit×Unit)×Unit:=(((),((),((),((),((),((),())))))),())
def lp (t0:aw.den):Option (LI×(Unit×Unit×Unit×Unit×Unit×Unit×Unit)×Unit):=T.fn 105 (t0,())
abbrev q9:Unit×Unit:=((),())
def oO (t0:Int):Option (Int×Unit×Unit):=T.fn 182 (t0,())
def eU (t0:(List aa.den×Unit)×LI×Unit)(t1:Int):Option (Int×((List aa.den×Unit)×LI×Unit)×Unit×Unit):=T.fn 106 (t0,t1,())
def aE (t0:(List aa.den×Unit)×LI×Unit)(t1:Int)(t2:Int)(t3:Bool):Option (Unit×((List aa.den×Unit)×LI×Unit)×Unit×Unit×Unit×Unit):=T.fn 108 (t0,t1,t2,t3,())
def fX (t0:(List aa.den×Unit)×LI×Unit)(t1:Int)(t2:Int):Option (Unit×((List aa.den×Unit)×LI×Unit)×Unit×Unit×Unit):=T.fn 109 (t0,t1,t2,())
def aY (t0:(List aa.den×Unit)×LI×Unit)(t1:Int)(t2:Int)(t19:Bool):Option ((((List aa.den×Unit)×LI×Unit)×Unit)⊕Empty):=T.pc 109 false 7 (t0,t1,t2,t19,())
def iJ (t0:(List aa.den×Unit)×LI×Unit)(t1:Int)(t2:Int):Option (Unit×((List aa.den×Unit)×LI×Unit)×Unit×Unit×Unit):=T.fn 61 (t0,t1,t2,())
def aQ (t0:(List aa.den×Unit)×LI×Unit)(t1:Int)(t2:Int):Option (Unit×((List aa.den×Unit)×LI×Unit)×Unit×Unit×Unit):=T.fn 60 (t0,t1,t2,())
def dr (t0:(List aa.den×Unit)×LI×Unit)(t1:Int)(t2:Int)(t6:aa.den)(t7:LI)(t25:Int)(t50:Bool):Option ((((List aa.den×Unit)×LI×Unit)×Unit)⊕Empty):=T.pc 60 false 15 (t0,t1,t2,t6,t7,t25,t50,())
def dy (t0:(List aa.den×Unit)×LI×Unit)(t1:Int)(t2:Int)(t6:aa.den)(t7:LI)(t25:Int)(t64:Bool):Option ((((List aa.den×Unit)×LI×Unit)×Unit)⊕Empty):=T.pc 60 false 21 (t0,t1,t2,t6,t7,t25,t64,())
def du (t0:(List aa.den×Unit)×LI×Unit)(t2:Int)(t7:LI)(t8:Int)(t9:Bool)(t10:LI):Option ((((List aa.den×Unit)×LI×Unit)×Unit)⊕Empty):=T.pc 60 false 26 (t0,t2,t7,t8,t9,t10,())
def bc (t0:(List aa.den×Unit)×LI×Unit)(t2:Int)(t7:LI):Option ((((List aa.den×Unit)×LI×Unit)×Unit)⊕Empty):=T.pc 60 false 43 (t0,t2,t7,())
def cI (t0:(List aa.den×Unit)×LI×Unit)(t1:LI)(t2:Int):Option (Unit×((List aa.den×Unit)×LI×Unit)×Unit×Unit×Unit):=T.fn 59 (t0,t1,t2,())
def cr (t0:(List aa.den×Unit)×LI×Unit)(t2:Int)(t8:LI)(t9:Int)(t10:Int):Option ((((List aa.den×Unit)×LI×Unit)×Unit)⊕Empty):=T.pc 59 true 1 (t0,t2,t8,t9,t10,())
def gX (t0:(List aa.den×Unit)×LI×Unit)(t1:aa.den)(t2:Int):Option (Unit×((List aa.den×Unit)×LI×Unit)×(Unit×Unit×Unit×Unit×Unit×Unit×Unit×Unit×Unit×Unit)×Unit×Unit):=T.fn 62 (t0,t1,t2,())
def fw (t0:(List aa.den×Unit)×LI×Unit)(t1:Int)(t2:Int):Option (Unit×((List aa.den×Unit)×LI×Unit)×Unit×Unit×Unit):=T.fn 27 (t0,t1,t2,())
abbrev nE:(Unit×Unit)×Unit:=(((),()),())
def uS (t0:List aa.den×Unit):Option (LI×(Unit×Unit)×Unit):=T.fn 10 (t0,())
def iW (t3:(List aa.den×Unit)×LI×Unit)(t20:LI)(t21:Int)(t22:Int):Option ((((List aa.den×Unit)×LI×Unit)×Unit)⊕Empty):=T.pc 10 true 5 (t3,t20,t21,t22,())
abbrev jK:Unit×Unit×Unit:=((),((),()))
def lh (t0:List LI)(t1:List LI):Option (Bool×Unit×Unit×Unit):=T.fn 111 (t0,t1,())
def dh (t0:List LI)(t1:List LI)(t5:Int):Option ((Bool×Unit)⊕(Unit)⊕Empty):=T.pc 111 true 4 (t0,t1,t5,())
abbrev ml:Unit×Unit×Unit:=((),((),()))
def pC (t0:LI)(t1:LI):Option (Bool×Unit×Unit×Unit):=T.fn 112 (t0,t1,())
def fh (t0:LI)(t1:LI)(t5:Int):Option ((Bool×Unit)⊕(Unit)⊕Empty):=T.pc 112 true 4 (t0,t1,t5,())
abbrev cB:(Unit×Unit×Unit×Unit×Unit×Unit×Unit×Unit×Unit×Unit)×(Unit×Unit×Unit×Unit×Unit×Unit×Unit×Unit×Unit×Unit)×Unit:=(((),((),((),((),((),((),((),((),((),()))))))))),(((),((),((),((),((),((),((),((),((),()))))))))),()))
def mE (t0:aa.den)(t1:aa.den):Option (Bool×(Unit×Unit×Unit×Unit×Unit×Unit×Unit×Unit×Unit×Unit)×(Unit×Unit×Unit×Unit×Unit×Unit×Unit×Unit×Unit×Unit)×Unit):=T.fn 64 (t0,t1,())
abbrev lj:Unit×Unit×Unit:=((),((),()))
def nF (t0:List aa.den)(t1:List aa.den):Option (Bool×Unit×Unit×Unit):=T.fn 31 (t0,t1,())
def eP (t0:List aa.den)(t1:List aa.den)(t5:Int):Option ((Bool×Unit)⊕(Unit)⊕Empty):=T.pc 31 true 4 (t0,t1,t5,())
abbrev p8:(Unit×Unit)×(Unit×Unit)×Unit:=(((),()),(((),()),()))
def sT (t0:List aa.den×Unit)(t1:List aa.den×Unit):Option (Bool×(Unit×Unit)×(Unit×Unit)×Unit):=T.fn 11 (t0,t1,())
abbrev fE:(Unit×Unit)×Unit:=(((),()),())
def pb (t0:List aa.den×Unit):Option (Bool×(Unit×Unit)×Unit):=T.fn 3 (t0,())
theorem ph (t0:List LI)(t1:Int):jv (S.step T) t0 t1=brk (decide (i64.wrap (t1 - (t0.length:Int))<0)) (some ((-1:Int),jL)) ((cJ T t0 (i64.wrap (t1 - (t0.length:Int))) 0).bind (bC (fun y5=>some (y5.1,jL)) (fun y5=>some (y5.1,jL)))):=eF Tryz.func87 (by kernel_rfl)
theorem mC (t0:List LI)(t1:Int)(t5:Int):cJ (S.step T) t0 t1 t5=brk (decide (t5<(t0.length:Int))) (brk (decide (0≤t5)&&decide (t5<(t0.length:Int))) (brk (decide (i64.wrap (t1 - ((t0.getD t5.toNat []).length:Int))<0)) (some (Sum.inl ((-1:Int),()))) (cJ T t0 (i64.wrap (t1 - ((t0.getD t5.toNat []).length:Int))) (i64.wrap (t5+1)))) none) (some (Sum.inr (Sum.inl (t1,())))):=eL Tryz.func87 rfl (by kernel_rfl)
theorem zr (t0:LI)(t1:Int):pH (S.step T) t0 t1=brk (decide (i64.wrap (t1 - (t0.length:Int))<0)) (some ((-1:Int),qh)) (some (i64.wrap (t1 - (t0.length:Int)),qh)):=eF Tryz.func88 (by kernel_rfl)
theorem oJ (t0:aa.den)(t1:Int):pD (S.step T) t0 t1=brk (decide (i64.wrap (t1 - (t0.2.2.2.2.2.2.1.length:Int))<0)) (some ((-1:Int),iV)) ((jv T t0.2.2.2.2.2.2.2.1 (i64.wrap (t1 - (t0.2.2.2.2.2.2.1.length:Int)))).bind fun d15=>brk (decide (d15.1<0)) (some ((-1:Int),iV)) ((pH T t0.2.2.2.2.2.2.2.2.1 d15.1).bind fun d21=>brk (decide (d21.1<0)) (some ((-1:Int),iV)) (some (d21.1,iV)))):=eF Tryz.func46 (by kernel_rfl)
theorem rN (t0:List aa.den)(t1:Int):ny (S.step T) t0 t1=brk (decide (i64.wrap (t1 - (t0.length:Int))<0)) (some ((-1:Int),ll)) ((dM T t0 (i64.wrap (t1 - (t0.length:Int))) 0).bind (bC (fun y5=>some (y5.1,ll)) (fun y5=>some (y5.1,ll)))):=eF Tryz.func21 (by kernel_rfl)
theorem ow (t0:List aa.den)(t1:Int)(t5:Int):dM (S.step T) t0 t1 t5=brk (decide (t5<(t0.length:Int))) (brk (decide (0≤t5)&&decide (t5<(t0.length:Int))) ((pD T (at_ (τ:=aa) t0 t5) t1).bind fun d23=>brk (decide (d23.1<0)) (some (Sum.inl ((-1:Int),()))) (dM T t0 d23.1 (i64.wrap (t5+1)))) none) (some (Sum.inr (Sum.inl (t1,())))):=eL Tryz.func21 rfl (by kernel_rfl)
theorem zk (t0:List aa.den×Unit)(t1:Int):sQ (S.step T) t0 t1=(ny T t0.1 t1).bind fun d8=>brk (decide (d8.1<0)) (some ((-1:Int),qe)) (some (d8.1,qe)):=eF Tryz.func7 (by kernel_rfl)
theorem vw (t0:List LI):lq (S.step T) t0=brk (((decide (0≤(t0.length:Int)))&&(decide ((t0.length:Int)≤(t0.length:Int))))&&(decide ((t0.length:Int)≤lim))) ((gH T t0 (List.replicate ((t0.length:Int).toNat) ([]:LI)) 0).bind (aR (fun y3=>some (y3.1,qD)))) none:=eF Tryz.func100 (by kernel_rfl)
theorem my (t0:List LI)(t3:List LI)(t4:Int):gH (S.step T) t0 t3 t4=brk (decide (t4<(t0.length:Int))) (brk (decide (0≤t4)&&decide (t4<(t0.length:Int))) (brk (decide (0≤t4)&&decide (t4<(t3.length:Int))) (gH T t0 (t3.set t4.toNat (t0.getD t4.toNat [])) (i64.wrap (t4+1))) none) none) (some (Sum.inl (t3,()))):=eL Tryz.func100 rfl (by kernel_rfl)
theorem yX (t0:LI):pB (S.step T) t0=brk (((decide (0≤(t0.length:Int)))&&(decide ((t0.length:Int)≤(t0.length:Int))))&&(decide ((t0.length:Int)≤lim))) ((ju T t0 (List.replicate ((t0.length:Int).toNat) 0) 0).bind (aR (fun y3=>some (y3.1,tU)))) none:=eF Tryz.func101 (by kernel_rfl)
theorem py (t0:LI)(t3:LI)(t4:Int):ju (S.step T) t0 t3 t4=brk (decide (t4<(t0.length:Int))) (brk (decide (0≤t4)&&decide (t4<(t0.length:Int))) (brk (decide (0≤t4)&&decide (t4<(t3.length:Int))) (ju T t0 (t3.set t4.toNat (t0.getD t4.toNat 0)) (i64.wrap (t4+1))) none) none) (some (Sum.inl (t3,()))):=eL Tryz.func101 rfl (by kernel_rfl)
theorem zA (t0:aa.den):sW (S.step T) t0=(lq T t0.2.2.2.2.2.2.2.1).bind fun d27=>(pB T t0.2.2.2.2.2.2.2.2.1).bind fun d31=>some ((t0.1,t0.2.1,t0.2.2.1,t0.2.2.2.1,t0.2.2.2.2.1,t0.2.2.2.2.2.1,t0.2.2.2.2.2.2.1,d27.1,d31.1,()),tQ):=eF Tryz.func55 (by kernel_rfl)
theorem yd (t0:List aa.den):nB (S.step T) t0=brk (((decide (0≤(t0.length:Int)))&&(decide ((t0.length:Int)≤(t0.length:Int))))&&(decide ((t0.length:Int)≤lim))) ((iG T t0 (List.replicate ((t0.length:Int).toNat) (0,0,0,0,0,0,([]:LI),[],[],())) 0).bind (aR (fun y3=>some (y3.1,sA)))) none:=eF Tryz.func25 (by kernel_rfl)
theorem oC (t0:List aa.den)(t3:List aa.den)(t4:Int):iG (S.step T) t0 t3 t4=brk (decide (t4<(t0.length:Int))) (brk (decide (0≤t4)&&decide (t4<(t0.length:Int))) ((sW T (at_ (τ:=aa) t0 t4)).bind fun d20=>brk (decide (0≤t4)&&decide (t4<(t3.length:Int))) (iG T t0 (t3.set t4.toNat d20.1) (i64.wrap (t4+1))) none) none) (some (Sum.inl (t3,()))):=eL Tryz.func25 rfl (by kernel_rfl)
theorem yY (t0:List aa.den×Unit):mF (S.step T) t0=(nB T t0.1).bind fun d6=>some ((d6.1,()),ui):=eF Tryz.func9 (by kernel_rfl)
theorem zB (t0:Int):jx (S.step T) t0=brk (decide (1≤t0)) (some (decide (t0≤16),mf)) (some (false,mf)):=eF Tryz.func89 (by kernel_rfl)
theorem Bz (t0:List aa.den×Unit)(t1:aa.den)(t2:Int):bh (S.step T) t0 t1 t2=brk (decide (0≤t2)&&decide (t2<(t1.2.2.2.2.2.2.2.2.1.length:Int))) (brk (decide (0≤t1.2.2.2.2.2.2.2.2.1.getD t2.toNat 0)&&decide (t1.2.2.2.2.2.2.2.2.1.getD t2.toNat 0<(t0.1.length:Int))) (some ((at_ (τ:=aa) t0.1 (t1.2.2.2.2.2.2.2.2.1.getD t2.toNat 0)).1,gJ)) none) none:=eF Tryz.func157 (by kernel_rfl)
theorem zy (t0:aa.den)(t1:Bool)(t2:Bool)(t3:Bool)(t4:Bool):aP (S.step T) t0 t1 t2 t3 t4=brk (t1) (brk (t2) (brk (t3) (brk (t4) (some (true,aU)) (some (decide ((t0.2.2.2.2.2.2.2.1.length:Int)=0),aU))) (brk (decide (t0.2.2.2.2.2.2.1=([]:LI))) (brk (t4) (some (true,aU)) (some (decide ((t0.2.2.2.2.2.2.2.1.length:Int)=0),aU))) (some (false,aU)))) (brk (decide (t0.2.2.2.2.2.1=0)) (brk (t3) (brk (t4) (some (true,aU)) (some (decide ((t0.2.2.2.2.2.2.2.1.length:Int)=0),aU))) (brk (decide (t0.2.2.2.2.2.2.1=([]:LI))) (brk (t4) (some (true,aU)) (some (decide ((t0.2.2.2.2.2.2.2.1.length:Int)=0),aU))) (some (false,aU)))) (some (false,aU)))) (brk (decide (t0.2.2.2.2.1=0)) (brk (t2) (brk (t3) (brk (t4) (some (true,aU)) (some (decide ((t0.2.2.2.2.2.2.2.1.length:Int)=0),aU))) (brk (decide (t0.2.2.2.2.2.2.1=([]:LI))) (brk (t4) (some (true,aU)) (some (decide ((t0.2.2.2.2.2.2.2.1.length:Int)=0),aU))) (some (false,aU)))) (brk (decide (t0.2.2.2.2.2.1=0)) (brk (t3) (brk (t4) (some (true,aU)) (some (decide ((t0.2.2.2.2.2.2.2.1.length:Int)=0),aU))) (brk (decide (t0.2.2.2.2.2.2.1=([]:LI))) (brk (t4) (some (true,aU)) (some (decide ((t0.2.2.2.2.2.2.2.1.length:Int)=0),aU))) (some (false,aU)))) (some (false,aU)))) (some (false,aU))):=eF Tryz.func158 (by kernel_rfl)
theorem xe (t0:Int):ke (S.step T) t0=brk (decide (97≤t0)) (brk (decide (t0≤122)) (some (true,eO)) (brk (decide (65≤t0)) (brk (decide (t0≤90)) (some (true,eO)) (some (decide (t0=95),eO))) (some (decide (t0=95),eO)))) (brk (decide (65≤t0)) (brk (decide (t0≤90)) (some (true,eO)) (some (decide (t0=95),eO))) (some (decide (t0=95),eO))):=eF Tryz.func185 (by kernel_rfl)
theorem zu (t0:LI)(t1:Int):bU (S.step T) t0 t1=brk (decide (t1<(t0.length:Int))) (brk (decide (0≤t1)&&decide (t1<(t0.length:Int))) (some (t0.getD t1.toNat 0,p9)) none) (some (0,p9)):=eF Tryz.func184 (by kernel_rfl)
theorem yg (t0:Int):da (S.step T) t0=brk (decide (48≤t0)) (some (decide (t0≤57),oM)) (some (false,oM)):=eF Tryz.func187 (by kernel_rfl)
theorem yv:nC (S.step T)=some (([([97,110,100]:LI),([98,114,101,97,107]:LI),([99,97,116,99,104]:LI),([99,111,110,115,116]:LI),([100,101,102,101,114]:LI),([101,108,105,102]:LI),([101,108,115,101]:LI),([102,97,108,115,101]:LI),([102,110]:LI),([102,111,114]:LI),([105,102]:LI),([105,110]:LI),([108,101,116]:LI),([110,101,120,116]:LI),([110,105,108]:LI),([110,111,116]:LI),([111,114]:LI),([114,101,116,117,114,110]:LI),([116,104,114,111,119]:LI),([116,114,117,101]:LI),([116,114,121]:LI),([119,104,105,108,101]:LI)]:List LI),sx):=eF Tryz.func166 (by kernel_rfl)
theorem zF (t0:LI)(t1:aw.den):pE (S.step T) t0 t1=(eM T t0 t1 (0,0,0,0,0,([]:LI),()) t1.2.1).bind (aR (fun y2=>brk (bounds y2.1.length y2.2.1.2.1 y2.2.2.2.1) ((nC T).bind fun d32=>(eK T (1,y2.2.1.2.1,y2.2.2.2.1,y2.2.1.2.2.2) y2.2.2.1 (sub y2.1 y2.2.1.2.1 y2.2.2.2.1) d32.1 (d32.1.length:Int) 0).bind (bC (fun y8=>some (y8,pX)) (fun y8=>some (((y8.1.1,y8.1.2.1,y8.1.2.2.1,y8.1.2.2.2.1,y8.1.2.2.2.2.1,y8.2.2),(-1:Int),()),pX)))) none)):=eF Tryz.func186 (by kernel_rfl)
theorem pz (t0:LI)(t3:aw.den)(t4:aw.den)(t6:Int):eM (S.step T) t0 t3 t4 t6=(bU T t0 t6).bind fun d14=>(ke T d14.1).bind fun d15=>brk (d15.1) (eM T t0 t3 t4 (i64.wrap (t6+1))) ((bU T t0 t6).bind fun d19=>(da T d19.1).bind fun d20=>brk (d20.1) (eM T t0 t3 t4 (i64.wrap (t6+1))) (some (Sum.inl (t0,t3,t4,t6,())))):=eL Tryz.func186 rfl (by kernel_rfl)
theorem pw (t3:aw.den)(t4:aw.den)(t7:LI)(t32:List LI)(t33:Int)(t34:Int):eK (S.step T) t3 t4 t7 t32 t33 t34=brk (decide (t34<t33)) (brk (decide (0≤t34)&&decide (t34<(t32.length:Int))) (brk (decide ((t32.getD t34.toNat [])=t7)) (some (Sum.inl ((i64.wrap (10+t34),t3.2),(-1:Int),()))) (eK T t3 t4 t7 t32 t33 (i64.wrap (t34+1)))) none) (some (Sum.inr (Sum.inl (t3,t4,t7,())))):=eL Tryz.func186 rfl (by kernel_rfl)
theorem Bq (t0:Int):kC (S.step T) t0=(da T t0).bind fun d4=>brk (d4.1) (some (i64.wrap (u8.wrap (t0 - 48)),lr)) (brk (decide (97≤t0)) (brk (decide (t0≤102)) (some (i64.wrap ((i64.wrap (u8.wrap (t0 - 97)))+10),lr)) (some ((-1:Int),lr))) (some ((-1:Int),lr))):=eF Tryz.func228 (by kernel_rfl)
theorem ym (t0:LI)(t1:aw.den):nz (S.step T) t0 t1=(iI T t0 t1 (0,0,0,0,0,([]:LI),()) (i64.wrap (t1.2.1+2)) 0).bind (bC (fun y3=>some (y3,lf)) (fun y3=>brk (decide (y3.2.2.1=i64.wrap (y3.1.2.1+2))) (some ((y3.1,y3.2.2.1,()),lf)) (some (((y3.1.1,y3.1.2.1,y3.2.2.1,y3.1.2.2.2.1,i64.wrap y3.2.2.2.1,y3.1.2.2.2.2.2),(-1:Int),()),lf)))):=eF Tryz.func227 (by kernel_rfl)
theorem ix (t0:LI)(t3:aw.den)(t4:aw.den)(t6:Int)(t7:Int):iI (S.step T) t0 t3 t4 t6 t7=(bU T t0 t6).bind fun d13=>(kC T d13.1).bind fun d14=>brk (decide (0≤d14.1)) (brk (decide (i64.wrap (t6 - t3.2.1)=18)) (some (Sum.inl (t3,t6,()))) (brk (decide (0≤t6)&&decide (t6<(t0.length:Int))) ((kC T (t0.getD t6.toNat 0)).bind fun d28=>iI T t0 t3 t4 (i64.wrap (t6+1)) (u64.wrap ((u64.wrap (t7*16))+(u64.wrap d28.1)))) none)) (some (Sum.inr (Sum.inl (t3,t4,t6,t7,())))):=eL Tryz.func227 rfl (by kernel_rfl)
theorem lW (t0:LI)(t1:aw.den):pZ (S.step T) t0 t1=brk (decide (0≤t1.2.1)&&decide (t1.2.1<(t0.length:Int))) (brk (decide (t0.getD t1.2.1.toNat 0=48)) ((bU T t0 (i64.wrap (t1.2.1+1))).bind fun d20=>brk (decide (d20.1=120)) ((nz T t0 (2,t1.2)).bind fun d25=>some (d25.1,gw)) (brk (decide (0≤t1.2.1)&&decide (t1.2.1<(t0.length:Int))) (brk (!decide (t0.getD t1.2.1.toNat 0=48)) ((cZ T t0 (2,t1.2) (0,0,0,0,0,([]:LI),()) (i64.wrap (t1.2.1+1))).bind (aR (fun y7=>(c8 T y7.1 y7.2.1 y7.2.2.1 y7.2.2.2.1).bind (aR (fun y9=>some (y9,gw)))))) ((c8 T t0 (2,t1.2) (0,0,0,0,0,([]:LI),()) (i64.wrap (t1.2.1+1))).bind (aR (fun y9=>some (y9,gw))))) none)) (brk (decide (0≤t1.2.1)&&decide (t1.2.1<(t0.length:Int))) (brk (!decide (t0.getD t1.2.1.toNat 0=48)) ((cZ T t0 (2,t1.2) (0,0,0,0,0,([]:LI),()) (i64.wrap (t1.2.1+1))).bind (aR (fun y7=>(c8 T y7.1 y7.2.1 y7.2.2.1 y7.2.2.2.1).bind (aR (fun y9=>some (y9,gw)))))) ((c8 T t0 (2,t1.2) (0,0,0,0,0,([]:LI),()) (i64.wrap (t1.2.1+1))).bind (aR (fun y9=>some (y9,gw))))) none)) none:=eF Tryz.func188 (by kernel_rfl)
theorem jY (t0:LI)(t3:aw.den)(t4:aw.den)(t6:Int):c8 (S.step T) t0 t3 t4 t6=(bU T t0 t6).bind fun d43=>brk (decide (d43.1=46)) ((bU T t0 (i64.wrap (t6+1))).bind fun d49=>(da T d49.1).bind fun d50=>brk (d50.1) ((df T t0 (3,t3.2) t4 (i64.wrap (t6+1))).bind (aR (fun wN=>(bT T wN.1 wN.2.1 wN.2.2.1 wN.2.2.2.1).bind (aR (fun Hs=>some (Sum.inl Hs)))))) ((bT T t0 t3 t4 t6).bind (aR (fun Hs=>some (Sum.inl Hs))))) ((bT T t0 t3 t4 t6).bind (aR (fun Hs=>some (Sum.inl Hs)))):=eJ Tryz.func188 rfl (by kernel_rfl)
theorem mA (t0:LI)(t3:aw.den)(t4:aw.den)(t6:Int):bT (S.step T) t0 t3 t4 t6=(bU T t0 t6).bind fun d63=>brk (decide (d63.1=101)) ((bU T t0 (i64.wrap (t6+1))).bind fun d70=>brk (decide (d70.1=45)) ((bU T t0 (i64.wrap ((i64.wrap (t6+1))+1))).bind fun d82=>(da T d82.1).bind fun d83=>brk (!d83.1) (some (Sum.inl ((3,t3.2),i64.wrap ((i64.wrap (t6+1))+1),()))) ((bS T t0 (3,t3.2) t4 (i64.wrap ((i64.wrap (t6+1))+1))).bind (aR (fun qT=>(cK T qT.1 qT.2.1 qT.2.2.1 qT.2.2.2.1).bind (aR (fun Hw=>some (Sum.inl Hw))))))) ((bU T t0 (i64.wrap (t6+1))).bind fun d75=>brk (decide (d75.1=43)) ((bU T t0 (i64.wrap ((i64.wrap (t6+1))+1))).bind fun d82=>(da T d82.1).bind fun d83=>brk (!d83.1) (some (Sum.inl ((3,t3.2),i64.wrap ((i64.wrap (t6+1))+1),()))) ((bS T t0 (3,t3.2) t4 (i64.wrap ((i64.wrap (t6+1))+1))).bind (aR (fun qT=>(cK T qT.1 qT.2.1 qT.2.2.1 qT.2.2.2.1).bind (aR (fun Hw=>some (Sum.inl Hw))))))) ((bU T t0 (i64.wrap (t6+1))).bind fun d82=>(da T d82.1).bind fun d83=>brk (!d83.1) (some (Sum.inl ((3,t3.2),i64.wrap (t6+1),()))) ((bS T t0 (3,t3.2) t4 (i64.wrap (t6+1))).bind (aR (fun qT=>(cK T qT.1 qT.2.1 qT.2.2.1 qT.2.2.2.1).bind (aR (fun Hw=>some (Sum.inl Hw))))))))) ((cK T t0 t3 t4 t6).bind (aR (fun Hw=>some (Sum.inl Hw)))):=eJ Tryz.func188 rfl (by kernel_rfl)
theorem mq (t0:LI)(t3:aw.den)(t4:aw.den)(t6:Int):cK (S.step T) t0 t3 t4 t6=(bl T t0 (t3.1,t3.2.1,t6,t3.2.2.2) t4 t6 0 t3.2.1).bind (aR (fun ji=>brk (decide (ji.2.1.1=3)) (brk (bounds ji.1.length ji.2.1.2.1 ji.2.2.2.1) (some (Sum.inl ((ji.2.1.1,ji.2.1.2.1,ji.2.1.2.2.1,ji.2.1.2.2.2.1,ji.2.1.2.2.2.2.1,sub ji.1 ji.2.1.2.1 ji.2.2.2.1,()),(-1:Int),()))) none) (some (Sum.inl ((ji.2.1.1,ji.2.1.2.1,ji.2.1.2.2.1,ji.2.1.2.2.2.1,i64.wrap ji.2.2.2.2.1,ji.2.1.2.2.2.2.2),(-1:Int),()))))):=eJ Tryz.func188 rfl (by kernel_rfl)
theorem ng (t0:LI)(t3:aw.den)(t4:aw.den)(t6:Int):cZ (S.step T) t0 t3 t4 t6=(bU T t0 t6).bind fun d37=>(da T d37.1).bind fun d38=>brk (d38.1) (cZ T t0 t3 t4 (i64.wrap (t6+1))) (some (Sum.inl (t0,t3,t4,t6,()))):=eL Tryz.func188 rfl (by kernel_rfl)
theorem mo (t0:LI)(t3:aw.den)(t4:aw.den)(t6:Int):df (S.step T) t0 t3 t4 t6=(bU T t0 t6).bind fun d57=>(da T d57.1).bind fun d58=>brk (d58.1) (df T t0 t3 t4 (i64.wrap (t6+1))) (some (Sum.inl (t0,t3,t4,t6,()))):=eL Tryz.func188 rfl (by kernel_rfl)
theorem mw (t0:LI)(t3:aw.den)(t4:aw.den)(t6:Int):bS (S.step T) t0 t3 t4 t6=(bU T t0 t6).bind fun d89=>(da T d89.1).bind fun d90=>brk (d90.1) (bS T t0 t3 t4 (i64.wrap (t6+1))) (some (Sum.inl (t0,t3,t4,t6,()))):=eL Tryz.func188 rfl (by kernel_rfl)
theorem dV (t0:LI)(t3:aw.den)(t4:aw.den)(t6:Int)(t7:Int)(t8:Int):bl (S.step T) t0 t3 t4 t6 t7 t8=brk (decide (t8<t6)) (brk (decide (t3.1=2)) (brk (decide (922337203685477580<t7)) (brk (decide (0≤t8)&&decide (t8<(t0.length:Int))) (bl T t0 (3,t3.2) t4 t6 (u64.wrap ((u64.wrap (t7*10))+(u64.wrap (u8.wrap ((t0.getD t8.toNat 0) - 48))))) (i64.wrap (t8+1))) none) (brk (decide (t7=922337203685477580)) (brk (decide (0≤t8)&&decide (t8<(t0.length:Int))) (brk (decide (55<t0.getD t8.toNat 0)) (brk (decide (0≤t8)&&decide (t8<(t0.length:Int))) (bl T t0 (3,t3.2) t4 t6 (u64.wrap ((u64.wrap (t7*10))+(u64.wrap (u8.wrap ((t0.getD t8.toNat 0) - 48))))) (i64.wrap (t8+1))) none) (brk (decide (0≤t8)&&decide (t8<(t0.length:Int))) (bl T t0 t3 t4 t6 (u64.wrap ((u64.wrap (t7*10))+(u64.wrap (u8.wrap ((t0.getD t8.toNat 0) - 48))))) (i64.wrap (t8+1))) none)) none) (brk (decide (0≤t8)&&decide (t8<(t0.length:Int))) (bl T t0 t3 t4 t6 (u64.wrap ((u64.wrap (t7*10))+(u64.wrap (u8.wrap ((t0.getD t8.toNat 0) - 48))))) (i64.wrap (t8+1))) none))) (some (Sum.inl (t0,t3,t4,t6,t7,())))) (some (Sum.inl (t0,t3,t4,t6,t7,()))):=eL Tryz.func188 rfl (by kernel_rfl)
theorem w9 (t0:LI)(t1:aw.den):mi (S.step T) t0 t1=(aM T t0 (4,t1.2) (0,0,0,0,0,([]:LI),()) (i64.wrap (t1.2.1+1)) []).bind (bC (fun y4=>some (y4,mS)) (fun y4=>some ((y4.1,y4.2.2),mS))):=eF Tryz.func189 (by kernel_rfl)
theorem jn (t0:LI)(t3:aw.den)(t4:aw.den)(t6:Int)(t7:LI)(t46:Int)(t59:Bool):eG (S.step T) t0 t3 t4 t6 t7 t46 t59=brk (t59) (brk (decide (0≤t6)&&decide (t6<(t0.length:Int))) (brk (fits (t7.length+([t0.getD t6.toNat 0]:LI).length)) (some (Sum.inl (t0,t3,t4,t6,t7++([t0.getD t6.toNat 0]:LI),()))) none) none) (brk (decide (t46=120)) ((fz T t0 t3 t4 t6 t7 1).bind (bC (fun Bk=>some (Sum.inr (Sum.inl Bk))) (fun Bk=>brk (decide (0≤i64.wrap (Bk.2.2.2.1+1))&&decide (i64.wrap (Bk.2.2.2.1+1)<(Bk.1.length:Int))) ((kC T (Bk.1.getD ((i64.wrap (Bk.2.2.2.1+1)).toNat) 0)).bind fun d90=>brk (decide (0≤i64.wrap (Bk.2.2.2.1+2))&&decide (i64.wrap (Bk.2.2.2.1+2)<(Bk.1.length:Int))) ((kC T (Bk.1.getD ((i64.wrap (Bk.2.2.2.1+2)).toNat) 0)).bind fun d96=>brk (fits (Bk.2.2.2.2.1.length+([u8.wrap (i64.wrap ((i64.wrap (16*d90.1))+d96.1))]:LI).length)) (some (Sum.inl (Bk.1,Bk.2.1,Bk.2.2.1,i64.wrap (Bk.2.2.2.1+2),Bk.2.2.2.2.1++([u8.wrap (i64.wrap ((i64.wrap (16*d90.1))+d96.1))]:LI),()))) none) none) none))) (some (Sum.inr (Sum.inl (t3,t6,()))))):=eJ Tryz.func189 rfl (by kernel_rfl)
theorem eN (t0:LI)(t3:aw.den)(t4:aw.den)(t6:Int)(t7:LI):aM (S.step T) t0 t3 t4 t6 t7=brk (decide (t6<(t0.length:Int))) (brk (decide (0≤t6)&&decide (t6<(t0.length:Int))) (brk (decide (t0.getD t6.toNat 0=34)) (some (Sum.inl ((t3.1,t3.2.1,i64.wrap (t6+1),t3.2.2.2.1,t3.2.2.2.2.1,t7.map byte,()),(-1:Int),()))) (brk (decide (t0.getD t6.toNat 0=10)) (some (Sum.inl (t3,t6,()))) (brk (!decide (t0.getD t6.toNat 0=92)) (brk (fits (t7.length+([t0.getD t6.toNat 0]:LI).length)) (aM T t0 t3 t4 (i64.wrap (t6+1)) (t7++([t0.getD t6.toNat 0]:LI))) none) ((bU T t0 (i64.wrap (t6+1))).bind fun d46=>brk (decide (d46.1=110)) (brk (fits (t7.length+1)) (aM T t0 t3 t4 (i64.wrap ((i64.wrap (t6+1))+1)) (t7++([10]:LI))) none) (brk (decide (d46.1=116)) (brk (fits (t7.length+1)) (aM T t0 t3 t4 (i64.wrap ((i64.wrap (t6+1))+1)) (t7++([9]:LI))) none) (brk (decide (d46.1=34)) ((eG T t0 t3 t4 (i64.wrap (t6+1)) t7 d46.1 (decide (d46.1=34))).bind (bC (fun A8=>aM T A8.1 A8.2.1 A8.2.2.1 (i64.wrap (A8.2.2.2.1+1)) A8.2.2.2.2.1) (fun A8=>some (Sum.inl A8)))) ((eG T t0 t3 t4 (i64.wrap (t6+1)) t7 d46.1 (decide (d46.1=92))).bind (bC (fun A8=>aM T A8.1 A8.2.1 A8.2.2.1 (i64.wrap (A8.2.2.2.1+1)) A8.2.2.2.2.1) (fun A8=>some (Sum.inl A8)))))))))) none) (some (Sum.inr (Sum.inl (t3,t4,t6,())))):=eL Tryz.func189 rfl (by kernel_rfl)
theorem jo (t0:LI)(t3:aw.den)(t4:aw.den)(t6:Int)(t7:LI)(t9:Int):fz (S.step T) t0 t3 t4 t6 t7 t9=brk (decide (t9<3)) ((bU T t0 (i64.wrap (t6+t9))).bind fun d78=>(kC T d78.1).bind fun d79=>brk (decide (d79.1<0)) (some (Sum.inl (t3,i64.wrap (t6+t9),()))) (fz T t0 t3 t4 t6 t7 (i64.wrap (t9+1)))) (some (Sum.inr (Sum.inl (t0,t3,t4,t6,t7,())))):=eL Tryz.func189 rfl (by kernel_rfl)
theorem yt:jP (S.step T)=some (([([46,46,46]:LI),([46,46]:LI),([46]:LI),([60,60]:LI),([60,61]:LI),([60]:LI),([62,62]:LI),([62,61]:LI),([62]:LI),([61,61]:LI),([61]:LI),([126,61]:LI),([126]:LI),([47,47]:LI),([47]:LI),([40]:LI),([41]:LI),([123]:LI),([125]:LI),([91]:LI),([93]:LI),([44]:LI),([59]:LI),([35]:LI),([43]:LI),([45]:LI),([42]:LI),([37]:LI),([38]:LI),([124]:LI)]:List LI),sw):=eF Tryz.func167 (by kernel_rfl)
theorem zz (t0:LI):gM (S.step T) t0=(dB T t0 ([([]:LI),([43]:LI),([45]:LI),([42]:LI),([47]:LI),([47,47]:LI),([37]:LI),([38]:LI),([124]:LI),([126]:LI),([60,60]:LI),([62,62]:LI),([46,46]:LI),([61,61]:LI),([126,61]:LI),([60]:LI),([60,61]:LI),([62]:LI),([62,61]:LI)]:List LI) 1).bind (bC (fun y3=>some (y3.1,fT)) (fun y3=>(eI T y3.1 ([([40]:LI),([41]:LI),([123]:LI),([125]:LI),([91]:LI),([93]:LI),([44]:LI),([61]:LI),([46]:LI),([46,46,46]:LI),([35]:LI)]:List LI) (([([40]:LI),([41]:LI),([123]:LI),([125]:LI),([91]:LI),([93]:LI),([44]:LI),([61]:LI),([46]:LI),([46,46,46]:LI),([35]:LI)]:List LI).length:Int) 0).bind (bC (fun y9=>some (y9.1,fT)) (fun y9=>some (5,fT))))):=eF Tryz.func168 (by kernel_rfl)
theorem pf (t0:LI)(t3:List LI)(t4:Int):dB (S.step T) t0 t3 t4=brk (decide (t4<(t3.length:Int))) (brk (decide (0≤t4)&&decide (t4<(t3.length:Int))) (brk (decide ((t3.getD t4.toNat [])=t0)) (some (Sum.inl (i64.wrap (60+t4),()))) (dB T t0 t3 (i64.wrap (t4+1)))) none) (some (Sum.inr (Sum.inl (t0,())))):=eL Tryz.func168 rfl (by kernel_rfl)
theorem pA (t0:LI)(t24:List LI)(t25:Int)(t26:Int):eI (S.step T) t0 t24 t25 t26=brk (decide (t26<t25)) (brk (decide (0≤t26)&&decide (t26<(t24.length:Int))) (brk (decide ((t24.getD t26.toNat [])=t0)) (some (Sum.inl (i64.wrap (40+t26),()))) (eI T t0 t24 t25 (i64.wrap (t26+1)))) none) (some (Sum.inr (Sum.inl ()))):=eL Tryz.func168 rfl (by kernel_rfl)
theorem zH (t0:LI)(t1:Int):gL (S.step T) t0 t1=brk (decide (0≤t1)&&decide (t1<(t0.length:Int))) (brk (decide (t0.getD t1.toNat 0=10)) (some (((7,t1,i64.wrap (t1+1),0,0,([]:LI),()),(-1:Int),()),gR)) ((ke T (t0.getD t1.toNat 0)).bind fun d23=>brk (d23.1) ((pE T t0 (0,t1,0,0,0,([]:LI),())).bind fun d26=>some (d26.1,gR)) ((da T (t0.getD t1.toNat 0)).bind fun d30=>brk (d30.1) ((pZ T t0 (0,t1,0,0,0,([]:LI),())).bind fun d33=>some (d33.1,gR)) (brk (decide (t0.getD t1.toNat 0=34)) ((mi T t0 (0,t1,0,0,0,([]:LI),())).bind fun d40=>some (d40.1,gR)) ((jP T).bind fun d43=>(cT T t0 t1 (0,0,0,0,0,([]:LI),()) (0,t1,0,0,0,([]:LI),()) d43.1 (d43.1.length:Int) 0).bind (bC (fun Hs=>some (Hs,gR)) (fun Hs=>some ((Hs.2.2.1,Hs.1,()),gR)))))))) none:=eF Tryz.func115 (by kernel_rfl)
theorem ou (t0:LI)(t1:Int)(t4:aw.den)(t6:aw.den)(t43:List LI)(t44:Int)(t45:Int):cT (S.step T) t0 t1 t4 t6 t43 t44 t45=brk (decide (t45<t44)) (brk (decide (0≤t45)&&decide (t45<(t43.length:Int))) (brk (decide (((t43.getD t45.toNat []).length:Int)≤i64.wrap ((t0.length:Int) - t1))) (brk (bounds t0.length t1 (i64.wrap (t1+((t43.getD t45.toNat []).length:Int)))) (brk (decide ((sub t0 t1 (i64.wrap (t1+((t43.getD t45.toNat []).length:Int))))=(t43.getD t45.toNat []))) ((gM T (t43.getD t45.toNat [])).bind fun d68=>some (Sum.inl ((d68.1,t6.2.1,i64.wrap (t1+((t43.getD t45.toNat []).length:Int)),t6.2.2.2),(-1:Int),()))) (cT T t0 t1 t4 t6 t43 t44 (i64.wrap (t45+1)))) none) (cT T t0 t1 t4 t6 t43 t44 (i64.wrap (t45+1)))) none) (some (Sum.inr (Sum.inl (t1,t4,t6,())))):=eL Tryz.func115 rfl (by kernel_rfl)
theorem lV (t0:LI):eX (S.step T) t0=brk (decide ((t0.length:Int)=0)) (some (false,dL)) (brk (decide (40<(t0.length:Int))) (some (false,dL)) (brk (decide (0<(t0.length:Int))) ((ke T (t0.getD 0 0)).bind fun d16=>brk (!d16.1) (some (false,dL)) ((gL T t0 0).bind fun d21=>brk (decide (d21.1.2.1<0)) (brk (decide (d21.1.1.1=1)) (some (decide (d21.1.1.2.2.1=(t0.length:Int)),dL)) (some (false,dL))) (some (false,dL)))) none)):=eF Tryz.func163 (by kernel_rfl)
theorem yq (t0:aa.den)(t1:Int)(t2:Int):eZ (S.step T) t0 t1 t2=brk (decide ((t0.2.2.2.2.2.2.2.1.length:Int)<t1)) (some (false,hZ)) (brk (decide (t2<(t0.2.2.2.2.2.2.2.1.length:Int))) (some (false,hZ)) ((dP T t0.2.2.2.2.2.2.2.1 (t0.2.2.2.2.2.2.2.1.length:Int) 0).bind (bC (fun y4=>some (y4.1,hZ)) (fun y4=>some (true,hZ))))):=eF Tryz.func159 (by kernel_rfl)
theorem oB (t22:List LI)(t23:Int)(t24:Int):dP (S.step T) t22 t23 t24=brk (decide (t24<t23)) (brk (decide (0≤t24)&&decide (t24<(t22.length:Int))) ((eX T (t22.getD t24.toNat [])).bind fun d29=>brk (!d29.1) (some (Sum.inl (false,()))) (dP T t22 t23 (i64.wrap (t24+1)))) none) (some (Sum.inr (Sum.inl ()))):=eL Tryz.func159 rfl (by kernel_rfl)
theorem zE (t0:Int):sH (S.step T) t0=brk (decide (20≤t0)) (some (decide (t0≤37),qc)) (some (false,qc)):=eF Tryz.func221 (by kernel_rfl)
theorem yh (t0:List aa.den×Unit)(t1:aa.den)(t2:Int)(t3:Int):aN (S.step T) t0 t1 t2 t3=(kr T t3 t0 t1 t2).bind (bC (fun y2=>some (y2.1,bI)) (fun y2=>some (true,bI))):=eF Tryz.func160 (by kernel_rfl)
theorem oe (t3:Int)(t4:List aa.den×Unit)(t5:aa.den)(t9:Int):kr (S.step T) t3 t4 t5 t9=brk (decide (t9<t3)) (brk (decide (0≤t9)&&decide (t9<(t5.2.2.2.2.2.2.2.2.1.length:Int))) (brk (decide (0≤t5.2.2.2.2.2.2.2.2.1.getD t9.toNat 0)&&decide (t5.2.2.2.2.2.2.2.2.1.getD t9.toNat 0<(t4.1.length:Int))) ((sH T (at_ (τ:=aa) t4.1 (t5.2.2.2.2.2.2.2.2.1.getD t9.toNat 0)).1).bind fun d26=>brk (!d26.1) (some (Sum.inl (false,()))) (kr T t3 t4 t5 (i64.wrap (t9+1)))) none) none) (some (Sum.inr (Sum.inl ()))):=eL Tryz.func160 rfl (by kernel_rfl)
theorem wV (t0:Int):qg (S.step T) t0=brk (decide (t0=26)) (some (true,ku)) (brk (decide (t0=32)) (some (true,ku)) (some (decide (t0=33),ku))):=eF Tryz.func161 (by kernel_rfl)
theorem tG (t0:List aa.den×Unit)(t1:aa.den):jJ (S.step T) t0 t1=brk (decide (t1.1=1)) ((bW T t0 t1 (t1.2.2.2.2.2.2.2.2.1.length:Int) 0).bind (bC (fun y5=>some (y5.1,az)) (fun y5=>(aP T y5.1 false false false false).bind fun d29=>some (d29.1,az)))) (brk (decide (t1.1=2)) ((aP T t1 false false false true).bind fun d33=>brk (d33.1) ((eZ T t1 1 200).bind fun d36=>brk (d36.1) ((aN T t0 t1 0 (t1.2.2.2.2.2.2.2.2.1.length:Int)).bind fun d42=>some (d42.1,az)) (some (false,az))) (some (false,az))) (brk (decide (t1.1=3)) ((aP T t1 false false false true).bind fun d47=>brk (d47.1) ((eZ T t1 1 1).bind fun d50=>brk (d50.1) (brk (decide ((t1.2.2.2.2.2.2.2.2.1.length:Int)=1)) ((aN T t0 t1 0 1).bind fun d59=>some (d59.1,az)) (some (false,az))) (some (false,az))) (some (false,az))) (brk (decide (t1.1=4)) ((aP T t1 false false false true).bind fun d64=>brk (d64.1) ((eZ T t1 1 1).bind fun d67=>brk (d67.1) (brk (decide ((t1.2.2.2.2.2.2.2.2.1.length:Int)=1)) ((bh T t0 t1 0).bind fun d76=>some (decide (d76.1=36),az)) (some (false,az))) (some (false,az))) (some (false,az))) (brk (decide (t1.1=5)) ((aP T t1 false true false false).bind fun d82=>brk (!d82.1) (some (false,az)) (brk (decide (t1.2.2.2.2.2.1<1)) (some (false,az)) (brk (decide ((t1.2.2.2.2.2.2.2.2.1.length:Int)≤t1.2.2.2.2.2.1)) (some (false,az)) ((bR T t0 t1 (t1.2.2.2.2.2.2.2.2.1.length:Int) 0).bind (bC (fun qT=>some (qT.1,az)) (fun qT=>(aN T qT.1 qT.2.1 qT.2.1.2.2.2.2.2.1 qT.2.2.1).bind fun d112=>some (d112.1,az))))))) (brk (decide (t1.1=6)) ((fb T t0 t1 (t1.2.2.2.2.2.2.2.2.1.length:Int) t1.1 (decide (t1.1=6))).bind (bC (fun CA=>some (CA.1,az)) (fun CA=>(cO T CA.1 CA.2.1 CA.2.2.1).bind (aR (fun gi=>some (gi.1,az)))))) ((fb T t0 t1 (t1.2.2.2.2.2.2.2.2.1.length:Int) t1.1 (decide (t1.1=16))).bind (bC (fun CA=>some (CA.1,az)) (fun CA=>(cO T CA.1 CA.2.1 CA.2.2.1).bind (aR (fun gi=>some (gi.1,az))))))))))):=eF Tryz.func90 (by kernel_rfl)
theorem qv (t2:List aa.den×Unit)(t3:aa.den)(t5:Int)(t12:Int)(t113:Bool):fb (S.step T) t2 t3 t5 t12 t113=brk (t113) ((aP T t3 false false false false).bind fun d117=>brk (d117.1) (brk (decide (t5=1)) ((bh T t2 t3 0).bind fun d125=>some (Sum.inl (decide (d125.1=34),()))) (some (Sum.inl (false,())))) (some (Sum.inl (false,())))) (brk (decide (t12=7)) ((aP T t3 false false false false).bind fun d131=>brk (!d131.1) (some (Sum.inl (false,()))) (brk (decide (t5<2)) (some (Sum.inl (false,()))) (brk (decide (3<t5)) (some (Sum.inl (false,()))) ((aN T t2 t3 0 1).bind fun d144=>brk (!d144.1) (some (Sum.inl (false,()))) ((bh T t2 t3 1).bind fun d150=>brk (!decide (d150.1=1)) (some (Sum.inl (false,()))) (brk (decide (t5=2)) (some (Sum.inl (true,()))) ((bh T t2 t3 2).bind fun d158=>brk (decide (d158.1=1)) (some (Sum.inl (true,()))) ((bh T t2 t3 2).bind fun d164=>some (Sum.inl (decide (d164.1=7),())))))))))) (brk (decide (t12=8)) ((aP T t3 false false false false).bind fun d170=>brk (d170.1) (brk (decide (t5=2)) ((aN T t2 t3 0 1).bind fun d178=>brk (d178.1) ((bh T t2 t3 1).bind fun d183=>some (Sum.inl (decide (d183.1=1),()))) (some (Sum.inl (false,())))) (some (Sum.inl (false,())))) (some (Sum.inl (false,())))) (brk (decide (t12=9)) ((aP T t3 false false false true).bind fun d189=>brk (d189.1) ((eZ T t3 1 1).bind fun d192=>brk (d192.1) (brk (decide (t5=3)) ((aN T t2 t3 0 (i64.wrap (t5 - 1))).bind fun d207=>brk (d207.1) ((bh T t2 t3 (i64.wrap (t5 - 1))).bind fun d214=>some (Sum.inl (decide (d214.1=1),()))) (some (Sum.inl (false,())))) (brk (decide (t5=4)) ((aN T t2 t3 0 (i64.wrap (t5 - 1))).bind fun d207=>brk (d207.1) ((bh T t2 t3 (i64.wrap (t5 - 1))).bind fun d214=>some (Sum.inl (decide (d214.1=1),()))) (some (Sum.inl (false,())))) (some (Sum.inl (false,()))))) (some (Sum.inl (false,())))) (some (Sum.inl (false,())))) (brk (decide (t12=10)) ((aP T t3 false false false true).bind fun d220=>brk (d220.1) ((eZ T t3 1 200).bind fun d223=>brk (d223.1) (brk (decide (t5=2)) ((aN T t2 t3 0 1).bind fun d232=>brk (d232.1) ((bh T t2 t3 1).bind fun d237=>some (Sum.inl (decide (d237.1=1),()))) (some (Sum.inl (false,())))) (some (Sum.inl (false,())))) (some (Sum.inl (false,())))) (some (Sum.inl (false,())))) (brk (decide (t12=11)) ((dX T t2 t3 t5 t12 (decide (t12=11))).bind (bC (fun OE=>some (Sum.inl OE)) (fun OE=>some (Sum.inr (Sum.inl OE))))) ((dX T t2 t3 t5 t12 (decide (t12=12))).bind (bC (fun OE=>some (Sum.inl OE)) (fun OE=>some (Sum.inr (Sum.inl OE)))))))))):=eJ Tryz.func90 rfl (by kernel_rfl)
theorem qu (t2:List aa.den×Unit)(t3:aa.den)(t5:Int)(t12:Int)(t240:Bool):dX (S.step T) t2 t3 t5 t12 t240=brk (t240) ((aP T t3 false false false false).bind fun d244=>brk (d244.1) (some (Sum.inl (decide (t5=0),()))) (some (Sum.inl (false,())))) (brk (decide (t12=13)) ((aP T t3 false false false false).bind fun d252=>brk (d252.1) ((aN T t2 t3 0 t5).bind fun d257=>some (Sum.inl (d257.1,()))) (some (Sum.inl (false,())))) (brk (decide (t12=14)) ((aP T t3 false false false true).bind fun d262=>brk (d262.1) ((eZ T t3 1 2).bind fun d265=>brk (d265.1) (brk (decide (t5=2)) ((bh T t2 t3 0).bind fun d274=>brk (decide (d274.1=1)) ((bh T t2 t3 1).bind fun d280=>some (Sum.inl (decide (d280.1=1),()))) (some (Sum.inl (false,())))) (some (Sum.inl (false,())))) (some (Sum.inl (false,())))) (some (Sum.inl (false,())))) (some (Sum.inr (Sum.inl (t2,t3,t5,())))))):=eJ Tryz.func90 rfl (by kernel_rfl)
theorem qt (t2:List aa.den×Unit)(t3:aa.den)(t5:Int):cO (S.step T) t2 t3 t5=brk (decide (t3.1=15)) ((aP T t3 false false false false).bind fun d288=>brk (d288.1) (brk (decide (t5=1)) ((aN T t2 t3 0 1).bind fun d297=>some (Sum.inl (d297.1,()))) (some (Sum.inl (false,())))) (some (Sum.inl (false,())))) (some (Sum.inl (false,()))):=eJ Tryz.func90 rfl (by kernel_rfl)
theorem kZ (t2:List aa.den×Unit)(t3:aa.den)(t17:Int)(t18:Int):bW (S.step T) t2 t3 t17 t18=brk (decide (t18<t17)) ((bh T t2 t3 t18).bind fun d24=>(jx T d24.1).bind fun d25=>brk (!d25.1) (some (Sum.inl (false,()))) (bW T t2 t3 t17 (i64.wrap (t18+1)))) (some (Sum.inr (Sum.inl (t3,())))):=eL Tryz.func90 rfl (by kernel_rfl)
theorem kK (t2:List aa.den×Unit)(t3:aa.den)(t5:Int)(t7:Int):bR (S.step T) t2 t3 t5 t7=brk (decide (t7<t3.2.2.2.2.2.1)) ((bh T t2 t3 t7).bind fun d104=>(qg T d104.1).bind fun d105=>brk (!d105.1) (some (Sum.inl (false,()))) (bR T t2 t3 t5 (i64.wrap (t7+1)))) (some (Sum.inr (Sum.inl (t2,t3,t5,())))):=eL Tryz.func90 rfl (by kernel_rfl)
theorem mP (t0:LI):lz (S.step T) t0=brk (decide ((t0.length:Int)=0)) (some (false,fe)) (brk (decide (40<(t0.length:Int))) (some (false,fe)) (brk (decide (0<(t0.length:Int))) ((da T (t0.getD 0 0)).bind fun d16=>brk (!d16.1) (some (false,fe)) ((gL T t0 0).bind fun d21=>brk (decide (d21.1.2.1<0)) (brk (decide (d21.1.1.1=3)) (some (decide (d21.1.1.2.2.1=(t0.length:Int)),fe)) (some (false,fe))) (some (false,fe)))) none)):=eF Tryz.func162 (by kernel_rfl)
theorem sj (t0:List aa.den×Unit)(t1:aa.den):jc (S.step T) t0 t1=brk (decide (t1.1=20)) ((cP T t0 t1 (t1.2.2.2.2.2.2.2.2.1.length:Int) t1.1 (decide (t1.1=20))).bind (bC (fun y7=>some (y7.1,bq)) (fun y7=>(bK T y7.1 y7.2.1 y7.2.2.1).bind (aR (fun gi=>some (gi.1,bq)))))) (brk (decide (t1.1=21)) ((cP T t0 t1 (t1.2.2.2.2.2.2.2.2.1.length:Int) t1.1 (decide (t1.1=21))).bind (bC (fun y7=>some (y7.1,bq)) (fun y7=>(bK T y7.1 y7.2.1 y7.2.2.1).bind (aR (fun gi=>some (gi.1,bq)))))) (brk (decide (t1.1=22)) ((cP T t0 t1 (t1.2.2.2.2.2.2.2.2.1.length:Int) t1.1 (decide (t1.1=22))).bind (bC (fun y7=>some (y7.1,bq)) (fun y7=>(bK T y7.1 y7.2.1 y7.2.2.1).bind (aR (fun gi=>some (gi.1,bq)))))) ((cP T t0 t1 (t1.2.2.2.2.2.2.2.2.1.length:Int) t1.1 (decide (t1.1=27))).bind (bC (fun y7=>some (y7.1,bq)) (fun y7=>(bK T y7.1 y7.2.1 y7.2.2.1).bind (aR (fun gi=>some (gi.1,bq)))))))):=eF Tryz.func91 (by kernel_rfl)
theorem qp (t2:List aa.den×Unit)(t3:aa.den)(t5:Int)(t12:Int)(t13:Bool):cP (S.step T) t2 t3 t5 t12 t13=brk (t13) (brk (decide (t5=0)) ((aP T t3 false false false false).bind fun d22=>some (Sum.inl (d22.1,()))) (some (Sum.inl (false,())))) (brk (decide (t12=23)) (brk (decide (t5=0)) ((aP T t3 false true false false).bind fun d30=>some (Sum.inl (d30.1,()))) (some (Sum.inl (false,())))) (brk (decide (t12=24)) (brk (decide (t5=0)) ((aP T t3 false false true false).bind fun d38=>brk (d38.1) ((lz T t3.2.2.2.2.2.2.1).bind fun d43=>some (Sum.inl (d43.1,()))) (some (Sum.inl (false,())))) (some (Sum.inl (false,())))) (brk (decide (t12=25)) (brk (decide (t5=0)) ((aP T t3 false false true false).bind fun d51=>brk (d51.1) (some (Sum.inl (decide ((t3.2.2.2.2.2.2.1.length:Int)≤4000),()))) (some (Sum.inl (false,())))) (some (Sum.inl (false,())))) (brk (decide (t12=26)) (brk (decide (t5=0)) ((aP T t3 false false true false).bind fun d65=>brk (d65.1) ((eX T t3.2.2.2.2.2.2.1).bind fun d70=>some (Sum.inl (d70.1,()))) (some (Sum.inl (false,())))) (some (Sum.inl (false,())))) (brk (decide (t12=28)) ((dw T t2 t3 t5 t12 (decide (t12=28))).bind (bC (fun Ml=>some (Sum.inl Ml)) (fun Ml=>some (Sum.inr (Sum.inl Ml))))) ((dw T t2 t3 t5 t12 (decide (t12=29))).bind (bC (fun Ml=>some (Sum.inl Ml)) (fun Ml=>some (Sum.inr (Sum.inl Ml)))))))))):=eJ Tryz.func91 rfl (by kernel_rfl)
theorem pR (t2:List aa.den×Unit)(t3:aa.den)(t5:Int)(t12:Int)(t72:Bool):dw (S.step T) t2 t3 t5 t12 t72=brk (t72) (brk (decide (t5=2)) ((aN T t2 t3 0 2).bind fun d80=>brk (d80.1) ((aP T t3 false false false false).bind fun d84=>some (Sum.inl (d84.1,()))) (some (Sum.inl (false,())))) (some (Sum.inl (false,())))) (brk (decide (t12=32)) (brk (decide (t5=2)) ((aN T t2 t3 0 2).bind fun d93=>brk (d93.1) ((bh T t2 t3 0).bind fun d98=>brk (!decide (d98.1=27)) ((aP T t3 false false false false).bind fun d103=>some (Sum.inl (d103.1,()))) (some (Sum.inl (false,())))) (some (Sum.inl (false,())))) (some (Sum.inl (false,())))) (brk (decide (t12=30)) (brk (decide (t5=1)) ((aN T t2 t3 0 1).bind fun d112=>brk (d112.1) ((aP T t3 true false false false).bind fun d116=>brk (d116.1) (brk (decide (19≤t3.2.2.2.2.1)) (some (Sum.inl (decide (t3.2.2.2.2.1≤22),()))) (some (Sum.inl (false,())))) (some (Sum.inl (false,())))) (some (Sum.inl (false,())))) (some (Sum.inl (false,())))) (brk (decide (t12=31)) (brk (decide (t5=2)) ((aN T t2 t3 0 2).bind fun d135=>brk (d135.1) ((aP T t3 true false false false).bind fun d139=>brk (d139.1) (brk (decide (1≤t3.2.2.2.2.1)) (some (Sum.inl (decide (t3.2.2.2.2.1≤18),()))) (some (Sum.inl (false,())))) (some (Sum.inl (false,())))) (some (Sum.inl (false,())))) (some (Sum.inl (false,())))) (brk (decide (t12=33)) (brk (decide (t5=1)) ((aN T t2 t3 0 1).bind fun d158=>brk (d158.1) ((bh T t2 t3 0).bind fun d163=>brk (!decide (d163.1=27)) ((aP T t3 false false true false).bind fun d168=>brk (d168.1) ((eX T t3.2.2.2.2.2.2.1).bind fun d173=>some (Sum.inl (d173.1,()))) (some (Sum.inl (false,())))) (some (Sum.inl (false,())))) (some (Sum.inl (false,())))) (some (Sum.inl (false,())))) (brk (decide (t12=34)) (brk (decide (1≤t5)) ((aN T t2 t3 0 t5).bind fun d183=>brk (d183.1) ((bh T t2 t3 0).bind fun d188=>brk (!decide (d188.1=27)) ((aP T t3 false false false false).bind fun d193=>some (Sum.inl (d193.1,()))) (some (Sum.inl (false,())))) (some (Sum.inl (false,())))) (some (Sum.inl (false,())))) (brk (decide (t12=35)) ((bJ T t2 t3 (t3.2.2.2.2.2.2.2.2.1.length:Int) 0).bind (bC (fun BP=>some (Sum.inl BP)) (fun BP=>(aP T BP.1 false false false false).bind fun d215=>some (Sum.inl (d215.1,()))))) (brk (decide (t12=36)) (brk (decide (t5=1)) ((bh T t2 t3 0).bind fun d223=>brk (decide (d223.1=1)) ((aP T t3 true false false true).bind fun d228=>brk (d228.1) ((eZ T t3 0 200).bind fun d232=>brk (d232.1) (brk (decide (t3.2.2.2.2.1=0)) (some (Sum.inl (true,()))) (some (Sum.inl (decide (t3.2.2.2.2.1=1),())))) (some (Sum.inl (false,())))) (some (Sum.inl (false,())))) (some (Sum.inl (false,())))) (some (Sum.inl (false,())))) (brk (decide (t12=37)) (brk (decide (t5=1)) ((bh T t2 t3 0).bind fun d251=>brk (decide (d251.1=34)) ((aP T t3 false false false false).bind fun d262=>some (Sum.inl (d262.1,()))) ((bh T t2 t3 0).bind fun d256=>brk (decide (d256.1=27)) ((aP T t3 false false false false).bind fun d262=>some (Sum.inl (d262.1,()))) (some (Sum.inl (false,()))))) (some (Sum.inl (false,())))) (brk (decide (t12=40)) (brk (decide (t5=1)) ((aN T t2 t3 0 1).bind fun d271=>brk (d271.1) ((aP T t3 false false false false).bind fun d275=>some (Sum.inl (d275.1,()))) (some (Sum.inl (false,())))) (some (Sum.inl (false,())))) (brk (decide (t12=41)) (brk (decide (t5=2)) ((aN T t2 t3 0 2).bind fun d284=>brk (d284.1) ((aP T t3 false false false false).bind fun d288=>some (Sum.inl (d288.1,()))) (some (Sum.inl (false,())))) (some (Sum.inl (false,())))) (some (Sum.inr (Sum.inl (t2,t3,t5,())))))))))))))):=eJ Tryz.func91 rfl (by kernel_rfl)
theorem pW (t2:List aa.den×Unit)(t3:aa.den)(t5:Int):bK (S.step T) t2 t3 t5=brk (decide (t3.1=42)) (brk (decide (t5=1)) ((aN T t2 t3 0 1).bind fun d300=>brk (d300.1) ((aP T t3 false false true false).bind fun d304=>brk (d304.1) ((eX T t3.2.2.2.2.2.2.1).bind fun d309=>some (Sum.inl (d309.1,()))) (some (Sum.inl (false,())))) (some (Sum.inl (false,())))) (some (Sum.inl (false,())))) (some (Sum.inl (false,()))):=eJ Tryz.func91 rfl (by kernel_rfl)
theorem j8 (t2:List aa.den×Unit)(t3:aa.den)(t199:Int)(t200:Int):bJ (S.step T) t2 t3 t199 t200=brk (decide (t200<t199)) ((bh T t2 t3 t200).bind fun d206=>brk (decide (d206.1<40)) (some (Sum.inl (false,()))) (brk (decide (42<d206.1)) (some (Sum.inl (false,()))) (bJ T t2 t3 t199 (i64.wrap (t200+1))))) (some (Sum.inr (Sum.inl (t3,())))):=eL Tryz.func91 rfl (by kernel_rfl)
theorem xa (t0:List aa.den×Unit)(t1:Int):eY (S.step T) t0 t1=brk (decide (0≤t1)&&decide (t1<(t0.1.length:Int))) (brk (decide ((at_ (τ:=aa) t0.1 t1).2.1<0)) (some (false,cw)) (brk (decide ((at_ (τ:=aa) t0.1 t1).2.2.1<(at_ (τ:=aa) t0.1 t1).2.1)) (some (false,cw)) (brk (decide ((at_ (τ:=aa) t0.1 t1).2.2.2.1<0)) (some (false,cw)) (brk (decide (200<((at_ (τ:=aa) t0.1 t1).2.2.2.2.2.2.2.2.1.length:Int))) (some (false,cw)) ((cA T t1 t0 (at_ (τ:=aa) t0.1 t1) (at_ (τ:=aa) t0.1 t1).2.2.2.2.2.2.2.2.1 ((at_ (τ:=aa) t0.1 t1).2.2.2.2.2.2.2.2.1.length:Int) 0).bind (bC (fun y5=>some (y5.1,cw)) (fun y5=>(jx T y5.2.1.1).bind fun d51=>brk (d51.1) ((jJ T y5.1 y5.2.1).bind fun d54=>some (d54.1,cw)) ((jc T y5.1 y5.2.1).bind fun d57=>some (d57.1,cw))))))))) none:=eF Tryz.func47 (by kernel_rfl)
theorem nq (t1:Int)(t2:List aa.den×Unit)(t5:aa.den)(t35:LI)(t36:Int)(t37:Int):cA (S.step T) t1 t2 t5 t35 t36 t37=brk (decide (t37<t36)) (brk (decide (0≤t37)&&decide (t37<(t35.length:Int))) (brk (decide (t35.getD t37.toNat 0<0)) (some (Sum.inl (false,()))) (brk (decide (t1≤t35.getD t37.toNat 0)) (some (Sum.inl (false,()))) (cA T t1 t2 t5 t35 t36 (i64.wrap (t37+1))))) none) (some (Sum.inr (Sum.inl (t2,t5,())))):=eL Tryz.func47 rfl (by kernel_rfl)
theorem yu (t0:List aa.den×Unit):jM (S.step T) t0=brk (((decide (0≤(t0.1.length:Int)))&&(decide ((t0.1.length:Int)≤(t0.1.length:Int))))&&(decide ((t0.1.length:Int)≤lim))) ((cU T (List.replicate ((t0.1.length:Int).toNat) 0) t0.1 (t0.1.length:Int) 0).bind (aR (fun y3=>some (y3.1,sn)))) none:=eF Tryz.func48 (by kernel_rfl)
theorem ox (t3:LI)(t15:List aa.den)(t16:Int)(t17:Int):cU (S.step T) t3 t15 t16 t17=brk (decide (t17<t16)) (brk (decide (0≤t17)&&decide (t17<(t15.length:Int))) ((gy T t3 t17 (at_ (τ:=aa) t15 t17) t17 true (i64.wrap (((at_ (τ:=aa) t15 t17).2.2.2.2.2.2.2.2.1.length:Int) - 1)) t15 t16 t17).bind (aR (fun y8=>brk (y8.2.2.2.1) (brk (decide (0≤y8.2.1)&&decide (y8.2.1<(y8.1.length:Int))) (cU T (y8.1.set y8.2.1.toNat (i64.wrap ((i64.wrap (y8.2.1 - y8.2.2.1))+1))) y8.2.2.2.2.1 y8.2.2.2.2.2.1 (i64.wrap (y8.2.2.2.2.2.2.1+1))) none) (cU T y8.1 y8.2.2.2.2.1 y8.2.2.2.2.2.1 (i64.wrap (y8.2.2.2.2.2.2.1+1)))))) none) (some (Sum.inl (t3,()))):=eL Tryz.func48 rfl (by kernel_rfl)
theorem iw (t3:LI)(t4:Int)(t5:aa.den)(t6:Int)(t7:Bool)(t8:Int)(t15:List aa.den)(t16:Int)(t17:Int):gy (S.step T) t3 t4 t5 t6 t7 t8 t15 t16 t17=brk (decide (0≤t8)) (brk (decide (0≤t8)&&decide (t8<(t5.2.2.2.2.2.2.2.2.1.length:Int))) (brk (!decide (t5.2.2.2.2.2.2.2.2.1.getD t8.toNat 0=i64.wrap (t6 - 1))) (some (Sum.inl (t3,t4,t6,false,t15,t16,t17,()))) (brk (decide (0≤t5.2.2.2.2.2.2.2.2.1.getD t8.toNat 0)&&decide (t5.2.2.2.2.2.2.2.2.1.getD t8.toNat 0<(t3.length:Int))) (brk (decide (t3.getD ((t5.2.2.2.2.2.2.2.2.1.getD t8.toNat 0).toNat) 0=0)) (some (Sum.inl (t3,t4,t6,false,t15,t16,t17,()))) (brk (decide (0≤t5.2.2.2.2.2.2.2.2.1.getD t8.toNat 0)&&decide (t5.2.2.2.2.2.2.2.2.1.getD t8.toNat 0<(t3.length:Int))) (gy T t3 t4 t5 (i64.wrap (t6 - (t3.getD ((t5.2.2.2.2.2.2.2.2.1.getD t8.toNat 0).toNat) 0))) t7 (i64.wrap (t8 - 1)) t15 t16 t17) none)) none)) none) (some (Sum.inl (t3,t4,t6,t7,t15,t16,t17,()))):=eL Tryz.func48 rfl (by kernel_rfl)
theorem oG (t0:List aa.den×Unit):kP (S.step T) t0=brk (decide ((t0.1.length:Int)=0)) (some ((1,0,()),dD)) (brk (decide (3000<(t0.1.length:Int))) (some ((1,0,()),dD)) (brk (decide (0≤i64.wrap ((t0.1.length:Int) - 1))&&decide (i64.wrap ((t0.1.length:Int) - 1)<(t0.1.length:Int))) (brk (!decide ((at_ (τ:=aa) t0.1 (i64.wrap ((t0.1.length:Int) - 1))).1=1)) (some ((1,0,()),dD)) ((dA T t0 (0,0,()) (t0.1.length:Int) 0).bind (bC (fun y4=>some (y4.1,dD)) (fun y4=>(jM T y4.1).bind fun d50=>(cu T y4.1 y4.2.1 d50.1 d50.1 (d50.1.length:Int) 0).bind (bC (fun Fo=>some (Fo.1,dD)) (fun Fo=>brk (decide (0≤i64.wrap ((Fo.2.2.1.length:Int) - 1))&&decide (i64.wrap ((Fo.2.2.1.length:Int) - 1)<(Fo.2.2.1.length:Int))) (brk (!decide (Fo.2.2.1.getD ((i64.wrap ((Fo.2.2.1.length:Int) - 1)).toNat) 0=(Fo.2.2.1.length:Int))) (some ((3,i64.wrap ((Fo.2.2.1.length:Int) - 1),()),dD)) (brk (((decide (0≤(Fo.1.1.length:Int)))&&(decide ((Fo.1.1.length:Int)≤(Fo.1.1.length:Int))))&&(decide ((Fo.1.1.length:Int)≤lim))) ((iH T Fo.1 Fo.2.1 (List.replicate ((Fo.1.1.length:Int).toNat) 0) (i64.wrap ((Fo.1.1.length:Int) - 1))).bind (aR (fun Mg=>(dN T Mg.1 Mg.2.1 (Mg.2.1.length:Int) 0).bind (bC (fun CA=>some (CA.1,dD)) (fun CA=>some ((0,0,()),dD)))))) none)) none)))))) none)):=eF Tryz.func22 (by kernel_rfl)
theorem pa (t1:List aa.den×Unit)(t2:Int×Int×Unit)(t38:Int)(t39:Int):dA (S.step T) t1 t2 t38 t39=brk (decide (t39<t38)) ((eY T t1 t39).bind fun d44=>brk (!d44.1) (some (Sum.inl ((2,t39,()),()))) (dA T t1 t2 t38 (i64.wrap (t39+1)))) (some (Sum.inr (Sum.inl (t1,t2,())))):=eL Tryz.func22 rfl (by kernel_rfl)
theorem og (t1:List aa.den×Unit)(t2:Int×Int×Unit)(t4:LI)(t51:LI)(t52:Int)(t53:Int):cu (S.step T) t1 t2 t4 t51 t52 t53=brk (decide (t53<t52)) (brk (decide (0≤t53)&&decide (t53<(t51.length:Int))) (brk (decide (t51.getD t53.toNat 0=0)) (some (Sum.inl ((3,t53,()),()))) (cu T t1 t2 t4 t51 t52 (i64.wrap (t53+1)))) none) (some (Sum.inr (Sum.inl (t1,t2,t4,())))):=eL Tryz.func22 rfl (by kernel_rfl)
theorem n8 (t1:List aa.den×Unit)(t2:Int×Int×Unit)(t7:LI)(t8:Int):iH (S.step T) t1 t2 t7 t8=brk (decide (0≤t8)) (brk (decide (0≤t8)&&decide (t8<(t1.1.length:Int))) ((gz T t1 t2 t7 t8 (at_ (τ:=aa) t1.1 t8).2.2.2.2.2.2.2.2.1 ((at_ (τ:=aa) t1.1 t8).2.2.2.2.2.2.2.2.1.length:Int) 0).bind (aR (fun Hw=>iH T Hw.1 Hw.2.1 Hw.2.2.1 (i64.wrap (Hw.2.2.2.1 - 1))))) none) (some (Sum.inl (t2,t7,()))):=eL Tryz.func22 rfl (by kernel_rfl)
theorem om (t1:List aa.den×Unit)(t2:Int×Int×Unit)(t7:LI)(t8:Int)(t93:LI)(t94:Int)(t95:Int):gz (S.step T) t1 t2 t7 t8 t93 t94 t95=brk (decide (t95<t94)) (brk (decide (0≤t95)&&decide (t95<(t93.length:Int))) (brk (decide (0≤t8)&&decide (t8<(t7.length:Int))) (brk (decide (0≤t93.getD t95.toNat 0)&&decide (t93.getD t95.toNat 0<(t7.length:Int))) (gz T t1 t2 (t7.set ((t93.getD t95.toNat 0).toNat) (i64.wrap ((t7.getD t8.toNat 0)+1))) t8 t93 t94 (i64.wrap (t95+1))) none) none) none) (some (Sum.inl (t1,t2,t7,t8,()))):=eL Tryz.func22 rfl (by kernel_rfl)
theorem n7 (t2:Int×Int×Unit)(t108:LI)(t109:Int)(t110:Int):dN (S.step T) t2 t108 t109 t110=brk (decide (t110<t109)) (brk (decide (0≤t110)&&decide (t110<(t108.length:Int))) (brk (decide (100<t108.getD t110.toNat 0)) (some (Sum.inl ((4,t110,()),()))) (dN T t2 t108 t109 (i64.wrap (t110+1)))) none) (some (Sum.inr (Sum.inl (t2,())))):=eL Tryz.func22 rfl (by kernel_rfl)
theorem yc (t0:(List aa.den×Unit)×LI×Int×Unit)(t1:LI):au (S.step T) t0 t1=brk (fits (t0.2.1.length+t1.length)) (some ((),(t0.1,t0.2.1++t1,t0.2.2),(),())) none:=eF Tryz.func24 (by kernel_rfl)
theorem wW (t0:(List aa.den×Unit)×LI×Int×Unit):me (S.step T) t0=(au T t0 ([10]:LI)).bind fun d4=>(hY T d4.2.1 0).bind (aR (fun y2=>some ((),y2))):=eF Tryz.func92 (by kernel_rfl)
theorem ni (t0:(List aa.den×Unit)×LI×Int×Unit)(t2:Int):hY (S.step T) t0 t2=brk (decide (t2<t0.2.2.1)) ((au T t0 ([9]:LI)).bind fun d14=>hY T d14.2.1 (i64.wrap (t2+1))) (some (Sum.inl (t0,()))):=eL Tryz.func92 rfl (by kernel_rfl)
theorem vp (t0:(List aa.den×Unit)×LI×Int×Unit)(t1:Int):bH (S.step T) t0 t1=brk (decide (0≤t1)&&decide (t1<(t0.1.1.length:Int))) (brk (decide (((at_ (τ:=aa) t0.1.1 t1).2.2.2.2.2.2.2.2.1.length:Int)=0)) ((au T t0 ([123,125]:LI)).bind fun d20=>some ((),d20.2.1,(),())) ((au T t0 ([123]:LI)).bind fun d22=>(gI T (d22.2.1.1,d22.2.1.2.1,i64.wrap (d22.2.1.2.2.1+1),()) (at_ (τ:=aa) t0.1.1 t1).2.2.2.2.2.2.2.2.1 ((at_ (τ:=aa) t0.1.1 t1).2.2.2.2.2.2.2.2.1.length:Int) 0).bind (aR (fun y6=>(me T (y6.1.1,y6.1.2.1,i64.wrap (y6.1.2.2.1 - 1),())).bind fun d50=>(au T d50.2.1 ([125]:LI)).bind fun d52=>some ((),d52.2.1,(),()))))) none:=eF Tryz.func49 (by kernel_rfl)
theorem mz (t0:(List aa.den×Unit)×LI×Int×Unit)(t30:LI)(t31:Int)(t32:Int):gI (S.step T) t0 t30 t31 t32=brk (decide (t32<t31)) (brk (decide (0≤t32)&&decide (t32<(t30.length:Int))) ((me T t0).bind fun d37=>(mb T d37.2.1 (t30.getD t32.toNat 0)).bind fun d40=>gI T d40.2.1 t30 t31 (i64.wrap (t32+1))) none) (some (Sum.inl (t0,()))):=eL Tryz.func49 rfl (by kernel_rfl)
theorem vv (t0:(List aa.den×Unit)×LI×Int×Unit)(t1:List LI):ic (S.step T) t0 t1=(dm T t0 t1 (t1.length:Int) 0).bind (aR (fun y1=>some ((),y1.1,(),()))):=eF Tryz.func50 (by kernel_rfl)
theorem gD (t0:(List aa.den×Unit)×LI×Int×Unit)(t6:List LI)(t7:Int)(t8:Int):dm (S.step T) t0 t6 t7 t8=brk (decide (t8<t7)) (brk (decide (0≤t8)&&decide (t8<(t6.length:Int))) (brk (decide (0<t8)) ((au T t0 ([44,32]:LI)).bind fun d16=>(au T d16.2.1 (t6.getD t8.toNat [])).bind fun d19=>dm T d19.2.1 t6 t7 (i64.wrap (t8+1))) ((au T t0 (t6.getD t8.toNat [])).bind fun d19=>dm T d19.2.1 t6 t7 (i64.wrap (t8+1)))) none) (some (Sum.inl (t0,()))):=eL Tryz.func50 rfl (by kernel_rfl)
theorem x9 (t0:aa.den):qZ (S.step T) t0=brk (decide (t0.1=29)) (some (1,ie)) (brk (decide (t0.1=28)) (some (2,ie)) (brk (decide (t0.1=31)) ((iA T (i64.wrap (60+t0.2.2.2.2.1))).bind fun d17=>some (d17.1.1,ie)) (brk (decide (t0.1=30)) (some (11,ie)) (some (12,ie))))):=eF Tryz.func93 (by kernel_rfl)
theorem ye (t0:aa.den):ly (S.step T) t0=brk (decide (t0.1=29)) (some (2,js)) (brk (decide (t0.1=28)) (some (3,js)) ((iA T (i64.wrap (60+t0.2.2.2.2.1))).bind fun d15=>some (d15.1.2.1,js))):=eF Tryz.func165 (by kernel_rfl)
theorem vA (t0:(List aa.den×Unit)×LI×Int×Unit)(t1:aa.den)(t2:LI)(t3:Int):jt (S.step T) t0 t1 t2 t3=(ly T t1).bind fun d11=>brk (decide (d11.1=t3)) (brk (decide (0<(t1.2.2.2.2.2.2.2.2.1.length:Int))) ((aJ T t0 (t1.2.2.2.2.2.2.2.2.1.getD 0 0) (i64.wrap (t3+1))).bind fun d22=>(au T d22.2.1 t2).bind fun d25=>brk (decide (1<(t1.2.2.2.2.2.2.2.2.1.length:Int))) ((ly T t1).bind fun d32=>(aJ T d25.2.1 (t1.2.2.2.2.2.2.2.2.1.getD 1 0) d32.1).bind fun d33=>some ((),d33.2.1,((),(),(),(),(),(),(),(),(),()),(),(),())) none) none) (brk (decide (0<(t1.2.2.2.2.2.2.2.2.1.length:Int))) ((aJ T t0 (t1.2.2.2.2.2.2.2.2.1.getD 0 0) t3).bind fun d22=>(au T d22.2.1 t2).bind fun d25=>brk (decide (1<(t1.2.2.2.2.2.2.2.2.1.length:Int))) ((ly T t1).bind fun d32=>(aJ T d25.2.1 (t1.2.2.2.2.2.2.2.2.1.getD 1 0) d32.1).bind fun d33=>some ((),d33.2.1,((),(),(),(),(),(),(),(),(),()),(),(),())) none) none):=eF Tryz.func94 (by kernel_rfl)
theorem sD (t0:Int):sP (S.step T) t0=brk (decide (t0=5)) (some (([59]:LI),dE)) ((nC T).bind fun d8=>brk (decide (10≤t0)) (brk (decide (t0<i64.wrap (10+(d8.1.length:Int)))) (brk (decide (0≤i64.wrap (t0 - 10))&&decide (i64.wrap (t0 - 10)<(d8.1.length:Int))) (some (d8.1.getD ((i64.wrap (t0 - 10)).toNat) [],dE)) none) ((jP T).bind fun d23=>(cQ T t0 d23.1 (d23.1.length:Int) 0).bind (bC (fun y7=>some (y7.1,dE)) (fun y7=>some (([]:LI),dE))))) ((jP T).bind fun d23=>(cQ T t0 d23.1 (d23.1.length:Int) 0).bind (bC (fun y7=>some (y7.1,dE)) (fun y7=>some (([]:LI),dE))))):=eF Tryz.func95 (by kernel_rfl)
theorem pe (t0:Int)(t23:List LI)(t24:Int)(t25:Int):cQ (S.step T) t0 t23 t24 t25=brk (decide (t25<t24)) (brk (decide (0≤t25)&&decide (t25<(t23.length:Int))) ((gM T (t23.getD t25.toNat [])).bind fun d30=>brk (decide (d30.1=t0)) (some (Sum.inl (t23.getD t25.toNat [],()))) (cQ T t0 t23 t24 (i64.wrap (t25+1)))) none) (some (Sum.inr (Sum.inl ()))):=eL Tryz.func95 rfl (by kernel_rfl)
theorem vo (t0:(List aa.den×Unit)×LI×Int×Unit)(t1:aa.den):oH (S.step T) t0 t1=brk (decide (t1.2.2.2.2.1=21)) ((au T t0 ([110,111,116,32]:LI)).bind fun d33=>(ct T d33.2.1 t1).bind (aR (fun wN=>some ((),wN.1,((),(),(),(),(),(),(),(),(),()),())))) (brk (decide (t1.2.2.2.2.1=22)) ((au T t0 ([35]:LI)).bind fun d37=>(ct T d37.2.1 t1).bind (aR (fun wN=>some ((),wN.1,((),(),(),(),(),(),(),(),(),()),())))) (brk (decide (t1.2.2.2.2.1=20)) ((au T t0 ([126]:LI)).bind fun d41=>(ct T d41.2.1 t1).bind (aR (fun wN=>some ((),wN.1,((),(),(),(),(),(),(),(),(),()),())))) ((au T t0 ([45]:LI)).bind fun d8=>brk (decide (0<(t1.2.2.2.2.2.2.2.2.1.length:Int))) (brk (decide (0≤t1.2.2.2.2.2.2.2.2.1.getD 0 0)&&decide (t1.2.2.2.2.2.2.2.2.1.getD 0 0<(d8.2.1.1.1.length:Int))) (brk (decide ((at_ (τ:=aa) d8.2.1.1.1 (t1.2.2.2.2.2.2.2.2.1.getD 0 0)).1=30)) (brk (decide ((at_ (τ:=aa) d8.2.1.1.1 (t1.2.2.2.2.2.2.2.2.1.getD 0 0)).2.2.2.2.1=19)) ((au T d8.2.1 ([32]:LI)).bind fun d29=>(ct T d29.2.1 t1).bind (aR (fun wN=>some ((),wN.1,((),(),(),(),(),(),(),(),(),()),())))) ((ct T d8.2.1 t1).bind (aR (fun wN=>some ((),wN.1,((),(),(),(),(),(),(),(),(),()),()))))) ((ct T d8.2.1 t1).bind (aR (fun wN=>some ((),wN.1,((),(),(),(),(),(),(),(),(),()),()))))) none) none))):=eF Tryz.func96 (by kernel_rfl)
theorem rX (t0:(List aa.den×Unit)×LI×Int×Unit)(t3:aa.den):ct (S.step T) t0 t3=brk (decide (0<(t3.2.2.2.2.2.2.2.2.1.length:Int))) ((aJ T t0 (t3.2.2.2.2.2.2.2.2.1.getD 0 0) 11).bind fun d47=>some (Sum.inl (d47.2.1,()))) none:=eJ Tryz.func96 rfl (by kernel_rfl)
theorem zt (t0:Int):sR (S.step T) t0=brk (decide (t0=26)) (some (true,iU)) (brk (decide (t0=32)) (some (true,iU)) (brk (decide (t0=33)) (some (true,iU)) (brk (decide (t0=34)) (some (true,iU)) (some (decide (t0=37),iU))))):=eF Tryz.func169 (by kernel_rfl)
theorem w8 (t0:(List aa.den×Unit)×LI×Int×Unit)(t1:Int):j9 (S.step T) t0 t1=brk (decide (0≤t1)&&decide (t1<(t0.1.1.length:Int))) ((sR T (at_ (τ:=aa) t0.1.1 t1).1).bind fun d13=>brk (d13.1) ((aJ T t0 t1 0).bind fun d16=>some ((),d16.2.1,(),())) ((au T t0 ([40]:LI)).bind fun d18=>(aJ T d18.2.1 t1 0).bind fun d21=>(au T d21.2.1 ([41]:LI)).bind fun d23=>some ((),d23.2.1,(),()))) none:=eF Tryz.func97 (by kernel_rfl)
theorem vr (t0:(List aa.den×Unit)×LI×Int×Unit)(t1:aa.den):oI (S.step T) t0 t1=(au T t0 ([123]:LI)).bind fun d8=>(dj T d8.2.1 t1.2.2.2.2.2.2.2.2.1 (t1.2.2.2.2.2.2.2.2.1.length:Int) 0).bind (aR (fun y3=>(au T y3.1 ([125]:LI)).bind fun d71=>some ((),d71.2.1,((),(),(),(),(),(),(),(),(),()),()))):=eF Tryz.func98 (by kernel_rfl)
theorem jl (t0:(List aa.den×Unit)×LI×Int×Unit)(t5:Int)(t10:LI)(t11:Int)(t12:Int):gG (S.step T) t0 t5 t10 t11 t12=brk (decide (0≤t5)&&decide (t5<(t0.1.1.length:Int))) (brk (decide ((at_ (τ:=aa) t0.1.1 t5).1=41)) ((au T t0 ([91]:LI)).bind fun d40=>brk (decide (0<((at_ (τ:=aa) t0.1.1 t5).2.2.2.2.2.2.2.2.1.length:Int))) ((aJ T d40.2.1 ((at_ (τ:=aa) t0.1.1 t5).2.2.2.2.2.2.2.2.1.getD 0 0) 0).bind fun d46=>(au T d46.2.1 ([93,32,61,32]:LI)).bind fun d48=>brk (decide (1<((at_ (τ:=aa) t0.1.1 t5).2.2.2.2.2.2.2.2.1.length:Int))) ((aJ T d48.2.1 ((at_ (τ:=aa) t0.1.1 t5).2.2.2.2.2.2.2.2.1.getD 1 0) 0).bind fun d54=>some (Sum.inl (d54.2.1,t10,t11,t12,()))) none) none) (brk (decide ((at_ (τ:=aa) t0.1.1 t5).1=42)) (brk (fits (1+(at_ (τ:=aa) t0.1.1 t5).2.2.2.2.2.2.1.length)) (brk (fits ((([46]:LI)++(at_ (τ:=aa) t0.1.1 t5).2.2.2.2.2.2.1).length+3)) ((au T t0 ((([46]:LI)++(at_ (τ:=aa) t0.1.1 t5).2.2.2.2.2.2.1)++([32,61,32]:LI))).bind fun d62=>brk (decide (0<((at_ (τ:=aa) t0.1.1 t5).2.2.2.2.2.2.2.2.1.length:Int))) ((aJ T d62.2.1 ((at_ (τ:=aa) t0.1.1 t5).2.2.2.2.2.2.2.2.1.getD 0 0) 0).bind fun d68=>some (Sum.inl (d68.2.1,t10,t11,t12,()))) none) none) none) (brk (decide (0<((at_ (τ:=aa) t0.1.1 t5).2.2.2.2.2.2.2.2.1.length:Int))) ((aJ T t0 ((at_ (τ:=aa) t0.1.1 t5).2.2.2.2.2.2.2.2.1.getD 0 0) 0).bind fun d36=>some (Sum.inl (d36.2.1,t10,t11,t12,()))) none))) none:=eJ Tryz.func98 rfl (by kernel_rfl)
theorem gE (t0:(List aa.den×Unit)×LI×Int×Unit)(t10:LI)(t11:Int)(t12:Int):dj (S.step T) t0 t10 t11 t12=brk (decide (t12<t11)) (brk (decide (0≤t12)&&decide (t12<(t10.length:Int))) (brk (decide (0<t12)) ((au T t0 ([44,32]:LI)).bind fun d20=>(gG T d20.2.1 (t10.getD t12.toNat 0) t10 t11 t12).bind (aR (fun y7=>dj T y7.1 y7.2.1 y7.2.2.1 (i64.wrap (y7.2.2.2.1+1))))) ((gG T t0 (t10.getD t12.toNat 0) t10 t11 t12).bind (aR (fun y7=>dj T y7.1 y7.2.1 y7.2.2.1 (i64.wrap (y7.2.2.2.1+1)))))) none) (some (Sum.inl (t0,()))):=eL Tryz.func98 rfl (by kernel_rfl)
theorem lX (t0:(List aa.den×Unit)×LI×Int×Unit)(t1:Int):mj (S.step T) t0 t1=brk (decide (0≤t1)&&decide (t1<(t0.1.1.length:Int))) ((au T t0 ([40]:LI)).bind fun d14=>(ic T d14.2.1 (at_ (τ:=aa) t0.1.1 t1).2.2.2.2.2.2.2.1).bind fun d18=>brk (decide ((at_ (τ:=aa) t0.1.1 t1).2.2.2.2.1=1)) (brk (decide (0<((at_ (τ:=aa) t0.1.1 t1).2.2.2.2.2.2.2.1.length:Int))) ((au T d18.2.1 ([44,32]:LI)).bind fun d27=>(au T d27.2.1 ([46,46,46]:LI)).bind fun d29=>(au T d29.2.1 ([41,32]:LI)).bind fun d31=>brk (decide (0<((at_ (τ:=aa) t0.1.1 t1).2.2.2.2.2.2.2.2.1.length:Int))) ((bH T d31.2.1 ((at_ (τ:=aa) t0.1.1 t1).2.2.2.2.2.2.2.2.1.getD 0 0)).bind fun d37=>some ((),d37.2.1,(),())) none) ((au T d18.2.1 ([46,46,46]:LI)).bind fun d29=>(au T d29.2.1 ([41,32]:LI)).bind fun d31=>brk (decide (0<((at_ (τ:=aa) t0.1.1 t1).2.2.2.2.2.2.2.2.1.length:Int))) ((bH T d31.2.1 ((at_ (τ:=aa) t0.1.1 t1).2.2.2.2.2.2.2.2.1.getD 0 0)).bind fun d37=>some ((),d37.2.1,(),())) none)) ((au T d18.2.1 ([41,32]:LI)).bind fun d31=>brk (decide (0<((at_ (τ:=aa) t0.1.1 t1).2.2.2.2.2.2.2.2.1.length:Int))) ((bH T d31.2.1 ((at_ (τ:=aa) t0.1.1 t1).2.2.2.2.2.2.2.2.1.getD 0 0)).bind fun d37=>some ((),d37.2.1,(),())) none)) none:=eF Tryz.func53 (by kernel_rfl)
theorem px (t0:Int):jq (S.step T) t0=brk (decide (t0=0)) (some (([48]:LI),jI)) ((dn T t0 (decide (t0<0)) []).bind (aR (fun y5=>brk (y5.1) ((fW T y5.2.1 ([45]:LI)).bind (aR (fun Hs=>some (Hs.1,jI)))) ((fW T y5.2.1 ([]:LI)).bind (aR (fun Hs=>some (Hs.1,jI))))))):=eF Tryz.func41 (by kernel_rfl)
theorem rW (t4:LI)(t6:LI):fW (S.step T) t4 t6=(eT T t4 t6 (i64.wrap ((t4.length:Int) - 1))).bind (aR (fun CB=>some (Sum.inl CB))):=eJ Tryz.func41 rfl (by kernel_rfl)
theorem jm (t0:Int)(t3:Bool)(t4:LI):dn (S.step T) t0 t3 t4=brk (!decide (t0=0)) (brk (decide (t0.tmod 10<0)) (brk (fits (t4.length+([u8.wrap (i64.wrap (48+(i64.wrap (0 - (t0.tmod 10)))))]:LI).length)) (dn T (i64.wrap (t0.tdiv 10)) t3 (t4++([u8.wrap (i64.wrap (48+(i64.wrap (0 - (t0.tmod 10)))))]:LI))) none) (brk (fits (t4.length+([u8.wrap (i64.wrap (48+(t0.tmod 10)))]:LI).length)) (dn T (i64.wrap (t0.tdiv 10)) t3 (t4++([u8.wrap (i64.wrap (48+(t0.tmod 10)))]:LI))) none)) (some (Sum.inl (t3,t4,()))):=eL Tryz.func41 rfl (by kernel_rfl)
theorem lS (t4:LI)(t6:LI)(t7:Int):eT (S.step T) t4 t6 t7=brk (decide (0≤t7)) (brk (decide (0≤t7)&&decide (t7<(t4.length:Int))) (brk (fits (t6.length+(([t4.getD t7.toNat 0]:LI).map byte).length)) (eT T t4 (t6++(([t4.getD t7.toNat 0]:LI).map byte)) (i64.wrap (t7 - 1))) none) none) (some (Sum.inl (t6,()))):=eL Tryz.func41 rfl (by kernel_rfl)
theorem BC (t0:Int):oR (S.step T) t0=brk (decide (0≤t0)) ((jq T t0).bind fun d9=>some (d9.1,nD)) ((gS T t0 ([48,49,50,51,52,53,54,55,56,57,97,98,99,100,101,102]:LI) ([48,120]:LI) 60).bind (aR (fun y6=>some (y6.1,nD)))):=eF Tryz.func170 (by kernel_rfl)
theorem qz (t0:Int)(t3:LI)(t4:LI)(t5:Int):gS (S.step T) t0 t3 t4 t5=brk (decide (0≤t5)) (brk (decide (0≤u64.wrap t5)) (brk (decide (0≤intBits .and .u64 ((u64.wrap t0).fdiv (2^min ((u64.wrap t5).toNat) u64.bits)) 15)&&decide (intBits .and .u64 ((u64.wrap t0).fdiv (2^min ((u64.wrap t5).toNat) u64.bits)) 15<(t3.length:Int))) (brk (fits (t4.length+(([t3.getD ((intBits .and .u64 ((u64.wrap t0).fdiv (2^min ((u64.wrap t5).toNat) u64.bits)) 15).toNat) 0]:LI).map byte).length)) (gS T t0 t3 (t4++(([t3.getD ((intBits .and .u64 ((u64.wrap t0).fdiv (2^min ((u64.wrap t5).toNat) u64.bits)) 15).toNat) 0]:LI).map byte)) (i64.wrap (t5 - 4))) none) none) none) (some (Sum.inl (t4,()))):=eL Tryz.func170 rfl (by kernel_rfl)
theorem yi (t0:LI):jQ (S.step T) t0=(bQ T t0 ([48,49,50,51,52,53,54,55,56,57,97,98,99,100,101,102]:LI) ([34]:LI) 0).bind (aR (fun y4=>brk (fits (y4.1.length+1)) (some ((y4.1++([34]:LI)).map byte,zw)) none)):=eF Tryz.func153 (by kernel_rfl)
theorem ot (t0:LI)(t3:LI)(t4:LI)(t5:Int):bQ (S.step T) t0 t3 t4 t5=brk (decide (t5<(t0.length:Int))) (brk (decide (0≤t5)&&decide (t5<(t0.length:Int))) (brk (decide (t0.getD t5.toNat 0=10)) (brk (fits (t4.length+2)) (bQ T t0 t3 (t4++([92,110]:LI)) (i64.wrap (t5+1))) none) (brk (decide (t0.getD t5.toNat 0=9)) (brk (fits (t4.length+2)) (bQ T t0 t3 (t4++([92,116]:LI)) (i64.wrap (t5+1))) none) (brk (decide (t0.getD t5.toNat 0=34)) (brk (fits (t4.length+([92,t0.getD t5.toNat 0]:LI).length)) (bQ T t0 t3 (t4++([92,t0.getD t5.toNat 0]:LI)) (i64.wrap (t5+1))) none) (brk (decide (t0.getD t5.toNat 0=92)) (brk (fits (t4.length+([92,t0.getD t5.toNat 0]:LI).length)) (bQ T t0 t3 (t4++([92,t0.getD t5.toNat 0]:LI)) (i64.wrap (t5+1))) none) (brk (decide (t0.getD t5.toNat 0<32)) (brk (decide (0≤(t0.getD t5.toNat 0).fdiv (2^min ((4:Int).toNat) u8.bits))&&decide ((t0.getD t5.toNat 0).fdiv (2^min ((4:Int).toNat) u8.bits)<(t3.length:Int))) (brk (decide (0≤intBits .and .u8 (t0.getD t5.toNat 0) 15)&&decide (intBits .and .u8 (t0.getD t5.toNat 0) 15<(t3.length:Int))) (brk (fits (t4.length+([92,120,t3.getD (((t0.getD t5.toNat 0).fdiv (2^min ((4:Int).toNat) u8.bits)).toNat) 0,t3.getD ((intBits .and .u8 (t0.getD t5.toNat 0) 15).toNat) 0]:LI).length)) (bQ T t0 t3 (t4++([92,120,t3.getD (((t0.getD t5.toNat 0).fdiv (2^min ((4:Int).toNat) u8.bits)).toNat) 0,t3.getD ((intBits .and .u8 (t0.getD t5.toNat 0) 15).toNat) 0]:LI)) (i64.wrap (t5+1))) none) none) none) (brk (decide (126<t0.getD t5.toNat 0)) (brk (decide (0≤(t0.getD t5.toNat 0).fdiv (2^min ((4:Int).toNat) u8.bits))&&decide ((t0.getD t5.toNat 0).fdiv (2^min ((4:Int).toNat) u8.bits)<(t3.length:Int))) (brk (decide (0≤intBits .and .u8 (t0.getD t5.toNat 0) 15)&&decide (intBits .and .u8 (t0.getD t5.toNat 0) 15<(t3.length:Int))) (brk (fits (t4.length+([92,120,t3.getD (((t0.getD t5.toNat 0).fdiv (2^min ((4:Int).toNat) u8.bits)).toNat) 0,t3.getD ((intBits .and .u8 (t0.getD t5.toNat 0) 15).toNat) 0]:LI).length)) (bQ T t0 t3 (t4++([92,120,t3.getD (((t0.getD t5.toNat 0).fdiv (2^min ((4:Int).toNat) u8.bits)).toNat) 0,t3.getD ((intBits .and .u8 (t0.getD t5.toNat 0) 15).toNat) 0]:LI)) (i64.wrap (t5+1))) none) none) none) (brk (fits (t4.length+([t0.getD t5.toNat 0]:LI).length)) (bQ T t0 t3 (t4++([t0.getD t5.toNat 0]:LI)) (i64.wrap (t5+1))) none))))))) none) (some (Sum.inl (t4,()))):=eL Tryz.func153 rfl (by kernel_rfl)
theorem vy (t0:(List aa.den×Unit)×LI×Int×Unit)(t1:aa.den):oL (S.step T) t0 t1=brk (decide (t1.1=20)) ((au T t0 ([110,105,108]:LI)).bind fun d9=>some ((),d9.2.1,((),(),(),(),(),(),(),(),(),()),())) (brk (decide (t1.1=21)) ((au T t0 ([116,114,117,101]:LI)).bind fun d13=>some ((),d13.2.1,((),(),(),(),(),(),(),(),(),()),())) (brk (decide (t1.1=22)) ((au T t0 ([102,97,108,115,101]:LI)).bind fun d17=>some ((),d17.2.1,((),(),(),(),(),(),(),(),(),()),())) (brk (decide (t1.1=23)) ((oR T t1.2.2.2.2.2.1).bind fun d23=>(au T t0 d23.1).bind fun d24=>some ((),d24.2.1,((),(),(),(),(),(),(),(),(),()),())) (brk (decide (t1.1=24)) (brk (decide (t1.1=24)) ((au T t0 t1.2.2.2.2.2.2.1).bind fun d31=>some ((),d31.2.1,((),(),(),(),(),(),(),(),(),()),())) (brk (decide (t1.1=25)) ((jQ T t1.2.2.2.2.2.2.1).bind fun d37=>(au T t0 d37.1).bind fun d38=>some ((),d38.2.1,((),(),(),(),(),(),(),(),(),()),())) (brk (decide (t1.1=27)) ((au T t0 ([46,46,46]:LI)).bind fun d42=>some ((),d42.2.1,((),(),(),(),(),(),(),(),(),()),())) (some ((),t0,((),(),(),(),(),(),(),(),(),()),()))))) (brk (decide (t1.1=26)) ((au T t0 t1.2.2.2.2.2.2.1).bind fun d31=>some ((),d31.2.1,((),(),(),(),(),(),(),(),(),()),())) (brk (decide (t1.1=25)) ((jQ T t1.2.2.2.2.2.2.1).bind fun d37=>(au T t0 d37.1).bind fun d38=>some ((),d38.2.1,((),(),(),(),(),(),(),(),(),()),())) (brk (decide (t1.1=27)) ((au T t0 ([46,46,46]:LI)).bind fun d42=>some ((),d42.2.1,((),(),(),(),(),(),(),(),(),()),())) (some ((),t0,((),(),(),(),(),(),(),(),(),()),()))))))))):=eF Tryz.func99 (by kernel_rfl)
theorem bP (t0:(List aa.den×Unit)×LI×Int×Unit)(t1:Int)(t2:Int):aJ (S.step T) t0 t1 t2=brk (decide (0≤t1)&&decide (t1<(t0.1.1.length:Int))) ((qZ T (at_ (τ:=aa) t0.1.1 t1)).bind fun d17=>brk (decide (d17.1<t2)) ((au T t0 ([40]:LI)).bind fun d22=>(aJ T d22.2.1 t1 0).bind fun d25=>(au T d25.2.1 ([41]:LI)).bind fun d27=>some ((),d27.2.1,(),(),())) (brk (decide ((at_ (τ:=aa) t0.1.1 t1).1=28)) ((jt T t0 (at_ (τ:=aa) t0.1.1 t1) ([32,97,110,100,32]:LI) d17.1).bind fun d38=>some ((),d38.2.1,(),(),())) (brk (decide ((at_ (τ:=aa) t0.1.1 t1).1=29)) ((jt T t0 (at_ (τ:=aa) t0.1.1 t1) ([32,111,114,32]:LI) d17.1).bind fun d44=>some ((),d44.2.1,(),(),())) (brk (decide ((at_ (τ:=aa) t0.1.1 t1).1=31)) ((sP T (i64.wrap (60+(at_ (τ:=aa) t0.1.1 t1).2.2.2.2.1))).bind fun d52=>brk (fits (1+d52.1.length)) (brk (fits ((([32]:LI)++d52.1).length+1)) ((jt T t0 (at_ (τ:=aa) t0.1.1 t1) ((([32]:LI)++d52.1)++([32]:LI)) d17.1).bind fun d56=>some ((),d56.2.1,(),(),())) none) none) (brk (decide ((at_ (τ:=aa) t0.1.1 t1).1=30)) ((oH T t0 (at_ (τ:=aa) t0.1.1 t1)).bind fun d61=>some ((),d61.2.1,(),(),())) (brk (decide ((at_ (τ:=aa) t0.1.1 t1).1=32)) (brk (decide (0<((at_ (τ:=aa) t0.1.1 t1).2.2.2.2.2.2.2.2.1.length:Int))) ((j9 T t0 ((at_ (τ:=aa) t0.1.1 t1).2.2.2.2.2.2.2.2.1.getD 0 0)).bind fun d69=>(au T d69.2.1 ([91]:LI)).bind fun d71=>brk (decide (1<((at_ (τ:=aa) t0.1.1 t1).2.2.2.2.2.2.2.2.1.length:Int))) ((aJ T d71.2.1 ((at_ (τ:=aa) t0.1.1 t1).2.2.2.2.2.2.2.2.1.getD 1 0) 0).bind fun d77=>(au T d77.2.1 ([93]:LI)).bind fun d79=>some ((),d79.2.1,(),(),())) none) none) (brk (decide ((at_ (τ:=aa) t0.1.1 t1).1=33)) (brk (decide (0<((at_ (τ:=aa) t0.1.1 t1).2.2.2.2.2.2.2.2.1.length:Int))) ((j9 T t0 ((at_ (τ:=aa) t0.1.1 t1).2.2.2.2.2.2.2.2.1.getD 0 0)).bind fun d87=>brk (fits (1+(at_ (τ:=aa) t0.1.1 t1).2.2.2.2.2.2.1.length)) ((au T d87.2.1 (([46]:LI)++(at_ (τ:=aa) t0.1.1 t1).2.2.2.2.2.2.1)).bind fun d92=>some ((),d92.2.1,(),(),())) none) none) (brk (decide ((at_ (τ:=aa) t0.1.1 t1).1=34)) (brk (decide (0<((at_ (τ:=aa) t0.1.1 t1).2.2.2.2.2.2.2.2.1.length:Int))) ((j9 T t0 ((at_ (τ:=aa) t0.1.1 t1).2.2.2.2.2.2.2.2.1.getD 0 0)).bind fun d100=>(au T d100.2.1 ([40]:LI)).bind fun d102=>brk (bounds ((at_ (τ:=aa) t0.1.1 t1).2.2.2.2.2.2.2.2.1.length) 1 ((at_ (τ:=aa) t0.1.1 t1).2.2.2.2.2.2.2.2.1.length:Int)) ((dC T d102.2.1 (sub (at_ (τ:=aa) t0.1.1 t1).2.2.2.2.2.2.2.2.1 1 ((at_ (τ:=aa) t0.1.1 t1).2.2.2.2.2.2.2.2.1.length:Int))).bind fun d107=>(au T d107.2.1 ([41]:LI)).bind fun d109=>some ((),d109.2.1,(),(),())) none) none) (brk (decide ((at_ (τ:=aa) t0.1.1 t1).1=35)) ((oI T t0 (at_ (τ:=aa) t0.1.1 t1)).bind fun d114=>some ((),d114.2.1,(),(),())) (brk (decide ((at_ (τ:=aa) t0.1.1 t1).1=36)) ((au T t0 ([102,110]:LI)).bind fun d118=>(mj T d118.2.1 t1).bind fun d121=>some ((),d121.2.1,(),(),())) (brk (decide ((at_ (τ:=aa) t0.1.1 t1).1=37)) ((au T t0 ([40]:LI)).bind fun d125=>brk (decide (0<((at_ (τ:=aa) t0.1.1 t1).2.2.2.2.2.2.2.2.1.length:Int))) ((aJ T d125.2.1 ((at_ (τ:=aa) t0.1.1 t1).2.2.2.2.2.2.2.2.1.getD 0 0) 0).bind fun d131=>(au T d131.2.1 ([41]:LI)).bind fun d133=>some ((),d133.2.1,(),(),())) none) ((oL T t0 (at_ (τ:=aa) t0.1.1 t1)).bind fun d32=>some ((),d32.2.1,(),(),()))))))))))))) none:=eF Tryz.func52 (by kernel_rfl)
theorem vD (t0:(List aa.den×Unit)×LI×Int×Unit)(t1:LI):dC (S.step T) t0 t1=(di T t0 t1 (t1.length:Int) 0).bind (aR (fun y1=>some ((),y1.1,(),()))):=eF Tryz.func51 (by kernel_rfl)
theorem gC (t0:(List aa.den×Unit)×LI×Int×Unit)(t6:LI)(t7:Int)(t8:Int):di (S.step T) t0 t6 t7 t8=brk (decide (t8<t7)) (brk (decide (0≤t8)&&decide (t8<(t6.length:Int))) (brk (decide (0<t8)) ((au T t0 ([44,32]:LI)).bind fun d16=>(aJ T d16.2.1 (t6.getD t8.toNat 0) 0).bind fun d19=>di T d19.2.1 t6 t7 (i64.wrap (t8+1))) ((aJ T t0 (t6.getD t8.toNat 0) 0).bind fun d19=>di T d19.2.1 t6 t7 (i64.wrap (t8+1)))) none) (some (Sum.inl (t0,()))):=eL Tryz.func51 rfl (by kernel_rfl)
theorem kA (t0:(List aa.den×Unit)×LI×Int×Unit)(t1:aa.den)(t2:LI):ko (S.step T) t0 t1 t2=(au T t0 t2).bind fun d9=>brk (decide (0<(t1.2.2.2.2.2.2.2.2.1.length:Int))) ((aJ T d9.2.1 (t1.2.2.2.2.2.2.2.2.1.getD 0 0) 0).bind fun d15=>(au T d15.2.1 ([32]:LI)).bind fun d17=>brk (decide (1<(t1.2.2.2.2.2.2.2.2.1.length:Int))) ((bH T d17.2.1 (t1.2.2.2.2.2.2.2.2.1.getD 1 0)).bind fun d23=>brk (decide ((t1.2.2.2.2.2.2.2.2.1.length:Int)<3)) (some ((),d23.2.1,((),(),(),(),(),(),(),(),(),()),(),())) (brk (decide (2<(t1.2.2.2.2.2.2.2.2.1.length:Int))) (brk (decide (0≤t1.2.2.2.2.2.2.2.2.1.getD 2 0)&&decide (t1.2.2.2.2.2.2.2.2.1.getD 2 0<(d23.2.1.1.1.length:Int))) (brk (decide ((at_ (τ:=aa) d23.2.1.1.1 (t1.2.2.2.2.2.2.2.2.1.getD 2 0)).1=7)) ((ko T d23.2.1 (at_ (τ:=aa) d23.2.1.1.1 (t1.2.2.2.2.2.2.2.2.1.getD 2 0)) ([32,101,108,105,102,32]:LI)).bind fun d44=>some ((),d44.2.1,((),(),(),(),(),(),(),(),(),()),(),())) ((au T d23.2.1 ([32,101,108,115,101,32]:LI)).bind fun d46=>brk (decide (2<(t1.2.2.2.2.2.2.2.2.1.length:Int))) ((bH T d46.2.1 (t1.2.2.2.2.2.2.2.2.1.getD 2 0)).bind fun d52=>some ((),d52.2.1,((),(),(),(),(),(),(),(),(),()),(),())) none)) none) none)) none) none:=eF Tryz.func54 (by kernel_rfl)
theorem cz (t0:(List aa.den×Unit)×LI×Int×Unit)(t1:Int):mb (S.step T) t0 t1=brk (decide (0≤t1)&&decide (t1<(t0.1.1.length:Int))) (brk (decide ((at_ (τ:=aa) t0.1.1 t1).1=1)) ((bH T t0 t1).bind fun d20=>some ((),d20.2.1,(),())) (brk (decide ((at_ (τ:=aa) t0.1.1 t1).1=2)) ((au T t0 ([108,101,116,32]:LI)).bind fun d24=>(ic T d24.2.1 (at_ (τ:=aa) t0.1.1 t1).2.2.2.2.2.2.2.1).bind fun d28=>brk (decide (0<((at_ (τ:=aa) t0.1.1 t1).2.2.2.2.2.2.2.2.1.length:Int))) ((au T d28.2.1 ([32,61,32]:LI)).bind fun d34=>(dC T d34.2.1 (at_ (τ:=aa) t0.1.1 t1).2.2.2.2.2.2.2.2.1).bind fun d38=>some ((),d38.2.1,(),())) (some ((),d28.2.1,(),()))) (brk (decide ((at_ (τ:=aa) t0.1.1 t1).1=3)) (brk (decide (0<((at_ (τ:=aa) t0.1.1 t1).2.2.2.2.2.2.2.1.length:Int))) (brk (fits (6+((at_ (τ:=aa) t0.1.1 t1).2.2.2.2.2.2.2.1.getD 0 []).length)) (brk (fits ((([99,111,110,115,116,32]:LI)++((at_ (τ:=aa) t0.1.1 t1).2.2.2.2.2.2.2.1.getD 0 [])).length+3)) ((au T t0 ((([99,111,110,115,116,32]:LI)++((at_ (τ:=aa) t0.1.1 t1).2.2.2.2.2.2.2.1.getD 0 []))++([32,61,32]:LI))).bind fun d48=>brk (decide (0<((at_ (τ:=aa) t0.1.1 t1).2.2.2.2.2.2.2.2.1.length:Int))) ((aJ T d48.2.1 ((at_ (τ:=aa) t0.1.1 t1).2.2.2.2.2.2.2.2.1.getD 0 0) 0).bind fun d54=>some ((),d54.2.1,(),())) none) none) none) none) (brk (decide ((at_ (τ:=aa) t0.1.1 t1).1=4)) (brk (decide (0<((at_ (τ:=aa) t0.1.1 t1).2.2.2.2.2.2.2.1.length:Int))) (brk (fits (3+((at_ (τ:=aa) t0.1.1 t1).2.2.2.2.2.2.2.1.getD 0 []).length)) ((au T t0 (([102,110,32]:LI)++((at_ (τ:=aa) t0.1.1 t1).2.2.2.2.2.2.2.1.getD 0 []))).bind fun d63=>brk (decide (0<((at_ (τ:=aa) t0.1.1 t1).2.2.2.2.2.2.2.2.1.length:Int))) ((mj T d63.2.1 ((at_ (τ:=aa) t0.1.1 t1).2.2.2.2.2.2.2.2.1.getD 0 0)).bind fun d69=>some ((),d69.2.1,(),())) none) none) none) (brk (decide ((at_ (τ:=aa) t0.1.1 t1).1=5)) (brk (bounds ((at_ (τ:=aa) t0.1.1 t1).2.2.2.2.2.2.2.2.1.length) 0 (at_ (τ:=aa) t0.1.1 t1).2.2.2.2.2.1) ((dC T t0 (sub (at_ (τ:=aa) t0.1.1 t1).2.2.2.2.2.2.2.2.1 0 (at_ (τ:=aa) t0.1.1 t1).2.2.2.2.2.1)).bind fun d78=>(au T d78.2.1 ([32,61,32]:LI)).bind fun d80=>brk (bounds ((at_ (τ:=aa) t0.1.1 t1).2.2.2.2.2.2.2.2.1.length) (at_ (τ:=aa) t0.1.1 t1).2.2.2.2.2.1 ((at_ (τ:=aa) t0.1.1 t1).2.2.2.2.2.2.2.2.1.length:Int)) ((dC T d80.2.1 (sub (at_ (τ:=aa) t0.1.1 t1).2.2.2.2.2.2.2.2.1 (at_ (τ:=aa) t0.1.1 t1).2.2.2.2.2.1 ((at_ (τ:=aa) t0.1.1 t1).2.2.2.2.2.2.2.2.1.length:Int))).bind fun d87=>some ((),d87.2.1,(),())) none) none) (brk (decide ((at_ (τ:=aa) t0.1.1 t1).1=6)) (brk (decide (0<((at_ (τ:=aa) t0.1.1 t1).2.2.2.2.2.2.2.2.1.length:Int))) ((aJ T t0 ((at_ (τ:=aa) t0.1.1 t1).2.2.2.2.2.2.2.2.1.getD 0 0) 0).bind fun d95=>some ((),d95.2.1,(),())) none) (brk (decide ((at_ (τ:=aa) t0.1.1 t1).1=7)) ((ko T t0 (at_ (τ:=aa) t0.1.1 t1) ([105,102,32]:LI)).bind fun d100=>some ((),d100.2.1,(),())) (brk (decide ((at_ (τ:=aa) t0.1.1 t1).1=8)) ((au T t0 ([119,104,105,108,101,32]:LI)).bind fun d104=>brk (decide (0<((at_ (τ:=aa) t0.1.1 t1).2.2.2.2.2.2.2.2.1.length:Int))) ((aJ T d104.2.1 ((at_ (τ:=aa) t0.1.1 t1).2.2.2.2.2.2.2.2.1.getD 0 0) 0).bind fun d110=>(au T d110.2.1 ([32]:LI)).bind fun d112=>brk (decide (1<((at_ (τ:=aa) t0.1.1 t1).2.2.2.2.2.2.2.2.1.length:Int))) ((bH T d112.2.1 ((at_ (τ:=aa) t0.1.1 t1).2.2.2.2.2.2.2.2.1.getD 1 0)).bind fun d118=>some ((),d118.2.1,(),())) none) none) (brk (decide ((at_ (τ:=aa) t0.1.1 t1).1=9)) ((jd T t0 (at_ (τ:=aa) t0.1.1 t1) (at_ (τ:=aa) t0.1.1 t1).1 (decide ((at_ (τ:=aa) t0.1.1 t1).1=9))).bind (aR (fun BP=>some ((),BP.1,(),())))) ((jd T t0 (at_ (τ:=aa) t0.1.1 t1) (at_ (τ:=aa) t0.1.1 t1).1 (decide ((at_ (τ:=aa) t0.1.1 t1).1=10))).bind (aR (fun BP=>some ((),BP.1,(),()))))))))))))) none:=eF Tryz.func23 (by kernel_rfl)
theorem bD (t0:(List aa.den×Unit)×LI×Int×Unit)(t4:aa.den)(t15:Int)(t119:Bool):jd (S.step T) t0 t4 t15 t119=brk (t119) ((au T t0 ([102,111,114,32]:LI)).bind fun d123=>(ic T d123.2.1 t4.2.2.2.2.2.2.2.1).bind fun d127=>brk (decide (t4.1=9)) ((au T d127.2.1 ([32,61,32]:LI)).bind fun d132=>brk (bounds t4.2.2.2.2.2.2.2.2.1.length 0 (i64.wrap ((t4.2.2.2.2.2.2.2.2.1.length:Int) - 1))) ((dC T d132.2.1 (sub t4.2.2.2.2.2.2.2.2.1 0 (i64.wrap ((t4.2.2.2.2.2.2.2.2.1.length:Int) - 1)))).bind fun d144=>(au T d144.2.1 ([32]:LI)).bind fun d146=>brk (decide (0≤i64.wrap ((t4.2.2.2.2.2.2.2.2.1.length:Int) - 1))&&decide (i64.wrap ((t4.2.2.2.2.2.2.2.2.1.length:Int) - 1)<(t4.2.2.2.2.2.2.2.2.1.length:Int))) ((bH T d146.2.1 (t4.2.2.2.2.2.2.2.2.1.getD ((i64.wrap ((t4.2.2.2.2.2.2.2.2.1.length:Int) - 1)).toNat) 0)).bind fun d153=>some (Sum.inl (d153.2.1,()))) none) none) ((au T d127.2.1 ([32,105,110,32]:LI)).bind fun d134=>brk (bounds t4.2.2.2.2.2.2.2.2.1.length 0 (i64.wrap ((t4.2.2.2.2.2.2.2.2.1.length:Int) - 1))) ((dC T d134.2.1 (sub t4.2.2.2.2.2.2.2.2.1 0 (i64.wrap ((t4.2.2.2.2.2.2.2.2.1.length:Int) - 1)))).bind fun d144=>(au T d144.2.1 ([32]:LI)).bind fun d146=>brk (decide (0≤i64.wrap ((t4.2.2.2.2.2.2.2.2.1.length:Int) - 1))&&decide (i64.wrap ((t4.2.2.2.2.2.2.2.2.1.length:Int) - 1)<(t4.2.2.2.2.2.2.2.2.1.length:Int))) ((bH T d146.2.1 (t4.2.2.2.2.2.2.2.2.1.getD ((i64.wrap ((t4.2.2.2.2.2.2.2.2.1.length:Int) - 1)).toNat) 0)).bind fun d153=>some (Sum.inl (d153.2.1,()))) none) none)) (brk (decide (t15=11)) ((au T t0 ([98,114,101,97,107]:LI)).bind fun d157=>some (Sum.inl (d157.2.1,()))) (brk (decide (t15=12)) ((au T t0 ([110,101,120,116]:LI)).bind fun d161=>some (Sum.inl (d161.2.1,()))) (brk (decide (t15=13)) ((au T t0 ([114,101,116,117,114,110]:LI)).bind fun d165=>brk (decide (0<(t4.2.2.2.2.2.2.2.2.1.length:Int))) ((au T d165.2.1 ([32]:LI)).bind fun d171=>(dC T d171.2.1 t4.2.2.2.2.2.2.2.2.1).bind fun d175=>some (Sum.inl (d175.2.1,()))) (some (Sum.inl (d165.2.1,())))) (brk (decide (t15=14)) ((au T t0 ([116,114,121,32]:LI)).bind fun d179=>brk (decide (0<(t4.2.2.2.2.2.2.2.2.1.length:Int))) ((bH T d179.2.1 (t4.2.2.2.2.2.2.2.2.1.getD 0 0)).bind fun d185=>(au T d185.2.1 ([32,99,97,116,99,104,32]:LI)).bind fun d187=>(ic T d187.2.1 t4.2.2.2.2.2.2.2.1).bind fun d191=>(au T d191.2.1 ([32]:LI)).bind fun d193=>brk (decide (1<(t4.2.2.2.2.2.2.2.2.1.length:Int))) ((bH T d193.2.1 (t4.2.2.2.2.2.2.2.2.1.getD 1 0)).bind fun d199=>some (Sum.inl (d199.2.1,()))) none) none) (brk (decide (t15=15)) ((au T t0 ([116,104,114,111,119,32]:LI)).bind fun d203=>brk (decide (0<(t4.2.2.2.2.2.2.2.2.1.length:Int))) ((aJ T d203.2.1 (t4.2.2.2.2.2.2.2.2.1.getD 0 0) 0).bind fun d209=>some (Sum.inl (d209.2.1,()))) none) (brk (decide (t15=16)) ((au T t0 ([100,101,102,101,114,32]:LI)).bind fun d213=>brk (decide (0<(t4.2.2.2.2.2.2.2.2.1.length:Int))) ((aJ T d213.2.1 (t4.2.2.2.2.2.2.2.2.1.getD 0 0) 0).bind fun d219=>some (Sum.inl (d219.2.1,()))) none) (some (Sum.inl (t0,()))))))))):=eJ Tryz.func23 rfl (by kernel_rfl)
theorem uo (t0:List aa.den×Unit):uJ (S.step T) t0=(kP T t0).bind fun d8=>brk (!decide (d8.1.1=0)) (some (([]:LI),nG)) (brk (decide (0≤i64.wrap ((t0.1.length:Int) - 1))&&decide (i64.wrap ((t0.1.length:Int) - 1)<(t0.1.length:Int))) ((iS T (t0,[],0,()) (at_ (τ:=aa) t0.1 (i64.wrap ((t0.1.length:Int) - 1))).2.2.2.2.2.2.2.2.1 ((at_ (τ:=aa) t0.1 (i64.wrap ((t0.1.length:Int) - 1))).2.2.2.2.2.2.2.2.1.length:Int) 0).bind (aR (fun y6=>brk (decide (65536<(y6.1.2.1.length:Int))) (some (([]:LI),nG)) (some (y6.1.2.1.map byte,nG))))) none):=eF Tryz.func8 (by kernel_rfl)
theorem qB (t4:(List aa.den×Unit)×LI×Int×Unit)(t23:LI)(t24:Int)(t25:Int):iS (S.step T) t4 t23 t24 t25=brk (decide (t25<t24)) (brk (decide (0≤t25)&&decide (t25<(t23.length:Int))) ((mb T t4 (t23.getD t25.toNat 0)).bind fun d31=>(au T d31.2.1 ([10]:LI)).bind fun d33=>iS T d33.2.1 t23 t24 (i64.wrap (t25+1))) none) (some (Sum.inl (t4,()))):=eL Tryz.func8 rfl (by kernel_rfl)
theorem FM (t0:Int)(t1:Int)(t2:Int):je (S.step T) t0 t1 t2=brk (decide (t1≤t0)) (some (decide (t0≤t2),qE)) (some (false,qE)):=eF Tryz.func171 (by kernel_rfl)
theorem ze (t0:Int):kN (S.step T) t0=brk (decide (97≤t0)) (brk (decide (t0≤122)) (some (true,fS)) (brk (decide (65≤t0)) (brk (decide (t0≤90)) (some (true,fS)) (some (decide (t0=95),fS))) (some (decide (t0=95),fS)))) (brk (decide (65≤t0)) (brk (decide (t0≤90)) (some (true,fS)) (some (decide (t0=95),fS))) (some (decide (t0=95),fS))):=eF Tryz.func124 (by kernel_rfl)
theorem Bv (t0:Int):fY (S.step T) t0=brk (decide (48≤t0)) (some (decide (t0≤57),qY)) (some (false,qY)):=eF Tryz.func125 (by kernel_rfl)
theorem CW (t0:LI):th (S.step T) t0=(fK T t0 Lx.words (Lx.words.length:Int) 0).bind (bC (fun y2=>some (y2.1,sV)) (fun y2=>some (1,sV))):=eF Tryz.func126 (by kernel_rfl)
theorem rK (t0:LI)(t5:List LI)(t6:Int)(t7:Int):fK (S.step T) t0 t5 t6 t7=brk (decide (t7<t6)) (brk (decide (0≤t7)&&decide (t7<(t5.length:Int))) (brk (decide ((t5.getD t7.toNat [])=t0)) (some (Sum.inl (i64.wrap (10+t7),()))) (fK T t0 t5 t6 (i64.wrap (t7+1)))) none) (some (Sum.inr (Sum.inl ()))):=eL Tryz.func126 rfl (by kernel_rfl)
theorem C1 (t0:Int):qI (S.step T) t0=(fY T t0).bind fun d4=>brk (d4.1) (some (true,pF)) (brk (decide (97≤t0)) (some (decide (t0≤102),pF)) (some (false,pF))):=eF Tryz.func129 (by kernel_rfl)
theorem uD (t0:Int):bF (S.step T) t0=some (intBits .or .u8 t0 32,pk):=eF Tryz.func236 (by kernel_rfl)
theorem qV (t0:LI)(t2:Int):j0 (S.step T) t0 16 t2=brk (decide (t0=([]:LI))) (some ((0,false,()),ja)) (brk (decide ((2:Int)≤16)) (brk (decide ((16:Int)≤36)) ((ft T t0 16 t2 (decide ((16:Int)=0)) t0).bind (aR (fun qT=>some (qT,ja)))) none) none):=eF Tryz.func211 (by kernel_rfl)
theorem nV (t0:LI)(t1:Int)(t2:Int)(t8:Bool)(t9:LI):ft (S.step T) t0 t1 t2 t8 t9=brk (decide (t2=0)) ((fu T t0 t1 64 t8 t9).bind (aR (fun Th=>some (Sum.inl Th)))) (brk (decide (t2<0)) (some (Sum.inl (0,false,()))) (brk (decide (64<t2)) (some (Sum.inl (0,false,()))) ((fu T t0 t1 t2 t8 t9).bind (aR (fun Th=>some (Sum.inl Th)))))):=eJ Tryz.func211 rfl (by kernel_rfl)
theorem nU (t0:LI)(t1:Int)(t2:Int)(t8:Bool)(t9:LI):fu (S.step T) t0 t1 t2 t8 t9=brk (decide (t1=10)) ((dU T t0 t1 t2 t8 t9 1844674407370955162).bind (aR (fun Qm=>some (Sum.inl Qm)))) (brk (decide (t1=16)) ((dU T t0 t1 t2 t8 t9 1152921504606846976).bind (aR (fun Qm=>some (Sum.inl Qm)))) (brk (decide ((u64.wrap t1)≠0)) ((dU T t0 t1 t2 t8 t9 (u64.wrap ((u64.wrap ((18446744073709551615:Int).tdiv (u64.wrap t1)))+1))).bind (aR (fun Qm=>some (Sum.inl Qm)))) none)):=eJ Tryz.func211 rfl (by kernel_rfl)
theorem nT (t0:LI)(t1:Int)(t2:Int)(t8:Bool)(t9:LI)(t10:Int):dU (S.step T) t0 t1 t2 t8 t9 t10=brk (decide (0≤u64.wrap t2)) ((aO T t1 t8 t9 t10 (u64.wrap ((u64.wrap (1*2^min ((u64.wrap t2).toNat) u64.bits)) - 1)) false 0 t0 (t0.length:Int) 0).bind (bC (fun Pa=>some (Sum.inl Pa)) (fun Pa=>brk (Pa.2.1) ((qX T Pa.1).bind fun d167=>brk (!d167.1) (some (Sum.inl (0,false,()))) (some (Sum.inl (Pa.2.2.1,true,())))) (some (Sum.inl (Pa.2.2.1,true,())))))) none:=eJ Tryz.func211 rfl (by kernel_rfl)
theorem nW (t1:Int)(t8:Bool)(t9:LI)(t10:Int)(t11:Int)(t12:Bool)(t13:Int)(t16:Int)(t99:LI)(t100:Int)(t101:Int):bL (S.step T) t1 t8 t9 t10 t11 t12 t13 t16 t99 t100 t101=brk (decide (u8.wrap t1≤t16)) (some (Sum.inl (0,false,()))) (brk (decide (t10≤t13)) (some (Sum.inl (t11,false,()))) (brk (decide (u64.wrap ((u64.wrap (t13*(u64.wrap t1)))+(u64.wrap t16))<u64.wrap (t13*(u64.wrap t1)))) (some (Sum.inl (t11,false,()))) (brk (decide (t11<u64.wrap ((u64.wrap (t13*(u64.wrap t1)))+(u64.wrap t16)))) (some (Sum.inl (t11,false,()))) (some (Sum.inr (Sum.inl (t1,t8,t9,t10,t11,t12,u64.wrap ((u64.wrap (t13*(u64.wrap t1)))+(u64.wrap t16)),t99,t100,t101,()))))))):=eJ Tryz.func211 rfl (by kernel_rfl)
theorem jk (t1:Int)(t8:Bool)(t9:LI)(t10:Int)(t11:Int)(t12:Bool)(t13:Int)(t99:LI)(t100:Int)(t101:Int):aO (S.step T) t1 t8 t9 t10 t11 t12 t13 t99 t100 t101=brk (decide (t101<t100)) (brk (decide (0≤t101)&&decide (t101<(t99.length:Int))) (brk (decide (t99.getD t101.toNat 0=95)) (brk (t8) (aO T t1 t8 t9 t10 t11 true t13 t99 t100 (i64.wrap (t101+1))) (brk (decide (48≤t99.getD t101.toNat 0)) (brk (decide (t99.getD t101.toNat 0≤57)) ((bL T t1 t8 t9 t10 t11 t12 t13 (u8.wrap ((t99.getD t101.toNat 0) - 48)) t99 t100 t101).bind (bC (fun gi=>some (Sum.inl gi)) (fun gi=>aO T gi.1 gi.2.1 gi.2.2.1 gi.2.2.2.1 gi.2.2.2.2.1 gi.2.2.2.2.2.1 gi.2.2.2.2.2.2.1 gi.2.2.2.2.2.2.2.1 gi.2.2.2.2.2.2.2.2.1 (i64.wrap (gi.2.2.2.2.2.2.2.2.2.1+1))))) ((bF T (t99.getD t101.toNat 0)).bind fun d123=>brk (decide (97≤d123.1)) ((bF T (t99.getD t101.toNat 0)).bind fun d127=>brk (decide (d127.1≤122)) ((bF T (t99.getD t101.toNat 0)).bind fun d131=>(bL T t1 t8 t9 t10 t11 t12 t13 (u8.wrap ((u8.wrap (d131.1 - 97))+10)) t99 t100 t101).bind (bC (fun gi=>some (Sum.inl gi)) (fun gi=>aO T gi.1 gi.2.1 gi.2.2.1 gi.2.2.2.1 gi.2.2.2.2.1 gi.2.2.2.2.2.1 gi.2.2.2.2.2.2.1 gi.2.2.2.2.2.2.2.1 gi.2.2.2.2.2.2.2.2.1 (i64.wrap (gi.2.2.2.2.2.2.2.2.2.1+1))))) (some (Sum.inl (0,false,())))) (some (Sum.inl (0,false,()))))) ((bF T (t99.getD t101.toNat 0)).bind fun d123=>brk (decide (97≤d123.1)) ((bF T (t99.getD t101.toNat 0)).bind fun d127=>brk (decide (d127.1≤122)) ((bF T (t99.getD t101.toNat 0)).bind fun d131=>(bL T t1 t8 t9 t10 t11 t12 t13 (u8.wrap ((u8.wrap (d131.1 - 97))+10)) t99 t100 t101).bind (bC (fun gi=>some (Sum.inl gi)) (fun gi=>aO T gi.1 gi.2.1 gi.2.2.1 gi.2.2.2.1 gi.2.2.2.2.1 gi.2.2.2.2.2.1 gi.2.2.2.2.2.2.1 gi.2.2.2.2.2.2.2.1 gi.2.2.2.2.2.2.2.2.1 (i64.wrap (gi.2.2.2.2.2.2.2.2.2.1+1))))) (some (Sum.inl (0,false,())))) (some (Sum.inl (0,false,())))))) (brk (decide (48≤t99.getD t101.toNat 0)) (brk (decide (t99.getD t101.toNat 0≤57)) ((bL T t1 t8 t9 t10 t11 t12 t13 (u8.wrap ((t99.getD t101.toNat 0) - 48)) t99 t100 t101).bind (bC (fun gi=>some (Sum.inl gi)) (fun gi=>aO T gi.1 gi.2.1 gi.2.2.1 gi.2.2.2.1 gi.2.2.2.2.1 gi.2.2.2.2.2.1 gi.2.2.2.2.2.2.1 gi.2.2.2.2.2.2.2.1 gi.2.2.2.2.2.2.2.2.1 (i64.wrap (gi.2.2.2.2.2.2.2.2.2.1+1))))) ((bF T (t99.getD t101.toNat 0)).bind fun d123=>brk (decide (97≤d123.1)) ((bF T (t99.getD t101.toNat 0)).bind fun d127=>brk (decide (d127.1≤122)) ((bF T (t99.getD t101.toNat 0)).bind fun d131=>(bL T t1 t8 t9 t10 t11 t12 t13 (u8.wrap ((u8.wrap (d131.1 - 97))+10)) t99 t100 t101).bind (bC (fun gi=>some (Sum.inl gi)) (fun gi=>aO T gi.1 gi.2.1 gi.2.2.1 gi.2.2.2.1 gi.2.2.2.2.1 gi.2.2.2.2.2.1 gi.2.2.2.2.2.2.1 gi.2.2.2.2.2.2.2.1 gi.2.2.2.2.2.2.2.2.1 (i64.wrap (gi.2.2.2.2.2.2.2.2.2.1+1))))) (some (Sum.inl (0,false,())))) (some (Sum.inl (0,false,()))))) ((bF T (t99.getD t101.toNat 0)).bind fun d123=>brk (decide (97≤d123.1)) ((bF T (t99.getD t101.toNat 0)).bind fun d127=>brk (decide (d127.1≤122)) ((bF T (t99.getD t101.toNat 0)).bind fun d131=>(bL T t1 t8 t9 t10 t11 t12 t13 (u8.wrap ((u8.wrap (d131.1 - 97))+10)) t99 t100 t101).bind (bC (fun gi=>some (Sum.inl gi)) (fun gi=>aO T gi.1 gi.2.1 gi.2.2.1 gi.2.2.2.1 gi.2.2.2.2.1 gi.2.2.2.2.2.1 gi.2.2.2.2.2.2.1 gi.2.2.2.2.2.2.2.1 gi.2.2.2.2.2.2.2.2.1 (i64.wrap (gi.2.2.2.2.2.2.2.2.2.1+1))))) (some (Sum.inl (0,false,())))) (some (Sum.inl (0,false,())))))) none) (some (Sum.inr (Sum.inl (t9,t12,t13,())))):=eL Tryz.func211 rfl (by kernel_rfl)
theorem se (t0:LI)(t1:Int)(t2:Int):fy (S.step T) t0 t1 t2=(j0 T t0 t1 t2).bind fun d14=>brk (!d14.1.2.1) (none) (some ((d14.1.1,true,()),nh)):=eF Tryz.func130 (by kernel_rfl)
theorem lk (t0:LI)(t1:Int):kL (S.step T) t0 t1=brk (decide (0≤t1)&&decide (t1<(t0.length:Int))) (brk (decide (t0.getD t1.toNat 0=48)) (brk (decide (i64.wrap (t1+1)<(t0.length:Int))) (brk (decide (0≤i64.wrap (t1+1))&&decide (i64.wrap (t1+1)<(t0.length:Int))) (brk (decide (t0.getD ((i64.wrap (t1+1)).toNat) 0=120)) ((fg T t0 t1 (2,t1,0,0,0,([]:LI),()) (i64.wrap (t1+2))).bind (aR (fun y5=>brk (decide (y5.2.2.2.1=i64.wrap (y5.2.1+2))) (some (((y5.2.2.1.1,y5.2.2.1.2.1,y5.2.2.2.1,y5.2.2.1.2.2.2),true,()),cC)) (brk (decide (y5.2.2.2.1=i64.wrap (y5.2.1+18))) (brk (decide (y5.2.2.2.1<(y5.1.length:Int))) (brk (decide (0≤y5.2.2.2.1)&&decide (y5.2.2.2.1<(y5.1.length:Int))) ((qI T (y5.1.getD y5.2.2.2.1.toNat 0)).bind fun d74=>brk (d74.1) (some (((y5.2.2.1.1,y5.2.2.1.2.1,y5.2.2.2.1,y5.2.2.1.2.2.2),true,()),cC)) (brk (bounds y5.1.length (i64.wrap (y5.2.1+2)) y5.2.2.2.1) ((fy T (sub y5.1 (i64.wrap (y5.2.1+2)) y5.2.2.2.1) 16 64).bind fun d84=>some (((y5.2.2.1.1,y5.2.2.1.2.1,y5.2.2.2.1,y5.2.2.1.2.2.2.1,i64.wrap d84.1.1,y5.2.2.1.2.2.2.2.2),false,()),cC)) none)) none) (brk (bounds y5.1.length (i64.wrap (y5.2.1+2)) y5.2.2.2.1) ((fy T (sub y5.1 (i64.wrap (y5.2.1+2)) y5.2.2.2.1) 16 64).bind fun d84=>some (((y5.2.2.1.1,y5.2.2.1.2.1,y5.2.2.2.1,y5.2.2.1.2.2.2.1,i64.wrap d84.1.1,y5.2.2.1.2.2.2.2.2),false,()),cC)) none)) (brk (bounds y5.1.length (i64.wrap (y5.2.1+2)) y5.2.2.2.1) ((fy T (sub y5.1 (i64.wrap (y5.2.1+2)) y5.2.2.2.1) 16 64).bind fun d84=>some (((y5.2.2.1.1,y5.2.2.1.2.1,y5.2.2.2.1,y5.2.2.1.2.2.2.1,i64.wrap d84.1.1,y5.2.2.1.2.2.2.2.2),false,()),cC)) none))))) (brk (decide (0≤t1)&&decide (t1<(t0.length:Int))) (brk (!decide (t0.getD t1.toNat 0=48)) ((cW T t0 t1 (2,t1,0,0,0,([]:LI),()) (i64.wrap (t1+1))).bind (aR (fun CB=>(cV T CB.1 CB.2.1 CB.2.2.1 CB.2.2.2.1).bind (aR (fun KB=>some (KB,cC)))))) ((cV T t0 t1 (2,t1,0,0,0,([]:LI),()) (i64.wrap (t1+1))).bind (aR (fun KB=>some (KB,cC))))) none)) none) (brk (decide (0≤t1)&&decide (t1<(t0.length:Int))) (brk (!decide (t0.getD t1.toNat 0=48)) ((cW T t0 t1 (2,t1,0,0,0,([]:LI),()) (i64.wrap (t1+1))).bind (aR (fun CB=>(cV T CB.1 CB.2.1 CB.2.2.1 CB.2.2.2.1).bind (aR (fun KB=>some (KB,cC)))))) ((cV T t0 t1 (2,t1,0,0,0,([]:LI),()) (i64.wrap (t1+1))).bind (aR (fun KB=>some (KB,cC))))) none)) (brk (decide (0≤t1)&&decide (t1<(t0.length:Int))) (brk (!decide (t0.getD t1.toNat 0=48)) ((cW T t0 t1 (2,t1,0,0,0,([]:LI),()) (i64.wrap (t1+1))).bind (aR (fun CB=>(cV T CB.1 CB.2.1 CB.2.2.1 CB.2.2.2.1).bind (aR (fun KB=>some (KB,cC)))))) ((cV T t0 t1 (2,t1,0,0,0,([]:LI),()) (i64.wrap (t1+1))).bind (aR (fun KB=>some (KB,cC))))) none)) none:=eF Tryz.func127 (by kernel_rfl)
theorem nY (t0:LI)(t1:Int)(t4:aw.den)(t6:Int):cV (S.step T) t0 t1 t4 t6=brk (decide (i64.wrap (t6+1)<(t0.length:Int))) (brk (decide (0≤t6)&&decide (t6<(t0.length:Int))) (brk (decide (t0.getD t6.toNat 0=46)) (brk (decide (0≤i64.wrap (t6+1))&&decide (i64.wrap (t6+1)<(t0.length:Int))) ((fY T (t0.getD ((i64.wrap (t6+1)).toNat) 0)).bind fun d126=>brk (d126.1) ((eQ T t0 t1 t4 (i64.wrap (t6+1)) t6).bind (aR (fun Mg=>(dJ T Mg.1 Mg.2.1 Mg.2.2.1 Mg.2.2.2.1 Mg.2.2.2.2.1).bind (aR (fun OH=>some (Sum.inl OH)))))) ((dJ T t0 t1 t4 t6 t6).bind (aR (fun OH=>some (Sum.inl OH))))) none) ((dJ T t0 t1 t4 t6 t6).bind (aR (fun OH=>some (Sum.inl OH))))) none) ((dJ T t0 t1 t4 t6 t6).bind (aR (fun OH=>some (Sum.inl OH)))):=eJ Tryz.func127 rfl (by kernel_rfl)
theorem oq (t0:LI)(t1:Int)(t4:aw.den)(t6:Int)(t9:Int):dJ (S.step T) t0 t1 t4 t6 t9=brk (decide (t6<(t0.length:Int))) (brk (decide (0≤t6)&&decide (t6<(t0.length:Int))) (brk (decide (t0.getD t6.toNat 0=101)) (brk (decide (i64.wrap (t6+1)<(t0.length:Int))) (brk (decide (0≤i64.wrap (t6+1))&&decide (i64.wrap (t6+1)<(t0.length:Int))) (brk (decide (t0.getD ((i64.wrap (t6+1)).toNat) 0=43)) ((fD T t0 t1 t4 (i64.wrap ((i64.wrap (t6+1))+1)) t9).bind (bC (fun ji=>some (Sum.inl ji)) (fun ji=>(dK T ji.1 ji.2.1 ji.2.2.1 ji.2.2.2.1 ji.2.2.2.2.1).bind (aR (fun BP=>some (Sum.inl BP)))))) (brk (decide (0≤i64.wrap (t6+1))&&decide (i64.wrap (t6+1)<(t0.length:Int))) (brk (decide (t0.getD ((i64.wrap (t6+1)).toNat) 0=45)) ((fD T t0 t1 t4 (i64.wrap ((i64.wrap (t6+1))+1)) t9).bind (bC (fun ji=>some (Sum.inl ji)) (fun ji=>(dK T ji.1 ji.2.1 ji.2.2.1 ji.2.2.2.1 ji.2.2.2.2.1).bind (aR (fun BP=>some (Sum.inl BP)))))) ((fD T t0 t1 t4 (i64.wrap (t6+1)) t9).bind (bC (fun ji=>some (Sum.inl ji)) (fun ji=>(dK T ji.1 ji.2.1 ji.2.2.1 ji.2.2.2.1 ji.2.2.2.2.1).bind (aR (fun BP=>some (Sum.inl BP))))))) none)) none) ((fD T t0 t1 t4 (i64.wrap (t6+1)) t9).bind (bC (fun ji=>some (Sum.inl ji)) (fun ji=>(dK T ji.1 ji.2.1 ji.2.2.1 ji.2.2.2.1 ji.2.2.2.2.1).bind (aR (fun BP=>some (Sum.inl BP))))))) ((dK T t0 t1 t4 t6 t9).bind (aR (fun BP=>some (Sum.inl BP))))) none) ((dK T t0 t1 t4 t6 t9).bind (aR (fun BP=>some (Sum.inl BP)))):=eJ Tryz.func127 rfl (by kernel_rfl)
theorem uF (t0:LI)(t1:Int)(t4:aw.den)(t6:Int)(t9:Int):fD (S.step T) t0 t1 t4 t6 t9=brk (decide ((t0.length:Int)≤t6)) (some (Sum.inl ((t4.1,t4.2.1,t6,t4.2.2.2),true,()))) (brk (decide (0≤t6)&&decide (t6<(t0.length:Int))) ((fY T (t0.getD t6.toNat 0)).bind fun d180=>brk (!d180.1) (some (Sum.inl ((t4.1,t4.2.1,t6,t4.2.2.2),true,()))) ((eR T t0 t1 t4 t6 t9).bind (aR (fun Vp=>some (Sum.inr (Sum.inl Vp)))))) none):=eJ Tryz.func127 rfl (by kernel_rfl)
theorem uG (t0:LI)(t1:Int)(t4:aw.den)(t6:Int)(t9:Int):dK (S.step T) t0 t1 t4 t6 t9=brk (decide (t6=t9)) (brk (bounds t0.length t1 t6) ((Lx.lZ (sub t0 t1 t6,10,64,())).bind fun d208=>brk (d208.1.2.1) (some (Sum.inl ((t4.1,t4.2.1,t6,t4.2.2.2.1,d208.1.1,t4.2.2.2.2.2),false,()))) (brk (bounds t0.length t1 t6) (some (Sum.inl ((3,t4.2.1,t6,t4.2.2.2.1,t4.2.2.2.2.1,sub t0 t1 t6,()),false,()))) none)) none) (brk (bounds t0.length t1 t6) (some (Sum.inl ((3,t4.2.1,t6,t4.2.2.2.1,t4.2.2.2.2.1,sub t0 t1 t6,()),false,()))) none):=eJ Tryz.func127 rfl (by kernel_rfl)
theorem pj (t0:LI)(t1:Int)(t4:aw.den)(t6:Int):fg (S.step T) t0 t1 t4 t6=brk (decide (t6<(t0.length:Int))) (brk (decide (t6<i64.wrap (t1+18))) (brk (decide (0≤t6)&&decide (t6<(t0.length:Int))) ((qI T (t0.getD t6.toNat 0)).bind fun d49=>brk (d49.1) (fg T t0 t1 t4 (i64.wrap (t6+1))) (some (Sum.inl (t0,t1,t4,t6,())))) none) (some (Sum.inl (t0,t1,t4,t6,())))) (some (Sum.inl (t0,t1,t4,t6,()))):=eL Tryz.func127 rfl (by kernel_rfl)
theorem nZ (t0:LI)(t1:Int)(t4:aw.den)(t6:Int):cW (S.step T) t0 t1 t4 t6=brk (decide (t6<(t0.length:Int))) (brk (decide (0≤t6)&&decide (t6<(t0.length:Int))) ((fY T (t0.getD t6.toNat 0)).bind fun d105=>brk (d105.1) (cW T t0 t1 t4 (i64.wrap (t6+1))) (some (Sum.inl (t0,t1,t4,t6,())))) none) (some (Sum.inl (t0,t1,t4,t6,()))):=eL Tryz.func127 rfl (by kernel_rfl)
theorem oh (t0:LI)(t1:Int)(t4:aw.den)(t6:Int)(t9:Int):eQ (S.step T) t0 t1 t4 t6 t9=brk (decide (t6<(t0.length:Int))) (brk (decide (0≤t6)&&decide (t6<(t0.length:Int))) ((fY T (t0.getD t6.toNat 0)).bind fun d138=>brk (d138.1) (eQ T t0 t1 t4 (i64.wrap (t6+1)) t9) (some (Sum.inl (t0,t1,t4,t6,t9,())))) none) (some (Sum.inl (t0,t1,t4,t6,t9,()))):=eL Tryz.func127 rfl (by kernel_rfl)
theorem oj (t0:LI)(t1:Int)(t4:aw.den)(t6:Int)(t9:Int):eR (S.step T) t0 t1 t4 t6 t9=brk (decide (t6<(t0.length:Int))) (brk (decide (0≤t6)&&decide (t6<(t0.length:Int))) ((fY T (t0.getD t6.toNat 0)).bind fun d194=>brk (d194.1) (eR T t0 t1 t4 (i64.wrap (t6+1)) t9) (some (Sum.inl (t0,t1,t4,t6,t9,())))) none) (some (Sum.inl (t0,t1,t4,t6,t9,()))):=eL Tryz.func127 rfl (by kernel_rfl)
theorem jj (t0:LI)(t1:Int):fv (S.step T) t0 t1=(Bld.oN (t0,t1,())).bind fun d7=>some (d7.1,jX):=eF Tryz.func210 (by kernel_rfl)
theorem mu (t0:LI)(t1:Int):eH (S.step T) t0 t1=(fv T t0 t1).bind fun d7=>some (d7.1,jZ):=eF Tryz.func128 (by kernel_rfl)
theorem uv (t0:Int):kE (S.step T) t0=(je T t0 10 31).bind fun d5=>brk (d5.1) (brk (decide (0≤i64.wrap (t0 - 10))&&decide (i64.wrap (t0 - 10)<(Lx.words.length:Int))) (some (Lx.words.getD ((i64.wrap (t0 - 10)).toNat) [],iz)) none) ((je T t0 40 50).bind fun d13=>brk (d13.1) (brk (decide (0≤i64.wrap (t0 - 40))&&decide (i64.wrap (t0 - 40)<(Lx.jE.length:Int))) (some (Lx.jE.getD ((i64.wrap (t0 - 40)).toNat) [],iz)) none) ((je T t0 61 78).bind fun d21=>brk (d21.1) (brk (decide (0≤i64.wrap ((i64.wrap (t0 - 60)) - 1))&&decide (i64.wrap ((i64.wrap (t0 - 60)) - 1)<(Lx.ry.length:Int))) (some (Lx.ry.getD ((i64.wrap ((i64.wrap (t0 - 60)) - 1)).toNat) [],iz)) none) (brk (decide (t0=5)) (some (([59]:LI),iz)) (some (([]:LI),iz))))):=eF Tryz.func107 (by kernel_rfl)
theorem nS (t0:LI)(t1:LI):hD (S.step T) t0 t1=brk (decide ((t1.length:Int)≤(t0.length:Int))) (brk (bounds t0.length 0 (t1.length:Int)) (some (decide ((sub t0 0 (t1.length:Int))=t1),gm)) none) (some (false,gm)):=eF Tryz.func208 (by kernel_rfl)
theorem sh (t0:LI)(t1:LI):strings_HasPrefix (S.step T) t0 t1=(hD T t0 t1).bind fun d7=>some (d7.1,nj):=eF Tryz.func123 (by kernel_rfl)
theorem xT (t0:LI)(t1:Int):iM (S.step T) t0 t1=brk (decide (0≤t1)&&decide (t1<(t0.length:Int))) ((kN T (t0.getD t1.toNat 0)).bind fun d24=>brk (d24.1) ((gO T t0 t1 (0,t1,0,0,0,([]:LI),()) t1).bind (aR (fun y5=>brk (bounds y5.1.length y5.2.1 y5.2.2.2.1) ((th T (sub y5.1 y5.2.1 y5.2.2.2.1)).bind fun d50=>brk (decide (d50.1=1)) (brk (bounds y5.1.length y5.2.1 y5.2.2.2.1) (some (((d50.1,y5.2.2.1.2.1,y5.2.2.2.1,y5.2.2.1.2.2.2.1,y5.2.2.1.2.2.2.2.1,sub y5.1 y5.2.1 y5.2.2.2.1,()),false,()),iB)) none) (some (((d50.1,y5.2.2.1.2.1,y5.2.2.2.1,y5.2.2.1.2.2.2),false,()),iB))) none))) ((fY T (t0.getD t1.toNat 0)).bind fun d63=>brk (d63.1) ((kL T t0 t1).bind fun d66=>some (d66.1,iB)) (brk (decide (t0.getD t1.toNat 0=34)) ((bu T t0 (4,t1,0,0,0,([]:LI),()) [] (i64.wrap (t1+1))).bind (aR (fun Ml=>some (Ml,iB)))) ((fL T t0 t1 (0,t1,0,0,0,([]:LI),()) 0 78).bind (aR (fun O8=>brk (decide (O8.2.1.1=0)) (some (((O8.2.1.1,O8.2.1.2.1,O8.1,O8.2.1.2.2.2),true,()),iB)) (some ((O8.2.1,false,()),iB)))))))) none:=eF Tryz.func71 (by kernel_rfl)
theorem sy (t0:LI)(t1:Int)(t4:aw.den)(t7:Int):gO (S.step T) t0 t1 t4 t7=brk (decide (t7<(t0.length:Int))) (brk (decide (0≤t7)&&decide (t7<(t0.length:Int))) ((kN T (t0.getD t7.toNat 0)).bind fun d34=>brk (d34.1) (gO T t0 t1 t4 (i64.wrap (t7+1))) (brk (decide (0≤t7)&&decide (t7<(t0.length:Int))) ((fY T (t0.getD t7.toNat 0)).bind fun d39=>brk (d39.1) (gO T t0 t1 t4 (i64.wrap (t7+1))) (some (Sum.inl (t0,t1,t4,t7,())))) none)) none) (some (Sum.inl (t0,t1,t4,t7,()))):=eL Tryz.func71 rfl (by kernel_rfl)
theorem gr (t0:LI)(t4:aw.den)(t8:LI)(t9:Int):bu (S.step T) t0 t4 t8 t9=brk (decide ((t0.length:Int)≤t9)) (some (Sum.inl ((t4.1,t4.2.1,t9,t4.2.2.2),true,()))) (brk (decide (0≤t9)&&decide (t9<(t0.length:Int))) (brk (decide (t0.getD t9.toNat 0=10)) (some (Sum.inl ((t4.1,t4.2.1,t9,t4.2.2.2),true,()))) (brk (decide (0≤t9)&&decide (t9<(t0.length:Int))) (brk (decide (t0.getD t9.toNat 0=34)) (some (Sum.inl ((t4.1,t4.2.1,i64.wrap (t9+1),t4.2.2.2.1,t4.2.2.2.2.1,t8.map byte,()),false,()))) (brk (decide (0≤t9)&&decide (t9<(t0.length:Int))) (brk (!decide (t0.getD t9.toNat 0=92)) (brk (decide (0≤t9)&&decide (t9<(t0.length:Int))) (brk (fits (t8.length+([t0.getD t9.toNat 0]:LI).length)) (bu T t0 t4 (t8++([t0.getD t9.toNat 0]:LI)) (i64.wrap (t9+1))) none) none) (brk (decide ((t0.length:Int)≤i64.wrap (t9+1))) (some (Sum.inl ((t4.1,t4.2.1,i64.wrap (t9+1),t4.2.2.2),true,()))) (brk (decide (0≤i64.wrap (t9+1))&&decide (i64.wrap (t9+1)<(t0.length:Int))) ((eH T ([110,116,34,92]:LI) (t0.getD ((i64.wrap (t9+1)).toNat) 0)).bind fun d124=>brk (decide (0≤d124.1)) (brk (decide (0≤d124.1)&&decide (d124.1<4)) (brk (fits (t8.length+([([10,9,34,92]:LI).getD d124.1.toNat 0]:LI).length)) (bu T t0 t4 (t8++([([10,9,34,92]:LI).getD d124.1.toNat 0]:LI)) (i64.wrap (t9+2))) none) none) (brk (decide (0≤i64.wrap (t9+1))&&decide (i64.wrap (t9+1)<(t0.length:Int))) (brk (!decide (t0.getD ((i64.wrap (t9+1)).toNat) 0=120)) (some (Sum.inl ((t4.1,t4.2.1,i64.wrap (t9+1),t4.2.2.2),true,()))) ((jN T t0 t4 t8 t9 2).bind (bC (fun IH=>some (Sum.inl IH)) (fun IH=>brk (bounds IH.1.length (i64.wrap (IH.2.2.2.1+2)) (i64.wrap (IH.2.2.2.1+4))) ((fy T (sub IH.1 (i64.wrap (IH.2.2.2.1+2)) (i64.wrap (IH.2.2.2.1+4))) 16 8).bind fun d174=>brk (fits (IH.2.2.1.length+([u8.wrap d174.1.1]:LI).length)) (bu T IH.1 IH.2.1 (IH.2.2.1++([u8.wrap d174.1.1]:LI)) (i64.wrap (IH.2.2.2.1+4))) none) none)))) none)) none))) none)) none)) none):=eL Tryz.func71 rfl (by kernel_rfl)
theorem mR (t0:LI)(t4:aw.den)(t8:LI)(t9:Int)(t11:Int):jN (S.step T) t0 t4 t8 t9 t11=brk (decide (t11≤3)) (brk (decide ((t0.length:Int)≤i64.wrap (t9+t11))) (some (Sum.inl ((t4.1,t4.2.1,i64.wrap (t9+t11),t4.2.2.2),true,()))) (brk (decide (0≤i64.wrap (t9+t11))&&decide (i64.wrap (t9+t11)<(t0.length:Int))) ((qI T (t0.getD ((i64.wrap (t9+t11)).toNat) 0)).bind fun d159=>brk (!d159.1) (some (Sum.inl ((t4.1,t4.2.1,i64.wrap (t9+t11),t4.2.2.2),true,()))) (jN T t0 t4 t8 t9 (i64.wrap (t11+1)))) none)) (some (Sum.inr (Sum.inl (t0,t4,t8,t9,())))):=eL Tryz.func71 rfl (by kernel_rfl)
theorem rO (t0:LI)(t1:Int)(t4:aw.den)(t14:Int)(t15:Int):fL (S.step T) t0 t1 t4 t14 t15=brk (decide (0<t15)) ((kE T t15).bind fun d189=>brk (!decide (d189.1=([]:LI))) (brk (decide (0<(d189.1.length:Int))) ((kN T (d189.1.getD 0 0)).bind fun d195=>brk (!d195.1) (brk (bounds t0.length t1 (t0.length:Int)) ((strings_HasPrefix T (sub t0 t1 (t0.length:Int)) d189.1).bind fun d203=>brk (d203.1) (brk (decide (t14<(d189.1.length:Int))) (fL T t0 t1 (t15,t4.2.1,i64.wrap (t1+(d189.1.length:Int)),t4.2.2.2) (d189.1.length:Int) (i64.wrap (t15 - 1))) (fL T t0 t1 t4 t14 (i64.wrap (t15 - 1)))) (fL T t0 t1 t4 t14 (i64.wrap (t15 - 1)))) none) (fL T t0 t1 t4 t14 (i64.wrap (t15 - 1)))) none) (fL T t0 t1 t4 t14 (i64.wrap (t15 - 1)))) (some (Sum.inl (t1,t4,()))):=eL Tryz.func71 rfl (by kernel_rfl)
theorem vH (t0:LI)(t1:Int):ti (S.step T) t0 t1=brk (decide (t0=([]:LI))) (some (false,cD)) (brk (decide (0<(t0.length:Int))) (brk (!decide (t0.getD 0 0=34)) (brk (decide (0<(t0.length:Int))) ((kN T (t0.getD 0 0)).bind fun d16=>brk (!d16.1) (brk (decide (0<(t0.length:Int))) ((fY T (t0.getD 0 0)).bind fun d22=>brk (!d22.1) (some (false,cD)) ((iM T t0 0).bind fun d28=>brk (!d28.1.2.1) (brk (decide (d28.1.1.1=t1)) (some (decide (d28.1.1.2.2.1=(t0.length:Int)),cD)) (some (false,cD))) (some (false,cD)))) none) ((iM T t0 0).bind fun d28=>brk (!d28.1.2.1) (brk (decide (d28.1.1.1=t1)) (some (decide (d28.1.1.2.2.1=(t0.length:Int)),cD)) (some (false,cD))) (some (false,cD)))) none) ((iM T t0 0).bind fun d28=>brk (!d28.1.2.1) (brk (decide (d28.1.1.1=t1)) (some (decide (d28.1.1.2.2.1=(t0.length:Int)),cD)) (some (false,cD))) (some (false,cD)))) none):=eF Tryz.func222 (by kernel_rfl)
theorem qA (t0:LI):eE (S.step T) t0=brk (decide ((t0.length:Int)≤40)) ((ti T t0 1).bind fun d8=>some (d8.1,gq)) (some (false,gq)):=eF Tryz.func172 (by kernel_rfl)
theorem za (t0:Int):pG (S.step T) t0=(je T t0 1 16).bind fun d4=>some (d4.1,pY):=eF Tryz.func177 (by kernel_rfl)
theorem xd (t0:Bool)(t1:Bool)(t2:Bool)(t3:Bool)(t4:Int)(t5:Int)(t6:Int)(t7:LI):aK (S.step T) t0 t1 t2 t3 t4 t5 t6 t7=brk (t0) (brk (t1) (brk (t2) (brk (t3) (some (true,(),(),(),(),t4,t5,t6,t7,())) (some (decide (t7=([]:LI)),(),(),(),(),t4,t5,t6,t7,()))) (brk (decide (t6=0)) (brk (t3) (some (true,(),(),(),(),t4,t5,t6,t7,())) (some (decide (t7=([]:LI)),(),(),(),(),t4,t5,t6,t7,()))) (some (false,(),(),(),(),t4,t5,t6,t7,())))) (brk (decide (t5=0)) (brk (t2) (brk (t3) (some (true,(),(),(),(),t4,t5,t6,t7,())) (some (decide (t7=([]:LI)),(),(),(),(),t4,t5,t6,t7,()))) (brk (decide (t6=0)) (brk (t3) (some (true,(),(),(),(),t4,t5,t6,t7,())) (some (decide (t7=([]:LI)),(),(),(),(),t4,t5,t6,t7,()))) (some (false,(),(),(),(),t4,t5,t6,t7,())))) (some (false,(),(),(),(),t4,t5,t6,t7,())))) (brk (decide (t4=0)) (brk (t1) (brk (t2) (brk (t3) (some (true,(),(),(),(),t4,t5,t6,t7,())) (some (decide (t7=([]:LI)),(),(),(),(),t4,t5,t6,t7,()))) (brk (decide (t6=0)) (brk (t3) (some (true,(),(),(),(),t4,t5,t6,t7,())) (some (decide (t7=([]:LI)),(),(),(),(),t4,t5,t6,t7,()))) (some (false,(),(),(),(),t4,t5,t6,t7,())))) (brk (decide (t5=0)) (brk (t2) (brk (t3) (some (true,(),(),(),(),t4,t5,t6,t7,())) (some (decide (t7=([]:LI)),(),(),(),(),t4,t5,t6,t7,()))) (brk (decide (t6=0)) (brk (t3) (some (true,(),(),(),(),t4,t5,t6,t7,())) (some (decide (t7=([]:LI)),(),(),(),(),t4,t5,t6,t7,()))) (some (false,(),(),(),(),t4,t5,t6,t7,())))) (some (false,(),(),(),(),t4,t5,t6,t7,())))) (some (false,(),(),(),(),t4,t5,t6,t7,()))):=eF Tryz.func175 (by kernel_rfl)
theorem zj (t0:Int):mG (S.step T) t0=(je T t0 20 37).bind fun d4=>some (d4.1,qb):=eF Tryz.func174 (by kernel_rfl)
theorem wY (t0:Int)(t1:Int)(t2:LI):aL (S.step T) t0 t1 t2=brk (bounds t2.length t0 t1) ((dY T t2 (sub t2 t0 t1) ((sub t2 t0 t1).length:Int) 0).bind (bC (fun y2=>some (y2.2.1,(),(),y2.1,())) (fun y2=>some (true,(),(),y2)))) none:=eF Tryz.func173 (by kernel_rfl)
theorem nr (t2:LI)(t11:LI)(t12:Int)(t13:Int):dY (S.step T) t2 t11 t12 t13=brk (decide (t13<t12)) (brk (decide (0≤t13)&&decide (t13<(t11.length:Int))) ((mG T (t11.getD t13.toNat 0)).bind fun d18=>brk (!d18.1) (some (Sum.inl (t2,false,()))) (dY T t2 t11 t12 (i64.wrap (t13+1)))) none) (some (Sum.inr (Sum.inl (t2,())))):=eL Tryz.func173 rfl (by kernel_rfl)
theorem pd (t0:LI):jr (S.step T) t0=brk (decide ((t0.length:Int)≤40)) ((ti T t0 3).bind fun d8=>some (d8.1,jH)) (some (false,jH)):=eF Tryz.func178 (by kernel_rfl)
theorem w6 (t0:Int)(t1:LI):iT (S.step T) t0 t1=brk (decide (1≤t0)) (brk (decide (0<(t1.length:Int))) ((mG T (t1.getD 0 0)).bind fun d9=>brk (d9.1) (brk (decide (0<(t1.length:Int))) (some (!decide (t1.getD 0 0=27),t0,t1,())) none) (some (false,t0,t1,()))) none) (some (false,t0,t1,())):=eF Tryz.func176 (by kernel_rfl)
theorem yZ (t0:List aa.den×Unit)(t1:Int):gN (S.step T) t0 t1=brk (decide (0≤t1)&&decide (t1<(t0.1.length:Int))) (brk (decide ((at_ (τ:=aa) t0.1 t1).2.1<0)) (some (false,aD)) (brk (decide ((at_ (τ:=aa) t0.1 t1).2.2.1<(at_ (τ:=aa) t0.1 t1).2.1)) (some (false,aD)) (brk (decide ((at_ (τ:=aa) t0.1 t1).2.2.2.1<0)) (some (false,aD)) (brk (decide (200<((at_ (τ:=aa) t0.1 t1).2.2.2.2.2.2.2.2.1.length:Int))) (some (false,aD)) (brk (decide (200<((at_ (τ:=aa) t0.1 t1).2.2.2.2.2.2.2.1.length:Int))) (some (false,aD)) ((ia T t1 t0 (at_ (τ:=aa) t0.1 t1) [] (at_ (τ:=aa) t0.1 t1).2.2.2.2.2.2.2.2.1 ((at_ (τ:=aa) t0.1 t1).2.2.2.2.2.2.2.2.1.length:Int) 0).bind (bC (fun y6=>some (y6.1,aD)) (fun y6=>(bX T y6.1 y6.2.1 y6.1.2.2.2.2.2.2.2.1 (y6.1.2.2.2.2.2.2.2.1.length:Int) 0).bind (bC (fun lN=>some (lN.1,aD)) (fun lN=>brk (decide (lN.1.1=1)) ((dI T (lN.1.2.2.2.2.2.2.2.1.length:Int) lN.1.2.2.2.2.1 lN.1.2.2.2.2.2.1 lN.1.2.2.2.2.2.2.1 lN.2.1 (lN.2.1.length:Int) 0).bind (bC (fun ji=>some (ji.1,aD)) (fun ji=>(aK T false false false false ji.1 ji.2.1 ji.2.2.1 ji.2.2.2.1).bind fun d119=>some (d119.1,aD)))) (brk (decide (lN.1.1=2)) ((aK T true false false false (lN.1.2.2.2.2.2.2.2.1.length:Int) lN.1.2.2.2.2.1 lN.1.2.2.2.2.2.1 lN.1.2.2.2.2.2.2.1).bind fun d123=>brk (d123.1) (brk (decide (1≤d123.2.2.2.2.2.1)) ((aL T 0 (lN.2.1.length:Int) lN.2.1).bind fun d131=>some (d131.1,aD)) (some (false,aD))) (some (false,aD))) (brk (decide (lN.1.1=3)) ((aK T true false false false (lN.1.2.2.2.2.2.2.2.1.length:Int) lN.1.2.2.2.2.1 lN.1.2.2.2.2.2.1 lN.1.2.2.2.2.2.2.1).bind fun d136=>brk (d136.1) (brk (decide (d136.2.2.2.2.2.1=1)) (brk (decide ((lN.2.1.length:Int)=1)) ((aL T 0 1 lN.2.1).bind fun d147=>some (d147.1,aD)) (some (false,aD))) (some (false,aD))) (some (false,aD))) (brk (decide (lN.1.1=4)) ((aK T true false false false (lN.1.2.2.2.2.2.2.2.1.length:Int) lN.1.2.2.2.2.1 lN.1.2.2.2.2.2.1 lN.1.2.2.2.2.2.2.1).bind fun d152=>brk (d152.1) (brk (decide (d152.2.2.2.2.2.1=1)) (brk (decide ((lN.2.1.length:Int)=1)) (brk (decide (0<(lN.2.1.length:Int))) (some (decide (lN.2.1.getD 0 0=36),aD)) none) (some (false,aD))) (some (false,aD))) (some (false,aD))) (brk (decide (lN.1.1=5)) ((aK T false false true false (lN.1.2.2.2.2.2.2.2.1.length:Int) lN.1.2.2.2.2.1 lN.1.2.2.2.2.2.1 lN.1.2.2.2.2.2.2.1).bind fun d170=>brk (!d170.1) (some (false,aD)) (brk (decide (d170.2.2.2.2.2.2.2.1<1)) (some (false,aD)) (brk (decide (i64.wrap ((lN.2.1.length:Int) - 1)<d170.2.2.2.2.2.2.2.1)) (some (false,aD)) (brk (bounds lN.2.1.length 0 d170.2.2.2.2.2.2.2.1) ((bG T lN.2.1 d170.2.2.2.2.2.2.2.1 (lN.2.1.length:Int) (sub lN.2.1 0 d170.2.2.2.2.2.2.2.1) ((sub lN.2.1 0 d170.2.2.2.2.2.2.2.1).length:Int) 0).bind (bC (fun KX=>some (KX.1,aD)) (fun KX=>(aL T KX.2.1 KX.2.2.1 KX.1).bind fun d204=>some (d204.1,aD)))) none)))) (brk (decide (lN.1.1=6)) ((iF T lN.2.1 (lN.1.2.2.2.2.2.2.2.1.length:Int) lN.1.2.2.2.2.1 lN.1.2.2.2.2.2.1 lN.1.2.2.2.2.2.2.1 (lN.2.1.length:Int) lN.1.1 (decide (lN.1.1=6))).bind (bC (fun QB=>some (QB.1,aD)) (fun QB=>some (false,aD)))) ((iF T lN.2.1 (lN.1.2.2.2.2.2.2.2.1.length:Int) lN.1.2.2.2.2.1 lN.1.2.2.2.2.2.1 lN.1.2.2.2.2.2.2.1 (lN.2.1.length:Int) lN.1.1 (decide (lN.1.1=16))).bind (bC (fun QB=>some (QB.1,aD)) (fun QB=>some (false,aD))))))))))))))))))) none:=eF Tryz.func102 (by kernel_rfl)
theorem uI (t6:LI)(t11:Int)(t12:Int)(t13:Int)(t14:LI)(t16:Int)(t105:Int)(t205:Bool):iF (S.step T) t6 t11 t12 t13 t14 t16 t105 t205=brk (t205) ((aK T false false false false t11 t12 t13 t14).bind fun d209=>brk (d209.1) (brk (decide (t16=1)) (brk (decide (0<(t6.length:Int))) (some (Sum.inl (decide (t6.getD 0 0=34),()))) none) (some (Sum.inl (false,())))) (some (Sum.inl (false,())))) (brk (decide (t105=7)) ((aK T false false false false t11 t12 t13 t14).bind fun d223=>brk (d223.1) (brk (decide (t16=2)) ((aL T 0 1 t6).bind fun d234=>brk (d234.1) (brk (decide (1<(d234.2.2.2.1.length:Int))) (brk (decide (d234.2.2.2.1.getD 1 0=1)) (brk (decide (t16=2)) (some (Sum.inl (true,()))) (brk (decide (2<(d234.2.2.2.1.length:Int))) (brk (decide (d234.2.2.2.1.getD 2 0=1)) (some (Sum.inl (true,()))) (brk (decide (2<(d234.2.2.2.1.length:Int))) (some (Sum.inl (decide (d234.2.2.2.1.getD 2 0=7),()))) none)) none)) (some (Sum.inl (false,())))) none) (some (Sum.inl (false,())))) (brk (decide (t16=3)) ((aL T 0 1 t6).bind fun d234=>brk (d234.1) (brk (decide (1<(d234.2.2.2.1.length:Int))) (brk (decide (d234.2.2.2.1.getD 1 0=1)) (brk (decide (t16=2)) (some (Sum.inl (true,()))) (brk (decide (2<(d234.2.2.2.1.length:Int))) (brk (decide (d234.2.2.2.1.getD 2 0=1)) (some (Sum.inl (true,()))) (brk (decide (2<(d234.2.2.2.1.length:Int))) (some (Sum.inl (decide (d234.2.2.2.1.getD 2 0=7),()))) none)) none)) (some (Sum.inl (false,())))) none) (some (Sum.inl (false,())))) (some (Sum.inl (false,()))))) (some (Sum.inl (false,())))) (brk (decide (t105=8)) ((aK T false false false false t11 t12 t13 t14).bind fun d261=>brk (d261.1) (brk (decide (t16=2)) ((aL T 0 1 t6).bind fun d268=>brk (d268.1) (brk (decide (1<(d268.2.2.2.1.length:Int))) (some (Sum.inl (decide (d268.2.2.2.1.getD 1 0=1),()))) none) (some (Sum.inl (false,())))) (some (Sum.inl (false,())))) (some (Sum.inl (false,())))) (brk (decide (t105=9)) ((aK T true false false false t11 t12 t13 t14).bind fun d279=>brk (d279.1) (brk (decide (d279.2.2.2.2.2.1=1)) (brk (decide (t16=3)) ((aL T 0 (i64.wrap (t16 - 1)) t6).bind fun d296=>brk (d296.1) (brk (decide (0≤i64.wrap (t16 - 1))&&decide (i64.wrap (t16 - 1)<(d296.2.2.2.1.length:Int))) (some (Sum.inl (decide (d296.2.2.2.1.getD ((i64.wrap (t16 - 1)).toNat) 0=1),()))) none) (some (Sum.inl (false,())))) (brk (decide (t16=4)) ((aL T 0 (i64.wrap (t16 - 1)) t6).bind fun d296=>brk (d296.1) (brk (decide (0≤i64.wrap (t16 - 1))&&decide (i64.wrap (t16 - 1)<(d296.2.2.2.1.length:Int))) (some (Sum.inl (decide (d296.2.2.2.1.getD ((i64.wrap (t16 - 1)).toNat) 0=1),()))) none) (some (Sum.inl (false,())))) (some (Sum.inl (false,()))))) (some (Sum.inl (false,())))) (some (Sum.inl (false,())))) (brk (decide (t105=10)) ((aK T true false false false t11 t12 t13 t14).bind fun d309=>brk (d309.1) (brk (decide (1≤d309.2.2.2.2.2.1)) (brk (decide (t16=2)) ((aL T 0 1 t6).bind fun d320=>brk (d320.1) (brk (decide (1<(d320.2.2.2.1.length:Int))) (some (Sum.inl (decide (d320.2.2.2.1.getD 1 0=1),()))) none) (some (Sum.inl (false,())))) (some (Sum.inl (false,())))) (some (Sum.inl (false,())))) (some (Sum.inl (false,())))) (brk (decide (t105=11)) ((cX T t6 t11 t12 t13 t14 t16 t105 (decide (t105=11))).bind (bC (fun Ft=>some (Sum.inl Ft)) (fun Ft=>some (Sum.inr (Sum.inl ()))))) (brk (decide (t105=12)) ((cX T t6 t11 t12 t13 t14 t16 t105 (decide (t105=12))).bind (bC (fun Ft=>some (Sum.inl Ft)) (fun Ft=>some (Sum.inr (Sum.inl ()))))) (brk (decide (t105=20)) ((cX T t6 t11 t12 t13 t14 t16 t105 (decide (t105=20))).bind (bC (fun Ft=>some (Sum.inl Ft)) (fun Ft=>some (Sum.inr (Sum.inl ()))))) (brk (decide (t105=21)) ((cX T t6 t11 t12 t13 t14 t16 t105 (decide (t105=21))).bind (bC (fun Ft=>some (Sum.inl Ft)) (fun Ft=>some (Sum.inr (Sum.inl ()))))) (brk (decide (t105=22)) ((cX T t6 t11 t12 t13 t14 t16 t105 (decide (t105=22))).bind (bC (fun Ft=>some (Sum.inl Ft)) (fun Ft=>some (Sum.inr (Sum.inl ()))))) ((cX T t6 t11 t12 t13 t14 t16 t105 (decide (t105=27))).bind (bC (fun Ft=>some (Sum.inl Ft)) (fun Ft=>some (Sum.inr (Sum.inl ())))))))))))))):=eJ Tryz.func102 rfl (by kernel_rfl)
theorem uA (t6:LI)(t11:Int)(t12:Int)(t13:Int)(t14:LI)(t16:Int)(t105:Int)(L4:Bool):cX (S.step T) t6 t11 t12 t13 t14 t16 t105 L4=brk (L4) ((aK T false false false false t11 t12 t13 t14).bind fun d336=>brk (d336.1) (some (Sum.inl (decide (t16=0),()))) (some (Sum.inl (false,())))) (brk (decide (t105=13)) ((aK T false false false false t11 t12 t13 t14).bind fun d344=>brk (d344.1) ((aL T 0 t16 t6).bind fun d348=>some (Sum.inl (d348.1,()))) (some (Sum.inl (false,())))) (brk (decide (t105=14)) ((aK T true false false false t11 t12 t13 t14).bind fun d353=>brk (d353.1) (brk (decide (d353.2.2.2.2.2.1=1)) (brk (decide (t16=2)) (brk (decide (0<(t6.length:Int))) (brk (decide (t6.getD 0 0=1)) (brk (decide (1<(t6.length:Int))) (some (Sum.inl (decide (t6.getD 1 0=1),()))) none) (some (Sum.inl (false,())))) none) (some (Sum.inl (false,())))) (brk (decide (d353.2.2.2.2.2.1=2)) (brk (decide (t16=2)) (brk (decide (0<(t6.length:Int))) (brk (decide (t6.getD 0 0=1)) (brk (decide (1<(t6.length:Int))) (some (Sum.inl (decide (t6.getD 1 0=1),()))) none) (some (Sum.inl (false,())))) none) (some (Sum.inl (false,())))) (some (Sum.inl (false,()))))) (some (Sum.inl (false,())))) (brk (decide (t105=15)) ((gx T t6 t11 t12 t13 t14 t16 t105 (decide (t105=15))).bind (bC (fun QT=>some (Sum.inl QT)) (fun QT=>some (Sum.inr (Sum.inl ()))))) ((gx T t6 t11 t12 t13 t14 t16 t105 (decide (t105=40))).bind (bC (fun QT=>some (Sum.inl QT)) (fun QT=>some (Sum.inr (Sum.inl ())))))))):=eJ Tryz.func102 rfl (by kernel_rfl)
theorem uB (t6:LI)(t11:Int)(t12:Int)(t13:Int)(t14:LI)(t16:Int)(t105:Int)(Mj:Bool):gx (S.step T) t6 t11 t12 t13 t14 t16 t105 Mj=brk (Mj) ((aK T false false false false t11 t12 t13 t14).bind fun Tl=>brk (Tl.1) (brk (decide (t16=1)) ((aL T 0 1 t6).bind fun S3=>some (Sum.inl (S3.1,()))) (some (Sum.inl (false,())))) (some (Sum.inl (false,())))) (brk (decide (t105=23)) ((aK T false false true false t11 t12 t13 t14).bind fun Ta=>brk (Ta.1) (some (Sum.inl (decide (t16=0),()))) (some (Sum.inl (false,())))) (brk (decide (t105=24)) ((aK T false false false true t11 t12 t13 t14).bind fun QH=>brk (QH.1) (brk (decide (t16=0)) ((jr T QH.2.2.2.2.2.2.2.2.1).bind fun Tx=>some (Sum.inl (Tx.1,()))) (some (Sum.inl (false,())))) (some (Sum.inl (false,())))) (brk (decide (t105=25)) ((aK T false false false true t11 t12 t13 t14).bind fun QM=>brk (QM.1) (brk (decide (t16=0)) (some (Sum.inl (decide ((QM.2.2.2.2.2.2.2.2.1.length:Int)≤4000),()))) (some (Sum.inl (false,())))) (some (Sum.inl (false,())))) (brk (decide (t105=26)) ((aK T false false false true t11 t12 t13 t14).bind fun QW=>brk (QW.1) (brk (decide (t16=0)) ((eE T QW.2.2.2.2.2.2.2.2.1).bind fun SL=>some (Sum.inl (SL.1,()))) (some (Sum.inl (false,())))) (some (Sum.inl (false,())))) (brk (decide (t105=28)) ((fC T t6 t11 t12 t13 t14 t16 t105 (decide (t105=28))).bind (bC (fun MI=>some (Sum.inl MI)) (fun MI=>some (Sum.inr (Sum.inl ()))))) (brk (decide (t105=29)) ((fC T t6 t11 t12 t13 t14 t16 t105 (decide (t105=29))).bind (bC (fun MI=>some (Sum.inl MI)) (fun MI=>some (Sum.inr (Sum.inl ()))))) ((fC T t6 t11 t12 t13 t14 t16 t105 (decide (t105=41))).bind (bC (fun MI=>some (Sum.inl MI)) (fun MI=>some (Sum.inr (Sum.inl ()))))))))))):=eJ Tryz.func102 rfl (by kernel_rfl)
theorem uz (t6:LI)(t11:Int)(t12:Int)(t13:Int)(t14:LI)(t16:Int)(t105:Int)(Mh:Bool):fC (S.step T) t6 t11 t12 t13 t14 t16 t105 Mh=brk (Mh) ((aK T false false false false t11 t12 t13 t14).bind fun SA=>brk (SA.1) (brk (decide (t16=2)) ((aL T 0 2 t6).bind fun Sj=>some (Sum.inl (Sj.1,()))) (some (Sum.inl (false,())))) (some (Sum.inl (false,())))) (brk (decide (t105=30)) ((aK T false true false false t11 t12 t13 t14).bind fun QX=>brk (QX.1) ((je T QX.2.2.2.2.2.2.1 19 22).bind fun Tk=>brk (Tk.1) (brk (decide (t16=1)) ((aL T 0 1 t6).bind fun TK=>some (Sum.inl (TK.1,()))) (some (Sum.inl (false,())))) (some (Sum.inl (false,())))) (some (Sum.inl (false,())))) (brk (decide (t105=31)) ((aK T false true false false t11 t12 t13 t14).bind fun P6=>brk (P6.1) ((je T P6.2.2.2.2.2.2.1 1 18).bind fun Sw=>brk (Sw.1) (brk (decide (t16=2)) ((aL T 0 2 t6).bind fun Sn=>some (Sum.inl (Sn.1,()))) (some (Sum.inl (false,())))) (some (Sum.inl (false,())))) (some (Sum.inl (false,())))) (brk (decide (t105=32)) ((aK T false false false false t11 t12 t13 t14).bind fun Su=>brk (Su.1) (brk (decide (t16=2)) ((iT T t16 t6).bind fun Qn=>brk (Qn.1) ((aL T 0 2 Qn.2.2.1).bind fun TP=>some (Sum.inl (TP.1,()))) (some (Sum.inl (false,())))) (some (Sum.inl (false,())))) (some (Sum.inl (false,())))) (brk (decide (t105=33)) ((aK T false false false true t11 t12 t13 t14).bind fun Qc=>brk (Qc.1) (brk (decide (t16=1)) ((iT T t16 t6).bind fun SC=>brk (SC.1) ((eE T Qc.2.2.2.2.2.2.2.2.1).bind fun Se=>some (Sum.inl (Se.1,()))) (some (Sum.inl (false,())))) (some (Sum.inl (false,())))) (some (Sum.inl (false,())))) (brk (decide (t105=34)) ((aK T false false false false t11 t12 t13 t14).bind fun Ti=>brk (Ti.1) ((iT T t16 t6).bind fun Ou=>brk (Ou.1) ((aL T 0 Ou.2.1 Ou.2.2.1).bind fun S7=>some (Sum.inl (S7.1,()))) (some (Sum.inl (false,())))) (some (Sum.inl (false,())))) (brk (decide (t105=35)) ((dO T t11 t12 t13 t14 t6 (t6.length:Int) 0).bind (bC (fun O5=>some (Sum.inl O5)) (fun O5=>(aK T false false false false O5.1 O5.2.1 O5.2.2.1 O5.2.2.2.1).bind fun Sz=>some (Sum.inl (Sz.1,()))))) (brk (decide (t105=36)) ((aK T true true false false t11 t12 t13 t14).bind fun Qk=>brk (Qk.1) ((je T Qk.2.2.2.2.2.2.1 0 1).bind fun So=>brk (So.1) (brk (decide (t16=1)) (brk (decide (0<(t6.length:Int))) (some (Sum.inl (decide (t6.getD 0 0=1),()))) none) (some (Sum.inl (false,())))) (some (Sum.inl (false,())))) (some (Sum.inl (false,())))) (brk (decide (t105=37)) ((aK T false false false false t11 t12 t13 t14).bind fun TA=>brk (TA.1) (brk (decide (t16=1)) (brk (decide (0<(t6.length:Int))) (brk (decide (t6.getD 0 0=34)) (some (Sum.inl (true,()))) (brk (decide (0<(t6.length:Int))) (some (Sum.inl (decide (t6.getD 0 0=27),()))) none)) none) (some (Sum.inl (false,())))) (some (Sum.inl (false,())))) (brk (decide (t105=42)) ((aK T false false false true t11 t12 t13 t14).bind fun Q5=>brk (Q5.1) (brk (decide (t16=1)) ((aL T 0 1 t6).bind fun TB=>brk (TB.1) ((eE T Q5.2.2.2.2.2.2.2.2.1).bind fun SP=>some (Sum.inl (SP.1,()))) (some (Sum.inl (false,())))) (some (Sum.inl (false,())))) (some (Sum.inl (false,())))) (some (Sum.inr (Sum.inl ())))))))))))):=eJ Tryz.func102 rfl (by kernel_rfl)
theorem pn (t1:Int)(t2:List aa.den×Unit)(t5:aa.den)(t6:LI)(t58:LI)(t59:Int)(t60:Int):ia (S.step T) t1 t2 t5 t6 t58 t59 t60=brk (decide (t60<t59)) (brk (decide (0≤t60)&&decide (t60<(t58.length:Int))) ((je T (t58.getD t60.toNat 0) 0 (i64.wrap (t1 - 1))).bind fun d67=>brk (!d67.1) (some (Sum.inl (false,()))) (brk (decide (0≤t58.getD t60.toNat 0)&&decide (t58.getD t60.toNat 0<(t2.1.length:Int))) (brk (fits (t6.length+([(at_ (τ:=aa) t2.1 (t58.getD t60.toNat 0)).1]:LI).length)) (ia T t1 t2 t5 (t6++([(at_ (τ:=aa) t2.1 (t58.getD t60.toNat 0)).1]:LI)) t58 t59 (i64.wrap (t60+1))) none) none)) none) (some (Sum.inr (Sum.inl (t5,t6,())))):=eL Tryz.func102 rfl (by kernel_rfl)
theorem od (t5:aa.den)(t6:LI)(t80:List LI)(t81:Int)(t82:Int):bX (S.step T) t5 t6 t80 t81 t82=brk (decide (t82<t81)) (brk (decide (0≤t82)&&decide (t82<(t80.length:Int))) ((eE T (t80.getD t82.toNat [])).bind fun d87=>brk (!d87.1) (some (Sum.inl (false,()))) (bX T t5 t6 t80 t81 (i64.wrap (t82+1)))) none) (some (Sum.inr (Sum.inl (t5,t6,())))):=eL Tryz.func102 rfl (by kernel_rfl)
theorem oy (t11:Int)(t12:Int)(t13:Int)(t14:LI)(t108:LI)(t109:Int)(t110:Int):dI (S.step T) t11 t12 t13 t14 t108 t109 t110=brk (decide (t110<t109)) (brk (decide (0≤t110)&&decide (t110<(t108.length:Int))) ((pG T (t108.getD t110.toNat 0)).bind fun d115=>brk (!d115.1) (some (Sum.inl (false,()))) (dI T t11 t12 t13 t14 t108 t109 (i64.wrap (t110+1)))) none) (some (Sum.inr (Sum.inl (t11,t12,t13,t14,())))):=eL Tryz.func102 rfl (by kernel_rfl)
theorem ov (t6:LI)(t13:Int)(t16:Int)(t184:LI)(t185:Int)(t186:Int):bG (S.step T) t6 t13 t16 t184 t185 t186=brk (decide (t186<t185)) (brk (decide (0≤t186)&&decide (t186<(t184.length:Int))) (brk (!decide (t184.getD t186.toNat 0=26)) (brk (!decide (t184.getD t186.toNat 0=32)) (brk (!decide (t184.getD t186.toNat 0=33)) (some (Sum.inl (false,()))) (bG T t6 t13 t16 t184 t185 (i64.wrap (t186+1)))) (bG T t6 t13 t16 t184 t185 (i64.wrap (t186+1)))) (bG T t6 t13 t16 t184 t185 (i64.wrap (t186+1)))) none) (some (Sum.inr (Sum.inl (t6,t13,t16,())))):=eL Tryz.func102 rfl (by kernel_rfl)
theorem n9 (t11:Int)(t12:Int)(t13:Int)(t14:LI)(Ix:LI)(KA:Int)(Fl:Int):dO (S.step T) t11 t12 t13 t14 Ix KA Fl=brk (decide (Fl<KA)) (brk (decide (0≤Fl)&&decide (Fl<(Ix.length:Int))) ((je T (Ix.getD Fl.toNat 0) 40 42).bind fun SO=>brk (!SO.1) (some (Sum.inl (false,()))) (dO T t11 t12 t13 t14 Ix KA (i64.wrap (Fl+1)))) none) (some (Sum.inr (Sum.inl (t11,t12,t13,t14,())))):=eL Tryz.func102 rfl (by kernel_rfl)
theorem oK (t0:List aa.den×Unit):kR (S.step T) t0=brk (decide ((t0.1.length:Int)=0)) (some ((1,0,()),fR)) (brk (decide (3000<(t0.1.length:Int))) (some ((1,0,()),fR)) (brk (decide (0≤i64.wrap ((t0.1.length:Int) - 1))&&decide (i64.wrap ((t0.1.length:Int) - 1)<(t0.1.length:Int))) (brk (!decide ((at_ (τ:=aa) t0.1 (i64.wrap ((t0.1.length:Int) - 1))).1=1)) (some ((1,0,()),fR)) ((dz T t0 (0,0,()) (t0.1.length:Int) (t0.1.length:Int) 0).bind (bC (fun y5=>some (y5.1,fR)) (fun y5=>brk (((decide (0≤y5.2.2.1))&&(decide (y5.2.2.1≤y5.2.2.1)))&&(decide (y5.2.2.1≤lim))) ((bY T y5.1 y5.2.1 y5.2.2.1 (List.replicate y5.2.2.1.toNat 0) y5.1.1 (y5.1.1.length:Int) 0).bind (bC (fun wN=>some (wN.1,fR)) (fun wN=>brk (((decide (0≤wN.2.2.1))&&(decide (wN.2.2.1≤wN.2.2.1)))&&(decide (wN.2.2.1≤lim))) ((iK T wN.1 wN.2.1 (List.replicate wN.2.2.1.toNat 0) (i64.wrap (wN.2.2.1 - 1))).bind (aR (fun Bk=>(dH T Bk.1 Bk.2.1 (Bk.2.1.length:Int) 0).bind (bC (fun Uj=>some (Uj.1,fR)) (fun Uj=>some ((0,0,()),fR)))))) none))) none)))) none)):=eF Tryz.func56 (by kernel_rfl)
theorem po (t1:List aa.den×Unit)(t2:Int×Int×Unit)(t3:Int)(t37:Int)(t38:Int):dz (S.step T) t1 t2 t3 t37 t38=brk (decide (t38<t37)) ((gN T t1 t38).bind fun d43=>brk (!d43.1) (some (Sum.inl ((2,t38,()),()))) (dz T t1 t2 t3 t37 (i64.wrap (t38+1)))) (some (Sum.inr (Sum.inl (t1,t2,t3,())))):=eL Tryz.func56 rfl (by kernel_rfl)
theorem oa (t1:List aa.den×Unit)(t2:Int×Int×Unit)(t3:Int)(t5:LI)(t51:List aa.den)(t52:Int)(t53:Int):bY (S.step T) t1 t2 t3 t5 t51 t52 t53=brk (decide (t53<t52)) (brk (decide (0≤t53)&&decide (t53<(t51.length:Int))) ((gu T t1 t2 t3 t5 t53 (at_ (τ:=aa) t51 t53) t53 (i64.wrap (((at_ (τ:=aa) t51 t53).2.2.2.2.2.2.2.2.1.length:Int) - 1)) t51 t52 t53).bind (bC (fun l9=>some (Sum.inl l9)) (fun l9=>brk (decide (0≤l9.2.2.2.2.1)&&decide (l9.2.2.2.2.1<(l9.2.2.2.1.length:Int))) (brk (decide (l9.2.2.2.2.1=i64.wrap (l9.2.2.1 - 1))) (brk (!decide (l9.2.2.2.2.2.1=0)) (some (Sum.inl ((3,l9.2.2.2.2.1,()),()))) (bY T l9.1 l9.2.1 l9.2.2.1 (l9.2.2.2.1.set l9.2.2.2.2.1.toNat l9.2.2.2.2.2.1) l9.2.2.2.2.2.2.1 l9.2.2.2.2.2.2.2.1 (i64.wrap (l9.2.2.2.2.2.2.2.2.1+1)))) (bY T l9.1 l9.2.1 l9.2.2.1 (l9.2.2.2.1.set l9.2.2.2.2.1.toNat l9.2.2.2.2.2.1) l9.2.2.2.2.2.2.1 l9.2.2.2.2.2.2.2.1 (i64.wrap (l9.2.2.2.2.2.2.2.2.1+1)))) none))) none) (some (Sum.inr (Sum.inl (t1,t2,t3,())))):=eL Tryz.func56 rfl (by kernel_rfl)
theorem kz (t1:List aa.den×Unit)(t2:Int×Int×Unit)(t3:Int)(t5:LI)(t6:Int)(t7:aa.den)(t8:Int)(t9:Int)(t51:List aa.den)(t52:Int)(t53:Int):gu (S.step T) t1 t2 t3 t5 t6 t7 t8 t9 t51 t52 t53=brk (decide (0≤t9)) (brk (decide (0≤t9)&&decide (t9<(t7.2.2.2.2.2.2.2.2.1.length:Int))) (brk (!decide (t7.2.2.2.2.2.2.2.2.1.getD t9.toNat 0=i64.wrap (t8 - 1))) (some (Sum.inl ((3,t6,()),()))) (brk (decide (0≤t9)&&decide (t9<(t7.2.2.2.2.2.2.2.2.1.length:Int))) (brk (decide (0≤t7.2.2.2.2.2.2.2.2.1.getD t9.toNat 0)&&decide (t7.2.2.2.2.2.2.2.2.1.getD t9.toNat 0<(t5.length:Int))) (gu T t1 t2 t3 t5 t6 t7 (t5.getD ((t7.2.2.2.2.2.2.2.2.1.getD t9.toNat 0).toNat) 0) (i64.wrap (t9 - 1)) t51 t52 t53) none) none)) none) (some (Sum.inr (Sum.inl (t1,t2,t3,t5,t6,t8,t51,t52,t53,())))):=eL Tryz.func56 rfl (by kernel_rfl)
theorem oA (t1:List aa.den×Unit)(t2:Int×Int×Unit)(t10:LI)(t11:Int):iK (S.step T) t1 t2 t10 t11=brk (decide (0≤t11)) (brk (decide (0≤t11)&&decide (t11<(t1.1.length:Int))) ((gA T t1 t2 t10 t11 (at_ (τ:=aa) t1.1 t11).2.2.2.2.2.2.2.2.1 ((at_ (τ:=aa) t1.1 t11).2.2.2.2.2.2.2.2.1.length:Int) 0).bind (aR (fun Rv=>iK T Rv.1 Rv.2.1 Rv.2.2.1 (i64.wrap (Rv.2.2.2.1 - 1))))) none) (some (Sum.inl (t2,t10,()))):=eL Tryz.func56 rfl (by kernel_rfl)
theorem nX (t1:List aa.den×Unit)(t2:Int×Int×Unit)(t10:LI)(t11:Int)(t113:LI)(t114:Int)(t115:Int):gA (S.step T) t1 t2 t10 t11 t113 t114 t115=brk (decide (t115<t114)) (brk (decide (0≤t115)&&decide (t115<(t113.length:Int))) (brk (decide (0≤t11)&&decide (t11<(t10.length:Int))) (brk (decide (0≤t113.getD t115.toNat 0)&&decide (t113.getD t115.toNat 0<(t10.length:Int))) (gA T t1 t2 (t10.set ((t113.getD t115.toNat 0).toNat) (i64.wrap ((t10.getD t11.toNat 0)+1))) t11 t113 t114 (i64.wrap (t115+1))) none) none) none) (some (Sum.inl (t1,t2,t10,t11,()))):=eL Tryz.func56 rfl (by kernel_rfl)
theorem oD (t2:Int×Int×Unit)(t10:LI)(t129:Int)(t130:Int):dH (S.step T) t2 t10 t129 t130=brk (decide (t130<t129)) (brk (decide (0≤t130)&&decide (t130<(t10.length:Int))) (brk (decide (100<t10.getD t130.toNat 0)) (some (Sum.inl ((4,t130,()),()))) (dH T t2 t10 t129 (i64.wrap (t130+1)))) none) (some (Sum.inr (Sum.inl (t2,())))):=eL Tryz.func56 rfl (by kernel_rfl)
theorem Bx (t0:List aa.den×Unit):uL (S.step T) t0=(kR T t0).bind fun d4=>some (decide (d4.1.1=0)&&(decide (d4.1.2.1=0)&&true),vS):=eF Tryz.func26 (by kernel_rfl)
theorem vC (t0:(List aa.den×Unit)×LI×Unit)(t1:LI):ar (S.step T) t0 t1=(Bld.fJ (t0.2.1,t1,())).bind fun d8=>some ((),(t0.1,d8.2.1,()),(),()):=eF Tryz.func28 (by kernel_rfl)
theorem rV (t0:(List aa.den×Unit)×LI×Unit)(t1:Int)(t2:Int):bm (S.step T) t0 t1 t2=brk (decide (0≤t1)&&decide (t1<(t0.1.1.length:Int))) (brk (decide (((at_ (τ:=aa) t0.1.1 t1).2.2.2.2.2.2.2.2.1.length:Int)=0)) ((ar T t0 ([123,125]:LI)).bind fun d22=>some ((),d22.2.1,(),(),())) ((ar T t0 ([123,10]:LI)).bind fun d24=>(dt T d24.2.1 t2 (at_ (τ:=aa) t0.1.1 t1).2.2.2.2.2.2.2.2.1 ((at_ (τ:=aa) t0.1.1 t1).2.2.2.2.2.2.2.2.1.length:Int) 0).bind (aR (fun y5=>(Lx.pM (([9]:LI),y5.2)).bind fun d46=>brk (fits (d46.1.length+1)) ((ar T y5.1 (d46.1++([125]:LI))).bind fun d48=>some ((),d48.2.1,(),(),())) none)))) none:=eF Tryz.func58 (by kernel_rfl)
theorem j6 (t0:(List aa.den×Unit)×LI×Unit)(t2:Int)(t25:LI)(t26:Int)(t27:Int):dt (S.step T) t0 t2 t25 t26 t27=brk (decide (t27<t26)) (brk (decide (0≤t27)&&decide (t27<(t25.length:Int))) ((Lx.pM (([9]:LI),i64.wrap (t2+1),())).bind fun d34=>(ar T t0 d34.1).bind fun d35=>(fw T d35.2.1 (t25.getD t27.toNat 0) (i64.wrap (t2+1))).bind fun d40=>(ar T d40.2.1 ([10]:LI)).bind fun d42=>dt T d42.2.1 t2 t25 t26 (i64.wrap (t27+1))) none) (some (Sum.inl (t0,t2,()))):=eL Tryz.func58 rfl (by kernel_rfl)
theorem qq (t0:Int)(t1:Int):gB (S.step T) t0 t1=brk (decide (t1=10)) (brk (decide (t0<100)) (none) none) ((Lx.jw ([],t0,t1,false,false,())).bind fun d28=>some (d28.1.2.1,ld)):=eF Tryz.func226 (by kernel_rfl)
theorem rZ (t0:Int)(t1:Int):iy (S.step T) t0 t1=(gB T t0 t1).bind fun d7=>some (d7.1,mr):=eF Tryz.func181 (by kernel_rfl)
theorem uk (t0:LI):oP (S.step T) t0=brk (decide (4000<(t0.length:Int))) (some (([]:LI),vI)) ((Bld.gT (([]:LI),34,())).bind fun d10=>(eD T t0 d10.2.1 0).bind (aR (fun y6=>(Bld.gT (y6.1,34,())).bind fun d51=>(Bld.pP (d51.2.1,())).bind fun d52=>some (d52.1,vI)))):=eF Tryz.func81 (by kernel_rfl)
theorem qx (t0:LI)(t3:LI)(t4:Int):eD (S.step T) t0 t3 t4=brk (decide (t4<(t0.length:Int))) (brk (decide (0≤t4)&&decide (t4<(t0.length:Int))) ((eH T ([10,9,34,92]:LI) (t0.getD t4.toNat 0)).bind fun d21=>brk (decide (0≤d21.1)) ((Bld.gT (t3,92,())).bind fun d24=>brk (decide (0≤d21.1)&&decide (d21.1<4)) ((Bld.gT (d24.2.1,([110,116,34,92]:LI).getD d21.1.toNat 0,())).bind fun d27=>eD T t0 d27.2.1 (i64.wrap (t4+1))) none) (brk (decide (t0.getD t4.toNat 0<32)) (brk (bounds 16 ((t0.getD t4.toNat 0).fdiv (2^min ((4:Int).toNat) u8.bits)) (u8.wrap (((t0.getD t4.toNat 0).fdiv (2^min ((4:Int).toNat) u8.bits))+1))) (brk (fits (2+(sub ([48,49,50,51,52,53,54,55,56,57,97,98,99,100,101,102]:LI) ((t0.getD t4.toNat 0).fdiv (2^min ((4:Int).toNat) u8.bits)) (u8.wrap (((t0.getD t4.toNat 0).fdiv (2^min ((4:Int).toNat) u8.bits))+1))).length)) (brk (bounds 16 (intBits .and .u8 (t0.getD t4.toNat 0) 15) (u8.wrap ((intBits .and .u8 (t0.getD t4.toNat 0) 15)+1))) (brk (fits ((([92,120]:LI)++(sub ([48,49,50,51,52,53,54,55,56,57,97,98,99,100,101,102]:LI) ((t0.getD t4.toNat 0).fdiv (2^min ((4:Int).toNat) u8.bits)) (u8.wrap (((t0.getD t4.toNat 0).fdiv (2^min ((4:Int).toNat) u8.bits))+1)))).length+(sub ([48,49,50,51,52,53,54,55,56,57,97,98,99,100,101,102]:LI) (intBits .and .u8 (t0.getD t4.toNat 0) 15) (u8.wrap ((intBits .and .u8 (t0.getD t4.toNat 0) 15)+1))).length)) ((Bld.fJ (t3,(([92,120]:LI)++(sub ([48,49,50,51,52,53,54,55,56,57,97,98,99,100,101,102]:LI) ((t0.getD t4.toNat 0).fdiv (2^min ((4:Int).toNat) u8.bits)) (u8.wrap (((t0.getD t4.toNat 0).fdiv (2^min ((4:Int).toNat) u8.bits))+1))))++(sub ([48,49,50,51,52,53,54,55,56,57,97,98,99,100,101,102]:LI) (intBits .and .u8 (t0.getD t4.toNat 0) 15) (u8.wrap ((intBits .and .u8 (t0.getD t4.toNat 0) 15)+1))),())).bind fun d48=>eD T t0 d48.2.1 (i64.wrap (t4+1))) none) none) none) none) (brk (decide (126<t0.getD t4.toNat 0)) (brk (bounds 16 ((t0.getD t4.toNat 0).fdiv (2^min ((4:Int).toNat) u8.bits)) (u8.wrap (((t0.getD t4.toNat 0).fdiv (2^min ((4:Int).toNat) u8.bits))+1))) (brk (fits (2+(sub ([48,49,50,51,52,53,54,55,56,57,97,98,99,100,101,102]:LI) ((t0.getD t4.toNat 0).fdiv (2^min ((4:Int).toNat) u8.bits)) (u8.wrap (((t0.getD t4.toNat 0).fdiv (2^min ((4:Int).toNat) u8.bits))+1))).length)) (brk (bounds 16 (intBits .and .u8 (t0.getD t4.toNat 0) 15) (u8.wrap ((intBits .and .u8 (t0.getD t4.toNat 0) 15)+1))) (brk (fits ((([92,120]:LI)++(sub ([48,49,50,51,52,53,54,55,56,57,97,98,99,100,101,102]:LI) ((t0.getD t4.toNat 0).fdiv (2^min ((4:Int).toNat) u8.bits)) (u8.wrap (((t0.getD t4.toNat 0).fdiv (2^min ((4:Int).toNat) u8.bits))+1)))).length+(sub ([48,49,50,51,52,53,54,55,56,57,97,98,99,100,101,102]:LI) (intBits .and .u8 (t0.getD t4.toNat 0) 15) (u8.wrap ((intBits .and .u8 (t0.getD t4.toNat 0) 15)+1))).length)) ((Bld.fJ (t3,(([92,120]:LI)++(sub ([48,49,50,51,52,53,54,55,56,57,97,98,99,100,101,102]:LI) ((t0.getD t4.toNat 0).fdiv (2^min ((4:Int).toNat) u8.bits)) (u8.wrap (((t0.getD t4.toNat 0).fdiv (2^min ((4:Int).toNat) u8.bits))+1))))++(sub ([48,49,50,51,52,53,54,55,56,57,97,98,99,100,101,102]:LI) (intBits .and .u8 (t0.getD t4.toNat 0) 15) (u8.wrap ((intBits .and .u8 (t0.getD t4.toNat 0) 15)+1))),())).bind fun d48=>eD T t0 d48.2.1 (i64.wrap (t4+1))) none) none) none) none) ((Bld.gT (t3,t0.getD t4.toNat 0,())).bind fun d50=>eD T t0 d50.2.1 (i64.wrap (t4+1)))))) none) (some (Sum.inl (t3,()))):=eL Tryz.func81 rfl (by kernel_rfl)
theorem gF (t0:aw.den):lp (S.step T) t0=brk (decide (t0.1=1)) ((eE T t0.2.2.2.2.2.1).bind fun d9=>brk (d9.1) (some (t0.2.2.2.2.2.1,bZ)) (some (([]:LI),bZ))) (brk (decide (t0.1=3)) ((jr T t0.2.2.2.2.2.1).bind fun d16=>brk (d16.1) (some (t0.2.2.2.2.2.1,bZ)) (some (([]:LI),bZ))) (brk (decide (t0.1=2)) (brk (decide (0≤t0.2.2.2.2.1)) ((Lx.kD (t0.2.2.2.2.1,10,())).bind fun d26=>some (d26.1,bZ)) ((iy T (u64.wrap t0.2.2.2.2.1) 16).bind fun d30=>brk (fits (2+d30.1.length)) (some (([48,120]:LI)++d30.1,bZ)) none)) (brk (decide (t0.1=4)) ((oP T t0.2.2.2.2.2.1).bind fun d36=>some (d36.1,bZ)) (brk (decide (t0.1=7)) (some (([10]:LI),bZ)) ((kE T t0.1).bind fun d41=>some (d41.1,bZ)))))):=eF Tryz.func105 (by kernel_rfl)
theorem rU (t0:(List aa.den×Unit)×LI×Unit)(t1:Int):eU (S.step T) t0 t1=brk (decide (0≤t1)&&decide (t1<(t0.1.1.length:Int))) (brk (decide ((at_ (τ:=aa) t0.1.1 t1).1=29)) (some (1,t0,(),())) (brk (decide ((at_ (τ:=aa) t0.1.1 t1).1=28)) (some (2,t0,(),())) (brk (decide ((at_ (τ:=aa) t0.1.1 t1).1=31)) ((oO T (i64.wrap (60+(at_ (τ:=aa) t0.1.1 t1).2.2.2.2.1))).bind fun d25=>some (d25.1,t0,(),())) (some (99,t0,(),()))))) none:=eF Tryz.func106 (by kernel_rfl)
theorem qW (t0:(List aa.den×Unit)×LI×Unit)(t1:Int)(t2:Int)(t3:Bool):aE (S.step T) t0 t1 t2 t3=brk (t3) ((ar T t0 ([40]:LI)).bind fun d10=>(aQ T d10.2.1 t1 t2).bind fun d14=>brk (t3) ((ar T d14.2.1 ([41]:LI)).bind fun d17=>some ((),d17.2.1,(),(),(),())) (some ((),d14.2.1,(),(),(),()))) ((aQ T t0 t1 t2).bind fun d14=>brk (t3) ((ar T d14.2.1 ([41]:LI)).bind fun d17=>some ((),d17.2.1,(),(),(),())) (some ((),d14.2.1,(),(),(),()))):=eF Tryz.func108 (by kernel_rfl)
theorem rY (t0:(List aa.den×Unit)×LI×Unit)(t1:Int)(t2:Int):fX (S.step T) t0 t1 t2=brk (decide (0≤t1)&&decide (t1<(t0.1.1.length:Int))) (brk (decide ((at_ (τ:=aa) t0.1.1 t1).1=26)) ((aY T t0 t1 t2 (decide ((at_ (τ:=aa) t0.1.1 t1).1=26))).bind (aR (fun y7=>some ((),y7.1,(),(),())))) (brk (decide ((at_ (τ:=aa) t0.1.1 t1).1=32)) ((aY T t0 t1 t2 (decide ((at_ (τ:=aa) t0.1.1 t1).1=32))).bind (aR (fun y7=>some ((),y7.1,(),(),())))) (brk (decide ((at_ (τ:=aa) t0.1.1 t1).1=33)) ((aY T t0 t1 t2 (decide ((at_ (τ:=aa) t0.1.1 t1).1=33))).bind (aR (fun y7=>some ((),y7.1,(),(),())))) (brk (decide ((at_ (τ:=aa) t0.1.1 t1).1=34)) ((aY T t0 t1 t2 (decide ((at_ (τ:=aa) t0.1.1 t1).1=34))).bind (aR (fun y7=>some ((),y7.1,(),(),())))) ((aY T t0 t1 t2 (decide ((at_ (τ:=aa) t0.1.1 t1).1=37))).bind (aR (fun y7=>some ((),y7.1,(),(),())))))))) none:=eF Tryz.func109 (by kernel_rfl)
theorem pT (t0:(List aa.den×Unit)×LI×Unit)(t1:Int)(t2:Int)(t19:Bool):aY (S.step T) t0 t1 t2 t19=brk (t19) ((aE T t0 t1 t2 false).bind fun d28=>some (Sum.inl (d28.2.1,()))) ((aE T t0 t1 t2 true).bind fun d18=>some (Sum.inl (d18.2.1,()))):=eJ Tryz.func109 rfl (by kernel_rfl)
theorem uy (t0:(List aa.den×Unit)×LI×Unit)(t1:Int)(t2:Int):iJ (S.step T) t0 t1 t2=brk (decide (0≤t1)&&decide (t1<(t0.1.1.length:Int))) (brk (fits (0+(at_ (τ:=aa) t0.1.1 t1).2.2.2.2.2.2.2.1.length)) (brk (decide ((at_ (τ:=aa) t0.1.1 t1).2.2.2.2.1=1)) (brk (fits ((at_ (τ:=aa) t0.1.1 t1).2.2.2.2.2.2.2.1.length+([([46,46,46]:LI)]:List LI).length)) ((Lx.s9 ((at_ (τ:=aa) t0.1.1 t1).2.2.2.2.2.2.2.1++([([46,46,46]:LI)]:List LI),([44,32]:LI),())).bind fun d27=>brk (fits (1+d27.1.length)) (brk (fits ((([40]:LI)++d27.1).length+2)) ((ar T t0 ((([40]:LI)++d27.1)++([41,32]:LI))).bind fun d30=>brk (decide (0<((at_ (τ:=aa) t0.1.1 t1).2.2.2.2.2.2.2.2.1.length:Int))) ((bm T d30.2.1 ((at_ (τ:=aa) t0.1.1 t1).2.2.2.2.2.2.2.2.1.getD 0 0) t2).bind fun d37=>some ((),d37.2.1,(),(),())) none) none) none) none) ((Lx.s9 ((at_ (τ:=aa) t0.1.1 t1).2.2.2.2.2.2.2.1,([44,32]:LI),())).bind fun d27=>brk (fits (1+d27.1.length)) (brk (fits ((([40]:LI)++d27.1).length+2)) ((ar T t0 ((([40]:LI)++d27.1)++([41,32]:LI))).bind fun d30=>brk (decide (0<((at_ (τ:=aa) t0.1.1 t1).2.2.2.2.2.2.2.2.1.length:Int))) ((bm T d30.2.1 ((at_ (τ:=aa) t0.1.1 t1).2.2.2.2.2.2.2.2.1.getD 0 0) t2).bind fun d37=>some ((),d37.2.1,(),(),())) none) none) none)) none) none:=eF Tryz.func61 (by kernel_rfl)
theorem dW (t0:(List aa.den×Unit)×LI×Unit)(t1:Int)(t2:Int):aQ (S.step T) t0 t1 t2=brk (decide (0≤t1)&&decide (t1<(t0.1.1.length:Int))) (brk (decide ((at_ (τ:=aa) t0.1.1 t1).1=20)) ((ar T t0 ([110,105,108]:LI)).bind fun d29=>some ((),d29.2.1,(),(),())) (brk (decide ((at_ (τ:=aa) t0.1.1 t1).1=21)) ((ar T t0 ([116,114,117,101]:LI)).bind fun d33=>some ((),d33.2.1,(),(),())) (brk (decide ((at_ (τ:=aa) t0.1.1 t1).1=22)) ((ar T t0 ([102,97,108,115,101]:LI)).bind fun d37=>some ((),d37.2.1,(),(),())) (brk (decide ((at_ (τ:=aa) t0.1.1 t1).1=27)) ((ar T t0 ([46,46,46]:LI)).bind fun d41=>some ((),d41.2.1,(),(),())) (brk (decide ((at_ (τ:=aa) t0.1.1 t1).1=23)) ((lp T (2,0,0,0,(at_ (τ:=aa) t0.1.1 t1).2.2.2.2.2.1,([]:LI),())).bind fun d48=>(ar T t0 d48.1).bind fun d49=>some ((),d49.2.1,(),(),())) (brk (decide ((at_ (τ:=aa) t0.1.1 t1).1=24)) ((dr T t0 t1 t2 (at_ (τ:=aa) t0.1.1 t1) (at_ (τ:=aa) t0.1.1 t1).2.2.2.2.2.2.2.2.1 (at_ (τ:=aa) t0.1.1 t1).1 (decide ((at_ (τ:=aa) t0.1.1 t1).1=24))).bind (aR (fun CB=>some ((),CB.1,(),(),())))) ((dr T t0 t1 t2 (at_ (τ:=aa) t0.1.1 t1) (at_ (τ:=aa) t0.1.1 t1).2.2.2.2.2.2.2.2.1 (at_ (τ:=aa) t0.1.1 t1).1 (decide ((at_ (τ:=aa) t0.1.1 t1).1=26))).bind (aR (fun CB=>some ((),CB.1,(),(),())))))))))) none:=eF Tryz.func60 (by kernel_rfl)
theorem gQ (t0:(List aa.den×Unit)×LI×Unit)(t1:Int)(t2:Int)(t6:aa.den)(t7:LI)(t25:Int)(t50:Bool):dr (S.step T) t0 t1 t2 t6 t7 t25 t50=brk (t50) ((ar T t0 t6.2.2.2.2.2.2.1).bind fun d56=>some (Sum.inl (d56.2.1,()))) (brk (decide (t25=25)) ((oP T t6.2.2.2.2.2.2.1).bind fun d62=>(ar T t0 d62.1).bind fun d63=>some (Sum.inl (d63.2.1,()))) (brk (decide (t25=28)) ((dy T t0 t1 t2 t6 t7 t25 (decide (t25=28))).bind (aR (fun qT=>some (Sum.inl qT)))) (brk (decide (t25=29)) ((dy T t0 t1 t2 t6 t7 t25 (decide (t25=29))).bind (aR (fun qT=>some (Sum.inl qT)))) ((dy T t0 t1 t2 t6 t7 t25 (decide (t25=31))).bind (aR (fun qT=>some (Sum.inl qT))))))):=eJ Tryz.func60 rfl (by kernel_rfl)
end Go.Abs.D
end

section
set_option maxRecDepth 100000
namespace Go.Abs.D
variable(T:S.Tab)
open Go.Proofs
theorem aH (t0:(List aa.den×Unit)×LI×Unit)(t1:Int)(t2:Int)(t6:aa.den)(t7:LI)(t25:Int)(t64:Bool):dy (S.step T) t0 t1 t2 t6 t7 t25 t64=brk (t64) ((eU T t0 t1).bind fun d70=>brk (decide (t6.1=31)) (brk (decide (t6.1=31)) ((kE T (i64.wrap (60+t6.2.2.2.2.1))).bind fun d90=>(du T d70.2.1 t2 t7 d70.1 (decide (t6.2.2.2.2.1=12)) d90.1).bind (aR (fun ji=>some (Sum.inl ji)))) ((du T d70.2.1 t2 t7 d70.1 (decide (t6.2.2.2.2.1=12)) (Ff ([]:LI) [(28,([97,110,100]:LI)),(29,([111,114]:LI))] t6.1)).bind (aR (fun ji=>some (Sum.inl ji))))) (brk (decide (t6.1=31)) ((kE T (i64.wrap (60+t6.2.2.2.2.1))).bind fun d90=>(du T d70.2.1 t2 t7 d70.1 false d90.1).bind (aR (fun ji=>some (Sum.inl ji)))) ((du T d70.2.1 t2 t7 d70.1 false (Ff ([]:LI) [(28,([97,110,100]:LI)),(29,([111,114]:LI))] t6.1)).bind (aR (fun ji=>some (Sum.inl ji)))))) (brk (decide (t25=30)) (brk (decide (t6.2.2.2.2.1=21)) ((ar T t0 ([110,111,116,32]:LI)).bind fun d148=>(bc T d148.2.1 t2 t7).bind (aR (fun Fk=>some (Sum.inl Fk)))) (brk (decide (t6.2.2.2.2.1=19)) ((ar T t0 ([45]:LI)).bind fun d152=>brk (decide (0<(t7.length:Int))) (brk (decide (0≤t7.getD 0 0)&&decide (t7.getD 0 0<(d152.2.1.1.1.length:Int))) (brk (decide ((at_ (τ:=aa) d152.2.1.1.1 (t7.getD 0 0)).1=30)) (brk (decide ((at_ (τ:=aa) d152.2.1.1.1 (t7.getD 0 0)).2.2.2.2.1=19)) ((ar T d152.2.1 ([32]:LI)).bind fun d172=>(bc T d172.2.1 t2 t7).bind (aR (fun Fk=>some (Sum.inl Fk)))) ((bc T d152.2.1 t2 t7).bind (aR (fun Fk=>some (Sum.inl Fk))))) ((bc T d152.2.1 t2 t7).bind (aR (fun Fk=>some (Sum.inl Fk))))) none) none) (brk (decide (t6.2.2.2.2.1=22)) ((ar T t0 ([35]:LI)).bind fun d176=>(bc T d176.2.1 t2 t7).bind (aR (fun Fk=>some (Sum.inl Fk)))) (brk (decide (t6.2.2.2.2.1=20)) ((ar T t0 ([126]:LI)).bind fun d180=>(bc T d180.2.1 t2 t7).bind (aR (fun Fk=>some (Sum.inl Fk)))) ((bc T t0 t2 t7).bind (aR (fun Fk=>some (Sum.inl Fk)))))))) (brk (decide (t25=32)) (brk (decide (0<(t7.length:Int))) ((fX T t0 (t7.getD 0 0) t2).bind fun d200=>(ar T d200.2.1 ([91]:LI)).bind fun d202=>brk (decide (1<(t7.length:Int))) ((aQ T d202.2.1 (t7.getD 1 0) t2).bind fun d208=>(ar T d208.2.1 ([93]:LI)).bind fun d210=>some (Sum.inl (d210.2.1,()))) none) none) (brk (decide (t25=33)) (brk (decide (0<(t7.length:Int))) ((fX T t0 (t7.getD 0 0) t2).bind fun d218=>brk (fits (1+t6.2.2.2.2.2.2.1.length)) ((ar T d218.2.1 (([46]:LI)++t6.2.2.2.2.2.2.1)).bind fun d223=>some (Sum.inl (d223.2.1,()))) none) none) (brk (decide (t25=34)) (brk (decide (0<(t7.length:Int))) ((fX T t0 (t7.getD 0 0) t2).bind fun d231=>(ar T d231.2.1 ([40]:LI)).bind fun d233=>brk (bounds t7.length 1 (t7.length:Int)) ((cI T d233.2.1 (sub t7 1 (t7.length:Int)) t2).bind fun d238=>(ar T d238.2.1 ([41]:LI)).bind fun d240=>some (Sum.inl (d240.2.1,()))) none) none) (brk (decide (t25=35)) ((ar T t0 ([123]:LI)).bind fun d244=>(cI T d244.2.1 t7 t2).bind fun d248=>(ar T d248.2.1 ([125]:LI)).bind fun d250=>some (Sum.inl (d250.2.1,()))) (brk (decide (t25=36)) ((ar T t0 ([102,110]:LI)).bind fun d254=>(iJ T d254.2.1 t1 t2).bind fun d258=>some (Sum.inl (d258.2.1,()))) (brk (decide (t25=37)) (brk (decide (0<(t7.length:Int))) ((aE T t0 (t7.getD 0 0) t2 true).bind fun d266=>some (Sum.inl (d266.2.1,()))) none) (brk (decide (t25=40)) (brk (decide (0<(t7.length:Int))) ((aQ T t0 (t7.getD 0 0) t2).bind fun d274=>some (Sum.inl (d274.2.1,()))) none) (brk (decide (t25=41)) ((ar T t0 ([91]:LI)).bind fun d278=>brk (decide (0<(t7.length:Int))) ((aQ T d278.2.1 (t7.getD 0 0) t2).bind fun d284=>(ar T d284.2.1 ([93,32,61,32]:LI)).bind fun d286=>brk (decide (1<(t7.length:Int))) ((aQ T d286.2.1 (t7.getD 1 0) t2).bind fun d292=>some (Sum.inl (d292.2.1,()))) none) none) (brk (decide (t25=42)) (brk (fits (1+t6.2.2.2.2.2.2.1.length)) (brk (fits ((([46]:LI)++t6.2.2.2.2.2.2.1).length+3)) ((ar T t0 ((([46]:LI)++t6.2.2.2.2.2.2.1)++([32,61,32]:LI))).bind fun d300=>brk (decide (0<(t7.length:Int))) ((aQ T d300.2.1 (t7.getD 0 0) t2).bind fun d306=>some (Sum.inl (d306.2.1,()))) none) none) none) (some (Sum.inl (t0,()))))))))))))):=eJ Tryz.func60 rfl (by kernel_rfl)
theorem pU (t0:(List aa.den×Unit)×LI×Unit)(t2:Int)(t7:LI)(t8:Int)(t9:Bool)(t10:LI):du (S.step T) t0 t2 t7 t8 t9 t10=brk (decide (0<(t7.length:Int))) ((eU T t0 (t7.getD 0 0)).bind fun d95=>brk (decide (1<(t7.length:Int))) ((eU T d95.2.1 (t7.getD 1 0)).bind fun d100=>brk (decide (0<(t7.length:Int))) (brk (decide (d95.1<t8)) ((aE T d100.2.1 (t7.getD 0 0) t2 true).bind fun d117=>brk (fits (1+t10.length)) (brk (fits ((([32]:LI)++t10).length+1)) ((ar T d117.2.1 ((([32]:LI)++t10)++([32]:LI))).bind fun d122=>brk (decide (1<(t7.length:Int))) (brk (decide (d100.1<t8)) ((aE T d122.2.1 (t7.getD 1 0) t2 true).bind fun d140=>some (Sum.inl (d140.2.1,()))) (brk (!t9) ((aE T d122.2.1 (t7.getD 1 0) t2 (decide (d100.1=t8))).bind fun d140=>some (Sum.inl (d140.2.1,()))) ((aE T d122.2.1 (t7.getD 1 0) t2 false).bind fun d140=>some (Sum.inl (d140.2.1,()))))) none) none) none) (brk (t9) ((aE T d100.2.1 (t7.getD 0 0) t2 (decide (d95.1=t8))).bind fun d117=>brk (fits (1+t10.length)) (brk (fits ((([32]:LI)++t10).length+1)) ((ar T d117.2.1 ((([32]:LI)++t10)++([32]:LI))).bind fun d122=>brk (decide (1<(t7.length:Int))) (brk (decide (d100.1<t8)) ((aE T d122.2.1 (t7.getD 1 0) t2 true).bind fun d140=>some (Sum.inl (d140.2.1,()))) (brk (!t9) ((aE T d122.2.1 (t7.getD 1 0) t2 (decide (d100.1=t8))).bind fun d140=>some (Sum.inl (d140.2.1,()))) ((aE T d122.2.1 (t7.getD 1 0) t2 false).bind fun d140=>some (Sum.inl (d140.2.1,()))))) none) none) none) ((aE T d100.2.1 (t7.getD 0 0) t2 false).bind fun d117=>brk (fits (1+t10.length)) (brk (fits ((([32]:LI)++t10).length+1)) ((ar T d117.2.1 ((([32]:LI)++t10)++([32]:LI))).bind fun d122=>brk (decide (1<(t7.length:Int))) (brk (decide (d100.1<t8)) ((aE T d122.2.1 (t7.getD 1 0) t2 true).bind fun d140=>some (Sum.inl (d140.2.1,()))) (brk (!t9) ((aE T d122.2.1 (t7.getD 1 0) t2 (decide (d100.1=t8))).bind fun d140=>some (Sum.inl (d140.2.1,()))) ((aE T d122.2.1 (t7.getD 1 0) t2 false).bind fun d140=>some (Sum.inl (d140.2.1,()))))) none) none) none))) none) none) none:=eJ Tryz.func60 rfl (by kernel_rfl)
theorem pV (t0:(List aa.den×Unit)×LI×Unit)(t2:Int)(t7:LI):bc (S.step T) t0 t2 t7=brk (decide (0<(t7.length:Int))) (brk (decide (0<(t7.length:Int))) ((eU T t0 (t7.getD 0 0)).bind fun d190=>(aE T d190.2.1 (t7.getD 0 0) t2 (decide (d190.1<99))).bind fun d192=>some (Sum.inl (d192.2.1,()))) none) none:=eJ Tryz.func60 rfl (by kernel_rfl)
theorem sd (t0:(List aa.den×Unit)×LI×Unit)(t1:LI)(t2:Int):cI (S.step T) t0 t1 t2=(cr T t0 t2 t1 (t1.length:Int) 0).bind (aR (fun y1=>some ((),y1.1,(),(),()))):=eF Tryz.func59 (by kernel_rfl)
theorem fo (t0:(List aa.den×Unit)×LI×Unit)(t2:Int)(t8:LI)(t9:Int)(t10:Int):cr (S.step T) t0 t2 t8 t9 t10=brk (decide (t10<t9)) (brk (decide (0≤t10)&&decide (t10<(t8.length:Int))) (brk (decide (0<t10)) ((ar T t0 ([44,32]:LI)).bind fun d18=>(aQ T d18.2.1 (t8.getD t10.toNat 0) t2).bind fun d22=>cr T d22.2.1 t2 t8 t9 (i64.wrap (t10+1))) ((aQ T t0 (t8.getD t10.toNat 0) t2).bind fun d22=>cr T d22.2.1 t2 t8 t9 (i64.wrap (t10+1)))) none) (some (Sum.inl (t0,()))):=eL Tryz.func59 rfl (by kernel_rfl)
theorem iu (t0:(List aa.den×Unit)×LI×Unit)(t1:aa.den)(t2:Int):gX (S.step T) t0 t1 t2=(ar T t0 ([105,102,32]:LI)).bind fun d8=>brk (decide (0<(t1.2.2.2.2.2.2.2.2.1.length:Int))) ((aQ T d8.2.1 (t1.2.2.2.2.2.2.2.2.1.getD 0 0) t2).bind fun d15=>(ar T d15.2.1 ([32]:LI)).bind fun d17=>brk (decide (1<(t1.2.2.2.2.2.2.2.2.1.length:Int))) ((bm T d17.2.1 (t1.2.2.2.2.2.2.2.2.1.getD 1 0) t2).bind fun d24=>brk (decide ((t1.2.2.2.2.2.2.2.2.1.length:Int)=3)) (brk (decide (2<(t1.2.2.2.2.2.2.2.2.1.length:Int))) (brk (decide (0≤t1.2.2.2.2.2.2.2.2.1.getD 2 0)&&decide (t1.2.2.2.2.2.2.2.2.1.getD 2 0<(d24.2.1.1.1.length:Int))) (brk (decide ((at_ (τ:=aa) d24.2.1.1.1 (t1.2.2.2.2.2.2.2.2.1.getD 2 0)).1=7)) ((ar T d24.2.1 ([32,101,108]:LI)).bind fun d44=>(gX T d44.2.1 (at_ (τ:=aa) d24.2.1.1.1 (t1.2.2.2.2.2.2.2.2.1.getD 2 0)) t2).bind fun d48=>some ((),d48.2.1,((),(),(),(),(),(),(),(),(),()),(),())) ((ar T d24.2.1 ([32,101,108,115,101,32]:LI)).bind fun d50=>brk (decide (2<(t1.2.2.2.2.2.2.2.2.1.length:Int))) ((bm T d50.2.1 (t1.2.2.2.2.2.2.2.2.1.getD 2 0) t2).bind fun d57=>some ((),d57.2.1,((),(),(),(),(),(),(),(),(),()),(),())) none)) none) none) (some ((),d24.2.1,((),(),(),(),(),(),(),(),(),()),(),()))) none) none:=eF Tryz.func62 (by kernel_rfl)
theorem bd (t0:(List aa.den×Unit)×LI×Unit)(t1:Int)(t2:Int):fw (S.step T) t0 t1 t2=brk (decide (0≤t1)&&decide (t1<(t0.1.1.length:Int))) ((Lx.s9 ((at_ (τ:=aa) t0.1.1 t1).2.2.2.2.2.2.2.1,([44,32]:LI),())).bind fun d19=>brk (decide ((at_ (τ:=aa) t0.1.1 t1).1=1)) ((bm T t0 t1 t2).bind fun d29=>some ((),d29.2.1,(),(),())) (brk (decide ((at_ (τ:=aa) t0.1.1 t1).1=2)) (brk (fits (4+d19.1.length)) ((ar T t0 (([108,101,116,32]:LI)++d19.1)).bind fun d35=>brk (decide (0<((at_ (τ:=aa) t0.1.1 t1).2.2.2.2.2.2.2.2.1.length:Int))) ((ar T d35.2.1 ([32,61,32]:LI)).bind fun d40=>(cI T d40.2.1 (at_ (τ:=aa) t0.1.1 t1).2.2.2.2.2.2.2.2.1 t2).bind fun d44=>some ((),d44.2.1,(),(),())) (some ((),d35.2.1,(),(),()))) none) (brk (decide ((at_ (τ:=aa) t0.1.1 t1).1=3)) (brk (fits (6+d19.1.length)) (brk (fits ((([99,111,110,115,116,32]:LI)++d19.1).length+3)) ((ar T t0 ((([99,111,110,115,116,32]:LI)++d19.1)++([32,61,32]:LI))).bind fun d51=>brk (decide (0<((at_ (τ:=aa) t0.1.1 t1).2.2.2.2.2.2.2.2.1.length:Int))) ((aQ T d51.2.1 ((at_ (τ:=aa) t0.1.1 t1).2.2.2.2.2.2.2.2.1.getD 0 0) t2).bind fun d57=>some ((),d57.2.1,(),(),())) none) none) none) (brk (decide ((at_ (τ:=aa) t0.1.1 t1).1=4)) (brk (fits (3+d19.1.length)) ((ar T t0 (([102,110,32]:LI)++d19.1)).bind fun d63=>brk (decide (0<((at_ (τ:=aa) t0.1.1 t1).2.2.2.2.2.2.2.2.1.length:Int))) ((iJ T d63.2.1 ((at_ (τ:=aa) t0.1.1 t1).2.2.2.2.2.2.2.2.1.getD 0 0) t2).bind fun d69=>some ((),d69.2.1,(),(),())) none) none) (brk (decide ((at_ (τ:=aa) t0.1.1 t1).1=5)) (brk (bounds ((at_ (τ:=aa) t0.1.1 t1).2.2.2.2.2.2.2.2.1.length) 0 (at_ (τ:=aa) t0.1.1 t1).2.2.2.2.2.1) ((cI T t0 (sub (at_ (τ:=aa) t0.1.1 t1).2.2.2.2.2.2.2.2.1 0 (at_ (τ:=aa) t0.1.1 t1).2.2.2.2.2.1) t2).bind fun d78=>(ar T d78.2.1 ([32,61,32]:LI)).bind fun d80=>brk (bounds ((at_ (τ:=aa) t0.1.1 t1).2.2.2.2.2.2.2.2.1.length) (at_ (τ:=aa) t0.1.1 t1).2.2.2.2.2.1 ((at_ (τ:=aa) t0.1.1 t1).2.2.2.2.2.2.2.2.1.length:Int)) ((cI T d80.2.1 (sub (at_ (τ:=aa) t0.1.1 t1).2.2.2.2.2.2.2.2.1 (at_ (τ:=aa) t0.1.1 t1).2.2.2.2.2.1 ((at_ (τ:=aa) t0.1.1 t1).2.2.2.2.2.2.2.2.1.length:Int)) t2).bind fun d87=>some ((),d87.2.1,(),(),())) none) none) (brk (decide ((at_ (τ:=aa) t0.1.1 t1).1=6)) (brk (decide (0<((at_ (τ:=aa) t0.1.1 t1).2.2.2.2.2.2.2.2.1.length:Int))) ((aQ T t0 ((at_ (τ:=aa) t0.1.1 t1).2.2.2.2.2.2.2.2.1.getD 0 0) t2).bind fun d95=>some ((),d95.2.1,(),(),())) none) (brk (decide ((at_ (τ:=aa) t0.1.1 t1).1=16)) ((ar T t0 ([100,101,102,101,114,32]:LI)).bind fun d99=>brk (decide (0<((at_ (τ:=aa) t0.1.1 t1).2.2.2.2.2.2.2.2.1.length:Int))) ((aQ T d99.2.1 ((at_ (τ:=aa) t0.1.1 t1).2.2.2.2.2.2.2.2.1.getD 0 0) t2).bind fun d105=>some ((),d105.2.1,(),(),())) none) (brk (decide ((at_ (τ:=aa) t0.1.1 t1).1=7)) ((gX T t0 (at_ (τ:=aa) t0.1.1 t1) t2).bind fun d111=>some ((),d111.2.1,(),(),())) (brk (decide ((at_ (τ:=aa) t0.1.1 t1).1=8)) ((ar T t0 ([119,104,105,108,101,32]:LI)).bind fun d115=>brk (decide (0<((at_ (τ:=aa) t0.1.1 t1).2.2.2.2.2.2.2.2.1.length:Int))) ((aQ T d115.2.1 ((at_ (τ:=aa) t0.1.1 t1).2.2.2.2.2.2.2.2.1.getD 0 0) t2).bind fun d121=>(ar T d121.2.1 ([32]:LI)).bind fun d123=>brk (decide (1<((at_ (τ:=aa) t0.1.1 t1).2.2.2.2.2.2.2.2.1.length:Int))) ((bm T d123.2.1 ((at_ (τ:=aa) t0.1.1 t1).2.2.2.2.2.2.2.2.1.getD 1 0) t2).bind fun d129=>some ((),d129.2.1,(),(),())) none) none) (brk (decide ((at_ (τ:=aa) t0.1.1 t1).1=9)) (brk (fits (4+d19.1.length)) (brk (fits ((([102,111,114,32]:LI)++d19.1).length+3)) ((ar T t0 ((([102,111,114,32]:LI)++d19.1)++([32,61,32]:LI))).bind fun d136=>brk (bounds ((at_ (τ:=aa) t0.1.1 t1).2.2.2.2.2.2.2.2.1.length) 0 (i64.wrap (((at_ (τ:=aa) t0.1.1 t1).2.2.2.2.2.2.2.2.1.length:Int) - 1))) ((cI T d136.2.1 (sub (at_ (τ:=aa) t0.1.1 t1).2.2.2.2.2.2.2.2.1 0 (i64.wrap (((at_ (τ:=aa) t0.1.1 t1).2.2.2.2.2.2.2.2.1.length:Int) - 1))) t2).bind fun d144=>(ar T d144.2.1 ([32]:LI)).bind fun d146=>brk (decide (0≤i64.wrap (((at_ (τ:=aa) t0.1.1 t1).2.2.2.2.2.2.2.2.1.length:Int) - 1))&&decide (i64.wrap (((at_ (τ:=aa) t0.1.1 t1).2.2.2.2.2.2.2.2.1.length:Int) - 1)<((at_ (τ:=aa) t0.1.1 t1).2.2.2.2.2.2.2.2.1.length:Int))) ((bm T d146.2.1 ((at_ (τ:=aa) t0.1.1 t1).2.2.2.2.2.2.2.2.1.getD ((i64.wrap (((at_ (τ:=aa) t0.1.1 t1).2.2.2.2.2.2.2.2.1.length:Int) - 1)).toNat) 0) t2).bind fun d155=>some ((),d155.2.1,(),(),())) none) none) none) none) (brk (decide ((at_ (τ:=aa) t0.1.1 t1).1=10)) (brk (fits (4+d19.1.length)) (brk (fits ((([102,111,114,32]:LI)++d19.1).length+4)) ((ar T t0 ((([102,111,114,32]:LI)++d19.1)++([32,105,110,32]:LI))).bind fun d162=>brk (decide (0<((at_ (τ:=aa) t0.1.1 t1).2.2.2.2.2.2.2.2.1.length:Int))) ((aQ T d162.2.1 ((at_ (τ:=aa) t0.1.1 t1).2.2.2.2.2.2.2.2.1.getD 0 0) t2).bind fun d168=>(ar T d168.2.1 ([32]:LI)).bind fun d170=>brk (decide (1<((at_ (τ:=aa) t0.1.1 t1).2.2.2.2.2.2.2.2.1.length:Int))) ((bm T d170.2.1 ((at_ (τ:=aa) t0.1.1 t1).2.2.2.2.2.2.2.2.1.getD 1 0) t2).bind fun d176=>some ((),d176.2.1,(),(),())) none) none) none) none) (brk (decide ((at_ (τ:=aa) t0.1.1 t1).1=11)) ((ar T t0 ([98,114,101,97,107]:LI)).bind fun d180=>some ((),d180.2.1,(),(),())) (brk (decide ((at_ (τ:=aa) t0.1.1 t1).1=12)) ((ar T t0 ([110,101,120,116]:LI)).bind fun d184=>some ((),d184.2.1,(),(),())) (brk (decide ((at_ (τ:=aa) t0.1.1 t1).1=13)) ((ar T t0 ([114,101,116,117,114,110]:LI)).bind fun d188=>brk (decide (0<((at_ (τ:=aa) t0.1.1 t1).2.2.2.2.2.2.2.2.1.length:Int))) ((ar T d188.2.1 ([32]:LI)).bind fun d193=>(cI T d193.2.1 (at_ (τ:=aa) t0.1.1 t1).2.2.2.2.2.2.2.2.1 t2).bind fun d197=>some ((),d197.2.1,(),(),())) (some ((),d188.2.1,(),(),()))) (brk (decide ((at_ (τ:=aa) t0.1.1 t1).1=14)) ((ar T t0 ([116,114,121,32]:LI)).bind fun d201=>brk (decide (0<((at_ (τ:=aa) t0.1.1 t1).2.2.2.2.2.2.2.2.1.length:Int))) ((bm T d201.2.1 ((at_ (τ:=aa) t0.1.1 t1).2.2.2.2.2.2.2.2.1.getD 0 0) t2).bind fun d207=>brk (fits (7+d19.1.length)) (brk (fits ((([32,99,97,116,99,104,32]:LI)++d19.1).length+1)) ((ar T d207.2.1 ((([32,99,97,116,99,104,32]:LI)++d19.1)++([32]:LI))).bind fun d212=>brk (decide (1<((at_ (τ:=aa) t0.1.1 t1).2.2.2.2.2.2.2.2.1.length:Int))) ((bm T d212.2.1 ((at_ (τ:=aa) t0.1.1 t1).2.2.2.2.2.2.2.2.1.getD 1 0) t2).bind fun d218=>some ((),d218.2.1,(),(),())) none) none) none) none) (brk (decide ((at_ (τ:=aa) t0.1.1 t1).1=15)) ((ar T t0 ([116,104,114,111,119,32]:LI)).bind fun d222=>brk (decide (0<((at_ (τ:=aa) t0.1.1 t1).2.2.2.2.2.2.2.2.1.length:Int))) ((aQ T d222.2.1 ((at_ (τ:=aa) t0.1.1 t1).2.2.2.2.2.2.2.2.1.getD 0 0) t2).bind fun d228=>some ((),d228.2.1,(),(),())) none) (some ((),t0,(),(),())))))))))))))))))) none:=eF Tryz.func27 (by kernel_rfl)
theorem uh (t0:List aa.den×Unit):uS (S.step T) t0=(uL T t0).bind fun d7=>brk (!d7.1) (some (([]:LI),nE)) (brk (decide (0≤i64.wrap ((t0.1.length:Int) - 1))&&decide (i64.wrap ((t0.1.length:Int) - 1)<(t0.1.length:Int))) ((iW T (t0,([]:LI),()) (at_ (τ:=aa) t0.1 (i64.wrap ((t0.1.length:Int) - 1))).2.2.2.2.2.2.2.2.1 ((at_ (τ:=aa) t0.1 (i64.wrap ((t0.1.length:Int) - 1))).2.2.2.2.2.2.2.2.1.length:Int) 0).bind (aR (fun y5=>(Bld.Ih y5.1.2).bind fun d35=>brk (decide (65536<d35.1)) (some (([]:LI),nE)) ((Bld.pP d35.2).bind fun d40=>some (d40.1,nE))))) none):=eF Tryz.func10 (by kernel_rfl)
theorem qw (t3:(List aa.den×Unit)×LI×Unit)(t20:LI)(t21:Int)(t22:Int):iW (S.step T) t3 t20 t21 t22=brk (decide (t22<t21)) (brk (decide (0≤t22)&&decide (t22<(t20.length:Int))) ((fw T t3 (t20.getD t22.toNat 0) 0).bind fun d28=>(ar T d28.2.1 ([10]:LI)).bind fun d30=>iW T d30.2.1 t20 t21 (i64.wrap (t22+1))) none) (some (Sum.inl (t3,()))):=eL Tryz.func10 rfl (by kernel_rfl)
theorem vt (t0:List LI)(t1:List LI):lh (S.step T) t0 t1=brk (!decide ((t0.length:Int)=(t1.length:Int))) (some (false,jK)) ((dh T t0 t1 0).bind (bC (fun y4=>some (y4.1,jK)) (fun y4=>some (true,jK)))):=eF Tryz.func111 (by kernel_rfl)
theorem mB (t0:List LI)(t1:List LI)(t5:Int):dh (S.step T) t0 t1 t5=brk (decide (t5<(t0.length:Int))) (brk (decide (0≤t5)&&decide (t5<(t0.length:Int))) (brk (decide (0≤t5)&&decide (t5<(t1.length:Int))) (brk (!decide ((t0.getD t5.toNat [])=(t1.getD t5.toNat []))) (some (Sum.inl (false,()))) (dh T t0 t1 (i64.wrap (t5+1)))) none) none) (some (Sum.inr (Sum.inl ()))):=eL Tryz.func111 rfl (by kernel_rfl)
theorem zC (t0:LI)(t1:LI):pC (S.step T) t0 t1=brk (!decide ((t0.length:Int)=(t1.length:Int))) (some (false,ml)) ((fh T t0 t1 0).bind (bC (fun y4=>some (y4.1,ml)) (fun y4=>some (true,ml)))):=eF Tryz.func112 (by kernel_rfl)
theorem pg (t0:LI)(t1:LI)(t5:Int):fh (S.step T) t0 t1 t5=brk (decide (t5<(t0.length:Int))) (brk (decide (0≤t5)&&decide (t5<(t0.length:Int))) (brk (decide (0≤t5)&&decide (t5<(t1.length:Int))) (brk (!decide (t0.getD t5.toNat 0=t1.getD t5.toNat 0)) (some (Sum.inl (false,()))) (fh T t0 t1 (i64.wrap (t5+1)))) none) none) (some (Sum.inr (Sum.inl ()))):=eL Tryz.func112 rfl (by kernel_rfl)
theorem zc (t0:aa.den)(t1:aa.den):mE (S.step T) t0 t1=brk (!decide (t0.1=t1.1)) (some (false,cB)) (brk (!decide (t0.2.1=t1.2.1)) (some (false,cB)) (brk (!decide (t0.2.2.1=t1.2.2.1)) (some (false,cB)) (brk (!decide (t0.2.2.2.1=t1.2.2.2.1)) (some (false,cB)) (brk (!decide (t0.2.2.2.2.1=t1.2.2.2.2.1)) (some (false,cB)) (brk (!decide (t0.2.2.2.2.2.1=t1.2.2.2.2.2.1)) (some (false,cB)) (brk (!decide (t0.2.2.2.2.2.2.1=t1.2.2.2.2.2.2.1)) (some (false,cB)) ((lh T t0.2.2.2.2.2.2.2.1 t1.2.2.2.2.2.2.2.1).bind fun d44=>brk (!d44.1) (some (false,cB)) ((pC T t0.2.2.2.2.2.2.2.2.1 t1.2.2.2.2.2.2.2.2.1).bind fun d50=>brk (!d50.1) (some (false,cB)) (some (true,cB)))))))))):=eF Tryz.func64 (by kernel_rfl)
theorem yk (t0:List aa.den)(t1:List aa.den):nF (S.step T) t0 t1=brk (!decide ((t0.length:Int)=(t1.length:Int))) (some (false,lj)) ((eP T t0 t1 0).bind (bC (fun y4=>some (y4.1,lj)) (fun y4=>some (true,lj)))):=eF Tryz.func31 (by kernel_rfl)
theorem oE (t0:List aa.den)(t1:List aa.den)(t5:Int):eP (S.step T) t0 t1 t5=brk (decide (t5<(t0.length:Int))) (brk (decide (0≤t5)&&decide (t5<(t0.length:Int))) (brk (decide (0≤t5)&&decide (t5<(t1.length:Int))) ((mE T (at_ (τ:=aa) t0 t5) (at_ (τ:=aa) t1 t5)).bind fun d25=>brk (!d25.1) (some (Sum.inl (false,()))) (eP T t0 t1 (i64.wrap (t5+1)))) none) none) (some (Sum.inr (Sum.inl ()))):=eL Tryz.func31 rfl (by kernel_rfl)
theorem zm (t0:List aa.den×Unit)(t1:List aa.den×Unit):sT (S.step T) t0 t1=(nF T t0.1 t1.1).bind fun d9=>brk (!d9.1) (some (false,p8)) (some (true,p8)):=eF Tryz.func11 (by kernel_rfl)
theorem mD (t0:List aa.den×Unit):pb (S.step T) t0=(sQ T t0 1048576).bind fun d9=>brk (decide (d9.1<0)) (some (true,fE)) ((mF T t0).bind fun d13=>(uJ T d13.1).bind fun d14=>(mF T t0).bind fun d16=>(uS T d16.1).bind fun d18=>brk (!decide (d18.1=d14.1)) (some (false,fE)) ((mF T t0).bind fun d24=>(sT T d16.1 d24.1).bind fun d25=>brk (!d25.1) (some (false,fE)) (some (true,fE)))):=eF Tryz.func3 (by kernel_rfl)
end Go.Abs.D
end

section
namespace Go.Proofs.YtkmplfkiafonkaaGreatDoor
open Go.Abs
set_option maxRecDepth 100000 in
theorem Lm {W:World}(h:laidMetH Tryz.prog Rows.fnExactPrintRow.laid W):fj Abs.D.S.cd (snap W):=by
 rw[MakeChecks.laidMetH_plain _ _ _ (by kernel_rfl)]at h;obtain⟨ps,hl,_⟩:=h;obtain⟨_,_,_,_,_,_,_,_,_,_,hl,_⟩:=hl;obtain⟨g1,t1,c1,f1,p1,q1,a1,b1,v1,d1,hl,_⟩:=hl;obtain⟨g2,t2,c2,f2,p2,q2,a2,b2,v2,d2,hl,_⟩:=hl;obtain⟨g3,t3,c3,f3,p3,q3,a3,b3,v3,d3,hl,_⟩:=hl;obtain⟨_,_,_,_,_,_,_,_,_,_,hl,_⟩:=hl;obtain⟨g5,t5,c5,f5,p5,q5,a5,b5,v5,d5,hl,_⟩:=hl;obtain⟨g6,t6,c6,f6,p6,q6,a6,b6,v6,d6,hl,_⟩:=hl;obtain⟨g7,t7,c7,f7,p7,q7,a7,b7,v7,d7,hl,_⟩:=hl;have h5:=AE (g':=1) (τ:= .sl .str) (x:=Lx.words) (k:=3) a5 b5 v5 d5 (by kernel_rfl) (by kernel_rfl) rfl Gf (by kernel_rfl);have h6:=AE (g':=2) (τ:= .sl .str) (x:=Lx.jE) (k:=3) a6 b6 v6 d6 (by kernel_rfl) (by kernel_rfl) rfl Gf (by kernel_rfl);have h7:=AE (g':=3) (τ:= .sl .str) (x:=Lx.ry) (k:=3) a7 b7 v7 d7 (by kernel_rfl) (by kernel_rfl) rfl Gf (by kernel_rfl);have h3:=IQ (g':=6) a3 b3 v3 d3 (by kernel_rfl) (by kernel_rfl);have h2:=BV (g':=4) (k:= .u64) (m:=20) (e:=154) a2 b2 v2 d2 (by kernel_rfl) Lib.pow10Tab (by kernel_rfl) (by kernel_rfl) (by kernel_rfl) (by kernel_rfl) (by kernel_rfl);have h1:=BV (g':=8) (k:= .u8) (m:=64) (e:=5) a1 b1 v1 d1 (by kernel_rfl) (Lib.deBruijn64tab.map fun n:Nat=>(n:Int)) (by kernel_rfl) (by kernel_rfl) (by kernel_rfl) (by kernel_rfl) (by kernel_rfl);intro k cs hk;have hk:(bif Nat.beq k 1 then some [.v (.sl .str) Lx.words]else bif Nat.beq k 2 then some [.v (.sl .str) Lx.jE]else bif Nat.beq k 3 then some [.v (.sl .str) Lx.ry]else Lx.yJ k)=some cs:=hk
 cases e5:Nat.beq k 1 with
 |true=>rw[e5]at hk;have:=Nat.eq_of_beq_eq_true e5;subst this;injection hk with hk;subst hk;exact h5
 |false=>
 rw[e5]at hk
 cases e6:Nat.beq k 2 with
 |true=>rw[e6]at hk;have:=Nat.eq_of_beq_eq_true e6;subst this;injection hk with hk;subst hk;exact h6
 |false=>
 rw[e6]at hk
 cases e7:Nat.beq k 3 with
 |true=>rw[e7]at hk;have:=Nat.eq_of_beq_eq_true e7;subst this;injection hk with hk;subst hk;exact h7
 |false=>
 rw[e7]at hk;have hk:Lx.yJ k=some cs:=hk;unfold Lx.yJ at hk
 cases e1:Nat.beq k 8 with
 |true=>rw[e1]at hk;have:=Nat.eq_of_beq_eq_true e1;subst this;injection hk with hk;subst hk;rw[List.map_map]at h1;exact h1
 |false=>
 rw[e1]at hk;have hk:Lx.tables k=some cs:=hk;unfold Lx.tables at hk
 cases e2:Nat.beq k 4 with
 |true=>rw[e2]at hk;have:=Nat.eq_of_beq_eq_true e2;subst this;injection hk with hk;subst hk;exact h2
 |false=>
 rw[e2]at hk
 cases e3:Nat.beq k 6 with
 |true=>rw[e3]at hk;have:=Nat.eq_of_beq_eq_true e3;subst this;injection hk with hk;subst hk;exact h3
 |false=>
 rw[e3]at hk;cases hk
end Go.Proofs.YtkmplfkiafonkaaGreatDoor
end

section
namespace Go.Abs.Bld
open Go.Proofs
theorem EE:∀{l:List (Nat×Nat×Nat)}{a b c:Nat},A2 l a b c=true→(a,b,c)∈l
 |t::r,a,b,c,h=>by
  simp only[A2,WH,V6]at h
  rcases h with h|h
  ·rw[←beq_eq h.1.1,←beq_eq h.1.2,←beq_eq h.2];exact Wk ..
  ·exact Wj _ (EE h)
theorem Sb:∀t∈places,(Nat.ble (t.2.1+2) t.2.2&&liesAt Tryz.prog Tryz.prog.depth t.1 (t.2.2/Tryz.prog.cellsOf t.1) t.2.1 59 1)=true:=by
 have:(places.all fun t=>Nat.ble (t.2.1+2) t.2.2&&liesAt Tryz.prog Tryz.prog.depth t.1 (t.2.2/Tryz.prog.cellsOf t.1) t.2.1 59 1)=true:=by kernel_rfl
 exact List.all_eq_true.1 this
set_option maxHeartbeats 1000000 in
set_option maxRecDepth 100000 in
theorem zd (b o:Nat)(w:World)(h0:w.cell? ⟨b,o,none⟩=some (.pointer (some ⟨b,o,none⟩))):
  Calls Tryz.prog 110 #[.pointer (some ⟨b,o,none⟩)] w fun e w'=>e= .returned (.tuple #[])∧w'=w:=by
 obtain⟨j,hj,_⟩:=Ww.1 (show(Tryz.prog.info? 59).map (·.size)=some 2 by kernel_rfl)
 go_enter Tryz.func110,Tryz.ntmps110
 go_wp2
 rw[Lib.run_neq_ptr_same w _ (by kernel_rfl) hj]
 go_wp2
 go_end0
 exact⟨rfl,rfl⟩
set_option maxHeartbeats 1000000 in
set_option maxRecDepth 100000 in
theorem yj (b o ty n:Nat)(w:World)(h0:w.cell? ⟨b,o,none⟩=some (.pointer none))(Rg:w.shape? b=some (ty,n))(UN:w.frozen? ⟨b,o,none⟩=false)(cE:A2 places ty o n=true):
  Calls Tryz.prog 110 #[.pointer (some ⟨b,o,none⟩)] w fun e w'=>e= .returned (.tuple #[])∧w'=w.setCell ⟨b,o,none⟩ (.pointer (some ⟨b,o,none⟩)):=by
 obtain⟨j,hj,UZ⟩:=Ww.1 (show(Tryz.prog.info? 59).map (·.size)=some 2 by kernel_rfl);have hl:=Sb _ (EE cE);simp only[V6]at hl
 have fP:o<n:=by have:=Wr hl.1;omega
 go_enter Tryz.func110,Tryz.ntmps110
 go_wp2
 rw[Lib.run_to_unsafe w ⟨b,o,none⟩ (show Tryz.prog.underlying 57=some (.pointer 59)by kernel_rfl) (show Tryz.prog.underlying 178=some .unsafePointer by kernel_rfl) hj (by rw[UZ];decide) Rg fP];simp only[Result.andThen];rw[Oper.upon_value]
 go_wp2
 rw[run_callFunc_extern Tryz.func183 (by kernel_rfl) (by kernel_rfl) (by kernel_rfl) (e:=Extern.AbiNoEscape.same) (by kernel_rfl)];rw[Lib.run_noEscape];simp only[Result.andThen];rw[Oper.upon_value]
 go_wp2
 rw[Lib.run_from_unsafe w ⟨b,o,none⟩ (show Tryz.prog.underlying 178=some .unsafePointer by kernel_rfl) (show Tryz.prog.underlying 57=some (.pointer 59)by kernel_rfl) hj Rg hl.2];simp only[Result.andThen];rw[Oper.upon_value]
 go_wp2
 go_end0
 exact⟨rfl,rfl⟩
end Go.Abs.Bld
end

section
namespace Go.Abs.Bld
open Go.Proofs
theorem CS {w:World}{b k:Nat}{arr:Array Value}{ty:TypeId}{v:Value}(h:w.heap[b]?=some (.cells arr ty (0,0)))(hv:arr[k]?=some v):w.setCell ⟨b,k,none⟩ v=w:=by
 have:w.heap.modify b (fun| .cells c elem frozen=> .cells (c.setIfInBounds k v) elem frozen|o=>o)=w.heap:=by
  apply Array.ext_getElem?
  intro i;rw[Array.getElem?_modify]
  by_cases e:b=i
  ·subst e;rw[WK rfl,h];simp only[Option.map_some]
   have:arr.setIfInBounds k v=arr:=by
    apply Array.ext_getElem?
    intro j;rw[Array.getElem?_setIfInBounds]
    by_cases e:k=j
    ·subst e;rw[WK rfl,hv];split
     ·rfl
     ·rename_i fP;rw[Array.getElem?_eq_none (by omega)]at hv;cases hv
    ·rw[Wz e]
   rw[this]
  ·rw[Wz e]
 show{w with heap:=_}=w;exact congrArg (fun h=>{w with heap:=h}) this
theorem iX {arr:Array Value}{o:Nat}{x y:Value}(h:(arr.toList.drop o).take 2=[x,y]):arr[o]?=some x∧arr[o+1]?=some y:=by
 have h0:=congrArg (·[0]?) h;have h1:=congrArg (·[1]?) h;simp only[List.getElem?_take,List.getElem?_drop]at h0 h1;simp at h0 h1;exact⟨h0,h1⟩
theorem Ce {ax:Rd}{b o ty:Nat}{arr:Array Value}{w:World}{xs:List Int}{nb:List Nat}(ha:w.heap[b]?=some (.cells arr ty (0,0)))(cE:A2 places ty o arr.size=true)(hB:lU ax w (b,o) xs ((arr.toList.drop o).take 2) nb):
  Calls Tryz.prog 110 #[.pointer (some ⟨b,o,none⟩)] w fun e w'=>e= .returned (.tuple #[])∧w'=w.setCell ⟨b,o,none⟩ (.pointer (some ⟨b,o,none⟩)):=by
 rcases hB with⟨h1,h2,h3⟩|⟨u2,h1,h2,h4⟩
 ·obtain⟨c0,c1⟩:=iX h1;exact yj b o ty arr.size w (by rw[Lib.cell_of_heap ha,c0]) (by simp[World.shape?,ha]) (Lib.frozen_of_heap ha o) cE
 ·obtain⟨c0,c1⟩:=iX h1;refine(zd b o w (by rw[Lib.cell_of_heap ha,c0])).mono ?_;rintro e w' ⟨rfl,rfl⟩;exact⟨rfl,(CS ha c0).symm⟩
noncomputable def Ax:TypeInfo:=match Tryz.prog.info? 5 with
 |some i=>i
 |none=>default
theorem xN:Tryz.prog.info? 5=some Ax:=by kernel_rfl
def Eo (ax:Rd)(w1:World)(nb:List Nat)(xs:List Int)(v:Value)(w':World):Prop:=∃fV,After ax w1 nb ax w' fV∧OwnAt ax w' false (.int .u8) xs [v] fV∧∀b∈fV,∃arr,w'.heap[b]?=some (.cells arr jb (0,0))
def Written (ax:Rd)(w:World)(b o ty:Nat)(arr:Array Value)(nb:List Nat)(xs:List Int)(w':World):Prop:=∃fV l8 v,After ax w (b::nb) ax w' (b::fV)∧w'.heap[b]?=some (.cells l8 ty (0,0))∧
 l8.toList=arr.toList.take o++[.pointer (some ⟨b,o,none⟩),v]++arr.toList.drop (o+2)∧OwnAt ax w' false (.int .u8) xs [v] fV∧∀b∈fV,∃arr,w'.heap[b]?=some (.cells arr jb (0,0))
set_option maxHeartbeats 2000000 in
set_option maxRecDepth 100000 in
theorem H9 {ax:Rd}{b o ty:Nat}{arr:Array Value}{w:World}{xs:List Int}{nb:List Nat}(c:Int)(ha:w.heap[b]?=some (.cells arr ty (0,0)))(hle:o+2≤arr.size)(cE:A2 places ty o arr.size=true)
  (hB:lU ax w (b,o) xs ((arr.toList.drop o).take 2) nb) (hn:(b::nb).Nodup) (hi:∀y∈b::nb,ax y=none∧y<w.heap.size) (hc:∀b L,ax b=some L→∃arr ty fr,w.heap[b]?=some (.cells arr ty fr)∧arr.toList=L)
  (mN:xs.length+1≤1099511627776):
  Calls Tryz.prog 155 #[.pointer (some ⟨b,o,none⟩), .int .u8 c] w fun e w'=>e= .returned .nilIface∧Written ax w b o ty arr nb (xs++[c]) w':=by
 go_enter Tryz.func155,Tryz.ntmps155
 go_wp2_with (go_at_call 110;refine(Ce ha cE hB).mono ?_)
 rintro e w1 ⟨rfl,e1⟩
 obtain⟨u,hu,hO,Gp⟩:∃u,arr[o+1]?=some u∧OwnAt ax w false (.int .u8) xs [u] nb∧∀b∈nb,∃arr,w.heap[b]?=some (.cells arr jb (0,0)):=by
  rcases hB with⟨h1,h2,h3⟩|⟨u2,h1,h2,h3⟩
  ·exact⟨_,(iX h1).2, .inl ⟨rfl,h2,h3⟩,fun y hy=>by rw[h3]at hy;simp at hy⟩
  ·exact⟨_,(iX h1).2,h2,h3⟩
 obtain⟨s1,s2,s3⟩:=kM (k:=o) ha (.pointer (some ⟨b,o,none⟩));rw[←e1]at s1 s2 s3;have o9:=List.nodup_cons.1 hn
 have MP:OwnAt ax w1 false (.int .u8) xs [u] nb:=hO.other fun y hy=>s2 y fun e=>o9.1 (e ▸ hy)
 have Og:∀y∈nb,∃arr,w1.heap[y]?=some (.cells arr jb (0,0)):=fun y hy=>by
  obtain⟨a,k⟩:=Gp y hy;exact⟨a,by rw[s2 y fun e=>o9.1 (e ▸ hy)];exact k⟩
 have M5:∀y∈nb,ax y=none∧y<w1.heap.size:=fun y hy=>⟨(hi y (Wj _ hy)).1,by rw[s3];exact(hi y (Wj _ hy)).2⟩
 have c1:w1.cell? ⟨b,o+1,none⟩=some u:=by
  rw[Lib.cell_of_heap s1,Array.getElem?_setIfInBounds,Wz (by omega)];exact hu
 have wS:∀b L,ax b=some L→∃arr ty fr,w1.heap[b]?=some (.cells arr ty fr)∧arr.toList=L:=fun y L h=>by
  rw[s2 y fun e=>by rw[e,(hi b (Wk ..)).1]at h;cases h];exact hc y L h
 have Gx:(w1.alloc (.cells #[.int .u8 c] 5)).heap[w1.heap.size]?=some (.cells #[.int .u8 c] 5 (0,0)):=by
  show(w1.heap.push _)[w1.heap.size]?=_;rw[Array.getElem?_push,WK rfl]
 have hold:∀{y:Nat} {x:Go.Obj},w1.heap[y]?=some x→(w1.alloc (.cells #[.int .u8 c] 5)).heap[y]?=some x:=fun{y x} k=>by
  have:=lt_of_heap k;show(w1.heap.push _)[y]?=_;rw[Array.getElem?_push,Wz (by omega)];exact k
 have hr:∃v w',(Builtin.append_ #[45,45] 45 #[u, .slice (some ⟨w1.heap.size,0,none⟩) 1 1]).run Tryz.prog (w1.alloc (.cells #[.int .u8 c] 5))= .ok v w'∧Eo ax w1 nb (xs++[c]) v w':=by
  obtain⟨v,w',fV,h1,h2,h3,h4⟩:=B9 (P:=Tryz.prog) (t:=45) (tx:=45) (ty:=45) (e:=5) (ys:=[c]) (i:=Ax) (z:= .int .u8 0) (by kernel_rfl) xN (by kernel_rfl) (by kernel_rfl) (Wr (by kernel_rfl)) rfl (MP.alloc (fun y hy=>(M5 y hy).2) (.cells #[.int .u8 c] 5))
   (Src.ofSlice (P:=Tryz.prog) (w:=w1.alloc (.cells #[.int .u8 c] 5)) (e':=5) (by kernel_rfl) ⟨w1.heap.size,0,none⟩ 1 1 [.int .u8 c] rfl (fun j x hj=>by
    rw[Addr.add_lit,Lib.cell_of_heap Gx]
    match j,hj with
    |0,hj=>simpa using hj) (fun x hx=>by
    have:x= .int .u8 c:=(by simpa using hx)
    subst this;rfl)) mN (fun y L h=>by
    obtain⟨a,t,f,k1,k2⟩:=wS y L h
    exact⟨a,t,f,hold k1,k2⟩) (fun y hy=>⟨(M5 y hy).1,by
     have:=(M5 y hy).2;show y<(w1.heap.push _).size
     simp;omega⟩) (fun y hy=>by
    obtain⟨a,k⟩:=Og y hy
    exact⟨a,hold k⟩)
  exact⟨v,w',h1,fV,h2.Li (fun y L h=>by obtain⟨a,t,f,k1,k2⟩:=wS y L h;exact lt_of_heap k1),h3,h4⟩
 have Td:∃_:True,w1=w.setCell ⟨b,o,none⟩ (.pointer (some ⟨b,o,none⟩))∧w1.heap.size=w.heap.size:=⟨trivial,e1,s3⟩;clear e1 s3
 go_wp2_with (at_builtin;refine pv rfl _ _ 45 45 rfl _ _ rfl rfl _ hr ?_)
 rintro v w2 ⟨IK,A,Gu,OC⟩;obtain⟨_,e1,s3⟩:=Td;obtain⟨B1,B2,l8,B3,B4,B5,B6⟩:=Cq ha hle hn hi hc e1 A Gu
 have OS:∀y∈IK,∃arr,(w2.setCell ⟨b,o+1,none⟩ v).heap[y]?=some (.cells arr jb (0,0)):=fun y hy=>by
  obtain⟨a,k⟩:=OC y hy;exact⟨a,by rw[(kM (k:=o+1) B6 v).2.1 y fun e=>B2 (e ▸ hy)];exact k⟩
 obtain⟨ao,n',cap,rfl⟩:∃ao n' cap,v= .slice ao n' cap:=by
  rcases Gu with⟨h1,_⟩|⟨b',cap,l8,A5,fV,h1,_⟩
  ·injection h1 with h1 _;exact⟨_,_,_,h1⟩
  ·injection h1 with h1 _;exact⟨_,_,_,h1⟩
 have d1:w2.cell? ⟨b,o+1,none⟩=some u:=by
  rw[Lib.cell_of_heap B6,Array.getElem?_setIfInBounds,Wz (by omega)];exact hu
 have f1:w2.frozen? ⟨b,o+1,none⟩=false:=Lib.frozen_of_heap B6 (o+1);clear e1
 go_wp2
 go_ret
 exact⟨rfl,IK,l8,_,B1,B3,B4,B5,OS⟩
set_option maxHeartbeats 2000000 in
set_option maxRecDepth 100000 in
theorem writeString {ax:Rd}{b o ty:Nat}{arr:Array Value}{w:World}{xs:List Int}{nb:List Nat}(s:ByteArray)(ha:w.heap[b]?=some (.cells arr ty (0,0)))(hle:o+2≤arr.size)(cE:A2 places ty o arr.size=true)
  (hB:lU ax w (b,o) xs ((arr.toList.drop o).take 2) nb) (hn:(b::nb).Nodup) (hi:∀y∈b::nb,ax y=none∧y<w.heap.size) (hc:∀b L,ax b=some L→∃arr ty fr,w.heap[b]?=some (.cells arr ty fr)∧arr.toList=L)
  (mN:xs.length+(bytesOf s).length≤1099511627776):
  Calls Tryz.prog 63 #[.pointer (some ⟨b,o,none⟩), .string s] w fun e w'=>e= .returned (.tuple #[.int .i64 s.size, .nilIface])∧Written ax w b o ty arr nb (xs++bytesOf s) w':=by
 go_enter Tryz.func63,Tryz.ntmps63
 go_wp2_with (go_at_call 110;refine(Ce ha cE hB).mono ?_)
 rintro e w1 ⟨rfl,e1⟩
 obtain⟨u,hu,hO,Gp⟩:∃u,arr[o+1]?=some u∧OwnAt ax w false (.int .u8) xs [u] nb∧∀b∈nb,∃arr,w.heap[b]?=some (.cells arr jb (0,0)):=by
  rcases hB with⟨h1,h2,h3⟩|⟨u2,h1,h2,h3⟩
  ·exact⟨_,(iX h1).2, .inl ⟨rfl,h2,h3⟩,fun y hy=>by rw[h3]at hy;simp at hy⟩
  ·exact⟨_,(iX h1).2,h2,h3⟩
 obtain⟨s1,s2,s3⟩:=kM (k:=o) ha (.pointer (some ⟨b,o,none⟩));rw[←e1]at s1 s2 s3;have o9:=List.nodup_cons.1 hn
 have MP:OwnAt ax w1 false (.int .u8) xs [u] nb:=hO.other fun y hy=>s2 y fun e=>o9.1 (e ▸ hy)
 have Og:∀y∈nb,∃arr,w1.heap[y]?=some (.cells arr jb (0,0)):=fun y hy=>by
  obtain⟨a,k⟩:=Gp y hy;exact⟨a,by rw[s2 y fun e=>o9.1 (e ▸ hy)];exact k⟩
 have M5:∀y∈nb,ax y=none∧y<w1.heap.size:=fun y hy=>⟨(hi y (Wj _ hy)).1,by rw[s3];exact(hi y (Wj _ hy)).2⟩
 have c1:w1.cell? ⟨b,o+1,none⟩=some u:=by
  rw[Lib.cell_of_heap s1,Array.getElem?_setIfInBounds,Wz (by omega)];exact hu
 have wS:∀b L,ax b=some L→∃arr ty fr,w1.heap[b]?=some (.cells arr ty fr)∧arr.toList=L:=fun y L h=>by
  rw[s2 y fun e=>by rw[e,(hi b (Wk ..)).1]at h;cases h];exact hc y L h
 have hr:∃v w',(Builtin.append_ #[45,9] 45 #[u, .string s]).run Tryz.prog w1= .ok v w'∧Eo ax w1 nb (xs++bytesOf s) v w':=by
  have hb:Go.byteCells s=(bytesOf s).map (Value.int .u8):=by
   unfold Go.byteCells bytesOf;rw[List.map_map];rfl
  have hs:Src Tryz.prog 1 9 (.string s) (bytesOf s).length ((bytesOf s).map (Value.int .u8)) w1:=by
   rw[←hb,cR];exact Src.ofString w1 (by kernel_rfl) s
  obtain⟨v,w',fV,h1,h2,h3,h4⟩:=B9 (P:=Tryz.prog) (t:=45) (tx:=9) (ty:=45) (e:=5) (ys:=bytesOf s) (i:=Ax) (z:= .int .u8 0) (by kernel_rfl) xN (by kernel_rfl) (by kernel_rfl) (Wr (by kernel_rfl)) rfl MP hs mN wS M5 Og;exact⟨v,w',h1,fV,h2,h3,h4⟩
 have Td:∃_:True,w1=w.setCell ⟨b,o,none⟩ (.pointer (some ⟨b,o,none⟩))∧w1.heap.size=w.heap.size:=⟨trivial,e1,s3⟩;clear e1 s3
 go_wp2_with (at_builtin;refine pv rfl _ _ 45 9 rfl _ _ rfl rfl _ hr ?_)
 rintro v w2 ⟨IK,A,Gu,OC⟩;obtain⟨_,e1,s3⟩:=Td;obtain⟨B1,B2,l8,B3,B4,B5,B6⟩:=Cq ha hle hn hi hc e1 A Gu
 have OS:∀y∈IK,∃arr,(w2.setCell ⟨b,o+1,none⟩ v).heap[y]?=some (.cells arr jb (0,0)):=fun y hy=>by
  obtain⟨a,k⟩:=OC y hy;exact⟨a,by rw[(kM (k:=o+1) B6 v).2.1 y fun e=>B2 (e ▸ hy)];exact k⟩
 obtain⟨ao,n',cap,rfl⟩:∃ao n' cap,v= .slice ao n' cap:=by
  rcases Gu with⟨h1,_⟩|⟨b',cap,l8,A5,fV,h1,_⟩
  ·injection h1 with h1 _;exact⟨_,_,_,h1⟩
  ·injection h1 with h1 _;exact⟨_,_,_,h1⟩
 have d1:w2.cell? ⟨b,o+1,none⟩=some u:=by
  rw[Lib.cell_of_heap B6,Array.getElem?_setIfInBounds,Wz (by omega)];exact hu
 have f1:w2.frozen? ⟨b,o+1,none⟩=false:=Lib.frozen_of_heap B6 (o+1);clear e1
 go_wp2
 go_ret2
 exact⟨rfl,IK,l8,_,B1,B3,B4,B5,OS⟩
end Go.Abs.Bld
end

section
set_option maxRecDepth 100000
namespace Go.Abs.Bld
open Go.Proofs
theorem Ah {P:Program}{w:World}:∀(xs:List Int)(a:Addr)(acc:ByteArray),(∀j x,xs[j]?=some x→w.cell? (a.add j)=some (.int .u8 x))→
  ∃st,(loadBytes a acc xs.length).run P w= .ok st w∧bytesOf st=bytesOf acc++xs.map byte
 |[],a,acc,_=>⟨acc,by simp[loadBytes],by simp⟩
 |x::xs,a,acc,h=>by
  have h0:w.cell? a=some (.int .u8 x):=by
   have:=h 0 x rfl;simpa[Addr.add]using this
  obtain⟨st,h1,h2⟩:=Ah (P:=P) (w:=w) xs (a.add 1) (acc.push x.toNat.toUInt8) (fun j y hy=>by
   have:=h (j+1) y (by simpa using hy)
   have e:(a.add 1).add j=a.add (j+1):=by
    unfold Addr.add
    by_cases hj:j=0
    ·subst hj;simp
    ·simp[hj];omega
   rw[e];exact this)
  refine⟨st, ?_, ?_⟩
  ·simp only[V0,loadBytes,Sem.run_bind,run_load,h0,Result.andThen];exact h1
  ·rw[h2]
   have:bytesOf (acc.push x.toNat.toUInt8)=bytesOf acc++[byte x]:=by
    unfold bytesOf byte;rw[ByteArray.data_push];simp
   rw[this];simp
theorem Bo {P:Program}{w:World}(pt it ty e:TypeId)(hp:P.underlying pt=some (.pointer e))(hc:P.cellsOf e=1)(g cells:Nat)(Rg:w.shape? g=some (e,cells))(xs:List Int)(h0:xs≠[])(hn:xs.length≤cells)(h63:xs.length≤9223372036854775807)
  (ir:∀j x,xs[j]?=some x→w.cell? ((⟨g,0,none⟩:Addr).add j)=some (.int .u8 x)):
  ∃st,(Builtin.unsafeString_ #[pt,it] ty #[.pointer (some ⟨g,0,none⟩), .int .i64 xs.length]).run P w= .ok (.string st) (w.freeze ⟨g,0,none⟩ xs.length)∧bytesOf st=xs.map byte:=by
 have hl:xs.length≠0:=(by simpa using h0);obtain⟨st,Iu,nw⟩:=Ah (P:=P) (w:=w) xs ⟨g,0,none⟩ .empty ir;refine⟨st, ?_,by rw[nw];simp[bytesOf]⟩;have Q2:=Lib.liesAt_bytes (P:=P) hc (cells/P.cellsOf e) xs.length (by rw[hc];simpa using hn);have To:¬ (9223372036854775807:Int)<(xs.length:Int):=(by omega)
 have Si:Builtin.unsafeString_ #[pt,it] ty #[.pointer (some ⟨g,0,none⟩), .int .i64 xs.length]=
   (do
    let n←Go.asInt (.int .i64 xs.length)
    if n<0 then runtimePanic (.error "unsafe.String: len out of range")
    if n>i64.max then unsupported (.unsafePointer "String: a length above the largest int")
    if n=0 then pure (.string .empty)
    else if←variablesAt ⟨g,0,none⟩ (←elemOf pt) n.toNat then do
     let s←loadBytes ⟨g,0,none⟩ .empty n.toNat
     freeze ⟨g,0,none⟩ n.toNat
     pure (.string s)
    else unsupported (.unsafePointer "String: not so many bytes at ptr")):=rfl
 rw[Si];have Oa:i64.max=9223372036854775807:=rfl;have tL:¬ (xs.length:Int)<0:=(by omega);simp[Go.asInt,asIntOf,Oa,To,tL,hl,variablesAt,Rg,elemOf,run_underlying hp,Q2,Iu]
structure Read (ax:Rd)(w:World)(nb:List Nat)(w':World):Prop where
 other:∀b,b<w.heap.size→b∉nb→w'.heap[b]?=w.heap[b]?
 size:w.heap.size≤w'.heap.size
 os:w'.os=w.os
 tape:w'.tape=w.tape
 output:w'.output=w.output
theorem Read.after {ax:Rd}{w w':World}{nb:List Nat}(h:Read ax w nb w')(hn:∀y∈nb,ax y=none∧y<w.heap.size)(hc:∀b L,ax b=some L→∃arr ty fr,w.heap[b]?=some (.cells arr ty fr)∧arr.toList=L):After ax w nb ax w' []:=
 ⟨fun _ _ h=>h,fun b L k=>by
  obtain⟨a,t,f,k1,k2⟩:=hc b L k;refine⟨a,t,f, ?_,k2⟩;rw[h.other b (lt_of_heap k1) fun hm=>by rw[(hn b hm).1]at k;cases k]
  exact k1,fun b h1 h2 h3=>⟨h.other b h1 h2,h3⟩,WM,(fun b hb=>by simp at hb),h.size,h.os,h.tape,h.output,fun b L k=>by
  obtain⟨a,t,f,k1,k2⟩:=hc b L k
  exact h.other b (lt_of_heap k1) fun hm=>by rw[(hn b hm).1]at k;cases k⟩
theorem Read.drew (ax:Rd)(w:World)(nb:List Nat):Read ax w nb w.drew:=⟨fun _ _ _=>rfl,Wp _,rfl,rfl,rfl⟩
theorem Read.Ic (ax:Rd)(w:World)(nb:List Nat)(o:Go.Obj):Read ax w nb (w.drew.alloc o):=
 ⟨fun b h _=>by
  show(w.heap.push _)[b]?=_
  rw[Array.getElem?_push,Wz (by omega)],by show _≤(w.heap.push _).size;simp,rfl,rfl,rfl⟩
theorem Read.freeze {ax:Rd}{w:World}{nb:List Nat}{g:Nat}(hg:g∈nb)(n:Nat):Read ax w nb (w.drew.freeze ⟨g,0,none⟩ n):=by
 unfold World.freeze;split
 ·exact Read.drew ax w nb
 ·refine⟨fun b _ hb=> ?_,by simp,rfl,rfl,rfl⟩;simp only[Array.getElem?_modify];rw[Wz (fun e:g=b=>hb (e ▸ hg))];rfl
set_option maxHeartbeats 2000000 in
set_option maxRecDepth 100000 in
theorem string {ax:Rd}{b o ty:Nat}{arr:Array Value}{w:World}{xs:List Int}{nb:List Nat}(ha:w.heap[b]?=some (.cells arr ty (0,0)))(hle:o+2≤arr.size)
  (hB:lU ax w (b,o) xs ((arr.toList.drop o).take 2) nb) (mN:xs.length≤1099511627776):
  Calls Tryz.prog 30 #[.pointer (some ⟨b,o,none⟩)] w fun e w'=>∃st,e= .returned (.string st)∧bytesOf st=xs.map byte∧Read ax w nb w':=by
 obtain⟨u,hu,hO,Gp⟩:∃u,arr[o+1]?=some u∧OwnAt ax w false (.int .u8) xs [u] nb∧∀b∈nb,∃arr,w.heap[b]?=some (.cells arr jb (0,0)):=by
  rcases hB with⟨h1,h2,h3⟩|⟨u2,h1,h2,h3⟩
  ·exact⟨_,(iX h1).2, .inl ⟨rfl,h2,h3⟩,fun y hy=>by rw[h3]at hy;simp at hy⟩
  ·exact⟨_,(iX h1).2,h2,h3⟩
 have hd:w.drew.heap[b]?=some (.cells arr ty (0,0)):=ha
 have c1:w.drew.cell? ⟨b,o+1,none⟩=some u:=by rw[Lib.cell_of_heap hd];exact hu
 have c0:w.cell? ⟨b,o+1,none⟩=some u:=c1
 have hnone:∀(W:World) (q:Option Addr),(Builtin.unsafeString_ #[101,3] 9 #[.pointer q, .int .i64 0]).run Tryz.prog W= .ok (.string .empty) W:=fun W q=>Lib.run_unsafeString_none W _ _ _ q
 rcases hO with⟨h1,rfl,_⟩|⟨g,cap,l8,A5,fV,h1,h2,h3,h4,h5,h6⟩
 ·injection h1 with h1 _
  subst h1;have Ts:(Builtin.unsafeSliceData_ #[45] 101 #[.slice none 0 0]).run Tryz.prog w.drew= .ok (.pointer none) w.drew:=rfl;have fin:=Read.drew ax w nb;clear hB Gp
  go_enter Tryz.func30,Tryz.ntmps30
  go_wp2
  go_region
  all_goals (go_wp2;go_ret;exact⟨_,rfl,rfl,fin⟩)
 ·injection h1 with h1 _
  subst h1
  have hg:g∈nb:=by rw[h2];simp
  obtain⟨Tf,k1⟩:=Gp g hg;rw[h3]at k1
  injection k1 with k1;injection k1 with _ k2
  subst k2
  have Oz:l8.size=cap:=by simpa[Ty.size]using h5
  have IL:w.drew.heap[g]?=some (.cells l8 jb (0,0)):=h3
  by_cases hx:xs=[]
  ·subst hx
   by_cases O0:cap=0
   ·subst O0
    have Ts:(Builtin.unsafeSliceData_ #[45] 101 #[.slice (some ⟨g,0,none⟩) 0 0]).run Tryz.prog w.drew= .ok (.pointer (some ⟨w.drew.heap.size,0,none⟩)) (w.drew.alloc (.view ⟨g,0,none⟩ 5)):=
     Lib.run_unsafeSliceData_zero w.drew _ _ 5 (by kernel_rfl) ⟨g,0,none⟩ 0 (5,l8.size) (by simp[World.shape?,IL,jb])
    have c2:(w.drew.alloc (.view ⟨g,0,none⟩ 5)).cell? ⟨b,o+1,none⟩=some (.slice (some ⟨g,0,none⟩) 0 0):=by
     have:(w.drew.alloc (.view ⟨g,0,none⟩ 5)).heap[b]?=some (.cells arr ty (0,0)):=(Lib.alloc_old w.drew _ b (lt_of_heap ha)).trans ha;rw[Lib.cell_of_heap this];exact hu
    have c3:(w.alloc (.view ⟨g,0,none⟩ 5)).drew.cell? ⟨b,o+1,none⟩=some (.slice (some ⟨g,0,none⟩) 0 0):=c2;have fin:=Read.Ic ax w nb (.view ⟨g,0,none⟩ 5);clear hB Gp
    go_enter Tryz.func30,Tryz.ntmps30
    go_wp2
    go_region
    all_goals (go_wp2;go_ret;exact⟨_,rfl,rfl,fin⟩)
   ·have Ts:(Builtin.unsafeSliceData_ #[45] 101 #[.slice (some ⟨g,0,none⟩) 0 cap]).run Tryz.prog w.drew= .ok (.pointer (some ⟨g,0,none⟩)) w.drew:=
     Lib.run_unsafeSliceData_row _ _ _ _ _ _ O0
    have fin:=Read.drew ax w nb;clear hB Gp O0
    go_enter Tryz.func30,Tryz.ntmps30
    go_wp2
    go_region
    all_goals (go_wp2;go_ret;exact⟨_,rfl,rfl,fin⟩)
  ·have lR:0<xs.length:=List.length_pos_iff.2 hx
   have Ts:(Builtin.unsafeSliceData_ #[45] 101 #[.slice (some ⟨g,0,none⟩) xs.length cap]).run Tryz.prog w.drew= .ok (.pointer (some ⟨g,0,none⟩)) w.drew:=
    Lib.run_unsafeSliceData_row _ _ _ _ _ _ (by omega)
   obtain⟨st,hUS,nw⟩:=Bo (P:=Tryz.prog) (w:=w.drew) 101 3 9 5 (by kernel_rfl) (by kernel_rfl) g l8.size (by simp[World.shape?,IL,jb]) xs hx (by omega) (by omega) (fun j x hj=>by
    obtain⟨Hr,rfl⟩:=List.getElem?_eq_some_iff.1 hj;rw[Addr.add_lit]
    exact xj IL h6.1 j Hr)
   have fin:Read ax w nb (w.drew.freeze ⟨g,0,none⟩ xs.length):=Read.freeze hg _;clear hB Gp hx
   go_enter Tryz.func30,Tryz.ntmps30
   go_wp2
   go_region
   all_goals (go_wp2;go_ret;exact⟨_,rfl,nw,fin⟩)
end Go.Abs.Bld
end

section
set_option maxRecDepth 100000
namespace Go.Abs.Bld
open Go.Proofs
theorem Aw {ρ:Type}{n:Nat}{x y:ρ}(h:(bif fits n then some x else none)=some y):n≤1099511627776∧x=y:=by
 cases e:fits n with
 |false=>rw[e]at h;cases h
 |true=>rw[e]at h;injection h with h;exact⟨Wr e,h⟩
theorem En {ax:Rd}{w w':World}{b o ty:Nat}{arr:Array Value}{nb:List Nat}{xs:List Int}(ha:w.heap[b]?=some (.cells arr ty (0,0)))(hle:o+2≤arr.size)(h:Written ax w b o ty arr nb xs w'):
  ∃fV,After ax w (b::nb) ax w' (b::fV)∧mM ax w w' (.ptr false (0,places) .nR) xs (0,0) [.pointer (some ⟨b,o,none⟩)] [.pointer (some ⟨b,o,none⟩)] (b::fV):=by
 obtain⟨fV,l8,v,A,h1,h2,h3,h4⟩:=h;refine⟨fV,A,b,o,arr,ty,l8,[.pointer (some ⟨b,o,none⟩),v],fV,rfl,rfl,rfl,ha,h1,h2,hle,rfl, .inr ⟨v,rfl,h3,h4⟩⟩
theorem CJ (cd:Nat→Option (List Cell)):jC Tryz.prog cd 155 ⟨⟨[bp, .one (.cf (.int .u8))], .val (.one .err)⟩,gT⟩:=by
 intro x y hF ax w args nb hG hc hP hn hi;obtain⟨mN,rfl⟩:=Aw hF;obtain⟨u1,r1,n1,n2,rfl,rfl,⟨_,b,o,arr,ty,fV,e1,rfl,ha,hw,hle,hB⟩,u2,r2,n3,n4,rfl,rfl,⟨_,rfl,_,u3,e2,h3⟩,rfl,rfl⟩:=hP
 injection e1 with e1 _
 injection e2 with e2 _
 subst e1;subst e2;have h3:[_]=[_]:=h3
 injection h3 with h3 _
 subst h3;simp only[Wv]at hn hi;refine b8 Tryz.func155 rfl (by kernel_rfl) ((H9 x.2.1 ha hle (hw.2 rfl) hB hn hi hc mN).mono ?_);rintro e w' ⟨rfl,hW⟩;obtain⟨QK,A,TD⟩:=En ha hle hW;refine⟨_,rfl,ax,[],b::QK,by simpa using A,⟨rfl,rfl,_,rfl, .inl ⟨rfl,rfl⟩⟩,_,_,b::QK,[],rfl,by simp,TD,_,_,[],[],rfl,rfl,rfl,rfl,rfl⟩
theorem zG (cd:Nat→Option (List Cell)):jC Tryz.prog cd 63 ⟨⟨[bp, .one (.cf .str)], .vi [.one (.cf (.int .i64)), .one .err]⟩,fJ⟩:=by
 intro x y hF ax w args nb hG hc hP hn hi;obtain⟨mN,rfl⟩:=Aw hF;obtain⟨u1,r1,n1,n2,rfl,rfl,⟨_,b,o,arr,ty,fV,e1,rfl,ha,hw,hle,hB⟩,u2,r2,n3,n4,rfl,rfl,⟨_,rfl,_,u3,e2,s,h3,h4⟩,rfl,rfl⟩:=hP
 injection e1 with e1 _
 injection e2 with e2 _
 subst e1;subst e2
 injection h3 with h3 _
 subst h3;simp only[Wv]at hn hi;have KY:x.2.1=bytesOf s:=h4;refine b8 Tryz.func63 rfl (by kernel_rfl) ((writeString s ha hle (hw.2 rfl) hB hn hi hc (by rw[←KY];exact mN)).mono ?_);rintro e w' ⟨rfl,hW⟩;rw[←KY]at hW;obtain⟨QK,A,TD⟩:=En ha hle hW;refine⟨_,rfl,ax,[],b::QK,by simpa using A,⟨[_,_],rfl,_,_,[],[],rfl,rfl,⟨rfl,rfl,rfl,_,rfl, ?_⟩,_,_,[],[],rfl,rfl,⟨rfl,rfl,_,rfl, .inl ⟨rfl,rfl⟩⟩,rfl,rfl⟩,_,_,b::QK,[],rfl,by simp,TD,_,_,[],[],rfl,rfl,rfl,rfl,rfl⟩;show [_]=[_];rw[←cR,←KY]
theorem HK (cd:Nat→Option (List Cell)):jC Tryz.prog cd 30 ⟨⟨[.one (.vj places)], .val (.one (.cf .str))⟩,pP⟩:=by
 intro x y hF ax w args nb hG hc hP hn hi;obtain⟨mN,rfl⟩:=Aw hF;obtain⟨u1,r1,n1,n2,rfl,rfl,⟨_,b,o,arr,ty,e1,ha,cE,hle,hB⟩,rfl,rfl⟩:=hP
 injection e1 with e1 _
 subst e1;simp only[Wv]at hn hi;refine b8 Tryz.func30 rfl (by kernel_rfl) ((string ha hle hB mN).mono ?_);rintro e w' ⟨st,rfl,nw,hR⟩;refine⟨_,rfl,ax,[],[], ?_,⟨rfl,rfl,rfl,_,rfl,st,rfl,nw.symm⟩,_,_,[],[],rfl,rfl,rfl,rfl,rfl⟩;rw[Wv];exact hR.after hi hc
end Go.Abs.Bld
end

section
set_option maxRecDepth 100000
namespace Go.Abs.Bld
open Go.Proofs
theorem NF {ax:Rd}{b o ty:Nat}{arr:Array Value}{w:World}{xs:List Int}{nb:List Nat}(ha:w.heap[b]?=some (.cells arr ty (0,0)))(hle:o+2≤arr.size)
  (hB:lU ax w (b,o) xs ((arr.toList.drop o).take 2) nb):
  Calls Tryz.prog 29 #[.pointer (some ⟨b,o,none⟩)] w fun e w'=>e= .returned (.int .i64 xs.length)∧w'=w:=by
 obtain⟨u,hu,hO⟩:∃u,arr[o+1]?=some u∧OwnAt ax w false (.int .u8) xs [u] nb:=by
  rcases hB with⟨h1,h2,h3⟩|⟨u2,h1,h2,h3⟩
  ·exact⟨_,(iX h1).2, .inl ⟨rfl,h2,h3⟩⟩
  ·exact⟨_,(iX h1).2,h2⟩
 have c0:w.cell? ⟨b,o+1,none⟩=some u:=by rw[Lib.cell_of_heap ha];exact hu
 have key:∃A c,u= .slice A xs.length c:=by
  rcases hO with⟨h1,rfl,_⟩|⟨g,cap,l8,A5,fV,h1,_⟩
  ·injection h1 with h1 _
   exact⟨none,0,h1⟩
  ·injection h1 with h1 _
   exact⟨_,cap,h1⟩
 obtain⟨A,c,rfl⟩:=key;clear hB hO hu
 go_enter Tryz.func29,Tryz.ntmps29
 go_wp2
 go_ret
 exact⟨rfl,rfl⟩
theorem FR {ax:Rd}{w:World}{nb:List Nat}(hn:nb.Nodup)(hi:∀y∈nb,ax y=none∧y<w.heap.size)(hc:∀b L,ax b=some L→∃arr ty fr,w.heap[b]?=some (.cells arr ty fr)∧arr.toList=L):After ax w nb ax w nb:=by
 refine⟨fun _ _ h=>h,hc,fun b _ _ h=>⟨rfl,h⟩,hn,fun b hb=>⟨(hi b hb).1, .inl hb,(hi b hb).2⟩,Wp _,rfl,rfl,rfl,fun _ _ _=>rfl⟩
theorem NI (cd:Nat→Option (List Cell)):jC Tryz.prog cd 29 ⟨⟨[bp], .val (.one (.cf (.int .i64)))⟩,Ih⟩:=by
 intro x y hF ax w args nb hG hc hP hn hi;have hF:Ih x=some y:=hF;unfold Ih at hF
 injection hF with hF
 subst hF;obtain⟨u1,r1,n1,n2,rfl,rfl,⟨_,b,o,arr,ty,fV,e1,rfl,ha,hw,hle,hB⟩,rfl,rfl⟩:=hP
 injection e1 with e1 _
 subst e1;simp only[Wv]at hn hi;refine b8 Tryz.func29 rfl (by kernel_rfl) ((NF ha hle hB).mono ?_);rintro e w' ⟨rfl,rfl⟩;have Gt:o+2≤arr.size:=hle
 have hlen:((arr.toList.drop o).take 2).length=2:=by
  simp only[WA,WN,Array.length_toList];omega
 refine⟨_,rfl,ax,[],b::fV,by simpa using FR hn hi hc,⟨rfl,rfl,rfl,_,rfl,rfl⟩,_,_,b::fV,[],rfl,by simp,⟨b,o,arr,ty,arr,(arr.toList.drop o).take 2,fV,rfl,rfl,rfl,ha,ha, ?_, ?_,hlen,hB⟩,rfl,rfl⟩
 ·rw[hlen];have:arr.toList.drop o=(arr.toList.drop o).take 2++arr.toList.drop (o+2):=(by rw[←List.drop_drop,List.take_append_drop])
  conv=>lhs;rw[←List.take_append_drop o arr.toList,this]
  rw[V7]
 ·rw[hlen];simpa using hle
end Go.Abs.Bld
end

section
set_option maxRecDepth 100000
namespace Go.Abs.Bld
open Go.Proofs
theorem E0 {l:List UInt8}{c:UInt8}:∀(m:List UInt8)(k:Nat),l=l.take k++m→k≤l.length→(match(List.range' k m.length).find? fun i=>l.getD i 0==c with|some i=>(i:Int)|none=> -1)=idx (m.map fun b=>(b.toNat:Int)) (c.toNat:Int) k
 |[],k,_,_=>rfl
 |x::m,k,h,hk=>by
  have hx:l.getD k 0=x:=by
   rw[Wm,h,List.getElem?_append_right (by simp;omega)];simp[Nat.min_eq_left hk]
  have hlen:l.length=k+(m.length+1):=by
   have:=congrArg List.length h;simp only[VZ,WA,V0]at this;omega
  have ih:=E0 (l:=l) (c:=c) m (k+1) (by
   have h':l=l.take k++[x]++m:=by rw[V7];exact h
   have h2:l.take (k+1)=l.take k++[x]:=by
    conv=>lhs;rw[h']
    rw[List.take_left'];simp[Nat.min_eq_left hk]
   rw[h2];exact h') (by omega)
  rw[V0,List.range'_succ,List.find?_cons,hx];simp only[List.map_cons,idx]
  by_cases e:x=c
  ·subst e;simp
  ·have e1:(x==c)=false:=(by simpa using e)
   have e2:decide ((x.toNat:Int)=(c.toNat:Int))=false:=by
    simp only[V8];intro h'
    apply e
    have:x.toNat=c.toNat:=(by omega);exact UInt8.toNat_inj.1 this
   rw[e1,e2];simp only[Wb];rw[ih]
   push_cast
   rfl
theorem D5 (s:ByteArray)(c:Int):firstIdx s c.toNat.toUInt8=idx (bytesOf s) (byte c) 0:=by
 have h:=E0 (l:=s.data.toList) (c:=c.toNat.toUInt8) s.data.toList 0 (by simp) (WQ _)
 have hc:((c.toNat.toUInt8).toNat:Int)=byte c:=by
  unfold byte;rw[UInt8.toNat_ofNat']
 rw[hc]at h;have hb:(s.data.toList.map fun b=>(b.toNat:Int))=bytesOf s:=rfl;rw[hb]at h;refine Eq.trans ?_ h;unfold firstIdx
 have iE:s.size=s.data.toList.length:=by
  rw[Array.length_toList];rfl
 rw[iE,List.range_eq_range']
 have:∀i,s[i]! =s.data.toList.getD i 0:=fun i=>by
  by_cases h:i<s.size
  ·rw[getElem!_pos s i h]
   have h':i<s.data.toList.length:=by rw[←iE];exact h
   rw[Wm,Wl h',Option.getD_some];rfl
  ·rw[getElem!_neg s i h]
   have h':s.data.toList.length≤i:=by rw[←iE];omega
   rw[Wm,List.getElem?_eq_none h'];rfl
 simp only[this];split<;>rename_i e<;>rw[e]
theorem CQ (cd:Nat→Option (List Cell)):jC Tryz.prog cd 235 ⟨⟨[.one (.cf .str), .one (.cf (.int .u8))], .val (.one (.cf (.int .i64)))⟩,oN⟩:=
 HN (ts:=[.str, .int .u8]) (τ:= .int .i64) rfl rfl fun x y hF w us hA=>by
  injection hF with hF
  subst hF;obtain⟨u1,r1,rfl,⟨s,rfl,hs⟩,u2,r2,rfl,h2,h3⟩:=hA;have h2:_=_:=h2;have h3:_=_:=h3;subst h2;subst h3;have hs:x.1=bytesOf s:=hs;unfold eS;rw[run_callFunc_extern Tryz.func235 (by kernel_rfl) (by kernel_rfl) (by kernel_rfl) (e:=Extern.BytealgIndexByte.indexByte) (by kernel_rfl),run_indexByte_string];refine⟨Same.refl w, ?_⟩;show _=Value.int .i64 (idx x.1 (byte x.2.1) 0);rw[D5,hs]
end Go.Abs.Bld
end
