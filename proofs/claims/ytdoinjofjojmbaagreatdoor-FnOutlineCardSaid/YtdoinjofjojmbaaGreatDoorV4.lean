/- What is here: what strings.Builder's functions and IndexByte answer, as plain functions. -/
import Derived.Test.YtdoinjofjojmbaaGreatDoorV3
import Derived.Lib.ParseIntB
import Derived.Lib.ItoaNum
import Derived.Lib.LaidTab
import Derived.Shelf.Strconv.Itoa4
import Derived.Test.YtdoinjofjojmbaaGreatDoorProg
import Derived.Test.YtdoinjofjojmbaaGreatDoorRows
import Derived.Test.YtdoinjofjojmbaaGreatDoorTie
import Derived.Lib.Builder
import Derived.Lib.Walk
import Derived.Lib.Slices
import Derived.Lib.Strings
import Derived.WalkKit
import Derived.Laws.Externs
set_option linter.all false
set_option maxRecDepth 100000
open Go.IntKind (i64 u64 u8)
open Bool renaming and_eq_true → aA, false → ar, true → av
open Decidable renaming decide → I
open Go.IntKind renaming i64 → aq, u64 → aH, u8 → aN
open Go.Lib renaming pow10Tab → a50
open Go.Proofs.Tryz renaming func170 → a17, func176 → a52, func32 → a61, func55 → a60, func60 → a15, func72 → a43, prog → aZ
open Go.Result renaming andThen → a74
open List renaming all_eq_true → aW, mem_cons_of_mem → aD, mem_cons_self → aF, replicate → aM
open Nat renaming beq → aw, ble → a10, le_of_ble_eq_true → aP
open Option renaming map_eq_some_iff → bj, none → ay, some → J
open Sum renaming inl → an, inr → aE
section
namespace Go.Abs.Bld
def places:List (Nat×Nat×Nat):=[(57,0,2)]
@[reducible] def bp:VSp:= .one (.ptr ar (0,places) .uY)
def mj (x:List Int×Int×Unit):Option (Bool×List Int×Unit×Unit):=bif fits (x.1.length+1)then J (av,x.1++[x.2.1],(),())else ay
def kA (x:List Int×List Int×Unit):Option ((Int×Bool×Unit)×List Int×Unit×Unit):=bif fits (x.1.length+x.2.1.length)then J ((x.2.1.length,av,()),x.1++x.2.1,(),())else ay
def vD (x:List Int×Unit):Option (List Int×Unit×Unit):=bif fits x.1.length then J (x.1.map byte,(),())else ay
def idx:List Int->Int->Int->Int
 |[],_,_=> -1
 |x::r,c,n=>bif I (x=c)then n else idx r c (n+1)
def uH (x:List Int×Int×Unit):Option (Int×Unit×Unit×Unit):=J (idx x.1 (byte x.2.1) 0,(),(),())
end Go.Abs.Bld
end

section
namespace Go.Abs.Lx
def words:List (List Int):=[[97,110,100],[98,114,101,97,107],[99,97,116,99,104],[99,111,110,115,116],[100,101,102,101,114],[101,108,105,102],[101,108,115,101],[102,97,108,115,101],[102,110],[102,111,114],[105,102],[105,110],[108,101,116],[110,101,120,116],[110,105,108],[110,111,116],[111,114],[114,101,116,117,114,110],[116,104,114,111,119],[116,114,117,101],[116,114,121],[119,104,105,108,101]]
def pC:List (List Int):=[[40],[41],[123],[125],[91],[93],[44],[61],[46],[46,46,46],[35]]
def xz:List (List Int):=[[43],[45],[42],[47],[47,47],[37],[38],[124],[126],[60,60],[62,62],[46,46],[61,61],[126,61],[60],[60,61],[62],[62,61]]
def u8s (l:List Int):List UInt8:=l.map λc=>c.toNat.toUInt8
def ints (l:List UInt8):List Int:=l.map λb=>(b.toNat:Int)
def rh (x:List Int×Int×Int×Unit):Option ((Int×Bool×Unit)×Unit×Unit×Unit×Unit):=
 bif I (x.2.1=10)&&I (x.2.2.1=64)&&fits x.1.length then
  match Lib.parseIntB 64 (u8s x.1)with
  | .ok v=>J ((v,av,()),(),(),(),())
  | .range=>J ((Lib.intSat 64 (u8s x.1),ar,()),(),(),(),())
  |_=>ay
 else ay
def pT (x:Int×Int×Unit):Option (List Int×Unit×Unit×Unit):=
 bif I (x.2.1=10)&&I (-9223372036854775808<=x.1)&&I (x.1<=9223372036854775807)then J (ints (Lib.itoa x.1),(),(),())else ay
def sZ (x:Int×Unit):Option (List Int×Unit×Unit):=
 bif I (-9223372036854775808<=x.1)&&I (x.1<=9223372036854775807)then J (ints (Lib.itoa x.1),(),())else ay
def sY:List (List Int)->List Int->List Int
 |[],_=>[]
 |[x],_=>x
 |x::y::r,s=>x++(s++sY (y::r) s)
def E2 (x:List (List Int)×List Int×Unit):Option (List Int×Unit×Unit×Unit):=
 bif fits x.1.length&&fits (sY x.1 x.2.1).length then J (sY x.1 x.2.1,(),(),())else ay
def Q8:List Cell:=a50.map λz=> .v (.int .u64) z
def tables (k:Nat):Option (List Cell):=bif aw k 0 then J Q8 else bif aw k 8 then J [.err ar]else ay
theorem EU (s:ByteArray):u8s (bytesOf s)=s.data.toList:=by
 unfold u8s bytesOf;rw[List.map_map]
 have:((λc:Int=>c.toNat.toUInt8) ∘ λb:UInt8=>(b.toNat:Int))=id:=by
  funext b
  simp
 rw[this,List.map_id]
end Go.Abs.Lx
end

section
set_option maxRecDepth 100000
namespace Go.Abs.D
open Go.Proofs
abbrev ja:Ty:=(.pr (.int .i64) (.pr (.int .i64) .un))
abbrev eS:Ty:=(.pr .str (.pr (.int .i64) ja))
abbrev cZ:Ty:=(.pr (.int .i64) (.pr (.int .i64) (.pr (.int .i64) (.pr (.int .i64) (.pr (.int .i64) (.pr .str .un))))))
abbrev cR:Ty:=(.pr (.int .i64) (.pr (.int .i64) (.pr (.int .i64) (.pr (.int .i64) (.pr (.int .i64) (.pr (.int .i64) (.pr .str (.pr (.sl .str) (.pr (.sl (.int .i64)) .un)))))))))
abbrev vs0:VSp:= .one (.ptr av (92,[]) (.pr (.fh (.int .i64)) (.pr (.fh (.int .i64)) (.pr (.fh (.int .i64)) (.pr (.fh (.int .i64)) (.pr (.fh (.int .i64)) (.pr (.fh .str) .un)))))))
abbrev vs1:VSp:= .one (.fh (.int .i64))
abbrev vs2:VSp:= .one (.ptr av (106,[]) (.pr (.ptr av (50,[]) (.pr (.fh (.sl (.int .u8))) (.pr (.fh (.int .i64)) (.pr (.fh (.int .u64)) (.pr (.fh (.int .i64)) .un))))) (.pr (.own cR av) (.pr (.fh (.int .i64)) .un))))
abbrev vs3:VSp:= .one (.ptr av (35,[]) (.pr (.fh (.int .i64)) (.pr (.fh (.int .i64)) (.pr (.fh (.int .i64)) (.pr (.fh (.int .i64)) (.pr (.fh (.int .i64)) (.pr (.fh (.int .i64)) (.pr (.fh .str) (.pr (.fh (.sl .str)) (.pr (.fh (.sl (.int .i64))) .un))))))))))
abbrev vs4:VSp:= .one (.ptr av (77,[]) (.pr (.fh (.sl cZ)) (.pr (.fh (.int .i64)) (.pr (.own cR av) .un))))
abbrev vs5:VSp:= .one (.ptr av (109,[]) (.pr (.pr (.fh (.sl cR)) .un) (.pr (.own (.int .u8) av) (.pr (.fh (.int .i64)) .un))))
abbrev vs6:VSp:= .agg (.pr (.fh (.int .i64)) (.pr (.fh (.int .i64)) (.pr (.fh (.int .i64)) (.pr (.fh (.int .i64)) (.pr (.fh (.int .i64)) (.pr (.fh (.int .i64)) (.pr (.fh .str) (.pr (.fh (.sl .str)) (.pr (.fh (.sl (.int .i64))) .un)))))))))
abbrev vs7:VSp:= .one (.ptr av (35,[]) (.pr (.fh (.int .i64)) (.pr (.fh (.int .i64)) (.pr (.fh (.int .i64)) (.pr (.fh (.int .i64)) (.pr (.fh (.int .i64)) (.pr (.fh (.int .i64)) (.pr (.fh .str) (.pr (.own .str av) (.pr (.own (.int .i64) av) .un))))))))))
abbrev vs8:VSp:= .one (.ptr av (25,[]) (.pr (.fh (.sl cR)) .un))
abbrev vs9:VSp:= .one (.fh .str)
abbrev qF:VSp:= .one (.ptr av (45,[]) (.pr (.fh (.int .i64)) (.pr (.fh (.int .i64)) .un)))
abbrev zD:VSp:= .one (.ptr av (50,[]) (.pr (.fh (.sl (.int .u8))) (.pr (.fh (.int .i64)) (.pr (.fh (.int .u64)) (.pr (.fh (.int .i64)) .un)))))
abbrev B7:VSp:= .agg (.pr (.fh (.int .i64)) (.pr (.fh (.int .i64)) (.pr (.fh (.int .i64)) (.pr (.fh (.int .i64)) (.pr (.fh (.int .i64)) (.pr (.fh .str) .un))))))
abbrev dY:VSp:= .one (.fh .bool)
abbrev gX:VSp:= .one (.own (.int .i64) av)
abbrev uV:VSp:= .one (.ptr av (70,[]) (.pr (.own ja av) .un))
abbrev sN:VSp:= .one (.ptr av (3,[]) (.fh (.int .i64)))
abbrev W2:VSp:= .agg (.pr (.fh (.int .i64)) (.pr (.fh (.int .i64)) (.pr (.fh (.int .i64)) (.pr (.fh (.int .i64)) (.pr (.fh (.int .i64)) (.pr (.fh (.int .i64)) (.pr (.fh .str) (.pr (.own .str av) (.pr (.own (.int .i64) av) .un)))))))))
abbrev qI:VSp:= .one (.fh (.sl (.int .i64)))
abbrev u6:VSp:= .one (.own (.int .u8) av)
abbrev AA:VSp:= .agg (.pr (.fh (.sl cR)) .un)
abbrev u7:VSp:= .one (.fh (.int .u64))
abbrev Io:VSp:= .one (.ptr av (2,[]) (.fh (.int .i64)))
abbrev yn:VSp:= .one (.own eS av)
abbrev N7:VSp:= .one (.ptr av (33,[]) (.own (.int .i64) av))
abbrev Az:VSp:= .one (.own cZ av)
abbrev PS:VSp:= .one (.ptr av (33,[]) (.fh (.sl (.int .i64))))
abbrev LN:VSp:= .one (.ptr av (9,[]) (.fh .str))
abbrev BX:VSp:= .one (.own .str av)
abbrev Et:VSp:= .one (.fh (.int .u8))
abbrev Il:VSp:= .one (.fh (.sl cR))
abbrev U8:VSp:= .one (.ptr av (30,[]) (.own eS av))
abbrev SB:VSp:= .one (.ptr av (57,[]) .uY)
abbrev U6:VSp:= .one (.fh (.sl (.int .u8)))
abbrev Su:VSp:= .one (.fh (.sl .str))
abbrev ak1:VSp:= .agg (.pr (.fh (.int .i64)) (.pr (.fh (.int .i64)) .un))
abbrev ai6:VSp:= .one (.ptr av (25,[]) (.pr (.own cR av) .un))
abbrev WZ:VSp:= .one (.fh (.int .i32))
abbrev aj6:VSp:= .agg (.pr (.own cR av) .un)
abbrev PN:VSp:= .one .err
def sig (f:Nat):Sig:=
 bif aw f 101 then⟨[zD], .val vs1⟩else
 bif aw f 54 then⟨[zD,vs1], .val vs1⟩else
 bif aw f 106 then⟨[vs2,W2], .val vs1⟩else
 bif aw f 160 then⟨[zD], .val vs1⟩else
 bif aw f 168 then⟨[zD,vs1], .val vs9⟩else
 bif aw f 161 then⟨[zD], .val vs9⟩else
 bif aw f 145 then⟨[vs2], .val vs9⟩else
 bif aw f 146 then⟨[vs2], .val vs1⟩else
 bif aw f 103 then⟨[vs2,vs1,gX], .val vs1⟩else
 bif aw f 147 then⟨[vs2,vs1], .val vs1⟩else
 bif aw f 104 then⟨[vs2,vs1], .val BX⟩else
 bif aw f 111 then⟨[vs2,vs1], .val vs1⟩else
 bif aw f 108 then⟨[vs2,vs1], .val vs1⟩else
 bif aw f 107 then⟨[vs2,vs1], .val vs1⟩else
 bif aw f 144 then⟨[vs2,vs1], .val vs1⟩else
 bif aw f 105 then⟨[vs2,vs1,vs1], .val gX⟩else
 bif aw f 102 then⟨[vs2,vs1], .val vs1⟩else
 bif aw f 109 then⟨[vs2,vs1], .val vs1⟩else
 bif aw f 110 then⟨[vs2,vs1], .val vs1⟩else
 bif aw f 55 then⟨[vs2,vs1], .val vs1⟩else
 bif aw f 29 then⟨[zD], .val aj6⟩else
 bif aw f 51 then⟨[vs1], .val dY⟩else
 bif aw f 94 then⟨[AA,vs6,vs1], .val vs1⟩else
 bif aw f 95 then⟨[vs6,dY,dY,dY,dY], .val dY⟩else
 bif aw f 69 then⟨[Et], .val dY⟩else
 bif aw f 68 then⟨[vs9,vs1], .val Et⟩else
 bif aw f 71 then⟨[Et], .val dY⟩else
 bif aw f 133 then⟨[], .val BX⟩else
 bif aw f 70 then⟨[vs9,B7], .yc [B7,vs1]⟩else
 bif aw f 135 then⟨[Et], .val vs1⟩else
 bif aw f 134 then⟨[vs9,B7], .yc [B7,vs1]⟩else
 bif aw f 72 then⟨[vs9,B7], .yc [B7,vs1]⟩else
 bif aw f 73 then⟨[vs9,B7], .yc [B7,vs1]⟩else
 bif aw f 74 then⟨[], .val BX⟩else
 bif aw f 75 then⟨[vs9], .val vs1⟩else
 bif aw f 43 then⟨[vs9,vs1], .yc [B7,vs1]⟩else
 bif aw f 100 then⟨[vs9], .val dY⟩else
 bif aw f 96 then⟨[vs6,vs1,vs1], .val dY⟩else
 bif aw f 143 then⟨[vs1], .val dY⟩else
 bif aw f 97 then⟨[AA,vs6,vs1,vs1], .val dY⟩else
 bif aw f 98 then⟨[vs1], .val dY⟩else
 bif aw f 52 then⟨[AA,vs6], .val dY⟩else
 bif aw f 99 then⟨[vs9], .val dY⟩else
 bif aw f 53 then⟨[AA,vs6], .val dY⟩else
 bif aw f 27 then⟨[AA,vs1], .val dY⟩else
 bif aw f 28 then⟨[AA], .val gX⟩else
 bif aw f 12 then⟨[AA], .val ak1⟩else
 bif aw f 59 then⟨[vs5,vs9], .none⟩else
 bif aw f 148 then⟨[vs5], .none⟩else
 bif aw f 112 then⟨[vs5,vs1], .none⟩else
 bif aw f 113 then⟨[vs5,Su], .none⟩else
 bif aw f 142 then⟨[vs1], .yc [vs1,vs1]⟩else
 bif aw f 149 then⟨[vs6], .val vs1⟩else
 bif aw f 162 then⟨[vs6], .val vs1⟩else
 bif aw f 150 then⟨[vs5,vs6,vs9,vs1], .none⟩else
 bif aw f 136 then⟨[vs1], .val vs9⟩else
 bif aw f 151 then⟨[vs5,vs6], .none⟩else
 bif aw f 163 then⟨[vs1], .val dY⟩else
 bif aw f 152 then⟨[vs5,vs1], .none⟩else
 bif aw f 153 then⟨[vs5,vs6], .none⟩else
 bif aw f 116 then⟨[vs5,vs1], .none⟩else
 bif aw f 39 then⟨[vs1], .val vs9⟩else
 bif aw f 164 then⟨[vs1], .val vs9⟩else
 bif aw f 40 then⟨[vs9], .val vs9⟩else
 bif aw f 154 then⟨[vs5,vs6], .none⟩else
 bif aw f 115 then⟨[vs5,vs1,vs1], .none⟩else
 bif aw f 114 then⟨[vs5,qI], .none⟩else
 bif aw f 117 then⟨[vs5,vs6,vs9], .none⟩else
 bif aw f 58 then⟨[vs5,vs1], .none⟩else
 bif aw f 31 then⟨[AA], .val vs9⟩else
 bif aw f 47 then⟨[uV,vs1,vs1], .val vs1⟩else
 bif aw f 41 then⟨[uV], .val vs1⟩else
 bif aw f 42 then⟨[vs9,vs1], .val vs1⟩else
 bif aw f 77 then⟨[gX], .val gX⟩else
 bif aw f 78 then⟨[vs1], .yc [gX,dY]⟩else
 bif aw f 137 then⟨[vs1], .val dY⟩else
 bif aw f 79 then⟨[vs1], .val dY⟩else
 bif aw f 138 then⟨[vs1,vs1,vs1], .val gX⟩else
 bif aw f 80 then⟨[vs1,vs1], .yc [gX,dY]⟩else
 bif aw f 139 then⟨[vs1], .yc [gX,dY]⟩else
 bif aw f 140 then⟨[vs1], .val dY⟩else
 bif aw f 81 then⟨[vs1,vs1], .yc [gX,dY]⟩else
 bif aw f 46 then⟨[vs1,vs1], .yc [gX,dY]⟩else
 bif aw f 25 then⟨[uV,vs1,vs1], .yc [vs1,dY]⟩else
 bif aw f 45 then⟨[uV,vs1], .val gX⟩else
 bif aw f 76 then⟨[qI,vs9], .val dY⟩else
 bif aw f 44 then⟨[vs9,vs1,qI], .val vs1⟩else
 bif aw f 24 then⟨[uV,vs9], .yc [Az,vs1,vs1]⟩else
 bif aw f 10 then⟨[vs9], .yc [Az,vs1]⟩else
 bif aw f 56 then⟨[vs1], .val dY⟩else
 bif aw f 57 then⟨[zD], .val vs9⟩else
 bif aw f 30 then⟨[zD,vs9], .val vs9⟩else
 bif aw f 13 then⟨[zD], .val vs9⟩else
 bif aw f 5 then⟨[U6], .val vs9⟩else
 bif aw f 48 then⟨[vs4], .val vs1⟩else
 bif aw f 49 then⟨[vs4,vs1], .val dY⟩else
 bif aw f 84 then⟨[vs4], .val B7⟩else
 bif aw f 85 then⟨[vs1,B7], .val W2⟩else
 bif aw f 88 then⟨[vs4,W2], .val vs1⟩else
 bif aw f 82 then⟨[vs4], .val vs1⟩else
 bif aw f 158 then⟨[vs1], .val vs1⟩else
 bif aw f 90 then⟨[vs4,W2], .val vs1⟩else
 bif aw f 159 then⟨[vs4], .val vs1⟩else
 bif aw f 141 then⟨[vs4], .val vs1⟩else
 bif aw f 89 then⟨[vs4,vs1], .val vs1⟩else
 bif aw f 87 then⟨[vs4], .val gX⟩else
 bif aw f 93 then⟨[vs4], .val vs1⟩else
 bif aw f 83 then⟨[vs4], .val vs1⟩else
 bif aw f 86 then⟨[vs4], .val BX⟩else
 bif aw f 91 then⟨[vs4,B7], .val vs1⟩else
 bif aw f 92 then⟨[vs4,B7], .val vs1⟩else
 bif aw f 50 then⟨[vs4], .val vs1⟩else
 bif aw f 26 then⟨[vs4,vs1], .val gX⟩else
 bif aw f 11 then⟨[vs9, .one (.fh (.sl cZ))], .val aj6⟩else
 bif aw f 4 then⟨[vs9], .val (.agg (.pr (.fh (.int .i64)) (.pr (.fh (.int .i64)) (.pr (.pr (.own cR av) .un) .un))))⟩else
 bif aw f 118 then⟨[vs1,vs1,vs1], .val dY⟩else
 bif aw f 165 then⟨[Et], .val dY⟩else
 bif aw f 166 then⟨[Et], .val dY⟩else
 bif aw f 169 then⟨[vs9], .val vs1⟩else
 bif aw f 171 then⟨[Et], .val dY⟩else
 bif aw f 180 then⟨[Et], .val Et⟩else
 bif aw f 181 then⟨[vs9], .val dY⟩else
 bif aw f 176 then⟨[vs9,vs1,vs1], .yc [u7,PN]⟩else
 bif aw f 172 then⟨[vs9,vs1,vs1], .yc [u7,PN]⟩else
 bif aw f 170 then⟨[vs9,vs1], .yc [B7,dY]⟩else
 bif aw f 65 then⟨[vs9,Et], .val vs1⟩else
 bif aw f 36 then⟨[vs9,Et], .val vs1⟩else
 bif aw f 173 then⟨[vs1], .val vs9⟩else
 bif aw f 178 then⟨[vs9,vs9], .val dY⟩else
 bif aw f 174 then⟨[vs9,vs9], .val dY⟩else
 bif aw f 167 then⟨[vs9,vs1], .yc [B7,dY]⟩else
 bif aw f 155 then⟨[vs9,vs1], .val dY⟩else
 bif aw f 119 then⟨[vs9], .val dY⟩else
 bif aw f 124 then⟨[vs1], .val dY⟩else
 bif aw f 122 then⟨[dY,dY,dY,dY,sN,sN,Io,LN], .val dY⟩else
 bif aw f 121 then⟨[vs1], .val dY⟩else
 bif aw f 120 then⟨[vs1,vs1,PS], .val dY⟩else
 bif aw f 125 then⟨[vs9], .val dY⟩else
 bif aw f 123 then⟨[sN,PS], .val dY⟩else
 bif aw f 60 then⟨[AA,vs1], .val dY⟩else
 bif aw f 32 then⟨[AA], .val ak1⟩else
 bif aw f 14 then⟨[AA], .val dY⟩else
 bif aw f 15 then⟨[vs1,vs1,vs9,vs8,U8, .one (.slf 15 3)], .none⟩else
 bif aw f 6 then⟨[AA], .val yn⟩else
 bif aw f 16 then⟨[AA,vs1,vs9,vs1], .val yn⟩else
 bif aw f 7 then⟨[AA], .val yn⟩else
 bif aw f 19 then⟨[vs9], .val vs9⟩else
 bif aw f 8 then⟨[AA], .val vs9⟩else
 bif aw f 23 then⟨[vs6], .val vs9⟩else
 bif aw f 9 then⟨[AA], .val vs9⟩else
 bif aw f 3 then⟨[U6], .val dY⟩else
 ⟨[], .none⟩
def fns:List Nat:=[101,54,106,160,168,161,145,146,103,147,104,111,108,107,144,105,102,109,110,55,29,51,94,95,69,68,71,133,70,135,134,72,73,74,75,43,100,96,143,97,98,52,99,53,27,28,12,59,148,112,113,142,149,162,150,136,151,163,152,153,116,39,164,40,154,115,114,117,58,31,47,41,42,77,78,137,79,138,80,139,140,81,46,25,45,76,44,24,10,56,57,30,13,5,48,49,84,85,88,82,158,90,159,141,89,87,93,83,86,91,92,50,26,11,4,118,165,166,169,171,180,181,176,172,170,65,36,173,178,174,167,155,119,124,122,121,120,125,123,60,32,14,15,6,16,7,19,8,23,9,3]
def known (f:Nat):Bool:=fns.any (aw f)
def oH (f:Nat):List Nat:=
 bif aw f 101 then [0]else
 bif aw f 54 then [0]else
 bif aw f 106 then [0]else
 bif aw f 160 then [0]else
 bif aw f 168 then [0]else
 bif aw f 161 then [0]else
 bif aw f 145 then [0]else
 bif aw f 146 then [0]else
 bif aw f 103 then [0]else
 bif aw f 147 then [0]else
 bif aw f 104 then [0]else
 bif aw f 111 then [0]else
 bif aw f 108 then [0]else
 bif aw f 107 then [0]else
 bif aw f 144 then [0]else
 bif aw f 105 then [0]else
 bif aw f 102 then [0]else
 bif aw f 109 then [0]else
 bif aw f 110 then [0]else
 bif aw f 55 then [0]else
 bif aw f 29 then [0]else
 bif aw f 59 then [0]else
 bif aw f 148 then [0]else
 bif aw f 112 then [0]else
 bif aw f 113 then [0]else
 bif aw f 150 then [0]else
 bif aw f 151 then [0]else
 bif aw f 152 then [0]else
 bif aw f 153 then [0]else
 bif aw f 116 then [0]else
 bif aw f 154 then [0]else
 bif aw f 115 then [0]else
 bif aw f 114 then [0]else
 bif aw f 117 then [0]else
 bif aw f 58 then [0]else
 bif aw f 47 then [0]else
 bif aw f 41 then [0]else
 bif aw f 25 then [0]else
 bif aw f 45 then [0]else
 bif aw f 24 then [0]else
 bif aw f 57 then [0]else
 bif aw f 30 then [0]else
 bif aw f 13 then [0]else
 bif aw f 48 then [0]else
 bif aw f 49 then [0]else
 bif aw f 84 then [0]else
 bif aw f 88 then [0]else
 bif aw f 82 then [0]else
 bif aw f 90 then [0]else
 bif aw f 159 then [0]else
 bif aw f 141 then [0]else
 bif aw f 89 then [0]else
 bif aw f 87 then [0]else
 bif aw f 93 then [0]else
 bif aw f 83 then [0]else
 bif aw f 86 then [0]else
 bif aw f 91 then [0]else
 bif aw f 92 then [0]else
 bif aw f 50 then [0]else
 bif aw f 26 then [0]else
 bif aw f 122 then [4,5,6,7]else
 bif aw f 120 then [2]else
 bif aw f 123 then [0,1]else
 bif aw f 15 then [3,4,5]else
 []
def kk (f:Nat)(k:Bool)(r a:Nat)(b:Bool)(c:Nat):Bool:=aw f a&&k==b&&aw r c
def De (f:Nat)(k:Bool)(r:Nat):Bool:=kk f k r 3 av 8||kk f k r 3 av 17||kk f k r 8 av 6||kk f k r 8 av 12||kk f k r 9 av 6||kk f k r 12 av 4||kk f k r 12 av 11||kk f k r 12 av 20||kk f k r 12 av 23||kk f k r 12 av 28||kk f k r 15 ar 4||kk f k r 15 av 8||kk f k r 16 ar 7||kk f k r 16 av 8||kk f k r 16 ar 13||kk f k r 16 av 14||kk f k r 19 av 6||kk f k r 23 av 3||kk f k r 23 av 9||kk f k r 23 av 15||kk f k r 24 av 5||kk f k r 24 ar 12||kk f k r 24 ar 16||kk f k r 25 av 1||kk f k r 25 av 10||kk f k r 26 av 2||kk f k r 27 av 5||kk f k r 28 av 3||kk f k r 28 av 8||kk f k r 29 av 5||kk f k r 30 av 4||kk f k r 30 ar 11||kk f k r 31 av 6||kk f k r 32 av 5||kk f k r 32 av 12||kk f k r 32 av 16||kk f k r 32 av 27||kk f k r 32 av 30||kk f k r 32 av 35||kk f k r 39 av 5||kk f k r 39 ar 14||kk f k r 39 av 15||kk f k r 40 av 4||kk f k r 42 av 1||kk f k r 42 av 7||kk f k r 43 av 14||kk f k r 44 av 2||kk f k r 45 av 4||kk f k r 46 ar 52||kk f k r 46 ar 53||kk f k r 50 ar 57||kk f k r 52 av 5||kk f k r 52 av 21||kk f k r 52 ar 28||kk f k r 52 ar 41||kk f k r 52 ar 46||kk f k r 53 ar 7||kk f k r 53 ar 18||kk f k r 53 av 31||kk f k r 53 ar 46||kk f k r 55 ar 8||kk f k r 55 ar 20||kk f k r 55 av 23||kk f k r 55 av 28||kk f k r 55 ar 38||kk f k r 55 ar 66||kk f k r 58 ar 31||kk f k r 60 av 6||kk f k r 60 av 13||kk f k r 60 av 26||kk f k r 60 av 42||kk f k r 60 ar 50||kk f k r 60 ar 65||kk f k r 60 ar 72||kk f k r 60 ar 84||kk f k r 60 av 97||kk f k r 70 av 2||kk f k r 70 av 8||kk f k r 72 av 7||kk f k r 72 ar 9||kk f k r 72 av 12||kk f k r 72 ar 14||kk f k r 72 av 21||kk f k r 72 ar 23||kk f k r 72 av 26||kk f k r 73 av 4||kk f k r 73 ar 24||kk f k r 73 av 27||kk f k r 75 av 3||kk f k r 75 av 9||kk f k r 76 av 4||kk f k r 78 ar 16||kk f k r 80 ar 6||kk f k r 80 ar 13||kk f k r 80 ar 22||kk f k r 81 ar 24||kk f k r 83 av 9||kk f k r 83 av 15||kk f k r 86 av 3||kk f k r 87 av 3||kk f k r 89 av 3||kk f k r 90 av 2||kk f k r 93 av 14||kk f k r 93 av 33||kk f k r 93 ar 1014||kk f k r 96 av 4||kk f k r 97 av 2||kk f k r 102 av 4||kk f k r 104 av 2||kk f k r 105 av 2||kk f k r 107 ar 9||kk f k r 107 ar 18||kk f k r 107 ar 34||kk f k r 111 av 3||kk f k r 112 av 6||kk f k r 113 av 1||kk f k r 114 av 1||kk f k r 120 av 2||kk f k r 134 av 3||kk f k r 136 av 7||kk f k r 141 av 34||kk f k r 142 ar 13||kk f k r 146 ar 7||kk f k r 147 av 3||kk f k r 148 av 2||kk f k r 151 ar 12||kk f k r 153 av 3||kk f k r 153 ar 7||kk f k r 159 ar 14||kk f k r 161 av 12||kk f k r 164 av 6||kk f k r 167 av 5||kk f k r 167 av 18||kk f k r 167 av 39||kk f k r 167 av 49||kk f k r 168 av 2||kk f k r 169 av 2||kk f k r 170 av 5||kk f k r 170 av 15||kk f k r 170 ar 17||kk f k r 170 av 20||kk f k r 170 ar 22||kk f k r 170 ar 26||kk f k r 170 av 29||kk f k r 170 ar 31||kk f k r 176 ar 21||kk f k r 176 ar 25||kk f k r 176 ar 32||kk f k r 176 av 36||kk f k r 176 ar 46||kk f k r 181 ar 5||kk f k r 181 av 10||kk f k r 181 ar 1010
def cut (f:Nat)(k:Bool)(r:Nat):Cut:=
 bif kk f k r 3 av 8 then⟨[3,4,5,6,24,25,26],[vs8,yn,yn,vs1,Il,vs1,vs1],[⟨.exit 0,[3,4,5,6],[vs8,yn,yn,vs1],[]⟩],[]⟩else
 bif kk f k r 3 av 17 then⟨[3,5,9,46,47,48],[vs8,yn,vs1,yn,vs1,vs1],[⟨.ret,[2],[dY],[]⟩,⟨.exit 2,[3],[vs8],[]⟩],[]⟩else
 bif kk f k r 8 av 6 then⟨[3,14,15,16],[SB,Il,vs1,vs1],[⟨.exit 0,[3],[SB],[]⟩],[(4,17,[])]⟩else
 bif kk f k r 8 av 12 then⟨[3,7,14,15,16,65,66,67],[SB,BX,Il,vs1,vs1,qI,vs1,vs1],[⟨.exit 2,[3,7,14,15,16],[SB,BX,Il,vs1,vs1],[(4,17,[])]⟩],[(4,17,[])]⟩else
 bif kk f k r 9 av 6 then⟨[4,13,14,15],[u6,Il,vs1,vs1],[⟨.exit 0,[4],[u6],[]⟩],[]⟩else
 bif kk f k r 12 av 4 then⟨[1,2,38,39],[vs8,qF,vs1,vs1],[⟨.ret,[2],[qF],[]⟩,⟨.exit 0,[1,2],[vs8,qF],[]⟩],[]⟩else
 bif kk f k r 12 av 11 then⟨[1,2,4,51,52,53],[vs8,qF,qI,qI,vs1,vs1],[⟨.ret,[2],[qF],[]⟩,⟨.exit 2,[1,2,4],[vs8,qF,qI],[]⟩],[]⟩else
 bif kk f k r 12 av 20 then⟨[1,2,7,8],[vs8,qF,gX,vs1],[⟨.exit 4,[2,7],[qF,gX],[]⟩],[]⟩else
 bif kk f k r 12 av 23 then⟨[1,2,7,8,93,94,95],[vs8,qF,gX,vs1,qI,vs1,vs1],[⟨.exit 6,[1,2,7,8],[vs8,qF,gX,vs1],[]⟩],[]⟩else
 bif kk f k r 12 av 28 then⟨[2,108,109,110],[qF,gX,vs1,vs1],[⟨.ret,[2],[qF],[]⟩,⟨.exit 8,[2],[qF],[]⟩],[]⟩else
 bif kk f k r 15 ar 4 then⟨[1,3,4,5,9],[vs1,vs8,U8, .one (.slf 15 3),vs3],[⟨.normal,[3,4],[vs8,U8],[]⟩],[]⟩else
 bif kk f k r 15 av 8 then⟨[1,3,4,5,10,40,41,42],[vs1,vs8,U8, .one (.slf 15 3),vs9,qI,vs1,vs1],[⟨.exit 0,[3,4],[vs8,U8],[]⟩],[]⟩else
 bif kk f k r 16 ar 7 then⟨[4,9,10,11],[vs8,vs3,yn,vs1],[⟨.ret,[8],[yn],[]⟩],[]⟩else
 bif kk f k r 16 av 8 then⟨[4,9,10,11,38,39,40],[vs8,vs3,yn,vs1,qI,vs1,vs1],[⟨.exit 0,[10],[yn],[]⟩],[]⟩else
 bif kk f k r 16 ar 13 then⟨[4,9,10,11,13,14,38,39,40],[vs8,vs3,yn,vs1,vs1,vs9,qI,vs1,vs1],[⟨.normal,[4,9,10,11,38,39,40],[vs8,vs3,yn,vs1,qI,vs1,vs1],[]⟩],[]⟩else
 bif kk f k r 16 av 14 then⟨[4,9,10,11,38,39,40,55,56,57],[vs8,vs3,yn,vs1,qI,vs1,vs1,yn,vs1,vs1],[⟨.exit 2,[4,9,10,11,38,39,40],[vs8,vs3,yn,vs1,qI,vs1,vs1],[]⟩],[]⟩else
 bif kk f k r 19 av 6 then⟨[0,3,4],[vs9,SB,vs1],[⟨.exit 0,[3],[SB],[]⟩],[]⟩else
 bif kk f k r 23 av 3 then⟨[1,3,22,23,24],[vs3,vs9,gX,vs1,vs1],[⟨.exit 0,[1,3],[vs3,vs9],[]⟩],[]⟩else
 bif kk f k r 23 av 9 then⟨[1,3,46,47,48],[vs3,vs9,Su,vs1,vs1],[⟨.exit 2,[1,3],[vs3,vs9],[]⟩],[]⟩else
 bif kk f k r 23 av 15 then⟨[3,65,66,67],[vs9,qI,vs1,vs1],[⟨.exit 4,[3],[vs9],[]⟩],[]⟩else
 bif kk f k r 24 av 5 then⟨[0,1,7,8,9,10],[uV,vs9,vs1,Az,vs1,vs1],[⟨.ret,[0,4,5,6],[uV,Az,vs1,vs1],[]⟩,⟨.exit 0,[0,1,7,8,9],[uV,vs9,vs1,Az,vs1],[]⟩],[]⟩else
 bif kk f k r 24 ar 12 then⟨[0,1,7,8,9,10,11,12,13],[uV,vs9,vs1,Az,vs1,vs1,vs0,vs1,vs1],[⟨.exit 1,[0,1,7,8,9,10],[uV,vs9,vs1,Az,vs1,vs1],[]⟩,⟨.ret,[0,4,5,6],[uV,Az,vs1,vs1],[]⟩,⟨.normal,[0,1,7,8,9,10],[uV,vs9,vs1,Az,vs1,vs1],[]⟩],[]⟩else
 bif kk f k r 24 ar 16 then⟨[0,1,7,8,9,10,11,12,13,14,15],[uV,vs9,vs1,Az,vs1,vs1,vs0,vs1,vs1,vs1,dY],[⟨.exit 1,[0,1,7,8,9,10],[uV,vs9,vs1,Az,vs1,vs1],[]⟩,⟨.ret,[0,4,5,6],[uV,Az,vs1,vs1],[]⟩,⟨.normal,[0,1,7,8,9,10],[uV,vs9,vs1,Az,vs1,vs1],[]⟩],[]⟩else
 bif kk f k r 25 av 1 then⟨[0,1,2],[uV,vs1,vs1],[⟨.ret,[0,6,7],[uV,vs1,dY],[]⟩,⟨.exit 0,[0,1],[uV,vs1],[]⟩],[]⟩else
 bif kk f k r 25 av 10 then⟨[0,1,2,9,11],[uV,vs1,vs1,gX,vs1],[⟨.exit 2,[0,1,2],[uV,vs1,vs1],[]⟩],[]⟩else
 bif kk f k r 26 av 2 then⟨[0,1,5],[vs4,vs1,gX],[⟨.exit 0,[0,5],[vs4,gX],[]⟩],[]⟩else
 bif kk f k r 27 av 5 then⟨[1,2,5,35,36,37],[vs1,vs8,vs3,qI,vs1,vs1],[⟨.ret,[4],[dY],[]⟩,⟨.exit 0,[2,5],[vs8,vs3],[]⟩],[]⟩else
 bif kk f k r 28 av 3 then⟨[3,15,16,17],[gX,Il,vs1,vs1],[⟨.exit 0,[3],[gX],[]⟩],[]⟩else
 bif kk f k r 28 av 8 then⟨[3,4,5,6,7,8,15,16,17],[gX,vs1,vs3,vs1,dY,vs1,Il,vs1,vs1],[⟨.exit 2,[3,4,6,7,15,16,17],[gX,vs1,vs1,dY,Il,vs1,vs1],[]⟩],[]⟩else
 bif kk f k r 29 av 5 then⟨[2,3,4,5,6],[ai6,vs2,vs1,gX,vs1],[⟨.exit 0,[2,3,5],[ai6,vs2,gX],[(0,1000000,[3])]⟩],[(0,1000000,[3])]⟩else
 bif kk f k r 30 av 4 then⟨[0,1,7,18,19,20],[zD,vs9,u6,Az,vs1,vs1],[⟨.exit 0,[0,7],[zD,u6],[]⟩],[]⟩else
 bif kk f k r 30 ar 11 then⟨[0,1,7,9,10,18,19,20],[zD,vs9,u6,vs0,vs9,Az,vs1,vs1],[⟨.normal,[0,1,7,18,19,20],[zD,vs9,u6,Az,vs1,vs1],[]⟩],[]⟩else
 bif kk f k r 31 av 6 then⟨[4,23,24,25],[vs5,qI,vs1,vs1],[⟨.exit 0,[4],[vs5],[]⟩],[]⟩else
 bif kk f k r 32 av 5 then⟨[1,2,3,37,38],[vs8,qF,vs1,vs1,vs1],[⟨.ret,[2],[qF],[]⟩,⟨.exit 0,[1,2,3],[vs8,qF,vs1],[]⟩],[]⟩else
 bif kk f k r 32 av 12 then⟨[1,2,3,5,51,52,53],[vs8,qF,vs1,gX,Il,vs1,vs1],[⟨.ret,[2],[qF],[]⟩,⟨.exit 2,[1,2,3],[vs8,qF,vs1],[]⟩],[]⟩else
 bif kk f k r 32 av 16 then⟨[1,2,3,5,6,7,8,9,51,52,53],[vs8,qF,vs1,gX,vs1,vs3,vs1,vs1,Il,vs1,vs1],[⟨.ret,[2],[qF],[]⟩,⟨.exit 4,[1,2,3,5,6,8,51,52,53],[vs8,qF,vs1,gX,vs1,vs1,Il,vs1,vs1],[]⟩],[]⟩else
 bif kk f k r 32 av 27 then⟨[1,2,10,11],[vs8,qF,gX,vs1],[⟨.exit 6,[2,10],[qF,gX],[]⟩],[]⟩else
 bif kk f k r 32 av 30 then⟨[1,2,10,11,113,114,115],[vs8,qF,gX,vs1,qI,vs1,vs1],[⟨.exit 8,[1,2,10,11],[vs8,qF,gX,vs1],[]⟩],[]⟩else
 bif kk f k r 32 av 35 then⟨[2,10,129,130],[qF,gX,vs1,vs1],[⟨.ret,[2],[qF],[]⟩,⟨.exit 10,[2],[qF],[]⟩],[]⟩else
 bif kk f k r 39 av 5 then⟨[0,3,4],[vs1,dY,u6],[⟨.exit 0,[3,4],[dY,u6],[]⟩],[]⟩else
 bif kk f k r 39 ar 14 then⟨[4,6],[u6,vs9],[⟨.ret,[2],[vs9],[]⟩],[]⟩else
 bif kk f k r 39 av 15 then⟨[4,6,7],[u6,vs9,vs1],[⟨.exit 2,[6],[vs9],[]⟩],[]⟩else
 bif kk f k r 40 av 4 then⟨[0,3,4,5],[vs9,vs9,u6,vs1],[⟨.exit 0,[4],[u6],[]⟩],[]⟩else
 bif kk f k r 42 av 1 then⟨[0,1],[vs9,vs1],[⟨.ret,[4],[vs1],[]⟩,⟨.exit 0,[1],[vs1],[]⟩],[]⟩else
 bif kk f k r 42 av 7 then⟨[0,1],[vs9,vs1],[⟨.exit 2,[0,1],[vs9,vs1],[]⟩],[]⟩else
 bif kk f k r 43 av 14 then⟨[0,1,4,6,43,44,45],[vs9,vs1,vs0,vs0,BX,vs1,vs1],[⟨.ret,[4,5],[vs0,vs1],[]⟩,⟨.exit 0,[1,4,6],[vs1,vs0,vs0],[]⟩],[]⟩else
 bif kk f k r 44 av 2 then⟨[0,1,2,7],[vs9,vs1,qI,vs1],[⟨.exit 0,[1,7],[vs1,vs1],[]⟩],[]⟩else
 bif kk f k r 45 av 4 then⟨[0,1,5,6,7],[uV,vs1,gX,vs1,vs1],[⟨.exit 0,[0,5],[uV,gX],[]⟩],[]⟩else
 bif kk f k r 46 ar 52 then⟨[0,1,93],[vs1,vs1,dY],[⟨.ret,[4,5],[gX,dY],[]⟩,⟨.normal,[0,1],[vs1,vs1],[]⟩],[]⟩else
 bif kk f k r 46 ar 53 then⟨[0,1],[vs1,vs1],[⟨.ret,[4,5],[gX,dY],[]⟩],[]⟩else
 bif kk f k r 50 ar 57 then⟨[0,3,17],[vs4,vs0,vs1],[⟨.ret,[0,2],[vs4,vs1],[]⟩],[]⟩else
 bif kk f k r 52 av 5 then⟨[2,3,17,18],[vs8,vs3,vs1,vs1],[⟨.ret,[4],[dY],[]⟩,⟨.exit 1,[3],[vs3],[]⟩],[]⟩else
 bif kk f k r 52 av 21 then⟨[2,3,5,7],[vs8,vs3,vs1,vs1],[⟨.ret,[4],[dY],[]⟩,⟨.exit 3,[2,3,5],[vs8,vs3,vs1],[]⟩],[]⟩else
 bif kk f k r 52 ar 28 then⟨[2,3,5,12,113],[vs8,vs3,vs1,vs1,dY],[⟨.ret,[4],[dY],[]⟩,⟨.normal,[2,3,5],[vs8,vs3,vs1],[]⟩],[]⟩else
 bif kk f k r 52 ar 41 then⟨[2,3,5,12,240],[vs8,vs3,vs1,vs1,dY],[⟨.ret,[4],[dY],[]⟩,⟨.normal,[2,3,5],[vs8,vs3,vs1],[]⟩],[]⟩else
 bif kk f k r 52 ar 46 then⟨[2,3,5],[vs8,vs3,vs1],[⟨.ret,[4],[dY],[]⟩],[]⟩else
 bif kk f k r 53 ar 7 then⟨[2,3,5,12,13],[vs8,vs3,vs1,vs1,dY],[⟨.ret,[4],[dY],[]⟩,⟨.normal,[2,3,5],[vs8,vs3,vs1],[]⟩],[]⟩else
 bif kk f k r 53 ar 18 then⟨[2,3,5,12,72],[vs8,vs3,vs1,vs1,dY],[⟨.ret,[4],[dY],[]⟩,⟨.normal,[2,3,5],[vs8,vs3,vs1],[]⟩],[]⟩else
 bif kk f k r 53 av 31 then⟨[2,3,199,200],[vs8,vs3,vs1,vs1],[⟨.ret,[4],[dY],[]⟩,⟨.exit 1,[3],[vs3],[]⟩],[]⟩else
 bif kk f k r 53 ar 46 then⟨[2,3,5],[vs8,vs3,vs1],[⟨.ret,[4],[dY],[]⟩],[]⟩else
 bif kk f k r 55 ar 8 then⟨[0,1,49,50],[vs2,vs1,vs1,dY],[⟨.ret,[0,4],[vs2,vs1],[]⟩,⟨.normal,[0,1],[vs2,vs1],[]⟩],[(5,1000000,[0])]⟩else
 bif kk f k r 55 ar 20 then⟨[0,1,49,92],[vs2,vs1,vs1,dY],[⟨.ret,[0,4],[vs2,vs1],[]⟩,⟨.normal,[0,1],[vs2,vs1],[]⟩],[(5,1000000,[0])]⟩else
 bif kk f k r 55 av 23 then⟨[0,1,11,12,13],[vs2,vs1,gX,vs1,vs1],[⟨.exit 1,[0,1,11,12],[vs2,vs1,gX,vs1],[(5,1000000,[0])]⟩],[(5,1000000,[0])]⟩else
 bif kk f k r 55 av 28 then⟨[0,11,12,116,117,118],[vs2,gX,vs1,gX,vs1,vs1],[⟨.exit 3,[0,11,12],[vs2,gX,vs1],[]⟩],[]⟩else
 bif kk f k r 55 ar 38 then⟨[0,1,49,141],[vs2,vs1,vs1,dY],[⟨.ret,[0,4],[vs2,vs1],[]⟩,⟨.normal,[0,1],[vs2,vs1],[]⟩],[(5,1000000,[0])]⟩else
 bif kk f k r 55 ar 66 then⟨[0,1],[vs2,vs1],[⟨.ret,[0,4],[vs2,vs1],[]⟩],[]⟩else
 bif kk f k r 58 ar 31 then⟨[0,4,15,119],[vs5,vs3,vs1,dY],[⟨.normal,[0],[vs5],[]⟩],[]⟩else
 bif kk f k r 60 av 6 then⟨[1,2,5,6,58,59,60],[vs1,vs8,vs3,N7,qI,vs1,vs1],[⟨.ret,[4],[dY],[]⟩,⟨.exit 0,[5,6],[vs3,N7],[]⟩],[]⟩else
 bif kk f k r 60 av 13 then⟨[5,6,80,81,82],[vs3,N7,Su,vs1,vs1],[⟨.ret,[4],[dY],[]⟩,⟨.exit 2,[5,6],[vs3,N7],[]⟩],[]⟩else
 bif kk f k r 60 av 26 then⟨[11,12,13,14,108,109,110],[sN,sN,Io,LN,gX,vs1,vs1],[⟨.ret,[4],[dY],[]⟩,⟨.exit 5,[11,12,13,14],[sN,sN,Io,LN],[(17,122,[11,12,13,14])]⟩],[(17,122,[11,12,13,14])]⟩else
 bif kk f k r 60 av 42 then⟨[6,13,16,184,185,186],[PS,Io,sN,qI,vs1,vs1],[⟨.ret,[4],[dY],[]⟩,⟨.exit 7,[6,13,16],[PS,Io,sN],[(15,120,[6])]⟩],[(15,120,[6])]⟩else
 bif kk f k r 60 ar 50 then⟨[6,11,12,13,14,16,105,205],[N7,sN,sN,Io,LN,sN,vs1,dY],[⟨.ret,[4],[dY],[]⟩,⟨.normal,[],[],[]⟩],[(15,120,[6]),(17,122,[11,12,13,14]),(18,123,[16,6])]⟩else
 bif kk f k r 60 ar 65 then⟨[6,11,12,13,14,16,105,328],[N7,sN,sN,Io,LN,sN,vs1,dY],[⟨.ret,[4],[dY],[]⟩,⟨.normal,[],[],[]⟩],[(15,120,[6]),(17,122,[11,12,13,14]),(18,123,[16,6])]⟩else
 bif kk f k r 60 ar 72 then⟨[6,11,12,13,14,16,105,378],[N7,sN,sN,Io,LN,sN,vs1,dY],[⟨.ret,[4],[dY],[]⟩,⟨.normal,[],[],[]⟩],[(15,120,[6]),(17,122,[11,12,13,14]),(18,123,[16,6])]⟩else
 bif kk f k r 60 ar 84 then⟨[6,11,12,13,14,16,105,436],[N7,sN,sN,Io,LN,sN,vs1,dY],[⟨.ret,[4],[dY],[]⟩,⟨.normal,[],[],[]⟩],[(15,120,[6]),(17,122,[11,12,13,14]),(18,123,[16,6])]⟩else
 bif kk f k r 60 av 97 then⟨[11,12,13,14,529,530,531],[sN,sN,Io,LN,gX,vs1,vs1],[⟨.ret,[4],[dY],[]⟩,⟨.exit 9,[11,12,13,14],[sN,sN,Io,LN],[(17,122,[11,12,13,14])]⟩],[(17,122,[11,12,13,14])]⟩else
 bif kk f k r 70 av 2 then⟨[0,3,4,6],[vs9,vs0,vs0,vs1],[⟨.exit 0,[0,3,4,6],[vs9,vs0,vs0,vs1],[]⟩],[]⟩else
 bif kk f k r 70 av 8 then⟨[3,4,7,32,33,34],[vs0,vs0,vs9,BX,vs1,vs1],[⟨.ret,[4,5],[vs0,vs1],[]⟩,⟨.exit 2,[3,4,7],[vs0,vs0,vs9],[]⟩],[]⟩else
 bif kk f k r 72 av 7 then⟨[0,3,4,6],[vs9,vs0,vs0,vs1],[⟨.exit 0,[0,3,4,6],[vs9,vs0,vs0,vs1],[]⟩],[]⟩else
 bif kk f k r 72 ar 9 then⟨[0,3,4,6],[vs9,vs0,vs0,vs1],[⟨.ret,[4,5],[vs0,vs1],[]⟩],[]⟩else
 bif kk f k r 72 av 12 then⟨[0,3,4,6],[vs9,vs0,vs0,vs1],[⟨.exit 2,[0,3,4,6],[vs9,vs0,vs0,vs1],[]⟩],[]⟩else
 bif kk f k r 72 ar 14 then⟨[0,3,4,6],[vs9,vs0,vs0,vs1],[⟨.ret,[4,5],[vs0,vs1],[]⟩],[]⟩else
 bif kk f k r 72 av 21 then⟨[0,3,4,6],[vs9,vs0,vs0,vs1],[⟨.exit 4,[0,3,4,6],[vs9,vs0,vs0,vs1],[]⟩],[]⟩else
 bif kk f k r 72 ar 23 then⟨[0,3,4,6],[vs9,vs0,vs0,vs1],[⟨.ret,[4,5],[vs0,vs1],[]⟩],[]⟩else
 bif kk f k r 72 av 26 then⟨[0,3,4,6,7,8],[vs9,vs0,vs0,vs1,u7,vs1],[⟨.exit 6,[0,3,4,6,7],[vs9,vs0,vs0,vs1,u7],[]⟩],[]⟩else
 bif kk f k r 73 av 4 then⟨[0,3,4,6,7],[vs9,vs0,vs0,vs1,u6],[⟨.ret,[4,5],[vs0,vs1],[]⟩,⟨.exit 0,[3,4,6],[vs0,vs0,vs1],[]⟩],[]⟩else
 bif kk f k r 73 ar 24 then⟨[0,3,4,6,7,46,59],[vs9,vs0,vs0,vs1,u6,Et,dY],[⟨.normal,[0,3,4,6,7],[vs9,vs0,vs0,vs1,u6],[]⟩,⟨.ret,[4,5],[vs0,vs1],[]⟩],[]⟩else
 bif kk f k r 73 av 27 then⟨[0,3,4,6,7,9],[vs9,vs0,vs0,vs1,u6,vs1],[⟨.ret,[4,5],[vs0,vs1],[]⟩,⟨.exit 3,[0,3,4,6,7],[vs9,vs0,vs0,vs1,u6],[]⟩],[]⟩else
 bif kk f k r 75 av 3 then⟨[0,3,4],[vs9,BX,vs1],[⟨.ret,[2],[vs1],[]⟩,⟨.exit 0,[0],[vs9],[]⟩],[]⟩else
 bif kk f k r 75 av 9 then⟨[0,24,25,26],[vs9,BX,vs1,vs1],[⟨.ret,[2],[vs1],[]⟩,⟨.exit 2,[],[],[]⟩],[]⟩else
 bif kk f k r 76 av 4 then⟨[1,16,17,18],[vs9,qI,vs1,vs1],[⟨.ret,[4],[dY],[]⟩,⟨.exit 0,[],[],[]⟩],[]⟩else
 bif kk f k r 78 ar 16 then⟨[0,4,35],[vs1,vs1,dY],[⟨.ret,[2,3],[gX,dY],[]⟩,⟨.normal,[],[],[]⟩],[]⟩else
 bif kk f k r 80 ar 6 then⟨[0,1,6,9,10],[vs1,vs1,gX,vs1,dY],[⟨.normal,[0,1,6],[vs1,vs1,gX],[]⟩],[]⟩else
 bif kk f k r 80 ar 13 then⟨[0,1,6],[vs1,vs1,gX],[⟨.ret,[4,5],[gX,dY],[]⟩],[]⟩else
 bif kk f k r 80 ar 22 then⟨[0,1],[vs1,vs1],[⟨.ret,[4,5],[gX,dY],[]⟩],[]⟩else
 bif kk f k r 81 ar 24 then⟨[0,1,6,49],[vs1,vs1,vs1,dY],[⟨.ret,[4,5],[gX,dY],[]⟩,⟨.normal,[1],[vs1],[]⟩],[]⟩else
 bif kk f k r 83 av 9 then⟨[0,3],[vs4,vs7],[⟨.exit 0,[0,3],[vs4,vs7],[]⟩],[]⟩else
 bif kk f k r 83 av 15 then⟨[0,3,74,75,76],[vs4,vs7,gX,vs1,vs1],[⟨.exit 2,[0,3],[vs4,vs7],[]⟩],[]⟩else
 bif kk f k r 86 av 3 then⟨[0,3,4],[vs4,vs0,BX],[⟨.exit 0,[0,4],[vs4,BX],[]⟩],[]⟩else
 bif kk f k r 87 av 3 then⟨[0,4],[vs4,gX],[⟨.exit 0,[0,4],[vs4,gX],[]⟩],[]⟩else
 bif kk f k r 89 av 3 then⟨[0,1,5,6],[vs4,vs1,vs0,vs1],[⟨.ret,[0,4],[vs4,vs1],[]⟩,⟨.exit 0,[0,6],[vs4,vs1],[]⟩],[]⟩else
 bif kk f k r 90 av 2 then⟨[0,3],[vs4,vs7],[⟨.exit 0,[0,3],[vs4,vs7],[]⟩],[]⟩else
 bif kk f k r 93 av 14 then⟨[0,3,4],[vs4,vs1,vs0],[⟨.ret,[0,2],[vs4,vs1],[]⟩],[]⟩else
 bif kk f k r 93 av 33 then⟨[0,4,8,93,94,95],[vs4,vs0,vs7,gX,vs1,vs1],[⟨.exit 3,[0,4,8],[vs4,vs0,vs7],[]⟩],[]⟩else
 bif kk f k r 93 ar 1014 then⟨[0,3,4],[vs4,vs1,vs0],[⟨.ret,[0,2],[vs4,vs1],[]⟩],[]⟩else
 bif kk f k r 96 av 4 then⟨[22,23,24],[Su,vs1,vs1],[⟨.ret,[6],[dY],[]⟩,⟨.exit 0,[],[],[]⟩],[]⟩else
 bif kk f k r 97 av 2 then⟨[3,4,5,9],[vs1,vs8,vs3,vs1],[⟨.ret,[8],[dY],[]⟩,⟨.exit 0,[],[],[]⟩],[]⟩else
 bif kk f k r 102 av 4 then⟨[0,6,23,24,25],[vs2,gX,gX,vs1,vs1],[⟨.exit 0,[0,6],[vs2,gX],[]⟩],[]⟩else
 bif kk f k r 104 av 2 then⟨[0,1,5],[vs2,vs1,BX],[⟨.exit 0,[0,5],[vs2,BX],[]⟩],[]⟩else
 bif kk f k r 105 av 2 then⟨[0,1,2,7],[vs2,vs1,vs1,gX],[⟨.exit 0,[0,7],[vs2,gX],[]⟩],[]⟩else
 bif kk f k r 107 ar 9 then⟨[0,1,31,32],[vs2,vs1,vs1,dY],[⟨.ret,[0,4],[vs2,vs1],[]⟩,⟨.normal,[0,1],[vs2,vs1],[]⟩],[(5,1000000,[0])]⟩else
 bif kk f k r 107 ar 18 then⟨[0,1,31,72],[vs2,vs1,vs1,dY],[⟨.ret,[0,4],[vs2,vs1],[]⟩,⟨.normal,[0,1],[vs2,vs1],[]⟩],[(5,1000000,[0])]⟩else
 bif kk f k r 107 ar 34 then⟨[0,1],[vs2,vs1],[⟨.ret,[0,4],[vs2,vs1],[]⟩],[]⟩else
 bif kk f k r 111 av 3 then⟨[0,1,5,6],[vs2,vs1,gX,vs1],[⟨.exit 0,[0,5],[vs2,gX],[]⟩],[]⟩else
 bif kk f k r 112 av 6 then⟨[0,30,31,32],[vs5,qI,vs1,vs1],[⟨.exit 0,[0],[vs5],[]⟩],[]⟩else
 bif kk f k r 113 av 1 then⟨[0,6,7,8],[vs5,Su,vs1,vs1],[⟨.exit 0,[0],[vs5],[]⟩],[]⟩else
 bif kk f k r 114 av 1 then⟨[0,6,7,8],[vs5,qI,vs1,vs1],[⟨.exit 0,[0],[vs5],[]⟩],[]⟩else
 bif kk f k r 120 av 2 then⟨[2,11,12,13],[PS,qI,vs1,vs1],[⟨.ret,[2,5],[PS,dY],[]⟩,⟨.exit 0,[2],[PS],[]⟩],[]⟩else
 bif kk f k r 134 av 3 then⟨[0,3,4,6,7],[vs9,vs0,vs0,vs1,u7],[⟨.ret,[4,5],[vs0,vs1],[]⟩,⟨.exit 0,[3,4,6,7],[vs0,vs0,vs1,u7],[]⟩],[]⟩else
 bif kk f k r 136 av 7 then⟨[0,23,24,25],[vs1,BX,vs1,vs1],[⟨.ret,[2],[vs9],[]⟩,⟨.exit 0,[],[],[]⟩],[]⟩else
 bif kk f k r 141 av 34 then⟨[0,9],[vs4,vs7],[⟨.exit 1,[0,9],[vs4,vs7],[]⟩],[]⟩else
 bif kk f k r 142 ar 13 then⟨[10,11],[vs1,dY],[⟨.ret,[2,3],[vs1,vs1],[]⟩,⟨.normal,[],[],[]⟩],[]⟩else
 bif kk f k r 146 ar 7 then⟨[0,11,20],[vs2,vs1,dY],[⟨.ret,[0,2],[vs2,vs1],[]⟩,⟨.normal,[0],[vs2],[]⟩],[(3,1000000,[0])]⟩else
 bif kk f k r 147 av 3 then⟨[0,1,5,6],[vs2,vs1,gX,vs1],[⟨.exit 0,[0,5],[vs2,gX],[]⟩],[]⟩else
 bif kk f k r 148 av 2 then⟨[0,2],[vs5,vs1],[⟨.exit 0,[0],[vs5],[]⟩],[]⟩else
 bif kk f k r 151 ar 12 then⟨[0,3],[vs5,vs3],[⟨.normal,[0],[vs5],[]⟩],[]⟩else
 bif kk f k r 153 av 3 then⟨[0,10,11,12],[vs5,qI,vs1,vs1],[⟨.exit 0,[0],[vs5],[]⟩],[]⟩else
 bif kk f k r 153 ar 7 then⟨[0,5,10,11,12],[vs5,vs1,qI,vs1,vs1],[⟨.normal,[0,10,11,12],[vs5,qI,vs1,vs1],[]⟩],[]⟩else
 bif kk f k r 159 ar 14 then⟨[0,4],[vs4,vs7],[⟨.ret,[0,2],[vs4,vs1],[]⟩],[]⟩else
 bif kk f k r 161 av 12 then⟨[0,3],[zD,vs9],[⟨.exit 1,[0,3],[zD,vs9],[]⟩],[]⟩else
 bif kk f k r 164 av 6 then⟨[0,3,4,5],[vs1,vs9,vs9,vs1],[⟨.exit 0,[4],[vs9],[]⟩],[]⟩else
 bif kk f k r 167 av 5 then⟨[0,1,4,7],[vs9,vs1,vs0,vs1],[⟨.exit 1,[0,1,4,7],[vs9,vs1,vs0,vs1],[]⟩],[]⟩else
 bif kk f k r 167 av 18 then⟨[0,4,8,9],[vs9,vs0,u6,vs1],[⟨.ret,[4,5],[vs0,dY],[]⟩],[]⟩else
 bif kk f k r 167 av 39 then⟨[0,4,8,9,11],[vs9,vs0,u6,vs1,vs1],[⟨.ret,[4,5],[vs0,dY],[]⟩,⟨.exit 5,[0,4,8,9],[vs9,vs0,u6,vs1],[]⟩],[]⟩else
 bif kk f k r 167 av 49 then⟨[0,1,4,14,15],[vs9,vs1,vs0,vs1,vs1],[⟨.exit 7,[1,4],[vs1,vs0],[]⟩],[]⟩else
 bif kk f k r 168 av 2 then⟨[0,1,5],[zD,vs1,u6],[⟨.exit 0,[0,5],[zD,u6],[]⟩],[]⟩else
 bif kk f k r 169 av 2 then⟨[0,5,6,7],[vs9,Su,vs1,vs1],[⟨.ret,[2],[vs1],[]⟩,⟨.exit 0,[],[],[]⟩],[]⟩else
 bif kk f k r 170 av 5 then⟨[0,1,4,6],[vs9,vs1,vs0,vs1],[⟨.exit 0,[0,1,4,6],[vs9,vs1,vs0,vs1],[]⟩],[]⟩else
 bif kk f k r 170 av 15 then⟨[0,1,4,6],[vs9,vs1,vs0,vs1],[⟨.exit 2,[0,1,4,6],[vs9,vs1,vs0,vs1],[]⟩],[]⟩else
 bif kk f k r 170 ar 17 then⟨[0,1,4,6],[vs9,vs1,vs0,vs1],[⟨.ret,[4,5],[vs0,dY],[]⟩],[]⟩else
 bif kk f k r 170 av 20 then⟨[0,1,4,6,9],[vs9,vs1,vs0,vs1,vs1],[⟨.exit 4,[0,1,4,6,9],[vs9,vs1,vs0,vs1,vs1],[]⟩],[]⟩else
 bif kk f k r 170 ar 22 then⟨[0,1,4,6,9],[vs9,vs1,vs0,vs1,vs1],[⟨.ret,[4,5],[vs0,dY],[]⟩],[]⟩else
 bif kk f k r 170 ar 26 then⟨[0,1,4,6,9],[vs9,vs1,vs0,vs1,vs1],[⟨.ret,[4,5],[vs0,dY],[]⟩,⟨.normal,[0,1,4,6,9],[vs9,vs1,vs0,vs1,vs1],[]⟩],[]⟩else
 bif kk f k r 170 av 29 then⟨[0,1,4,6,9],[vs9,vs1,vs0,vs1,vs1],[⟨.exit 6,[0,1,4,6,9],[vs9,vs1,vs0,vs1,vs1],[]⟩],[]⟩else
 bif kk f k r 170 ar 31 then⟨[0,1,4,6,9],[vs9,vs1,vs0,vs1,vs1],[⟨.ret,[4,5],[vs0,dY],[]⟩],[]⟩else
 bif kk f k r 176 ar 21 then⟨[0,1,2,8,9],[vs9,vs1,vs1,dY,vs9],[⟨.ret,[6,7],[u7,PN],[]⟩],[]⟩else
 bif kk f k r 176 ar 25 then⟨[0,1,2,8,9],[vs9,vs1,vs1,dY,vs9],[⟨.ret,[6,7],[u7,PN],[]⟩],[]⟩else
 bif kk f k r 176 ar 32 then⟨[0,1,2,8,9,10],[vs9,vs1,vs1,dY,vs9,u7],[⟨.ret,[6,7],[u7,PN],[]⟩],[]⟩else
 bif kk f k r 176 av 36 then⟨[1,8,9,10,11,12,13,99,100,101],[vs1,dY,vs9,u7,u7,dY,u7,U6,vs1,vs1],[⟨.ret,[6,7],[u7,PN],[]⟩,⟨.exit 3,[9,12,13],[vs9,dY,u7],[]⟩],[]⟩else
 bif kk f k r 176 ar 46 then⟨[1,8,9,10,11,12,13,16,99,100,101],[vs1,dY,vs9,u7,u7,dY,u7,Et,U6,vs1,vs1],[⟨.ret,[6,7],[u7,PN],[]⟩,⟨.normal,[1,8,9,10,11,12,13,99,100,101],[vs1,dY,vs9,u7,u7,dY,u7,U6,vs1,vs1],[]⟩],[]⟩else
 bif kk f k r 181 ar 5 then⟨[0,3,4],[vs9,WZ,vs1],[⟨.ret,[2],[dY],[]⟩],[]⟩else
 bif kk f k r 181 av 10 then⟨[0,3,4,5],[vs9,WZ,vs1,dY],[⟨.ret,[2],[dY],[]⟩,⟨.exit 0,[3],[WZ],[]⟩],[]⟩else
 bif kk f k r 181 ar 1010 then⟨[0,3,4,5],[vs9,WZ,vs1,dY],[⟨.ret,[2],[dY],[]⟩],[]⟩else
 ⟨[],[],[],[]⟩
def lib (f:Nat):Option Callee:=
 bif aw f 35 then J ⟨⟨[.one (.ptr ar (0,Bld.places) .uY), .one (.fh (.int .u8))], .val (.one .err)⟩,Bld.mj⟩else
 bif aw f 20 then J ⟨⟨[.one (.ptr ar (0,Bld.places) .uY), .one (.fh .str)], .yc [.one (.fh (.int .i64)), .one .err]⟩,Bld.kA⟩else
 bif aw f 22 then J ⟨⟨[.one (.Bc Bld.places)], .val (.one (.fh .str))⟩,Bld.vD⟩else
 bif aw f 131 then J ⟨⟨[.one (.fh .str), .one (.fh (.int .u8))], .val (.one (.fh (.int .i64)))⟩,Bld.uH⟩else
 bif aw f 175 then J ⟨⟨[.one (.fh .str), .one (.fh (.int .i64)), .one (.fh (.int .i64))], .yc [.one (.fh (.int .i64)), .one .err]⟩,Lx.rh⟩else
 bif aw f 18 then J ⟨⟨[.one (.fh (.int .i64)), .one (.fh (.int .i64))], .val (.one (.fh .str))⟩,Lx.pT⟩else
 bif aw f 17 then J ⟨⟨[.one (.fh (.int .i64))], .val (.one (.fh .str))⟩,Lx.sZ⟩else
 bif aw f 21 then J ⟨⟨[.one (.fh (.sl .str)), .one (.fh .str)], .val (.one (.fh .str))⟩,Lx.E2⟩else
 ay
noncomputable def S:Sys:={P:=aZ,fH:=λk=>bif aw k 4 then J [.v (.sl .str) Lx.words]else bif aw k 5 then J [.v (.sl .str) Lx.pC]else bif aw k 6 then J [.v (.sl .str) Lx.xz]else Lx.tables k,cl:=0,sig:=sig,known:=known,oH:=oH,De:=De,cut:=cut,lib:=lib,bors:=[(4,12),(13,31)],trim:=λf=>aw f 45}
abbrev TT0:=LI×Int×Int×Int×Unit
abbrev TT1:=Unit×Unit×Unit×Unit×Unit×Unit×Unit×Unit×Unit×Unit
abbrev TT2:=List cR.den×Unit
abbrev TT3:=List cZ.den×Int×List cR.den×Unit
abbrev TT4:=TT0×List cR.den×Int×Unit
abbrev TT5:=TT2×LI×Int×Unit
abbrev TT6:=Bool×Unit×Unit
abbrev TT7:=Unit×Unit×Unit×Unit×Unit×Unit×Unit
abbrev TT8:=List ja.den×Unit
abbrev TT9:=cZ.den×Int×Unit
abbrev xG:=Bool×Unit
abbrev FI:=LI×Bool×Unit
abbrev xI:=Unit×Unit
abbrev LK:=(LI×Unit)⊕Empty
abbrev U2:=xG⊕(TT2×cR.den×Int×Unit)⊕Empty
abbrev LG:=Int×TT4×Unit×Unit
abbrev W3:=(LI×cZ.den×cZ.den×Int×Unit)⊕Empty
abbrev N1:=cZ.den×Bool×Unit
abbrev N2:=LI×Unit×Unit
abbrev aj8:=TT8×LI×Int×List cZ.den×ja.den
abbrev ai1:=aj8⊕(TT8×List cZ.den×ja.den)⊕aj8⊕Empty
abbrev PM:=Unit×TT5×Unit×Unit
abbrev NY:=(TT5×Unit)⊕Empty
abbrev LO:=ja.den×Unit
abbrev N5:=Int×Bool×Unit
abbrev W7:=(TT3×cR.den×Unit)⊕Empty
abbrev ZE:=(LI×Int×cZ.den×Int×Unit)⊕Empty
abbrev U3:=TT4×Int×Unit
abbrev U4:=U3⊕U3⊕Empty
abbrev W5:=(TT4×LI×Unit)⊕Empty
abbrev PK:=Int×TT3×Unit
abbrev Xa:=cR.den×LI×Unit
abbrev Sx:=TT3×Int×Unit
abbrev Xf:=Bool×Unit×Unit×Unit
abbrev Zw:=LI×Int×cZ.den×ja.den
abbrev ai7:=(TT2×cR.den×List eS.den×Int×LI×ja.den)⊕Empty
abbrev Xj:=Int×Unit×Unit×Unit
abbrev WY:=TT9×Unit×TT7×Unit
abbrev U5:=Int×Unit×Unit
abbrev Xb:=LI×xI×Unit
variable(T:S.Tab)
theorem YR:(fns.all S.PQ)=true:=by kernel_rfl
theorem eF {f:FuncId}{fn:Func}(h:S.P.funcs[f]?=J fn){T:S.Tab}{x:(S.sig f).dom.den}{y:Option (S.sig f).cod.den}(e:Ii (S.env T f fn.ntmps) fn (S.sig f) (S.Dh T f) x=y:=by kernel_rfl):(S.step T).fn f x=y:=(Sys.WH (S:=S) h T x).trans e
theorem eL {f:FuncId}{fn:Func}{c:Code}(h:S.P.funcs[f]?=J fn)(hb:fn.body=J c:=by rfl){T:S.Tab} {r:Nat} {x:(eI (S.cut f av r).as).den} {y:Option (qd (S.cut f av r).ws)} (e:(S.cut f av r).round (S.env T f fn.ntmps) (S.Dh T f) (mT av r (dZ c)) (T.pc f av r) x=y:=by kernel_rfl):(S.step T).pc f av r x=y:=(Sys.S8 (S:=S) h hb T x).trans e
theorem eJ {f:FuncId}{fn:Func}{c:Code}(h:S.P.funcs[f]?=J fn)(hb:fn.body=J c:=by rfl){T:S.Tab} {r:Nat} {x:(eI (S.cut f ar r).as).den} {y:Option (qd (S.cut f ar r).ws)} (e:(S.cut f ar r).tail (S.env T f fn.ntmps) (S.Dh T f) (mT ar r (dZ c)) x=y:=by kernel_rfl):(S.step T).pc f ar r x=y:=(Sys.Tt (S:=S) h hb T x).trans e
def ni (t0:TT0):Option (Int×TT0×Unit):=T.fn 101 (t0,())
def dh (t0:TT0)(t1:Int):Option (Int×TT0×Unit×Unit):=T.fn 54 (t0,t1,())
def dF (t0:TT4)(t1:cR.den):Option (Int×TT4×TT1×Unit):=T.fn 106 (t0,t1,())
def qX (t0:TT0):Option (Int×TT0×Unit):=T.fn 160 (t0,())
def qY (t0:TT0)(t1:Int):Option (LI×TT0×Unit×Unit):=T.fn 168 (t0,t1,())
def mr (t0:TT0)(t1:Int)(t5:LI):Option ((TT0×LI×Unit)⊕Empty):=T.pc 168 av 2 (t0,t1,t5,())
def uu (t0:TT0):Option (LI×TT0×Unit):=T.fn 161 (t0,())
def mQ (t0:TT0)(t3:LI):Option ((TT0×LI×Unit)⊕Empty):=T.pc 161 av 12 (t0,t3,())
def im (t0:TT4):Option (LI×TT4×Unit):=T.fn 145 (t0,())
def pz (t0:TT4):Option (Int×TT4×Unit):=T.fn 146 (t0,())
def oL (t0:TT4)(t11:Int)(t20:Bool):Option (U3⊕(TT4×Unit)⊕Empty):=T.pc 146 ar 7 (t0,t11,t20,())
def eX (t0:TT4)(t1:Int)(t2:LI):Option (Int×TT4×Unit×Unit×Unit):=T.fn 103 (t0,t1,t2,())
def kR (t0:TT4)(t1:Int):Option LG:=T.fn 147 (t0,t1,())
def je (t0:TT4)(t1:Int)(t5:LI)(t6:Int):Option W5:=T.pc 147 av 3 (t0,t1,t5,t6,())
def jg (t0:TT4)(t1:Int):Option (List LI×TT4×Unit×Unit):=T.fn 104 (t0,t1,())
def nP (t0:TT4)(t1:Int)(t5:List LI):Option ((TT4×List LI×Unit)⊕Empty):=T.pc 104 av 2 (t0,t1,t5,())
def fR (t0:TT4)(t1:Int):Option LG:=T.fn 111 (t0,t1,())
def nN (t0:TT4)(t1:Int)(t5:LI)(t6:Int):Option W5:=T.pc 111 av 3 (t0,t1,t5,t6,())
def mL (t0:TT4)(t1:Int):Option LG:=T.fn 108 (t0,t1,())
def eB (t0:TT4)(t1:Int):Option LG:=T.fn 107 (t0,t1,())
def jC (t0:TT4)(t1:Int)(t31:Int)(t32:Bool):Option U4:=T.pc 107 ar 9 (t0,t1,t31,t32,())
def lO (t0:TT4)(t1:Int)(t31:Int)(t72:Bool):Option U4:=T.pc 107 ar 18 (t0,t1,t31,t72,())
def hY (t0:TT4)(t1:Int):Option (U3⊕Empty):=T.pc 107 ar 34 (t0,t1,())
def jK (t0:TT4)(t1:Int):Option LG:=T.fn 144 (t0,t1,())
def kQ (t0:TT4)(t1:Int)(t2:Int):Option (LI×TT4×Unit×Unit×Unit):=T.fn 105 (t0,t1,t2,())
def nU (t0:TT4)(t1:Int)(t2:Int)(t7:LI):Option W5:=T.pc 105 av 2 (t0,t1,t2,t7,())
def gQ (t0:TT4)(t1:Int):Option LG:=T.fn 102 (t0,t1,())
def oK (t0:TT4)(t6:LI)(t23:LI)(t24:Int)(t25:Int):Option W5:=T.pc 102 av 4 (t0,t6,t23,t24,t25,())
def mZ (t0:TT4)(t1:Int):Option LG:=T.fn 109 (t0,t1,())
def ll (t0:TT4)(t1:Int):Option LG:=T.fn 110 (t0,t1,())
def rq (t0:TT4)(t1:Int):Option LG:=T.fn 55 (t0,t1,())
def mz (t0:TT4)(t1:Int)(t49:Int)(t50:Bool):Option U4:=T.pc 55 ar 8 (t0,t1,t49,t50,())
def j7 (t0:TT4)(t1:Int)(t49:Int)(t92:Bool):Option U4:=T.pc 55 ar 20 (t0,t1,t49,t92,())
def lP (t0:TT4)(t1:Int)(t49:Int)(t141:Bool):Option U4:=T.pc 55 ar 38 (t0,t1,t49,t141,())
def j6 (t0:TT4)(t1:Int):Option (U3⊕Empty):=T.pc 55 ar 66 (t0,t1,())
def nO (t0:TT4)(t1:Int)(t11:LI)(t12:Int)(t13:Int):Option ((TT4×Int×LI×Int×Unit)⊕Empty):=T.pc 55 av 23 (t0,t1,t11,t12,t13,())
def nR (t0:TT4)(t11:LI)(t12:Int)(t116:LI)(t117:Int)(t118:Int):Option ((TT4×LI×Int×Unit)⊕Empty):=T.pc 55 av 28 (t0,t11,t12,t116,t117,t118,())
def sG (t0:TT0):Option (TT2×TT0×Unit):=T.fn 29 (t0,())
def mO (t2:TT2)(t3:TT4)(t4:Int)(t5:LI)(t6:Int):Option ((TT2×TT4×LI×Unit)⊕Empty):=T.pc 29 av 5 (t2,t3,t4,t5,t6,())
abbrev cO:Unit×Unit:=((),())
def oA (t0:Int):Option TT6:=T.fn 51 (t0,())
abbrev lU:xI×TT1×Unit×Unit:=(((),()),(((),((),((),((),((),((),((),((),((),()))))))))),((),())))
def ey (t0:TT2)(t1:cR.den)(t2:Int):Option (Int×xI×TT1×Unit×Unit):=T.fn 94 (t0,t1,t2,())
abbrev dW:TT1×Unit×Unit×Unit×Unit×Unit:=(((),((),((),((),((),((),((),((),((),()))))))))),((),((),((),((),())))))
def dN (t0:cR.den)(t1:Bool)(t2:Bool)(t3:Bool)(t4:Bool):Option (Bool×TT1×Unit×Unit×Unit×Unit×Unit):=T.fn 95 (t0,t1,t2,t3,t4,())
def jI (t0:Int):Option TT6:=T.fn 69 (t0,())
abbrev cQ:Unit×Unit×Unit:=((),((),()))
def eH (t0:LI)(t1:Int):Option Xj:=T.fn 68 (t0,t1,())
def eV (t0:Int):Option TT6:=T.fn 71 (t0,())
abbrev qp:Unit:=()
def tb:Option (List LI×Unit):=T.fn 133 ()
abbrev eP:Unit×TT7×Unit:=((),(((),((),((),((),((),((),())))))),()))
def vy (t0:LI)(t1:cZ.den):Option WY:=T.fn 70 (t0,t1,())
def jj (t0:LI)(t3:cZ.den)(t4:cZ.den)(t6:Int):Option W3:=T.pc 70 av 2 (t0,t3,t4,t6,())
def ji (t3:cZ.den)(t4:cZ.den)(t7:LI)(t32:List LI)(t33:Int)(t34:Int):Option (TT9⊕(cZ.den×cZ.den×LI×Unit)⊕Empty):=T.pc 70 av 8 (t3,t4,t7,t32,t33,t34,())
def pR (t0:Int):Option U5:=T.fn 135 (t0,())
def s7 (t0:LI)(t1:cZ.den):Option WY:=T.fn 134 (t0,t1,())
def mX (t0:LI)(t3:cZ.den)(t4:cZ.den)(t6:Int)(t7:Int):Option (TT9⊕(cZ.den×cZ.den×Int×Int×Unit)⊕Empty):=T.pc 134 av 3 (t0,t3,t4,t6,t7,())
def vL (t0:LI)(t1:cZ.den):Option WY:=T.fn 72 (t0,t1,())
def gS (t0:LI)(t3:cZ.den)(t4:cZ.den)(t6:Int):Option (TT9⊕Empty):=T.pc 72 ar 9 (t0,t3,t4,t6,())
def fC (t0:LI)(t3:cZ.den)(t4:cZ.den)(t6:Int):Option (TT9⊕Empty):=T.pc 72 ar 14 (t0,t3,t4,t6,())
def gz (t0:LI)(t3:cZ.den)(t4:cZ.den)(t6:Int):Option (TT9⊕Empty):=T.pc 72 ar 23 (t0,t3,t4,t6,())
def gT (t0:LI)(t3:cZ.den)(t4:cZ.den)(t6:Int):Option W3:=T.pc 72 av 7 (t0,t3,t4,t6,())
def ia (t0:LI)(t3:cZ.den)(t4:cZ.den)(t6:Int):Option W3:=T.pc 72 av 12 (t0,t3,t4,t6,())
def fD (t0:LI)(t3:cZ.den)(t4:cZ.den)(t6:Int):Option W3:=T.pc 72 av 21 (t0,t3,t4,t6,())
def eD (t0:LI)(t3:cZ.den)(t4:cZ.den)(t6:Int)(t7:Int)(t8:Int):Option ((LI×cZ.den×cZ.den×Int×Int×Unit)⊕Empty):=T.pc 72 av 26 (t0,t3,t4,t6,t7,t8,())
def rD (t0:LI)(t1:cZ.den):Option WY:=T.fn 73 (t0,t1,())
def jf (t0:LI)(t3:cZ.den)(t4:cZ.den)(t6:Int)(t7:LI)(t46:Int)(t59:Bool):Option ((LI×cZ.den×cZ.den×Int×LI×Unit)⊕TT9⊕Empty):=T.pc 73 ar 24 (t0,t3,t4,t6,t7,t46,t59,())
def dK (t0:LI)(t3:cZ.den)(t4:cZ.den)(t6:Int)(t7:LI):Option (TT9⊕(cZ.den×cZ.den×Int×Unit)⊕Empty):=T.pc 73 av 4 (t0,t3,t4,t6,t7,())
def j5 (t0:LI)(t3:cZ.den)(t4:cZ.den)(t6:Int)(t7:LI)(t9:Int):Option (TT9⊕(LI×cZ.den×cZ.den×Int×LI×Unit)⊕Empty):=T.pc 73 av 27 (t0,t3,t4,t6,t7,t9,())
def oS:Option (List LI×Unit):=T.fn 74 ()
def lY (t0:LI):Option U5:=T.fn 75 (t0,())
def ir (t0:LI)(t3:List LI)(t4:Int):Option ((Int×Unit)⊕(LI×Unit)⊕Empty):=T.pc 75 av 3 (t0,t3,t4,())
def jh (t0:LI)(t24:List LI)(t25:Int)(t26:Int):Option ((Int×Unit)⊕(Unit)⊕Empty):=T.pc 75 av 9 (t0,t24,t25,t26,())
def iS (t0:LI)(t1:Int):Option (TT9×Unit×Unit×Unit):=T.fn 43 (t0,t1,())
def gM (t0:LI)(t1:Int)(t4:cZ.den)(t6:cZ.den)(t43:List LI)(t44:Int)(t45:Int):Option (TT9⊕(Int×cZ.den×cZ.den×Unit)⊕Empty):=T.pc 43 av 14 (t0,t1,t4,t6,t43,t44,t45,())
def jM (t0:LI):Option TT6:=T.fn 100 (t0,())
abbrev mF:TT1×Unit×Unit×Unit:=(((),((),((),((),((),((),((),((),((),()))))))))),((),((),())))
def jP (t0:cR.den)(t1:Int)(t2:Int):Option (Bool×TT1×Unit×Unit×Unit):=T.fn 96 (t0,t1,t2,())
def iD (t22:List LI)(t23:Int)(t24:Int):Option (xG⊕(Unit)⊕Empty):=T.pc 96 av 4 (t22,t23,t24,())
def zk (t0:Int):Option TT6:=T.fn 143 (t0,())
abbrev fg:xI×TT1×Unit×Unit×Unit:=(((),()),(((),((),((),((),((),((),((),((),((),()))))))))),((),((),()))))
def dL (t0:TT2)(t1:cR.den)(t2:Int)(t3:Int):Option (Bool×xI×TT1×Unit×Unit×Unit):=T.fn 97 (t0,t1,t2,t3,())
def pL (t3:Int)(t4:TT2)(t5:cR.den)(t9:Int):Option (xG⊕(Unit)⊕Empty):=T.pc 97 av 2 (t3,t4,t5,t9,())
def vT (t0:Int):Option TT6:=T.fn 98 (t0,())
abbrev dc:xI×TT1×Unit:=(((),()),(((),((),((),((),((),((),((),((),((),()))))))))),()))
def oN (t0:TT2)(t1:cR.den):Option (Bool×xI×TT1×Unit):=T.fn 52 (t0,t1,())
def jW (t2:TT2)(t3:cR.den)(t5:Int)(t12:Int)(t113:Bool):Option U2:=T.pc 52 ar 28 (t2,t3,t5,t12,t113,())
def iO (t2:TT2)(t3:cR.den)(t5:Int)(t12:Int)(t240:Bool):Option U2:=T.pc 52 ar 41 (t2,t3,t5,t12,t240,())
def gG (t2:TT2)(t3:cR.den)(t5:Int):Option (xG⊕Empty):=T.pc 52 ar 46 (t2,t3,t5,())
def fM (t2:TT2)(t3:cR.den)(t17:Int)(t18:Int):Option (xG⊕(cR.den×Unit)⊕Empty):=T.pc 52 av 5 (t2,t3,t17,t18,())
def fB (t2:TT2)(t3:cR.den)(t5:Int)(t7:Int):Option U2:=T.pc 52 av 21 (t2,t3,t5,t7,())
def qy (t0:LI):Option TT6:=T.fn 99 (t0,())
def nS (t0:TT2)(t1:cR.den):Option (Bool×xI×TT1×Unit):=T.fn 53 (t0,t1,())
def gH (t2:TT2)(t3:cR.den)(t5:Int)(t12:Int)(t13:Bool):Option U2:=T.pc 53 ar 7 (t2,t3,t5,t12,t13,())
def il (t2:TT2)(t3:cR.den)(t5:Int)(t12:Int)(t72:Bool):Option U2:=T.pc 53 ar 18 (t2,t3,t5,t12,t72,())
def fi (t2:TT2)(t3:cR.den)(t5:Int):Option (xG⊕Empty):=T.pc 53 ar 46 (t2,t3,t5,())
def fj (t2:TT2)(t3:cR.den)(t199:Int)(t200:Int):Option (xG⊕(cR.den×Unit)⊕Empty):=T.pc 53 av 31 (t2,t3,t199,t200,())
abbrev df:xI×Unit×Unit:=(((),()),((),()))
def jO (t0:TT2)(t1:Int):Option (Bool×xI×Unit×Unit):=T.fn 27 (t0,t1,())
def gq (t1:Int)(t2:TT2)(t5:cR.den)(t35:LI)(t36:Int)(t37:Int):Option (xG⊕(TT2×cR.den×Unit)⊕Empty):=T.pc 27 av 5 (t1,t2,t5,t35,t36,t37,())
abbrev dw:xI×Unit:=(((),()),())
def oR (t0:TT2):Option Xb:=T.fn 28 (t0,())
def gN (t3:LI)(t15:List cR.den)(t16:Int)(t17:Int):Option LK:=T.pc 28 av 3 (t3,t15,t16,t17,())
def lq (t3:LI)(t4:Int)(t5:cR.den)(t6:Int)(t7:Bool)(t8:Int)(t15:List cR.den)(t16:Int)(t17:Int):Option ((LI×Int×Int×Bool×List cR.den×ja.den)⊕Empty):=T.pc 28 av 8 (t3,t4,t5,t6,t7,t8,t15,t16,t17,())
def jZ (t0:TT2):Option (ja.den×xI×Unit):=T.fn 12 (t0,())
def iu (t1:TT2)(t2:ja.den)(t38:Int)(t39:Int):Option (LO⊕(TT2×ja.den×Unit)⊕Empty):=T.pc 12 av 4 (t1,t2,t38,t39,())
def gg (t1:TT2)(t2:ja.den)(t4:LI)(t51:LI)(t52:Int)(t53:Int):Option (LO⊕(TT2×ja.den×LI×Unit)⊕Empty):=T.pc 12 av 11 (t1,t2,t4,t51,t52,t53,())
def ng (t1:TT2)(t2:ja.den)(t7:LI)(t8:Int):Option ((ja.den×LI×Unit)⊕Empty):=T.pc 12 av 20 (t1,t2,t7,t8,())
def nh (t1:TT2)(t2:ja.den)(t7:LI)(t8:Int)(t93:LI)(t94:Int)(t95:Int):Option ((TT2×ja.den×LI×Int×Unit)⊕Empty):=T.pc 12 av 23 (t1,t2,t7,t8,t93,t94,t95,())
def iB (t2:ja.den)(t108:LI)(t109:Int)(t110:Int):Option (LO⊕LO⊕Empty):=T.pc 12 av 28 (t2,t108,t109,t110,())
def cY (t0:TT5)(t1:LI):Option PM:=T.fn 59 (t0,t1,())
def rA (t0:TT5):Option (Unit×TT5×Unit):=T.fn 148 (t0,())
def mA (t0:TT5)(t2:Int):Option NY:=T.pc 148 av 2 (t0,t2,())
def fe (t0:TT5)(t1:Int):Option PM:=T.fn 112 (t0,t1,())
def lL (t0:TT5)(t30:LI)(t31:Int)(t32:Int):Option NY:=T.pc 112 av 6 (t0,t30,t31,t32,())
def mC (t0:TT5)(t1:List LI):Option PM:=T.fn 113 (t0,t1,())
def ie (t0:TT5)(t6:List LI)(t7:Int)(t8:Int):Option NY:=T.pc 113 av 1 (t0,t6,t7,t8,())
def jQ (t0:Int):Option (ja.den×Unit×Unit):=T.fn 142 (t0,())
abbrev fQ:TT1×Unit:=(((),((),((),((),((),((),((),((),((),()))))))))),())
def xl (t0:cR.den):Option (Int×TT1×Unit):=T.fn 149 (t0,())
def qv (t0:cR.den):Option (Int×TT1×Unit):=T.fn 162 (t0,())
def ox (t0:TT5)(t1:cR.den)(t2:LI)(t3:Int):Option (Unit×TT5×TT1×Unit×Unit×Unit):=T.fn 150 (t0,t1,t2,t3,())
def fK (t0:Int):Option N2:=T.fn 136 (t0,())
def gI (t0:Int)(t23:List LI)(t24:Int)(t25:Int):Option ((LI×Unit)⊕(Unit)⊕Empty):=T.pc 136 av 7 (t0,t23,t24,t25,())
def uy (t0:TT5)(t1:cR.den):Option (Unit×TT5×TT1×Unit):=T.fn 151 (t0,t1,())
def fW (t0:TT5)(t3:cR.den):Option NY:=T.pc 151 ar 12 (t0,t3,())
def zc (t0:Int):Option TT6:=T.fn 163 (t0,())
def py (t0:TT5)(t1:Int):Option PM:=T.fn 152 (t0,t1,())
def ur (t0:TT5)(t1:cR.den):Option (Unit×TT5×TT1×Unit):=T.fn 153 (t0,t1,())
def lN (t0:TT5)(t5:Int)(t10:LI)(t11:Int)(t12:Int):Option ((TT5×LI×ja.den)⊕Empty):=T.pc 153 ar 7 (t0,t5,t10,t11,t12,())
def ig (t0:TT5)(t10:LI)(t11:Int)(t12:Int):Option NY:=T.pc 153 av 3 (t0,t10,t11,t12,())
def rB (t0:TT5)(t1:Int):Option PM:=T.fn 116 (t0,t1,())
def gJ (t0:Int):Option N2:=T.fn 39 (t0,())
def kO (t4:LI)(t6:LI):Option LK:=T.pc 39 ar 14 (t4,t6,())
def ik (t0:Int)(t3:Bool)(t4:LI):Option ((Bool×LI×Unit)⊕Empty):=T.pc 39 av 5 (t0,t3,t4,())
def jx (t4:LI)(t6:LI)(t7:Int):Option LK:=T.pc 39 av 15 (t4,t6,t7,())
def uI (t0:Int):Option N2:=T.fn 164 (t0,())
def mf (t0:Int)(t3:LI)(t4:LI)(t5:Int):Option LK:=T.pc 164 av 6 (t0,t3,t4,t5,())
def lV (t0:LI):Option N2:=T.fn 40 (t0,())
def fz (t0:LI)(t3:LI)(t4:LI)(t5:Int):Option LK:=T.pc 40 av 4 (t0,t3,t4,t5,())
def uz (t0:TT5)(t1:cR.den):Option (Unit×TT5×TT1×Unit):=T.fn 154 (t0,t1,())
def dG (t0:TT5)(t1:Int)(t2:Int):Option (Unit×TT5×Unit×Unit×Unit):=T.fn 115 (t0,t1,t2,())
def iq (t0:TT5)(t1:LI):Option PM:=T.fn 114 (t0,t1,())
def ic (t0:TT5)(t6:LI)(t7:Int)(t8:Int):Option NY:=T.pc 114 av 1 (t0,t6,t7,t8,())
def pJ (t0:TT5)(t1:cR.den)(t2:LI):Option (Unit×TT5×TT1×Unit×Unit):=T.fn 117 (t0,t1,t2,())
def ry (t0:TT5)(t1:Int):Option PM:=T.fn 58 (t0,t1,())
def nL (t0:TT5)(t4:cR.den)(t15:Int)(t119:Bool):Option NY:=T.pc 58 ar 31 (t0,t4,t15,t119,())
def uG (t0:TT2):Option Xb:=T.fn 31 (t0,())
def nC (t4:TT5)(t23:LI)(t24:Int)(t25:Int):Option NY:=T.pc 31 av 6 (t4,t23,t24,t25,())
def nz (t0:TT8)(t1:Int)(t2:Int):Option (Int×TT8×Unit×Unit×Unit):=T.fn 47 (t0,t1,t2,())
def uw (t0:TT8):Option (Int×TT8×Unit):=T.fn 41 (t0,())
def mg (t0:LI)(t1:Int):Option Xj:=T.fn 42 (t0,t1,())
def eE (t0:LI)(t1:Int):Option ((Int×Unit)⊕(Int×Unit)⊕Empty):=T.pc 42 av 1 (t0,t1,())
def iR (t0:LI)(t1:Int):Option ((LI×Int×Unit)⊕Empty):=T.pc 42 av 7 (t0,t1,())
def di (t0:LI):Option N2:=T.fn 77 (t0,())
def se (t0:Int):Option (FI×Unit×Unit):=T.fn 78 (t0,())
def lk (t0:Int)(t4:Int)(t35:Bool):Option (FI⊕(Unit)⊕Empty):=T.pc 78 ar 16 (t0,t4,t35,())
def eG (t0:Int):Option TT6:=T.fn 137 (t0,())
def fv (t0:Int):Option TT6:=T.fn 79 (t0,())
abbrev dU:Unit×Unit×Unit×Unit:=((),((),((),())))
def gu (t0:Int)(t1:Int)(t2:Int):Option (LI×Unit×Unit×Unit×Unit):=T.fn 138 (t0,t1,t2,())
def oz (t0:Int)(t1:Int):Option (FI×Unit×Unit×Unit):=T.fn 80 (t0,t1,())
def jd (t0:Int)(t1:Int)(t6:LI)(t9:Int)(t10:Bool):Option ((Int×Int×LI×Unit)⊕Empty):=T.pc 80 ar 6 (t0,t1,t6,t9,t10,())
def iJ (t0:Int)(t1:Int)(t6:LI):Option (FI⊕Empty):=T.pc 80 ar 13 (t0,t1,t6,())
def iK (t0:Int)(t1:Int):Option (FI⊕Empty):=T.pc 80 ar 22 (t0,t1,())
def r9 (t0:Int):Option (FI×Unit×Unit):=T.fn 139 (t0,())
def mS (t0:Int):Option TT6:=T.fn 140 (t0,())
def oy (t0:Int)(t1:Int):Option (FI×Unit×Unit×Unit):=T.fn 81 (t0,t1,())
def jy (t0:Int)(t1:Int)(t6:Int)(t49:Bool):Option (FI⊕(Int×Unit)⊕Empty):=T.pc 81 ar 24 (t0,t1,t6,t49,())
def kJ (t0:Int)(t1:Int):Option (FI×Unit×Unit×Unit):=T.fn 46 (t0,t1,())
def eK (t0:Int)(t1:Int)(t93:Bool):Option (FI⊕(ja.den)⊕Empty):=T.pc 46 ar 52 (t0,t1,t93,())
def eM (t0:Int)(t1:Int):Option (FI⊕Empty):=T.pc 46 ar 53 (t0,t1,())
def mh (t0:TT8)(t1:Int)(t2:Int):Option (N5×TT8×Unit×Unit×Unit):=T.fn 25 (t0,t1,t2,())
def gr (t0:TT8)(t1:Int)(t2:Int):Option ((TT8×Int×Bool×Unit)⊕(TT8×Int×Unit)⊕Empty):=T.pc 25 av 1 (t0,t1,t2,())
def lM (t0:TT8)(t1:Int)(t2:Int)(t9:LI)(t11:Int):Option ((TT8×ja.den)⊕Empty):=T.pc 25 av 10 (t0,t1,t2,t9,t11,())
def s8 (t0:TT8)(t1:Int):Option (LI×TT8×Unit×Unit):=T.fn 45 (t0,t1,())
def lj (t0:TT8)(t1:Int)(t5:LI)(t6:Int)(t7:Int):Option ((TT8×LI×Unit)⊕Empty):=T.pc 45 av 4 (t0,t1,t5,t6,t7,())
def xn (t0:LI)(t1:LI):Option Xf:=T.fn 76 (t0,t1,())
def dz (t1:LI)(t16:LI)(t17:Int)(t18:Int):Option (xG⊕(Unit)⊕Empty):=T.pc 76 av 4 (t1,t16,t17,t18,())
def qw (t0:LI)(t1:Int)(t2:LI):Option (Int×Unit×Unit×Unit×Unit):=T.fn 44 (t0,t1,t2,())
def ko (t0:LI)(t1:Int)(t2:LI)(t7:Int):Option ((ja.den)⊕Empty):=T.pc 44 av 2 (t0,t1,t2,t7,())
def p9 (t0:TT8)(t1:LI):Option ((List cZ.den×ja.den)×TT8×Unit×Unit):=T.fn 24 (t0,t1,())
def fY (t0:TT8)(t1:LI)(t7:Int)(t8:List cZ.den)(t9:Int)(t10:Int)(t11:cZ.den)(t12:Int)(t13:Int):Option ai1:=T.pc 24 ar 12 (t0,t1,t7,t8,t9,t10,t11,t12,t13,())
def iG (t0:TT8)(t1:LI)(t7:Int)(t8:List cZ.den)(t9:Int)(t10:Int)(t11:cZ.den)(t12:Int)(t13:Int)(t14:Int)(t15:Bool):Option ai1:=T.pc 24 ar 16 (t0,t1,t7,t8,t9,t10,t11,t12,t13,t14,t15,())
def ep (t0:TT8)(t1:LI)(t7:Int)(t8:List cZ.den)(t9:Int)(t10:Int):Option ((TT8×List cZ.den×ja.den)⊕(TT8×LI×Int×List cZ.den×Int×Unit)⊕Empty):=T.pc 24 av 5 (t0,t1,t7,t8,t9,t10,())
def mi (t0:LI):Option ((List cZ.den×Int×Unit)×Unit×Unit):=T.fn 10 (t0,())
def xm (t0:Int):Option TT6:=T.fn 56 (t0,())
def oM (t0:TT0):Option (LI×TT0×Unit):=T.fn 57 (t0,())
def qS (t0:TT0)(t1:LI):Option (LI×TT0×Unit×Unit):=T.fn 30 (t0,t1,())
def jV (t0:TT0)(t1:LI)(t7:LI)(t9:cZ.den)(t10:LI)(t18:List cZ.den)(t19:Int)(t20:Int):Option ((TT0×LI×LI×List cZ.den×ja.den)⊕Empty):=T.pc 30 ar 11 (t0,t1,t7,t9,t10,t18,t19,t20,())
def gY (t0:TT0)(t1:LI)(t7:LI)(t18:List cZ.den)(t19:Int)(t20:Int):Option ((TT0×LI×Unit)⊕Empty):=T.pc 30 av 4 (t0,t1,t7,t18,t19,t20,())
def sE (t0:TT0):Option (LI×TT0×Unit):=T.fn 13 (t0,())
def D3 (t0:LI):Option N2:=T.fn 5 (t0,())
def eY (t0:TT3):Option PK:=T.fn 48 (t0,())
def iT (t0:TT3)(t1:Int):Option (Bool×TT3×Unit×Unit):=T.fn 49 (t0,t1,())
def dD (t0:TT3):Option (cZ.den×TT3×Unit):=T.fn 84 (t0,())
def dT (t0:Int)(t1:cZ.den):Option (cR.den×Unit×TT7×Unit):=T.fn 85 (t0,t1,())
def dy (t0:TT3)(t1:cR.den):Option (Int×TT3×TT1×Unit):=T.fn 88 (t0,t1,())
def gi (t0:TT3):Option PK:=T.fn 82 (t0,())
def xp (t0:Int):Option U5:=T.fn 158 (t0,())
def rz (t0:TT3)(t1:cR.den):Option (Int×TT3×TT1×Unit):=T.fn 90 (t0,t1,())
def kL (t0:TT3)(t3:cR.den):Option W7:=T.pc 90 av 2 (t0,t3,())
def uB (t0:TT3):Option PK:=T.fn 159 (t0,())
def jz (t0:TT3)(t4:cR.den):Option (Sx⊕Empty):=T.pc 159 ar 14 (t0,t4,())
def pA (t0:TT3):Option PK:=T.fn 141 (t0,())
def nT (t0:TT3)(t9:cR.den):Option W7:=T.pc 141 av 34 (t0,t9,())
def fF (t0:TT3)(t1:Int):Option (Int×TT3×Unit×Unit):=T.fn 89 (t0,t1,())
def jD (t0:TT3)(t1:Int)(t5:cZ.den)(t6:Int):Option (Sx⊕Sx⊕Empty):=T.pc 89 av 3 (t0,t1,t5,t6,())
def iw (t0:TT3):Option (LI×TT3×Unit):=T.fn 87 (t0,())
def nV (t0:TT3)(t4:LI):Option ((TT3×LI×Unit)⊕Empty):=T.pc 87 av 3 (t0,t4,())
def hZ (t0:TT3):Option PK:=T.fn 93 (t0,())
def fJ (t0:TT3)(t3:Int)(t4:cZ.den):Option (Sx⊕Empty):=T.pc 93 ar 1014 (t0,t3,t4,())
def fI (t0:TT3)(t3:Int)(t4:cZ.den):Option (Sx⊕Empty):=T.pc 93 av 14 (t0,t3,t4,())
def kW (t0:TT3)(t4:cZ.den)(t8:cR.den)(t93:LI)(t94:Int)(t95:Int):Option ((TT3×cZ.den×cR.den×Unit)⊕Empty):=T.pc 93 av 33 (t0,t4,t8,t93,t94,t95,())
def pK (t0:TT3):Option PK:=T.fn 83 (t0,())
def jB (t0:TT3)(t3:cR.den):Option W7:=T.pc 83 av 9 (t0,t3,())
def jn (t0:TT3)(t3:cR.den)(t74:LI)(t75:Int)(t76:Int):Option W7:=T.pc 83 av 15 (t0,t3,t74,t75,t76,())
def mG (t0:TT3):Option (List LI×TT3×Unit):=T.fn 86 (t0,())
def nQ (t0:TT3)(t3:cZ.den)(t4:List LI):Option ((TT3×List LI×Unit)⊕Empty):=T.pc 86 av 3 (t0,t3,t4,())
def pI (t0:TT3)(t1:cZ.den):Option (Int×TT3×TT7×Unit):=T.fn 91 (t0,t1,())
def vP (t0:TT3)(t1:cZ.den):Option (Int×TT3×TT7×Unit):=T.fn 92 (t0,t1,())
def vM (t0:TT3):Option PK:=T.fn 50 (t0,())
def lR (t0:TT3)(t3:cZ.den)(t17:Int):Option (Sx⊕Empty):=T.pc 50 ar 57 (t0,t3,t17,())
def qu (t0:TT3)(t1:Int):Option (LI×TT3×Unit×Unit):=T.fn 26 (t0,t1,())
def lI (t0:TT3)(t1:Int)(t5:LI):Option ((TT3×LI×Unit)⊕Empty):=T.pc 26 av 2 (t0,t1,t5,())
def xi (t0:LI)(t1:List cZ.den):Option (TT2×Unit×Unit×Unit):=T.fn 11 (t0,t1,())
def BM (t0:LI):Option ((Int×Int×TT2×Unit)×Unit×Unit):=T.fn 4 (t0,())
def nX (t0:Int)(t1:Int)(t2:Int):Option (Bool×Unit×Unit×Unit×Unit):=T.fn 118 (t0,t1,t2,())
def pW (t0:Int):Option TT6:=T.fn 165 (t0,())
def kT (t0:Int):Option TT6:=T.fn 166 (t0,())
def zW (t0:LI):Option U5:=T.fn 169 (t0,())
def kD (t0:LI)(t5:List LI)(t6:Int)(t7:Int):Option ((Int×Unit)⊕(Unit)⊕Empty):=T.pc 169 av 2 (t0,t5,t6,t7,())
def wO (t0:Int):Option TT6:=T.fn 171 (t0,())
def e9 (t0:Int):Option U5:=T.fn 180 (t0,())
def xd (t0:LI):Option TT6:=T.fn 181 (t0,())
def pe (t0:LI)(t1:Int)(t2:Int):Option (N5×Unit×Unit×Unit×Unit):=T.fn 176 (t0,t1,t2,())
def j3 (t0:LI)(t1:Int)(t2:Int)(t8:Bool)(t9:LI):Option (N5⊕Empty):=T.pc 176 ar 21 (t0,t1,t2,t8,t9,())
def j2 (t0:LI)(t1:Int)(t2:Int)(t8:Bool)(t9:LI):Option (N5⊕Empty):=T.pc 176 ar 25 (t0,t1,t2,t8,t9,())
def iN (t0:LI)(t1:Int)(t2:Int)(t8:Bool)(t9:LI)(t10:Int):Option (N5⊕Empty):=T.pc 176 ar 32 (t0,t1,t2,t8,t9,t10,())
def fk (t1:Int)(t8:Bool)(t9:LI)(t10:Int)(t11:Int)(t12:Bool)(t13:Int)(t16:Int)(t99:LI)(t100:Int)(t101:Int):Option (N5⊕(Int×Bool×LI×Int×Int×Bool×Int×LI×ja.den)⊕Empty):=T.pc 176 ar 46 (t1,t8,t9,t10,t11,t12,t13,t16,t99,t100,t101,())
def dP (t1:Int)(t8:Bool)(t9:LI)(t10:Int)(t11:Int)(t12:Bool)(t13:Int)(t99:LI)(t100:Int)(t101:Int):Option (N5⊕(LI×Bool×Int×Unit)⊕Empty):=T.pc 176 av 36 (t1,t8,t9,t10,t11,t12,t13,t99,t100,t101,())
def j8 (t0:LI)(t1:Int)(t2:Int):Option (N5×Unit×Unit×Unit×Unit):=T.fn 172 (t0,t1,t2,())
def p8 (t0:LI)(t1:Int):Option (N1×Unit×Unit×Unit):=T.fn 170 (t0,t1,())
def gP (t0:LI)(t1:Int)(t4:cZ.den)(t6:Int):Option (N1⊕Empty):=T.pc 170 ar 17 (t0,t1,t4,t6,())
def iF (t0:LI)(t1:Int)(t4:cZ.den)(t6:Int)(t9:Int):Option (N1⊕Empty):=T.pc 170 ar 22 (t0,t1,t4,t6,t9,())
def kh (t0:LI)(t1:Int)(t4:cZ.den)(t6:Int)(t9:Int):Option (N1⊕Zw⊕Empty):=T.pc 170 ar 26 (t0,t1,t4,t6,t9,())
def iE (t0:LI)(t1:Int)(t4:cZ.den)(t6:Int)(t9:Int):Option (N1⊕Empty):=T.pc 170 ar 31 (t0,t1,t4,t6,t9,())
def jY (t0:LI)(t1:Int)(t4:cZ.den)(t6:Int):Option ZE:=T.pc 170 av 5 (t0,t1,t4,t6,())
def gO (t0:LI)(t1:Int)(t4:cZ.den)(t6:Int):Option ZE:=T.pc 170 av 15 (t0,t1,t4,t6,())
def jq (t0:LI)(t1:Int)(t4:cZ.den)(t6:Int)(t9:Int):Option (Zw⊕Empty):=T.pc 170 av 20 (t0,t1,t4,t6,t9,())
def jr (t0:LI)(t1:Int)(t4:cZ.den)(t6:Int)(t9:Int):Option (Zw⊕Empty):=T.pc 170 av 29 (t0,t1,t4,t6,t9,())
def j4 (t0:LI)(t1:Int):Option Xj:=T.fn 65 (t0,t1,())
def jb (t0:LI)(t1:Int):Option Xj:=T.fn 36 (t0,t1,())
def BF (t0:Int):Option N2:=T.fn 173 (t0,())
def my (t0:LI)(t1:LI):Option Xf:=T.fn 178 (t0,t1,())
def qk (t0:LI)(t1:LI):Option Xf:=T.fn 174 (t0,t1,())
def nr (t0:LI)(t1:Int):Option (N1×Unit×Unit×Unit):=T.fn 167 (t0,t1,())
def lW (t0:LI)(t1:Int)(t4:cZ.den)(t7:Int):Option ZE:=T.pc 167 av 5 (t0,t1,t4,t7,())
def eN (t0:LI)(t4:cZ.den)(t8:LI)(t9:Int):Option (N1⊕Empty):=T.pc 167 av 18 (t0,t4,t8,t9,())
def oQ (t0:LI)(t4:cZ.den)(t8:LI)(t9:Int)(t11:Int):Option (N1⊕(LI×cZ.den×LI×Int×Unit)⊕Empty):=T.pc 167 av 39 (t0,t4,t8,t9,t11,())
def kC (t0:LI)(t1:Int)(t4:cZ.den)(t14:Int)(t15:Int):Option ((Int×cZ.den×Unit)⊕Empty):=T.pc 167 av 49 (t0,t1,t4,t14,t15,())
def zO (t0:LI)(t1:Int):Option Xf:=T.fn 155 (t0,t1,())
def jL (t0:LI):Option TT6:=T.fn 119 (t0,())
def vw (t0:Int):Option TT6:=T.fn 124 (t0,())
def dH (t0:Bool)(t1:Bool)(t2:Bool)(t3:Bool)(t4:Int)(t5:Int)(t6:Int)(t7:LI):Option (Bool×Unit×Unit×Unit×Unit×Int×Int×Int×LI×Unit):=T.fn 122 (t0,t1,t2,t3,t4,t5,t6,t7,())
def r8 (t0:Int):Option TT6:=T.fn 121 (t0,())
def dI (t0:Int)(t1:Int)(t2:LI):Option (Bool×Unit×Unit×LI×Unit):=T.fn 120 (t0,t1,t2,())
def iQ (t2:LI)(t11:LI)(t12:Int)(t13:Int):Option (FI⊕(LI×Unit)⊕Empty):=T.pc 120 av 2 (t2,t11,t12,t13,())
def qo (t0:LI):Option TT6:=T.fn 125 (t0,())
def nA (t0:Int)(t1:LI):Option (Bool×Int×LI×Unit):=T.fn 123 (t0,t1,())
def lX (t0:TT2)(t1:Int):Option (Bool×xI×Unit×Unit):=T.fn 60 (t0,t1,())
def mW (t6:LI)(t11:Int)(t12:Int)(t13:Int)(t14:LI)(t16:Int)(t105:Int)(t205:Bool):Option (xG⊕(Unit)⊕Empty):=T.pc 60 ar 50 (t6,t11,t12,t13,t14,t16,t105,t205,())
def gL (t6:LI)(t11:Int)(t12:Int)(t13:Int)(t14:LI)(t16:Int)(t105:Int)(XK:Bool):Option (xG⊕(Unit)⊕Empty):=T.pc 60 ar 65 (t6,t11,t12,t13,t14,t16,t105,XK,())
def lp (t6:LI)(t11:Int)(t12:Int)(t13:Int)(t14:LI)(t16:Int)(t105:Int)(Xv:Bool):Option (xG⊕(Unit)⊕Empty):=T.pc 60 ar 72 (t6,t11,t12,t13,t14,t16,t105,Xv,())
def kj (t6:LI)(t11:Int)(t12:Int)(t13:Int)(t14:LI)(t16:Int)(t105:Int)(XQ:Bool):Option (xG⊕(Unit)⊕Empty):=T.pc 60 ar 84 (t6,t11,t12,t13,t14,t16,t105,XQ,())
def mD (t1:Int)(t2:TT2)(t5:cR.den)(t6:LI)(t58:LI)(t59:Int)(t60:Int):Option (xG⊕Xa⊕Empty):=T.pc 60 av 6 (t1,t2,t5,t6,t58,t59,t60,())
def fO (t5:cR.den)(t6:LI)(t80:List LI)(t81:Int)(t82:Int):Option (xG⊕Xa⊕Empty):=T.pc 60 av 13 (t5,t6,t80,t81,t82,())
def iC (t11:Int)(t12:Int)(t13:Int)(t14:LI)(t108:LI)(t109:Int)(t110:Int):Option (xG⊕(Int×Int×Int×LI×Unit)⊕Empty):=T.pc 60 av 26 (t11,t12,t13,t14,t108,t109,t110,())
def fb (t6:LI)(t13:Int)(t16:Int)(t184:LI)(t185:Int)(t186:Int):Option (xG⊕(LI×ja.den)⊕Empty):=T.pc 60 av 42 (t6,t13,t16,t184,t185,t186,())
def iH (t11:Int)(t12:Int)(t13:Int)(t14:LI)(SI:LI)(Vb:Int)(Og:Int):Option (xG⊕(Int×Int×Int×LI×Unit)⊕Empty):=T.pc 60 av 97 (t11,t12,t13,t14,SI,Vb,Og,())
def pZ (t0:TT2):Option (ja.den×xI×Unit):=T.fn 32 (t0,())
def ix (t1:TT2)(t2:ja.den)(t3:Int)(t37:Int)(t38:Int):Option (LO⊕(TT2×ja.den×Int×Unit)⊕Empty):=T.pc 32 av 5 (t1,t2,t3,t37,t38,())
def fP (t1:TT2)(t2:ja.den)(t3:Int)(t5:LI)(t51:List cR.den)(t52:Int)(t53:Int):Option (LO⊕(TT2×ja.den×Int×Unit)⊕Empty):=T.pc 32 av 12 (t1,t2,t3,t5,t51,t52,t53,())
def ly (t1:TT2)(t2:ja.den)(t3:Int)(t5:LI)(t6:Int)(t7:cR.den)(t8:Int)(t9:Int)(t51:List cR.den)(t52:Int)(t53:Int):Option (LO⊕(TT2×ja.den×Int×LI×Int×Int×List cR.den×ja.den)⊕Empty):=T.pc 32 av 16 (t1,t2,t3,t5,t6,t7,t8,t9,t51,t52,t53,())
def mY (t1:TT2)(t2:ja.den)(t10:LI)(t11:Int):Option ((ja.den×LI×Unit)⊕Empty):=T.pc 32 av 27 (t1,t2,t10,t11,())
def nj (t1:TT2)(t2:ja.den)(t10:LI)(t11:Int)(t113:LI)(t114:Int)(t115:Int):Option ((TT2×ja.den×LI×Int×Unit)⊕Empty):=T.pc 32 av 30 (t1,t2,t10,t11,t113,t114,t115,())
def iA (t2:ja.den)(t10:LI)(t129:Int)(t130:Int):Option (LO⊕LO⊕Empty):=T.pc 32 av 35 (t2,t10,t129,t130,())
def xr (t0:TT2):Option (Bool×xI×Unit):=T.fn 14 (t0,())
def ov (t0:Int)(t1:Int)(t2:LI)(t3:TT2)(t4:List eS.den)(t5:Unit):Option (Unit×Unit×Unit×Unit×TT2×List eS.den×Unit×Unit):=T.fn 15 (t0,t1,t2,t3,t4,t5,())
def lQ (t1:Int)(t3:TT2)(t4:List eS.den)(t5:Unit)(t9:cR.den):Option ((TT2×List eS.den×Unit)⊕Empty):=T.pc 15 ar 4 (t1,t3,t4,t5,t9,())
def ij (t1:Int)(t3:TT2)(t4:List eS.den)(t5:Unit)(t10:LI)(t40:LI)(t41:Int)(t42:Int):Option ((TT2×List eS.den×Unit)⊕Empty):=T.pc 15 av 8 (t1,t3,t4,t5,t10,t40,t41,t42,())
def xg (t0:TT2):Option (List eS.den×xI×Unit):=T.fn 6 (t0,())
abbrev oI:xI×Unit×Unit×Unit×Unit:=(((),()),((),((),((),()))))
def ow (t0:TT2)(t1:Int)(t2:LI)(t3:Int):Option (List eS.den×xI×Unit×Unit×Unit×Unit):=T.fn 16 (t0,t1,t2,t3,())
def lJ (t4:TT2)(t9:cR.den)(t10:List eS.den)(t11:Int):Option ((List eS.den×Unit)⊕Empty):=T.pc 16 ar 7 (t4,t9,t10,t11,())
def kN (t4:TT2)(t9:cR.den)(t10:List eS.den)(t11:Int)(t13:Int)(t14:LI)(t38:LI)(t39:Int)(t40:Int):Option ai7:=T.pc 16 ar 13 (t4,t9,t10,t11,t13,t14,t38,t39,t40,())
def jc (t4:TT2)(t9:cR.den)(t10:List eS.den)(t11:Int)(t38:LI)(t39:Int)(t40:Int):Option ((List eS.den×Unit)⊕Empty):=T.pc 16 av 8 (t4,t9,t10,t11,t38,t39,t40,())
def jA (t4:TT2)(t9:cR.den)(t10:List eS.den)(t11:Int)(t38:LI)(t39:Int)(t40:Int)(t55:List eS.den)(t56:Int)(t57:Int):Option ai7:=T.pc 16 av 14 (t4,t9,t10,t11,t38,t39,t40,t55,t56,t57,())
def xo (t0:TT2):Option (List eS.den×xI×Unit):=T.fn 7 (t0,())
def BB (t0:LI):Option N2:=T.fn 19 (t0,())
def jJ (t0:LI)(t3:LI)(t4:Int):Option LK:=T.pc 19 av 6 (t0,t3,t4,())
def Eg (t0:TT2):Option Xb:=T.fn 8 (t0,())
def oO (t3:LI)(t14:List cR.den)(t15:Int)(t16:Int):Option LK:=T.pc 8 av 6 (t3,t14,t15,t16,())
def nD (t3:LI)(t7:List LI)(t14:List cR.den)(t15:Int)(t16:Int)(t65:LI)(t66:Int)(t67:Int):Option ((LI×List LI×List cR.den×ja.den)⊕Empty):=T.pc 8 av 12 (t3,t7,t14,t15,t16,t65,t66,t67,())
def zi (t0:cR.den):Option (LI×TT1×Unit):=T.fn 23 (t0,())
def mE (t1:cR.den)(t3:LI)(t22:LI)(t23:Int)(t24:Int):Option (Xa⊕Empty):=T.pc 23 av 3 (t1,t3,t22,t23,t24,())
def mB (t1:cR.den)(t3:LI)(t46:List LI)(t47:Int)(t48:Int):Option (Xa⊕Empty):=T.pc 23 av 9 (t1,t3,t46,t47,t48,())
def lz (t3:LI)(t65:LI)(t66:Int)(t67:Int):Option LK:=T.pc 23 av 15 (t3,t65,t66,t67,())
def Ed (t0:TT2):Option Xb:=T.fn 9 (t0,())
def oP (t4:LI)(t13:List cR.den)(t14:Int)(t15:Int):Option LK:=T.pc 9 av 6 (t4,t13,t14,t15,())
def uv (t0:LI):Option TT6:=T.fn 3 (t0,())
def lK (t3:TT2)(t4:List eS.den)(t5:List eS.den)(t6:Int)(t24:List cR.den)(t25:Int)(t26:Int):Option ((TT2×List eS.den×List eS.den×Int×Unit)⊕Empty):=T.pc 3 av 8 (t3,t4,t5,t6,t24,t25,t26,())
def kP (t3:TT2)(t5:List eS.den)(t9:Int)(t46:List eS.den)(t47:Int)(t48:Int):Option (xG⊕(TT2×Unit)⊕Empty):=T.pc 3 av 17 (t3,t5,t9,t46,t47,t48,())
theorem Bu (t0):ni (S.step T) t0=brk (I (t0.2.1<(t0.1.length:Int))) (brk (I (0<=t0.2.1)&&I (t0.2.1<(t0.1.length:Int))) (J (aq.wrap (t0.1.getD t0.2.1.toNat 0),(t0.1,aq.wrap (t0.2.1+1),aH.wrap ((aH.wrap ((aH.wrap (t0.2.2.1*6364136223846793005))+(aH.wrap (t0.1.getD t0.2.1.toNat 0))))+1442695040888963407),t0.2.2.2),())) ay) (J (aq.wrap (intBits .and .u64 ((aH.wrap ((aH.wrap (t0.2.2.1*6364136223846793005))+1442695040888963407)).fdiv (2^min ((40:Int).toNat) aH.bits)) 255),(t0.1,aq.wrap (t0.2.1+1),aH.wrap ((aH.wrap (t0.2.2.1*6364136223846793005))+1442695040888963407),t0.2.2.2),())):=eF Tryz.func101
theorem Bz (t0 t1):dh (S.step T) t0 t1=brk (I (t1<=1)) (J (0,t0,(),())) ((ni T t0).bind λd9=>brk (I (200<t1)) ((ni T d9.2.1).bind λd15=>brk (I (t1≠0)) (J ((aq.wrap ((aq.wrap (d9.1*256))+d15.1)).tmod t1,d15.2.1,(),())) ay) (brk (I (t1≠0)) (J (d9.1.tmod t1,d9.2.1,(),())) ay)):=eF Tryz.func54
theorem Fx (t0 t1):dF (S.step T) t0 t1=brk (fits (t0.2.1.length+([t1]:List cR.den).length)) (J (aq.wrap (((t0.2.1++([t1]:List cR.den)).length:Int) - 1),(t0.1,t0.2.1++([t1]:List cR.den),aq.wrap (t0.2.2.1 - 1),()),((),(),(),(),(),(),(),(),(),()),())) none:=eF Tryz.func106
theorem Am (t0):qX (S.step T) t0=(dh T t0 6).bind λd4=>brk (I (d4.1=0)) ((dh T d4.2.1 3).bind λd8=>J (aq.wrap (9223372036854775807 - d8.1),d8.2.1,())) (brk (I (d4.1=1)) ((dh T d4.2.1 3).bind λd13=>J (aq.wrap ((-9223372036854775808:Int)+d13.1),d13.2.1,())) (brk (I (d4.1=2)) ((dh T d4.2.1 70000).bind λd18=>J (aq.wrap (d18.1 - 35000),d18.2.1,())) ((dh T d4.2.1 12).bind λd21=>J (aq.wrap (d21.1 - 3),d21.2.1,())))):=eF Tryz.func160
theorem Au (t0 t1):qY (S.step T) t0 t1=(mr T t0 t1 []).bind (dB (λy2=>J (y2.2.1.map byte,y2.1,(),()))):=eF Tryz.func168
theorem qj (t0 t1 t5):mr (S.step T) t0 t1 t5=brk (I (0<t1)) ((ni T t0).bind λd12=>brk (fits (t5.length+([aN.wrap d12.1]:LI).length)) (mr T d12.2.1 (aq.wrap (t1 - 1)) (t5++([aN.wrap d12.1]:LI))) ay) (J (an (t0,t5,()))):=eL Tryz.func168
theorem CB (t0):uu (S.step T) t0=(dh T t0 6).bind λd5=>brk (I (d5.1=0)) (J (([]:LI),d5.2.1,())) (brk (I (d5.1=1)) ((dh T d5.2.1 6).bind λd12=>(qY T d12.2.1 d12.1).bind λd13=>J (d13.1,d13.2.1,())) (brk (I (d5.1=2)) (J (([97,34,98,92,99,10,100,9,101]:LI),d5.2.1,())) (brk (I (d5.1=3)) ((dh T d5.2.1 20).bind λd19=>brk (I (d19.1=0)) (brk (I (d19.2.1.2.2.2.1<3)) ((mQ T (d19.2.1.1,d19.2.1.2.1,d19.2.1.2.2.1,aq.wrap (d19.2.1.2.2.2.1+1),()) ([48,49,50,51,52,53,54,55,56,57]:LI)).bind (dB (λmn=>(dh T mn.1 3).bind λd43=>brk (bounds mn.2.1.length 0 (aq.wrap (3999+d43.1))) (J (sub mn.2.1 0 (aq.wrap (3999+d43.1)),d43.2.1,())) ay))) (J (([116,101,120,116]:LI),d19.2.1,()))) (J (([116,101,120,116]:LI),d19.2.1,()))) (J (([116,101,120,116]:LI),d5.2.1,()))))):=eF Tryz.func161
theorem qO (t0 t3):mQ (S.step T) t0 t3=brk (I ((t3.length:Int)<4000)) (brk (fits (t3.length+t3.length)) (mQ T t0 (t3++t3)) ay) (J (an (t0,t3,()))):=eL Tryz.func161
theorem CD (t0):im (S.step T) t0=(dh T t0.1 (([([97]:LI),([98]:LI),([120]:LI),([121,49]:LI),([95]:LI),([73,102]:LI),([101,108,105]:LI),([102]:LI)]:List LI).length:Int)).bind λd12=>brk (I (0<=d12.1)&&I (d12.1<(([([97]:LI),([98]:LI),([120]:LI),([121,49]:LI),([95]:LI),([73,102]:LI),([101,108,105]:LI),([102]:LI)]:List LI).length:Int))) (J (([([97]:LI),([98]:LI),([120]:LI),([121,49]:LI),([95]:LI),([73,102]:LI),([101,108,105]:LI),([102]:LI)]:List LI).getD d12.1.toNat [],(d12.2.1,t0.2),())) none:=eF Tryz.func145
theorem DF (t0):pz (S.step T) t0=(dh T t0.1 9).bind λd11=>brk (I (d11.1=0)) ((dh T d11.2.1 3).bind λd16=>(dF T (d16.2.1,t0.2) (aq.wrap (20+d16.1),0,0,0,0,0,([]:LI),[],[],())).bind λd19=>J (d19.1,d19.2.1,())) (brk (I (d11.1=1)) ((oL T (d11.2.1,t0.2) d11.1 (I (d11.1=1))).bind (dM (λy7=>J (y7.2.1,y7.1,())) (λy7=>(im T y7.1).bind λd59=>(dF T d59.2.1 (26,0,0,0,0,0,d59.1,[],[],())).bind λd61=>J (d61.1,d61.2.1,())))) ((oL T (d11.2.1,t0.2) d11.1 (I (d11.1=2))).bind (dM (λy7=>J (y7.2.1,y7.1,())) (λy7=>(im T y7.1).bind λd59=>(dF T d59.2.1 (26,0,0,0,0,0,d59.1,[],[],())).bind λd61=>J (d61.1,d61.2.1,()))))):=eF Tryz.func146
theorem Ap (t0 t11 t20):oL (S.step T) t0 t11 t20=brk (t20) ((qX T t0.1).bind λd25=>(dF T (d25.2.1,t0.2) (23,0,0,0,0,d25.1,([]:LI),[],[],())).bind λd27=>J (an (d27.2.1,d27.1,()))) (brk (I (t11=3)) ((dh T t0.1 (([([49,46,53]:LI),([48,46,48]:LI),([49,101,57]:LI),([50,46,50,53,101,45,51]:LI),([57,50,50,51,51,55,50,48,51,54,56,53,52,55,55,53,56,48,56]:LI)]:List LI).length:Int)).bind λd36=>brk (I (0<=d36.1)&&I (d36.1<(([([49,46,53]:LI),([48,46,48]:LI),([49,101,57]:LI),([50,46,50,53,101,45,51]:LI),([57,50,50,51,51,55,50,48,51,54,56,53,52,55,55,53,56,48,56]:LI)]:List LI).length:Int))) ((dF T (d36.2.1,t0.2) (24,0,0,0,0,0,([([49,46,53]:LI),([48,46,48]:LI),([49,101,57]:LI),([50,46,50,53,101,45,51]:LI),([57,50,50,51,51,55,50,48,51,54,56,53,52,55,55,53,56,48,56]:LI)]:List LI).getD d36.1.toNat [],[],[],())).bind λd40=>J (an (d40.2.1,d40.1,()))) ay) (brk (I (t11=4)) ((uu T t0.1).bind λd44=>brk (I (4000<(d44.1.length:Int))) ((dF T (d44.2.1,t0.2) (25,0,0,0,0,0,([99,117,116]:LI),[],[],())).bind λd51=>J (an (d51.2.1,d51.1,()))) ((dF T (d44.2.1,t0.2) (25,0,0,0,0,0,d44.1,[],[],())).bind λd51=>J (an (d51.2.1,d51.1,())))) (brk (I (t11=5)) ((dF T t0 (27,0,0,0,0,0,([]:LI),[],[],())).bind λd56=>J (an (d56.2.1,d56.1,()))) (J (aE (an (t0,()))))))):=eJ Tryz.func146
theorem DN (t0 t1 t2):eX (S.step T) t0 t1 t2=(dF T t0 (t1,0,0,0,0,0,([]:LI),[],t2,())).bind λd11=>J (d11.1,d11.2.1,(),(),()):=eF Tryz.func103
theorem Cl (t0 t1):kR (S.step T) t0 t1=(dh T t0.1 4).bind λd14=>(je T (d14.2.1,t0.2) t1 [] d14.1).bind (dB (λy3=>(dF T y3.1 (35,0,0,0,0,0,([]:LI),[],y3.2)).bind λd59=>J (d59.1,d59.2.1,(),()))):=eF Tryz.func147
theorem r4 (t0 t1 t5 t6):je (S.step T) t0 t1 t5 t6=brk (I (0<t6)) ((eB T t0 (aq.wrap (t1 - 1))).bind λd22=>(dh T d22.2.1.1 3).bind λd27=>brk (I (d27.1=0)) ((eX T (d27.2.1,d22.2.1.2) 40 ([d22.1]:LI)).bind λd40=>brk (fits (t5.length+([d40.1]:LI).length)) (je T d40.2.1 t1 (t5++([d40.1]:LI)) (aq.wrap (t6 - 1))) ay) (brk (I (d27.1=1)) ((eB T (d27.2.1,d22.2.1.2) (aq.wrap (t1 - 1))).bind λd46=>(eX T d46.2.1 41 ([d22.1,d46.1]:LI)).bind λd51=>brk (fits (t5.length+([d51.1]:LI).length)) (je T d51.2.1 t1 (t5++([d51.1]:LI)) (aq.wrap (t6 - 1))) ay) ((im T (d27.2.1,d22.2.1.2)).bind λd30=>(dF T d30.2.1 (42,0,0,0,0,0,d30.1,[],([d22.1]:LI),())).bind λd34=>brk (fits (t5.length+([d34.1]:LI).length)) (je T d34.2.1 t1 (t5++([d34.1]:LI)) (aq.wrap (t6 - 1))) ay))) (J (an (t0,t5,()))):=eL Tryz.func147
theorem Cd (t0 t1):jg (S.step T) t0 t1=(nP T t0 t1 []).bind (dB (λy2=>J (y2.2.1,y2.1,(),()))):=eF Tryz.func104
theorem rV (t0 t1 t5):nP (S.step T) t0 t1 t5=brk (I (0<t1)) ((im T t0).bind λd12=>brk (fits (t5.length+([d12.1]:List LI).length)) (nP T d12.2.1 (aq.wrap (t1 - 1)) (t5++([d12.1]:List LI))) ay) (J (an (t0,t5,()))):=eL Tryz.func104
theorem Ck (t0 t1):fR (S.step T) t0 t1=(dh T t0.1 4).bind λd12=>(nN T (d12.2.1,t0.2) t1 [] d12.1).bind (dB (λy3=>(dF T y3.1 (1,0,0,0,0,0,([]:LI),[],y3.2)).bind λd34=>J (d34.1,d34.2.1,(),()))):=eF Tryz.func111
theorem rX (t0 t1 t5 t6):nN (S.step T) t0 t1 t5 t6=brk (I (0<t6)) (brk (I (5<t0.2.2.1)) ((rq T t0 t1).bind λd26=>brk (fits (t5.length+([d26.1]:LI).length)) (nN T d26.2.1 t1 (t5++([d26.1]:LI)) (aq.wrap (t6 - 1))) ay) (J (an (t0,t5,())))) (J (an (t0,t5,()))):=eL Tryz.func111
theorem GK (t0 t1):mL (S.step T) t0 t1=(dh T t0.1 3).bind λd12=>(jg T (d12.2.1,t0.2) d12.1).bind λd13=>(fR T d13.2.1 (aq.wrap (t1 - 1))).bind λd17=>(dh T d17.2.1.1 2).bind λd23=>(dF T (d23.2.1,d17.2.1.2) (36,0,0,0,d23.1,0,([]:LI),d13.1,([d17.1]:LI),())).bind λd28=>J (d28.1,d28.2.1,(),()):=eF Tryz.func108
theorem wJ (t0 t1):eB (S.step T) t0 t1=brk (I (t1<=0)) ((pz T t0).bind λd29=>J (d29.1,d29.2.1,(),())) (brk (I (t0.2.2.1<5)) ((pz T t0).bind λd29=>J (d29.1,d29.2.1,(),())) ((dh T t0.1 14).bind λd31=>brk (I (d31.1=0)) ((jC T (d31.2.1,t0.2) t1 d31.1 (I (d31.1=0))).bind (dM (λy9=>J (y9.2.1,y9.1,(),())) (λy9=>(hY T y9.1 y9.2.1).bind (dB (λN9=>J (N9.2.1,N9.1,(),())))))) (brk (I (d31.1=1)) ((jC T (d31.2.1,t0.2) t1 d31.1 (I (d31.1=1))).bind (dM (λy9=>J (y9.2.1,y9.1,(),())) (λy9=>(hY T y9.1 y9.2.1).bind (dB (λN9=>J (N9.2.1,N9.1,(),())))))) (brk (I (d31.1=2)) ((jC T (d31.2.1,t0.2) t1 d31.1 (I (d31.1=2))).bind (dM (λy9=>J (y9.2.1,y9.1,(),())) (λy9=>(hY T y9.1 y9.2.1).bind (dB (λN9=>J (N9.2.1,N9.1,(),())))))) ((jC T (d31.2.1,t0.2) t1 d31.1 (I (d31.1=3))).bind (dM (λy9=>J (y9.2.1,y9.1,(),())) (λy9=>(hY T y9.1 y9.2.1).bind (dB (λN9=>J (N9.2.1,N9.1,(),())))))))))):=eF Tryz.func107
theorem Ak (t0 t1 t31 t32):jC (S.step T) t0 t1 t31 t32=brk (t32) ((eB T t0 (aq.wrap (t1 - 1))).bind λd40=>(eB T d40.2.1 (aq.wrap (t1 - 1))).bind λd44=>(dh T d44.2.1.1 18).bind λd47=>(dF T (d47.2.1,d44.2.1.2) (31,0,0,0,aq.wrap (1+d47.1),0,([]:LI),[],([d40.1,d44.1]:LI),())).bind λd53=>J (an (d53.2.1,d53.1,()))) (brk (I (t31=4)) ((eB T t0 (aq.wrap (t1 - 1))).bind λd59=>(eB T d59.2.1 (aq.wrap (t1 - 1))).bind λd63=>(dh T d63.2.1.1 2).bind λd66=>(eX T (d66.2.1,d63.2.1.2) (aq.wrap (28+d66.1)) ([d59.1,d63.1]:LI)).bind λd71=>J (an (d71.2.1,d71.1,()))) (brk (I (t31=5)) ((lO T t0 t1 t31 (I (t31=5))).bind (dM (λJh=>J (an Jh)) (λJh=>J (aE (an Jh))))) ((lO T t0 t1 t31 (I (t31=6))).bind (dM (λJh=>J (an Jh)) (λJh=>J (aE (an Jh))))))):=eJ Tryz.func107
theorem yx (t0 t1 t31 t72):lO (S.step T) t0 t1 t31 t72=brk (t72) ((eB T t0 (aq.wrap (t1 - 1))).bind λd78=>(dh T d78.2.1.1 4).bind λd81=>(dF T (d81.2.1,d78.2.1.2) (30,0,0,0,aq.wrap (19+d81.1),0,([]:LI),[],([d78.1]:LI),())).bind λd86=>J (an (d86.2.1,d86.1,()))) (brk (I (t31=7)) ((jK T t0 (aq.wrap (t1 - 1))).bind λd92=>(eB T d92.2.1 (aq.wrap (t1 - 1))).bind λd96=>(eX T d96.2.1 32 ([d92.1,d96.1]:LI)).bind λd101=>J (an (d101.2.1,d101.1,()))) (brk (I (t31=8)) ((jK T t0 (aq.wrap (t1 - 1))).bind λd107=>(im T d107.2.1).bind λd110=>(dF T d110.2.1 (33,0,0,0,0,0,d110.1,[],([d107.1]:LI),())).bind λd114=>J (an (d114.2.1,d114.1,()))) (brk (I (t31=9)) (brk (I (t31=9)) ((gQ T t0 t1).bind λd120=>J (an (d120.2.1,d120.1,()))) (brk (I (t31=11)) ((kR T t0 t1).bind λd125=>J (an (d125.2.1,d125.1,()))) (brk (I (t31=12)) ((mL T t0 t1).bind λd130=>J (an (d130.2.1,d130.1,()))) (J (aE (an (t0,t1,()))))))) (brk (I (t31=10)) ((gQ T t0 t1).bind λd120=>J (an (d120.2.1,d120.1,()))) (brk (I (t31=11)) ((kR T t0 t1).bind λd125=>J (an (d125.2.1,d125.1,()))) (brk (I (t31=12)) ((mL T t0 t1).bind λd130=>J (an (d130.2.1,d130.1,()))) (J (aE (an (t0,t1,())))))))))):=eJ Tryz.func107
theorem yH (t0 t1):hY (S.step T) t0 t1=(gQ T t0 t1).bind λd133=>(eX T d133.2.1 37 ([d133.1]:LI)).bind λd137=>J (an (d137.2.1,d137.1,())):=eJ Tryz.func107
theorem DG (t0 t1):jK (S.step T) t0 t1=(eB T t0 t1).bind λd8=>brk (I (0<=d8.1)&&I (d8.1<(d8.2.1.2.1.length:Int))) (brk (I ((at_ (τ:=cR) d8.2.1.2.1 d8.1).1=27)) ((eX T d8.2.1 37 ([d8.1]:LI)).bind λd21=>J (d21.1,d21.2.1,(),())) (J (d8.1,d8.2.1,(),()))) none:=eF Tryz.func144
theorem Ch (t0 t1 t2):kQ (S.step T) t0 t1 t2=(nU T t0 t1 t2 []).bind (dB (λy2=>J (y2.2.1,y2.1,(),(),()))):=eF Tryz.func105
theorem rQ (t0 t1 t2 t7):nU (S.step T) t0 t1 t2 t7=brk (I (0<t1)) ((eB T t0 t2).bind λd15=>brk (fits (t7.length+([d15.1]:LI).length)) (nU T d15.2.1 (aq.wrap (t1 - 1)) t2 (t7++([d15.1]:LI))) ay) (J (an (t0,t7,()))):=eL Tryz.func105
theorem DE (t0 t1):gQ (S.step T) t0 t1=(jK T t0 (aq.wrap (t1 - 1))).bind λd12=>(dh T d12.2.1.1 3).bind λd20=>(kQ T (d20.2.1,d12.2.1.2) d20.1 (aq.wrap (t1 - 1))).bind λd23=>(oK T d23.2.1 ([d12.1]:LI) d23.1 (d23.1.length:Int) 0).bind (dB (λy4=>(dF T y4.1 (34,0,0,0,0,0,([]:LI),[],y4.2)).bind λd37=>J (d37.1,d37.2.1,(),()))):=eF Tryz.func102
theorem sR (t0 t6 t23 t24 t25):oK (S.step T) t0 t6 t23 t24 t25=brk (I (t25<t24)) (brk (I (0<=t25)&&I (t25<(t23.length:Int))) (brk (fits (t6.length+([t23.getD t25.toNat 0]:LI).length)) (oK T t0 (t6++([t23.getD t25.toNat 0]:LI)) t23 t24 (aq.wrap (t25+1))) ay) ay) (J (an (t0,t6,()))):=eL Tryz.func102
theorem Bv (t0 t1):mZ (S.step T) t0 t1=(dh T t0.1 4).bind λd12=>brk (I (d12.1=0)) ((jK T (d12.2.1,t0.2) (aq.wrap (t1 - 1))).bind λd18=>(eB T d18.2.1 (aq.wrap (t1 - 1))).bind λd22=>(eX T d22.2.1 32 ([d18.1,d22.1]:LI)).bind λd27=>J (d27.1,d27.2.1,(),())) (brk (I (d12.1=1)) ((jK T (d12.2.1,t0.2) (aq.wrap (t1 - 1))).bind λd33=>(im T d33.2.1).bind λd36=>(dF T d36.2.1 (33,0,0,0,0,0,d36.1,[],([d33.1]:LI),())).bind λd40=>J (d40.1,d40.2.1,(),())) ((im T (d12.2.1,t0.2)).bind λd43=>(dF T d43.2.1 (26,0,0,0,0,0,d43.1,[],[],())).bind λd45=>J (d45.1,d45.2.1,(),()))):=eF Tryz.func109
theorem Bo (t0 t1):ll (S.step T) t0 t1=(eB T t0 t1).bind λd12=>(fR T d12.2.1 (aq.wrap (t1 - 1))).bind λd16=>(dh T d16.2.1.1 3).bind λd24=>brk (I (d24.1=0)) ((fR T (d24.2.1,d16.2.1.2) (aq.wrap (t1 - 1))).bind λd30=>brk (fits (([d12.1,d16.1]:LI).length+([d30.1]:LI).length)) ((dF T d30.2.1 (7,0,0,0,0,0,([]:LI),[],([d12.1,d16.1]:LI)++([d30.1]:LI),())).bind λd53=>J (d53.1,d53.2.1,(),())) ay) (brk (I (d24.1=1)) (brk (I (10<d16.2.1.2.2.1)) ((ll T (d24.2.1,d16.2.1.2) (aq.wrap (t1 - 1))).bind λd45=>brk (fits (([d12.1,d16.1]:LI).length+([d45.1]:LI).length)) ((dF T d45.2.1 (7,0,0,0,0,0,([]:LI),[],([d12.1,d16.1]:LI)++([d45.1]:LI),())).bind λd53=>J (d53.1,d53.2.1,(),())) ay) ((dF T (d24.2.1,d16.2.1.2) (7,0,0,0,0,0,([]:LI),[],([d12.1,d16.1]:LI),())).bind λd53=>J (d53.1,d53.2.1,(),()))) ((dF T (d24.2.1,d16.2.1.2) (7,0,0,0,0,0,([]:LI),[],([d12.1,d16.1]:LI),())).bind λd53=>J (d53.1,d53.2.1,(),()))):=eF Tryz.func110
theorem wC (t0 t1):rq (S.step T) t0 t1=brk (I (t1<=0)) ((gQ T t0 1).bind λd43=>(eX T d43.2.1 6 ([d43.1]:LI)).bind λd47=>J (d47.1,d47.2.1,(),())) (brk (I (t0.2.2.1<8)) ((gQ T t0 1).bind λd43=>(eX T d43.2.1 6 ([d43.1]:LI)).bind λd47=>J (d47.1,d47.2.1,(),())) ((dh T t0.1 17).bind λd49=>brk (I (d49.1=0)) ((mz T (d49.2.1,t0.2) t1 d49.1 (I (d49.1=0))).bind (dM (λy8=>J (y8.2.1,y8.1,(),())) (λy8=>(j6 T y8.1 y8.2.1).bind (dB (λYc=>J (Yc.2.1,Yc.1,(),())))))) ((mz T (d49.2.1,t0.2) t1 d49.1 (I (d49.1=1))).bind (dM (λy8=>J (y8.2.1,y8.1,(),())) (λy8=>(j6 T y8.1 y8.2.1).bind (dB (λYc=>J (Yc.2.1,Yc.1,(),())))))))):=eF a60
theorem As (t0 t1 t49 t50):mz (S.step T) t0 t1 t49 t50=brk (t50) ((dh T t0.1 3).bind λd55=>(jg T (d55.2.1,t0.2) (aq.wrap (1+d55.1))).bind λd57=>(dh T d57.2.1.1 3).bind λd60=>(kQ T (d60.2.1,d57.2.1.2) d60.1 t1).bind λd62=>(dF T d62.2.1 (2,0,0,0,0,0,([]:LI),d57.1,d62.1,())).bind λd67=>J (an (d67.2.1,d67.1,()))) (brk (I (t49=2)) ((eB T t0 t1).bind λd72=>(jg T d72.2.1 1).bind λd75=>(dF T d75.2.1 (3,0,0,0,0,0,([]:LI),d75.1,([d72.1]:LI),())).bind λd79=>J (an (d79.2.1,d79.1,()))) (brk (I (t49=3)) ((mL T t0 t1).bind λd84=>(jg T d84.2.1 1).bind λd87=>(dF T d87.2.1 (4,0,0,0,0,0,([]:LI),d87.1,([d84.1]:LI),())).bind λd91=>J (an (d91.2.1,d91.1,()))) (brk (I (t49=4)) ((j7 T t0 t1 t49 (I (t49=4))).bind (dM (λFK=>J (an FK)) (λFK=>J (aE (an FK))))) (brk (I (t49=5)) ((j7 T t0 t1 t49 (I (t49=5))).bind (dM (λFK=>J (an FK)) (λFK=>J (aE (an FK))))) ((j7 T t0 t1 t49 (I (t49=6))).bind (dM (λFK=>J (an FK)) (λFK=>J (aE (an FK))))))))):=eJ a60
theorem yz (t0 t1 t49 t92):j7 (S.step T) t0 t1 t49 t92=brk (t92) ((dh T t0.1 2).bind λd97=>(nO T (d97.2.1,t0.2) t1 [] (aq.wrap (1+d97.1)) 0).bind (dB (λJ5=>(dh T J5.1.1 2).bind λd113=>(kQ T (d113.2.1,J5.1.2) (aq.wrap (1+d113.1)) J5.2.1).bind λd116=>(nR T d116.2.1 J5.2.2.1 J5.2.2.2.1 d116.1 (d116.1.length:Int) 0).bind (dB (λGa=>(dF T Ga.1 (5,0,0,0,0,Ga.2.2.1,([]:LI),[],Ga.2.1,())).bind λd131=>J (an (d131.2.1,d131.1,()))))))) (brk (I (t49=7)) ((gQ T t0 t1).bind λd136=>(eX T d136.2.1 6 ([d136.1]:LI)).bind λd140=>J (an (d140.2.1,d140.1,()))) (brk (I (t49=8)) ((lP T t0 t1 t49 (I (t49=8))).bind (dM (λVf=>J (an Vf)) (λVf=>J (aE (an Vf))))) ((lP T t0 t1 t49 (I (t49=9))).bind (dM (λVf=>J (an Vf)) (λVf=>J (aE (an Vf))))))):=eJ a60
theorem yG (t0 t1 t49 t141):lP (S.step T) t0 t1 t49 t141=brk (t141) ((ll T t0 t1).bind λd146=>J (an (d146.2.1,d146.1,()))) (brk (I (t49=10)) ((eB T t0 t1).bind λd151=>(fR T d151.2.1 (aq.wrap (t1 - 1))).bind λd155=>(eX T d155.2.1 8 ([d151.1,d155.1]:LI)).bind λd160=>J (an (d160.2.1,d160.1,()))) (brk (I (t49=11)) ((dh T t0.1 2).bind λd165=>(kQ T (d165.2.1,t0.2) (aq.wrap (2+d165.1)) t1).bind λd168=>(fR T d168.2.1 (aq.wrap (t1 - 1))).bind λd172=>brk (fits (d168.1.length+([d172.1]:LI).length)) ((jg T d172.2.1 1).bind λd179=>(dF T d179.2.1 (9,0,0,0,0,0,([]:LI),d179.1,d168.1++([d172.1]:LI),())).bind λd182=>J (an (d182.2.1,d182.1,()))) ay) (brk (I (t49=12)) ((eB T t0 t1).bind λd187=>(fR T d187.2.1 (aq.wrap (t1 - 1))).bind λd191=>(dh T d191.2.1.1 2).bind λd195=>(jg T (d195.2.1,d191.2.1.2) (aq.wrap (1+d195.1))).bind λd197=>(dF T d197.2.1 (10,0,0,0,0,0,([]:LI),d197.1,([d187.1,d191.1]:LI),())).bind λd202=>J (an (d202.2.1,d202.1,()))) (brk (I (t49=13)) ((dh T t0.1 2).bind λd206=>brk (I (d206.1=0)) ((dh T d206.2.1 2).bind λd210=>(eX T (d210.2.1,t0.2) (aq.wrap (11+d210.1)) []).bind λd212=>J (an (d212.2.1,d212.1,()))) ((dh T d206.2.1 3).bind λd215=>(kQ T (d215.2.1,t0.2) d215.1 t1).bind λd217=>(dF T d217.2.1 (13,0,0,0,0,0,([]:LI),[],d217.1,())).bind λd221=>J (an (d221.2.1,d221.1,())))) (brk (I (t49=14)) ((fR T t0 (aq.wrap (t1 - 1))).bind λd227=>(fR T d227.2.1 (aq.wrap (t1 - 1))).bind λd231=>(dh T d231.2.1.1 2).bind λd235=>(jg T (d235.2.1,d231.2.1.2) (aq.wrap (1+d235.1))).bind λd237=>(dF T d237.2.1 (14,0,0,0,0,0,([]:LI),d237.1,([d227.1,d231.1]:LI),())).bind λd242=>J (an (d242.2.1,d242.1,()))) (brk (I (t49=15)) ((dh T t0.1 2).bind λd246=>brk (I (d246.1=0)) ((fR T (d246.2.1,t0.2) (aq.wrap (t1 - 1))).bind λd251=>J (an (d251.2.1,d251.1,()))) ((eB T (d246.2.1,t0.2) t1).bind λd254=>(eX T d254.2.1 15 ([d254.1]:LI)).bind λd258=>J (an (d258.2.1,d258.1,())))) (J (aE (an (t0,t1,())))))))))):=eJ a60
theorem yD (t0 t1):j6 (S.step T) t0 t1=(gQ T t0 t1).bind λd261=>(eX T d261.2.1 16 ([d261.1]:LI)).bind λd265=>J (an (d265.2.1,d265.1,())):=eJ a60
theorem rT (t0 t1 t11 t12 t13):nO (S.step T) t0 t1 t11 t12 t13=brk (I (t13<t12)) ((mZ T t0 t1).bind λd106=>brk (fits (t11.length+([d106.1]:LI).length)) (nO T d106.2.1 t1 (t11++([d106.1]:LI)) t12 (aq.wrap (t13+1))) ay) (J (an (t0,t1,t11,t12,()))):=eL a60
theorem rS (t0 t11 t12 t116 t117 t118):nR (S.step T) t0 t11 t12 t116 t117 t118=brk (I (t118<t117)) (brk (I (0<=t118)&&I (t118<(t116.length:Int))) (brk (fits (t11.length+([t116.getD t118.toNat 0]:LI).length)) (nR T t0 (t11++([t116.getD t118.toNat 0]:LI)) t12 t116 t117 (aq.wrap (t118+1))) ay) ay) (J (an (t0,t11,t12,()))):=eL a60
theorem By (t0):sG (S.step T) t0=(dh T t0 120).bind λd10=>(dh T d10.2.1 5).bind λd15=>(dh T d15.2.1 8).bind λd18=>(mO T ([],()) (d18.2.1,[],aq.wrap (20+d10.1),()) (aq.wrap (1+d15.1)) [] d18.1).bind (dB (λy5=>brk (fits (y5.2.1.2.1.length+([(1,0,0,0,0,0,([]:LI),[],y5.2.2)]:List cR.den).length)) (J ((y5.2.1.2.1++([(1,0,0,0,0,0,([]:LI),[],y5.2.2)]:List cR.den),()),y5.2.1.1,())) ay)):=eF Tryz.func29
theorem qN (t2 t3 t4 t5 t6):mO (S.step T) t2 t3 t4 t5 t6=brk (I (0<t6)) (brk (I (5<t3.2.2.1)) ((rq T t3 t4).bind λd32=>brk (fits (t5.length+([d32.1]:LI).length)) (mO T t2 d32.2.1 t4 (t5++([d32.1]:LI)) (aq.wrap (t6 - 1))) ay) (J (an (t2,t3,t5,())))) (J (an (t2,t3,t5,()))):=eL Tryz.func29
theorem Gr (t0):oA (S.step T) t0=brk (I (1<=t0)) (J (I (t0<=16),cO)) (J (ar,cO)):=eF Tryz.func51
theorem IT (t0 t1 t2):ey (S.step T) t0 t1 t2=brk (I (0<=t2)&&I (t2<(t1.2.2.2.2.2.2.2.2.1.length:Int))) (brk (I (0<=t1.2.2.2.2.2.2.2.2.1.getD t2.toNat 0)&&I (t1.2.2.2.2.2.2.2.2.1.getD t2.toNat 0<(t0.1.length:Int))) (J ((at_ (τ:=cR) t0.1 (t1.2.2.2.2.2.2.2.2.1.getD t2.toNat 0)).1,lU)) ay) none:=eF Tryz.func94
theorem Gq (t0 t1 t2 t3 t4):dN (S.step T) t0 t1 t2 t3 t4=brk (t1) (brk (t2) (brk (t3) (brk (t4) (J (av,dW)) (J (I ((t0.2.2.2.2.2.2.2.1.length:Int)=0),dW))) (brk (I (t0.2.2.2.2.2.2.1=([]:LI))) (brk (t4) (J (av,dW)) (J (I ((t0.2.2.2.2.2.2.2.1.length:Int)=0),dW))) (J (ar,dW)))) (brk (I (t0.2.2.2.2.2.1=0)) (brk (t3) (brk (t4) (J (av,dW)) (J (I ((t0.2.2.2.2.2.2.2.1.length:Int)=0),dW))) (brk (I (t0.2.2.2.2.2.2.1=([]:LI))) (brk (t4) (J (av,dW)) (J (I ((t0.2.2.2.2.2.2.2.1.length:Int)=0),dW))) (J (ar,dW)))) (J (ar,dW)))) (brk (I (t0.2.2.2.2.1=0)) (brk (t2) (brk (t3) (brk (t4) (J (av,dW)) (J (I ((t0.2.2.2.2.2.2.2.1.length:Int)=0),dW))) (brk (I (t0.2.2.2.2.2.2.1=([]:LI))) (brk (t4) (J (av,dW)) (J (I ((t0.2.2.2.2.2.2.2.1.length:Int)=0),dW))) (J (ar,dW)))) (brk (I (t0.2.2.2.2.2.1=0)) (brk (t3) (brk (t4) (J (av,dW)) (J (I ((t0.2.2.2.2.2.2.2.1.length:Int)=0),dW))) (brk (I (t0.2.2.2.2.2.2.1=([]:LI))) (brk (t4) (J (av,dW)) (J (I ((t0.2.2.2.2.2.2.2.1.length:Int)=0),dW))) (J (ar,dW)))) (J (ar,dW)))) (J (ar,dW))):=eF Tryz.func95
theorem Dv (t0):jI (S.step T) t0=brk (I (97<=t0)) (brk (I (t0<=122)) (J (av,cO)) (brk (I (65<=t0)) (brk (I (t0<=90)) (J (av,cO)) (J (I (t0=95),cO))) (J (I (t0=95),cO)))) (brk (I (65<=t0)) (brk (I (t0<=90)) (J (av,cO)) (J (I (t0=95),cO))) (J (I (t0=95),cO))):=eF Tryz.func69
theorem GF (t0 t1):eH (S.step T) t0 t1=brk (I (t1<(t0.length:Int))) (brk (I (0<=t1)&&I (t1<(t0.length:Int))) (J (t0.getD t1.toNat 0,cQ)) ay) (J (0,cQ)):=eF Tryz.func68
theorem Fl (t0):eV (S.step T) t0=brk (I (48<=t0)) (J (I (t0<=57),cO)) (J (ar,cO)):=eF Tryz.func71
theorem Fe:tb (S.step T)=J (([([97,110,100]:LI),([98,114,101,97,107]:LI),([99,97,116,99,104]:LI),([99,111,110,115,116]:LI),([100,101,102,101,114]:LI),([101,108,105,102]:LI),([101,108,115,101]:LI),([102,97,108,115,101]:LI),([102,110]:LI),([102,111,114]:LI),([105,102]:LI),([105,110]:LI),([108,101,116]:LI),([110,101,120,116]:LI),([110,105,108]:LI),([110,111,116]:LI),([111,114]:LI),([114,101,116,117,114,110]:LI),([116,104,114,111,119]:LI),([116,114,117,101]:LI),([116,114,121]:LI),([119,104,105,108,101]:LI)]:List LI),qp):=eF Tryz.func133
theorem Gx (t0 t1):vy (S.step T) t0 t1=(jj T t0 t1 (0,0,0,0,0,([]:LI),()) t1.2.1).bind (dB (λy2=>brk (bounds y2.1.length y2.2.1.2.1 y2.2.2.2.1) ((tb T).bind λd32=>(ji T (1,y2.2.1.2.1,y2.2.2.2.1,y2.2.1.2.2.2) y2.2.2.1 (sub y2.1 y2.2.1.2.1 y2.2.2.2.1) d32.1 (d32.1.length:Int) 0).bind (dM (λy8=>J (y8,eP)) (λy8=>J (((y8.1.1,y8.1.2.1,y8.1.2.2.1,y8.1.2.2.2.1,y8.1.2.2.2.2.1,y8.2.2),(-1:Int),()),eP)))) ay)):=eF Tryz.func70
theorem vo (t0 t3 t4 t6):jj (S.step T) t0 t3 t4 t6=(eH T t0 t6).bind λd14=>(jI T d14.1).bind λd15=>brk (d15.1) (jj T t0 t3 t4 (aq.wrap (t6+1))) ((eH T t0 t6).bind λd19=>(eV T d19.1).bind λd20=>brk (d20.1) (jj T t0 t3 t4 (aq.wrap (t6+1))) (J (an (t0,t3,t4,t6,())))):=eL Tryz.func70
theorem vi (t3 t4 t7 t32 t33 t34):ji (S.step T) t3 t4 t7 t32 t33 t34=brk (I (t34<t33)) (brk (I (0<=t34)&&I (t34<(t32.length:Int))) (brk (I ((t32.getD t34.toNat [])=t7)) (J (an ((aq.wrap (10+t34),t3.2),(-1:Int),()))) (ji T t3 t4 t7 t32 t33 (aq.wrap (t34+1)))) ay) (J (aE (an (t3,t4,t7,())))):=eL Tryz.func70
theorem IL (t0):pR (S.step T) t0=(eV T t0).bind λd4=>brk (d4.1) (J (aq.wrap (aN.wrap (t0 - 48)),cO)) (brk (I (97<=t0)) (brk (I (t0<=102)) (J (aq.wrap ((aq.wrap (aN.wrap (t0 - 97)))+10),cO)) (J ((-1:Int),cO))) (J ((-1:Int),cO))):=eF Tryz.func135
theorem Fb (t0 t1):s7 (S.step T) t0 t1=(mX T t0 t1 (0,0,0,0,0,([]:LI),()) (aq.wrap (t1.2.1+2)) 0).bind (dM (λy3=>J (y3,eP)) (λy3=>brk (I (y3.2.2.1=aq.wrap (y3.1.2.1+2))) (J ((y3.1,y3.2.2.1,()),eP)) (J (((y3.1.1,y3.1.2.1,y3.2.2.1,y3.1.2.2.2.1,aq.wrap y3.2.2.2.1,y3.1.2.2.2.2.2),(-1:Int),()),eP)))):=eF Tryz.func134
theorem mN (t0 t3 t4 t6 t7):mX (S.step T) t0 t3 t4 t6 t7=(eH T t0 t6).bind λd13=>(pR T d13.1).bind λd14=>brk (I (0<=d14.1)) (brk (I (aq.wrap (t6 - t3.2.1)=18)) (J (an (t3,t6,()))) (brk (I (0<=t6)&&I (t6<(t0.length:Int))) ((pR T (t0.getD t6.toNat 0)).bind λd28=>mX T t0 t3 t4 (aq.wrap (t6+1)) (aH.wrap ((aH.wrap (t7*16))+(aH.wrap d28.1)))) ay)) (J (aE (an (t3,t4,t6,t7,())))):=eL Tryz.func134
theorem qU (t0 t1):vL (S.step T) t0 t1=brk (I (0<=t1.2.1)&&I (t1.2.1<(t0.length:Int))) (brk (I (t0.getD t1.2.1.toNat 0=48)) ((eH T t0 (aq.wrap (t1.2.1+1))).bind λd20=>brk (I (d20.1=120)) ((s7 T t0 (2,t1.2)).bind λd25=>J (d25.1,eP)) (brk (I (0<=t1.2.1)&&I (t1.2.1<(t0.length:Int))) (brk (!I (t0.getD t1.2.1.toNat 0=48)) ((gT T t0 (2,t1.2) (0,0,0,0,0,([]:LI),()) (aq.wrap (t1.2.1+1))).bind (dB (λy7=>(gS T y7.1 y7.2.1 y7.2.2.1 y7.2.2.2.1).bind (dB (λy9=>J (y9,eP)))))) ((gS T t0 (2,t1.2) (0,0,0,0,0,([]:LI),()) (aq.wrap (t1.2.1+1))).bind (dB (λy9=>J (y9,eP))))) ay)) (brk (I (0<=t1.2.1)&&I (t1.2.1<(t0.length:Int))) (brk (!I (t0.getD t1.2.1.toNat 0=48)) ((gT T t0 (2,t1.2) (0,0,0,0,0,([]:LI),()) (aq.wrap (t1.2.1+1))).bind (dB (λy7=>(gS T y7.1 y7.2.1 y7.2.2.1 y7.2.2.2.1).bind (dB (λy9=>J (y9,eP)))))) ((gS T t0 (2,t1.2) (0,0,0,0,0,([]:LI),()) (aq.wrap (t1.2.1+1))).bind (dB (λy9=>J (y9,eP))))) ay)) none:=eF a43
theorem pd (t0 t3 t4 t6):gS (S.step T) t0 t3 t4 t6=(eH T t0 t6).bind λd43=>brk (I (d43.1=46)) ((eH T t0 (aq.wrap (t6+1))).bind λd49=>(eV T d49.1).bind λd50=>brk (d50.1) ((ia T t0 (3,t3.2) t4 (aq.wrap (t6+1))).bind (dB (λmn=>(fC T mn.1 mn.2.1 mn.2.2.1 mn.2.2.2.1).bind (dB (λtC=>J (an tC)))))) ((fC T t0 t3 t4 t6).bind (dB (λtC=>J (an tC))))) ((fC T t0 t3 t4 t6).bind (dB (λtC=>J (an tC)))):=eJ a43
theorem rO (t0 t3 t4 t6):fC (S.step T) t0 t3 t4 t6=(eH T t0 t6).bind λd63=>brk (I (d63.1=101)) ((eH T t0 (aq.wrap (t6+1))).bind λd70=>brk (I (d70.1=45)) ((eH T t0 (aq.wrap ((aq.wrap (t6+1))+1))).bind λd82=>(eV T d82.1).bind λd83=>brk (!d83.1) (J (an ((3,t3.2),aq.wrap ((aq.wrap (t6+1))+1),()))) ((fD T t0 (3,t3.2) t4 (aq.wrap ((aq.wrap (t6+1))+1))).bind (dB (λzL=>(gz T zL.1 zL.2.1 zL.2.2.1 zL.2.2.2.1).bind (dB (λJ5=>J (an J5))))))) ((eH T t0 (aq.wrap (t6+1))).bind λd75=>brk (I (d75.1=43)) ((eH T t0 (aq.wrap ((aq.wrap (t6+1))+1))).bind λd82=>(eV T d82.1).bind λd83=>brk (!d83.1) (J (an ((3,t3.2),aq.wrap ((aq.wrap (t6+1))+1),()))) ((fD T t0 (3,t3.2) t4 (aq.wrap ((aq.wrap (t6+1))+1))).bind (dB (λzL=>(gz T zL.1 zL.2.1 zL.2.2.1 zL.2.2.2.1).bind (dB (λJ5=>J (an J5))))))) ((eH T t0 (aq.wrap (t6+1))).bind λd82=>(eV T d82.1).bind λd83=>brk (!d83.1) (J (an ((3,t3.2),aq.wrap (t6+1),()))) ((fD T t0 (3,t3.2) t4 (aq.wrap (t6+1))).bind (dB (λzL=>(gz T zL.1 zL.2.1 zL.2.2.1 zL.2.2.2.1).bind (dB (λJ5=>J (an J5))))))))) ((gz T t0 t3 t4 t6).bind (dB (λJ5=>J (an J5)))):=eJ a43
theorem rZ (t0 t3 t4 t6):gz (S.step T) t0 t3 t4 t6=(eD T t0 (t3.1,t3.2.1,t6,t3.2.2.2) t4 t6 0 t3.2.1).bind (dB (λpG=>brk (I (pG.2.1.1=3)) (brk (bounds pG.1.length pG.2.1.2.1 pG.2.2.2.1) (J (an ((pG.2.1.1,pG.2.1.2.1,pG.2.1.2.2.1,pG.2.1.2.2.2.1,pG.2.1.2.2.2.2.1,sub pG.1 pG.2.1.2.1 pG.2.2.2.1,()),(-1:Int),()))) ay) (J (an ((pG.2.1.1,pG.2.1.2.1,pG.2.1.2.2.1,pG.2.1.2.2.2.1,aq.wrap pG.2.2.2.2.1,pG.2.1.2.2.2.2.2),(-1:Int),()))))):=eJ a43
theorem sQ (t0 t3 t4 t6):gT (S.step T) t0 t3 t4 t6=(eH T t0 t6).bind λd37=>(eV T d37.1).bind λd38=>brk (d38.1) (gT T t0 t3 t4 (aq.wrap (t6+1))) (J (an (t0,t3,t4,t6,()))):=eL a43
theorem rN (t0 t3 t4 t6):ia (S.step T) t0 t3 t4 t6=(eH T t0 t6).bind λd57=>(eV T d57.1).bind λd58=>brk (d58.1) (ia T t0 t3 t4 (aq.wrap (t6+1))) (J (an (t0,t3,t4,t6,()))):=eL a43
theorem rM (t0 t3 t4 t6):fD (S.step T) t0 t3 t4 t6=(eH T t0 t6).bind λd89=>(eV T d89.1).bind λd90=>brk (d90.1) (fD T t0 t3 t4 (aq.wrap (t6+1))) (J (an (t0,t3,t4,t6,()))):=eL a43
theorem iP (t0 t3 t4 t6 t7 t8):eD (S.step T) t0 t3 t4 t6 t7 t8=brk (I (t8<t6)) (brk (I (t3.1=2)) (brk (I (922337203685477580<t7)) (brk (I (0<=t8)&&I (t8<(t0.length:Int))) (eD T t0 (3,t3.2) t4 t6 (aH.wrap ((aH.wrap (t7*10))+(aH.wrap (aN.wrap ((t0.getD t8.toNat 0) - 48))))) (aq.wrap (t8+1))) ay) (brk (I (t7=922337203685477580)) (brk (I (0<=t8)&&I (t8<(t0.length:Int))) (brk (I (55<t0.getD t8.toNat 0)) (brk (I (0<=t8)&&I (t8<(t0.length:Int))) (eD T t0 (3,t3.2) t4 t6 (aH.wrap ((aH.wrap (t7*10))+(aH.wrap (aN.wrap ((t0.getD t8.toNat 0) - 48))))) (aq.wrap (t8+1))) ay) (brk (I (0<=t8)&&I (t8<(t0.length:Int))) (eD T t0 t3 t4 t6 (aH.wrap ((aH.wrap (t7*10))+(aH.wrap (aN.wrap ((t0.getD t8.toNat 0) - 48))))) (aq.wrap (t8+1))) ay)) ay) (brk (I (0<=t8)&&I (t8<(t0.length:Int))) (eD T t0 t3 t4 t6 (aH.wrap ((aH.wrap (t7*10))+(aH.wrap (aN.wrap ((t0.getD t8.toNat 0) - 48))))) (aq.wrap (t8+1))) ay))) (J (an (t0,t3,t4,t6,t7,())))) (J (an (t0,t3,t4,t6,t7,()))):=eL a43
theorem DR (t0 t1):rD (S.step T) t0 t1=(dK T t0 (4,t1.2) (0,0,0,0,0,([]:LI),()) (aq.wrap (t1.2.1+1)) []).bind (dM (λy4=>J (y4,eP)) (λy4=>J ((y4.1,y4.2.2),eP))):=eF Tryz.func73
theorem oh (t0 t3 t4 t6 t7 t46 t59):jf (S.step T) t0 t3 t4 t6 t7 t46 t59=brk (t59) (brk (I (0<=t6)&&I (t6<(t0.length:Int))) (brk (fits (t7.length+([t0.getD t6.toNat 0]:LI).length)) (J (an (t0,t3,t4,t6,t7++([t0.getD t6.toNat 0]:LI),()))) ay) ay) (brk (I (t46=120)) ((j5 T t0 t3 t4 t6 t7 1).bind (dM (λIC=>J (aE (an IC))) (λIC=>brk (I (0<=aq.wrap (IC.2.2.2.1+1))&&I (aq.wrap (IC.2.2.2.1+1)<(IC.1.length:Int))) ((pR T (IC.1.getD ((aq.wrap (IC.2.2.2.1+1)).toNat) 0)).bind λd90=>brk (I (0<=aq.wrap (IC.2.2.2.1+2))&&I (aq.wrap (IC.2.2.2.1+2)<(IC.1.length:Int))) ((pR T (IC.1.getD ((aq.wrap (IC.2.2.2.1+2)).toNat) 0)).bind λd96=>brk (fits (IC.2.2.2.2.1.length+([aN.wrap (aq.wrap ((aq.wrap (16*d90.1))+d96.1))]:LI).length)) (J (an (IC.1,IC.2.1,IC.2.2.1,aq.wrap (IC.2.2.2.1+2),IC.2.2.2.2.1++([aN.wrap (aq.wrap ((aq.wrap (16*d90.1))+d96.1))]:LI),()))) ay) ay) ay))) (J (aE (an (t3,t6,()))))):=eJ Tryz.func73
theorem jo (t0 t3 t4 t6 t7):dK (S.step T) t0 t3 t4 t6 t7=brk (I (t6<(t0.length:Int))) (brk (I (0<=t6)&&I (t6<(t0.length:Int))) (brk (I (t0.getD t6.toNat 0=34)) (J (an ((t3.1,t3.2.1,aq.wrap (t6+1),t3.2.2.2.1,t3.2.2.2.2.1,t7.map byte,()),(-1:Int),()))) (brk (I (t0.getD t6.toNat 0=10)) (J (an (t3,t6,()))) (brk (!I (t0.getD t6.toNat 0=92)) (brk (fits (t7.length+([t0.getD t6.toNat 0]:LI).length)) (dK T t0 t3 t4 (aq.wrap (t6+1)) (t7++([t0.getD t6.toNat 0]:LI))) ay) ((eH T t0 (aq.wrap (t6+1))).bind λd46=>brk (I (d46.1=110)) (brk (fits (t7.length+1)) (dK T t0 t3 t4 (aq.wrap ((aq.wrap (t6+1))+1)) (t7++([10]:LI))) ay) (brk (I (d46.1=116)) (brk (fits (t7.length+1)) (dK T t0 t3 t4 (aq.wrap ((aq.wrap (t6+1))+1)) (t7++([9]:LI))) ay) (brk (I (d46.1=34)) ((jf T t0 t3 t4 (aq.wrap (t6+1)) t7 d46.1 (I (d46.1=34))).bind (dM (λxJ=>dK T xJ.1 xJ.2.1 xJ.2.2.1 (aq.wrap (xJ.2.2.2.1+1)) xJ.2.2.2.2.1) (λxJ=>J (an xJ)))) ((jf T t0 t3 t4 (aq.wrap (t6+1)) t7 d46.1 (I (d46.1=92))).bind (dM (λxJ=>dK T xJ.1 xJ.2.1 xJ.2.2.1 (aq.wrap (xJ.2.2.2.1+1)) xJ.2.2.2.2.1) (λxJ=>J (an xJ)))))))))) ay) (J (aE (an (t3,t4,t6,())))):=eL Tryz.func73
theorem ou (t0 t3 t4 t6 t7 t9):j5 (S.step T) t0 t3 t4 t6 t7 t9=brk (I (t9<3)) ((eH T t0 (aq.wrap (t6+t9))).bind λd78=>(pR T d78.1).bind λd79=>brk (I (d79.1<0)) (J (an (t3,aq.wrap (t6+t9),()))) (j5 T t0 t3 t4 t6 t7 (aq.wrap (t9+1)))) (J (aE (an (t0,t3,t4,t6,t7,())))):=eL Tryz.func73
theorem Fi:oS (S.step T)=J (([([46,46,46]:LI),([46,46]:LI),([46]:LI),([60,60]:LI),([60,61]:LI),([60]:LI),([62,62]:LI),([62,61]:LI),([62]:LI),([61,61]:LI),([61]:LI),([126,61]:LI),([126]:LI),([47,47]:LI),([47]:LI),([40]:LI),([41]:LI),([123]:LI),([125]:LI),([91]:LI),([93]:LI),([44]:LI),([59]:LI),([35]:LI),([43]:LI),([45]:LI),([42]:LI),([37]:LI),([38]:LI),([124]:LI)]:List LI),qp):=eF Tryz.func74
theorem Gp (t0):lY (S.step T) t0=(ir T t0 ([([]:LI),([43]:LI),([45]:LI),([42]:LI),([47]:LI),([47,47]:LI),([37]:LI),([38]:LI),([124]:LI),([126]:LI),([60,60]:LI),([62,62]:LI),([46,46]:LI),([61,61]:LI),([126,61]:LI),([60]:LI),([60,61]:LI),([62]:LI),([62,61]:LI)]:List LI) 1).bind (dM (λy3=>J (y3.1,cO)) (λy3=>(jh T y3.1 ([([40]:LI),([41]:LI),([123]:LI),([125]:LI),([91]:LI),([93]:LI),([44]:LI),([61]:LI),([46]:LI),([46,46,46]:LI),([35]:LI)]:List LI) (([([40]:LI),([41]:LI),([123]:LI),([125]:LI),([91]:LI),([93]:LI),([44]:LI),([61]:LI),([46]:LI),([46,46,46]:LI),([35]:LI)]:List LI).length:Int) 0).bind (dM (λy9=>J (y9.1,cO)) (λy9=>J (5,cO))))):=eF Tryz.func75
theorem vg (t0 t3 t4):ir (S.step T) t0 t3 t4=brk (I (t4<(t3.length:Int))) (brk (I (0<=t4)&&I (t4<(t3.length:Int))) (brk (I ((t3.getD t4.toNat [])=t0)) (J (an (aq.wrap (60+t4),()))) (ir T t0 t3 (aq.wrap (t4+1)))) ay) (J (aE (an (t0,())))):=eL Tryz.func75
theorem vu (t0 t24 t25 t26):jh (S.step T) t0 t24 t25 t26=brk (I (t26<t25)) (brk (I (0<=t26)&&I (t26<(t24.length:Int))) (brk (I ((t24.getD t26.toNat [])=t0)) (J (an (aq.wrap (40+t26),()))) (jh T t0 t24 t25 (aq.wrap (t26+1)))) ay) (J (aE (an ()))):=eL Tryz.func75
theorem yX (t0 t1):iS (S.step T) t0 t1=brk (I (0<=t1)&&I (t1<(t0.length:Int))) (brk (I (t0.getD t1.toNat 0=10)) (J (((7,t1,aq.wrap (t1+1),0,0,([]:LI),()),(-1:Int),()),cQ)) ((jI T (t0.getD t1.toNat 0)).bind λd23=>brk (d23.1) ((vy T t0 (0,t1,0,0,0,([]:LI),())).bind λd26=>J (d26.1,cQ)) ((eV T (t0.getD t1.toNat 0)).bind λd30=>brk (d30.1) ((vL T t0 (0,t1,0,0,0,([]:LI),())).bind λd33=>J (d33.1,cQ)) (brk (I (t0.getD t1.toNat 0=34)) ((rD T t0 (0,t1,0,0,0,([]:LI),())).bind λd40=>J (d40.1,cQ)) ((oS T).bind λd43=>(gM T t0 t1 (0,0,0,0,0,([]:LI),()) (0,t1,0,0,0,([]:LI),()) d43.1 (d43.1.length:Int) 0).bind (dM (λtC=>J (tC,cQ)) (λtC=>J ((tC.2.2.1,tC.1,()),cQ)))))))) none:=eF Tryz.func43
theorem tP (t0 t1 t4 t6 t43 t44 t45):gM (S.step T) t0 t1 t4 t6 t43 t44 t45=brk (I (t45<t44)) (brk (I (0<=t45)&&I (t45<(t43.length:Int))) (brk (I (((t43.getD t45.toNat []).length:Int)<=aq.wrap ((t0.length:Int) - t1))) (brk (bounds t0.length t1 (aq.wrap (t1+((t43.getD t45.toNat []).length:Int)))) (brk (I ((sub t0 t1 (aq.wrap (t1+((t43.getD t45.toNat []).length:Int))))=(t43.getD t45.toNat []))) ((lY T (t43.getD t45.toNat [])).bind λd68=>J (an ((d68.1,t6.2.1,aq.wrap (t1+((t43.getD t45.toNat []).length:Int)),t6.2.2.2),(-1:Int),()))) (gM T t0 t1 t4 t6 t43 t44 (aq.wrap (t45+1)))) ay) (gM T t0 t1 t4 t6 t43 t44 (aq.wrap (t45+1)))) ay) (J (aE (an (t1,t4,t6,())))):=eL Tryz.func43
theorem qZ (t0):jM (S.step T) t0=brk (I ((t0.length:Int)=0)) (J (ar,cO)) (brk (I (40<(t0.length:Int))) (J (ar,cO)) (brk (I (0<(t0.length:Int))) ((jI T (t0.getD 0 0)).bind λd16=>brk (!d16.1) (J (ar,cO)) ((iS T t0 0).bind λd21=>brk (I (d21.1.2.1<0)) (brk (I (d21.1.1.1=1)) (J (I (d21.1.1.2.2.1=(t0.length:Int)),cO)) (J (ar,cO))) (J (ar,cO)))) ay)):=eF Tryz.func100
theorem E9 (t0 t1 t2):jP (S.step T) t0 t1 t2=brk (I ((t0.2.2.2.2.2.2.2.1.length:Int)<t1)) (J (ar,mF)) (brk (I (t2<(t0.2.2.2.2.2.2.2.1.length:Int))) (J (ar,mF)) ((iD T t0.2.2.2.2.2.2.2.1 (t0.2.2.2.2.2.2.2.1.length:Int) 0).bind (dM (λy4=>J (y4.1,mF)) (λy4=>J (av,mF))))):=eF Tryz.func96
theorem tY (t22 t23 t24):iD (S.step T) t22 t23 t24=brk (I (t24<t23)) (brk (I (0<=t24)&&I (t24<(t22.length:Int))) ((jM T (t22.getD t24.toNat [])).bind λd29=>brk (!d29.1) (J (an (ar,()))) (iD T t22 t23 (aq.wrap (t24+1)))) ay) (J (aE (an ()))):=eL Tryz.func96
theorem GI (t0):zk (S.step T) t0=brk (I (20<=t0)) (J (I (t0<=37),cO)) (J (ar,cO)):=eF Tryz.func143
theorem FE (t0 t1 t2 t3):dL (S.step T) t0 t1 t2 t3=(pL T t3 t0 t1 t2).bind (dM (λy2=>J (y2.1,fg)) (λy2=>J (av,fg))):=eF Tryz.func97
theorem tZ (t3 t4 t5 t9):pL (S.step T) t3 t4 t5 t9=brk (I (t9<t3)) (brk (I (0<=t9)&&I (t9<(t5.2.2.2.2.2.2.2.2.1.length:Int))) (brk (I (0<=t5.2.2.2.2.2.2.2.2.1.getD t9.toNat 0)&&I (t5.2.2.2.2.2.2.2.2.1.getD t9.toNat 0<(t4.1.length:Int))) ((zk T (at_ (τ:=cR) t4.1 (t5.2.2.2.2.2.2.2.2.1.getD t9.toNat 0)).1).bind λd26=>brk (!d26.1) (J (an (ar,()))) (pL T t3 t4 t5 (aq.wrap (t9+1)))) ay) ay) (J (aE (an ()))):=eL Tryz.func97
theorem DU (t0):vT (S.step T) t0=brk (I (t0=26)) (J (av,cO)) (brk (I (t0=32)) (J (av,cO)) (J (I (t0=33),cO))):=eF Tryz.func98
theorem Aq (t0 t1):oN (S.step T) t0 t1=brk (I (t1.1=1)) ((fM T t0 t1 (t1.2.2.2.2.2.2.2.2.1.length:Int) 0).bind (dM (λy5=>J (y5.1,dc)) (λy5=>(dN T y5.1 ar ar ar ar).bind λd29=>J (d29.1,dc)))) (brk (I (t1.1=2)) ((dN T t1 ar ar ar av).bind λd33=>brk (d33.1) ((jP T t1 1 200).bind λd36=>brk (d36.1) ((dL T t0 t1 0 (t1.2.2.2.2.2.2.2.2.1.length:Int)).bind λd42=>J (d42.1,dc)) (J (ar,dc))) (J (ar,dc))) (brk (I (t1.1=3)) ((dN T t1 ar ar ar av).bind λd47=>brk (d47.1) ((jP T t1 1 1).bind λd50=>brk (d50.1) (brk (I ((t1.2.2.2.2.2.2.2.2.1.length:Int)=1)) ((dL T t0 t1 0 1).bind λd59=>J (d59.1,dc)) (J (ar,dc))) (J (ar,dc))) (J (ar,dc))) (brk (I (t1.1=4)) ((dN T t1 ar ar ar av).bind λd64=>brk (d64.1) ((jP T t1 1 1).bind λd67=>brk (d67.1) (brk (I ((t1.2.2.2.2.2.2.2.2.1.length:Int)=1)) ((ey T t0 t1 0).bind λd76=>J (I (d76.1=36),dc)) (J (ar,dc))) (J (ar,dc))) (J (ar,dc))) (brk (I (t1.1=5)) ((dN T t1 ar av ar ar).bind λd82=>brk (!d82.1) (J (ar,dc)) (brk (I (t1.2.2.2.2.2.1<1)) (J (ar,dc)) (brk (I ((t1.2.2.2.2.2.2.2.2.1.length:Int)<=t1.2.2.2.2.2.1)) (J (ar,dc)) ((fB T t0 t1 (t1.2.2.2.2.2.2.2.2.1.length:Int) 0).bind (dM (λzL=>J (zL.1,dc)) (λzL=>(dL T zL.1 zL.2.1 zL.2.1.2.2.2.2.2.1 zL.2.2.1).bind λd112=>J (d112.1,dc))))))) (brk (I (t1.1=6)) ((jW T t0 t1 (t1.2.2.2.2.2.2.2.2.1.length:Int) t1.1 (I (t1.1=6))).bind (dM (λGa=>J (Ga.1,dc)) (λGa=>(gG T Ga.1 Ga.2.1 Ga.2.2.1).bind (dB (λkZ=>J (kZ.1,dc)))))) ((jW T t0 t1 (t1.2.2.2.2.2.2.2.2.1.length:Int) t1.1 (I (t1.1=16))).bind (dM (λGa=>J (Ga.1,dc)) (λGa=>(gG T Ga.1 Ga.2.1 Ga.2.2.1).bind (dB (λkZ=>J (kZ.1,dc))))))))))):=eF Tryz.func52
theorem wj (t2 t3 t5 t12 t113):jW (S.step T) t2 t3 t5 t12 t113=brk (t113) ((dN T t3 ar ar ar ar).bind λd117=>brk (d117.1) (brk (I (t5=1)) ((ey T t2 t3 0).bind λd125=>J (an (I (d125.1=34),()))) (J (an (ar,())))) (J (an (ar,())))) (brk (I (t12=7)) ((dN T t3 ar ar ar ar).bind λd131=>brk (!d131.1) (J (an (ar,()))) (brk (I (t5<2)) (J (an (ar,()))) (brk (I (3<t5)) (J (an (ar,()))) ((dL T t2 t3 0 1).bind λd144=>brk (!d144.1) (J (an (ar,()))) ((ey T t2 t3 1).bind λd150=>brk (!I (d150.1=1)) (J (an (ar,()))) (brk (I (t5=2)) (J (an (av,()))) ((ey T t2 t3 2).bind λd158=>brk (I (d158.1=1)) (J (an (av,()))) ((ey T t2 t3 2).bind λd164=>J (an (I (d164.1=7),())))))))))) (brk (I (t12=8)) ((dN T t3 ar ar ar ar).bind λd170=>brk (d170.1) (brk (I (t5=2)) ((dL T t2 t3 0 1).bind λd178=>brk (d178.1) ((ey T t2 t3 1).bind λd183=>J (an (I (d183.1=1),()))) (J (an (ar,())))) (J (an (ar,())))) (J (an (ar,())))) (brk (I (t12=9)) ((dN T t3 ar ar ar av).bind λd189=>brk (d189.1) ((jP T t3 1 1).bind λd192=>brk (d192.1) (brk (I (t5=3)) ((dL T t2 t3 0 (aq.wrap (t5 - 1))).bind λd207=>brk (d207.1) ((ey T t2 t3 (aq.wrap (t5 - 1))).bind λd214=>J (an (I (d214.1=1),()))) (J (an (ar,())))) (brk (I (t5=4)) ((dL T t2 t3 0 (aq.wrap (t5 - 1))).bind λd207=>brk (d207.1) ((ey T t2 t3 (aq.wrap (t5 - 1))).bind λd214=>J (an (I (d214.1=1),()))) (J (an (ar,())))) (J (an (ar,()))))) (J (an (ar,())))) (J (an (ar,())))) (brk (I (t12=10)) ((dN T t3 ar ar ar av).bind λd220=>brk (d220.1) ((jP T t3 1 200).bind λd223=>brk (d223.1) (brk (I (t5=2)) ((dL T t2 t3 0 1).bind λd232=>brk (d232.1) ((ey T t2 t3 1).bind λd237=>J (an (I (d237.1=1),()))) (J (an (ar,())))) (J (an (ar,())))) (J (an (ar,())))) (J (an (ar,())))) (brk (I (t12=11)) ((iO T t2 t3 t5 t12 (I (t12=11))).bind (dM (λZ4=>J (an Z4)) (λZ4=>J (aE (an Z4))))) ((iO T t2 t3 t5 t12 (I (t12=12))).bind (dM (λZ4=>J (an Z4)) (λZ4=>J (aE (an Z4)))))))))):=eJ Tryz.func52
theorem wx (t2 t3 t5 t12 t240):iO (S.step T) t2 t3 t5 t12 t240=brk (t240) ((dN T t3 ar ar ar ar).bind λd244=>brk (d244.1) (J (an (I (t5=0),()))) (J (an (ar,())))) (brk (I (t12=13)) ((dN T t3 ar ar ar ar).bind λd252=>brk (d252.1) ((dL T t2 t3 0 t5).bind λd257=>J (an (d257.1,()))) (J (an (ar,())))) (brk (I (t12=14)) ((dN T t3 ar ar ar av).bind λd262=>brk (d262.1) ((jP T t3 1 2).bind λd265=>brk (d265.1) (brk (I (t5=2)) ((ey T t2 t3 0).bind λd274=>brk (I (d274.1=1)) ((ey T t2 t3 1).bind λd280=>J (an (I (d280.1=1),()))) (J (an (ar,())))) (J (an (ar,())))) (J (an (ar,())))) (J (an (ar,())))) (J (aE (an (t2,t3,t5,())))))):=eJ Tryz.func52
theorem wu (t2 t3 t5):gG (S.step T) t2 t3 t5=brk (I (t3.1=15)) ((dN T t3 ar ar ar ar).bind λd288=>brk (d288.1) (brk (I (t5=1)) ((dL T t2 t3 0 1).bind λd297=>J (an (d297.1,()))) (J (an (ar,())))) (J (an (ar,())))) (J (an (ar,()))):=eJ Tryz.func52
theorem qh (t2 t3 t17 t18):fM (S.step T) t2 t3 t17 t18=brk (I (t18<t17)) ((ey T t2 t3 t18).bind λd24=>(oA T d24.1).bind λd25=>brk (!d25.1) (J (an (ar,()))) (fM T t2 t3 t17 (aq.wrap (t18+1)))) (J (aE (an (t3,())))):=eL Tryz.func52
theorem pV (t2 t3 t5 t7):fB (S.step T) t2 t3 t5 t7=brk (I (t7<t3.2.2.2.2.2.1)) ((ey T t2 t3 t7).bind λd104=>(vT T d104.1).bind λd105=>brk (!d105.1) (J (an (ar,()))) (fB T t2 t3 t5 (aq.wrap (t7+1)))) (J (aE (an (t2,t3,t5,())))):=eL Tryz.func52
theorem sD (t0):qy (S.step T) t0=brk (I ((t0.length:Int)=0)) (J (ar,cO)) (brk (I (40<(t0.length:Int))) (J (ar,cO)) (brk (I (0<(t0.length:Int))) ((eV T (t0.getD 0 0)).bind λd16=>brk (!d16.1) (J (ar,cO)) ((iS T t0 0).bind λd21=>brk (I (d21.1.2.1<0)) (brk (I (d21.1.1.1=3)) (J (I (d21.1.1.2.2.1=(t0.length:Int)),cO)) (J (ar,cO))) (J (ar,cO)))) ay)):=eF Tryz.func99
theorem yJ (t0 t1):nS (S.step T) t0 t1=brk (I (t1.1=20)) ((gH T t0 t1 (t1.2.2.2.2.2.2.2.2.1.length:Int) t1.1 (I (t1.1=20))).bind (dM (λy7=>J (y7.1,dc)) (λy7=>(fi T y7.1 y7.2.1 y7.2.2.1).bind (dB (λkZ=>J (kZ.1,dc)))))) (brk (I (t1.1=21)) ((gH T t0 t1 (t1.2.2.2.2.2.2.2.2.1.length:Int) t1.1 (I (t1.1=21))).bind (dM (λy7=>J (y7.1,dc)) (λy7=>(fi T y7.1 y7.2.1 y7.2.2.1).bind (dB (λkZ=>J (kZ.1,dc)))))) (brk (I (t1.1=22)) ((gH T t0 t1 (t1.2.2.2.2.2.2.2.2.1.length:Int) t1.1 (I (t1.1=22))).bind (dM (λy7=>J (y7.1,dc)) (λy7=>(fi T y7.1 y7.2.1 y7.2.2.1).bind (dB (λkZ=>J (kZ.1,dc)))))) ((gH T t0 t1 (t1.2.2.2.2.2.2.2.2.1.length:Int) t1.1 (I (t1.1=27))).bind (dM (λy7=>J (y7.1,dc)) (λy7=>(fi T y7.1 y7.2.1 y7.2.2.1).bind (dB (λkZ=>J (kZ.1,dc)))))))):=eF Tryz.func53
theorem wo (t2 t3 t5 t12 t13):gH (S.step T) t2 t3 t5 t12 t13=brk (t13) (brk (I (t5=0)) ((dN T t3 ar ar ar ar).bind λd22=>J (an (d22.1,()))) (J (an (ar,())))) (brk (I (t12=23)) (brk (I (t5=0)) ((dN T t3 ar av ar ar).bind λd30=>J (an (d30.1,()))) (J (an (ar,())))) (brk (I (t12=24)) (brk (I (t5=0)) ((dN T t3 ar ar av ar).bind λd38=>brk (d38.1) ((qy T t3.2.2.2.2.2.2.1).bind λd43=>J (an (d43.1,()))) (J (an (ar,())))) (J (an (ar,())))) (brk (I (t12=25)) (brk (I (t5=0)) ((dN T t3 ar ar av ar).bind λd51=>brk (d51.1) (J (an (I ((t3.2.2.2.2.2.2.1.length:Int)<=4000),()))) (J (an (ar,())))) (J (an (ar,())))) (brk (I (t12=26)) (brk (I (t5=0)) ((dN T t3 ar ar av ar).bind λd65=>brk (d65.1) ((jM T t3.2.2.2.2.2.2.1).bind λd70=>J (an (d70.1,()))) (J (an (ar,())))) (J (an (ar,())))) (brk (I (t12=28)) ((il T t2 t3 t5 t12 (I (t12=28))).bind (dM (λJh=>J (an Jh)) (λJh=>J (aE (an Jh))))) ((il T t2 t3 t5 t12 (I (t12=29))).bind (dM (λJh=>J (an Jh)) (λJh=>J (aE (an Jh)))))))))):=eJ Tryz.func53
theorem vF (t2 t3 t5 t12 t72):il (S.step T) t2 t3 t5 t12 t72=brk (t72) (brk (I (t5=2)) ((dL T t2 t3 0 2).bind λd80=>brk (d80.1) ((dN T t3 ar ar ar ar).bind λd84=>J (an (d84.1,()))) (J (an (ar,())))) (J (an (ar,())))) (brk (I (t12=32)) (brk (I (t5=2)) ((dL T t2 t3 0 2).bind λd93=>brk (d93.1) ((ey T t2 t3 0).bind λd98=>brk (!I (d98.1=27)) ((dN T t3 ar ar ar ar).bind λd103=>J (an (d103.1,()))) (J (an (ar,())))) (J (an (ar,())))) (J (an (ar,())))) (brk (I (t12=30)) (brk (I (t5=1)) ((dL T t2 t3 0 1).bind λd112=>brk (d112.1) ((dN T t3 av ar ar ar).bind λd116=>brk (d116.1) (brk (I (19<=t3.2.2.2.2.1)) (J (an (I (t3.2.2.2.2.1<=22),()))) (J (an (ar,())))) (J (an (ar,())))) (J (an (ar,())))) (J (an (ar,())))) (brk (I (t12=31)) (brk (I (t5=2)) ((dL T t2 t3 0 2).bind λd135=>brk (d135.1) ((dN T t3 av ar ar ar).bind λd139=>brk (d139.1) (brk (I (1<=t3.2.2.2.2.1)) (J (an (I (t3.2.2.2.2.1<=18),()))) (J (an (ar,())))) (J (an (ar,())))) (J (an (ar,())))) (J (an (ar,())))) (brk (I (t12=33)) (brk (I (t5=1)) ((dL T t2 t3 0 1).bind λd158=>brk (d158.1) ((ey T t2 t3 0).bind λd163=>brk (!I (d163.1=27)) ((dN T t3 ar ar av ar).bind λd168=>brk (d168.1) ((jM T t3.2.2.2.2.2.2.1).bind λd173=>J (an (d173.1,()))) (J (an (ar,())))) (J (an (ar,())))) (J (an (ar,())))) (J (an (ar,())))) (brk (I (t12=34)) (brk (I (1<=t5)) ((dL T t2 t3 0 t5).bind λd183=>brk (d183.1) ((ey T t2 t3 0).bind λd188=>brk (!I (d188.1=27)) ((dN T t3 ar ar ar ar).bind λd193=>J (an (d193.1,()))) (J (an (ar,())))) (J (an (ar,())))) (J (an (ar,())))) (brk (I (t12=35)) ((fj T t2 t3 (t3.2.2.2.2.2.2.2.2.1.length:Int) 0).bind (dM (λJi=>J (an Ji)) (λJi=>(dN T Ji.1 ar ar ar ar).bind λd215=>J (an (d215.1,()))))) (brk (I (t12=36)) (brk (I (t5=1)) ((ey T t2 t3 0).bind λd223=>brk (I (d223.1=1)) ((dN T t3 av ar ar av).bind λd228=>brk (d228.1) ((jP T t3 0 200).bind λd232=>brk (d232.1) (brk (I (t3.2.2.2.2.1=0)) (J (an (av,()))) (J (an (I (t3.2.2.2.2.1=1),())))) (J (an (ar,())))) (J (an (ar,())))) (J (an (ar,())))) (J (an (ar,())))) (brk (I (t12=37)) (brk (I (t5=1)) ((ey T t2 t3 0).bind λd251=>brk (I (d251.1=34)) ((dN T t3 ar ar ar ar).bind λd262=>J (an (d262.1,()))) ((ey T t2 t3 0).bind λd256=>brk (I (d256.1=27)) ((dN T t3 ar ar ar ar).bind λd262=>J (an (d262.1,()))) (J (an (ar,()))))) (J (an (ar,())))) (brk (I (t12=40)) (brk (I (t5=1)) ((dL T t2 t3 0 1).bind λd271=>brk (d271.1) ((dN T t3 ar ar ar ar).bind λd275=>J (an (d275.1,()))) (J (an (ar,())))) (J (an (ar,())))) (brk (I (t12=41)) (brk (I (t5=2)) ((dL T t2 t3 0 2).bind λd284=>brk (d284.1) ((dN T t3 ar ar ar ar).bind λd288=>J (an (d288.1,()))) (J (an (ar,())))) (J (an (ar,())))) (J (aE (an (t2,t3,t5,())))))))))))))):=eJ Tryz.func53
theorem vH (t2 t3 t5):fi (S.step T) t2 t3 t5=brk (I (t3.1=42)) (brk (I (t5=1)) ((dL T t2 t3 0 1).bind λd300=>brk (d300.1) ((dN T t3 ar ar av ar).bind λd304=>brk (d304.1) ((jM T t3.2.2.2.2.2.2.1).bind λd309=>J (an (d309.1,()))) (J (an (ar,())))) (J (an (ar,())))) (J (an (ar,())))) (J (an (ar,()))):=eJ Tryz.func53
theorem pv (t2 t3 t199 t200):fj (S.step T) t2 t3 t199 t200=brk (I (t200<t199)) ((ey T t2 t3 t200).bind λd206=>brk (I (d206.1<40)) (J (an (ar,()))) (brk (I (42<d206.1)) (J (an (ar,()))) (fj T t2 t3 t199 (aq.wrap (t200+1))))) (J (aE (an (t3,())))):=eL Tryz.func53
theorem DC (t0 t1):jO (S.step T) t0 t1=brk (I (0<=t1)&&I (t1<(t0.1.length:Int))) (brk (I ((at_ (τ:=cR) t0.1 t1).2.1<0)) (J (ar,df)) (brk (I ((at_ (τ:=cR) t0.1 t1).2.2.1<(at_ (τ:=cR) t0.1 t1).2.1)) (J (ar,df)) (brk (I ((at_ (τ:=cR) t0.1 t1).2.2.2.1<0)) (J (ar,df)) (brk (I (200<((at_ (τ:=cR) t0.1 t1).2.2.2.2.2.2.2.2.1.length:Int))) (J (ar,df)) ((gq T t1 t0 (at_ (τ:=cR) t0.1 t1) (at_ (τ:=cR) t0.1 t1).2.2.2.2.2.2.2.2.1 ((at_ (τ:=cR) t0.1 t1).2.2.2.2.2.2.2.2.1.length:Int) 0).bind (dM (λy5=>J (y5.1,df)) (λy5=>(oA T y5.2.1.1).bind λd51=>brk (d51.1) ((oN T y5.1 y5.2.1).bind λd54=>J (d54.1,df)) ((nS T y5.1 y5.2.1).bind λd57=>J (d57.1,df))))))))) none:=eF Tryz.func27
theorem sS (t1 t2 t5 t35 t36 t37):gq (S.step T) t1 t2 t5 t35 t36 t37=brk (I (t37<t36)) (brk (I (0<=t37)&&I (t37<(t35.length:Int))) (brk (I (t35.getD t37.toNat 0<0)) (J (an (ar,()))) (brk (I (t1<=t35.getD t37.toNat 0)) (J (an (ar,()))) (gq T t1 t2 t5 t35 t36 (aq.wrap (t37+1))))) ay) (J (aE (an (t2,t5,())))):=eL Tryz.func27
theorem Fg (t0):oR (S.step T) t0=brk (((I (0<=(t0.1.length:Int)))&&(I ((t0.1.length:Int)<=(t0.1.length:Int))))&&(I ((t0.1.length:Int)<=lim))) ((gN T (aM ((t0.1.length:Int).toNat) 0) t0.1 (t0.1.length:Int) 0).bind (dB (λy3=>J (y3.1,dw)))) none:=eF Tryz.func28
theorem ug (t3 t15 t16 t17):gN (S.step T) t3 t15 t16 t17=brk (I (t17<t16)) (brk (I (0<=t17)&&I (t17<(t15.length:Int))) ((lq T t3 t17 (at_ (τ:=cR) t15 t17) t17 av (aq.wrap (((at_ (τ:=cR) t15 t17).2.2.2.2.2.2.2.2.1.length:Int) - 1)) t15 t16 t17).bind (dB (λy8=>brk (y8.2.2.2.1) (brk (I (0<=y8.2.1)&&I (y8.2.1<(y8.1.length:Int))) (gN T (y8.1.set y8.2.1.toNat (aq.wrap ((aq.wrap (y8.2.1 - y8.2.2.1))+1))) y8.2.2.2.2.1 y8.2.2.2.2.2.1 (aq.wrap (y8.2.2.2.2.2.2.1+1))) ay) (gN T y8.1 y8.2.2.2.2.1 y8.2.2.2.2.2.1 (aq.wrap (y8.2.2.2.2.2.2.1+1)))))) ay) (J (an (t3,()))):=eL Tryz.func28
theorem mR (t3 t4 t5 t6 t7 t8 t15 t16 t17):lq (S.step T) t3 t4 t5 t6 t7 t8 t15 t16 t17=brk (I (0<=t8)) (brk (I (0<=t8)&&I (t8<(t5.2.2.2.2.2.2.2.2.1.length:Int))) (brk (!I (t5.2.2.2.2.2.2.2.2.1.getD t8.toNat 0=aq.wrap (t6 - 1))) (J (an (t3,t4,t6,ar,t15,t16,t17,()))) (brk (I (0<=t5.2.2.2.2.2.2.2.2.1.getD t8.toNat 0)&&I (t5.2.2.2.2.2.2.2.2.1.getD t8.toNat 0<(t3.length:Int))) (brk (I (t3.getD ((t5.2.2.2.2.2.2.2.2.1.getD t8.toNat 0).toNat) 0=0)) (J (an (t3,t4,t6,ar,t15,t16,t17,()))) (brk (I (0<=t5.2.2.2.2.2.2.2.2.1.getD t8.toNat 0)&&I (t5.2.2.2.2.2.2.2.2.1.getD t8.toNat 0<(t3.length:Int))) (lq T t3 t4 t5 (aq.wrap (t6 - (t3.getD ((t5.2.2.2.2.2.2.2.2.1.getD t8.toNat 0).toNat) 0))) t7 (aq.wrap (t8 - 1)) t15 t16 t17) ay)) ay)) ay) (J (an (t3,t4,t6,t7,t15,t16,t17,()))):=eL Tryz.func28
theorem uC (t0):jZ (S.step T) t0=brk (I ((t0.1.length:Int)=0)) (J ((1,0,()),dw)) (brk (I (3000<(t0.1.length:Int))) (J ((1,0,()),dw)) (brk (I (0<=aq.wrap ((t0.1.length:Int) - 1))&&I (aq.wrap ((t0.1.length:Int) - 1)<(t0.1.length:Int))) (brk (!I ((at_ (τ:=cR) t0.1 (aq.wrap ((t0.1.length:Int) - 1))).1=1)) (J ((1,0,()),dw)) ((iu T t0 (0,0,()) (t0.1.length:Int) 0).bind (dM (λy4=>J (y4.1,dw)) (λy4=>(oR T y4.1).bind λd50=>(gg T y4.1 y4.2.1 d50.1 d50.1 (d50.1.length:Int) 0).bind (dM (λyb=>J (yb.1,dw)) (λyb=>brk (I (0<=aq.wrap ((yb.2.2.1.length:Int) - 1))&&I (aq.wrap ((yb.2.2.1.length:Int) - 1)<(yb.2.2.1.length:Int))) (brk (!I (yb.2.2.1.getD ((aq.wrap ((yb.2.2.1.length:Int) - 1)).toNat) 0=(yb.2.2.1.length:Int))) (J ((3,aq.wrap ((yb.2.2.1.length:Int) - 1),()),dw)) (brk (((I (0<=(yb.1.1.length:Int)))&&(I ((yb.1.1.length:Int)<=(yb.1.1.length:Int))))&&(I ((yb.1.1.length:Int)<=lim))) ((ng T yb.1 yb.2.1 (aM ((yb.1.1.length:Int).toNat) 0) (aq.wrap ((yb.1.1.length:Int) - 1))).bind (dB (λFK=>(iB T FK.1 FK.2.1 (FK.2.1.length:Int) 0).bind (dM (λGa=>J (Ga.1,dw)) (λGa=>J ((0,0,()),dw)))))) ay)) ay)))))) ay)):=eF Tryz.func12
theorem vf (t1 t2 t38 t39):iu (S.step T) t1 t2 t38 t39=brk (I (t39<t38)) ((jO T t1 t39).bind λd44=>brk (!d44.1) (J (an ((2,t39,()),()))) (iu T t1 t2 t38 (aq.wrap (t39+1)))) (J (aE (an (t1,t2,())))):=eL Tryz.func12
theorem uk (t1 t2 t4 t51 t52 t53):gg (S.step T) t1 t2 t4 t51 t52 t53=brk (I (t53<t52)) (brk (I (0<=t53)&&I (t53<(t51.length:Int))) (brk (I (t51.getD t53.toNat 0=0)) (J (an ((3,t53,()),()))) (gg T t1 t2 t4 t51 t52 (aq.wrap (t53+1)))) ay) (J (aE (an (t1,t2,t4,())))):=eL Tryz.func12
theorem tW (t1 t2 t7 t8):ng (S.step T) t1 t2 t7 t8=brk (I (0<=t8)) (brk (I (0<=t8)&&I (t8<(t1.1.length:Int))) ((nh T t1 t2 t7 t8 (at_ (τ:=cR) t1.1 t8).2.2.2.2.2.2.2.2.1 ((at_ (τ:=cR) t1.1 t8).2.2.2.2.2.2.2.2.1.length:Int) 0).bind (dB (λJ5=>ng T J5.1 J5.2.1 J5.2.2.1 (aq.wrap (J5.2.2.2.1 - 1))))) ay) (J (an (t2,t7,()))):=eL Tryz.func12
theorem ue (t1 t2 t7 t8 t93 t94 t95):nh (S.step T) t1 t2 t7 t8 t93 t94 t95=brk (I (t95<t94)) (brk (I (0<=t95)&&I (t95<(t93.length:Int))) (brk (I (0<=t8)&&I (t8<(t7.length:Int))) (brk (I (0<=t93.getD t95.toNat 0)&&I (t93.getD t95.toNat 0<(t7.length:Int))) (nh T t1 t2 (t7.set ((t93.getD t95.toNat 0).toNat) (aq.wrap ((t7.getD t8.toNat 0)+1))) t8 t93 t94 (aq.wrap (t95+1))) ay) ay) ay) (J (an (t1,t2,t7,t8,()))):=eL Tryz.func12
theorem tM (t2 t108 t109 t110):iB (S.step T) t2 t108 t109 t110=brk (I (t110<t109)) (brk (I (0<=t110)&&I (t110<(t108.length:Int))) (brk (I (100<t108.getD t110.toNat 0)) (J (an ((4,t110,()),()))) (iB T t2 t108 t109 (aq.wrap (t110+1)))) ay) (J (aE (an (t2,())))):=eL Tryz.func12
theorem Fv (t0 t1):cY (S.step T) t0 t1=brk (fits (t0.2.1.length+t1.length)) (J ((),(t0.1,t0.2.1++t1,t0.2.2),(),())) none:=eF Tryz.func59
theorem DL (t0):rA (S.step T) t0=(cY T t0 ([10]:LI)).bind λd4=>(mA T d4.2.1 0).bind (dB (λy2=>J ((),y2))):=eF Tryz.func148
theorem sV (t0 t2):mA (S.step T) t0 t2=brk (I (t2<t0.2.2.1)) ((cY T t0 ([9]:LI)).bind λd14=>mA T d14.2.1 (aq.wrap (t2+1))) (J (an (t0,()))):=eL Tryz.func148
theorem Cz (t0 t1):fe (S.step T) t0 t1=brk (I (0<=t1)&&I (t1<(t0.1.1.length:Int))) (brk (I (((at_ (τ:=cR) t0.1.1 t1).2.2.2.2.2.2.2.2.1.length:Int)=0)) ((cY T t0 ([123,125]:LI)).bind λd20=>J ((),d20.2.1,(),())) ((cY T t0 ([123]:LI)).bind λd22=>(lL T (d22.2.1.1,d22.2.1.2.1,aq.wrap (d22.2.1.2.2.1+1),()) (at_ (τ:=cR) t0.1.1 t1).2.2.2.2.2.2.2.2.1 ((at_ (τ:=cR) t0.1.1 t1).2.2.2.2.2.2.2.2.1.length:Int) 0).bind (dB (λy6=>(rA T (y6.1.1,y6.1.2.1,aq.wrap (y6.1.2.2.1 - 1),())).bind λd50=>(cY T d50.2.1 ([125]:LI)).bind λd52=>J ((),d52.2.1,(),()))))) none:=eF Tryz.func112
theorem r5 (t0 t30 t31 t32):lL (S.step T) t0 t30 t31 t32=brk (I (t32<t31)) (brk (I (0<=t32)&&I (t32<(t30.length:Int))) ((rA T t0).bind λd37=>(ry T d37.2.1 (t30.getD t32.toNat 0)).bind λd40=>lL T d40.2.1 t30 t31 (aq.wrap (t32+1))) ay) (J (an (t0,()))):=eL Tryz.func112
theorem Cj (t0 t1):mC (S.step T) t0 t1=(ie T t0 t1 (t1.length:Int) 0).bind (dB (λy1=>J ((),y1.1,(),()))):=eF Tryz.func113
theorem lF (t0 t6 t7 t8):ie (S.step T) t0 t6 t7 t8=brk (I (t8<t7)) (brk (I (0<=t8)&&I (t8<(t6.length:Int))) (brk (I (0<t8)) ((cY T t0 ([44,32]:LI)).bind λd16=>(cY T d16.2.1 (t6.getD t8.toNat [])).bind λd19=>ie T d19.2.1 t6 t7 (aq.wrap (t8+1))) ((cY T t0 (t6.getD t8.toNat [])).bind λd19=>ie T d19.2.1 t6 t7 (aq.wrap (t8+1)))) ay) (J (an (t0,()))):=eL Tryz.func113
theorem FD (t0):xl (S.step T) t0=brk (I (t0.1=29)) (J (1,fQ)) (brk (I (t0.1=28)) (J (2,fQ)) (brk (I (t0.1=31)) ((jQ T (aq.wrap (60+t0.2.2.2.2.1))).bind λd17=>J (d17.1.1,fQ)) (brk (I (t0.1=30)) (J (11,fQ)) (J (12,fQ))))):=eF Tryz.func149
theorem Fs (t0):qv (S.step T) t0=brk (I (t0.1=29)) (J (2,fQ)) (brk (I (t0.1=28)) (J (3,fQ)) ((jQ T (aq.wrap (60+t0.2.2.2.2.1))).bind λd15=>J (d15.1.2.1,fQ))):=eF Tryz.func162
theorem Cy (t0 t1 t2 t3):ox (S.step T) t0 t1 t2 t3=(qv T t1).bind λd11=>brk (I (d11.1=t3)) (brk (I (0<(t1.2.2.2.2.2.2.2.2.1.length:Int))) ((dG T t0 (t1.2.2.2.2.2.2.2.2.1.getD 0 0) (aq.wrap (t3+1))).bind λd22=>(cY T d22.2.1 t2).bind λd25=>brk (I (1<(t1.2.2.2.2.2.2.2.2.1.length:Int))) ((qv T t1).bind λd32=>(dG T d25.2.1 (t1.2.2.2.2.2.2.2.2.1.getD 1 0) d32.1).bind λd33=>J ((),d33.2.1,((),(),(),(),(),(),(),(),(),()),(),(),())) ay) ay) (brk (I (0<(t1.2.2.2.2.2.2.2.2.1.length:Int))) ((dG T t0 (t1.2.2.2.2.2.2.2.2.1.getD 0 0) t3).bind λd22=>(cY T d22.2.1 t2).bind λd25=>brk (I (1<(t1.2.2.2.2.2.2.2.2.1.length:Int))) ((qv T t1).bind λd32=>(dG T d25.2.1 (t1.2.2.2.2.2.2.2.2.1.getD 1 0) d32.1).bind λd33=>J ((),d33.2.1,((),(),(),(),(),(),(),(),(),()),(),(),())) ay) ay):=eF Tryz.func150
theorem yY (t0):fK (S.step T) t0=brk (I (t0=5)) (J (([59]:LI),cO)) ((tb T).bind λd8=>brk (I (10<=t0)) (brk (I (t0<aq.wrap (10+(d8.1.length:Int)))) (brk (I (0<=aq.wrap (t0 - 10))&&I (aq.wrap (t0 - 10)<(d8.1.length:Int))) (J (d8.1.getD ((aq.wrap (t0 - 10)).toNat) [],cO)) ay) ((oS T).bind λd23=>(gI T t0 d23.1 (d23.1.length:Int) 0).bind (dM (λy7=>J (y7.1,cO)) (λy7=>J (([]:LI),cO))))) ((oS T).bind λd23=>(gI T t0 d23.1 (d23.1.length:Int) 0).bind (dM (λy7=>J (y7.1,cO)) (λy7=>J (([]:LI),cO))))):=eF Tryz.func136
theorem vq (t0 t23 t24 t25):gI (S.step T) t0 t23 t24 t25=brk (I (t25<t24)) (brk (I (0<=t25)&&I (t25<(t23.length:Int))) ((lY T (t23.getD t25.toNat [])).bind λd30=>brk (I (d30.1=t0)) (J (an (t23.getD t25.toNat [],()))) (gI T t0 t23 t24 (aq.wrap (t25+1)))) ay) (J (aE (an ()))):=eL Tryz.func136
theorem Ce (t0 t1):uy (S.step T) t0 t1=brk (I (t1.2.2.2.2.1=21)) ((cY T t0 ([110,111,116,32]:LI)).bind λd33=>(fW T d33.2.1 t1).bind (dB (λmn=>J ((),mn.1,((),(),(),(),(),(),(),(),(),()),())))) (brk (I (t1.2.2.2.2.1=22)) ((cY T t0 ([35]:LI)).bind λd37=>(fW T d37.2.1 t1).bind (dB (λmn=>J ((),mn.1,((),(),(),(),(),(),(),(),(),()),())))) (brk (I (t1.2.2.2.2.1=20)) ((cY T t0 ([126]:LI)).bind λd41=>(fW T d41.2.1 t1).bind (dB (λmn=>J ((),mn.1,((),(),(),(),(),(),(),(),(),()),())))) ((cY T t0 ([45]:LI)).bind λd8=>brk (I (0<(t1.2.2.2.2.2.2.2.2.1.length:Int))) (brk (I (0<=t1.2.2.2.2.2.2.2.2.1.getD 0 0)&&I (t1.2.2.2.2.2.2.2.2.1.getD 0 0<(d8.2.1.1.1.length:Int))) (brk (I ((at_ (τ:=cR) d8.2.1.1.1 (t1.2.2.2.2.2.2.2.2.1.getD 0 0)).1=30)) (brk (I ((at_ (τ:=cR) d8.2.1.1.1 (t1.2.2.2.2.2.2.2.2.1.getD 0 0)).2.2.2.2.1=19)) ((cY T d8.2.1 ([32]:LI)).bind λd29=>(fW T d29.2.1 t1).bind (dB (λmn=>J ((),mn.1,((),(),(),(),(),(),(),(),(),()),())))) ((fW T d8.2.1 t1).bind (dB (λmn=>J ((),mn.1,((),(),(),(),(),(),(),(),(),()),()))))) ((fW T d8.2.1 t1).bind (dB (λmn=>J ((),mn.1,((),(),(),(),(),(),(),(),(),()),()))))) ay) ay))):=eF Tryz.func151
theorem yi (t0 t3):fW (S.step T) t0 t3=brk (I (0<(t3.2.2.2.2.2.2.2.2.1.length:Int))) ((dG T t0 (t3.2.2.2.2.2.2.2.2.1.getD 0 0) 11).bind λd47=>J (an (d47.2.1,()))) none:=eJ Tryz.func151
theorem GJ (t0):zc (S.step T) t0=brk (I (t0=26)) (J (av,cO)) (brk (I (t0=32)) (J (av,cO)) (brk (I (t0=33)) (J (av,cO)) (brk (I (t0=34)) (J (av,cO)) (J (I (t0=37),cO))))):=eF Tryz.func163
theorem DS (t0 t1):py (S.step T) t0 t1=brk (I (0<=t1)&&I (t1<(t0.1.1.length:Int))) ((zc T (at_ (τ:=cR) t0.1.1 t1).1).bind λd13=>brk (d13.1) ((dG T t0 t1 0).bind λd16=>J ((),d16.2.1,(),())) ((cY T t0 ([40]:LI)).bind λd18=>(dG T d18.2.1 t1 0).bind λd21=>(cY T d21.2.1 ([41]:LI)).bind λd23=>J ((),d23.2.1,(),()))) none:=eF Tryz.func152
theorem Cs (t0 t1):ur (S.step T) t0 t1=(cY T t0 ([123]:LI)).bind λd8=>(ig T d8.2.1 t1.2.2.2.2.2.2.2.2.1 (t1.2.2.2.2.2.2.2.2.1.length:Int) 0).bind (dB (λy3=>(cY T y3.1 ([125]:LI)).bind λd71=>J ((),d71.2.1,((),(),(),(),(),(),(),(),(),()),()))):=eF Tryz.func153
theorem om (t0 t5 t10 t11 t12):lN (S.step T) t0 t5 t10 t11 t12=brk (I (0<=t5)&&I (t5<(t0.1.1.length:Int))) (brk (I ((at_ (τ:=cR) t0.1.1 t5).1=41)) ((cY T t0 ([91]:LI)).bind λd40=>brk (I (0<((at_ (τ:=cR) t0.1.1 t5).2.2.2.2.2.2.2.2.1.length:Int))) ((dG T d40.2.1 ((at_ (τ:=cR) t0.1.1 t5).2.2.2.2.2.2.2.2.1.getD 0 0) 0).bind λd46=>(cY T d46.2.1 ([93,32,61,32]:LI)).bind λd48=>brk (I (1<((at_ (τ:=cR) t0.1.1 t5).2.2.2.2.2.2.2.2.1.length:Int))) ((dG T d48.2.1 ((at_ (τ:=cR) t0.1.1 t5).2.2.2.2.2.2.2.2.1.getD 1 0) 0).bind λd54=>J (an (d54.2.1,t10,t11,t12,()))) ay) ay) (brk (I ((at_ (τ:=cR) t0.1.1 t5).1=42)) (brk (fits (1+(at_ (τ:=cR) t0.1.1 t5).2.2.2.2.2.2.1.length)) (brk (fits ((([46]:LI)++(at_ (τ:=cR) t0.1.1 t5).2.2.2.2.2.2.1).length+3)) ((cY T t0 ((([46]:LI)++(at_ (τ:=cR) t0.1.1 t5).2.2.2.2.2.2.1)++([32,61,32]:LI))).bind λd62=>brk (I (0<((at_ (τ:=cR) t0.1.1 t5).2.2.2.2.2.2.2.2.1.length:Int))) ((dG T d62.2.1 ((at_ (τ:=cR) t0.1.1 t5).2.2.2.2.2.2.2.2.1.getD 0 0) 0).bind λd68=>J (an (d68.2.1,t10,t11,t12,()))) ay) ay) ay) (brk (I (0<((at_ (τ:=cR) t0.1.1 t5).2.2.2.2.2.2.2.2.1.length:Int))) ((dG T t0 ((at_ (τ:=cR) t0.1.1 t5).2.2.2.2.2.2.2.2.1.getD 0 0) 0).bind λd36=>J (an (d36.2.1,t10,t11,t12,()))) ay))) none:=eJ Tryz.func153
theorem lE (t0 t10 t11 t12):ig (S.step T) t0 t10 t11 t12=brk (I (t12<t11)) (brk (I (0<=t12)&&I (t12<(t10.length:Int))) (brk (I (0<t12)) ((cY T t0 ([44,32]:LI)).bind λd20=>(lN T d20.2.1 (t10.getD t12.toNat 0) t10 t11 t12).bind (dB (λy7=>ig T y7.1 y7.2.1 y7.2.2.1 (aq.wrap (y7.2.2.2.1+1))))) ((lN T t0 (t10.getD t12.toNat 0) t10 t11 t12).bind (dB (λy7=>ig T y7.1 y7.2.1 y7.2.2.1 (aq.wrap (y7.2.2.2.1+1)))))) ay) (J (an (t0,()))):=eL Tryz.func153
theorem qT (t0 t1):rB (S.step T) t0 t1=brk (I (0<=t1)&&I (t1<(t0.1.1.length:Int))) ((cY T t0 ([40]:LI)).bind λd14=>(mC T d14.2.1 (at_ (τ:=cR) t0.1.1 t1).2.2.2.2.2.2.2.1).bind λd18=>brk (I ((at_ (τ:=cR) t0.1.1 t1).2.2.2.2.1=1)) (brk (I (0<((at_ (τ:=cR) t0.1.1 t1).2.2.2.2.2.2.2.1.length:Int))) ((cY T d18.2.1 ([44,32]:LI)).bind λd27=>(cY T d27.2.1 ([46,46,46]:LI)).bind λd29=>(cY T d29.2.1 ([41,32]:LI)).bind λd31=>brk (I (0<((at_ (τ:=cR) t0.1.1 t1).2.2.2.2.2.2.2.2.1.length:Int))) ((fe T d31.2.1 ((at_ (τ:=cR) t0.1.1 t1).2.2.2.2.2.2.2.2.1.getD 0 0)).bind λd37=>J ((),d37.2.1,(),())) ay) ((cY T d18.2.1 ([46,46,46]:LI)).bind λd29=>(cY T d29.2.1 ([41,32]:LI)).bind λd31=>brk (I (0<((at_ (τ:=cR) t0.1.1 t1).2.2.2.2.2.2.2.2.1.length:Int))) ((fe T d31.2.1 ((at_ (τ:=cR) t0.1.1 t1).2.2.2.2.2.2.2.2.1.getD 0 0)).bind λd37=>J ((),d37.2.1,(),())) ay)) ((cY T d18.2.1 ([41,32]:LI)).bind λd31=>brk (I (0<((at_ (τ:=cR) t0.1.1 t1).2.2.2.2.2.2.2.2.1.length:Int))) ((fe T d31.2.1 ((at_ (τ:=cR) t0.1.1 t1).2.2.2.2.2.2.2.2.1.getD 0 0)).bind λd37=>J ((),d37.2.1,(),())) ay)) none:=eF Tryz.func116
theorem ve (t0):gJ (S.step T) t0=brk (I (t0=0)) (J (([48]:LI),cO)) ((ik T t0 (I (t0<0)) []).bind (dB (λy5=>brk (y5.1) ((kO T y5.2.1 ([45]:LI)).bind (dB (λtC=>J (tC.1,cO)))) ((kO T y5.2.1 ([]:LI)).bind (dB (λtC=>J (tC.1,cO))))))):=eF Tryz.func39
theorem yk (t4 t6):kO (S.step T) t4 t6=(jx T t4 t6 (aq.wrap ((t4.length:Int) - 1))).bind (dB (λDu=>J (an Du))):=eJ Tryz.func39
theorem ot (t0 t3 t4):ik (S.step T) t0 t3 t4=brk (!I (t0=0)) (brk (I (t0.tmod 10<0)) (brk (fits (t4.length+([aN.wrap (aq.wrap (48+(aq.wrap (0 - (t0.tmod 10)))))]:LI).length)) (ik T (aq.wrap (t0.tdiv 10)) t3 (t4++([aN.wrap (aq.wrap (48+(aq.wrap (0 - (t0.tmod 10)))))]:LI))) ay) (brk (fits (t4.length+([aN.wrap (aq.wrap (48+(t0.tmod 10)))]:LI).length)) (ik T (aq.wrap (t0.tdiv 10)) t3 (t4++([aN.wrap (aq.wrap (48+(t0.tmod 10)))]:LI))) ay)) (J (an (t3,t4,()))):=eL Tryz.func39
theorem qM (t4 t6 t7):jx (S.step T) t4 t6 t7=brk (I (0<=t7)) (brk (I (0<=t7)&&I (t7<(t4.length:Int))) (brk (fits (t6.length+(([t4.getD t7.toNat 0]:LI).map byte).length)) (jx T t4 (t6++(([t4.getD t7.toNat 0]:LI).map byte)) (aq.wrap (t7 - 1))) ay) ay) (J (an (t6,()))):=eL Tryz.func39
theorem IG (t0):uI (S.step T) t0=brk (I (0<=t0)) ((gJ T t0).bind λd9=>J (d9.1,cO)) ((mf T t0 ([48,49,50,51,52,53,54,55,56,57,97,98,99,100,101,102]:LI) ([48,120]:LI) 60).bind (dB (λy6=>J (y6.1,cO)))):=eF Tryz.func164
theorem wF (t0 t3 t4 t5):mf (S.step T) t0 t3 t4 t5=brk (I (0<=t5)) (brk (I (0<=aH.wrap t5)) (brk (I (0<=intBits .and .u64 ((aH.wrap t0).fdiv (2^min ((aH.wrap t5).toNat) aH.bits)) 15)&&I (intBits .and .u64 ((aH.wrap t0).fdiv (2^min ((aH.wrap t5).toNat) aH.bits)) 15<(t3.length:Int))) (brk (fits (t4.length+(([t3.getD ((intBits .and .u64 ((aH.wrap t0).fdiv (2^min ((aH.wrap t5).toNat) aH.bits)) 15).toNat) 0]:LI).map byte).length)) (mf T t0 t3 (t4++(([t3.getD ((intBits .and .u64 ((aH.wrap t0).fdiv (2^min ((aH.wrap t5).toNat) aH.bits)) 15).toNat) 0]:LI).map byte)) (aq.wrap (t5 - 4))) ay) ay) ay) (J (an (t4,()))):=eL Tryz.func164
theorem Fq (t0):lV (S.step T) t0=(fz T t0 ([48,49,50,51,52,53,54,55,56,57,97,98,99,100,101,102]:LI) ([34]:LI) 0).bind (dB (λy4=>brk (fits (y4.1.length+1)) (J ((y4.1++([34]:LI)).map byte,cO)) ay)):=eF Tryz.func40
theorem tJ (t0 t3 t4 t5):fz (S.step T) t0 t3 t4 t5=brk (I (t5<(t0.length:Int))) (brk (I (0<=t5)&&I (t5<(t0.length:Int))) (brk (I (t0.getD t5.toNat 0=10)) (brk (fits (t4.length+2)) (fz T t0 t3 (t4++([92,110]:LI)) (aq.wrap (t5+1))) ay) (brk (I (t0.getD t5.toNat 0=9)) (brk (fits (t4.length+2)) (fz T t0 t3 (t4++([92,116]:LI)) (aq.wrap (t5+1))) ay) (brk (I (t0.getD t5.toNat 0=34)) (brk (fits (t4.length+([92,t0.getD t5.toNat 0]:LI).length)) (fz T t0 t3 (t4++([92,t0.getD t5.toNat 0]:LI)) (aq.wrap (t5+1))) ay) (brk (I (t0.getD t5.toNat 0=92)) (brk (fits (t4.length+([92,t0.getD t5.toNat 0]:LI).length)) (fz T t0 t3 (t4++([92,t0.getD t5.toNat 0]:LI)) (aq.wrap (t5+1))) ay) (brk (I (t0.getD t5.toNat 0<32)) (brk (I (0<=(t0.getD t5.toNat 0).fdiv (2^min ((4:Int).toNat) aN.bits))&&I ((t0.getD t5.toNat 0).fdiv (2^min ((4:Int).toNat) aN.bits)<(t3.length:Int))) (brk (I (0<=intBits .and .u8 (t0.getD t5.toNat 0) 15)&&I (intBits .and .u8 (t0.getD t5.toNat 0) 15<(t3.length:Int))) (brk (fits (t4.length+([92,120,t3.getD (((t0.getD t5.toNat 0).fdiv (2^min ((4:Int).toNat) aN.bits)).toNat) 0,t3.getD ((intBits .and .u8 (t0.getD t5.toNat 0) 15).toNat) 0]:LI).length)) (fz T t0 t3 (t4++([92,120,t3.getD (((t0.getD t5.toNat 0).fdiv (2^min ((4:Int).toNat) aN.bits)).toNat) 0,t3.getD ((intBits .and .u8 (t0.getD t5.toNat 0) 15).toNat) 0]:LI)) (aq.wrap (t5+1))) ay) ay) ay) (brk (I (126<t0.getD t5.toNat 0)) (brk (I (0<=(t0.getD t5.toNat 0).fdiv (2^min ((4:Int).toNat) aN.bits))&&I ((t0.getD t5.toNat 0).fdiv (2^min ((4:Int).toNat) aN.bits)<(t3.length:Int))) (brk (I (0<=intBits .and .u8 (t0.getD t5.toNat 0) 15)&&I (intBits .and .u8 (t0.getD t5.toNat 0) 15<(t3.length:Int))) (brk (fits (t4.length+([92,120,t3.getD (((t0.getD t5.toNat 0).fdiv (2^min ((4:Int).toNat) aN.bits)).toNat) 0,t3.getD ((intBits .and .u8 (t0.getD t5.toNat 0) 15).toNat) 0]:LI).length)) (fz T t0 t3 (t4++([92,120,t3.getD (((t0.getD t5.toNat 0).fdiv (2^min ((4:Int).toNat) aN.bits)).toNat) 0,t3.getD ((intBits .and .u8 (t0.getD t5.toNat 0) 15).toNat) 0]:LI)) (aq.wrap (t5+1))) ay) ay) ay) (brk (fits (t4.length+([t0.getD t5.toNat 0]:LI).length)) (fz T t0 t3 (t4++([t0.getD t5.toNat 0]:LI)) (aq.wrap (t5+1))) ay))))))) ay) (J (an (t4,()))):=eL Tryz.func40
theorem Cf (t0 t1):uz (S.step T) t0 t1=brk (I (t1.1=20)) ((cY T t0 ([110,105,108]:LI)).bind λd9=>J ((),d9.2.1,((),(),(),(),(),(),(),(),(),()),())) (brk (I (t1.1=21)) ((cY T t0 ([116,114,117,101]:LI)).bind λd13=>J ((),d13.2.1,((),(),(),(),(),(),(),(),(),()),())) (brk (I (t1.1=22)) ((cY T t0 ([102,97,108,115,101]:LI)).bind λd17=>J ((),d17.2.1,((),(),(),(),(),(),(),(),(),()),())) (brk (I (t1.1=23)) ((uI T t1.2.2.2.2.2.1).bind λd23=>(cY T t0 d23.1).bind λd24=>J ((),d24.2.1,((),(),(),(),(),(),(),(),(),()),())) (brk (I (t1.1=24)) (brk (I (t1.1=24)) ((cY T t0 t1.2.2.2.2.2.2.1).bind λd31=>J ((),d31.2.1,((),(),(),(),(),(),(),(),(),()),())) (brk (I (t1.1=25)) ((lV T t1.2.2.2.2.2.2.1).bind λd37=>(cY T t0 d37.1).bind λd38=>J ((),d38.2.1,((),(),(),(),(),(),(),(),(),()),())) (brk (I (t1.1=27)) ((cY T t0 ([46,46,46]:LI)).bind λd42=>J ((),d42.2.1,((),(),(),(),(),(),(),(),(),()),())) (J ((),t0,((),(),(),(),(),(),(),(),(),()),()))))) (brk (I (t1.1=26)) ((cY T t0 t1.2.2.2.2.2.2.1).bind λd31=>J ((),d31.2.1,((),(),(),(),(),(),(),(),(),()),())) (brk (I (t1.1=25)) ((lV T t1.2.2.2.2.2.2.1).bind λd37=>(cY T t0 d37.1).bind λd38=>J ((),d38.2.1,((),(),(),(),(),(),(),(),(),()),())) (brk (I (t1.1=27)) ((cY T t0 ([46,46,46]:LI)).bind λd42=>J ((),d42.2.1,((),(),(),(),(),(),(),(),(),()),())) (J ((),t0,((),(),(),(),(),(),(),(),(),()),()))))))))):=eF Tryz.func154
theorem fy (t0 t1 t2):dG (S.step T) t0 t1 t2=brk (I (0<=t1)&&I (t1<(t0.1.1.length:Int))) ((xl T (at_ (τ:=cR) t0.1.1 t1)).bind λd17=>brk (I (d17.1<t2)) ((cY T t0 ([40]:LI)).bind λd22=>(dG T d22.2.1 t1 0).bind λd25=>(cY T d25.2.1 ([41]:LI)).bind λd27=>J ((),d27.2.1,(),(),())) (brk (I ((at_ (τ:=cR) t0.1.1 t1).1=28)) ((ox T t0 (at_ (τ:=cR) t0.1.1 t1) ([32,97,110,100,32]:LI) d17.1).bind λd38=>J ((),d38.2.1,(),(),())) (brk (I ((at_ (τ:=cR) t0.1.1 t1).1=29)) ((ox T t0 (at_ (τ:=cR) t0.1.1 t1) ([32,111,114,32]:LI) d17.1).bind λd44=>J ((),d44.2.1,(),(),())) (brk (I ((at_ (τ:=cR) t0.1.1 t1).1=31)) ((fK T (aq.wrap (60+(at_ (τ:=cR) t0.1.1 t1).2.2.2.2.1))).bind λd52=>brk (fits (1+d52.1.length)) (brk (fits ((([32]:LI)++d52.1).length+1)) ((ox T t0 (at_ (τ:=cR) t0.1.1 t1) ((([32]:LI)++d52.1)++([32]:LI)) d17.1).bind λd56=>J ((),d56.2.1,(),(),())) ay) ay) (brk (I ((at_ (τ:=cR) t0.1.1 t1).1=30)) ((uy T t0 (at_ (τ:=cR) t0.1.1 t1)).bind λd61=>J ((),d61.2.1,(),(),())) (brk (I ((at_ (τ:=cR) t0.1.1 t1).1=32)) (brk (I (0<((at_ (τ:=cR) t0.1.1 t1).2.2.2.2.2.2.2.2.1.length:Int))) ((py T t0 ((at_ (τ:=cR) t0.1.1 t1).2.2.2.2.2.2.2.2.1.getD 0 0)).bind λd69=>(cY T d69.2.1 ([91]:LI)).bind λd71=>brk (I (1<((at_ (τ:=cR) t0.1.1 t1).2.2.2.2.2.2.2.2.1.length:Int))) ((dG T d71.2.1 ((at_ (τ:=cR) t0.1.1 t1).2.2.2.2.2.2.2.2.1.getD 1 0) 0).bind λd77=>(cY T d77.2.1 ([93]:LI)).bind λd79=>J ((),d79.2.1,(),(),())) ay) ay) (brk (I ((at_ (τ:=cR) t0.1.1 t1).1=33)) (brk (I (0<((at_ (τ:=cR) t0.1.1 t1).2.2.2.2.2.2.2.2.1.length:Int))) ((py T t0 ((at_ (τ:=cR) t0.1.1 t1).2.2.2.2.2.2.2.2.1.getD 0 0)).bind λd87=>brk (fits (1+(at_ (τ:=cR) t0.1.1 t1).2.2.2.2.2.2.1.length)) ((cY T d87.2.1 (([46]:LI)++(at_ (τ:=cR) t0.1.1 t1).2.2.2.2.2.2.1)).bind λd92=>J ((),d92.2.1,(),(),())) ay) ay) (brk (I ((at_ (τ:=cR) t0.1.1 t1).1=34)) (brk (I (0<((at_ (τ:=cR) t0.1.1 t1).2.2.2.2.2.2.2.2.1.length:Int))) ((py T t0 ((at_ (τ:=cR) t0.1.1 t1).2.2.2.2.2.2.2.2.1.getD 0 0)).bind λd100=>(cY T d100.2.1 ([40]:LI)).bind λd102=>brk (bounds ((at_ (τ:=cR) t0.1.1 t1).2.2.2.2.2.2.2.2.1.length) 1 ((at_ (τ:=cR) t0.1.1 t1).2.2.2.2.2.2.2.2.1.length:Int)) ((iq T d102.2.1 (sub (at_ (τ:=cR) t0.1.1 t1).2.2.2.2.2.2.2.2.1 1 ((at_ (τ:=cR) t0.1.1 t1).2.2.2.2.2.2.2.2.1.length:Int))).bind λd107=>(cY T d107.2.1 ([41]:LI)).bind λd109=>J ((),d109.2.1,(),(),())) ay) ay) (brk (I ((at_ (τ:=cR) t0.1.1 t1).1=35)) ((ur T t0 (at_ (τ:=cR) t0.1.1 t1)).bind λd114=>J ((),d114.2.1,(),(),())) (brk (I ((at_ (τ:=cR) t0.1.1 t1).1=36)) ((cY T t0 ([102,110]:LI)).bind λd118=>(rB T d118.2.1 t1).bind λd121=>J ((),d121.2.1,(),(),())) (brk (I ((at_ (τ:=cR) t0.1.1 t1).1=37)) ((cY T t0 ([40]:LI)).bind λd125=>brk (I (0<((at_ (τ:=cR) t0.1.1 t1).2.2.2.2.2.2.2.2.1.length:Int))) ((dG T d125.2.1 ((at_ (τ:=cR) t0.1.1 t1).2.2.2.2.2.2.2.2.1.getD 0 0) 0).bind λd131=>(cY T d131.2.1 ([41]:LI)).bind λd133=>J ((),d133.2.1,(),(),())) ay) ((uz T t0 (at_ (τ:=cR) t0.1.1 t1)).bind λd32=>J ((),d32.2.1,(),(),()))))))))))))) none:=eF Tryz.func115
theorem CC (t0 t1):iq (S.step T) t0 t1=(ic T t0 t1 (t1.length:Int) 0).bind (dB (λy1=>J ((),y1.1,(),()))):=eF Tryz.func114
theorem lH (t0 t6 t7 t8):ic (S.step T) t0 t6 t7 t8=brk (I (t8<t7)) (brk (I (0<=t8)&&I (t8<(t6.length:Int))) (brk (I (0<t8)) ((cY T t0 ([44,32]:LI)).bind λd16=>(dG T d16.2.1 (t6.getD t8.toNat 0) 0).bind λd19=>ic T d19.2.1 t6 t7 (aq.wrap (t8+1))) ((dG T t0 (t6.getD t8.toNat 0) 0).bind λd19=>ic T d19.2.1 t6 t7 (aq.wrap (t8+1)))) ay) (J (an (t0,()))):=eL Tryz.func114
theorem pQ (t0 t1 t2):pJ (S.step T) t0 t1 t2=(cY T t0 t2).bind λd9=>brk (I (0<(t1.2.2.2.2.2.2.2.2.1.length:Int))) ((dG T d9.2.1 (t1.2.2.2.2.2.2.2.2.1.getD 0 0) 0).bind λd15=>(cY T d15.2.1 ([32]:LI)).bind λd17=>brk (I (1<(t1.2.2.2.2.2.2.2.2.1.length:Int))) ((fe T d17.2.1 (t1.2.2.2.2.2.2.2.2.1.getD 1 0)).bind λd23=>brk (I ((t1.2.2.2.2.2.2.2.2.1.length:Int)<3)) (J ((),d23.2.1,((),(),(),(),(),(),(),(),(),()),(),())) (brk (I (2<(t1.2.2.2.2.2.2.2.2.1.length:Int))) (brk (I (0<=t1.2.2.2.2.2.2.2.2.1.getD 2 0)&&I (t1.2.2.2.2.2.2.2.2.1.getD 2 0<(d23.2.1.1.1.length:Int))) (brk (I ((at_ (τ:=cR) d23.2.1.1.1 (t1.2.2.2.2.2.2.2.2.1.getD 2 0)).1=7)) ((pJ T d23.2.1 (at_ (τ:=cR) d23.2.1.1.1 (t1.2.2.2.2.2.2.2.2.1.getD 2 0)) ([32,101,108,105,102,32]:LI)).bind λd44=>J ((),d44.2.1,((),(),(),(),(),(),(),(),(),()),(),())) ((cY T d23.2.1 ([32,101,108,115,101,32]:LI)).bind λd46=>brk (I (2<(t1.2.2.2.2.2.2.2.2.1.length:Int))) ((fe T d46.2.1 (t1.2.2.2.2.2.2.2.2.1.getD 2 0)).bind λd52=>J ((),d52.2.1,((),(),(),(),(),(),(),(),(),()),(),())) ay)) ay) ay)) ay) none:=eF Tryz.func117
theorem gp (t0 t1):ry (S.step T) t0 t1=brk (I (0<=t1)&&I (t1<(t0.1.1.length:Int))) (brk (I ((at_ (τ:=cR) t0.1.1 t1).1=1)) ((fe T t0 t1).bind λd20=>J ((),d20.2.1,(),())) (brk (I ((at_ (τ:=cR) t0.1.1 t1).1=2)) ((cY T t0 ([108,101,116,32]:LI)).bind λd24=>(mC T d24.2.1 (at_ (τ:=cR) t0.1.1 t1).2.2.2.2.2.2.2.1).bind λd28=>brk (I (0<((at_ (τ:=cR) t0.1.1 t1).2.2.2.2.2.2.2.2.1.length:Int))) ((cY T d28.2.1 ([32,61,32]:LI)).bind λd34=>(iq T d34.2.1 (at_ (τ:=cR) t0.1.1 t1).2.2.2.2.2.2.2.2.1).bind λd38=>J ((),d38.2.1,(),())) (J ((),d28.2.1,(),()))) (brk (I ((at_ (τ:=cR) t0.1.1 t1).1=3)) (brk (I (0<((at_ (τ:=cR) t0.1.1 t1).2.2.2.2.2.2.2.1.length:Int))) (brk (fits (6+((at_ (τ:=cR) t0.1.1 t1).2.2.2.2.2.2.2.1.getD 0 []).length)) (brk (fits ((([99,111,110,115,116,32]:LI)++((at_ (τ:=cR) t0.1.1 t1).2.2.2.2.2.2.2.1.getD 0 [])).length+3)) ((cY T t0 ((([99,111,110,115,116,32]:LI)++((at_ (τ:=cR) t0.1.1 t1).2.2.2.2.2.2.2.1.getD 0 []))++([32,61,32]:LI))).bind λd48=>brk (I (0<((at_ (τ:=cR) t0.1.1 t1).2.2.2.2.2.2.2.2.1.length:Int))) ((dG T d48.2.1 ((at_ (τ:=cR) t0.1.1 t1).2.2.2.2.2.2.2.2.1.getD 0 0) 0).bind λd54=>J ((),d54.2.1,(),())) ay) ay) ay) ay) (brk (I ((at_ (τ:=cR) t0.1.1 t1).1=4)) (brk (I (0<((at_ (τ:=cR) t0.1.1 t1).2.2.2.2.2.2.2.1.length:Int))) (brk (fits (3+((at_ (τ:=cR) t0.1.1 t1).2.2.2.2.2.2.2.1.getD 0 []).length)) ((cY T t0 (([102,110,32]:LI)++((at_ (τ:=cR) t0.1.1 t1).2.2.2.2.2.2.2.1.getD 0 []))).bind λd63=>brk (I (0<((at_ (τ:=cR) t0.1.1 t1).2.2.2.2.2.2.2.2.1.length:Int))) ((rB T d63.2.1 ((at_ (τ:=cR) t0.1.1 t1).2.2.2.2.2.2.2.2.1.getD 0 0)).bind λd69=>J ((),d69.2.1,(),())) ay) ay) ay) (brk (I ((at_ (τ:=cR) t0.1.1 t1).1=5)) (brk (bounds ((at_ (τ:=cR) t0.1.1 t1).2.2.2.2.2.2.2.2.1.length) 0 (at_ (τ:=cR) t0.1.1 t1).2.2.2.2.2.1) ((iq T t0 (sub (at_ (τ:=cR) t0.1.1 t1).2.2.2.2.2.2.2.2.1 0 (at_ (τ:=cR) t0.1.1 t1).2.2.2.2.2.1)).bind λd78=>(cY T d78.2.1 ([32,61,32]:LI)).bind λd80=>brk (bounds ((at_ (τ:=cR) t0.1.1 t1).2.2.2.2.2.2.2.2.1.length) (at_ (τ:=cR) t0.1.1 t1).2.2.2.2.2.1 ((at_ (τ:=cR) t0.1.1 t1).2.2.2.2.2.2.2.2.1.length:Int)) ((iq T d80.2.1 (sub (at_ (τ:=cR) t0.1.1 t1).2.2.2.2.2.2.2.2.1 (at_ (τ:=cR) t0.1.1 t1).2.2.2.2.2.1 ((at_ (τ:=cR) t0.1.1 t1).2.2.2.2.2.2.2.2.1.length:Int))).bind λd87=>J ((),d87.2.1,(),())) ay) ay) (brk (I ((at_ (τ:=cR) t0.1.1 t1).1=6)) (brk (I (0<((at_ (τ:=cR) t0.1.1 t1).2.2.2.2.2.2.2.2.1.length:Int))) ((dG T t0 ((at_ (τ:=cR) t0.1.1 t1).2.2.2.2.2.2.2.2.1.getD 0 0) 0).bind λd95=>J ((),d95.2.1,(),())) ay) (brk (I ((at_ (τ:=cR) t0.1.1 t1).1=7)) ((pJ T t0 (at_ (τ:=cR) t0.1.1 t1) ([105,102,32]:LI)).bind λd100=>J ((),d100.2.1,(),())) (brk (I ((at_ (τ:=cR) t0.1.1 t1).1=8)) ((cY T t0 ([119,104,105,108,101,32]:LI)).bind λd104=>brk (I (0<((at_ (τ:=cR) t0.1.1 t1).2.2.2.2.2.2.2.2.1.length:Int))) ((dG T d104.2.1 ((at_ (τ:=cR) t0.1.1 t1).2.2.2.2.2.2.2.2.1.getD 0 0) 0).bind λd110=>(cY T d110.2.1 ([32]:LI)).bind λd112=>brk (I (1<((at_ (τ:=cR) t0.1.1 t1).2.2.2.2.2.2.2.2.1.length:Int))) ((fe T d112.2.1 ((at_ (τ:=cR) t0.1.1 t1).2.2.2.2.2.2.2.2.1.getD 1 0)).bind λd118=>J ((),d118.2.1,(),())) ay) ay) (brk (I ((at_ (τ:=cR) t0.1.1 t1).1=9)) ((nL T t0 (at_ (τ:=cR) t0.1.1 t1) (at_ (τ:=cR) t0.1.1 t1).1 (I ((at_ (τ:=cR) t0.1.1 t1).1=9))).bind (dB (λJi=>J ((),Ji.1,(),())))) ((nL T t0 (at_ (τ:=cR) t0.1.1 t1) (at_ (τ:=cR) t0.1.1 t1).1 (I ((at_ (τ:=cR) t0.1.1 t1).1=10))).bind (dB (λJi=>J ((),Ji.1,(),()))))))))))))) none:=eF Tryz.func58
theorem eW (t0 t4 t15 t119):nL (S.step T) t0 t4 t15 t119=brk (t119) ((cY T t0 ([102,111,114,32]:LI)).bind λd123=>(mC T d123.2.1 t4.2.2.2.2.2.2.2.1).bind λd127=>brk (I (t4.1=9)) ((cY T d127.2.1 ([32,61,32]:LI)).bind λd132=>brk (bounds t4.2.2.2.2.2.2.2.2.1.length 0 (aq.wrap ((t4.2.2.2.2.2.2.2.2.1.length:Int) - 1))) ((iq T d132.2.1 (sub t4.2.2.2.2.2.2.2.2.1 0 (aq.wrap ((t4.2.2.2.2.2.2.2.2.1.length:Int) - 1)))).bind λd144=>(cY T d144.2.1 ([32]:LI)).bind λd146=>brk (I (0<=aq.wrap ((t4.2.2.2.2.2.2.2.2.1.length:Int) - 1))&&I (aq.wrap ((t4.2.2.2.2.2.2.2.2.1.length:Int) - 1)<(t4.2.2.2.2.2.2.2.2.1.length:Int))) ((fe T d146.2.1 (t4.2.2.2.2.2.2.2.2.1.getD ((aq.wrap ((t4.2.2.2.2.2.2.2.2.1.length:Int) - 1)).toNat) 0)).bind λd153=>J (an (d153.2.1,()))) ay) ay) ((cY T d127.2.1 ([32,105,110,32]:LI)).bind λd134=>brk (bounds t4.2.2.2.2.2.2.2.2.1.length 0 (aq.wrap ((t4.2.2.2.2.2.2.2.2.1.length:Int) - 1))) ((iq T d134.2.1 (sub t4.2.2.2.2.2.2.2.2.1 0 (aq.wrap ((t4.2.2.2.2.2.2.2.2.1.length:Int) - 1)))).bind λd144=>(cY T d144.2.1 ([32]:LI)).bind λd146=>brk (I (0<=aq.wrap ((t4.2.2.2.2.2.2.2.2.1.length:Int) - 1))&&I (aq.wrap ((t4.2.2.2.2.2.2.2.2.1.length:Int) - 1)<(t4.2.2.2.2.2.2.2.2.1.length:Int))) ((fe T d146.2.1 (t4.2.2.2.2.2.2.2.2.1.getD ((aq.wrap ((t4.2.2.2.2.2.2.2.2.1.length:Int) - 1)).toNat) 0)).bind λd153=>J (an (d153.2.1,()))) ay) ay)) (brk (I (t15=11)) ((cY T t0 ([98,114,101,97,107]:LI)).bind λd157=>J (an (d157.2.1,()))) (brk (I (t15=12)) ((cY T t0 ([110,101,120,116]:LI)).bind λd161=>J (an (d161.2.1,()))) (brk (I (t15=13)) ((cY T t0 ([114,101,116,117,114,110]:LI)).bind λd165=>brk (I (0<(t4.2.2.2.2.2.2.2.2.1.length:Int))) ((cY T d165.2.1 ([32]:LI)).bind λd171=>(iq T d171.2.1 t4.2.2.2.2.2.2.2.2.1).bind λd175=>J (an (d175.2.1,()))) (J (an (d165.2.1,())))) (brk (I (t15=14)) ((cY T t0 ([116,114,121,32]:LI)).bind λd179=>brk (I (0<(t4.2.2.2.2.2.2.2.2.1.length:Int))) ((fe T d179.2.1 (t4.2.2.2.2.2.2.2.2.1.getD 0 0)).bind λd185=>(cY T d185.2.1 ([32,99,97,116,99,104,32]:LI)).bind λd187=>(mC T d187.2.1 t4.2.2.2.2.2.2.2.1).bind λd191=>(cY T d191.2.1 ([32]:LI)).bind λd193=>brk (I (1<(t4.2.2.2.2.2.2.2.2.1.length:Int))) ((fe T d193.2.1 (t4.2.2.2.2.2.2.2.2.1.getD 1 0)).bind λd199=>J (an (d199.2.1,()))) ay) ay) (brk (I (t15=15)) ((cY T t0 ([116,104,114,111,119,32]:LI)).bind λd203=>brk (I (0<(t4.2.2.2.2.2.2.2.2.1.length:Int))) ((dG T d203.2.1 (t4.2.2.2.2.2.2.2.2.1.getD 0 0) 0).bind λd209=>J (an (d209.2.1,()))) ay) (brk (I (t15=16)) ((cY T t0 ([100,101,102,101,114,32]:LI)).bind λd213=>brk (I (0<(t4.2.2.2.2.2.2.2.2.1.length:Int))) ((dG T d213.2.1 (t4.2.2.2.2.2.2.2.2.1.getD 0 0) 0).bind λd219=>J (an (d219.2.1,()))) ay) (J (an (t0,()))))))))):=eJ Tryz.func58
theorem AR (t0):uG (S.step T) t0=(jZ T t0).bind λd8=>brk (!I (d8.1.1=0)) (J (([]:LI),dw)) (brk (I (0<=aq.wrap ((t0.1.length:Int) - 1))&&I (aq.wrap ((t0.1.length:Int) - 1)<(t0.1.length:Int))) ((nC T (t0,[],0,()) (at_ (τ:=cR) t0.1 (aq.wrap ((t0.1.length:Int) - 1))).2.2.2.2.2.2.2.2.1 ((at_ (τ:=cR) t0.1 (aq.wrap ((t0.1.length:Int) - 1))).2.2.2.2.2.2.2.2.1.length:Int) 0).bind (dB (λy6=>brk (I (65536<(y6.1.2.1.length:Int))) (J (([]:LI),dw)) (J (y6.1.2.1.map byte,dw))))) ay):=eF Tryz.func31
theorem wK (t4 t23 t24 t25):nC (S.step T) t4 t23 t24 t25=brk (I (t25<t24)) (brk (I (0<=t25)&&I (t25<(t23.length:Int))) ((ry T t4 (t23.getD t25.toNat 0)).bind λd31=>(cY T d31.2.1 ([10]:LI)).bind λd33=>nC T d33.2.1 t23 t24 (aq.wrap (t25+1))) ay) (J (an (t4,()))):=eL Tryz.func31
theorem Dx (t0 t1 t2):nz (S.step T) t0 t1 t2=brk (fits (t0.1.length+([(t2,t1,())]:List ja.den).length)) (J (aq.wrap (((t0.1++([(t2,t1,())]:List ja.den)).length:Int) - 1),(t0.1++([(t2,t1,())]:List ja.den),()),(),(),())) none:=eF Tryz.func47
theorem Cq (t0):uw (S.step T) t0=(nz T t0 (-1:Int) 6).bind λd5=>(nz T d5.2.1 d5.1 100).bind λd8=>J (d8.1,d8.2.1,()):=eF Tryz.func41
theorem DP (t0 t1):mg (S.step T) t0 t1=(eE T t0 t1).bind (dM (λy1=>J (y1.1,cQ)) (λy1=>J (y1.1,cQ))):=eF Tryz.func42
theorem gw (t0 t1):eE (S.step T) t0 t1=brk (I (t1<(t0.length:Int))) (brk (I (0<=t1)&&I (t1<(t0.length:Int))) (brk (I (t0.getD t1.toNat 0=32)) (eE T t0 (aq.wrap (t1+1))) (brk (I (t0.getD t1.toNat 0=9)) (eE T t0 (aq.wrap (t1+1))) (brk (I (t0.getD t1.toNat 0=13)) (eE T t0 (aq.wrap (t1+1))) (brk (!I (t0.getD t1.toNat 0=45)) (J (an (t1,()))) ((eH T t0 (aq.wrap (t1+1))).bind λd31=>brk (!I (d31.1=45)) (J (an (t1,()))) ((iR T t0 t1).bind (dB (λy7=>eE T y7.1 y7.2.1)))))))) ay) (J (aE (an (t1,())))):=eL Tryz.func42
theorem sT (t0 t1):iR (S.step T) t0 t1=brk (I (t1<(t0.length:Int))) (brk (I (0<=t1)&&I (t1<(t0.length:Int))) (brk (!I (t0.getD t1.toNat 0=10)) (iR T t0 (aq.wrap (t1+1))) (J (an (t0,t1,())))) ay) (J (an (t0,t1,()))):=eL Tryz.func42
theorem I6 (t0):di (S.step T) t0=J (t0,cO):=eF Tryz.func77
theorem Gz (t0):se (S.step T) t0=brk (I (t0=22)) ((di T ([t0,1,104,103]:LI)).bind λd9=>J ((d9.1,av,()),cO)) (brk (I (t0=13)) ((di T ([t0,1,47,119]:LI)).bind λd14=>J ((d14.1,av,()),cO)) (brk (I (t0=18)) ((di T ([t0,1,133]:LI)).bind λd19=>J ((d19.1,av,()),cO)) (brk (I (t0=20)) ((di T ([t0,119,132,105]:LI)).bind λd24=>J ((d24.1,av,()),cO)) (brk (I (t0=31)) ((di T ([t0,119,132]:LI)).bind λd29=>J ((d29.1,av,()),cO)) (brk (I (t0=19)) ((di T ([t0,1,106]:LI)).bind λd34=>J ((d34.1,av,()),cO)) (brk (I (t0=11)) ((lk T t0 t0 (I (t0=11))).bind (dM (λmq=>J (mq,cO)) (λmq=>J (([],ar,()),cO)))) ((lk T t0 t0 (I (t0=23))).bind (dM (λmq=>J (mq,cO)) (λmq=>J (([],ar,()),cO)))))))))):=eF Tryz.func78
theorem Bt (t0 t4 t35):lk (S.step T) t0 t4 t35=brk (t35) ((di T ([t0]:LI)).bind λd40=>J (an (d40.1,av,()))) (brk (I (t4=27)) ((di T ([t0,108]:LI)).bind λd45=>J (an (d45.1,av,()))) (brk (I (t4=30)) ((di T ([t0,132,12,1,109,132]:LI)).bind λd50=>J (an (d50.1,av,()))) (brk (I (t4=28)) ((di T ([t0,119]:LI)).bind λd55=>J (an (d55.1,av,()))) (brk (I (t4=14)) ((di T ([t0,116]:LI)).bind λd60=>J (an (d60.1,av,()))) (brk (I (t4=42)) ((di T ([132]:LI)).bind λd64=>J (an (d64.1,av,()))) (brk (I (t4=1)) ((di T ([t0,110]:LI)).bind λd69=>J (an (d69.1,av,()))) (brk (I (t4=40)) ((di T ([t0,119,41,112]:LI)).bind λd74=>J (an (d74.1,av,()))) (J (aE (an ())))))))))):=eJ Tryz.func78
theorem wE (t0):eG (S.step T) t0=brk (I (t0=25)) (J (av,cO)) (brk (I (t0=50)) (J (av,cO)) (brk (I (t0=62)) (J (av,cO)) (J (I (t0=69),cO)))):=eF Tryz.func137
theorem wB (t0):fv (S.step T) t0=brk (I (t0=1)) (brk (I (t0=1)) (J (av,cO)) ((eG T t0).bind λd17=>J (d17.1,cO))) (brk (I (t0=2)) (brk (I (t0=2)) (J (av,cO)) ((eG T t0).bind λd17=>J (d17.1,cO))) (brk (I (t0=3)) (brk (I (t0=3)) (J (av,cO)) ((eG T t0).bind λd17=>J (d17.1,cO))) (brk (I (t0=4)) (brk (I (t0=4)) (J (av,cO)) ((eG T t0).bind λd17=>J (d17.1,cO))) (brk (I (t0=24)) (brk (I (t0=24)) (J (av,cO)) ((eG T t0).bind λd17=>J (d17.1,cO))) (brk (I (t0=29)) (brk (I (t0=29)) (J (av,cO)) ((eG T t0).bind λd17=>J (d17.1,cO))) (brk (I (t0=17)) (brk (I (t0=17)) (J (av,cO)) ((eG T t0).bind λd17=>J (d17.1,cO))) (brk (I (t0=49)) (brk (I (t0=49)) (J (av,cO)) ((eG T t0).bind λd17=>J (d17.1,cO))) (brk (I (t0=18)) (brk (I (t0=18)) (J (av,cO)) ((eG T t0).bind λd17=>J (d17.1,cO))) (brk (I (t0=40)) (brk (I (t0=40)) (J (av,cO)) ((eG T t0).bind λd17=>J (d17.1,cO))) (brk (I (t0=42)) (J (av,cO)) ((eG T t0).bind λd17=>J (d17.1,cO)))))))))))):=eF Tryz.func79
theorem Dz (t0 t1 t2):gu (S.step T) t0 t1 t2=brk (I (t0=48)) ((di T ([t0,1,t1]:LI)).bind λd13=>J (d13.1,dU)) (brk (I (t0=44)) ((di T ([t0,119,45,t1]:LI)).bind λd19=>J (d19.1,dU)) (brk (I (t0=40)) ((di T ([t0,123,41,t2]:LI)).bind λd25=>J (d25.1,dU)) (J ([],dU)))):=eF Tryz.func138
theorem CA (t0 t1):oz (S.step T) t0 t1=brk (I (t0=110)) ((jd T t0 t1 [] t0 (I (t0=110))).bind (dB (λy6=>(iJ T y6.1 y6.2.1 y6.2.2.1).bind (dB (λml=>J (ml,cQ)))))) (brk (I (t0=111)) ((jd T t0 t1 [] t0 (I (t0=111))).bind (dB (λy6=>(iJ T y6.1 y6.2.1 y6.2.2.1).bind (dB (λml=>J (ml,cQ)))))) ((jd T t0 t1 [] t0 (I (t0=112))).bind (dB (λy6=>(iJ T y6.1 y6.2.1 y6.2.2.1).bind (dB (λml=>J (ml,cQ))))))):=eF Tryz.func80
theorem yM (t0 t1 t6 t9 t10):jd (S.step T) t0 t1 t6 t9 t10=brk (t10) ((gu T t1 110 111).bind λd15=>J (an (t0,t1,d15.1,()))) (brk (I (t9=114)) (brk (I (t9=114)) ((gu T t1 114 115).bind λd20=>J (an (t0,t1,d20.1,()))) (brk (I (t9=117)) (brk (I (t9=117)) ((gu T t1 117 118).bind λd25=>J (an (t0,t1,d25.1,()))) (J (an (t0,t1,t6,())))) (brk (I (t9=118)) ((gu T t1 117 118).bind λd25=>J (an (t0,t1,d25.1,()))) (J (an (t0,t1,t6,())))))) (brk (I (t9=115)) ((gu T t1 114 115).bind λd20=>J (an (t0,t1,d20.1,()))) (brk (I (t9=117)) (brk (I (t9=117)) ((gu T t1 117 118).bind λd25=>J (an (t0,t1,d25.1,()))) (J (an (t0,t1,t6,())))) (brk (I (t9=118)) ((gu T t1 117 118).bind λd25=>J (an (t0,t1,d25.1,()))) (J (an (t0,t1,t6,()))))))):=eJ Tryz.func80
theorem yh (t0 t1 t6):iJ (S.step T) t0 t1 t6=brk (I (0<(t6.length:Int))) (J (an (t6,av,()))) (brk (I (t0=111)) (J (an ([],av,()))) (brk (I (t0=118)) (J (an ([],av,()))) (brk (I (t0=110)) (brk (I (t1=46)) ((di T ([t1,113]:LI)).bind λd46=>J (an (d46.1,av,()))) (brk (I (t1=47)) ((di T ([t1,124]:LI)).bind λd51=>J (an (d51.1,av,()))) ((iK T t0 t1).bind (dB (λLU=>J (an LU)))))) (brk (I (t0=114)) (brk (I (t1=46)) ((di T ([t1,113]:LI)).bind λd46=>J (an (d46.1,av,()))) (brk (I (t1=47)) ((di T ([t1,124]:LI)).bind λd51=>J (an (d51.1,av,()))) ((iK T t0 t1).bind (dB (λLU=>J (an LU)))))) ((iK T t0 t1).bind (dB (λLU=>J (an LU)))))))):=eJ Tryz.func80
theorem ye (t0 t1):iK (S.step T) t0 t1=brk (I (t0=113)) (brk (I (t0=116)) (brk (I (t1=1)) ((di T ([t1,117]:LI)).bind λd65=>J (an (d65.1,av,()))) (brk (I (t1=40)) ((di T ([t1,119,41,117]:LI)).bind λd71=>J (an (d71.1,av,()))) (J (an ([],ar,()))))) (brk (I (t1=1)) ((di T ([t1,114]:LI)).bind λd65=>J (an (d65.1,av,()))) (brk (I (t1=40)) ((di T ([t1,119,41,115]:LI)).bind λd71=>J (an (d71.1,av,()))) (J (an ([],ar,())))))) (brk (I (t0=116)) (brk (I (t0=116)) (brk (I (t1=1)) ((di T ([t1,117]:LI)).bind λd65=>J (an (d65.1,av,()))) (brk (I (t1=40)) ((di T ([t1,119,41,117]:LI)).bind λd71=>J (an (d71.1,av,()))) (J (an ([],ar,()))))) (brk (I (t1=1)) ((di T ([t1,114]:LI)).bind λd65=>J (an (d65.1,av,()))) (brk (I (t1=40)) ((di T ([t1,119,41,115]:LI)).bind λd71=>J (an (d71.1,av,()))) (J (an ([],ar,())))))) (J (an ([],ar,())))):=eJ Tryz.func80
theorem Gv (t0):r9 (S.step T) t0=(eG T t0).bind λd5=>brk (d5.1) ((di T ([t0,120]:LI)).bind λd8=>J ((d8.1,av,()),cO)) (brk (I (t0=1)) ((di T ([t0,122]:LI)).bind λd14=>J ((d14.1,av,()),cO)) (brk (I (t0=40)) ((di T ([t0,119,41,122]:LI)).bind λd19=>J ((d19.1,av,()),cO)) (brk (I (t0=42)) ((di T ([t0,129,43]:LI)).bind λd24=>J ((d24.1,av,()),cO)) (brk (I (t0=18)) ((di T ([t0,133]:LI)).bind λd29=>J ((d29.1,av,()),cO)) ((di T ([t0]:LI)).bind λd32=>(fv T t0).bind λd34=>J ((d32.1,d34.1,()),cO)))))):=eF Tryz.func139
theorem xO (t0):mS (S.step T) t0=brk (I (t0=10)) (J (av,cO)) (brk (I (t0=26)) (J (av,cO)) (J (I (60<t0),cO))):=eF Tryz.func140
theorem Cp (t0 t1):oy (S.step T) t0 t1=brk (I (t0=119)) ((di T ([120,121]:LI)).bind λd10=>(fv T t1).bind λd12=>J ((d10.1,d12.1,()),cQ)) (brk (I (t0=120)) ((r9 T t1).bind λd16=>J (d16.1,cQ)) (brk (I (t0=121)) ((mS T t1).bind λd22=>brk (d22.1) ((di T ([t1,119]:LI)).bind λd25=>J ((d25.1,av,()),cQ)) (J (([],av,()),cQ))) (brk (I (t0=122)) ((gu T t1 122 122).bind λd29=>J ((d29.1,av,()),cQ)) (brk (I (t0=123)) ((fv T t1).bind λd33=>brk (d33.1) ((di T ([124]:LI)).bind λd35=>J ((d35.1,av,()),cQ)) (J (([],av,()),cQ))) (brk (I (t0=124)) ((di T ([119,125]:LI)).bind λd39=>(fv T t1).bind λd41=>J ((d39.1,d41.1,()),cQ)) (brk (I (t0=125)) (brk (I (t1=46)) ((di T ([t1,119,125]:LI)).bind λd48=>J ((d48.1,av,()),cQ)) (J (([],av,()),cQ))) (brk (I (t0=126)) ((jy T t0 t1 t0 (I (t0=126))).bind (dM (λxJ=>J (xJ,cQ)) (λxJ=>(di T ([40,126,41,132]:LI)).bind λd115=>J ((d115.1,I (xJ.1=40),()),cQ)))) ((jy T t0 t1 t0 (I (t0=128))).bind (dM (λxJ=>J (xJ,cQ)) (λxJ=>(di T ([40,126,41,132]:LI)).bind λd115=>J ((d115.1,I (xJ.1=40),()),cQ))))))))))):=eF Tryz.func81
theorem yf (t0 t1 t6 t49):jy (S.step T) t0 t1 t6 t49=brk (t49) (brk (I (t1=1)) ((di T ([t1,127]:LI)).bind λd56=>J (an (d56.1,av,()))) (brk (I (t1=49)) ((di T ([t1]:LI)).bind λd61=>J (an (d61.1,av,()))) (J (an ([],I (t0=126),()))))) (brk (I (t6=127)) (brk (I (t1=46)) ((di T ([t1,128]:LI)).bind λd70=>J (an (d70.1,av,()))) (J (an ([],av,())))) (brk (I (t6=129)) ((fv T t1).bind λd74=>brk (d74.1) ((di T ([131,130]:LI)).bind λd84=>J (an (d84.1,av,()))) (brk (I (t1=48)) ((di T ([131,130]:LI)).bind λd84=>J (an (d84.1,av,()))) (brk (I (t1=44)) ((di T ([131,130]:LI)).bind λd84=>J (an (d84.1,av,()))) (J (an ([],av,())))))) (brk (I (t6=130)) (brk (I (t1=46)) ((di T ([t1,129]:LI)).bind λd91=>J (an (d91.1,av,()))) (J (an ([],av,())))) (brk (I (t6=131)) (brk (I (t1=48)) ((di T ([t1,1,47,119]:LI)).bind λd98=>J (an (d98.1,av,()))) (brk (I (t1=44)) ((di T ([t1,119,45,47,119]:LI)).bind λd103=>J (an (d103.1,av,()))) ((di T ([119]:LI)).bind λd105=>(fv T t1).bind λd107=>J (an (d105.1,d107.1,()))))) (brk (I (t6=132)) ((di T ([42,100,43]:LI)).bind λd111=>J (an (d111.1,I (t1=42),()))) (J (aE (an (t1,()))))))))):=eJ Tryz.func81
theorem Dy (t0 t1):kJ (S.step T) t0 t1=brk (I (t0=100)) (brk (I (t1=5)) ((di T ([t1,100]:LI)).bind λd15=>J ((d15.1,av,()),cQ)) ((se T t1).bind λd18=>brk (d18.1.2.1) (brk (fits (d18.1.1.length+1)) (J ((d18.1.1++([101]:LI),av,()),cQ)) ay) (J (([],av,()),cQ)))) (brk (I (t0=101)) (brk (I (t1=5)) ((di T ([t1,100]:LI)).bind λd31=>J ((d31.1,av,()),cQ)) (J (([],av,()),cQ))) (brk (I (t0=103)) (brk (I (t1=47)) ((di T ([t1,124]:LI)).bind λd38=>J ((d38.1,av,()),cQ)) (J (([],av,()),cQ))) (brk (I (t0=104)) (brk (I (t1=46)) ((di T ([t1,1,104]:LI)).bind λd45=>J ((d45.1,av,()),cQ)) (J (([],av,()),cQ))) (brk (I (t0=105)) (brk (I (t1=15)) ((di T ([t1,119,132,105]:LI)).bind λd52=>J ((d52.1,av,()),cQ)) (brk (I (t1=16)) ((di T ([t1,132]:LI)).bind λd57=>J ((d57.1,av,()),cQ)) (J (([],av,()),cQ)))) (brk (I (t0=106)) (brk (I (t1=47)) ((di T ([t1,119,46,119,107,132]:LI)).bind λd64=>J ((d64.1,av,()),cQ)) ((di T ([104,21,119,132]:LI)).bind λd66=>brk (I (t1=46)) (J ((d66.1,av,()),cQ)) (J ((d66.1,I (t1=21),()),cQ)))) (brk (I (t0=107)) (brk (I (t1=46)) ((di T ([t1,119]:LI)).bind λd79=>J ((d79.1,av,()),cQ)) (J (([],av,()),cQ))) (brk (I (t0=108)) ((fv T t1).bind λd83=>brk (d83.1) ((di T ([124]:LI)).bind λd85=>J ((d85.1,av,()),cQ)) (J (([],av,()),cQ))) (brk (I (t0=109)) (brk (I (t1=46)) ((di T ([t1,1]:LI)).bind λd92=>J ((d92.1,av,()),cQ)) (J (([],av,()),cQ))) (brk (I (t0=110)) ((eK T t0 t1 (I (t0=110))).bind (dM (λme=>J (me,cQ)) (λme=>(eM T me.1 me.2.1).bind (dB (λzH=>J (zH,cQ)))))) (brk (I (t0=111)) ((eK T t0 t1 (I (t0=111))).bind (dM (λme=>J (me,cQ)) (λme=>(eM T me.1 me.2.1).bind (dB (λzH=>J (zH,cQ)))))) (brk (I (t0=112)) ((eK T t0 t1 (I (t0=112))).bind (dM (λme=>J (me,cQ)) (λme=>(eM T me.1 me.2.1).bind (dB (λzH=>J (zH,cQ)))))) (brk (I (t0=113)) ((eK T t0 t1 (I (t0=113))).bind (dM (λme=>J (me,cQ)) (λme=>(eM T me.1 me.2.1).bind (dB (λzH=>J (zH,cQ)))))) (brk (I (t0=114)) ((eK T t0 t1 (I (t0=114))).bind (dM (λme=>J (me,cQ)) (λme=>(eM T me.1 me.2.1).bind (dB (λzH=>J (zH,cQ)))))) (brk (I (t0=115)) ((eK T t0 t1 (I (t0=115))).bind (dM (λme=>J (me,cQ)) (λme=>(eM T me.1 me.2.1).bind (dB (λzH=>J (zH,cQ)))))) (brk (I (t0=116)) ((eK T t0 t1 (I (t0=116))).bind (dM (λme=>J (me,cQ)) (λme=>(eM T me.1 me.2.1).bind (dB (λzH=>J (zH,cQ)))))) (brk (I (t0=117)) ((eK T t0 t1 (I (t0=117))).bind (dM (λme=>J (me,cQ)) (λme=>(eM T me.1 me.2.1).bind (dB (λzH=>J (zH,cQ)))))) ((eK T t0 t1 (I (t0=118))).bind (dM (λme=>J (me,cQ)) (λme=>(eM T me.1 me.2.1).bind (dB (λzH=>J (zH,cQ)))))))))))))))))))))):=eF Tryz.func46
theorem yB (t0 t1 t93):eK (S.step T) t0 t1 t93=brk (t93) ((oz T t0 t1).bind λd105=>J (an d105.1)) (J (aE (an (t0,t1,())))):=eJ Tryz.func46
theorem yw (t0 t1):eM (S.step T) t0 t1=(oy T t0 t1).bind λd110=>J (an d110.1):=eJ Tryz.func46
theorem DH (t0 t1 t2):mh (S.step T) t0 t1 t2=(gr T t0 t1 t2).bind (dM (λy1=>J (y1.2,y1.1,(),(),())) (λy1=>J ((y1.2.1,ar,()),y1.1,(),(),()))):=eF Tryz.func25
theorem pf (t0 t1 t2):gr (S.step T) t0 t1 t2=brk (I (0<=t1)) (brk (I (0<=t1)&&I (t1<(t0.1.length:Int))) (brk (I ((at_ (τ:=ja) t0.1 t1).1<100)) (J (an (t0,(at_ (τ:=ja) t0.1 t1).2.1,I ((at_ (τ:=ja) t0.1 t1).1=t2),()))) ((kJ T (at_ (τ:=ja) t0.1 t1).1 t2).bind λd35=>brk (!d35.1.2.1) (J (an (t0,(at_ (τ:=ja) t0.1 t1).2.1,ar,()))) ((lM T t0 (at_ (τ:=ja) t0.1 t1).2.1 t2 d35.1.1 (aq.wrap ((d35.1.1.length:Int) - 1))).bind (dB (λZ6=>gr T Z6.1 Z6.2.1 Z6.2.2.1))))) ay) (J (aE (an (t0,t1,())))):=eL Tryz.func25
theorem rY (t0 t1 t2 t9 t11):lM (S.step T) t0 t1 t2 t9 t11=brk (I (0<=t11)) (brk (I (0<=t11)&&I (t11<(t9.length:Int))) ((nz T t0 t1 (t9.getD t11.toNat 0)).bind λd54=>lM T d54.2.1 d54.1 t2 t9 (aq.wrap (t11 - 1))) ay) (J (an (t0,t1,t2,()))):=eL Tryz.func25
theorem Fj (t0 t1):s8 (S.step T) t0 t1=(lj T t0 t1 [] (t0.1.length:Int) 1).bind (dB (λy4=>J (y4.2.1,y4.1,(),()))):=eF Tryz.func45
theorem pO (t0 t1 t5 t6 t7):lj (S.step T) t0 t1 t5 t6 t7=brk (I (t7<=78)) ((mh T t0 t1 t7).bind λd23=>brk (bounds d23.2.1.1.length 0 t6) (brk (d23.1.2.1) (brk (fits (t5.length+([t7]:LI).length)) (lj T (d23.2.1.1.take t6.toNat,()) t1 (t5++([t7]:LI)) t6 (aq.wrap (t7+1))) ay) (lj T (d23.2.1.1.take t6.toNat,()) t1 t5 t6 (aq.wrap (t7+1)))) ay) (J (an (t0,t5,()))):=eL Tryz.func45
theorem FC (t0 t1):xn (S.step T) t0 t1=brk (I ((t1.length:Int)=1)) (brk (I (0<(t1.length:Int))) (brk (I (t1.getD 0 0=45)) (J (av,cQ)) ((dz T t1 t0 (t0.length:Int) 0).bind (dM (λy4=>J (y4.1,cQ)) (λy4=>J (ar,cQ))))) ay) ((dz T t1 t0 (t0.length:Int) 0).bind (dM (λy4=>J (y4.1,cQ)) (λy4=>J (ar,cQ)))):=eF Tryz.func76
end Go.Abs.D
end

section
set_option maxRecDepth 100000
namespace Go.Abs.D
variable(T:S.Tab)
open Go.Proofs
theorem tO (t1 t16 t17 t18):dz (S.step T) t1 t16 t17 t18=brk (I (t18<t17)) (brk (I (0<=t18)&&I (t18<(t16.length:Int))) (brk (I (t16.getD t18.toNat 0=1)) (brk (I (0<(t1.length:Int))) ((jI T (t1.getD 0 0)).bind λd27=>brk (d27.1) (J (an (av,()))) (brk (I (t16.getD t18.toNat 0=2)) (brk (I (0<(t1.length:Int))) ((eV T (t1.getD 0 0)).bind λd39=>brk (d39.1) (J (an (av,()))) (brk (I (t16.getD t18.toNat 0=4)) (brk (I (0<(t1.length:Int))) (brk (I (t1.getD 0 0=34)) (J (an (av,()))) ((fK T (t16.getD t18.toNat 0)).bind λd52=>brk (I ((t1.length:Int)<=(d52.1.length:Int))) (brk (bounds d52.1.length 0 (t1.length:Int)) (brk (I ((sub d52.1 0 (t1.length:Int))=t1)) (J (an (av,()))) (dz T t1 t16 t17 (aq.wrap (t18+1)))) ay) (dz T t1 t16 t17 (aq.wrap (t18+1))))) ay) ((fK T (t16.getD t18.toNat 0)).bind λd52=>brk (I ((t1.length:Int)<=(d52.1.length:Int))) (brk (bounds d52.1.length 0 (t1.length:Int)) (brk (I ((sub d52.1 0 (t1.length:Int))=t1)) (J (an (av,()))) (dz T t1 t16 t17 (aq.wrap (t18+1)))) ay) (dz T t1 t16 t17 (aq.wrap (t18+1)))))) ay) (brk (I (t16.getD t18.toNat 0=3)) (brk (I (0<(t1.length:Int))) ((eV T (t1.getD 0 0)).bind λd39=>brk (d39.1) (J (an (av,()))) (brk (I (t16.getD t18.toNat 0=4)) (brk (I (0<(t1.length:Int))) (brk (I (t1.getD 0 0=34)) (J (an (av,()))) ((fK T (t16.getD t18.toNat 0)).bind λd52=>brk (I ((t1.length:Int)<=(d52.1.length:Int))) (brk (bounds d52.1.length 0 (t1.length:Int)) (brk (I ((sub d52.1 0 (t1.length:Int))=t1)) (J (an (av,()))) (dz T t1 t16 t17 (aq.wrap (t18+1)))) ay) (dz T t1 t16 t17 (aq.wrap (t18+1))))) ay) ((fK T (t16.getD t18.toNat 0)).bind λd52=>brk (I ((t1.length:Int)<=(d52.1.length:Int))) (brk (bounds d52.1.length 0 (t1.length:Int)) (brk (I ((sub d52.1 0 (t1.length:Int))=t1)) (J (an (av,()))) (dz T t1 t16 t17 (aq.wrap (t18+1)))) ay) (dz T t1 t16 t17 (aq.wrap (t18+1)))))) ay) (brk (I (t16.getD t18.toNat 0=4)) (brk (I (0<(t1.length:Int))) (brk (I (t1.getD 0 0=34)) (J (an (av,()))) ((fK T (t16.getD t18.toNat 0)).bind λd52=>brk (I ((t1.length:Int)<=(d52.1.length:Int))) (brk (bounds d52.1.length 0 (t1.length:Int)) (brk (I ((sub d52.1 0 (t1.length:Int))=t1)) (J (an (av,()))) (dz T t1 t16 t17 (aq.wrap (t18+1)))) ay) (dz T t1 t16 t17 (aq.wrap (t18+1))))) ay) ((fK T (t16.getD t18.toNat 0)).bind λd52=>brk (I ((t1.length:Int)<=(d52.1.length:Int))) (brk (bounds d52.1.length 0 (t1.length:Int)) (brk (I ((sub d52.1 0 (t1.length:Int))=t1)) (J (an (av,()))) (dz T t1 t16 t17 (aq.wrap (t18+1)))) ay) (dz T t1 t16 t17 (aq.wrap (t18+1)))))))) ay) (brk (I (t16.getD t18.toNat 0=2)) (brk (I (0<(t1.length:Int))) ((eV T (t1.getD 0 0)).bind λd39=>brk (d39.1) (J (an (av,()))) (brk (I (t16.getD t18.toNat 0=4)) (brk (I (0<(t1.length:Int))) (brk (I (t1.getD 0 0=34)) (J (an (av,()))) ((fK T (t16.getD t18.toNat 0)).bind λd52=>brk (I ((t1.length:Int)<=(d52.1.length:Int))) (brk (bounds d52.1.length 0 (t1.length:Int)) (brk (I ((sub d52.1 0 (t1.length:Int))=t1)) (J (an (av,()))) (dz T t1 t16 t17 (aq.wrap (t18+1)))) ay) (dz T t1 t16 t17 (aq.wrap (t18+1))))) ay) ((fK T (t16.getD t18.toNat 0)).bind λd52=>brk (I ((t1.length:Int)<=(d52.1.length:Int))) (brk (bounds d52.1.length 0 (t1.length:Int)) (brk (I ((sub d52.1 0 (t1.length:Int))=t1)) (J (an (av,()))) (dz T t1 t16 t17 (aq.wrap (t18+1)))) ay) (dz T t1 t16 t17 (aq.wrap (t18+1)))))) ay) (brk (I (t16.getD t18.toNat 0=3)) (brk (I (0<(t1.length:Int))) ((eV T (t1.getD 0 0)).bind λd39=>brk (d39.1) (J (an (av,()))) (brk (I (t16.getD t18.toNat 0=4)) (brk (I (0<(t1.length:Int))) (brk (I (t1.getD 0 0=34)) (J (an (av,()))) ((fK T (t16.getD t18.toNat 0)).bind λd52=>brk (I ((t1.length:Int)<=(d52.1.length:Int))) (brk (bounds d52.1.length 0 (t1.length:Int)) (brk (I ((sub d52.1 0 (t1.length:Int))=t1)) (J (an (av,()))) (dz T t1 t16 t17 (aq.wrap (t18+1)))) ay) (dz T t1 t16 t17 (aq.wrap (t18+1))))) ay) ((fK T (t16.getD t18.toNat 0)).bind λd52=>brk (I ((t1.length:Int)<=(d52.1.length:Int))) (brk (bounds d52.1.length 0 (t1.length:Int)) (brk (I ((sub d52.1 0 (t1.length:Int))=t1)) (J (an (av,()))) (dz T t1 t16 t17 (aq.wrap (t18+1)))) ay) (dz T t1 t16 t17 (aq.wrap (t18+1)))))) ay) (brk (I (t16.getD t18.toNat 0=4)) (brk (I (0<(t1.length:Int))) (brk (I (t1.getD 0 0=34)) (J (an (av,()))) ((fK T (t16.getD t18.toNat 0)).bind λd52=>brk (I ((t1.length:Int)<=(d52.1.length:Int))) (brk (bounds d52.1.length 0 (t1.length:Int)) (brk (I ((sub d52.1 0 (t1.length:Int))=t1)) (J (an (av,()))) (dz T t1 t16 t17 (aq.wrap (t18+1)))) ay) (dz T t1 t16 t17 (aq.wrap (t18+1))))) ay) ((fK T (t16.getD t18.toNat 0)).bind λd52=>brk (I ((t1.length:Int)<=(d52.1.length:Int))) (brk (bounds d52.1.length 0 (t1.length:Int)) (brk (I ((sub d52.1 0 (t1.length:Int))=t1)) (J (an (av,()))) (dz T t1 t16 t17 (aq.wrap (t18+1)))) ay) (dz T t1 t16 t17 (aq.wrap (t18+1)))))))) ay) (J (aE (an ()))):=eL Tryz.func76
theorem Fp (t0 t1 t2):qw (S.step T) t0 t1 t2=(ko T t0 t1 t2 0).bind (dB (λy2=>J (aq.wrap (y2.1+y2.2.1),dU))):=eF Tryz.func44
theorem tX (t0 t1 t2 t7):ko (S.step T) t0 t1 t2 t7=brk (I (aq.wrap (t1+t7)<(t0.length:Int))) (brk (bounds t0.length t1 (aq.wrap ((aq.wrap (t1+t7))+1))) ((xn T t2 (sub t0 t1 (aq.wrap ((aq.wrap (t1+t7))+1)))).bind λd23=>brk (d23.1) (brk (I (0<=t1)&&I (t1<(t0.length:Int))) ((jI T (t0.getD t1.toNat 0)).bind λd30=>brk (d30.1) ((eH T t0 (aq.wrap (t1+(aq.wrap (t7+1))))).bind λd36=>(jI T d36.1).bind λd37=>brk (!d37.1) ((eH T t0 (aq.wrap (t1+(aq.wrap (t7+1))))).bind λd45=>(eV T d45.1).bind λd46=>brk (!d46.1) (J (an (t1,aq.wrap (t7+1),()))) (ko T t0 t1 t2 (aq.wrap (t7+1)))) (ko T t0 t1 t2 (aq.wrap (t7+1)))) (ko T t0 t1 t2 (aq.wrap (t7+1)))) ay) (J (an (t1,t7,())))) ay) (J (an (t1,t7,()))):=eL Tryz.func44
theorem Gg (t0 t1):p9 (S.step T) t0 t1=(uw T t0).bind λd17=>(mg T t1 0).bind λd19=>(ep T d17.2.1 t1 d17.1 [] 1 d19.1).bind (dM (λy5=>J (y5.2,y5.1,(),())) (λy5=>brk (fits (y5.2.2.2.1.length+([(6,(y5.2.1.length:Int),(y5.2.1.length:Int),y5.2.2.2.2.1,0,([]:LI),())]:List cZ.den).length)) (J ((y5.2.2.2.1++([(6,(y5.2.1.length:Int),(y5.2.1.length:Int),y5.2.2.2.2.1,0,([]:LI),())]:List cZ.den),y5.2.2.1,(-1:Int),()),y5.1,(),())) ay)):=eF Tryz.func24
theorem uo (t0 t1 t7 t8 t9 t10 t11 t12 t13):fY (S.step T) t0 t1 t7 t8 t9 t10 t11 t12 t13=brk (I (0<t13)) ((mh T t0 t7 t13).bind λd46=>(iG T d46.2.1 t1 t7 t8 t9 t10 t11 t12 t13 d46.1.1 d46.1.2.1).bind (Sy (λmq=>J (an mq)) (λmq=>J (aE (an mq))) (λmq=>J (aE (aE (an mq)))))) ((iG T t0 t1 t7 t8 t9 t10 t11 t12 t13 t7 (I (0<t13))).bind (Sy (λmq=>J (an mq)) (λmq=>J (aE (an mq))) (λmq=>J (aE (aE (an mq)))))):=eJ Tryz.func24
theorem mP (t0 t1 t7 t8 t9 t10 t11 t12 t13 t14 t15):iG (S.step T) t0 t1 t7 t8 t9 t10 t11 t12 t13 t14 t15=brk (!t15) (brk (I (t11.1=7)) ((mg T t1 t11.2.2.1).bind λd59=>J (an (t0,t1,t7,t8,t9,d59.1,()))) (brk (!t15) ((s8 T t0 t7).bind λd67=>(qw T t1 t10 d67.1).bind λd68=>J (aE (an (d67.2.1,[],t7,d68.1,())))) (brk (I (0<=t12)) (J (aE (an (t0,[],t7,t12,())))) (brk (fits (t8.length+([(t13,t11.2)]:List cZ.den).length)) ((mg T t1 t11.2.2.1).bind λd83=>J (aE (aE (an (t0,t1,t14,t8++([(t13,t11.2)]:List cZ.den),t9,d83.1,()))))) ay)))) (brk (!t15) ((s8 T t0 t7).bind λd67=>(qw T t1 t10 d67.1).bind λd68=>J (aE (an (d67.2.1,[],t7,d68.1,())))) (brk (I (0<=t12)) (J (aE (an (t0,[],t7,t12,())))) (brk (fits (t8.length+([(t13,t11.2)]:List cZ.den).length)) ((mg T t1 t11.2.2.1).bind λd83=>J (aE (aE (an (t0,t1,t14,t8++([(t13,t11.2)]:List cZ.den),t9,d83.1,()))))) ay))):=eJ Tryz.func24
theorem nK (t0 t1 t7 t8 t9 t10):ep (S.step T) t0 t1 t7 t8 t9 t10=brk (I (t10<(t1.length:Int))) ((iS T t1 t10).bind λd27=>brk (I (d27.1.1.1=7)) ((fY T t0 t1 t7 t8 (aq.wrap (t9+1)) t10 (d27.1.1.1,d27.1.1.2.1,d27.1.1.2.2.1,t9,d27.1.1.2.2.2.2) d27.1.2.1 5).bind (Sy (λmn=>ep T mn.1 mn.2.1 mn.2.2.1 mn.2.2.2.1 mn.2.2.2.2.1 mn.2.2.2.2.2.1) (λmn=>J (an mn)) (λmn=>ep T mn.1 mn.2.1 mn.2.2.1 mn.2.2.2.1 mn.2.2.2.2.1 mn.2.2.2.2.2.1))) ((fY T t0 t1 t7 t8 t9 t10 (d27.1.1.1,d27.1.1.2.1,d27.1.1.2.2.1,t9,d27.1.1.2.2.2.2) d27.1.2.1 d27.1.1.1).bind (Sy (λmn=>ep T mn.1 mn.2.1 mn.2.2.1 mn.2.2.2.1 mn.2.2.2.2.1 mn.2.2.2.2.2.1) (λmn=>J (an mn)) (λmn=>ep T mn.1 mn.2.1 mn.2.2.1 mn.2.2.2.1 mn.2.2.2.2.1 mn.2.2.2.2.2.1)))) (J (aE (an (t0,t1,t7,t8,t9,())))):=eL Tryz.func24
theorem qV (t0):mi (S.step T) t0=(p9 T ([],()) t0).bind λd15=>brk (I (0<=d15.1.2.2.1)) (J (([],d15.1.2.2),cO)) ((mh T d15.2.1 d15.1.2.1 6).bind λd25=>brk (!d25.1.2.1) (J (([],(t0.length:Int),()),cO)) (J ((d15.1.1,(-1:Int),()),cO))):=eF Tryz.func10
theorem Fz (t0):xm (S.step T) t0=brk (I (t0=46)) (J (av,cO)) (brk (I (t0=47)) (J (av,cO)) (brk (I (t0=40)) (J (av,cO)) (brk (I (t0=44)) (J (av,cO)) (brk (I (t0=10)) (J (av,cO)) (brk (I (t0=25)) (J (av,cO)) (J (I (60<t0),cO))))))):=eF Tryz.func56
theorem Av (t0):oM (S.step T) t0=(dh T t0 (([([32]:LI),([32]:LI),([32]:LI),([32,32]:LI),([9]:LI),([13]:LI),([32,9,32]:LI)]:List LI).length:Int)).bind λd9=>brk (I (0<=d9.1)&&I (d9.1<(([([32]:LI),([32]:LI),([32]:LI),([32,32]:LI),([9]:LI),([13]:LI),([32,9,32]:LI)]:List LI).length:Int))) (J (([([32]:LI),([32]:LI),([32]:LI),([32,32]:LI),([9]:LI),([13]:LI),([32,9,32]:LI)]:List LI).getD d9.1.toNat [],d9.2.1,())) none:=eF Tryz.func57
theorem Aw (t0 t1):qS (S.step T) t0 t1=(mi T t1).bind λd15=>(gY T t0 t1 [] d15.1.1 (d15.1.1.length:Int) 0).bind (dB (λy4=>J (y4.2.1.map byte,y4.1,(),()))):=eF Tryz.func30
theorem wv (t0 t1 t7 t9 t10 t18 t19 t20):jV (S.step T) t0 t1 t7 t9 t10 t18 t19 t20=brk (fits (t7.length+t10.length)) ((xm T t9.1).bind λd49=>brk (d49.1) ((dh T t0 4).bind λd52=>brk (I (d52.1=0)) ((dh T d52.2.1 (([([10]:LI),([32,45,45,122,10]:LI),([13,10,10]:LI)]:List LI).length:Int)).bind λd61=>brk (I (0<=d61.1)&&I (d61.1<(([([10]:LI),([32,45,45,122,10]:LI),([13,10,10]:LI)]:List LI).length:Int))) (brk (fits ((t7++t10).length+(([([10]:LI),([32,45,45,122,10]:LI),([13,10,10]:LI)]:List LI).getD d61.1.toNat []).length)) (J (an (d61.2.1,t1,(t7++t10)++(([([10]:LI),([32,45,45,122,10]:LI),([13,10,10]:LI)]:List LI).getD d61.1.toNat []),t18,t19,t20,()))) ay) ay) (brk (!I (t9.1=5)) ((oM T d52.2.1).bind λd70=>brk (fits ((t7++t10).length+d70.1.length)) (J (an (d70.2.1,t1,(t7++t10)++d70.1,t18,t19,t20,()))) ay) (J (an (d52.2.1,t1,t7++t10,t18,t19,t20,()))))) (brk (!I (t9.1=5)) ((oM T t0).bind λd70=>brk (fits ((t7++t10).length+d70.1.length)) (J (an (d70.2.1,t1,(t7++t10)++d70.1,t18,t19,t20,()))) ay) (J (an (t0,t1,t7++t10,t18,t19,t20,()))))) none:=eJ Tryz.func30
theorem qi (t0 t1 t7 t18 t19 t20):gY (S.step T) t0 t1 t7 t18 t19 t20=brk (I (t20<t19)) (brk (I (0<=t20)&&I (t20<(t18.length:Int))) (brk (I ((at_ (τ:=cZ) t18 t20).1=6)) (J (an (t0,t7,()))) (brk (bounds t1.length (at_ (τ:=cZ) t18 t20).2.1 (at_ (τ:=cZ) t18 t20).2.2.1) (brk (I ((at_ (τ:=cZ) t18 t20).1=5)) ((dh T t0 (([([10]:LI),([59]:LI),([10,10]:LI),([32,59,32]:LI),([10,45,45,122,10]:LI),([59,59]:LI)]:List LI).length:Int)).bind λd41=>brk (I (0<=d41.1)&&I (d41.1<(([([10]:LI),([59]:LI),([10,10]:LI),([32,59,32]:LI),([10,45,45,122,10]:LI),([59,59]:LI)]:List LI).length:Int))) ((jV T d41.2.1 t1 t7 (at_ (τ:=cZ) t18 t20) (([([10]:LI),([59]:LI),([10,10]:LI),([32,59,32]:LI),([10,45,45,122,10]:LI),([59,59]:LI)]:List LI).getD d41.1.toNat []) t18 t19 t20).bind (dB (λyb=>gY T yb.1 yb.2.1 yb.2.2.1 yb.2.2.2.1 yb.2.2.2.2.1 (aq.wrap (yb.2.2.2.2.2.1+1))))) ay) ((jV T t0 t1 t7 (at_ (τ:=cZ) t18 t20) (sub t1 (at_ (τ:=cZ) t18 t20).2.1 (at_ (τ:=cZ) t18 t20).2.2.1) t18 t19 t20).bind (dB (λyb=>gY T yb.1 yb.2.1 yb.2.2.1 yb.2.2.2.1 yb.2.2.2.2.1 (aq.wrap (yb.2.2.2.2.2.1+1)))))) ay)) ay) (J (an (t0,t7,()))):=eL Tryz.func30
theorem Bg (t0):sE (S.step T) t0=(sG T t0).bind λd5=>((uG T d5.1).map λy=>(y.1,(d5.1,()))).bind λd8=>(qS T d5.2.1 d8.1).bind λd9=>J (d9.1,d9.2.1,()):=eF Tryz.func13
theorem Ke (t0):D3 (S.step T) t0=(sE T (t0,0,0,0,())).bind λd8=>J (d8.1,cO):=eF Tryz.func5
theorem DA (t0):eY (S.step T) t0=brk (I (0<=t0.2.1)&&I (t0.2.1<(t0.1.length:Int))) (J ((at_ (τ:=cZ) t0.1 t0.2.1).1,t0,())) none:=eF Tryz.func48
theorem Gl (t0 t1):iT (S.step T) t0 t1=(eY T t0).bind λd6=>brk (!I (d6.1=t1)) (J (ar,d6.2.1,(),())) (J (av,(d6.2.1.1,aq.wrap (d6.2.1.2.1+1),d6.2.1.2.2),(),())):=eF Tryz.func49
theorem DI (t0):dD (S.step T) t0=brk (I (0<=aq.wrap ((aq.wrap (t0.2.1+1)) - 1))&&I (aq.wrap ((aq.wrap (t0.2.1+1)) - 1)<(t0.1.length:Int))) (J (at_ (τ:=cZ) t0.1 (aq.wrap ((aq.wrap (t0.2.1+1)) - 1)),(t0.1,aq.wrap (t0.2.1+1),t0.2.2),())) none:=eF Tryz.func84
theorem GB (t0 t1):dT (S.step T) t0 t1=J ((t0,t1.2.1,0,t1.2.2.2.1,0,0,([]:LI),[],[],()),eP):=eF Tryz.func85
theorem Fy (t0 t1):dy (S.step T) t0 t1=brk (I (0<=aq.wrap (t0.2.1 - 1))&&I (aq.wrap (t0.2.1 - 1)<(t0.1.length:Int))) (brk (fits (t0.2.2.1.length+([(t1.1,t1.2.1,(at_ (τ:=cZ) t0.1 (aq.wrap (t0.2.1 - 1))).2.2.1,t1.2.2.2)]:List cR.den).length)) (J (aq.wrap (((t0.2.2.1++([(t1.1,t1.2.1,(at_ (τ:=cZ) t0.1 (aq.wrap (t0.2.1 - 1))).2.2.1,t1.2.2.2)]:List cR.den)).length:Int) - 1),(t0.1,t0.2.1,t0.2.2.1++([(t1.1,t1.2.1,(at_ (τ:=cZ) t0.1 (aq.wrap (t0.2.1 - 1))).2.2.1,t1.2.2.2)]:List cR.den),()),((),(),(),(),(),(),(),(),(),()),())) ay) none:=eF Tryz.func88
theorem CE (t0):gi (S.step T) t0=(dD T t0).bind λd5=>(dT T 1 d5.1).bind λd6=>(qu T d5.2.1 43).bind λd8=>(dD T d8.2.1).bind λd11=>(dy T d11.2.1 (d6.1.1,d6.1.2.1,d6.1.2.2.1,d6.1.2.2.2.1,d6.1.2.2.2.2.1,d6.1.2.2.2.2.2.1,d6.1.2.2.2.2.2.2.1,d6.1.2.2.2.2.2.2.2.1,d8.1,())).bind λd14=>J (d14.1,d14.2.1,()):=eF Tryz.func82
theorem FF (t0):xp (S.step T) t0=brk (I (t0=25)) (J (21,cO)) (brk (I (t0=50)) (J (22,cO)) (brk (I (t0=69)) (J (20,cO)) (J (19,cO)))):=eF Tryz.func158
theorem DZ (t0 t1):rz (S.step T) t0 t1=(dD T t0).bind λd8=>(kL T d8.2.1 t1).bind (dB (λy2=>(dD T y2.1).bind λd29=>(gi T d29.2.1).bind λd31=>(dy T d31.2.1 (y2.2.1.1,y2.2.1.2.1,y2.2.1.2.2.1,y2.2.1.2.2.2.1,y2.2.1.2.2.2.2.1,y2.2.1.2.2.2.2.2.1,y2.2.1.2.2.2.2.2.2.1,y2.2.1.2.2.2.2.2.2.2.1,([d31.1]:LI),())).bind λd37=>J (d37.1,d37.2.1,((),(),(),(),(),(),(),(),(),()),()))):=eF Tryz.func90
theorem Ax (t0 t3):kL (S.step T) t0 t3=(eY T t0).bind λd10=>brk (!I (d10.1=41)) ((dD T d10.2.1).bind λd13=>brk (I (d13.1.1=1)) (brk (fits (t3.2.2.2.2.2.2.2.1.length+([d13.1.2.2.2.2.2.1]:List LI).length)) (kL T d13.2.1 (t3.1,t3.2.1,t3.2.2.1,t3.2.2.2.1,t3.2.2.2.2.1,t3.2.2.2.2.2.1,t3.2.2.2.2.2.2.1,t3.2.2.2.2.2.2.2.1++([d13.1.2.2.2.2.2.1]:List LI),t3.2.2.2.2.2.2.2.2)) ay) (brk (I (d13.1.1=49)) (kL T d13.2.1 (t3.1,t3.2.1,t3.2.2.1,t3.2.2.2.1,1,t3.2.2.2.2.2)) (kL T d13.2.1 t3))) (J (an (d10.2.1,t3,()))):=eL Tryz.func90
theorem Cr (t0):uB (S.step T) t0=brk (I (0<=t0.2.1)&&I (t0.2.1<(t0.1.length:Int))) ((dT T 40 (at_ (τ:=cZ) t0.1 t0.2.1)).bind λd19=>(iT T t0 48).bind λd21=>brk (d21.1) ((dD T d21.2.1).bind λd23=>(dD T d23.2.1).bind λd25=>(jz T d25.2.1 (42,d19.1.2.1,d19.1.2.2.1,d19.1.2.2.2.1,d19.1.2.2.2.2.1,d19.1.2.2.2.2.2.1,d23.1.2.2.2.2.2.1,d19.1.2.2.2.2.2.2.2)).bind (dB (λtC=>J (tC.2.1,tC.1,())))) ((iT T d21.2.1 44).bind λd31=>brk (d31.1) ((fF T d31.2.1 0).bind λd33=>(dD T d33.2.1).bind λd35=>(dD T d35.2.1).bind λd37=>brk (fits (d19.1.2.2.2.2.2.2.2.2.1.length+([d33.1]:LI).length)) ((jz T d37.2.1 (41,d19.1.2.1,d19.1.2.2.1,d19.1.2.2.2.1,d19.1.2.2.2.2.1,d19.1.2.2.2.2.2.1,d19.1.2.2.2.2.2.2.1,d19.1.2.2.2.2.2.2.2.1,d19.1.2.2.2.2.2.2.2.2.1++([d33.1]:LI),())).bind (dB (λtC=>J (tC.2.1,tC.1,())))) ay) ((jz T d31.2.1 d19.1).bind (dB (λtC=>J (tC.2.1,tC.1,())))))) none:=eF Tryz.func159
theorem yd (t0 t4):jz (S.step T) t0 t4=(fF T t0 0).bind λd46=>brk (fits (t4.2.2.2.2.2.2.2.2.1.length+([d46.1]:LI).length)) ((dy T d46.2.1 (t4.1,t4.2.1,t4.2.2.1,t4.2.2.2.1,t4.2.2.2.2.1,t4.2.2.2.2.2.1,t4.2.2.2.2.2.2.1,t4.2.2.2.2.2.2.2.1,t4.2.2.2.2.2.2.2.2.1++([d46.1]:LI),())).bind λd55=>J (an (d55.2.1,d55.1,()))) none:=eJ Tryz.func159
theorem DK (t0):pA (S.step T) t0=(eY T t0).bind λd12=>brk (I (d12.1=1)) ((hZ T d12.2.1).bind λd20=>J d20) ((eY T d12.2.1).bind λd16=>brk (I (d16.1=40)) ((hZ T d16.2.1).bind λd20=>J d20) ((dD T d16.2.1).bind λd22=>(eG T d22.1.1).bind λd25=>brk (d25.1) ((pA T d22.2.1).bind λd27=>(dT T 30 d22.1).bind λd29=>(xp T d22.1.1).bind λd32=>(dy T d27.2.1 (d29.1.1,d29.1.2.1,d29.1.2.2.1,d29.1.2.2.2.1,d32.1,d29.1.2.2.2.2.2.1,d29.1.2.2.2.2.2.2.1,d29.1.2.2.2.2.2.2.2.1,([d27.1]:LI),())).bind λd39=>J (d39.1,d39.2.1,())) (brk (I (d22.1.1=2)) ((dT T 23 d22.1).bind λd45=>(dy T d22.2.1 (d45.1.1,d45.1.2.1,d45.1.2.2.1,d45.1.2.2.2.1,d45.1.2.2.2.2.1,d22.1.2.2.2.2.1,d45.1.2.2.2.2.2.2)).bind λd51=>J (d51.1,d51.2.1,())) (brk (I (d22.1.1=3)) ((dT T 24 d22.1).bind λd55=>(dy T d22.2.1 (d55.1.1,d55.1.2.1,d55.1.2.2.1,d55.1.2.2.2.1,d55.1.2.2.2.2.1,d55.1.2.2.2.2.2.1,d22.1.2.2.2.2.2.1,d55.1.2.2.2.2.2.2.2)).bind λd61=>J (d61.1,d61.2.1,())) (brk (I (d22.1.1=4)) ((dT T 25 d22.1).bind λd65=>(dy T d22.2.1 (d65.1.1,d65.1.2.1,d65.1.2.2.1,d65.1.2.2.2.1,d65.1.2.2.2.2.1,d65.1.2.2.2.2.2.1,d22.1.2.2.2.2.2.1,d65.1.2.2.2.2.2.2.2)).bind λd71=>J (d71.1,d71.2.1,())) (brk (I (d22.1.1=24)) ((dT T 20 d22.1).bind λd76=>(dy T d22.2.1 d76.1).bind λd77=>J (d77.1,d77.2.1,())) (brk (I (d22.1.1=29)) ((dT T 21 d22.1).bind λd82=>(dy T d22.2.1 d82.1).bind λd83=>J (d83.1,d83.2.1,())) (brk (I (d22.1.1=17)) ((dT T 22 d22.1).bind λd88=>(dy T d22.2.1 d88.1).bind λd89=>J (d89.1,d89.2.1,())) (brk (I (d22.1.1=49)) ((dT T 27 d22.1).bind λd94=>(dy T d22.2.1 d94.1).bind λd95=>J (d95.1,d95.2.1,())) (brk (I (d22.1.1=18)) ((dT T 36 d22.1).bind λd100=>(rz T d22.2.1 d100.1).bind λd101=>J (d101.1,d101.2.1,())) ((dT T 35 d22.1).bind λd103=>(nT T d22.2.1 d103.1).bind (dB (λN9=>(dD T N9.1).bind λd118=>(dy T d118.2.1 N9.2.1).bind λd121=>J (d121.1,d121.2.1,())))))))))))))):=eF Tryz.func141
theorem yO (t0 t9):nT (S.step T) t0 t9=(eY T t0).bind λd105=>brk (!I (d105.1=43)) ((uB T d105.2.1).bind λd108=>brk (fits (t9.2.2.2.2.2.2.2.2.1.length+([d108.1]:LI).length)) ((iT T d108.2.1 46).bind λd116=>nT T d116.2.1 (t9.1,t9.2.1,t9.2.2.1,t9.2.2.2.1,t9.2.2.2.2.1,t9.2.2.2.2.2.1,t9.2.2.2.2.2.2.1,t9.2.2.2.2.2.2.2.1,t9.2.2.2.2.2.2.2.2.1++([d108.1]:LI),())) ay) (J (an (d105.2.1,t9,()))):=eL Tryz.func141
theorem DO (t0 t1):fF (S.step T) t0 t1=brk (I (0<=t0.2.1)&&I (t0.2.1<(t0.1.length:Int))) ((pA T t0).bind λd23=>(jD T d23.2.1 t1 (at_ (τ:=cZ) t0.1 t0.2.1) d23.1).bind (dM (λy3=>J (y3.2.1,y3.1,(),())) (λy3=>J (y3.2.1,y3.1,(),())))) none:=eF Tryz.func89
theorem Ao (t0 t1 t5 t6):jD (S.step T) t0 t1 t5 t6=(eY T t0).bind λd25=>(mS T d25.1).bind λd26=>brk (d26.1) ((eY T d25.2.1).bind λd29=>(jQ T d29.1).bind λd30=>brk (I (d30.1.1<t1)) (J (an (d29.2.1,t6,()))) ((dD T d29.2.1).bind λd38=>(fF T d38.2.1 d30.1.2.1).bind λd41=>(dT T 31 t5).bind λd43=>brk (I (d38.1.1=10)) ((dy T d41.2.1 (28,d43.1.2.1,d43.1.2.2.1,d43.1.2.2.2.1,0,d43.1.2.2.2.2.2.1,d43.1.2.2.2.2.2.2.1,d43.1.2.2.2.2.2.2.2.1,([t6,d41.1]:LI),())).bind λd64=>jD T d64.2.1 t1 t5 d64.1) (brk (I (d38.1.1=26)) ((dy T d41.2.1 (29,d43.1.2.1,d43.1.2.2.1,d43.1.2.2.2.1,0,d43.1.2.2.2.2.2.1,d43.1.2.2.2.2.2.2.1,d43.1.2.2.2.2.2.2.2.1,([t6,d41.1]:LI),())).bind λd64=>jD T d64.2.1 t1 t5 d64.1) ((dy T d41.2.1 (d43.1.1,d43.1.2.1,d43.1.2.2.1,d43.1.2.2.2.1,aq.wrap (d38.1.1 - 60),d43.1.2.2.2.2.2.1,d43.1.2.2.2.2.2.2.1,d43.1.2.2.2.2.2.2.2.1,([t6,d41.1]:LI),())).bind λd64=>jD T d64.2.1 t1 t5 d64.1)))) (J (aE (an (d25.2.1,t6,())))):=eL Tryz.func89
theorem Cu (t0):iw (S.step T) t0=(fF T t0 0).bind λd6=>(nV T d6.2.1 ([d6.1]:LI)).bind (dB (λy3=>J (y3.2.1,y3.1,()))):=eF Tryz.func87
theorem r6 (t0 t4):nV (S.step T) t0 t4=(iT T t0 46).bind λd10=>brk (d10.1) ((fF T d10.2.1 0).bind λd12=>brk (fits (t4.length+([d12.1]:LI).length)) (nV T d12.2.1 (t4++([d12.1]:LI))) ay) (J (an (d10.2.1,t4,()))):=eL Tryz.func87
theorem yy (t0):hZ (S.step T) t0=(dD T t0).bind λd14=>brk (I (d14.1.1=1)) ((dT T 26 d14.1).bind λd19=>(dy T d14.2.1 (d19.1.1,d19.1.2.1,d19.1.2.2.1,d19.1.2.2.2.1,d19.1.2.2.2.2.1,d19.1.2.2.2.2.2.1,d14.1.2.2.2.2.2.1,d19.1.2.2.2.2.2.2.2)).bind λd25=>(fJ T d25.2.1 d25.1 d14.1).bind (dB (λtC=>J (tC.2.1,tC.1,())))) ((fF T d14.2.1 0).bind λd27=>(dD T d27.2.1).bind λd29=>brk (I (0<=d27.1)&&I (d27.1<(d29.2.1.2.2.1.length:Int))) (brk (I ((at_ (τ:=cR) d29.2.1.2.2.1 d27.1).1=34)) ((dT T 37 d14.1).bind λd45=>(dy T d29.2.1 (d45.1.1,d45.1.2.1,d45.1.2.2.1,d45.1.2.2.2.1,d45.1.2.2.2.2.1,d45.1.2.2.2.2.2.1,d45.1.2.2.2.2.2.2.1,d45.1.2.2.2.2.2.2.2.1,([d27.1]:LI),())).bind λd51=>(fJ T d51.2.1 d51.1 d14.1).bind (dB (λtC=>J (tC.2.1,tC.1,())))) (brk (I ((at_ (τ:=cR) d29.2.1.2.2.1 d27.1).1=27)) ((dT T 37 d14.1).bind λd45=>(dy T d29.2.1 (d45.1.1,d45.1.2.1,d45.1.2.2.1,d45.1.2.2.2.1,d45.1.2.2.2.2.1,d45.1.2.2.2.2.2.1,d45.1.2.2.2.2.2.2.1,d45.1.2.2.2.2.2.2.2.1,([d27.1]:LI),())).bind λd51=>(fJ T d51.2.1 d51.1 d14.1).bind (dB (λtC=>J (tC.2.1,tC.1,())))) ((fJ T d29.2.1 d27.1 d14.1).bind (dB (λtC=>J (tC.2.1,tC.1,())))))) ay):=eF Tryz.func93
theorem vI (t0 t3 t4):fJ (S.step T) t0 t3 t4=(fI T t0 t3 t4).bind (dB (λtC=>J (an tC))):=eJ Tryz.func93
theorem vG (t0 t3 t4):fI (S.step T) t0 t3 t4=(dT T 33 t4).bind λd53=>(eY T t0).bind λd58=>brk (I (d58.1=48)) ((dD T d58.2.1).bind λd63=>(dD T d63.2.1).bind λd65=>(dy T d65.2.1 (d53.1.1,d53.1.2.1,d53.1.2.2.1,d53.1.2.2.2.1,d53.1.2.2.2.2.1,d53.1.2.2.2.2.2.1,d65.1.2.2.2.2.2.1,d53.1.2.2.2.2.2.2.2.1,([t3]:LI),())).bind λd110=>fI T d110.2.1 d110.1 t4) (brk (I (d58.1=44)) ((dD T d58.2.1).bind λd72=>(fF T d72.2.1 0).bind λd74=>(dD T d74.2.1).bind λd76=>brk (fits (([t3]:LI).length+([d74.1]:LI).length)) ((dy T d76.2.1 (32,d53.1.2.1,d53.1.2.2.1,d53.1.2.2.2.1,d53.1.2.2.2.2.1,d53.1.2.2.2.2.2.1,d53.1.2.2.2.2.2.2.1,d53.1.2.2.2.2.2.2.2.1,([t3]:LI)++([d74.1]:LI),())).bind λd110=>fI T d110.2.1 d110.1 t4) ay) (brk (I (d58.1=40)) ((dD T d58.2.1).bind λd87=>(eY T d87.2.1).bind λd90=>brk (!I (d90.1=41)) ((iw T d90.2.1).bind λd93=>(kW T d93.2.1 t4 (34,d53.1.2.1,d53.1.2.2.1,d53.1.2.2.2.1,d53.1.2.2.2.2.1,d53.1.2.2.2.2.2.1,d53.1.2.2.2.2.2.2.1,d53.1.2.2.2.2.2.2.2.1,([t3]:LI),()) d93.1 (d93.1.length:Int) 0).bind (dB (λaG9=>(dD T aG9.1).bind λd107=>(dy T d107.2.1 aG9.2.2.1).bind λd110=>fI T d110.2.1 d110.1 aG9.2.1))) ((dD T d90.2.1).bind λd107=>(dy T d107.2.1 (34,d53.1.2.1,d53.1.2.2.1,d53.1.2.2.2.1,d53.1.2.2.2.2.1,d53.1.2.2.2.2.2.1,d53.1.2.2.2.2.2.2.1,d53.1.2.2.2.2.2.2.2.1,([t3]:LI),())).bind λd110=>fI T d110.2.1 d110.1 t4)) (J (an (d58.2.1,t3,()))))):=eL Tryz.func93
theorem px (t0 t4 t8 t93 t94 t95):kW (S.step T) t0 t4 t8 t93 t94 t95=brk (I (t95<t94)) (brk (I (0<=t95)&&I (t95<(t93.length:Int))) (brk (fits (t8.2.2.2.2.2.2.2.2.1.length+([t93.getD t95.toNat 0]:LI).length)) (kW T t0 t4 (t8.1,t8.2.1,t8.2.2.1,t8.2.2.2.1,t8.2.2.2.2.1,t8.2.2.2.2.2.1,t8.2.2.2.2.2.2.1,t8.2.2.2.2.2.2.2.1,t8.2.2.2.2.2.2.2.2.1++([t93.getD t95.toNat 0]:LI),()) t93 t94 (aq.wrap (t95+1))) ay) ay) (J (an (t0,t4,t8,()))):=eL Tryz.func93
theorem Bh (t0):pK (S.step T) t0=brk (I (0<=t0.2.1)&&I (t0.2.1<(t0.1.length:Int))) ((dT T 5 (at_ (τ:=cZ) t0.1 t0.2.1)).bind λd17=>(hZ T t0).bind λd19=>brk (I (0<=d19.2.1.2.1)&&I (d19.2.1.2.1<(d19.2.1.1.length:Int))) (brk (!I ((at_ (τ:=cZ) d19.2.1.1 d19.2.1.2.1).1=46)) (brk (I (0<=d19.2.1.2.1)&&I (d19.2.1.2.1<(d19.2.1.1.length:Int))) (brk (!I ((at_ (τ:=cZ) d19.2.1.1 d19.2.1.2.1).1=47)) ((dy T d19.2.1 (6,d17.1.2.1,d17.1.2.2.1,d17.1.2.2.2.1,d17.1.2.2.2.2.1,d17.1.2.2.2.2.2.1,d17.1.2.2.2.2.2.2.1,d17.1.2.2.2.2.2.2.2.1,([d19.1]:LI),())).bind λd52=>J (d52.1,d52.2.1,())) ((jB T d19.2.1 (d17.1.1,d17.1.2.1,d17.1.2.2.1,d17.1.2.2.2.1,d17.1.2.2.2.2.1,1,d17.1.2.2.2.2.2.2.1,d17.1.2.2.2.2.2.2.2.1,([d19.1]:LI),())).bind (dB (λy9=>(dD T y9.1).bind λd72=>(iw T d72.2.1).bind λd74=>(jn T d74.2.1 y9.2.1 d74.1 (d74.1.length:Int) 0).bind (dB (λDu=>(dy T Du.1 Du.2.1).bind λd89=>J (d89.1,d89.2.1,()))))))) ay) ((jB T d19.2.1 (d17.1.1,d17.1.2.1,d17.1.2.2.1,d17.1.2.2.2.1,d17.1.2.2.2.2.1,1,d17.1.2.2.2.2.2.2.1,d17.1.2.2.2.2.2.2.2.1,([d19.1]:LI),())).bind (dB (λy9=>(dD T y9.1).bind λd72=>(iw T d72.2.1).bind λd74=>(jn T d74.2.1 y9.2.1 d74.1 (d74.1.length:Int) 0).bind (dB (λDu=>(dy T Du.1 Du.2.1).bind λd89=>J (d89.1,d89.2.1,()))))))) ay) none:=eF Tryz.func83
theorem qL (t0 t3):jB (S.step T) t0 t3=(iT T t0 46).bind λd58=>brk (d58.1) ((hZ T d58.2.1).bind λd60=>brk (fits (t3.2.2.2.2.2.2.2.2.1.length+([d60.1]:LI).length)) (jB T d60.2.1 (t3.1,t3.2.1,t3.2.2.1,t3.2.2.2.1,t3.2.2.2.2.1,aq.wrap (t3.2.2.2.2.2.1+1),t3.2.2.2.2.2.2.1,t3.2.2.2.2.2.2.2.1,t3.2.2.2.2.2.2.2.2.1++([d60.1]:LI),())) ay) (J (an (d58.2.1,t3,()))):=eL Tryz.func83
theorem qg (t0 t3 t74 t75 t76):jn (S.step T) t0 t3 t74 t75 t76=brk (I (t76<t75)) (brk (I (0<=t76)&&I (t76<(t74.length:Int))) (brk (fits (t3.2.2.2.2.2.2.2.2.1.length+([t74.getD t76.toNat 0]:LI).length)) (jn T t0 (t3.1,t3.2.1,t3.2.2.1,t3.2.2.2.1,t3.2.2.2.2.1,t3.2.2.2.2.2.1,t3.2.2.2.2.2.2.1,t3.2.2.2.2.2.2.2.1,t3.2.2.2.2.2.2.2.2.1++([t74.getD t76.toNat 0]:LI),()) t74 t75 (aq.wrap (t76+1))) ay) ay) (J (an (t0,t3,()))):=eL Tryz.func83
theorem Cm (t0):mG (S.step T) t0=(dD T t0).bind λd6=>(nQ T d6.2.1 d6.1 ([d6.1.2.2.2.2.2.1]:List LI)).bind (dB (λy3=>J (y3.2.1,y3.1,()))):=eF Tryz.func86
theorem rR (t0 t3 t4):nQ (S.step T) t0 t3 t4=(iT T t0 46).bind λd11=>brk (d11.1) ((dD T d11.2.1).bind λd13=>brk (fits (t4.length+([d13.1.2.2.2.2.2.1]:List LI).length)) (nQ T d13.2.1 d13.1 (t4++([d13.1.2.2.2.2.2.1]:List LI))) ay) (J (an (d11.2.1,t4,()))):=eL Tryz.func86
theorem Bl (t0 t1):pI (S.step T) t0 t1=(dT T 7 t1).bind λd11=>(fF T t0 0).bind λd13=>(gi T d13.2.1).bind λd15=>(eY T d15.2.1).bind λd21=>brk (I (d21.1=15)) ((dD T d21.2.1).bind λd25=>(pI T d25.2.1 d25.1).bind λd26=>brk (fits (([d13.1,d15.1]:LI).length+([d26.1]:LI).length)) ((dy T d26.2.1 (d11.1.1,d11.1.2.1,d11.1.2.2.1,d11.1.2.2.2.1,d11.1.2.2.2.2.1,d11.1.2.2.2.2.2.1,d11.1.2.2.2.2.2.2.1,d11.1.2.2.2.2.2.2.2.1,([d13.1,d15.1]:LI)++([d26.1]:LI),())).bind λd45=>J (d45.1,d45.2.1,((),(),(),(),(),(),()),())) ay) ((iT T d21.2.1 16).bind λd34=>brk (d34.1) ((gi T d34.2.1).bind λd36=>brk (fits (([d13.1,d15.1]:LI).length+([d36.1]:LI).length)) ((dy T d36.2.1 (d11.1.1,d11.1.2.1,d11.1.2.2.1,d11.1.2.2.2.1,d11.1.2.2.2.2.1,d11.1.2.2.2.2.2.1,d11.1.2.2.2.2.2.2.1,d11.1.2.2.2.2.2.2.2.1,([d13.1,d15.1]:LI)++([d36.1]:LI),())).bind λd45=>J (d45.1,d45.2.1,((),(),(),(),(),(),()),())) ay) ((dy T d34.2.1 (d11.1.1,d11.1.2.1,d11.1.2.2.1,d11.1.2.2.2.1,d11.1.2.2.2.2.1,d11.1.2.2.2.2.2.1,d11.1.2.2.2.2.2.2.1,d11.1.2.2.2.2.2.2.2.1,([d13.1,d15.1]:LI),())).bind λd45=>J (d45.1,d45.2.1,((),(),(),(),(),(),()),()))):=eF Tryz.func91
theorem DV (t0 t1):vP (S.step T) t0 t1=(mG T t0).bind λd10=>(dT T 10 t1).bind λd12=>(dD T d10.2.1).bind λd16=>brk (I (d16.1.1=47)) ((iw T d16.2.1).bind λd21=>(gi T d21.2.1).bind λd29=>brk (fits (d21.1.length+([d29.1]:LI).length)) ((dy T d29.2.1 (9,d12.1.2.1,d12.1.2.2.1,d12.1.2.2.2.1,d12.1.2.2.2.2.1,d12.1.2.2.2.2.2.1,d12.1.2.2.2.2.2.2.1,d10.1,d21.1++([d29.1]:LI),())).bind λd38=>J (d38.1,d38.2.1,((),(),(),(),(),(),()),())) ay) ((fF T d16.2.1 0).bind λd24=>(gi T d24.2.1).bind λd29=>brk (fits (([d24.1]:LI).length+([d29.1]:LI).length)) ((dy T d29.2.1 (d12.1.1,d12.1.2.1,d12.1.2.2.1,d12.1.2.2.2.1,d12.1.2.2.2.2.1,d12.1.2.2.2.2.2.1,d12.1.2.2.2.2.2.2.1,d10.1,([d24.1]:LI)++([d29.1]:LI),())).bind λd38=>J (d38.1,d38.2.1,((),(),(),(),(),(),()),())) ay):=eF Tryz.func92
theorem Dw (t0):vM (S.step T) t0=(eY T t0).bind λd21=>brk (I (d21.1=42)) ((gi T d21.2.1).bind λd24=>J d24) ((eY T d21.2.1).bind λd26=>brk (I (d26.1=1)) ((pK T d26.2.1).bind λd34=>J d34) ((eY T d26.2.1).bind λd30=>brk (I (d30.1=40)) ((pK T d30.2.1).bind λd34=>J d34) ((dD T d30.2.1).bind λd36=>brk (I (d36.1.1=22)) ((dT T 2 d36.1).bind λd42=>(mG T d36.2.1).bind λd44=>(iT T d44.2.1 47).bind λd47=>brk (d47.1) ((iw T d47.2.1).bind λd49=>(dy T d49.2.1 (d42.1.1,d42.1.2.1,d42.1.2.2.1,d42.1.2.2.2.1,d42.1.2.2.2.2.1,d42.1.2.2.2.2.2.1,d42.1.2.2.2.2.2.2.1,d44.1,d49.1,())).bind λd53=>J (d53.1,d53.2.1,())) ((dy T d47.2.1 (d42.1.1,d42.1.2.1,d42.1.2.2.1,d42.1.2.2.2.1,d42.1.2.2.2.2.1,d42.1.2.2.2.2.2.1,d42.1.2.2.2.2.2.2.1,d44.1,d42.1.2.2.2.2.2.2.2.2)).bind λd53=>J (d53.1,d53.2.1,()))) (brk (I (d36.1.1=13)) ((dT T 3 d36.1).bind λd57=>(mG T d36.2.1).bind λd59=>(dD T d59.2.1).bind λd62=>(fF T d62.2.1 0).bind λd64=>(dy T d64.2.1 (d57.1.1,d57.1.2.1,d57.1.2.2.1,d57.1.2.2.2.1,d57.1.2.2.2.2.1,d57.1.2.2.2.2.2.1,d57.1.2.2.2.2.2.2.1,d59.1,([d64.1]:LI),())).bind λd70=>J (d70.1,d70.2.1,())) (brk (I (d36.1.1=18)) ((dT T 4 d36.1).bind λd74=>(dD T d36.2.1).bind λd76=>brk (I (0<=d76.2.1.2.1)&&I (d76.2.1.2.1<(d76.2.1.1.length:Int))) ((dT T 36 (at_ (τ:=cZ) d76.2.1.1 d76.2.1.2.1)).bind λd92=>(rz T d76.2.1 d92.1).bind λd93=>(dy T d93.2.1 (d74.1.1,d74.1.2.1,d74.1.2.2.1,d74.1.2.2.2.1,d74.1.2.2.2.2.1,d74.1.2.2.2.2.2.1,d74.1.2.2.2.2.2.2.1,([d76.1.2.2.2.2.2.1]:List LI),([d93.1]:LI),())).bind λd99=>J (d99.1,d99.2.1,())) ay) (brk (I (d36.1.1=20)) ((pI T d36.2.1 d36.1).bind λd104=>J (d104.1,d104.2.1,())) (brk (I (d36.1.1=31)) ((fF T d36.2.1 0).bind λd108=>(gi T d108.2.1).bind λd110=>(dT T 8 d36.1).bind λd112=>(dy T d110.2.1 (d112.1.1,d112.1.2.1,d112.1.2.2.1,d112.1.2.2.2.1,d112.1.2.2.2.2.1,d112.1.2.2.2.2.2.1,d112.1.2.2.2.2.2.2.1,d112.1.2.2.2.2.2.2.2.1,([d108.1,d110.1]:LI),())).bind λd119=>J (d119.1,d119.2.1,())) (brk (I (d36.1.1=19)) ((vP T d36.2.1 d36.1).bind λd124=>J (d124.1,d124.2.1,())) (brk (I (d36.1.1=11)) ((dT T 11 d36.1).bind λd129=>(dy T d36.2.1 d129.1).bind λd130=>J (d130.1,d130.2.1,())) (brk (I (d36.1.1=23)) ((dT T 12 d36.1).bind λd135=>(dy T d36.2.1 d135.1).bind λd136=>J (d136.1,d136.2.1,())) (brk (I (d36.1.1=27)) ((dT T 13 d36.1).bind λd140=>(eY T d36.2.1).bind λd142=>(fv T d142.1).bind λd143=>brk (d143.1) ((iw T d142.2.1).bind λd145=>(dy T d145.2.1 (d140.1.1,d140.1.2.1,d140.1.2.2.1,d140.1.2.2.2.1,d140.1.2.2.2.2.1,d140.1.2.2.2.2.2.1,d140.1.2.2.2.2.2.2.1,d140.1.2.2.2.2.2.2.2.1,d145.1,())).bind λd149=>J (d149.1,d149.2.1,())) ((dy T d142.2.1 d140.1).bind λd149=>J (d149.1,d149.2.1,()))) (brk (I (d36.1.1=30)) ((gi T d36.2.1).bind λd153=>(dD T d153.2.1).bind λd155=>(dT T 14 d36.1).bind λd157=>(mG T d155.2.1).bind λd159=>(gi T d159.2.1).bind λd162=>(dy T d162.2.1 (d157.1.1,d157.1.2.1,d157.1.2.2.1,d157.1.2.2.2.1,d157.1.2.2.2.2.1,d157.1.2.2.2.2.2.1,d157.1.2.2.2.2.2.2.1,d159.1,([d153.1,d162.1]:LI),())).bind λd169=>J (d169.1,d169.2.1,())) (brk (I (d36.1.1=14)) ((lR T d36.2.1 d36.1 16).bind (dB (λam4=>J (am4.2.1,am4.1,())))) ((lR T d36.2.1 d36.1 15).bind (dB (λam4=>J (am4.2.1,am4.1,()))))))))))))))))):=eF Tryz.func50
theorem rU (t0 t3 t17):lR (S.step T) t0 t3 t17=(dT T t17 t3).bind λd175=>brk (I (t3.1=14)) ((hZ T t0).bind λd180=>(dy T d180.2.1 (d175.1.1,d175.1.2.1,d175.1.2.2.1,d175.1.2.2.2.1,d175.1.2.2.2.2.1,d175.1.2.2.2.2.2.1,d175.1.2.2.2.2.2.2.1,d175.1.2.2.2.2.2.2.2.1,([d180.1]:LI),())).bind λd188=>J (an (d188.2.1,d188.1,()))) ((fF T t0 0).bind λd182=>(dy T d182.2.1 (d175.1.1,d175.1.2.1,d175.1.2.2.1,d175.1.2.2.2.1,d175.1.2.2.2.2.1,d175.1.2.2.2.2.2.1,d175.1.2.2.2.2.2.2.1,d175.1.2.2.2.2.2.2.2.1,([d182.1]:LI),())).bind λd188=>J (an (d188.2.1,d188.1,()))):=eJ Tryz.func50
theorem Co (t0 t1):qu (S.step T) t0 t1=(lI T t0 t1 []).bind (dB (λy2=>J (y2.2.1,y2.1,(),()))):=eF Tryz.func26
theorem yL (t0 t1 t5):lI (S.step T) t0 t1 t5=(eY T t0).bind λd8=>brk (!I (d8.1=t1)) ((iT T d8.2.1 5).bind λd12=>brk (d12.1) (lI T d12.2.1 t1 t5) ((vM T d12.2.1).bind λd14=>brk (fits (t5.length+([d14.1]:LI).length)) (lI T d14.2.1 t1 (t5++([d14.1]:LI))) ay)) (J (an (d8.2.1,t5,()))):=eL Tryz.func26
theorem Fm (t0 t1):xi (S.step T) t0 t1=(qu T (t1,0,[],()) 6).bind λd14=>brk (fits (d14.2.1.2.2.1.length+([(1,0,(t0.length:Int),1,0,0,([]:LI),[],d14.1,())]:List cR.den).length)) (J ((d14.2.1.2.2.1++([(1,0,(t0.length:Int),1,0,0,([]:LI),[],d14.1,())]:List cR.den),()),cQ)) none:=eF Tryz.func11
theorem IY (t0):BM (S.step T) t0=brk (I (65536<(t0.length:Int))) (J ((2,0,([],()),()),cO)) ((mi T t0).bind λd13=>brk (I (0<=d13.1.2.1)) (J ((1,d13.1.2.1,([],()),()),cO)) ((xi T t0 d13.1.1).bind λd22=>((jZ T d22.1).map λy=>(y.1,(d22.1,()))).bind λd24=>brk (!I (d24.1.1=0)) (J ((2,0,([],()),()),cO)) (J ((0,0,d24.2),cO)))):=eF Tryz.func4
theorem Pd (t0 t1 t2):nX (S.step T) t0 t1 t2=brk (I (t1<=t0)) (J (I (t0<=t2),dU)) (J (ar,dU)):=eF Tryz.func118
theorem Ge (t0):pW (S.step T) t0=brk (I (97<=t0)) (brk (I (t0<=122)) (J (av,cO)) (brk (I (65<=t0)) (brk (I (t0<=90)) (J (av,cO)) (J (I (t0=95),cO))) (J (I (t0=95),cO)))) (brk (I (65<=t0)) (brk (I (t0<=90)) (J (av,cO)) (J (I (t0=95),cO))) (J (I (t0=95),cO))):=eF Tryz.func165
theorem I5 (t0):kT (S.step T) t0=brk (I (48<=t0)) (J (I (t0<=57),cO)) (J (ar,cO)):=eF Tryz.func166
theorem J8 (t0):zW (S.step T) t0=(kD T t0 Lx.words (Lx.words.length:Int) 0).bind (dM (λy2=>J (y2.1,cO)) (λy2=>J (1,cO))):=eF Tryz.func169
theorem xT (t0 t5 t6 t7):kD (S.step T) t0 t5 t6 t7=brk (I (t7<t6)) (brk (I (0<=t7)&&I (t7<(t5.length:Int))) (brk (I ((t5.getD t7.toNat [])=t0)) (J (an (aq.wrap (10+t7),()))) (kD T t0 t5 t6 (aq.wrap (t7+1)))) ay) (J (aE (an ()))):=eL Tryz.func169
theorem Kc (t0):wO (S.step T) t0=(kT T t0).bind λd4=>brk (d4.1) (J (av,cO)) (brk (I (97<=t0)) (J (I (t0<=102),cO)) (J (ar,cO))):=eF Tryz.func171
theorem Br (t0):e9 (S.step T) t0=J (intBits .or .u8 t0 32,cO):=eF Tryz.func180
theorem xe (t0:LI)(t2:Int):pe (S.step T) t0 16 t2=brk (I (t0=([]:LI))) (J ((0,ar,()),dU)) (brk (I ((2:Int)<=16)) (brk (I ((16:Int)<=36)) ((j3 T t0 16 t2 (I ((16:Int)=0)) t0).bind (dB (λzL=>J (zL,dU)))) ay) ay):=eF a52
theorem tD (t0 t1 t2 t8 t9):j3 (S.step T) t0 t1 t2 t8 t9=brk (I (t2=0)) ((j2 T t0 t1 64 t8 t9).bind (dB (λaG0=>J (an aG0)))) (brk (I (t2<0)) (J (an (0,ar,()))) (brk (I (64<t2)) (J (an (0,ar,()))) ((j2 T t0 t1 t2 t8 t9).bind (dB (λaG0=>J (an aG0)))))):=eJ a52
theorem tG (t0 t1 t2 t8 t9):j2 (S.step T) t0 t1 t2 t8 t9=brk (I (t1=10)) ((iN T t0 t1 t2 t8 t9 1844674407370955162).bind (dB (λak7=>J (an ak7)))) (brk (I (t1=16)) ((iN T t0 t1 t2 t8 t9 1152921504606846976).bind (dB (λak7=>J (an ak7)))) (brk (I ((aH.wrap t1)≠0)) ((iN T t0 t1 t2 t8 t9 (aH.wrap ((aH.wrap ((18446744073709551615:Int).tdiv (aH.wrap t1)))+1))).bind (dB (λak7=>J (an ak7)))) ay)):=eJ a52
theorem tE (t0 t1 t2 t8 t9 t10):iN (S.step T) t0 t1 t2 t8 t9 t10=brk (I (0<=aH.wrap t2)) ((dP T t1 t8 t9 t10 (aH.wrap ((aH.wrap (1*2^min ((aH.wrap t2).toNat) aH.bits)) - 1)) ar 0 t0 (t0.length:Int) 0).bind (dM (λab9=>J (an ab9)) (λab9=>brk (ab9.2.1) ((xd T ab9.1).bind λd167=>brk (!d167.1) (J (an (0,ar,()))) (J (an (ab9.2.2.1,av,())))) (J (an (ab9.2.2.1,av,())))))) none:=eJ a52
theorem tF (t1 t8 t9 t10 t11 t12 t13 t16 t99 t100 t101):fk (S.step T) t1 t8 t9 t10 t11 t12 t13 t16 t99 t100 t101=brk (I (aN.wrap t1<=t16)) (J (an (0,ar,()))) (brk (I (t10<=t13)) (J (an (t11,ar,()))) (brk (I (aH.wrap ((aH.wrap (t13*(aH.wrap t1)))+(aH.wrap t16))<aH.wrap (t13*(aH.wrap t1)))) (J (an (t11,ar,()))) (brk (I (t11<aH.wrap ((aH.wrap (t13*(aH.wrap t1)))+(aH.wrap t16)))) (J (an (t11,ar,()))) (J (aE (an (t1,t8,t9,t10,t11,t12,aH.wrap ((aH.wrap (t13*(aH.wrap t1)))+(aH.wrap t16)),t99,t100,t101,()))))))):=eJ a52
theorem og (t1 t8 t9 t10 t11 t12 t13 t99 t100 t101):dP (S.step T) t1 t8 t9 t10 t11 t12 t13 t99 t100 t101=brk (I (t101<t100)) (brk (I (0<=t101)&&I (t101<(t99.length:Int))) (brk (I (t99.getD t101.toNat 0=95)) (brk (t8) (dP T t1 t8 t9 t10 t11 av t13 t99 t100 (aq.wrap (t101+1))) (brk (I (48<=t99.getD t101.toNat 0)) (brk (I (t99.getD t101.toNat 0<=57)) ((fk T t1 t8 t9 t10 t11 t12 t13 (aN.wrap ((t99.getD t101.toNat 0) - 48)) t99 t100 t101).bind (dM (λkZ=>J (an kZ)) (λkZ=>dP T kZ.1 kZ.2.1 kZ.2.2.1 kZ.2.2.2.1 kZ.2.2.2.2.1 kZ.2.2.2.2.2.1 kZ.2.2.2.2.2.2.1 kZ.2.2.2.2.2.2.2.1 kZ.2.2.2.2.2.2.2.2.1 (aq.wrap (kZ.2.2.2.2.2.2.2.2.2.1+1))))) ((e9 T (t99.getD t101.toNat 0)).bind λd123=>brk (I (97<=d123.1)) ((e9 T (t99.getD t101.toNat 0)).bind λd127=>brk (I (d127.1<=122)) ((e9 T (t99.getD t101.toNat 0)).bind λd131=>(fk T t1 t8 t9 t10 t11 t12 t13 (aN.wrap ((aN.wrap (d131.1 - 97))+10)) t99 t100 t101).bind (dM (λkZ=>J (an kZ)) (λkZ=>dP T kZ.1 kZ.2.1 kZ.2.2.1 kZ.2.2.2.1 kZ.2.2.2.2.1 kZ.2.2.2.2.2.1 kZ.2.2.2.2.2.2.1 kZ.2.2.2.2.2.2.2.1 kZ.2.2.2.2.2.2.2.2.1 (aq.wrap (kZ.2.2.2.2.2.2.2.2.2.1+1))))) (J (an (0,ar,())))) (J (an (0,ar,()))))) ((e9 T (t99.getD t101.toNat 0)).bind λd123=>brk (I (97<=d123.1)) ((e9 T (t99.getD t101.toNat 0)).bind λd127=>brk (I (d127.1<=122)) ((e9 T (t99.getD t101.toNat 0)).bind λd131=>(fk T t1 t8 t9 t10 t11 t12 t13 (aN.wrap ((aN.wrap (d131.1 - 97))+10)) t99 t100 t101).bind (dM (λkZ=>J (an kZ)) (λkZ=>dP T kZ.1 kZ.2.1 kZ.2.2.1 kZ.2.2.2.1 kZ.2.2.2.2.1 kZ.2.2.2.2.2.1 kZ.2.2.2.2.2.2.1 kZ.2.2.2.2.2.2.2.1 kZ.2.2.2.2.2.2.2.2.1 (aq.wrap (kZ.2.2.2.2.2.2.2.2.2.1+1))))) (J (an (0,ar,())))) (J (an (0,ar,())))))) (brk (I (48<=t99.getD t101.toNat 0)) (brk (I (t99.getD t101.toNat 0<=57)) ((fk T t1 t8 t9 t10 t11 t12 t13 (aN.wrap ((t99.getD t101.toNat 0) - 48)) t99 t100 t101).bind (dM (λkZ=>J (an kZ)) (λkZ=>dP T kZ.1 kZ.2.1 kZ.2.2.1 kZ.2.2.2.1 kZ.2.2.2.2.1 kZ.2.2.2.2.2.1 kZ.2.2.2.2.2.2.1 kZ.2.2.2.2.2.2.2.1 kZ.2.2.2.2.2.2.2.2.1 (aq.wrap (kZ.2.2.2.2.2.2.2.2.2.1+1))))) ((e9 T (t99.getD t101.toNat 0)).bind λd123=>brk (I (97<=d123.1)) ((e9 T (t99.getD t101.toNat 0)).bind λd127=>brk (I (d127.1<=122)) ((e9 T (t99.getD t101.toNat 0)).bind λd131=>(fk T t1 t8 t9 t10 t11 t12 t13 (aN.wrap ((aN.wrap (d131.1 - 97))+10)) t99 t100 t101).bind (dM (λkZ=>J (an kZ)) (λkZ=>dP T kZ.1 kZ.2.1 kZ.2.2.1 kZ.2.2.2.1 kZ.2.2.2.2.1 kZ.2.2.2.2.2.1 kZ.2.2.2.2.2.2.1 kZ.2.2.2.2.2.2.2.1 kZ.2.2.2.2.2.2.2.2.1 (aq.wrap (kZ.2.2.2.2.2.2.2.2.2.1+1))))) (J (an (0,ar,())))) (J (an (0,ar,()))))) ((e9 T (t99.getD t101.toNat 0)).bind λd123=>brk (I (97<=d123.1)) ((e9 T (t99.getD t101.toNat 0)).bind λd127=>brk (I (d127.1<=122)) ((e9 T (t99.getD t101.toNat 0)).bind λd131=>(fk T t1 t8 t9 t10 t11 t12 t13 (aN.wrap ((aN.wrap (d131.1 - 97))+10)) t99 t100 t101).bind (dM (λkZ=>J (an kZ)) (λkZ=>dP T kZ.1 kZ.2.1 kZ.2.2.1 kZ.2.2.2.1 kZ.2.2.2.2.1 kZ.2.2.2.2.2.1 kZ.2.2.2.2.2.2.1 kZ.2.2.2.2.2.2.2.1 kZ.2.2.2.2.2.2.2.2.1 (aq.wrap (kZ.2.2.2.2.2.2.2.2.2.1+1))))) (J (an (0,ar,())))) (J (an (0,ar,())))))) ay) (J (aE (an (t9,t12,t13,())))):=eL a52
theorem yC (t0:LI)(t1:Int)(t2:Int):j8 (S.step T) t0 t1 t2=(pe T t0 t1 t2).bind λd14=>brk (!d14.1.2.1) (ay) (J ((d14.1.1,av,()),dU)):=eF Tryz.func172
theorem qt (t0 t1):p8 (S.step T) t0 t1=brk (I (0<=t1)&&I (t1<(t0.length:Int))) (brk (I (t0.getD t1.toNat 0=48)) (brk (I (aq.wrap (t1+1)<(t0.length:Int))) (brk (I (0<=aq.wrap (t1+1))&&I (aq.wrap (t1+1)<(t0.length:Int))) (brk (I (t0.getD ((aq.wrap (t1+1)).toNat) 0=120)) ((jY T t0 t1 (2,t1,0,0,0,([]:LI),()) (aq.wrap (t1+2))).bind (dB (λy5=>brk (I (y5.2.2.2.1=aq.wrap (y5.2.1+2))) (J (((y5.2.2.1.1,y5.2.2.1.2.1,y5.2.2.2.1,y5.2.2.1.2.2.2),av,()),cQ)) (brk (I (y5.2.2.2.1=aq.wrap (y5.2.1+18))) (brk (I (y5.2.2.2.1<(y5.1.length:Int))) (brk (I (0<=y5.2.2.2.1)&&I (y5.2.2.2.1<(y5.1.length:Int))) ((wO T (y5.1.getD y5.2.2.2.1.toNat 0)).bind λd74=>brk (d74.1) (J (((y5.2.2.1.1,y5.2.2.1.2.1,y5.2.2.2.1,y5.2.2.1.2.2.2),av,()),cQ)) (brk (bounds y5.1.length (aq.wrap (y5.2.1+2)) y5.2.2.2.1) ((j8 T (sub y5.1 (aq.wrap (y5.2.1+2)) y5.2.2.2.1) 16 64).bind λd84=>J (((y5.2.2.1.1,y5.2.2.1.2.1,y5.2.2.2.1,y5.2.2.1.2.2.2.1,aq.wrap d84.1.1,y5.2.2.1.2.2.2.2.2),ar,()),cQ)) ay)) ay) (brk (bounds y5.1.length (aq.wrap (y5.2.1+2)) y5.2.2.2.1) ((j8 T (sub y5.1 (aq.wrap (y5.2.1+2)) y5.2.2.2.1) 16 64).bind λd84=>J (((y5.2.2.1.1,y5.2.2.1.2.1,y5.2.2.2.1,y5.2.2.1.2.2.2.1,aq.wrap d84.1.1,y5.2.2.1.2.2.2.2.2),ar,()),cQ)) ay)) (brk (bounds y5.1.length (aq.wrap (y5.2.1+2)) y5.2.2.2.1) ((j8 T (sub y5.1 (aq.wrap (y5.2.1+2)) y5.2.2.2.1) 16 64).bind λd84=>J (((y5.2.2.1.1,y5.2.2.1.2.1,y5.2.2.2.1,y5.2.2.1.2.2.2.1,aq.wrap d84.1.1,y5.2.2.1.2.2.2.2.2),ar,()),cQ)) ay))))) (brk (I (0<=t1)&&I (t1<(t0.length:Int))) (brk (!I (t0.getD t1.toNat 0=48)) ((gO T t0 t1 (2,t1,0,0,0,([]:LI),()) (aq.wrap (t1+1))).bind (dB (λDu=>(gP T Du.1 Du.2.1 Du.2.2.1 Du.2.2.2.1).bind (dB (λOC=>J (OC,cQ)))))) ((gP T t0 t1 (2,t1,0,0,0,([]:LI),()) (aq.wrap (t1+1))).bind (dB (λOC=>J (OC,cQ))))) ay)) ay) (brk (I (0<=t1)&&I (t1<(t0.length:Int))) (brk (!I (t0.getD t1.toNat 0=48)) ((gO T t0 t1 (2,t1,0,0,0,([]:LI),()) (aq.wrap (t1+1))).bind (dB (λDu=>(gP T Du.1 Du.2.1 Du.2.2.1 Du.2.2.2.1).bind (dB (λOC=>J (OC,cQ)))))) ((gP T t0 t1 (2,t1,0,0,0,([]:LI),()) (aq.wrap (t1+1))).bind (dB (λOC=>J (OC,cQ))))) ay)) (brk (I (0<=t1)&&I (t1<(t0.length:Int))) (brk (!I (t0.getD t1.toNat 0=48)) ((gO T t0 t1 (2,t1,0,0,0,([]:LI),()) (aq.wrap (t1+1))).bind (dB (λDu=>(gP T Du.1 Du.2.1 Du.2.2.1 Du.2.2.2.1).bind (dB (λOC=>J (OC,cQ)))))) ((gP T t0 t1 (2,t1,0,0,0,([]:LI),()) (aq.wrap (t1+1))).bind (dB (λOC=>J (OC,cQ))))) ay)) none:=eF a17
theorem uf (t0 t1 t4 t6):gP (S.step T) t0 t1 t4 t6=brk (I (aq.wrap (t6+1)<(t0.length:Int))) (brk (I (0<=t6)&&I (t6<(t0.length:Int))) (brk (I (t0.getD t6.toNat 0=46)) (brk (I (0<=aq.wrap (t6+1))&&I (aq.wrap (t6+1)<(t0.length:Int))) ((kT T (t0.getD ((aq.wrap (t6+1)).toNat) 0)).bind λd126=>brk (d126.1) ((jq T t0 t1 t4 (aq.wrap (t6+1)) t6).bind (dB (λFK=>(iF T FK.1 FK.2.1 FK.2.2.1 FK.2.2.2.1 FK.2.2.2.2.1).bind (dB (λLU=>J (an LU)))))) ((iF T t0 t1 t4 t6 t6).bind (dB (λLU=>J (an LU))))) ay) ((iF T t0 t1 t4 t6 t6).bind (dB (λLU=>J (an LU))))) ay) ((iF T t0 t1 t4 t6 t6).bind (dB (λLU=>J (an LU)))):=eJ a17
theorem tK (t0 t1 t4 t6 t9):iF (S.step T) t0 t1 t4 t6 t9=brk (I (t6<(t0.length:Int))) (brk (I (0<=t6)&&I (t6<(t0.length:Int))) (brk (I (t0.getD t6.toNat 0=101)) (brk (I (aq.wrap (t6+1)<(t0.length:Int))) (brk (I (0<=aq.wrap (t6+1))&&I (aq.wrap (t6+1)<(t0.length:Int))) (brk (I (t0.getD ((aq.wrap (t6+1)).toNat) 0=43)) ((kh T t0 t1 t4 (aq.wrap ((aq.wrap (t6+1))+1)) t9).bind (dM (λpG=>J (an pG)) (λpG=>(iE T pG.1 pG.2.1 pG.2.2.1 pG.2.2.2.1 pG.2.2.2.2.1).bind (dB (λJi=>J (an Ji)))))) (brk (I (0<=aq.wrap (t6+1))&&I (aq.wrap (t6+1)<(t0.length:Int))) (brk (I (t0.getD ((aq.wrap (t6+1)).toNat) 0=45)) ((kh T t0 t1 t4 (aq.wrap ((aq.wrap (t6+1))+1)) t9).bind (dM (λpG=>J (an pG)) (λpG=>(iE T pG.1 pG.2.1 pG.2.2.1 pG.2.2.2.1 pG.2.2.2.2.1).bind (dB (λJi=>J (an Ji)))))) ((kh T t0 t1 t4 (aq.wrap (t6+1)) t9).bind (dM (λpG=>J (an pG)) (λpG=>(iE T pG.1 pG.2.1 pG.2.2.1 pG.2.2.2.1 pG.2.2.2.2.1).bind (dB (λJi=>J (an Ji))))))) ay)) ay) ((kh T t0 t1 t4 (aq.wrap (t6+1)) t9).bind (dM (λpG=>J (an pG)) (λpG=>(iE T pG.1 pG.2.1 pG.2.2.1 pG.2.2.2.1 pG.2.2.2.2.1).bind (dB (λJi=>J (an Ji))))))) ((iE T t0 t1 t4 t6 t9).bind (dB (λJi=>J (an Ji))))) ay) ((iE T t0 t1 t4 t6 t9).bind (dB (λJi=>J (an Ji)))):=eJ a17
theorem Bp (t0 t1 t4 t6 t9):kh (S.step T) t0 t1 t4 t6 t9=brk (I ((t0.length:Int)<=t6)) (J (an ((t4.1,t4.2.1,t6,t4.2.2.2),av,()))) (brk (I (0<=t6)&&I (t6<(t0.length:Int))) ((kT T (t0.getD t6.toNat 0)).bind λd180=>brk (!d180.1) (J (an ((t4.1,t4.2.1,t6,t4.2.2.2),av,()))) ((jr T t0 t1 t4 t6 t9).bind (dB (λaT3=>J (aE (an aT3)))))) ay):=eJ a17
theorem Bs (t0 t1 t4 t6 t9):iE (S.step T) t0 t1 t4 t6 t9=brk (I (t6=t9)) (brk (bounds t0.length t1 t6) ((Lx.rh (sub t0 t1 t6,10,64,())).bind λd208=>brk (d208.1.2.1) (J (an ((t4.1,t4.2.1,t6,t4.2.2.2.1,d208.1.1,t4.2.2.2.2.2),ar,()))) (brk (bounds t0.length t1 t6) (J (an ((3,t4.2.1,t6,t4.2.2.2.1,t4.2.2.2.2.1,sub t0 t1 t6,()),ar,()))) ay)) ay) (brk (bounds t0.length t1 t6) (J (an ((3,t4.2.1,t6,t4.2.2.2.1,t4.2.2.2.2.1,sub t0 t1 t6,()),ar,()))) ay):=eJ a17
theorem vd (t0 t1 t4 t6):jY (S.step T) t0 t1 t4 t6=brk (I (t6<(t0.length:Int))) (brk (I (t6<aq.wrap (t1+18))) (brk (I (0<=t6)&&I (t6<(t0.length:Int))) ((wO T (t0.getD t6.toNat 0)).bind λd49=>brk (d49.1) (jY T t0 t1 t4 (aq.wrap (t6+1))) (J (an (t0,t1,t4,t6,())))) ay) (J (an (t0,t1,t4,t6,())))) (J (an (t0,t1,t4,t6,()))):=eL a17
theorem tT (t0 t1 t4 t6):gO (S.step T) t0 t1 t4 t6=brk (I (t6<(t0.length:Int))) (brk (I (0<=t6)&&I (t6<(t0.length:Int))) ((kT T (t0.getD t6.toNat 0)).bind λd105=>brk (d105.1) (gO T t0 t1 t4 (aq.wrap (t6+1))) (J (an (t0,t1,t4,t6,())))) ay) (J (an (t0,t1,t4,t6,()))):=eL a17
theorem tQ (t0 t1 t4 t6 t9):jq (S.step T) t0 t1 t4 t6 t9=brk (I (t6<(t0.length:Int))) (brk (I (0<=t6)&&I (t6<(t0.length:Int))) ((kT T (t0.getD t6.toNat 0)).bind λd138=>brk (d138.1) (jq T t0 t1 t4 (aq.wrap (t6+1)) t9) (J (an (t0,t1,t4,t6,t9,())))) ay) (J (an (t0,t1,t4,t6,t9,()))):=eL a17
theorem uh (t0 t1 t4 t6 t9):jr (S.step T) t0 t1 t4 t6 t9=brk (I (t6<(t0.length:Int))) (brk (I (0<=t6)&&I (t6<(t0.length:Int))) ((kT T (t0.getD t6.toNat 0)).bind λd194=>brk (d194.1) (jr T t0 t1 t4 (aq.wrap (t6+1)) t9) (J (an (t0,t1,t4,t6,t9,())))) ay) (J (an (t0,t1,t4,t6,t9,()))):=eL a17
theorem oe (t0 t1):j4 (S.step T) t0 t1=(Bld.uH (t0,t1,())).bind λd7=>J (d7.1,cQ):=eF Tryz.func65
theorem rW (t0 t1):jb (S.step T) t0 t1=(j4 T t0 t1).bind λd7=>J (d7.1,cQ):=eF Tryz.func36
theorem IS (t0):BF (S.step T) t0=(nX T t0 10 31).bind λd5=>brk (d5.1) (brk (I (0<=aq.wrap (t0 - 10))&&I (aq.wrap (t0 - 10)<(Lx.words.length:Int))) (J (Lx.words.getD ((aq.wrap (t0 - 10)).toNat) [],cO)) ay) ((nX T t0 40 50).bind λd13=>brk (d13.1) (brk (I (0<=aq.wrap (t0 - 40))&&I (aq.wrap (t0 - 40)<(Lx.pC.length:Int))) (J (Lx.pC.getD ((aq.wrap (t0 - 40)).toNat) [],cO)) ay) ((nX T t0 61 78).bind λd21=>brk (d21.1) (brk (I (0<=aq.wrap ((aq.wrap (t0 - 60)) - 1))&&I (aq.wrap ((aq.wrap (t0 - 60)) - 1)<(Lx.xz.length:Int))) (J (Lx.xz.getD ((aq.wrap ((aq.wrap (t0 - 60)) - 1)).toNat) [],cO)) ay) (brk (I (t0=5)) (J (([59]:LI),cO)) (J (([]:LI),cO))))):=eF Tryz.func173
theorem tH (t0 t1):my (S.step T) t0 t1=brk (I ((t1.length:Int)<=(t0.length:Int))) (brk (bounds t0.length 0 (t1.length:Int)) (J (I ((sub t0 0 (t1.length:Int))=t1),cQ)) ay) (J (ar,cQ)):=eF Tryz.func178
theorem yv (t0 t1):qk (S.step T) t0 t1=(my T t0 t1).bind λd7=>J (d7.1,cQ):=eF Tryz.func174
theorem EY (t0 t1):nr (S.step T) t0 t1=brk (I (0<=t1)&&I (t1<(t0.length:Int))) ((pW T (t0.getD t1.toNat 0)).bind λd24=>brk (d24.1) ((lW T t0 t1 (0,t1,0,0,0,([]:LI),()) t1).bind (dB (λy5=>brk (bounds y5.1.length y5.2.1 y5.2.2.2.1) ((zW T (sub y5.1 y5.2.1 y5.2.2.2.1)).bind λd50=>brk (I (d50.1=1)) (brk (bounds y5.1.length y5.2.1 y5.2.2.2.1) (J (((d50.1,y5.2.2.1.2.1,y5.2.2.2.1,y5.2.2.1.2.2.2.1,y5.2.2.1.2.2.2.2.1,sub y5.1 y5.2.1 y5.2.2.2.1,()),ar,()),cQ)) ay) (J (((d50.1,y5.2.2.1.2.1,y5.2.2.2.1,y5.2.2.1.2.2.2),ar,()),cQ))) ay))) ((kT T (t0.getD t1.toNat 0)).bind λd63=>brk (d63.1) ((p8 T t0 t1).bind λd66=>J (d66.1,cQ)) (brk (I (t0.getD t1.toNat 0=34)) ((eN T t0 (4,t1,0,0,0,([]:LI),()) [] (aq.wrap (t1+1))).bind (dB (λJh=>J (Jh,cQ)))) ((kC T t0 t1 (0,t1,0,0,0,([]:LI),()) 0 78).bind (dB (λac4=>brk (I (ac4.2.1.1=0)) (J (((ac4.2.1.1,ac4.2.1.2.1,ac4.1,ac4.2.1.2.2.2),av,()),cQ)) (J ((ac4.2.1,ar,()),cQ)))))))) none:=eF Tryz.func167
theorem yQ (t0 t1 t4 t7):lW (S.step T) t0 t1 t4 t7=brk (I (t7<(t0.length:Int))) (brk (I (0<=t7)&&I (t7<(t0.length:Int))) ((pW T (t0.getD t7.toNat 0)).bind λd34=>brk (d34.1) (lW T t0 t1 t4 (aq.wrap (t7+1))) (brk (I (0<=t7)&&I (t7<(t0.length:Int))) ((kT T (t0.getD t7.toNat 0)).bind λd39=>brk (d39.1) (lW T t0 t1 t4 (aq.wrap (t7+1))) (J (an (t0,t1,t4,t7,())))) ay)) ay) (J (an (t0,t1,t4,t7,()))):=eL Tryz.func167
theorem lr (t0 t4 t8 t9):eN (S.step T) t0 t4 t8 t9=brk (I ((t0.length:Int)<=t9)) (J (an ((t4.1,t4.2.1,t9,t4.2.2.2),av,()))) (brk (I (0<=t9)&&I (t9<(t0.length:Int))) (brk (I (t0.getD t9.toNat 0=10)) (J (an ((t4.1,t4.2.1,t9,t4.2.2.2),av,()))) (brk (I (0<=t9)&&I (t9<(t0.length:Int))) (brk (I (t0.getD t9.toNat 0=34)) (J (an ((t4.1,t4.2.1,aq.wrap (t9+1),t4.2.2.2.1,t4.2.2.2.2.1,t8.map byte,()),ar,()))) (brk (I (0<=t9)&&I (t9<(t0.length:Int))) (brk (!I (t0.getD t9.toNat 0=92)) (brk (I (0<=t9)&&I (t9<(t0.length:Int))) (brk (fits (t8.length+([t0.getD t9.toNat 0]:LI).length)) (eN T t0 t4 (t8++([t0.getD t9.toNat 0]:LI)) (aq.wrap (t9+1))) ay) ay) (brk (I ((t0.length:Int)<=aq.wrap (t9+1))) (J (an ((t4.1,t4.2.1,aq.wrap (t9+1),t4.2.2.2),av,()))) (brk (I (0<=aq.wrap (t9+1))&&I (aq.wrap (t9+1)<(t0.length:Int))) ((jb T ([110,116,34,92]:LI) (t0.getD ((aq.wrap (t9+1)).toNat) 0)).bind λd124=>brk (I (0<=d124.1)) (brk (I (0<=d124.1)&&I (d124.1<4)) (brk (fits (t8.length+([([10,9,34,92]:LI).getD d124.1.toNat 0]:LI).length)) (eN T t0 t4 (t8++([([10,9,34,92]:LI).getD d124.1.toNat 0]:LI)) (aq.wrap (t9+2))) ay) ay) (brk (I (0<=aq.wrap (t9+1))&&I (aq.wrap (t9+1)<(t0.length:Int))) (brk (!I (t0.getD ((aq.wrap (t9+1)).toNat) 0=120)) (J (an ((t4.1,t4.2.1,aq.wrap (t9+1),t4.2.2.2),av,()))) ((oQ T t0 t4 t8 t9 2).bind (dM (λSS=>J (an SS)) (λSS=>brk (bounds SS.1.length (aq.wrap (SS.2.2.2.1+2)) (aq.wrap (SS.2.2.2.1+4))) ((j8 T (sub SS.1 (aq.wrap (SS.2.2.2.1+2)) (aq.wrap (SS.2.2.2.1+4))) 16 8).bind λd174=>brk (fits (SS.2.2.1.length+([aN.wrap d174.1.1]:LI).length)) (eN T SS.1 SS.2.1 (SS.2.2.1++([aN.wrap d174.1.1]:LI)) (aq.wrap (SS.2.2.2.1+4))) ay) ay)))) ay)) ay))) ay)) ay)) ay):=eL Tryz.func167
theorem sF (t0 t4 t8 t9 t11):oQ (S.step T) t0 t4 t8 t9 t11=brk (I (t11<=3)) (brk (I ((t0.length:Int)<=aq.wrap (t9+t11))) (J (an ((t4.1,t4.2.1,aq.wrap (t9+t11),t4.2.2.2),av,()))) (brk (I (0<=aq.wrap (t9+t11))&&I (aq.wrap (t9+t11)<(t0.length:Int))) ((wO T (t0.getD ((aq.wrap (t9+t11)).toNat) 0)).bind λd159=>brk (!d159.1) (J (an ((t4.1,t4.2.1,aq.wrap (t9+t11),t4.2.2.2),av,()))) (oQ T t0 t4 t8 t9 (aq.wrap (t11+1)))) ay)) (J (aE (an (t0,t4,t8,t9,())))):=eL Tryz.func167
theorem xU (t0 t1 t4 t14 t15):kC (S.step T) t0 t1 t4 t14 t15=brk (I (0<t15)) ((BF T t15).bind λd189=>brk (!I (d189.1=([]:LI))) (brk (I (0<(d189.1.length:Int))) ((pW T (d189.1.getD 0 0)).bind λd195=>brk (!d195.1) (brk (bounds t0.length t1 (t0.length:Int)) ((qk T (sub t0 t1 (t0.length:Int)) d189.1).bind λd203=>brk (d203.1) (brk (I (t14<(d189.1.length:Int))) (kC T t0 t1 (t15,t4.2.1,aq.wrap (t1+(d189.1.length:Int)),t4.2.2.2) (d189.1.length:Int) (aq.wrap (t15 - 1))) (kC T t0 t1 t4 t14 (aq.wrap (t15 - 1)))) (kC T t0 t1 t4 t14 (aq.wrap (t15 - 1)))) ay) (kC T t0 t1 t4 t14 (aq.wrap (t15 - 1)))) ay) (kC T t0 t1 t4 t14 (aq.wrap (t15 - 1)))) (J (an (t1,t4,()))):=eL Tryz.func167
theorem CW (t0 t1):zO (S.step T) t0 t1=brk (I (t0=([]:LI))) (J (ar,cQ)) (brk (I (0<(t0.length:Int))) (brk (!I (t0.getD 0 0=34)) (brk (I (0<(t0.length:Int))) ((pW T (t0.getD 0 0)).bind λd16=>brk (!d16.1) (brk (I (0<(t0.length:Int))) ((kT T (t0.getD 0 0)).bind λd22=>brk (!d22.1) (J (ar,cQ)) ((nr T t0 0).bind λd28=>brk (!d28.1.2.1) (brk (I (d28.1.1.1=t1)) (J (I (d28.1.1.2.2.1=(t0.length:Int)),cQ)) (J (ar,cQ))) (J (ar,cQ)))) ay) ((nr T t0 0).bind λd28=>brk (!d28.1.2.1) (brk (I (d28.1.1.1=t1)) (J (I (d28.1.1.2.2.1=(t0.length:Int)),cQ)) (J (ar,cQ))) (J (ar,cQ)))) ay) ((nr T t0 0).bind λd28=>brk (!d28.1.2.1) (brk (I (d28.1.1.1=t1)) (J (I (d28.1.1.2.2.1=(t0.length:Int)),cQ)) (J (ar,cQ))) (J (ar,cQ)))) ay):=eF Tryz.func155
theorem wy (t0):jL (S.step T) t0=brk (I ((t0.length:Int)<=40)) ((zO T t0 1).bind λd8=>J (d8.1,cO)) (J (ar,cO)):=eF Tryz.func119
theorem Gu (t0):vw (S.step T) t0=(nX T t0 1 16).bind λd4=>J (d4.1,cO):=eF Tryz.func124
theorem DJ (t0 t1 t2 t3 t4 t5 t6 t7):dH (S.step T) t0 t1 t2 t3 t4 t5 t6 t7=brk (t0) (brk (t1) (brk (t2) (brk (t3) (J (av,(),(),(),(),t4,t5,t6,t7,())) (J (I (t7=([]:LI)),(),(),(),(),t4,t5,t6,t7,()))) (brk (I (t6=0)) (brk (t3) (J (av,(),(),(),(),t4,t5,t6,t7,())) (J (I (t7=([]:LI)),(),(),(),(),t4,t5,t6,t7,()))) (J (ar,(),(),(),(),t4,t5,t6,t7,())))) (brk (I (t5=0)) (brk (t2) (brk (t3) (J (av,(),(),(),(),t4,t5,t6,t7,())) (J (I (t7=([]:LI)),(),(),(),(),t4,t5,t6,t7,()))) (brk (I (t6=0)) (brk (t3) (J (av,(),(),(),(),t4,t5,t6,t7,())) (J (I (t7=([]:LI)),(),(),(),(),t4,t5,t6,t7,()))) (J (ar,(),(),(),(),t4,t5,t6,t7,())))) (J (ar,(),(),(),(),t4,t5,t6,t7,())))) (brk (I (t4=0)) (brk (t1) (brk (t2) (brk (t3) (J (av,(),(),(),(),t4,t5,t6,t7,())) (J (I (t7=([]:LI)),(),(),(),(),t4,t5,t6,t7,()))) (brk (I (t6=0)) (brk (t3) (J (av,(),(),(),(),t4,t5,t6,t7,())) (J (I (t7=([]:LI)),(),(),(),(),t4,t5,t6,t7,()))) (J (ar,(),(),(),(),t4,t5,t6,t7,())))) (brk (I (t5=0)) (brk (t2) (brk (t3) (J (av,(),(),(),(),t4,t5,t6,t7,())) (J (I (t7=([]:LI)),(),(),(),(),t4,t5,t6,t7,()))) (brk (I (t6=0)) (brk (t3) (J (av,(),(),(),(),t4,t5,t6,t7,())) (J (I (t7=([]:LI)),(),(),(),(),t4,t5,t6,t7,()))) (J (ar,(),(),(),(),t4,t5,t6,t7,())))) (J (ar,(),(),(),(),t4,t5,t6,t7,())))) (J (ar,(),(),(),(),t4,t5,t6,t7,()))):=eF Tryz.func122
theorem Gf (t0):r8 (S.step T) t0=(nX T t0 20 37).bind λd4=>J (d4.1,cO):=eF Tryz.func121
theorem DD (t0 t1 t2):dI (S.step T) t0 t1 t2=brk (bounds t2.length t0 t1) ((iQ T t2 (sub t2 t0 t1) ((sub t2 t0 t1).length:Int) 0).bind (dM (λy2=>J (y2.2.1,(),(),y2.1,())) (λy2=>J (av,(),(),y2)))) none:=eF Tryz.func120
theorem sU (t2 t11 t12 t13):iQ (S.step T) t2 t11 t12 t13=brk (I (t13<t12)) (brk (I (0<=t13)&&I (t13<(t11.length:Int))) ((r8 T (t11.getD t13.toNat 0)).bind λd18=>brk (!d18.1) (J (an (t2,ar,()))) (iQ T t2 t11 t12 (aq.wrap (t13+1)))) ay) (J (aE (an (t2,())))):=eL Tryz.func120
theorem vh (t0):qo (S.step T) t0=brk (I ((t0.length:Int)<=40)) ((zO T t0 3).bind λd8=>J (d8.1,cO)) (J (ar,cO)):=eF Tryz.func125
theorem DT (t0 t1):nA (S.step T) t0 t1=brk (I (1<=t0)) (brk (I (0<(t1.length:Int))) ((r8 T (t1.getD 0 0)).bind λd9=>brk (d9.1) (brk (I (0<(t1.length:Int))) (J (!I (t1.getD 0 0=27),t0,t1,())) ay) (J (ar,t0,t1,()))) ay) (J (ar,t0,t1,())):=eF Tryz.func123
theorem Gn (t0 t1):lX (S.step T) t0 t1=brk (I (0<=t1)&&I (t1<(t0.1.length:Int))) (brk (I ((at_ (τ:=cR) t0.1 t1).2.1<0)) (J (ar,df)) (brk (I ((at_ (τ:=cR) t0.1 t1).2.2.1<(at_ (τ:=cR) t0.1 t1).2.1)) (J (ar,df)) (brk (I ((at_ (τ:=cR) t0.1 t1).2.2.2.1<0)) (J (ar,df)) (brk (I (200<((at_ (τ:=cR) t0.1 t1).2.2.2.2.2.2.2.2.1.length:Int))) (J (ar,df)) (brk (I (200<((at_ (τ:=cR) t0.1 t1).2.2.2.2.2.2.2.1.length:Int))) (J (ar,df)) ((mD T t1 t0 (at_ (τ:=cR) t0.1 t1) [] (at_ (τ:=cR) t0.1 t1).2.2.2.2.2.2.2.2.1 ((at_ (τ:=cR) t0.1 t1).2.2.2.2.2.2.2.2.1.length:Int) 0).bind (dM (λy6=>J (y6.1,df)) (λy6=>(fO T y6.1 y6.2.1 y6.1.2.2.2.2.2.2.2.1 (y6.1.2.2.2.2.2.2.2.1.length:Int) 0).bind (dM (λml=>J (ml.1,df)) (λml=>brk (I (ml.1.1=1)) ((iC T (ml.1.2.2.2.2.2.2.2.1.length:Int) ml.1.2.2.2.2.1 ml.1.2.2.2.2.2.1 ml.1.2.2.2.2.2.2.1 ml.2.1 (ml.2.1.length:Int) 0).bind (dM (λpG=>J (pG.1,df)) (λpG=>(dH T ar ar ar ar pG.1 pG.2.1 pG.2.2.1 pG.2.2.2.1).bind λd119=>J (d119.1,df)))) (brk (I (ml.1.1=2)) ((dH T av ar ar ar (ml.1.2.2.2.2.2.2.2.1.length:Int) ml.1.2.2.2.2.1 ml.1.2.2.2.2.2.1 ml.1.2.2.2.2.2.2.1).bind λd123=>brk (d123.1) (brk (I (1<=d123.2.2.2.2.2.1)) ((dI T 0 (ml.2.1.length:Int) ml.2.1).bind λd131=>J (d131.1,df)) (J (ar,df))) (J (ar,df))) (brk (I (ml.1.1=3)) ((dH T av ar ar ar (ml.1.2.2.2.2.2.2.2.1.length:Int) ml.1.2.2.2.2.1 ml.1.2.2.2.2.2.1 ml.1.2.2.2.2.2.2.1).bind λd136=>brk (d136.1) (brk (I (d136.2.2.2.2.2.1=1)) (brk (I ((ml.2.1.length:Int)=1)) ((dI T 0 1 ml.2.1).bind λd147=>J (d147.1,df)) (J (ar,df))) (J (ar,df))) (J (ar,df))) (brk (I (ml.1.1=4)) ((dH T av ar ar ar (ml.1.2.2.2.2.2.2.2.1.length:Int) ml.1.2.2.2.2.1 ml.1.2.2.2.2.2.1 ml.1.2.2.2.2.2.2.1).bind λd152=>brk (d152.1) (brk (I (d152.2.2.2.2.2.1=1)) (brk (I ((ml.2.1.length:Int)=1)) (brk (I (0<(ml.2.1.length:Int))) (J (I (ml.2.1.getD 0 0=36),df)) ay) (J (ar,df))) (J (ar,df))) (J (ar,df))) (brk (I (ml.1.1=5)) ((dH T ar ar av ar (ml.1.2.2.2.2.2.2.2.1.length:Int) ml.1.2.2.2.2.1 ml.1.2.2.2.2.2.1 ml.1.2.2.2.2.2.2.1).bind λd170=>brk (!d170.1) (J (ar,df)) (brk (I (d170.2.2.2.2.2.2.2.1<1)) (J (ar,df)) (brk (I (aq.wrap ((ml.2.1.length:Int) - 1)<d170.2.2.2.2.2.2.2.1)) (J (ar,df)) (brk (bounds ml.2.1.length 0 d170.2.2.2.2.2.2.2.1) ((fb T ml.2.1 d170.2.2.2.2.2.2.2.1 (ml.2.1.length:Int) (sub ml.2.1 0 d170.2.2.2.2.2.2.2.1) ((sub ml.2.1 0 d170.2.2.2.2.2.2.2.1).length:Int) 0).bind (dM (λVt=>J (Vt.1,df)) (λVt=>(dI T Vt.2.1 Vt.2.2.1 Vt.1).bind λd204=>J (d204.1,df)))) ay)))) (brk (I (ml.1.1=6)) ((mW T ml.2.1 (ml.1.2.2.2.2.2.2.2.1.length:Int) ml.1.2.2.2.2.1 ml.1.2.2.2.2.2.1 ml.1.2.2.2.2.2.2.1 (ml.2.1.length:Int) ml.1.1 (I (ml.1.1=6))).bind (dM (λao2=>J (ao2.1,df)) (λao2=>J (ar,df)))) ((mW T ml.2.1 (ml.1.2.2.2.2.2.2.2.1.length:Int) ml.1.2.2.2.2.1 ml.1.2.2.2.2.2.1 ml.1.2.2.2.2.2.2.1 (ml.2.1.length:Int) ml.1.1 (I (ml.1.1=16))).bind (dM (λao2=>J (ao2.1,df)) (λao2=>J (ar,df))))))))))))))))))) none:=eF a15
theorem Bx (t6 t11 t12 t13 t14 t16 t105 t205):mW (S.step T) t6 t11 t12 t13 t14 t16 t105 t205=brk (t205) ((dH T ar ar ar ar t11 t12 t13 t14).bind λd209=>brk (d209.1) (brk (I (t16=1)) (brk (I (0<(t6.length:Int))) (J (an (I (t6.getD 0 0=34),()))) ay) (J (an (ar,())))) (J (an (ar,())))) (brk (I (t105=7)) ((dH T ar ar ar ar t11 t12 t13 t14).bind λd223=>brk (d223.1) (brk (I (t16=2)) ((dI T 0 1 t6).bind λd234=>brk (d234.1) (brk (I (1<(d234.2.2.2.1.length:Int))) (brk (I (d234.2.2.2.1.getD 1 0=1)) (brk (I (t16=2)) (J (an (av,()))) (brk (I (2<(d234.2.2.2.1.length:Int))) (brk (I (d234.2.2.2.1.getD 2 0=1)) (J (an (av,()))) (brk (I (2<(d234.2.2.2.1.length:Int))) (J (an (I (d234.2.2.2.1.getD 2 0=7),()))) ay)) ay)) (J (an (ar,())))) ay) (J (an (ar,())))) (brk (I (t16=3)) ((dI T 0 1 t6).bind λd234=>brk (d234.1) (brk (I (1<(d234.2.2.2.1.length:Int))) (brk (I (d234.2.2.2.1.getD 1 0=1)) (brk (I (t16=2)) (J (an (av,()))) (brk (I (2<(d234.2.2.2.1.length:Int))) (brk (I (d234.2.2.2.1.getD 2 0=1)) (J (an (av,()))) (brk (I (2<(d234.2.2.2.1.length:Int))) (J (an (I (d234.2.2.2.1.getD 2 0=7),()))) ay)) ay)) (J (an (ar,())))) ay) (J (an (ar,())))) (J (an (ar,()))))) (J (an (ar,())))) (brk (I (t105=8)) ((dH T ar ar ar ar t11 t12 t13 t14).bind λd261=>brk (d261.1) (brk (I (t16=2)) ((dI T 0 1 t6).bind λd268=>brk (d268.1) (brk (I (1<(d268.2.2.2.1.length:Int))) (J (an (I (d268.2.2.2.1.getD 1 0=1),()))) ay) (J (an (ar,())))) (J (an (ar,())))) (J (an (ar,())))) (brk (I (t105=9)) ((dH T av ar ar ar t11 t12 t13 t14).bind λd279=>brk (d279.1) (brk (I (d279.2.2.2.2.2.1=1)) (brk (I (t16=3)) ((dI T 0 (aq.wrap (t16 - 1)) t6).bind λd296=>brk (d296.1) (brk (I (0<=aq.wrap (t16 - 1))&&I (aq.wrap (t16 - 1)<(d296.2.2.2.1.length:Int))) (J (an (I (d296.2.2.2.1.getD ((aq.wrap (t16 - 1)).toNat) 0=1),()))) ay) (J (an (ar,())))) (brk (I (t16=4)) ((dI T 0 (aq.wrap (t16 - 1)) t6).bind λd296=>brk (d296.1) (brk (I (0<=aq.wrap (t16 - 1))&&I (aq.wrap (t16 - 1)<(d296.2.2.2.1.length:Int))) (J (an (I (d296.2.2.2.1.getD ((aq.wrap (t16 - 1)).toNat) 0=1),()))) ay) (J (an (ar,())))) (J (an (ar,()))))) (J (an (ar,())))) (J (an (ar,())))) (brk (I (t105=10)) ((dH T av ar ar ar t11 t12 t13 t14).bind λd309=>brk (d309.1) (brk (I (1<=d309.2.2.2.2.2.1)) (brk (I (t16=2)) ((dI T 0 1 t6).bind λd320=>brk (d320.1) (brk (I (1<(d320.2.2.2.1.length:Int))) (J (an (I (d320.2.2.2.1.getD 1 0=1),()))) ay) (J (an (ar,())))) (J (an (ar,())))) (J (an (ar,())))) (J (an (ar,())))) (brk (I (t105=11)) ((gL T t6 t11 t12 t13 t14 t16 t105 (I (t105=11))).bind (dM (λOj=>J (an Oj)) (λOj=>J (aE (an ()))))) (brk (I (t105=12)) ((gL T t6 t11 t12 t13 t14 t16 t105 (I (t105=12))).bind (dM (λOj=>J (an Oj)) (λOj=>J (aE (an ()))))) (brk (I (t105=20)) ((gL T t6 t11 t12 t13 t14 t16 t105 (I (t105=20))).bind (dM (λOj=>J (an Oj)) (λOj=>J (aE (an ()))))) (brk (I (t105=21)) ((gL T t6 t11 t12 t13 t14 t16 t105 (I (t105=21))).bind (dM (λOj=>J (an Oj)) (λOj=>J (aE (an ()))))) (brk (I (t105=22)) ((gL T t6 t11 t12 t13 t14 t16 t105 (I (t105=22))).bind (dM (λOj=>J (an Oj)) (λOj=>J (aE (an ()))))) ((gL T t6 t11 t12 t13 t14 t16 t105 (I (t105=27))).bind (dM (λOj=>J (an Oj)) (λOj=>J (aE (an ())))))))))))))):=eJ a15
theorem Bj (t6 t11 t12 t13 t14 t16 t105 XK):gL (S.step T) t6 t11 t12 t13 t14 t16 t105 XK=brk (XK) ((dH T ar ar ar ar t11 t12 t13 t14).bind λd336=>brk (d336.1) (J (an (I (t16=0),()))) (J (an (ar,())))) (brk (I (t105=13)) ((dH T ar ar ar ar t11 t12 t13 t14).bind λd344=>brk (d344.1) ((dI T 0 t16 t6).bind λd348=>J (an (d348.1,()))) (J (an (ar,())))) (brk (I (t105=14)) ((dH T av ar ar ar t11 t12 t13 t14).bind λd353=>brk (d353.1) (brk (I (d353.2.2.2.2.2.1=1)) (brk (I (t16=2)) (brk (I (0<(t6.length:Int))) (brk (I (t6.getD 0 0=1)) (brk (I (1<(t6.length:Int))) (J (an (I (t6.getD 1 0=1),()))) ay) (J (an (ar,())))) ay) (J (an (ar,())))) (brk (I (d353.2.2.2.2.2.1=2)) (brk (I (t16=2)) (brk (I (0<(t6.length:Int))) (brk (I (t6.getD 0 0=1)) (brk (I (1<(t6.length:Int))) (J (an (I (t6.getD 1 0=1),()))) ay) (J (an (ar,())))) ay) (J (an (ar,())))) (J (an (ar,()))))) (J (an (ar,())))) (brk (I (t105=15)) ((lp T t6 t11 t12 t13 t14 t16 t105 (I (t105=15))).bind (dM (λak3=>J (an ak3)) (λak3=>J (aE (an ()))))) ((lp T t6 t11 t12 t13 t14 t16 t105 (I (t105=40))).bind (dM (λak3=>J (an ak3)) (λak3=>J (aE (an ())))))))):=eJ a15
theorem Bf (t6 t11 t12 t13 t14 t16 t105 Xv):lp (S.step T) t6 t11 t12 t13 t14 t16 t105 Xv=brk (Xv) ((dH T ar ar ar ar t11 t12 t13 t14).bind λaB7=>brk (aB7.1) (brk (I (t16=1)) ((dI T 0 1 t6).bind λaB5=>J (an (aB5.1,()))) (J (an (ar,())))) (J (an (ar,())))) (brk (I (t105=23)) ((dH T ar ar av ar t11 t12 t13 t14).bind λaE2=>brk (aE2.1) (J (an (I (t16=0),()))) (J (an (ar,())))) (brk (I (t105=24)) ((dH T ar ar ar av t11 t12 t13 t14).bind λap7=>brk (ap7.1) (brk (I (t16=0)) ((qo T ap7.2.2.2.2.2.2.2.2.1).bind λaE7=>J (an (aE7.1,()))) (J (an (ar,())))) (J (an (ar,())))) (brk (I (t105=25)) ((dH T ar ar ar av t11 t12 t13 t14).bind λar9=>brk (ar9.1) (brk (I (t16=0)) (J (an (I ((ar9.2.2.2.2.2.2.2.2.1.length:Int)<=4000),()))) (J (an (ar,())))) (J (an (ar,())))) (brk (I (t105=26)) ((dH T ar ar ar av t11 t12 t13 t14).bind λaq3=>brk (aq3.1) (brk (I (t16=0)) ((jL T aq3.2.2.2.2.2.2.2.2.1).bind λaC3=>J (an (aC3.1,()))) (J (an (ar,())))) (J (an (ar,())))) (brk (I (t105=28)) ((kj T t6 t11 t12 t13 t14 t16 t105 (I (t105=28))).bind (dM (λYu=>J (an Yu)) (λYu=>J (aE (an ()))))) (brk (I (t105=29)) ((kj T t6 t11 t12 t13 t14 t16 t105 (I (t105=29))).bind (dM (λYu=>J (an Yu)) (λYu=>J (aE (an ()))))) ((kj T t6 t11 t12 t13 t14 t16 t105 (I (t105=41))).bind (dM (λYu=>J (an Yu)) (λYu=>J (aE (an ()))))))))))):=eJ a15
theorem Bi (t6 t11 t12 t13 t14 t16 t105 XQ):kj (S.step T) t6 t11 t12 t13 t14 t16 t105 XQ=brk (XQ) ((dH T ar ar ar ar t11 t12 t13 t14).bind λaF8=>brk (aF8.1) (brk (I (t16=2)) ((dI T 0 2 t6).bind λaD1=>J (an (aD1.1,()))) (J (an (ar,())))) (J (an (ar,())))) (brk (I (t105=30)) ((dH T ar av ar ar t11 t12 t13 t14).bind λas3=>brk (as3.1) ((nX T as3.2.2.2.2.2.2.1 19 22).bind λaI3=>brk (aI3.1) (brk (I (t16=1)) ((dI T 0 1 t6).bind λaC9=>J (an (aC9.1,()))) (J (an (ar,())))) (J (an (ar,())))) (J (an (ar,())))) (brk (I (t105=31)) ((dH T ar av ar ar t11 t12 t13 t14).bind λal6=>brk (al6.1) ((nX T al6.2.2.2.2.2.2.1 1 18).bind λaA6=>brk (aA6.1) (brk (I (t16=2)) ((dI T 0 2 t6).bind λaH9=>J (an (aH9.1,()))) (J (an (ar,())))) (J (an (ar,())))) (J (an (ar,())))) (brk (I (t105=32)) ((dH T ar ar ar ar t11 t12 t13 t14).bind λaI8=>brk (aI8.1) (brk (I (t16=2)) ((nA T t16 t6).bind λar7=>brk (ar7.1) ((dI T 0 2 ar7.2.2.1).bind λaH6=>J (an (aH6.1,()))) (J (an (ar,())))) (J (an (ar,())))) (J (an (ar,())))) (brk (I (t105=33)) ((dH T ar ar ar av t11 t12 t13 t14).bind λan1=>brk (an1.1) (brk (I (t16=1)) ((nA T t16 t6).bind λaG1=>brk (aG1.1) ((jL T an1.2.2.2.2.2.2.2.2.1).bind λaG8=>J (an (aG8.1,()))) (J (an (ar,())))) (J (an (ar,())))) (J (an (ar,())))) (brk (I (t105=34)) ((dH T ar ar ar ar t11 t12 t13 t14).bind λaJ1=>brk (aJ1.1) ((nA T t16 t6).bind λaa5=>brk (aa5.1) ((dI T 0 aa5.2.1 aa5.2.2.1).bind λaB6=>J (an (aB6.1,()))) (J (an (ar,())))) (J (an (ar,())))) (brk (I (t105=35)) ((iH T t11 t12 t13 t14 t6 (t6.length:Int) 0).bind (dM (λab8=>J (an ab8)) (λab8=>(dH T ar ar ar ar ab8.1 ab8.2.1 ab8.2.2.1 ab8.2.2.2.1).bind λaG3=>J (an (aG3.1,()))))) (brk (I (t105=36)) ((dH T av av ar ar t11 t12 t13 t14).bind λam9=>brk (am9.1) ((nX T am9.2.2.2.2.2.2.1 0 1).bind λaD3=>brk (aD3.1) (brk (I (t16=1)) (brk (I (0<(t6.length:Int))) (J (an (I (t6.getD 0 0=1),()))) ay) (J (an (ar,())))) (J (an (ar,())))) (J (an (ar,())))) (brk (I (t105=37)) ((dH T ar ar ar ar t11 t12 t13 t14).bind λaJ9=>brk (aJ9.1) (brk (I (t16=1)) (brk (I (0<(t6.length:Int))) (brk (I (t6.getD 0 0=34)) (J (an (av,()))) (brk (I (0<(t6.length:Int))) (J (an (I (t6.getD 0 0=27),()))) ay)) ay) (J (an (ar,())))) (J (an (ar,())))) (brk (I (t105=42)) ((dH T ar ar ar av t11 t12 t13 t14).bind λar0=>brk (ar0.1) (brk (I (t16=1)) ((dI T 0 1 t6).bind λaB8=>brk (aB8.1) ((jL T ar0.2.2.2.2.2.2.2.2.1).bind λaB1=>J (an (aB1.1,()))) (J (an (ar,())))) (J (an (ar,())))) (J (an (ar,())))) (J (aE (an ())))))))))))):=eJ a15
theorem vc (t1 t2 t5 t6 t58 t59 t60):mD (S.step T) t1 t2 t5 t6 t58 t59 t60=brk (I (t60<t59)) (brk (I (0<=t60)&&I (t60<(t58.length:Int))) ((nX T (t58.getD t60.toNat 0) 0 (aq.wrap (t1 - 1))).bind λd67=>brk (!d67.1) (J (an (ar,()))) (brk (I (0<=t58.getD t60.toNat 0)&&I (t58.getD t60.toNat 0<(t2.1.length:Int))) (brk (fits (t6.length+([(at_ (τ:=cR) t2.1 (t58.getD t60.toNat 0)).1]:LI).length)) (mD T t1 t2 t5 (t6++([(at_ (τ:=cR) t2.1 (t58.getD t60.toNat 0)).1]:LI)) t58 t59 (aq.wrap (t60+1))) ay) ay)) ay) (J (aE (an (t5,t6,())))):=eL a15
theorem uq (t5 t6 t80 t81 t82):fO (S.step T) t5 t6 t80 t81 t82=brk (I (t82<t81)) (brk (I (0<=t82)&&I (t82<(t80.length:Int))) ((jL T (t80.getD t82.toNat [])).bind λd87=>brk (!d87.1) (J (an (ar,()))) (fO T t5 t6 t80 t81 (aq.wrap (t82+1)))) ay) (J (aE (an (t5,t6,())))):=eL a15
theorem um (t11 t12 t13 t14 t108 t109 t110):iC (S.step T) t11 t12 t13 t14 t108 t109 t110=brk (I (t110<t109)) (brk (I (0<=t110)&&I (t110<(t108.length:Int))) ((vw T (t108.getD t110.toNat 0)).bind λd115=>brk (!d115.1) (J (an (ar,()))) (iC T t11 t12 t13 t14 t108 t109 (aq.wrap (t110+1)))) ay) (J (aE (an (t11,t12,t13,t14,())))):=eL a15
theorem tI (t6 t13 t16 t184 t185 t186):fb (S.step T) t6 t13 t16 t184 t185 t186=brk (I (t186<t185)) (brk (I (0<=t186)&&I (t186<(t184.length:Int))) (brk (!I (t184.getD t186.toNat 0=26)) (brk (!I (t184.getD t186.toNat 0=32)) (brk (!I (t184.getD t186.toNat 0=33)) (J (an (ar,()))) (fb T t6 t13 t16 t184 t185 (aq.wrap (t186+1)))) (fb T t6 t13 t16 t184 t185 (aq.wrap (t186+1)))) (fb T t6 t13 t16 t184 t185 (aq.wrap (t186+1)))) ay) (J (aE (an (t6,t13,t16,())))):=eL a15
theorem tR (t11 t12 t13 t14 SI Vb Og):iH (S.step T) t11 t12 t13 t14 SI Vb Og=brk (I (Og<Vb)) (brk (I (0<=Og)&&I (Og<(SI.length:Int))) ((nX T (SI.getD Og.toNat 0) 40 42).bind λaF6=>brk (!aF6.1) (J (an (ar,()))) (iH T t11 t12 t13 t14 SI Vb (aq.wrap (Og+1)))) ay) (J (aE (an (t11,t12,t13,t14,())))):=eL a15
theorem uD (t0):pZ (S.step T) t0=brk (I ((t0.1.length:Int)=0)) (J ((1,0,()),dw)) (brk (I (3000<(t0.1.length:Int))) (J ((1,0,()),dw)) (brk (I (0<=aq.wrap ((t0.1.length:Int) - 1))&&I (aq.wrap ((t0.1.length:Int) - 1)<(t0.1.length:Int))) (brk (!I ((at_ (τ:=cR) t0.1 (aq.wrap ((t0.1.length:Int) - 1))).1=1)) (J ((1,0,()),dw)) ((ix T t0 (0,0,()) (t0.1.length:Int) (t0.1.length:Int) 0).bind (dM (λy5=>J (y5.1,dw)) (λy5=>brk (((I (0<=y5.2.2.1))&&(I (y5.2.2.1<=y5.2.2.1)))&&(I (y5.2.2.1<=lim))) ((fP T y5.1 y5.2.1 y5.2.2.1 (aM y5.2.2.1.toNat 0) y5.1.1 (y5.1.1.length:Int) 0).bind (dM (λmn=>J (mn.1,dw)) (λmn=>brk (((I (0<=mn.2.2.1))&&(I (mn.2.2.1<=mn.2.2.1)))&&(I (mn.2.2.1<=lim))) ((mY T mn.1 mn.2.1 (aM mn.2.2.1.toNat 0) (aq.wrap (mn.2.2.1 - 1))).bind (dB (λIC=>(iA T IC.1 IC.2.1 (IC.2.1.length:Int) 0).bind (dM (λaN2=>J (aN2.1,dw)) (λaN2=>J ((0,0,()),dw)))))) ay))) ay)))) ay)):=eF a61
theorem vt (t1 t2 t3 t37 t38):ix (S.step T) t1 t2 t3 t37 t38=brk (I (t38<t37)) ((lX T t1 t38).bind λd43=>brk (!d43.1) (J (an ((2,t38,()),()))) (ix T t1 t2 t3 t37 (aq.wrap (t38+1)))) (J (aE (an (t1,t2,t3,())))):=eL a61
theorem tV (t1 t2 t3 t5 t51 t52 t53):fP (S.step T) t1 t2 t3 t5 t51 t52 t53=brk (I (t53<t52)) (brk (I (0<=t53)&&I (t53<(t51.length:Int))) ((ly T t1 t2 t3 t5 t53 (at_ (τ:=cR) t51 t53) t53 (aq.wrap (((at_ (τ:=cR) t51 t53).2.2.2.2.2.2.2.2.1.length:Int) - 1)) t51 t52 t53).bind (dM (λmq=>J (an mq)) (λmq=>brk (I (0<=mq.2.2.2.2.1)&&I (mq.2.2.2.2.1<(mq.2.2.2.1.length:Int))) (brk (I (mq.2.2.2.2.1=aq.wrap (mq.2.2.1 - 1))) (brk (!I (mq.2.2.2.2.2.1=0)) (J (an ((3,mq.2.2.2.2.1,()),()))) (fP T mq.1 mq.2.1 mq.2.2.1 (mq.2.2.2.1.set mq.2.2.2.2.1.toNat mq.2.2.2.2.2.1) mq.2.2.2.2.2.2.1 mq.2.2.2.2.2.2.2.1 (aq.wrap (mq.2.2.2.2.2.2.2.2.1+1)))) (fP T mq.1 mq.2.1 mq.2.2.1 (mq.2.2.2.1.set mq.2.2.2.2.1.toNat mq.2.2.2.2.2.1) mq.2.2.2.2.2.2.1 mq.2.2.2.2.2.2.2.1 (aq.wrap (mq.2.2.2.2.2.2.2.2.1+1)))) ay))) ay) (J (aE (an (t1,t2,t3,())))):=eL a61
theorem pP (t1 t2 t3 t5 t6 t7 t8 t9 t51 t52 t53):ly (S.step T) t1 t2 t3 t5 t6 t7 t8 t9 t51 t52 t53=brk (I (0<=t9)) (brk (I (0<=t9)&&I (t9<(t7.2.2.2.2.2.2.2.2.1.length:Int))) (brk (!I (t7.2.2.2.2.2.2.2.2.1.getD t9.toNat 0=aq.wrap (t8 - 1))) (J (an ((3,t6,()),()))) (brk (I (0<=t9)&&I (t9<(t7.2.2.2.2.2.2.2.2.1.length:Int))) (brk (I (0<=t7.2.2.2.2.2.2.2.2.1.getD t9.toNat 0)&&I (t7.2.2.2.2.2.2.2.2.1.getD t9.toNat 0<(t5.length:Int))) (ly T t1 t2 t3 t5 t6 t7 (t5.getD ((t7.2.2.2.2.2.2.2.2.1.getD t9.toNat 0).toNat) 0) (aq.wrap (t9 - 1)) t51 t52 t53) ay) ay)) ay) (J (aE (an (t1,t2,t3,t5,t6,t8,t51,t52,t53,())))):=eL a61
theorem tN (t1 t2 t10 t11):mY (S.step T) t1 t2 t10 t11=brk (I (0<=t11)) (brk (I (0<=t11)&&I (t11<(t1.1.length:Int))) ((nj T t1 t2 t10 t11 (at_ (τ:=cR) t1.1 t11).2.2.2.2.2.2.2.2.1 ((at_ (τ:=cR) t1.1 t11).2.2.2.2.2.2.2.2.1.length:Int) 0).bind (dB (λav5=>mY T av5.1 av5.2.1 av5.2.2.1 (aq.wrap (av5.2.2.2.1 - 1))))) ay) (J (an (t2,t10,()))):=eL a61
theorem tU (t1 t2 t10 t11 t113 t114 t115):nj (S.step T) t1 t2 t10 t11 t113 t114 t115=brk (I (t115<t114)) (brk (I (0<=t115)&&I (t115<(t113.length:Int))) (brk (I (0<=t11)&&I (t11<(t10.length:Int))) (brk (I (0<=t113.getD t115.toNat 0)&&I (t113.getD t115.toNat 0<(t10.length:Int))) (nj T t1 t2 (t10.set ((t113.getD t115.toNat 0).toNat) (aq.wrap ((t10.getD t11.toNat 0)+1))) t11 t113 t114 (aq.wrap (t115+1))) ay) ay) ay) (J (an (t1,t2,t10,t11,()))):=eL a61
theorem ui (t2 t10 t129 t130):iA (S.step T) t2 t10 t129 t130=brk (I (t130<t129)) (brk (I (0<=t130)&&I (t130<(t10.length:Int))) (brk (I (100<t10.getD t130.toNat 0)) (J (an ((4,t130,()),()))) (iA T t2 t10 t129 (aq.wrap (t130+1)))) ay) (J (aE (an (t2,())))):=eL a61
theorem IQ (t0):xr (S.step T) t0=(pZ T t0).bind λd4=>J (I (d4.1.1=0)&&(I (d4.1.2.1=0)&&av),dw):=eF Tryz.func14
theorem vn (t0 t1 t2 t3 t4 t5):ov (S.step T) t0 t1 t2 t3 t4 t5=brk (I (0<=t0)&&I (t0<(t3.1.length:Int))) (brk (I ((at_ (τ:=cR) t3.1 t0).1=36)) (brk (fits (t4.length+([(t2,(at_ (τ:=cR) t3.1 t0).2.2.2.1,t1,t0,())]:List eS.den).length)) ((lQ T (aq.wrap (t1+1)) t3 (t4++([(t2,(at_ (τ:=cR) t3.1 t0).2.2.2.1,t1,t0,())]:List eS.den)) () (at_ (τ:=cR) t3.1 t0)).bind (dB (λy4=>J ((),(),(),(),y4.1,y4.2.1,(),())))) ay) ((lQ T t1 t3 t4 () (at_ (τ:=cR) t3.1 t0)).bind (dB (λy4=>J ((),(),(),(),y4.1,y4.2.1,(),()))))) none:=eF Tryz.func15
theorem yN (t1 t3 t4 t5 t9):lQ (S.step T) t1 t3 t4 t5 t9=brk (I (t9.1=4)) (brk (I (0<(t9.2.2.2.2.2.2.2.1.length:Int))) ((ij T t1 t3 t4 () (t9.2.2.2.2.2.2.2.1.getD 0 []) t9.2.2.2.2.2.2.2.2.1 (t9.2.2.2.2.2.2.2.2.1.length:Int) 0).bind (dB (λy8=>J (an y8)))) ay) ((ij T t1 t3 t4 () ([]:LI) t9.2.2.2.2.2.2.2.2.1 (t9.2.2.2.2.2.2.2.2.1.length:Int) 0).bind (dB (λy8=>J (an y8)))):=eJ Tryz.func15
theorem r7 (t1 t3 t4 t5 t10 t40 t41 t42):ij (S.step T) t1 t3 t4 t5 t10 t40 t41 t42=brk (I (t42<t41)) (brk (I (0<=t42)&&I (t42<(t40.length:Int))) ((ov T (t40.getD t42.toNat 0) t1 t10 t3 t4 ()).bind λd50=>ij T t1 d50.2.2.2.2.1 d50.2.2.2.2.2.1 () t10 t40 t41 (aq.wrap (t42+1))) ay) (J (an (t3,t4,()))):=eL Tryz.func15
theorem xR (t0):xg (S.step T) t0=(xr T t0).bind λd6=>brk (!d6.1) (J ([],dw)) ((ov T (aq.wrap ((t0.1.length:Int) - 1)) 0 ([]:LI) t0 [] ()).bind λd14=>J (d14.2.2.2.2.2.1,dw)):=eF Tryz.func6
theorem vl (t0 t1 t2 t3):ow (S.step T) t0 t1 t2 t3=brk (I (0<=t1)&&I (t1<(t0.1.length:Int))) (brk (I ((at_ (τ:=cR) t0.1 t1).1=36)) (brk (fits (0+([(t2,(at_ (τ:=cR) t0.1 t1).2.2.2.1,t3,t1,())]:List eS.den).length)) ((lJ T t0 (at_ (τ:=cR) t0.1 t1) ([(t2,(at_ (τ:=cR) t0.1 t1).2.2.2.1,t3,t1,())]:List eS.den) (aq.wrap (t3+1))).bind (dB (λy7=>J (y7.1,oI)))) ay) ((lJ T t0 (at_ (τ:=cR) t0.1 t1) [] t3).bind (dB (λy7=>J (y7.1,oI))))) none:=eF Tryz.func16
theorem yF (t4 t9 t10 t11):lJ (S.step T) t4 t9 t10 t11=(jc T t4 t9 t10 t11 t9.2.2.2.2.2.2.2.2.1 (t9.2.2.2.2.2.2.2.2.1.length:Int) 0).bind (dB (λy8=>J (an y8))):=eJ Tryz.func16
theorem ym (t4 t9 t10 t11 t13 t14 t38 t39 t40):kN (S.step T) t4 t9 t10 t11 t13 t14 t38 t39 t40=(ow T t4 t13 t14 t11).bind λd55=>(jA T t4 t9 t10 t11 t38 t39 t40 d55.1 (d55.1.length:Int) 0).bind (dB (λtC=>J (an tC))):=eJ Tryz.func16
theorem rP (t4 t9 t10 t11 t38 t39 t40):jc (S.step T) t4 t9 t10 t11 t38 t39 t40=brk (I (t40<t39)) (brk (I (0<=t40)&&I (t40<(t38.length:Int))) (brk (I (t9.1=4)) (brk (I (0<(t9.2.2.2.2.2.2.2.1.length:Int))) ((kN T t4 t9 t10 t11 (t38.getD t40.toNat 0) (t9.2.2.2.2.2.2.2.1.getD 0 []) t38 t39 t40).bind (dB (λml=>jc T ml.1 ml.2.1 ml.2.2.1 ml.2.2.2.1 ml.2.2.2.2.1 ml.2.2.2.2.2.1 (aq.wrap (ml.2.2.2.2.2.2.1+1))))) ay) ((kN T t4 t9 t10 t11 (t38.getD t40.toNat 0) ([]:LI) t38 t39 t40).bind (dB (λml=>jc T ml.1 ml.2.1 ml.2.2.1 ml.2.2.2.1 ml.2.2.2.2.1 ml.2.2.2.2.2.1 (aq.wrap (ml.2.2.2.2.2.2.1+1)))))) ay) (J (an (t10,()))):=eL Tryz.func16
theorem qK (t4 t9 t10 t11 t38 t39 t40 t55 t56 t57):jA (S.step T) t4 t9 t10 t11 t38 t39 t40 t55 t56 t57=brk (I (t57<t56)) (brk (I (0<=t57)&&I (t57<(t55.length:Int))) (brk (fits (t10.length+([at_ (τ:=eS) t55 t57]:List eS.den).length)) (jA T t4 t9 (t10++([at_ (τ:=eS) t55 t57]:List eS.den)) t11 t38 t39 t40 t55 t56 (aq.wrap (t57+1))) ay) ay) (J (an (t4,t9,t10,t11,t38,t39,t40,()))):=eL Tryz.func16
theorem xV (t0):xo (S.step T) t0=(jZ T t0).bind λd5=>brk (!I (d5.1.1=0)) (J ([],dw)) ((ow T t0 (aq.wrap ((t0.1.length:Int) - 1)) ([]:LI) 0).bind λd14=>J (d14.1,dw)):=eF Tryz.func7
theorem AO (t0):BB (S.step T) t0=brk (I (4000<(t0.length:Int))) (J (([]:LI),cO)) ((Bld.mj (([]:LI),34,())).bind λd10=>(jJ T t0 d10.2.1 0).bind (dB (λy6=>(Bld.mj (y6.1,34,())).bind λd51=>(Bld.vD (d51.2.1,())).bind λd52=>J (d52.1,cO)))):=eF Tryz.func19
theorem wI (t0 t3 t4):jJ (S.step T) t0 t3 t4=brk (I (t4<(t0.length:Int))) (brk (I (0<=t4)&&I (t4<(t0.length:Int))) ((jb T ([10,9,34,92]:LI) (t0.getD t4.toNat 0)).bind λd21=>brk (I (0<=d21.1)) ((Bld.mj (t3,92,())).bind λd24=>brk (I (0<=d21.1)&&I (d21.1<4)) ((Bld.mj (d24.2.1,([110,116,34,92]:LI).getD d21.1.toNat 0,())).bind λd27=>jJ T t0 d27.2.1 (aq.wrap (t4+1))) ay) (brk (I (t0.getD t4.toNat 0<32)) (brk (bounds 16 ((t0.getD t4.toNat 0).fdiv (2^min ((4:Int).toNat) aN.bits)) (aN.wrap (((t0.getD t4.toNat 0).fdiv (2^min ((4:Int).toNat) aN.bits))+1))) (brk (fits (2+(sub ([48,49,50,51,52,53,54,55,56,57,97,98,99,100,101,102]:LI) ((t0.getD t4.toNat 0).fdiv (2^min ((4:Int).toNat) aN.bits)) (aN.wrap (((t0.getD t4.toNat 0).fdiv (2^min ((4:Int).toNat) aN.bits))+1))).length)) (brk (bounds 16 (intBits .and .u8 (t0.getD t4.toNat 0) 15) (aN.wrap ((intBits .and .u8 (t0.getD t4.toNat 0) 15)+1))) (brk (fits ((([92,120]:LI)++(sub ([48,49,50,51,52,53,54,55,56,57,97,98,99,100,101,102]:LI) ((t0.getD t4.toNat 0).fdiv (2^min ((4:Int).toNat) aN.bits)) (aN.wrap (((t0.getD t4.toNat 0).fdiv (2^min ((4:Int).toNat) aN.bits))+1)))).length+(sub ([48,49,50,51,52,53,54,55,56,57,97,98,99,100,101,102]:LI) (intBits .and .u8 (t0.getD t4.toNat 0) 15) (aN.wrap ((intBits .and .u8 (t0.getD t4.toNat 0) 15)+1))).length)) ((Bld.kA (t3,(([92,120]:LI)++(sub ([48,49,50,51,52,53,54,55,56,57,97,98,99,100,101,102]:LI) ((t0.getD t4.toNat 0).fdiv (2^min ((4:Int).toNat) aN.bits)) (aN.wrap (((t0.getD t4.toNat 0).fdiv (2^min ((4:Int).toNat) aN.bits))+1))))++(sub ([48,49,50,51,52,53,54,55,56,57,97,98,99,100,101,102]:LI) (intBits .and .u8 (t0.getD t4.toNat 0) 15) (aN.wrap ((intBits .and .u8 (t0.getD t4.toNat 0) 15)+1))),())).bind λd48=>jJ T t0 d48.2.1 (aq.wrap (t4+1))) ay) ay) ay) ay) (brk (I (126<t0.getD t4.toNat 0)) (brk (bounds 16 ((t0.getD t4.toNat 0).fdiv (2^min ((4:Int).toNat) aN.bits)) (aN.wrap (((t0.getD t4.toNat 0).fdiv (2^min ((4:Int).toNat) aN.bits))+1))) (brk (fits (2+(sub ([48,49,50,51,52,53,54,55,56,57,97,98,99,100,101,102]:LI) ((t0.getD t4.toNat 0).fdiv (2^min ((4:Int).toNat) aN.bits)) (aN.wrap (((t0.getD t4.toNat 0).fdiv (2^min ((4:Int).toNat) aN.bits))+1))).length)) (brk (bounds 16 (intBits .and .u8 (t0.getD t4.toNat 0) 15) (aN.wrap ((intBits .and .u8 (t0.getD t4.toNat 0) 15)+1))) (brk (fits ((([92,120]:LI)++(sub ([48,49,50,51,52,53,54,55,56,57,97,98,99,100,101,102]:LI) ((t0.getD t4.toNat 0).fdiv (2^min ((4:Int).toNat) aN.bits)) (aN.wrap (((t0.getD t4.toNat 0).fdiv (2^min ((4:Int).toNat) aN.bits))+1)))).length+(sub ([48,49,50,51,52,53,54,55,56,57,97,98,99,100,101,102]:LI) (intBits .and .u8 (t0.getD t4.toNat 0) 15) (aN.wrap ((intBits .and .u8 (t0.getD t4.toNat 0) 15)+1))).length)) ((Bld.kA (t3,(([92,120]:LI)++(sub ([48,49,50,51,52,53,54,55,56,57,97,98,99,100,101,102]:LI) ((t0.getD t4.toNat 0).fdiv (2^min ((4:Int).toNat) aN.bits)) (aN.wrap (((t0.getD t4.toNat 0).fdiv (2^min ((4:Int).toNat) aN.bits))+1))))++(sub ([48,49,50,51,52,53,54,55,56,57,97,98,99,100,101,102]:LI) (intBits .and .u8 (t0.getD t4.toNat 0) 15) (aN.wrap ((intBits .and .u8 (t0.getD t4.toNat 0) 15)+1))),())).bind λd48=>jJ T t0 d48.2.1 (aq.wrap (t4+1))) ay) ay) ay) ay) ((Bld.mj (t3,t0.getD t4.toNat 0,())).bind λd50=>jJ T t0 d50.2.1 (aq.wrap (t4+1)))))) ay) (J (an (t3,()))):=eL Tryz.func19
theorem CT (t0):Eg (S.step T) t0=(xr T t0).bind λd11=>brk (!d11.1) (J (([]:LI),dw)) ((oO T ([]:LI) t0.1 (t0.1.length:Int) 0).bind (dB (λy6=>(Bld.vD y6).bind λd83=>J (d83.1,dw)))):=eF Tryz.func8
theorem xN (t3 t14 t15 t16):oO (S.step T) t3 t14 t15 t16=brk (I (t16<t15)) (brk (I (0<=t16)&&I (t16<(t14.length:Int))) ((Lx.sZ ((at_ (τ:=cR) t14 t16).1,())).bind λd23=>(Lx.sZ ((at_ (τ:=cR) t14 t16).2.1,())).bind λd27=>(Lx.sZ ((at_ (τ:=cR) t14 t16).2.2.1,())).bind λd31=>(Lx.sZ ((at_ (τ:=cR) t14 t16).2.2.2.1,())).bind λd35=>(Lx.sZ ((at_ (τ:=cR) t14 t16).2.2.2.2.1,())).bind λd39=>(Lx.pT ((at_ (τ:=cR) t14 t16).2.2.2.2.2.1,10,())).bind λd42=>(BB T (at_ (τ:=cR) t14 t16).2.2.2.2.2.2.1).bind λd45=>(Lx.sZ (((at_ (τ:=cR) t14 t16).2.2.2.2.2.2.2.1.length:Int),())).bind λd50=>brk (fits (([d23.1,d27.1,d31.1,d35.1,d39.1,d42.1,d45.1,d50.1]:List LI).length+(at_ (τ:=cR) t14 t16).2.2.2.2.2.2.2.1.length)) ((Lx.sZ (((at_ (τ:=cR) t14 t16).2.2.2.2.2.2.2.2.1.length:Int),())).bind λd61=>brk (fits ((([d23.1,d27.1,d31.1,d35.1,d39.1,d42.1,d45.1,d50.1]:List LI)++(at_ (τ:=cR) t14 t16).2.2.2.2.2.2.2.1).length+([d61.1]:List LI).length)) ((nD T t3 ((([d23.1,d27.1,d31.1,d35.1,d39.1,d42.1,d45.1,d50.1]:List LI)++(at_ (τ:=cR) t14 t16).2.2.2.2.2.2.2.1)++([d61.1]:List LI)) t14 t15 t16 (at_ (τ:=cR) t14 t16).2.2.2.2.2.2.2.2.1 ((at_ (τ:=cR) t14 t16).2.2.2.2.2.2.2.2.1.length:Int) 0).bind (dB (λmn=>(Lx.E2 (mn.2.1,([32]:LI),())).bind λd79=>brk (fits (d79.1.length+1)) ((Bld.kA (mn.1,d79.1++([10]:LI),())).bind λd81=>oO T d81.2.1 mn.2.2.1 mn.2.2.2.1 (aq.wrap (mn.2.2.2.2.1+1))) ay))) ay) ay) ay) (J (an (t3,()))):=eL Tryz.func8
theorem wL (t3 t7 t14 t15 t16 t65 t66 t67):nD (S.step T) t3 t7 t14 t15 t16 t65 t66 t67=brk (I (t67<t66)) (brk (I (0<=t67)&&I (t67<(t65.length:Int))) ((Lx.sZ (t65.getD t67.toNat 0,())).bind λd74=>brk (fits (t7.length+([d74.1]:List LI).length)) (nD T t3 (t7++([d74.1]:List LI)) t14 t15 t16 t65 t66 (aq.wrap (t67+1))) ay) ay) (J (an (t3,t7,t14,t15,t16,()))):=eL Tryz.func8
theorem GA (t0):zi (S.step T) t0=(mE T t0 ([]:LI) ([t0.1,t0.2.1,t0.2.2.1,t0.2.2.2.1,t0.2.2.2.2.1,t0.2.2.2.2.2.1]:LI) (([t0.1,t0.2.1,t0.2.2.1,t0.2.2.2.1,t0.2.2.2.2.1,t0.2.2.2.2.2.1]:LI).length:Int) 0).bind (dB (λy3=>(lV T y3.1.2.2.2.2.2.2.1).bind λd37=>brk (fits (d37.1.length+1)) ((gJ T (y3.1.2.2.2.2.2.2.2.1.length:Int)).bind λd42=>brk (fits ((d37.1++([32]:LI)).length+d42.1.length)) (brk (fits (y3.2.1.length+((d37.1++([32]:LI))++d42.1).length)) ((mB T y3.1 (y3.2.1++((d37.1++([32]:LI))++d42.1)) y3.1.2.2.2.2.2.2.2.1 (y3.1.2.2.2.2.2.2.2.1.length:Int) 0).bind (dB (λy9=>(gJ T (y9.1.2.2.2.2.2.2.2.2.1.length:Int)).bind λd61=>brk (fits (1+d61.1.length)) (brk (fits (y9.2.1.length+(([32]:LI)++d61.1).length)) ((lz T (y9.2.1++(([32]:LI)++d61.1)) y9.1.2.2.2.2.2.2.2.2.1 (y9.1.2.2.2.2.2.2.2.2.1.length:Int) 0).bind (dB (λDu=>brk (fits (Du.1.length+1)) (J (Du.1++([10]:LI),fQ)) ay))) ay) ay))) ay) ay) ay)):=eF Tryz.func23
theorem vj (t1 t3 t22 t23 t24):mE (S.step T) t1 t3 t22 t23 t24=brk (I (t24<t23)) (brk (I (0<=t24)&&I (t24<(t22.length:Int))) ((gJ T (t22.getD t24.toNat 0)).bind λd30=>brk (fits (d30.1.length+1)) (brk (fits (t3.length+(d30.1++([32]:LI)).length)) (mE T t1 (t3++(d30.1++([32]:LI))) t22 t23 (aq.wrap (t24+1))) ay) ay) ay) (J (an (t1,t3,()))):=eL Tryz.func23
theorem vp (t1 t3 t46 t47 t48):mB (S.step T) t1 t3 t46 t47 t48=brk (I (t48<t47)) (brk (I (0<=t48)&&I (t48<(t46.length:Int))) (brk (fits (1+(t46.getD t48.toNat []).length)) (brk (fits (t3.length+(([32]:LI)++(t46.getD t48.toNat [])).length)) (mB T t1 (t3++(([32]:LI)++(t46.getD t48.toNat []))) t46 t47 (aq.wrap (t48+1))) ay) ay) ay) (J (an (t1,t3,()))):=eL Tryz.func23
theorem tL (t3 t65 t66 t67):lz (S.step T) t3 t65 t66 t67=brk (I (t67<t66)) (brk (I (0<=t67)&&I (t67<(t65.length:Int))) ((gJ T (t65.getD t67.toNat 0)).bind λd73=>brk (fits (1+d73.1.length)) (brk (fits (t3.length+(([32]:LI)++d73.1).length)) (lz T (t3++(([32]:LI)++d73.1)) t65 t66 (aq.wrap (t67+1))) ay) ay) ay) (J (an (t3,()))):=eL Tryz.func23
theorem CG (t0):Ed (S.step T) t0=(jZ T t0).bind λd8=>brk (!I (d8.1.1=0)) (J (([]:LI),dw)) ((oP T [] t0.1 (t0.1.length:Int) 0).bind (dB (λy6=>J (y6.1.map byte,dw)))):=eF Tryz.func9
theorem xQ (t4 t13 t14 t15):oP (S.step T) t4 t13 t14 t15=brk (I (t15<t14)) (brk (I (0<=t15)&&I (t15<(t13.length:Int))) ((zi T (at_ (τ:=cR) t13 t15)).bind λd21=>brk (fits (t4.length+d21.1.length)) (oP T (t4++d21.1) t13 t14 (aq.wrap (t15+1))) ay) ay) (J (an (t4,()))):=eL Tryz.func9
theorem Cw (t0):uv (S.step T) t0=brk (I (1048576<(t0.length:Int))) (J (av,cO)) ((D3 T t0).bind λd16=>(BM T d16.1).bind λd17=>(xg T d17.1.2.2.1).bind λd20=>(xo T d17.1.2.2.1).bind λd22=>(lK T d17.1.2.2.1 d20.1 d22.1 0 d17.1.2.2.1.1 (d17.1.2.2.1.1.length:Int) 0).bind (dB (λy8=>brk (!I ((y8.2.1.length:Int)=y8.2.2.2.1)) (J (ar,cO)) (brk (!I ((y8.2.2.1.length:Int)=y8.2.2.2.1)) (J (ar,cO)) ((kP T y8.1 y8.2.2.1 (-1:Int) y8.2.1 (y8.2.1.length:Int) 0).bind (dM (λOC=>J (OC.1,cO)) (λOC=>(Eg T OC.1).bind λd101=>(Ed T OC.1).bind λd103=>J (I (d101.1=d103.1),cO)))))))):=eF Tryz.func3
theorem oq (t3 t4 t5 t6 t24 t25 t26):lK (S.step T) t3 t4 t5 t6 t24 t25 t26=brk (I (t26<t25)) (brk (I (0<=t26)&&I (t26<(t24.length:Int))) (brk (I ((at_ (τ:=cR) t24 t26).1=36)) (lK T t3 t4 t5 (aq.wrap (t6+1)) t24 t25 (aq.wrap (t26+1))) (lK T t3 t4 t5 t6 t24 t25 (aq.wrap (t26+1)))) ay) (J (an (t3,t4,t5,t6,()))):=eL Tryz.func3
theorem qP (t3 t5 t9 t46 t47 t48):kP (S.step T) t3 t5 t9 t46 t47 t48=brk (I (t48<t47)) (brk (I (0<=t48)&&I (t48<(t46.length:Int))) (brk (I (0<=t48)&&I (t48<(t5.length:Int))) (brk (!(I ((at_ (τ:=eS) t46 t48).1=(at_ (τ:=eS) t5 t48).1)&&(I ((at_ (τ:=eS) t46 t48).2.1=(at_ (τ:=eS) t5 t48).2.1)&&(I ((at_ (τ:=eS) t46 t48).2.2.1=(at_ (τ:=eS) t5 t48).2.2.1)&&(I ((at_ (τ:=eS) t46 t48).2.2.2.1=(at_ (τ:=eS) t5 t48).2.2.2.1)&&av))))) (J (an (ar,()))) (brk (I (0<=(at_ (τ:=eS) t46 t48).2.2.2.1)&&I ((at_ (τ:=eS) t46 t48).2.2.2.1<(t3.1.length:Int))) (brk (!I ((at_ (τ:=cR) t3.1 (at_ (τ:=eS) t46 t48).2.2.2.1).1=36)) (J (an (ar,()))) (brk (I (0<=(at_ (τ:=eS) t46 t48).2.2.2.1)&&I ((at_ (τ:=eS) t46 t48).2.2.2.1<(t3.1.length:Int))) (brk (!I ((at_ (τ:=cR) t3.1 (at_ (τ:=eS) t46 t48).2.2.2.1).2.2.2.1=(at_ (τ:=eS) t46 t48).2.1)) (J (an (ar,()))) (brk (I (0<=(at_ (τ:=eS) t46 t48).2.2.2.1)&&I ((at_ (τ:=eS) t46 t48).2.2.2.1<(t3.1.length:Int))) (brk (I ((at_ (τ:=cR) t3.1 (at_ (τ:=eS) t46 t48).2.2.2.1).2.1<=t9)) (J (an (ar,()))) (brk (I (0<=(at_ (τ:=eS) t46 t48).2.2.2.1)&&I ((at_ (τ:=eS) t46 t48).2.2.2.1<(t3.1.length:Int))) (kP T t3 t5 (at_ (τ:=cR) t3.1 (at_ (τ:=eS) t46 t48).2.2.2.1).2.1 t46 t47 (aq.wrap (t48+1))) ay)) ay)) ay)) ay)) ay) ay) (J (aE (an (t3,())))):=eL Tryz.func3
end Go.Abs.D
end

section
namespace Go.Proofs.YtdoinjofjojmbaaGreatDoor
open Go.Abs
set_option maxRecDepth 100000 in
theorem WV {W:World}(h:laidMetH Tryz.prog Rows.fnOutlineRow.laid W):jG Abs.D.S.fH (snap W):=by
 rw[MakeChecks.laidMetH_plain _ _ _ (by kernel_rfl)]at h;obtain⟨ps,hl,_⟩:=h;obtain⟨_,_,_,_,_,_,_,_,_,_,hl,_⟩:=hl;obtain⟨g1,t1,c1,f1,p1,q1,a1,b1,v1,d1,hl,_⟩:=hl;obtain⟨g2,t2,c2,f2,p2,q2,a2,b2,v2,d2,hl,_⟩:=hl;obtain⟨g3,t3,c3,f3,p3,q3,a3,b3,v3,d3,hl,_⟩:=hl;obtain⟨_,_,_,_,_,_,_,_,_,_,hl,_⟩:=hl;obtain⟨g5,t5,c5,f5,p5,q5,a5,b5,v5,d5,hl,_⟩:=hl;obtain⟨g6,t6,c6,f6,p6,q6,a6,b6,v6,d6,hl,_⟩:=hl;obtain⟨g7,t7,c7,f7,p7,q7,a7,b7,v7,d7,hl,_⟩:=hl;have h5:=HW (g':=4) (τ:= .sl .str) (x:=Lx.words) (k:=3) a5 b5 v5 d5 (by kernel_rfl) (by kernel_rfl) rfl Py (by kernel_rfl);have h6:=HW (g':=5) (τ:= .sl .str) (x:=Lx.pC) (k:=3) a6 b6 v6 d6 (by kernel_rfl) (by kernel_rfl) rfl Py (by kernel_rfl);have h7:=HW (g':=6) (τ:= .sl .str) (x:=Lx.xz) (k:=3) a7 b7 v7 d7 (by kernel_rfl) (by kernel_rfl) rfl Py (by kernel_rfl);have h3:=Tb (g':=8) a3 b3 v3 d3 (by kernel_rfl) (by kernel_rfl);have h2:=R7 (g':=0) (k:= .u64) (m:=20) (e:=48) a2 b2 v2 d2 (by kernel_rfl) Lib.pow10Tab (by kernel_rfl) (by kernel_rfl) (by kernel_rfl) (by kernel_rfl) (by kernel_rfl);intro k cs hk;have hk:(bif Nat.beq k 4 then some [.v (.sl .str) Lx.words]else bif Nat.beq k 5 then some [.v (.sl .str) Lx.pC]else bif Nat.beq k 6 then some [.v (.sl .str) Lx.xz]else Lx.tables k)=some cs:=hk
 cases e5:Nat.beq k 4 with
 |true=>rw[e5]at hk;have:=Nat.eq_of_beq_eq_true e5;subst this;injection hk with hk;subst hk;exact h5
 |false=>
 rw[e5]at hk
 cases e6:Nat.beq k 5 with
 |true=>rw[e6]at hk;have:=Nat.eq_of_beq_eq_true e6;subst this;injection hk with hk;subst hk;exact h6
 |false=>
 rw[e6]at hk
 cases e7:Nat.beq k 6 with
 |true=>rw[e7]at hk;have:=Nat.eq_of_beq_eq_true e7;subst this;injection hk with hk;subst hk;exact h7
 |false=>
 rw[e7]at hk;have hk:Lx.tables k=some cs:=hk;unfold Lx.tables at hk
 cases e2:Nat.beq k 0 with
 |true=>rw[e2]at hk;have:=Nat.eq_of_beq_eq_true e2;subst this;injection hk with hk;subst hk;exact h2
 |false=>
 rw[e2]at hk
 cases e3:Nat.beq k 8 with
 |true=>rw[e3]at hk;have:=Nat.eq_of_beq_eq_true e3;subst this;injection hk with hk;subst hk;exact h3
 |false=>
 rw[e3]at hk;cases hk
end Go.Proofs.YtdoinjofjojmbaaGreatDoor
end

section
namespace Go.Abs.Bld
open Go.Proofs
theorem NB:∀{l:List (Nat×Nat×Nat)} {a b c:Nat},Im l a b c=av->(a,b,c)∈l
 |t::r,a,b,c,h=>by
  simp only[Im,Bool.or_eq_true,aA]at h
  rcases h with h|h
  ·rw[<-beq_eq h.1.1,<-beq_eq h.1.2,<-beq_eq h.2];exact aF ..
  ·exact aD _ (NB h)
theorem aw6:∀t∈places,(a10 (t.2.1+2) t.2.2&&liesAt aZ aZ.depth t.1 (t.2.2/aZ.cellsOf t.1) t.2.1 57 1)=true:=by
 have:(places.all λt=>a10 (t.2.1+2) t.2.2&&liesAt aZ aZ.depth t.1 (t.2.2/aZ.cellsOf t.1) t.2.1 57 1)=true:=by kernel_rfl
 exact aW.1 this
set_option maxHeartbeats 1000000 in
set_option maxRecDepth 100000 in
theorem GC (b o:Nat)(w:World)(h0:w.cell? ⟨b,o,ay⟩=J (.pointer (J ⟨b,o,ay⟩))):
  Calls aZ 37 #[.pointer (J ⟨b,o,ay⟩)] w λe w'=>e= .returned (.tuple #[])/\w'=w:=by
 obtain⟨j,hj,_⟩:=bj.1 (show(aZ.info? 57).map (·.size)=J 2 by kernel_rfl)
 go_enter Tryz.func37,Tryz.ntmps37
 go_wp2
 rw[Lib.run_neq_ptr_same w _ (by kernel_rfl) hj]
 go_wp2
 go_end0
 exact⟨rfl,rfl⟩
set_option maxHeartbeats 1000000 in
set_option maxRecDepth 100000 in
theorem FA (b o ty n:Nat)(w:World)(h0:w.cell? ⟨b,o,ay⟩=J (.pointer ay))(av7:w.shape? b=J (ty,n))(aR9:w.frozen? ⟨b,o,ay⟩=ar)(kM:Im places ty o n=av):
  Calls aZ 37 #[.pointer (J ⟨b,o,ay⟩)] w λe w'=>e= .returned (.tuple #[])/\w'=w.setCell ⟨b,o,ay⟩ (.pointer (J ⟨b,o,ay⟩)):=by
 obtain⟨j,hj,aS6⟩:=bj.1 (show(aZ.info? 57).map (·.size)=J 2 by kernel_rfl);have hl:=aw6 _ (NB kM);simp only[aA]at hl
 have kI:o<n:=by have:=aP hl.1;omega
 go_enter Tryz.func37,Tryz.ntmps37
 go_wp2
 rw[Lib.run_to_unsafe w ⟨b,o,ay⟩ (show aZ.underlying 55=J (.pointer 57)by kernel_rfl) (show aZ.underlying 116=J .unsafePointer by kernel_rfl) hj (by rw[aS6];decide) av7 kI];simp only[a74];rw[Oper.upon_value]
 go_wp2
 rw[run_callFunc_extern Tryz.func66 (by kernel_rfl) (by kernel_rfl) (by kernel_rfl) (e:=Extern.AbiNoEscape.same) (by kernel_rfl)];rw[Lib.run_noEscape];simp only[a74];rw[Oper.upon_value]
 go_wp2
 rw[Lib.run_from_unsafe w ⟨b,o,ay⟩ (show aZ.underlying 116=J .unsafePointer by kernel_rfl) (show aZ.underlying 55=J (.pointer 57)by kernel_rfl) hj av7 hl.2];simp only[a74];rw[Oper.upon_value]
 go_wp2
 go_end0
 exact⟨rfl,rfl⟩
end Go.Abs.Bld
end
