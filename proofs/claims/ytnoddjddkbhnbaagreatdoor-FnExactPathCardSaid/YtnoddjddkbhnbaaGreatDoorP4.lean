/- What is here: what strings.Builder's functions and IndexByte answer, as plain functions. What is here: the tables of the program and what the library's functions on numbers answer, as plain functions.  -/
import Derived.Test.YtnoddjddkbhnbaaGreatDoorP3
import Derived.Lib.ParseIntB
import Derived.Lib.ItoaNum
import Derived.Lib.LaidTab
import Derived.Shelf.Strconv.Itoa4
import Derived.Test.YtnoddjddkbhnbaaGreatDoorProg
set_option linter.unusedVariables false
set_option linter.unusedSimpArgs false
set_option maxRecDepth 100000
section
namespace Go.Abs.Bld
def places : List (Nat × Nat × Nat) := [(72, 0, 2), (87, 1, 3)]
@[reducible] def bp : VSp := .one (.ptr false (0, places) .bld)
def writeByteF (x : List Int × Int × Unit) : Option (Bool × List Int × Unit × Unit) := bif fits (x.1.length + 1) then some (true, x.1 ++ [x.2.1], (), ()) else none
def writeStringF (x : List Int × List Int × Unit) : Option ((Int × Bool × Unit) × List Int × Unit × Unit) := bif fits (x.1.length + x.2.1.length) then some ((x.2.1.length, true, ()), x.1 ++ x.2.1, (), ()) else none
def stringF (x : List Int × Unit) : Option (List Int × Unit × Unit) := bif fits x.1.length then some (x.1.map byte, (), ()) else none
def idx : List Int → Int → Int → Int
  | [], _, _ => -1
  | x :: r, c, n => bif decide (x = c) then n else idx r c (n + 1)
def indexByteF (x : List Int × Int × Unit) : Option (Int × Unit × Unit × Unit) := some (idx x.1 (byte x.2.1) 0, (), (), ())
end Go.Abs.Bld
end

section
namespace Go.Abs.Lx
def words : List (List Int) := [[97, 110, 100], [98, 114, 101, 97, 107], [99, 97, 116, 99, 104], [99, 111, 110, 115, 116], [100, 101, 102, 101, 114], [101, 108, 105, 102], [101, 108, 115, 101], [102, 97, 108, 115, 101], [102, 110], [102, 111, 114], [105, 102], [105, 110], [108, 101, 116], [110, 101, 120, 116], [110, 105, 108], [110, 111, 116], [111, 114], [114, 101, 116, 117, 114, 110], [116, 104, 114, 111, 119], [116, 114, 117, 101], [116, 114, 121], [119, 104, 105, 108, 101]]
def signs : List (List Int) := [[40], [41], [123], [125], [91], [93], [44], [61], [46], [46, 46, 46], [35]]
def infixes : List (List Int) := [[43], [45], [42], [47], [47, 47], [37], [38], [124], [126], [60, 60], [62, 62], [46, 46], [61, 61], [126, 61], [60], [60, 61], [62], [62, 61]]
def u8s (l : List Int) : List UInt8 := l.map fun c => c.toNat.toUInt8
def ints (l : List UInt8) : List Int := l.map fun b => (b.toNat : Int)
def parseIntF (x : List Int × Int × Int × Unit) : Option ((Int × Bool × Unit) × Unit × Unit × Unit × Unit) :=
  bif decide (x.2.1 = 10) && decide (x.2.2.1 = 64) && fits x.1.length then
    match Lib.parseIntB 64 (u8s x.1) with
    | .ok v => some ((v, true, ()), (), (), (), ())
    | .range => some ((Lib.intSat 64 (u8s x.1), false, ()), (), (), (), ())
    | _ => none
  else none
def formatIntF (x : Int × Int × Unit) : Option (List Int × Unit × Unit × Unit) :=
  bif decide (x.2.1 = 10) && decide (-9223372036854775808 ≤ x.1) && decide (x.1 ≤ 9223372036854775807) then some (ints (Lib.itoa x.1), (), (), ()) else none
def hexDigit (n : Nat) : Int := bif Nat.blt n 10 then ((48 + n : Nat) : Int) else ((87 + n : Nat) : Int)
def hexText : Nat → Nat → List Int → List Int
  | 0, _, acc => acc
  | k + 1, n, acc => let d := hexDigit (n % 16); bif Nat.blt n 16 then d :: acc else hexText k (n / 16) (d :: acc)
def noUint (_ : Int × Int × Unit) : Option (List Int × Unit × Unit × Unit) := none
def formatUintF (x : Int × Int × Unit) : Option (List Int × Unit × Unit × Unit) :=
  bif decide (x.2.1 = 16) && decide (9223372036854775808 ≤ x.1) && decide (x.1 ≤ 18446744073709551615) then some (hexText 16 x.1.toNat [], (), (), ()) else none
def pow10 : List Cell := Lib.pow10Tab.map fun z => .v (.int .u64) z
def tables (k : Nat) : Option (List Cell) := bif Nat.beq k 1 then some pow10 else bif Nat.beq k 8 then some [.err false] else none
theorem u8s_bytesOf (s : ByteArray) : u8s (bytesOf s) = s.data.toList := by
  unfold u8s bytesOf
  rw [List.map_map]
  have : ((fun c : Int => c.toNat.toUInt8) ∘ fun b : UInt8 => (b.toNat : Int)) = id := by
    funext b
    simp
  rw [this, List.map_id]
theorem ints_bytesOf (l : List UInt8) : bytesOf ⟨l.toArray⟩ = ints l := rfl
end Go.Abs.Lx
end

section
set_option maxRecDepth 100000
namespace Go.Abs.D
open Go.Proofs
abbrev tyTok : Ty := (.pr (.int .i64) (.pr (.int .i64) (.pr (.int .i64) (.pr (.int .i64) (.pr (.int .i64) (.pr .str .un))))))
abbrev tyNode : Ty := (.pr (.int .i64) (.pr (.int .i64) (.pr (.int .i64) (.pr (.int .i64) (.pr (.int .i64) (.pr (.int .i64) (.pr .str (.pr (.sl .str) (.pr (.sl (.int .i64)) .un)))))))))
abbrev tyEnt : Ty := (.pr .str (.pr (.int .i64) (.pr (.int .i64) (.pr (.int .i64) .un))))
def sig (f : Nat) : Sig :=
  bif Nat.beq f 112 then ⟨[.one (.pub (.sl .str)), .one (.pub (.int .i64))], .val (.one (.pub (.int .i64)))⟩ else
  bif Nat.beq f 113 then ⟨[.one (.pub (.sl (.int .i64))), .one (.pub (.int .i64))], .val (.one (.pub (.int .i64)))⟩ else
  bif Nat.beq f 70 then ⟨[.agg (.pr (.pub (.int .i64)) (.pr (.pub (.int .i64)) (.pr (.pub (.int .i64)) (.pr (.pub (.int .i64)) (.pr (.pub (.int .i64)) (.pr (.pub (.int .i64)) (.pr (.pub .str) (.pr (.pub (.sl .str)) (.pr (.pub (.sl (.int .i64))) .un))))))))), .one (.pub (.int .i64))], .val (.one (.pub (.int .i64)))⟩ else
  bif Nat.beq f 37 then ⟨[.one (.pub (.sl tyNode)), .one (.pub (.int .i64))], .val (.one (.pub (.int .i64)))⟩ else
  bif Nat.beq f 10 then ⟨[.agg (.pr (.pub (.sl tyNode)) .un), .one (.pub (.int .i64))], .val (.one (.pub (.int .i64)))⟩ else
  bif Nat.beq f 117 then ⟨[.one (.pub (.sl .str))], .val (.one (.own .str true))⟩ else
  bif Nat.beq f 118 then ⟨[.one (.pub (.sl (.int .i64)))], .val (.one (.own (.int .i64) true))⟩ else
  bif Nat.beq f 73 then ⟨[.agg (.pr (.pub (.int .i64)) (.pr (.pub (.int .i64)) (.pr (.pub (.int .i64)) (.pr (.pub (.int .i64)) (.pr (.pub (.int .i64)) (.pr (.pub (.int .i64)) (.pr (.pub .str) (.pr (.pub (.sl .str)) (.pr (.pub (.sl (.int .i64))) .un)))))))))], .val (.agg (.pr (.pub (.int .i64)) (.pr (.pub (.int .i64)) (.pr (.pub (.int .i64)) (.pr (.pub (.int .i64)) (.pr (.pub (.int .i64)) (.pr (.pub (.int .i64)) (.pr (.pub .str) (.pr (.own .str true) (.pr (.own (.int .i64) true) .un))))))))))⟩ else
  bif Nat.beq f 39 then ⟨[.one (.pub (.sl tyNode))], .val (.one (.own tyNode true))⟩ else
  bif Nat.beq f 12 then ⟨[.agg (.pr (.pub (.sl tyNode)) .un)], .val (.agg (.pr (.own tyNode true) .un))⟩ else
  bif Nat.beq f 114 then ⟨[.one (.pub (.int .i64))], .val (.one (.pub .bool))⟩ else
  bif Nat.beq f 178 then ⟨[.agg (.pr (.pub (.sl tyNode)) .un), .agg (.pr (.pub (.int .i64)) (.pr (.pub (.int .i64)) (.pr (.pub (.int .i64)) (.pr (.pub (.int .i64)) (.pr (.pub (.int .i64)) (.pr (.pub (.int .i64)) (.pr (.pub .str) (.pr (.pub (.sl .str)) (.pr (.pub (.sl (.int .i64))) .un))))))))), .one (.pub (.int .i64))], .val (.one (.pub (.int .i64)))⟩ else
  bif Nat.beq f 179 then ⟨[.agg (.pr (.pub (.int .i64)) (.pr (.pub (.int .i64)) (.pr (.pub (.int .i64)) (.pr (.pub (.int .i64)) (.pr (.pub (.int .i64)) (.pr (.pub (.int .i64)) (.pr (.pub .str) (.pr (.pub (.sl .str)) (.pr (.pub (.sl (.int .i64))) .un))))))))), .one (.pub .bool), .one (.pub .bool), .one (.pub .bool), .one (.pub .bool)], .val (.one (.pub .bool))⟩ else
  bif Nat.beq f 211 then ⟨[.one (.pub (.int .u8))], .val (.one (.pub .bool))⟩ else
  bif Nat.beq f 210 then ⟨[.one (.pub .str), .one (.pub (.int .i64))], .val (.one (.pub (.int .u8)))⟩ else
  bif Nat.beq f 213 then ⟨[.one (.pub (.int .u8))], .val (.one (.pub .bool))⟩ else
  bif Nat.beq f 202 then ⟨[], .val (.one (.own .str true))⟩ else
  bif Nat.beq f 212 then ⟨[.one (.pub .str), .agg (.pr (.pub (.int .i64)) (.pr (.pub (.int .i64)) (.pr (.pub (.int .i64)) (.pr (.pub (.int .i64)) (.pr (.pub (.int .i64)) (.pr (.pub .str) .un))))))], .tup [.agg (.pr (.pub (.int .i64)) (.pr (.pub (.int .i64)) (.pr (.pub (.int .i64)) (.pr (.pub (.int .i64)) (.pr (.pub (.int .i64)) (.pr (.pub .str) .un)))))), .one (.pub (.int .i64))]⟩ else
  bif Nat.beq f 250 then ⟨[.one (.pub (.int .u8))], .val (.one (.pub (.int .i64)))⟩ else
  bif Nat.beq f 249 then ⟨[.one (.pub .str), .agg (.pr (.pub (.int .i64)) (.pr (.pub (.int .i64)) (.pr (.pub (.int .i64)) (.pr (.pub (.int .i64)) (.pr (.pub (.int .i64)) (.pr (.pub .str) .un))))))], .tup [.agg (.pr (.pub (.int .i64)) (.pr (.pub (.int .i64)) (.pr (.pub (.int .i64)) (.pr (.pub (.int .i64)) (.pr (.pub (.int .i64)) (.pr (.pub .str) .un)))))), .one (.pub (.int .i64))]⟩ else
  bif Nat.beq f 214 then ⟨[.one (.pub .str), .agg (.pr (.pub (.int .i64)) (.pr (.pub (.int .i64)) (.pr (.pub (.int .i64)) (.pr (.pub (.int .i64)) (.pr (.pub (.int .i64)) (.pr (.pub .str) .un))))))], .tup [.agg (.pr (.pub (.int .i64)) (.pr (.pub (.int .i64)) (.pr (.pub (.int .i64)) (.pr (.pub (.int .i64)) (.pr (.pub (.int .i64)) (.pr (.pub .str) .un)))))), .one (.pub (.int .i64))]⟩ else
  bif Nat.beq f 215 then ⟨[.one (.pub .str), .agg (.pr (.pub (.int .i64)) (.pr (.pub (.int .i64)) (.pr (.pub (.int .i64)) (.pr (.pub (.int .i64)) (.pr (.pub (.int .i64)) (.pr (.pub .str) .un))))))], .tup [.agg (.pr (.pub (.int .i64)) (.pr (.pub (.int .i64)) (.pr (.pub (.int .i64)) (.pr (.pub (.int .i64)) (.pr (.pub (.int .i64)) (.pr (.pub .str) .un)))))), .one (.pub (.int .i64))]⟩ else
  bif Nat.beq f 203 then ⟨[], .val (.one (.own .str true))⟩ else
  bif Nat.beq f 204 then ⟨[.one (.pub .str)], .val (.one (.pub (.int .i64)))⟩ else
  bif Nat.beq f 144 then ⟨[.one (.pub .str), .one (.pub (.int .i64))], .tup [.agg (.pr (.pub (.int .i64)) (.pr (.pub (.int .i64)) (.pr (.pub (.int .i64)) (.pr (.pub (.int .i64)) (.pr (.pub (.int .i64)) (.pr (.pub .str) .un)))))), .one (.pub (.int .i64))]⟩ else
  bif Nat.beq f 184 then ⟨[.one (.pub .str)], .val (.one (.pub .bool))⟩ else
  bif Nat.beq f 180 then ⟨[.agg (.pr (.pub (.int .i64)) (.pr (.pub (.int .i64)) (.pr (.pub (.int .i64)) (.pr (.pub (.int .i64)) (.pr (.pub (.int .i64)) (.pr (.pub (.int .i64)) (.pr (.pub .str) (.pr (.pub (.sl .str)) (.pr (.pub (.sl (.int .i64))) .un))))))))), .one (.pub (.int .i64)), .one (.pub (.int .i64))], .val (.one (.pub .bool))⟩ else
  bif Nat.beq f 242 then ⟨[.one (.pub (.int .i64))], .val (.one (.pub .bool))⟩ else
  bif Nat.beq f 181 then ⟨[.agg (.pr (.pub (.sl tyNode)) .un), .agg (.pr (.pub (.int .i64)) (.pr (.pub (.int .i64)) (.pr (.pub (.int .i64)) (.pr (.pub (.int .i64)) (.pr (.pub (.int .i64)) (.pr (.pub (.int .i64)) (.pr (.pub .str) (.pr (.pub (.sl .str)) (.pr (.pub (.sl (.int .i64))) .un))))))))), .one (.pub (.int .i64)), .one (.pub (.int .i64))], .val (.one (.pub .bool))⟩ else
  bif Nat.beq f 182 then ⟨[.one (.pub (.int .i64))], .val (.one (.pub .bool))⟩ else
  bif Nat.beq f 115 then ⟨[.agg (.pr (.pub (.sl tyNode)) .un), .agg (.pr (.pub (.int .i64)) (.pr (.pub (.int .i64)) (.pr (.pub (.int .i64)) (.pr (.pub (.int .i64)) (.pr (.pub (.int .i64)) (.pr (.pub (.int .i64)) (.pr (.pub .str) (.pr (.pub (.sl .str)) (.pr (.pub (.sl (.int .i64))) .un)))))))))], .val (.one (.pub .bool))⟩ else
  bif Nat.beq f 183 then ⟨[.one (.pub .str)], .val (.one (.pub .bool))⟩ else
  bif Nat.beq f 116 then ⟨[.agg (.pr (.pub (.sl tyNode)) .un), .agg (.pr (.pub (.int .i64)) (.pr (.pub (.int .i64)) (.pr (.pub (.int .i64)) (.pr (.pub (.int .i64)) (.pr (.pub (.int .i64)) (.pr (.pub (.int .i64)) (.pr (.pub .str) (.pr (.pub (.sl .str)) (.pr (.pub (.sl (.int .i64))) .un)))))))))], .val (.one (.pub .bool))⟩ else
  bif Nat.beq f 71 then ⟨[.agg (.pr (.pub (.sl tyNode)) .un), .one (.pub (.int .i64))], .val (.one (.pub .bool))⟩ else
  bif Nat.beq f 72 then ⟨[.agg (.pr (.pub (.sl tyNode)) .un)], .val (.one (.own (.int .i64) true))⟩ else
  bif Nat.beq f 38 then ⟨[.agg (.pr (.pub (.sl tyNode)) .un)], .val (.agg (.pr (.pub (.int .i64)) (.pr (.pub (.int .i64)) .un)))⟩ else
  bif Nat.beq f 11 then ⟨[.agg (.pr (.pub (.sl tyNode)) .un), .one (.pub (.int .i64))], .val (.one (.own (.int .i64) true))⟩ else
  bif Nat.beq f 185 then ⟨[.one (.pub (.int .i64)), .one (.pub (.int .i64)), .one (.pub (.int .i64))], .val (.one (.pub .bool))⟩ else
  bif Nat.beq f 153 then ⟨[.one (.pub (.int .u8))], .val (.one (.pub .bool))⟩ else
  bif Nat.beq f 154 then ⟨[.one (.pub (.int .u8))], .val (.one (.pub .bool))⟩ else
  bif Nat.beq f 155 then ⟨[.one (.pub .str)], .val (.one (.pub (.int .i64)))⟩ else
  bif Nat.beq f 157 then ⟨[.one (.pub (.int .u8))], .val (.one (.pub .bool))⟩ else
  bif Nat.beq f 257 then ⟨[.one (.pub (.int .u8))], .val (.one (.pub (.int .u8)))⟩ else
  bif Nat.beq f 258 then ⟨[.one (.pub .str)], .val (.one (.pub .bool))⟩ else
  bif Nat.beq f 236 then ⟨[.one (.pub .str), .one (.pub (.int .i64)), .one (.pub (.int .i64))], .tup [.one (.pub (.int .u64)), .one .err]⟩ else
  bif Nat.beq f 158 then ⟨[.one (.pub .str), .one (.pub (.int .i64)), .one (.pub (.int .i64))], .tup [.one (.pub (.int .u64)), .one .err]⟩ else
  bif Nat.beq f 156 then ⟨[.one (.pub .str), .one (.pub (.int .i64))], .tup [.agg (.pr (.pub (.int .i64)) (.pr (.pub (.int .i64)) (.pr (.pub (.int .i64)) (.pr (.pub (.int .i64)) (.pr (.pub (.int .i64)) (.pr (.pub .str) .un)))))), .one (.pub .bool)]⟩ else
  bif Nat.beq f 125 then ⟨[.one (.pub .str), .one (.pub (.int .u8))], .val (.one (.pub (.int .i64)))⟩ else
  bif Nat.beq f 81 then ⟨[.one (.pub .str), .one (.pub (.int .u8))], .val (.one (.pub (.int .i64)))⟩ else
  bif Nat.beq f 139 then ⟨[.one (.pub (.int .i64))], .val (.one (.pub .str))⟩ else
  bif Nat.beq f 234 then ⟨[.one (.pub .str), .one (.pub .str)], .val (.one (.pub .bool))⟩ else
  bif Nat.beq f 152 then ⟨[.one (.pub .str), .one (.pub .str)], .val (.one (.pub .bool))⟩ else
  bif Nat.beq f 101 then ⟨[.one (.pub .str), .one (.pub (.int .i64))], .tup [.agg (.pr (.pub (.int .i64)) (.pr (.pub (.int .i64)) (.pr (.pub (.int .i64)) (.pr (.pub (.int .i64)) (.pr (.pub (.int .i64)) (.pr (.pub .str) .un)))))), .one (.pub .bool)]⟩ else
  bif Nat.beq f 243 then ⟨[.one (.pub .str), .one (.pub (.int .i64))], .val (.one (.pub .bool))⟩ else
  bif Nat.beq f 186 then ⟨[.one (.pub .str)], .val (.one (.pub .bool))⟩ else
  bif Nat.beq f 191 then ⟨[.one (.pub (.int .i64))], .val (.one (.pub .bool))⟩ else
  bif Nat.beq f 189 then ⟨[.one (.pub .bool), .one (.pub .bool), .one (.pub .bool), .one (.pub .bool), .one (.ptr true (3, []) (.pub (.int .i64))), .one (.ptr true (3, []) (.pub (.int .i64))), .one (.ptr true (2, []) (.pub (.int .i64))), .one (.ptr true (9, []) (.pub .str))], .val (.one (.pub .bool))⟩ else
  bif Nat.beq f 188 then ⟨[.one (.pub (.int .i64))], .val (.one (.pub .bool))⟩ else
  bif Nat.beq f 187 then ⟨[.one (.pub (.int .i64)), .one (.pub (.int .i64)), .one (.ptr true (26, []) (.pub (.sl (.int .i64))))], .val (.one (.pub .bool))⟩ else
  bif Nat.beq f 192 then ⟨[.one (.pub .str)], .val (.one (.pub .bool))⟩ else
  bif Nat.beq f 190 then ⟨[.one (.ptr true (3, []) (.pub (.int .i64))), .one (.ptr true (26, []) (.pub (.sl (.int .i64))))], .val (.one (.pub .bool))⟩ else
  bif Nat.beq f 119 then ⟨[.agg (.pr (.pub (.sl tyNode)) .un), .one (.pub (.int .i64))], .val (.one (.pub .bool))⟩ else
  bif Nat.beq f 74 then ⟨[.agg (.pr (.pub (.sl tyNode)) .un)], .val (.agg (.pr (.pub (.int .i64)) (.pr (.pub (.int .i64)) .un)))⟩ else
  bif Nat.beq f 40 then ⟨[.agg (.pr (.pub (.sl tyNode)) .un)], .val (.one (.pub .bool))⟩ else
  bif Nat.beq f 41 then ⟨[.one (.pub (.int .i64)), .one (.ptr true (30, []) (.pr (.pub (.sl tyNode)) .un)), .one (.ptr true (3, []) (.pub (.int .i64)))], .val (.one (.pub .bool))⟩ else
  bif Nat.beq f 13 then ⟨[.agg (.pr (.pub (.sl tyNode)) .un), .one (.pub (.int .i64))], .val (.one (.own (.int .i64) true))⟩ else
  bif Nat.beq f 14 then ⟨[.one (.pub (.sl (.int .i64))), .one (.pub (.sl (.int .i64)))], .val (.one (.pub .bool))⟩ else
  bif Nat.beq f 120 then ⟨[.one (.pub (.sl .str)), .one (.pub (.sl .str))], .val (.one (.pub .bool))⟩ else
  bif Nat.beq f 75 then ⟨[.agg (.pr (.pub (.int .i64)) (.pr (.pub (.int .i64)) (.pr (.pub (.int .i64)) (.pr (.pub (.int .i64)) (.pr (.pub (.int .i64)) (.pr (.pub (.int .i64)) (.pr (.pub .str) (.pr (.pub (.sl .str)) (.pr (.pub (.sl (.int .i64))) .un))))))))), .agg (.pr (.pub (.int .i64)) (.pr (.pub (.int .i64)) (.pr (.pub (.int .i64)) (.pr (.pub (.int .i64)) (.pr (.pub (.int .i64)) (.pr (.pub (.int .i64)) (.pr (.pub .str) (.pr (.pub (.sl .str)) (.pr (.pub (.sl (.int .i64))) .un)))))))))], .val (.one (.pub .bool))⟩ else
  bif Nat.beq f 42 then ⟨[.one (.pub (.sl tyNode)), .one (.pub (.sl tyNode))], .val (.one (.pub .bool))⟩ else
  bif Nat.beq f 15 then ⟨[.agg (.pr (.pub (.sl tyNode)) .un), .agg (.pr (.pub (.sl tyNode)) .un)], .val (.one (.pub .bool))⟩ else
  bif Nat.beq f 47 then ⟨[.one (.pub (.int .i64))], .val (.one (.pub .str))⟩ else
  bif Nat.beq f 76 then ⟨[.one (.lnd .str true), .one (.pub (.int .i64))], .val (.one (.pub (.int .i64)))⟩ else
  bif Nat.beq f 17 then ⟨[.one (.lnd (.int .i64) true), .one (.pub (.int .i64))], .val (.one (.pub (.int .i64)))⟩ else
  bif Nat.beq f 43 then ⟨[.one (.lnd tyNode true), .one (.pub (.int .i64))], .val (.one (.pub (.int .i64)))⟩ else
  bif Nat.beq f 16 then ⟨[.agg (.pr (.lnd tyNode true) .un), .one (.pub (.int .i64))], .val (.one (.pub (.int .i64)))⟩ else
  bif Nat.beq f 18 then ⟨[.one (.pub (.sl (.int .i64))), .one (.pub (.int .i64))], .val (.one (.pub (.int .i64)))⟩ else
  bif Nat.beq f 3 then ⟨[.agg (.pr (.pub (.sl tyNode)) .un), .one (.pub (.int .i64))], .val (.one (.pub .bool))⟩ else
  ⟨[], .none⟩
def fns : List Nat := [112, 113, 70, 37, 10, 117, 118, 73, 39, 12, 114, 178, 179, 211, 210, 213, 202, 212, 250, 249, 214, 215, 203, 204, 144, 184, 180, 242, 181, 182, 115, 183, 116, 71, 72, 38, 11, 185, 153, 154, 155, 157, 257, 258, 236, 158, 156, 125, 81, 139, 234, 152, 101, 243, 186, 191, 189, 188, 187, 192, 190, 119, 74, 40, 41, 13, 14, 120, 75, 42, 15, 47, 76, 17, 43, 16, 18, 3]
def known (f : Nat) : Bool := fns.any (Nat.beq f)
def keep (f : Nat) : List Nat :=
  bif Nat.beq f 189 then [4, 5, 6, 7] else
  bif Nat.beq f 187 then [2] else
  bif Nat.beq f 190 then [0, 1] else
  bif Nat.beq f 41 then [1, 2] else
  bif Nat.beq f 76 then [0] else
  bif Nat.beq f 17 then [0] else
  bif Nat.beq f 43 then [0] else
  bif Nat.beq f 16 then [0] else
  []
def isCut (f : Nat) (k : Bool) (r : Nat) : Bool := (Nat.beq f 11 && k == true && Nat.beq r 6) || (Nat.beq f 11 && k == true && Nat.beq r 13) || (Nat.beq f 13 && k == true && Nat.beq r 8) || (Nat.beq f 13 && k == true && Nat.beq r 10) || (Nat.beq f 14 && k == true && Nat.beq r 4) || (Nat.beq f 17 && k == true && Nat.beq r 2) || (Nat.beq f 18 && k == true && Nat.beq r 2) || (Nat.beq f 37 && k == true && Nat.beq r 5) || (Nat.beq f 38 && k == true && Nat.beq r 4) || (Nat.beq f 38 && k == true && Nat.beq r 11) || (Nat.beq f 38 && k == true && Nat.beq r 20) || (Nat.beq f 38 && k == true && Nat.beq r 23) || (Nat.beq f 38 && k == true && Nat.beq r 28) || (Nat.beq f 39 && k == true && Nat.beq r 3) || (Nat.beq f 42 && k == true && Nat.beq r 4) || (Nat.beq f 43 && k == true && Nat.beq r 2) || (Nat.beq f 47 && k == true && Nat.beq r 4) || (Nat.beq f 71 && k == true && Nat.beq r 5) || (Nat.beq f 72 && k == true && Nat.beq r 3) || (Nat.beq f 72 && k == true && Nat.beq r 8) || (Nat.beq f 74 && k == true && Nat.beq r 5) || (Nat.beq f 74 && k == true && Nat.beq r 12) || (Nat.beq f 74 && k == true && Nat.beq r 16) || (Nat.beq f 74 && k == true && Nat.beq r 27) || (Nat.beq f 74 && k == true && Nat.beq r 30) || (Nat.beq f 74 && k == true && Nat.beq r 35) || (Nat.beq f 76 && k == true && Nat.beq r 2) || (Nat.beq f 101 && k == true && Nat.beq r 5) || (Nat.beq f 101 && k == true && Nat.beq r 18) || (Nat.beq f 101 && k == true && Nat.beq r 39) || (Nat.beq f 101 && k == true && Nat.beq r 49) || (Nat.beq f 112 && k == true && Nat.beq r 5) || (Nat.beq f 115 && k == true && Nat.beq r 5) || (Nat.beq f 115 && k == true && Nat.beq r 21) || (Nat.beq f 115 && k == false && Nat.beq r 28) || (Nat.beq f 115 && k == false && Nat.beq r 41) || (Nat.beq f 115 && k == false && Nat.beq r 46) || (Nat.beq f 116 && k == false && Nat.beq r 7) || (Nat.beq f 116 && k == false && Nat.beq r 18) || (Nat.beq f 116 && k == true && Nat.beq r 31) || (Nat.beq f 116 && k == false && Nat.beq r 46) || (Nat.beq f 117 && k == true && Nat.beq r 3) || (Nat.beq f 118 && k == true && Nat.beq r 3) || (Nat.beq f 119 && k == true && Nat.beq r 6) || (Nat.beq f 119 && k == true && Nat.beq r 13) || (Nat.beq f 119 && k == true && Nat.beq r 26) || (Nat.beq f 119 && k == true && Nat.beq r 42) || (Nat.beq f 119 && k == false && Nat.beq r 50) || (Nat.beq f 119 && k == false && Nat.beq r 65) || (Nat.beq f 119 && k == false && Nat.beq r 72) || (Nat.beq f 119 && k == false && Nat.beq r 84) || (Nat.beq f 119 && k == true && Nat.beq r 97) || (Nat.beq f 120 && k == true && Nat.beq r 4) || (Nat.beq f 144 && k == true && Nat.beq r 14) || (Nat.beq f 155 && k == true && Nat.beq r 2) || (Nat.beq f 156 && k == true && Nat.beq r 5) || (Nat.beq f 156 && k == true && Nat.beq r 15) || (Nat.beq f 156 && k == false && Nat.beq r 17) || (Nat.beq f 156 && k == true && Nat.beq r 20) || (Nat.beq f 156 && k == false && Nat.beq r 22) || (Nat.beq f 156 && k == false && Nat.beq r 26) || (Nat.beq f 156 && k == true && Nat.beq r 29) || (Nat.beq f 156 && k == false && Nat.beq r 31) || (Nat.beq f 180 && k == true && Nat.beq r 4) || (Nat.beq f 181 && k == true && Nat.beq r 2) || (Nat.beq f 187 && k == true && Nat.beq r 2) || (Nat.beq f 204 && k == true && Nat.beq r 3) || (Nat.beq f 204 && k == true && Nat.beq r 9) || (Nat.beq f 212 && k == true && Nat.beq r 2) || (Nat.beq f 212 && k == true && Nat.beq r 8) || (Nat.beq f 214 && k == true && Nat.beq r 7) || (Nat.beq f 214 && k == false && Nat.beq r 9) || (Nat.beq f 214 && k == true && Nat.beq r 12) || (Nat.beq f 214 && k == false && Nat.beq r 14) || (Nat.beq f 214 && k == true && Nat.beq r 21) || (Nat.beq f 214 && k == false && Nat.beq r 23) || (Nat.beq f 214 && k == true && Nat.beq r 26) || (Nat.beq f 215 && k == true && Nat.beq r 4) || (Nat.beq f 215 && k == false && Nat.beq r 24) || (Nat.beq f 215 && k == true && Nat.beq r 27) || (Nat.beq f 236 && k == false && Nat.beq r 21) || (Nat.beq f 236 && k == false && Nat.beq r 25) || (Nat.beq f 236 && k == false && Nat.beq r 32) || (Nat.beq f 236 && k == true && Nat.beq r 36) || (Nat.beq f 236 && k == false && Nat.beq r 46) || (Nat.beq f 249 && k == true && Nat.beq r 3) || (Nat.beq f 258 && k == false && Nat.beq r 5) || (Nat.beq f 258 && k == false && Nat.beq r 10) || (Nat.beq f 258 && k == true && Nat.beq r 10)
def cut (f : Nat) (k : Bool) (r : Nat) : Cut :=
  bif (Nat.beq f 11 && k == true && Nat.beq r 6) then ⟨[1, 2, 6, 7], [.one (.pub (.int .i64)), .one (.ptr true (30, []) (.pr (.pub (.sl tyNode)) .un)), .one (.own (.int .i64) true), .one (.pub (.int .i64))], [⟨.ret, [4], [.one (.own (.int .i64) true)], []⟩, ⟨.exit 0, [6], [.one (.own (.int .i64) true)], []⟩], []⟩ else
  bif (Nat.beq f 11 && k == true && Nat.beq r 13) then ⟨[1, 2, 6, 7, 43, 44, 45], [.one (.pub (.int .i64)), .one (.ptr true (30, []) (.pr (.pub (.sl tyNode)) .un)), .one (.own (.int .i64) true), .one (.pub (.int .i64)), .one (.pub (.sl (.int .i64))), .one (.pub (.int .i64)), .one (.pub (.int .i64))], [⟨.exit 2, [1, 2, 6, 7], [.one (.pub (.int .i64)), .one (.ptr true (30, []) (.pr (.pub (.sl tyNode)) .un)), .one (.own (.int .i64) true), .one (.pub (.int .i64))], []⟩], []⟩ else
  bif (Nat.beq f 13 && k == true && Nat.beq r 8) then ⟨[2, 3, 6, 7], [.one (.ptr true (30, []) (.pr (.pub (.sl tyNode)) .un)), .one (.ptr true (3, []) (.pub (.int .i64))), .one (.pub (.int .i64)), .one (.own (.int .i64) true)], [⟨.ret, [4], [.one (.own (.int .i64) true)], []⟩], [(5, 41, [2, 3])]⟩ else
  bif (Nat.beq f 13 && k == true && Nat.beq r 10) then ⟨[2, 3, 7, 8, 30, 31, 32], [.one (.ptr true (30, []) (.pr (.pub (.sl tyNode)) .un)), .one (.ptr true (3, []) (.pub (.int .i64))), .one (.own (.int .i64) true), .one (.pub (.int .i64)), .one (.pub (.sl (.int .i64))), .one (.pub (.int .i64)), .one (.pub (.int .i64))], [⟨.exit 2, [2, 3, 7, 8], [.one (.ptr true (30, []) (.pr (.pub (.sl tyNode)) .un)), .one (.ptr true (3, []) (.pub (.int .i64))), .one (.own (.int .i64) true), .one (.pub (.int .i64))], [(5, 41, [2, 3])]⟩], [(5, 41, [2, 3])]⟩ else
  bif (Nat.beq f 14 && k == true && Nat.beq r 4) then ⟨[0, 1, 5], [.one (.pub (.sl (.int .i64))), .one (.pub (.sl (.int .i64))), .one (.pub (.int .i64))], [⟨.ret, [4], [.one (.pub .bool)], []⟩, ⟨.exit 0, [], [], []⟩], []⟩ else
  bif (Nat.beq f 17 && k == true && Nat.beq r 2) then ⟨[0, 1, 5], [.one (.own (.int .i64) true), .one (.pub (.int .i64)), .one (.pub (.int .i64))], [⟨.exit 0, [0, 1], [.one (.own (.int .i64) true), .one (.pub (.int .i64))], []⟩], []⟩ else
  bif (Nat.beq f 18 && k == true && Nat.beq r 2) then ⟨[0, 1, 5], [.one (.pub (.sl (.int .i64))), .one (.pub (.int .i64)), .one (.pub (.int .i64))], [⟨.ret, [4], [.one (.pub (.int .i64))], []⟩, ⟨.exit 0, [1], [.one (.pub (.int .i64))], []⟩], []⟩ else
  bif (Nat.beq f 37 && k == true && Nat.beq r 5) then ⟨[0, 1, 5], [.one (.pub (.sl tyNode)), .one (.pub (.int .i64)), .one (.pub (.int .i64))], [⟨.ret, [4], [.one (.pub (.int .i64))], []⟩, ⟨.exit 0, [1], [.one (.pub (.int .i64))], []⟩], []⟩ else
  bif (Nat.beq f 38 && k == true && Nat.beq r 4) then ⟨[1, 2, 38, 39], [.one (.ptr true (30, []) (.pr (.pub (.sl tyNode)) .un)), .one (.ptr true (52, []) (.pr (.pub (.int .i64)) (.pr (.pub (.int .i64)) .un))), .one (.pub (.int .i64)), .one (.pub (.int .i64))], [⟨.ret, [2], [.one (.ptr true (52, []) (.pr (.pub (.int .i64)) (.pr (.pub (.int .i64)) .un)))], []⟩, ⟨.exit 0, [1, 2], [.one (.ptr true (30, []) (.pr (.pub (.sl tyNode)) .un)), .one (.ptr true (52, []) (.pr (.pub (.int .i64)) (.pr (.pub (.int .i64)) .un)))], []⟩], []⟩ else
  bif (Nat.beq f 38 && k == true && Nat.beq r 11) then ⟨[1, 2, 4, 51, 52, 53], [.one (.ptr true (30, []) (.pr (.pub (.sl tyNode)) .un)), .one (.ptr true (52, []) (.pr (.pub (.int .i64)) (.pr (.pub (.int .i64)) .un))), .one (.pub (.sl (.int .i64))), .one (.pub (.sl (.int .i64))), .one (.pub (.int .i64)), .one (.pub (.int .i64))], [⟨.ret, [2], [.one (.ptr true (52, []) (.pr (.pub (.int .i64)) (.pr (.pub (.int .i64)) .un)))], []⟩, ⟨.exit 2, [1, 2, 4], [.one (.ptr true (30, []) (.pr (.pub (.sl tyNode)) .un)), .one (.ptr true (52, []) (.pr (.pub (.int .i64)) (.pr (.pub (.int .i64)) .un))), .one (.pub (.sl (.int .i64)))], []⟩], []⟩ else
  bif (Nat.beq f 38 && k == true && Nat.beq r 20) then ⟨[1, 2, 7, 8], [.one (.ptr true (30, []) (.pr (.pub (.sl tyNode)) .un)), .one (.ptr true (52, []) (.pr (.pub (.int .i64)) (.pr (.pub (.int .i64)) .un))), .one (.own (.int .i64) true), .one (.pub (.int .i64))], [⟨.exit 4, [2, 7], [.one (.ptr true (52, []) (.pr (.pub (.int .i64)) (.pr (.pub (.int .i64)) .un))), .one (.own (.int .i64) true)], []⟩], []⟩ else
  bif (Nat.beq f 38 && k == true && Nat.beq r 23) then ⟨[1, 2, 7, 8, 93, 94, 95], [.one (.ptr true (30, []) (.pr (.pub (.sl tyNode)) .un)), .one (.ptr true (52, []) (.pr (.pub (.int .i64)) (.pr (.pub (.int .i64)) .un))), .one (.own (.int .i64) true), .one (.pub (.int .i64)), .one (.pub (.sl (.int .i64))), .one (.pub (.int .i64)), .one (.pub (.int .i64))], [⟨.exit 6, [1, 2, 7, 8], [.one (.ptr true (30, []) (.pr (.pub (.sl tyNode)) .un)), .one (.ptr true (52, []) (.pr (.pub (.int .i64)) (.pr (.pub (.int .i64)) .un))), .one (.own (.int .i64) true), .one (.pub (.int .i64))], []⟩], []⟩ else
  bif (Nat.beq f 38 && k == true && Nat.beq r 28) then ⟨[2, 108, 109, 110], [.one (.ptr true (52, []) (.pr (.pub (.int .i64)) (.pr (.pub (.int .i64)) .un))), .one (.own (.int .i64) true), .one (.pub (.int .i64)), .one (.pub (.int .i64))], [⟨.ret, [2], [.one (.ptr true (52, []) (.pr (.pub (.int .i64)) (.pr (.pub (.int .i64)) .un)))], []⟩, ⟨.exit 8, [2], [.one (.ptr true (52, []) (.pr (.pub (.int .i64)) (.pr (.pub (.int .i64)) .un)))], []⟩], []⟩ else
  bif (Nat.beq f 39 && k == true && Nat.beq r 3) then ⟨[0, 3, 4], [.one (.pub (.sl tyNode)), .one (.own tyNode true), .one (.pub (.int .i64))], [⟨.exit 0, [3], [.one (.own tyNode true)], []⟩], []⟩ else
  bif (Nat.beq f 42 && k == true && Nat.beq r 4) then ⟨[0, 1, 5], [.one (.pub (.sl tyNode)), .one (.pub (.sl tyNode)), .one (.pub (.int .i64))], [⟨.ret, [4], [.one (.pub .bool)], []⟩, ⟨.exit 0, [], [], []⟩], []⟩ else
  bif (Nat.beq f 43 && k == true && Nat.beq r 2) then ⟨[0, 1, 5], [.one (.own tyNode true), .one (.pub (.int .i64)), .one (.pub (.int .i64))], [⟨.exit 0, [0, 1], [.one (.own tyNode true), .one (.pub (.int .i64))], []⟩], []⟩ else
  bif (Nat.beq f 47 && k == true && Nat.beq r 4) then ⟨[0, 3], [.one (.pub (.int .i64)), .one (.pub .str)], [⟨.exit 0, [3], [.one (.pub .str)], []⟩], []⟩ else
  bif (Nat.beq f 71 && k == true && Nat.beq r 5) then ⟨[1, 2, 5, 35, 36, 37], [.one (.pub (.int .i64)), .one (.ptr true (30, []) (.pr (.pub (.sl tyNode)) .un)), .one (.ptr true (56, []) (.pr (.pub (.int .i64)) (.pr (.pub (.int .i64)) (.pr (.pub (.int .i64)) (.pr (.pub (.int .i64)) (.pr (.pub (.int .i64)) (.pr (.pub (.int .i64)) (.pr (.pub .str) (.pr (.pub (.sl .str)) (.pr (.pub (.sl (.int .i64))) .un)))))))))), .one (.pub (.sl (.int .i64))), .one (.pub (.int .i64)), .one (.pub (.int .i64))], [⟨.ret, [4], [.one (.pub .bool)], []⟩, ⟨.exit 0, [2, 5], [.one (.ptr true (30, []) (.pr (.pub (.sl tyNode)) .un)), .one (.ptr true (56, []) (.pr (.pub (.int .i64)) (.pr (.pub (.int .i64)) (.pr (.pub (.int .i64)) (.pr (.pub (.int .i64)) (.pr (.pub (.int .i64)) (.pr (.pub (.int .i64)) (.pr (.pub .str) (.pr (.pub (.sl .str)) (.pr (.pub (.sl (.int .i64))) .un))))))))))], []⟩], []⟩ else
  bif (Nat.beq f 72 && k == true && Nat.beq r 3) then ⟨[3, 15, 16, 17], [.one (.own (.int .i64) true), .one (.pub (.sl tyNode)), .one (.pub (.int .i64)), .one (.pub (.int .i64))], [⟨.exit 0, [3], [.one (.own (.int .i64) true)], []⟩], []⟩ else
  bif (Nat.beq f 72 && k == true && Nat.beq r 8) then ⟨[3, 4, 5, 6, 7, 8, 15, 16, 17], [.one (.own (.int .i64) true), .one (.pub (.int .i64)), .one (.ptr true (56, []) (.pr (.pub (.int .i64)) (.pr (.pub (.int .i64)) (.pr (.pub (.int .i64)) (.pr (.pub (.int .i64)) (.pr (.pub (.int .i64)) (.pr (.pub (.int .i64)) (.pr (.pub .str) (.pr (.pub (.sl .str)) (.pr (.pub (.sl (.int .i64))) .un)))))))))), .one (.pub (.int .i64)), .one (.pub .bool), .one (.pub (.int .i64)), .one (.pub (.sl tyNode)), .one (.pub (.int .i64)), .one (.pub (.int .i64))], [⟨.exit 2, [3, 4, 6, 7, 15, 16, 17], [.one (.own (.int .i64) true), .one (.pub (.int .i64)), .one (.pub (.int .i64)), .one (.pub .bool), .one (.pub (.sl tyNode)), .one (.pub (.int .i64)), .one (.pub (.int .i64))], []⟩], []⟩ else
  bif (Nat.beq f 74 && k == true && Nat.beq r 5) then ⟨[1, 2, 3, 37, 38], [.one (.ptr true (30, []) (.pr (.pub (.sl tyNode)) .un)), .one (.ptr true (52, []) (.pr (.pub (.int .i64)) (.pr (.pub (.int .i64)) .un))), .one (.pub (.int .i64)), .one (.pub (.int .i64)), .one (.pub (.int .i64))], [⟨.ret, [2], [.one (.ptr true (52, []) (.pr (.pub (.int .i64)) (.pr (.pub (.int .i64)) .un)))], []⟩, ⟨.exit 0, [1, 2, 3], [.one (.ptr true (30, []) (.pr (.pub (.sl tyNode)) .un)), .one (.ptr true (52, []) (.pr (.pub (.int .i64)) (.pr (.pub (.int .i64)) .un))), .one (.pub (.int .i64))], []⟩], []⟩ else
  bif (Nat.beq f 74 && k == true && Nat.beq r 12) then ⟨[1, 2, 3, 5, 51, 52, 53], [.one (.ptr true (30, []) (.pr (.pub (.sl tyNode)) .un)), .one (.ptr true (52, []) (.pr (.pub (.int .i64)) (.pr (.pub (.int .i64)) .un))), .one (.pub (.int .i64)), .one (.own (.int .i64) true), .one (.pub (.sl tyNode)), .one (.pub (.int .i64)), .one (.pub (.int .i64))], [⟨.ret, [2], [.one (.ptr true (52, []) (.pr (.pub (.int .i64)) (.pr (.pub (.int .i64)) .un)))], []⟩, ⟨.exit 2, [1, 2, 3], [.one (.ptr true (30, []) (.pr (.pub (.sl tyNode)) .un)), .one (.ptr true (52, []) (.pr (.pub (.int .i64)) (.pr (.pub (.int .i64)) .un))), .one (.pub (.int .i64))], []⟩], []⟩ else
  bif (Nat.beq f 74 && k == true && Nat.beq r 16) then ⟨[1, 2, 3, 5, 6, 7, 8, 9, 51, 52, 53], [.one (.ptr true (30, []) (.pr (.pub (.sl tyNode)) .un)), .one (.ptr true (52, []) (.pr (.pub (.int .i64)) (.pr (.pub (.int .i64)) .un))), .one (.pub (.int .i64)), .one (.own (.int .i64) true), .one (.pub (.int .i64)), .one (.ptr true (56, []) (.pr (.pub (.int .i64)) (.pr (.pub (.int .i64)) (.pr (.pub (.int .i64)) (.pr (.pub (.int .i64)) (.pr (.pub (.int .i64)) (.pr (.pub (.int .i64)) (.pr (.pub .str) (.pr (.pub (.sl .str)) (.pr (.pub (.sl (.int .i64))) .un)))))))))), .one (.pub (.int .i64)), .one (.pub (.int .i64)), .one (.pub (.sl tyNode)), .one (.pub (.int .i64)), .one (.pub (.int .i64))], [⟨.ret, [2], [.one (.ptr true (52, []) (.pr (.pub (.int .i64)) (.pr (.pub (.int .i64)) .un)))], []⟩, ⟨.exit 4, [1, 2, 3, 5, 6, 8, 51, 52, 53], [.one (.ptr true (30, []) (.pr (.pub (.sl tyNode)) .un)), .one (.ptr true (52, []) (.pr (.pub (.int .i64)) (.pr (.pub (.int .i64)) .un))), .one (.pub (.int .i64)), .one (.own (.int .i64) true), .one (.pub (.int .i64)), .one (.pub (.int .i64)), .one (.pub (.sl tyNode)), .one (.pub (.int .i64)), .one (.pub (.int .i64))], []⟩], []⟩ else
  bif (Nat.beq f 74 && k == true && Nat.beq r 27) then ⟨[1, 2, 10, 11], [.one (.ptr true (30, []) (.pr (.pub (.sl tyNode)) .un)), .one (.ptr true (52, []) (.pr (.pub (.int .i64)) (.pr (.pub (.int .i64)) .un))), .one (.own (.int .i64) true), .one (.pub (.int .i64))], [⟨.exit 6, [2, 10], [.one (.ptr true (52, []) (.pr (.pub (.int .i64)) (.pr (.pub (.int .i64)) .un))), .one (.own (.int .i64) true)], []⟩], []⟩ else
  bif (Nat.beq f 74 && k == true && Nat.beq r 30) then ⟨[1, 2, 10, 11, 113, 114, 115], [.one (.ptr true (30, []) (.pr (.pub (.sl tyNode)) .un)), .one (.ptr true (52, []) (.pr (.pub (.int .i64)) (.pr (.pub (.int .i64)) .un))), .one (.own (.int .i64) true), .one (.pub (.int .i64)), .one (.pub (.sl (.int .i64))), .one (.pub (.int .i64)), .one (.pub (.int .i64))], [⟨.exit 8, [1, 2, 10, 11], [.one (.ptr true (30, []) (.pr (.pub (.sl tyNode)) .un)), .one (.ptr true (52, []) (.pr (.pub (.int .i64)) (.pr (.pub (.int .i64)) .un))), .one (.own (.int .i64) true), .one (.pub (.int .i64))], []⟩], []⟩ else
  bif (Nat.beq f 74 && k == true && Nat.beq r 35) then ⟨[2, 10, 129, 130], [.one (.ptr true (52, []) (.pr (.pub (.int .i64)) (.pr (.pub (.int .i64)) .un))), .one (.own (.int .i64) true), .one (.pub (.int .i64)), .one (.pub (.int .i64))], [⟨.ret, [2], [.one (.ptr true (52, []) (.pr (.pub (.int .i64)) (.pr (.pub (.int .i64)) .un)))], []⟩, ⟨.exit 10, [2], [.one (.ptr true (52, []) (.pr (.pub (.int .i64)) (.pr (.pub (.int .i64)) .un)))], []⟩], []⟩ else
  bif (Nat.beq f 76 && k == true && Nat.beq r 2) then ⟨[0, 1, 5], [.one (.own .str true), .one (.pub (.int .i64)), .one (.pub (.int .i64))], [⟨.exit 0, [0, 1], [.one (.own .str true), .one (.pub (.int .i64))], []⟩], []⟩ else
  bif (Nat.beq f 101 && k == true && Nat.beq r 5) then ⟨[0, 1, 4, 7], [.one (.pub .str), .one (.pub (.int .i64)), .one (.ptr true (100, []) (.pr (.pub (.int .i64)) (.pr (.pub (.int .i64)) (.pr (.pub (.int .i64)) (.pr (.pub (.int .i64)) (.pr (.pub (.int .i64)) (.pr (.pub .str) .un))))))), .one (.pub (.int .i64))], [⟨.exit 1, [0, 1, 4, 7], [.one (.pub .str), .one (.pub (.int .i64)), .one (.ptr true (100, []) (.pr (.pub (.int .i64)) (.pr (.pub (.int .i64)) (.pr (.pub (.int .i64)) (.pr (.pub (.int .i64)) (.pr (.pub (.int .i64)) (.pr (.pub .str) .un))))))), .one (.pub (.int .i64))], []⟩], []⟩ else
  bif (Nat.beq f 101 && k == true && Nat.beq r 18) then ⟨[0, 4, 8, 9], [.one (.pub .str), .one (.ptr true (100, []) (.pr (.pub (.int .i64)) (.pr (.pub (.int .i64)) (.pr (.pub (.int .i64)) (.pr (.pub (.int .i64)) (.pr (.pub (.int .i64)) (.pr (.pub .str) .un))))))), .one (.own (.int .u8) true), .one (.pub (.int .i64))], [⟨.ret, [4, 5], [.one (.ptr true (100, []) (.pr (.pub (.int .i64)) (.pr (.pub (.int .i64)) (.pr (.pub (.int .i64)) (.pr (.pub (.int .i64)) (.pr (.pub (.int .i64)) (.pr (.pub .str) .un))))))), .one (.pub .bool)], []⟩], []⟩ else
  bif (Nat.beq f 101 && k == true && Nat.beq r 39) then ⟨[0, 4, 8, 9, 11], [.one (.pub .str), .one (.ptr true (100, []) (.pr (.pub (.int .i64)) (.pr (.pub (.int .i64)) (.pr (.pub (.int .i64)) (.pr (.pub (.int .i64)) (.pr (.pub (.int .i64)) (.pr (.pub .str) .un))))))), .one (.own (.int .u8) true), .one (.pub (.int .i64)), .one (.pub (.int .i64))], [⟨.ret, [4, 5], [.one (.ptr true (100, []) (.pr (.pub (.int .i64)) (.pr (.pub (.int .i64)) (.pr (.pub (.int .i64)) (.pr (.pub (.int .i64)) (.pr (.pub (.int .i64)) (.pr (.pub .str) .un))))))), .one (.pub .bool)], []⟩, ⟨.exit 5, [0, 4, 8, 9], [.one (.pub .str), .one (.ptr true (100, []) (.pr (.pub (.int .i64)) (.pr (.pub (.int .i64)) (.pr (.pub (.int .i64)) (.pr (.pub (.int .i64)) (.pr (.pub (.int .i64)) (.pr (.pub .str) .un))))))), .one (.own (.int .u8) true), .one (.pub (.int .i64))], []⟩], []⟩ else
  bif (Nat.beq f 101 && k == true && Nat.beq r 49) then ⟨[0, 1, 4, 14, 15], [.one (.pub .str), .one (.pub (.int .i64)), .one (.ptr true (100, []) (.pr (.pub (.int .i64)) (.pr (.pub (.int .i64)) (.pr (.pub (.int .i64)) (.pr (.pub (.int .i64)) (.pr (.pub (.int .i64)) (.pr (.pub .str) .un))))))), .one (.pub (.int .i64)), .one (.pub (.int .i64))], [⟨.exit 7, [1, 4], [.one (.pub (.int .i64)), .one (.ptr true (100, []) (.pr (.pub (.int .i64)) (.pr (.pub (.int .i64)) (.pr (.pub (.int .i64)) (.pr (.pub (.int .i64)) (.pr (.pub (.int .i64)) (.pr (.pub .str) .un)))))))], []⟩], []⟩ else
  bif (Nat.beq f 112 && k == true && Nat.beq r 5) then ⟨[0, 1, 5], [.one (.pub (.sl .str)), .one (.pub (.int .i64)), .one (.pub (.int .i64))], [⟨.ret, [4], [.one (.pub (.int .i64))], []⟩, ⟨.exit 0, [1], [.one (.pub (.int .i64))], []⟩], []⟩ else
  bif (Nat.beq f 115 && k == true && Nat.beq r 5) then ⟨[2, 3, 17, 18], [.one (.ptr true (30, []) (.pr (.pub (.sl tyNode)) .un)), .one (.ptr true (56, []) (.pr (.pub (.int .i64)) (.pr (.pub (.int .i64)) (.pr (.pub (.int .i64)) (.pr (.pub (.int .i64)) (.pr (.pub (.int .i64)) (.pr (.pub (.int .i64)) (.pr (.pub .str) (.pr (.pub (.sl .str)) (.pr (.pub (.sl (.int .i64))) .un)))))))))), .one (.pub (.int .i64)), .one (.pub (.int .i64))], [⟨.ret, [4], [.one (.pub .bool)], []⟩, ⟨.exit 1, [3], [.one (.ptr true (56, []) (.pr (.pub (.int .i64)) (.pr (.pub (.int .i64)) (.pr (.pub (.int .i64)) (.pr (.pub (.int .i64)) (.pr (.pub (.int .i64)) (.pr (.pub (.int .i64)) (.pr (.pub .str) (.pr (.pub (.sl .str)) (.pr (.pub (.sl (.int .i64))) .un))))))))))], []⟩], []⟩ else
  bif (Nat.beq f 115 && k == true && Nat.beq r 21) then ⟨[2, 3, 5, 7], [.one (.ptr true (30, []) (.pr (.pub (.sl tyNode)) .un)), .one (.ptr true (56, []) (.pr (.pub (.int .i64)) (.pr (.pub (.int .i64)) (.pr (.pub (.int .i64)) (.pr (.pub (.int .i64)) (.pr (.pub (.int .i64)) (.pr (.pub (.int .i64)) (.pr (.pub .str) (.pr (.pub (.sl .str)) (.pr (.pub (.sl (.int .i64))) .un)))))))))), .one (.pub (.int .i64)), .one (.pub (.int .i64))], [⟨.ret, [4], [.one (.pub .bool)], []⟩, ⟨.exit 3, [2, 3, 5], [.one (.ptr true (30, []) (.pr (.pub (.sl tyNode)) .un)), .one (.ptr true (56, []) (.pr (.pub (.int .i64)) (.pr (.pub (.int .i64)) (.pr (.pub (.int .i64)) (.pr (.pub (.int .i64)) (.pr (.pub (.int .i64)) (.pr (.pub (.int .i64)) (.pr (.pub .str) (.pr (.pub (.sl .str)) (.pr (.pub (.sl (.int .i64))) .un)))))))))), .one (.pub (.int .i64))], []⟩], []⟩ else
  bif (Nat.beq f 115 && k == false && Nat.beq r 28) then ⟨[2, 3, 5, 12, 113], [.one (.ptr true (30, []) (.pr (.pub (.sl tyNode)) .un)), .one (.ptr true (56, []) (.pr (.pub (.int .i64)) (.pr (.pub (.int .i64)) (.pr (.pub (.int .i64)) (.pr (.pub (.int .i64)) (.pr (.pub (.int .i64)) (.pr (.pub (.int .i64)) (.pr (.pub .str) (.pr (.pub (.sl .str)) (.pr (.pub (.sl (.int .i64))) .un)))))))))), .one (.pub (.int .i64)), .one (.pub (.int .i64)), .one (.pub .bool)], [⟨.ret, [4], [.one (.pub .bool)], []⟩, ⟨.normal, [2, 3, 5], [.one (.ptr true (30, []) (.pr (.pub (.sl tyNode)) .un)), .one (.ptr true (56, []) (.pr (.pub (.int .i64)) (.pr (.pub (.int .i64)) (.pr (.pub (.int .i64)) (.pr (.pub (.int .i64)) (.pr (.pub (.int .i64)) (.pr (.pub (.int .i64)) (.pr (.pub .str) (.pr (.pub (.sl .str)) (.pr (.pub (.sl (.int .i64))) .un)))))))))), .one (.pub (.int .i64))], []⟩], []⟩ else
  bif (Nat.beq f 115 && k == false && Nat.beq r 41) then ⟨[2, 3, 5, 12, 240], [.one (.ptr true (30, []) (.pr (.pub (.sl tyNode)) .un)), .one (.ptr true (56, []) (.pr (.pub (.int .i64)) (.pr (.pub (.int .i64)) (.pr (.pub (.int .i64)) (.pr (.pub (.int .i64)) (.pr (.pub (.int .i64)) (.pr (.pub (.int .i64)) (.pr (.pub .str) (.pr (.pub (.sl .str)) (.pr (.pub (.sl (.int .i64))) .un)))))))))), .one (.pub (.int .i64)), .one (.pub (.int .i64)), .one (.pub .bool)], [⟨.ret, [4], [.one (.pub .bool)], []⟩, ⟨.normal, [2, 3, 5], [.one (.ptr true (30, []) (.pr (.pub (.sl tyNode)) .un)), .one (.ptr true (56, []) (.pr (.pub (.int .i64)) (.pr (.pub (.int .i64)) (.pr (.pub (.int .i64)) (.pr (.pub (.int .i64)) (.pr (.pub (.int .i64)) (.pr (.pub (.int .i64)) (.pr (.pub .str) (.pr (.pub (.sl .str)) (.pr (.pub (.sl (.int .i64))) .un)))))))))), .one (.pub (.int .i64))], []⟩], []⟩ else
  bif (Nat.beq f 115 && k == false && Nat.beq r 46) then ⟨[2, 3, 5], [.one (.ptr true (30, []) (.pr (.pub (.sl tyNode)) .un)), .one (.ptr true (56, []) (.pr (.pub (.int .i64)) (.pr (.pub (.int .i64)) (.pr (.pub (.int .i64)) (.pr (.pub (.int .i64)) (.pr (.pub (.int .i64)) (.pr (.pub (.int .i64)) (.pr (.pub .str) (.pr (.pub (.sl .str)) (.pr (.pub (.sl (.int .i64))) .un)))))))))), .one (.pub (.int .i64))], [⟨.ret, [4], [.one (.pub .bool)], []⟩], []⟩ else
  bif (Nat.beq f 116 && k == false && Nat.beq r 7) then ⟨[2, 3, 5, 12, 13], [.one (.ptr true (30, []) (.pr (.pub (.sl tyNode)) .un)), .one (.ptr true (56, []) (.pr (.pub (.int .i64)) (.pr (.pub (.int .i64)) (.pr (.pub (.int .i64)) (.pr (.pub (.int .i64)) (.pr (.pub (.int .i64)) (.pr (.pub (.int .i64)) (.pr (.pub .str) (.pr (.pub (.sl .str)) (.pr (.pub (.sl (.int .i64))) .un)))))))))), .one (.pub (.int .i64)), .one (.pub (.int .i64)), .one (.pub .bool)], [⟨.ret, [4], [.one (.pub .bool)], []⟩, ⟨.normal, [2, 3, 5], [.one (.ptr true (30, []) (.pr (.pub (.sl tyNode)) .un)), .one (.ptr true (56, []) (.pr (.pub (.int .i64)) (.pr (.pub (.int .i64)) (.pr (.pub (.int .i64)) (.pr (.pub (.int .i64)) (.pr (.pub (.int .i64)) (.pr (.pub (.int .i64)) (.pr (.pub .str) (.pr (.pub (.sl .str)) (.pr (.pub (.sl (.int .i64))) .un)))))))))), .one (.pub (.int .i64))], []⟩], []⟩ else
  bif (Nat.beq f 116 && k == false && Nat.beq r 18) then ⟨[2, 3, 5, 12, 72], [.one (.ptr true (30, []) (.pr (.pub (.sl tyNode)) .un)), .one (.ptr true (56, []) (.pr (.pub (.int .i64)) (.pr (.pub (.int .i64)) (.pr (.pub (.int .i64)) (.pr (.pub (.int .i64)) (.pr (.pub (.int .i64)) (.pr (.pub (.int .i64)) (.pr (.pub .str) (.pr (.pub (.sl .str)) (.pr (.pub (.sl (.int .i64))) .un)))))))))), .one (.pub (.int .i64)), .one (.pub (.int .i64)), .one (.pub .bool)], [⟨.ret, [4], [.one (.pub .bool)], []⟩, ⟨.normal, [2, 3, 5], [.one (.ptr true (30, []) (.pr (.pub (.sl tyNode)) .un)), .one (.ptr true (56, []) (.pr (.pub (.int .i64)) (.pr (.pub (.int .i64)) (.pr (.pub (.int .i64)) (.pr (.pub (.int .i64)) (.pr (.pub (.int .i64)) (.pr (.pub (.int .i64)) (.pr (.pub .str) (.pr (.pub (.sl .str)) (.pr (.pub (.sl (.int .i64))) .un)))))))))), .one (.pub (.int .i64))], []⟩], []⟩ else
  bif (Nat.beq f 116 && k == true && Nat.beq r 31) then ⟨[2, 3, 199, 200], [.one (.ptr true (30, []) (.pr (.pub (.sl tyNode)) .un)), .one (.ptr true (56, []) (.pr (.pub (.int .i64)) (.pr (.pub (.int .i64)) (.pr (.pub (.int .i64)) (.pr (.pub (.int .i64)) (.pr (.pub (.int .i64)) (.pr (.pub (.int .i64)) (.pr (.pub .str) (.pr (.pub (.sl .str)) (.pr (.pub (.sl (.int .i64))) .un)))))))))), .one (.pub (.int .i64)), .one (.pub (.int .i64))], [⟨.ret, [4], [.one (.pub .bool)], []⟩, ⟨.exit 1, [3], [.one (.ptr true (56, []) (.pr (.pub (.int .i64)) (.pr (.pub (.int .i64)) (.pr (.pub (.int .i64)) (.pr (.pub (.int .i64)) (.pr (.pub (.int .i64)) (.pr (.pub (.int .i64)) (.pr (.pub .str) (.pr (.pub (.sl .str)) (.pr (.pub (.sl (.int .i64))) .un))))))))))], []⟩], []⟩ else
  bif (Nat.beq f 116 && k == false && Nat.beq r 46) then ⟨[2, 3, 5], [.one (.ptr true (30, []) (.pr (.pub (.sl tyNode)) .un)), .one (.ptr true (56, []) (.pr (.pub (.int .i64)) (.pr (.pub (.int .i64)) (.pr (.pub (.int .i64)) (.pr (.pub (.int .i64)) (.pr (.pub (.int .i64)) (.pr (.pub (.int .i64)) (.pr (.pub .str) (.pr (.pub (.sl .str)) (.pr (.pub (.sl (.int .i64))) .un)))))))))), .one (.pub (.int .i64))], [⟨.ret, [4], [.one (.pub .bool)], []⟩], []⟩ else
  bif (Nat.beq f 117 && k == true && Nat.beq r 3) then ⟨[0, 3, 4], [.one (.pub (.sl .str)), .one (.own .str true), .one (.pub (.int .i64))], [⟨.exit 0, [3], [.one (.own .str true)], []⟩], []⟩ else
  bif (Nat.beq f 118 && k == true && Nat.beq r 3) then ⟨[0, 3, 4], [.one (.pub (.sl (.int .i64))), .one (.own (.int .i64) true), .one (.pub (.int .i64))], [⟨.exit 0, [3], [.one (.own (.int .i64) true)], []⟩], []⟩ else
  bif (Nat.beq f 119 && k == true && Nat.beq r 6) then ⟨[1, 2, 5, 6, 58, 59, 60], [.one (.pub (.int .i64)), .one (.ptr true (30, []) (.pr (.pub (.sl tyNode)) .un)), .one (.ptr true (56, []) (.pr (.pub (.int .i64)) (.pr (.pub (.int .i64)) (.pr (.pub (.int .i64)) (.pr (.pub (.int .i64)) (.pr (.pub (.int .i64)) (.pr (.pub (.int .i64)) (.pr (.pub .str) (.pr (.pub (.sl .str)) (.pr (.pub (.sl (.int .i64))) .un)))))))))), .one (.ptr true (26, []) (.own (.int .i64) true)), .one (.pub (.sl (.int .i64))), .one (.pub (.int .i64)), .one (.pub (.int .i64))], [⟨.ret, [4], [.one (.pub .bool)], []⟩, ⟨.exit 0, [5, 6], [.one (.ptr true (56, []) (.pr (.pub (.int .i64)) (.pr (.pub (.int .i64)) (.pr (.pub (.int .i64)) (.pr (.pub (.int .i64)) (.pr (.pub (.int .i64)) (.pr (.pub (.int .i64)) (.pr (.pub .str) (.pr (.pub (.sl .str)) (.pr (.pub (.sl (.int .i64))) .un)))))))))), .one (.ptr true (26, []) (.own (.int .i64) true))], []⟩], []⟩ else
  bif (Nat.beq f 119 && k == true && Nat.beq r 13) then ⟨[5, 6, 80, 81, 82], [.one (.ptr true (56, []) (.pr (.pub (.int .i64)) (.pr (.pub (.int .i64)) (.pr (.pub (.int .i64)) (.pr (.pub (.int .i64)) (.pr (.pub (.int .i64)) (.pr (.pub (.int .i64)) (.pr (.pub .str) (.pr (.pub (.sl .str)) (.pr (.pub (.sl (.int .i64))) .un)))))))))), .one (.ptr true (26, []) (.own (.int .i64) true)), .one (.pub (.sl .str)), .one (.pub (.int .i64)), .one (.pub (.int .i64))], [⟨.ret, [4], [.one (.pub .bool)], []⟩, ⟨.exit 2, [5, 6], [.one (.ptr true (56, []) (.pr (.pub (.int .i64)) (.pr (.pub (.int .i64)) (.pr (.pub (.int .i64)) (.pr (.pub (.int .i64)) (.pr (.pub (.int .i64)) (.pr (.pub (.int .i64)) (.pr (.pub .str) (.pr (.pub (.sl .str)) (.pr (.pub (.sl (.int .i64))) .un)))))))))), .one (.ptr true (26, []) (.own (.int .i64) true))], []⟩], []⟩ else
  bif (Nat.beq f 119 && k == true && Nat.beq r 26) then ⟨[11, 12, 13, 14, 108, 109, 110], [.one (.ptr true (3, []) (.pub (.int .i64))), .one (.ptr true (3, []) (.pub (.int .i64))), .one (.ptr true (2, []) (.pub (.int .i64))), .one (.ptr true (9, []) (.pub .str)), .one (.own (.int .i64) true), .one (.pub (.int .i64)), .one (.pub (.int .i64))], [⟨.ret, [4], [.one (.pub .bool)], []⟩, ⟨.exit 5, [11, 12, 13, 14], [.one (.ptr true (3, []) (.pub (.int .i64))), .one (.ptr true (3, []) (.pub (.int .i64))), .one (.ptr true (2, []) (.pub (.int .i64))), .one (.ptr true (9, []) (.pub .str))], [(17, 189, [11, 12, 13, 14])]⟩], [(17, 189, [11, 12, 13, 14])]⟩ else
  bif (Nat.beq f 119 && k == true && Nat.beq r 42) then ⟨[6, 13, 16, 184, 185, 186], [.one (.ptr true (26, []) (.pub (.sl (.int .i64)))), .one (.ptr true (2, []) (.pub (.int .i64))), .one (.ptr true (3, []) (.pub (.int .i64))), .one (.pub (.sl (.int .i64))), .one (.pub (.int .i64)), .one (.pub (.int .i64))], [⟨.ret, [4], [.one (.pub .bool)], []⟩, ⟨.exit 7, [6, 13, 16], [.one (.ptr true (26, []) (.pub (.sl (.int .i64)))), .one (.ptr true (2, []) (.pub (.int .i64))), .one (.ptr true (3, []) (.pub (.int .i64)))], [(15, 187, [6])]⟩], [(15, 187, [6])]⟩ else
  bif (Nat.beq f 119 && k == false && Nat.beq r 50) then ⟨[6, 11, 12, 13, 14, 16, 105, 205], [.one (.ptr true (26, []) (.own (.int .i64) true)), .one (.ptr true (3, []) (.pub (.int .i64))), .one (.ptr true (3, []) (.pub (.int .i64))), .one (.ptr true (2, []) (.pub (.int .i64))), .one (.ptr true (9, []) (.pub .str)), .one (.ptr true (3, []) (.pub (.int .i64))), .one (.pub (.int .i64)), .one (.pub .bool)], [⟨.ret, [4], [.one (.pub .bool)], []⟩, ⟨.normal, [], [], []⟩], [(15, 187, [6]), (17, 189, [11, 12, 13, 14]), (18, 190, [16, 6])]⟩ else
  bif (Nat.beq f 119 && k == false && Nat.beq r 65) then ⟨[6, 11, 12, 13, 14, 16, 105, 328], [.one (.ptr true (26, []) (.own (.int .i64) true)), .one (.ptr true (3, []) (.pub (.int .i64))), .one (.ptr true (3, []) (.pub (.int .i64))), .one (.ptr true (2, []) (.pub (.int .i64))), .one (.ptr true (9, []) (.pub .str)), .one (.ptr true (3, []) (.pub (.int .i64))), .one (.pub (.int .i64)), .one (.pub .bool)], [⟨.ret, [4], [.one (.pub .bool)], []⟩, ⟨.normal, [], [], []⟩], [(15, 187, [6]), (17, 189, [11, 12, 13, 14]), (18, 190, [16, 6])]⟩ else
  bif (Nat.beq f 119 && k == false && Nat.beq r 72) then ⟨[6, 11, 12, 13, 14, 16, 105, 378], [.one (.ptr true (26, []) (.own (.int .i64) true)), .one (.ptr true (3, []) (.pub (.int .i64))), .one (.ptr true (3, []) (.pub (.int .i64))), .one (.ptr true (2, []) (.pub (.int .i64))), .one (.ptr true (9, []) (.pub .str)), .one (.ptr true (3, []) (.pub (.int .i64))), .one (.pub (.int .i64)), .one (.pub .bool)], [⟨.ret, [4], [.one (.pub .bool)], []⟩, ⟨.normal, [], [], []⟩], [(15, 187, [6]), (17, 189, [11, 12, 13, 14]), (18, 190, [16, 6])]⟩ else
  bif (Nat.beq f 119 && k == false && Nat.beq r 84) then ⟨[6, 11, 12, 13, 14, 16, 105, 436], [.one (.ptr true (26, []) (.own (.int .i64) true)), .one (.ptr true (3, []) (.pub (.int .i64))), .one (.ptr true (3, []) (.pub (.int .i64))), .one (.ptr true (2, []) (.pub (.int .i64))), .one (.ptr true (9, []) (.pub .str)), .one (.ptr true (3, []) (.pub (.int .i64))), .one (.pub (.int .i64)), .one (.pub .bool)], [⟨.ret, [4], [.one (.pub .bool)], []⟩, ⟨.normal, [], [], []⟩], [(15, 187, [6]), (17, 189, [11, 12, 13, 14]), (18, 190, [16, 6])]⟩ else
  bif (Nat.beq f 119 && k == true && Nat.beq r 97) then ⟨[11, 12, 13, 14, 529, 530, 531], [.one (.ptr true (3, []) (.pub (.int .i64))), .one (.ptr true (3, []) (.pub (.int .i64))), .one (.ptr true (2, []) (.pub (.int .i64))), .one (.ptr true (9, []) (.pub .str)), .one (.own (.int .i64) true), .one (.pub (.int .i64)), .one (.pub (.int .i64))], [⟨.ret, [4], [.one (.pub .bool)], []⟩, ⟨.exit 9, [11, 12, 13, 14], [.one (.ptr true (3, []) (.pub (.int .i64))), .one (.ptr true (3, []) (.pub (.int .i64))), .one (.ptr true (2, []) (.pub (.int .i64))), .one (.ptr true (9, []) (.pub .str))], [(17, 189, [11, 12, 13, 14])]⟩], [(17, 189, [11, 12, 13, 14])]⟩ else
  bif (Nat.beq f 120 && k == true && Nat.beq r 4) then ⟨[0, 1, 5], [.one (.pub (.sl .str)), .one (.pub (.sl .str)), .one (.pub (.int .i64))], [⟨.ret, [4], [.one (.pub .bool)], []⟩, ⟨.exit 0, [], [], []⟩], []⟩ else
  bif (Nat.beq f 144 && k == true && Nat.beq r 14) then ⟨[0, 1, 4, 6, 43, 44, 45], [.one (.pub .str), .one (.pub (.int .i64)), .one (.ptr true (100, []) (.pr (.pub (.int .i64)) (.pr (.pub (.int .i64)) (.pr (.pub (.int .i64)) (.pr (.pub (.int .i64)) (.pr (.pub (.int .i64)) (.pr (.pub .str) .un))))))), .one (.ptr true (100, []) (.pr (.pub (.int .i64)) (.pr (.pub (.int .i64)) (.pr (.pub (.int .i64)) (.pr (.pub (.int .i64)) (.pr (.pub (.int .i64)) (.pr (.pub .str) .un))))))), .one (.own .str true), .one (.pub (.int .i64)), .one (.pub (.int .i64))], [⟨.ret, [4, 5], [.one (.ptr true (100, []) (.pr (.pub (.int .i64)) (.pr (.pub (.int .i64)) (.pr (.pub (.int .i64)) (.pr (.pub (.int .i64)) (.pr (.pub (.int .i64)) (.pr (.pub .str) .un))))))), .one (.pub (.int .i64))], []⟩, ⟨.exit 0, [1, 4, 6], [.one (.pub (.int .i64)), .one (.ptr true (100, []) (.pr (.pub (.int .i64)) (.pr (.pub (.int .i64)) (.pr (.pub (.int .i64)) (.pr (.pub (.int .i64)) (.pr (.pub (.int .i64)) (.pr (.pub .str) .un))))))), .one (.ptr true (100, []) (.pr (.pub (.int .i64)) (.pr (.pub (.int .i64)) (.pr (.pub (.int .i64)) (.pr (.pub (.int .i64)) (.pr (.pub (.int .i64)) (.pr (.pub .str) .un)))))))], []⟩], []⟩ else
  bif (Nat.beq f 155 && k == true && Nat.beq r 2) then ⟨[0, 5, 6, 7], [.one (.pub .str), .one (.pub (.sl .str)), .one (.pub (.int .i64)), .one (.pub (.int .i64))], [⟨.ret, [2], [.one (.pub (.int .i64))], []⟩, ⟨.exit 0, [], [], []⟩], []⟩ else
  bif (Nat.beq f 156 && k == true && Nat.beq r 5) then ⟨[0, 1, 4, 6], [.one (.pub .str), .one (.pub (.int .i64)), .one (.ptr true (100, []) (.pr (.pub (.int .i64)) (.pr (.pub (.int .i64)) (.pr (.pub (.int .i64)) (.pr (.pub (.int .i64)) (.pr (.pub (.int .i64)) (.pr (.pub .str) .un))))))), .one (.pub (.int .i64))], [⟨.exit 0, [0, 1, 4, 6], [.one (.pub .str), .one (.pub (.int .i64)), .one (.ptr true (100, []) (.pr (.pub (.int .i64)) (.pr (.pub (.int .i64)) (.pr (.pub (.int .i64)) (.pr (.pub (.int .i64)) (.pr (.pub (.int .i64)) (.pr (.pub .str) .un))))))), .one (.pub (.int .i64))], []⟩], []⟩ else
  bif (Nat.beq f 156 && k == true && Nat.beq r 15) then ⟨[0, 1, 4, 6], [.one (.pub .str), .one (.pub (.int .i64)), .one (.ptr true (100, []) (.pr (.pub (.int .i64)) (.pr (.pub (.int .i64)) (.pr (.pub (.int .i64)) (.pr (.pub (.int .i64)) (.pr (.pub (.int .i64)) (.pr (.pub .str) .un))))))), .one (.pub (.int .i64))], [⟨.exit 2, [0, 1, 4, 6], [.one (.pub .str), .one (.pub (.int .i64)), .one (.ptr true (100, []) (.pr (.pub (.int .i64)) (.pr (.pub (.int .i64)) (.pr (.pub (.int .i64)) (.pr (.pub (.int .i64)) (.pr (.pub (.int .i64)) (.pr (.pub .str) .un))))))), .one (.pub (.int .i64))], []⟩], []⟩ else
  bif (Nat.beq f 156 && k == false && Nat.beq r 17) then ⟨[0, 1, 4, 6], [.one (.pub .str), .one (.pub (.int .i64)), .one (.ptr true (100, []) (.pr (.pub (.int .i64)) (.pr (.pub (.int .i64)) (.pr (.pub (.int .i64)) (.pr (.pub (.int .i64)) (.pr (.pub (.int .i64)) (.pr (.pub .str) .un))))))), .one (.pub (.int .i64))], [⟨.ret, [4, 5], [.one (.ptr true (100, []) (.pr (.pub (.int .i64)) (.pr (.pub (.int .i64)) (.pr (.pub (.int .i64)) (.pr (.pub (.int .i64)) (.pr (.pub (.int .i64)) (.pr (.pub .str) .un))))))), .one (.pub .bool)], []⟩], []⟩ else
  bif (Nat.beq f 156 && k == true && Nat.beq r 20) then ⟨[0, 1, 4, 6, 9], [.one (.pub .str), .one (.pub (.int .i64)), .one (.ptr true (100, []) (.pr (.pub (.int .i64)) (.pr (.pub (.int .i64)) (.pr (.pub (.int .i64)) (.pr (.pub (.int .i64)) (.pr (.pub (.int .i64)) (.pr (.pub .str) .un))))))), .one (.pub (.int .i64)), .one (.pub (.int .i64))], [⟨.exit 4, [0, 1, 4, 6, 9], [.one (.pub .str), .one (.pub (.int .i64)), .one (.ptr true (100, []) (.pr (.pub (.int .i64)) (.pr (.pub (.int .i64)) (.pr (.pub (.int .i64)) (.pr (.pub (.int .i64)) (.pr (.pub (.int .i64)) (.pr (.pub .str) .un))))))), .one (.pub (.int .i64)), .one (.pub (.int .i64))], []⟩], []⟩ else
  bif (Nat.beq f 156 && k == false && Nat.beq r 22) then ⟨[0, 1, 4, 6, 9], [.one (.pub .str), .one (.pub (.int .i64)), .one (.ptr true (100, []) (.pr (.pub (.int .i64)) (.pr (.pub (.int .i64)) (.pr (.pub (.int .i64)) (.pr (.pub (.int .i64)) (.pr (.pub (.int .i64)) (.pr (.pub .str) .un))))))), .one (.pub (.int .i64)), .one (.pub (.int .i64))], [⟨.ret, [4, 5], [.one (.ptr true (100, []) (.pr (.pub (.int .i64)) (.pr (.pub (.int .i64)) (.pr (.pub (.int .i64)) (.pr (.pub (.int .i64)) (.pr (.pub (.int .i64)) (.pr (.pub .str) .un))))))), .one (.pub .bool)], []⟩], []⟩ else
  bif (Nat.beq f 156 && k == false && Nat.beq r 26) then ⟨[0, 1, 4, 6, 9], [.one (.pub .str), .one (.pub (.int .i64)), .one (.ptr true (100, []) (.pr (.pub (.int .i64)) (.pr (.pub (.int .i64)) (.pr (.pub (.int .i64)) (.pr (.pub (.int .i64)) (.pr (.pub (.int .i64)) (.pr (.pub .str) .un))))))), .one (.pub (.int .i64)), .one (.pub (.int .i64))], [⟨.ret, [4, 5], [.one (.ptr true (100, []) (.pr (.pub (.int .i64)) (.pr (.pub (.int .i64)) (.pr (.pub (.int .i64)) (.pr (.pub (.int .i64)) (.pr (.pub (.int .i64)) (.pr (.pub .str) .un))))))), .one (.pub .bool)], []⟩, ⟨.normal, [0, 1, 4, 6, 9], [.one (.pub .str), .one (.pub (.int .i64)), .one (.ptr true (100, []) (.pr (.pub (.int .i64)) (.pr (.pub (.int .i64)) (.pr (.pub (.int .i64)) (.pr (.pub (.int .i64)) (.pr (.pub (.int .i64)) (.pr (.pub .str) .un))))))), .one (.pub (.int .i64)), .one (.pub (.int .i64))], []⟩], []⟩ else
  bif (Nat.beq f 156 && k == true && Nat.beq r 29) then ⟨[0, 1, 4, 6, 9], [.one (.pub .str), .one (.pub (.int .i64)), .one (.ptr true (100, []) (.pr (.pub (.int .i64)) (.pr (.pub (.int .i64)) (.pr (.pub (.int .i64)) (.pr (.pub (.int .i64)) (.pr (.pub (.int .i64)) (.pr (.pub .str) .un))))))), .one (.pub (.int .i64)), .one (.pub (.int .i64))], [⟨.exit 6, [0, 1, 4, 6, 9], [.one (.pub .str), .one (.pub (.int .i64)), .one (.ptr true (100, []) (.pr (.pub (.int .i64)) (.pr (.pub (.int .i64)) (.pr (.pub (.int .i64)) (.pr (.pub (.int .i64)) (.pr (.pub (.int .i64)) (.pr (.pub .str) .un))))))), .one (.pub (.int .i64)), .one (.pub (.int .i64))], []⟩], []⟩ else
  bif (Nat.beq f 156 && k == false && Nat.beq r 31) then ⟨[0, 1, 4, 6, 9], [.one (.pub .str), .one (.pub (.int .i64)), .one (.ptr true (100, []) (.pr (.pub (.int .i64)) (.pr (.pub (.int .i64)) (.pr (.pub (.int .i64)) (.pr (.pub (.int .i64)) (.pr (.pub (.int .i64)) (.pr (.pub .str) .un))))))), .one (.pub (.int .i64)), .one (.pub (.int .i64))], [⟨.ret, [4, 5], [.one (.ptr true (100, []) (.pr (.pub (.int .i64)) (.pr (.pub (.int .i64)) (.pr (.pub (.int .i64)) (.pr (.pub (.int .i64)) (.pr (.pub (.int .i64)) (.pr (.pub .str) .un))))))), .one (.pub .bool)], []⟩], []⟩ else
  bif (Nat.beq f 180 && k == true && Nat.beq r 4) then ⟨[22, 23, 24], [.one (.pub (.sl .str)), .one (.pub (.int .i64)), .one (.pub (.int .i64))], [⟨.ret, [6], [.one (.pub .bool)], []⟩, ⟨.exit 0, [], [], []⟩], []⟩ else
  bif (Nat.beq f 181 && k == true && Nat.beq r 2) then ⟨[3, 4, 5, 9], [.one (.pub (.int .i64)), .one (.ptr true (30, []) (.pr (.pub (.sl tyNode)) .un)), .one (.ptr true (56, []) (.pr (.pub (.int .i64)) (.pr (.pub (.int .i64)) (.pr (.pub (.int .i64)) (.pr (.pub (.int .i64)) (.pr (.pub (.int .i64)) (.pr (.pub (.int .i64)) (.pr (.pub .str) (.pr (.pub (.sl .str)) (.pr (.pub (.sl (.int .i64))) .un)))))))))), .one (.pub (.int .i64))], [⟨.ret, [8], [.one (.pub .bool)], []⟩, ⟨.exit 0, [], [], []⟩], []⟩ else
  bif (Nat.beq f 187 && k == true && Nat.beq r 2) then ⟨[2, 11, 12, 13], [.one (.ptr true (26, []) (.pub (.sl (.int .i64)))), .one (.pub (.sl (.int .i64))), .one (.pub (.int .i64)), .one (.pub (.int .i64))], [⟨.ret, [2, 5], [.one (.ptr true (26, []) (.pub (.sl (.int .i64)))), .one (.pub .bool)], []⟩, ⟨.exit 0, [2], [.one (.ptr true (26, []) (.pub (.sl (.int .i64))))], []⟩], []⟩ else
  bif (Nat.beq f 204 && k == true && Nat.beq r 3) then ⟨[0, 3, 4], [.one (.pub .str), .one (.own .str true), .one (.pub (.int .i64))], [⟨.ret, [2], [.one (.pub (.int .i64))], []⟩, ⟨.exit 0, [0], [.one (.pub .str)], []⟩], []⟩ else
  bif (Nat.beq f 204 && k == true && Nat.beq r 9) then ⟨[0, 24, 25, 26], [.one (.pub .str), .one (.own .str true), .one (.pub (.int .i64)), .one (.pub (.int .i64))], [⟨.ret, [2], [.one (.pub (.int .i64))], []⟩, ⟨.exit 2, [], [], []⟩], []⟩ else
  bif (Nat.beq f 212 && k == true && Nat.beq r 2) then ⟨[0, 3, 4, 6], [.one (.pub .str), .one (.ptr true (100, []) (.pr (.pub (.int .i64)) (.pr (.pub (.int .i64)) (.pr (.pub (.int .i64)) (.pr (.pub (.int .i64)) (.pr (.pub (.int .i64)) (.pr (.pub .str) .un))))))), .one (.ptr true (100, []) (.pr (.pub (.int .i64)) (.pr (.pub (.int .i64)) (.pr (.pub (.int .i64)) (.pr (.pub (.int .i64)) (.pr (.pub (.int .i64)) (.pr (.pub .str) .un))))))), .one (.pub (.int .i64))], [⟨.exit 0, [0, 3, 4, 6], [.one (.pub .str), .one (.ptr true (100, []) (.pr (.pub (.int .i64)) (.pr (.pub (.int .i64)) (.pr (.pub (.int .i64)) (.pr (.pub (.int .i64)) (.pr (.pub (.int .i64)) (.pr (.pub .str) .un))))))), .one (.ptr true (100, []) (.pr (.pub (.int .i64)) (.pr (.pub (.int .i64)) (.pr (.pub (.int .i64)) (.pr (.pub (.int .i64)) (.pr (.pub (.int .i64)) (.pr (.pub .str) .un))))))), .one (.pub (.int .i64))], []⟩], []⟩ else
  bif (Nat.beq f 212 && k == true && Nat.beq r 8) then ⟨[3, 4, 7, 32, 33, 34], [.one (.ptr true (100, []) (.pr (.pub (.int .i64)) (.pr (.pub (.int .i64)) (.pr (.pub (.int .i64)) (.pr (.pub (.int .i64)) (.pr (.pub (.int .i64)) (.pr (.pub .str) .un))))))), .one (.ptr true (100, []) (.pr (.pub (.int .i64)) (.pr (.pub (.int .i64)) (.pr (.pub (.int .i64)) (.pr (.pub (.int .i64)) (.pr (.pub (.int .i64)) (.pr (.pub .str) .un))))))), .one (.pub .str), .one (.own .str true), .one (.pub (.int .i64)), .one (.pub (.int .i64))], [⟨.ret, [4, 5], [.one (.ptr true (100, []) (.pr (.pub (.int .i64)) (.pr (.pub (.int .i64)) (.pr (.pub (.int .i64)) (.pr (.pub (.int .i64)) (.pr (.pub (.int .i64)) (.pr (.pub .str) .un))))))), .one (.pub (.int .i64))], []⟩, ⟨.exit 2, [3, 4, 7], [.one (.ptr true (100, []) (.pr (.pub (.int .i64)) (.pr (.pub (.int .i64)) (.pr (.pub (.int .i64)) (.pr (.pub (.int .i64)) (.pr (.pub (.int .i64)) (.pr (.pub .str) .un))))))), .one (.ptr true (100, []) (.pr (.pub (.int .i64)) (.pr (.pub (.int .i64)) (.pr (.pub (.int .i64)) (.pr (.pub (.int .i64)) (.pr (.pub (.int .i64)) (.pr (.pub .str) .un))))))), .one (.pub .str)], []⟩], []⟩ else
  bif (Nat.beq f 214 && k == true && Nat.beq r 7) then ⟨[0, 3, 4, 6], [.one (.pub .str), .one (.ptr true (100, []) (.pr (.pub (.int .i64)) (.pr (.pub (.int .i64)) (.pr (.pub (.int .i64)) (.pr (.pub (.int .i64)) (.pr (.pub (.int .i64)) (.pr (.pub .str) .un))))))), .one (.ptr true (100, []) (.pr (.pub (.int .i64)) (.pr (.pub (.int .i64)) (.pr (.pub (.int .i64)) (.pr (.pub (.int .i64)) (.pr (.pub (.int .i64)) (.pr (.pub .str) .un))))))), .one (.pub (.int .i64))], [⟨.exit 0, [0, 3, 4, 6], [.one (.pub .str), .one (.ptr true (100, []) (.pr (.pub (.int .i64)) (.pr (.pub (.int .i64)) (.pr (.pub (.int .i64)) (.pr (.pub (.int .i64)) (.pr (.pub (.int .i64)) (.pr (.pub .str) .un))))))), .one (.ptr true (100, []) (.pr (.pub (.int .i64)) (.pr (.pub (.int .i64)) (.pr (.pub (.int .i64)) (.pr (.pub (.int .i64)) (.pr (.pub (.int .i64)) (.pr (.pub .str) .un))))))), .one (.pub (.int .i64))], []⟩], []⟩ else
  bif (Nat.beq f 214 && k == false && Nat.beq r 9) then ⟨[0, 3, 4, 6], [.one (.pub .str), .one (.ptr true (100, []) (.pr (.pub (.int .i64)) (.pr (.pub (.int .i64)) (.pr (.pub (.int .i64)) (.pr (.pub (.int .i64)) (.pr (.pub (.int .i64)) (.pr (.pub .str) .un))))))), .one (.ptr true (100, []) (.pr (.pub (.int .i64)) (.pr (.pub (.int .i64)) (.pr (.pub (.int .i64)) (.pr (.pub (.int .i64)) (.pr (.pub (.int .i64)) (.pr (.pub .str) .un))))))), .one (.pub (.int .i64))], [⟨.ret, [4, 5], [.one (.ptr true (100, []) (.pr (.pub (.int .i64)) (.pr (.pub (.int .i64)) (.pr (.pub (.int .i64)) (.pr (.pub (.int .i64)) (.pr (.pub (.int .i64)) (.pr (.pub .str) .un))))))), .one (.pub (.int .i64))], []⟩], []⟩ else
  bif (Nat.beq f 214 && k == true && Nat.beq r 12) then ⟨[0, 3, 4, 6], [.one (.pub .str), .one (.ptr true (100, []) (.pr (.pub (.int .i64)) (.pr (.pub (.int .i64)) (.pr (.pub (.int .i64)) (.pr (.pub (.int .i64)) (.pr (.pub (.int .i64)) (.pr (.pub .str) .un))))))), .one (.ptr true (100, []) (.pr (.pub (.int .i64)) (.pr (.pub (.int .i64)) (.pr (.pub (.int .i64)) (.pr (.pub (.int .i64)) (.pr (.pub (.int .i64)) (.pr (.pub .str) .un))))))), .one (.pub (.int .i64))], [⟨.exit 2, [0, 3, 4, 6], [.one (.pub .str), .one (.ptr true (100, []) (.pr (.pub (.int .i64)) (.pr (.pub (.int .i64)) (.pr (.pub (.int .i64)) (.pr (.pub (.int .i64)) (.pr (.pub (.int .i64)) (.pr (.pub .str) .un))))))), .one (.ptr true (100, []) (.pr (.pub (.int .i64)) (.pr (.pub (.int .i64)) (.pr (.pub (.int .i64)) (.pr (.pub (.int .i64)) (.pr (.pub (.int .i64)) (.pr (.pub .str) .un))))))), .one (.pub (.int .i64))], []⟩], []⟩ else
  bif (Nat.beq f 214 && k == false && Nat.beq r 14) then ⟨[0, 3, 4, 6], [.one (.pub .str), .one (.ptr true (100, []) (.pr (.pub (.int .i64)) (.pr (.pub (.int .i64)) (.pr (.pub (.int .i64)) (.pr (.pub (.int .i64)) (.pr (.pub (.int .i64)) (.pr (.pub .str) .un))))))), .one (.ptr true (100, []) (.pr (.pub (.int .i64)) (.pr (.pub (.int .i64)) (.pr (.pub (.int .i64)) (.pr (.pub (.int .i64)) (.pr (.pub (.int .i64)) (.pr (.pub .str) .un))))))), .one (.pub (.int .i64))], [⟨.ret, [4, 5], [.one (.ptr true (100, []) (.pr (.pub (.int .i64)) (.pr (.pub (.int .i64)) (.pr (.pub (.int .i64)) (.pr (.pub (.int .i64)) (.pr (.pub (.int .i64)) (.pr (.pub .str) .un))))))), .one (.pub (.int .i64))], []⟩], []⟩ else
  bif (Nat.beq f 214 && k == true && Nat.beq r 21) then ⟨[0, 3, 4, 6], [.one (.pub .str), .one (.ptr true (100, []) (.pr (.pub (.int .i64)) (.pr (.pub (.int .i64)) (.pr (.pub (.int .i64)) (.pr (.pub (.int .i64)) (.pr (.pub (.int .i64)) (.pr (.pub .str) .un))))))), .one (.ptr true (100, []) (.pr (.pub (.int .i64)) (.pr (.pub (.int .i64)) (.pr (.pub (.int .i64)) (.pr (.pub (.int .i64)) (.pr (.pub (.int .i64)) (.pr (.pub .str) .un))))))), .one (.pub (.int .i64))], [⟨.exit 4, [0, 3, 4, 6], [.one (.pub .str), .one (.ptr true (100, []) (.pr (.pub (.int .i64)) (.pr (.pub (.int .i64)) (.pr (.pub (.int .i64)) (.pr (.pub (.int .i64)) (.pr (.pub (.int .i64)) (.pr (.pub .str) .un))))))), .one (.ptr true (100, []) (.pr (.pub (.int .i64)) (.pr (.pub (.int .i64)) (.pr (.pub (.int .i64)) (.pr (.pub (.int .i64)) (.pr (.pub (.int .i64)) (.pr (.pub .str) .un))))))), .one (.pub (.int .i64))], []⟩], []⟩ else
  bif (Nat.beq f 214 && k == false && Nat.beq r 23) then ⟨[0, 3, 4, 6], [.one (.pub .str), .one (.ptr true (100, []) (.pr (.pub (.int .i64)) (.pr (.pub (.int .i64)) (.pr (.pub (.int .i64)) (.pr (.pub (.int .i64)) (.pr (.pub (.int .i64)) (.pr (.pub .str) .un))))))), .one (.ptr true (100, []) (.pr (.pub (.int .i64)) (.pr (.pub (.int .i64)) (.pr (.pub (.int .i64)) (.pr (.pub (.int .i64)) (.pr (.pub (.int .i64)) (.pr (.pub .str) .un))))))), .one (.pub (.int .i64))], [⟨.ret, [4, 5], [.one (.ptr true (100, []) (.pr (.pub (.int .i64)) (.pr (.pub (.int .i64)) (.pr (.pub (.int .i64)) (.pr (.pub (.int .i64)) (.pr (.pub (.int .i64)) (.pr (.pub .str) .un))))))), .one (.pub (.int .i64))], []⟩], []⟩ else
  bif (Nat.beq f 214 && k == true && Nat.beq r 26) then ⟨[0, 3, 4, 6, 7, 8], [.one (.pub .str), .one (.ptr true (100, []) (.pr (.pub (.int .i64)) (.pr (.pub (.int .i64)) (.pr (.pub (.int .i64)) (.pr (.pub (.int .i64)) (.pr (.pub (.int .i64)) (.pr (.pub .str) .un))))))), .one (.ptr true (100, []) (.pr (.pub (.int .i64)) (.pr (.pub (.int .i64)) (.pr (.pub (.int .i64)) (.pr (.pub (.int .i64)) (.pr (.pub (.int .i64)) (.pr (.pub .str) .un))))))), .one (.pub (.int .i64)), .one (.pub (.int .u64)), .one (.pub (.int .i64))], [⟨.exit 6, [0, 3, 4, 6, 7], [.one (.pub .str), .one (.ptr true (100, []) (.pr (.pub (.int .i64)) (.pr (.pub (.int .i64)) (.pr (.pub (.int .i64)) (.pr (.pub (.int .i64)) (.pr (.pub (.int .i64)) (.pr (.pub .str) .un))))))), .one (.ptr true (100, []) (.pr (.pub (.int .i64)) (.pr (.pub (.int .i64)) (.pr (.pub (.int .i64)) (.pr (.pub (.int .i64)) (.pr (.pub (.int .i64)) (.pr (.pub .str) .un))))))), .one (.pub (.int .i64)), .one (.pub (.int .u64))], []⟩], []⟩ else
  bif (Nat.beq f 215 && k == true && Nat.beq r 4) then ⟨[0, 3, 4, 6, 7], [.one (.pub .str), .one (.ptr true (100, []) (.pr (.pub (.int .i64)) (.pr (.pub (.int .i64)) (.pr (.pub (.int .i64)) (.pr (.pub (.int .i64)) (.pr (.pub (.int .i64)) (.pr (.pub .str) .un))))))), .one (.ptr true (100, []) (.pr (.pub (.int .i64)) (.pr (.pub (.int .i64)) (.pr (.pub (.int .i64)) (.pr (.pub (.int .i64)) (.pr (.pub (.int .i64)) (.pr (.pub .str) .un))))))), .one (.pub (.int .i64)), .one (.own (.int .u8) true)], [⟨.ret, [4, 5], [.one (.ptr true (100, []) (.pr (.pub (.int .i64)) (.pr (.pub (.int .i64)) (.pr (.pub (.int .i64)) (.pr (.pub (.int .i64)) (.pr (.pub (.int .i64)) (.pr (.pub .str) .un))))))), .one (.pub (.int .i64))], []⟩, ⟨.exit 0, [3, 4, 6], [.one (.ptr true (100, []) (.pr (.pub (.int .i64)) (.pr (.pub (.int .i64)) (.pr (.pub (.int .i64)) (.pr (.pub (.int .i64)) (.pr (.pub (.int .i64)) (.pr (.pub .str) .un))))))), .one (.ptr true (100, []) (.pr (.pub (.int .i64)) (.pr (.pub (.int .i64)) (.pr (.pub (.int .i64)) (.pr (.pub (.int .i64)) (.pr (.pub (.int .i64)) (.pr (.pub .str) .un))))))), .one (.pub (.int .i64))], []⟩], []⟩ else
  bif (Nat.beq f 215 && k == false && Nat.beq r 24) then ⟨[0, 3, 4, 6, 7, 46, 59], [.one (.pub .str), .one (.ptr true (100, []) (.pr (.pub (.int .i64)) (.pr (.pub (.int .i64)) (.pr (.pub (.int .i64)) (.pr (.pub (.int .i64)) (.pr (.pub (.int .i64)) (.pr (.pub .str) .un))))))), .one (.ptr true (100, []) (.pr (.pub (.int .i64)) (.pr (.pub (.int .i64)) (.pr (.pub (.int .i64)) (.pr (.pub (.int .i64)) (.pr (.pub (.int .i64)) (.pr (.pub .str) .un))))))), .one (.pub (.int .i64)), .one (.own (.int .u8) true), .one (.pub (.int .u8)), .one (.pub .bool)], [⟨.normal, [0, 3, 4, 6, 7], [.one (.pub .str), .one (.ptr true (100, []) (.pr (.pub (.int .i64)) (.pr (.pub (.int .i64)) (.pr (.pub (.int .i64)) (.pr (.pub (.int .i64)) (.pr (.pub (.int .i64)) (.pr (.pub .str) .un))))))), .one (.ptr true (100, []) (.pr (.pub (.int .i64)) (.pr (.pub (.int .i64)) (.pr (.pub (.int .i64)) (.pr (.pub (.int .i64)) (.pr (.pub (.int .i64)) (.pr (.pub .str) .un))))))), .one (.pub (.int .i64)), .one (.own (.int .u8) true)], []⟩, ⟨.ret, [4, 5], [.one (.ptr true (100, []) (.pr (.pub (.int .i64)) (.pr (.pub (.int .i64)) (.pr (.pub (.int .i64)) (.pr (.pub (.int .i64)) (.pr (.pub (.int .i64)) (.pr (.pub .str) .un))))))), .one (.pub (.int .i64))], []⟩], []⟩ else
  bif (Nat.beq f 215 && k == true && Nat.beq r 27) then ⟨[0, 3, 4, 6, 7, 9], [.one (.pub .str), .one (.ptr true (100, []) (.pr (.pub (.int .i64)) (.pr (.pub (.int .i64)) (.pr (.pub (.int .i64)) (.pr (.pub (.int .i64)) (.pr (.pub (.int .i64)) (.pr (.pub .str) .un))))))), .one (.ptr true (100, []) (.pr (.pub (.int .i64)) (.pr (.pub (.int .i64)) (.pr (.pub (.int .i64)) (.pr (.pub (.int .i64)) (.pr (.pub (.int .i64)) (.pr (.pub .str) .un))))))), .one (.pub (.int .i64)), .one (.own (.int .u8) true), .one (.pub (.int .i64))], [⟨.ret, [4, 5], [.one (.ptr true (100, []) (.pr (.pub (.int .i64)) (.pr (.pub (.int .i64)) (.pr (.pub (.int .i64)) (.pr (.pub (.int .i64)) (.pr (.pub (.int .i64)) (.pr (.pub .str) .un))))))), .one (.pub (.int .i64))], []⟩, ⟨.exit 3, [0, 3, 4, 6, 7], [.one (.pub .str), .one (.ptr true (100, []) (.pr (.pub (.int .i64)) (.pr (.pub (.int .i64)) (.pr (.pub (.int .i64)) (.pr (.pub (.int .i64)) (.pr (.pub (.int .i64)) (.pr (.pub .str) .un))))))), .one (.ptr true (100, []) (.pr (.pub (.int .i64)) (.pr (.pub (.int .i64)) (.pr (.pub (.int .i64)) (.pr (.pub (.int .i64)) (.pr (.pub (.int .i64)) (.pr (.pub .str) .un))))))), .one (.pub (.int .i64)), .one (.own (.int .u8) true)], []⟩], []⟩ else
  bif (Nat.beq f 236 && k == false && Nat.beq r 21) then ⟨[0, 1, 2, 8, 9], [.one (.pub .str), .one (.pub (.int .i64)), .one (.pub (.int .i64)), .one (.pub .bool), .one (.pub .str)], [⟨.ret, [6, 7], [.one (.pub (.int .u64)), .one .err], []⟩], []⟩ else
  bif (Nat.beq f 236 && k == false && Nat.beq r 25) then ⟨[0, 1, 2, 8, 9], [.one (.pub .str), .one (.pub (.int .i64)), .one (.pub (.int .i64)), .one (.pub .bool), .one (.pub .str)], [⟨.ret, [6, 7], [.one (.pub (.int .u64)), .one .err], []⟩], []⟩ else
  bif (Nat.beq f 236 && k == false && Nat.beq r 32) then ⟨[0, 1, 2, 8, 9, 10], [.one (.pub .str), .one (.pub (.int .i64)), .one (.pub (.int .i64)), .one (.pub .bool), .one (.pub .str), .one (.pub (.int .u64))], [⟨.ret, [6, 7], [.one (.pub (.int .u64)), .one .err], []⟩], []⟩ else
  bif (Nat.beq f 236 && k == true && Nat.beq r 36) then ⟨[1, 8, 9, 10, 11, 12, 13, 99, 100, 101], [.one (.pub (.int .i64)), .one (.pub .bool), .one (.pub .str), .one (.pub (.int .u64)), .one (.pub (.int .u64)), .one (.pub .bool), .one (.pub (.int .u64)), .one (.pub (.sl (.int .u8))), .one (.pub (.int .i64)), .one (.pub (.int .i64))], [⟨.ret, [6, 7], [.one (.pub (.int .u64)), .one .err], []⟩, ⟨.exit 3, [9, 12, 13], [.one (.pub .str), .one (.pub .bool), .one (.pub (.int .u64))], []⟩], []⟩ else
  bif (Nat.beq f 236 && k == false && Nat.beq r 46) then ⟨[1, 8, 9, 10, 11, 12, 13, 16, 99, 100, 101], [.one (.pub (.int .i64)), .one (.pub .bool), .one (.pub .str), .one (.pub (.int .u64)), .one (.pub (.int .u64)), .one (.pub .bool), .one (.pub (.int .u64)), .one (.pub (.int .u8)), .one (.pub (.sl (.int .u8))), .one (.pub (.int .i64)), .one (.pub (.int .i64))], [⟨.ret, [6, 7], [.one (.pub (.int .u64)), .one .err], []⟩, ⟨.normal, [1, 8, 9, 10, 11, 12, 13, 99, 100, 101], [.one (.pub (.int .i64)), .one (.pub .bool), .one (.pub .str), .one (.pub (.int .u64)), .one (.pub (.int .u64)), .one (.pub .bool), .one (.pub (.int .u64)), .one (.pub (.sl (.int .u8))), .one (.pub (.int .i64)), .one (.pub (.int .i64))], []⟩], []⟩ else
  bif (Nat.beq f 249 && k == true && Nat.beq r 3) then ⟨[0, 3, 4, 6, 7], [.one (.pub .str), .one (.ptr true (100, []) (.pr (.pub (.int .i64)) (.pr (.pub (.int .i64)) (.pr (.pub (.int .i64)) (.pr (.pub (.int .i64)) (.pr (.pub (.int .i64)) (.pr (.pub .str) .un))))))), .one (.ptr true (100, []) (.pr (.pub (.int .i64)) (.pr (.pub (.int .i64)) (.pr (.pub (.int .i64)) (.pr (.pub (.int .i64)) (.pr (.pub (.int .i64)) (.pr (.pub .str) .un))))))), .one (.pub (.int .i64)), .one (.pub (.int .u64))], [⟨.ret, [4, 5], [.one (.ptr true (100, []) (.pr (.pub (.int .i64)) (.pr (.pub (.int .i64)) (.pr (.pub (.int .i64)) (.pr (.pub (.int .i64)) (.pr (.pub (.int .i64)) (.pr (.pub .str) .un))))))), .one (.pub (.int .i64))], []⟩, ⟨.exit 0, [3, 4, 6, 7], [.one (.ptr true (100, []) (.pr (.pub (.int .i64)) (.pr (.pub (.int .i64)) (.pr (.pub (.int .i64)) (.pr (.pub (.int .i64)) (.pr (.pub (.int .i64)) (.pr (.pub .str) .un))))))), .one (.ptr true (100, []) (.pr (.pub (.int .i64)) (.pr (.pub (.int .i64)) (.pr (.pub (.int .i64)) (.pr (.pub (.int .i64)) (.pr (.pub (.int .i64)) (.pr (.pub .str) .un))))))), .one (.pub (.int .i64)), .one (.pub (.int .u64))], []⟩], []⟩ else
  bif (Nat.beq f 258 && k == false && Nat.beq r 5) then ⟨[0, 3, 4], [.one (.pub .str), .one (.pub (.int .i32)), .one (.pub (.int .i64))], [⟨.ret, [2], [.one (.pub .bool)], []⟩], []⟩ else
  bif (Nat.beq f 258 && k == false && Nat.beq r 10) then ⟨[0, 3, 4, 5], [.one (.pub .str), .one (.pub (.int .i32)), .one (.pub (.int .i64)), .one (.pub .bool)], [⟨.ret, [2], [.one (.pub .bool)], []⟩], []⟩ else
  bif (Nat.beq f 258 && k == true && Nat.beq r 10) then ⟨[0, 3, 4, 5], [.one (.pub .str), .one (.pub (.int .i32)), .one (.pub (.int .i64)), .one (.pub .bool)], [⟨.ret, [2], [.one (.pub .bool)], []⟩, ⟨.exit 0, [3], [.one (.pub (.int .i32))], []⟩], []⟩ else
  ⟨[], [], [], []⟩
def lib (f : Nat) : Option Callee :=
  bif Nat.beq f 198 then some ⟨⟨[.one (.pub .str), .one (.pub (.int .u8))], .val (.one (.pub (.int .i64)))⟩, Bld.indexByteF⟩ else
  bif Nat.beq f 235 then some ⟨⟨[.one (.pub .str), .one (.pub (.int .i64)), .one (.pub (.int .i64))], .tup [.one (.pub (.int .i64)), .one .err]⟩, Lx.parseIntF⟩ else
  none
noncomputable def S : Sys := { P := Tryz.prog, glob := fun k => bif Nat.beq k 2 then some [.v (.sl .str) Lx.words] else bif Nat.beq k 3 then some [.v (.sl .str) Lx.signs] else bif Nat.beq k 4 then some [.v (.sl .str) Lx.infixes] else Lx.tables k, cl := 94, sig := sig, known := known, keep := keep, isCut := isCut, cut := cut, lib := lib, bors := [(3, 13), (3, 14), (3, 15), (3, 18)], nest := fun f => Nat.beq f 43, trim := fun f => Nat.beq f 146 }
theorem fns_ok : (fns.all S.fnOk) = true := by kernel_rfl
theorem eF {f : FuncId} {fn : Func} (h : S.P.funcs[f]? = some fn) {T : S.Tab} {x : (S.sig f).dom.den} {y : Option (S.sig f).cod.den} (e : bodyF (S.env T f fn.ntmps) fn (S.sig f) (S.cuts T f) x = y) : (S.step T).fn f x = y := (Sys.step_fn (S := S) h T x).trans e
theorem eL {f : FuncId} {fn : Func} {c : Code} (h : S.P.funcs[f]? = some fn) (hb : fn.body = some c) {T : S.Tab} {r : Nat} {x : (argsTy (S.cut f true r).as).den} {y : Option (OutTy (S.cut f true r).ws)} (e : (S.cut f true r).round (S.env T f fn.ntmps) (S.cuts T f) (atFirst true r (allPieces c)) (T.pc f true r) x = y) : (S.step T).pc f true r x = y := (Sys.step_pc1 (S := S) h hb T x).trans e
theorem eJ {f : FuncId} {fn : Func} {c : Code} (h : S.P.funcs[f]? = some fn) (hb : fn.body = some c) {T : S.Tab} {r : Nat} {x : (argsTy (S.cut f false r).as).den} {y : Option (OutTy (S.cut f false r).ws)} (e : (S.cut f false r).tail (S.env T f fn.ntmps) (S.cuts T f) (atFirst false r (allPieces c)) x = y) : (S.step T).pc f false r x = y := (Sys.step_pc0 (S := S) h hb T x).trans e
abbrev o_laws_szStringS : Unit × Unit × Unit := ((), ((), ()))
def laws_szStringS (T : S.Tab) (t0 : List (List Int)) (t1 : Int) : Option (Int × Unit × Unit × Unit) := T.fn 112 (t0, t1, ())
def laws_szStringS_l5 (T : S.Tab) (t0 : List (List Int)) (t1 : Int) (t5 : Int) : Option ((Int × Unit) ⊕ (Int × Unit) ⊕ Empty) := T.pc 112 true 5 (t0, t1, t5, ())
abbrev o_laws_szIntS : Unit × Unit × Unit := ((), ((), ()))
def laws_szIntS (T : S.Tab) (t0 : List Int) (t1 : Int) : Option (Int × Unit × Unit × Unit) := T.fn 113 (t0, t1, ())
abbrev o_laws_szNode : (Unit × Unit × Unit × Unit × Unit × Unit × Unit × Unit × Unit × Unit) × Unit × Unit := (((), ((), ((), ((), ((), ((), ((), ((), ((), ()))))))))), ((), ()))
def laws_szNode (T : S.Tab) (t0 : tyNode.den) (t1 : Int) : Option (Int × (Unit × Unit × Unit × Unit × Unit × Unit × Unit × Unit × Unit × Unit) × Unit × Unit) := T.fn 70 (t0, t1, ())
abbrev o_laws_szNodeS : Unit × Unit × Unit := ((), ((), ()))
def laws_szNodeS (T : S.Tab) (t0 : List tyNode.den) (t1 : Int) : Option (Int × Unit × Unit × Unit) := T.fn 37 (t0, t1, ())
def laws_szNodeS_l5 (T : S.Tab) (t0 : List tyNode.den) (t1 : Int) (t5 : Int) : Option ((Int × Unit) ⊕ (Int × Unit) ⊕ Empty) := T.pc 37 true 5 (t0, t1, t5, ())
abbrev o_laws_szTree : (Unit × Unit) × Unit × Unit := (((), ()), ((), ()))
def laws_szTree (T : S.Tab) (t0 : List tyNode.den × Unit) (t1 : Int) : Option (Int × (Unit × Unit) × Unit × Unit) := T.fn 10 (t0, t1, ())
abbrev o_laws_toStringS : Unit × Unit := ((), ())
def laws_toStringS (T : S.Tab) (t0 : List (List Int)) : Option (List (List Int) × Unit × Unit) := T.fn 117 (t0, ())
def laws_toStringS_l3 (T : S.Tab) (t0 : List (List Int)) (t3 : List (List Int)) (t4 : Int) : Option ((List (List Int) × Unit) ⊕ Empty) := T.pc 117 true 3 (t0, t3, t4, ())
abbrev o_laws_toIntS : Unit × Unit := ((), ())
def laws_toIntS (T : S.Tab) (t0 : List Int) : Option (List Int × Unit × Unit) := T.fn 118 (t0, ())
def laws_toIntS_l3 (T : S.Tab) (t0 : List Int) (t3 : List Int) (t4 : Int) : Option ((List Int × Unit) ⊕ Empty) := T.pc 118 true 3 (t0, t3, t4, ())
abbrev o_laws_toNode : (Unit × Unit × Unit × Unit × Unit × Unit × Unit × Unit × Unit × Unit) × Unit := (((), ((), ((), ((), ((), ((), ((), ((), ((), ()))))))))), ())
def laws_toNode (T : S.Tab) (t0 : tyNode.den) : Option (tyNode.den × (Unit × Unit × Unit × Unit × Unit × Unit × Unit × Unit × Unit × Unit) × Unit) := T.fn 73 (t0, ())
abbrev o_laws_toNodeS : Unit × Unit := ((), ())
def laws_toNodeS (T : S.Tab) (t0 : List tyNode.den) : Option (List tyNode.den × Unit × Unit) := T.fn 39 (t0, ())
def laws_toNodeS_l3 (T : S.Tab) (t0 : List tyNode.den) (t3 : List tyNode.den) (t4 : Int) : Option ((List tyNode.den × Unit) ⊕ Empty) := T.pc 39 true 3 (t0, t3, t4, ())
abbrev o_laws_toTree : (Unit × Unit) × Unit := (((), ()), ())
def laws_toTree (T : S.Tab) (t0 : List tyNode.den × Unit) : Option ((List tyNode.den × Unit) × (Unit × Unit) × Unit) := T.fn 12 (t0, ())
abbrev o_spec_l2stat : Unit × Unit := ((), ())
def spec_l2stat (T : S.Tab) (t0 : Int) : Option (Bool × Unit × Unit) := T.fn 114 (t0, ())
abbrev o_spec_l2kid : (Unit × Unit) × (Unit × Unit × Unit × Unit × Unit × Unit × Unit × Unit × Unit × Unit) × Unit × Unit := (((), ()), (((), ((), ((), ((), ((), ((), ((), ((), ((), ()))))))))), ((), ())))
def spec_l2kid (T : S.Tab) (t0 : List tyNode.den × Unit) (t1 : tyNode.den) (t2 : Int) : Option (Int × (Unit × Unit) × (Unit × Unit × Unit × Unit × Unit × Unit × Unit × Unit × Unit × Unit) × Unit × Unit) := T.fn 178 (t0, t1, t2, ())
abbrev o_spec_l2bare : (Unit × Unit × Unit × Unit × Unit × Unit × Unit × Unit × Unit × Unit) × Unit × Unit × Unit × Unit × Unit := (((), ((), ((), ((), ((), ((), ((), ((), ((), ()))))))))), ((), ((), ((), ((), ())))))
def spec_l2bare (T : S.Tab) (t0 : tyNode.den) (t1 : Bool) (t2 : Bool) (t3 : Bool) (t4 : Bool) : Option (Bool × (Unit × Unit × Unit × Unit × Unit × Unit × Unit × Unit × Unit × Unit) × Unit × Unit × Unit × Unit × Unit) := T.fn 179 (t0, t1, t2, t3, t4, ())
abbrev o_spec_l1letter : Unit × Unit := ((), ())
def spec_l1letter (T : S.Tab) (t0 : Int) : Option (Bool × Unit × Unit) := T.fn 211 (t0, ())
abbrev o_spec_l1look : Unit × Unit × Unit := ((), ((), ()))
def spec_l1look (T : S.Tab) (t0 : List Int) (t1 : Int) : Option (Int × Unit × Unit × Unit) := T.fn 210 (t0, t1, ())
abbrev o_spec_l1digit : Unit × Unit := ((), ())
def spec_l1digit (T : S.Tab) (t0 : Int) : Option (Bool × Unit × Unit) := T.fn 213 (t0, ())
abbrev o_spec_l1words : Unit := ()
def spec_l1words (T : S.Tab) : Option (List (List Int) × Unit) := T.fn 202 ()
abbrev o_spec_l1word : Unit × (Unit × Unit × Unit × Unit × Unit × Unit × Unit) × Unit := ((), (((), ((), ((), ((), ((), ((), ())))))), ()))
def spec_l1word (T : S.Tab) (t0 : List Int) (t1 : tyTok.den) : Option ((tyTok.den × Int × Unit) × Unit × (Unit × Unit × Unit × Unit × Unit × Unit × Unit) × Unit) := T.fn 212 (t0, t1, ())
def spec_l1word_l2 (T : S.Tab) (t0 : List Int) (t3 : tyTok.den) (t4 : tyTok.den) (t6 : Int) : Option ((List Int × tyTok.den × tyTok.den × Int × Unit) ⊕ Empty) := T.pc 212 true 2 (t0, t3, t4, t6, ())
def spec_l1word_l8 (T : S.Tab) (t3 : tyTok.den) (t4 : tyTok.den) (t7 : List Int) (t32 : List (List Int)) (t33 : Int) (t34 : Int) : Option ((tyTok.den × Int × Unit) ⊕ (tyTok.den × tyTok.den × List Int × Unit) ⊕ Empty) := T.pc 212 true 8 (t3, t4, t7, t32, t33, t34, ())
abbrev o_spec_l1hex : Unit × Unit := ((), ())
def spec_l1hex (T : S.Tab) (t0 : Int) : Option (Int × Unit × Unit) := T.fn 250 (t0, ())
abbrev o_spec_l1hexed : Unit × (Unit × Unit × Unit × Unit × Unit × Unit × Unit) × Unit := ((), (((), ((), ((), ((), ((), ((), ())))))), ()))
def spec_l1hexed (T : S.Tab) (t0 : List Int) (t1 : tyTok.den) : Option ((tyTok.den × Int × Unit) × Unit × (Unit × Unit × Unit × Unit × Unit × Unit × Unit) × Unit) := T.fn 249 (t0, t1, ())
def spec_l1hexed_l3 (T : S.Tab) (t0 : List Int) (t3 : tyTok.den) (t4 : tyTok.den) (t6 : Int) (t7 : Int) : Option ((tyTok.den × Int × Unit) ⊕ (tyTok.den × tyTok.den × Int × Int × Unit) ⊕ Empty) := T.pc 249 true 3 (t0, t3, t4, t6, t7, ())
abbrev o_spec_l1number : Unit × (Unit × Unit × Unit × Unit × Unit × Unit × Unit) × Unit := ((), (((), ((), ((), ((), ((), ((), ())))))), ()))
def spec_l1number (T : S.Tab) (t0 : List Int) (t1 : tyTok.den) : Option ((tyTok.den × Int × Unit) × Unit × (Unit × Unit × Unit × Unit × Unit × Unit × Unit) × Unit) := T.fn 214 (t0, t1, ())
def spec_l1number_j9 (T : S.Tab) (t0 : List Int) (t3 : tyTok.den) (t4 : tyTok.den) (t6 : Int) : Option ((tyTok.den × Int × Unit) ⊕ Empty) := T.pc 214 false 9 (t0, t3, t4, t6, ())
def spec_l1number_j14 (T : S.Tab) (t0 : List Int) (t3 : tyTok.den) (t4 : tyTok.den) (t6 : Int) : Option ((tyTok.den × Int × Unit) ⊕ Empty) := T.pc 214 false 14 (t0, t3, t4, t6, ())
def spec_l1number_j23 (T : S.Tab) (t0 : List Int) (t3 : tyTok.den) (t4 : tyTok.den) (t6 : Int) : Option ((tyTok.den × Int × Unit) ⊕ Empty) := T.pc 214 false 23 (t0, t3, t4, t6, ())
def spec_l1number_l7 (T : S.Tab) (t0 : List Int) (t3 : tyTok.den) (t4 : tyTok.den) (t6 : Int) : Option ((List Int × tyTok.den × tyTok.den × Int × Unit) ⊕ Empty) := T.pc 214 true 7 (t0, t3, t4, t6, ())
def spec_l1number_l12 (T : S.Tab) (t0 : List Int) (t3 : tyTok.den) (t4 : tyTok.den) (t6 : Int) : Option ((List Int × tyTok.den × tyTok.den × Int × Unit) ⊕ Empty) := T.pc 214 true 12 (t0, t3, t4, t6, ())
def spec_l1number_l21 (T : S.Tab) (t0 : List Int) (t3 : tyTok.den) (t4 : tyTok.den) (t6 : Int) : Option ((List Int × tyTok.den × tyTok.den × Int × Unit) ⊕ Empty) := T.pc 214 true 21 (t0, t3, t4, t6, ())
def spec_l1number_l26 (T : S.Tab) (t0 : List Int) (t3 : tyTok.den) (t4 : tyTok.den) (t6 : Int) (t7 : Int) (t8 : Int) : Option ((List Int × tyTok.den × tyTok.den × Int × Int × Unit) ⊕ Empty) := T.pc 214 true 26 (t0, t3, t4, t6, t7, t8, ())
abbrev o_spec_l1string : Unit × (Unit × Unit × Unit × Unit × Unit × Unit × Unit) × Unit := ((), (((), ((), ((), ((), ((), ((), ())))))), ()))
def spec_l1string (T : S.Tab) (t0 : List Int) (t1 : tyTok.den) : Option ((tyTok.den × Int × Unit) × Unit × (Unit × Unit × Unit × Unit × Unit × Unit × Unit) × Unit) := T.fn 215 (t0, t1, ())
def spec_l1string_j24 (T : S.Tab) (t0 : List Int) (t3 : tyTok.den) (t4 : tyTok.den) (t6 : Int) (t7 : List Int) (t46 : Int) (t59 : Bool) : Option ((List Int × tyTok.den × tyTok.den × Int × List Int × Unit) ⊕ (tyTok.den × Int × Unit) ⊕ Empty) := T.pc 215 false 24 (t0, t3, t4, t6, t7, t46, t59, ())
def spec_l1string_l4 (T : S.Tab) (t0 : List Int) (t3 : tyTok.den) (t4 : tyTok.den) (t6 : Int) (t7 : List Int) : Option ((tyTok.den × Int × Unit) ⊕ (tyTok.den × tyTok.den × Int × Unit) ⊕ Empty) := T.pc 215 true 4 (t0, t3, t4, t6, t7, ())
def spec_l1string_l27 (T : S.Tab) (t0 : List Int) (t3 : tyTok.den) (t4 : tyTok.den) (t6 : Int) (t7 : List Int) (t9 : Int) : Option ((tyTok.den × Int × Unit) ⊕ (List Int × tyTok.den × tyTok.den × Int × List Int × Unit) ⊕ Empty) := T.pc 215 true 27 (t0, t3, t4, t6, t7, t9, ())
abbrev o_spec_l1signs : Unit := ()
def spec_l1signs (T : S.Tab) : Option (List (List Int) × Unit) := T.fn 203 ()
abbrev o_spec_l1sign : Unit × Unit := ((), ())
def spec_l1sign (T : S.Tab) (t0 : List Int) : Option (Int × Unit × Unit) := T.fn 204 (t0, ())
def spec_l1sign_l3 (T : S.Tab) (t0 : List Int) (t3 : List (List Int)) (t4 : Int) : Option ((Int × Unit) ⊕ (List Int × Unit) ⊕ Empty) := T.pc 204 true 3 (t0, t3, t4, ())
def spec_l1sign_l9 (T : S.Tab) (t0 : List Int) (t24 : List (List Int)) (t25 : Int) (t26 : Int) : Option ((Int × Unit) ⊕ (Unit) ⊕ Empty) := T.pc 204 true 9 (t0, t24, t25, t26, ())
abbrev o_spec_l1read : Unit × Unit × Unit := ((), ((), ()))
def spec_l1read (T : S.Tab) (t0 : List Int) (t1 : Int) : Option ((tyTok.den × Int × Unit) × Unit × Unit × Unit) := T.fn 144 (t0, t1, ())
def spec_l1read_l14 (T : S.Tab) (t0 : List Int) (t1 : Int) (t4 : tyTok.den) (t6 : tyTok.den) (t43 : List (List Int)) (t44 : Int) (t45 : Int) : Option ((tyTok.den × Int × Unit) ⊕ (Int × tyTok.den × tyTok.den × Unit) ⊕ Empty) := T.pc 144 true 14 (t0, t1, t4, t6, t43, t44, t45, ())
abbrev o_spec_l1nameok : Unit × Unit := ((), ())
def spec_l1nameok (T : S.Tab) (t0 : List Int) : Option (Bool × Unit × Unit) := T.fn 184 (t0, ())
abbrev o_spec_l2named : (Unit × Unit × Unit × Unit × Unit × Unit × Unit × Unit × Unit × Unit) × Unit × Unit × Unit := (((), ((), ((), ((), ((), ((), ((), ((), ((), ()))))))))), ((), ((), ())))
def spec_l2named (T : S.Tab) (t0 : tyNode.den) (t1 : Int) (t2 : Int) : Option (Bool × (Unit × Unit × Unit × Unit × Unit × Unit × Unit × Unit × Unit × Unit) × Unit × Unit × Unit) := T.fn 180 (t0, t1, t2, ())
def spec_l2named_l4 (T : S.Tab) (t22 : List (List Int)) (t23 : Int) (t24 : Int) : Option ((Bool × Unit) ⊕ (Unit) ⊕ Empty) := T.pc 180 true 4 (t22, t23, t24, ())
abbrev o_spec_l2expr : Unit × Unit := ((), ())
def spec_l2expr (T : S.Tab) (t0 : Int) : Option (Bool × Unit × Unit) := T.fn 242 (t0, ())
abbrev o_spec_l2exprs : (Unit × Unit) × (Unit × Unit × Unit × Unit × Unit × Unit × Unit × Unit × Unit × Unit) × Unit × Unit × Unit := (((), ()), (((), ((), ((), ((), ((), ((), ((), ((), ((), ()))))))))), ((), ((), ()))))
def spec_l2exprs (T : S.Tab) (t0 : List tyNode.den × Unit) (t1 : tyNode.den) (t2 : Int) (t3 : Int) : Option (Bool × (Unit × Unit) × (Unit × Unit × Unit × Unit × Unit × Unit × Unit × Unit × Unit × Unit) × Unit × Unit × Unit) := T.fn 181 (t0, t1, t2, t3, ())
def spec_l2exprs_l2 (T : S.Tab) (t3 : Int) (t4 : List tyNode.den × Unit) (t5 : tyNode.den) (t9 : Int) : Option ((Bool × Unit) ⊕ (Unit) ⊕ Empty) := T.pc 181 true 2 (t3, t4, t5, t9, ())
abbrev o_spec_l2target : Unit × Unit := ((), ())
def spec_l2target (T : S.Tab) (t0 : Int) : Option (Bool × Unit × Unit) := T.fn 182 (t0, ())
abbrev o_spec_l2statement : (Unit × Unit) × (Unit × Unit × Unit × Unit × Unit × Unit × Unit × Unit × Unit × Unit) × Unit := (((), ()), (((), ((), ((), ((), ((), ((), ((), ((), ((), ()))))))))), ()))
def spec_l2statement (T : S.Tab) (t0 : List tyNode.den × Unit) (t1 : tyNode.den) : Option (Bool × (Unit × Unit) × (Unit × Unit × Unit × Unit × Unit × Unit × Unit × Unit × Unit × Unit) × Unit) := T.fn 115 (t0, t1, ())
def spec_l2statement_j28 (T : S.Tab) (t2 : List tyNode.den × Unit) (t3 : tyNode.den) (t5 : Int) (t12 : Int) (t113 : Bool) : Option ((Bool × Unit) ⊕ ((List tyNode.den × Unit) × tyNode.den × Int × Unit) ⊕ Empty) := T.pc 115 false 28 (t2, t3, t5, t12, t113, ())
def spec_l2statement_j41 (T : S.Tab) (t2 : List tyNode.den × Unit) (t3 : tyNode.den) (t5 : Int) (t12 : Int) (t240 : Bool) : Option ((Bool × Unit) ⊕ ((List tyNode.den × Unit) × tyNode.den × Int × Unit) ⊕ Empty) := T.pc 115 false 41 (t2, t3, t5, t12, t240, ())
def spec_l2statement_j46 (T : S.Tab) (t2 : List tyNode.den × Unit) (t3 : tyNode.den) (t5 : Int) : Option ((Bool × Unit) ⊕ Empty) := T.pc 115 false 46 (t2, t3, t5, ())
def spec_l2statement_l5 (T : S.Tab) (t2 : List tyNode.den × Unit) (t3 : tyNode.den) (t17 : Int) (t18 : Int) : Option ((Bool × Unit) ⊕ (tyNode.den × Unit) ⊕ Empty) := T.pc 115 true 5 (t2, t3, t17, t18, ())
def spec_l2statement_l21 (T : S.Tab) (t2 : List tyNode.den × Unit) (t3 : tyNode.den) (t5 : Int) (t7 : Int) : Option ((Bool × Unit) ⊕ ((List tyNode.den × Unit) × tyNode.den × Int × Unit) ⊕ Empty) := T.pc 115 true 21 (t2, t3, t5, t7, ())
abbrev o_spec_l1fltok : Unit × Unit := ((), ())
def spec_l1fltok (T : S.Tab) (t0 : List Int) : Option (Bool × Unit × Unit) := T.fn 183 (t0, ())
abbrev o_spec_l2expression : (Unit × Unit) × (Unit × Unit × Unit × Unit × Unit × Unit × Unit × Unit × Unit × Unit) × Unit := (((), ()), (((), ((), ((), ((), ((), ((), ((), ((), ((), ()))))))))), ()))
def spec_l2expression (T : S.Tab) (t0 : List tyNode.den × Unit) (t1 : tyNode.den) : Option (Bool × (Unit × Unit) × (Unit × Unit × Unit × Unit × Unit × Unit × Unit × Unit × Unit × Unit) × Unit) := T.fn 116 (t0, t1, ())
def spec_l2expression_j7 (T : S.Tab) (t2 : List tyNode.den × Unit) (t3 : tyNode.den) (t5 : Int) (t12 : Int) (t13 : Bool) : Option ((Bool × Unit) ⊕ ((List tyNode.den × Unit) × tyNode.den × Int × Unit) ⊕ Empty) := T.pc 116 false 7 (t2, t3, t5, t12, t13, ())
def spec_l2expression_j18 (T : S.Tab) (t2 : List tyNode.den × Unit) (t3 : tyNode.den) (t5 : Int) (t12 : Int) (t72 : Bool) : Option ((Bool × Unit) ⊕ ((List tyNode.den × Unit) × tyNode.den × Int × Unit) ⊕ Empty) := T.pc 116 false 18 (t2, t3, t5, t12, t72, ())
def spec_l2expression_j46 (T : S.Tab) (t2 : List tyNode.den × Unit) (t3 : tyNode.den) (t5 : Int) : Option ((Bool × Unit) ⊕ Empty) := T.pc 116 false 46 (t2, t3, t5, ())
def spec_l2expression_l31 (T : S.Tab) (t2 : List tyNode.den × Unit) (t3 : tyNode.den) (t199 : Int) (t200 : Int) : Option ((Bool × Unit) ⊕ (tyNode.den × Unit) ⊕ Empty) := T.pc 116 true 31 (t2, t3, t199, t200, ())
abbrev o_spec_l2nodeok : (Unit × Unit) × Unit × Unit := (((), ()), ((), ()))
def spec_l2nodeok (T : S.Tab) (t0 : List tyNode.den × Unit) (t1 : Int) : Option (Bool × (Unit × Unit) × Unit × Unit) := T.fn 71 (t0, t1, ())
def spec_l2nodeok_l5 (T : S.Tab) (t1 : Int) (t2 : List tyNode.den × Unit) (t5 : tyNode.den) (t35 : List Int) (t36 : Int) (t37 : Int) : Option ((Bool × Unit) ⊕ ((List tyNode.den × Unit) × tyNode.den × Unit) ⊕ Empty) := T.pc 71 true 5 (t1, t2, t5, t35, t36, t37, ())
abbrev o_spec_l2sizes : (Unit × Unit) × Unit := (((), ()), ())
def spec_l2sizes (T : S.Tab) (t0 : List tyNode.den × Unit) : Option (List Int × (Unit × Unit) × Unit) := T.fn 72 (t0, ())
def spec_l2sizes_l3 (T : S.Tab) (t3 : List Int) (t15 : List tyNode.den) (t16 : Int) (t17 : Int) : Option ((List Int × Unit) ⊕ Empty) := T.pc 72 true 3 (t3, t15, t16, t17, ())
def spec_l2sizes_l8 (T : S.Tab) (t3 : List Int) (t4 : Int) (t5 : tyNode.den) (t6 : Int) (t7 : Bool) (t8 : Int) (t15 : List tyNode.den) (t16 : Int) (t17 : Int) : Option ((List Int × Int × Int × Bool × List tyNode.den × Int × Int × Unit) ⊕ Empty) := T.pc 72 true 8 (t3, t4, t5, t6, t7, t8, t15, t16, t17, ())
abbrev o_spec_TreeOk : (Unit × Unit) × Unit := (((), ()), ())
def spec_TreeOk (T : S.Tab) (t0 : List tyNode.den × Unit) : Option ((Int × Int × Unit) × (Unit × Unit) × Unit) := T.fn 38 (t0, ())
def spec_TreeOk_l4 (T : S.Tab) (t1 : List tyNode.den × Unit) (t2 : Int × Int × Unit) (t38 : Int) (t39 : Int) : Option (((Int × Int × Unit) × Unit) ⊕ ((List tyNode.den × Unit) × (Int × Int × Unit) × Unit) ⊕ Empty) := T.pc 38 true 4 (t1, t2, t38, t39, ())
def spec_TreeOk_l11 (T : S.Tab) (t1 : List tyNode.den × Unit) (t2 : Int × Int × Unit) (t4 : List Int) (t51 : List Int) (t52 : Int) (t53 : Int) : Option (((Int × Int × Unit) × Unit) ⊕ ((List tyNode.den × Unit) × (Int × Int × Unit) × List Int × Unit) ⊕ Empty) := T.pc 38 true 11 (t1, t2, t4, t51, t52, t53, ())
def spec_TreeOk_l20 (T : S.Tab) (t1 : List tyNode.den × Unit) (t2 : Int × Int × Unit) (t7 : List Int) (t8 : Int) : Option (((Int × Int × Unit) × List Int × Unit) ⊕ Empty) := T.pc 38 true 20 (t1, t2, t7, t8, ())
def spec_TreeOk_l23 (T : S.Tab) (t1 : List tyNode.den × Unit) (t2 : Int × Int × Unit) (t7 : List Int) (t8 : Int) (t93 : List Int) (t94 : Int) (t95 : Int) : Option (((List tyNode.den × Unit) × (Int × Int × Unit) × List Int × Int × Unit) ⊕ Empty) := T.pc 38 true 23 (t1, t2, t7, t8, t93, t94, t95, ())
def spec_TreeOk_l28 (T : S.Tab) (t2 : Int × Int × Unit) (t108 : List Int) (t109 : Int) (t110 : Int) : Option (((Int × Int × Unit) × Unit) ⊕ ((Int × Int × Unit) × Unit) ⊕ Empty) := T.pc 38 true 28 (t2, t108, t109, t110, ())
abbrev o_spec_Path : (Unit × Unit) × Unit × Unit := (((), ()), ((), ()))
def spec_Path (T : S.Tab) (t0 : List tyNode.den × Unit) (t1 : Int) : Option (List Int × (Unit × Unit) × Unit × Unit) := T.fn 11 (t0, t1, ())
def spec_Path_l6 (T : S.Tab) (t1 : Int) (t2 : List tyNode.den × Unit) (t6 : List Int) (t7 : Int) : Option ((List Int × Unit) ⊕ (List Int × Unit) ⊕ Empty) := T.pc 11 true 6 (t1, t2, t6, t7, ())
def spec_Path_l13 (T : S.Tab) (t1 : Int) (t2 : List tyNode.den × Unit) (t6 : List Int) (t7 : Int) (t43 : List Int) (t44 : Int) (t45 : Int) : Option ((Int × (List tyNode.den × Unit) × List Int × Int × Unit) ⊕ Empty) := T.pc 11 true 13 (t1, t2, t6, t7, t43, t44, t45, ())
abbrev o_impl_in : Unit × Unit × Unit × Unit := ((), ((), ((), ())))
def impl_in (T : S.Tab) (t0 : Int) (t1 : Int) (t2 : Int) : Option (Bool × Unit × Unit × Unit × Unit) := T.fn 185 (t0, t1, t2, ())
abbrev o_impl_letter : Unit × Unit := ((), ())
def impl_letter (T : S.Tab) (t0 : Int) : Option (Bool × Unit × Unit) := T.fn 153 (t0, ())
abbrev o_impl_digit : Unit × Unit := ((), ())
def impl_digit (T : S.Tab) (t0 : Int) : Option (Bool × Unit × Unit) := T.fn 154 (t0, ())
abbrev o_impl_word : Unit × Unit := ((), ())
def impl_word (T : S.Tab) (t0 : List Int) : Option (Int × Unit × Unit) := T.fn 155 (t0, ())
def impl_word_l2 (T : S.Tab) (t0 : List Int) (t5 : List (List Int)) (t6 : Int) (t7 : Int) : Option ((Int × Unit) ⊕ (Unit) ⊕ Empty) := T.pc 155 true 2 (t0, t5, t6, t7, ())
abbrev o_impl_hexd : Unit × Unit := ((), ())
def impl_hexd (T : S.Tab) (t0 : Int) : Option (Bool × Unit × Unit) := T.fn 157 (t0, ())
abbrev o_i_strconv_lower : Unit × Unit := ((), ())
def i_strconv_lower (T : S.Tab) (t0 : Int) : Option (Int × Unit × Unit) := T.fn 257 (t0, ())
abbrev o_i_strconv_underscoreOK : Unit × Unit := ((), ())
def i_strconv_underscoreOK (T : S.Tab) (t0 : List Int) : Option (Bool × Unit × Unit) := T.fn 258 (t0, ())
def i_strconv_underscoreOK_j5 (T : S.Tab) (t0 : List Int) (t3 : Int) (t4 : Int) : Option ((Bool × Unit) ⊕ Empty) := T.pc 258 false 5 (t0, t3, t4, ())
def i_strconv_underscoreOK_j10 (T : S.Tab) (t0 : List Int) (t3 : Int) (t4 : Int) (t5 : Bool) : Option ((Bool × Unit) ⊕ Empty) := T.pc 258 false 10 (t0, t3, t4, t5, ())
def i_strconv_underscoreOK_l10 (T : S.Tab) (t0 : List Int) (t3 : Int) (t4 : Int) (t5 : Bool) : Option ((Bool × Unit) ⊕ (Int × Unit) ⊕ Empty) := T.pc 258 true 10 (t0, t3, t4, t5, ())
abbrev o_i_strconv_ParseUint : Unit × Unit × Unit × Unit := ((), ((), ((), ())))
def i_strconv_ParseUint (T : S.Tab) (t0 : List Int) (t1 : Int) (t2 : Int) : Option ((Int × Bool × Unit) × Unit × Unit × Unit × Unit) := T.fn 236 (t0, t1, t2, ())
def i_strconv_ParseUint_j21 (T : S.Tab) (t0 : List Int) (t1 : Int) (t2 : Int) (t8 : Bool) (t9 : List Int) : Option ((Int × Bool × Unit) ⊕ Empty) := T.pc 236 false 21 (t0, t1, t2, t8, t9, ())
def i_strconv_ParseUint_j25 (T : S.Tab) (t0 : List Int) (t1 : Int) (t2 : Int) (t8 : Bool) (t9 : List Int) : Option ((Int × Bool × Unit) ⊕ Empty) := T.pc 236 false 25 (t0, t1, t2, t8, t9, ())
def i_strconv_ParseUint_j32 (T : S.Tab) (t0 : List Int) (t1 : Int) (t2 : Int) (t8 : Bool) (t9 : List Int) (t10 : Int) : Option ((Int × Bool × Unit) ⊕ Empty) := T.pc 236 false 32 (t0, t1, t2, t8, t9, t10, ())
def i_strconv_ParseUint_j46 (T : S.Tab) (t1 : Int) (t8 : Bool) (t9 : List Int) (t10 : Int) (t11 : Int) (t12 : Bool) (t13 : Int) (t16 : Int) (t99 : List Int) (t100 : Int) (t101 : Int) : Option ((Int × Bool × Unit) ⊕ (Int × Bool × List Int × Int × Int × Bool × Int × List Int × Int × Int × Unit) ⊕ Empty) := T.pc 236 false 46 (t1, t8, t9, t10, t11, t12, t13, t16, t99, t100, t101, ())
def i_strconv_ParseUint_l36 (T : S.Tab) (t1 : Int) (t8 : Bool) (t9 : List Int) (t10 : Int) (t11 : Int) (t12 : Bool) (t13 : Int) (t99 : List Int) (t100 : Int) (t101 : Int) : Option ((Int × Bool × Unit) ⊕ (List Int × Bool × Int × Unit) ⊕ Empty) := T.pc 236 true 36 (t1, t8, t9, t10, t11, t12, t13, t99, t100, t101, ())
abbrev o_strconv_ParseUint : Unit × Unit × Unit × Unit := ((), ((), ((), ())))
def strconv_ParseUint (T : S.Tab) (t0 : List Int) (t1 : Int) (t2 : Int) : Option ((Int × Bool × Unit) × Unit × Unit × Unit × Unit) := T.fn 158 (t0, t1, t2, ())
abbrev o_impl_number : Unit × Unit × Unit := ((), ((), ()))
def impl_number (T : S.Tab) (t0 : List Int) (t1 : Int) : Option ((tyTok.den × Bool × Unit) × Unit × Unit × Unit) := T.fn 156 (t0, t1, ())
def impl_number_j17 (T : S.Tab) (t0 : List Int) (t1 : Int) (t4 : tyTok.den) (t6 : Int) : Option ((tyTok.den × Bool × Unit) ⊕ Empty) := T.pc 156 false 17 (t0, t1, t4, t6, ())
def impl_number_j22 (T : S.Tab) (t0 : List Int) (t1 : Int) (t4 : tyTok.den) (t6 : Int) (t9 : Int) : Option ((tyTok.den × Bool × Unit) ⊕ Empty) := T.pc 156 false 22 (t0, t1, t4, t6, t9, ())
def impl_number_j26 (T : S.Tab) (t0 : List Int) (t1 : Int) (t4 : tyTok.den) (t6 : Int) (t9 : Int) : Option ((tyTok.den × Bool × Unit) ⊕ (List Int × Int × tyTok.den × Int × Int × Unit) ⊕ Empty) := T.pc 156 false 26 (t0, t1, t4, t6, t9, ())
def impl_number_j31 (T : S.Tab) (t0 : List Int) (t1 : Int) (t4 : tyTok.den) (t6 : Int) (t9 : Int) : Option ((tyTok.den × Bool × Unit) ⊕ Empty) := T.pc 156 false 31 (t0, t1, t4, t6, t9, ())
def impl_number_l5 (T : S.Tab) (t0 : List Int) (t1 : Int) (t4 : tyTok.den) (t6 : Int) : Option ((List Int × Int × tyTok.den × Int × Unit) ⊕ Empty) := T.pc 156 true 5 (t0, t1, t4, t6, ())
def impl_number_l15 (T : S.Tab) (t0 : List Int) (t1 : Int) (t4 : tyTok.den) (t6 : Int) : Option ((List Int × Int × tyTok.den × Int × Unit) ⊕ Empty) := T.pc 156 true 15 (t0, t1, t4, t6, ())
def impl_number_l20 (T : S.Tab) (t0 : List Int) (t1 : Int) (t4 : tyTok.den) (t6 : Int) (t9 : Int) : Option ((List Int × Int × tyTok.den × Int × Int × Unit) ⊕ Empty) := T.pc 156 true 20 (t0, t1, t4, t6, t9, ())
def impl_number_l29 (T : S.Tab) (t0 : List Int) (t1 : Int) (t4 : tyTok.den) (t6 : Int) (t9 : Int) : Option ((List Int × Int × tyTok.den × Int × Int × Unit) ⊕ Empty) := T.pc 156 true 29 (t0, t1, t4, t6, t9, ())
abbrev o_i_stringslite_IndexByte : Unit × Unit × Unit := ((), ((), ()))
def i_stringslite_IndexByte (T : S.Tab) (t0 : List Int) (t1 : Int) : Option (Int × Unit × Unit × Unit) := T.fn 125 (t0, t1, ())
abbrev o_strings_IndexByte : Unit × Unit × Unit := ((), ((), ()))
def strings_IndexByte (T : S.Tab) (t0 : List Int) (t1 : Int) : Option (Int × Unit × Unit × Unit) := T.fn 81 (t0, t1, ())
abbrev o_impl_fixed : Unit × Unit := ((), ())
def impl_fixed (T : S.Tab) (t0 : Int) : Option (List Int × Unit × Unit) := T.fn 139 (t0, ())
abbrev o_i_stringslite_HasPrefix : Unit × Unit × Unit := ((), ((), ()))
def i_stringslite_HasPrefix (T : S.Tab) (t0 : List Int) (t1 : List Int) : Option (Bool × Unit × Unit × Unit) := T.fn 234 (t0, t1, ())
abbrev o_strings_HasPrefix : Unit × Unit × Unit := ((), ((), ()))
def strings_HasPrefix (T : S.Tab) (t0 : List Int) (t1 : List Int) : Option (Bool × Unit × Unit × Unit) := T.fn 152 (t0, t1, ())
abbrev o_impl_lex : Unit × Unit × Unit := ((), ((), ()))
def impl_lex (T : S.Tab) (t0 : List Int) (t1 : Int) : Option ((tyTok.den × Bool × Unit) × Unit × Unit × Unit) := T.fn 101 (t0, t1, ())
def impl_lex_l5 (T : S.Tab) (t0 : List Int) (t1 : Int) (t4 : tyTok.den) (t7 : Int) : Option ((List Int × Int × tyTok.den × Int × Unit) ⊕ Empty) := T.pc 101 true 5 (t0, t1, t4, t7, ())
def impl_lex_l18 (T : S.Tab) (t0 : List Int) (t4 : tyTok.den) (t8 : List Int) (t9 : Int) : Option ((tyTok.den × Bool × Unit) ⊕ Empty) := T.pc 101 true 18 (t0, t4, t8, t9, ())
def impl_lex_l39 (T : S.Tab) (t0 : List Int) (t4 : tyTok.den) (t8 : List Int) (t9 : Int) (t11 : Int) : Option ((tyTok.den × Bool × Unit) ⊕ (List Int × tyTok.den × List Int × Int × Unit) ⊕ Empty) := T.pc 101 true 39 (t0, t4, t8, t9, t11, ())
def impl_lex_l49 (T : S.Tab) (t0 : List Int) (t1 : Int) (t4 : tyTok.den) (t14 : Int) (t15 : Int) : Option ((Int × tyTok.den × Unit) ⊕ Empty) := T.pc 101 true 49 (t0, t1, t4, t14, t15, ())
abbrev o_impl_only : Unit × Unit × Unit := ((), ((), ()))
def impl_only (T : S.Tab) (t0 : List Int) (t1 : Int) : Option (Bool × Unit × Unit × Unit) := T.fn 243 (t0, t1, ())
abbrev o_impl_goodName : Unit × Unit := ((), ())
def impl_goodName (T : S.Tab) (t0 : List Int) : Option (Bool × Unit × Unit) := T.fn 186 (t0, ())
abbrev o_impl_isStat : Unit × Unit := ((), ())
def impl_isStat (T : S.Tab) (t0 : Int) : Option (Bool × Unit × Unit) := T.fn 191 (t0, ())
def impl_nodeOk_2 (T : S.Tab) (t0 : Bool) (t1 : Bool) (t2 : Bool) (t3 : Bool) (t4 : Int) (t5 : Int) (t6 : Int) (t7 : List Int) : Option (Bool × Unit × Unit × Unit × Unit × Int × Int × Int × List Int × Unit) := T.fn 189 (t0, t1, t2, t3, t4, t5, t6, t7, ())
abbrev o_impl_isExpr : Unit × Unit := ((), ())
def impl_isExpr (T : S.Tab) (t0 : Int) : Option (Bool × Unit × Unit) := T.fn 188 (t0, ())
def impl_nodeOk_1 (T : S.Tab) (t0 : Int) (t1 : Int) (t2 : List Int) : Option (Bool × Unit × Unit × List Int × Unit) := T.fn 187 (t0, t1, t2, ())
def impl_nodeOk_1_l2 (T : S.Tab) (t2 : List Int) (t11 : List Int) (t12 : Int) (t13 : Int) : Option ((List Int × Bool × Unit) ⊕ (List Int × Unit) ⊕ Empty) := T.pc 187 true 2 (t2, t11, t12, t13, ())
abbrev o_impl_goodFloat : Unit × Unit := ((), ())
def impl_goodFloat (T : S.Tab) (t0 : List Int) : Option (Bool × Unit × Unit) := T.fn 192 (t0, ())
def impl_nodeOk_3 (T : S.Tab) (t0 : Int) (t1 : List Int) : Option (Bool × Int × List Int × Unit) := T.fn 190 (t0, t1, ())
abbrev o_impl_nodeOk : (Unit × Unit) × Unit × Unit := (((), ()), ((), ()))
def impl_nodeOk (T : S.Tab) (t0 : List tyNode.den × Unit) (t1 : Int) : Option (Bool × (Unit × Unit) × Unit × Unit) := T.fn 119 (t0, t1, ())
def impl_nodeOk_j50 (T : S.Tab) (t6 : List Int) (t11 : Int) (t12 : Int) (t13 : Int) (t14 : List Int) (t16 : Int) (t105 : Int) (t205 : Bool) : Option ((Bool × Unit) ⊕ (Unit) ⊕ Empty) := T.pc 119 false 50 (t6, t11, t12, t13, t14, t16, t105, t205, ())
def impl_nodeOk_j65 (T : S.Tab) (t6 : List Int) (t11 : Int) (t12 : Int) (t13 : Int) (t14 : List Int) (t16 : Int) (t105 : Int) (t328 : Bool) : Option ((Bool × Unit) ⊕ (Unit) ⊕ Empty) := T.pc 119 false 65 (t6, t11, t12, t13, t14, t16, t105, t328, ())
def impl_nodeOk_j72 (T : S.Tab) (t6 : List Int) (t11 : Int) (t12 : Int) (t13 : Int) (t14 : List Int) (t16 : Int) (t105 : Int) (t378 : Bool) : Option ((Bool × Unit) ⊕ (Unit) ⊕ Empty) := T.pc 119 false 72 (t6, t11, t12, t13, t14, t16, t105, t378, ())
def impl_nodeOk_j84 (T : S.Tab) (t6 : List Int) (t11 : Int) (t12 : Int) (t13 : Int) (t14 : List Int) (t16 : Int) (t105 : Int) (t436 : Bool) : Option ((Bool × Unit) ⊕ (Unit) ⊕ Empty) := T.pc 119 false 84 (t6, t11, t12, t13, t14, t16, t105, t436, ())
def impl_nodeOk_l6 (T : S.Tab) (t1 : Int) (t2 : List tyNode.den × Unit) (t5 : tyNode.den) (t6 : List Int) (t58 : List Int) (t59 : Int) (t60 : Int) : Option ((Bool × Unit) ⊕ (tyNode.den × List Int × Unit) ⊕ Empty) := T.pc 119 true 6 (t1, t2, t5, t6, t58, t59, t60, ())
def impl_nodeOk_l13 (T : S.Tab) (t5 : tyNode.den) (t6 : List Int) (t80 : List (List Int)) (t81 : Int) (t82 : Int) : Option ((Bool × Unit) ⊕ (tyNode.den × List Int × Unit) ⊕ Empty) := T.pc 119 true 13 (t5, t6, t80, t81, t82, ())
def impl_nodeOk_l26 (T : S.Tab) (t11 : Int) (t12 : Int) (t13 : Int) (t14 : List Int) (t108 : List Int) (t109 : Int) (t110 : Int) : Option ((Bool × Unit) ⊕ (Int × Int × Int × List Int × Unit) ⊕ Empty) := T.pc 119 true 26 (t11, t12, t13, t14, t108, t109, t110, ())
def impl_nodeOk_l42 (T : S.Tab) (t6 : List Int) (t13 : Int) (t16 : Int) (t184 : List Int) (t185 : Int) (t186 : Int) : Option ((Bool × Unit) ⊕ (List Int × Int × Int × Unit) ⊕ Empty) := T.pc 119 true 42 (t6, t13, t16, t184, t185, t186, ())
def impl_nodeOk_l97 (T : S.Tab) (t11 : Int) (t12 : Int) (t13 : Int) (t14 : List Int) (t529 : List Int) (t530 : Int) (t531 : Int) : Option ((Bool × Unit) ⊕ (Int × Int × Int × List Int × Unit) ⊕ Empty) := T.pc 119 true 97 (t11, t12, t13, t14, t529, t530, t531, ())
abbrev o_impl_TreeOk : (Unit × Unit) × Unit := (((), ()), ())
def impl_TreeOk (T : S.Tab) (t0 : List tyNode.den × Unit) : Option ((Int × Int × Unit) × (Unit × Unit) × Unit) := T.fn 74 (t0, ())
def impl_TreeOk_l5 (T : S.Tab) (t1 : List tyNode.den × Unit) (t2 : Int × Int × Unit) (t3 : Int) (t37 : Int) (t38 : Int) : Option (((Int × Int × Unit) × Unit) ⊕ ((List tyNode.den × Unit) × (Int × Int × Unit) × Int × Unit) ⊕ Empty) := T.pc 74 true 5 (t1, t2, t3, t37, t38, ())
def impl_TreeOk_l12 (T : S.Tab) (t1 : List tyNode.den × Unit) (t2 : Int × Int × Unit) (t3 : Int) (t5 : List Int) (t51 : List tyNode.den) (t52 : Int) (t53 : Int) : Option (((Int × Int × Unit) × Unit) ⊕ ((List tyNode.den × Unit) × (Int × Int × Unit) × Int × Unit) ⊕ Empty) := T.pc 74 true 12 (t1, t2, t3, t5, t51, t52, t53, ())
def impl_TreeOk_l16 (T : S.Tab) (t1 : List tyNode.den × Unit) (t2 : Int × Int × Unit) (t3 : Int) (t5 : List Int) (t6 : Int) (t7 : tyNode.den) (t8 : Int) (t9 : Int) (t51 : List tyNode.den) (t52 : Int) (t53 : Int) : Option (((Int × Int × Unit) × Unit) ⊕ ((List tyNode.den × Unit) × (Int × Int × Unit) × Int × List Int × Int × Int × List tyNode.den × Int × Int × Unit) ⊕ Empty) := T.pc 74 true 16 (t1, t2, t3, t5, t6, t7, t8, t9, t51, t52, t53, ())
def impl_TreeOk_l27 (T : S.Tab) (t1 : List tyNode.den × Unit) (t2 : Int × Int × Unit) (t10 : List Int) (t11 : Int) : Option (((Int × Int × Unit) × List Int × Unit) ⊕ Empty) := T.pc 74 true 27 (t1, t2, t10, t11, ())
def impl_TreeOk_l30 (T : S.Tab) (t1 : List tyNode.den × Unit) (t2 : Int × Int × Unit) (t10 : List Int) (t11 : Int) (t113 : List Int) (t114 : Int) (t115 : Int) : Option (((List tyNode.den × Unit) × (Int × Int × Unit) × List Int × Int × Unit) ⊕ Empty) := T.pc 74 true 30 (t1, t2, t10, t11, t113, t114, t115, ())
def impl_TreeOk_l35 (T : S.Tab) (t2 : Int × Int × Unit) (t10 : List Int) (t129 : Int) (t130 : Int) : Option (((Int × Int × Unit) × Unit) ⊕ ((Int × Int × Unit) × Unit) ⊕ Empty) := T.pc 74 true 35 (t2, t10, t129, t130, ())
abbrev o_impl_sound : (Unit × Unit) × Unit := (((), ()), ())
def impl_sound (T : S.Tab) (t0 : List tyNode.den × Unit) : Option (Bool × (Unit × Unit) × Unit) := T.fn 40 (t0, ())
def impl_Path_1 (T : S.Tab) (t0 : Int) (t1 : List tyNode.den × Unit) (t2 : Int) : Option (Bool × Unit × (List tyNode.den × Unit) × Int × Unit) := T.fn 41 (t0, t1, t2, ())
abbrev o_impl_Path : (Unit × Unit) × Unit × Unit := (((), ()), ((), ()))
def impl_Path (T : S.Tab) (t0 : List tyNode.den × Unit) (t1 : Int) : Option (List Int × (Unit × Unit) × Unit × Unit) := T.fn 13 (t0, t1, ())
def impl_Path_l8 (T : S.Tab) (t2 : List tyNode.den × Unit) (t3 : Int) (t6 : Int) (t7 : List Int) : Option ((List Int × Unit) ⊕ Empty) := T.pc 13 true 8 (t2, t3, t6, t7, ())
def impl_Path_l10 (T : S.Tab) (t2 : List tyNode.den × Unit) (t3 : Int) (t7 : List Int) (t8 : Int) (t30 : List Int) (t31 : Int) (t32 : Int) : Option (((List tyNode.den × Unit) × Int × List Int × Int × Unit) ⊕ Empty) := T.pc 13 true 10 (t2, t3, t7, t8, t30, t31, t32, ())
abbrev o_laws_eqIntS : Unit × Unit × Unit := ((), ((), ()))
def laws_eqIntS (T : S.Tab) (t0 : List Int) (t1 : List Int) : Option (Bool × Unit × Unit × Unit) := T.fn 14 (t0, t1, ())
def laws_eqIntS_l4 (T : S.Tab) (t0 : List Int) (t1 : List Int) (t5 : Int) : Option ((Bool × Unit) ⊕ (Unit) ⊕ Empty) := T.pc 14 true 4 (t0, t1, t5, ())
abbrev o_laws_eqStringS : Unit × Unit × Unit := ((), ((), ()))
def laws_eqStringS (T : S.Tab) (t0 : List (List Int)) (t1 : List (List Int)) : Option (Bool × Unit × Unit × Unit) := T.fn 120 (t0, t1, ())
def laws_eqStringS_l4 (T : S.Tab) (t0 : List (List Int)) (t1 : List (List Int)) (t5 : Int) : Option ((Bool × Unit) ⊕ (Unit) ⊕ Empty) := T.pc 120 true 4 (t0, t1, t5, ())
abbrev o_laws_eqNode : (Unit × Unit × Unit × Unit × Unit × Unit × Unit × Unit × Unit × Unit) × (Unit × Unit × Unit × Unit × Unit × Unit × Unit × Unit × Unit × Unit) × Unit := (((), ((), ((), ((), ((), ((), ((), ((), ((), ()))))))))), (((), ((), ((), ((), ((), ((), ((), ((), ((), ()))))))))), ()))
def laws_eqNode (T : S.Tab) (t0 : tyNode.den) (t1 : tyNode.den) : Option (Bool × (Unit × Unit × Unit × Unit × Unit × Unit × Unit × Unit × Unit × Unit) × (Unit × Unit × Unit × Unit × Unit × Unit × Unit × Unit × Unit × Unit) × Unit) := T.fn 75 (t0, t1, ())
abbrev o_laws_eqNodeS : Unit × Unit × Unit := ((), ((), ()))
def laws_eqNodeS (T : S.Tab) (t0 : List tyNode.den) (t1 : List tyNode.den) : Option (Bool × Unit × Unit × Unit) := T.fn 42 (t0, t1, ())
def laws_eqNodeS_l4 (T : S.Tab) (t0 : List tyNode.den) (t1 : List tyNode.den) (t5 : Int) : Option ((Bool × Unit) ⊕ (Unit) ⊕ Empty) := T.pc 42 true 4 (t0, t1, t5, ())
abbrev o_laws_eqTree : (Unit × Unit) × (Unit × Unit) × Unit := (((), ()), (((), ()), ()))
def laws_eqTree (T : S.Tab) (t0 : List tyNode.den × Unit) (t1 : List tyNode.den × Unit) : Option (Bool × (Unit × Unit) × (Unit × Unit) × Unit) := T.fn 15 (t0, t1, ())
abbrev o_laws_markText : Unit × Unit := ((), ())
def laws_markText (T : S.Tab) (t0 : Int) : Option (List Int × Unit × Unit) := T.fn 47 (t0, ())
def laws_markText_l4 (T : S.Tab) (t0 : Int) (t3 : List Int) : Option ((List Int × Unit) ⊕ Empty) := T.pc 47 true 4 (t0, t3, ())
def laws_markStringS (T : S.Tab) (t0 : List (List Int)) (t1 : Int) : Option (Int × List (List Int) × Unit × Unit) := T.fn 76 (t0, t1, ())
def laws_markStringS_l2 (T : S.Tab) (t0 : List (List Int)) (t1 : Int) (t5 : Int) : Option ((List (List Int) × Int × Unit) ⊕ Empty) := T.pc 76 true 2 (t0, t1, t5, ())
def laws_markIntS (T : S.Tab) (t0 : List Int) (t1 : Int) : Option (Int × List Int × Unit × Unit) := T.fn 17 (t0, t1, ())
def laws_markIntS_l2 (T : S.Tab) (t0 : List Int) (t1 : Int) (t5 : Int) : Option ((List Int × Int × Unit) ⊕ Empty) := T.pc 17 true 2 (t0, t1, t5, ())
def laws_markNodeS (T : S.Tab) (t0 : List tyNode.den) (t1 : Int) : Option (Int × List tyNode.den × Unit × Unit) := T.fn 43 (t0, t1, ())
def laws_markNodeS_l2 (T : S.Tab) (t0 : List tyNode.den) (t1 : Int) (t5 : Int) : Option ((List tyNode.den × Int × Unit) ⊕ Empty) := T.pc 43 true 2 (t0, t1, t5, ())
def laws_markTree (T : S.Tab) (t0 : List tyNode.den × Unit) (t1 : Int) : Option (Int × (List tyNode.den × Unit) × Unit × Unit) := T.fn 16 (t0, t1, ())
abbrev o_laws_heldIntS : Unit × Unit × Unit := ((), ((), ()))
def laws_heldIntS (T : S.Tab) (t0 : List Int) (t1 : Int) : Option (Int × Unit × Unit × Unit) := T.fn 18 (t0, t1, ())
def laws_heldIntS_l2 (T : S.Tab) (t0 : List Int) (t1 : Int) (t5 : Int) : Option ((Int × Unit) ⊕ (Int × Unit) ⊕ Empty) := T.pc 18 true 2 (t0, t1, t5, ())
abbrev o_laws_FnExactPath : (Unit × Unit) × Unit × Unit := (((), ()), ((), ()))
def laws_FnExactPath (T : S.Tab) (t0 : List tyNode.den × Unit) (t1 : Int) : Option (Bool × (Unit × Unit) × Unit × Unit) := T.fn 3 (t0, t1, ())
theorem laws_szStringS_eq (T : S.Tab) (t0 : List (List Int)) (t1 : Int) : laws_szStringS (S.step T) t0 t1 =
 brk (decide (IntKind.i64.wrap (t1 - (t0.length : Int)) < (0 : Int))) (
  some ((-1 : Int), o_laws_szStringS)) (
  (laws_szStringS_l5 T t0 (IntKind.i64.wrap (t1 - (t0.length : Int))) (0 : Int)).bind (out2
    (fun y5 =>
   some (y5.1, o_laws_szStringS))
    (fun y5 =>
   some (y5.1, o_laws_szStringS))))
  := eF Tryz.func112 (by kernel_rfl)
theorem laws_szStringS_l5_eq (T : S.Tab) (t0 : List (List Int)) (t1 : Int) (t5 : Int) : laws_szStringS_l5 (S.step T) t0 t1 t5 =
 brk (decide (t5 < (t0.length : Int))) (
  brk (decide ((0 : Int) ≤ t5) && decide (t5 < (t0.length : Int))) (
  brk (decide (IntKind.i64.wrap (t1 - ((t0.getD t5.toNat []).length : Int)) < (0 : Int))) (
   some (Sum.inl ((-1 : Int), ()))) (
   laws_szStringS_l5 T t0 (IntKind.i64.wrap (t1 - ((t0.getD t5.toNat []).length : Int))) (IntKind.i64.wrap (t5 + (1 : Int))))) none) (
  some (Sum.inr (Sum.inl (t1, ()))))
  := eL Tryz.func112 rfl (by kernel_rfl)
theorem laws_szIntS_eq (T : S.Tab) (t0 : List Int) (t1 : Int) : laws_szIntS (S.step T) t0 t1 =
 brk (decide (IntKind.i64.wrap (t1 - (t0.length : Int)) < (0 : Int))) (
  some ((-1 : Int), o_laws_szIntS)) (
  some (IntKind.i64.wrap (t1 - (t0.length : Int)), o_laws_szIntS))
  := eF Tryz.func113 (by kernel_rfl)
theorem laws_szNode_eq (T : S.Tab) (t0 : tyNode.den) (t1 : Int) : laws_szNode (S.step T) t0 t1 =
 brk (decide (IntKind.i64.wrap (t1 - (t0.2.2.2.2.2.2.1.length : Int)) < (0 : Int))) (
  some ((-1 : Int), o_laws_szNode)) (
  (laws_szStringS T t0.2.2.2.2.2.2.2.1 (IntKind.i64.wrap (t1 - (t0.2.2.2.2.2.2.1.length : Int)))).bind fun d15 =>
  brk (decide (d15.1 < (0 : Int))) (
   some ((-1 : Int), o_laws_szNode)) (
   (laws_szIntS T t0.2.2.2.2.2.2.2.2.1 d15.1).bind fun d21 =>
   brk (decide (d21.1 < (0 : Int))) (
    some ((-1 : Int), o_laws_szNode)) (
    some (d21.1, o_laws_szNode))))
  := eF Tryz.func70 (by kernel_rfl)
theorem laws_szNodeS_eq (T : S.Tab) (t0 : List tyNode.den) (t1 : Int) : laws_szNodeS (S.step T) t0 t1 =
 brk (decide (IntKind.i64.wrap (t1 - (t0.length : Int)) < (0 : Int))) (
  some ((-1 : Int), o_laws_szNodeS)) (
  (laws_szNodeS_l5 T t0 (IntKind.i64.wrap (t1 - (t0.length : Int))) (0 : Int)).bind (out2
    (fun y5 =>
   some (y5.1, o_laws_szNodeS))
    (fun y5 =>
   some (y5.1, o_laws_szNodeS))))
  := eF Tryz.func37 (by kernel_rfl)
theorem laws_szNodeS_l5_eq (T : S.Tab) (t0 : List tyNode.den) (t1 : Int) (t5 : Int) : laws_szNodeS_l5 (S.step T) t0 t1 t5 =
 brk (decide (t5 < (t0.length : Int))) (
  brk (decide ((0 : Int) ≤ t5) && decide (t5 < (t0.length : Int))) (
  (laws_szNode T (at_ (τ := tyNode) t0 t5) t1).bind fun d23 =>
  brk (decide (d23.1 < (0 : Int))) (
   some (Sum.inl ((-1 : Int), ()))) (
   laws_szNodeS_l5 T t0 d23.1 (IntKind.i64.wrap (t5 + (1 : Int))))) none) (
  some (Sum.inr (Sum.inl (t1, ()))))
  := eL Tryz.func37 rfl (by kernel_rfl)
theorem laws_szTree_eq (T : S.Tab) (t0 : List tyNode.den × Unit) (t1 : Int) : laws_szTree (S.step T) t0 t1 =
 (laws_szNodeS T t0.1 t1).bind fun d8 =>
 brk (decide (d8.1 < (0 : Int))) (
  some ((-1 : Int), o_laws_szTree)) (
  some (d8.1, o_laws_szTree))
  := eF Tryz.func10 (by kernel_rfl)
theorem laws_toStringS_eq (T : S.Tab) (t0 : List (List Int)) : laws_toStringS (S.step T) t0 =
 brk (((decide ((0 : Int) ≤ (t0.length : Int))) && (decide ((t0.length : Int) ≤ (t0.length : Int)))) && (decide ((t0.length : Int) ≤ lim))) (
 (laws_toStringS_l3 T t0 (List.replicate ((t0.length : Int).toNat) ([] : List Int)) (0 : Int)).bind (out1
   (fun y3 =>
  some (y3.1, o_laws_toStringS)))) none
  := eF Tryz.func117 (by kernel_rfl)
theorem laws_toStringS_l3_eq (T : S.Tab) (t0 : List (List Int)) (t3 : List (List Int)) (t4 : Int) : laws_toStringS_l3 (S.step T) t0 t3 t4 =
 brk (decide (t4 < (t0.length : Int))) (
  brk (decide ((0 : Int) ≤ t4) && decide (t4 < (t0.length : Int))) (
  brk (decide ((0 : Int) ≤ t4) && decide (t4 < (t3.length : Int))) (
  laws_toStringS_l3 T t0 (t3.set t4.toNat (t0.getD t4.toNat [])) (IntKind.i64.wrap (t4 + (1 : Int)))) none) none) (
  some (Sum.inl (t3, ())))
  := eL Tryz.func117 rfl (by kernel_rfl)
theorem laws_toIntS_eq (T : S.Tab) (t0 : List Int) : laws_toIntS (S.step T) t0 =
 brk (((decide ((0 : Int) ≤ (t0.length : Int))) && (decide ((t0.length : Int) ≤ (t0.length : Int)))) && (decide ((t0.length : Int) ≤ lim))) (
 (laws_toIntS_l3 T t0 (List.replicate ((t0.length : Int).toNat) (0 : Int)) (0 : Int)).bind (out1
   (fun y3 =>
  some (y3.1, o_laws_toIntS)))) none
  := eF Tryz.func118 (by kernel_rfl)
theorem laws_toIntS_l3_eq (T : S.Tab) (t0 : List Int) (t3 : List Int) (t4 : Int) : laws_toIntS_l3 (S.step T) t0 t3 t4 =
 brk (decide (t4 < (t0.length : Int))) (
  brk (decide ((0 : Int) ≤ t4) && decide (t4 < (t0.length : Int))) (
  brk (decide ((0 : Int) ≤ t4) && decide (t4 < (t3.length : Int))) (
  laws_toIntS_l3 T t0 (t3.set t4.toNat (t0.getD t4.toNat 0)) (IntKind.i64.wrap (t4 + (1 : Int)))) none) none) (
  some (Sum.inl (t3, ())))
  := eL Tryz.func118 rfl (by kernel_rfl)
theorem laws_toNode_eq (T : S.Tab) (t0 : tyNode.den) : laws_toNode (S.step T) t0 =
 (laws_toStringS T t0.2.2.2.2.2.2.2.1).bind fun d27 =>
 (laws_toIntS T t0.2.2.2.2.2.2.2.2.1).bind fun d31 =>
 some ((t0.1, t0.2.1, t0.2.2.1, t0.2.2.2.1, t0.2.2.2.2.1, t0.2.2.2.2.2.1, t0.2.2.2.2.2.2.1, d27.1, d31.1, ()), o_laws_toNode)
  := eF Tryz.func73 (by kernel_rfl)
theorem laws_toNodeS_eq (T : S.Tab) (t0 : List tyNode.den) : laws_toNodeS (S.step T) t0 =
 brk (((decide ((0 : Int) ≤ (t0.length : Int))) && (decide ((t0.length : Int) ≤ (t0.length : Int)))) && (decide ((t0.length : Int) ≤ lim))) (
 (laws_toNodeS_l3 T t0 (List.replicate ((t0.length : Int).toNat) ((0 : Int), (0 : Int), (0 : Int), (0 : Int), (0 : Int), (0 : Int), ([] : List Int), [], [], ())) (0 : Int)).bind (out1
   (fun y3 =>
  some (y3.1, o_laws_toNodeS)))) none
  := eF Tryz.func39 (by kernel_rfl)
theorem laws_toNodeS_l3_eq (T : S.Tab) (t0 : List tyNode.den) (t3 : List tyNode.den) (t4 : Int) : laws_toNodeS_l3 (S.step T) t0 t3 t4 =
 brk (decide (t4 < (t0.length : Int))) (
  brk (decide ((0 : Int) ≤ t4) && decide (t4 < (t0.length : Int))) (
  (laws_toNode T (at_ (τ := tyNode) t0 t4)).bind fun d20 =>
  brk (decide ((0 : Int) ≤ t4) && decide (t4 < (t3.length : Int))) (
  laws_toNodeS_l3 T t0 (t3.set t4.toNat d20.1) (IntKind.i64.wrap (t4 + (1 : Int)))) none) none) (
  some (Sum.inl (t3, ())))
  := eL Tryz.func39 rfl (by kernel_rfl)
theorem laws_toTree_eq (T : S.Tab) (t0 : List tyNode.den × Unit) : laws_toTree (S.step T) t0 =
 (laws_toNodeS T t0.1).bind fun d6 =>
 some ((d6.1, ()), o_laws_toTree)
  := eF Tryz.func12 (by kernel_rfl)
theorem spec_l2stat_eq (T : S.Tab) (t0 : Int) : spec_l2stat (S.step T) t0 =
 brk (decide ((1 : Int) ≤ t0)) (
  some (decide (t0 ≤ (16 : Int)), o_spec_l2stat)) (
  some (false, o_spec_l2stat))
  := eF Tryz.func114 (by kernel_rfl)
theorem spec_l2kid_eq (T : S.Tab) (t0 : List tyNode.den × Unit) (t1 : tyNode.den) (t2 : Int) : spec_l2kid (S.step T) t0 t1 t2 =
 brk (decide ((0 : Int) ≤ t2) && decide (t2 < (t1.2.2.2.2.2.2.2.2.1.length : Int))) (
 brk (decide ((0 : Int) ≤ t1.2.2.2.2.2.2.2.2.1.getD t2.toNat 0) && decide (t1.2.2.2.2.2.2.2.2.1.getD t2.toNat 0 < (t0.1.length : Int))) (
 some ((at_ (τ := tyNode) t0.1 (t1.2.2.2.2.2.2.2.2.1.getD t2.toNat 0)).1, o_spec_l2kid)) none) none
  := eF Tryz.func178 (by kernel_rfl)
theorem spec_l2bare_eq (T : S.Tab) (t0 : tyNode.den) (t1 : Bool) (t2 : Bool) (t3 : Bool) (t4 : Bool) : spec_l2bare (S.step T) t0 t1 t2 t3 t4 =
 brk (t1) (
  brk (t2) (
   brk (t3) (
    brk (t4) (
     some (true, o_spec_l2bare)) (
     some (decide ((t0.2.2.2.2.2.2.2.1.length : Int) = (0 : Int)), o_spec_l2bare))) (
    brk (decide (t0.2.2.2.2.2.2.1 = ([] : List Int))) (
     brk (t4) (
      some (true, o_spec_l2bare)) (
      some (decide ((t0.2.2.2.2.2.2.2.1.length : Int) = (0 : Int)), o_spec_l2bare))) (
     some (false, o_spec_l2bare)))) (
   brk (decide (t0.2.2.2.2.2.1 = (0 : Int))) (
    brk (t3) (
     brk (t4) (
      some (true, o_spec_l2bare)) (
      some (decide ((t0.2.2.2.2.2.2.2.1.length : Int) = (0 : Int)), o_spec_l2bare))) (
     brk (decide (t0.2.2.2.2.2.2.1 = ([] : List Int))) (
      brk (t4) (
       some (true, o_spec_l2bare)) (
       some (decide ((t0.2.2.2.2.2.2.2.1.length : Int) = (0 : Int)), o_spec_l2bare))) (
      some (false, o_spec_l2bare)))) (
    some (false, o_spec_l2bare)))) (
  brk (decide (t0.2.2.2.2.1 = (0 : Int))) (
   brk (t2) (
    brk (t3) (
     brk (t4) (
      some (true, o_spec_l2bare)) (
      some (decide ((t0.2.2.2.2.2.2.2.1.length : Int) = (0 : Int)), o_spec_l2bare))) (
     brk (decide (t0.2.2.2.2.2.2.1 = ([] : List Int))) (
      brk (t4) (
       some (true, o_spec_l2bare)) (
       some (decide ((t0.2.2.2.2.2.2.2.1.length : Int) = (0 : Int)), o_spec_l2bare))) (
      some (false, o_spec_l2bare)))) (
    brk (decide (t0.2.2.2.2.2.1 = (0 : Int))) (
     brk (t3) (
      brk (t4) (
       some (true, o_spec_l2bare)) (
       some (decide ((t0.2.2.2.2.2.2.2.1.length : Int) = (0 : Int)), o_spec_l2bare))) (
      brk (decide (t0.2.2.2.2.2.2.1 = ([] : List Int))) (
       brk (t4) (
        some (true, o_spec_l2bare)) (
        some (decide ((t0.2.2.2.2.2.2.2.1.length : Int) = (0 : Int)), o_spec_l2bare))) (
       some (false, o_spec_l2bare)))) (
     some (false, o_spec_l2bare)))) (
   some (false, o_spec_l2bare)))
  := eF Tryz.func179 (by kernel_rfl)
theorem spec_l1letter_eq (T : S.Tab) (t0 : Int) : spec_l1letter (S.step T) t0 =
 brk (decide ((97 : Int) ≤ t0)) (
  brk (decide (t0 ≤ (122 : Int))) (
   some (true, o_spec_l1letter)) (
   brk (decide ((65 : Int) ≤ t0)) (
    brk (decide (t0 ≤ (90 : Int))) (
     some (true, o_spec_l1letter)) (
     some (decide (t0 = (95 : Int)), o_spec_l1letter))) (
    some (decide (t0 = (95 : Int)), o_spec_l1letter)))) (
  brk (decide ((65 : Int) ≤ t0)) (
   brk (decide (t0 ≤ (90 : Int))) (
    some (true, o_spec_l1letter)) (
    some (decide (t0 = (95 : Int)), o_spec_l1letter))) (
   some (decide (t0 = (95 : Int)), o_spec_l1letter)))
  := eF Tryz.func211 (by kernel_rfl)
theorem spec_l1look_eq (T : S.Tab) (t0 : List Int) (t1 : Int) : spec_l1look (S.step T) t0 t1 =
 brk (decide (t1 < (t0.length : Int))) (
  brk (decide ((0 : Int) ≤ t1) && decide (t1 < (t0.length : Int))) (
  some (t0.getD t1.toNat 0, o_spec_l1look)) none) (
  some ((0 : Int), o_spec_l1look))
  := eF Tryz.func210 (by kernel_rfl)
theorem spec_l1digit_eq (T : S.Tab) (t0 : Int) : spec_l1digit (S.step T) t0 =
 brk (decide ((48 : Int) ≤ t0)) (
  some (decide (t0 ≤ (57 : Int)), o_spec_l1digit)) (
  some (false, o_spec_l1digit))
  := eF Tryz.func213 (by kernel_rfl)
theorem spec_l1words_eq (T : S.Tab) : spec_l1words (S.step T) =
 some (([([97, 110, 100] : List Int), ([98, 114, 101, 97, 107] : List Int), ([99, 97, 116, 99, 104] : List Int), ([99, 111, 110, 115, 116] : List Int), ([100, 101, 102, 101, 114] : List Int), ([101, 108, 105, 102] : List Int), ([101, 108, 115, 101] : List Int), ([102, 97, 108, 115, 101] : List Int), ([102, 110] : List Int), ([102, 111, 114] : List Int), ([105, 102] : List Int), ([105, 110] : List Int), ([108, 101, 116] : List Int), ([110, 101, 120, 116] : List Int), ([110, 105, 108] : List Int), ([110, 111, 116] : List Int), ([111, 114] : List Int), ([114, 101, 116, 117, 114, 110] : List Int), ([116, 104, 114, 111, 119] : List Int), ([116, 114, 117, 101] : List Int), ([116, 114, 121] : List Int), ([119, 104, 105, 108, 101] : List Int)] : List (List Int)), o_spec_l1words)
  := eF Tryz.func202 (by kernel_rfl)
theorem spec_l1word_eq (T : S.Tab) (t0 : List Int) (t1 : tyTok.den) : spec_l1word (S.step T) t0 t1 =
 (spec_l1word_l2 T t0 t1 ((0 : Int), (0 : Int), (0 : Int), (0 : Int), (0 : Int), ([] : List Int), ()) t1.2.1).bind (out1
   (fun y2 =>
  brk (bounds y2.1.length y2.2.1.2.1 y2.2.2.2.1) (
  (spec_l1words T).bind fun d32 =>
  (spec_l1word_l8 T ((1 : Int), y2.2.1.2.1, y2.2.2.2.1, y2.2.1.2.2.2) y2.2.2.1 (sub y2.1 y2.2.1.2.1 y2.2.2.2.1) d32.1 (d32.1.length : Int) (0 : Int)).bind (out2
    (fun y8 =>
   some (y8, o_spec_l1word))
    (fun y8 =>
   some (((y8.1.1, y8.1.2.1, y8.1.2.2.1, y8.1.2.2.2.1, y8.1.2.2.2.2.1, y8.2.2), (-1 : Int), ()), o_spec_l1word)))) none))
  := eF Tryz.func212 (by kernel_rfl)
theorem spec_l1word_l2_eq (T : S.Tab) (t0 : List Int) (t3 : tyTok.den) (t4 : tyTok.den) (t6 : Int) : spec_l1word_l2 (S.step T) t0 t3 t4 t6 =
 (spec_l1look T t0 t6).bind fun d14 =>
 (spec_l1letter T d14.1).bind fun d15 =>
 brk (d15.1) (
  spec_l1word_l2 T t0 t3 t4 (IntKind.i64.wrap (t6 + (1 : Int)))) (
  (spec_l1look T t0 t6).bind fun d19 =>
  (spec_l1digit T d19.1).bind fun d20 =>
  brk (d20.1) (
   spec_l1word_l2 T t0 t3 t4 (IntKind.i64.wrap (t6 + (1 : Int)))) (
   some (Sum.inl (t0, t3, t4, t6, ()))))
  := eL Tryz.func212 rfl (by kernel_rfl)
theorem spec_l1word_l8_eq (T : S.Tab) (t3 : tyTok.den) (t4 : tyTok.den) (t7 : List Int) (t32 : List (List Int)) (t33 : Int) (t34 : Int) : spec_l1word_l8 (S.step T) t3 t4 t7 t32 t33 t34 =
 brk (decide (t34 < t33)) (
  brk (decide ((0 : Int) ≤ t34) && decide (t34 < (t32.length : Int))) (
  brk (decide ((t32.getD t34.toNat []) = t7)) (
   some (Sum.inl ((IntKind.i64.wrap ((10 : Int) + t34), t3.2), (-1 : Int), ()))) (
   spec_l1word_l8 T t3 t4 t7 t32 t33 (IntKind.i64.wrap (t34 + (1 : Int))))) none) (
  some (Sum.inr (Sum.inl (t3, t4, t7, ()))))
  := eL Tryz.func212 rfl (by kernel_rfl)
theorem spec_l1hex_eq (T : S.Tab) (t0 : Int) : spec_l1hex (S.step T) t0 =
 (spec_l1digit T t0).bind fun d4 =>
 brk (d4.1) (
  some (IntKind.i64.wrap (IntKind.u8.wrap (t0 - (48 : Int))), o_spec_l1hex)) (
  brk (decide ((97 : Int) ≤ t0)) (
   brk (decide (t0 ≤ (102 : Int))) (
    some (IntKind.i64.wrap ((IntKind.i64.wrap (IntKind.u8.wrap (t0 - (97 : Int)))) + (10 : Int)), o_spec_l1hex)) (
    some ((-1 : Int), o_spec_l1hex))) (
   some ((-1 : Int), o_spec_l1hex)))
  := eF Tryz.func250 (by kernel_rfl)
theorem spec_l1hexed_eq (T : S.Tab) (t0 : List Int) (t1 : tyTok.den) : spec_l1hexed (S.step T) t0 t1 =
 (spec_l1hexed_l3 T t0 t1 ((0 : Int), (0 : Int), (0 : Int), (0 : Int), (0 : Int), ([] : List Int), ()) (IntKind.i64.wrap (t1.2.1 + (2 : Int))) (0 : Int)).bind (out2
   (fun y3 =>
  some (y3, o_spec_l1hexed))
   (fun y3 =>
  brk (decide (y3.2.2.1 = IntKind.i64.wrap (y3.1.2.1 + (2 : Int)))) (
   some ((y3.1, y3.2.2.1, ()), o_spec_l1hexed)) (
   some (((y3.1.1, y3.1.2.1, y3.2.2.1, y3.1.2.2.2.1, IntKind.i64.wrap y3.2.2.2.1, y3.1.2.2.2.2.2), (-1 : Int), ()), o_spec_l1hexed))))
  := eF Tryz.func249 (by kernel_rfl)
theorem spec_l1hexed_l3_eq (T : S.Tab) (t0 : List Int) (t3 : tyTok.den) (t4 : tyTok.den) (t6 : Int) (t7 : Int) : spec_l1hexed_l3 (S.step T) t0 t3 t4 t6 t7 =
 (spec_l1look T t0 t6).bind fun d13 =>
 (spec_l1hex T d13.1).bind fun d14 =>
 brk (decide ((0 : Int) ≤ d14.1)) (
  brk (decide (IntKind.i64.wrap (t6 - t3.2.1) = (18 : Int))) (
   some (Sum.inl (t3, t6, ()))) (
   brk (decide ((0 : Int) ≤ t6) && decide (t6 < (t0.length : Int))) (
   (spec_l1hex T (t0.getD t6.toNat 0)).bind fun d28 =>
   spec_l1hexed_l3 T t0 t3 t4 (IntKind.i64.wrap (t6 + (1 : Int))) (IntKind.u64.wrap ((IntKind.u64.wrap (t7 * (16 : Int))) + (IntKind.u64.wrap d28.1)))) none)) (
  some (Sum.inr (Sum.inl (t3, t4, t6, t7, ()))))
  := eL Tryz.func249 rfl (by kernel_rfl)
theorem spec_l1number_eq (T : S.Tab) (t0 : List Int) (t1 : tyTok.den) : spec_l1number (S.step T) t0 t1 =
 brk (decide ((0 : Int) ≤ t1.2.1) && decide (t1.2.1 < (t0.length : Int))) (
 brk (decide (t0.getD t1.2.1.toNat 0 = (48 : Int))) (
  (spec_l1look T t0 (IntKind.i64.wrap (t1.2.1 + (1 : Int)))).bind fun d20 =>
  brk (decide (d20.1 = (120 : Int))) (
   (spec_l1hexed T t0 ((2 : Int), t1.2)).bind fun d25 =>
   some (d25.1, o_spec_l1number)) (
   brk (decide ((0 : Int) ≤ t1.2.1) && decide (t1.2.1 < (t0.length : Int))) (
   brk (!decide (t0.getD t1.2.1.toNat 0 = (48 : Int))) (
    (spec_l1number_l7 T t0 ((2 : Int), t1.2) ((0 : Int), (0 : Int), (0 : Int), (0 : Int), (0 : Int), ([] : List Int), ()) (IntKind.i64.wrap (t1.2.1 + (1 : Int)))).bind (out1
      (fun y7 =>
     (spec_l1number_j9 T y7.1 y7.2.1 y7.2.2.1 y7.2.2.2.1).bind (out1
       (fun y9 =>
      some (y9, o_spec_l1number)))))) (
    (spec_l1number_j9 T t0 ((2 : Int), t1.2) ((0 : Int), (0 : Int), (0 : Int), (0 : Int), (0 : Int), ([] : List Int), ()) (IntKind.i64.wrap (t1.2.1 + (1 : Int)))).bind (out1
      (fun y9 =>
     some (y9, o_spec_l1number))))) none)) (
  brk (decide ((0 : Int) ≤ t1.2.1) && decide (t1.2.1 < (t0.length : Int))) (
  brk (!decide (t0.getD t1.2.1.toNat 0 = (48 : Int))) (
   (spec_l1number_l7 T t0 ((2 : Int), t1.2) ((0 : Int), (0 : Int), (0 : Int), (0 : Int), (0 : Int), ([] : List Int), ()) (IntKind.i64.wrap (t1.2.1 + (1 : Int)))).bind (out1
     (fun y7 =>
    (spec_l1number_j9 T y7.1 y7.2.1 y7.2.2.1 y7.2.2.2.1).bind (out1
      (fun y9 =>
     some (y9, o_spec_l1number)))))) (
   (spec_l1number_j9 T t0 ((2 : Int), t1.2) ((0 : Int), (0 : Int), (0 : Int), (0 : Int), (0 : Int), ([] : List Int), ()) (IntKind.i64.wrap (t1.2.1 + (1 : Int)))).bind (out1
     (fun y9 =>
    some (y9, o_spec_l1number))))) none)) none
  := eF Tryz.func214 (by kernel_rfl)
theorem spec_l1number_j9_eq (T : S.Tab) (t0 : List Int) (t3 : tyTok.den) (t4 : tyTok.den) (t6 : Int) : spec_l1number_j9 (S.step T) t0 t3 t4 t6 =
 (spec_l1look T t0 t6).bind fun d43 =>
 brk (decide (d43.1 = (46 : Int))) (
  (spec_l1look T t0 (IntKind.i64.wrap (t6 + (1 : Int)))).bind fun d49 =>
  (spec_l1digit T d49.1).bind fun d50 =>
  brk (d50.1) (
   (spec_l1number_l12 T t0 ((3 : Int), t3.2) t4 (IntKind.i64.wrap (t6 + (1 : Int)))).bind (out1
     (fun y12 =>
    (spec_l1number_j14 T y12.1 y12.2.1 y12.2.2.1 y12.2.2.2.1).bind (out1
      (fun y14 =>
     some (Sum.inl y14)))))) (
   (spec_l1number_j14 T t0 t3 t4 t6).bind (out1
     (fun y14 =>
    some (Sum.inl y14))))) (
  (spec_l1number_j14 T t0 t3 t4 t6).bind (out1
    (fun y14 =>
   some (Sum.inl y14))))
  := eJ Tryz.func214 rfl (by kernel_rfl)
theorem spec_l1number_j14_eq (T : S.Tab) (t0 : List Int) (t3 : tyTok.den) (t4 : tyTok.den) (t6 : Int) : spec_l1number_j14 (S.step T) t0 t3 t4 t6 =
 (spec_l1look T t0 t6).bind fun d63 =>
 brk (decide (d63.1 = (101 : Int))) (
  (spec_l1look T t0 (IntKind.i64.wrap (t6 + (1 : Int)))).bind fun d70 =>
  brk (decide (d70.1 = (45 : Int))) (
   (spec_l1look T t0 (IntKind.i64.wrap ((IntKind.i64.wrap (t6 + (1 : Int))) + (1 : Int)))).bind fun d82 =>
   (spec_l1digit T d82.1).bind fun d83 =>
   brk (!d83.1) (
    some (Sum.inl (((3 : Int), t3.2), IntKind.i64.wrap ((IntKind.i64.wrap (t6 + (1 : Int))) + (1 : Int)), ()))) (
    (spec_l1number_l21 T t0 ((3 : Int), t3.2) t4 (IntKind.i64.wrap ((IntKind.i64.wrap (t6 + (1 : Int))) + (1 : Int)))).bind (out1
      (fun y21 =>
     (spec_l1number_j23 T y21.1 y21.2.1 y21.2.2.1 y21.2.2.2.1).bind (out1
       (fun y23 =>
      some (Sum.inl y23))))))) (
   (spec_l1look T t0 (IntKind.i64.wrap (t6 + (1 : Int)))).bind fun d75 =>
   brk (decide (d75.1 = (43 : Int))) (
    (spec_l1look T t0 (IntKind.i64.wrap ((IntKind.i64.wrap (t6 + (1 : Int))) + (1 : Int)))).bind fun d82 =>
    (spec_l1digit T d82.1).bind fun d83 =>
    brk (!d83.1) (
     some (Sum.inl (((3 : Int), t3.2), IntKind.i64.wrap ((IntKind.i64.wrap (t6 + (1 : Int))) + (1 : Int)), ()))) (
     (spec_l1number_l21 T t0 ((3 : Int), t3.2) t4 (IntKind.i64.wrap ((IntKind.i64.wrap (t6 + (1 : Int))) + (1 : Int)))).bind (out1
       (fun y21 =>
      (spec_l1number_j23 T y21.1 y21.2.1 y21.2.2.1 y21.2.2.2.1).bind (out1
        (fun y23 =>
       some (Sum.inl y23))))))) (
    (spec_l1look T t0 (IntKind.i64.wrap (t6 + (1 : Int)))).bind fun d82 =>
    (spec_l1digit T d82.1).bind fun d83 =>
    brk (!d83.1) (
     some (Sum.inl (((3 : Int), t3.2), IntKind.i64.wrap (t6 + (1 : Int)), ()))) (
     (spec_l1number_l21 T t0 ((3 : Int), t3.2) t4 (IntKind.i64.wrap (t6 + (1 : Int)))).bind (out1
       (fun y21 =>
      (spec_l1number_j23 T y21.1 y21.2.1 y21.2.2.1 y21.2.2.2.1).bind (out1
        (fun y23 =>
       some (Sum.inl y23))))))))) (
  (spec_l1number_j23 T t0 t3 t4 t6).bind (out1
    (fun y23 =>
   some (Sum.inl y23))))
  := eJ Tryz.func214 rfl (by kernel_rfl)
theorem spec_l1number_j23_eq (T : S.Tab) (t0 : List Int) (t3 : tyTok.den) (t4 : tyTok.den) (t6 : Int) : spec_l1number_j23 (S.step T) t0 t3 t4 t6 =
 (spec_l1number_l26 T t0 (t3.1, t3.2.1, t6, t3.2.2.2) t4 t6 (0 : Int) t3.2.1).bind (out1
   (fun y26 =>
  brk (decide (y26.2.1.1 = (3 : Int))) (
   brk (bounds y26.1.length y26.2.1.2.1 y26.2.2.2.1) (
   some (Sum.inl ((y26.2.1.1, y26.2.1.2.1, y26.2.1.2.2.1, y26.2.1.2.2.2.1, y26.2.1.2.2.2.2.1, sub y26.1 y26.2.1.2.1 y26.2.2.2.1, ()), (-1 : Int), ()))) none) (
   some (Sum.inl ((y26.2.1.1, y26.2.1.2.1, y26.2.1.2.2.1, y26.2.1.2.2.2.1, IntKind.i64.wrap y26.2.2.2.2.1, y26.2.1.2.2.2.2.2), (-1 : Int), ())))))
  := eJ Tryz.func214 rfl (by kernel_rfl)
theorem spec_l1number_l7_eq (T : S.Tab) (t0 : List Int) (t3 : tyTok.den) (t4 : tyTok.den) (t6 : Int) : spec_l1number_l7 (S.step T) t0 t3 t4 t6 =
 (spec_l1look T t0 t6).bind fun d37 =>
 (spec_l1digit T d37.1).bind fun d38 =>
 brk (d38.1) (
  spec_l1number_l7 T t0 t3 t4 (IntKind.i64.wrap (t6 + (1 : Int)))) (
  some (Sum.inl (t0, t3, t4, t6, ())))
  := eL Tryz.func214 rfl (by kernel_rfl)
theorem spec_l1number_l12_eq (T : S.Tab) (t0 : List Int) (t3 : tyTok.den) (t4 : tyTok.den) (t6 : Int) : spec_l1number_l12 (S.step T) t0 t3 t4 t6 =
 (spec_l1look T t0 t6).bind fun d57 =>
 (spec_l1digit T d57.1).bind fun d58 =>
 brk (d58.1) (
  spec_l1number_l12 T t0 t3 t4 (IntKind.i64.wrap (t6 + (1 : Int)))) (
  some (Sum.inl (t0, t3, t4, t6, ())))
  := eL Tryz.func214 rfl (by kernel_rfl)
theorem spec_l1number_l21_eq (T : S.Tab) (t0 : List Int) (t3 : tyTok.den) (t4 : tyTok.den) (t6 : Int) : spec_l1number_l21 (S.step T) t0 t3 t4 t6 =
 (spec_l1look T t0 t6).bind fun d89 =>
 (spec_l1digit T d89.1).bind fun d90 =>
 brk (d90.1) (
  spec_l1number_l21 T t0 t3 t4 (IntKind.i64.wrap (t6 + (1 : Int)))) (
  some (Sum.inl (t0, t3, t4, t6, ())))
  := eL Tryz.func214 rfl (by kernel_rfl)
theorem spec_l1number_l26_eq (T : S.Tab) (t0 : List Int) (t3 : tyTok.den) (t4 : tyTok.den) (t6 : Int) (t7 : Int) (t8 : Int) : spec_l1number_l26 (S.step T) t0 t3 t4 t6 t7 t8 =
 brk (decide (t8 < t6)) (
  brk (decide (t3.1 = (2 : Int))) (
   brk (decide ((922337203685477580 : Int) < t7)) (
    brk (decide ((0 : Int) ≤ t8) && decide (t8 < (t0.length : Int))) (
    spec_l1number_l26 T t0 ((3 : Int), t3.2) t4 t6 (IntKind.u64.wrap ((IntKind.u64.wrap (t7 * (10 : Int))) + (IntKind.u64.wrap (IntKind.u8.wrap ((t0.getD t8.toNat 0) - (48 : Int)))))) (IntKind.i64.wrap (t8 + (1 : Int)))) none) (
    brk (decide (t7 = (922337203685477580 : Int))) (
     brk (decide ((0 : Int) ≤ t8) && decide (t8 < (t0.length : Int))) (
     brk (decide ((55 : Int) < t0.getD t8.toNat 0)) (
      brk (decide ((0 : Int) ≤ t8) && decide (t8 < (t0.length : Int))) (
      spec_l1number_l26 T t0 ((3 : Int), t3.2) t4 t6 (IntKind.u64.wrap ((IntKind.u64.wrap (t7 * (10 : Int))) + (IntKind.u64.wrap (IntKind.u8.wrap ((t0.getD t8.toNat 0) - (48 : Int)))))) (IntKind.i64.wrap (t8 + (1 : Int)))) none) (
      brk (decide ((0 : Int) ≤ t8) && decide (t8 < (t0.length : Int))) (
      spec_l1number_l26 T t0 t3 t4 t6 (IntKind.u64.wrap ((IntKind.u64.wrap (t7 * (10 : Int))) + (IntKind.u64.wrap (IntKind.u8.wrap ((t0.getD t8.toNat 0) - (48 : Int)))))) (IntKind.i64.wrap (t8 + (1 : Int)))) none)) none) (
     brk (decide ((0 : Int) ≤ t8) && decide (t8 < (t0.length : Int))) (
     spec_l1number_l26 T t0 t3 t4 t6 (IntKind.u64.wrap ((IntKind.u64.wrap (t7 * (10 : Int))) + (IntKind.u64.wrap (IntKind.u8.wrap ((t0.getD t8.toNat 0) - (48 : Int)))))) (IntKind.i64.wrap (t8 + (1 : Int)))) none))) (
   some (Sum.inl (t0, t3, t4, t6, t7, ())))) (
  some (Sum.inl (t0, t3, t4, t6, t7, ())))
  := eL Tryz.func214 rfl (by kernel_rfl)
theorem spec_l1string_eq (T : S.Tab) (t0 : List Int) (t1 : tyTok.den) : spec_l1string (S.step T) t0 t1 =
 (spec_l1string_l4 T t0 ((4 : Int), t1.2) ((0 : Int), (0 : Int), (0 : Int), (0 : Int), (0 : Int), ([] : List Int), ()) (IntKind.i64.wrap (t1.2.1 + (1 : Int))) []).bind (out2
   (fun y4 =>
  some (y4, o_spec_l1string))
   (fun y4 =>
  some ((y4.1, y4.2.2), o_spec_l1string)))
  := eF Tryz.func215 (by kernel_rfl)
theorem spec_l1string_j24_eq (T : S.Tab) (t0 : List Int) (t3 : tyTok.den) (t4 : tyTok.den) (t6 : Int) (t7 : List Int) (t46 : Int) (t59 : Bool) : spec_l1string_j24 (S.step T) t0 t3 t4 t6 t7 t46 t59 =
 brk (t59) (
  brk (decide ((0 : Int) ≤ t6) && decide (t6 < (t0.length : Int))) (
  brk (fits (t7.length + ([t0.getD t6.toNat 0] : List Int).length)) (
  some (Sum.inl (t0, t3, t4, t6, t7 ++ ([t0.getD t6.toNat 0] : List Int), ()))) none) none) (
  brk (decide (t46 = (120 : Int))) (
   (spec_l1string_l27 T t0 t3 t4 t6 t7 (1 : Int)).bind (out2
     (fun y27 =>
    some (Sum.inr (Sum.inl y27)))
     (fun y27 =>
    brk (decide ((0 : Int) ≤ IntKind.i64.wrap (y27.2.2.2.1 + (1 : Int))) && decide (IntKind.i64.wrap (y27.2.2.2.1 + (1 : Int)) < (y27.1.length : Int))) (
    (spec_l1hex T (y27.1.getD ((IntKind.i64.wrap (y27.2.2.2.1 + (1 : Int))).toNat) 0)).bind fun d90 =>
    brk (decide ((0 : Int) ≤ IntKind.i64.wrap (y27.2.2.2.1 + (2 : Int))) && decide (IntKind.i64.wrap (y27.2.2.2.1 + (2 : Int)) < (y27.1.length : Int))) (
    (spec_l1hex T (y27.1.getD ((IntKind.i64.wrap (y27.2.2.2.1 + (2 : Int))).toNat) 0)).bind fun d96 =>
    brk (fits (y27.2.2.2.2.1.length + ([IntKind.u8.wrap (IntKind.i64.wrap ((IntKind.i64.wrap ((16 : Int) * d90.1)) + d96.1))] : List Int).length)) (
    some (Sum.inl (y27.1, y27.2.1, y27.2.2.1, IntKind.i64.wrap (y27.2.2.2.1 + (2 : Int)), y27.2.2.2.2.1 ++ ([IntKind.u8.wrap (IntKind.i64.wrap ((IntKind.i64.wrap ((16 : Int) * d90.1)) + d96.1))] : List Int), ()))) none) none) none))) (
   some (Sum.inr (Sum.inl (t3, t6, ())))))
  := eJ Tryz.func215 rfl (by kernel_rfl)
theorem spec_l1string_l4_eq (T : S.Tab) (t0 : List Int) (t3 : tyTok.den) (t4 : tyTok.den) (t6 : Int) (t7 : List Int) : spec_l1string_l4 (S.step T) t0 t3 t4 t6 t7 =
 brk (decide (t6 < (t0.length : Int))) (
  brk (decide ((0 : Int) ≤ t6) && decide (t6 < (t0.length : Int))) (
  brk (decide (t0.getD t6.toNat 0 = (34 : Int))) (
   some (Sum.inl ((t3.1, t3.2.1, IntKind.i64.wrap (t6 + (1 : Int)), t3.2.2.2.1, t3.2.2.2.2.1, t7.map byte, ()), (-1 : Int), ()))) (
   brk (decide (t0.getD t6.toNat 0 = (10 : Int))) (
    some (Sum.inl (t3, t6, ()))) (
    brk (!decide (t0.getD t6.toNat 0 = (92 : Int))) (
     brk (fits (t7.length + ([t0.getD t6.toNat 0] : List Int).length)) (
     spec_l1string_l4 T t0 t3 t4 (IntKind.i64.wrap (t6 + (1 : Int))) (t7 ++ ([t0.getD t6.toNat 0] : List Int))) none) (
     (spec_l1look T t0 (IntKind.i64.wrap (t6 + (1 : Int)))).bind fun d46 =>
     brk (decide (d46.1 = (110 : Int))) (
      brk (fits (t7.length + 1)) (
      spec_l1string_l4 T t0 t3 t4 (IntKind.i64.wrap ((IntKind.i64.wrap (t6 + (1 : Int))) + (1 : Int))) (t7 ++ ([10] : List Int))) none) (
      brk (decide (d46.1 = (116 : Int))) (
       brk (fits (t7.length + 1)) (
       spec_l1string_l4 T t0 t3 t4 (IntKind.i64.wrap ((IntKind.i64.wrap (t6 + (1 : Int))) + (1 : Int))) (t7 ++ ([9] : List Int))) none) (
       brk (decide (d46.1 = (34 : Int))) (
        (spec_l1string_j24 T t0 t3 t4 (IntKind.i64.wrap (t6 + (1 : Int))) t7 d46.1 (decide (d46.1 = (34 : Int)))).bind (out2
          (fun y24 =>
         spec_l1string_l4 T y24.1 y24.2.1 y24.2.2.1 (IntKind.i64.wrap (y24.2.2.2.1 + (1 : Int))) y24.2.2.2.2.1)
          (fun y24 =>
         some (Sum.inl y24)))) (
        (spec_l1string_j24 T t0 t3 t4 (IntKind.i64.wrap (t6 + (1 : Int))) t7 d46.1 (decide (d46.1 = (92 : Int)))).bind (out2
          (fun y24 =>
         spec_l1string_l4 T y24.1 y24.2.1 y24.2.2.1 (IntKind.i64.wrap (y24.2.2.2.1 + (1 : Int))) y24.2.2.2.2.1)
          (fun y24 =>
         some (Sum.inl y24)))))))))) none) (
  some (Sum.inr (Sum.inl (t3, t4, t6, ()))))
  := eL Tryz.func215 rfl (by kernel_rfl)
theorem spec_l1string_l27_eq (T : S.Tab) (t0 : List Int) (t3 : tyTok.den) (t4 : tyTok.den) (t6 : Int) (t7 : List Int) (t9 : Int) : spec_l1string_l27 (S.step T) t0 t3 t4 t6 t7 t9 =
 brk (decide (t9 < (3 : Int))) (
  (spec_l1look T t0 (IntKind.i64.wrap (t6 + t9))).bind fun d78 =>
  (spec_l1hex T d78.1).bind fun d79 =>
  brk (decide (d79.1 < (0 : Int))) (
   some (Sum.inl (t3, IntKind.i64.wrap (t6 + t9), ()))) (
   spec_l1string_l27 T t0 t3 t4 t6 t7 (IntKind.i64.wrap (t9 + (1 : Int))))) (
  some (Sum.inr (Sum.inl (t0, t3, t4, t6, t7, ()))))
  := eL Tryz.func215 rfl (by kernel_rfl)
theorem spec_l1signs_eq (T : S.Tab) : spec_l1signs (S.step T) =
 some (([([46, 46, 46] : List Int), ([46, 46] : List Int), ([46] : List Int), ([60, 60] : List Int), ([60, 61] : List Int), ([60] : List Int), ([62, 62] : List Int), ([62, 61] : List Int), ([62] : List Int), ([61, 61] : List Int), ([61] : List Int), ([126, 61] : List Int), ([126] : List Int), ([47, 47] : List Int), ([47] : List Int), ([40] : List Int), ([41] : List Int), ([123] : List Int), ([125] : List Int), ([91] : List Int), ([93] : List Int), ([44] : List Int), ([59] : List Int), ([35] : List Int), ([43] : List Int), ([45] : List Int), ([42] : List Int), ([37] : List Int), ([38] : List Int), ([124] : List Int)] : List (List Int)), o_spec_l1signs)
  := eF Tryz.func203 (by kernel_rfl)
theorem spec_l1sign_eq (T : S.Tab) (t0 : List Int) : spec_l1sign (S.step T) t0 =
 (spec_l1sign_l3 T t0 ([([] : List Int), ([43] : List Int), ([45] : List Int), ([42] : List Int), ([47] : List Int), ([47, 47] : List Int), ([37] : List Int), ([38] : List Int), ([124] : List Int), ([126] : List Int), ([60, 60] : List Int), ([62, 62] : List Int), ([46, 46] : List Int), ([61, 61] : List Int), ([126, 61] : List Int), ([60] : List Int), ([60, 61] : List Int), ([62] : List Int), ([62, 61] : List Int)] : List (List Int)) (1 : Int)).bind (out2
   (fun y3 =>
  some (y3.1, o_spec_l1sign))
   (fun y3 =>
  (spec_l1sign_l9 T y3.1 ([([40] : List Int), ([41] : List Int), ([123] : List Int), ([125] : List Int), ([91] : List Int), ([93] : List Int), ([44] : List Int), ([61] : List Int), ([46] : List Int), ([46, 46, 46] : List Int), ([35] : List Int)] : List (List Int)) (([([40] : List Int), ([41] : List Int), ([123] : List Int), ([125] : List Int), ([91] : List Int), ([93] : List Int), ([44] : List Int), ([61] : List Int), ([46] : List Int), ([46, 46, 46] : List Int), ([35] : List Int)] : List (List Int)).length : Int) (0 : Int)).bind (out2
    (fun y9 =>
   some (y9.1, o_spec_l1sign))
    (fun y9 =>
   some ((5 : Int), o_spec_l1sign)))))
  := eF Tryz.func204 (by kernel_rfl)
theorem spec_l1sign_l3_eq (T : S.Tab) (t0 : List Int) (t3 : List (List Int)) (t4 : Int) : spec_l1sign_l3 (S.step T) t0 t3 t4 =
 brk (decide (t4 < (t3.length : Int))) (
  brk (decide ((0 : Int) ≤ t4) && decide (t4 < (t3.length : Int))) (
  brk (decide ((t3.getD t4.toNat []) = t0)) (
   some (Sum.inl (IntKind.i64.wrap ((60 : Int) + t4), ()))) (
   spec_l1sign_l3 T t0 t3 (IntKind.i64.wrap (t4 + (1 : Int))))) none) (
  some (Sum.inr (Sum.inl (t0, ()))))
  := eL Tryz.func204 rfl (by kernel_rfl)
theorem spec_l1sign_l9_eq (T : S.Tab) (t0 : List Int) (t24 : List (List Int)) (t25 : Int) (t26 : Int) : spec_l1sign_l9 (S.step T) t0 t24 t25 t26 =
 brk (decide (t26 < t25)) (
  brk (decide ((0 : Int) ≤ t26) && decide (t26 < (t24.length : Int))) (
  brk (decide ((t24.getD t26.toNat []) = t0)) (
   some (Sum.inl (IntKind.i64.wrap ((40 : Int) + t26), ()))) (
   spec_l1sign_l9 T t0 t24 t25 (IntKind.i64.wrap (t26 + (1 : Int))))) none) (
  some (Sum.inr (Sum.inl ())))
  := eL Tryz.func204 rfl (by kernel_rfl)
theorem spec_l1read_eq (T : S.Tab) (t0 : List Int) (t1 : Int) : spec_l1read (S.step T) t0 t1 =
 brk (decide ((0 : Int) ≤ t1) && decide (t1 < (t0.length : Int))) (
 brk (decide (t0.getD t1.toNat 0 = (10 : Int))) (
  some ((((7 : Int), t1, IntKind.i64.wrap (t1 + (1 : Int)), (0 : Int), (0 : Int), ([] : List Int), ()), (-1 : Int), ()), o_spec_l1read)) (
  (spec_l1letter T (t0.getD t1.toNat 0)).bind fun d23 =>
  brk (d23.1) (
   (spec_l1word T t0 ((0 : Int), t1, (0 : Int), (0 : Int), (0 : Int), ([] : List Int), ())).bind fun d26 =>
   some (d26.1, o_spec_l1read)) (
   (spec_l1digit T (t0.getD t1.toNat 0)).bind fun d30 =>
   brk (d30.1) (
    (spec_l1number T t0 ((0 : Int), t1, (0 : Int), (0 : Int), (0 : Int), ([] : List Int), ())).bind fun d33 =>
    some (d33.1, o_spec_l1read)) (
    brk (decide (t0.getD t1.toNat 0 = (34 : Int))) (
     (spec_l1string T t0 ((0 : Int), t1, (0 : Int), (0 : Int), (0 : Int), ([] : List Int), ())).bind fun d40 =>
     some (d40.1, o_spec_l1read)) (
     (spec_l1signs T).bind fun d43 =>
     (spec_l1read_l14 T t0 t1 ((0 : Int), (0 : Int), (0 : Int), (0 : Int), (0 : Int), ([] : List Int), ()) ((0 : Int), t1, (0 : Int), (0 : Int), (0 : Int), ([] : List Int), ()) d43.1 (d43.1.length : Int) (0 : Int)).bind (out2
       (fun y14 =>
      some (y14, o_spec_l1read))
       (fun y14 =>
      some ((y14.2.2.1, y14.1, ()), o_spec_l1read)))))))) none
  := eF Tryz.func144 (by kernel_rfl)
theorem spec_l1read_l14_eq (T : S.Tab) (t0 : List Int) (t1 : Int) (t4 : tyTok.den) (t6 : tyTok.den) (t43 : List (List Int)) (t44 : Int) (t45 : Int) : spec_l1read_l14 (S.step T) t0 t1 t4 t6 t43 t44 t45 =
 brk (decide (t45 < t44)) (
  brk (decide ((0 : Int) ≤ t45) && decide (t45 < (t43.length : Int))) (
  brk (decide (((t43.getD t45.toNat []).length : Int) ≤ IntKind.i64.wrap ((t0.length : Int) - t1))) (
   brk (bounds t0.length t1 (IntKind.i64.wrap (t1 + ((t43.getD t45.toNat []).length : Int)))) (
   brk (decide ((sub t0 t1 (IntKind.i64.wrap (t1 + ((t43.getD t45.toNat []).length : Int)))) = (t43.getD t45.toNat []))) (
    (spec_l1sign T (t43.getD t45.toNat [])).bind fun d68 =>
    some (Sum.inl ((d68.1, t6.2.1, IntKind.i64.wrap (t1 + ((t43.getD t45.toNat []).length : Int)), t6.2.2.2), (-1 : Int), ()))) (
    spec_l1read_l14 T t0 t1 t4 t6 t43 t44 (IntKind.i64.wrap (t45 + (1 : Int))))) none) (
   spec_l1read_l14 T t0 t1 t4 t6 t43 t44 (IntKind.i64.wrap (t45 + (1 : Int))))) none) (
  some (Sum.inr (Sum.inl (t1, t4, t6, ()))))
  := eL Tryz.func144 rfl (by kernel_rfl)
theorem spec_l1nameok_eq (T : S.Tab) (t0 : List Int) : spec_l1nameok (S.step T) t0 =
 brk (decide ((t0.length : Int) = (0 : Int))) (
  some (false, o_spec_l1nameok)) (
  brk (decide ((40 : Int) < (t0.length : Int))) (
   some (false, o_spec_l1nameok)) (
   brk (decide ((0 : Int) < (t0.length : Int))) (
   (spec_l1letter T (t0.getD 0 0)).bind fun d16 =>
   brk (!d16.1) (
    some (false, o_spec_l1nameok)) (
    (spec_l1read T t0 (0 : Int)).bind fun d21 =>
    brk (decide (d21.1.2.1 < (0 : Int))) (
     brk (decide (d21.1.1.1 = (1 : Int))) (
      some (decide (d21.1.1.2.2.1 = (t0.length : Int)), o_spec_l1nameok)) (
      some (false, o_spec_l1nameok))) (
     some (false, o_spec_l1nameok)))) none))
  := eF Tryz.func184 (by kernel_rfl)
theorem spec_l2named_eq (T : S.Tab) (t0 : tyNode.den) (t1 : Int) (t2 : Int) : spec_l2named (S.step T) t0 t1 t2 =
 brk (decide ((t0.2.2.2.2.2.2.2.1.length : Int) < t1)) (
  some (false, o_spec_l2named)) (
  brk (decide (t2 < (t0.2.2.2.2.2.2.2.1.length : Int))) (
   some (false, o_spec_l2named)) (
   (spec_l2named_l4 T t0.2.2.2.2.2.2.2.1 (t0.2.2.2.2.2.2.2.1.length : Int) (0 : Int)).bind (out2
     (fun y4 =>
    some (y4.1, o_spec_l2named))
     (fun y4 =>
    some (true, o_spec_l2named)))))
  := eF Tryz.func180 (by kernel_rfl)
theorem spec_l2named_l4_eq (T : S.Tab) (t22 : List (List Int)) (t23 : Int) (t24 : Int) : spec_l2named_l4 (S.step T) t22 t23 t24 =
 brk (decide (t24 < t23)) (
  brk (decide ((0 : Int) ≤ t24) && decide (t24 < (t22.length : Int))) (
  (spec_l1nameok T (t22.getD t24.toNat [])).bind fun d29 =>
  brk (!d29.1) (
   some (Sum.inl (false, ()))) (
   spec_l2named_l4 T t22 t23 (IntKind.i64.wrap (t24 + (1 : Int))))) none) (
  some (Sum.inr (Sum.inl ())))
  := eL Tryz.func180 rfl (by kernel_rfl)
theorem spec_l2expr_eq (T : S.Tab) (t0 : Int) : spec_l2expr (S.step T) t0 =
 brk (decide ((20 : Int) ≤ t0)) (
  some (decide (t0 ≤ (37 : Int)), o_spec_l2expr)) (
  some (false, o_spec_l2expr))
  := eF Tryz.func242 (by kernel_rfl)
theorem spec_l2exprs_eq (T : S.Tab) (t0 : List tyNode.den × Unit) (t1 : tyNode.den) (t2 : Int) (t3 : Int) : spec_l2exprs (S.step T) t0 t1 t2 t3 =
 (spec_l2exprs_l2 T t3 t0 t1 t2).bind (out2
   (fun y2 =>
  some (y2.1, o_spec_l2exprs))
   (fun y2 =>
  some (true, o_spec_l2exprs)))
  := eF Tryz.func181 (by kernel_rfl)
theorem spec_l2exprs_l2_eq (T : S.Tab) (t3 : Int) (t4 : List tyNode.den × Unit) (t5 : tyNode.den) (t9 : Int) : spec_l2exprs_l2 (S.step T) t3 t4 t5 t9 =
 brk (decide (t9 < t3)) (
  brk (decide ((0 : Int) ≤ t9) && decide (t9 < (t5.2.2.2.2.2.2.2.2.1.length : Int))) (
  brk (decide ((0 : Int) ≤ t5.2.2.2.2.2.2.2.2.1.getD t9.toNat 0) && decide (t5.2.2.2.2.2.2.2.2.1.getD t9.toNat 0 < (t4.1.length : Int))) (
  (spec_l2expr T ((at_ (τ := tyNode) t4.1 (t5.2.2.2.2.2.2.2.2.1.getD t9.toNat 0)).1)).bind fun d26 =>
  brk (!d26.1) (
   some (Sum.inl (false, ()))) (
   spec_l2exprs_l2 T t3 t4 t5 (IntKind.i64.wrap (t9 + (1 : Int))))) none) none) (
  some (Sum.inr (Sum.inl ())))
  := eL Tryz.func181 rfl (by kernel_rfl)
theorem spec_l2target_eq (T : S.Tab) (t0 : Int) : spec_l2target (S.step T) t0 =
 brk (decide (t0 = (26 : Int))) (
  some (true, o_spec_l2target)) (
  brk (decide (t0 = (32 : Int))) (
   some (true, o_spec_l2target)) (
   some (decide (t0 = (33 : Int)), o_spec_l2target)))
  := eF Tryz.func182 (by kernel_rfl)
theorem spec_l2statement_eq (T : S.Tab) (t0 : List tyNode.den × Unit) (t1 : tyNode.den) : spec_l2statement (S.step T) t0 t1 =
 brk (decide (t1.1 = (1 : Int))) (
  (spec_l2statement_l5 T t0 t1 (t1.2.2.2.2.2.2.2.2.1.length : Int) (0 : Int)).bind (out2
    (fun y5 =>
   some (y5.1, o_spec_l2statement))
    (fun y5 =>
   (spec_l2bare T y5.1 false false false false).bind fun d29 =>
   some (d29.1, o_spec_l2statement)))) (
  brk (decide (t1.1 = (2 : Int))) (
   (spec_l2bare T t1 false false false true).bind fun d33 =>
   brk (d33.1) (
    (spec_l2named T t1 (1 : Int) (200 : Int)).bind fun d36 =>
    brk (d36.1) (
     (spec_l2exprs T t0 t1 (0 : Int) (t1.2.2.2.2.2.2.2.2.1.length : Int)).bind fun d42 =>
     some (d42.1, o_spec_l2statement)) (
     some (false, o_spec_l2statement))) (
    some (false, o_spec_l2statement))) (
   brk (decide (t1.1 = (3 : Int))) (
    (spec_l2bare T t1 false false false true).bind fun d47 =>
    brk (d47.1) (
     (spec_l2named T t1 (1 : Int) (1 : Int)).bind fun d50 =>
     brk (d50.1) (
      brk (decide ((t1.2.2.2.2.2.2.2.2.1.length : Int) = (1 : Int))) (
       (spec_l2exprs T t0 t1 (0 : Int) (1 : Int)).bind fun d59 =>
       some (d59.1, o_spec_l2statement)) (
       some (false, o_spec_l2statement))) (
      some (false, o_spec_l2statement))) (
     some (false, o_spec_l2statement))) (
    brk (decide (t1.1 = (4 : Int))) (
     (spec_l2bare T t1 false false false true).bind fun d64 =>
     brk (d64.1) (
      (spec_l2named T t1 (1 : Int) (1 : Int)).bind fun d67 =>
      brk (d67.1) (
       brk (decide ((t1.2.2.2.2.2.2.2.2.1.length : Int) = (1 : Int))) (
        (spec_l2kid T t0 t1 (0 : Int)).bind fun d76 =>
        some (decide (d76.1 = (36 : Int)), o_spec_l2statement)) (
        some (false, o_spec_l2statement))) (
       some (false, o_spec_l2statement))) (
      some (false, o_spec_l2statement))) (
     brk (decide (t1.1 = (5 : Int))) (
      (spec_l2bare T t1 false true false false).bind fun d82 =>
      brk (!d82.1) (
       some (false, o_spec_l2statement)) (
       brk (decide (t1.2.2.2.2.2.1 < (1 : Int))) (
        some (false, o_spec_l2statement)) (
        brk (decide ((t1.2.2.2.2.2.2.2.2.1.length : Int) ≤ t1.2.2.2.2.2.1)) (
         some (false, o_spec_l2statement)) (
         (spec_l2statement_l21 T t0 t1 (t1.2.2.2.2.2.2.2.2.1.length : Int) (0 : Int)).bind (out2
           (fun y21 =>
          some (y21.1, o_spec_l2statement))
           (fun y21 =>
          (spec_l2exprs T y21.1 y21.2.1 y21.2.1.2.2.2.2.2.1 y21.2.2.1).bind fun d112 =>
          some (d112.1, o_spec_l2statement))))))) (
      brk (decide (t1.1 = (6 : Int))) (
       (spec_l2statement_j28 T t0 t1 (t1.2.2.2.2.2.2.2.2.1.length : Int) t1.1 (decide (t1.1 = (6 : Int)))).bind (out2
         (fun y28 =>
        some (y28.1, o_spec_l2statement))
         (fun y28 =>
        (spec_l2statement_j46 T y28.1 y28.2.1 y28.2.2.1).bind (out1
          (fun y46 =>
         some (y46.1, o_spec_l2statement)))))) (
       (spec_l2statement_j28 T t0 t1 (t1.2.2.2.2.2.2.2.2.1.length : Int) t1.1 (decide (t1.1 = (16 : Int)))).bind (out2
         (fun y28 =>
        some (y28.1, o_spec_l2statement))
         (fun y28 =>
        (spec_l2statement_j46 T y28.1 y28.2.1 y28.2.2.1).bind (out1
          (fun y46 =>
         some (y46.1, o_spec_l2statement)))))))))))
  := eF Tryz.func115 (by kernel_rfl)
theorem spec_l2statement_j28_eq (T : S.Tab) (t2 : List tyNode.den × Unit) (t3 : tyNode.den) (t5 : Int) (t12 : Int) (t113 : Bool) : spec_l2statement_j28 (S.step T) t2 t3 t5 t12 t113 =
 brk (t113) (
  (spec_l2bare T t3 false false false false).bind fun d117 =>
  brk (d117.1) (
   brk (decide (t5 = (1 : Int))) (
    (spec_l2kid T t2 t3 (0 : Int)).bind fun d125 =>
    some (Sum.inl (decide (d125.1 = (34 : Int)), ()))) (
    some (Sum.inl (false, ())))) (
   some (Sum.inl (false, ())))) (
  brk (decide (t12 = (7 : Int))) (
   (spec_l2bare T t3 false false false false).bind fun d131 =>
   brk (!d131.1) (
    some (Sum.inl (false, ()))) (
    brk (decide (t5 < (2 : Int))) (
     some (Sum.inl (false, ()))) (
     brk (decide ((3 : Int) < t5)) (
      some (Sum.inl (false, ()))) (
      (spec_l2exprs T t2 t3 (0 : Int) (1 : Int)).bind fun d144 =>
      brk (!d144.1) (
       some (Sum.inl (false, ()))) (
       (spec_l2kid T t2 t3 (1 : Int)).bind fun d150 =>
       brk (!decide (d150.1 = (1 : Int))) (
        some (Sum.inl (false, ()))) (
        brk (decide (t5 = (2 : Int))) (
         some (Sum.inl (true, ()))) (
         (spec_l2kid T t2 t3 (2 : Int)).bind fun d158 =>
         brk (decide (d158.1 = (1 : Int))) (
          some (Sum.inl (true, ()))) (
          (spec_l2kid T t2 t3 (2 : Int)).bind fun d164 =>
          some (Sum.inl (decide (d164.1 = (7 : Int)), ())))))))))) (
   brk (decide (t12 = (8 : Int))) (
    (spec_l2bare T t3 false false false false).bind fun d170 =>
    brk (d170.1) (
     brk (decide (t5 = (2 : Int))) (
      (spec_l2exprs T t2 t3 (0 : Int) (1 : Int)).bind fun d178 =>
      brk (d178.1) (
       (spec_l2kid T t2 t3 (1 : Int)).bind fun d183 =>
       some (Sum.inl (decide (d183.1 = (1 : Int)), ()))) (
       some (Sum.inl (false, ())))) (
      some (Sum.inl (false, ())))) (
     some (Sum.inl (false, ())))) (
    brk (decide (t12 = (9 : Int))) (
     (spec_l2bare T t3 false false false true).bind fun d189 =>
     brk (d189.1) (
      (spec_l2named T t3 (1 : Int) (1 : Int)).bind fun d192 =>
      brk (d192.1) (
       brk (decide (t5 = (3 : Int))) (
        (spec_l2exprs T t2 t3 (0 : Int) (IntKind.i64.wrap (t5 - (1 : Int)))).bind fun d207 =>
        brk (d207.1) (
         (spec_l2kid T t2 t3 (IntKind.i64.wrap (t5 - (1 : Int)))).bind fun d214 =>
         some (Sum.inl (decide (d214.1 = (1 : Int)), ()))) (
         some (Sum.inl (false, ())))) (
        brk (decide (t5 = (4 : Int))) (
         (spec_l2exprs T t2 t3 (0 : Int) (IntKind.i64.wrap (t5 - (1 : Int)))).bind fun d207 =>
         brk (d207.1) (
          (spec_l2kid T t2 t3 (IntKind.i64.wrap (t5 - (1 : Int)))).bind fun d214 =>
          some (Sum.inl (decide (d214.1 = (1 : Int)), ()))) (
          some (Sum.inl (false, ())))) (
         some (Sum.inl (false, ()))))) (
       some (Sum.inl (false, ())))) (
      some (Sum.inl (false, ())))) (
     brk (decide (t12 = (10 : Int))) (
      (spec_l2bare T t3 false false false true).bind fun d220 =>
      brk (d220.1) (
       (spec_l2named T t3 (1 : Int) (200 : Int)).bind fun d223 =>
       brk (d223.1) (
        brk (decide (t5 = (2 : Int))) (
         (spec_l2exprs T t2 t3 (0 : Int) (1 : Int)).bind fun d232 =>
         brk (d232.1) (
          (spec_l2kid T t2 t3 (1 : Int)).bind fun d237 =>
          some (Sum.inl (decide (d237.1 = (1 : Int)), ()))) (
          some (Sum.inl (false, ())))) (
         some (Sum.inl (false, ())))) (
        some (Sum.inl (false, ())))) (
       some (Sum.inl (false, ())))) (
      brk (decide (t12 = (11 : Int))) (
       (spec_l2statement_j41 T t2 t3 t5 t12 (decide (t12 = (11 : Int)))).bind (out2
         (fun y41 =>
        some (Sum.inl y41))
         (fun y41 =>
        some (Sum.inr (Sum.inl y41))))) (
       (spec_l2statement_j41 T t2 t3 t5 t12 (decide (t12 = (12 : Int)))).bind (out2
         (fun y41 =>
        some (Sum.inl y41))
         (fun y41 =>
        some (Sum.inr (Sum.inl y41))))))))))
  := eJ Tryz.func115 rfl (by kernel_rfl)
theorem spec_l2statement_j41_eq (T : S.Tab) (t2 : List tyNode.den × Unit) (t3 : tyNode.den) (t5 : Int) (t12 : Int) (t240 : Bool) : spec_l2statement_j41 (S.step T) t2 t3 t5 t12 t240 =
 brk (t240) (
  (spec_l2bare T t3 false false false false).bind fun d244 =>
  brk (d244.1) (
   some (Sum.inl (decide (t5 = (0 : Int)), ()))) (
   some (Sum.inl (false, ())))) (
  brk (decide (t12 = (13 : Int))) (
   (spec_l2bare T t3 false false false false).bind fun d252 =>
   brk (d252.1) (
    (spec_l2exprs T t2 t3 (0 : Int) t5).bind fun d257 =>
    some (Sum.inl (d257.1, ()))) (
    some (Sum.inl (false, ())))) (
   brk (decide (t12 = (14 : Int))) (
    (spec_l2bare T t3 false false false true).bind fun d262 =>
    brk (d262.1) (
     (spec_l2named T t3 (1 : Int) (2 : Int)).bind fun d265 =>
     brk (d265.1) (
      brk (decide (t5 = (2 : Int))) (
       (spec_l2kid T t2 t3 (0 : Int)).bind fun d274 =>
       brk (decide (d274.1 = (1 : Int))) (
        (spec_l2kid T t2 t3 (1 : Int)).bind fun d280 =>
        some (Sum.inl (decide (d280.1 = (1 : Int)), ()))) (
        some (Sum.inl (false, ())))) (
       some (Sum.inl (false, ())))) (
      some (Sum.inl (false, ())))) (
     some (Sum.inl (false, ())))) (
    some (Sum.inr (Sum.inl (t2, t3, t5, ()))))))
  := eJ Tryz.func115 rfl (by kernel_rfl)
theorem spec_l2statement_j46_eq (T : S.Tab) (t2 : List tyNode.den × Unit) (t3 : tyNode.den) (t5 : Int) : spec_l2statement_j46 (S.step T) t2 t3 t5 =
 brk (decide (t3.1 = (15 : Int))) (
  (spec_l2bare T t3 false false false false).bind fun d288 =>
  brk (d288.1) (
   brk (decide (t5 = (1 : Int))) (
    (spec_l2exprs T t2 t3 (0 : Int) (1 : Int)).bind fun d297 =>
    some (Sum.inl (d297.1, ()))) (
    some (Sum.inl (false, ())))) (
   some (Sum.inl (false, ())))) (
  some (Sum.inl (false, ())))
  := eJ Tryz.func115 rfl (by kernel_rfl)
theorem spec_l2statement_l5_eq (T : S.Tab) (t2 : List tyNode.den × Unit) (t3 : tyNode.den) (t17 : Int) (t18 : Int) : spec_l2statement_l5 (S.step T) t2 t3 t17 t18 =
 brk (decide (t18 < t17)) (
  (spec_l2kid T t2 t3 t18).bind fun d24 =>
  (spec_l2stat T d24.1).bind fun d25 =>
  brk (!d25.1) (
   some (Sum.inl (false, ()))) (
   spec_l2statement_l5 T t2 t3 t17 (IntKind.i64.wrap (t18 + (1 : Int))))) (
  some (Sum.inr (Sum.inl (t3, ()))))
  := eL Tryz.func115 rfl (by kernel_rfl)
theorem spec_l2statement_l21_eq (T : S.Tab) (t2 : List tyNode.den × Unit) (t3 : tyNode.den) (t5 : Int) (t7 : Int) : spec_l2statement_l21 (S.step T) t2 t3 t5 t7 =
 brk (decide (t7 < t3.2.2.2.2.2.1)) (
  (spec_l2kid T t2 t3 t7).bind fun d104 =>
  (spec_l2target T d104.1).bind fun d105 =>
  brk (!d105.1) (
   some (Sum.inl (false, ()))) (
   spec_l2statement_l21 T t2 t3 t5 (IntKind.i64.wrap (t7 + (1 : Int))))) (
  some (Sum.inr (Sum.inl (t2, t3, t5, ()))))
  := eL Tryz.func115 rfl (by kernel_rfl)
theorem spec_l1fltok_eq (T : S.Tab) (t0 : List Int) : spec_l1fltok (S.step T) t0 =
 brk (decide ((t0.length : Int) = (0 : Int))) (
  some (false, o_spec_l1fltok)) (
  brk (decide ((40 : Int) < (t0.length : Int))) (
   some (false, o_spec_l1fltok)) (
   brk (decide ((0 : Int) < (t0.length : Int))) (
   (spec_l1digit T (t0.getD 0 0)).bind fun d16 =>
   brk (!d16.1) (
    some (false, o_spec_l1fltok)) (
    (spec_l1read T t0 (0 : Int)).bind fun d21 =>
    brk (decide (d21.1.2.1 < (0 : Int))) (
     brk (decide (d21.1.1.1 = (3 : Int))) (
      some (decide (d21.1.1.2.2.1 = (t0.length : Int)), o_spec_l1fltok)) (
      some (false, o_spec_l1fltok))) (
     some (false, o_spec_l1fltok)))) none))
  := eF Tryz.func183 (by kernel_rfl)
theorem spec_l2expression_eq (T : S.Tab) (t0 : List tyNode.den × Unit) (t1 : tyNode.den) : spec_l2expression (S.step T) t0 t1 =
 brk (decide (t1.1 = (20 : Int))) (
  (spec_l2expression_j7 T t0 t1 (t1.2.2.2.2.2.2.2.2.1.length : Int) t1.1 (decide (t1.1 = (20 : Int)))).bind (out2
    (fun y7 =>
   some (y7.1, o_spec_l2expression))
    (fun y7 =>
   (spec_l2expression_j46 T y7.1 y7.2.1 y7.2.2.1).bind (out1
     (fun y46 =>
    some (y46.1, o_spec_l2expression)))))) (
  brk (decide (t1.1 = (21 : Int))) (
   (spec_l2expression_j7 T t0 t1 (t1.2.2.2.2.2.2.2.2.1.length : Int) t1.1 (decide (t1.1 = (21 : Int)))).bind (out2
     (fun y7 =>
    some (y7.1, o_spec_l2expression))
     (fun y7 =>
    (spec_l2expression_j46 T y7.1 y7.2.1 y7.2.2.1).bind (out1
      (fun y46 =>
     some (y46.1, o_spec_l2expression)))))) (
   brk (decide (t1.1 = (22 : Int))) (
    (spec_l2expression_j7 T t0 t1 (t1.2.2.2.2.2.2.2.2.1.length : Int) t1.1 (decide (t1.1 = (22 : Int)))).bind (out2
      (fun y7 =>
     some (y7.1, o_spec_l2expression))
      (fun y7 =>
     (spec_l2expression_j46 T y7.1 y7.2.1 y7.2.2.1).bind (out1
       (fun y46 =>
      some (y46.1, o_spec_l2expression)))))) (
    (spec_l2expression_j7 T t0 t1 (t1.2.2.2.2.2.2.2.2.1.length : Int) t1.1 (decide (t1.1 = (27 : Int)))).bind (out2
      (fun y7 =>
     some (y7.1, o_spec_l2expression))
      (fun y7 =>
     (spec_l2expression_j46 T y7.1 y7.2.1 y7.2.2.1).bind (out1
       (fun y46 =>
      some (y46.1, o_spec_l2expression))))))))
  := eF Tryz.func116 (by kernel_rfl)
theorem spec_l2expression_j7_eq (T : S.Tab) (t2 : List tyNode.den × Unit) (t3 : tyNode.den) (t5 : Int) (t12 : Int) (t13 : Bool) : spec_l2expression_j7 (S.step T) t2 t3 t5 t12 t13 =
 brk (t13) (
  brk (decide (t5 = (0 : Int))) (
   (spec_l2bare T t3 false false false false).bind fun d22 =>
   some (Sum.inl (d22.1, ()))) (
   some (Sum.inl (false, ())))) (
  brk (decide (t12 = (23 : Int))) (
   brk (decide (t5 = (0 : Int))) (
    (spec_l2bare T t3 false true false false).bind fun d30 =>
    some (Sum.inl (d30.1, ()))) (
    some (Sum.inl (false, ())))) (
   brk (decide (t12 = (24 : Int))) (
    brk (decide (t5 = (0 : Int))) (
     (spec_l2bare T t3 false false true false).bind fun d38 =>
     brk (d38.1) (
      (spec_l1fltok T t3.2.2.2.2.2.2.1).bind fun d43 =>
      some (Sum.inl (d43.1, ()))) (
      some (Sum.inl (false, ())))) (
     some (Sum.inl (false, ())))) (
    brk (decide (t12 = (25 : Int))) (
     brk (decide (t5 = (0 : Int))) (
      (spec_l2bare T t3 false false true false).bind fun d51 =>
      brk (d51.1) (
       some (Sum.inl (decide ((t3.2.2.2.2.2.2.1.length : Int) ≤ (4000 : Int)), ()))) (
       some (Sum.inl (false, ())))) (
      some (Sum.inl (false, ())))) (
     brk (decide (t12 = (26 : Int))) (
      brk (decide (t5 = (0 : Int))) (
       (spec_l2bare T t3 false false true false).bind fun d65 =>
       brk (d65.1) (
        (spec_l1nameok T t3.2.2.2.2.2.2.1).bind fun d70 =>
        some (Sum.inl (d70.1, ()))) (
        some (Sum.inl (false, ())))) (
       some (Sum.inl (false, ())))) (
      brk (decide (t12 = (28 : Int))) (
       (spec_l2expression_j18 T t2 t3 t5 t12 (decide (t12 = (28 : Int)))).bind (out2
         (fun y18 =>
        some (Sum.inl y18))
         (fun y18 =>
        some (Sum.inr (Sum.inl y18))))) (
       (spec_l2expression_j18 T t2 t3 t5 t12 (decide (t12 = (29 : Int)))).bind (out2
         (fun y18 =>
        some (Sum.inl y18))
         (fun y18 =>
        some (Sum.inr (Sum.inl y18))))))))))
  := eJ Tryz.func116 rfl (by kernel_rfl)
theorem spec_l2expression_j18_eq (T : S.Tab) (t2 : List tyNode.den × Unit) (t3 : tyNode.den) (t5 : Int) (t12 : Int) (t72 : Bool) : spec_l2expression_j18 (S.step T) t2 t3 t5 t12 t72 =
 brk (t72) (
  brk (decide (t5 = (2 : Int))) (
   (spec_l2exprs T t2 t3 (0 : Int) (2 : Int)).bind fun d80 =>
   brk (d80.1) (
    (spec_l2bare T t3 false false false false).bind fun d84 =>
    some (Sum.inl (d84.1, ()))) (
    some (Sum.inl (false, ())))) (
   some (Sum.inl (false, ())))) (
  brk (decide (t12 = (32 : Int))) (
   brk (decide (t5 = (2 : Int))) (
    (spec_l2exprs T t2 t3 (0 : Int) (2 : Int)).bind fun d93 =>
    brk (d93.1) (
     (spec_l2kid T t2 t3 (0 : Int)).bind fun d98 =>
     brk (!decide (d98.1 = (27 : Int))) (
      (spec_l2bare T t3 false false false false).bind fun d103 =>
      some (Sum.inl (d103.1, ()))) (
      some (Sum.inl (false, ())))) (
     some (Sum.inl (false, ())))) (
    some (Sum.inl (false, ())))) (
   brk (decide (t12 = (30 : Int))) (
    brk (decide (t5 = (1 : Int))) (
     (spec_l2exprs T t2 t3 (0 : Int) (1 : Int)).bind fun d112 =>
     brk (d112.1) (
      (spec_l2bare T t3 true false false false).bind fun d116 =>
      brk (d116.1) (
       brk (decide ((19 : Int) ≤ t3.2.2.2.2.1)) (
        some (Sum.inl (decide (t3.2.2.2.2.1 ≤ (22 : Int)), ()))) (
        some (Sum.inl (false, ())))) (
       some (Sum.inl (false, ())))) (
      some (Sum.inl (false, ())))) (
     some (Sum.inl (false, ())))) (
    brk (decide (t12 = (31 : Int))) (
     brk (decide (t5 = (2 : Int))) (
      (spec_l2exprs T t2 t3 (0 : Int) (2 : Int)).bind fun d135 =>
      brk (d135.1) (
       (spec_l2bare T t3 true false false false).bind fun d139 =>
       brk (d139.1) (
        brk (decide ((1 : Int) ≤ t3.2.2.2.2.1)) (
         some (Sum.inl (decide (t3.2.2.2.2.1 ≤ (18 : Int)), ()))) (
         some (Sum.inl (false, ())))) (
        some (Sum.inl (false, ())))) (
       some (Sum.inl (false, ())))) (
      some (Sum.inl (false, ())))) (
     brk (decide (t12 = (33 : Int))) (
      brk (decide (t5 = (1 : Int))) (
       (spec_l2exprs T t2 t3 (0 : Int) (1 : Int)).bind fun d158 =>
       brk (d158.1) (
        (spec_l2kid T t2 t3 (0 : Int)).bind fun d163 =>
        brk (!decide (d163.1 = (27 : Int))) (
         (spec_l2bare T t3 false false true false).bind fun d168 =>
         brk (d168.1) (
          (spec_l1nameok T t3.2.2.2.2.2.2.1).bind fun d173 =>
          some (Sum.inl (d173.1, ()))) (
          some (Sum.inl (false, ())))) (
         some (Sum.inl (false, ())))) (
        some (Sum.inl (false, ())))) (
       some (Sum.inl (false, ())))) (
      brk (decide (t12 = (34 : Int))) (
       brk (decide ((1 : Int) ≤ t5)) (
        (spec_l2exprs T t2 t3 (0 : Int) t5).bind fun d183 =>
        brk (d183.1) (
         (spec_l2kid T t2 t3 (0 : Int)).bind fun d188 =>
         brk (!decide (d188.1 = (27 : Int))) (
          (spec_l2bare T t3 false false false false).bind fun d193 =>
          some (Sum.inl (d193.1, ()))) (
          some (Sum.inl (false, ())))) (
         some (Sum.inl (false, ())))) (
        some (Sum.inl (false, ())))) (
       brk (decide (t12 = (35 : Int))) (
        (spec_l2expression_l31 T t2 t3 (t3.2.2.2.2.2.2.2.2.1.length : Int) (0 : Int)).bind (out2
          (fun y31 =>
         some (Sum.inl y31))
          (fun y31 =>
         (spec_l2bare T y31.1 false false false false).bind fun d215 =>
         some (Sum.inl (d215.1, ()))))) (
        brk (decide (t12 = (36 : Int))) (
         brk (decide (t5 = (1 : Int))) (
          (spec_l2kid T t2 t3 (0 : Int)).bind fun d223 =>
          brk (decide (d223.1 = (1 : Int))) (
           (spec_l2bare T t3 true false false true).bind fun d228 =>
           brk (d228.1) (
            (spec_l2named T t3 (0 : Int) (200 : Int)).bind fun d232 =>
            brk (d232.1) (
             brk (decide (t3.2.2.2.2.1 = (0 : Int))) (
              some (Sum.inl (true, ()))) (
              some (Sum.inl (decide (t3.2.2.2.2.1 = (1 : Int)), ())))) (
             some (Sum.inl (false, ())))) (
            some (Sum.inl (false, ())))) (
           some (Sum.inl (false, ())))) (
          some (Sum.inl (false, ())))) (
         brk (decide (t12 = (37 : Int))) (
          brk (decide (t5 = (1 : Int))) (
           (spec_l2kid T t2 t3 (0 : Int)).bind fun d251 =>
           brk (decide (d251.1 = (34 : Int))) (
            (spec_l2bare T t3 false false false false).bind fun d262 =>
            some (Sum.inl (d262.1, ()))) (
            (spec_l2kid T t2 t3 (0 : Int)).bind fun d256 =>
            brk (decide (d256.1 = (27 : Int))) (
             (spec_l2bare T t3 false false false false).bind fun d262 =>
             some (Sum.inl (d262.1, ()))) (
             some (Sum.inl (false, ()))))) (
           some (Sum.inl (false, ())))) (
          brk (decide (t12 = (40 : Int))) (
           brk (decide (t5 = (1 : Int))) (
            (spec_l2exprs T t2 t3 (0 : Int) (1 : Int)).bind fun d271 =>
            brk (d271.1) (
             (spec_l2bare T t3 false false false false).bind fun d275 =>
             some (Sum.inl (d275.1, ()))) (
             some (Sum.inl (false, ())))) (
            some (Sum.inl (false, ())))) (
           brk (decide (t12 = (41 : Int))) (
            brk (decide (t5 = (2 : Int))) (
             (spec_l2exprs T t2 t3 (0 : Int) (2 : Int)).bind fun d284 =>
             brk (d284.1) (
              (spec_l2bare T t3 false false false false).bind fun d288 =>
              some (Sum.inl (d288.1, ()))) (
              some (Sum.inl (false, ())))) (
             some (Sum.inl (false, ())))) (
            some (Sum.inr (Sum.inl (t2, t3, t5, ()))))))))))))))
  := eJ Tryz.func116 rfl (by kernel_rfl)
theorem spec_l2expression_j46_eq (T : S.Tab) (t2 : List tyNode.den × Unit) (t3 : tyNode.den) (t5 : Int) : spec_l2expression_j46 (S.step T) t2 t3 t5 =
 brk (decide (t3.1 = (42 : Int))) (
  brk (decide (t5 = (1 : Int))) (
   (spec_l2exprs T t2 t3 (0 : Int) (1 : Int)).bind fun d300 =>
   brk (d300.1) (
    (spec_l2bare T t3 false false true false).bind fun d304 =>
    brk (d304.1) (
     (spec_l1nameok T t3.2.2.2.2.2.2.1).bind fun d309 =>
     some (Sum.inl (d309.1, ()))) (
     some (Sum.inl (false, ())))) (
    some (Sum.inl (false, ())))) (
   some (Sum.inl (false, ())))) (
  some (Sum.inl (false, ())))
  := eJ Tryz.func116 rfl (by kernel_rfl)
theorem spec_l2expression_l31_eq (T : S.Tab) (t2 : List tyNode.den × Unit) (t3 : tyNode.den) (t199 : Int) (t200 : Int) : spec_l2expression_l31 (S.step T) t2 t3 t199 t200 =
 brk (decide (t200 < t199)) (
  (spec_l2kid T t2 t3 t200).bind fun d206 =>
  brk (decide (d206.1 < (40 : Int))) (
   some (Sum.inl (false, ()))) (
   brk (decide ((42 : Int) < d206.1)) (
    some (Sum.inl (false, ()))) (
    spec_l2expression_l31 T t2 t3 t199 (IntKind.i64.wrap (t200 + (1 : Int)))))) (
  some (Sum.inr (Sum.inl (t3, ()))))
  := eL Tryz.func116 rfl (by kernel_rfl)
theorem spec_l2nodeok_eq (T : S.Tab) (t0 : List tyNode.den × Unit) (t1 : Int) : spec_l2nodeok (S.step T) t0 t1 =
 brk (decide ((0 : Int) ≤ t1) && decide (t1 < (t0.1.length : Int))) (
 brk (decide (((at_ (τ := tyNode) t0.1 t1).2).1 < (0 : Int))) (
  some (false, o_spec_l2nodeok)) (
  brk (decide ((((at_ (τ := tyNode) t0.1 t1).2).2).1 < ((at_ (τ := tyNode) t0.1 t1).2).1)) (
   some (false, o_spec_l2nodeok)) (
   brk (decide (((((at_ (τ := tyNode) t0.1 t1).2).2).2).1 < (0 : Int))) (
    some (false, o_spec_l2nodeok)) (
    brk (decide ((200 : Int) < (((((((((((at_ (τ := tyNode) t0.1 t1).2).2).2).2).2).2).2).2).1).length : Int))) (
     some (false, o_spec_l2nodeok)) (
     (spec_l2nodeok_l5 T t1 t0 (at_ (τ := tyNode) t0.1 t1) ((((((((((at_ (τ := tyNode) t0.1 t1).2).2).2).2).2).2).2).2).1) (((((((((((at_ (τ := tyNode) t0.1 t1).2).2).2).2).2).2).2).2).1).length : Int) (0 : Int)).bind (out2
       (fun y5 =>
      some (y5.1, o_spec_l2nodeok))
       (fun y5 =>
      (spec_l2stat T y5.2.1.1).bind fun d51 =>
      brk (d51.1) (
       (spec_l2statement T y5.1 y5.2.1).bind fun d54 =>
       some (d54.1, o_spec_l2nodeok)) (
       (spec_l2expression T y5.1 y5.2.1).bind fun d57 =>
       some (d57.1, o_spec_l2nodeok))))))))) none
  := eF Tryz.func71 (by kernel_rfl)
theorem spec_l2nodeok_l5_eq (T : S.Tab) (t1 : Int) (t2 : List tyNode.den × Unit) (t5 : tyNode.den) (t35 : List Int) (t36 : Int) (t37 : Int) : spec_l2nodeok_l5 (S.step T) t1 t2 t5 t35 t36 t37 =
 brk (decide (t37 < t36)) (
  brk (decide ((0 : Int) ≤ t37) && decide (t37 < (t35.length : Int))) (
  brk (decide (t35.getD t37.toNat 0 < (0 : Int))) (
   some (Sum.inl (false, ()))) (
   brk (decide (t1 ≤ t35.getD t37.toNat 0)) (
    some (Sum.inl (false, ()))) (
    spec_l2nodeok_l5 T t1 t2 t5 t35 t36 (IntKind.i64.wrap (t37 + (1 : Int)))))) none) (
  some (Sum.inr (Sum.inl (t2, t5, ()))))
  := eL Tryz.func71 rfl (by kernel_rfl)
theorem spec_l2sizes_eq (T : S.Tab) (t0 : List tyNode.den × Unit) : spec_l2sizes (S.step T) t0 =
 brk (((decide ((0 : Int) ≤ (t0.1.length : Int))) && (decide ((t0.1.length : Int) ≤ (t0.1.length : Int)))) && (decide ((t0.1.length : Int) ≤ lim))) (
 (spec_l2sizes_l3 T (List.replicate ((t0.1.length : Int).toNat) (0 : Int)) t0.1 (t0.1.length : Int) (0 : Int)).bind (out1
   (fun y3 =>
  some (y3.1, o_spec_l2sizes)))) none
  := eF Tryz.func72 (by kernel_rfl)
theorem spec_l2sizes_l3_eq (T : S.Tab) (t3 : List Int) (t15 : List tyNode.den) (t16 : Int) (t17 : Int) : spec_l2sizes_l3 (S.step T) t3 t15 t16 t17 =
 brk (decide (t17 < t16)) (
  brk (decide ((0 : Int) ≤ t17) && decide (t17 < (t15.length : Int))) (
  (spec_l2sizes_l8 T t3 t17 (at_ (τ := tyNode) t15 t17) t17 true (IntKind.i64.wrap ((((((((((((at_ (τ := tyNode) t15 t17).2).2).2).2).2).2).2).2).1).length : Int) - (1 : Int))) t15 t16 t17).bind (out1
    (fun y8 =>
   brk (y8.2.2.2.1) (
    brk (decide ((0 : Int) ≤ y8.2.1) && decide (y8.2.1 < (y8.1.length : Int))) (
    spec_l2sizes_l3 T (y8.1.set y8.2.1.toNat (IntKind.i64.wrap ((IntKind.i64.wrap (y8.2.1 - y8.2.2.1)) + (1 : Int)))) y8.2.2.2.2.1 y8.2.2.2.2.2.1 (IntKind.i64.wrap (y8.2.2.2.2.2.2.1 + (1 : Int)))) none) (
    spec_l2sizes_l3 T y8.1 y8.2.2.2.2.1 y8.2.2.2.2.2.1 (IntKind.i64.wrap (y8.2.2.2.2.2.2.1 + (1 : Int))))))) none) (
  some (Sum.inl (t3, ())))
  := eL Tryz.func72 rfl (by kernel_rfl)
theorem spec_l2sizes_l8_eq (T : S.Tab) (t3 : List Int) (t4 : Int) (t5 : tyNode.den) (t6 : Int) (t7 : Bool) (t8 : Int) (t15 : List tyNode.den) (t16 : Int) (t17 : Int) : spec_l2sizes_l8 (S.step T) t3 t4 t5 t6 t7 t8 t15 t16 t17 =
 brk (decide ((0 : Int) ≤ t8)) (
  brk (decide ((0 : Int) ≤ t8) && decide (t8 < (t5.2.2.2.2.2.2.2.2.1.length : Int))) (
  brk (!decide (t5.2.2.2.2.2.2.2.2.1.getD t8.toNat 0 = IntKind.i64.wrap (t6 - (1 : Int)))) (
   some (Sum.inl (t3, t4, t6, false, t15, t16, t17, ()))) (
   brk (decide ((0 : Int) ≤ t5.2.2.2.2.2.2.2.2.1.getD t8.toNat 0) && decide (t5.2.2.2.2.2.2.2.2.1.getD t8.toNat 0 < (t3.length : Int))) (
   brk (decide (t3.getD ((t5.2.2.2.2.2.2.2.2.1.getD t8.toNat 0).toNat) 0 = (0 : Int))) (
    some (Sum.inl (t3, t4, t6, false, t15, t16, t17, ()))) (
    brk (decide ((0 : Int) ≤ t5.2.2.2.2.2.2.2.2.1.getD t8.toNat 0) && decide (t5.2.2.2.2.2.2.2.2.1.getD t8.toNat 0 < (t3.length : Int))) (
    spec_l2sizes_l8 T t3 t4 t5 (IntKind.i64.wrap (t6 - (t3.getD ((t5.2.2.2.2.2.2.2.2.1.getD t8.toNat 0).toNat) 0))) t7 (IntKind.i64.wrap (t8 - (1 : Int))) t15 t16 t17) none)) none)) none) (
  some (Sum.inl (t3, t4, t6, t7, t15, t16, t17, ())))
  := eL Tryz.func72 rfl (by kernel_rfl)
theorem spec_TreeOk_eq (T : S.Tab) (t0 : List tyNode.den × Unit) : spec_TreeOk (S.step T) t0 =
 brk (decide ((t0.1.length : Int) = (0 : Int))) (
  some (((1 : Int), (0 : Int), ()), o_spec_TreeOk)) (
  brk (decide ((3000 : Int) < (t0.1.length : Int))) (
   some (((1 : Int), (0 : Int), ()), o_spec_TreeOk)) (
   brk (decide ((0 : Int) ≤ IntKind.i64.wrap ((t0.1.length : Int) - (1 : Int))) && decide (IntKind.i64.wrap ((t0.1.length : Int) - (1 : Int)) < (t0.1.length : Int))) (
   brk (!decide ((at_ (τ := tyNode) t0.1 (IntKind.i64.wrap ((t0.1.length : Int) - (1 : Int)))).1 = (1 : Int))) (
    some (((1 : Int), (0 : Int), ()), o_spec_TreeOk)) (
    (spec_TreeOk_l4 T t0 ((0 : Int), (0 : Int), ()) (t0.1.length : Int) (0 : Int)).bind (out2
      (fun y4 =>
     some (y4.1, o_spec_TreeOk))
      (fun y4 =>
     (spec_l2sizes T y4.1).bind fun d50 =>
     (spec_TreeOk_l11 T y4.1 y4.2.1 d50.1 d50.1 (d50.1.length : Int) (0 : Int)).bind (out2
       (fun y11 =>
      some (y11.1, o_spec_TreeOk))
       (fun y11 =>
      brk (decide ((0 : Int) ≤ IntKind.i64.wrap ((y11.2.2.1.length : Int) - (1 : Int))) && decide (IntKind.i64.wrap ((y11.2.2.1.length : Int) - (1 : Int)) < (y11.2.2.1.length : Int))) (
      brk (!decide (y11.2.2.1.getD ((IntKind.i64.wrap ((y11.2.2.1.length : Int) - (1 : Int))).toNat) 0 = (y11.2.2.1.length : Int))) (
       some (((3 : Int), IntKind.i64.wrap ((y11.2.2.1.length : Int) - (1 : Int)), ()), o_spec_TreeOk)) (
       brk (((decide ((0 : Int) ≤ (y11.1.1.length : Int))) && (decide ((y11.1.1.length : Int) ≤ (y11.1.1.length : Int)))) && (decide ((y11.1.1.length : Int) ≤ lim))) (
       (spec_TreeOk_l20 T y11.1 y11.2.1 (List.replicate ((y11.1.1.length : Int).toNat) (0 : Int)) (IntKind.i64.wrap ((y11.1.1.length : Int) - (1 : Int)))).bind (out1
         (fun y20 =>
        (spec_TreeOk_l28 T y20.1 y20.2.1 (y20.2.1.length : Int) (0 : Int)).bind (out2
          (fun y28 =>
         some (y28.1, o_spec_TreeOk))
          (fun y28 =>
         some (((0 : Int), (0 : Int), ()), o_spec_TreeOk)))))) none)) none)))))) none))
  := eF Tryz.func38 (by kernel_rfl)
theorem spec_TreeOk_l4_eq (T : S.Tab) (t1 : List tyNode.den × Unit) (t2 : Int × Int × Unit) (t38 : Int) (t39 : Int) : spec_TreeOk_l4 (S.step T) t1 t2 t38 t39 =
 brk (decide (t39 < t38)) (
  (spec_l2nodeok T t1 t39).bind fun d44 =>
  brk (!d44.1) (
   some (Sum.inl (((2 : Int), t39, ()), ()))) (
   spec_TreeOk_l4 T t1 t2 t38 (IntKind.i64.wrap (t39 + (1 : Int))))) (
  some (Sum.inr (Sum.inl (t1, t2, ()))))
  := eL Tryz.func38 rfl (by kernel_rfl)
theorem spec_TreeOk_l11_eq (T : S.Tab) (t1 : List tyNode.den × Unit) (t2 : Int × Int × Unit) (t4 : List Int) (t51 : List Int) (t52 : Int) (t53 : Int) : spec_TreeOk_l11 (S.step T) t1 t2 t4 t51 t52 t53 =
 brk (decide (t53 < t52)) (
  brk (decide ((0 : Int) ≤ t53) && decide (t53 < (t51.length : Int))) (
  brk (decide (t51.getD t53.toNat 0 = (0 : Int))) (
   some (Sum.inl (((3 : Int), t53, ()), ()))) (
   spec_TreeOk_l11 T t1 t2 t4 t51 t52 (IntKind.i64.wrap (t53 + (1 : Int))))) none) (
  some (Sum.inr (Sum.inl (t1, t2, t4, ()))))
  := eL Tryz.func38 rfl (by kernel_rfl)
theorem spec_TreeOk_l20_eq (T : S.Tab) (t1 : List tyNode.den × Unit) (t2 : Int × Int × Unit) (t7 : List Int) (t8 : Int) : spec_TreeOk_l20 (S.step T) t1 t2 t7 t8 =
 brk (decide ((0 : Int) ≤ t8)) (
  brk (decide ((0 : Int) ≤ t8) && decide (t8 < (t1.1.length : Int))) (
  (spec_TreeOk_l23 T t1 t2 t7 t8 ((((((((((at_ (τ := tyNode) t1.1 t8).2).2).2).2).2).2).2).2).1) (((((((((((at_ (τ := tyNode) t1.1 t8).2).2).2).2).2).2).2).2).1).length : Int) (0 : Int)).bind (out1
    (fun y23 =>
   spec_TreeOk_l20 T y23.1 y23.2.1 y23.2.2.1 (IntKind.i64.wrap (y23.2.2.2.1 - (1 : Int)))))) none) (
  some (Sum.inl (t2, t7, ())))
  := eL Tryz.func38 rfl (by kernel_rfl)
theorem spec_TreeOk_l23_eq (T : S.Tab) (t1 : List tyNode.den × Unit) (t2 : Int × Int × Unit) (t7 : List Int) (t8 : Int) (t93 : List Int) (t94 : Int) (t95 : Int) : spec_TreeOk_l23 (S.step T) t1 t2 t7 t8 t93 t94 t95 =
 brk (decide (t95 < t94)) (
  brk (decide ((0 : Int) ≤ t95) && decide (t95 < (t93.length : Int))) (
  brk (decide ((0 : Int) ≤ t8) && decide (t8 < (t7.length : Int))) (
  brk (decide ((0 : Int) ≤ t93.getD t95.toNat 0) && decide (t93.getD t95.toNat 0 < (t7.length : Int))) (
  spec_TreeOk_l23 T t1 t2 (t7.set ((t93.getD t95.toNat 0).toNat) (IntKind.i64.wrap ((t7.getD t8.toNat 0) + (1 : Int)))) t8 t93 t94 (IntKind.i64.wrap (t95 + (1 : Int)))) none) none) none) (
  some (Sum.inl (t1, t2, t7, t8, ())))
  := eL Tryz.func38 rfl (by kernel_rfl)
theorem spec_TreeOk_l28_eq (T : S.Tab) (t2 : Int × Int × Unit) (t108 : List Int) (t109 : Int) (t110 : Int) : spec_TreeOk_l28 (S.step T) t2 t108 t109 t110 =
 brk (decide (t110 < t109)) (
  brk (decide ((0 : Int) ≤ t110) && decide (t110 < (t108.length : Int))) (
  brk (decide ((100 : Int) < t108.getD t110.toNat 0)) (
   some (Sum.inl (((4 : Int), t110, ()), ()))) (
   spec_TreeOk_l28 T t2 t108 t109 (IntKind.i64.wrap (t110 + (1 : Int))))) none) (
  some (Sum.inr (Sum.inl (t2, ()))))
  := eL Tryz.func38 rfl (by kernel_rfl)
theorem spec_Path_eq (T : S.Tab) (t0 : List tyNode.den × Unit) (t1 : Int) : spec_Path (S.step T) t0 t1 =
 (spec_TreeOk T t0).bind fun d12 =>
 brk (!decide (d12.1.1 = (0 : Int))) (
  some ([], o_spec_Path)) (
  (spec_Path_l6 T t1 t0 [] (IntKind.i64.wrap ((t0.1.length : Int) - (1 : Int)))).bind (out2
    (fun y6 =>
   some (y6.1, o_spec_Path))
    (fun y6 =>
   some (y6.1, o_spec_Path))))
  := eF Tryz.func11 (by kernel_rfl)
theorem spec_Path_l6_eq (T : S.Tab) (t1 : Int) (t2 : List tyNode.den × Unit) (t6 : List Int) (t7 : Int) : spec_Path_l6 (S.step T) t1 t2 t6 t7 =
 brk (decide ((0 : Int) ≤ t7)) (
  brk (decide ((0 : Int) ≤ t7) && decide (t7 < (t2.1.length : Int))) (
  brk (decide (t1 < ((at_ (τ := tyNode) t2.1 t7).2).1)) (
   some (Sum.inl (t6, ()))) (
   brk (decide ((((at_ (τ := tyNode) t2.1 t7).2).2).1 ≤ t1)) (
    some (Sum.inl (t6, ()))) (
    brk (fits (t6.length + ([t7] : List Int).length)) (
    (spec_Path_l13 T t1 t2 (t6 ++ ([t7] : List Int)) (-1 : Int) ((((((((((at_ (τ := tyNode) t2.1 t7).2).2).2).2).2).2).2).2).1) (((((((((((at_ (τ := tyNode) t2.1 t7).2).2).2).2).2).2).2).2).1).length : Int) (0 : Int)).bind (out1
      (fun y13 =>
     spec_Path_l6 T y13.1 y13.2.1 y13.2.2.1 y13.2.2.2.1))) none))) none) (
  some (Sum.inr (Sum.inl (t6, ()))))
  := eL Tryz.func11 rfl (by kernel_rfl)
theorem spec_Path_l13_eq (T : S.Tab) (t1 : Int) (t2 : List tyNode.den × Unit) (t6 : List Int) (t7 : Int) (t43 : List Int) (t44 : Int) (t45 : Int) : spec_Path_l13 (S.step T) t1 t2 t6 t7 t43 t44 t45 =
 brk (decide (t45 < t44)) (
  brk (decide ((0 : Int) ≤ t45) && decide (t45 < (t43.length : Int))) (
  brk (decide (t7 < (0 : Int))) (
   brk (decide ((0 : Int) ≤ t43.getD t45.toNat 0) && decide (t43.getD t45.toNat 0 < (t2.1.length : Int))) (
   brk (decide (((at_ (τ := tyNode) t2.1 (t43.getD t45.toNat 0)).2).1 ≤ t1)) (
    brk (decide ((0 : Int) ≤ t43.getD t45.toNat 0) && decide (t43.getD t45.toNat 0 < (t2.1.length : Int))) (
    brk (decide (t1 < (((at_ (τ := tyNode) t2.1 (t43.getD t45.toNat 0)).2).2).1)) (
     spec_Path_l13 T t1 t2 t6 (t43.getD t45.toNat 0) t43 t44 (IntKind.i64.wrap (t45 + (1 : Int)))) (
     spec_Path_l13 T t1 t2 t6 t7 t43 t44 (IntKind.i64.wrap (t45 + (1 : Int))))) none) (
    spec_Path_l13 T t1 t2 t6 t7 t43 t44 (IntKind.i64.wrap (t45 + (1 : Int))))) none) (
   spec_Path_l13 T t1 t2 t6 t7 t43 t44 (IntKind.i64.wrap (t45 + (1 : Int))))) none) (
  some (Sum.inl (t1, t2, t6, t7, ())))
  := eL Tryz.func11 rfl (by kernel_rfl)
theorem impl_in_eq (T : S.Tab) (t0 : Int) (t1 : Int) (t2 : Int) : impl_in (S.step T) t0 t1 t2 =
 brk (decide (t1 ≤ t0)) (
  some (decide (t0 ≤ t2), o_impl_in)) (
  some (false, o_impl_in))
  := eF Tryz.func185 (by kernel_rfl)
theorem impl_letter_eq (T : S.Tab) (t0 : Int) : impl_letter (S.step T) t0 =
 brk (decide ((97 : Int) ≤ t0)) (
  brk (decide (t0 ≤ (122 : Int))) (
   some (true, o_impl_letter)) (
   brk (decide ((65 : Int) ≤ t0)) (
    brk (decide (t0 ≤ (90 : Int))) (
     some (true, o_impl_letter)) (
     some (decide (t0 = (95 : Int)), o_impl_letter))) (
    some (decide (t0 = (95 : Int)), o_impl_letter)))) (
  brk (decide ((65 : Int) ≤ t0)) (
   brk (decide (t0 ≤ (90 : Int))) (
    some (true, o_impl_letter)) (
    some (decide (t0 = (95 : Int)), o_impl_letter))) (
   some (decide (t0 = (95 : Int)), o_impl_letter)))
  := eF Tryz.func153 (by kernel_rfl)
theorem impl_digit_eq (T : S.Tab) (t0 : Int) : impl_digit (S.step T) t0 =
 brk (decide ((48 : Int) ≤ t0)) (
  some (decide (t0 ≤ (57 : Int)), o_impl_digit)) (
  some (false, o_impl_digit))
  := eF Tryz.func154 (by kernel_rfl)
theorem impl_word_eq (T : S.Tab) (t0 : List Int) : impl_word (S.step T) t0 =
 (impl_word_l2 T t0 Lx.words (Lx.words.length : Int) (0 : Int)).bind (out2
   (fun y2 =>
  some (y2.1, o_impl_word))
   (fun y2 =>
  some ((1 : Int), o_impl_word)))
  := eF Tryz.func155 (by kernel_rfl)
theorem impl_word_l2_eq (T : S.Tab) (t0 : List Int) (t5 : List (List Int)) (t6 : Int) (t7 : Int) : impl_word_l2 (S.step T) t0 t5 t6 t7 =
 brk (decide (t7 < t6)) (
  brk (decide ((0 : Int) ≤ t7) && decide (t7 < (t5.length : Int))) (
  brk (decide ((t5.getD t7.toNat []) = t0)) (
   some (Sum.inl (IntKind.i64.wrap ((10 : Int) + t7), ()))) (
   impl_word_l2 T t0 t5 t6 (IntKind.i64.wrap (t7 + (1 : Int))))) none) (
  some (Sum.inr (Sum.inl ())))
  := eL Tryz.func155 rfl (by kernel_rfl)
theorem impl_hexd_eq (T : S.Tab) (t0 : Int) : impl_hexd (S.step T) t0 =
 (impl_digit T t0).bind fun d4 =>
 brk (d4.1) (
  some (true, o_impl_hexd)) (
  brk (decide ((97 : Int) ≤ t0)) (
   some (decide (t0 ≤ (102 : Int)), o_impl_hexd)) (
   some (false, o_impl_hexd)))
  := eF Tryz.func157 (by kernel_rfl)
theorem i_strconv_lower_eq (T : S.Tab) (t0 : Int) : i_strconv_lower (S.step T) t0 =
 some (intBits .or .u8 t0 (32 : Int), o_i_strconv_lower)
  := eF Tryz.func257 (by kernel_rfl)
theorem i_strconv_ParseUint_eq (T : S.Tab) (t0 : List Int) (t1 : Int) (t2 : Int) : i_strconv_ParseUint (S.step T) t0 t1 t2 =
 brk (decide (t0 = ([] : List Int))) (
  some (((0 : Int), false, ()), o_i_strconv_ParseUint)) (
  brk (decide ((2 : Int) ≤ t1)) (
   brk (decide (t1 ≤ (36 : Int))) (
    (i_strconv_ParseUint_j21 T t0 t1 t2 (decide (t1 = (0 : Int))) t0).bind (out1
      (fun y21 =>
     some (y21, o_i_strconv_ParseUint)))) (
    brk (decide (t1 = (0 : Int))) (
     brk (decide ((0 : Int) < (t0.length : Int))) (
     brk (decide (t0.getD 0 0 = (48 : Int))) (
      brk (decide ((3 : Int) ≤ (t0.length : Int))) (
       brk (decide ((1 : Int) < (t0.length : Int))) (
       (i_strconv_lower T (t0.getD 1 0)).bind fun d47 =>
       brk (decide (d47.1 = (98 : Int))) (
        brk (bounds t0.length (2 : Int) (t0.length : Int)) (
        (i_strconv_ParseUint_j21 T (sub t0 (2 : Int) (t0.length : Int)) (2 : Int) t2 (decide (t1 = (0 : Int))) t0).bind (out1
          (fun y21 =>
         some (y21, o_i_strconv_ParseUint)))) none) (
        brk (decide ((3 : Int) ≤ (t0.length : Int))) (
         brk (decide ((1 : Int) < (t0.length : Int))) (
         (i_strconv_lower T (t0.getD 1 0)).bind fun d59 =>
         brk (decide (d59.1 = (111 : Int))) (
          brk (bounds t0.length (2 : Int) (t0.length : Int)) (
          (i_strconv_ParseUint_j21 T (sub t0 (2 : Int) (t0.length : Int)) (8 : Int) t2 (decide (t1 = (0 : Int))) t0).bind (out1
            (fun y21 =>
           some (y21, o_i_strconv_ParseUint)))) none) (
          brk (decide ((3 : Int) ≤ (t0.length : Int))) (
           brk (decide ((1 : Int) < (t0.length : Int))) (
           (i_strconv_lower T (t0.getD 1 0)).bind fun d71 =>
           brk (decide (d71.1 = (120 : Int))) (
            brk (bounds t0.length (2 : Int) (t0.length : Int)) (
            (i_strconv_ParseUint_j21 T (sub t0 (2 : Int) (t0.length : Int)) (16 : Int) t2 (decide (t1 = (0 : Int))) t0).bind (out1
              (fun y21 =>
             some (y21, o_i_strconv_ParseUint)))) none) (
            brk (bounds t0.length (1 : Int) (t0.length : Int)) (
            (i_strconv_ParseUint_j21 T (sub t0 (1 : Int) (t0.length : Int)) (8 : Int) t2 (decide (t1 = (0 : Int))) t0).bind (out1
              (fun y21 =>
             some (y21, o_i_strconv_ParseUint)))) none)) none) (
           brk (bounds t0.length (1 : Int) (t0.length : Int)) (
           (i_strconv_ParseUint_j21 T (sub t0 (1 : Int) (t0.length : Int)) (8 : Int) t2 (decide (t1 = (0 : Int))) t0).bind (out1
             (fun y21 =>
            some (y21, o_i_strconv_ParseUint)))) none))) none) (
         brk (decide ((3 : Int) ≤ (t0.length : Int))) (
          brk (decide ((1 : Int) < (t0.length : Int))) (
          (i_strconv_lower T (t0.getD 1 0)).bind fun d71 =>
          brk (decide (d71.1 = (120 : Int))) (
           brk (bounds t0.length (2 : Int) (t0.length : Int)) (
           (i_strconv_ParseUint_j21 T (sub t0 (2 : Int) (t0.length : Int)) (16 : Int) t2 (decide (t1 = (0 : Int))) t0).bind (out1
             (fun y21 =>
            some (y21, o_i_strconv_ParseUint)))) none) (
           brk (bounds t0.length (1 : Int) (t0.length : Int)) (
           (i_strconv_ParseUint_j21 T (sub t0 (1 : Int) (t0.length : Int)) (8 : Int) t2 (decide (t1 = (0 : Int))) t0).bind (out1
             (fun y21 =>
            some (y21, o_i_strconv_ParseUint)))) none)) none) (
          brk (bounds t0.length (1 : Int) (t0.length : Int)) (
          (i_strconv_ParseUint_j21 T (sub t0 (1 : Int) (t0.length : Int)) (8 : Int) t2 (decide (t1 = (0 : Int))) t0).bind (out1
            (fun y21 =>
           some (y21, o_i_strconv_ParseUint)))) none)))) none) (
       brk (decide ((3 : Int) ≤ (t0.length : Int))) (
        brk (decide ((1 : Int) < (t0.length : Int))) (
        (i_strconv_lower T (t0.getD 1 0)).bind fun d59 =>
        brk (decide (d59.1 = (111 : Int))) (
         brk (bounds t0.length (2 : Int) (t0.length : Int)) (
         (i_strconv_ParseUint_j21 T (sub t0 (2 : Int) (t0.length : Int)) (8 : Int) t2 (decide (t1 = (0 : Int))) t0).bind (out1
           (fun y21 =>
          some (y21, o_i_strconv_ParseUint)))) none) (
         brk (decide ((3 : Int) ≤ (t0.length : Int))) (
          brk (decide ((1 : Int) < (t0.length : Int))) (
          (i_strconv_lower T (t0.getD 1 0)).bind fun d71 =>
          brk (decide (d71.1 = (120 : Int))) (
           brk (bounds t0.length (2 : Int) (t0.length : Int)) (
           (i_strconv_ParseUint_j21 T (sub t0 (2 : Int) (t0.length : Int)) (16 : Int) t2 (decide (t1 = (0 : Int))) t0).bind (out1
             (fun y21 =>
            some (y21, o_i_strconv_ParseUint)))) none) (
           brk (bounds t0.length (1 : Int) (t0.length : Int)) (
           (i_strconv_ParseUint_j21 T (sub t0 (1 : Int) (t0.length : Int)) (8 : Int) t2 (decide (t1 = (0 : Int))) t0).bind (out1
             (fun y21 =>
            some (y21, o_i_strconv_ParseUint)))) none)) none) (
          brk (bounds t0.length (1 : Int) (t0.length : Int)) (
          (i_strconv_ParseUint_j21 T (sub t0 (1 : Int) (t0.length : Int)) (8 : Int) t2 (decide (t1 = (0 : Int))) t0).bind (out1
            (fun y21 =>
           some (y21, o_i_strconv_ParseUint)))) none))) none) (
        brk (decide ((3 : Int) ≤ (t0.length : Int))) (
         brk (decide ((1 : Int) < (t0.length : Int))) (
         (i_strconv_lower T (t0.getD 1 0)).bind fun d71 =>
         brk (decide (d71.1 = (120 : Int))) (
          brk (bounds t0.length (2 : Int) (t0.length : Int)) (
          (i_strconv_ParseUint_j21 T (sub t0 (2 : Int) (t0.length : Int)) (16 : Int) t2 (decide (t1 = (0 : Int))) t0).bind (out1
            (fun y21 =>
           some (y21, o_i_strconv_ParseUint)))) none) (
          brk (bounds t0.length (1 : Int) (t0.length : Int)) (
          (i_strconv_ParseUint_j21 T (sub t0 (1 : Int) (t0.length : Int)) (8 : Int) t2 (decide (t1 = (0 : Int))) t0).bind (out1
            (fun y21 =>
           some (y21, o_i_strconv_ParseUint)))) none)) none) (
         brk (bounds t0.length (1 : Int) (t0.length : Int)) (
         (i_strconv_ParseUint_j21 T (sub t0 (1 : Int) (t0.length : Int)) (8 : Int) t2 (decide (t1 = (0 : Int))) t0).bind (out1
           (fun y21 =>
          some (y21, o_i_strconv_ParseUint)))) none)))) (
      (i_strconv_ParseUint_j21 T t0 (10 : Int) t2 (decide (t1 = (0 : Int))) t0).bind (out1
        (fun y21 =>
       some (y21, o_i_strconv_ParseUint))))) none) (
     some (((0 : Int), false, ()), o_i_strconv_ParseUint)))) (
   brk (decide (t1 = (0 : Int))) (
    brk (decide ((0 : Int) < (t0.length : Int))) (
    brk (decide (t0.getD 0 0 = (48 : Int))) (
     brk (decide ((3 : Int) ≤ (t0.length : Int))) (
      brk (decide ((1 : Int) < (t0.length : Int))) (
      (i_strconv_lower T (t0.getD 1 0)).bind fun d47 =>
      brk (decide (d47.1 = (98 : Int))) (
       brk (bounds t0.length (2 : Int) (t0.length : Int)) (
       (i_strconv_ParseUint_j21 T (sub t0 (2 : Int) (t0.length : Int)) (2 : Int) t2 (decide (t1 = (0 : Int))) t0).bind (out1
         (fun y21 =>
        some (y21, o_i_strconv_ParseUint)))) none) (
       brk (decide ((3 : Int) ≤ (t0.length : Int))) (
        brk (decide ((1 : Int) < (t0.length : Int))) (
        (i_strconv_lower T (t0.getD 1 0)).bind fun d59 =>
        brk (decide (d59.1 = (111 : Int))) (
         brk (bounds t0.length (2 : Int) (t0.length : Int)) (
         (i_strconv_ParseUint_j21 T (sub t0 (2 : Int) (t0.length : Int)) (8 : Int) t2 (decide (t1 = (0 : Int))) t0).bind (out1
           (fun y21 =>
          some (y21, o_i_strconv_ParseUint)))) none) (
         brk (decide ((3 : Int) ≤ (t0.length : Int))) (
          brk (decide ((1 : Int) < (t0.length : Int))) (
          (i_strconv_lower T (t0.getD 1 0)).bind fun d71 =>
          brk (decide (d71.1 = (120 : Int))) (
           brk (bounds t0.length (2 : Int) (t0.length : Int)) (
           (i_strconv_ParseUint_j21 T (sub t0 (2 : Int) (t0.length : Int)) (16 : Int) t2 (decide (t1 = (0 : Int))) t0).bind (out1
             (fun y21 =>
            some (y21, o_i_strconv_ParseUint)))) none) (
           brk (bounds t0.length (1 : Int) (t0.length : Int)) (
           (i_strconv_ParseUint_j21 T (sub t0 (1 : Int) (t0.length : Int)) (8 : Int) t2 (decide (t1 = (0 : Int))) t0).bind (out1
             (fun y21 =>
            some (y21, o_i_strconv_ParseUint)))) none)) none) (
          brk (bounds t0.length (1 : Int) (t0.length : Int)) (
          (i_strconv_ParseUint_j21 T (sub t0 (1 : Int) (t0.length : Int)) (8 : Int) t2 (decide (t1 = (0 : Int))) t0).bind (out1
            (fun y21 =>
           some (y21, o_i_strconv_ParseUint)))) none))) none) (
        brk (decide ((3 : Int) ≤ (t0.length : Int))) (
         brk (decide ((1 : Int) < (t0.length : Int))) (
         (i_strconv_lower T (t0.getD 1 0)).bind fun d71 =>
         brk (decide (d71.1 = (120 : Int))) (
          brk (bounds t0.length (2 : Int) (t0.length : Int)) (
          (i_strconv_ParseUint_j21 T (sub t0 (2 : Int) (t0.length : Int)) (16 : Int) t2 (decide (t1 = (0 : Int))) t0).bind (out1
            (fun y21 =>
           some (y21, o_i_strconv_ParseUint)))) none) (
          brk (bounds t0.length (1 : Int) (t0.length : Int)) (
          (i_strconv_ParseUint_j21 T (sub t0 (1 : Int) (t0.length : Int)) (8 : Int) t2 (decide (t1 = (0 : Int))) t0).bind (out1
            (fun y21 =>
           some (y21, o_i_strconv_ParseUint)))) none)) none) (
         brk (bounds t0.length (1 : Int) (t0.length : Int)) (
         (i_strconv_ParseUint_j21 T (sub t0 (1 : Int) (t0.length : Int)) (8 : Int) t2 (decide (t1 = (0 : Int))) t0).bind (out1
           (fun y21 =>
          some (y21, o_i_strconv_ParseUint)))) none)))) none) (
      brk (decide ((3 : Int) ≤ (t0.length : Int))) (
       brk (decide ((1 : Int) < (t0.length : Int))) (
       (i_strconv_lower T (t0.getD 1 0)).bind fun d59 =>
       brk (decide (d59.1 = (111 : Int))) (
        brk (bounds t0.length (2 : Int) (t0.length : Int)) (
        (i_strconv_ParseUint_j21 T (sub t0 (2 : Int) (t0.length : Int)) (8 : Int) t2 (decide (t1 = (0 : Int))) t0).bind (out1
          (fun y21 =>
         some (y21, o_i_strconv_ParseUint)))) none) (
        brk (decide ((3 : Int) ≤ (t0.length : Int))) (
         brk (decide ((1 : Int) < (t0.length : Int))) (
         (i_strconv_lower T (t0.getD 1 0)).bind fun d71 =>
         brk (decide (d71.1 = (120 : Int))) (
          brk (bounds t0.length (2 : Int) (t0.length : Int)) (
          (i_strconv_ParseUint_j21 T (sub t0 (2 : Int) (t0.length : Int)) (16 : Int) t2 (decide (t1 = (0 : Int))) t0).bind (out1
            (fun y21 =>
           some (y21, o_i_strconv_ParseUint)))) none) (
          brk (bounds t0.length (1 : Int) (t0.length : Int)) (
          (i_strconv_ParseUint_j21 T (sub t0 (1 : Int) (t0.length : Int)) (8 : Int) t2 (decide (t1 = (0 : Int))) t0).bind (out1
            (fun y21 =>
           some (y21, o_i_strconv_ParseUint)))) none)) none) (
         brk (bounds t0.length (1 : Int) (t0.length : Int)) (
         (i_strconv_ParseUint_j21 T (sub t0 (1 : Int) (t0.length : Int)) (8 : Int) t2 (decide (t1 = (0 : Int))) t0).bind (out1
           (fun y21 =>
          some (y21, o_i_strconv_ParseUint)))) none))) none) (
       brk (decide ((3 : Int) ≤ (t0.length : Int))) (
        brk (decide ((1 : Int) < (t0.length : Int))) (
        (i_strconv_lower T (t0.getD 1 0)).bind fun d71 =>
        brk (decide (d71.1 = (120 : Int))) (
         brk (bounds t0.length (2 : Int) (t0.length : Int)) (
         (i_strconv_ParseUint_j21 T (sub t0 (2 : Int) (t0.length : Int)) (16 : Int) t2 (decide (t1 = (0 : Int))) t0).bind (out1
           (fun y21 =>
          some (y21, o_i_strconv_ParseUint)))) none) (
         brk (bounds t0.length (1 : Int) (t0.length : Int)) (
         (i_strconv_ParseUint_j21 T (sub t0 (1 : Int) (t0.length : Int)) (8 : Int) t2 (decide (t1 = (0 : Int))) t0).bind (out1
           (fun y21 =>
          some (y21, o_i_strconv_ParseUint)))) none)) none) (
        brk (bounds t0.length (1 : Int) (t0.length : Int)) (
        (i_strconv_ParseUint_j21 T (sub t0 (1 : Int) (t0.length : Int)) (8 : Int) t2 (decide (t1 = (0 : Int))) t0).bind (out1
          (fun y21 =>
         some (y21, o_i_strconv_ParseUint)))) none)))) (
     (i_strconv_ParseUint_j21 T t0 (10 : Int) t2 (decide (t1 = (0 : Int))) t0).bind (out1
       (fun y21 =>
      some (y21, o_i_strconv_ParseUint))))) none) (
    some (((0 : Int), false, ()), o_i_strconv_ParseUint))))
  := eF Tryz.func236 (by kernel_rfl)
theorem i_strconv_ParseUint_j21_eq (T : S.Tab) (t0 : List Int) (t1 : Int) (t2 : Int) (t8 : Bool) (t9 : List Int) : i_strconv_ParseUint_j21 (S.step T) t0 t1 t2 t8 t9 =
 brk (decide (t2 = (0 : Int))) (
  (i_strconv_ParseUint_j25 T t0 t1 (64 : Int) t8 t9).bind (out1
    (fun y25 =>
   some (Sum.inl y25)))) (
  brk (decide (t2 < (0 : Int))) (
   some (Sum.inl ((0 : Int), false, ()))) (
   brk (decide ((64 : Int) < t2)) (
    some (Sum.inl ((0 : Int), false, ()))) (
    (i_strconv_ParseUint_j25 T t0 t1 t2 t8 t9).bind (out1
      (fun y25 =>
     some (Sum.inl y25))))))
  := eJ Tryz.func236 rfl (by kernel_rfl)
theorem i_strconv_ParseUint_j25_eq (T : S.Tab) (t0 : List Int) (t1 : Int) (t2 : Int) (t8 : Bool) (t9 : List Int) : i_strconv_ParseUint_j25 (S.step T) t0 t1 t2 t8 t9 =
 brk (decide (t1 = (10 : Int))) (
  (i_strconv_ParseUint_j32 T t0 t1 t2 t8 t9 (1844674407370955162 : Int)).bind (out1
    (fun y32 =>
   some (Sum.inl y32)))) (
  brk (decide (t1 = (16 : Int))) (
   (i_strconv_ParseUint_j32 T t0 t1 t2 t8 t9 (1152921504606846976 : Int)).bind (out1
     (fun y32 =>
    some (Sum.inl y32)))) (
   brk (decide ((IntKind.u64.wrap t1) ≠ 0)) (
   (i_strconv_ParseUint_j32 T t0 t1 t2 t8 t9 (IntKind.u64.wrap ((IntKind.u64.wrap ((18446744073709551615 : Int).tdiv (IntKind.u64.wrap t1))) + (1 : Int)))).bind (out1
     (fun y32 =>
    some (Sum.inl y32)))) none))
  := eJ Tryz.func236 rfl (by kernel_rfl)
theorem i_strconv_ParseUint_j32_eq (T : S.Tab) (t0 : List Int) (t1 : Int) (t2 : Int) (t8 : Bool) (t9 : List Int) (t10 : Int) : i_strconv_ParseUint_j32 (S.step T) t0 t1 t2 t8 t9 t10 =
 brk (decide ((0 : Int) ≤ IntKind.u64.wrap t2)) (
 (i_strconv_ParseUint_l36 T t1 t8 t9 t10 (IntKind.u64.wrap ((IntKind.u64.wrap ((1 : Int) * 2 ^ min ((IntKind.u64.wrap t2).toNat) IntKind.u64.bits)) - (1 : Int))) false (0 : Int) t0 (t0.length : Int) (0 : Int)).bind (out2
   (fun y36 =>
  some (Sum.inl y36))
   (fun y36 =>
  brk (y36.2.1) (
   (i_strconv_underscoreOK T y36.1).bind fun d167 =>
   brk (!d167.1) (
    some (Sum.inl ((0 : Int), false, ()))) (
    some (Sum.inl (y36.2.2.1, true, ())))) (
   some (Sum.inl (y36.2.2.1, true, ())))))) none
  := eJ Tryz.func236 rfl (by kernel_rfl)
theorem i_strconv_ParseUint_j46_eq (T : S.Tab) (t1 : Int) (t8 : Bool) (t9 : List Int) (t10 : Int) (t11 : Int) (t12 : Bool) (t13 : Int) (t16 : Int) (t99 : List Int) (t100 : Int) (t101 : Int) : i_strconv_ParseUint_j46 (S.step T) t1 t8 t9 t10 t11 t12 t13 t16 t99 t100 t101 =
 brk (decide (IntKind.u8.wrap t1 ≤ t16)) (
  some (Sum.inl ((0 : Int), false, ()))) (
  brk (decide (t10 ≤ t13)) (
   some (Sum.inl (t11, false, ()))) (
   brk (decide (IntKind.u64.wrap ((IntKind.u64.wrap (t13 * (IntKind.u64.wrap t1))) + (IntKind.u64.wrap t16)) < IntKind.u64.wrap (t13 * (IntKind.u64.wrap t1)))) (
    some (Sum.inl (t11, false, ()))) (
    brk (decide (t11 < IntKind.u64.wrap ((IntKind.u64.wrap (t13 * (IntKind.u64.wrap t1))) + (IntKind.u64.wrap t16)))) (
     some (Sum.inl (t11, false, ()))) (
     some (Sum.inr (Sum.inl (t1, t8, t9, t10, t11, t12, IntKind.u64.wrap ((IntKind.u64.wrap (t13 * (IntKind.u64.wrap t1))) + (IntKind.u64.wrap t16)), t99, t100, t101, ())))))))
  := eJ Tryz.func236 rfl (by kernel_rfl)
theorem i_strconv_ParseUint_l36_eq (T : S.Tab) (t1 : Int) (t8 : Bool) (t9 : List Int) (t10 : Int) (t11 : Int) (t12 : Bool) (t13 : Int) (t99 : List Int) (t100 : Int) (t101 : Int) : i_strconv_ParseUint_l36 (S.step T) t1 t8 t9 t10 t11 t12 t13 t99 t100 t101 =
 brk (decide (t101 < t100)) (
  brk (decide ((0 : Int) ≤ t101) && decide (t101 < (t99.length : Int))) (
  brk (decide (t99.getD t101.toNat 0 = (95 : Int))) (
   brk (t8) (
    i_strconv_ParseUint_l36 T t1 t8 t9 t10 t11 true t13 t99 t100 (IntKind.i64.wrap (t101 + (1 : Int)))) (
    brk (decide ((48 : Int) ≤ t99.getD t101.toNat 0)) (
     brk (decide (t99.getD t101.toNat 0 ≤ (57 : Int))) (
      (i_strconv_ParseUint_j46 T t1 t8 t9 t10 t11 t12 t13 (IntKind.u8.wrap ((t99.getD t101.toNat 0) - (48 : Int))) t99 t100 t101).bind (out2
        (fun y46 =>
       some (Sum.inl y46))
        (fun y46 =>
       i_strconv_ParseUint_l36 T y46.1 y46.2.1 y46.2.2.1 y46.2.2.2.1 y46.2.2.2.2.1 y46.2.2.2.2.2.1 y46.2.2.2.2.2.2.1 y46.2.2.2.2.2.2.2.1 y46.2.2.2.2.2.2.2.2.1 (IntKind.i64.wrap (y46.2.2.2.2.2.2.2.2.2.1 + (1 : Int)))))) (
      (i_strconv_lower T (t99.getD t101.toNat 0)).bind fun d123 =>
      brk (decide ((97 : Int) ≤ d123.1)) (
       (i_strconv_lower T (t99.getD t101.toNat 0)).bind fun d127 =>
       brk (decide (d127.1 ≤ (122 : Int))) (
        (i_strconv_lower T (t99.getD t101.toNat 0)).bind fun d131 =>
        (i_strconv_ParseUint_j46 T t1 t8 t9 t10 t11 t12 t13 (IntKind.u8.wrap ((IntKind.u8.wrap (d131.1 - (97 : Int))) + (10 : Int))) t99 t100 t101).bind (out2
          (fun y46 =>
         some (Sum.inl y46))
          (fun y46 =>
         i_strconv_ParseUint_l36 T y46.1 y46.2.1 y46.2.2.1 y46.2.2.2.1 y46.2.2.2.2.1 y46.2.2.2.2.2.1 y46.2.2.2.2.2.2.1 y46.2.2.2.2.2.2.2.1 y46.2.2.2.2.2.2.2.2.1 (IntKind.i64.wrap (y46.2.2.2.2.2.2.2.2.2.1 + (1 : Int)))))) (
        some (Sum.inl ((0 : Int), false, ())))) (
       some (Sum.inl ((0 : Int), false, ()))))) (
     (i_strconv_lower T (t99.getD t101.toNat 0)).bind fun d123 =>
     brk (decide ((97 : Int) ≤ d123.1)) (
      (i_strconv_lower T (t99.getD t101.toNat 0)).bind fun d127 =>
      brk (decide (d127.1 ≤ (122 : Int))) (
       (i_strconv_lower T (t99.getD t101.toNat 0)).bind fun d131 =>
       (i_strconv_ParseUint_j46 T t1 t8 t9 t10 t11 t12 t13 (IntKind.u8.wrap ((IntKind.u8.wrap (d131.1 - (97 : Int))) + (10 : Int))) t99 t100 t101).bind (out2
         (fun y46 =>
        some (Sum.inl y46))
         (fun y46 =>
        i_strconv_ParseUint_l36 T y46.1 y46.2.1 y46.2.2.1 y46.2.2.2.1 y46.2.2.2.2.1 y46.2.2.2.2.2.1 y46.2.2.2.2.2.2.1 y46.2.2.2.2.2.2.2.1 y46.2.2.2.2.2.2.2.2.1 (IntKind.i64.wrap (y46.2.2.2.2.2.2.2.2.2.1 + (1 : Int)))))) (
       some (Sum.inl ((0 : Int), false, ())))) (
      some (Sum.inl ((0 : Int), false, ())))))) (
   brk (decide ((48 : Int) ≤ t99.getD t101.toNat 0)) (
    brk (decide (t99.getD t101.toNat 0 ≤ (57 : Int))) (
     (i_strconv_ParseUint_j46 T t1 t8 t9 t10 t11 t12 t13 (IntKind.u8.wrap ((t99.getD t101.toNat 0) - (48 : Int))) t99 t100 t101).bind (out2
       (fun y46 =>
      some (Sum.inl y46))
       (fun y46 =>
      i_strconv_ParseUint_l36 T y46.1 y46.2.1 y46.2.2.1 y46.2.2.2.1 y46.2.2.2.2.1 y46.2.2.2.2.2.1 y46.2.2.2.2.2.2.1 y46.2.2.2.2.2.2.2.1 y46.2.2.2.2.2.2.2.2.1 (IntKind.i64.wrap (y46.2.2.2.2.2.2.2.2.2.1 + (1 : Int)))))) (
     (i_strconv_lower T (t99.getD t101.toNat 0)).bind fun d123 =>
     brk (decide ((97 : Int) ≤ d123.1)) (
      (i_strconv_lower T (t99.getD t101.toNat 0)).bind fun d127 =>
      brk (decide (d127.1 ≤ (122 : Int))) (
       (i_strconv_lower T (t99.getD t101.toNat 0)).bind fun d131 =>
       (i_strconv_ParseUint_j46 T t1 t8 t9 t10 t11 t12 t13 (IntKind.u8.wrap ((IntKind.u8.wrap (d131.1 - (97 : Int))) + (10 : Int))) t99 t100 t101).bind (out2
         (fun y46 =>
        some (Sum.inl y46))
         (fun y46 =>
        i_strconv_ParseUint_l36 T y46.1 y46.2.1 y46.2.2.1 y46.2.2.2.1 y46.2.2.2.2.1 y46.2.2.2.2.2.1 y46.2.2.2.2.2.2.1 y46.2.2.2.2.2.2.2.1 y46.2.2.2.2.2.2.2.2.1 (IntKind.i64.wrap (y46.2.2.2.2.2.2.2.2.2.1 + (1 : Int)))))) (
       some (Sum.inl ((0 : Int), false, ())))) (
      some (Sum.inl ((0 : Int), false, ()))))) (
    (i_strconv_lower T (t99.getD t101.toNat 0)).bind fun d123 =>
    brk (decide ((97 : Int) ≤ d123.1)) (
     (i_strconv_lower T (t99.getD t101.toNat 0)).bind fun d127 =>
     brk (decide (d127.1 ≤ (122 : Int))) (
      (i_strconv_lower T (t99.getD t101.toNat 0)).bind fun d131 =>
      (i_strconv_ParseUint_j46 T t1 t8 t9 t10 t11 t12 t13 (IntKind.u8.wrap ((IntKind.u8.wrap (d131.1 - (97 : Int))) + (10 : Int))) t99 t100 t101).bind (out2
        (fun y46 =>
       some (Sum.inl y46))
        (fun y46 =>
       i_strconv_ParseUint_l36 T y46.1 y46.2.1 y46.2.2.1 y46.2.2.2.1 y46.2.2.2.2.1 y46.2.2.2.2.2.1 y46.2.2.2.2.2.2.1 y46.2.2.2.2.2.2.2.1 y46.2.2.2.2.2.2.2.2.1 (IntKind.i64.wrap (y46.2.2.2.2.2.2.2.2.2.1 + (1 : Int)))))) (
      some (Sum.inl ((0 : Int), false, ())))) (
     some (Sum.inl ((0 : Int), false, ())))))) none) (
  some (Sum.inr (Sum.inl (t9, t12, t13, ()))))
  := eL Tryz.func236 rfl (by kernel_rfl)
theorem strconv_ParseUint_eq (T : S.Tab) (t0 : List Int) (t1 : Int) (t2 : Int) : strconv_ParseUint (S.step T) t0 t1 t2 =
 (i_strconv_ParseUint T t0 t1 t2).bind fun d14 =>
 brk (!d14.1.2.1) (
  none) (
  some ((d14.1.1, true, ()), o_strconv_ParseUint))
  := eF Tryz.func158 (by kernel_rfl)
theorem impl_number_eq (T : S.Tab) (t0 : List Int) (t1 : Int) : impl_number (S.step T) t0 t1 =
 brk (decide ((0 : Int) ≤ t1) && decide (t1 < (t0.length : Int))) (
 brk (decide (t0.getD t1.toNat 0 = (48 : Int))) (
  brk (decide (IntKind.i64.wrap (t1 + (1 : Int)) < (t0.length : Int))) (
   brk (decide ((0 : Int) ≤ IntKind.i64.wrap (t1 + (1 : Int))) && decide (IntKind.i64.wrap (t1 + (1 : Int)) < (t0.length : Int))) (
   brk (decide (t0.getD ((IntKind.i64.wrap (t1 + (1 : Int))).toNat) 0 = (120 : Int))) (
    (impl_number_l5 T t0 t1 ((2 : Int), t1, (0 : Int), (0 : Int), (0 : Int), ([] : List Int), ()) (IntKind.i64.wrap (t1 + (2 : Int)))).bind (out1
      (fun y5 =>
     brk (decide (y5.2.2.2.1 = IntKind.i64.wrap (y5.2.1 + (2 : Int)))) (
      some (((y5.2.2.1.1, y5.2.2.1.2.1, y5.2.2.2.1, y5.2.2.1.2.2.2), true, ()), o_impl_number)) (
      brk (decide (y5.2.2.2.1 = IntKind.i64.wrap (y5.2.1 + (18 : Int)))) (
       brk (decide (y5.2.2.2.1 < (y5.1.length : Int))) (
        brk (decide ((0 : Int) ≤ y5.2.2.2.1) && decide (y5.2.2.2.1 < (y5.1.length : Int))) (
        (impl_hexd T (y5.1.getD y5.2.2.2.1.toNat 0)).bind fun d74 =>
        brk (d74.1) (
         some (((y5.2.2.1.1, y5.2.2.1.2.1, y5.2.2.2.1, y5.2.2.1.2.2.2), true, ()), o_impl_number)) (
         brk (bounds y5.1.length (IntKind.i64.wrap (y5.2.1 + (2 : Int))) y5.2.2.2.1) (
         (strconv_ParseUint T (sub y5.1 (IntKind.i64.wrap (y5.2.1 + (2 : Int))) y5.2.2.2.1) (16 : Int) (64 : Int)).bind fun d84 =>
         some (((y5.2.2.1.1, y5.2.2.1.2.1, y5.2.2.2.1, y5.2.2.1.2.2.2.1, IntKind.i64.wrap d84.1.1, y5.2.2.1.2.2.2.2.2), false, ()), o_impl_number)) none)) none) (
        brk (bounds y5.1.length (IntKind.i64.wrap (y5.2.1 + (2 : Int))) y5.2.2.2.1) (
        (strconv_ParseUint T (sub y5.1 (IntKind.i64.wrap (y5.2.1 + (2 : Int))) y5.2.2.2.1) (16 : Int) (64 : Int)).bind fun d84 =>
        some (((y5.2.2.1.1, y5.2.2.1.2.1, y5.2.2.2.1, y5.2.2.1.2.2.2.1, IntKind.i64.wrap d84.1.1, y5.2.2.1.2.2.2.2.2), false, ()), o_impl_number)) none)) (
       brk (bounds y5.1.length (IntKind.i64.wrap (y5.2.1 + (2 : Int))) y5.2.2.2.1) (
       (strconv_ParseUint T (sub y5.1 (IntKind.i64.wrap (y5.2.1 + (2 : Int))) y5.2.2.2.1) (16 : Int) (64 : Int)).bind fun d84 =>
       some (((y5.2.2.1.1, y5.2.2.1.2.1, y5.2.2.2.1, y5.2.2.1.2.2.2.1, IntKind.i64.wrap d84.1.1, y5.2.2.1.2.2.2.2.2), false, ()), o_impl_number)) none))))) (
    brk (decide ((0 : Int) ≤ t1) && decide (t1 < (t0.length : Int))) (
    brk (!decide (t0.getD t1.toNat 0 = (48 : Int))) (
     (impl_number_l15 T t0 t1 ((2 : Int), t1, (0 : Int), (0 : Int), (0 : Int), ([] : List Int), ()) (IntKind.i64.wrap (t1 + (1 : Int)))).bind (out1
       (fun y15 =>
      (impl_number_j17 T y15.1 y15.2.1 y15.2.2.1 y15.2.2.2.1).bind (out1
        (fun y17 =>
       some (y17, o_impl_number)))))) (
     (impl_number_j17 T t0 t1 ((2 : Int), t1, (0 : Int), (0 : Int), (0 : Int), ([] : List Int), ()) (IntKind.i64.wrap (t1 + (1 : Int)))).bind (out1
       (fun y17 =>
      some (y17, o_impl_number))))) none)) none) (
   brk (decide ((0 : Int) ≤ t1) && decide (t1 < (t0.length : Int))) (
   brk (!decide (t0.getD t1.toNat 0 = (48 : Int))) (
    (impl_number_l15 T t0 t1 ((2 : Int), t1, (0 : Int), (0 : Int), (0 : Int), ([] : List Int), ()) (IntKind.i64.wrap (t1 + (1 : Int)))).bind (out1
      (fun y15 =>
     (impl_number_j17 T y15.1 y15.2.1 y15.2.2.1 y15.2.2.2.1).bind (out1
       (fun y17 =>
      some (y17, o_impl_number)))))) (
    (impl_number_j17 T t0 t1 ((2 : Int), t1, (0 : Int), (0 : Int), (0 : Int), ([] : List Int), ()) (IntKind.i64.wrap (t1 + (1 : Int)))).bind (out1
      (fun y17 =>
     some (y17, o_impl_number))))) none)) (
  brk (decide ((0 : Int) ≤ t1) && decide (t1 < (t0.length : Int))) (
  brk (!decide (t0.getD t1.toNat 0 = (48 : Int))) (
   (impl_number_l15 T t0 t1 ((2 : Int), t1, (0 : Int), (0 : Int), (0 : Int), ([] : List Int), ()) (IntKind.i64.wrap (t1 + (1 : Int)))).bind (out1
     (fun y15 =>
    (impl_number_j17 T y15.1 y15.2.1 y15.2.2.1 y15.2.2.2.1).bind (out1
      (fun y17 =>
     some (y17, o_impl_number)))))) (
   (impl_number_j17 T t0 t1 ((2 : Int), t1, (0 : Int), (0 : Int), (0 : Int), ([] : List Int), ()) (IntKind.i64.wrap (t1 + (1 : Int)))).bind (out1
     (fun y17 =>
    some (y17, o_impl_number))))) none)) none
  := eF Tryz.func156 (by kernel_rfl)
theorem impl_number_j17_eq (T : S.Tab) (t0 : List Int) (t1 : Int) (t4 : tyTok.den) (t6 : Int) : impl_number_j17 (S.step T) t0 t1 t4 t6 =
 brk (decide (IntKind.i64.wrap (t6 + (1 : Int)) < (t0.length : Int))) (
  brk (decide ((0 : Int) ≤ t6) && decide (t6 < (t0.length : Int))) (
  brk (decide (t0.getD t6.toNat 0 = (46 : Int))) (
   brk (decide ((0 : Int) ≤ IntKind.i64.wrap (t6 + (1 : Int))) && decide (IntKind.i64.wrap (t6 + (1 : Int)) < (t0.length : Int))) (
   (impl_digit T (t0.getD ((IntKind.i64.wrap (t6 + (1 : Int))).toNat) 0)).bind fun d126 =>
   brk (d126.1) (
    (impl_number_l20 T t0 t1 t4 (IntKind.i64.wrap (t6 + (1 : Int))) t6).bind (out1
      (fun y20 =>
     (impl_number_j22 T y20.1 y20.2.1 y20.2.2.1 y20.2.2.2.1 y20.2.2.2.2.1).bind (out1
       (fun y22 =>
      some (Sum.inl y22)))))) (
    (impl_number_j22 T t0 t1 t4 t6 t6).bind (out1
      (fun y22 =>
     some (Sum.inl y22))))) none) (
   (impl_number_j22 T t0 t1 t4 t6 t6).bind (out1
     (fun y22 =>
    some (Sum.inl y22))))) none) (
  (impl_number_j22 T t0 t1 t4 t6 t6).bind (out1
    (fun y22 =>
   some (Sum.inl y22))))
  := eJ Tryz.func156 rfl (by kernel_rfl)
theorem impl_number_j22_eq (T : S.Tab) (t0 : List Int) (t1 : Int) (t4 : tyTok.den) (t6 : Int) (t9 : Int) : impl_number_j22 (S.step T) t0 t1 t4 t6 t9 =
 brk (decide (t6 < (t0.length : Int))) (
  brk (decide ((0 : Int) ≤ t6) && decide (t6 < (t0.length : Int))) (
  brk (decide (t0.getD t6.toNat 0 = (101 : Int))) (
   brk (decide (IntKind.i64.wrap (t6 + (1 : Int)) < (t0.length : Int))) (
    brk (decide ((0 : Int) ≤ IntKind.i64.wrap (t6 + (1 : Int))) && decide (IntKind.i64.wrap (t6 + (1 : Int)) < (t0.length : Int))) (
    brk (decide (t0.getD ((IntKind.i64.wrap (t6 + (1 : Int))).toNat) 0 = (43 : Int))) (
     (impl_number_j26 T t0 t1 t4 (IntKind.i64.wrap ((IntKind.i64.wrap (t6 + (1 : Int))) + (1 : Int))) t9).bind (out2
       (fun y26 =>
      some (Sum.inl y26))
       (fun y26 =>
      (impl_number_j31 T y26.1 y26.2.1 y26.2.2.1 y26.2.2.2.1 y26.2.2.2.2.1).bind (out1
        (fun y31 =>
       some (Sum.inl y31)))))) (
     brk (decide ((0 : Int) ≤ IntKind.i64.wrap (t6 + (1 : Int))) && decide (IntKind.i64.wrap (t6 + (1 : Int)) < (t0.length : Int))) (
     brk (decide (t0.getD ((IntKind.i64.wrap (t6 + (1 : Int))).toNat) 0 = (45 : Int))) (
      (impl_number_j26 T t0 t1 t4 (IntKind.i64.wrap ((IntKind.i64.wrap (t6 + (1 : Int))) + (1 : Int))) t9).bind (out2
        (fun y26 =>
       some (Sum.inl y26))
        (fun y26 =>
       (impl_number_j31 T y26.1 y26.2.1 y26.2.2.1 y26.2.2.2.1 y26.2.2.2.2.1).bind (out1
         (fun y31 =>
        some (Sum.inl y31)))))) (
      (impl_number_j26 T t0 t1 t4 (IntKind.i64.wrap (t6 + (1 : Int))) t9).bind (out2
        (fun y26 =>
       some (Sum.inl y26))
        (fun y26 =>
       (impl_number_j31 T y26.1 y26.2.1 y26.2.2.1 y26.2.2.2.1 y26.2.2.2.2.1).bind (out1
         (fun y31 =>
        some (Sum.inl y31))))))) none)) none) (
    (impl_number_j26 T t0 t1 t4 (IntKind.i64.wrap (t6 + (1 : Int))) t9).bind (out2
      (fun y26 =>
     some (Sum.inl y26))
      (fun y26 =>
     (impl_number_j31 T y26.1 y26.2.1 y26.2.2.1 y26.2.2.2.1 y26.2.2.2.2.1).bind (out1
       (fun y31 =>
      some (Sum.inl y31))))))) (
   (impl_number_j31 T t0 t1 t4 t6 t9).bind (out1
     (fun y31 =>
    some (Sum.inl y31))))) none) (
  (impl_number_j31 T t0 t1 t4 t6 t9).bind (out1
    (fun y31 =>
   some (Sum.inl y31))))
  := eJ Tryz.func156 rfl (by kernel_rfl)
theorem impl_number_j26_eq (T : S.Tab) (t0 : List Int) (t1 : Int) (t4 : tyTok.den) (t6 : Int) (t9 : Int) : impl_number_j26 (S.step T) t0 t1 t4 t6 t9 =
 brk (decide ((t0.length : Int) ≤ t6)) (
  some (Sum.inl ((t4.1, t4.2.1, t6, t4.2.2.2), true, ()))) (
  brk (decide ((0 : Int) ≤ t6) && decide (t6 < (t0.length : Int))) (
  (impl_digit T (t0.getD t6.toNat 0)).bind fun d180 =>
  brk (!d180.1) (
   some (Sum.inl ((t4.1, t4.2.1, t6, t4.2.2.2), true, ()))) (
   (impl_number_l29 T t0 t1 t4 t6 t9).bind (out1
     (fun y29 =>
    some (Sum.inr (Sum.inl y29)))))) none)
  := eJ Tryz.func156 rfl (by kernel_rfl)
theorem impl_number_j31_eq (T : S.Tab) (t0 : List Int) (t1 : Int) (t4 : tyTok.den) (t6 : Int) (t9 : Int) : impl_number_j31 (S.step T) t0 t1 t4 t6 t9 =
 brk (decide (t6 = t9)) (
  brk (bounds t0.length t1 t6) (
  (Lx.parseIntF (sub t0 t1 t6, (10 : Int), (64 : Int), ())).bind fun d208 =>
  brk (d208.1.2.1) (
   some (Sum.inl ((t4.1, t4.2.1, t6, t4.2.2.2.1, d208.1.1, t4.2.2.2.2.2), false, ()))) (
   brk (bounds t0.length t1 t6) (
   some (Sum.inl (((3 : Int), t4.2.1, t6, t4.2.2.2.1, t4.2.2.2.2.1, sub t0 t1 t6, ()), false, ()))) none)) none) (
  brk (bounds t0.length t1 t6) (
  some (Sum.inl (((3 : Int), t4.2.1, t6, t4.2.2.2.1, t4.2.2.2.2.1, sub t0 t1 t6, ()), false, ()))) none)
  := eJ Tryz.func156 rfl (by kernel_rfl)
theorem impl_number_l5_eq (T : S.Tab) (t0 : List Int) (t1 : Int) (t4 : tyTok.den) (t6 : Int) : impl_number_l5 (S.step T) t0 t1 t4 t6 =
 brk (decide (t6 < (t0.length : Int))) (
  brk (decide (t6 < IntKind.i64.wrap (t1 + (18 : Int)))) (
   brk (decide ((0 : Int) ≤ t6) && decide (t6 < (t0.length : Int))) (
   (impl_hexd T (t0.getD t6.toNat 0)).bind fun d49 =>
   brk (d49.1) (
    impl_number_l5 T t0 t1 t4 (IntKind.i64.wrap (t6 + (1 : Int)))) (
    some (Sum.inl (t0, t1, t4, t6, ())))) none) (
   some (Sum.inl (t0, t1, t4, t6, ())))) (
  some (Sum.inl (t0, t1, t4, t6, ())))
  := eL Tryz.func156 rfl (by kernel_rfl)
theorem impl_number_l15_eq (T : S.Tab) (t0 : List Int) (t1 : Int) (t4 : tyTok.den) (t6 : Int) : impl_number_l15 (S.step T) t0 t1 t4 t6 =
 brk (decide (t6 < (t0.length : Int))) (
  brk (decide ((0 : Int) ≤ t6) && decide (t6 < (t0.length : Int))) (
  (impl_digit T (t0.getD t6.toNat 0)).bind fun d105 =>
  brk (d105.1) (
   impl_number_l15 T t0 t1 t4 (IntKind.i64.wrap (t6 + (1 : Int)))) (
   some (Sum.inl (t0, t1, t4, t6, ())))) none) (
  some (Sum.inl (t0, t1, t4, t6, ())))
  := eL Tryz.func156 rfl (by kernel_rfl)
theorem impl_number_l20_eq (T : S.Tab) (t0 : List Int) (t1 : Int) (t4 : tyTok.den) (t6 : Int) (t9 : Int) : impl_number_l20 (S.step T) t0 t1 t4 t6 t9 =
 brk (decide (t6 < (t0.length : Int))) (
  brk (decide ((0 : Int) ≤ t6) && decide (t6 < (t0.length : Int))) (
  (impl_digit T (t0.getD t6.toNat 0)).bind fun d138 =>
  brk (d138.1) (
   impl_number_l20 T t0 t1 t4 (IntKind.i64.wrap (t6 + (1 : Int))) t9) (
   some (Sum.inl (t0, t1, t4, t6, t9, ())))) none) (
  some (Sum.inl (t0, t1, t4, t6, t9, ())))
  := eL Tryz.func156 rfl (by kernel_rfl)
theorem impl_number_l29_eq (T : S.Tab) (t0 : List Int) (t1 : Int) (t4 : tyTok.den) (t6 : Int) (t9 : Int) : impl_number_l29 (S.step T) t0 t1 t4 t6 t9 =
 brk (decide (t6 < (t0.length : Int))) (
  brk (decide ((0 : Int) ≤ t6) && decide (t6 < (t0.length : Int))) (
  (impl_digit T (t0.getD t6.toNat 0)).bind fun d194 =>
  brk (d194.1) (
   impl_number_l29 T t0 t1 t4 (IntKind.i64.wrap (t6 + (1 : Int))) t9) (
   some (Sum.inl (t0, t1, t4, t6, t9, ())))) none) (
  some (Sum.inl (t0, t1, t4, t6, t9, ())))
  := eL Tryz.func156 rfl (by kernel_rfl)
theorem i_stringslite_IndexByte_eq (T : S.Tab) (t0 : List Int) (t1 : Int) : i_stringslite_IndexByte (S.step T) t0 t1 =
 (Bld.indexByteF (t0, t1, ())).bind fun d7 =>
 some (d7.1, o_i_stringslite_IndexByte)
  := eF Tryz.func125 (by kernel_rfl)
theorem strings_IndexByte_eq (T : S.Tab) (t0 : List Int) (t1 : Int) : strings_IndexByte (S.step T) t0 t1 =
 (i_stringslite_IndexByte T t0 t1).bind fun d7 =>
 some (d7.1, o_strings_IndexByte)
  := eF Tryz.func81 (by kernel_rfl)
theorem impl_fixed_eq (T : S.Tab) (t0 : Int) : impl_fixed (S.step T) t0 =
 (impl_in T t0 (10 : Int) (31 : Int)).bind fun d5 =>
 brk (d5.1) (
  brk (decide ((0 : Int) ≤ IntKind.i64.wrap (t0 - (10 : Int))) && decide (IntKind.i64.wrap (t0 - (10 : Int)) < (Lx.words.length : Int))) (
  some (Lx.words.getD ((IntKind.i64.wrap (t0 - (10 : Int))).toNat) [], o_impl_fixed)) none) (
  (impl_in T t0 (40 : Int) (50 : Int)).bind fun d13 =>
  brk (d13.1) (
   brk (decide ((0 : Int) ≤ IntKind.i64.wrap (t0 - (40 : Int))) && decide (IntKind.i64.wrap (t0 - (40 : Int)) < (Lx.signs.length : Int))) (
   some (Lx.signs.getD ((IntKind.i64.wrap (t0 - (40 : Int))).toNat) [], o_impl_fixed)) none) (
   (impl_in T t0 (61 : Int) (78 : Int)).bind fun d21 =>
   brk (d21.1) (
    brk (decide ((0 : Int) ≤ IntKind.i64.wrap ((IntKind.i64.wrap (t0 - (60 : Int))) - (1 : Int))) && decide (IntKind.i64.wrap ((IntKind.i64.wrap (t0 - (60 : Int))) - (1 : Int)) < (Lx.infixes.length : Int))) (
    some (Lx.infixes.getD ((IntKind.i64.wrap ((IntKind.i64.wrap (t0 - (60 : Int))) - (1 : Int))).toNat) [], o_impl_fixed)) none) (
    brk (decide (t0 = (5 : Int))) (
     some (([59] : List Int), o_impl_fixed)) (
     some (([] : List Int), o_impl_fixed)))))
  := eF Tryz.func139 (by kernel_rfl)
theorem i_stringslite_HasPrefix_eq (T : S.Tab) (t0 : List Int) (t1 : List Int) : i_stringslite_HasPrefix (S.step T) t0 t1 =
 brk (decide ((t1.length : Int) ≤ (t0.length : Int))) (
  brk (bounds t0.length (0 : Int) (t1.length : Int)) (
  some (decide ((sub t0 (0 : Int) (t1.length : Int)) = t1), o_i_stringslite_HasPrefix)) none) (
  some (false, o_i_stringslite_HasPrefix))
  := eF Tryz.func234 (by kernel_rfl)
theorem strings_HasPrefix_eq (T : S.Tab) (t0 : List Int) (t1 : List Int) : strings_HasPrefix (S.step T) t0 t1 =
 (i_stringslite_HasPrefix T t0 t1).bind fun d7 =>
 some (d7.1, o_strings_HasPrefix)
  := eF Tryz.func152 (by kernel_rfl)
theorem impl_lex_eq (T : S.Tab) (t0 : List Int) (t1 : Int) : impl_lex (S.step T) t0 t1 =
 brk (decide ((0 : Int) ≤ t1) && decide (t1 < (t0.length : Int))) (
 (impl_letter T (t0.getD t1.toNat 0)).bind fun d24 =>
 brk (d24.1) (
  (impl_lex_l5 T t0 t1 ((0 : Int), t1, (0 : Int), (0 : Int), (0 : Int), ([] : List Int), ()) t1).bind (out1
    (fun y5 =>
   brk (bounds y5.1.length y5.2.1 y5.2.2.2.1) (
   (impl_word T (sub y5.1 y5.2.1 y5.2.2.2.1)).bind fun d50 =>
   brk (decide (d50.1 = (1 : Int))) (
    brk (bounds y5.1.length y5.2.1 y5.2.2.2.1) (
    some (((d50.1, y5.2.2.1.2.1, y5.2.2.2.1, y5.2.2.1.2.2.2.1, y5.2.2.1.2.2.2.2.1, sub y5.1 y5.2.1 y5.2.2.2.1, ()), false, ()), o_impl_lex)) none) (
    some (((d50.1, y5.2.2.1.2.1, y5.2.2.2.1, y5.2.2.1.2.2.2), false, ()), o_impl_lex))) none))) (
  (impl_digit T (t0.getD t1.toNat 0)).bind fun d63 =>
  brk (d63.1) (
   (impl_number T t0 t1).bind fun d66 =>
   some (d66.1, o_impl_lex)) (
   brk (decide (t0.getD t1.toNat 0 = (34 : Int))) (
    (impl_lex_l18 T t0 ((4 : Int), t1, (0 : Int), (0 : Int), (0 : Int), ([] : List Int), ()) [] (IntKind.i64.wrap (t1 + (1 : Int)))).bind (out1
      (fun y18 =>
     some (y18, o_impl_lex)))) (
    (impl_lex_l49 T t0 t1 ((0 : Int), t1, (0 : Int), (0 : Int), (0 : Int), ([] : List Int), ()) (0 : Int) (78 : Int)).bind (out1
      (fun y49 =>
     brk (decide (y49.2.1.1 = (0 : Int))) (
      some (((y49.2.1.1, y49.2.1.2.1, y49.1, y49.2.1.2.2.2), true, ()), o_impl_lex)) (
      some ((y49.2.1, false, ()), o_impl_lex)))))))) none
  := eF Tryz.func101 (by kernel_rfl)
theorem impl_lex_l5_eq (T : S.Tab) (t0 : List Int) (t1 : Int) (t4 : tyTok.den) (t7 : Int) : impl_lex_l5 (S.step T) t0 t1 t4 t7 =
 brk (decide (t7 < (t0.length : Int))) (
  brk (decide ((0 : Int) ≤ t7) && decide (t7 < (t0.length : Int))) (
  (impl_letter T (t0.getD t7.toNat 0)).bind fun d34 =>
  brk (d34.1) (
   impl_lex_l5 T t0 t1 t4 (IntKind.i64.wrap (t7 + (1 : Int)))) (
   brk (decide ((0 : Int) ≤ t7) && decide (t7 < (t0.length : Int))) (
   (impl_digit T (t0.getD t7.toNat 0)).bind fun d39 =>
   brk (d39.1) (
    impl_lex_l5 T t0 t1 t4 (IntKind.i64.wrap (t7 + (1 : Int)))) (
    some (Sum.inl (t0, t1, t4, t7, ())))) none)) none) (
  some (Sum.inl (t0, t1, t4, t7, ())))
  := eL Tryz.func101 rfl (by kernel_rfl)
theorem impl_lex_l18_eq (T : S.Tab) (t0 : List Int) (t4 : tyTok.den) (t8 : List Int) (t9 : Int) : impl_lex_l18 (S.step T) t0 t4 t8 t9 =
 brk (decide ((t0.length : Int) ≤ t9)) (
  some (Sum.inl ((t4.1, t4.2.1, t9, t4.2.2.2), true, ()))) (
  brk (decide ((0 : Int) ≤ t9) && decide (t9 < (t0.length : Int))) (
  brk (decide (t0.getD t9.toNat 0 = (10 : Int))) (
   some (Sum.inl ((t4.1, t4.2.1, t9, t4.2.2.2), true, ()))) (
   brk (decide ((0 : Int) ≤ t9) && decide (t9 < (t0.length : Int))) (
   brk (decide (t0.getD t9.toNat 0 = (34 : Int))) (
    some (Sum.inl ((t4.1, t4.2.1, IntKind.i64.wrap (t9 + (1 : Int)), t4.2.2.2.1, t4.2.2.2.2.1, t8.map byte, ()), false, ()))) (
    brk (decide ((0 : Int) ≤ t9) && decide (t9 < (t0.length : Int))) (
    brk (!decide (t0.getD t9.toNat 0 = (92 : Int))) (
     brk (decide ((0 : Int) ≤ t9) && decide (t9 < (t0.length : Int))) (
     brk (fits (t8.length + ([t0.getD t9.toNat 0] : List Int).length)) (
     impl_lex_l18 T t0 t4 (t8 ++ ([t0.getD t9.toNat 0] : List Int)) (IntKind.i64.wrap (t9 + (1 : Int)))) none) none) (
     brk (decide ((t0.length : Int) ≤ IntKind.i64.wrap (t9 + (1 : Int)))) (
      some (Sum.inl ((t4.1, t4.2.1, IntKind.i64.wrap (t9 + (1 : Int)), t4.2.2.2), true, ()))) (
      brk (decide ((0 : Int) ≤ IntKind.i64.wrap (t9 + (1 : Int))) && decide (IntKind.i64.wrap (t9 + (1 : Int)) < (t0.length : Int))) (
      (strings_IndexByte T ([110, 116, 34, 92] : List Int) (t0.getD ((IntKind.i64.wrap (t9 + (1 : Int))).toNat) 0)).bind fun d124 =>
      brk (decide ((0 : Int) ≤ d124.1)) (
       brk (decide ((0 : Int) ≤ d124.1) && decide (d124.1 < (4 : Int))) (
       brk (fits (t8.length + ([([10, 9, 34, 92] : List Int).getD d124.1.toNat 0] : List Int).length)) (
       impl_lex_l18 T t0 t4 (t8 ++ ([([10, 9, 34, 92] : List Int).getD d124.1.toNat 0] : List Int)) (IntKind.i64.wrap (t9 + (2 : Int)))) none) none) (
       brk (decide ((0 : Int) ≤ IntKind.i64.wrap (t9 + (1 : Int))) && decide (IntKind.i64.wrap (t9 + (1 : Int)) < (t0.length : Int))) (
       brk (!decide (t0.getD ((IntKind.i64.wrap (t9 + (1 : Int))).toNat) 0 = (120 : Int))) (
        some (Sum.inl ((t4.1, t4.2.1, IntKind.i64.wrap (t9 + (1 : Int)), t4.2.2.2), true, ()))) (
        (impl_lex_l39 T t0 t4 t8 t9 (2 : Int)).bind (out2
          (fun y39 =>
         some (Sum.inl y39))
          (fun y39 =>
         brk (bounds y39.1.length (IntKind.i64.wrap (y39.2.2.2.1 + (2 : Int))) (IntKind.i64.wrap (y39.2.2.2.1 + (4 : Int)))) (
         (strconv_ParseUint T (sub y39.1 (IntKind.i64.wrap (y39.2.2.2.1 + (2 : Int))) (IntKind.i64.wrap (y39.2.2.2.1 + (4 : Int)))) (16 : Int) (8 : Int)).bind fun d174 =>
         brk (fits (y39.2.2.1.length + ([IntKind.u8.wrap d174.1.1] : List Int).length)) (
         impl_lex_l18 T y39.1 y39.2.1 (y39.2.2.1 ++ ([IntKind.u8.wrap d174.1.1] : List Int)) (IntKind.i64.wrap (y39.2.2.2.1 + (4 : Int)))) none) none)))) none)) none))) none)) none)) none)
  := eL Tryz.func101 rfl (by kernel_rfl)
theorem impl_lex_l39_eq (T : S.Tab) (t0 : List Int) (t4 : tyTok.den) (t8 : List Int) (t9 : Int) (t11 : Int) : impl_lex_l39 (S.step T) t0 t4 t8 t9 t11 =
 brk (decide (t11 ≤ (3 : Int))) (
  brk (decide ((t0.length : Int) ≤ IntKind.i64.wrap (t9 + t11))) (
   some (Sum.inl ((t4.1, t4.2.1, IntKind.i64.wrap (t9 + t11), t4.2.2.2), true, ()))) (
   brk (decide ((0 : Int) ≤ IntKind.i64.wrap (t9 + t11)) && decide (IntKind.i64.wrap (t9 + t11) < (t0.length : Int))) (
   (impl_hexd T (t0.getD ((IntKind.i64.wrap (t9 + t11)).toNat) 0)).bind fun d159 =>
   brk (!d159.1) (
    some (Sum.inl ((t4.1, t4.2.1, IntKind.i64.wrap (t9 + t11), t4.2.2.2), true, ()))) (
    impl_lex_l39 T t0 t4 t8 t9 (IntKind.i64.wrap (t11 + (1 : Int))))) none)) (
  some (Sum.inr (Sum.inl (t0, t4, t8, t9, ()))))
  := eL Tryz.func101 rfl (by kernel_rfl)
theorem impl_lex_l49_eq (T : S.Tab) (t0 : List Int) (t1 : Int) (t4 : tyTok.den) (t14 : Int) (t15 : Int) : impl_lex_l49 (S.step T) t0 t1 t4 t14 t15 =
 brk (decide ((0 : Int) < t15)) (
  (impl_fixed T t15).bind fun d189 =>
  brk (!decide (d189.1 = ([] : List Int))) (
   brk (decide ((0 : Int) < (d189.1.length : Int))) (
   (impl_letter T (d189.1.getD 0 0)).bind fun d195 =>
   brk (!d195.1) (
    brk (bounds t0.length t1 (t0.length : Int)) (
    (strings_HasPrefix T (sub t0 t1 (t0.length : Int)) d189.1).bind fun d203 =>
    brk (d203.1) (
     brk (decide (t14 < (d189.1.length : Int))) (
      impl_lex_l49 T t0 t1 (t15, t4.2.1, IntKind.i64.wrap (t1 + (d189.1.length : Int)), t4.2.2.2) (d189.1.length : Int) (IntKind.i64.wrap (t15 - (1 : Int)))) (
      impl_lex_l49 T t0 t1 t4 t14 (IntKind.i64.wrap (t15 - (1 : Int))))) (
     impl_lex_l49 T t0 t1 t4 t14 (IntKind.i64.wrap (t15 - (1 : Int))))) none) (
    impl_lex_l49 T t0 t1 t4 t14 (IntKind.i64.wrap (t15 - (1 : Int))))) none) (
   impl_lex_l49 T t0 t1 t4 t14 (IntKind.i64.wrap (t15 - (1 : Int))))) (
  some (Sum.inl (t1, t4, ())))
  := eL Tryz.func101 rfl (by kernel_rfl)
theorem impl_only_eq (T : S.Tab) (t0 : List Int) (t1 : Int) : impl_only (S.step T) t0 t1 =
 brk (decide (t0 = ([] : List Int))) (
  some (false, o_impl_only)) (
  brk (decide ((0 : Int) < (t0.length : Int))) (
  brk (!decide (t0.getD 0 0 = (34 : Int))) (
   brk (decide ((0 : Int) < (t0.length : Int))) (
   (impl_letter T (t0.getD 0 0)).bind fun d16 =>
   brk (!d16.1) (
    brk (decide ((0 : Int) < (t0.length : Int))) (
    (impl_digit T (t0.getD 0 0)).bind fun d22 =>
    brk (!d22.1) (
     some (false, o_impl_only)) (
     (impl_lex T t0 (0 : Int)).bind fun d28 =>
     brk (!d28.1.2.1) (
      brk (decide (d28.1.1.1 = t1)) (
       some (decide (d28.1.1.2.2.1 = (t0.length : Int)), o_impl_only)) (
       some (false, o_impl_only))) (
      some (false, o_impl_only)))) none) (
    (impl_lex T t0 (0 : Int)).bind fun d28 =>
    brk (!d28.1.2.1) (
     brk (decide (d28.1.1.1 = t1)) (
      some (decide (d28.1.1.2.2.1 = (t0.length : Int)), o_impl_only)) (
      some (false, o_impl_only))) (
     some (false, o_impl_only)))) none) (
   (impl_lex T t0 (0 : Int)).bind fun d28 =>
   brk (!d28.1.2.1) (
    brk (decide (d28.1.1.1 = t1)) (
     some (decide (d28.1.1.2.2.1 = (t0.length : Int)), o_impl_only)) (
     some (false, o_impl_only))) (
    some (false, o_impl_only)))) none)
  := eF Tryz.func243 (by kernel_rfl)
theorem impl_goodName_eq (T : S.Tab) (t0 : List Int) : impl_goodName (S.step T) t0 =
 brk (decide ((t0.length : Int) ≤ (40 : Int))) (
  (impl_only T t0 (1 : Int)).bind fun d8 =>
  some (d8.1, o_impl_goodName)) (
  some (false, o_impl_goodName))
  := eF Tryz.func186 (by kernel_rfl)
theorem impl_isStat_eq (T : S.Tab) (t0 : Int) : impl_isStat (S.step T) t0 =
 (impl_in T t0 (1 : Int) (16 : Int)).bind fun d4 =>
 some (d4.1, o_impl_isStat)
  := eF Tryz.func191 (by kernel_rfl)
theorem impl_nodeOk_2_eq (T : S.Tab) (t0 : Bool) (t1 : Bool) (t2 : Bool) (t3 : Bool) (t4 : Int) (t5 : Int) (t6 : Int) (t7 : List Int) : impl_nodeOk_2 (S.step T) t0 t1 t2 t3 t4 t5 t6 t7 =
 brk (t0) (
  brk (t1) (
   brk (t2) (
    brk (t3) (
     some (true, (), (), (), (), t4, t5, t6, t7, ())) (
     some (decide (t7 = ([] : List Int)), (), (), (), (), t4, t5, t6, t7, ()))) (
    brk (decide (t6 = (0 : Int))) (
     brk (t3) (
      some (true, (), (), (), (), t4, t5, t6, t7, ())) (
      some (decide (t7 = ([] : List Int)), (), (), (), (), t4, t5, t6, t7, ()))) (
     some (false, (), (), (), (), t4, t5, t6, t7, ())))) (
   brk (decide (t5 = (0 : Int))) (
    brk (t2) (
     brk (t3) (
      some (true, (), (), (), (), t4, t5, t6, t7, ())) (
      some (decide (t7 = ([] : List Int)), (), (), (), (), t4, t5, t6, t7, ()))) (
     brk (decide (t6 = (0 : Int))) (
      brk (t3) (
       some (true, (), (), (), (), t4, t5, t6, t7, ())) (
       some (decide (t7 = ([] : List Int)), (), (), (), (), t4, t5, t6, t7, ()))) (
      some (false, (), (), (), (), t4, t5, t6, t7, ())))) (
    some (false, (), (), (), (), t4, t5, t6, t7, ())))) (
  brk (decide (t4 = (0 : Int))) (
   brk (t1) (
    brk (t2) (
     brk (t3) (
      some (true, (), (), (), (), t4, t5, t6, t7, ())) (
      some (decide (t7 = ([] : List Int)), (), (), (), (), t4, t5, t6, t7, ()))) (
     brk (decide (t6 = (0 : Int))) (
      brk (t3) (
       some (true, (), (), (), (), t4, t5, t6, t7, ())) (
       some (decide (t7 = ([] : List Int)), (), (), (), (), t4, t5, t6, t7, ()))) (
      some (false, (), (), (), (), t4, t5, t6, t7, ())))) (
    brk (decide (t5 = (0 : Int))) (
     brk (t2) (
      brk (t3) (
       some (true, (), (), (), (), t4, t5, t6, t7, ())) (
       some (decide (t7 = ([] : List Int)), (), (), (), (), t4, t5, t6, t7, ()))) (
      brk (decide (t6 = (0 : Int))) (
       brk (t3) (
        some (true, (), (), (), (), t4, t5, t6, t7, ())) (
        some (decide (t7 = ([] : List Int)), (), (), (), (), t4, t5, t6, t7, ()))) (
       some (false, (), (), (), (), t4, t5, t6, t7, ())))) (
     some (false, (), (), (), (), t4, t5, t6, t7, ())))) (
   some (false, (), (), (), (), t4, t5, t6, t7, ())))
  := eF Tryz.func189 (by kernel_rfl)
theorem impl_isExpr_eq (T : S.Tab) (t0 : Int) : impl_isExpr (S.step T) t0 =
 (impl_in T t0 (20 : Int) (37 : Int)).bind fun d4 =>
 some (d4.1, o_impl_isExpr)
  := eF Tryz.func188 (by kernel_rfl)
theorem impl_nodeOk_1_eq (T : S.Tab) (t0 : Int) (t1 : Int) (t2 : List Int) : impl_nodeOk_1 (S.step T) t0 t1 t2 =
 brk (bounds t2.length t0 t1) (
 (impl_nodeOk_1_l2 T t2 (sub t2 t0 t1) ((sub t2 t0 t1).length : Int) (0 : Int)).bind (out2
   (fun y2 =>
  some (y2.2.1, (), (), y2.1, ()))
   (fun y2 =>
  some (true, (), (), y2)))) none
  := eF Tryz.func187 (by kernel_rfl)
theorem impl_nodeOk_1_l2_eq (T : S.Tab) (t2 : List Int) (t11 : List Int) (t12 : Int) (t13 : Int) : impl_nodeOk_1_l2 (S.step T) t2 t11 t12 t13 =
 brk (decide (t13 < t12)) (
  brk (decide ((0 : Int) ≤ t13) && decide (t13 < (t11.length : Int))) (
  (impl_isExpr T (t11.getD t13.toNat 0)).bind fun d18 =>
  brk (!d18.1) (
   some (Sum.inl (t2, false, ()))) (
   impl_nodeOk_1_l2 T t2 t11 t12 (IntKind.i64.wrap (t13 + (1 : Int))))) none) (
  some (Sum.inr (Sum.inl (t2, ()))))
  := eL Tryz.func187 rfl (by kernel_rfl)
theorem impl_goodFloat_eq (T : S.Tab) (t0 : List Int) : impl_goodFloat (S.step T) t0 =
 brk (decide ((t0.length : Int) ≤ (40 : Int))) (
  (impl_only T t0 (3 : Int)).bind fun d8 =>
  some (d8.1, o_impl_goodFloat)) (
  some (false, o_impl_goodFloat))
  := eF Tryz.func192 (by kernel_rfl)
theorem impl_nodeOk_3_eq (T : S.Tab) (t0 : Int) (t1 : List Int) : impl_nodeOk_3 (S.step T) t0 t1 =
 brk (decide ((1 : Int) ≤ t0)) (
  brk (decide ((0 : Int) < (t1.length : Int))) (
  (impl_isExpr T (t1.getD 0 0)).bind fun d9 =>
  brk (d9.1) (
   brk (decide ((0 : Int) < (t1.length : Int))) (
   some (!decide (t1.getD 0 0 = (27 : Int)), t0, t1, ())) none) (
   some (false, t0, t1, ()))) none) (
  some (false, t0, t1, ()))
  := eF Tryz.func190 (by kernel_rfl)
theorem impl_nodeOk_eq (T : S.Tab) (t0 : List tyNode.den × Unit) (t1 : Int) : impl_nodeOk (S.step T) t0 t1 =
 brk (decide ((0 : Int) ≤ t1) && decide (t1 < (t0.1.length : Int))) (
 brk (decide (((at_ (τ := tyNode) t0.1 t1).2).1 < (0 : Int))) (
  some (false, o_impl_nodeOk)) (
  brk (decide ((((at_ (τ := tyNode) t0.1 t1).2).2).1 < ((at_ (τ := tyNode) t0.1 t1).2).1)) (
   some (false, o_impl_nodeOk)) (
   brk (decide (((((at_ (τ := tyNode) t0.1 t1).2).2).2).1 < (0 : Int))) (
    some (false, o_impl_nodeOk)) (
    brk (decide ((200 : Int) < (((((((((((at_ (τ := tyNode) t0.1 t1).2).2).2).2).2).2).2).2).1).length : Int))) (
     some (false, o_impl_nodeOk)) (
     brk (decide ((200 : Int) < ((((((((((at_ (τ := tyNode) t0.1 t1).2).2).2).2).2).2).2).1).length : Int))) (
      some (false, o_impl_nodeOk)) (
      (impl_nodeOk_l6 T t1 t0 (at_ (τ := tyNode) t0.1 t1) [] ((((((((((at_ (τ := tyNode) t0.1 t1).2).2).2).2).2).2).2).2).1) (((((((((((at_ (τ := tyNode) t0.1 t1).2).2).2).2).2).2).2).2).1).length : Int) (0 : Int)).bind (out2
        (fun y6 =>
       some (y6.1, o_impl_nodeOk))
        (fun y6 =>
       (impl_nodeOk_l13 T y6.1 y6.2.1 y6.1.2.2.2.2.2.2.2.1 (y6.1.2.2.2.2.2.2.2.1.length : Int) (0 : Int)).bind (out2
         (fun y13 =>
        some (y13.1, o_impl_nodeOk))
         (fun y13 =>
        brk (decide (y13.1.1 = (1 : Int))) (
         (impl_nodeOk_l26 T (y13.1.2.2.2.2.2.2.2.1.length : Int) y13.1.2.2.2.2.1 y13.1.2.2.2.2.2.1 y13.1.2.2.2.2.2.2.1 y13.2.1 (y13.2.1.length : Int) (0 : Int)).bind (out2
           (fun y26 =>
          some (y26.1, o_impl_nodeOk))
           (fun y26 =>
          (impl_nodeOk_2 T false false false false y26.1 y26.2.1 y26.2.2.1 y26.2.2.2.1).bind fun d119 =>
          some (d119.1, o_impl_nodeOk)))) (
         brk (decide (y13.1.1 = (2 : Int))) (
          (impl_nodeOk_2 T true false false false (y13.1.2.2.2.2.2.2.2.1.length : Int) y13.1.2.2.2.2.1 y13.1.2.2.2.2.2.1 y13.1.2.2.2.2.2.2.1).bind fun d123 =>
          brk (d123.1) (
           brk (decide ((1 : Int) ≤ d123.2.2.2.2.2.1)) (
            (impl_nodeOk_1 T (0 : Int) (y13.2.1.length : Int) y13.2.1).bind fun d131 =>
            some (d131.1, o_impl_nodeOk)) (
            some (false, o_impl_nodeOk))) (
           some (false, o_impl_nodeOk))) (
          brk (decide (y13.1.1 = (3 : Int))) (
           (impl_nodeOk_2 T true false false false (y13.1.2.2.2.2.2.2.2.1.length : Int) y13.1.2.2.2.2.1 y13.1.2.2.2.2.2.1 y13.1.2.2.2.2.2.2.1).bind fun d136 =>
           brk (d136.1) (
            brk (decide (d136.2.2.2.2.2.1 = (1 : Int))) (
             brk (decide ((y13.2.1.length : Int) = (1 : Int))) (
              (impl_nodeOk_1 T (0 : Int) (1 : Int) y13.2.1).bind fun d147 =>
              some (d147.1, o_impl_nodeOk)) (
              some (false, o_impl_nodeOk))) (
             some (false, o_impl_nodeOk))) (
            some (false, o_impl_nodeOk))) (
           brk (decide (y13.1.1 = (4 : Int))) (
            (impl_nodeOk_2 T true false false false (y13.1.2.2.2.2.2.2.2.1.length : Int) y13.1.2.2.2.2.1 y13.1.2.2.2.2.2.1 y13.1.2.2.2.2.2.2.1).bind fun d152 =>
            brk (d152.1) (
             brk (decide (d152.2.2.2.2.2.1 = (1 : Int))) (
              brk (decide ((y13.2.1.length : Int) = (1 : Int))) (
               brk (decide ((0 : Int) < (y13.2.1.length : Int))) (
               some (decide (y13.2.1.getD 0 0 = (36 : Int)), o_impl_nodeOk)) none) (
               some (false, o_impl_nodeOk))) (
              some (false, o_impl_nodeOk))) (
             some (false, o_impl_nodeOk))) (
            brk (decide (y13.1.1 = (5 : Int))) (
             (impl_nodeOk_2 T false false true false (y13.1.2.2.2.2.2.2.2.1.length : Int) y13.1.2.2.2.2.1 y13.1.2.2.2.2.2.1 y13.1.2.2.2.2.2.2.1).bind fun d170 =>
             brk (!d170.1) (
              some (false, o_impl_nodeOk)) (
              brk (decide (d170.2.2.2.2.2.2.2.1 < (1 : Int))) (
               some (false, o_impl_nodeOk)) (
               brk (decide (IntKind.i64.wrap ((y13.2.1.length : Int) - (1 : Int)) < d170.2.2.2.2.2.2.2.1)) (
                some (false, o_impl_nodeOk)) (
                brk (bounds y13.2.1.length (0 : Int) d170.2.2.2.2.2.2.2.1) (
                (impl_nodeOk_l42 T y13.2.1 d170.2.2.2.2.2.2.2.1 (y13.2.1.length : Int) (sub y13.2.1 (0 : Int) d170.2.2.2.2.2.2.2.1) ((sub y13.2.1 (0 : Int) d170.2.2.2.2.2.2.2.1).length : Int) (0 : Int)).bind (out2
                  (fun y42 =>
                 some (y42.1, o_impl_nodeOk))
                  (fun y42 =>
                 (impl_nodeOk_1 T y42.2.1 y42.2.2.1 y42.1).bind fun d204 =>
                 some (d204.1, o_impl_nodeOk)))) none)))) (
             brk (decide (y13.1.1 = (6 : Int))) (
              (impl_nodeOk_j50 T y13.2.1 (y13.1.2.2.2.2.2.2.2.1.length : Int) y13.1.2.2.2.2.1 y13.1.2.2.2.2.2.1 y13.1.2.2.2.2.2.2.1 (y13.2.1.length : Int) y13.1.1 (decide (y13.1.1 = (6 : Int)))).bind (out2
                (fun y50 =>
               some (y50.1, o_impl_nodeOk))
                (fun y50 =>
               some (false, o_impl_nodeOk)))) (
              (impl_nodeOk_j50 T y13.2.1 (y13.1.2.2.2.2.2.2.2.1.length : Int) y13.1.2.2.2.2.1 y13.1.2.2.2.2.2.1 y13.1.2.2.2.2.2.2.1 (y13.2.1.length : Int) y13.1.1 (decide (y13.1.1 = (16 : Int)))).bind (out2
                (fun y50 =>
               some (y50.1, o_impl_nodeOk))
                (fun y50 =>
               some (false, o_impl_nodeOk))))))))))))))))))) none
  := eF Tryz.func119 (by kernel_rfl)
theorem impl_nodeOk_j50_eq (T : S.Tab) (t6 : List Int) (t11 : Int) (t12 : Int) (t13 : Int) (t14 : List Int) (t16 : Int) (t105 : Int) (t205 : Bool) : impl_nodeOk_j50 (S.step T) t6 t11 t12 t13 t14 t16 t105 t205 =
 brk (t205) (
  (impl_nodeOk_2 T false false false false t11 t12 t13 t14).bind fun d209 =>
  brk (d209.1) (
   brk (decide (t16 = (1 : Int))) (
    brk (decide ((0 : Int) < (t6.length : Int))) (
    some (Sum.inl (decide (t6.getD 0 0 = (34 : Int)), ()))) none) (
    some (Sum.inl (false, ())))) (
   some (Sum.inl (false, ())))) (
  brk (decide (t105 = (7 : Int))) (
   (impl_nodeOk_2 T false false false false t11 t12 t13 t14).bind fun d223 =>
   brk (d223.1) (
    brk (decide (t16 = (2 : Int))) (
     (impl_nodeOk_1 T (0 : Int) (1 : Int) t6).bind fun d234 =>
     brk (d234.1) (
      brk (decide ((1 : Int) < (d234.2.2.2.1.length : Int))) (
      brk (decide (d234.2.2.2.1.getD 1 0 = (1 : Int))) (
       brk (decide (t16 = (2 : Int))) (
        some (Sum.inl (true, ()))) (
        brk (decide ((2 : Int) < (d234.2.2.2.1.length : Int))) (
        brk (decide (d234.2.2.2.1.getD 2 0 = (1 : Int))) (
         some (Sum.inl (true, ()))) (
         brk (decide ((2 : Int) < (d234.2.2.2.1.length : Int))) (
         some (Sum.inl (decide (d234.2.2.2.1.getD 2 0 = (7 : Int)), ()))) none)) none)) (
       some (Sum.inl (false, ())))) none) (
      some (Sum.inl (false, ())))) (
     brk (decide (t16 = (3 : Int))) (
      (impl_nodeOk_1 T (0 : Int) (1 : Int) t6).bind fun d234 =>
      brk (d234.1) (
       brk (decide ((1 : Int) < (d234.2.2.2.1.length : Int))) (
       brk (decide (d234.2.2.2.1.getD 1 0 = (1 : Int))) (
        brk (decide (t16 = (2 : Int))) (
         some (Sum.inl (true, ()))) (
         brk (decide ((2 : Int) < (d234.2.2.2.1.length : Int))) (
         brk (decide (d234.2.2.2.1.getD 2 0 = (1 : Int))) (
          some (Sum.inl (true, ()))) (
          brk (decide ((2 : Int) < (d234.2.2.2.1.length : Int))) (
          some (Sum.inl (decide (d234.2.2.2.1.getD 2 0 = (7 : Int)), ()))) none)) none)) (
        some (Sum.inl (false, ())))) none) (
       some (Sum.inl (false, ())))) (
      some (Sum.inl (false, ()))))) (
    some (Sum.inl (false, ())))) (
   brk (decide (t105 = (8 : Int))) (
    (impl_nodeOk_2 T false false false false t11 t12 t13 t14).bind fun d261 =>
    brk (d261.1) (
     brk (decide (t16 = (2 : Int))) (
      (impl_nodeOk_1 T (0 : Int) (1 : Int) t6).bind fun d268 =>
      brk (d268.1) (
       brk (decide ((1 : Int) < (d268.2.2.2.1.length : Int))) (
       some (Sum.inl (decide (d268.2.2.2.1.getD 1 0 = (1 : Int)), ()))) none) (
       some (Sum.inl (false, ())))) (
      some (Sum.inl (false, ())))) (
     some (Sum.inl (false, ())))) (
    brk (decide (t105 = (9 : Int))) (
     (impl_nodeOk_2 T true false false false t11 t12 t13 t14).bind fun d279 =>
     brk (d279.1) (
      brk (decide (d279.2.2.2.2.2.1 = (1 : Int))) (
       brk (decide (t16 = (3 : Int))) (
        (impl_nodeOk_1 T (0 : Int) (IntKind.i64.wrap (t16 - (1 : Int))) t6).bind fun d296 =>
        brk (d296.1) (
         brk (decide ((0 : Int) ≤ IntKind.i64.wrap (t16 - (1 : Int))) && decide (IntKind.i64.wrap (t16 - (1 : Int)) < (d296.2.2.2.1.length : Int))) (
         some (Sum.inl (decide (d296.2.2.2.1.getD ((IntKind.i64.wrap (t16 - (1 : Int))).toNat) 0 = (1 : Int)), ()))) none) (
         some (Sum.inl (false, ())))) (
        brk (decide (t16 = (4 : Int))) (
         (impl_nodeOk_1 T (0 : Int) (IntKind.i64.wrap (t16 - (1 : Int))) t6).bind fun d296 =>
         brk (d296.1) (
          brk (decide ((0 : Int) ≤ IntKind.i64.wrap (t16 - (1 : Int))) && decide (IntKind.i64.wrap (t16 - (1 : Int)) < (d296.2.2.2.1.length : Int))) (
          some (Sum.inl (decide (d296.2.2.2.1.getD ((IntKind.i64.wrap (t16 - (1 : Int))).toNat) 0 = (1 : Int)), ()))) none) (
          some (Sum.inl (false, ())))) (
         some (Sum.inl (false, ()))))) (
       some (Sum.inl (false, ())))) (
      some (Sum.inl (false, ())))) (
     brk (decide (t105 = (10 : Int))) (
      (impl_nodeOk_2 T true false false false t11 t12 t13 t14).bind fun d309 =>
      brk (d309.1) (
       brk (decide ((1 : Int) ≤ d309.2.2.2.2.2.1)) (
        brk (decide (t16 = (2 : Int))) (
         (impl_nodeOk_1 T (0 : Int) (1 : Int) t6).bind fun d320 =>
         brk (d320.1) (
          brk (decide ((1 : Int) < (d320.2.2.2.1.length : Int))) (
          some (Sum.inl (decide (d320.2.2.2.1.getD 1 0 = (1 : Int)), ()))) none) (
          some (Sum.inl (false, ())))) (
         some (Sum.inl (false, ())))) (
        some (Sum.inl (false, ())))) (
       some (Sum.inl (false, ())))) (
      brk (decide (t105 = (11 : Int))) (
       (impl_nodeOk_j65 T t6 t11 t12 t13 t14 t16 t105 (decide (t105 = (11 : Int)))).bind (out2
         (fun y65 =>
        some (Sum.inl y65))
         (fun y65 =>
        some (Sum.inr (Sum.inl ()))))) (
       brk (decide (t105 = (12 : Int))) (
        (impl_nodeOk_j65 T t6 t11 t12 t13 t14 t16 t105 (decide (t105 = (12 : Int)))).bind (out2
          (fun y65 =>
         some (Sum.inl y65))
          (fun y65 =>
         some (Sum.inr (Sum.inl ()))))) (
        brk (decide (t105 = (20 : Int))) (
         (impl_nodeOk_j65 T t6 t11 t12 t13 t14 t16 t105 (decide (t105 = (20 : Int)))).bind (out2
           (fun y65 =>
          some (Sum.inl y65))
           (fun y65 =>
          some (Sum.inr (Sum.inl ()))))) (
         brk (decide (t105 = (21 : Int))) (
          (impl_nodeOk_j65 T t6 t11 t12 t13 t14 t16 t105 (decide (t105 = (21 : Int)))).bind (out2
            (fun y65 =>
           some (Sum.inl y65))
            (fun y65 =>
           some (Sum.inr (Sum.inl ()))))) (
          brk (decide (t105 = (22 : Int))) (
           (impl_nodeOk_j65 T t6 t11 t12 t13 t14 t16 t105 (decide (t105 = (22 : Int)))).bind (out2
             (fun y65 =>
            some (Sum.inl y65))
             (fun y65 =>
            some (Sum.inr (Sum.inl ()))))) (
           (impl_nodeOk_j65 T t6 t11 t12 t13 t14 t16 t105 (decide (t105 = (27 : Int)))).bind (out2
             (fun y65 =>
            some (Sum.inl y65))
             (fun y65 =>
            some (Sum.inr (Sum.inl ()))))))))))))))
  := eJ Tryz.func119 rfl (by kernel_rfl)
theorem impl_nodeOk_j65_eq (T : S.Tab) (t6 : List Int) (t11 : Int) (t12 : Int) (t13 : Int) (t14 : List Int) (t16 : Int) (t105 : Int) (t328 : Bool) : impl_nodeOk_j65 (S.step T) t6 t11 t12 t13 t14 t16 t105 t328 =
 brk (t328) (
  (impl_nodeOk_2 T false false false false t11 t12 t13 t14).bind fun d336 =>
  brk (d336.1) (
   some (Sum.inl (decide (t16 = (0 : Int)), ()))) (
   some (Sum.inl (false, ())))) (
  brk (decide (t105 = (13 : Int))) (
   (impl_nodeOk_2 T false false false false t11 t12 t13 t14).bind fun d344 =>
   brk (d344.1) (
    (impl_nodeOk_1 T (0 : Int) t16 t6).bind fun d348 =>
    some (Sum.inl (d348.1, ()))) (
    some (Sum.inl (false, ())))) (
   brk (decide (t105 = (14 : Int))) (
    (impl_nodeOk_2 T true false false false t11 t12 t13 t14).bind fun d353 =>
    brk (d353.1) (
     brk (decide (d353.2.2.2.2.2.1 = (1 : Int))) (
      brk (decide (t16 = (2 : Int))) (
       brk (decide ((0 : Int) < (t6.length : Int))) (
       brk (decide (t6.getD 0 0 = (1 : Int))) (
        brk (decide ((1 : Int) < (t6.length : Int))) (
        some (Sum.inl (decide (t6.getD 1 0 = (1 : Int)), ()))) none) (
        some (Sum.inl (false, ())))) none) (
       some (Sum.inl (false, ())))) (
      brk (decide (d353.2.2.2.2.2.1 = (2 : Int))) (
       brk (decide (t16 = (2 : Int))) (
        brk (decide ((0 : Int) < (t6.length : Int))) (
        brk (decide (t6.getD 0 0 = (1 : Int))) (
         brk (decide ((1 : Int) < (t6.length : Int))) (
         some (Sum.inl (decide (t6.getD 1 0 = (1 : Int)), ()))) none) (
         some (Sum.inl (false, ())))) none) (
        some (Sum.inl (false, ())))) (
       some (Sum.inl (false, ()))))) (
     some (Sum.inl (false, ())))) (
    brk (decide (t105 = (15 : Int))) (
     (impl_nodeOk_j72 T t6 t11 t12 t13 t14 t16 t105 (decide (t105 = (15 : Int)))).bind (out2
       (fun y72 =>
      some (Sum.inl y72))
       (fun y72 =>
      some (Sum.inr (Sum.inl ()))))) (
     (impl_nodeOk_j72 T t6 t11 t12 t13 t14 t16 t105 (decide (t105 = (40 : Int)))).bind (out2
       (fun y72 =>
      some (Sum.inl y72))
       (fun y72 =>
      some (Sum.inr (Sum.inl ()))))))))
  := eJ Tryz.func119 rfl (by kernel_rfl)
theorem impl_nodeOk_j72_eq (T : S.Tab) (t6 : List Int) (t11 : Int) (t12 : Int) (t13 : Int) (t14 : List Int) (t16 : Int) (t105 : Int) (t378 : Bool) : impl_nodeOk_j72 (S.step T) t6 t11 t12 t13 t14 t16 t105 t378 =
 brk (t378) (
  (impl_nodeOk_2 T false false false false t11 t12 t13 t14).bind fun d382 =>
  brk (d382.1) (
   brk (decide (t16 = (1 : Int))) (
    (impl_nodeOk_1 T (0 : Int) (1 : Int) t6).bind fun d389 =>
    some (Sum.inl (d389.1, ()))) (
    some (Sum.inl (false, ())))) (
   some (Sum.inl (false, ())))) (
  brk (decide (t105 = (23 : Int))) (
   (impl_nodeOk_2 T false false true false t11 t12 t13 t14).bind fun d394 =>
   brk (d394.1) (
    some (Sum.inl (decide (t16 = (0 : Int)), ()))) (
    some (Sum.inl (false, ())))) (
   brk (decide (t105 = (24 : Int))) (
    (impl_nodeOk_2 T false false false true t11 t12 t13 t14).bind fun d402 =>
    brk (d402.1) (
     brk (decide (t16 = (0 : Int))) (
      (impl_goodFloat T d402.2.2.2.2.2.2.2.2.1).bind fun d409 =>
      some (Sum.inl (d409.1, ()))) (
      some (Sum.inl (false, ())))) (
     some (Sum.inl (false, ())))) (
    brk (decide (t105 = (25 : Int))) (
     (impl_nodeOk_2 T false false false true t11 t12 t13 t14).bind fun d414 =>
     brk (d414.1) (
      brk (decide (t16 = (0 : Int))) (
       some (Sum.inl (decide ((d414.2.2.2.2.2.2.2.2.1.length : Int) ≤ (4000 : Int)), ()))) (
       some (Sum.inl (false, ())))) (
      some (Sum.inl (false, ())))) (
     brk (decide (t105 = (26 : Int))) (
      (impl_nodeOk_2 T false false false true t11 t12 t13 t14).bind fun d427 =>
      brk (d427.1) (
       brk (decide (t16 = (0 : Int))) (
        (impl_goodName T d427.2.2.2.2.2.2.2.2.1).bind fun d434 =>
        some (Sum.inl (d434.1, ()))) (
        some (Sum.inl (false, ())))) (
       some (Sum.inl (false, ())))) (
      brk (decide (t105 = (28 : Int))) (
       (impl_nodeOk_j84 T t6 t11 t12 t13 t14 t16 t105 (decide (t105 = (28 : Int)))).bind (out2
         (fun y84 =>
        some (Sum.inl y84))
         (fun y84 =>
        some (Sum.inr (Sum.inl ()))))) (
       brk (decide (t105 = (29 : Int))) (
        (impl_nodeOk_j84 T t6 t11 t12 t13 t14 t16 t105 (decide (t105 = (29 : Int)))).bind (out2
          (fun y84 =>
         some (Sum.inl y84))
          (fun y84 =>
         some (Sum.inr (Sum.inl ()))))) (
        (impl_nodeOk_j84 T t6 t11 t12 t13 t14 t16 t105 (decide (t105 = (41 : Int)))).bind (out2
          (fun y84 =>
         some (Sum.inl y84))
          (fun y84 =>
         some (Sum.inr (Sum.inl ())))))))))))
  := eJ Tryz.func119 rfl (by kernel_rfl)
theorem impl_nodeOk_j84_eq (T : S.Tab) (t6 : List Int) (t11 : Int) (t12 : Int) (t13 : Int) (t14 : List Int) (t16 : Int) (t105 : Int) (t436 : Bool) : impl_nodeOk_j84 (S.step T) t6 t11 t12 t13 t14 t16 t105 t436 =
 brk (t436) (
  (impl_nodeOk_2 T false false false false t11 t12 t13 t14).bind fun d441 =>
  brk (d441.1) (
   brk (decide (t16 = (2 : Int))) (
    (impl_nodeOk_1 T (0 : Int) (2 : Int) t6).bind fun d448 =>
    some (Sum.inl (d448.1, ()))) (
    some (Sum.inl (false, ())))) (
   some (Sum.inl (false, ())))) (
  brk (decide (t105 = (30 : Int))) (
   (impl_nodeOk_2 T false true false false t11 t12 t13 t14).bind fun d453 =>
   brk (d453.1) (
    (impl_in T d453.2.2.2.2.2.2.1 (19 : Int) (22 : Int)).bind fun d456 =>
    brk (d456.1) (
     brk (decide (t16 = (1 : Int))) (
      (impl_nodeOk_1 T (0 : Int) (1 : Int) t6).bind fun d464 =>
      some (Sum.inl (d464.1, ()))) (
      some (Sum.inl (false, ())))) (
     some (Sum.inl (false, ())))) (
    some (Sum.inl (false, ())))) (
   brk (decide (t105 = (31 : Int))) (
    (impl_nodeOk_2 T false true false false t11 t12 t13 t14).bind fun d469 =>
    brk (d469.1) (
     (impl_in T d469.2.2.2.2.2.2.1 (1 : Int) (18 : Int)).bind fun d472 =>
     brk (d472.1) (
      brk (decide (t16 = (2 : Int))) (
       (impl_nodeOk_1 T (0 : Int) (2 : Int) t6).bind fun d480 =>
       some (Sum.inl (d480.1, ()))) (
       some (Sum.inl (false, ())))) (
      some (Sum.inl (false, ())))) (
     some (Sum.inl (false, ())))) (
    brk (decide (t105 = (32 : Int))) (
     (impl_nodeOk_2 T false false false false t11 t12 t13 t14).bind fun d485 =>
     brk (d485.1) (
      brk (decide (t16 = (2 : Int))) (
       (impl_nodeOk_3 T t16 t6).bind fun d492 =>
       brk (d492.1) (
        (impl_nodeOk_1 T (0 : Int) (2 : Int) d492.2.2.1).bind fun d496 =>
        some (Sum.inl (d496.1, ()))) (
        some (Sum.inl (false, ())))) (
       some (Sum.inl (false, ())))) (
      some (Sum.inl (false, ())))) (
     brk (decide (t105 = (33 : Int))) (
      (impl_nodeOk_2 T false false false true t11 t12 t13 t14).bind fun d501 =>
      brk (d501.1) (
       brk (decide (t16 = (1 : Int))) (
        (impl_nodeOk_3 T t16 t6).bind fun d508 =>
        brk (d508.1) (
         (impl_goodName T d501.2.2.2.2.2.2.2.2.1).bind fun d512 =>
         some (Sum.inl (d512.1, ()))) (
         some (Sum.inl (false, ())))) (
        some (Sum.inl (false, ())))) (
       some (Sum.inl (false, ())))) (
      brk (decide (t105 = (34 : Int))) (
       (impl_nodeOk_2 T false false false false t11 t12 t13 t14).bind fun d517 =>
       brk (d517.1) (
        (impl_nodeOk_3 T t16 t6).bind fun d520 =>
        brk (d520.1) (
         (impl_nodeOk_1 T (0 : Int) d520.2.1 d520.2.2.1).bind fun d525 =>
         some (Sum.inl (d525.1, ()))) (
         some (Sum.inl (false, ())))) (
        some (Sum.inl (false, ())))) (
       brk (decide (t105 = (35 : Int))) (
        (impl_nodeOk_l97 T t11 t12 t13 t14 t6 (t6.length : Int) (0 : Int)).bind (out2
          (fun y97 =>
         some (Sum.inl y97))
          (fun y97 =>
         (impl_nodeOk_2 T false false false false y97.1 y97.2.1 y97.2.2.1 y97.2.2.2.1).bind fun d540 =>
         some (Sum.inl (d540.1, ()))))) (
        brk (decide (t105 = (36 : Int))) (
         (impl_nodeOk_2 T true true false false t11 t12 t13 t14).bind fun d544 =>
         brk (d544.1) (
          (impl_in T d544.2.2.2.2.2.2.1 (0 : Int) (1 : Int)).bind fun d547 =>
          brk (d547.1) (
           brk (decide (t16 = (1 : Int))) (
            brk (decide ((0 : Int) < (t6.length : Int))) (
            some (Sum.inl (decide (t6.getD 0 0 = (1 : Int)), ()))) none) (
            some (Sum.inl (false, ())))) (
           some (Sum.inl (false, ())))) (
          some (Sum.inl (false, ())))) (
         brk (decide (t105 = (37 : Int))) (
          (impl_nodeOk_2 T false false false false t11 t12 t13 t14).bind fun d562 =>
          brk (d562.1) (
           brk (decide (t16 = (1 : Int))) (
            brk (decide ((0 : Int) < (t6.length : Int))) (
            brk (decide (t6.getD 0 0 = (34 : Int))) (
             some (Sum.inl (true, ()))) (
             brk (decide ((0 : Int) < (t6.length : Int))) (
             some (Sum.inl (decide (t6.getD 0 0 = (27 : Int)), ()))) none)) none) (
            some (Sum.inl (false, ())))) (
           some (Sum.inl (false, ())))) (
          brk (decide (t105 = (42 : Int))) (
           (impl_nodeOk_2 T false false false true t11 t12 t13 t14).bind fun d582 =>
           brk (d582.1) (
            brk (decide (t16 = (1 : Int))) (
             (impl_nodeOk_1 T (0 : Int) (1 : Int) t6).bind fun d589 =>
             brk (d589.1) (
              (impl_goodName T d582.2.2.2.2.2.2.2.2.1).bind fun d593 =>
              some (Sum.inl (d593.1, ()))) (
              some (Sum.inl (false, ())))) (
             some (Sum.inl (false, ())))) (
            some (Sum.inl (false, ())))) (
           some (Sum.inr (Sum.inl ()))))))))))))
  := eJ Tryz.func119 rfl (by kernel_rfl)
theorem impl_nodeOk_l6_eq (T : S.Tab) (t1 : Int) (t2 : List tyNode.den × Unit) (t5 : tyNode.den) (t6 : List Int) (t58 : List Int) (t59 : Int) (t60 : Int) : impl_nodeOk_l6 (S.step T) t1 t2 t5 t6 t58 t59 t60 =
 brk (decide (t60 < t59)) (
  brk (decide ((0 : Int) ≤ t60) && decide (t60 < (t58.length : Int))) (
  (impl_in T (t58.getD t60.toNat 0) (0 : Int) (IntKind.i64.wrap (t1 - (1 : Int)))).bind fun d67 =>
  brk (!d67.1) (
   some (Sum.inl (false, ()))) (
   brk (decide ((0 : Int) ≤ t58.getD t60.toNat 0) && decide (t58.getD t60.toNat 0 < (t2.1.length : Int))) (
   brk (fits (t6.length + ([(at_ (τ := tyNode) t2.1 (t58.getD t60.toNat 0)).1] : List Int).length)) (
   impl_nodeOk_l6 T t1 t2 t5 (t6 ++ ([(at_ (τ := tyNode) t2.1 (t58.getD t60.toNat 0)).1] : List Int)) t58 t59 (IntKind.i64.wrap (t60 + (1 : Int)))) none) none)) none) (
  some (Sum.inr (Sum.inl (t5, t6, ()))))
  := eL Tryz.func119 rfl (by kernel_rfl)
theorem impl_nodeOk_l13_eq (T : S.Tab) (t5 : tyNode.den) (t6 : List Int) (t80 : List (List Int)) (t81 : Int) (t82 : Int) : impl_nodeOk_l13 (S.step T) t5 t6 t80 t81 t82 =
 brk (decide (t82 < t81)) (
  brk (decide ((0 : Int) ≤ t82) && decide (t82 < (t80.length : Int))) (
  (impl_goodName T (t80.getD t82.toNat [])).bind fun d87 =>
  brk (!d87.1) (
   some (Sum.inl (false, ()))) (
   impl_nodeOk_l13 T t5 t6 t80 t81 (IntKind.i64.wrap (t82 + (1 : Int))))) none) (
  some (Sum.inr (Sum.inl (t5, t6, ()))))
  := eL Tryz.func119 rfl (by kernel_rfl)
theorem impl_nodeOk_l26_eq (T : S.Tab) (t11 : Int) (t12 : Int) (t13 : Int) (t14 : List Int) (t108 : List Int) (t109 : Int) (t110 : Int) : impl_nodeOk_l26 (S.step T) t11 t12 t13 t14 t108 t109 t110 =
 brk (decide (t110 < t109)) (
  brk (decide ((0 : Int) ≤ t110) && decide (t110 < (t108.length : Int))) (
  (impl_isStat T (t108.getD t110.toNat 0)).bind fun d115 =>
  brk (!d115.1) (
   some (Sum.inl (false, ()))) (
   impl_nodeOk_l26 T t11 t12 t13 t14 t108 t109 (IntKind.i64.wrap (t110 + (1 : Int))))) none) (
  some (Sum.inr (Sum.inl (t11, t12, t13, t14, ()))))
  := eL Tryz.func119 rfl (by kernel_rfl)
theorem impl_nodeOk_l42_eq (T : S.Tab) (t6 : List Int) (t13 : Int) (t16 : Int) (t184 : List Int) (t185 : Int) (t186 : Int) : impl_nodeOk_l42 (S.step T) t6 t13 t16 t184 t185 t186 =
 brk (decide (t186 < t185)) (
  brk (decide ((0 : Int) ≤ t186) && decide (t186 < (t184.length : Int))) (
  brk (!decide (t184.getD t186.toNat 0 = (26 : Int))) (
   brk (!decide (t184.getD t186.toNat 0 = (32 : Int))) (
    brk (!decide (t184.getD t186.toNat 0 = (33 : Int))) (
     some (Sum.inl (false, ()))) (
     impl_nodeOk_l42 T t6 t13 t16 t184 t185 (IntKind.i64.wrap (t186 + (1 : Int))))) (
    impl_nodeOk_l42 T t6 t13 t16 t184 t185 (IntKind.i64.wrap (t186 + (1 : Int))))) (
   impl_nodeOk_l42 T t6 t13 t16 t184 t185 (IntKind.i64.wrap (t186 + (1 : Int))))) none) (
  some (Sum.inr (Sum.inl (t6, t13, t16, ()))))
  := eL Tryz.func119 rfl (by kernel_rfl)
theorem impl_nodeOk_l97_eq (T : S.Tab) (t11 : Int) (t12 : Int) (t13 : Int) (t14 : List Int) (t529 : List Int) (t530 : Int) (t531 : Int) : impl_nodeOk_l97 (S.step T) t11 t12 t13 t14 t529 t530 t531 =
 brk (decide (t531 < t530)) (
  brk (decide ((0 : Int) ≤ t531) && decide (t531 < (t529.length : Int))) (
  (impl_in T (t529.getD t531.toNat 0) (40 : Int) (42 : Int)).bind fun d536 =>
  brk (!d536.1) (
   some (Sum.inl (false, ()))) (
   impl_nodeOk_l97 T t11 t12 t13 t14 t529 t530 (IntKind.i64.wrap (t531 + (1 : Int))))) none) (
  some (Sum.inr (Sum.inl (t11, t12, t13, t14, ()))))
  := eL Tryz.func119 rfl (by kernel_rfl)
theorem impl_TreeOk_eq (T : S.Tab) (t0 : List tyNode.den × Unit) : impl_TreeOk (S.step T) t0 =
 brk (decide ((t0.1.length : Int) = (0 : Int))) (
  some (((1 : Int), (0 : Int), ()), o_impl_TreeOk)) (
  brk (decide ((3000 : Int) < (t0.1.length : Int))) (
   some (((1 : Int), (0 : Int), ()), o_impl_TreeOk)) (
   brk (decide ((0 : Int) ≤ IntKind.i64.wrap ((t0.1.length : Int) - (1 : Int))) && decide (IntKind.i64.wrap ((t0.1.length : Int) - (1 : Int)) < (t0.1.length : Int))) (
   brk (!decide ((at_ (τ := tyNode) t0.1 (IntKind.i64.wrap ((t0.1.length : Int) - (1 : Int)))).1 = (1 : Int))) (
    some (((1 : Int), (0 : Int), ()), o_impl_TreeOk)) (
    (impl_TreeOk_l5 T t0 ((0 : Int), (0 : Int), ()) (t0.1.length : Int) (t0.1.length : Int) (0 : Int)).bind (out2
      (fun y5 =>
     some (y5.1, o_impl_TreeOk))
      (fun y5 =>
     brk (((decide ((0 : Int) ≤ y5.2.2.1)) && (decide (y5.2.2.1 ≤ y5.2.2.1))) && (decide (y5.2.2.1 ≤ lim))) (
     (impl_TreeOk_l12 T y5.1 y5.2.1 y5.2.2.1 (List.replicate y5.2.2.1.toNat (0 : Int)) y5.1.1 (y5.1.1.length : Int) (0 : Int)).bind (out2
       (fun y12 =>
      some (y12.1, o_impl_TreeOk))
       (fun y12 =>
      brk (((decide ((0 : Int) ≤ y12.2.2.1)) && (decide (y12.2.2.1 ≤ y12.2.2.1))) && (decide (y12.2.2.1 ≤ lim))) (
      (impl_TreeOk_l27 T y12.1 y12.2.1 (List.replicate y12.2.2.1.toNat (0 : Int)) (IntKind.i64.wrap (y12.2.2.1 - (1 : Int)))).bind (out1
        (fun y27 =>
       (impl_TreeOk_l35 T y27.1 y27.2.1 (y27.2.1.length : Int) (0 : Int)).bind (out2
         (fun y35 =>
        some (y35.1, o_impl_TreeOk))
         (fun y35 =>
        some (((0 : Int), (0 : Int), ()), o_impl_TreeOk)))))) none))) none)))) none))
  := eF Tryz.func74 (by kernel_rfl)
theorem impl_TreeOk_l5_eq (T : S.Tab) (t1 : List tyNode.den × Unit) (t2 : Int × Int × Unit) (t3 : Int) (t37 : Int) (t38 : Int) : impl_TreeOk_l5 (S.step T) t1 t2 t3 t37 t38 =
 brk (decide (t38 < t37)) (
  (impl_nodeOk T t1 t38).bind fun d43 =>
  brk (!d43.1) (
   some (Sum.inl (((2 : Int), t38, ()), ()))) (
   impl_TreeOk_l5 T t1 t2 t3 t37 (IntKind.i64.wrap (t38 + (1 : Int))))) (
  some (Sum.inr (Sum.inl (t1, t2, t3, ()))))
  := eL Tryz.func74 rfl (by kernel_rfl)
theorem impl_TreeOk_l12_eq (T : S.Tab) (t1 : List tyNode.den × Unit) (t2 : Int × Int × Unit) (t3 : Int) (t5 : List Int) (t51 : List tyNode.den) (t52 : Int) (t53 : Int) : impl_TreeOk_l12 (S.step T) t1 t2 t3 t5 t51 t52 t53 =
 brk (decide (t53 < t52)) (
  brk (decide ((0 : Int) ≤ t53) && decide (t53 < (t51.length : Int))) (
  (impl_TreeOk_l16 T t1 t2 t3 t5 t53 (at_ (τ := tyNode) t51 t53) t53 (IntKind.i64.wrap ((((((((((((at_ (τ := tyNode) t51 t53).2).2).2).2).2).2).2).2).1).length : Int) - (1 : Int))) t51 t52 t53).bind (out2
    (fun y16 =>
   some (Sum.inl y16))
    (fun y16 =>
   brk (decide ((0 : Int) ≤ y16.2.2.2.2.1) && decide (y16.2.2.2.2.1 < (y16.2.2.2.1.length : Int))) (
   brk (decide (y16.2.2.2.2.1 = IntKind.i64.wrap (y16.2.2.1 - (1 : Int)))) (
    brk (!decide (y16.2.2.2.2.2.1 = (0 : Int))) (
     some (Sum.inl (((3 : Int), y16.2.2.2.2.1, ()), ()))) (
     impl_TreeOk_l12 T y16.1 y16.2.1 y16.2.2.1 (y16.2.2.2.1.set y16.2.2.2.2.1.toNat y16.2.2.2.2.2.1) y16.2.2.2.2.2.2.1 y16.2.2.2.2.2.2.2.1 (IntKind.i64.wrap (y16.2.2.2.2.2.2.2.2.1 + (1 : Int))))) (
    impl_TreeOk_l12 T y16.1 y16.2.1 y16.2.2.1 (y16.2.2.2.1.set y16.2.2.2.2.1.toNat y16.2.2.2.2.2.1) y16.2.2.2.2.2.2.1 y16.2.2.2.2.2.2.2.1 (IntKind.i64.wrap (y16.2.2.2.2.2.2.2.2.1 + (1 : Int))))) none))) none) (
  some (Sum.inr (Sum.inl (t1, t2, t3, ()))))
  := eL Tryz.func74 rfl (by kernel_rfl)
theorem impl_TreeOk_l16_eq (T : S.Tab) (t1 : List tyNode.den × Unit) (t2 : Int × Int × Unit) (t3 : Int) (t5 : List Int) (t6 : Int) (t7 : tyNode.den) (t8 : Int) (t9 : Int) (t51 : List tyNode.den) (t52 : Int) (t53 : Int) : impl_TreeOk_l16 (S.step T) t1 t2 t3 t5 t6 t7 t8 t9 t51 t52 t53 =
 brk (decide ((0 : Int) ≤ t9)) (
  brk (decide ((0 : Int) ≤ t9) && decide (t9 < (t7.2.2.2.2.2.2.2.2.1.length : Int))) (
  brk (!decide (t7.2.2.2.2.2.2.2.2.1.getD t9.toNat 0 = IntKind.i64.wrap (t8 - (1 : Int)))) (
   some (Sum.inl (((3 : Int), t6, ()), ()))) (
   brk (decide ((0 : Int) ≤ t9) && decide (t9 < (t7.2.2.2.2.2.2.2.2.1.length : Int))) (
   brk (decide ((0 : Int) ≤ t7.2.2.2.2.2.2.2.2.1.getD t9.toNat 0) && decide (t7.2.2.2.2.2.2.2.2.1.getD t9.toNat 0 < (t5.length : Int))) (
   impl_TreeOk_l16 T t1 t2 t3 t5 t6 t7 (t5.getD ((t7.2.2.2.2.2.2.2.2.1.getD t9.toNat 0).toNat) 0) (IntKind.i64.wrap (t9 - (1 : Int))) t51 t52 t53) none) none)) none) (
  some (Sum.inr (Sum.inl (t1, t2, t3, t5, t6, t8, t51, t52, t53, ()))))
  := eL Tryz.func74 rfl (by kernel_rfl)
theorem impl_TreeOk_l27_eq (T : S.Tab) (t1 : List tyNode.den × Unit) (t2 : Int × Int × Unit) (t10 : List Int) (t11 : Int) : impl_TreeOk_l27 (S.step T) t1 t2 t10 t11 =
 brk (decide ((0 : Int) ≤ t11)) (
  brk (decide ((0 : Int) ≤ t11) && decide (t11 < (t1.1.length : Int))) (
  (impl_TreeOk_l30 T t1 t2 t10 t11 ((((((((((at_ (τ := tyNode) t1.1 t11).2).2).2).2).2).2).2).2).1) (((((((((((at_ (τ := tyNode) t1.1 t11).2).2).2).2).2).2).2).2).1).length : Int) (0 : Int)).bind (out1
    (fun y30 =>
   impl_TreeOk_l27 T y30.1 y30.2.1 y30.2.2.1 (IntKind.i64.wrap (y30.2.2.2.1 - (1 : Int)))))) none) (
  some (Sum.inl (t2, t10, ())))
  := eL Tryz.func74 rfl (by kernel_rfl)
theorem impl_TreeOk_l30_eq (T : S.Tab) (t1 : List tyNode.den × Unit) (t2 : Int × Int × Unit) (t10 : List Int) (t11 : Int) (t113 : List Int) (t114 : Int) (t115 : Int) : impl_TreeOk_l30 (S.step T) t1 t2 t10 t11 t113 t114 t115 =
 brk (decide (t115 < t114)) (
  brk (decide ((0 : Int) ≤ t115) && decide (t115 < (t113.length : Int))) (
  brk (decide ((0 : Int) ≤ t11) && decide (t11 < (t10.length : Int))) (
  brk (decide ((0 : Int) ≤ t113.getD t115.toNat 0) && decide (t113.getD t115.toNat 0 < (t10.length : Int))) (
  impl_TreeOk_l30 T t1 t2 (t10.set ((t113.getD t115.toNat 0).toNat) (IntKind.i64.wrap ((t10.getD t11.toNat 0) + (1 : Int)))) t11 t113 t114 (IntKind.i64.wrap (t115 + (1 : Int)))) none) none) none) (
  some (Sum.inl (t1, t2, t10, t11, ())))
  := eL Tryz.func74 rfl (by kernel_rfl)
theorem impl_TreeOk_l35_eq (T : S.Tab) (t2 : Int × Int × Unit) (t10 : List Int) (t129 : Int) (t130 : Int) : impl_TreeOk_l35 (S.step T) t2 t10 t129 t130 =
 brk (decide (t130 < t129)) (
  brk (decide ((0 : Int) ≤ t130) && decide (t130 < (t10.length : Int))) (
  brk (decide ((100 : Int) < t10.getD t130.toNat 0)) (
   some (Sum.inl (((4 : Int), t130, ()), ()))) (
   impl_TreeOk_l35 T t2 t10 t129 (IntKind.i64.wrap (t130 + (1 : Int))))) none) (
  some (Sum.inr (Sum.inl (t2, ()))))
  := eL Tryz.func74 rfl (by kernel_rfl)
theorem impl_sound_eq (T : S.Tab) (t0 : List tyNode.den × Unit) : impl_sound (S.step T) t0 =
 (impl_TreeOk T t0).bind fun d4 =>
 some (decide (d4.1.1 = (0 : Int)) && (decide (d4.1.2.1 = (0 : Int)) && true), o_impl_sound)
  := eF Tryz.func40 (by kernel_rfl)
theorem impl_Path_1_eq (T : S.Tab) (t0 : Int) (t1 : List tyNode.den × Unit) (t2 : Int) : impl_Path_1 (S.step T) t0 t1 t2 =
 brk (decide ((0 : Int) ≤ t0) && decide (t0 < (t1.1.length : Int))) (
 brk (decide (((at_ (τ := tyNode) t1.1 t0).2).1 ≤ t2)) (
  brk (decide ((0 : Int) ≤ t0) && decide (t0 < (t1.1.length : Int))) (
  some (decide (t2 < (((at_ (τ := tyNode) t1.1 t0).2).2).1), (), t1, t2, ())) none) (
  some (false, (), t1, t2, ()))) none
  := eF Tryz.func41 (by kernel_rfl)
theorem impl_Path_eq (T : S.Tab) (t0 : List tyNode.den × Unit) (t1 : Int) : impl_Path (S.step T) t0 t1 =
 (impl_sound T t0).bind fun d12 =>
 brk (!d12.1) (
  some ([], o_impl_Path)) (
  (impl_Path_1 T (IntKind.i64.wrap ((t0.1.length : Int) - (1 : Int))) t0 t1).bind fun d21 =>
  brk (!d21.1) (
   some ([], o_impl_Path)) (
   (impl_Path_l8 T d21.2.2.1 d21.2.2.2.1 (IntKind.i64.wrap ((t0.1.length : Int) - (1 : Int))) ([IntKind.i64.wrap ((t0.1.length : Int) - (1 : Int))] : List Int)).bind (out1
     (fun y8 =>
    some (y8.1, o_impl_Path)))))
  := eF Tryz.func13 (by kernel_rfl)
theorem impl_Path_l8_eq (T : S.Tab) (t2 : List tyNode.den × Unit) (t3 : Int) (t6 : Int) (t7 : List Int) : impl_Path_l8 (S.step T) t2 t3 t6 t7 =
 brk (decide ((0 : Int) ≤ t6) && decide (t6 < (t2.1.length : Int))) (
 (impl_Path_l10 T t2 t3 t7 (-1 : Int) ((((((((((at_ (τ := tyNode) t2.1 t6).2).2).2).2).2).2).2).2).1) (((((((((((at_ (τ := tyNode) t2.1 t6).2).2).2).2).2).2).2).2).1).length : Int) (0 : Int)).bind (out1
   (fun y10 =>
  brk (decide (y10.2.2.2.1 < (0 : Int))) (
   some (Sum.inl (y10.2.2.1, ()))) (
   brk (fits (y10.2.2.1.length + ([y10.2.2.2.1] : List Int).length)) (
   impl_Path_l8 T y10.1 y10.2.1 y10.2.2.2.1 (y10.2.2.1 ++ ([y10.2.2.2.1] : List Int))) none)))) none
  := eL Tryz.func13 rfl (by kernel_rfl)
theorem impl_Path_l10_eq (T : S.Tab) (t2 : List tyNode.den × Unit) (t3 : Int) (t7 : List Int) (t8 : Int) (t30 : List Int) (t31 : Int) (t32 : Int) : impl_Path_l10 (S.step T) t2 t3 t7 t8 t30 t31 t32 =
 brk (decide (t32 < t31)) (
  brk (decide ((0 : Int) ≤ t32) && decide (t32 < (t30.length : Int))) (
  (impl_Path_1 T (t30.getD t32.toNat 0) t2 t3).bind fun d38 =>
  brk (d38.1) (
   some (Sum.inl (d38.2.2.1, d38.2.2.2.1, t7, t30.getD t32.toNat 0, ()))) (
   impl_Path_l10 T d38.2.2.1 d38.2.2.2.1 t7 t8 t30 t31 (IntKind.i64.wrap (t32 + (1 : Int))))) none) (
  some (Sum.inl (t2, t3, t7, t8, ())))
  := eL Tryz.func13 rfl (by kernel_rfl)
theorem laws_eqIntS_eq (T : S.Tab) (t0 : List Int) (t1 : List Int) : laws_eqIntS (S.step T) t0 t1 =
 brk (!decide ((t0.length : Int) = (t1.length : Int))) (
  some (false, o_laws_eqIntS)) (
  (laws_eqIntS_l4 T t0 t1 (0 : Int)).bind (out2
    (fun y4 =>
   some (y4.1, o_laws_eqIntS))
    (fun y4 =>
   some (true, o_laws_eqIntS))))
  := eF Tryz.func14 (by kernel_rfl)
theorem laws_eqIntS_l4_eq (T : S.Tab) (t0 : List Int) (t1 : List Int) (t5 : Int) : laws_eqIntS_l4 (S.step T) t0 t1 t5 =
 brk (decide (t5 < (t0.length : Int))) (
  brk (decide ((0 : Int) ≤ t5) && decide (t5 < (t0.length : Int))) (
  brk (decide ((0 : Int) ≤ t5) && decide (t5 < (t1.length : Int))) (
  brk (!decide (t0.getD t5.toNat 0 = t1.getD t5.toNat 0)) (
   some (Sum.inl (false, ()))) (
   laws_eqIntS_l4 T t0 t1 (IntKind.i64.wrap (t5 + (1 : Int))))) none) none) (
  some (Sum.inr (Sum.inl ())))
  := eL Tryz.func14 rfl (by kernel_rfl)
theorem laws_eqStringS_eq (T : S.Tab) (t0 : List (List Int)) (t1 : List (List Int)) : laws_eqStringS (S.step T) t0 t1 =
 brk (!decide ((t0.length : Int) = (t1.length : Int))) (
  some (false, o_laws_eqStringS)) (
  (laws_eqStringS_l4 T t0 t1 (0 : Int)).bind (out2
    (fun y4 =>
   some (y4.1, o_laws_eqStringS))
    (fun y4 =>
   some (true, o_laws_eqStringS))))
  := eF Tryz.func120 (by kernel_rfl)
theorem laws_eqStringS_l4_eq (T : S.Tab) (t0 : List (List Int)) (t1 : List (List Int)) (t5 : Int) : laws_eqStringS_l4 (S.step T) t0 t1 t5 =
 brk (decide (t5 < (t0.length : Int))) (
  brk (decide ((0 : Int) ≤ t5) && decide (t5 < (t0.length : Int))) (
  brk (decide ((0 : Int) ≤ t5) && decide (t5 < (t1.length : Int))) (
  brk (!decide ((t0.getD t5.toNat []) = (t1.getD t5.toNat []))) (
   some (Sum.inl (false, ()))) (
   laws_eqStringS_l4 T t0 t1 (IntKind.i64.wrap (t5 + (1 : Int))))) none) none) (
  some (Sum.inr (Sum.inl ())))
  := eL Tryz.func120 rfl (by kernel_rfl)
theorem laws_eqNode_eq (T : S.Tab) (t0 : tyNode.den) (t1 : tyNode.den) : laws_eqNode (S.step T) t0 t1 =
 brk (!decide (t0.1 = t1.1)) (
  some (false, o_laws_eqNode)) (
  brk (!decide (t0.2.1 = t1.2.1)) (
   some (false, o_laws_eqNode)) (
   brk (!decide (t0.2.2.1 = t1.2.2.1)) (
    some (false, o_laws_eqNode)) (
    brk (!decide (t0.2.2.2.1 = t1.2.2.2.1)) (
     some (false, o_laws_eqNode)) (
     brk (!decide (t0.2.2.2.2.1 = t1.2.2.2.2.1)) (
      some (false, o_laws_eqNode)) (
      brk (!decide (t0.2.2.2.2.2.1 = t1.2.2.2.2.2.1)) (
       some (false, o_laws_eqNode)) (
       brk (!decide (t0.2.2.2.2.2.2.1 = t1.2.2.2.2.2.2.1)) (
        some (false, o_laws_eqNode)) (
        (laws_eqStringS T t0.2.2.2.2.2.2.2.1 t1.2.2.2.2.2.2.2.1).bind fun d44 =>
        brk (!d44.1) (
         some (false, o_laws_eqNode)) (
         (laws_eqIntS T t0.2.2.2.2.2.2.2.2.1 t1.2.2.2.2.2.2.2.2.1).bind fun d50 =>
         brk (!d50.1) (
          some (false, o_laws_eqNode)) (
          some (true, o_laws_eqNode))))))))))
  := eF Tryz.func75 (by kernel_rfl)
theorem laws_eqNodeS_eq (T : S.Tab) (t0 : List tyNode.den) (t1 : List tyNode.den) : laws_eqNodeS (S.step T) t0 t1 =
 brk (!decide ((t0.length : Int) = (t1.length : Int))) (
  some (false, o_laws_eqNodeS)) (
  (laws_eqNodeS_l4 T t0 t1 (0 : Int)).bind (out2
    (fun y4 =>
   some (y4.1, o_laws_eqNodeS))
    (fun y4 =>
   some (true, o_laws_eqNodeS))))
  := eF Tryz.func42 (by kernel_rfl)
theorem laws_eqNodeS_l4_eq (T : S.Tab) (t0 : List tyNode.den) (t1 : List tyNode.den) (t5 : Int) : laws_eqNodeS_l4 (S.step T) t0 t1 t5 =
 brk (decide (t5 < (t0.length : Int))) (
  brk (decide ((0 : Int) ≤ t5) && decide (t5 < (t0.length : Int))) (
  brk (decide ((0 : Int) ≤ t5) && decide (t5 < (t1.length : Int))) (
  (laws_eqNode T (at_ (τ := tyNode) t0 t5) (at_ (τ := tyNode) t1 t5)).bind fun d25 =>
  brk (!d25.1) (
   some (Sum.inl (false, ()))) (
   laws_eqNodeS_l4 T t0 t1 (IntKind.i64.wrap (t5 + (1 : Int))))) none) none) (
  some (Sum.inr (Sum.inl ())))
  := eL Tryz.func42 rfl (by kernel_rfl)
theorem laws_eqTree_eq (T : S.Tab) (t0 : List tyNode.den × Unit) (t1 : List tyNode.den × Unit) : laws_eqTree (S.step T) t0 t1 =
 (laws_eqNodeS T t0.1 t1.1).bind fun d9 =>
 brk (!d9.1) (
  some (false, o_laws_eqTree)) (
  some (true, o_laws_eqTree))
  := eF Tryz.func15 (by kernel_rfl)
theorem laws_markText_eq (T : S.Tab) (t0 : Int) : laws_markText (S.step T) t0 =
 brk (decide (t0 ≤ (0 : Int))) (
  some (([109, 48] : List Int), o_laws_markText)) (
  (laws_markText_l4 T t0 ([] : List Int)).bind (out1
    (fun y4 =>
   brk (fits (1 + y4.1.length)) (
   some (([109] : List Int) ++ y4.1, o_laws_markText)) none)))
  := eF Tryz.func47 (by kernel_rfl)
theorem laws_markText_l4_eq (T : S.Tab) (t0 : Int) (t3 : List Int) : laws_markText_l4 (S.step T) t0 t3 =
 brk (decide ((0 : Int) < t0)) (
  brk (fits ((([IntKind.u8.wrap (IntKind.i64.wrap ((48 : Int) + (t0.tmod (10 : Int))))] : List Int).map byte).length + t3.length)) (
  laws_markText_l4 T (IntKind.i64.wrap (t0.tdiv (10 : Int))) ((([IntKind.u8.wrap (IntKind.i64.wrap ((48 : Int) + (t0.tmod (10 : Int))))] : List Int).map byte) ++ t3)) none) (
  some (Sum.inl (t3, ())))
  := eL Tryz.func47 rfl (by kernel_rfl)
theorem laws_markStringS_eq (T : S.Tab) (t0 : List (List Int)) (t1 : Int) : laws_markStringS (S.step T) t0 t1 =
 (laws_markStringS_l2 T t0 t1 (0 : Int)).bind (out1
   (fun y2 =>
  some (y2.2.1, y2.1, (), ())))
  := eF Tryz.func76 (by kernel_rfl)
theorem laws_markStringS_l2_eq (T : S.Tab) (t0 : List (List Int)) (t1 : Int) (t5 : Int) : laws_markStringS_l2 (S.step T) t0 t1 t5 =
 brk (decide (t5 < (t0.length : Int))) (
  (laws_markText T t1).bind fun d15 =>
  brk (decide ((0 : Int) ≤ t5) && decide (t5 < (t0.length : Int))) (
  laws_markStringS_l2 T (t0.set t5.toNat d15.1) (IntKind.i64.wrap (t1 + (1 : Int))) (IntKind.i64.wrap (t5 + (1 : Int)))) none) (
  some (Sum.inl (t0, t1, ())))
  := eL Tryz.func76 rfl (by kernel_rfl)
theorem laws_markIntS_eq (T : S.Tab) (t0 : List Int) (t1 : Int) : laws_markIntS (S.step T) t0 t1 =
 (laws_markIntS_l2 T t0 t1 (0 : Int)).bind (out1
   (fun y2 =>
  some (y2.2.1, y2.1, (), ())))
  := eF Tryz.func17 (by kernel_rfl)
theorem laws_markIntS_l2_eq (T : S.Tab) (t0 : List Int) (t1 : Int) (t5 : Int) : laws_markIntS_l2 (S.step T) t0 t1 t5 =
 brk (decide (t5 < (t0.length : Int))) (
  brk (decide ((0 : Int) ≤ t5) && decide (t5 < (t0.length : Int))) (
  laws_markIntS_l2 T (t0.set t5.toNat t1) (IntKind.i64.wrap (t1 + (1 : Int))) (IntKind.i64.wrap (t5 + (1 : Int)))) none) (
  some (Sum.inl (t0, t1, ())))
  := eL Tryz.func17 rfl (by kernel_rfl)
theorem laws_markNodeS_eq (T : S.Tab) (t0 : List tyNode.den) (t1 : Int) : laws_markNodeS (S.step T) t0 t1 =
 (laws_markNodeS_l2 T t0 t1 (0 : Int)).bind (out1
   (fun y2 =>
  some (y2.2.1, y2.1, (), ())))
  := eF Tryz.func43 (by kernel_rfl)
end Go.Abs.D
end
