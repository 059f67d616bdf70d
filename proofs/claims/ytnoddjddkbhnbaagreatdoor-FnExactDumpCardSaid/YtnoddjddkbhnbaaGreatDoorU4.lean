/- What is here: what strings.Builder's functions and IndexByte answer, as plain functions. What is here: the tables of the program and what the library's functions on numbers answer, as plain functions. What is here: the package variables of the program, as plain data. What is here: the library's functions on strings.Builder, at any place of a box, as contracts. What is here: WriteByte, WriteString and String of strings.Builder, at any place of a box, as contracts. What is here: String of strings.Builder at any place of a box. What is here: the contracts of strings.Builder's functions. What is here: the contract of the library's IndexByteString. What is here: the numbers of the library's functions in this program, and that they are laid as the kit's shelf wants them. What is here: contracts of strconv.ParseInt and strconv.FormatInt, from the kit's shelf. What is here: the numbers of the library's functions in this program, and that they are laid as the kit's shelf wants them. What is here: contracts of strconv.Itoa and strings.Join, from the kit's shelf. What is here: the contracts of all functions of the seat. What is here: letters, digits; the small functions of both scanners. -/
import Derived.Test.YtnoddjddkbhnbaaGreatDoorU3
import Derived.Lib.ParseIntB
import Derived.Lib.ItoaNum
import Derived.Lib.LaidTab
import Derived.Shelf.Strconv.Itoa4
import Derived.Test.YtnoddjddkbhnbaaGreatDoorProg
import Derived.Test.YtnoddjddkbhnbaaGreatDoorRows
import Derived.Test.YtnoddjddkbhnbaaGreatDoorTie
import Derived.Lib.Builder
import Derived.Lib.Walk
import Derived.Lib.Slices
import Derived.Lib.Strings
import Derived.WalkKit
import Derived.Laws.Externs
import Derived.Lib.AppendStr
import Derived.Lib.UnsafeStr
import Derived.Shelf.Strconv.ParseIntPublic10
import Derived.KernelRfl
import Derived.Room.Shelf.Join48
import Derived.ProofKit
import Derived.OpenShut
import Derived.ShutString
import Derived.ChangeOld
import Derived.Below
import Derived.SizedLaws
import Derived.LaidMore
import Derived.Lay
import Derived.SevenTiedAt
import Derived.Stop.Joined
set_option linter.unusedVariables false
set_option linter.unusedSimpArgs false
set_option maxRecDepth 100000
section
namespace Go.Abs.Bld
def places : List (Nat × Nat × Nat) := [(72, 0, 2), (87, 1, 3)]
@[reducible] def bp : VSp := .one (.ptr false (0, places) .bld)
def Q5 (x : List Int × Int × Unit) : Option (Bool × List Int × Unit × Unit) := bif fits (x.1.length + 1) then some (true, x.1 ++ [x.2.1], (), ()) else none
def L7 (x : List Int × List Int × Unit) : Option ((Int × Bool × Unit) × List Int × Unit × Unit) := bif fits (x.1.length + x.2.1.length) then some ((x.2.1.length, true, ()), x.1 ++ x.2.1, (), ()) else none
def au3 (x : List Int × Unit) : Option (List Int × Unit × Unit) := bif fits x.1.length then some (x.1.map byte, (), ()) else none
def idx : List Int → Int → Int → Int
 | [], _, _ => -1
 | x :: r, c, n => bif decide (x = c) then n else idx r c (n + 1)
def al4 (x : List Int × Int × Unit) : Option (Int × Unit × Unit × Unit) := some (idx x.1 (byte x.2.1) 0, (), (), ())
end Go.Abs.Bld
end

section
namespace Go.Abs.Lx
def words : List (List Int) := [[97, 110, 100], [98, 114, 101, 97, 107], [99, 97, 116, 99, 104], [99, 111, 110, 115, 116], [100, 101, 102, 101, 114], [101, 108, 105, 102], [101, 108, 115, 101], [102, 97, 108, 115, 101], [102, 110], [102, 111, 114], [105, 102], [105, 110], [108, 101, 116], [110, 101, 120, 116], [110, 105, 108], [110, 111, 116], [111, 114], [114, 101, 116, 117, 114, 110], [116, 104, 114, 111, 119], [116, 114, 117, 101], [116, 114, 121], [119, 104, 105, 108, 101]]
def ag1 : List (List Int) := [[40], [41], [123], [125], [91], [93], [44], [61], [46], [46, 46, 46], [35]]
def aA2 : List (List Int) := [[43], [45], [42], [47], [47, 47], [37], [38], [124], [126], [60, 60], [62, 62], [46, 46], [61, 61], [126, 61], [60], [60, 61], [62], [62, 61]]
def u8s (l : List Int) : List UInt8 := l.map fun c => c.toNat.toUInt8
def ints (l : List UInt8) : List Int := l.map fun b => (b.toNat : Int)
def af5 (x : List Int × Int × Int × Unit) : Option ((Int × Bool × Unit) × Unit × Unit × Unit × Unit) :=
 bif decide (x.2.1 = 10) && decide (x.2.2.1 = 64) && fits x.1.length then
  match Lib.parseIntB 64 (u8s x.1) with
  | .ok v => some ((v, true, ()), (), (), (), ())
  | .range => some ((Lib.intSat 64 (u8s x.1), false, ()), (), (), (), ())
  | _ => none
 else none
def Z8 (x : Int × Int × Unit) : Option (List Int × Unit × Unit × Unit) :=
 bif decide (x.2.1 = 10) && decide (-9223372036854775808 ≤ x.1) && decide (x.1 ≤ 9223372036854775807) then some (ints (Lib.itoa x.1), (), (), ()) else none
def ax5 (x : Int × Unit) : Option (List Int × Unit × Unit) :=
 bif decide (-9223372036854775808 ≤ x.1) && decide (x.1 ≤ 9223372036854775807) then some (ints (Lib.itoa x.1), (), ()) else none
def ax2 : List (List Int) → List Int → List Int
 | [], _ => []
 | [x], _ => x
 | x :: y :: r, s => x ++ (s ++ ax2 (y :: r) s)
def ba7 (x : List (List Int) × List Int × Unit) : Option (List Int × Unit × Unit × Unit) :=
 bif fits x.1.length && fits (ax2 x.1 x.2.1).length then some (ax2 x.1 x.2.1, (), (), ()) else none
def bG2 : List Cell := Lib.pow10Tab.map fun z => .v (.int .u64) z
def tables (k : Nat) : Option (List Cell) := bif Nat.beq k 1 then some bG2 else bif Nat.beq k 8 then some [.err false] else none
theorem aQ7 (s : ByteArray) : u8s (bytesOf s) = s.data.toList := by
 unfold u8s bytesOf
 rw [List.map_map]
 have : ((fun c : Int => c.toNat.toUInt8) ∘ fun b : UInt8 => (b.toNat : Int)) = id := by
  funext b
  simp
 rw [this, List.map_id]
end Go.Abs.Lx
end

section
set_option maxRecDepth 100000
namespace Go.Abs.D
open Go.Proofs
abbrev l8 : Ty := (.pr (.int .i64) (.pr (.int .i64) (.pr (.int .i64) (.pr (.int .i64) (.pr (.int .i64) (.pr .str .un))))))
abbrev b8 : Ty := (.pr (.int .i64) (.pr (.int .i64) (.pr (.int .i64) (.pr (.int .i64) (.pr (.int .i64) (.pr (.int .i64) (.pr .str (.pr (.sl .str) (.pr (.sl (.int .i64)) .un)))))))))
abbrev vs0 : VSp := .one (.ptr true (100, []) (.pr (.pub (.int .i64)) (.pr (.pub (.int .i64)) (.pr (.pub (.int .i64)) (.pr (.pub (.int .i64)) (.pr (.pub (.int .i64)) (.pr (.pub .str) .un)))))))
abbrev vs1 : VSp := .one (.ptr true (56, []) (.pr (.pub (.int .i64)) (.pr (.pub (.int .i64)) (.pr (.pub (.int .i64)) (.pr (.pub (.int .i64)) (.pr (.pub (.int .i64)) (.pr (.pub (.int .i64)) (.pr (.pub .str) (.pr (.pub (.sl .str)) (.pr (.pub (.sl (.int .i64))) .un))))))))))
abbrev vs2 : VSp := .one (.pub (.int .i64))
abbrev vs3 : VSp := .agg (.pr (.pub (.int .i64)) (.pr (.pub (.int .i64)) (.pr (.pub (.int .i64)) (.pr (.pub (.int .i64)) (.pr (.pub (.int .i64)) (.pr (.pub (.int .i64)) (.pr (.pub .str) (.pr (.pub (.sl .str)) (.pr (.pub (.sl (.int .i64))) .un)))))))))
abbrev vs4 : VSp := .one (.ptr true (52, []) (.pr (.pub (.int .i64)) (.pr (.pub (.int .i64)) .un)))
abbrev vs5 : VSp := .one (.ptr true (30, []) (.pr (.pub (.sl b8)) .un))
abbrev vs6 : VSp := .one (.pub .bool)
abbrev vs7 : VSp := .one (.pub .str)
abbrev vs8 : VSp := .agg (.pr (.pub (.int .i64)) (.pr (.pub (.int .i64)) (.pr (.pub (.int .i64)) (.pr (.pub (.int .i64)) (.pr (.pub (.int .i64)) (.pr (.pub .str) .un))))))
abbrev vs9 : VSp := .one (.ptr true (3, []) (.pub (.int .i64)))
abbrev aN2 : VSp := .one (.own (.int .i64) true)
abbrev ba3 : VSp := .agg (.pr (.pub (.sl b8)) .un)
abbrev a99 : VSp := .one (.pub (.sl (.int .i64)))
abbrev aU4 : VSp := .one (.pub (.int .u64))
abbrev bB3 : VSp := .one (.ptr true (2, []) (.pub (.int .i64)))
abbrev ba1 : VSp := .one (.pub (.sl b8))
abbrev bg7 : VSp := .one (.own (.int .u8) true)
abbrev bJ9 : VSp := .one (.ptr true (26, []) (.own (.int .i64) true))
abbrev bN0 : VSp := .one (.ptr true (26, []) (.pub (.sl (.int .i64))))
abbrev bJ0 : VSp := .one (.ptr true (9, []) (.pub .str))
abbrev bs6 : VSp := .one (.pub (.int .u8))
abbrev bv3 : VSp := .one (.pub (.sl .str))
abbrev bz0 : VSp := .one (.own .str true)
abbrev bR7 : VSp := .one (.ptr true (72, []) .bld)
abbrev bZ5 : VSp := .agg (.pr (.pub (.int .i64)) (.pr (.pub (.int .i64)) .un))
abbrev bW2 : VSp := .one (.pub (.int .i32))
abbrev bX4 : VSp := .one (.pub (.sl (.int .u8)))
abbrev bX9 : VSp := .one (.own b8 true)
abbrev bM7 : VSp := .one .err
def sig (f : Nat) : Sig :=
 bif Nat.beq f 112 then ⟨[bv3, vs2], .val vs2⟩ else
 bif Nat.beq f 113 then ⟨[a99, vs2], .val vs2⟩ else
 bif Nat.beq f 70 then ⟨[vs3, vs2], .val vs2⟩ else
 bif Nat.beq f 37 then ⟨[ba1, vs2], .val vs2⟩ else
 bif Nat.beq f 10 then ⟨[ba3, vs2], .val vs2⟩ else
 bif Nat.beq f 117 then ⟨[bv3], .val bz0⟩ else
 bif Nat.beq f 118 then ⟨[a99], .val aN2⟩ else
 bif Nat.beq f 73 then ⟨[vs3], .val (.agg (.pr (.pub (.int .i64)) (.pr (.pub (.int .i64)) (.pr (.pub (.int .i64)) (.pr (.pub (.int .i64)) (.pr (.pub (.int .i64)) (.pr (.pub (.int .i64)) (.pr (.pub .str) (.pr (.own .str true) (.pr (.own (.int .i64) true) .un))))))))))⟩ else
 bif Nat.beq f 39 then ⟨[ba1], .val bX9⟩ else
 bif Nat.beq f 12 then ⟨[ba3], .val (.agg (.pr (.own b8 true) .un))⟩ else
 bif Nat.beq f 114 then ⟨[vs2], .val vs6⟩ else
 bif Nat.beq f 178 then ⟨[ba3, vs3, vs2], .val vs2⟩ else
 bif Nat.beq f 179 then ⟨[vs3, vs6, vs6, vs6, vs6], .val vs6⟩ else
 bif Nat.beq f 211 then ⟨[bs6], .val vs6⟩ else
 bif Nat.beq f 210 then ⟨[vs7, vs2], .val bs6⟩ else
 bif Nat.beq f 213 then ⟨[bs6], .val vs6⟩ else
 bif Nat.beq f 202 then ⟨[], .val bz0⟩ else
 bif Nat.beq f 212 then ⟨[vs7, vs8], .tup [vs8, vs2]⟩ else
 bif Nat.beq f 250 then ⟨[bs6], .val vs2⟩ else
 bif Nat.beq f 249 then ⟨[vs7, vs8], .tup [vs8, vs2]⟩ else
 bif Nat.beq f 214 then ⟨[vs7, vs8], .tup [vs8, vs2]⟩ else
 bif Nat.beq f 215 then ⟨[vs7, vs8], .tup [vs8, vs2]⟩ else
 bif Nat.beq f 203 then ⟨[], .val bz0⟩ else
 bif Nat.beq f 204 then ⟨[vs7], .val vs2⟩ else
 bif Nat.beq f 144 then ⟨[vs7, vs2], .tup [vs8, vs2]⟩ else
 bif Nat.beq f 184 then ⟨[vs7], .val vs6⟩ else
 bif Nat.beq f 180 then ⟨[vs3, vs2, vs2], .val vs6⟩ else
 bif Nat.beq f 242 then ⟨[vs2], .val vs6⟩ else
 bif Nat.beq f 181 then ⟨[ba3, vs3, vs2, vs2], .val vs6⟩ else
 bif Nat.beq f 182 then ⟨[vs2], .val vs6⟩ else
 bif Nat.beq f 115 then ⟨[ba3, vs3], .val vs6⟩ else
 bif Nat.beq f 183 then ⟨[vs7], .val vs6⟩ else
 bif Nat.beq f 116 then ⟨[ba3, vs3], .val vs6⟩ else
 bif Nat.beq f 71 then ⟨[ba3, vs2], .val vs6⟩ else
 bif Nat.beq f 72 then ⟨[ba3], .val aN2⟩ else
 bif Nat.beq f 38 then ⟨[ba3], .val bZ5⟩ else
 bif Nat.beq f 67 then ⟨[vs2], .val vs7⟩ else
 bif Nat.beq f 77 then ⟨[vs7], .val vs7⟩ else
 bif Nat.beq f 48 then ⟨[vs3], .val vs7⟩ else
 bif Nat.beq f 24 then ⟨[ba3], .val vs7⟩ else
 bif Nat.beq f 185 then ⟨[vs2, vs2, vs2], .val vs6⟩ else
 bif Nat.beq f 153 then ⟨[bs6], .val vs6⟩ else
 bif Nat.beq f 154 then ⟨[bs6], .val vs6⟩ else
 bif Nat.beq f 155 then ⟨[vs7], .val vs2⟩ else
 bif Nat.beq f 157 then ⟨[bs6], .val vs6⟩ else
 bif Nat.beq f 257 then ⟨[bs6], .val bs6⟩ else
 bif Nat.beq f 258 then ⟨[vs7], .val vs6⟩ else
 bif Nat.beq f 236 then ⟨[vs7, vs2, vs2], .tup [aU4, bM7]⟩ else
 bif Nat.beq f 158 then ⟨[vs7, vs2, vs2], .tup [aU4, bM7]⟩ else
 bif Nat.beq f 156 then ⟨[vs7, vs2], .tup [vs8, vs6]⟩ else
 bif Nat.beq f 125 then ⟨[vs7, bs6], .val vs2⟩ else
 bif Nat.beq f 81 then ⟨[vs7, bs6], .val vs2⟩ else
 bif Nat.beq f 139 then ⟨[vs2], .val vs7⟩ else
 bif Nat.beq f 234 then ⟨[vs7, vs7], .val vs6⟩ else
 bif Nat.beq f 152 then ⟨[vs7, vs7], .val vs6⟩ else
 bif Nat.beq f 101 then ⟨[vs7, vs2], .tup [vs8, vs6]⟩ else
 bif Nat.beq f 243 then ⟨[vs7, vs2], .val vs6⟩ else
 bif Nat.beq f 186 then ⟨[vs7], .val vs6⟩ else
 bif Nat.beq f 191 then ⟨[vs2], .val vs6⟩ else
 bif Nat.beq f 189 then ⟨[vs6, vs6, vs6, vs6, vs9, vs9, bB3, bJ0], .val vs6⟩ else
 bif Nat.beq f 188 then ⟨[vs2], .val vs6⟩ else
 bif Nat.beq f 187 then ⟨[vs2, vs2, bN0], .val vs6⟩ else
 bif Nat.beq f 192 then ⟨[vs7], .val vs6⟩ else
 bif Nat.beq f 190 then ⟨[vs9, bN0], .val vs6⟩ else
 bif Nat.beq f 119 then ⟨[ba3, vs2], .val vs6⟩ else
 bif Nat.beq f 74 then ⟨[ba3], .val bZ5⟩ else
 bif Nat.beq f 40 then ⟨[ba3], .val vs6⟩ else
 bif Nat.beq f 51 then ⟨[vs7], .val vs7⟩ else
 bif Nat.beq f 25 then ⟨[ba3], .val vs7⟩ else
 bif Nat.beq f 120 then ⟨[bv3, bv3], .val vs6⟩ else
 bif Nat.beq f 14 then ⟨[a99, a99], .val vs6⟩ else
 bif Nat.beq f 75 then ⟨[vs3, vs3], .val vs6⟩ else
 bif Nat.beq f 42 then ⟨[ba1, ba1], .val vs6⟩ else
 bif Nat.beq f 15 then ⟨[ba3, ba3], .val vs6⟩ else
 bif Nat.beq f 5 then ⟨[ba3], .val vs6⟩ else
 ⟨[], .none⟩
def fns : List Nat := [112, 113, 70, 37, 10, 117, 118, 73, 39, 12, 114, 178, 179, 211, 210, 213, 202, 212, 250, 249, 214, 215, 203, 204, 144, 184, 180, 242, 181, 182, 115, 183, 116, 71, 72, 38, 67, 77, 48, 24, 185, 153, 154, 155, 157, 257, 258, 236, 158, 156, 125, 81, 139, 234, 152, 101, 243, 186, 191, 189, 188, 187, 192, 190, 119, 74, 40, 51, 25, 120, 14, 75, 42, 15, 5]
def known (f : Nat) : Bool := fns.any (Nat.beq f)
def az0 (f : Nat) : List Nat :=
 bif Nat.beq f 189 then [4, 5, 6, 7] else
 bif Nat.beq f 187 then [2] else
 bif Nat.beq f 190 then [0, 1] else
 []
def kk (f : Nat) (k : Bool) (r a : Nat) (b : Bool) (c : Nat) : Bool := Nat.beq f a && k == b && Nat.beq r c
def an8 (f : Nat) (k : Bool) (r : Nat) : Bool := kk f k r 14 true 4 || kk f k r 24 true 6 || kk f k r 25 true 6 || kk f k r 25 true 12 || kk f k r 37 true 5 || kk f k r 38 true 4 || kk f k r 38 true 11 || kk f k r 38 true 20 || kk f k r 38 true 23 || kk f k r 38 true 28 || kk f k r 39 true 3 || kk f k r 42 true 4 || kk f k r 48 true 3 || kk f k r 48 true 9 || kk f k r 48 true 15 || kk f k r 51 true 6 || kk f k r 67 true 5 || kk f k r 67 false 14 || kk f k r 67 true 15 || kk f k r 71 true 5 || kk f k r 72 true 3 || kk f k r 72 true 8 || kk f k r 74 true 5 || kk f k r 74 true 12 || kk f k r 74 true 16 || kk f k r 74 true 27 || kk f k r 74 true 30 || kk f k r 74 true 35 || kk f k r 77 true 4 || kk f k r 101 true 5 || kk f k r 101 true 18 || kk f k r 101 true 39 || kk f k r 101 true 49 || kk f k r 112 true 5 || kk f k r 115 true 5 || kk f k r 115 true 21 || kk f k r 115 false 28 || kk f k r 115 false 41 || kk f k r 115 false 46 || kk f k r 116 false 7 || kk f k r 116 false 18 || kk f k r 116 true 31 || kk f k r 116 false 46 || kk f k r 117 true 3 || kk f k r 118 true 3 || kk f k r 119 true 6 || kk f k r 119 true 13 || kk f k r 119 true 26 || kk f k r 119 true 42 || kk f k r 119 false 50 || kk f k r 119 false 65 || kk f k r 119 false 72 || kk f k r 119 false 84 || kk f k r 119 true 97 || kk f k r 120 true 4 || kk f k r 144 true 14 || kk f k r 155 true 2 || kk f k r 156 true 5 || kk f k r 156 true 15 || kk f k r 156 false 17 || kk f k r 156 true 20 || kk f k r 156 false 22 || kk f k r 156 false 26 || kk f k r 156 true 29 || kk f k r 156 false 31 || kk f k r 180 true 4 || kk f k r 181 true 2 || kk f k r 187 true 2 || kk f k r 204 true 3 || kk f k r 204 true 9 || kk f k r 212 true 2 || kk f k r 212 true 8 || kk f k r 214 true 7 || kk f k r 214 false 9 || kk f k r 214 true 12 || kk f k r 214 false 14 || kk f k r 214 true 21 || kk f k r 214 false 23 || kk f k r 214 true 26 || kk f k r 215 true 4 || kk f k r 215 false 24 || kk f k r 215 true 27 || kk f k r 236 false 21 || kk f k r 236 false 25 || kk f k r 236 false 32 || kk f k r 236 true 36 || kk f k r 236 false 46 || kk f k r 249 true 3 || kk f k r 258 false 5 || kk f k r 258 false 10 || kk f k r 258 true 10
def cut (f : Nat) (k : Bool) (r : Nat) : Cut :=
 bif kk f k r 14 true 4 then ⟨[0, 1, 5], [a99, a99, vs2], [⟨.ret, [4], [vs6], []⟩, ⟨.exit 0, [], [], []⟩], []⟩ else
 bif kk f k r 24 true 6 then ⟨[4, 13, 14, 15], [bg7, ba1, vs2, vs2], [⟨.exit 0, [4], [bg7], []⟩], []⟩ else
 bif kk f k r 25 true 6 then ⟨[3, 14, 15, 16], [bR7, ba1, vs2, vs2], [⟨.exit 0, [3], [bR7], []⟩], [(4, 49, [])]⟩ else
 bif kk f k r 25 true 12 then ⟨[3, 7, 14, 15, 16, 65, 66, 67], [bR7, bz0, ba1, vs2, vs2, a99, vs2, vs2], [⟨.exit 2, [3, 7, 14, 15, 16], [bR7, bz0, ba1, vs2, vs2], [(4, 49, [])]⟩], [(4, 49, [])]⟩ else
 bif kk f k r 37 true 5 then ⟨[0, 1, 5], [ba1, vs2, vs2], [⟨.ret, [4], [vs2], []⟩, ⟨.exit 0, [1], [vs2], []⟩], []⟩ else
 bif kk f k r 38 true 4 then ⟨[1, 2, 38, 39], [vs5, vs4, vs2, vs2], [⟨.ret, [2], [vs4], []⟩, ⟨.exit 0, [1, 2], [vs5, vs4], []⟩], []⟩ else
 bif kk f k r 38 true 11 then ⟨[1, 2, 4, 51, 52, 53], [vs5, vs4, a99, a99, vs2, vs2], [⟨.ret, [2], [vs4], []⟩, ⟨.exit 2, [1, 2, 4], [vs5, vs4, a99], []⟩], []⟩ else
 bif kk f k r 38 true 20 then ⟨[1, 2, 7, 8], [vs5, vs4, aN2, vs2], [⟨.exit 4, [2, 7], [vs4, aN2], []⟩], []⟩ else
 bif kk f k r 38 true 23 then ⟨[1, 2, 7, 8, 93, 94, 95], [vs5, vs4, aN2, vs2, a99, vs2, vs2], [⟨.exit 6, [1, 2, 7, 8], [vs5, vs4, aN2, vs2], []⟩], []⟩ else
 bif kk f k r 38 true 28 then ⟨[2, 108, 109, 110], [vs4, aN2, vs2, vs2], [⟨.ret, [2], [vs4], []⟩, ⟨.exit 8, [2], [vs4], []⟩], []⟩ else
 bif kk f k r 39 true 3 then ⟨[0, 3, 4], [ba1, bX9, vs2], [⟨.exit 0, [3], [bX9], []⟩], []⟩ else
 bif kk f k r 42 true 4 then ⟨[0, 1, 5], [ba1, ba1, vs2], [⟨.ret, [4], [vs6], []⟩, ⟨.exit 0, [], [], []⟩], []⟩ else
 bif kk f k r 48 true 3 then ⟨[1, 3, 22, 23, 24], [vs1, vs7, aN2, vs2, vs2], [⟨.exit 0, [1, 3], [vs1, vs7], []⟩], []⟩ else
 bif kk f k r 48 true 9 then ⟨[1, 3, 46, 47, 48], [vs1, vs7, bv3, vs2, vs2], [⟨.exit 2, [1, 3], [vs1, vs7], []⟩], []⟩ else
 bif kk f k r 48 true 15 then ⟨[3, 65, 66, 67], [vs7, a99, vs2, vs2], [⟨.exit 4, [3], [vs7], []⟩], []⟩ else
 bif kk f k r 51 true 6 then ⟨[0, 3, 4], [vs7, bR7, vs2], [⟨.exit 0, [3], [bR7], []⟩], []⟩ else
 bif kk f k r 67 true 5 then ⟨[0, 3, 4], [vs2, vs6, bg7], [⟨.exit 0, [3, 4], [vs6, bg7], []⟩], []⟩ else
 bif kk f k r 67 false 14 then ⟨[4, 6], [bg7, vs7], [⟨.ret, [2], [vs7], []⟩], []⟩ else
 bif kk f k r 67 true 15 then ⟨[4, 6, 7], [bg7, vs7, vs2], [⟨.exit 2, [6], [vs7], []⟩], []⟩ else
 bif kk f k r 71 true 5 then ⟨[1, 2, 5, 35, 36, 37], [vs2, vs5, vs1, a99, vs2, vs2], [⟨.ret, [4], [vs6], []⟩, ⟨.exit 0, [2, 5], [vs5, vs1], []⟩], []⟩ else
 bif kk f k r 72 true 3 then ⟨[3, 15, 16, 17], [aN2, ba1, vs2, vs2], [⟨.exit 0, [3], [aN2], []⟩], []⟩ else
 bif kk f k r 72 true 8 then ⟨[3, 4, 5, 6, 7, 8, 15, 16, 17], [aN2, vs2, vs1, vs2, vs6, vs2, ba1, vs2, vs2], [⟨.exit 2, [3, 4, 6, 7, 15, 16, 17], [aN2, vs2, vs2, vs6, ba1, vs2, vs2], []⟩], []⟩ else
 bif kk f k r 74 true 5 then ⟨[1, 2, 3, 37, 38], [vs5, vs4, vs2, vs2, vs2], [⟨.ret, [2], [vs4], []⟩, ⟨.exit 0, [1, 2, 3], [vs5, vs4, vs2], []⟩], []⟩ else
 bif kk f k r 74 true 12 then ⟨[1, 2, 3, 5, 51, 52, 53], [vs5, vs4, vs2, aN2, ba1, vs2, vs2], [⟨.ret, [2], [vs4], []⟩, ⟨.exit 2, [1, 2, 3], [vs5, vs4, vs2], []⟩], []⟩ else
 bif kk f k r 74 true 16 then ⟨[1, 2, 3, 5, 6, 7, 8, 9, 51, 52, 53], [vs5, vs4, vs2, aN2, vs2, vs1, vs2, vs2, ba1, vs2, vs2], [⟨.ret, [2], [vs4], []⟩, ⟨.exit 4, [1, 2, 3, 5, 6, 8, 51, 52, 53], [vs5, vs4, vs2, aN2, vs2, vs2, ba1, vs2, vs2], []⟩], []⟩ else
 bif kk f k r 74 true 27 then ⟨[1, 2, 10, 11], [vs5, vs4, aN2, vs2], [⟨.exit 6, [2, 10], [vs4, aN2], []⟩], []⟩ else
 bif kk f k r 74 true 30 then ⟨[1, 2, 10, 11, 113, 114, 115], [vs5, vs4, aN2, vs2, a99, vs2, vs2], [⟨.exit 8, [1, 2, 10, 11], [vs5, vs4, aN2, vs2], []⟩], []⟩ else
 bif kk f k r 74 true 35 then ⟨[2, 10, 129, 130], [vs4, aN2, vs2, vs2], [⟨.ret, [2], [vs4], []⟩, ⟨.exit 10, [2], [vs4], []⟩], []⟩ else
 bif kk f k r 77 true 4 then ⟨[0, 3, 4, 5], [vs7, vs7, bg7, vs2], [⟨.exit 0, [4], [bg7], []⟩], []⟩ else
 bif kk f k r 101 true 5 then ⟨[0, 1, 4, 7], [vs7, vs2, vs0, vs2], [⟨.exit 1, [0, 1, 4, 7], [vs7, vs2, vs0, vs2], []⟩], []⟩ else
 bif kk f k r 101 true 18 then ⟨[0, 4, 8, 9], [vs7, vs0, bg7, vs2], [⟨.ret, [4, 5], [vs0, vs6], []⟩], []⟩ else
 bif kk f k r 101 true 39 then ⟨[0, 4, 8, 9, 11], [vs7, vs0, bg7, vs2, vs2], [⟨.ret, [4, 5], [vs0, vs6], []⟩, ⟨.exit 5, [0, 4, 8, 9], [vs7, vs0, bg7, vs2], []⟩], []⟩ else
 bif kk f k r 101 true 49 then ⟨[0, 1, 4, 14, 15], [vs7, vs2, vs0, vs2, vs2], [⟨.exit 7, [1, 4], [vs2, vs0], []⟩], []⟩ else
 bif kk f k r 112 true 5 then ⟨[0, 1, 5], [bv3, vs2, vs2], [⟨.ret, [4], [vs2], []⟩, ⟨.exit 0, [1], [vs2], []⟩], []⟩ else
 bif kk f k r 115 true 5 then ⟨[2, 3, 17, 18], [vs5, vs1, vs2, vs2], [⟨.ret, [4], [vs6], []⟩, ⟨.exit 1, [3], [vs1], []⟩], []⟩ else
 bif kk f k r 115 true 21 then ⟨[2, 3, 5, 7], [vs5, vs1, vs2, vs2], [⟨.ret, [4], [vs6], []⟩, ⟨.exit 3, [2, 3, 5], [vs5, vs1, vs2], []⟩], []⟩ else
 bif kk f k r 115 false 28 then ⟨[2, 3, 5, 12, 113], [vs5, vs1, vs2, vs2, vs6], [⟨.ret, [4], [vs6], []⟩, ⟨.normal, [2, 3, 5], [vs5, vs1, vs2], []⟩], []⟩ else
 bif kk f k r 115 false 41 then ⟨[2, 3, 5, 12, 240], [vs5, vs1, vs2, vs2, vs6], [⟨.ret, [4], [vs6], []⟩, ⟨.normal, [2, 3, 5], [vs5, vs1, vs2], []⟩], []⟩ else
 bif kk f k r 115 false 46 then ⟨[2, 3, 5], [vs5, vs1, vs2], [⟨.ret, [4], [vs6], []⟩], []⟩ else
 bif kk f k r 116 false 7 then ⟨[2, 3, 5, 12, 13], [vs5, vs1, vs2, vs2, vs6], [⟨.ret, [4], [vs6], []⟩, ⟨.normal, [2, 3, 5], [vs5, vs1, vs2], []⟩], []⟩ else
 bif kk f k r 116 false 18 then ⟨[2, 3, 5, 12, 72], [vs5, vs1, vs2, vs2, vs6], [⟨.ret, [4], [vs6], []⟩, ⟨.normal, [2, 3, 5], [vs5, vs1, vs2], []⟩], []⟩ else
 bif kk f k r 116 true 31 then ⟨[2, 3, 199, 200], [vs5, vs1, vs2, vs2], [⟨.ret, [4], [vs6], []⟩, ⟨.exit 1, [3], [vs1], []⟩], []⟩ else
 bif kk f k r 116 false 46 then ⟨[2, 3, 5], [vs5, vs1, vs2], [⟨.ret, [4], [vs6], []⟩], []⟩ else
 bif kk f k r 117 true 3 then ⟨[0, 3, 4], [bv3, bz0, vs2], [⟨.exit 0, [3], [bz0], []⟩], []⟩ else
 bif kk f k r 118 true 3 then ⟨[0, 3, 4], [a99, aN2, vs2], [⟨.exit 0, [3], [aN2], []⟩], []⟩ else
 bif kk f k r 119 true 6 then ⟨[1, 2, 5, 6, 58, 59, 60], [vs2, vs5, vs1, bJ9, a99, vs2, vs2], [⟨.ret, [4], [vs6], []⟩, ⟨.exit 0, [5, 6], [vs1, bJ9], []⟩], []⟩ else
 bif kk f k r 119 true 13 then ⟨[5, 6, 80, 81, 82], [vs1, bJ9, bv3, vs2, vs2], [⟨.ret, [4], [vs6], []⟩, ⟨.exit 2, [5, 6], [vs1, bJ9], []⟩], []⟩ else
 bif kk f k r 119 true 26 then ⟨[11, 12, 13, 14, 108, 109, 110], [vs9, vs9, bB3, bJ0, aN2, vs2, vs2], [⟨.ret, [4], [vs6], []⟩, ⟨.exit 5, [11, 12, 13, 14], [vs9, vs9, bB3, bJ0], [(17, 189, [11, 12, 13, 14])]⟩], [(17, 189, [11, 12, 13, 14])]⟩ else
 bif kk f k r 119 true 42 then ⟨[6, 13, 16, 184, 185, 186], [bN0, bB3, vs9, a99, vs2, vs2], [⟨.ret, [4], [vs6], []⟩, ⟨.exit 7, [6, 13, 16], [bN0, bB3, vs9], [(15, 187, [6])]⟩], [(15, 187, [6])]⟩ else
 bif kk f k r 119 false 50 then ⟨[6, 11, 12, 13, 14, 16, 105, 205], [bJ9, vs9, vs9, bB3, bJ0, vs9, vs2, vs6], [⟨.ret, [4], [vs6], []⟩, ⟨.normal, [], [], []⟩], [(15, 187, [6]), (17, 189, [11, 12, 13, 14]), (18, 190, [16, 6])]⟩ else
 bif kk f k r 119 false 65 then ⟨[6, 11, 12, 13, 14, 16, 105, 328], [bJ9, vs9, vs9, bB3, bJ0, vs9, vs2, vs6], [⟨.ret, [4], [vs6], []⟩, ⟨.normal, [], [], []⟩], [(15, 187, [6]), (17, 189, [11, 12, 13, 14]), (18, 190, [16, 6])]⟩ else
 bif kk f k r 119 false 72 then ⟨[6, 11, 12, 13, 14, 16, 105, 378], [bJ9, vs9, vs9, bB3, bJ0, vs9, vs2, vs6], [⟨.ret, [4], [vs6], []⟩, ⟨.normal, [], [], []⟩], [(15, 187, [6]), (17, 189, [11, 12, 13, 14]), (18, 190, [16, 6])]⟩ else
 bif kk f k r 119 false 84 then ⟨[6, 11, 12, 13, 14, 16, 105, 436], [bJ9, vs9, vs9, bB3, bJ0, vs9, vs2, vs6], [⟨.ret, [4], [vs6], []⟩, ⟨.normal, [], [], []⟩], [(15, 187, [6]), (17, 189, [11, 12, 13, 14]), (18, 190, [16, 6])]⟩ else
 bif kk f k r 119 true 97 then ⟨[11, 12, 13, 14, 529, 530, 531], [vs9, vs9, bB3, bJ0, aN2, vs2, vs2], [⟨.ret, [4], [vs6], []⟩, ⟨.exit 9, [11, 12, 13, 14], [vs9, vs9, bB3, bJ0], [(17, 189, [11, 12, 13, 14])]⟩], [(17, 189, [11, 12, 13, 14])]⟩ else
 bif kk f k r 120 true 4 then ⟨[0, 1, 5], [bv3, bv3, vs2], [⟨.ret, [4], [vs6], []⟩, ⟨.exit 0, [], [], []⟩], []⟩ else
 bif kk f k r 144 true 14 then ⟨[0, 1, 4, 6, 43, 44, 45], [vs7, vs2, vs0, vs0, bz0, vs2, vs2], [⟨.ret, [4, 5], [vs0, vs2], []⟩, ⟨.exit 0, [1, 4, 6], [vs2, vs0, vs0], []⟩], []⟩ else
 bif kk f k r 155 true 2 then ⟨[0, 5, 6, 7], [vs7, bv3, vs2, vs2], [⟨.ret, [2], [vs2], []⟩, ⟨.exit 0, [], [], []⟩], []⟩ else
 bif kk f k r 156 true 5 then ⟨[0, 1, 4, 6], [vs7, vs2, vs0, vs2], [⟨.exit 0, [0, 1, 4, 6], [vs7, vs2, vs0, vs2], []⟩], []⟩ else
 bif kk f k r 156 true 15 then ⟨[0, 1, 4, 6], [vs7, vs2, vs0, vs2], [⟨.exit 2, [0, 1, 4, 6], [vs7, vs2, vs0, vs2], []⟩], []⟩ else
 bif kk f k r 156 false 17 then ⟨[0, 1, 4, 6], [vs7, vs2, vs0, vs2], [⟨.ret, [4, 5], [vs0, vs6], []⟩], []⟩ else
 bif kk f k r 156 true 20 then ⟨[0, 1, 4, 6, 9], [vs7, vs2, vs0, vs2, vs2], [⟨.exit 4, [0, 1, 4, 6, 9], [vs7, vs2, vs0, vs2, vs2], []⟩], []⟩ else
 bif kk f k r 156 false 22 then ⟨[0, 1, 4, 6, 9], [vs7, vs2, vs0, vs2, vs2], [⟨.ret, [4, 5], [vs0, vs6], []⟩], []⟩ else
 bif kk f k r 156 false 26 then ⟨[0, 1, 4, 6, 9], [vs7, vs2, vs0, vs2, vs2], [⟨.ret, [4, 5], [vs0, vs6], []⟩, ⟨.normal, [0, 1, 4, 6, 9], [vs7, vs2, vs0, vs2, vs2], []⟩], []⟩ else
 bif kk f k r 156 true 29 then ⟨[0, 1, 4, 6, 9], [vs7, vs2, vs0, vs2, vs2], [⟨.exit 6, [0, 1, 4, 6, 9], [vs7, vs2, vs0, vs2, vs2], []⟩], []⟩ else
 bif kk f k r 156 false 31 then ⟨[0, 1, 4, 6, 9], [vs7, vs2, vs0, vs2, vs2], [⟨.ret, [4, 5], [vs0, vs6], []⟩], []⟩ else
 bif kk f k r 180 true 4 then ⟨[22, 23, 24], [bv3, vs2, vs2], [⟨.ret, [6], [vs6], []⟩, ⟨.exit 0, [], [], []⟩], []⟩ else
 bif kk f k r 181 true 2 then ⟨[3, 4, 5, 9], [vs2, vs5, vs1, vs2], [⟨.ret, [8], [vs6], []⟩, ⟨.exit 0, [], [], []⟩], []⟩ else
 bif kk f k r 187 true 2 then ⟨[2, 11, 12, 13], [bN0, a99, vs2, vs2], [⟨.ret, [2, 5], [bN0, vs6], []⟩, ⟨.exit 0, [2], [bN0], []⟩], []⟩ else
 bif kk f k r 204 true 3 then ⟨[0, 3, 4], [vs7, bz0, vs2], [⟨.ret, [2], [vs2], []⟩, ⟨.exit 0, [0], [vs7], []⟩], []⟩ else
 bif kk f k r 204 true 9 then ⟨[0, 24, 25, 26], [vs7, bz0, vs2, vs2], [⟨.ret, [2], [vs2], []⟩, ⟨.exit 2, [], [], []⟩], []⟩ else
 bif kk f k r 212 true 2 then ⟨[0, 3, 4, 6], [vs7, vs0, vs0, vs2], [⟨.exit 0, [0, 3, 4, 6], [vs7, vs0, vs0, vs2], []⟩], []⟩ else
 bif kk f k r 212 true 8 then ⟨[3, 4, 7, 32, 33, 34], [vs0, vs0, vs7, bz0, vs2, vs2], [⟨.ret, [4, 5], [vs0, vs2], []⟩, ⟨.exit 2, [3, 4, 7], [vs0, vs0, vs7], []⟩], []⟩ else
 bif kk f k r 214 true 7 then ⟨[0, 3, 4, 6], [vs7, vs0, vs0, vs2], [⟨.exit 0, [0, 3, 4, 6], [vs7, vs0, vs0, vs2], []⟩], []⟩ else
 bif kk f k r 214 false 9 then ⟨[0, 3, 4, 6], [vs7, vs0, vs0, vs2], [⟨.ret, [4, 5], [vs0, vs2], []⟩], []⟩ else
 bif kk f k r 214 true 12 then ⟨[0, 3, 4, 6], [vs7, vs0, vs0, vs2], [⟨.exit 2, [0, 3, 4, 6], [vs7, vs0, vs0, vs2], []⟩], []⟩ else
 bif kk f k r 214 false 14 then ⟨[0, 3, 4, 6], [vs7, vs0, vs0, vs2], [⟨.ret, [4, 5], [vs0, vs2], []⟩], []⟩ else
 bif kk f k r 214 true 21 then ⟨[0, 3, 4, 6], [vs7, vs0, vs0, vs2], [⟨.exit 4, [0, 3, 4, 6], [vs7, vs0, vs0, vs2], []⟩], []⟩ else
 bif kk f k r 214 false 23 then ⟨[0, 3, 4, 6], [vs7, vs0, vs0, vs2], [⟨.ret, [4, 5], [vs0, vs2], []⟩], []⟩ else
 bif kk f k r 214 true 26 then ⟨[0, 3, 4, 6, 7, 8], [vs7, vs0, vs0, vs2, aU4, vs2], [⟨.exit 6, [0, 3, 4, 6, 7], [vs7, vs0, vs0, vs2, aU4], []⟩], []⟩ else
 bif kk f k r 215 true 4 then ⟨[0, 3, 4, 6, 7], [vs7, vs0, vs0, vs2, bg7], [⟨.ret, [4, 5], [vs0, vs2], []⟩, ⟨.exit 0, [3, 4, 6], [vs0, vs0, vs2], []⟩], []⟩ else
 bif kk f k r 215 false 24 then ⟨[0, 3, 4, 6, 7, 46, 59], [vs7, vs0, vs0, vs2, bg7, bs6, vs6], [⟨.normal, [0, 3, 4, 6, 7], [vs7, vs0, vs0, vs2, bg7], []⟩, ⟨.ret, [4, 5], [vs0, vs2], []⟩], []⟩ else
 bif kk f k r 215 true 27 then ⟨[0, 3, 4, 6, 7, 9], [vs7, vs0, vs0, vs2, bg7, vs2], [⟨.ret, [4, 5], [vs0, vs2], []⟩, ⟨.exit 3, [0, 3, 4, 6, 7], [vs7, vs0, vs0, vs2, bg7], []⟩], []⟩ else
 bif kk f k r 236 false 21 then ⟨[0, 1, 2, 8, 9], [vs7, vs2, vs2, vs6, vs7], [⟨.ret, [6, 7], [aU4, bM7], []⟩], []⟩ else
 bif kk f k r 236 false 25 then ⟨[0, 1, 2, 8, 9], [vs7, vs2, vs2, vs6, vs7], [⟨.ret, [6, 7], [aU4, bM7], []⟩], []⟩ else
 bif kk f k r 236 false 32 then ⟨[0, 1, 2, 8, 9, 10], [vs7, vs2, vs2, vs6, vs7, aU4], [⟨.ret, [6, 7], [aU4, bM7], []⟩], []⟩ else
 bif kk f k r 236 true 36 then ⟨[1, 8, 9, 10, 11, 12, 13, 99, 100, 101], [vs2, vs6, vs7, aU4, aU4, vs6, aU4, bX4, vs2, vs2], [⟨.ret, [6, 7], [aU4, bM7], []⟩, ⟨.exit 3, [9, 12, 13], [vs7, vs6, aU4], []⟩], []⟩ else
 bif kk f k r 236 false 46 then ⟨[1, 8, 9, 10, 11, 12, 13, 16, 99, 100, 101], [vs2, vs6, vs7, aU4, aU4, vs6, aU4, bs6, bX4, vs2, vs2], [⟨.ret, [6, 7], [aU4, bM7], []⟩, ⟨.normal, [1, 8, 9, 10, 11, 12, 13, 99, 100, 101], [vs2, vs6, vs7, aU4, aU4, vs6, aU4, bX4, vs2, vs2], []⟩], []⟩ else
 bif kk f k r 249 true 3 then ⟨[0, 3, 4, 6, 7], [vs7, vs0, vs0, vs2, aU4], [⟨.ret, [4, 5], [vs0, vs2], []⟩, ⟨.exit 0, [3, 4, 6, 7], [vs0, vs0, vs2, aU4], []⟩], []⟩ else
 bif kk f k r 258 false 5 then ⟨[0, 3, 4], [vs7, bW2, vs2], [⟨.ret, [2], [vs6], []⟩], []⟩ else
 bif kk f k r 258 false 10 then ⟨[0, 3, 4, 5], [vs7, bW2, vs2, vs6], [⟨.ret, [2], [vs6], []⟩], []⟩ else
 bif kk f k r 258 true 10 then ⟨[0, 3, 4, 5], [vs7, bW2, vs2, vs6], [⟨.ret, [2], [vs6], []⟩, ⟨.exit 0, [3], [bW2], []⟩], []⟩ else
 ⟨[], [], [], []⟩
def lib (f : Nat) : Option Callee :=
 bif Nat.beq f 80 then some ⟨⟨[.one (.ptr false (0, Bld.places) .bld), .one (.pub (.int .u8))], .val (.one .err)⟩, Bld.Q5⟩ else
 bif Nat.beq f 52 then some ⟨⟨[.one (.ptr false (0, Bld.places) .bld), .one (.pub .str)], .tup [.one (.pub (.int .i64)), .one .err]⟩, Bld.L7⟩ else
 bif Nat.beq f 54 then some ⟨⟨[.one (.tak Bld.places)], .val (.one (.pub .str))⟩, Bld.au3⟩ else
 bif Nat.beq f 198 then some ⟨⟨[.one (.pub .str), .one (.pub (.int .u8))], .val (.one (.pub (.int .i64)))⟩, Bld.al4⟩ else
 bif Nat.beq f 235 then some ⟨⟨[.one (.pub .str), .one (.pub (.int .i64)), .one (.pub (.int .i64))], .tup [.one (.pub (.int .i64)), .one .err]⟩, Lx.af5⟩ else
 bif Nat.beq f 50 then some ⟨⟨[.one (.pub (.int .i64)), .one (.pub (.int .i64))], .val (.one (.pub .str))⟩, Lx.Z8⟩ else
 bif Nat.beq f 49 then some ⟨⟨[.one (.pub (.int .i64))], .val (.one (.pub .str))⟩, Lx.ax5⟩ else
 bif Nat.beq f 53 then some ⟨⟨[.one (.pub (.sl .str)), .one (.pub .str)], .val (.one (.pub .str))⟩, Lx.ba7⟩ else
 none
noncomputable def S : Sys := { P := Tryz.prog, glob := fun k => bif Nat.beq k 2 then some [.v (.sl .str) Lx.words] else bif Nat.beq k 3 then some [.v (.sl .str) Lx.ag1] else bif Nat.beq k 4 then some [.v (.sl .str) Lx.aA2] else Lx.tables k, cl := 94, sig := sig, known := known, az0 := az0, an8 := an8, cut := cut, lib := lib, bors := [(5, 15), (5, 25)], nest := fun f => Nat.beq f 43, trim := fun f => Nat.beq f 146 }
theorem bT7 : (fns.all S.bO5) = true := by kernel_rfl
theorem eF {f : FuncId} {fn : Func} (h : S.P.funcs[f]? = some fn) {T : S.Tab} {x : (S.sig f).dom.den} {y : Option (S.sig f).cod.den} (e : bl3 (S.env T f fn.ntmps) fn (S.sig f) (S.bm9 T f) x = y) : (S.step T).fn f x = y := (Sys.bQ0 (S := S) h T x).trans e
theorem eL {f : FuncId} {fn : Func} {c : Code} (h : S.P.funcs[f]? = some fn) (hb : fn.body = some c) {T : S.Tab} {r : Nat} {x : (z6 (S.cut f true r).as).den} {y : Option (al5 (S.cut f true r).ws)} (e : (S.cut f true r).round (S.env T f fn.ntmps) (S.bm9 T f) (W4 true r (r6 c)) (T.pc f true r) x = y) : (S.step T).pc f true r x = y := (Sys.bI5 (S := S) h hb T x).trans e
theorem eJ {f : FuncId} {fn : Func} {c : Code} (h : S.P.funcs[f]? = some fn) (hb : fn.body = some c) {T : S.Tab} {r : Nat} {x : (z6 (S.cut f false r).as).den} {y : Option (al5 (S.cut f false r).ws)} (e : (S.cut f false r).tail (S.env T f fn.ntmps) (S.bm9 T f) (W4 false r (r6 c)) x = y) : (S.step T).pc f false r x = y := (Sys.bG8 (S := S) h hb T x).trans e
abbrev V5 : Unit × Unit × Unit := ((), ((), ()))
def M7 (T : S.Tab) (t0 : List (List Int)) (t1 : Int) : Option (Int × Unit × Unit × Unit) := T.fn 112 (t0, t1, ())
def B7 (T : S.Tab) (t0 : List (List Int)) (t1 : Int) (t5 : Int) : Option ((Int × Unit) ⊕ (Int × Unit) ⊕ Empty) := T.pc 112 true 5 (t0, t1, t5, ())
abbrev ap3 : Unit × Unit × Unit := ((), ((), ()))
def ae7 (T : S.Tab) (t0 : List Int) (t1 : Int) : Option (Int × Unit × Unit × Unit) := T.fn 113 (t0, t1, ())
abbrev T0 : (Unit × Unit × Unit × Unit × Unit × Unit × Unit × Unit × Unit × Unit) × Unit × Unit := (((), ((), ((), ((), ((), ((), ((), ((), ((), ()))))))))), ((), ()))
def W2 (T : S.Tab) (t0 : b8.den) (t1 : Int) : Option (Int × (Unit × Unit × Unit × Unit × Unit × Unit × Unit × Unit × Unit × Unit) × Unit × Unit) := T.fn 70 (t0, t1, ())
abbrev aa3 : Unit × Unit × Unit := ((), ((), ()))
def X0 (T : S.Tab) (t0 : List b8.den) (t1 : Int) : Option (Int × Unit × Unit × Unit) := T.fn 37 (t0, t1, ())
def F2 (T : S.Tab) (t0 : List b8.den) (t1 : Int) (t5 : Int) : Option ((Int × Unit) ⊕ (Int × Unit) ⊕ Empty) := T.pc 37 true 5 (t0, t1, t5, ())
abbrev ao7 : (Unit × Unit) × Unit × Unit := (((), ()), ((), ()))
def aq9 (T : S.Tab) (t0 : List b8.den × Unit) (t1 : Int) : Option (Int × (Unit × Unit) × Unit × Unit) := T.fn 10 (t0, t1, ())
abbrev as8 : Unit × Unit := ((), ())
def U8 (T : S.Tab) (t0 : List (List Int)) : Option (List (List Int) × Unit × Unit) := T.fn 117 (t0, ())
def G6 (T : S.Tab) (t0 : List (List Int)) (t3 : List (List Int)) (t4 : Int) : Option ((List (List Int) × Unit) ⊕ Empty) := T.pc 117 true 3 (t0, t3, t4, ())
abbrev aC6 : Unit × Unit := ((), ())
def ae9 (T : S.Tab) (t0 : List Int) : Option (List Int × Unit × Unit) := T.fn 118 (t0, ())
def M8 (T : S.Tab) (t0 : List Int) (t3 : List Int) (t4 : Int) : Option ((List Int × Unit) ⊕ Empty) := T.pc 118 true 3 (t0, t3, t4, ())
abbrev aE9 : (Unit × Unit × Unit × Unit × Unit × Unit × Unit × Unit × Unit × Unit) × Unit := (((), ((), ((), ((), ((), ((), ((), ((), ((), ()))))))))), ())
def ar0 (T : S.Tab) (t0 : b8.den) : Option (b8.den × (Unit × Unit × Unit × Unit × Unit × Unit × Unit × Unit × Unit × Unit) × Unit) := T.fn 73 (t0, ())
abbrev ax9 : Unit × Unit := ((), ())
def ab3 (T : S.Tab) (t0 : List b8.den) : Option (List b8.den × Unit × Unit) := T.fn 39 (t0, ())
def K1 (T : S.Tab) (t0 : List b8.den) (t3 : List b8.den) (t4 : Int) : Option ((List b8.den × Unit) ⊕ Empty) := T.pc 39 true 3 (t0, t3, t4, ())
abbrev aE7 : (Unit × Unit) × Unit := (((), ()), ())
def Z7 (T : S.Tab) (t0 : List b8.den × Unit) : Option ((List b8.den × Unit) × (Unit × Unit) × Unit) := T.fn 12 (t0, ())
abbrev ad4 : Unit × Unit := ((), ())
def S4 (T : S.Tab) (t0 : Int) : Option (Bool × Unit × Unit) := T.fn 114 (t0, ())
abbrev O9 : (Unit × Unit) × (Unit × Unit × Unit × Unit × Unit × Unit × Unit × Unit × Unit × Unit) × Unit × Unit := (((), ()), (((), ((), ((), ((), ((), ((), ((), ((), ((), ()))))))))), ((), ())))
def r7 (T : S.Tab) (t0 : List b8.den × Unit) (t1 : b8.den) (t2 : Int) : Option (Int × (Unit × Unit) × (Unit × Unit × Unit × Unit × Unit × Unit × Unit × Unit × Unit × Unit) × Unit × Unit) := T.fn 178 (t0, t1, t2, ())
abbrev r4 : (Unit × Unit × Unit × Unit × Unit × Unit × Unit × Unit × Unit × Unit) × Unit × Unit × Unit × Unit × Unit := (((), ((), ((), ((), ((), ((), ((), ((), ((), ()))))))))), ((), ((), ((), ((), ())))))
def q8 (T : S.Tab) (t0 : b8.den) (t1 : Bool) (t2 : Bool) (t3 : Bool) (t4 : Bool) : Option (Bool × (Unit × Unit × Unit × Unit × Unit × Unit × Unit × Unit × Unit × Unit) × Unit × Unit × Unit × Unit × Unit) := T.fn 179 (t0, t1, t2, t3, t4, ())
abbrev H9 : Unit × Unit := ((), ())
def Y3 (T : S.Tab) (t0 : Int) : Option (Bool × Unit × Unit) := T.fn 211 (t0, ())
abbrev aq8 : Unit × Unit × Unit := ((), ((), ()))
def x7 (T : S.Tab) (t0 : List Int) (t1 : Int) : Option (Int × Unit × Unit × Unit) := T.fn 210 (t0, t1, ())
abbrev ak9 : Unit × Unit := ((), ())
def D8 (T : S.Tab) (t0 : Int) : Option (Bool × Unit × Unit) := T.fn 213 (t0, ())
abbrev ay0 : Unit := ()
def av2 (T : S.Tab) : Option (List (List Int) × Unit) := T.fn 202 ()
abbrev ap4 : Unit × (Unit × Unit × Unit × Unit × Unit × Unit × Unit) × Unit := ((), (((), ((), ((), ((), ((), ((), ())))))), ()))
def ar6 (T : S.Tab) (t0 : List Int) (t1 : l8.den) : Option ((l8.den × Int × Unit) × Unit × (Unit × Unit × Unit × Unit × Unit × Unit × Unit) × Unit) := T.fn 212 (t0, t1, ())
def H2 (T : S.Tab) (t0 : List Int) (t3 : l8.den) (t4 : l8.den) (t6 : Int) : Option ((List Int × l8.den × l8.den × Int × Unit) ⊕ Empty) := T.pc 212 true 2 (t0, t3, t4, t6, ())
def H3 (T : S.Tab) (t3 : l8.den) (t4 : l8.den) (t7 : List Int) (t32 : List (List Int)) (t33 : Int) (t34 : Int) : Option ((l8.den × Int × Unit) ⊕ (l8.den × l8.den × List Int × Unit) ⊕ Empty) := T.pc 212 true 8 (t3, t4, t7, t32, t33, t34, ())
abbrev ab6 : Unit × Unit := ((), ())
def Z4 (T : S.Tab) (t0 : Int) : Option (Int × Unit × Unit) := T.fn 250 (t0, ())
abbrev aa7 : Unit × (Unit × Unit × Unit × Unit × Unit × Unit × Unit) × Unit := ((), (((), ((), ((), ((), ((), ((), ())))))), ()))
def ai3 (T : S.Tab) (t0 : List Int) (t1 : l8.den) : Option ((l8.den × Int × Unit) × Unit × (Unit × Unit × Unit × Unit × Unit × Unit × Unit) × Unit) := T.fn 249 (t0, t1, ())
def F7 (T : S.Tab) (t0 : List Int) (t3 : l8.den) (t4 : l8.den) (t6 : Int) (t7 : Int) : Option ((l8.den × Int × Unit) ⊕ (l8.den × l8.den × Int × Int × Unit) ⊕ Empty) := T.pc 249 true 3 (t0, t3, t4, t6, t7, ())
abbrev N6 : Unit × (Unit × Unit × Unit × Unit × Unit × Unit × Unit) × Unit := ((), (((), ((), ((), ((), ((), ((), ())))))), ()))
def T1 (T : S.Tab) (t0 : List Int) (t1 : l8.den) : Option ((l8.den × Int × Unit) × Unit × (Unit × Unit × Unit × Unit × Unit × Unit × Unit) × Unit) := T.fn 214 (t0, t1, ())
def D3 (T : S.Tab) (t0 : List Int) (t3 : l8.den) (t4 : l8.den) (t6 : Int) : Option ((l8.den × Int × Unit) ⊕ Empty) := T.pc 214 false 9 (t0, t3, t4, t6, ())
def w9 (T : S.Tab) (t0 : List Int) (t3 : l8.den) (t4 : l8.den) (t6 : Int) : Option ((l8.den × Int × Unit) ⊕ Empty) := T.pc 214 false 14 (t0, t3, t4, t6, ())
def x4 (T : S.Tab) (t0 : List Int) (t3 : l8.den) (t4 : l8.den) (t6 : Int) : Option ((l8.den × Int × Unit) ⊕ Empty) := T.pc 214 false 23 (t0, t3, t4, t6, ())
def D4 (T : S.Tab) (t0 : List Int) (t3 : l8.den) (t4 : l8.den) (t6 : Int) : Option ((List Int × l8.den × l8.den × Int × Unit) ⊕ Empty) := T.pc 214 true 7 (t0, t3, t4, t6, ())
def D9 (T : S.Tab) (t0 : List Int) (t3 : l8.den) (t4 : l8.den) (t6 : Int) : Option ((List Int × l8.den × l8.den × Int × Unit) ⊕ Empty) := T.pc 214 true 12 (t0, t3, t4, t6, ())
def w7 (T : S.Tab) (t0 : List Int) (t3 : l8.den) (t4 : l8.den) (t6 : Int) : Option ((List Int × l8.den × l8.den × Int × Unit) ⊕ Empty) := T.pc 214 true 21 (t0, t3, t4, t6, ())
def r5 (T : S.Tab) (t0 : List Int) (t3 : l8.den) (t4 : l8.den) (t6 : Int) (t7 : Int) (t8 : Int) : Option ((List Int × l8.den × l8.den × Int × Int × Unit) ⊕ Empty) := T.pc 214 true 26 (t0, t3, t4, t6, t7, t8, ())
abbrev af1 : Unit × (Unit × Unit × Unit × Unit × Unit × Unit × Unit) × Unit := ((), (((), ((), ((), ((), ((), ((), ())))))), ()))
def ad5 (T : S.Tab) (t0 : List Int) (t1 : l8.den) : Option ((l8.den × Int × Unit) × Unit × (Unit × Unit × Unit × Unit × Unit × Unit × Unit) × Unit) := T.fn 215 (t0, t1, ())
def z7 (T : S.Tab) (t0 : List Int) (t3 : l8.den) (t4 : l8.den) (t6 : Int) (t7 : List Int) (t46 : Int) (t59 : Bool) : Option ((List Int × l8.den × l8.den × Int × List Int × Unit) ⊕ (l8.den × Int × Unit) ⊕ Empty) := T.pc 215 false 24 (t0, t3, t4, t6, t7, t46, t59, ())
def o9 (T : S.Tab) (t0 : List Int) (t3 : l8.den) (t4 : l8.den) (t6 : Int) (t7 : List Int) : Option ((l8.den × Int × Unit) ⊕ (l8.den × l8.den × Int × Unit) ⊕ Empty) := T.pc 215 true 4 (t0, t3, t4, t6, t7, ())
def A8 (T : S.Tab) (t0 : List Int) (t3 : l8.den) (t4 : l8.den) (t6 : Int) (t7 : List Int) (t9 : Int) : Option ((l8.den × Int × Unit) ⊕ (List Int × l8.den × l8.den × Int × List Int × Unit) ⊕ Empty) := T.pc 215 true 27 (t0, t3, t4, t6, t7, t9, ())
abbrev ay1 : Unit := ()
def ah0 (T : S.Tab) : Option (List (List Int) × Unit) := T.fn 203 ()
abbrev S9 : Unit × Unit := ((), ())
def V8 (T : S.Tab) (t0 : List Int) : Option (Int × Unit × Unit) := T.fn 204 (t0, ())
def E6 (T : S.Tab) (t0 : List Int) (t3 : List (List Int)) (t4 : Int) : Option ((Int × Unit) ⊕ (List Int × Unit) ⊕ Empty) := T.pc 204 true 3 (t0, t3, t4, ())
def H0 (T : S.Tab) (t0 : List Int) (t24 : List (List Int)) (t25 : Int) (t26 : Int) : Option ((Int × Unit) ⊕ (Unit) ⊕ Empty) := T.pc 204 true 9 (t0, t24, t25, t26, ())
abbrev P8 : Unit × Unit × Unit := ((), ((), ()))
def K6 (T : S.Tab) (t0 : List Int) (t1 : Int) : Option ((l8.den × Int × Unit) × Unit × Unit × Unit) := T.fn 144 (t0, t1, ())
def C9 (T : S.Tab) (t0 : List Int) (t1 : Int) (t4 : l8.den) (t6 : l8.den) (t43 : List (List Int)) (t44 : Int) (t45 : Int) : Option ((l8.den × Int × Unit) ⊕ (Int × l8.den × l8.den × Unit) ⊕ Empty) := T.pc 144 true 14 (t0, t1, t4, t6, t43, t44, t45, ())
abbrev F1 : Unit × Unit := ((), ())
def A9 (T : S.Tab) (t0 : List Int) : Option (Bool × Unit × Unit) := T.fn 184 (t0, ())
abbrev Q6 : (Unit × Unit × Unit × Unit × Unit × Unit × Unit × Unit × Unit × Unit) × Unit × Unit × Unit := (((), ((), ((), ((), ((), ((), ((), ((), ((), ()))))))))), ((), ((), ())))
def H8 (T : S.Tab) (t0 : b8.den) (t1 : Int) (t2 : Int) : Option (Bool × (Unit × Unit × Unit × Unit × Unit × Unit × Unit × Unit × Unit × Unit) × Unit × Unit × Unit) := T.fn 180 (t0, t1, t2, ())
def F0 (T : S.Tab) (t22 : List (List Int)) (t23 : Int) (t24 : Int) : Option ((Bool × Unit) ⊕ (Unit) ⊕ Empty) := T.pc 180 true 4 (t22, t23, t24, ())
abbrev ap6 : Unit × Unit := ((), ())
def ao8 (T : S.Tab) (t0 : Int) : Option (Bool × Unit × Unit) := T.fn 242 (t0, ())
abbrev v8 : (Unit × Unit) × (Unit × Unit × Unit × Unit × Unit × Unit × Unit × Unit × Unit × Unit) × Unit × Unit × Unit := (((), ()), (((), ((), ((), ((), ((), ((), ((), ((), ((), ()))))))))), ((), ((), ()))))
def p4 (T : S.Tab) (t0 : List b8.den × Unit) (t1 : b8.den) (t2 : Int) (t3 : Int) : Option (Bool × (Unit × Unit) × (Unit × Unit × Unit × Unit × Unit × Unit × Unit × Unit × Unit × Unit) × Unit × Unit × Unit) := T.fn 181 (t0, t1, t2, t3, ())
def N2 (T : S.Tab) (t3 : Int) (t4 : List b8.den × Unit) (t5 : b8.den) (t9 : Int) : Option ((Bool × Unit) ⊕ (Unit) ⊕ Empty) := T.pc 181 true 2 (t3, t4, t5, t9, ())
abbrev Y9 : Unit × Unit := ((), ())
def ad9 (T : S.Tab) (t0 : Int) : Option (Bool × Unit × Unit) := T.fn 182 (t0, ())
abbrev j9 : (Unit × Unit) × (Unit × Unit × Unit × Unit × Unit × Unit × Unit × Unit × Unit × Unit) × Unit := (((), ()), (((), ((), ((), ((), ((), ((), ((), ((), ((), ()))))))))), ()))
def Q1 (T : S.Tab) (t0 : List b8.den × Unit) (t1 : b8.den) : Option (Bool × (Unit × Unit) × (Unit × Unit × Unit × Unit × Unit × Unit × Unit × Unit × Unit × Unit) × Unit) := T.fn 115 (t0, t1, ())
def J0 (T : S.Tab) (t2 : List b8.den × Unit) (t3 : b8.den) (t5 : Int) (t12 : Int) (t113 : Bool) : Option ((Bool × Unit) ⊕ ((List b8.den × Unit) × b8.den × Int × Unit) ⊕ Empty) := T.pc 115 false 28 (t2, t3, t5, t12, t113, ())
def G2 (T : S.Tab) (t2 : List b8.den × Unit) (t3 : b8.den) (t5 : Int) (t12 : Int) (t240 : Bool) : Option ((Bool × Unit) ⊕ ((List b8.den × Unit) × b8.den × Int × Unit) ⊕ Empty) := T.pc 115 false 41 (t2, t3, t5, t12, t240, ())
def C2 (T : S.Tab) (t2 : List b8.den × Unit) (t3 : b8.den) (t5 : Int) : Option ((Bool × Unit) ⊕ Empty) := T.pc 115 false 46 (t2, t3, t5, ())
def x6 (T : S.Tab) (t2 : List b8.den × Unit) (t3 : b8.den) (t17 : Int) (t18 : Int) : Option ((Bool × Unit) ⊕ (b8.den × Unit) ⊕ Empty) := T.pc 115 true 5 (t2, t3, t17, t18, ())
def s5 (T : S.Tab) (t2 : List b8.den × Unit) (t3 : b8.den) (t5 : Int) (t7 : Int) : Option ((Bool × Unit) ⊕ ((List b8.den × Unit) × b8.den × Int × Unit) ⊕ Empty) := T.pc 115 true 21 (t2, t3, t5, t7, ())
abbrev J5 : Unit × Unit := ((), ())
def L8 (T : S.Tab) (t0 : List Int) : Option (Bool × Unit × Unit) := T.fn 183 (t0, ())
abbrev r9 : (Unit × Unit) × (Unit × Unit × Unit × Unit × Unit × Unit × Unit × Unit × Unit × Unit) × Unit := (((), ()), (((), ((), ((), ((), ((), ((), ((), ((), ((), ()))))))))), ()))
def N8 (T : S.Tab) (t0 : List b8.den × Unit) (t1 : b8.den) : Option (Bool × (Unit × Unit) × (Unit × Unit × Unit × Unit × Unit × Unit × Unit × Unit × Unit × Unit) × Unit) := T.fn 116 (t0, t1, ())
def C1 (T : S.Tab) (t2 : List b8.den × Unit) (t3 : b8.den) (t5 : Int) (t12 : Int) (t13 : Bool) : Option ((Bool × Unit) ⊕ ((List b8.den × Unit) × b8.den × Int × Unit) ⊕ Empty) := T.pc 116 false 7 (t2, t3, t5, t12, t13, ())
def D6 (T : S.Tab) (t2 : List b8.den × Unit) (t3 : b8.den) (t5 : Int) (t12 : Int) (t72 : Bool) : Option ((Bool × Unit) ⊕ ((List b8.den × Unit) × b8.den × Int × Unit) ⊕ Empty) := T.pc 116 false 18 (t2, t3, t5, t12, t72, ())
def u9 (T : S.Tab) (t2 : List b8.den × Unit) (t3 : b8.den) (t5 : Int) : Option ((Bool × Unit) ⊕ Empty) := T.pc 116 false 46 (t2, t3, t5, ())
def u6 (T : S.Tab) (t2 : List b8.den × Unit) (t3 : b8.den) (t199 : Int) (t200 : Int) : Option ((Bool × Unit) ⊕ (b8.den × Unit) ⊕ Empty) := T.pc 116 true 31 (t2, t3, t199, t200, ())
abbrev A1 : (Unit × Unit) × Unit × Unit := (((), ()), ((), ()))
def w6 (T : S.Tab) (t0 : List b8.den × Unit) (t1 : Int) : Option (Bool × (Unit × Unit) × Unit × Unit) := T.fn 71 (t0, t1, ())
def A4 (T : S.Tab) (t1 : Int) (t2 : List b8.den × Unit) (t5 : b8.den) (t35 : List Int) (t36 : Int) (t37 : Int) : Option ((Bool × Unit) ⊕ ((List b8.den × Unit) × b8.den × Unit) ⊕ Empty) := T.pc 71 true 5 (t1, t2, t5, t35, t36, t37, ())
abbrev ay9 : (Unit × Unit) × Unit := (((), ()), ())
def S2 (T : S.Tab) (t0 : List b8.den × Unit) : Option (List Int × (Unit × Unit) × Unit) := T.fn 72 (t0, ())
def w8 (T : S.Tab) (t3 : List Int) (t15 : List b8.den) (t16 : Int) (t17 : Int) : Option ((List Int × Unit) ⊕ Empty) := T.pc 72 true 3 (t3, t15, t16, t17, ())
def C6 (T : S.Tab) (t3 : List Int) (t4 : Int) (t5 : b8.den) (t6 : Int) (t7 : Bool) (t8 : Int) (t15 : List b8.den) (t16 : Int) (t17 : Int) : Option ((List Int × Int × Int × Bool × List b8.den × Int × Int × Unit) ⊕ Empty) := T.pc 72 true 8 (t3, t4, t5, t6, t7, t8, t15, t16, t17, ())
abbrev F4 : (Unit × Unit) × Unit := (((), ()), ())
def G8 (T : S.Tab) (t0 : List b8.den × Unit) : Option ((Int × Int × Unit) × (Unit × Unit) × Unit) := T.fn 38 (t0, ())
def E2 (T : S.Tab) (t1 : List b8.den × Unit) (t2 : Int × Int × Unit) (t38 : Int) (t39 : Int) : Option (((Int × Int × Unit) × Unit) ⊕ ((List b8.den × Unit) × (Int × Int × Unit) × Unit) ⊕ Empty) := T.pc 38 true 4 (t1, t2, t38, t39, ())
def A0 (T : S.Tab) (t1 : List b8.den × Unit) (t2 : Int × Int × Unit) (t4 : List Int) (t51 : List Int) (t52 : Int) (t53 : Int) : Option (((Int × Int × Unit) × Unit) ⊕ ((List b8.den × Unit) × (Int × Int × Unit) × List Int × Unit) ⊕ Empty) := T.pc 38 true 11 (t1, t2, t4, t51, t52, t53, ())
def K5 (T : S.Tab) (t1 : List b8.den × Unit) (t2 : Int × Int × Unit) (t7 : List Int) (t8 : Int) : Option (((Int × Int × Unit) × List Int × Unit) ⊕ Empty) := T.pc 38 true 20 (t1, t2, t7, t8, ())
def I4 (T : S.Tab) (t1 : List b8.den × Unit) (t2 : Int × Int × Unit) (t7 : List Int) (t8 : Int) (t93 : List Int) (t94 : Int) (t95 : Int) : Option (((List b8.den × Unit) × (Int × Int × Unit) × List Int × Int × Unit) ⊕ Empty) := T.pc 38 true 23 (t1, t2, t7, t8, t93, t94, t95, ())
def F3 (T : S.Tab) (t2 : Int × Int × Unit) (t108 : List Int) (t109 : Int) (t110 : Int) : Option (((Int × Int × Unit) × Unit) ⊕ ((Int × Int × Unit) × Unit) ⊕ Empty) := T.pc 38 true 28 (t2, t108, t109, t110, ())
abbrev V6 : Unit × Unit := ((), ())
def E4 (T : S.Tab) (t0 : Int) : Option (List Int × Unit × Unit) := T.fn 67 (t0, ())
def M4 (T : S.Tab) (t4 : List Int) (t6 : List Int) : Option ((List Int × Unit) ⊕ Empty) := T.pc 67 false 14 (t4, t6, ())
def D7 (T : S.Tab) (t0 : Int) (t3 : Bool) (t4 : List Int) : Option ((Bool × List Int × Unit) ⊕ Empty) := T.pc 67 true 5 (t0, t3, t4, ())
def I6 (T : S.Tab) (t4 : List Int) (t6 : List Int) (t7 : Int) : Option ((List Int × Unit) ⊕ Empty) := T.pc 67 true 15 (t4, t6, t7, ())
abbrev aW8 : Unit × Unit := ((), ())
def ab0 (T : S.Tab) (t0 : List Int) : Option (List Int × Unit × Unit) := T.fn 77 (t0, ())
def s6 (T : S.Tab) (t0 : List Int) (t3 : List Int) (t4 : List Int) (t5 : Int) : Option ((List Int × Unit) ⊕ Empty) := T.pc 77 true 4 (t0, t3, t4, t5, ())
abbrev aG1 : (Unit × Unit × Unit × Unit × Unit × Unit × Unit × Unit × Unit × Unit) × Unit := (((), ((), ((), ((), ((), ((), ((), ((), ((), ()))))))))), ())
def aq3 (T : S.Tab) (t0 : b8.den) : Option (List Int × (Unit × Unit × Unit × Unit × Unit × Unit × Unit × Unit × Unit × Unit) × Unit) := T.fn 48 (t0, ())
def J4 (T : S.Tab) (t1 : b8.den) (t3 : List Int) (t22 : List Int) (t23 : Int) (t24 : Int) : Option ((b8.den × List Int × Unit) ⊕ Empty) := T.pc 48 true 3 (t1, t3, t22, t23, t24, ())
def J6 (T : S.Tab) (t1 : b8.den) (t3 : List Int) (t46 : List (List Int)) (t47 : Int) (t48 : Int) : Option ((b8.den × List Int × Unit) ⊕ Empty) := T.pc 48 true 9 (t1, t3, t46, t47, t48, ())
def I3 (T : S.Tab) (t3 : List Int) (t65 : List Int) (t66 : Int) (t67 : Int) : Option ((List Int × Unit) ⊕ Empty) := T.pc 48 true 15 (t3, t65, t66, t67, ())
abbrev ap5 : (Unit × Unit) × Unit := (((), ()), ())
def aw1 (T : S.Tab) (t0 : List b8.den × Unit) : Option (List Int × (Unit × Unit) × Unit) := T.fn 24 (t0, ())
def O7 (T : S.Tab) (t4 : List Int) (t13 : List b8.den) (t14 : Int) (t15 : Int) : Option ((List Int × Unit) ⊕ Empty) := T.pc 24 true 6 (t4, t13, t14, t15, ())
abbrev au6 : Unit × Unit × Unit × Unit := ((), ((), ((), ())))
def W0 (T : S.Tab) (t0 : Int) (t1 : Int) (t2 : Int) : Option (Bool × Unit × Unit × Unit × Unit) := T.fn 185 (t0, t1, t2, ())
abbrev M0 : Unit × Unit := ((), ())
def Z3 (T : S.Tab) (t0 : Int) : Option (Bool × Unit × Unit) := T.fn 153 (t0, ())
abbrev au2 : Unit × Unit := ((), ())
def N1 (T : S.Tab) (t0 : Int) : Option (Bool × Unit × Unit) := T.fn 154 (t0, ())
abbrev aB4 : Unit × Unit := ((), ())
def aD1 (T : S.Tab) (t0 : List Int) : Option (Int × Unit × Unit) := T.fn 155 (t0, ())
def L9 (T : S.Tab) (t0 : List Int) (t5 : List (List Int)) (t6 : Int) (t7 : Int) : Option ((Int × Unit) ⊕ (Unit) ⊕ Empty) := T.pc 155 true 2 (t0, t5, t6, t7, ())
abbrev ao9 : Unit × Unit := ((), ())
def at7 (T : S.Tab) (t0 : Int) : Option (Bool × Unit × Unit) := T.fn 157 (t0, ())
abbrev al3 : Unit × Unit := ((), ())
def n8 (T : S.Tab) (t0 : Int) : Option (Int × Unit × Unit) := T.fn 257 (t0, ())
def at2 (T : S.Tab) (t0 : List Int) : Option (Bool × Unit × Unit) := T.fn 258 (t0, ())
abbrev j3 : Unit × Unit × Unit × Unit := ((), ((), ((), ())))
def P7 (T : S.Tab) (t0 : List Int) (t1 : Int) (t2 : Int) : Option ((Int × Bool × Unit) × Unit × Unit × Unit × Unit) := T.fn 236 (t0, t1, t2, ())
def j0 (T : S.Tab) (t0 : List Int) (t1 : Int) (t2 : Int) (t8 : Bool) (t9 : List Int) : Option ((Int × Bool × Unit) ⊕ Empty) := T.pc 236 false 21 (t0, t1, t2, t8, t9, ())
def E8 (T : S.Tab) (t0 : List Int) (t1 : Int) (t2 : Int) (t8 : Bool) (t9 : List Int) : Option ((Int × Bool × Unit) ⊕ Empty) := T.pc 236 false 25 (t0, t1, t2, t8, t9, ())
def B0 (T : S.Tab) (t0 : List Int) (t1 : Int) (t2 : Int) (t8 : Bool) (t9 : List Int) (t10 : Int) : Option ((Int × Bool × Unit) ⊕ Empty) := T.pc 236 false 32 (t0, t1, t2, t8, t9, t10, ())
def u5 (T : S.Tab) (t1 : Int) (t8 : Bool) (t9 : List Int) (t10 : Int) (t11 : Int) (t12 : Bool) (t13 : Int) (t16 : Int) (t99 : List Int) (t100 : Int) (t101 : Int) : Option ((Int × Bool × Unit) ⊕ (Int × Bool × List Int × Int × Int × Bool × Int × List Int × Int × Int × Unit) ⊕ Empty) := T.pc 236 false 46 (t1, t8, t9, t10, t11, t12, t13, t16, t99, t100, t101, ())
def p8 (T : S.Tab) (t1 : Int) (t8 : Bool) (t9 : List Int) (t10 : Int) (t11 : Int) (t12 : Bool) (t13 : Int) (t99 : List Int) (t100 : Int) (t101 : Int) : Option ((Int × Bool × Unit) ⊕ (List Int × Bool × Int × Unit) ⊕ Empty) := T.pc 236 true 36 (t1, t8, t9, t10, t11, t12, t13, t99, t100, t101, ())
abbrev af2 : Unit × Unit × Unit × Unit := ((), ((), ((), ())))
def G9 (T : S.Tab) (t0 : List Int) (t1 : Int) (t2 : Int) : Option ((Int × Bool × Unit) × Unit × Unit × Unit × Unit) := T.fn 158 (t0, t1, t2, ())
abbrev B9 : Unit × Unit × Unit := ((), ((), ()))
def S6 (T : S.Tab) (t0 : List Int) (t1 : Int) : Option ((l8.den × Bool × Unit) × Unit × Unit × Unit) := T.fn 156 (t0, t1, ())
def C4 (T : S.Tab) (t0 : List Int) (t1 : Int) (t4 : l8.den) (t6 : Int) : Option ((l8.den × Bool × Unit) ⊕ Empty) := T.pc 156 false 17 (t0, t1, t4, t6, ())
def E9 (T : S.Tab) (t0 : List Int) (t1 : Int) (t4 : l8.den) (t6 : Int) (t9 : Int) : Option ((l8.den × Bool × Unit) ⊕ Empty) := T.pc 156 false 22 (t0, t1, t4, t6, t9, ())
def H4 (T : S.Tab) (t0 : List Int) (t1 : Int) (t4 : l8.den) (t6 : Int) (t9 : Int) : Option ((l8.den × Bool × Unit) ⊕ (List Int × Int × l8.den × Int × Int × Unit) ⊕ Empty) := T.pc 156 false 26 (t0, t1, t4, t6, t9, ())
def C5 (T : S.Tab) (t0 : List Int) (t1 : Int) (t4 : l8.den) (t6 : Int) (t9 : Int) : Option ((l8.den × Bool × Unit) ⊕ Empty) := T.pc 156 false 31 (t0, t1, t4, t6, t9, ())
def J3 (T : S.Tab) (t0 : List Int) (t1 : Int) (t4 : l8.den) (t6 : Int) : Option ((List Int × Int × l8.den × Int × Unit) ⊕ Empty) := T.pc 156 true 5 (t0, t1, t4, t6, ())
def D0 (T : S.Tab) (t0 : List Int) (t1 : Int) (t4 : l8.den) (t6 : Int) : Option ((List Int × Int × l8.den × Int × Unit) ⊕ Empty) := T.pc 156 true 15 (t0, t1, t4, t6, ())
def H7 (T : S.Tab) (t0 : List Int) (t1 : Int) (t4 : l8.den) (t6 : Int) (t9 : Int) : Option ((List Int × Int × l8.den × Int × Int × Unit) ⊕ Empty) := T.pc 156 true 20 (t0, t1, t4, t6, t9, ())
def H5 (T : S.Tab) (t0 : List Int) (t1 : Int) (t4 : l8.den) (t6 : Int) (t9 : Int) : Option ((List Int × Int × l8.den × Int × Int × Unit) ⊕ Empty) := T.pc 156 true 29 (t0, t1, t4, t6, t9, ())
abbrev U6 : Unit × Unit × Unit := ((), ((), ()))
def B8 (T : S.Tab) (t0 : List Int) (t1 : Int) : Option (Int × Unit × Unit × Unit) := T.fn 125 (t0, t1, ())
abbrev V9 : Unit × Unit × Unit := ((), ((), ()))
def A6 (T : S.Tab) (t0 : List Int) (t1 : Int) : Option (Int × Unit × Unit × Unit) := T.fn 81 (t0, t1, ())
abbrev W8 : Unit × Unit := ((), ())
def aw5 (T : S.Tab) (t0 : Int) : Option (List Int × Unit × Unit) := T.fn 139 (t0, ())
abbrev M9 : Unit × Unit × Unit := ((), ((), ()))
def J1 (T : S.Tab) (t0 : List Int) (t1 : List Int) : Option (Bool × Unit × Unit × Unit) := T.fn 234 (t0, t1, ())
abbrev af9 : Unit × Unit × Unit := ((), ((), ()))
def S8 (T : S.Tab) (t0 : List Int) (t1 : List Int) : Option (Bool × Unit × Unit × Unit) := T.fn 152 (t0, t1, ())
abbrev S7 : Unit × Unit × Unit := ((), ((), ()))
def R6 (T : S.Tab) (t0 : List Int) (t1 : Int) : Option ((l8.den × Bool × Unit) × Unit × Unit × Unit) := T.fn 101 (t0, t1, ())
def P9 (T : S.Tab) (t0 : List Int) (t1 : Int) (t4 : l8.den) (t7 : Int) : Option ((List Int × Int × l8.den × Int × Unit) ⊕ Empty) := T.pc 101 true 5 (t0, t1, t4, t7, ())
def s8 (T : S.Tab) (t0 : List Int) (t4 : l8.den) (t8 : List Int) (t9 : Int) : Option ((l8.den × Bool × Unit) ⊕ Empty) := T.pc 101 true 18 (t0, t4, t8, t9, ())
def M1 (T : S.Tab) (t0 : List Int) (t4 : l8.den) (t8 : List Int) (t9 : Int) (t11 : Int) : Option ((l8.den × Bool × Unit) ⊕ (List Int × l8.den × List Int × Int × Unit) ⊕ Empty) := T.pc 101 true 39 (t0, t4, t8, t9, t11, ())
def I0 (T : S.Tab) (t0 : List Int) (t1 : Int) (t4 : l8.den) (t14 : Int) (t15 : Int) : Option ((Int × l8.den × Unit) ⊕ Empty) := T.pc 101 true 49 (t0, t1, t4, t14, t15, ())
abbrev C0 : Unit × Unit × Unit := ((), ((), ()))
def al6 (T : S.Tab) (t0 : List Int) (t1 : Int) : Option (Bool × Unit × Unit × Unit) := T.fn 243 (t0, t1, ())
abbrev N9 : Unit × Unit := ((), ())
def E7 (T : S.Tab) (t0 : List Int) : Option (Bool × Unit × Unit) := T.fn 186 (t0, ())
abbrev ar2 : Unit × Unit := ((), ())
def af4 (T : S.Tab) (t0 : Int) : Option (Bool × Unit × Unit) := T.fn 191 (t0, ())
def o8 (T : S.Tab) (t0 : Bool) (t1 : Bool) (t2 : Bool) (t3 : Bool) (t4 : Int) (t5 : Int) (t6 : Int) (t7 : List Int) : Option (Bool × Unit × Unit × Unit × Unit × Int × Int × Int × List Int × Unit) := T.fn 189 (t0, t1, t2, t3, t4, t5, t6, t7, ())
abbrev ao3 : Unit × Unit := ((), ())
def Z2 (T : S.Tab) (t0 : Int) : Option (Bool × Unit × Unit) := T.fn 188 (t0, ())
def n9 (T : S.Tab) (t0 : Int) (t1 : Int) (t2 : List Int) : Option (Bool × Unit × Unit × List Int × Unit) := T.fn 187 (t0, t1, t2, ())
def G4 (T : S.Tab) (t2 : List Int) (t11 : List Int) (t12 : Int) (t13 : Int) : Option ((List Int × Bool × Unit) ⊕ (List Int × Unit) ⊕ Empty) := T.pc 187 true 2 (t2, t11, t12, t13, ())
abbrev V4 : Unit × Unit := ((), ())
def Q4 (T : S.Tab) (t0 : List Int) : Option (Bool × Unit × Unit) := T.fn 192 (t0, ())
def P4 (T : S.Tab) (t0 : Int) (t1 : List Int) : Option (Bool × Int × List Int × Unit) := T.fn 190 (t0, t1, ())
abbrev l9 : (Unit × Unit) × Unit × Unit := (((), ()), ((), ()))
def A2 (T : S.Tab) (t0 : List b8.den × Unit) (t1 : Int) : Option (Bool × (Unit × Unit) × Unit × Unit) := T.fn 119 (t0, t1, ())
def S1 (T : S.Tab) (t6 : List Int) (t11 : Int) (t12 : Int) (t13 : Int) (t14 : List Int) (t16 : Int) (t105 : Int) (t205 : Bool) : Option ((Bool × Unit) ⊕ (Unit) ⊕ Empty) := T.pc 119 false 50 (t6, t11, t12, t13, t14, t16, t105, t205, ())
def C8 (T : S.Tab) (t6 : List Int) (t11 : Int) (t12 : Int) (t13 : Int) (t14 : List Int) (t16 : Int) (t105 : Int) (t328 : Bool) : Option ((Bool × Unit) ⊕ (Unit) ⊕ Empty) := T.pc 119 false 65 (t6, t11, t12, t13, t14, t16, t105, t328, ())
def N7 (T : S.Tab) (t6 : List Int) (t11 : Int) (t12 : Int) (t13 : Int) (t14 : List Int) (t16 : Int) (t105 : Int) (t378 : Bool) : Option ((Bool × Unit) ⊕ (Unit) ⊕ Empty) := T.pc 119 false 72 (t6, t11, t12, t13, t14, t16, t105, t378, ())
def K7 (T : S.Tab) (t6 : List Int) (t11 : Int) (t12 : Int) (t13 : Int) (t14 : List Int) (t16 : Int) (t105 : Int) (t436 : Bool) : Option ((Bool × Unit) ⊕ (Unit) ⊕ Empty) := T.pc 119 false 84 (t6, t11, t12, t13, t14, t16, t105, t436, ())
def J2 (T : S.Tab) (t1 : Int) (t2 : List b8.den × Unit) (t5 : b8.den) (t6 : List Int) (t58 : List Int) (t59 : Int) (t60 : Int) : Option ((Bool × Unit) ⊕ (b8.den × List Int × Unit) ⊕ Empty) := T.pc 119 true 6 (t1, t2, t5, t6, t58, t59, t60, ())
def x9 (T : S.Tab) (t5 : b8.den) (t6 : List Int) (t80 : List (List Int)) (t81 : Int) (t82 : Int) : Option ((Bool × Unit) ⊕ (b8.den × List Int × Unit) ⊕ Empty) := T.pc 119 true 13 (t5, t6, t80, t81, t82, ())
def F6 (T : S.Tab) (t11 : Int) (t12 : Int) (t13 : Int) (t14 : List Int) (t108 : List Int) (t109 : Int) (t110 : Int) : Option ((Bool × Unit) ⊕ (Int × Int × Int × List Int × Unit) ⊕ Empty) := T.pc 119 true 26 (t11, t12, t13, t14, t108, t109, t110, ())
def u7 (T : S.Tab) (t6 : List Int) (t13 : Int) (t16 : Int) (t184 : List Int) (t185 : Int) (t186 : Int) : Option ((Bool × Unit) ⊕ (List Int × Int × Int × Unit) ⊕ Empty) := T.pc 119 true 42 (t6, t13, t16, t184, t185, t186, ())
def G1 (T : S.Tab) (t11 : Int) (t12 : Int) (t13 : Int) (t14 : List Int) (t529 : List Int) (t530 : Int) (t531 : Int) : Option ((Bool × Unit) ⊕ (Int × Int × Int × List Int × Unit) ⊕ Empty) := T.pc 119 true 97 (t11, t12, t13, t14, t529, t530, t531, ())
abbrev M5 : (Unit × Unit) × Unit := (((), ()), ())
def I7 (T : S.Tab) (t0 : List b8.den × Unit) : Option ((Int × Int × Unit) × (Unit × Unit) × Unit) := T.fn 74 (t0, ())
def E5 (T : S.Tab) (t1 : List b8.den × Unit) (t2 : Int × Int × Unit) (t3 : Int) (t37 : Int) (t38 : Int) : Option (((Int × Int × Unit) × Unit) ⊕ ((List b8.den × Unit) × (Int × Int × Unit) × Int × Unit) ⊕ Empty) := T.pc 74 true 5 (t1, t2, t3, t37, t38, ())
def s7 (T : S.Tab) (t1 : List b8.den × Unit) (t2 : Int × Int × Unit) (t3 : Int) (t5 : List Int) (t51 : List b8.den) (t52 : Int) (t53 : Int) : Option (((Int × Int × Unit) × Unit) ⊕ ((List b8.den × Unit) × (Int × Int × Unit) × Int × Unit) ⊕ Empty) := T.pc 74 true 12 (t1, t2, t3, t5, t51, t52, t53, ())
def F5 (T : S.Tab) (t1 : List b8.den × Unit) (t2 : Int × Int × Unit) (t3 : Int) (t5 : List Int) (t6 : Int) (t7 : b8.den) (t8 : Int) (t9 : Int) (t51 : List b8.den) (t52 : Int) (t53 : Int) : Option (((Int × Int × Unit) × Unit) ⊕ ((List b8.den × Unit) × (Int × Int × Unit) × Int × List Int × Int × Int × List b8.den × Int × Int × Unit) ⊕ Empty) := T.pc 74 true 16 (t1, t2, t3, t5, t6, t7, t8, t9, t51, t52, t53, ())
def K4 (T : S.Tab) (t1 : List b8.den × Unit) (t2 : Int × Int × Unit) (t10 : List Int) (t11 : Int) : Option (((Int × Int × Unit) × List Int × Unit) ⊕ Empty) := T.pc 74 true 27 (t1, t2, t10, t11, ())
def I2 (T : S.Tab) (t1 : List b8.den × Unit) (t2 : Int × Int × Unit) (t10 : List Int) (t11 : Int) (t113 : List Int) (t114 : Int) (t115 : Int) : Option (((List b8.den × Unit) × (Int × Int × Unit) × List Int × Int × Unit) ⊕ Empty) := T.pc 74 true 30 (t1, t2, t10, t11, t113, t114, t115, ())
def F9 (T : S.Tab) (t2 : Int × Int × Unit) (t10 : List Int) (t129 : Int) (t130 : Int) : Option (((Int × Int × Unit) × Unit) ⊕ ((Int × Int × Unit) × Unit) ⊕ Empty) := T.pc 74 true 35 (t2, t10, t129, t130, ())
abbrev aK7 : (Unit × Unit) × Unit := (((), ()), ())
def aw3 (T : S.Tab) (t0 : List b8.den × Unit) : Option (Bool × (Unit × Unit) × Unit) := T.fn 40 (t0, ())
abbrev aK2 : Unit × Unit := ((), ())
def an2 (T : S.Tab) (t0 : List Int) : Option (List Int × Unit × Unit) := T.fn 51 (t0, ())
def D2 (T : S.Tab) (t0 : List Int) (t3 : List Int) (t4 : Int) : Option ((List Int × Unit) ⊕ Empty) := T.pc 51 true 6 (t0, t3, t4, ())
abbrev aA4 : (Unit × Unit) × Unit := (((), ()), ())
def at5 (T : S.Tab) (t0 : List b8.den × Unit) : Option (List Int × (Unit × Unit) × Unit) := T.fn 25 (t0, ())
def O8 (T : S.Tab) (t3 : List Int) (t14 : List b8.den) (t15 : Int) (t16 : Int) : Option ((List Int × Unit) ⊕ Empty) := T.pc 25 true 6 (t3, t14, t15, t16, ())
def M3 (T : S.Tab) (t3 : List Int) (t7 : List (List Int)) (t14 : List b8.den) (t15 : Int) (t16 : Int) (t65 : List Int) (t66 : Int) (t67 : Int) : Option ((List Int × List (List Int) × List b8.den × Int × Int × Unit) ⊕ Empty) := T.pc 25 true 12 (t3, t7, t14, t15, t16, t65, t66, t67, ())
abbrev U9 : Unit × Unit × Unit := ((), ((), ()))
def U7 (T : S.Tab) (t0 : List (List Int)) (t1 : List (List Int)) : Option (Bool × Unit × Unit × Unit) := T.fn 120 (t0, t1, ())
def D5 (T : S.Tab) (t0 : List (List Int)) (t1 : List (List Int)) (t5 : Int) : Option ((Bool × Unit) ⊕ (Unit) ⊕ Empty) := T.pc 120 true 4 (t0, t1, t5, ())
abbrev ad7 : Unit × Unit × Unit := ((), ((), ()))
def af7 (T : S.Tab) (t0 : List Int) (t1 : List Int) : Option (Bool × Unit × Unit × Unit) := T.fn 14 (t0, t1, ())
def J8 (T : S.Tab) (t0 : List Int) (t1 : List Int) (t5 : Int) : Option ((Bool × Unit) ⊕ (Unit) ⊕ Empty) := T.pc 14 true 4 (t0, t1, t5, ())
abbrev A7 : (Unit × Unit × Unit × Unit × Unit × Unit × Unit × Unit × Unit × Unit) × (Unit × Unit × Unit × Unit × Unit × Unit × Unit × Unit × Unit × Unit) × Unit := (((), ((), ((), ((), ((), ((), ((), ((), ((), ()))))))))), (((), ((), ((), ((), ((), ((), ((), ((), ((), ()))))))))), ()))
def Z5 (T : S.Tab) (t0 : b8.den) (t1 : b8.den) : Option (Bool × (Unit × Unit × Unit × Unit × Unit × Unit × Unit × Unit × Unit × Unit) × (Unit × Unit × Unit × Unit × Unit × Unit × Unit × Unit × Unit × Unit) × Unit) := T.fn 75 (t0, t1, ())
abbrev aa6 : Unit × Unit × Unit := ((), ((), ()))
def ab5 (T : S.Tab) (t0 : List b8.den) (t1 : List b8.den) : Option (Bool × Unit × Unit × Unit) := T.fn 42 (t0, t1, ())
def I1 (T : S.Tab) (t0 : List b8.den) (t1 : List b8.den) (t5 : Int) : Option ((Bool × Unit) ⊕ (Unit) ⊕ Empty) := T.pc 42 true 4 (t0, t1, t5, ())
abbrev ao6 : (Unit × Unit) × (Unit × Unit) × Unit := (((), ()), (((), ()), ()))
def ar4 (T : S.Tab) (t0 : List b8.den × Unit) (t1 : List b8.den × Unit) : Option (Bool × (Unit × Unit) × (Unit × Unit) × Unit) := T.fn 15 (t0, t1, ())
abbrev M6 : (Unit × Unit) × Unit := (((), ()), ())
def V0 (T : S.Tab) (t0 : List b8.den × Unit) : Option (Bool × (Unit × Unit) × Unit) := T.fn 5 (t0, ())
theorem al9 (T : S.Tab) (t0 : List (List Int)) (t1 : Int) : M7 (S.step T) t0 t1 =
 brk (decide (IntKind.i64.wrap (t1 - (t0.length : Int)) < 0)) (
 some ((-1 : Int), V5)) (
 (B7 T t0 (IntKind.i64.wrap (t1 - (t0.length : Int))) 0).bind (K0
  (fun y5 =>
  some (y5.1, V5))
  (fun y5 =>
  some (y5.1, V5))))
 := eF Tryz.func112 (by kernel_rfl)
theorem ad3 (T : S.Tab) (t0 : List (List Int)) (t1 : Int) (t5 : Int) : B7 (S.step T) t0 t1 t5 =
 brk (decide (t5 < (t0.length : Int))) (
 brk (decide (0 ≤ t5) && decide (t5 < (t0.length : Int))) (
 brk (decide (IntKind.i64.wrap (t1 - ((t0.getD t5.toNat []).length : Int)) < 0)) (
  some (Sum.inl ((-1 : Int), ()))) (
  B7 T t0 (IntKind.i64.wrap (t1 - ((t0.getD t5.toNat []).length : Int))) (IntKind.i64.wrap (t5 + 1)))) none) (
 some (Sum.inr (Sum.inl (t1, ()))))
 := eL Tryz.func112 rfl (by kernel_rfl)
theorem aX8 (T : S.Tab) (t0 : List Int) (t1 : Int) : ae7 (S.step T) t0 t1 =
 brk (decide (IntKind.i64.wrap (t1 - (t0.length : Int)) < 0)) (
 some ((-1 : Int), ap3)) (
 some (IntKind.i64.wrap (t1 - (t0.length : Int)), ap3))
 := eF Tryz.func113 (by kernel_rfl)
theorem al0 (T : S.Tab) (t0 : b8.den) (t1 : Int) : W2 (S.step T) t0 t1 =
 brk (decide (IntKind.i64.wrap (t1 - (t0.2.2.2.2.2.2.1.length : Int)) < 0)) (
 some ((-1 : Int), T0)) (
 (M7 T t0.2.2.2.2.2.2.2.1 (IntKind.i64.wrap (t1 - (t0.2.2.2.2.2.2.1.length : Int)))).bind fun d15 =>
 brk (decide (d15.1 < 0)) (
  some ((-1 : Int), T0)) (
  (ae7 T t0.2.2.2.2.2.2.2.2.1 d15.1).bind fun d21 =>
  brk (decide (d21.1 < 0)) (
  some ((-1 : Int), T0)) (
  some (d21.1, T0))))
 := eF Tryz.func70 (by kernel_rfl)
theorem av1 (T : S.Tab) (t0 : List b8.den) (t1 : Int) : X0 (S.step T) t0 t1 =
 brk (decide (IntKind.i64.wrap (t1 - (t0.length : Int)) < 0)) (
 some ((-1 : Int), aa3)) (
 (F2 T t0 (IntKind.i64.wrap (t1 - (t0.length : Int))) 0).bind (K0
  (fun y5 =>
  some (y5.1, aa3))
  (fun y5 =>
  some (y5.1, aa3))))
 := eF Tryz.func37 (by kernel_rfl)
theorem ah8 (T : S.Tab) (t0 : List b8.den) (t1 : Int) (t5 : Int) : F2 (S.step T) t0 t1 t5 =
 brk (decide (t5 < (t0.length : Int))) (
 brk (decide (0 ≤ t5) && decide (t5 < (t0.length : Int))) (
 (W2 T (at_ (τ := b8) t0 t5) t1).bind fun d23 =>
 brk (decide (d23.1 < 0)) (
  some (Sum.inl ((-1 : Int), ()))) (
  F2 T t0 d23.1 (IntKind.i64.wrap (t5 + 1)))) none) (
 some (Sum.inr (Sum.inl (t1, ()))))
 := eL Tryz.func37 rfl (by kernel_rfl)
theorem aX3 (T : S.Tab) (t0 : List b8.den × Unit) (t1 : Int) : aq9 (S.step T) t0 t1 =
 (X0 T t0.1 t1).bind fun d8 =>
 brk (decide (d8.1 < 0)) (
 some ((-1 : Int), ao7)) (
 some (d8.1, ao7))
 := eF Tryz.func10 (by kernel_rfl)
theorem aH2 (T : S.Tab) (t0 : List (List Int)) : U8 (S.step T) t0 =
 brk (((decide (0 ≤ (t0.length : Int))) && (decide ((t0.length : Int) ≤ (t0.length : Int)))) && (decide ((t0.length : Int) ≤ lim))) (
 (G6 T t0 (List.replicate ((t0.length : Int).toNat) ([] : List Int)) 0).bind (C3
  (fun y3 =>
 some (y3.1, as8)))) none
 := eF Tryz.func117 (by kernel_rfl)
theorem ac9 (T : S.Tab) (t0 : List (List Int)) (t3 : List (List Int)) (t4 : Int) : G6 (S.step T) t0 t3 t4 =
 brk (decide (t4 < (t0.length : Int))) (
 brk (decide (0 ≤ t4) && decide (t4 < (t0.length : Int))) (
 brk (decide (0 ≤ t4) && decide (t4 < (t3.length : Int))) (
 G6 T t0 (t3.set t4.toNat (t0.getD t4.toNat [])) (IntKind.i64.wrap (t4 + 1))) none) none) (
 some (Sum.inl (t3, ())))
 := eL Tryz.func117 rfl (by kernel_rfl)
theorem aV3 (T : S.Tab) (t0 : List Int) : ae9 (S.step T) t0 =
 brk (((decide (0 ≤ (t0.length : Int))) && (decide ((t0.length : Int) ≤ (t0.length : Int)))) && (decide ((t0.length : Int) ≤ lim))) (
 (M8 T t0 (List.replicate ((t0.length : Int).toNat) 0) 0).bind (C3
  (fun y3 =>
 some (y3.1, aC6)))) none
 := eF Tryz.func118 (by kernel_rfl)
theorem am5 (T : S.Tab) (t0 : List Int) (t3 : List Int) (t4 : Int) : M8 (S.step T) t0 t3 t4 =
 brk (decide (t4 < (t0.length : Int))) (
 brk (decide (0 ≤ t4) && decide (t4 < (t0.length : Int))) (
 brk (decide (0 ≤ t4) && decide (t4 < (t3.length : Int))) (
 M8 T t0 (t3.set t4.toNat (t0.getD t4.toNat 0)) (IntKind.i64.wrap (t4 + 1))) none) none) (
 some (Sum.inl (t3, ())))
 := eL Tryz.func118 rfl (by kernel_rfl)
theorem aX5 (T : S.Tab) (t0 : b8.den) : ar0 (S.step T) t0 =
 (U8 T t0.2.2.2.2.2.2.2.1).bind fun d27 =>
 (ae9 T t0.2.2.2.2.2.2.2.2.1).bind fun d31 =>
 some ((t0.1, t0.2.1, t0.2.2.1, t0.2.2.2.1, t0.2.2.2.2.1, t0.2.2.2.2.2.1, t0.2.2.2.2.2.2.1, d27.1, d31.1, ()), aE9)
 := eF Tryz.func73 (by kernel_rfl)
theorem aQ4 (T : S.Tab) (t0 : List b8.den) : ab3 (S.step T) t0 =
 brk (((decide (0 ≤ (t0.length : Int))) && (decide ((t0.length : Int) ≤ (t0.length : Int)))) && (decide ((t0.length : Int) ≤ lim))) (
 (K1 T t0 (List.replicate ((t0.length : Int).toNat) (0, 0, 0, 0, 0, 0, ([] : List Int), [], [], ())) 0).bind (C3
  (fun y3 =>
 some (y3.1, ax9)))) none
 := eF Tryz.func39 (by kernel_rfl)
theorem aj7 (T : S.Tab) (t0 : List b8.den) (t3 : List b8.den) (t4 : Int) : K1 (S.step T) t0 t3 t4 =
 brk (decide (t4 < (t0.length : Int))) (
 brk (decide (0 ≤ t4) && decide (t4 < (t0.length : Int))) (
 (ar0 T (at_ (τ := b8) t0 t4)).bind fun d20 =>
 brk (decide (0 ≤ t4) && decide (t4 < (t3.length : Int))) (
 K1 T t0 (t3.set t4.toNat d20.1) (IntKind.i64.wrap (t4 + 1))) none) none) (
 some (Sum.inl (t3, ())))
 := eL Tryz.func39 rfl (by kernel_rfl)
theorem aU8 (T : S.Tab) (t0 : List b8.den × Unit) : Z7 (S.step T) t0 =
 (ab3 T t0.1).bind fun d6 =>
 some ((d6.1, ()), aE7)
 := eF Tryz.func12 (by kernel_rfl)
theorem aW0 (T : S.Tab) (t0 : Int) : S4 (S.step T) t0 =
 brk (decide (1 ≤ t0)) (
 some (decide (t0 ≤ 16), ad4)) (
 some (false, ad4))
 := eF Tryz.func114 (by kernel_rfl)
theorem a88 (T : S.Tab) (t0 : List b8.den × Unit) (t1 : b8.den) (t2 : Int) : r7 (S.step T) t0 t1 t2 =
 brk (decide (0 ≤ t2) && decide (t2 < (t1.2.2.2.2.2.2.2.2.1.length : Int))) (
 brk (decide (0 ≤ t1.2.2.2.2.2.2.2.2.1.getD t2.toNat 0) && decide (t1.2.2.2.2.2.2.2.2.1.getD t2.toNat 0 < (t0.1.length : Int))) (
 some ((at_ (τ := b8) t0.1 (t1.2.2.2.2.2.2.2.2.1.getD t2.toNat 0)).1, O9)) none) none
 := eF Tryz.func178 (by kernel_rfl)
theorem aV8 (T : S.Tab) (t0 : b8.den) (t1 : Bool) (t2 : Bool) (t3 : Bool) (t4 : Bool) : q8 (S.step T) t0 t1 t2 t3 t4 =
 brk (t1) (
 brk (t2) (
  brk (t3) (
  brk (t4) (
   some (true, r4)) (
   some (decide ((t0.2.2.2.2.2.2.2.1.length : Int) = 0), r4))) (
  brk (decide (t0.2.2.2.2.2.2.1 = ([] : List Int))) (
   brk (t4) (
   some (true, r4)) (
   some (decide ((t0.2.2.2.2.2.2.2.1.length : Int) = 0), r4))) (
   some (false, r4)))) (
  brk (decide (t0.2.2.2.2.2.1 = 0)) (
  brk (t3) (
   brk (t4) (
   some (true, r4)) (
   some (decide ((t0.2.2.2.2.2.2.2.1.length : Int) = 0), r4))) (
   brk (decide (t0.2.2.2.2.2.2.1 = ([] : List Int))) (
   brk (t4) (
    some (true, r4)) (
    some (decide ((t0.2.2.2.2.2.2.2.1.length : Int) = 0), r4))) (
   some (false, r4)))) (
  some (false, r4)))) (
 brk (decide (t0.2.2.2.2.1 = 0)) (
  brk (t2) (
  brk (t3) (
   brk (t4) (
   some (true, r4)) (
   some (decide ((t0.2.2.2.2.2.2.2.1.length : Int) = 0), r4))) (
   brk (decide (t0.2.2.2.2.2.2.1 = ([] : List Int))) (
   brk (t4) (
    some (true, r4)) (
    some (decide ((t0.2.2.2.2.2.2.2.1.length : Int) = 0), r4))) (
   some (false, r4)))) (
  brk (decide (t0.2.2.2.2.2.1 = 0)) (
   brk (t3) (
   brk (t4) (
    some (true, r4)) (
    some (decide ((t0.2.2.2.2.2.2.2.1.length : Int) = 0), r4))) (
   brk (decide (t0.2.2.2.2.2.2.1 = ([] : List Int))) (
    brk (t4) (
    some (true, r4)) (
    some (decide ((t0.2.2.2.2.2.2.2.1.length : Int) = 0), r4))) (
    some (false, r4)))) (
   some (false, r4)))) (
  some (false, r4)))
 := eF Tryz.func179 (by kernel_rfl)
theorem aM6 (T : S.Tab) (t0 : Int) : Y3 (S.step T) t0 =
 brk (decide (97 ≤ t0)) (
 brk (decide (t0 ≤ 122)) (
  some (true, H9)) (
  brk (decide (65 ≤ t0)) (
  brk (decide (t0 ≤ 90)) (
   some (true, H9)) (
   some (decide (t0 = 95), H9))) (
  some (decide (t0 = 95), H9)))) (
 brk (decide (65 ≤ t0)) (
  brk (decide (t0 ≤ 90)) (
  some (true, H9)) (
  some (decide (t0 = 95), H9))) (
  some (decide (t0 = 95), H9)))
 := eF Tryz.func211 (by kernel_rfl)
theorem aY1 (T : S.Tab) (t0 : List Int) (t1 : Int) : x7 (S.step T) t0 t1 =
 brk (decide (t1 < (t0.length : Int))) (
 brk (decide (0 ≤ t1) && decide (t1 < (t0.length : Int))) (
 some (t0.getD t1.toNat 0, aq8)) none) (
 some (0, aq8))
 := eF Tryz.func210 (by kernel_rfl)
theorem aR8 (T : S.Tab) (t0 : Int) : D8 (S.step T) t0 =
 brk (decide (48 ≤ t0)) (
 some (decide (t0 ≤ 57), ak9)) (
 some (false, ak9))
 := eF Tryz.func213 (by kernel_rfl)
theorem aR3 (T : S.Tab) : av2 (S.step T) =
 some (([([97, 110, 100] : List Int), ([98, 114, 101, 97, 107] : List Int), ([99, 97, 116, 99, 104] : List Int), ([99, 111, 110, 115, 116] : List Int), ([100, 101, 102, 101, 114] : List Int), ([101, 108, 105, 102] : List Int), ([101, 108, 115, 101] : List Int), ([102, 97, 108, 115, 101] : List Int), ([102, 110] : List Int), ([102, 111, 114] : List Int), ([105, 102] : List Int), ([105, 110] : List Int), ([108, 101, 116] : List Int), ([110, 101, 120, 116] : List Int), ([110, 105, 108] : List Int), ([110, 111, 116] : List Int), ([111, 114] : List Int), ([114, 101, 116, 117, 114, 110] : List Int), ([116, 104, 114, 111, 119] : List Int), ([116, 114, 117, 101] : List Int), ([116, 114, 121] : List Int), ([119, 104, 105, 108, 101] : List Int)] : List (List Int)), ay0)
 := eF Tryz.func202 (by kernel_rfl)
theorem aU5 (T : S.Tab) (t0 : List Int) (t1 : l8.den) : ar6 (S.step T) t0 t1 =
 (H2 T t0 t1 (0, 0, 0, 0, 0, ([] : List Int), ()) t1.2.1).bind (C3
  (fun y2 =>
 brk (bounds y2.1.length y2.2.1.2.1 y2.2.2.2.1) (
 (av2 T).bind fun d32 =>
 (H3 T (1, y2.2.1.2.1, y2.2.2.2.1, y2.2.1.2.2.2) y2.2.2.1 (sub y2.1 y2.2.1.2.1 y2.2.2.2.1) d32.1 (d32.1.length : Int) 0).bind (K0
  (fun y8 =>
  some (y8, ap4))
  (fun y8 =>
  some (((y8.1.1, y8.1.2.1, y8.1.2.2.1, y8.1.2.2.2.1, y8.1.2.2.2.2.1, y8.2.2), (-1 : Int), ()), ap4)))) none))
 := eF Tryz.func212 (by kernel_rfl)
theorem am0 (T : S.Tab) (t0 : List Int) (t3 : l8.den) (t4 : l8.den) (t6 : Int) : H2 (S.step T) t0 t3 t4 t6 =
 (x7 T t0 t6).bind fun d14 =>
 (Y3 T d14.1).bind fun d15 =>
 brk (d15.1) (
 H2 T t0 t3 t4 (IntKind.i64.wrap (t6 + 1))) (
 (x7 T t0 t6).bind fun d19 =>
 (D8 T d19.1).bind fun d20 =>
 brk (d20.1) (
  H2 T t0 t3 t4 (IntKind.i64.wrap (t6 + 1))) (
  some (Sum.inl (t0, t3, t4, t6, ()))))
 := eL Tryz.func212 rfl (by kernel_rfl)
theorem am8 (T : S.Tab) (t3 : l8.den) (t4 : l8.den) (t7 : List Int) (t32 : List (List Int)) (t33 : Int) (t34 : Int) : H3 (S.step T) t3 t4 t7 t32 t33 t34 =
 brk (decide (t34 < t33)) (
 brk (decide (0 ≤ t34) && decide (t34 < (t32.length : Int))) (
 brk (decide ((t32.getD t34.toNat []) = t7)) (
  some (Sum.inl ((IntKind.i64.wrap (10 + t34), t3.2), (-1 : Int), ()))) (
  H3 T t3 t4 t7 t32 t33 (IntKind.i64.wrap (t34 + 1)))) none) (
 some (Sum.inr (Sum.inl (t3, t4, t7, ()))))
 := eL Tryz.func212 rfl (by kernel_rfl)
theorem a33 (T : S.Tab) (t0 : Int) : Z4 (S.step T) t0 =
 (D8 T t0).bind fun d4 =>
 brk (d4.1) (
 some (IntKind.i64.wrap (IntKind.u8.wrap (t0 - 48)), ab6)) (
 brk (decide (97 ≤ t0)) (
  brk (decide (t0 ≤ 102)) (
  some (IntKind.i64.wrap ((IntKind.i64.wrap (IntKind.u8.wrap (t0 - 97))) + 10), ab6)) (
  some ((-1 : Int), ab6))) (
  some ((-1 : Int), ab6)))
 := eF Tryz.func250 (by kernel_rfl)
theorem aO0 (T : S.Tab) (t0 : List Int) (t1 : l8.den) : ai3 (S.step T) t0 t1 =
 (F7 T t0 t1 (0, 0, 0, 0, 0, ([] : List Int), ()) (IntKind.i64.wrap (t1.2.1 + 2)) 0).bind (K0
  (fun y3 =>
 some (y3, aa7))
  (fun y3 =>
 brk (decide (y3.2.2.1 = IntKind.i64.wrap (y3.1.2.1 + 2))) (
  some ((y3.1, y3.2.2.1, ()), aa7)) (
  some (((y3.1.1, y3.1.2.1, y3.2.2.1, y3.1.2.2.2.1, IntKind.i64.wrap y3.2.2.2.1, y3.1.2.2.2.2.2), (-1 : Int), ()), aa7))))
 := eF Tryz.func249 (by kernel_rfl)
theorem R8 (T : S.Tab) (t0 : List Int) (t3 : l8.den) (t4 : l8.den) (t6 : Int) (t7 : Int) : F7 (S.step T) t0 t3 t4 t6 t7 =
 (x7 T t0 t6).bind fun d13 =>
 (Z4 T d13.1).bind fun d14 =>
 brk (decide (0 ≤ d14.1)) (
 brk (decide (IntKind.i64.wrap (t6 - t3.2.1) = 18)) (
  some (Sum.inl (t3, t6, ()))) (
  brk (decide (0 ≤ t6) && decide (t6 < (t0.length : Int))) (
  (Z4 T (t0.getD t6.toNat 0)).bind fun d28 =>
  F7 T t0 t3 t4 (IntKind.i64.wrap (t6 + 1)) (IntKind.u64.wrap ((IntKind.u64.wrap (t7 * 16)) + (IntKind.u64.wrap d28.1)))) none)) (
 some (Sum.inr (Sum.inl (t3, t4, t6, t7, ()))))
 := eL Tryz.func249 rfl (by kernel_rfl)
theorem ac2 (T : S.Tab) (t0 : List Int) (t1 : l8.den) : T1 (S.step T) t0 t1 =
 brk (decide (0 ≤ t1.2.1) && decide (t1.2.1 < (t0.length : Int))) (
 brk (decide (t0.getD t1.2.1.toNat 0 = 48)) (
 (x7 T t0 (IntKind.i64.wrap (t1.2.1 + 1))).bind fun d20 =>
 brk (decide (d20.1 = 120)) (
  (ai3 T t0 (2, t1.2)).bind fun d25 =>
  some (d25.1, N6)) (
  brk (decide (0 ≤ t1.2.1) && decide (t1.2.1 < (t0.length : Int))) (
  brk (!decide (t0.getD t1.2.1.toNat 0 = 48)) (
  (D4 T t0 (2, t1.2) (0, 0, 0, 0, 0, ([] : List Int), ()) (IntKind.i64.wrap (t1.2.1 + 1))).bind (C3
   (fun y7 =>
   (D3 T y7.1 y7.2.1 y7.2.2.1 y7.2.2.2.1).bind (C3
    (fun y9 =>
   some (y9, N6)))))) (
  (D3 T t0 (2, t1.2) (0, 0, 0, 0, 0, ([] : List Int), ()) (IntKind.i64.wrap (t1.2.1 + 1))).bind (C3
   (fun y9 =>
   some (y9, N6))))) none)) (
 brk (decide (0 ≤ t1.2.1) && decide (t1.2.1 < (t0.length : Int))) (
 brk (!decide (t0.getD t1.2.1.toNat 0 = 48)) (
  (D4 T t0 (2, t1.2) (0, 0, 0, 0, 0, ([] : List Int), ()) (IntKind.i64.wrap (t1.2.1 + 1))).bind (C3
   (fun y7 =>
  (D3 T y7.1 y7.2.1 y7.2.2.1 y7.2.2.2.1).bind (C3
   (fun y9 =>
   some (y9, N6)))))) (
  (D3 T t0 (2, t1.2) (0, 0, 0, 0, 0, ([] : List Int), ()) (IntKind.i64.wrap (t1.2.1 + 1))).bind (C3
   (fun y9 =>
  some (y9, N6))))) none)) none
 := eF Tryz.func214 (by kernel_rfl)
theorem W3 (T : S.Tab) (t0 : List Int) (t3 : l8.den) (t4 : l8.den) (t6 : Int) : D3 (S.step T) t0 t3 t4 t6 =
 (x7 T t0 t6).bind fun d43 =>
 brk (decide (d43.1 = 46)) (
 (x7 T t0 (IntKind.i64.wrap (t6 + 1))).bind fun d49 =>
 (D8 T d49.1).bind fun d50 =>
 brk (d50.1) (
  (D9 T t0 (3, t3.2) t4 (IntKind.i64.wrap (t6 + 1))).bind (C3
   (fun y12 =>
  (w9 T y12.1 y12.2.1 y12.2.2.1 y12.2.2.2.1).bind (C3
   (fun y14 =>
   some (Sum.inl y14)))))) (
  (w9 T t0 t3 t4 t6).bind (C3
   (fun y14 =>
  some (Sum.inl y14))))) (
 (w9 T t0 t3 t4 t6).bind (C3
  (fun y14 =>
  some (Sum.inl y14))))
 := eJ Tryz.func214 rfl (by kernel_rfl)
theorem ac4 (T : S.Tab) (t0 : List Int) (t3 : l8.den) (t4 : l8.den) (t6 : Int) : w9 (S.step T) t0 t3 t4 t6 =
 (x7 T t0 t6).bind fun d63 =>
 brk (decide (d63.1 = 101)) (
 (x7 T t0 (IntKind.i64.wrap (t6 + 1))).bind fun d70 =>
 brk (decide (d70.1 = 45)) (
  (x7 T t0 (IntKind.i64.wrap ((IntKind.i64.wrap (t6 + 1)) + 1))).bind fun d82 =>
  (D8 T d82.1).bind fun d83 =>
  brk (!d83.1) (
  some (Sum.inl ((3, t3.2), IntKind.i64.wrap ((IntKind.i64.wrap (t6 + 1)) + 1), ()))) (
  (w7 T t0 (3, t3.2) t4 (IntKind.i64.wrap ((IntKind.i64.wrap (t6 + 1)) + 1))).bind (C3
   (fun y21 =>
   (x4 T y21.1 y21.2.1 y21.2.2.1 y21.2.2.2.1).bind (C3
    (fun y23 =>
   some (Sum.inl y23))))))) (
  (x7 T t0 (IntKind.i64.wrap (t6 + 1))).bind fun d75 =>
  brk (decide (d75.1 = 43)) (
  (x7 T t0 (IntKind.i64.wrap ((IntKind.i64.wrap (t6 + 1)) + 1))).bind fun d82 =>
  (D8 T d82.1).bind fun d83 =>
  brk (!d83.1) (
   some (Sum.inl ((3, t3.2), IntKind.i64.wrap ((IntKind.i64.wrap (t6 + 1)) + 1), ()))) (
   (w7 T t0 (3, t3.2) t4 (IntKind.i64.wrap ((IntKind.i64.wrap (t6 + 1)) + 1))).bind (C3
    (fun y21 =>
   (x4 T y21.1 y21.2.1 y21.2.2.1 y21.2.2.2.1).bind (C3
    (fun y23 =>
    some (Sum.inl y23))))))) (
  (x7 T t0 (IntKind.i64.wrap (t6 + 1))).bind fun d82 =>
  (D8 T d82.1).bind fun d83 =>
  brk (!d83.1) (
   some (Sum.inl ((3, t3.2), IntKind.i64.wrap (t6 + 1), ()))) (
   (w7 T t0 (3, t3.2) t4 (IntKind.i64.wrap (t6 + 1))).bind (C3
    (fun y21 =>
   (x4 T y21.1 y21.2.1 y21.2.2.1 y21.2.2.2.1).bind (C3
    (fun y23 =>
    some (Sum.inl y23))))))))) (
 (x4 T t0 t3 t4 t6).bind (C3
  (fun y23 =>
  some (Sum.inl y23))))
 := eJ Tryz.func214 rfl (by kernel_rfl)
theorem ad0 (T : S.Tab) (t0 : List Int) (t3 : l8.den) (t4 : l8.den) (t6 : Int) : x4 (S.step T) t0 t3 t4 t6 =
 (r5 T t0 (t3.1, t3.2.1, t6, t3.2.2.2) t4 t6 0 t3.2.1).bind (C3
  (fun y26 =>
 brk (decide (y26.2.1.1 = 3)) (
  brk (bounds y26.1.length y26.2.1.2.1 y26.2.2.2.1) (
  some (Sum.inl ((y26.2.1.1, y26.2.1.2.1, y26.2.1.2.2.1, y26.2.1.2.2.2.1, y26.2.1.2.2.2.2.1, sub y26.1 y26.2.1.2.1 y26.2.2.2.1, ()), (-1 : Int), ()))) none) (
  some (Sum.inl ((y26.2.1.1, y26.2.1.2.1, y26.2.1.2.2.1, y26.2.1.2.2.2.1, IntKind.i64.wrap y26.2.2.2.2.1, y26.2.1.2.2.2.2.2), (-1 : Int), ())))))
 := eJ Tryz.func214 rfl (by kernel_rfl)
theorem ae8 (T : S.Tab) (t0 : List Int) (t3 : l8.den) (t4 : l8.den) (t6 : Int) : D4 (S.step T) t0 t3 t4 t6 =
 (x7 T t0 t6).bind fun d37 =>
 (D8 T d37.1).bind fun d38 =>
 brk (d38.1) (
 D4 T t0 t3 t4 (IntKind.i64.wrap (t6 + 1))) (
 some (Sum.inl (t0, t3, t4, t6, ())))
 := eL Tryz.func214 rfl (by kernel_rfl)
theorem ac3 (T : S.Tab) (t0 : List Int) (t3 : l8.den) (t4 : l8.den) (t6 : Int) : D9 (S.step T) t0 t3 t4 t6 =
 (x7 T t0 t6).bind fun d57 =>
 (D8 T d57.1).bind fun d58 =>
 brk (d58.1) (
 D9 T t0 t3 t4 (IntKind.i64.wrap (t6 + 1))) (
 some (Sum.inl (t0, t3, t4, t6, ())))
 := eL Tryz.func214 rfl (by kernel_rfl)
theorem ac6 (T : S.Tab) (t0 : List Int) (t3 : l8.den) (t4 : l8.den) (t6 : Int) : w7 (S.step T) t0 t3 t4 t6 =
 (x7 T t0 t6).bind fun d89 =>
 (D8 T d89.1).bind fun d90 =>
 brk (d90.1) (
 w7 T t0 t3 t4 (IntKind.i64.wrap (t6 + 1))) (
 some (Sum.inl (t0, t3, t4, t6, ())))
 := eL Tryz.func214 rfl (by kernel_rfl)
theorem G3 (T : S.Tab) (t0 : List Int) (t3 : l8.den) (t4 : l8.den) (t6 : Int) (t7 : Int) (t8 : Int) : r5 (S.step T) t0 t3 t4 t6 t7 t8 =
 brk (decide (t8 < t6)) (
 brk (decide (t3.1 = 2)) (
  brk (decide (922337203685477580 < t7)) (
  brk (decide (0 ≤ t8) && decide (t8 < (t0.length : Int))) (
  r5 T t0 (3, t3.2) t4 t6 (IntKind.u64.wrap ((IntKind.u64.wrap (t7 * 10)) + (IntKind.u64.wrap (IntKind.u8.wrap ((t0.getD t8.toNat 0) - 48))))) (IntKind.i64.wrap (t8 + 1))) none) (
  brk (decide (t7 = 922337203685477580)) (
   brk (decide (0 ≤ t8) && decide (t8 < (t0.length : Int))) (
   brk (decide (55 < t0.getD t8.toNat 0)) (
   brk (decide (0 ≤ t8) && decide (t8 < (t0.length : Int))) (
   r5 T t0 (3, t3.2) t4 t6 (IntKind.u64.wrap ((IntKind.u64.wrap (t7 * 10)) + (IntKind.u64.wrap (IntKind.u8.wrap ((t0.getD t8.toNat 0) - 48))))) (IntKind.i64.wrap (t8 + 1))) none) (
   brk (decide (0 ≤ t8) && decide (t8 < (t0.length : Int))) (
   r5 T t0 t3 t4 t6 (IntKind.u64.wrap ((IntKind.u64.wrap (t7 * 10)) + (IntKind.u64.wrap (IntKind.u8.wrap ((t0.getD t8.toNat 0) - 48))))) (IntKind.i64.wrap (t8 + 1))) none)) none) (
   brk (decide (0 ≤ t8) && decide (t8 < (t0.length : Int))) (
   r5 T t0 t3 t4 t6 (IntKind.u64.wrap ((IntKind.u64.wrap (t7 * 10)) + (IntKind.u64.wrap (IntKind.u8.wrap ((t0.getD t8.toNat 0) - 48))))) (IntKind.i64.wrap (t8 + 1))) none))) (
  some (Sum.inl (t0, t3, t4, t6, t7, ())))) (
 some (Sum.inl (t0, t3, t4, t6, t7, ())))
 := eL Tryz.func214 rfl (by kernel_rfl)
theorem aM5 (T : S.Tab) (t0 : List Int) (t1 : l8.den) : ad5 (S.step T) t0 t1 =
 (o9 T t0 (4, t1.2) (0, 0, 0, 0, 0, ([] : List Int), ()) (IntKind.i64.wrap (t1.2.1 + 1)) []).bind (K0
  (fun y4 =>
 some (y4, af1))
  (fun y4 =>
 some ((y4.1, y4.2.2), af1)))
 := eF Tryz.func215 (by kernel_rfl)
theorem T9 (T : S.Tab) (t0 : List Int) (t3 : l8.den) (t4 : l8.den) (t6 : Int) (t7 : List Int) (t46 : Int) (t59 : Bool) : z7 (S.step T) t0 t3 t4 t6 t7 t46 t59 =
 brk (t59) (
 brk (decide (0 ≤ t6) && decide (t6 < (t0.length : Int))) (
 brk (fits (t7.length + ([t0.getD t6.toNat 0] : List Int).length)) (
 some (Sum.inl (t0, t3, t4, t6, t7 ++ ([t0.getD t6.toNat 0] : List Int), ()))) none) none) (
 brk (decide (t46 = 120)) (
  (A8 T t0 t3 t4 t6 t7 1).bind (K0
   (fun y27 =>
  some (Sum.inr (Sum.inl y27)))
   (fun y27 =>
  brk (decide (0 ≤ IntKind.i64.wrap (y27.2.2.2.1 + 1)) && decide (IntKind.i64.wrap (y27.2.2.2.1 + 1) < (y27.1.length : Int))) (
  (Z4 T (y27.1.getD ((IntKind.i64.wrap (y27.2.2.2.1 + 1)).toNat) 0)).bind fun d90 =>
  brk (decide (0 ≤ IntKind.i64.wrap (y27.2.2.2.1 + 2)) && decide (IntKind.i64.wrap (y27.2.2.2.1 + 2) < (y27.1.length : Int))) (
  (Z4 T (y27.1.getD ((IntKind.i64.wrap (y27.2.2.2.1 + 2)).toNat) 0)).bind fun d96 =>
  brk (fits (y27.2.2.2.2.1.length + ([IntKind.u8.wrap (IntKind.i64.wrap ((IntKind.i64.wrap (16 * d90.1)) + d96.1))] : List Int).length)) (
  some (Sum.inl (y27.1, y27.2.1, y27.2.2.1, IntKind.i64.wrap (y27.2.2.2.1 + 2), y27.2.2.2.2.1 ++ ([IntKind.u8.wrap (IntKind.i64.wrap ((IntKind.i64.wrap (16 * d90.1)) + d96.1))] : List Int), ()))) none) none) none))) (
  some (Sum.inr (Sum.inl (t3, t6, ())))))
 := eJ Tryz.func215 rfl (by kernel_rfl)
theorem G7 (T : S.Tab) (t0 : List Int) (t3 : l8.den) (t4 : l8.den) (t6 : Int) (t7 : List Int) : o9 (S.step T) t0 t3 t4 t6 t7 =
 brk (decide (t6 < (t0.length : Int))) (
 brk (decide (0 ≤ t6) && decide (t6 < (t0.length : Int))) (
 brk (decide (t0.getD t6.toNat 0 = 34)) (
  some (Sum.inl ((t3.1, t3.2.1, IntKind.i64.wrap (t6 + 1), t3.2.2.2.1, t3.2.2.2.2.1, t7.map byte, ()), (-1 : Int), ()))) (
  brk (decide (t0.getD t6.toNat 0 = 10)) (
  some (Sum.inl (t3, t6, ()))) (
  brk (!decide (t0.getD t6.toNat 0 = 92)) (
   brk (fits (t7.length + ([t0.getD t6.toNat 0] : List Int).length)) (
   o9 T t0 t3 t4 (IntKind.i64.wrap (t6 + 1)) (t7 ++ ([t0.getD t6.toNat 0] : List Int))) none) (
   (x7 T t0 (IntKind.i64.wrap (t6 + 1))).bind fun d46 =>
   brk (decide (d46.1 = 110)) (
   brk (fits (t7.length + 1)) (
   o9 T t0 t3 t4 (IntKind.i64.wrap ((IntKind.i64.wrap (t6 + 1)) + 1)) (t7 ++ ([10] : List Int))) none) (
   brk (decide (d46.1 = 116)) (
    brk (fits (t7.length + 1)) (
    o9 T t0 t3 t4 (IntKind.i64.wrap ((IntKind.i64.wrap (t6 + 1)) + 1)) (t7 ++ ([9] : List Int))) none) (
    brk (decide (d46.1 = 34)) (
    (z7 T t0 t3 t4 (IntKind.i64.wrap (t6 + 1)) t7 d46.1 (decide (d46.1 = 34))).bind (K0
     (fun y24 =>
     o9 T y24.1 y24.2.1 y24.2.2.1 (IntKind.i64.wrap (y24.2.2.2.1 + 1)) y24.2.2.2.2.1)
     (fun y24 =>
     some (Sum.inl y24)))) (
    (z7 T t0 t3 t4 (IntKind.i64.wrap (t6 + 1)) t7 d46.1 (decide (d46.1 = 92))).bind (K0
     (fun y24 =>
     o9 T y24.1 y24.2.1 y24.2.2.1 (IntKind.i64.wrap (y24.2.2.2.1 + 1)) y24.2.2.2.2.1)
     (fun y24 =>
     some (Sum.inl y24)))))))))) none) (
 some (Sum.inr (Sum.inl (t3, t4, t6, ()))))
 := eL Tryz.func215 rfl (by kernel_rfl)
theorem T8 (T : S.Tab) (t0 : List Int) (t3 : l8.den) (t4 : l8.den) (t6 : Int) (t7 : List Int) (t9 : Int) : A8 (S.step T) t0 t3 t4 t6 t7 t9 =
 brk (decide (t9 < 3)) (
 (x7 T t0 (IntKind.i64.wrap (t6 + t9))).bind fun d78 =>
 (Z4 T d78.1).bind fun d79 =>
 brk (decide (d79.1 < 0)) (
  some (Sum.inl (t3, IntKind.i64.wrap (t6 + t9), ()))) (
  A8 T t0 t3 t4 t6 t7 (IntKind.i64.wrap (t9 + 1)))) (
 some (Sum.inr (Sum.inl (t0, t3, t4, t6, t7, ()))))
 := eL Tryz.func215 rfl (by kernel_rfl)
theorem aP8 (T : S.Tab) : ah0 (S.step T) =
 some (([([46, 46, 46] : List Int), ([46, 46] : List Int), ([46] : List Int), ([60, 60] : List Int), ([60, 61] : List Int), ([60] : List Int), ([62, 62] : List Int), ([62, 61] : List Int), ([62] : List Int), ([61, 61] : List Int), ([61] : List Int), ([126, 61] : List Int), ([126] : List Int), ([47, 47] : List Int), ([47] : List Int), ([40] : List Int), ([41] : List Int), ([123] : List Int), ([125] : List Int), ([91] : List Int), ([93] : List Int), ([44] : List Int), ([59] : List Int), ([35] : List Int), ([43] : List Int), ([45] : List Int), ([42] : List Int), ([37] : List Int), ([38] : List Int), ([124] : List Int)] : List (List Int)), ay1)
 := eF Tryz.func203 (by kernel_rfl)
theorem aY3 (T : S.Tab) (t0 : List Int) : V8 (S.step T) t0 =
 (E6 T t0 ([([] : List Int), ([43] : List Int), ([45] : List Int), ([42] : List Int), ([47] : List Int), ([47, 47] : List Int), ([37] : List Int), ([38] : List Int), ([124] : List Int), ([126] : List Int), ([60, 60] : List Int), ([62, 62] : List Int), ([46, 46] : List Int), ([61, 61] : List Int), ([126, 61] : List Int), ([60] : List Int), ([60, 61] : List Int), ([62] : List Int), ([62, 61] : List Int)] : List (List Int)) 1).bind (K0
  (fun y3 =>
 some (y3.1, S9))
  (fun y3 =>
 (H0 T y3.1 ([([40] : List Int), ([41] : List Int), ([123] : List Int), ([125] : List Int), ([91] : List Int), ([93] : List Int), ([44] : List Int), ([61] : List Int), ([46] : List Int), ([46, 46, 46] : List Int), ([35] : List Int)] : List (List Int)) (([([40] : List Int), ([41] : List Int), ([123] : List Int), ([125] : List Int), ([91] : List Int), ([93] : List Int), ([44] : List Int), ([61] : List Int), ([46] : List Int), ([46, 46, 46] : List Int), ([35] : List Int)] : List (List Int)).length : Int) 0).bind (K0
  (fun y9 =>
  some (y9.1, S9))
  (fun y9 =>
  some (5, S9)))))
 := eF Tryz.func204 (by kernel_rfl)
theorem an9 (T : S.Tab) (t0 : List Int) (t3 : List (List Int)) (t4 : Int) : E6 (S.step T) t0 t3 t4 =
 brk (decide (t4 < (t3.length : Int))) (
 brk (decide (0 ≤ t4) && decide (t4 < (t3.length : Int))) (
 brk (decide ((t3.getD t4.toNat []) = t0)) (
  some (Sum.inl (IntKind.i64.wrap (60 + t4), ()))) (
  E6 T t0 t3 (IntKind.i64.wrap (t4 + 1)))) none) (
 some (Sum.inr (Sum.inl (t0, ()))))
 := eL Tryz.func204 rfl (by kernel_rfl)
theorem am1 (T : S.Tab) (t0 : List Int) (t24 : List (List Int)) (t25 : Int) (t26 : Int) : H0 (S.step T) t0 t24 t25 t26 =
 brk (decide (t26 < t25)) (
 brk (decide (0 ≤ t26) && decide (t26 < (t24.length : Int))) (
 brk (decide ((t24.getD t26.toNat []) = t0)) (
  some (Sum.inl (IntKind.i64.wrap (40 + t26), ()))) (
  H0 T t0 t24 t25 (IntKind.i64.wrap (t26 + 1)))) none) (
 some (Sum.inr (Sum.inl ())))
 := eL Tryz.func204 rfl (by kernel_rfl)
theorem aW4 (T : S.Tab) (t0 : List Int) (t1 : Int) : K6 (S.step T) t0 t1 =
 brk (decide (0 ≤ t1) && decide (t1 < (t0.length : Int))) (
 brk (decide (t0.getD t1.toNat 0 = 10)) (
 some (((7, t1, IntKind.i64.wrap (t1 + 1), 0, 0, ([] : List Int), ()), (-1 : Int), ()), P8)) (
 (Y3 T (t0.getD t1.toNat 0)).bind fun d23 =>
 brk (d23.1) (
  (ar6 T t0 (0, t1, 0, 0, 0, ([] : List Int), ())).bind fun d26 =>
  some (d26.1, P8)) (
  (D8 T (t0.getD t1.toNat 0)).bind fun d30 =>
  brk (d30.1) (
  (T1 T t0 (0, t1, 0, 0, 0, ([] : List Int), ())).bind fun d33 =>
  some (d33.1, P8)) (
  brk (decide (t0.getD t1.toNat 0 = 34)) (
   (ad5 T t0 (0, t1, 0, 0, 0, ([] : List Int), ())).bind fun d40 =>
   some (d40.1, P8)) (
   (ah0 T).bind fun d43 =>
   (C9 T t0 t1 (0, 0, 0, 0, 0, ([] : List Int), ()) (0, t1, 0, 0, 0, ([] : List Int), ()) d43.1 (d43.1.length : Int) 0).bind (K0
    (fun y14 =>
   some (y14, P8))
    (fun y14 =>
   some ((y14.2.2.1, y14.1, ()), P8)))))))) none
 := eF Tryz.func144 (by kernel_rfl)
theorem ai5 (T : S.Tab) (t0 : List Int) (t1 : Int) (t4 : l8.den) (t6 : l8.den) (t43 : List (List Int)) (t44 : Int) (t45 : Int) : C9 (S.step T) t0 t1 t4 t6 t43 t44 t45 =
 brk (decide (t45 < t44)) (
 brk (decide (0 ≤ t45) && decide (t45 < (t43.length : Int))) (
 brk (decide (((t43.getD t45.toNat []).length : Int) ≤ IntKind.i64.wrap ((t0.length : Int) - t1))) (
  brk (bounds t0.length t1 (IntKind.i64.wrap (t1 + ((t43.getD t45.toNat []).length : Int)))) (
  brk (decide ((sub t0 t1 (IntKind.i64.wrap (t1 + ((t43.getD t45.toNat []).length : Int)))) = (t43.getD t45.toNat []))) (
  (V8 T (t43.getD t45.toNat [])).bind fun d68 =>
  some (Sum.inl ((d68.1, t6.2.1, IntKind.i64.wrap (t1 + ((t43.getD t45.toNat []).length : Int)), t6.2.2.2), (-1 : Int), ()))) (
  C9 T t0 t1 t4 t6 t43 t44 (IntKind.i64.wrap (t45 + 1)))) none) (
  C9 T t0 t1 t4 t6 t43 t44 (IntKind.i64.wrap (t45 + 1)))) none) (
 some (Sum.inr (Sum.inl (t1, t4, t6, ()))))
 := eL Tryz.func144 rfl (by kernel_rfl)
theorem ac1 (T : S.Tab) (t0 : List Int) : A9 (S.step T) t0 =
 brk (decide ((t0.length : Int) = 0)) (
 some (false, F1)) (
 brk (decide (40 < (t0.length : Int))) (
  some (false, F1)) (
  brk (decide (0 < (t0.length : Int))) (
  (Y3 T (t0.getD 0 0)).bind fun d16 =>
  brk (!d16.1) (
  some (false, F1)) (
  (K6 T t0 0).bind fun d21 =>
  brk (decide (d21.1.2.1 < 0)) (
   brk (decide (d21.1.1.1 = 1)) (
   some (decide (d21.1.1.2.2.1 = (t0.length : Int)), F1)) (
   some (false, F1))) (
   some (false, F1)))) none))
 := eF Tryz.func184 (by kernel_rfl)
theorem aQ6 (T : S.Tab) (t0 : b8.den) (t1 : Int) (t2 : Int) : H8 (S.step T) t0 t1 t2 =
 brk (decide ((t0.2.2.2.2.2.2.2.1.length : Int) < t1)) (
 some (false, Q6)) (
 brk (decide (t2 < (t0.2.2.2.2.2.2.2.1.length : Int))) (
  some (false, Q6)) (
  (F0 T t0.2.2.2.2.2.2.2.1 (t0.2.2.2.2.2.2.2.1.length : Int) 0).bind (K0
   (fun y4 =>
  some (y4.1, Q6))
   (fun y4 =>
  some (true, Q6)))))
 := eF Tryz.func180 (by kernel_rfl)
theorem ak5 (T : S.Tab) (t22 : List (List Int)) (t23 : Int) (t24 : Int) : F0 (S.step T) t22 t23 t24 =
 brk (decide (t24 < t23)) (
 brk (decide (0 ≤ t24) && decide (t24 < (t22.length : Int))) (
 (A9 T (t22.getD t24.toNat [])).bind fun d29 =>
 brk (!d29.1) (
  some (Sum.inl (false, ()))) (
  F0 T t22 t23 (IntKind.i64.wrap (t24 + 1)))) none) (
 some (Sum.inr (Sum.inl ())))
 := eL Tryz.func180 rfl (by kernel_rfl)
theorem aW6 (T : S.Tab) (t0 : Int) : ao8 (S.step T) t0 =
 brk (decide (20 ≤ t0)) (
 some (decide (t0 ≤ 37), ap6)) (
 some (false, ap6))
 := eF Tryz.func242 (by kernel_rfl)
theorem aO3 (T : S.Tab) (t0 : List b8.den × Unit) (t1 : b8.den) (t2 : Int) (t3 : Int) : p4 (S.step T) t0 t1 t2 t3 =
 (N2 T t3 t0 t1 t2).bind (K0
  (fun y2 =>
 some (y2.1, v8))
  (fun y2 =>
 some (true, v8)))
 := eF Tryz.func181 (by kernel_rfl)
theorem ag8 (T : S.Tab) (t3 : Int) (t4 : List b8.den × Unit) (t5 : b8.den) (t9 : Int) : N2 (S.step T) t3 t4 t5 t9 =
 brk (decide (t9 < t3)) (
 brk (decide (0 ≤ t9) && decide (t9 < (t5.2.2.2.2.2.2.2.2.1.length : Int))) (
 brk (decide (0 ≤ t5.2.2.2.2.2.2.2.2.1.getD t9.toNat 0) && decide (t5.2.2.2.2.2.2.2.2.1.getD t9.toNat 0 < (t4.1.length : Int))) (
 (ao8 T (at_ (τ := b8) t4.1 (t5.2.2.2.2.2.2.2.2.1.getD t9.toNat 0)).1).bind fun d26 =>
 brk (!d26.1) (
  some (Sum.inl (false, ()))) (
  N2 T t3 t4 t5 (IntKind.i64.wrap (t9 + 1)))) none) none) (
 some (Sum.inr (Sum.inl ())))
 := eL Tryz.func181 rfl (by kernel_rfl)
theorem aL6 (T : S.Tab) (t0 : Int) : ad9 (S.step T) t0 =
 brk (decide (t0 = 26)) (
 some (true, Y9)) (
 brk (decide (t0 = 32)) (
  some (true, Y9)) (
  some (decide (t0 = 33), Y9)))
 := eF Tryz.func182 (by kernel_rfl)
theorem aB1 (T : S.Tab) (t0 : List b8.den × Unit) (t1 : b8.den) : Q1 (S.step T) t0 t1 =
 brk (decide (t1.1 = 1)) (
 (x6 T t0 t1 (t1.2.2.2.2.2.2.2.2.1.length : Int) 0).bind (K0
  (fun y5 =>
  some (y5.1, j9))
  (fun y5 =>
  (q8 T y5.1 false false false false).bind fun d29 =>
  some (d29.1, j9)))) (
 brk (decide (t1.1 = 2)) (
  (q8 T t1 false false false true).bind fun d33 =>
  brk (d33.1) (
  (H8 T t1 1 200).bind fun d36 =>
  brk (d36.1) (
   (p4 T t0 t1 0 (t1.2.2.2.2.2.2.2.2.1.length : Int)).bind fun d42 =>
   some (d42.1, j9)) (
   some (false, j9))) (
  some (false, j9))) (
  brk (decide (t1.1 = 3)) (
  (q8 T t1 false false false true).bind fun d47 =>
  brk (d47.1) (
   (H8 T t1 1 1).bind fun d50 =>
   brk (d50.1) (
   brk (decide ((t1.2.2.2.2.2.2.2.2.1.length : Int) = 1)) (
    (p4 T t0 t1 0 1).bind fun d59 =>
    some (d59.1, j9)) (
    some (false, j9))) (
   some (false, j9))) (
   some (false, j9))) (
  brk (decide (t1.1 = 4)) (
   (q8 T t1 false false false true).bind fun d64 =>
   brk (d64.1) (
   (H8 T t1 1 1).bind fun d67 =>
   brk (d67.1) (
    brk (decide ((t1.2.2.2.2.2.2.2.2.1.length : Int) = 1)) (
    (r7 T t0 t1 0).bind fun d76 =>
    some (decide (d76.1 = 36), j9)) (
    some (false, j9))) (
    some (false, j9))) (
   some (false, j9))) (
   brk (decide (t1.1 = 5)) (
   (q8 T t1 false true false false).bind fun d82 =>
   brk (!d82.1) (
    some (false, j9)) (
    brk (decide (t1.2.2.2.2.2.1 < 1)) (
    some (false, j9)) (
    brk (decide ((t1.2.2.2.2.2.2.2.2.1.length : Int) ≤ t1.2.2.2.2.2.1)) (
     some (false, j9)) (
     (s5 T t0 t1 (t1.2.2.2.2.2.2.2.2.1.length : Int) 0).bind (K0
      (fun y21 =>
     some (y21.1, j9))
      (fun y21 =>
     (p4 T y21.1 y21.2.1 y21.2.1.2.2.2.2.2.1 y21.2.2.1).bind fun d112 =>
     some (d112.1, j9))))))) (
   brk (decide (t1.1 = 6)) (
    (J0 T t0 t1 (t1.2.2.2.2.2.2.2.2.1.length : Int) t1.1 (decide (t1.1 = 6))).bind (K0
     (fun y28 =>
    some (y28.1, j9))
     (fun y28 =>
    (C2 T y28.1 y28.2.1 y28.2.2.1).bind (C3
     (fun y46 =>
     some (y46.1, j9)))))) (
    (J0 T t0 t1 (t1.2.2.2.2.2.2.2.2.1.length : Int) t1.1 (decide (t1.1 = 16))).bind (K0
     (fun y28 =>
    some (y28.1, j9))
     (fun y28 =>
    (C2 T y28.1 y28.2.1 y28.2.2.1).bind (C3
     (fun y46 =>
     some (y46.1, j9)))))))))))
 := eF Tryz.func115 (by kernel_rfl)
theorem aq4 (T : S.Tab) (t2 : List b8.den × Unit) (t3 : b8.den) (t5 : Int) (t12 : Int) (t113 : Bool) : J0 (S.step T) t2 t3 t5 t12 t113 =
 brk (t113) (
 (q8 T t3 false false false false).bind fun d117 =>
 brk (d117.1) (
  brk (decide (t5 = 1)) (
  (r7 T t2 t3 0).bind fun d125 =>
  some (Sum.inl (decide (d125.1 = 34), ()))) (
  some (Sum.inl (false, ())))) (
  some (Sum.inl (false, ())))) (
 brk (decide (t12 = 7)) (
  (q8 T t3 false false false false).bind fun d131 =>
  brk (!d131.1) (
  some (Sum.inl (false, ()))) (
  brk (decide (t5 < 2)) (
   some (Sum.inl (false, ()))) (
   brk (decide (3 < t5)) (
   some (Sum.inl (false, ()))) (
   (p4 T t2 t3 0 1).bind fun d144 =>
   brk (!d144.1) (
    some (Sum.inl (false, ()))) (
    (r7 T t2 t3 1).bind fun d150 =>
    brk (!decide (d150.1 = 1)) (
    some (Sum.inl (false, ()))) (
    brk (decide (t5 = 2)) (
     some (Sum.inl (true, ()))) (
     (r7 T t2 t3 2).bind fun d158 =>
     brk (decide (d158.1 = 1)) (
     some (Sum.inl (true, ()))) (
     (r7 T t2 t3 2).bind fun d164 =>
     some (Sum.inl (decide (d164.1 = 7), ())))))))))) (
  brk (decide (t12 = 8)) (
  (q8 T t3 false false false false).bind fun d170 =>
  brk (d170.1) (
   brk (decide (t5 = 2)) (
   (p4 T t2 t3 0 1).bind fun d178 =>
   brk (d178.1) (
    (r7 T t2 t3 1).bind fun d183 =>
    some (Sum.inl (decide (d183.1 = 1), ()))) (
    some (Sum.inl (false, ())))) (
   some (Sum.inl (false, ())))) (
   some (Sum.inl (false, ())))) (
  brk (decide (t12 = 9)) (
   (q8 T t3 false false false true).bind fun d189 =>
   brk (d189.1) (
   (H8 T t3 1 1).bind fun d192 =>
   brk (d192.1) (
    brk (decide (t5 = 3)) (
    (p4 T t2 t3 0 (IntKind.i64.wrap (t5 - 1))).bind fun d207 =>
    brk (d207.1) (
     (r7 T t2 t3 (IntKind.i64.wrap (t5 - 1))).bind fun d214 =>
     some (Sum.inl (decide (d214.1 = 1), ()))) (
     some (Sum.inl (false, ())))) (
    brk (decide (t5 = 4)) (
     (p4 T t2 t3 0 (IntKind.i64.wrap (t5 - 1))).bind fun d207 =>
     brk (d207.1) (
     (r7 T t2 t3 (IntKind.i64.wrap (t5 - 1))).bind fun d214 =>
     some (Sum.inl (decide (d214.1 = 1), ()))) (
     some (Sum.inl (false, ())))) (
     some (Sum.inl (false, ()))))) (
    some (Sum.inl (false, ())))) (
   some (Sum.inl (false, ())))) (
   brk (decide (t12 = 10)) (
   (q8 T t3 false false false true).bind fun d220 =>
   brk (d220.1) (
    (H8 T t3 1 200).bind fun d223 =>
    brk (d223.1) (
    brk (decide (t5 = 2)) (
     (p4 T t2 t3 0 1).bind fun d232 =>
     brk (d232.1) (
     (r7 T t2 t3 1).bind fun d237 =>
     some (Sum.inl (decide (d237.1 = 1), ()))) (
     some (Sum.inl (false, ())))) (
     some (Sum.inl (false, ())))) (
    some (Sum.inl (false, ())))) (
    some (Sum.inl (false, ())))) (
   brk (decide (t12 = 11)) (
    (G2 T t2 t3 t5 t12 (decide (t12 = 11))).bind (K0
     (fun y41 =>
    some (Sum.inl y41))
     (fun y41 =>
    some (Sum.inr (Sum.inl y41))))) (
    (G2 T t2 t3 t5 t12 (decide (t12 = 12))).bind (K0
     (fun y41 =>
    some (Sum.inl y41))
     (fun y41 =>
    some (Sum.inr (Sum.inl y41))))))))))
 := eJ Tryz.func115 rfl (by kernel_rfl)
theorem ap7 (T : S.Tab) (t2 : List b8.den × Unit) (t3 : b8.den) (t5 : Int) (t12 : Int) (t240 : Bool) : G2 (S.step T) t2 t3 t5 t12 t240 =
 brk (t240) (
 (q8 T t3 false false false false).bind fun d244 =>
 brk (d244.1) (
  some (Sum.inl (decide (t5 = 0), ()))) (
  some (Sum.inl (false, ())))) (
 brk (decide (t12 = 13)) (
  (q8 T t3 false false false false).bind fun d252 =>
  brk (d252.1) (
  (p4 T t2 t3 0 t5).bind fun d257 =>
  some (Sum.inl (d257.1, ()))) (
  some (Sum.inl (false, ())))) (
  brk (decide (t12 = 14)) (
  (q8 T t3 false false false true).bind fun d262 =>
  brk (d262.1) (
   (H8 T t3 1 2).bind fun d265 =>
   brk (d265.1) (
   brk (decide (t5 = 2)) (
    (r7 T t2 t3 0).bind fun d274 =>
    brk (decide (d274.1 = 1)) (
    (r7 T t2 t3 1).bind fun d280 =>
    some (Sum.inl (decide (d280.1 = 1), ()))) (
    some (Sum.inl (false, ())))) (
    some (Sum.inl (false, ())))) (
   some (Sum.inl (false, ())))) (
   some (Sum.inl (false, ())))) (
  some (Sum.inr (Sum.inl (t2, t3, t5, ()))))))
 := eJ Tryz.func115 rfl (by kernel_rfl)
theorem ap9 (T : S.Tab) (t2 : List b8.den × Unit) (t3 : b8.den) (t5 : Int) : C2 (S.step T) t2 t3 t5 =
 brk (decide (t3.1 = 15)) (
 (q8 T t3 false false false false).bind fun d288 =>
 brk (d288.1) (
  brk (decide (t5 = 1)) (
  (p4 T t2 t3 0 1).bind fun d297 =>
  some (Sum.inl (d297.1, ()))) (
  some (Sum.inl (false, ())))) (
  some (Sum.inl (false, ())))) (
 some (Sum.inl (false, ())))
 := eJ Tryz.func115 rfl (by kernel_rfl)
theorem Z1 (T : S.Tab) (t2 : List b8.den × Unit) (t3 : b8.den) (t17 : Int) (t18 : Int) : x6 (S.step T) t2 t3 t17 t18 =
 brk (decide (t18 < t17)) (
 (r7 T t2 t3 t18).bind fun d24 =>
 (S4 T d24.1).bind fun d25 =>
 brk (!d25.1) (
  some (Sum.inl (false, ()))) (
  x6 T t2 t3 t17 (IntKind.i64.wrap (t18 + 1)))) (
 some (Sum.inr (Sum.inl (t3, ()))))
 := eL Tryz.func115 rfl (by kernel_rfl)
theorem Y7 (T : S.Tab) (t2 : List b8.den × Unit) (t3 : b8.den) (t5 : Int) (t7 : Int) : s5 (S.step T) t2 t3 t5 t7 =
 brk (decide (t7 < t3.2.2.2.2.2.1)) (
 (r7 T t2 t3 t7).bind fun d104 =>
 (ad9 T d104.1).bind fun d105 =>
 brk (!d105.1) (
  some (Sum.inl (false, ()))) (
  s5 T t2 t3 t5 (IntKind.i64.wrap (t7 + 1)))) (
 some (Sum.inr (Sum.inl (t2, t3, t5, ()))))
 := eL Tryz.func115 rfl (by kernel_rfl)
theorem af6 (T : S.Tab) (t0 : List Int) : L8 (S.step T) t0 =
 brk (decide ((t0.length : Int) = 0)) (
 some (false, J5)) (
 brk (decide (40 < (t0.length : Int))) (
  some (false, J5)) (
  brk (decide (0 < (t0.length : Int))) (
  (D8 T (t0.getD 0 0)).bind fun d16 =>
  brk (!d16.1) (
  some (false, J5)) (
  (K6 T t0 0).bind fun d21 =>
  brk (decide (d21.1.2.1 < 0)) (
   brk (decide (d21.1.1.1 = 3)) (
   some (decide (d21.1.1.2.2.1 = (t0.length : Int)), J5)) (
   some (false, J5))) (
   some (false, J5)))) none))
 := eF Tryz.func183 (by kernel_rfl)
theorem ax1 (T : S.Tab) (t0 : List b8.den × Unit) (t1 : b8.den) : N8 (S.step T) t0 t1 =
 brk (decide (t1.1 = 20)) (
 (C1 T t0 t1 (t1.2.2.2.2.2.2.2.2.1.length : Int) t1.1 (decide (t1.1 = 20))).bind (K0
  (fun y7 =>
  some (y7.1, r9))
  (fun y7 =>
  (u9 T y7.1 y7.2.1 y7.2.2.1).bind (C3
   (fun y46 =>
  some (y46.1, r9)))))) (
 brk (decide (t1.1 = 21)) (
  (C1 T t0 t1 (t1.2.2.2.2.2.2.2.2.1.length : Int) t1.1 (decide (t1.1 = 21))).bind (K0
   (fun y7 =>
  some (y7.1, r9))
   (fun y7 =>
  (u9 T y7.1 y7.2.1 y7.2.2.1).bind (C3
   (fun y46 =>
   some (y46.1, r9)))))) (
  brk (decide (t1.1 = 22)) (
  (C1 T t0 t1 (t1.2.2.2.2.2.2.2.2.1.length : Int) t1.1 (decide (t1.1 = 22))).bind (K0
   (fun y7 =>
   some (y7.1, r9))
   (fun y7 =>
   (u9 T y7.1 y7.2.1 y7.2.2.1).bind (C3
    (fun y46 =>
   some (y46.1, r9)))))) (
  (C1 T t0 t1 (t1.2.2.2.2.2.2.2.2.1.length : Int) t1.1 (decide (t1.1 = 27))).bind (K0
   (fun y7 =>
   some (y7.1, r9))
   (fun y7 =>
   (u9 T y7.1 y7.2.1 y7.2.2.1).bind (C3
    (fun y46 =>
   some (y46.1, r9))))))))
 := eF Tryz.func116 (by kernel_rfl)
theorem ar8 (T : S.Tab) (t2 : List b8.den × Unit) (t3 : b8.den) (t5 : Int) (t12 : Int) (t13 : Bool) : C1 (S.step T) t2 t3 t5 t12 t13 =
 brk (t13) (
 brk (decide (t5 = 0)) (
  (q8 T t3 false false false false).bind fun d22 =>
  some (Sum.inl (d22.1, ()))) (
  some (Sum.inl (false, ())))) (
 brk (decide (t12 = 23)) (
  brk (decide (t5 = 0)) (
  (q8 T t3 false true false false).bind fun d30 =>
  some (Sum.inl (d30.1, ()))) (
  some (Sum.inl (false, ())))) (
  brk (decide (t12 = 24)) (
  brk (decide (t5 = 0)) (
   (q8 T t3 false false true false).bind fun d38 =>
   brk (d38.1) (
   (L8 T t3.2.2.2.2.2.2.1).bind fun d43 =>
   some (Sum.inl (d43.1, ()))) (
   some (Sum.inl (false, ())))) (
   some (Sum.inl (false, ())))) (
  brk (decide (t12 = 25)) (
   brk (decide (t5 = 0)) (
   (q8 T t3 false false true false).bind fun d51 =>
   brk (d51.1) (
    some (Sum.inl (decide ((t3.2.2.2.2.2.2.1.length : Int) ≤ 4000), ()))) (
    some (Sum.inl (false, ())))) (
   some (Sum.inl (false, ())))) (
   brk (decide (t12 = 26)) (
   brk (decide (t5 = 0)) (
    (q8 T t3 false false true false).bind fun d65 =>
    brk (d65.1) (
    (A9 T t3.2.2.2.2.2.2.1).bind fun d70 =>
    some (Sum.inl (d70.1, ()))) (
    some (Sum.inl (false, ())))) (
    some (Sum.inl (false, ())))) (
   brk (decide (t12 = 28)) (
    (D6 T t2 t3 t5 t12 (decide (t12 = 28))).bind (K0
     (fun y18 =>
    some (Sum.inl y18))
     (fun y18 =>
    some (Sum.inr (Sum.inl y18))))) (
    (D6 T t2 t3 t5 t12 (decide (t12 = 29))).bind (K0
     (fun y18 =>
    some (Sum.inl y18))
     (fun y18 =>
    some (Sum.inr (Sum.inl y18))))))))))
 := eJ Tryz.func116 rfl (by kernel_rfl)
theorem an0 (T : S.Tab) (t2 : List b8.den × Unit) (t3 : b8.den) (t5 : Int) (t12 : Int) (t72 : Bool) : D6 (S.step T) t2 t3 t5 t12 t72 =
 brk (t72) (
 brk (decide (t5 = 2)) (
  (p4 T t2 t3 0 2).bind fun d80 =>
  brk (d80.1) (
  (q8 T t3 false false false false).bind fun d84 =>
  some (Sum.inl (d84.1, ()))) (
  some (Sum.inl (false, ())))) (
  some (Sum.inl (false, ())))) (
 brk (decide (t12 = 32)) (
  brk (decide (t5 = 2)) (
  (p4 T t2 t3 0 2).bind fun d93 =>
  brk (d93.1) (
   (r7 T t2 t3 0).bind fun d98 =>
   brk (!decide (d98.1 = 27)) (
   (q8 T t3 false false false false).bind fun d103 =>
   some (Sum.inl (d103.1, ()))) (
   some (Sum.inl (false, ())))) (
   some (Sum.inl (false, ())))) (
  some (Sum.inl (false, ())))) (
  brk (decide (t12 = 30)) (
  brk (decide (t5 = 1)) (
   (p4 T t2 t3 0 1).bind fun d112 =>
   brk (d112.1) (
   (q8 T t3 true false false false).bind fun d116 =>
   brk (d116.1) (
    brk (decide (19 ≤ t3.2.2.2.2.1)) (
    some (Sum.inl (decide (t3.2.2.2.2.1 ≤ 22), ()))) (
    some (Sum.inl (false, ())))) (
    some (Sum.inl (false, ())))) (
   some (Sum.inl (false, ())))) (
   some (Sum.inl (false, ())))) (
  brk (decide (t12 = 31)) (
   brk (decide (t5 = 2)) (
   (p4 T t2 t3 0 2).bind fun d135 =>
   brk (d135.1) (
    (q8 T t3 true false false false).bind fun d139 =>
    brk (d139.1) (
    brk (decide (1 ≤ t3.2.2.2.2.1)) (
     some (Sum.inl (decide (t3.2.2.2.2.1 ≤ 18), ()))) (
     some (Sum.inl (false, ())))) (
    some (Sum.inl (false, ())))) (
    some (Sum.inl (false, ())))) (
   some (Sum.inl (false, ())))) (
   brk (decide (t12 = 33)) (
   brk (decide (t5 = 1)) (
    (p4 T t2 t3 0 1).bind fun d158 =>
    brk (d158.1) (
    (r7 T t2 t3 0).bind fun d163 =>
    brk (!decide (d163.1 = 27)) (
     (q8 T t3 false false true false).bind fun d168 =>
     brk (d168.1) (
     (A9 T t3.2.2.2.2.2.2.1).bind fun d173 =>
     some (Sum.inl (d173.1, ()))) (
     some (Sum.inl (false, ())))) (
     some (Sum.inl (false, ())))) (
    some (Sum.inl (false, ())))) (
    some (Sum.inl (false, ())))) (
   brk (decide (t12 = 34)) (
    brk (decide (1 ≤ t5)) (
    (p4 T t2 t3 0 t5).bind fun d183 =>
    brk (d183.1) (
     (r7 T t2 t3 0).bind fun d188 =>
     brk (!decide (d188.1 = 27)) (
     (q8 T t3 false false false false).bind fun d193 =>
     some (Sum.inl (d193.1, ()))) (
     some (Sum.inl (false, ())))) (
     some (Sum.inl (false, ())))) (
    some (Sum.inl (false, ())))) (
    brk (decide (t12 = 35)) (
    (u6 T t2 t3 (t3.2.2.2.2.2.2.2.2.1.length : Int) 0).bind (K0
     (fun y31 =>
     some (Sum.inl y31))
     (fun y31 =>
     (q8 T y31.1 false false false false).bind fun d215 =>
     some (Sum.inl (d215.1, ()))))) (
    brk (decide (t12 = 36)) (
     brk (decide (t5 = 1)) (
     (r7 T t2 t3 0).bind fun d223 =>
     brk (decide (d223.1 = 1)) (
      (q8 T t3 true false false true).bind fun d228 =>
      brk (d228.1) (
      (H8 T t3 0 200).bind fun d232 =>
      brk (d232.1) (
       brk (decide (t3.2.2.2.2.1 = 0)) (
       some (Sum.inl (true, ()))) (
       some (Sum.inl (decide (t3.2.2.2.2.1 = 1), ())))) (
       some (Sum.inl (false, ())))) (
      some (Sum.inl (false, ())))) (
      some (Sum.inl (false, ())))) (
     some (Sum.inl (false, ())))) (
     brk (decide (t12 = 37)) (
     brk (decide (t5 = 1)) (
      (r7 T t2 t3 0).bind fun d251 =>
      brk (decide (d251.1 = 34)) (
      (q8 T t3 false false false false).bind fun d262 =>
      some (Sum.inl (d262.1, ()))) (
      (r7 T t2 t3 0).bind fun d256 =>
      brk (decide (d256.1 = 27)) (
       (q8 T t3 false false false false).bind fun d262 =>
       some (Sum.inl (d262.1, ()))) (
       some (Sum.inl (false, ()))))) (
      some (Sum.inl (false, ())))) (
     brk (decide (t12 = 40)) (
      brk (decide (t5 = 1)) (
      (p4 T t2 t3 0 1).bind fun d271 =>
      brk (d271.1) (
       (q8 T t3 false false false false).bind fun d275 =>
       some (Sum.inl (d275.1, ()))) (
       some (Sum.inl (false, ())))) (
      some (Sum.inl (false, ())))) (
      brk (decide (t12 = 41)) (
      brk (decide (t5 = 2)) (
       (p4 T t2 t3 0 2).bind fun d284 =>
       brk (d284.1) (
       (q8 T t3 false false false false).bind fun d288 =>
       some (Sum.inl (d288.1, ()))) (
       some (Sum.inl (false, ())))) (
       some (Sum.inl (false, ())))) (
      some (Sum.inr (Sum.inl (t2, t3, t5, ()))))))))))))))
 := eJ Tryz.func116 rfl (by kernel_rfl)
theorem ao0 (T : S.Tab) (t2 : List b8.den × Unit) (t3 : b8.den) (t5 : Int) : u9 (S.step T) t2 t3 t5 =
 brk (decide (t3.1 = 42)) (
 brk (decide (t5 = 1)) (
  (p4 T t2 t3 0 1).bind fun d300 =>
  brk (d300.1) (
  (q8 T t3 false false true false).bind fun d304 =>
  brk (d304.1) (
   (A9 T t3.2.2.2.2.2.2.1).bind fun d309 =>
   some (Sum.inl (d309.1, ()))) (
   some (Sum.inl (false, ())))) (
  some (Sum.inl (false, ())))) (
  some (Sum.inl (false, ())))) (
 some (Sum.inl (false, ())))
 := eJ Tryz.func116 rfl (by kernel_rfl)
theorem X3 (T : S.Tab) (t2 : List b8.den × Unit) (t3 : b8.den) (t199 : Int) (t200 : Int) : u6 (S.step T) t2 t3 t199 t200 =
 brk (decide (t200 < t199)) (
 (r7 T t2 t3 t200).bind fun d206 =>
 brk (decide (d206.1 < 40)) (
  some (Sum.inl (false, ()))) (
  brk (decide (42 < d206.1)) (
  some (Sum.inl (false, ()))) (
  u6 T t2 t3 t199 (IntKind.i64.wrap (t200 + 1))))) (
 some (Sum.inr (Sum.inl (t3, ()))))
 := eL Tryz.func116 rfl (by kernel_rfl)
theorem aL1 (T : S.Tab) (t0 : List b8.den × Unit) (t1 : Int) : w6 (S.step T) t0 t1 =
 brk (decide (0 ≤ t1) && decide (t1 < (t0.1.length : Int))) (
 brk (decide ((at_ (τ := b8) t0.1 t1).2.1 < 0)) (
 some (false, A1)) (
 brk (decide ((at_ (τ := b8) t0.1 t1).2.2.1 < (at_ (τ := b8) t0.1 t1).2.1)) (
  some (false, A1)) (
  brk (decide ((at_ (τ := b8) t0.1 t1).2.2.2.1 < 0)) (
  some (false, A1)) (
  brk (decide (200 < ((at_ (τ := b8) t0.1 t1).2.2.2.2.2.2.2.2.1.length : Int))) (
   some (false, A1)) (
   (A4 T t1 t0 (at_ (τ := b8) t0.1 t1) (at_ (τ := b8) t0.1 t1).2.2.2.2.2.2.2.2.1 ((at_ (τ := b8) t0.1 t1).2.2.2.2.2.2.2.2.1.length : Int) 0).bind (K0
    (fun y5 =>
   some (y5.1, A1))
    (fun y5 =>
   (S4 T y5.2.1.1).bind fun d51 =>
   brk (d51.1) (
    (Q1 T y5.1 y5.2.1).bind fun d54 =>
    some (d54.1, A1)) (
    (N8 T y5.1 y5.2.1).bind fun d57 =>
    some (d57.1, A1))))))))) none
 := eF Tryz.func71 (by kernel_rfl)
theorem ag0 (T : S.Tab) (t1 : Int) (t2 : List b8.den × Unit) (t5 : b8.den) (t35 : List Int) (t36 : Int) (t37 : Int) : A4 (S.step T) t1 t2 t5 t35 t36 t37 =
 brk (decide (t37 < t36)) (
 brk (decide (0 ≤ t37) && decide (t37 < (t35.length : Int))) (
 brk (decide (t35.getD t37.toNat 0 < 0)) (
  some (Sum.inl (false, ()))) (
  brk (decide (t1 ≤ t35.getD t37.toNat 0)) (
  some (Sum.inl (false, ()))) (
  A4 T t1 t2 t5 t35 t36 (IntKind.i64.wrap (t37 + 1))))) none) (
 some (Sum.inr (Sum.inl (t2, t5, ()))))
 := eL Tryz.func71 rfl (by kernel_rfl)
theorem aS5 (T : S.Tab) (t0 : List b8.den × Unit) : S2 (S.step T) t0 =
 brk (((decide (0 ≤ (t0.1.length : Int))) && (decide ((t0.1.length : Int) ≤ (t0.1.length : Int)))) && (decide ((t0.1.length : Int) ≤ lim))) (
 (w8 T (List.replicate ((t0.1.length : Int).toNat) 0) t0.1 (t0.1.length : Int) 0).bind (C3
  (fun y3 =>
 some (y3.1, ay9)))) none
 := eF Tryz.func72 (by kernel_rfl)
theorem ah9 (T : S.Tab) (t3 : List Int) (t15 : List b8.den) (t16 : Int) (t17 : Int) : w8 (S.step T) t3 t15 t16 t17 =
 brk (decide (t17 < t16)) (
 brk (decide (0 ≤ t17) && decide (t17 < (t15.length : Int))) (
 (C6 T t3 t17 (at_ (τ := b8) t15 t17) t17 true (IntKind.i64.wrap (((at_ (τ := b8) t15 t17).2.2.2.2.2.2.2.2.1.length : Int) - 1)) t15 t16 t17).bind (C3
  (fun y8 =>
  brk (y8.2.2.2.1) (
  brk (decide (0 ≤ y8.2.1) && decide (y8.2.1 < (y8.1.length : Int))) (
  w8 T (y8.1.set y8.2.1.toNat (IntKind.i64.wrap ((IntKind.i64.wrap (y8.2.1 - y8.2.2.1)) + 1))) y8.2.2.2.2.1 y8.2.2.2.2.2.1 (IntKind.i64.wrap (y8.2.2.2.2.2.2.1 + 1))) none) (
  w8 T y8.1 y8.2.2.2.2.1 y8.2.2.2.2.2.1 (IntKind.i64.wrap (y8.2.2.2.2.2.2.1 + 1)))))) none) (
 some (Sum.inl (t3, ())))
 := eL Tryz.func72 rfl (by kernel_rfl)
theorem R7 (T : S.Tab) (t3 : List Int) (t4 : Int) (t5 : b8.den) (t6 : Int) (t7 : Bool) (t8 : Int) (t15 : List b8.den) (t16 : Int) (t17 : Int) : C6 (S.step T) t3 t4 t5 t6 t7 t8 t15 t16 t17 =
 brk (decide (0 ≤ t8)) (
 brk (decide (0 ≤ t8) && decide (t8 < (t5.2.2.2.2.2.2.2.2.1.length : Int))) (
 brk (!decide (t5.2.2.2.2.2.2.2.2.1.getD t8.toNat 0 = IntKind.i64.wrap (t6 - 1))) (
  some (Sum.inl (t3, t4, t6, false, t15, t16, t17, ()))) (
  brk (decide (0 ≤ t5.2.2.2.2.2.2.2.2.1.getD t8.toNat 0) && decide (t5.2.2.2.2.2.2.2.2.1.getD t8.toNat 0 < (t3.length : Int))) (
  brk (decide (t3.getD ((t5.2.2.2.2.2.2.2.2.1.getD t8.toNat 0).toNat) 0 = 0)) (
  some (Sum.inl (t3, t4, t6, false, t15, t16, t17, ()))) (
  brk (decide (0 ≤ t5.2.2.2.2.2.2.2.2.1.getD t8.toNat 0) && decide (t5.2.2.2.2.2.2.2.2.1.getD t8.toNat 0 < (t3.length : Int))) (
  C6 T t3 t4 t5 (IntKind.i64.wrap (t6 - (t3.getD ((t5.2.2.2.2.2.2.2.2.1.getD t8.toNat 0).toNat) 0))) t7 (IntKind.i64.wrap (t8 - 1)) t15 t16 t17) none)) none)) none) (
 some (Sum.inl (t3, t4, t6, t7, t15, t16, t17, ())))
 := eL Tryz.func72 rfl (by kernel_rfl)
theorem ak6 (T : S.Tab) (t0 : List b8.den × Unit) : G8 (S.step T) t0 =
 brk (decide ((t0.1.length : Int) = 0)) (
 some ((1, 0, ()), F4)) (
 brk (decide (3000 < (t0.1.length : Int))) (
  some ((1, 0, ()), F4)) (
  brk (decide (0 ≤ IntKind.i64.wrap ((t0.1.length : Int) - 1)) && decide (IntKind.i64.wrap ((t0.1.length : Int) - 1) < (t0.1.length : Int))) (
  brk (!decide ((at_ (τ := b8) t0.1 (IntKind.i64.wrap ((t0.1.length : Int) - 1))).1 = 1)) (
  some ((1, 0, ()), F4)) (
  (E2 T t0 (0, 0, ()) (t0.1.length : Int) 0).bind (K0
   (fun y4 =>
   some (y4.1, F4))
   (fun y4 =>
   (S2 T y4.1).bind fun d50 =>
   (A0 T y4.1 y4.2.1 d50.1 d50.1 (d50.1.length : Int) 0).bind (K0
    (fun y11 =>
   some (y11.1, F4))
    (fun y11 =>
   brk (decide (0 ≤ IntKind.i64.wrap ((y11.2.2.1.length : Int) - 1)) && decide (IntKind.i64.wrap ((y11.2.2.1.length : Int) - 1) < (y11.2.2.1.length : Int))) (
   brk (!decide (y11.2.2.1.getD ((IntKind.i64.wrap ((y11.2.2.1.length : Int) - 1)).toNat) 0 = (y11.2.2.1.length : Int))) (
    some ((3, IntKind.i64.wrap ((y11.2.2.1.length : Int) - 1), ()), F4)) (
    brk (((decide (0 ≤ (y11.1.1.length : Int))) && (decide ((y11.1.1.length : Int) ≤ (y11.1.1.length : Int)))) && (decide ((y11.1.1.length : Int) ≤ lim))) (
    (K5 T y11.1 y11.2.1 (List.replicate ((y11.1.1.length : Int).toNat) 0) (IntKind.i64.wrap ((y11.1.1.length : Int) - 1))).bind (C3
     (fun y20 =>
    (F3 T y20.1 y20.2.1 (y20.2.1.length : Int) 0).bind (K0
     (fun y28 =>
     some (y28.1, F4))
     (fun y28 =>
     some ((0, 0, ()), F4)))))) none)) none)))))) none))
 := eF Tryz.func38 (by kernel_rfl)
theorem an1 (T : S.Tab) (t1 : List b8.den × Unit) (t2 : Int × Int × Unit) (t38 : Int) (t39 : Int) : E2 (S.step T) t1 t2 t38 t39 =
 brk (decide (t39 < t38)) (
 (w6 T t1 t39).bind fun d44 =>
 brk (!d44.1) (
  some (Sum.inl ((2, t39, ()), ()))) (
  E2 T t1 t2 t38 (IntKind.i64.wrap (t39 + 1)))) (
 some (Sum.inr (Sum.inl (t1, t2, ()))))
 := eL Tryz.func38 rfl (by kernel_rfl)
theorem aj3 (T : S.Tab) (t1 : List b8.den × Unit) (t2 : Int × Int × Unit) (t4 : List Int) (t51 : List Int) (t52 : Int) (t53 : Int) : A0 (S.step T) t1 t2 t4 t51 t52 t53 =
 brk (decide (t53 < t52)) (
 brk (decide (0 ≤ t53) && decide (t53 < (t51.length : Int))) (
 brk (decide (t51.getD t53.toNat 0 = 0)) (
  some (Sum.inl ((3, t53, ()), ()))) (
  A0 T t1 t2 t4 t51 t52 (IntKind.i64.wrap (t53 + 1)))) none) (
 some (Sum.inr (Sum.inl (t1, t2, t4, ()))))
 := eL Tryz.func38 rfl (by kernel_rfl)
theorem aj1 (T : S.Tab) (t1 : List b8.den × Unit) (t2 : Int × Int × Unit) (t7 : List Int) (t8 : Int) : K5 (S.step T) t1 t2 t7 t8 =
 brk (decide (0 ≤ t8)) (
 brk (decide (0 ≤ t8) && decide (t8 < (t1.1.length : Int))) (
 (I4 T t1 t2 t7 t8 (at_ (τ := b8) t1.1 t8).2.2.2.2.2.2.2.2.1 ((at_ (τ := b8) t1.1 t8).2.2.2.2.2.2.2.2.1.length : Int) 0).bind (C3
  (fun y23 =>
  K5 T y23.1 y23.2.1 y23.2.2.1 (IntKind.i64.wrap (y23.2.2.2.1 - 1))))) none) (
 some (Sum.inl (t2, t7, ())))
 := eL Tryz.func38 rfl (by kernel_rfl)
theorem ai4 (T : S.Tab) (t1 : List b8.den × Unit) (t2 : Int × Int × Unit) (t7 : List Int) (t8 : Int) (t93 : List Int) (t94 : Int) (t95 : Int) : I4 (S.step T) t1 t2 t7 t8 t93 t94 t95 =
 brk (decide (t95 < t94)) (
 brk (decide (0 ≤ t95) && decide (t95 < (t93.length : Int))) (
 brk (decide (0 ≤ t8) && decide (t8 < (t7.length : Int))) (
 brk (decide (0 ≤ t93.getD t95.toNat 0) && decide (t93.getD t95.toNat 0 < (t7.length : Int))) (
 I4 T t1 t2 (t7.set ((t93.getD t95.toNat 0).toNat) (IntKind.i64.wrap ((t7.getD t8.toNat 0) + 1))) t8 t93 t94 (IntKind.i64.wrap (t95 + 1))) none) none) none) (
 some (Sum.inl (t1, t2, t7, t8, ())))
 := eL Tryz.func38 rfl (by kernel_rfl)
theorem ah2 (T : S.Tab) (t2 : Int × Int × Unit) (t108 : List Int) (t109 : Int) (t110 : Int) : F3 (S.step T) t2 t108 t109 t110 =
 brk (decide (t110 < t109)) (
 brk (decide (0 ≤ t110) && decide (t110 < (t108.length : Int))) (
 brk (decide (100 < t108.getD t110.toNat 0)) (
  some (Sum.inl ((4, t110, ()), ()))) (
  F3 T t2 t108 t109 (IntKind.i64.wrap (t110 + 1)))) none) (
 some (Sum.inr (Sum.inl (t2, ()))))
 := eL Tryz.func38 rfl (by kernel_rfl)
theorem am6 (T : S.Tab) (t0 : Int) : E4 (S.step T) t0 =
 brk (decide (t0 = 0)) (
 some (([48] : List Int), V6)) (
 (D7 T t0 (decide (t0 < 0)) []).bind (C3
  (fun y5 =>
  brk (y5.1) (
  (M4 T y5.2.1 ([45] : List Int)).bind (C3
   (fun y14 =>
   some (y14.1, V6)))) (
  (M4 T y5.2.1 ([] : List Int)).bind (C3
   (fun y14 =>
   some (y14.1, V6)))))))
 := eF Tryz.func67 (by kernel_rfl)
theorem av5 (T : S.Tab) (t4 : List Int) (t6 : List Int) : M4 (S.step T) t4 t6 =
 (I6 T t4 t6 (IntKind.i64.wrap ((t4.length : Int) - 1))).bind (C3
  (fun y15 =>
 some (Sum.inl y15)))
 := eJ Tryz.func67 rfl (by kernel_rfl)
theorem U1 (T : S.Tab) (t0 : Int) (t3 : Bool) (t4 : List Int) : D7 (S.step T) t0 t3 t4 =
 brk (!decide (t0 = 0)) (
 brk (decide (t0.tmod 10 < 0)) (
  brk (fits (t4.length + ([IntKind.u8.wrap (IntKind.i64.wrap (48 + (IntKind.i64.wrap (0 - (t0.tmod 10)))))] : List Int).length)) (
  D7 T (IntKind.i64.wrap (t0.tdiv 10)) t3 (t4 ++ ([IntKind.u8.wrap (IntKind.i64.wrap (48 + (IntKind.i64.wrap (0 - (t0.tmod 10)))))] : List Int))) none) (
  brk (fits (t4.length + ([IntKind.u8.wrap (IntKind.i64.wrap (48 + (t0.tmod 10)))] : List Int).length)) (
  D7 T (IntKind.i64.wrap (t0.tdiv 10)) t3 (t4 ++ ([IntKind.u8.wrap (IntKind.i64.wrap (48 + (t0.tmod 10)))] : List Int))) none)) (
 some (Sum.inl (t3, t4, ())))
 := eL Tryz.func67 rfl (by kernel_rfl)
theorem ab4 (T : S.Tab) (t4 : List Int) (t6 : List Int) (t7 : Int) : I6 (S.step T) t4 t6 t7 =
 brk (decide (0 ≤ t7)) (
 brk (decide (0 ≤ t7) && decide (t7 < (t4.length : Int))) (
 brk (fits (t6.length + (([t4.getD t7.toNat 0] : List Int).map byte).length)) (
 I6 T t4 (t6 ++ (([t4.getD t7.toNat 0] : List Int).map byte)) (IntKind.i64.wrap (t7 - 1))) none) none) (
 some (Sum.inl (t6, ())))
 := eL Tryz.func67 rfl (by kernel_rfl)
theorem aO5 (T : S.Tab) (t0 : List Int) : ab0 (S.step T) t0 =
 (s6 T t0 ([48, 49, 50, 51, 52, 53, 54, 55, 56, 57, 97, 98, 99, 100, 101, 102] : List Int) ([34] : List Int) 0).bind (C3
  (fun y4 =>
 brk (fits (y4.1.length + 1)) (
 some ((y4.1 ++ ([34] : List Int)).map byte, aW8)) none))
 := eF Tryz.func77 (by kernel_rfl)
theorem ak2 (T : S.Tab) (t0 : List Int) (t3 : List Int) (t4 : List Int) (t5 : Int) : s6 (S.step T) t0 t3 t4 t5 =
 brk (decide (t5 < (t0.length : Int))) (
 brk (decide (0 ≤ t5) && decide (t5 < (t0.length : Int))) (
 brk (decide (t0.getD t5.toNat 0 = 10)) (
  brk (fits (t4.length + 2)) (
  s6 T t0 t3 (t4 ++ ([92, 110] : List Int)) (IntKind.i64.wrap (t5 + 1))) none) (
  brk (decide (t0.getD t5.toNat 0 = 9)) (
  brk (fits (t4.length + 2)) (
  s6 T t0 t3 (t4 ++ ([92, 116] : List Int)) (IntKind.i64.wrap (t5 + 1))) none) (
  brk (decide (t0.getD t5.toNat 0 = 34)) (
   brk (fits (t4.length + ([92, t0.getD t5.toNat 0] : List Int).length)) (
   s6 T t0 t3 (t4 ++ ([92, t0.getD t5.toNat 0] : List Int)) (IntKind.i64.wrap (t5 + 1))) none) (
   brk (decide (t0.getD t5.toNat 0 = 92)) (
   brk (fits (t4.length + ([92, t0.getD t5.toNat 0] : List Int).length)) (
   s6 T t0 t3 (t4 ++ ([92, t0.getD t5.toNat 0] : List Int)) (IntKind.i64.wrap (t5 + 1))) none) (
   brk (decide (t0.getD t5.toNat 0 < 32)) (
    brk (decide (0 ≤ (t0.getD t5.toNat 0).fdiv (2 ^ min ((4 : Int).toNat) IntKind.u8.bits)) && decide ((t0.getD t5.toNat 0).fdiv (2 ^ min ((4 : Int).toNat) IntKind.u8.bits) < (t3.length : Int))) (
    brk (decide (0 ≤ intBits .and .u8 (t0.getD t5.toNat 0) 15) && decide (intBits .and .u8 (t0.getD t5.toNat 0) 15 < (t3.length : Int))) (
    brk (fits (t4.length + ([92, 120, t3.getD (((t0.getD t5.toNat 0).fdiv (2 ^ min ((4 : Int).toNat) IntKind.u8.bits)).toNat) 0, t3.getD ((intBits .and .u8 (t0.getD t5.toNat 0) 15).toNat) 0] : List Int).length)) (
    s6 T t0 t3 (t4 ++ ([92, 120, t3.getD (((t0.getD t5.toNat 0).fdiv (2 ^ min ((4 : Int).toNat) IntKind.u8.bits)).toNat) 0, t3.getD ((intBits .and .u8 (t0.getD t5.toNat 0) 15).toNat) 0] : List Int)) (IntKind.i64.wrap (t5 + 1))) none) none) none) (
    brk (decide (126 < t0.getD t5.toNat 0)) (
    brk (decide (0 ≤ (t0.getD t5.toNat 0).fdiv (2 ^ min ((4 : Int).toNat) IntKind.u8.bits)) && decide ((t0.getD t5.toNat 0).fdiv (2 ^ min ((4 : Int).toNat) IntKind.u8.bits) < (t3.length : Int))) (
    brk (decide (0 ≤ intBits .and .u8 (t0.getD t5.toNat 0) 15) && decide (intBits .and .u8 (t0.getD t5.toNat 0) 15 < (t3.length : Int))) (
    brk (fits (t4.length + ([92, 120, t3.getD (((t0.getD t5.toNat 0).fdiv (2 ^ min ((4 : Int).toNat) IntKind.u8.bits)).toNat) 0, t3.getD ((intBits .and .u8 (t0.getD t5.toNat 0) 15).toNat) 0] : List Int).length)) (
    s6 T t0 t3 (t4 ++ ([92, 120, t3.getD (((t0.getD t5.toNat 0).fdiv (2 ^ min ((4 : Int).toNat) IntKind.u8.bits)).toNat) 0, t3.getD ((intBits .and .u8 (t0.getD t5.toNat 0) 15).toNat) 0] : List Int)) (IntKind.i64.wrap (t5 + 1))) none) none) none) (
    brk (fits (t4.length + ([t0.getD t5.toNat 0] : List Int).length)) (
    s6 T t0 t3 (t4 ++ ([t0.getD t5.toNat 0] : List Int)) (IntKind.i64.wrap (t5 + 1))) none))))))) none) (
 some (Sum.inl (t4, ())))
 := eL Tryz.func77 rfl (by kernel_rfl)
theorem aX4 (T : S.Tab) (t0 : b8.den) : aq3 (S.step T) t0 =
 (J4 T t0 ([] : List Int) ([t0.1, t0.2.1, t0.2.2.1, t0.2.2.2.1, t0.2.2.2.2.1, t0.2.2.2.2.2.1] : List Int) (([t0.1, t0.2.1, t0.2.2.1, t0.2.2.2.1, t0.2.2.2.2.1, t0.2.2.2.2.2.1] : List Int).length : Int) 0).bind (C3
  (fun y3 =>
 (ab0 T y3.1.2.2.2.2.2.2.1).bind fun d37 =>
 brk (fits (d37.1.length + 1)) (
 (E4 T (y3.1.2.2.2.2.2.2.2.1.length : Int)).bind fun d42 =>
 brk (fits ((d37.1 ++ ([32] : List Int)).length + d42.1.length)) (
 brk (fits (y3.2.1.length + ((d37.1 ++ ([32] : List Int)) ++ d42.1).length)) (
 (J6 T y3.1 (y3.2.1 ++ ((d37.1 ++ ([32] : List Int)) ++ d42.1)) y3.1.2.2.2.2.2.2.2.1 (y3.1.2.2.2.2.2.2.2.1.length : Int) 0).bind (C3
  (fun y9 =>
  (E4 T (y9.1.2.2.2.2.2.2.2.2.1.length : Int)).bind fun d61 =>
  brk (fits (1 + d61.1.length)) (
  brk (fits (y9.2.1.length + (([32] : List Int) ++ d61.1).length)) (
  (I3 T (y9.2.1 ++ (([32] : List Int) ++ d61.1)) y9.1.2.2.2.2.2.2.2.2.1 (y9.1.2.2.2.2.2.2.2.2.1.length : Int) 0).bind (C3
   (fun y15 =>
  brk (fits (y15.1.length + 1)) (
  some (y15.1 ++ ([10] : List Int), aG1)) none))) none) none))) none) none) none))
 := eF Tryz.func48 (by kernel_rfl)
theorem an3 (T : S.Tab) (t1 : b8.den) (t3 : List Int) (t22 : List Int) (t23 : Int) (t24 : Int) : J4 (S.step T) t1 t3 t22 t23 t24 =
 brk (decide (t24 < t23)) (
 brk (decide (0 ≤ t24) && decide (t24 < (t22.length : Int))) (
 (E4 T (t22.getD t24.toNat 0)).bind fun d30 =>
 brk (fits (d30.1.length + 1)) (
 brk (fits (t3.length + (d30.1 ++ ([32] : List Int)).length)) (
 J4 T t1 (t3 ++ (d30.1 ++ ([32] : List Int))) t22 t23 (IntKind.i64.wrap (t24 + 1))) none) none) none) (
 some (Sum.inl (t1, t3, ())))
 := eL Tryz.func48 rfl (by kernel_rfl)
theorem am7 (T : S.Tab) (t1 : b8.den) (t3 : List Int) (t46 : List (List Int)) (t47 : Int) (t48 : Int) : J6 (S.step T) t1 t3 t46 t47 t48 =
 brk (decide (t48 < t47)) (
 brk (decide (0 ≤ t48) && decide (t48 < (t46.length : Int))) (
 brk (fits (1 + (t46.getD t48.toNat []).length)) (
 brk (fits (t3.length + (([32] : List Int) ++ (t46.getD t48.toNat [])).length)) (
 J6 T t1 (t3 ++ (([32] : List Int) ++ (t46.getD t48.toNat []))) t46 t47 (IntKind.i64.wrap (t48 + 1))) none) none) none) (
 some (Sum.inl (t1, t3, ())))
 := eL Tryz.func48 rfl (by kernel_rfl)
theorem aj9 (T : S.Tab) (t3 : List Int) (t65 : List Int) (t66 : Int) (t67 : Int) : I3 (S.step T) t3 t65 t66 t67 =
 brk (decide (t67 < t66)) (
 brk (decide (0 ≤ t67) && decide (t67 < (t65.length : Int))) (
 (E4 T (t65.getD t67.toNat 0)).bind fun d73 =>
 brk (fits (1 + d73.1.length)) (
 brk (fits (t3.length + (([32] : List Int) ++ d73.1).length)) (
 I3 T (t3 ++ (([32] : List Int) ++ d73.1)) t65 t66 (IntKind.i64.wrap (t67 + 1))) none) none) none) (
 some (Sum.inl (t3, ())))
 := eL Tryz.func48 rfl (by kernel_rfl)
theorem aJ4 (T : S.Tab) (t0 : List b8.den × Unit) : aw1 (S.step T) t0 =
 (G8 T t0).bind fun d8 =>
 brk (!decide (d8.1.1 = 0)) (
 some (([] : List Int), ap5)) (
 (O7 T [] t0.1 (t0.1.length : Int) 0).bind (C3
  (fun y6 =>
  some (y6.1.map byte, ap5))))
 := eF Tryz.func24 (by kernel_rfl)
theorem au8 (T : S.Tab) (t4 : List Int) (t13 : List b8.den) (t14 : Int) (t15 : Int) : O7 (S.step T) t4 t13 t14 t15 =
 brk (decide (t15 < t14)) (
 brk (decide (0 ≤ t15) && decide (t15 < (t13.length : Int))) (
 (aq3 T (at_ (τ := b8) t13 t15)).bind fun d21 =>
 brk (fits (t4.length + d21.1.length)) (
 O7 T (t4 ++ d21.1) t13 t14 (IntKind.i64.wrap (t15 + 1))) none) none) (
 some (Sum.inl (t4, ())))
 := eL Tryz.func24 rfl (by kernel_rfl)
theorem bt4 (T : S.Tab) (t0 : Int) (t1 : Int) (t2 : Int) : W0 (S.step T) t0 t1 t2 =
 brk (decide (t1 ≤ t0)) (
 some (decide (t0 ≤ t2), au6)) (
 some (false, au6))
 := eF Tryz.func185 (by kernel_rfl)
theorem aV0 (T : S.Tab) (t0 : Int) : Z3 (S.step T) t0 =
 brk (decide (97 ≤ t0)) (
 brk (decide (t0 ≤ 122)) (
  some (true, M0)) (
  brk (decide (65 ≤ t0)) (
  brk (decide (t0 ≤ 90)) (
   some (true, M0)) (
   some (decide (t0 = 95), M0))) (
  some (decide (t0 = 95), M0)))) (
 brk (decide (65 ≤ t0)) (
  brk (decide (t0 ≤ 90)) (
  some (true, M0)) (
  some (decide (t0 = 95), M0))) (
  some (decide (t0 = 95), M0)))
 := eF Tryz.func153 (by kernel_rfl)
theorem a47 (T : S.Tab) (t0 : Int) : N1 (S.step T) t0 =
 brk (decide (48 ≤ t0)) (
 some (decide (t0 ≤ 57), au2)) (
 some (false, au2))
 := eF Tryz.func154 (by kernel_rfl)
theorem bf4 (T : S.Tab) (t0 : List Int) : aD1 (S.step T) t0 =
 (L9 T t0 Lx.words (Lx.words.length : Int) 0).bind (K0
  (fun y2 =>
 some (y2.1, aB4))
  (fun y2 =>
 some (1, aB4)))
 := eF Tryz.func155 (by kernel_rfl)
theorem aw2 (T : S.Tab) (t0 : List Int) (t5 : List (List Int)) (t6 : Int) (t7 : Int) : L9 (S.step T) t0 t5 t6 t7 =
 brk (decide (t7 < t6)) (
 brk (decide (0 ≤ t7) && decide (t7 < (t5.length : Int))) (
 brk (decide ((t5.getD t7.toNat []) = t0)) (
  some (Sum.inl (IntKind.i64.wrap (10 + t7), ()))) (
  L9 T t0 t5 t6 (IntKind.i64.wrap (t7 + 1)))) none) (
 some (Sum.inr (Sum.inl ())))
 := eL Tryz.func155 rfl (by kernel_rfl)
theorem bd2 (T : S.Tab) (t0 : Int) : at7 (S.step T) t0 =
 (N1 T t0).bind fun d4 =>
 brk (d4.1) (
 some (true, ao9)) (
 brk (decide (97 ≤ t0)) (
  some (decide (t0 ≤ 102), ao9)) (
  some (false, ao9)))
 := eF Tryz.func157 (by kernel_rfl)
theorem aD3 (T : S.Tab) (t0 : Int) : n8 (S.step T) t0 =
 some (intBits .or .u8 t0 32, al3)
 := eF Tryz.func257 (by kernel_rfl)
theorem at0 (T : S.Tab) (t0 : List Int) (t1 : Int) (t2 : Int) : P7 (S.step T) t0 t1 t2 =
 brk (decide (t0 = ([] : List Int))) (
 some ((0, false, ()), j3)) (
 brk (decide (2 ≤ t1)) (
  brk (decide (t1 ≤ 36)) (
  (j0 T t0 t1 t2 (decide (t1 = 0)) t0).bind (C3
   (fun y21 =>
   some (y21, j3)))) (
  brk (decide (t1 = 0)) (
   brk (decide (0 < (t0.length : Int))) (
   brk (decide (t0.getD 0 0 = 48)) (
   brk (decide (3 ≤ (t0.length : Int))) (
    brk (decide (1 < (t0.length : Int))) (
    (n8 T (t0.getD 1 0)).bind fun d47 =>
    brk (decide (d47.1 = 98)) (
    brk (bounds t0.length 2 (t0.length : Int)) (
    (j0 T (sub t0 2 (t0.length : Int)) 2 t2 (decide (t1 = 0)) t0).bind (C3
     (fun y21 =>
     some (y21, j3)))) none) (
    brk (decide (3 ≤ (t0.length : Int))) (
     brk (decide (1 < (t0.length : Int))) (
     (n8 T (t0.getD 1 0)).bind fun d59 =>
     brk (decide (d59.1 = 111)) (
     brk (bounds t0.length 2 (t0.length : Int)) (
     (j0 T (sub t0 2 (t0.length : Int)) 8 t2 (decide (t1 = 0)) t0).bind (C3
      (fun y21 =>
      some (y21, j3)))) none) (
     brk (decide (3 ≤ (t0.length : Int))) (
      brk (decide (1 < (t0.length : Int))) (
      (n8 T (t0.getD 1 0)).bind fun d71 =>
      brk (decide (d71.1 = 120)) (
      brk (bounds t0.length 2 (t0.length : Int)) (
      (j0 T (sub t0 2 (t0.length : Int)) 16 t2 (decide (t1 = 0)) t0).bind (C3
       (fun y21 =>
       some (y21, j3)))) none) (
      brk (bounds t0.length 1 (t0.length : Int)) (
      (j0 T (sub t0 1 (t0.length : Int)) 8 t2 (decide (t1 = 0)) t0).bind (C3
       (fun y21 =>
       some (y21, j3)))) none)) none) (
      brk (bounds t0.length 1 (t0.length : Int)) (
      (j0 T (sub t0 1 (t0.length : Int)) 8 t2 (decide (t1 = 0)) t0).bind (C3
       (fun y21 =>
      some (y21, j3)))) none))) none) (
     brk (decide (3 ≤ (t0.length : Int))) (
     brk (decide (1 < (t0.length : Int))) (
     (n8 T (t0.getD 1 0)).bind fun d71 =>
     brk (decide (d71.1 = 120)) (
      brk (bounds t0.length 2 (t0.length : Int)) (
      (j0 T (sub t0 2 (t0.length : Int)) 16 t2 (decide (t1 = 0)) t0).bind (C3
       (fun y21 =>
      some (y21, j3)))) none) (
      brk (bounds t0.length 1 (t0.length : Int)) (
      (j0 T (sub t0 1 (t0.length : Int)) 8 t2 (decide (t1 = 0)) t0).bind (C3
       (fun y21 =>
      some (y21, j3)))) none)) none) (
     brk (bounds t0.length 1 (t0.length : Int)) (
     (j0 T (sub t0 1 (t0.length : Int)) 8 t2 (decide (t1 = 0)) t0).bind (C3
      (fun y21 =>
      some (y21, j3)))) none)))) none) (
    brk (decide (3 ≤ (t0.length : Int))) (
    brk (decide (1 < (t0.length : Int))) (
    (n8 T (t0.getD 1 0)).bind fun d59 =>
    brk (decide (d59.1 = 111)) (
     brk (bounds t0.length 2 (t0.length : Int)) (
     (j0 T (sub t0 2 (t0.length : Int)) 8 t2 (decide (t1 = 0)) t0).bind (C3
      (fun y21 =>
     some (y21, j3)))) none) (
     brk (decide (3 ≤ (t0.length : Int))) (
     brk (decide (1 < (t0.length : Int))) (
     (n8 T (t0.getD 1 0)).bind fun d71 =>
     brk (decide (d71.1 = 120)) (
      brk (bounds t0.length 2 (t0.length : Int)) (
      (j0 T (sub t0 2 (t0.length : Int)) 16 t2 (decide (t1 = 0)) t0).bind (C3
       (fun y21 =>
      some (y21, j3)))) none) (
      brk (bounds t0.length 1 (t0.length : Int)) (
      (j0 T (sub t0 1 (t0.length : Int)) 8 t2 (decide (t1 = 0)) t0).bind (C3
       (fun y21 =>
      some (y21, j3)))) none)) none) (
     brk (bounds t0.length 1 (t0.length : Int)) (
     (j0 T (sub t0 1 (t0.length : Int)) 8 t2 (decide (t1 = 0)) t0).bind (C3
      (fun y21 =>
      some (y21, j3)))) none))) none) (
    brk (decide (3 ≤ (t0.length : Int))) (
     brk (decide (1 < (t0.length : Int))) (
     (n8 T (t0.getD 1 0)).bind fun d71 =>
     brk (decide (d71.1 = 120)) (
     brk (bounds t0.length 2 (t0.length : Int)) (
     (j0 T (sub t0 2 (t0.length : Int)) 16 t2 (decide (t1 = 0)) t0).bind (C3
      (fun y21 =>
      some (y21, j3)))) none) (
     brk (bounds t0.length 1 (t0.length : Int)) (
     (j0 T (sub t0 1 (t0.length : Int)) 8 t2 (decide (t1 = 0)) t0).bind (C3
      (fun y21 =>
      some (y21, j3)))) none)) none) (
     brk (bounds t0.length 1 (t0.length : Int)) (
     (j0 T (sub t0 1 (t0.length : Int)) 8 t2 (decide (t1 = 0)) t0).bind (C3
      (fun y21 =>
     some (y21, j3)))) none)))) (
   (j0 T t0 10 t2 (decide (t1 = 0)) t0).bind (C3
    (fun y21 =>
    some (y21, j3))))) none) (
   some ((0, false, ()), j3)))) (
  brk (decide (t1 = 0)) (
  brk (decide (0 < (t0.length : Int))) (
  brk (decide (t0.getD 0 0 = 48)) (
   brk (decide (3 ≤ (t0.length : Int))) (
   brk (decide (1 < (t0.length : Int))) (
   (n8 T (t0.getD 1 0)).bind fun d47 =>
   brk (decide (d47.1 = 98)) (
    brk (bounds t0.length 2 (t0.length : Int)) (
    (j0 T (sub t0 2 (t0.length : Int)) 2 t2 (decide (t1 = 0)) t0).bind (C3
     (fun y21 =>
    some (y21, j3)))) none) (
    brk (decide (3 ≤ (t0.length : Int))) (
    brk (decide (1 < (t0.length : Int))) (
    (n8 T (t0.getD 1 0)).bind fun d59 =>
    brk (decide (d59.1 = 111)) (
     brk (bounds t0.length 2 (t0.length : Int)) (
     (j0 T (sub t0 2 (t0.length : Int)) 8 t2 (decide (t1 = 0)) t0).bind (C3
      (fun y21 =>
     some (y21, j3)))) none) (
     brk (decide (3 ≤ (t0.length : Int))) (
     brk (decide (1 < (t0.length : Int))) (
     (n8 T (t0.getD 1 0)).bind fun d71 =>
     brk (decide (d71.1 = 120)) (
      brk (bounds t0.length 2 (t0.length : Int)) (
      (j0 T (sub t0 2 (t0.length : Int)) 16 t2 (decide (t1 = 0)) t0).bind (C3
       (fun y21 =>
      some (y21, j3)))) none) (
      brk (bounds t0.length 1 (t0.length : Int)) (
      (j0 T (sub t0 1 (t0.length : Int)) 8 t2 (decide (t1 = 0)) t0).bind (C3
       (fun y21 =>
      some (y21, j3)))) none)) none) (
     brk (bounds t0.length 1 (t0.length : Int)) (
     (j0 T (sub t0 1 (t0.length : Int)) 8 t2 (decide (t1 = 0)) t0).bind (C3
      (fun y21 =>
      some (y21, j3)))) none))) none) (
    brk (decide (3 ≤ (t0.length : Int))) (
     brk (decide (1 < (t0.length : Int))) (
     (n8 T (t0.getD 1 0)).bind fun d71 =>
     brk (decide (d71.1 = 120)) (
     brk (bounds t0.length 2 (t0.length : Int)) (
     (j0 T (sub t0 2 (t0.length : Int)) 16 t2 (decide (t1 = 0)) t0).bind (C3
      (fun y21 =>
      some (y21, j3)))) none) (
     brk (bounds t0.length 1 (t0.length : Int)) (
     (j0 T (sub t0 1 (t0.length : Int)) 8 t2 (decide (t1 = 0)) t0).bind (C3
      (fun y21 =>
      some (y21, j3)))) none)) none) (
     brk (bounds t0.length 1 (t0.length : Int)) (
     (j0 T (sub t0 1 (t0.length : Int)) 8 t2 (decide (t1 = 0)) t0).bind (C3
      (fun y21 =>
     some (y21, j3)))) none)))) none) (
   brk (decide (3 ≤ (t0.length : Int))) (
    brk (decide (1 < (t0.length : Int))) (
    (n8 T (t0.getD 1 0)).bind fun d59 =>
    brk (decide (d59.1 = 111)) (
    brk (bounds t0.length 2 (t0.length : Int)) (
    (j0 T (sub t0 2 (t0.length : Int)) 8 t2 (decide (t1 = 0)) t0).bind (C3
     (fun y21 =>
     some (y21, j3)))) none) (
    brk (decide (3 ≤ (t0.length : Int))) (
     brk (decide (1 < (t0.length : Int))) (
     (n8 T (t0.getD 1 0)).bind fun d71 =>
     brk (decide (d71.1 = 120)) (
     brk (bounds t0.length 2 (t0.length : Int)) (
     (j0 T (sub t0 2 (t0.length : Int)) 16 t2 (decide (t1 = 0)) t0).bind (C3
      (fun y21 =>
      some (y21, j3)))) none) (
     brk (bounds t0.length 1 (t0.length : Int)) (
     (j0 T (sub t0 1 (t0.length : Int)) 8 t2 (decide (t1 = 0)) t0).bind (C3
      (fun y21 =>
      some (y21, j3)))) none)) none) (
     brk (bounds t0.length 1 (t0.length : Int)) (
     (j0 T (sub t0 1 (t0.length : Int)) 8 t2 (decide (t1 = 0)) t0).bind (C3
      (fun y21 =>
     some (y21, j3)))) none))) none) (
    brk (decide (3 ≤ (t0.length : Int))) (
    brk (decide (1 < (t0.length : Int))) (
    (n8 T (t0.getD 1 0)).bind fun d71 =>
    brk (decide (d71.1 = 120)) (
     brk (bounds t0.length 2 (t0.length : Int)) (
     (j0 T (sub t0 2 (t0.length : Int)) 16 t2 (decide (t1 = 0)) t0).bind (C3
      (fun y21 =>
     some (y21, j3)))) none) (
     brk (bounds t0.length 1 (t0.length : Int)) (
     (j0 T (sub t0 1 (t0.length : Int)) 8 t2 (decide (t1 = 0)) t0).bind (C3
      (fun y21 =>
     some (y21, j3)))) none)) none) (
    brk (bounds t0.length 1 (t0.length : Int)) (
    (j0 T (sub t0 1 (t0.length : Int)) 8 t2 (decide (t1 = 0)) t0).bind (C3
     (fun y21 =>
     some (y21, j3)))) none)))) (
   (j0 T t0 10 t2 (decide (t1 = 0)) t0).bind (C3
    (fun y21 =>
   some (y21, j3))))) none) (
  some ((0, false, ()), j3))))
 := eF Tryz.func236 (by kernel_rfl)
theorem ag2 (T : S.Tab) (t0 : List Int) (t1 : Int) (t2 : Int) (t8 : Bool) (t9 : List Int) : j0 (S.step T) t0 t1 t2 t8 t9 =
 brk (decide (t2 = 0)) (
 (E8 T t0 t1 64 t8 t9).bind (C3
  (fun y25 =>
  some (Sum.inl y25)))) (
 brk (decide (t2 < 0)) (
  some (Sum.inl (0, false, ()))) (
  brk (decide (64 < t2)) (
  some (Sum.inl (0, false, ()))) (
  (E8 T t0 t1 t2 t8 t9).bind (C3
   (fun y25 =>
   some (Sum.inl y25))))))
 := eJ Tryz.func236 rfl (by kernel_rfl)
theorem ag6 (T : S.Tab) (t0 : List Int) (t1 : Int) (t2 : Int) (t8 : Bool) (t9 : List Int) : E8 (S.step T) t0 t1 t2 t8 t9 =
 brk (decide (t1 = 10)) (
 (B0 T t0 t1 t2 t8 t9 1844674407370955162).bind (C3
  (fun y32 =>
  some (Sum.inl y32)))) (
 brk (decide (t1 = 16)) (
  (B0 T t0 t1 t2 t8 t9 1152921504606846976).bind (C3
   (fun y32 =>
  some (Sum.inl y32)))) (
  brk (decide ((IntKind.u64.wrap t1) ≠ 0)) (
  (B0 T t0 t1 t2 t8 t9 (IntKind.u64.wrap ((IntKind.u64.wrap ((18446744073709551615 : Int).tdiv (IntKind.u64.wrap t1))) + 1))).bind (C3
   (fun y32 =>
  some (Sum.inl y32)))) none))
 := eJ Tryz.func236 rfl (by kernel_rfl)
theorem ag7 (T : S.Tab) (t0 : List Int) (t1 : Int) (t2 : Int) (t8 : Bool) (t9 : List Int) (t10 : Int) : B0 (S.step T) t0 t1 t2 t8 t9 t10 =
 brk (decide (0 ≤ IntKind.u64.wrap t2)) (
 (p8 T t1 t8 t9 t10 (IntKind.u64.wrap ((IntKind.u64.wrap (1 * 2 ^ min ((IntKind.u64.wrap t2).toNat) IntKind.u64.bits)) - 1)) false 0 t0 (t0.length : Int) 0).bind (K0
  (fun y36 =>
 some (Sum.inl y36))
  (fun y36 =>
 brk (y36.2.1) (
  (at2 T y36.1).bind fun d167 =>
  brk (!d167.1) (
  some (Sum.inl (0, false, ()))) (
  some (Sum.inl (y36.2.2.1, true, ())))) (
  some (Sum.inl (y36.2.2.1, true, ())))))) none
 := eJ Tryz.func236 rfl (by kernel_rfl)
theorem ag4 (T : S.Tab) (t1 : Int) (t8 : Bool) (t9 : List Int) (t10 : Int) (t11 : Int) (t12 : Bool) (t13 : Int) (t16 : Int) (t99 : List Int) (t100 : Int) (t101 : Int) : u5 (S.step T) t1 t8 t9 t10 t11 t12 t13 t16 t99 t100 t101 =
 brk (decide (IntKind.u8.wrap t1 ≤ t16)) (
 some (Sum.inl (0, false, ()))) (
 brk (decide (t10 ≤ t13)) (
  some (Sum.inl (t11, false, ()))) (
  brk (decide (IntKind.u64.wrap ((IntKind.u64.wrap (t13 * (IntKind.u64.wrap t1))) + (IntKind.u64.wrap t16)) < IntKind.u64.wrap (t13 * (IntKind.u64.wrap t1)))) (
  some (Sum.inl (t11, false, ()))) (
  brk (decide (t11 < IntKind.u64.wrap ((IntKind.u64.wrap (t13 * (IntKind.u64.wrap t1))) + (IntKind.u64.wrap t16)))) (
   some (Sum.inl (t11, false, ()))) (
   some (Sum.inr (Sum.inl (t1, t8, t9, t10, t11, t12, IntKind.u64.wrap ((IntKind.u64.wrap (t13 * (IntKind.u64.wrap t1))) + (IntKind.u64.wrap t16)), t99, t100, t101, ())))))))
 := eJ Tryz.func236 rfl (by kernel_rfl)
theorem T7 (T : S.Tab) (t1 : Int) (t8 : Bool) (t9 : List Int) (t10 : Int) (t11 : Int) (t12 : Bool) (t13 : Int) (t99 : List Int) (t100 : Int) (t101 : Int) : p8 (S.step T) t1 t8 t9 t10 t11 t12 t13 t99 t100 t101 =
 brk (decide (t101 < t100)) (
 brk (decide (0 ≤ t101) && decide (t101 < (t99.length : Int))) (
 brk (decide (t99.getD t101.toNat 0 = 95)) (
  brk (t8) (
  p8 T t1 t8 t9 t10 t11 true t13 t99 t100 (IntKind.i64.wrap (t101 + 1))) (
  brk (decide (48 ≤ t99.getD t101.toNat 0)) (
   brk (decide (t99.getD t101.toNat 0 ≤ 57)) (
   (u5 T t1 t8 t9 t10 t11 t12 t13 (IntKind.u8.wrap ((t99.getD t101.toNat 0) - 48)) t99 t100 t101).bind (K0
    (fun y46 =>
    some (Sum.inl y46))
    (fun y46 =>
    p8 T y46.1 y46.2.1 y46.2.2.1 y46.2.2.2.1 y46.2.2.2.2.1 y46.2.2.2.2.2.1 y46.2.2.2.2.2.2.1 y46.2.2.2.2.2.2.2.1 y46.2.2.2.2.2.2.2.2.1 (IntKind.i64.wrap (y46.2.2.2.2.2.2.2.2.2.1 + 1))))) (
   (n8 T (t99.getD t101.toNat 0)).bind fun d123 =>
   brk (decide (97 ≤ d123.1)) (
    (n8 T (t99.getD t101.toNat 0)).bind fun d127 =>
    brk (decide (d127.1 ≤ 122)) (
    (n8 T (t99.getD t101.toNat 0)).bind fun d131 =>
    (u5 T t1 t8 t9 t10 t11 t12 t13 (IntKind.u8.wrap ((IntKind.u8.wrap (d131.1 - 97)) + 10)) t99 t100 t101).bind (K0
     (fun y46 =>
     some (Sum.inl y46))
     (fun y46 =>
     p8 T y46.1 y46.2.1 y46.2.2.1 y46.2.2.2.1 y46.2.2.2.2.1 y46.2.2.2.2.2.1 y46.2.2.2.2.2.2.1 y46.2.2.2.2.2.2.2.1 y46.2.2.2.2.2.2.2.2.1 (IntKind.i64.wrap (y46.2.2.2.2.2.2.2.2.2.1 + 1))))) (
    some (Sum.inl (0, false, ())))) (
    some (Sum.inl (0, false, ()))))) (
   (n8 T (t99.getD t101.toNat 0)).bind fun d123 =>
   brk (decide (97 ≤ d123.1)) (
   (n8 T (t99.getD t101.toNat 0)).bind fun d127 =>
   brk (decide (d127.1 ≤ 122)) (
    (n8 T (t99.getD t101.toNat 0)).bind fun d131 =>
    (u5 T t1 t8 t9 t10 t11 t12 t13 (IntKind.u8.wrap ((IntKind.u8.wrap (d131.1 - 97)) + 10)) t99 t100 t101).bind (K0
     (fun y46 =>
    some (Sum.inl y46))
     (fun y46 =>
    p8 T y46.1 y46.2.1 y46.2.2.1 y46.2.2.2.1 y46.2.2.2.2.1 y46.2.2.2.2.2.1 y46.2.2.2.2.2.2.1 y46.2.2.2.2.2.2.2.1 y46.2.2.2.2.2.2.2.2.1 (IntKind.i64.wrap (y46.2.2.2.2.2.2.2.2.2.1 + 1))))) (
    some (Sum.inl (0, false, ())))) (
   some (Sum.inl (0, false, ())))))) (
  brk (decide (48 ≤ t99.getD t101.toNat 0)) (
  brk (decide (t99.getD t101.toNat 0 ≤ 57)) (
   (u5 T t1 t8 t9 t10 t11 t12 t13 (IntKind.u8.wrap ((t99.getD t101.toNat 0) - 48)) t99 t100 t101).bind (K0
    (fun y46 =>
   some (Sum.inl y46))
    (fun y46 =>
   p8 T y46.1 y46.2.1 y46.2.2.1 y46.2.2.2.1 y46.2.2.2.2.1 y46.2.2.2.2.2.1 y46.2.2.2.2.2.2.1 y46.2.2.2.2.2.2.2.1 y46.2.2.2.2.2.2.2.2.1 (IntKind.i64.wrap (y46.2.2.2.2.2.2.2.2.2.1 + 1))))) (
   (n8 T (t99.getD t101.toNat 0)).bind fun d123 =>
   brk (decide (97 ≤ d123.1)) (
   (n8 T (t99.getD t101.toNat 0)).bind fun d127 =>
   brk (decide (d127.1 ≤ 122)) (
    (n8 T (t99.getD t101.toNat 0)).bind fun d131 =>
    (u5 T t1 t8 t9 t10 t11 t12 t13 (IntKind.u8.wrap ((IntKind.u8.wrap (d131.1 - 97)) + 10)) t99 t100 t101).bind (K0
     (fun y46 =>
    some (Sum.inl y46))
     (fun y46 =>
    p8 T y46.1 y46.2.1 y46.2.2.1 y46.2.2.2.1 y46.2.2.2.2.1 y46.2.2.2.2.2.1 y46.2.2.2.2.2.2.1 y46.2.2.2.2.2.2.2.1 y46.2.2.2.2.2.2.2.2.1 (IntKind.i64.wrap (y46.2.2.2.2.2.2.2.2.2.1 + 1))))) (
    some (Sum.inl (0, false, ())))) (
   some (Sum.inl (0, false, ()))))) (
  (n8 T (t99.getD t101.toNat 0)).bind fun d123 =>
  brk (decide (97 ≤ d123.1)) (
   (n8 T (t99.getD t101.toNat 0)).bind fun d127 =>
   brk (decide (d127.1 ≤ 122)) (
   (n8 T (t99.getD t101.toNat 0)).bind fun d131 =>
   (u5 T t1 t8 t9 t10 t11 t12 t13 (IntKind.u8.wrap ((IntKind.u8.wrap (d131.1 - 97)) + 10)) t99 t100 t101).bind (K0
    (fun y46 =>
    some (Sum.inl y46))
    (fun y46 =>
    p8 T y46.1 y46.2.1 y46.2.2.1 y46.2.2.2.1 y46.2.2.2.2.1 y46.2.2.2.2.2.1 y46.2.2.2.2.2.2.1 y46.2.2.2.2.2.2.2.1 y46.2.2.2.2.2.2.2.2.1 (IntKind.i64.wrap (y46.2.2.2.2.2.2.2.2.2.1 + 1))))) (
   some (Sum.inl (0, false, ())))) (
   some (Sum.inl (0, false, ())))))) none) (
 some (Sum.inr (Sum.inl (t9, t12, t13, ()))))
 := eL Tryz.func236 rfl (by kernel_rfl)
theorem ax7 (T : S.Tab) (t0 : List Int) (t1 : Int) (t2 : Int) : G9 (S.step T) t0 t1 t2 =
 (P7 T t0 t1 t2).bind fun d14 =>
 brk (!d14.1.2.1) (
 none) (
 some ((d14.1.1, true, ()), af2))
 := eF Tryz.func158 (by kernel_rfl)
theorem aa0 (T : S.Tab) (t0 : List Int) (t1 : Int) : S6 (S.step T) t0 t1 =
 brk (decide (0 ≤ t1) && decide (t1 < (t0.length : Int))) (
 brk (decide (t0.getD t1.toNat 0 = 48)) (
 brk (decide (IntKind.i64.wrap (t1 + 1) < (t0.length : Int))) (
  brk (decide (0 ≤ IntKind.i64.wrap (t1 + 1)) && decide (IntKind.i64.wrap (t1 + 1) < (t0.length : Int))) (
  brk (decide (t0.getD ((IntKind.i64.wrap (t1 + 1)).toNat) 0 = 120)) (
  (J3 T t0 t1 (2, t1, 0, 0, 0, ([] : List Int), ()) (IntKind.i64.wrap (t1 + 2))).bind (C3
   (fun y5 =>
   brk (decide (y5.2.2.2.1 = IntKind.i64.wrap (y5.2.1 + 2))) (
   some (((y5.2.2.1.1, y5.2.2.1.2.1, y5.2.2.2.1, y5.2.2.1.2.2.2), true, ()), B9)) (
   brk (decide (y5.2.2.2.1 = IntKind.i64.wrap (y5.2.1 + 18))) (
    brk (decide (y5.2.2.2.1 < (y5.1.length : Int))) (
    brk (decide (0 ≤ y5.2.2.2.1) && decide (y5.2.2.2.1 < (y5.1.length : Int))) (
    (at7 T (y5.1.getD y5.2.2.2.1.toNat 0)).bind fun d74 =>
    brk (d74.1) (
     some (((y5.2.2.1.1, y5.2.2.1.2.1, y5.2.2.2.1, y5.2.2.1.2.2.2), true, ()), B9)) (
     brk (bounds y5.1.length (IntKind.i64.wrap (y5.2.1 + 2)) y5.2.2.2.1) (
     (G9 T (sub y5.1 (IntKind.i64.wrap (y5.2.1 + 2)) y5.2.2.2.1) 16 64).bind fun d84 =>
     some (((y5.2.2.1.1, y5.2.2.1.2.1, y5.2.2.2.1, y5.2.2.1.2.2.2.1, IntKind.i64.wrap d84.1.1, y5.2.2.1.2.2.2.2.2), false, ()), B9)) none)) none) (
    brk (bounds y5.1.length (IntKind.i64.wrap (y5.2.1 + 2)) y5.2.2.2.1) (
    (G9 T (sub y5.1 (IntKind.i64.wrap (y5.2.1 + 2)) y5.2.2.2.1) 16 64).bind fun d84 =>
    some (((y5.2.2.1.1, y5.2.2.1.2.1, y5.2.2.2.1, y5.2.2.1.2.2.2.1, IntKind.i64.wrap d84.1.1, y5.2.2.1.2.2.2.2.2), false, ()), B9)) none)) (
    brk (bounds y5.1.length (IntKind.i64.wrap (y5.2.1 + 2)) y5.2.2.2.1) (
    (G9 T (sub y5.1 (IntKind.i64.wrap (y5.2.1 + 2)) y5.2.2.2.1) 16 64).bind fun d84 =>
    some (((y5.2.2.1.1, y5.2.2.1.2.1, y5.2.2.2.1, y5.2.2.1.2.2.2.1, IntKind.i64.wrap d84.1.1, y5.2.2.1.2.2.2.2.2), false, ()), B9)) none))))) (
  brk (decide (0 ≤ t1) && decide (t1 < (t0.length : Int))) (
  brk (!decide (t0.getD t1.toNat 0 = 48)) (
   (D0 T t0 t1 (2, t1, 0, 0, 0, ([] : List Int), ()) (IntKind.i64.wrap (t1 + 1))).bind (C3
    (fun y15 =>
   (C4 T y15.1 y15.2.1 y15.2.2.1 y15.2.2.2.1).bind (C3
    (fun y17 =>
    some (y17, B9)))))) (
   (C4 T t0 t1 (2, t1, 0, 0, 0, ([] : List Int), ()) (IntKind.i64.wrap (t1 + 1))).bind (C3
    (fun y17 =>
   some (y17, B9))))) none)) none) (
  brk (decide (0 ≤ t1) && decide (t1 < (t0.length : Int))) (
  brk (!decide (t0.getD t1.toNat 0 = 48)) (
  (D0 T t0 t1 (2, t1, 0, 0, 0, ([] : List Int), ()) (IntKind.i64.wrap (t1 + 1))).bind (C3
   (fun y15 =>
   (C4 T y15.1 y15.2.1 y15.2.2.1 y15.2.2.2.1).bind (C3
    (fun y17 =>
   some (y17, B9)))))) (
  (C4 T t0 t1 (2, t1, 0, 0, 0, ([] : List Int), ()) (IntKind.i64.wrap (t1 + 1))).bind (C3
   (fun y17 =>
   some (y17, B9))))) none)) (
 brk (decide (0 ≤ t1) && decide (t1 < (t0.length : Int))) (
 brk (!decide (t0.getD t1.toNat 0 = 48)) (
  (D0 T t0 t1 (2, t1, 0, 0, 0, ([] : List Int), ()) (IntKind.i64.wrap (t1 + 1))).bind (C3
   (fun y15 =>
  (C4 T y15.1 y15.2.1 y15.2.2.1 y15.2.2.2.1).bind (C3
   (fun y17 =>
   some (y17, B9)))))) (
  (C4 T t0 t1 (2, t1, 0, 0, 0, ([] : List Int), ()) (IntKind.i64.wrap (t1 + 1))).bind (C3
   (fun y17 =>
  some (y17, B9))))) none)) none
 := eF Tryz.func156 (by kernel_rfl)
theorem ai8 (T : S.Tab) (t0 : List Int) (t1 : Int) (t4 : l8.den) (t6 : Int) : C4 (S.step T) t0 t1 t4 t6 =
 brk (decide (IntKind.i64.wrap (t6 + 1) < (t0.length : Int))) (
 brk (decide (0 ≤ t6) && decide (t6 < (t0.length : Int))) (
 brk (decide (t0.getD t6.toNat 0 = 46)) (
  brk (decide (0 ≤ IntKind.i64.wrap (t6 + 1)) && decide (IntKind.i64.wrap (t6 + 1) < (t0.length : Int))) (
  (N1 T (t0.getD ((IntKind.i64.wrap (t6 + 1)).toNat) 0)).bind fun d126 =>
  brk (d126.1) (
  (H7 T t0 t1 t4 (IntKind.i64.wrap (t6 + 1)) t6).bind (C3
   (fun y20 =>
   (E9 T y20.1 y20.2.1 y20.2.2.1 y20.2.2.2.1 y20.2.2.2.2.1).bind (C3
    (fun y22 =>
   some (Sum.inl y22)))))) (
  (E9 T t0 t1 t4 t6 t6).bind (C3
   (fun y22 =>
   some (Sum.inl y22))))) none) (
  (E9 T t0 t1 t4 t6 t6).bind (C3
   (fun y22 =>
  some (Sum.inl y22))))) none) (
 (E9 T t0 t1 t4 t6 t6).bind (C3
  (fun y22 =>
  some (Sum.inl y22))))
 := eJ Tryz.func156 rfl (by kernel_rfl)
theorem aj6 (T : S.Tab) (t0 : List Int) (t1 : Int) (t4 : l8.den) (t6 : Int) (t9 : Int) : E9 (S.step T) t0 t1 t4 t6 t9 =
 brk (decide (t6 < (t0.length : Int))) (
 brk (decide (0 ≤ t6) && decide (t6 < (t0.length : Int))) (
 brk (decide (t0.getD t6.toNat 0 = 101)) (
  brk (decide (IntKind.i64.wrap (t6 + 1) < (t0.length : Int))) (
  brk (decide (0 ≤ IntKind.i64.wrap (t6 + 1)) && decide (IntKind.i64.wrap (t6 + 1) < (t0.length : Int))) (
  brk (decide (t0.getD ((IntKind.i64.wrap (t6 + 1)).toNat) 0 = 43)) (
   (H4 T t0 t1 t4 (IntKind.i64.wrap ((IntKind.i64.wrap (t6 + 1)) + 1)) t9).bind (K0
    (fun y26 =>
   some (Sum.inl y26))
    (fun y26 =>
   (C5 T y26.1 y26.2.1 y26.2.2.1 y26.2.2.2.1 y26.2.2.2.2.1).bind (C3
    (fun y31 =>
    some (Sum.inl y31)))))) (
   brk (decide (0 ≤ IntKind.i64.wrap (t6 + 1)) && decide (IntKind.i64.wrap (t6 + 1) < (t0.length : Int))) (
   brk (decide (t0.getD ((IntKind.i64.wrap (t6 + 1)).toNat) 0 = 45)) (
   (H4 T t0 t1 t4 (IntKind.i64.wrap ((IntKind.i64.wrap (t6 + 1)) + 1)) t9).bind (K0
    (fun y26 =>
    some (Sum.inl y26))
    (fun y26 =>
    (C5 T y26.1 y26.2.1 y26.2.2.1 y26.2.2.2.1 y26.2.2.2.2.1).bind (C3
     (fun y31 =>
    some (Sum.inl y31)))))) (
   (H4 T t0 t1 t4 (IntKind.i64.wrap (t6 + 1)) t9).bind (K0
    (fun y26 =>
    some (Sum.inl y26))
    (fun y26 =>
    (C5 T y26.1 y26.2.1 y26.2.2.1 y26.2.2.2.1 y26.2.2.2.2.1).bind (C3
     (fun y31 =>
    some (Sum.inl y31))))))) none)) none) (
  (H4 T t0 t1 t4 (IntKind.i64.wrap (t6 + 1)) t9).bind (K0
   (fun y26 =>
   some (Sum.inl y26))
   (fun y26 =>
   (C5 T y26.1 y26.2.1 y26.2.2.1 y26.2.2.2.1 y26.2.2.2.2.1).bind (C3
    (fun y31 =>
   some (Sum.inl y31))))))) (
  (C5 T t0 t1 t4 t6 t9).bind (C3
   (fun y31 =>
  some (Sum.inl y31))))) none) (
 (C5 T t0 t1 t4 t6 t9).bind (C3
  (fun y31 =>
  some (Sum.inl y31))))
 := eJ Tryz.func156 rfl (by kernel_rfl)
theorem aC1 (T : S.Tab) (t0 : List Int) (t1 : Int) (t4 : l8.den) (t6 : Int) (t9 : Int) : H4 (S.step T) t0 t1 t4 t6 t9 =
 brk (decide ((t0.length : Int) ≤ t6)) (
 some (Sum.inl ((t4.1, t4.2.1, t6, t4.2.2.2), true, ()))) (
 brk (decide (0 ≤ t6) && decide (t6 < (t0.length : Int))) (
 (N1 T (t0.getD t6.toNat 0)).bind fun d180 =>
 brk (!d180.1) (
  some (Sum.inl ((t4.1, t4.2.1, t6, t4.2.2.2), true, ()))) (
  (H5 T t0 t1 t4 t6 t9).bind (C3
   (fun y29 =>
  some (Sum.inr (Sum.inl y29)))))) none)
 := eJ Tryz.func156 rfl (by kernel_rfl)
theorem aC4 (T : S.Tab) (t0 : List Int) (t1 : Int) (t4 : l8.den) (t6 : Int) (t9 : Int) : C5 (S.step T) t0 t1 t4 t6 t9 =
 brk (decide (t6 = t9)) (
 brk (bounds t0.length t1 t6) (
 (Lx.af5 (sub t0 t1 t6, 10, 64, ())).bind fun d208 =>
 brk (d208.1.2.1) (
  some (Sum.inl ((t4.1, t4.2.1, t6, t4.2.2.2.1, d208.1.1, t4.2.2.2.2.2), false, ()))) (
  brk (bounds t0.length t1 t6) (
  some (Sum.inl ((3, t4.2.1, t6, t4.2.2.2.1, t4.2.2.2.2.1, sub t0 t1 t6, ()), false, ()))) none)) none) (
 brk (bounds t0.length t1 t6) (
 some (Sum.inl ((3, t4.2.1, t6, t4.2.2.2.1, t4.2.2.2.2.1, sub t0 t1 t6, ()), false, ()))) none)
 := eJ Tryz.func156 rfl (by kernel_rfl)
theorem an4 (T : S.Tab) (t0 : List Int) (t1 : Int) (t4 : l8.den) (t6 : Int) : J3 (S.step T) t0 t1 t4 t6 =
 brk (decide (t6 < (t0.length : Int))) (
 brk (decide (t6 < IntKind.i64.wrap (t1 + 18))) (
  brk (decide (0 ≤ t6) && decide (t6 < (t0.length : Int))) (
  (at7 T (t0.getD t6.toNat 0)).bind fun d49 =>
  brk (d49.1) (
  J3 T t0 t1 t4 (IntKind.i64.wrap (t6 + 1))) (
  some (Sum.inl (t0, t1, t4, t6, ())))) none) (
  some (Sum.inl (t0, t1, t4, t6, ())))) (
 some (Sum.inl (t0, t1, t4, t6, ())))
 := eL Tryz.func156 rfl (by kernel_rfl)
theorem ah6 (T : S.Tab) (t0 : List Int) (t1 : Int) (t4 : l8.den) (t6 : Int) : D0 (S.step T) t0 t1 t4 t6 =
 brk (decide (t6 < (t0.length : Int))) (
 brk (decide (0 ≤ t6) && decide (t6 < (t0.length : Int))) (
 (N1 T (t0.getD t6.toNat 0)).bind fun d105 =>
 brk (d105.1) (
  D0 T t0 t1 t4 (IntKind.i64.wrap (t6 + 1))) (
  some (Sum.inl (t0, t1, t4, t6, ())))) none) (
 some (Sum.inl (t0, t1, t4, t6, ())))
 := eL Tryz.func156 rfl (by kernel_rfl)
theorem aj4 (T : S.Tab) (t0 : List Int) (t1 : Int) (t4 : l8.den) (t6 : Int) (t9 : Int) : H7 (S.step T) t0 t1 t4 t6 t9 =
 brk (decide (t6 < (t0.length : Int))) (
 brk (decide (0 ≤ t6) && decide (t6 < (t0.length : Int))) (
 (N1 T (t0.getD t6.toNat 0)).bind fun d138 =>
 brk (d138.1) (
  H7 T t0 t1 t4 (IntKind.i64.wrap (t6 + 1)) t9) (
  some (Sum.inl (t0, t1, t4, t6, t9, ())))) none) (
 some (Sum.inl (t0, t1, t4, t6, t9, ())))
 := eL Tryz.func156 rfl (by kernel_rfl)
theorem ai2 (T : S.Tab) (t0 : List Int) (t1 : Int) (t4 : l8.den) (t6 : Int) (t9 : Int) : H5 (S.step T) t0 t1 t4 t6 t9 =
 brk (decide (t6 < (t0.length : Int))) (
 brk (decide (0 ≤ t6) && decide (t6 < (t0.length : Int))) (
 (N1 T (t0.getD t6.toNat 0)).bind fun d194 =>
 brk (d194.1) (
  H5 T t0 t1 t4 (IntKind.i64.wrap (t6 + 1)) t9) (
  some (Sum.inl (t0, t1, t4, t6, t9, ())))) none) (
 some (Sum.inl (t0, t1, t4, t6, t9, ())))
 := eL Tryz.func156 rfl (by kernel_rfl)
theorem T5 (T : S.Tab) (t0 : List Int) (t1 : Int) : B8 (S.step T) t0 t1 =
 (Bld.al4 (t0, t1, ())).bind fun d7 =>
 some (d7.1, U6)
 := eF Tryz.func125 (by kernel_rfl)
theorem ac7 (T : S.Tab) (t0 : List Int) (t1 : Int) : A6 (S.step T) t0 t1 =
 (B8 T t0 t1).bind fun d7 =>
 some (d7.1, V9)
 := eF Tryz.func81 (by kernel_rfl)
theorem a82 (T : S.Tab) (t0 : Int) : aw5 (S.step T) t0 =
 (W0 T t0 10 31).bind fun d5 =>
 brk (d5.1) (
 brk (decide (0 ≤ IntKind.i64.wrap (t0 - 10)) && decide (IntKind.i64.wrap (t0 - 10) < (Lx.words.length : Int))) (
 some (Lx.words.getD ((IntKind.i64.wrap (t0 - 10)).toNat) [], W8)) none) (
 (W0 T t0 40 50).bind fun d13 =>
 brk (d13.1) (
  brk (decide (0 ≤ IntKind.i64.wrap (t0 - 40)) && decide (IntKind.i64.wrap (t0 - 40) < (Lx.ag1.length : Int))) (
  some (Lx.ag1.getD ((IntKind.i64.wrap (t0 - 40)).toNat) [], W8)) none) (
  (W0 T t0 61 78).bind fun d21 =>
  brk (d21.1) (
  brk (decide (0 ≤ IntKind.i64.wrap ((IntKind.i64.wrap (t0 - 60)) - 1)) && decide (IntKind.i64.wrap ((IntKind.i64.wrap (t0 - 60)) - 1) < (Lx.aA2.length : Int))) (
  some (Lx.aA2.getD ((IntKind.i64.wrap ((IntKind.i64.wrap (t0 - 60)) - 1)).toNat) [], W8)) none) (
  brk (decide (t0 = 5)) (
   some (([59] : List Int), W8)) (
   some (([] : List Int), W8)))))
 := eF Tryz.func139 (by kernel_rfl)
theorem ag3 (T : S.Tab) (t0 : List Int) (t1 : List Int) : J1 (S.step T) t0 t1 =
 brk (decide ((t1.length : Int) ≤ (t0.length : Int))) (
 brk (bounds t0.length 0 (t1.length : Int)) (
 some (decide ((sub t0 0 (t1.length : Int)) = t1), M9)) none) (
 some (false, M9))
 := eF Tryz.func234 (by kernel_rfl)
theorem ax6 (T : S.Tab) (t0 : List Int) (t1 : List Int) : S8 (S.step T) t0 t1 =
 (J1 T t0 t1).bind fun d7 =>
 some (d7.1, af9)
 := eF Tryz.func152 (by kernel_rfl)
theorem aQ2 (T : S.Tab) (t0 : List Int) (t1 : Int) : R6 (S.step T) t0 t1 =
 brk (decide (0 ≤ t1) && decide (t1 < (t0.length : Int))) (
 (Z3 T (t0.getD t1.toNat 0)).bind fun d24 =>
 brk (d24.1) (
 (P9 T t0 t1 (0, t1, 0, 0, 0, ([] : List Int), ()) t1).bind (C3
  (fun y5 =>
  brk (bounds y5.1.length y5.2.1 y5.2.2.2.1) (
  (aD1 T (sub y5.1 y5.2.1 y5.2.2.2.1)).bind fun d50 =>
  brk (decide (d50.1 = 1)) (
  brk (bounds y5.1.length y5.2.1 y5.2.2.2.1) (
  some (((d50.1, y5.2.2.1.2.1, y5.2.2.2.1, y5.2.2.1.2.2.2.1, y5.2.2.1.2.2.2.2.1, sub y5.1 y5.2.1 y5.2.2.2.1, ()), false, ()), S7)) none) (
  some (((d50.1, y5.2.2.1.2.1, y5.2.2.2.1, y5.2.2.1.2.2.2), false, ()), S7))) none))) (
 (N1 T (t0.getD t1.toNat 0)).bind fun d63 =>
 brk (d63.1) (
  (S6 T t0 t1).bind fun d66 =>
  some (d66.1, S7)) (
  brk (decide (t0.getD t1.toNat 0 = 34)) (
  (s8 T t0 (4, t1, 0, 0, 0, ([] : List Int), ()) [] (IntKind.i64.wrap (t1 + 1))).bind (C3
   (fun y18 =>
   some (y18, S7)))) (
  (I0 T t0 t1 (0, t1, 0, 0, 0, ([] : List Int), ()) 0 78).bind (C3
   (fun y49 =>
   brk (decide (y49.2.1.1 = 0)) (
   some (((y49.2.1.1, y49.2.1.2.1, y49.1, y49.2.1.2.2.2), true, ()), S7)) (
   some ((y49.2.1, false, ()), S7)))))))) none
 := eF Tryz.func101 (by kernel_rfl)
theorem az2 (T : S.Tab) (t0 : List Int) (t1 : Int) (t4 : l8.den) (t7 : Int) : P9 (S.step T) t0 t1 t4 t7 =
 brk (decide (t7 < (t0.length : Int))) (
 brk (decide (0 ≤ t7) && decide (t7 < (t0.length : Int))) (
 (Z3 T (t0.getD t7.toNat 0)).bind fun d34 =>
 brk (d34.1) (
  P9 T t0 t1 t4 (IntKind.i64.wrap (t7 + 1))) (
  brk (decide (0 ≤ t7) && decide (t7 < (t0.length : Int))) (
  (N1 T (t0.getD t7.toNat 0)).bind fun d39 =>
  brk (d39.1) (
  P9 T t0 t1 t4 (IntKind.i64.wrap (t7 + 1))) (
  some (Sum.inl (t0, t1, t4, t7, ())))) none)) none) (
 some (Sum.inl (t0, t1, t4, t7, ())))
 := eL Tryz.func101 rfl (by kernel_rfl)
theorem N4 (T : S.Tab) (t0 : List Int) (t4 : l8.den) (t8 : List Int) (t9 : Int) : s8 (S.step T) t0 t4 t8 t9 =
 brk (decide ((t0.length : Int) ≤ t9)) (
 some (Sum.inl ((t4.1, t4.2.1, t9, t4.2.2.2), true, ()))) (
 brk (decide (0 ≤ t9) && decide (t9 < (t0.length : Int))) (
 brk (decide (t0.getD t9.toNat 0 = 10)) (
  some (Sum.inl ((t4.1, t4.2.1, t9, t4.2.2.2), true, ()))) (
  brk (decide (0 ≤ t9) && decide (t9 < (t0.length : Int))) (
  brk (decide (t0.getD t9.toNat 0 = 34)) (
  some (Sum.inl ((t4.1, t4.2.1, IntKind.i64.wrap (t9 + 1), t4.2.2.2.1, t4.2.2.2.2.1, t8.map byte, ()), false, ()))) (
  brk (decide (0 ≤ t9) && decide (t9 < (t0.length : Int))) (
  brk (!decide (t0.getD t9.toNat 0 = 92)) (
   brk (decide (0 ≤ t9) && decide (t9 < (t0.length : Int))) (
   brk (fits (t8.length + ([t0.getD t9.toNat 0] : List Int).length)) (
   s8 T t0 t4 (t8 ++ ([t0.getD t9.toNat 0] : List Int)) (IntKind.i64.wrap (t9 + 1))) none) none) (
   brk (decide ((t0.length : Int) ≤ IntKind.i64.wrap (t9 + 1))) (
   some (Sum.inl ((t4.1, t4.2.1, IntKind.i64.wrap (t9 + 1), t4.2.2.2), true, ()))) (
   brk (decide (0 ≤ IntKind.i64.wrap (t9 + 1)) && decide (IntKind.i64.wrap (t9 + 1) < (t0.length : Int))) (
   (A6 T ([110, 116, 34, 92] : List Int) (t0.getD ((IntKind.i64.wrap (t9 + 1)).toNat) 0)).bind fun d124 =>
   brk (decide (0 ≤ d124.1)) (
    brk (decide (0 ≤ d124.1) && decide (d124.1 < 4)) (
    brk (fits (t8.length + ([([10, 9, 34, 92] : List Int).getD d124.1.toNat 0] : List Int).length)) (
    s8 T t0 t4 (t8 ++ ([([10, 9, 34, 92] : List Int).getD d124.1.toNat 0] : List Int)) (IntKind.i64.wrap (t9 + 2))) none) none) (
    brk (decide (0 ≤ IntKind.i64.wrap (t9 + 1)) && decide (IntKind.i64.wrap (t9 + 1) < (t0.length : Int))) (
    brk (!decide (t0.getD ((IntKind.i64.wrap (t9 + 1)).toNat) 0 = 120)) (
    some (Sum.inl ((t4.1, t4.2.1, IntKind.i64.wrap (t9 + 1), t4.2.2.2), true, ()))) (
    (M1 T t0 t4 t8 t9 2).bind (K0
     (fun y39 =>
     some (Sum.inl y39))
     (fun y39 =>
     brk (bounds y39.1.length (IntKind.i64.wrap (y39.2.2.2.1 + 2)) (IntKind.i64.wrap (y39.2.2.2.1 + 4))) (
     (G9 T (sub y39.1 (IntKind.i64.wrap (y39.2.2.2.1 + 2)) (IntKind.i64.wrap (y39.2.2.2.1 + 4))) 16 8).bind fun d174 =>
     brk (fits (y39.2.2.1.length + ([IntKind.u8.wrap d174.1.1] : List Int).length)) (
     s8 T y39.1 y39.2.1 (y39.2.2.1 ++ ([IntKind.u8.wrap d174.1.1] : List Int)) (IntKind.i64.wrap (y39.2.2.2.1 + 4))) none) none)))) none)) none))) none)) none)) none)
 := eL Tryz.func101 rfl (by kernel_rfl)
theorem ae3 (T : S.Tab) (t0 : List Int) (t4 : l8.den) (t8 : List Int) (t9 : Int) (t11 : Int) : M1 (S.step T) t0 t4 t8 t9 t11 =
 brk (decide (t11 ≤ 3)) (
 brk (decide ((t0.length : Int) ≤ IntKind.i64.wrap (t9 + t11))) (
  some (Sum.inl ((t4.1, t4.2.1, IntKind.i64.wrap (t9 + t11), t4.2.2.2), true, ()))) (
  brk (decide (0 ≤ IntKind.i64.wrap (t9 + t11)) && decide (IntKind.i64.wrap (t9 + t11) < (t0.length : Int))) (
  (at7 T (t0.getD ((IntKind.i64.wrap (t9 + t11)).toNat) 0)).bind fun d159 =>
  brk (!d159.1) (
  some (Sum.inl ((t4.1, t4.2.1, IntKind.i64.wrap (t9 + t11), t4.2.2.2), true, ()))) (
  M1 T t0 t4 t8 t9 (IntKind.i64.wrap (t11 + 1)))) none)) (
 some (Sum.inr (Sum.inl (t0, t4, t8, t9, ()))))
 := eL Tryz.func101 rfl (by kernel_rfl)
theorem au1 (T : S.Tab) (t0 : List Int) (t1 : Int) (t4 : l8.den) (t14 : Int) (t15 : Int) : I0 (S.step T) t0 t1 t4 t14 t15 =
 brk (decide (0 < t15)) (
 (aw5 T t15).bind fun d189 =>
 brk (!decide (d189.1 = ([] : List Int))) (
  brk (decide (0 < (d189.1.length : Int))) (
  (Z3 T (d189.1.getD 0 0)).bind fun d195 =>
  brk (!d195.1) (
  brk (bounds t0.length t1 (t0.length : Int)) (
  (S8 T (sub t0 t1 (t0.length : Int)) d189.1).bind fun d203 =>
  brk (d203.1) (
   brk (decide (t14 < (d189.1.length : Int))) (
   I0 T t0 t1 (t15, t4.2.1, IntKind.i64.wrap (t1 + (d189.1.length : Int)), t4.2.2.2) (d189.1.length : Int) (IntKind.i64.wrap (t15 - 1))) (
   I0 T t0 t1 t4 t14 (IntKind.i64.wrap (t15 - 1)))) (
   I0 T t0 t1 t4 t14 (IntKind.i64.wrap (t15 - 1)))) none) (
  I0 T t0 t1 t4 t14 (IntKind.i64.wrap (t15 - 1)))) none) (
  I0 T t0 t1 t4 t14 (IntKind.i64.wrap (t15 - 1)))) (
 some (Sum.inl (t1, t4, ())))
 := eL Tryz.func101 rfl (by kernel_rfl)
theorem aL0 (T : S.Tab) (t0 : List Int) (t1 : Int) : al6 (S.step T) t0 t1 =
 brk (decide (t0 = ([] : List Int))) (
 some (false, C0)) (
 brk (decide (0 < (t0.length : Int))) (
 brk (!decide (t0.getD 0 0 = 34)) (
  brk (decide (0 < (t0.length : Int))) (
  (Z3 T (t0.getD 0 0)).bind fun d16 =>
  brk (!d16.1) (
  brk (decide (0 < (t0.length : Int))) (
  (N1 T (t0.getD 0 0)).bind fun d22 =>
  brk (!d22.1) (
   some (false, C0)) (
   (R6 T t0 0).bind fun d28 =>
   brk (!d28.1.2.1) (
   brk (decide (d28.1.1.1 = t1)) (
    some (decide (d28.1.1.2.2.1 = (t0.length : Int)), C0)) (
    some (false, C0))) (
   some (false, C0)))) none) (
  (R6 T t0 0).bind fun d28 =>
  brk (!d28.1.2.1) (
   brk (decide (d28.1.1.1 = t1)) (
   some (decide (d28.1.1.2.2.1 = (t0.length : Int)), C0)) (
   some (false, C0))) (
   some (false, C0)))) none) (
  (R6 T t0 0).bind fun d28 =>
  brk (!d28.1.2.1) (
  brk (decide (d28.1.1.1 = t1)) (
   some (decide (d28.1.1.2.2.1 = (t0.length : Int)), C0)) (
   some (false, C0))) (
  some (false, C0)))) none)
 := eF Tryz.func243 (by kernel_rfl)
theorem as9 (T : S.Tab) (t0 : List Int) : E7 (S.step T) t0 =
 brk (decide ((t0.length : Int) ≤ 40)) (
 (al6 T t0 1).bind fun d8 =>
 some (d8.1, N9)) (
 some (false, N9))
 := eF Tryz.func186 (by kernel_rfl)
theorem aV6 (T : S.Tab) (t0 : Int) : af4 (S.step T) t0 =
 (W0 T t0 1 16).bind fun d4 =>
 some (d4.1, ar2)
 := eF Tryz.func191 (by kernel_rfl)
theorem aL9 (T : S.Tab) (t0 : Bool) (t1 : Bool) (t2 : Bool) (t3 : Bool) (t4 : Int) (t5 : Int) (t6 : Int) (t7 : List Int) : o8 (S.step T) t0 t1 t2 t3 t4 t5 t6 t7 =
 brk (t0) (
 brk (t1) (
  brk (t2) (
  brk (t3) (
   some (true, (), (), (), (), t4, t5, t6, t7, ())) (
   some (decide (t7 = ([] : List Int)), (), (), (), (), t4, t5, t6, t7, ()))) (
  brk (decide (t6 = 0)) (
   brk (t3) (
   some (true, (), (), (), (), t4, t5, t6, t7, ())) (
   some (decide (t7 = ([] : List Int)), (), (), (), (), t4, t5, t6, t7, ()))) (
   some (false, (), (), (), (), t4, t5, t6, t7, ())))) (
  brk (decide (t5 = 0)) (
  brk (t2) (
   brk (t3) (
   some (true, (), (), (), (), t4, t5, t6, t7, ())) (
   some (decide (t7 = ([] : List Int)), (), (), (), (), t4, t5, t6, t7, ()))) (
   brk (decide (t6 = 0)) (
   brk (t3) (
    some (true, (), (), (), (), t4, t5, t6, t7, ())) (
    some (decide (t7 = ([] : List Int)), (), (), (), (), t4, t5, t6, t7, ()))) (
   some (false, (), (), (), (), t4, t5, t6, t7, ())))) (
  some (false, (), (), (), (), t4, t5, t6, t7, ())))) (
 brk (decide (t4 = 0)) (
  brk (t1) (
  brk (t2) (
   brk (t3) (
   some (true, (), (), (), (), t4, t5, t6, t7, ())) (
   some (decide (t7 = ([] : List Int)), (), (), (), (), t4, t5, t6, t7, ()))) (
   brk (decide (t6 = 0)) (
   brk (t3) (
    some (true, (), (), (), (), t4, t5, t6, t7, ())) (
    some (decide (t7 = ([] : List Int)), (), (), (), (), t4, t5, t6, t7, ()))) (
   some (false, (), (), (), (), t4, t5, t6, t7, ())))) (
  brk (decide (t5 = 0)) (
   brk (t2) (
   brk (t3) (
    some (true, (), (), (), (), t4, t5, t6, t7, ())) (
    some (decide (t7 = ([] : List Int)), (), (), (), (), t4, t5, t6, t7, ()))) (
   brk (decide (t6 = 0)) (
    brk (t3) (
    some (true, (), (), (), (), t4, t5, t6, t7, ())) (
    some (decide (t7 = ([] : List Int)), (), (), (), (), t4, t5, t6, t7, ()))) (
    some (false, (), (), (), (), t4, t5, t6, t7, ())))) (
   some (false, (), (), (), (), t4, t5, t6, t7, ())))) (
  some (false, (), (), (), (), t4, t5, t6, t7, ())))
 := eF Tryz.func189 (by kernel_rfl)
theorem aU6 (T : S.Tab) (t0 : Int) : Z2 (S.step T) t0 =
 (W0 T t0 20 37).bind fun d4 =>
 some (d4.1, ao3)
 := eF Tryz.func188 (by kernel_rfl)
theorem aM0 (T : S.Tab) (t0 : Int) (t1 : Int) (t2 : List Int) : n9 (S.step T) t0 t1 t2 =
 brk (bounds t2.length t0 t1) (
 (G4 T t2 (sub t2 t0 t1) ((sub t2 t0 t1).length : Int) 0).bind (K0
  (fun y2 =>
 some (y2.2.1, (), (), y2.1, ()))
  (fun y2 =>
 some (true, (), (), y2)))) none
 := eF Tryz.func187 (by kernel_rfl)
theorem af0 (T : S.Tab) (t2 : List Int) (t11 : List Int) (t12 : Int) (t13 : Int) : G4 (S.step T) t2 t11 t12 t13 =
 brk (decide (t13 < t12)) (
 brk (decide (0 ≤ t13) && decide (t13 < (t11.length : Int))) (
 (Z2 T (t11.getD t13.toNat 0)).bind fun d18 =>
 brk (!d18.1) (
  some (Sum.inl (t2, false, ()))) (
  G4 T t2 t11 t12 (IntKind.i64.wrap (t13 + 1)))) none) (
 some (Sum.inr (Sum.inl (t2, ()))))
 := eL Tryz.func187 rfl (by kernel_rfl)
theorem am9 (T : S.Tab) (t0 : List Int) : Q4 (S.step T) t0 =
 brk (decide ((t0.length : Int) ≤ 40)) (
 (al6 T t0 3).bind fun d8 =>
 some (d8.1, V4)) (
 some (false, V4))
 := eF Tryz.func192 (by kernel_rfl)
theorem aL4 (T : S.Tab) (t0 : Int) (t1 : List Int) : P4 (S.step T) t0 t1 =
 brk (decide (1 ≤ t0)) (
 brk (decide (0 < (t1.length : Int))) (
 (Z2 T (t1.getD 0 0)).bind fun d9 =>
 brk (d9.1) (
  brk (decide (0 < (t1.length : Int))) (
  some (!decide (t1.getD 0 0 = 27), t0, t1, ())) none) (
  some (false, t0, t1, ()))) none) (
 some (false, t0, t1, ()))
 := eF Tryz.func190 (by kernel_rfl)
theorem aW5 (T : S.Tab) (t0 : List b8.den × Unit) (t1 : Int) : A2 (S.step T) t0 t1 =
 brk (decide (0 ≤ t1) && decide (t1 < (t0.1.length : Int))) (
 brk (decide ((at_ (τ := b8) t0.1 t1).2.1 < 0)) (
 some (false, l9)) (
 brk (decide ((at_ (τ := b8) t0.1 t1).2.2.1 < (at_ (τ := b8) t0.1 t1).2.1)) (
  some (false, l9)) (
  brk (decide ((at_ (τ := b8) t0.1 t1).2.2.2.1 < 0)) (
  some (false, l9)) (
  brk (decide (200 < ((at_ (τ := b8) t0.1 t1).2.2.2.2.2.2.2.2.1.length : Int))) (
   some (false, l9)) (
   brk (decide (200 < ((at_ (τ := b8) t0.1 t1).2.2.2.2.2.2.2.1.length : Int))) (
   some (false, l9)) (
   (J2 T t1 t0 (at_ (τ := b8) t0.1 t1) [] (at_ (τ := b8) t0.1 t1).2.2.2.2.2.2.2.2.1 ((at_ (τ := b8) t0.1 t1).2.2.2.2.2.2.2.2.1.length : Int) 0).bind (K0
    (fun y6 =>
    some (y6.1, l9))
    (fun y6 =>
    (x9 T y6.1 y6.2.1 y6.1.2.2.2.2.2.2.2.1 (y6.1.2.2.2.2.2.2.2.1.length : Int) 0).bind (K0
     (fun y13 =>
    some (y13.1, l9))
     (fun y13 =>
    brk (decide (y13.1.1 = 1)) (
     (F6 T (y13.1.2.2.2.2.2.2.2.1.length : Int) y13.1.2.2.2.2.1 y13.1.2.2.2.2.2.1 y13.1.2.2.2.2.2.2.1 y13.2.1 (y13.2.1.length : Int) 0).bind (K0
      (fun y26 =>
     some (y26.1, l9))
      (fun y26 =>
     (o8 T false false false false y26.1 y26.2.1 y26.2.2.1 y26.2.2.2.1).bind fun d119 =>
     some (d119.1, l9)))) (
     brk (decide (y13.1.1 = 2)) (
     (o8 T true false false false (y13.1.2.2.2.2.2.2.2.1.length : Int) y13.1.2.2.2.2.1 y13.1.2.2.2.2.2.1 y13.1.2.2.2.2.2.2.1).bind fun d123 =>
     brk (d123.1) (
      brk (decide (1 ≤ d123.2.2.2.2.2.1)) (
      (n9 T 0 (y13.2.1.length : Int) y13.2.1).bind fun d131 =>
      some (d131.1, l9)) (
      some (false, l9))) (
      some (false, l9))) (
     brk (decide (y13.1.1 = 3)) (
      (o8 T true false false false (y13.1.2.2.2.2.2.2.2.1.length : Int) y13.1.2.2.2.2.1 y13.1.2.2.2.2.2.1 y13.1.2.2.2.2.2.2.1).bind fun d136 =>
      brk (d136.1) (
      brk (decide (d136.2.2.2.2.2.1 = 1)) (
       brk (decide ((y13.2.1.length : Int) = 1)) (
       (n9 T 0 1 y13.2.1).bind fun d147 =>
       some (d147.1, l9)) (
       some (false, l9))) (
       some (false, l9))) (
      some (false, l9))) (
      brk (decide (y13.1.1 = 4)) (
      (o8 T true false false false (y13.1.2.2.2.2.2.2.2.1.length : Int) y13.1.2.2.2.2.1 y13.1.2.2.2.2.2.1 y13.1.2.2.2.2.2.2.1).bind fun d152 =>
      brk (d152.1) (
       brk (decide (d152.2.2.2.2.2.1 = 1)) (
       brk (decide ((y13.2.1.length : Int) = 1)) (
        brk (decide (0 < (y13.2.1.length : Int))) (
        some (decide (y13.2.1.getD 0 0 = 36), l9)) none) (
        some (false, l9))) (
       some (false, l9))) (
       some (false, l9))) (
      brk (decide (y13.1.1 = 5)) (
       (o8 T false false true false (y13.1.2.2.2.2.2.2.2.1.length : Int) y13.1.2.2.2.2.1 y13.1.2.2.2.2.2.1 y13.1.2.2.2.2.2.2.1).bind fun d170 =>
       brk (!d170.1) (
       some (false, l9)) (
       brk (decide (d170.2.2.2.2.2.2.2.1 < 1)) (
        some (false, l9)) (
        brk (decide (IntKind.i64.wrap ((y13.2.1.length : Int) - 1) < d170.2.2.2.2.2.2.2.1)) (
        some (false, l9)) (
        brk (bounds y13.2.1.length 0 d170.2.2.2.2.2.2.2.1) (
        (u7 T y13.2.1 d170.2.2.2.2.2.2.2.1 (y13.2.1.length : Int) (sub y13.2.1 0 d170.2.2.2.2.2.2.2.1) ((sub y13.2.1 0 d170.2.2.2.2.2.2.2.1).length : Int) 0).bind (K0
         (fun y42 =>
         some (y42.1, l9))
         (fun y42 =>
         (n9 T y42.2.1 y42.2.2.1 y42.1).bind fun d204 =>
         some (d204.1, l9)))) none)))) (
       brk (decide (y13.1.1 = 6)) (
       (S1 T y13.2.1 (y13.1.2.2.2.2.2.2.2.1.length : Int) y13.1.2.2.2.2.1 y13.1.2.2.2.2.2.1 y13.1.2.2.2.2.2.2.1 (y13.2.1.length : Int) y13.1.1 (decide (y13.1.1 = 6))).bind (K0
        (fun y50 =>
        some (y50.1, l9))
        (fun y50 =>
        some (false, l9)))) (
       (S1 T y13.2.1 (y13.1.2.2.2.2.2.2.2.1.length : Int) y13.1.2.2.2.2.1 y13.1.2.2.2.2.2.1 y13.1.2.2.2.2.2.2.1 (y13.2.1.length : Int) y13.1.1 (decide (y13.1.1 = 16))).bind (K0
        (fun y50 =>
        some (y50.1, l9))
        (fun y50 =>
        some (false, l9))))))))))))))))))) none
 := eF Tryz.func119 (by kernel_rfl)
theorem aE4 (T : S.Tab) (t6 : List Int) (t11 : Int) (t12 : Int) (t13 : Int) (t14 : List Int) (t16 : Int) (t105 : Int) (t205 : Bool) : S1 (S.step T) t6 t11 t12 t13 t14 t16 t105 t205 =
 brk (t205) (
 (o8 T false false false false t11 t12 t13 t14).bind fun d209 =>
 brk (d209.1) (
  brk (decide (t16 = 1)) (
  brk (decide (0 < (t6.length : Int))) (
  some (Sum.inl (decide (t6.getD 0 0 = 34), ()))) none) (
  some (Sum.inl (false, ())))) (
  some (Sum.inl (false, ())))) (
 brk (decide (t105 = 7)) (
  (o8 T false false false false t11 t12 t13 t14).bind fun d223 =>
  brk (d223.1) (
  brk (decide (t16 = 2)) (
   (n9 T 0 1 t6).bind fun d234 =>
   brk (d234.1) (
   brk (decide (1 < (d234.2.2.2.1.length : Int))) (
   brk (decide (d234.2.2.2.1.getD 1 0 = 1)) (
    brk (decide (t16 = 2)) (
    some (Sum.inl (true, ()))) (
    brk (decide (2 < (d234.2.2.2.1.length : Int))) (
    brk (decide (d234.2.2.2.1.getD 2 0 = 1)) (
     some (Sum.inl (true, ()))) (
     brk (decide (2 < (d234.2.2.2.1.length : Int))) (
     some (Sum.inl (decide (d234.2.2.2.1.getD 2 0 = 7), ()))) none)) none)) (
    some (Sum.inl (false, ())))) none) (
   some (Sum.inl (false, ())))) (
   brk (decide (t16 = 3)) (
   (n9 T 0 1 t6).bind fun d234 =>
   brk (d234.1) (
    brk (decide (1 < (d234.2.2.2.1.length : Int))) (
    brk (decide (d234.2.2.2.1.getD 1 0 = 1)) (
    brk (decide (t16 = 2)) (
     some (Sum.inl (true, ()))) (
     brk (decide (2 < (d234.2.2.2.1.length : Int))) (
     brk (decide (d234.2.2.2.1.getD 2 0 = 1)) (
     some (Sum.inl (true, ()))) (
     brk (decide (2 < (d234.2.2.2.1.length : Int))) (
     some (Sum.inl (decide (d234.2.2.2.1.getD 2 0 = 7), ()))) none)) none)) (
    some (Sum.inl (false, ())))) none) (
    some (Sum.inl (false, ())))) (
   some (Sum.inl (false, ()))))) (
  some (Sum.inl (false, ())))) (
  brk (decide (t105 = 8)) (
  (o8 T false false false false t11 t12 t13 t14).bind fun d261 =>
  brk (d261.1) (
   brk (decide (t16 = 2)) (
   (n9 T 0 1 t6).bind fun d268 =>
   brk (d268.1) (
    brk (decide (1 < (d268.2.2.2.1.length : Int))) (
    some (Sum.inl (decide (d268.2.2.2.1.getD 1 0 = 1), ()))) none) (
    some (Sum.inl (false, ())))) (
   some (Sum.inl (false, ())))) (
   some (Sum.inl (false, ())))) (
  brk (decide (t105 = 9)) (
   (o8 T true false false false t11 t12 t13 t14).bind fun d279 =>
   brk (d279.1) (
   brk (decide (d279.2.2.2.2.2.1 = 1)) (
    brk (decide (t16 = 3)) (
    (n9 T 0 (IntKind.i64.wrap (t16 - 1)) t6).bind fun d296 =>
    brk (d296.1) (
     brk (decide (0 ≤ IntKind.i64.wrap (t16 - 1)) && decide (IntKind.i64.wrap (t16 - 1) < (d296.2.2.2.1.length : Int))) (
     some (Sum.inl (decide (d296.2.2.2.1.getD ((IntKind.i64.wrap (t16 - 1)).toNat) 0 = 1), ()))) none) (
     some (Sum.inl (false, ())))) (
    brk (decide (t16 = 4)) (
     (n9 T 0 (IntKind.i64.wrap (t16 - 1)) t6).bind fun d296 =>
     brk (d296.1) (
     brk (decide (0 ≤ IntKind.i64.wrap (t16 - 1)) && decide (IntKind.i64.wrap (t16 - 1) < (d296.2.2.2.1.length : Int))) (
     some (Sum.inl (decide (d296.2.2.2.1.getD ((IntKind.i64.wrap (t16 - 1)).toNat) 0 = 1), ()))) none) (
     some (Sum.inl (false, ())))) (
     some (Sum.inl (false, ()))))) (
    some (Sum.inl (false, ())))) (
   some (Sum.inl (false, ())))) (
   brk (decide (t105 = 10)) (
   (o8 T true false false false t11 t12 t13 t14).bind fun d309 =>
   brk (d309.1) (
    brk (decide (1 ≤ d309.2.2.2.2.2.1)) (
    brk (decide (t16 = 2)) (
     (n9 T 0 1 t6).bind fun d320 =>
     brk (d320.1) (
     brk (decide (1 < (d320.2.2.2.1.length : Int))) (
     some (Sum.inl (decide (d320.2.2.2.1.getD 1 0 = 1), ()))) none) (
     some (Sum.inl (false, ())))) (
     some (Sum.inl (false, ())))) (
    some (Sum.inl (false, ())))) (
    some (Sum.inl (false, ())))) (
   brk (decide (t105 = 11)) (
    (C8 T t6 t11 t12 t13 t14 t16 t105 (decide (t105 = 11))).bind (K0
     (fun y65 =>
    some (Sum.inl y65))
     (fun y65 =>
    some (Sum.inr (Sum.inl ()))))) (
    brk (decide (t105 = 12)) (
    (C8 T t6 t11 t12 t13 t14 t16 t105 (decide (t105 = 12))).bind (K0
     (fun y65 =>
     some (Sum.inl y65))
     (fun y65 =>
     some (Sum.inr (Sum.inl ()))))) (
    brk (decide (t105 = 20)) (
     (C8 T t6 t11 t12 t13 t14 t16 t105 (decide (t105 = 20))).bind (K0
      (fun y65 =>
     some (Sum.inl y65))
      (fun y65 =>
     some (Sum.inr (Sum.inl ()))))) (
     brk (decide (t105 = 21)) (
     (C8 T t6 t11 t12 t13 t14 t16 t105 (decide (t105 = 21))).bind (K0
      (fun y65 =>
      some (Sum.inl y65))
      (fun y65 =>
      some (Sum.inr (Sum.inl ()))))) (
     brk (decide (t105 = 22)) (
      (C8 T t6 t11 t12 t13 t14 t16 t105 (decide (t105 = 22))).bind (K0
       (fun y65 =>
      some (Sum.inl y65))
       (fun y65 =>
      some (Sum.inr (Sum.inl ()))))) (
      (C8 T t6 t11 t12 t13 t14 t16 t105 (decide (t105 = 27))).bind (K0
       (fun y65 =>
      some (Sum.inl y65))
       (fun y65 =>
      some (Sum.inr (Sum.inl ()))))))))))))))
 := eJ Tryz.func119 rfl (by kernel_rfl)
theorem aF1 (T : S.Tab) (t6 : List Int) (t11 : Int) (t12 : Int) (t13 : Int) (t14 : List Int) (t16 : Int) (t105 : Int) (t328 : Bool) : C8 (S.step T) t6 t11 t12 t13 t14 t16 t105 t328 =
 brk (t328) (
 (o8 T false false false false t11 t12 t13 t14).bind fun d336 =>
 brk (d336.1) (
  some (Sum.inl (decide (t16 = 0), ()))) (
  some (Sum.inl (false, ())))) (
 brk (decide (t105 = 13)) (
  (o8 T false false false false t11 t12 t13 t14).bind fun d344 =>
  brk (d344.1) (
  (n9 T 0 t16 t6).bind fun d348 =>
  some (Sum.inl (d348.1, ()))) (
  some (Sum.inl (false, ())))) (
  brk (decide (t105 = 14)) (
  (o8 T true false false false t11 t12 t13 t14).bind fun d353 =>
  brk (d353.1) (
   brk (decide (d353.2.2.2.2.2.1 = 1)) (
   brk (decide (t16 = 2)) (
    brk (decide (0 < (t6.length : Int))) (
    brk (decide (t6.getD 0 0 = 1)) (
    brk (decide (1 < (t6.length : Int))) (
    some (Sum.inl (decide (t6.getD 1 0 = 1), ()))) none) (
    some (Sum.inl (false, ())))) none) (
    some (Sum.inl (false, ())))) (
   brk (decide (d353.2.2.2.2.2.1 = 2)) (
    brk (decide (t16 = 2)) (
    brk (decide (0 < (t6.length : Int))) (
    brk (decide (t6.getD 0 0 = 1)) (
     brk (decide (1 < (t6.length : Int))) (
     some (Sum.inl (decide (t6.getD 1 0 = 1), ()))) none) (
     some (Sum.inl (false, ())))) none) (
    some (Sum.inl (false, ())))) (
    some (Sum.inl (false, ()))))) (
   some (Sum.inl (false, ())))) (
  brk (decide (t105 = 15)) (
   (N7 T t6 t11 t12 t13 t14 t16 t105 (decide (t105 = 15))).bind (K0
    (fun y72 =>
   some (Sum.inl y72))
    (fun y72 =>
   some (Sum.inr (Sum.inl ()))))) (
   (N7 T t6 t11 t12 t13 t14 t16 t105 (decide (t105 = 40))).bind (K0
    (fun y72 =>
   some (Sum.inl y72))
    (fun y72 =>
   some (Sum.inr (Sum.inl ()))))))))
 := eJ Tryz.func119 rfl (by kernel_rfl)
theorem aG4 (T : S.Tab) (t6 : List Int) (t11 : Int) (t12 : Int) (t13 : Int) (t14 : List Int) (t16 : Int) (t105 : Int) (t378 : Bool) : N7 (S.step T) t6 t11 t12 t13 t14 t16 t105 t378 =
 brk (t378) (
 (o8 T false false false false t11 t12 t13 t14).bind fun d382 =>
 brk (d382.1) (
  brk (decide (t16 = 1)) (
  (n9 T 0 1 t6).bind fun d389 =>
  some (Sum.inl (d389.1, ()))) (
  some (Sum.inl (false, ())))) (
  some (Sum.inl (false, ())))) (
 brk (decide (t105 = 23)) (
  (o8 T false false true false t11 t12 t13 t14).bind fun d394 =>
  brk (d394.1) (
  some (Sum.inl (decide (t16 = 0), ()))) (
  some (Sum.inl (false, ())))) (
  brk (decide (t105 = 24)) (
  (o8 T false false false true t11 t12 t13 t14).bind fun d402 =>
  brk (d402.1) (
   brk (decide (t16 = 0)) (
   (Q4 T d402.2.2.2.2.2.2.2.2.1).bind fun d409 =>
   some (Sum.inl (d409.1, ()))) (
   some (Sum.inl (false, ())))) (
   some (Sum.inl (false, ())))) (
  brk (decide (t105 = 25)) (
   (o8 T false false false true t11 t12 t13 t14).bind fun d414 =>
   brk (d414.1) (
   brk (decide (t16 = 0)) (
    some (Sum.inl (decide ((d414.2.2.2.2.2.2.2.2.1.length : Int) ≤ 4000), ()))) (
    some (Sum.inl (false, ())))) (
   some (Sum.inl (false, ())))) (
   brk (decide (t105 = 26)) (
   (o8 T false false false true t11 t12 t13 t14).bind fun d427 =>
   brk (d427.1) (
    brk (decide (t16 = 0)) (
    (E7 T d427.2.2.2.2.2.2.2.2.1).bind fun d434 =>
    some (Sum.inl (d434.1, ()))) (
    some (Sum.inl (false, ())))) (
    some (Sum.inl (false, ())))) (
   brk (decide (t105 = 28)) (
    (K7 T t6 t11 t12 t13 t14 t16 t105 (decide (t105 = 28))).bind (K0
     (fun y84 =>
    some (Sum.inl y84))
     (fun y84 =>
    some (Sum.inr (Sum.inl ()))))) (
    brk (decide (t105 = 29)) (
    (K7 T t6 t11 t12 t13 t14 t16 t105 (decide (t105 = 29))).bind (K0
     (fun y84 =>
     some (Sum.inl y84))
     (fun y84 =>
     some (Sum.inr (Sum.inl ()))))) (
    (K7 T t6 t11 t12 t13 t14 t16 t105 (decide (t105 = 41))).bind (K0
     (fun y84 =>
     some (Sum.inl y84))
     (fun y84 =>
     some (Sum.inr (Sum.inl ())))))))))))
 := eJ Tryz.func119 rfl (by kernel_rfl)
theorem aC2 (T : S.Tab) (t6 : List Int) (t11 : Int) (t12 : Int) (t13 : Int) (t14 : List Int) (t16 : Int) (t105 : Int) (t436 : Bool) : K7 (S.step T) t6 t11 t12 t13 t14 t16 t105 t436 =
 brk (t436) (
 (o8 T false false false false t11 t12 t13 t14).bind fun d441 =>
 brk (d441.1) (
  brk (decide (t16 = 2)) (
  (n9 T 0 2 t6).bind fun d448 =>
  some (Sum.inl (d448.1, ()))) (
  some (Sum.inl (false, ())))) (
  some (Sum.inl (false, ())))) (
 brk (decide (t105 = 30)) (
  (o8 T false true false false t11 t12 t13 t14).bind fun d453 =>
  brk (d453.1) (
  (W0 T d453.2.2.2.2.2.2.1 19 22).bind fun d456 =>
  brk (d456.1) (
   brk (decide (t16 = 1)) (
   (n9 T 0 1 t6).bind fun d464 =>
   some (Sum.inl (d464.1, ()))) (
   some (Sum.inl (false, ())))) (
   some (Sum.inl (false, ())))) (
  some (Sum.inl (false, ())))) (
  brk (decide (t105 = 31)) (
  (o8 T false true false false t11 t12 t13 t14).bind fun d469 =>
  brk (d469.1) (
   (W0 T d469.2.2.2.2.2.2.1 1 18).bind fun d472 =>
   brk (d472.1) (
   brk (decide (t16 = 2)) (
    (n9 T 0 2 t6).bind fun d480 =>
    some (Sum.inl (d480.1, ()))) (
    some (Sum.inl (false, ())))) (
   some (Sum.inl (false, ())))) (
   some (Sum.inl (false, ())))) (
  brk (decide (t105 = 32)) (
   (o8 T false false false false t11 t12 t13 t14).bind fun d485 =>
   brk (d485.1) (
   brk (decide (t16 = 2)) (
    (P4 T t16 t6).bind fun d492 =>
    brk (d492.1) (
    (n9 T 0 2 d492.2.2.1).bind fun d496 =>
    some (Sum.inl (d496.1, ()))) (
    some (Sum.inl (false, ())))) (
    some (Sum.inl (false, ())))) (
   some (Sum.inl (false, ())))) (
   brk (decide (t105 = 33)) (
   (o8 T false false false true t11 t12 t13 t14).bind fun d501 =>
   brk (d501.1) (
    brk (decide (t16 = 1)) (
    (P4 T t16 t6).bind fun d508 =>
    brk (d508.1) (
     (E7 T d501.2.2.2.2.2.2.2.2.1).bind fun d512 =>
     some (Sum.inl (d512.1, ()))) (
     some (Sum.inl (false, ())))) (
    some (Sum.inl (false, ())))) (
    some (Sum.inl (false, ())))) (
   brk (decide (t105 = 34)) (
    (o8 T false false false false t11 t12 t13 t14).bind fun d517 =>
    brk (d517.1) (
    (P4 T t16 t6).bind fun d520 =>
    brk (d520.1) (
     (n9 T 0 d520.2.1 d520.2.2.1).bind fun d525 =>
     some (Sum.inl (d525.1, ()))) (
     some (Sum.inl (false, ())))) (
    some (Sum.inl (false, ())))) (
    brk (decide (t105 = 35)) (
    (G1 T t11 t12 t13 t14 t6 (t6.length : Int) 0).bind (K0
     (fun y97 =>
     some (Sum.inl y97))
     (fun y97 =>
     (o8 T false false false false y97.1 y97.2.1 y97.2.2.1 y97.2.2.2.1).bind fun d540 =>
     some (Sum.inl (d540.1, ()))))) (
    brk (decide (t105 = 36)) (
     (o8 T true true false false t11 t12 t13 t14).bind fun d544 =>
     brk (d544.1) (
     (W0 T d544.2.2.2.2.2.2.1 0 1).bind fun d547 =>
     brk (d547.1) (
      brk (decide (t16 = 1)) (
      brk (decide (0 < (t6.length : Int))) (
      some (Sum.inl (decide (t6.getD 0 0 = 1), ()))) none) (
      some (Sum.inl (false, ())))) (
      some (Sum.inl (false, ())))) (
     some (Sum.inl (false, ())))) (
     brk (decide (t105 = 37)) (
     (o8 T false false false false t11 t12 t13 t14).bind fun d562 =>
     brk (d562.1) (
      brk (decide (t16 = 1)) (
      brk (decide (0 < (t6.length : Int))) (
      brk (decide (t6.getD 0 0 = 34)) (
       some (Sum.inl (true, ()))) (
       brk (decide (0 < (t6.length : Int))) (
       some (Sum.inl (decide (t6.getD 0 0 = 27), ()))) none)) none) (
      some (Sum.inl (false, ())))) (
      some (Sum.inl (false, ())))) (
     brk (decide (t105 = 42)) (
      (o8 T false false false true t11 t12 t13 t14).bind fun d582 =>
      brk (d582.1) (
      brk (decide (t16 = 1)) (
       (n9 T 0 1 t6).bind fun d589 =>
       brk (d589.1) (
       (E7 T d582.2.2.2.2.2.2.2.2.1).bind fun d593 =>
       some (Sum.inl (d593.1, ()))) (
       some (Sum.inl (false, ())))) (
       some (Sum.inl (false, ())))) (
      some (Sum.inl (false, ())))) (
      some (Sum.inr (Sum.inl ()))))))))))))
 := eJ Tryz.func119 rfl (by kernel_rfl)
theorem ao2 (T : S.Tab) (t1 : Int) (t2 : List b8.den × Unit) (t5 : b8.den) (t6 : List Int) (t58 : List Int) (t59 : Int) (t60 : Int) : J2 (S.step T) t1 t2 t5 t6 t58 t59 t60 =
 brk (decide (t60 < t59)) (
 brk (decide (0 ≤ t60) && decide (t60 < (t58.length : Int))) (
 (W0 T (t58.getD t60.toNat 0) 0 (IntKind.i64.wrap (t1 - 1))).bind fun d67 =>
 brk (!d67.1) (
  some (Sum.inl (false, ()))) (
  brk (decide (0 ≤ t58.getD t60.toNat 0) && decide (t58.getD t60.toNat 0 < (t2.1.length : Int))) (
  brk (fits (t6.length + ([(at_ (τ := b8) t2.1 (t58.getD t60.toNat 0)).1] : List Int).length)) (
  J2 T t1 t2 t5 (t6 ++ ([(at_ (τ := b8) t2.1 (t58.getD t60.toNat 0)).1] : List Int)) t58 t59 (IntKind.i64.wrap (t60 + 1))) none) none)) none) (
 some (Sum.inr (Sum.inl (t5, t6, ()))))
 := eL Tryz.func119 rfl (by kernel_rfl)
theorem ag9 (T : S.Tab) (t5 : b8.den) (t6 : List Int) (t80 : List (List Int)) (t81 : Int) (t82 : Int) : x9 (S.step T) t5 t6 t80 t81 t82 =
 brk (decide (t82 < t81)) (
 brk (decide (0 ≤ t82) && decide (t82 < (t80.length : Int))) (
 (E7 T (t80.getD t82.toNat [])).bind fun d87 =>
 brk (!d87.1) (
  some (Sum.inl (false, ()))) (
  x9 T t5 t6 t80 t81 (IntKind.i64.wrap (t82 + 1)))) none) (
 some (Sum.inr (Sum.inl (t5, t6, ()))))
 := eL Tryz.func119 rfl (by kernel_rfl)
theorem aj2 (T : S.Tab) (t11 : Int) (t12 : Int) (t13 : Int) (t14 : List Int) (t108 : List Int) (t109 : Int) (t110 : Int) : F6 (S.step T) t11 t12 t13 t14 t108 t109 t110 =
 brk (decide (t110 < t109)) (
 brk (decide (0 ≤ t110) && decide (t110 < (t108.length : Int))) (
 (af4 T (t108.getD t110.toNat 0)).bind fun d115 =>
 brk (!d115.1) (
  some (Sum.inl (false, ()))) (
  F6 T t11 t12 t13 t14 t108 t109 (IntKind.i64.wrap (t110 + 1)))) none) (
 some (Sum.inr (Sum.inl (t11, t12, t13, t14, ()))))
 := eL Tryz.func119 rfl (by kernel_rfl)
theorem ai6 (T : S.Tab) (t6 : List Int) (t13 : Int) (t16 : Int) (t184 : List Int) (t185 : Int) (t186 : Int) : u7 (S.step T) t6 t13 t16 t184 t185 t186 =
 brk (decide (t186 < t185)) (
 brk (decide (0 ≤ t186) && decide (t186 < (t184.length : Int))) (
 brk (!decide (t184.getD t186.toNat 0 = 26)) (
  brk (!decide (t184.getD t186.toNat 0 = 32)) (
  brk (!decide (t184.getD t186.toNat 0 = 33)) (
   some (Sum.inl (false, ()))) (
   u7 T t6 t13 t16 t184 t185 (IntKind.i64.wrap (t186 + 1)))) (
  u7 T t6 t13 t16 t184 t185 (IntKind.i64.wrap (t186 + 1)))) (
  u7 T t6 t13 t16 t184 t185 (IntKind.i64.wrap (t186 + 1)))) none) (
 some (Sum.inr (Sum.inl (t6, t13, t16, ()))))
 := eL Tryz.func119 rfl (by kernel_rfl)
theorem ah5 (T : S.Tab) (t11 : Int) (t12 : Int) (t13 : Int) (t14 : List Int) (t529 : List Int) (t530 : Int) (t531 : Int) : G1 (S.step T) t11 t12 t13 t14 t529 t530 t531 =
 brk (decide (t531 < t530)) (
 brk (decide (0 ≤ t531) && decide (t531 < (t529.length : Int))) (
 (W0 T (t529.getD t531.toNat 0) 40 42).bind fun d536 =>
 brk (!d536.1) (
  some (Sum.inl (false, ()))) (
  G1 T t11 t12 t13 t14 t529 t530 (IntKind.i64.wrap (t531 + 1)))) none) (
 some (Sum.inr (Sum.inl (t11, t12, t13, t14, ()))))
 := eL Tryz.func119 rfl (by kernel_rfl)
theorem al1 (T : S.Tab) (t0 : List b8.den × Unit) : I7 (S.step T) t0 =
 brk (decide ((t0.1.length : Int) = 0)) (
 some ((1, 0, ()), M5)) (
 brk (decide (3000 < (t0.1.length : Int))) (
  some ((1, 0, ()), M5)) (
  brk (decide (0 ≤ IntKind.i64.wrap ((t0.1.length : Int) - 1)) && decide (IntKind.i64.wrap ((t0.1.length : Int) - 1) < (t0.1.length : Int))) (
  brk (!decide ((at_ (τ := b8) t0.1 (IntKind.i64.wrap ((t0.1.length : Int) - 1))).1 = 1)) (
  some ((1, 0, ()), M5)) (
  (E5 T t0 (0, 0, ()) (t0.1.length : Int) (t0.1.length : Int) 0).bind (K0
   (fun y5 =>
   some (y5.1, M5))
   (fun y5 =>
   brk (((decide (0 ≤ y5.2.2.1)) && (decide (y5.2.2.1 ≤ y5.2.2.1))) && (decide (y5.2.2.1 ≤ lim))) (
   (s7 T y5.1 y5.2.1 y5.2.2.1 (List.replicate y5.2.2.1.toNat 0) y5.1.1 (y5.1.1.length : Int) 0).bind (K0
    (fun y12 =>
   some (y12.1, M5))
    (fun y12 =>
   brk (((decide (0 ≤ y12.2.2.1)) && (decide (y12.2.2.1 ≤ y12.2.2.1))) && (decide (y12.2.2.1 ≤ lim))) (
   (K4 T y12.1 y12.2.1 (List.replicate y12.2.2.1.toNat 0) (IntKind.i64.wrap (y12.2.2.1 - 1))).bind (C3
    (fun y27 =>
    (F9 T y27.1 y27.2.1 (y27.2.1.length : Int) 0).bind (K0
     (fun y35 =>
    some (y35.1, M5))
     (fun y35 =>
    some ((0, 0, ()), M5)))))) none))) none)))) none))
 := eF Tryz.func74 (by kernel_rfl)
theorem an6 (T : S.Tab) (t1 : List b8.den × Unit) (t2 : Int × Int × Unit) (t3 : Int) (t37 : Int) (t38 : Int) : E5 (S.step T) t1 t2 t3 t37 t38 =
 brk (decide (t38 < t37)) (
 (A2 T t1 t38).bind fun d43 =>
 brk (!d43.1) (
  some (Sum.inl ((2, t38, ()), ()))) (
  E5 T t1 t2 t3 t37 (IntKind.i64.wrap (t38 + 1)))) (
 some (Sum.inr (Sum.inl (t1, t2, t3, ()))))
 := eL Tryz.func74 rfl (by kernel_rfl)
theorem aj0 (T : S.Tab) (t1 : List b8.den × Unit) (t2 : Int × Int × Unit) (t3 : Int) (t5 : List Int) (t51 : List b8.den) (t52 : Int) (t53 : Int) : s7 (S.step T) t1 t2 t3 t5 t51 t52 t53 =
 brk (decide (t53 < t52)) (
 brk (decide (0 ≤ t53) && decide (t53 < (t51.length : Int))) (
 (F5 T t1 t2 t3 t5 t53 (at_ (τ := b8) t51 t53) t53 (IntKind.i64.wrap (((at_ (τ := b8) t51 t53).2.2.2.2.2.2.2.2.1.length : Int) - 1)) t51 t52 t53).bind (K0
  (fun y16 =>
  some (Sum.inl y16))
  (fun y16 =>
  brk (decide (0 ≤ y16.2.2.2.2.1) && decide (y16.2.2.2.2.1 < (y16.2.2.2.1.length : Int))) (
  brk (decide (y16.2.2.2.2.1 = IntKind.i64.wrap (y16.2.2.1 - 1))) (
  brk (!decide (y16.2.2.2.2.2.1 = 0)) (
   some (Sum.inl ((3, y16.2.2.2.2.1, ()), ()))) (
   s7 T y16.1 y16.2.1 y16.2.2.1 (y16.2.2.2.1.set y16.2.2.2.2.1.toNat y16.2.2.2.2.2.1) y16.2.2.2.2.2.2.1 y16.2.2.2.2.2.2.2.1 (IntKind.i64.wrap (y16.2.2.2.2.2.2.2.2.1 + 1)))) (
  s7 T y16.1 y16.2.1 y16.2.2.1 (y16.2.2.2.1.set y16.2.2.2.2.1.toNat y16.2.2.2.2.2.1) y16.2.2.2.2.2.2.1 y16.2.2.2.2.2.2.2.1 (IntKind.i64.wrap (y16.2.2.2.2.2.2.2.2.1 + 1)))) none))) none) (
 some (Sum.inr (Sum.inl (t1, t2, t3, ()))))
 := eL Tryz.func74 rfl (by kernel_rfl)
theorem Y6 (T : S.Tab) (t1 : List b8.den × Unit) (t2 : Int × Int × Unit) (t3 : Int) (t5 : List Int) (t6 : Int) (t7 : b8.den) (t8 : Int) (t9 : Int) (t51 : List b8.den) (t52 : Int) (t53 : Int) : F5 (S.step T) t1 t2 t3 t5 t6 t7 t8 t9 t51 t52 t53 =
 brk (decide (0 ≤ t9)) (
 brk (decide (0 ≤ t9) && decide (t9 < (t7.2.2.2.2.2.2.2.2.1.length : Int))) (
 brk (!decide (t7.2.2.2.2.2.2.2.2.1.getD t9.toNat 0 = IntKind.i64.wrap (t8 - 1))) (
  some (Sum.inl ((3, t6, ()), ()))) (
  brk (decide (0 ≤ t9) && decide (t9 < (t7.2.2.2.2.2.2.2.2.1.length : Int))) (
  brk (decide (0 ≤ t7.2.2.2.2.2.2.2.2.1.getD t9.toNat 0) && decide (t7.2.2.2.2.2.2.2.2.1.getD t9.toNat 0 < (t5.length : Int))) (
  F5 T t1 t2 t3 t5 t6 t7 (t5.getD ((t7.2.2.2.2.2.2.2.2.1.getD t9.toNat 0).toNat) 0) (IntKind.i64.wrap (t9 - 1)) t51 t52 t53) none) none)) none) (
 some (Sum.inr (Sum.inl (t1, t2, t3, t5, t6, t8, t51, t52, t53, ()))))
 := eL Tryz.func74 rfl (by kernel_rfl)
theorem ai0 (T : S.Tab) (t1 : List b8.den × Unit) (t2 : Int × Int × Unit) (t10 : List Int) (t11 : Int) : K4 (S.step T) t1 t2 t10 t11 =
 brk (decide (0 ≤ t11)) (
 brk (decide (0 ≤ t11) && decide (t11 < (t1.1.length : Int))) (
 (I2 T t1 t2 t10 t11 (at_ (τ := b8) t1.1 t11).2.2.2.2.2.2.2.2.1 ((at_ (τ := b8) t1.1 t11).2.2.2.2.2.2.2.2.1.length : Int) 0).bind (C3
  (fun y30 =>
  K4 T y30.1 y30.2.1 y30.2.2.1 (IntKind.i64.wrap (y30.2.2.2.1 - 1))))) none) (
 some (Sum.inl (t2, t10, ())))
 := eL Tryz.func74 rfl (by kernel_rfl)
theorem ai9 (T : S.Tab) (t1 : List b8.den × Unit) (t2 : Int × Int × Unit) (t10 : List Int) (t11 : Int) (t113 : List Int) (t114 : Int) (t115 : Int) : I2 (S.step T) t1 t2 t10 t11 t113 t114 t115 =
 brk (decide (t115 < t114)) (
 brk (decide (0 ≤ t115) && decide (t115 < (t113.length : Int))) (
 brk (decide (0 ≤ t11) && decide (t11 < (t10.length : Int))) (
 brk (decide (0 ≤ t113.getD t115.toNat 0) && decide (t113.getD t115.toNat 0 < (t10.length : Int))) (
 I2 T t1 t2 (t10.set ((t113.getD t115.toNat 0).toNat) (IntKind.i64.wrap ((t10.getD t11.toNat 0) + 1))) t11 t113 t114 (IntKind.i64.wrap (t115 + 1))) none) none) none) (
 some (Sum.inl (t1, t2, t10, t11, ())))
 := eL Tryz.func74 rfl (by kernel_rfl)
theorem aj5 (T : S.Tab) (t2 : Int × Int × Unit) (t10 : List Int) (t129 : Int) (t130 : Int) : F9 (S.step T) t2 t10 t129 t130 =
 brk (decide (t130 < t129)) (
 brk (decide (0 ≤ t130) && decide (t130 < (t10.length : Int))) (
 brk (decide (100 < t10.getD t130.toNat 0)) (
  some (Sum.inl ((4, t130, ()), ()))) (
  F9 T t2 t10 t129 (IntKind.i64.wrap (t130 + 1)))) none) (
 some (Sum.inr (Sum.inl (t2, ()))))
 := eL Tryz.func74 rfl (by kernel_rfl)
theorem a26 (T : S.Tab) (t0 : List b8.den × Unit) : aw3 (S.step T) t0 =
 (I7 T t0).bind fun d4 =>
 some (decide (d4.1.1 = 0) && (decide (d4.1.2.1 = 0) && true), aK7)
 := eF Tryz.func40 (by kernel_rfl)
theorem aD4 (T : S.Tab) (t0 : List Int) : an2 (S.step T) t0 =
 brk (decide (4000 < (t0.length : Int))) (
 some (([] : List Int), aK2)) (
 (Bld.Q5 (([] : List Int), 34, ())).bind fun d10 =>
 (D2 T t0 d10.2.1 0).bind (C3
  (fun y6 =>
  (Bld.Q5 (y6.1, 34, ())).bind fun d51 =>
  (Bld.au3 (d51.2.1, ())).bind fun d52 =>
  some (d52.1, aK2))))
 := eF Tryz.func51 (by kernel_rfl)
theorem as0 (T : S.Tab) (t0 : List Int) (t3 : List Int) (t4 : Int) : D2 (S.step T) t0 t3 t4 =
 brk (decide (t4 < (t0.length : Int))) (
 brk (decide (0 ≤ t4) && decide (t4 < (t0.length : Int))) (
 (A6 T ([10, 9, 34, 92] : List Int) (t0.getD t4.toNat 0)).bind fun d21 =>
 brk (decide (0 ≤ d21.1)) (
  (Bld.Q5 (t3, 92, ())).bind fun d24 =>
  brk (decide (0 ≤ d21.1) && decide (d21.1 < 4)) (
  (Bld.Q5 (d24.2.1, ([110, 116, 34, 92] : List Int).getD d21.1.toNat 0, ())).bind fun d27 =>
  D2 T t0 d27.2.1 (IntKind.i64.wrap (t4 + 1))) none) (
  brk (decide (t0.getD t4.toNat 0 < 32)) (
  brk (bounds 16 ((t0.getD t4.toNat 0).fdiv (2 ^ min ((4 : Int).toNat) IntKind.u8.bits)) (IntKind.u8.wrap (((t0.getD t4.toNat 0).fdiv (2 ^ min ((4 : Int).toNat) IntKind.u8.bits)) + 1))) (
  brk (fits (2 + (sub ([48, 49, 50, 51, 52, 53, 54, 55, 56, 57, 97, 98, 99, 100, 101, 102] : List Int) ((t0.getD t4.toNat 0).fdiv (2 ^ min ((4 : Int).toNat) IntKind.u8.bits)) (IntKind.u8.wrap (((t0.getD t4.toNat 0).fdiv (2 ^ min ((4 : Int).toNat) IntKind.u8.bits)) + 1))).length)) (
  brk (bounds 16 (intBits .and .u8 (t0.getD t4.toNat 0) 15) (IntKind.u8.wrap ((intBits .and .u8 (t0.getD t4.toNat 0) 15) + 1))) (
  brk (fits ((([92, 120] : List Int) ++ (sub ([48, 49, 50, 51, 52, 53, 54, 55, 56, 57, 97, 98, 99, 100, 101, 102] : List Int) ((t0.getD t4.toNat 0).fdiv (2 ^ min ((4 : Int).toNat) IntKind.u8.bits)) (IntKind.u8.wrap (((t0.getD t4.toNat 0).fdiv (2 ^ min ((4 : Int).toNat) IntKind.u8.bits)) + 1)))).length + (sub ([48, 49, 50, 51, 52, 53, 54, 55, 56, 57, 97, 98, 99, 100, 101, 102] : List Int) (intBits .and .u8 (t0.getD t4.toNat 0) 15) (IntKind.u8.wrap ((intBits .and .u8 (t0.getD t4.toNat 0) 15) + 1))).length)) (
  (Bld.L7 (t3, (([92, 120] : List Int) ++ (sub ([48, 49, 50, 51, 52, 53, 54, 55, 56, 57, 97, 98, 99, 100, 101, 102] : List Int) ((t0.getD t4.toNat 0).fdiv (2 ^ min ((4 : Int).toNat) IntKind.u8.bits)) (IntKind.u8.wrap (((t0.getD t4.toNat 0).fdiv (2 ^ min ((4 : Int).toNat) IntKind.u8.bits)) + 1)))) ++ (sub ([48, 49, 50, 51, 52, 53, 54, 55, 56, 57, 97, 98, 99, 100, 101, 102] : List Int) (intBits .and .u8 (t0.getD t4.toNat 0) 15) (IntKind.u8.wrap ((intBits .and .u8 (t0.getD t4.toNat 0) 15) + 1))), ())).bind fun d48 =>
  D2 T t0 d48.2.1 (IntKind.i64.wrap (t4 + 1))) none) none) none) none) (
  brk (decide (126 < t0.getD t4.toNat 0)) (
   brk (bounds 16 ((t0.getD t4.toNat 0).fdiv (2 ^ min ((4 : Int).toNat) IntKind.u8.bits)) (IntKind.u8.wrap (((t0.getD t4.toNat 0).fdiv (2 ^ min ((4 : Int).toNat) IntKind.u8.bits)) + 1))) (
   brk (fits (2 + (sub ([48, 49, 50, 51, 52, 53, 54, 55, 56, 57, 97, 98, 99, 100, 101, 102] : List Int) ((t0.getD t4.toNat 0).fdiv (2 ^ min ((4 : Int).toNat) IntKind.u8.bits)) (IntKind.u8.wrap (((t0.getD t4.toNat 0).fdiv (2 ^ min ((4 : Int).toNat) IntKind.u8.bits)) + 1))).length)) (
   brk (bounds 16 (intBits .and .u8 (t0.getD t4.toNat 0) 15) (IntKind.u8.wrap ((intBits .and .u8 (t0.getD t4.toNat 0) 15) + 1))) (
   brk (fits ((([92, 120] : List Int) ++ (sub ([48, 49, 50, 51, 52, 53, 54, 55, 56, 57, 97, 98, 99, 100, 101, 102] : List Int) ((t0.getD t4.toNat 0).fdiv (2 ^ min ((4 : Int).toNat) IntKind.u8.bits)) (IntKind.u8.wrap (((t0.getD t4.toNat 0).fdiv (2 ^ min ((4 : Int).toNat) IntKind.u8.bits)) + 1)))).length + (sub ([48, 49, 50, 51, 52, 53, 54, 55, 56, 57, 97, 98, 99, 100, 101, 102] : List Int) (intBits .and .u8 (t0.getD t4.toNat 0) 15) (IntKind.u8.wrap ((intBits .and .u8 (t0.getD t4.toNat 0) 15) + 1))).length)) (
   (Bld.L7 (t3, (([92, 120] : List Int) ++ (sub ([48, 49, 50, 51, 52, 53, 54, 55, 56, 57, 97, 98, 99, 100, 101, 102] : List Int) ((t0.getD t4.toNat 0).fdiv (2 ^ min ((4 : Int).toNat) IntKind.u8.bits)) (IntKind.u8.wrap (((t0.getD t4.toNat 0).fdiv (2 ^ min ((4 : Int).toNat) IntKind.u8.bits)) + 1)))) ++ (sub ([48, 49, 50, 51, 52, 53, 54, 55, 56, 57, 97, 98, 99, 100, 101, 102] : List Int) (intBits .and .u8 (t0.getD t4.toNat 0) 15) (IntKind.u8.wrap ((intBits .and .u8 (t0.getD t4.toNat 0) 15) + 1))), ())).bind fun d48 =>
   D2 T t0 d48.2.1 (IntKind.i64.wrap (t4 + 1))) none) none) none) none) (
   (Bld.Q5 (t3, t0.getD t4.toNat 0, ())).bind fun d50 =>
   D2 T t0 d50.2.1 (IntKind.i64.wrap (t4 + 1)))))) none) (
 some (Sum.inl (t3, ())))
 := eL Tryz.func51 rfl (by kernel_rfl)
theorem aJ1 (T : S.Tab) (t0 : List b8.den × Unit) : at5 (S.step T) t0 =
 (aw3 T t0).bind fun d11 =>
 brk (!d11.1) (
 some (([] : List Int), aA4)) (
 (O8 T ([] : List Int) t0.1 (t0.1.length : Int) 0).bind (C3
  (fun y6 =>
  (Bld.au3 y6).bind fun d83 =>
  some (d83.1, aA4))))
 := eF Tryz.func25 (by kernel_rfl)
theorem av8 (T : S.Tab) (t3 : List Int) (t14 : List b8.den) (t15 : Int) (t16 : Int) : O8 (S.step T) t3 t14 t15 t16 =
 brk (decide (t16 < t15)) (
 brk (decide (0 ≤ t16) && decide (t16 < (t14.length : Int))) (
 (Lx.ax5 ((at_ (τ := b8) t14 t16).1, ())).bind fun d23 =>
 (Lx.ax5 ((at_ (τ := b8) t14 t16).2.1, ())).bind fun d27 =>
 (Lx.ax5 ((at_ (τ := b8) t14 t16).2.2.1, ())).bind fun d31 =>
 (Lx.ax5 ((at_ (τ := b8) t14 t16).2.2.2.1, ())).bind fun d35 =>
 (Lx.ax5 ((at_ (τ := b8) t14 t16).2.2.2.2.1, ())).bind fun d39 =>
 (Lx.Z8 ((at_ (τ := b8) t14 t16).2.2.2.2.2.1, 10, ())).bind fun d42 =>
 (an2 T (at_ (τ := b8) t14 t16).2.2.2.2.2.2.1).bind fun d45 =>
 (Lx.ax5 (((at_ (τ := b8) t14 t16).2.2.2.2.2.2.2.1.length : Int), ())).bind fun d50 =>
 brk (fits (([d23.1, d27.1, d31.1, d35.1, d39.1, d42.1, d45.1, d50.1] : List (List Int)).length + (at_ (τ := b8) t14 t16).2.2.2.2.2.2.2.1.length)) (
 (Lx.ax5 (((at_ (τ := b8) t14 t16).2.2.2.2.2.2.2.2.1.length : Int), ())).bind fun d61 =>
 brk (fits ((([d23.1, d27.1, d31.1, d35.1, d39.1, d42.1, d45.1, d50.1] : List (List Int)) ++ (at_ (τ := b8) t14 t16).2.2.2.2.2.2.2.1).length + ([d61.1] : List (List Int)).length)) (
 (M3 T t3 ((([d23.1, d27.1, d31.1, d35.1, d39.1, d42.1, d45.1, d50.1] : List (List Int)) ++ (at_ (τ := b8) t14 t16).2.2.2.2.2.2.2.1) ++ ([d61.1] : List (List Int))) t14 t15 t16 (at_ (τ := b8) t14 t16).2.2.2.2.2.2.2.2.1 ((at_ (τ := b8) t14 t16).2.2.2.2.2.2.2.2.1.length : Int) 0).bind (C3
  (fun y12 =>
  (Lx.ba7 (y12.2.1, ([32] : List Int), ())).bind fun d79 =>
  brk (fits (d79.1.length + 1)) (
  (Bld.L7 (y12.1, d79.1 ++ ([10] : List Int), ())).bind fun d81 =>
  O8 T d81.2.1 y12.2.2.1 y12.2.2.2.1 (IntKind.i64.wrap (y12.2.2.2.2.1 + 1))) none))) none) none) none) (
 some (Sum.inl (t3, ())))
 := eL Tryz.func25 rfl (by kernel_rfl)
theorem as6 (T : S.Tab) (t3 : List Int) (t7 : List (List Int)) (t14 : List b8.den) (t15 : Int) (t16 : Int) (t65 : List Int) (t66 : Int) (t67 : Int) : M3 (S.step T) t3 t7 t14 t15 t16 t65 t66 t67 =
 brk (decide (t67 < t66)) (
 brk (decide (0 ≤ t67) && decide (t67 < (t65.length : Int))) (
 (Lx.ax5 (t65.getD t67.toNat 0, ())).bind fun d74 =>
 brk (fits (t7.length + ([d74.1] : List (List Int)).length)) (
 M3 T t3 (t7 ++ ([d74.1] : List (List Int))) t14 t15 t16 t65 t66 (IntKind.i64.wrap (t67 + 1))) none) none) (
 some (Sum.inl (t3, t7, t14, t15, t16, ())))
 := eL Tryz.func25 rfl (by kernel_rfl)
theorem aH1 (T : S.Tab) (t0 : List (List Int)) (t1 : List (List Int)) : U7 (S.step T) t0 t1 =
 brk (!decide ((t0.length : Int) = (t1.length : Int))) (
 some (false, U9)) (
 (D5 T t0 t1 0).bind (K0
  (fun y4 =>
  some (y4.1, U9))
  (fun y4 =>
  some (true, U9))))
 := eF Tryz.func120 (by kernel_rfl)
theorem ad1 (T : S.Tab) (t0 : List (List Int)) (t1 : List (List Int)) (t5 : Int) : D5 (S.step T) t0 t1 t5 =
 brk (decide (t5 < (t0.length : Int))) (
 brk (decide (0 ≤ t5) && decide (t5 < (t0.length : Int))) (
 brk (decide (0 ≤ t5) && decide (t5 < (t1.length : Int))) (
 brk (!decide ((t0.getD t5.toNat []) = (t1.getD t5.toNat []))) (
  some (Sum.inl (false, ()))) (
  D5 T t0 t1 (IntKind.i64.wrap (t5 + 1)))) none) none) (
 some (Sum.inr (Sum.inl ())))
 := eL Tryz.func120 rfl (by kernel_rfl)
theorem aX6 (T : S.Tab) (t0 : List Int) (t1 : List Int) : af7 (S.step T) t0 t1 =
 brk (!decide ((t0.length : Int) = (t1.length : Int))) (
 some (false, ad7)) (
 (J8 T t0 t1 0).bind (K0
  (fun y4 =>
  some (y4.1, ad7))
  (fun y4 =>
  some (true, ad7))))
 := eF Tryz.func14 (by kernel_rfl)
theorem an7 (T : S.Tab) (t0 : List Int) (t1 : List Int) (t5 : Int) : J8 (S.step T) t0 t1 t5 =
 brk (decide (t5 < (t0.length : Int))) (
 brk (decide (0 ≤ t5) && decide (t5 < (t0.length : Int))) (
 brk (decide (0 ≤ t5) && decide (t5 < (t1.length : Int))) (
 brk (!decide (t0.getD t5.toNat 0 = t1.getD t5.toNat 0)) (
  some (Sum.inl (false, ()))) (
  J8 T t0 t1 (IntKind.i64.wrap (t5 + 1)))) none) none) (
 some (Sum.inr (Sum.inl ())))
 := eL Tryz.func14 rfl (by kernel_rfl)
theorem aU7 (T : S.Tab) (t0 : b8.den) (t1 : b8.den) : Z5 (S.step T) t0 t1 =
 brk (!decide (t0.1 = t1.1)) (
 some (false, A7)) (
 brk (!decide (t0.2.1 = t1.2.1)) (
  some (false, A7)) (
  brk (!decide (t0.2.2.1 = t1.2.2.1)) (
  some (false, A7)) (
  brk (!decide (t0.2.2.2.1 = t1.2.2.2.1)) (
   some (false, A7)) (
   brk (!decide (t0.2.2.2.2.1 = t1.2.2.2.2.1)) (
   some (false, A7)) (
   brk (!decide (t0.2.2.2.2.2.1 = t1.2.2.2.2.2.1)) (
    some (false, A7)) (
    brk (!decide (t0.2.2.2.2.2.2.1 = t1.2.2.2.2.2.2.1)) (
    some (false, A7)) (
    (U7 T t0.2.2.2.2.2.2.2.1 t1.2.2.2.2.2.2.2.1).bind fun d44 =>
    brk (!d44.1) (
     some (false, A7)) (
     (af7 T t0.2.2.2.2.2.2.2.2.1 t1.2.2.2.2.2.2.2.2.1).bind fun d50 =>
     brk (!d50.1) (
     some (false, A7)) (
     some (true, A7))))))))))
 := eF Tryz.func75 (by kernel_rfl)
theorem aR6 (T : S.Tab) (t0 : List b8.den) (t1 : List b8.den) : ab5 (S.step T) t0 t1 =
 brk (!decide ((t0.length : Int) = (t1.length : Int))) (
 some (false, aa6)) (
 (I1 T t0 t1 0).bind (K0
  (fun y4 =>
  some (y4.1, aa6))
  (fun y4 =>
  some (true, aa6))))
 := eF Tryz.func42 (by kernel_rfl)
theorem ah3 (T : S.Tab) (t0 : List b8.den) (t1 : List b8.den) (t5 : Int) : I1 (S.step T) t0 t1 t5 =
 brk (decide (t5 < (t0.length : Int))) (
 brk (decide (0 ≤ t5) && decide (t5 < (t0.length : Int))) (
 brk (decide (0 ≤ t5) && decide (t5 < (t1.length : Int))) (
 (Z5 T (at_ (τ := b8) t0 t5) (at_ (τ := b8) t1 t5)).bind fun d25 =>
 brk (!d25.1) (
  some (Sum.inl (false, ()))) (
  I1 T t0 t1 (IntKind.i64.wrap (t5 + 1)))) none) none) (
 some (Sum.inr (Sum.inl ())))
 := eL Tryz.func42 rfl (by kernel_rfl)
theorem aX7 (T : S.Tab) (t0 : List b8.den × Unit) (t1 : List b8.den × Unit) : ar4 (S.step T) t0 t1 =
 (ab5 T t0.1 t1.1).bind fun d9 =>
 brk (!d9.1) (
 some (false, ao6)) (
 some (true, ao6))
 := eF Tryz.func15 (by kernel_rfl)
theorem af8 (T : S.Tab) (t0 : List b8.den × Unit) : V0 (S.step T) t0 =
 (aq9 T t0 1048576).bind fun d9 =>
 brk (decide (d9.1 < 0)) (
 some (true, M6)) (
 (Z7 T t0).bind fun d13 =>
 (aw1 T d13.1).bind fun d14 =>
 (Z7 T t0).bind fun d16 =>
 ((at5 T d16.1).map fun y => (y.1, (d16.1, ()))).bind fun d18 =>
 brk (!decide (d18.1 = d14.1)) (
  some (false, M6)) (
  (Z7 T t0).bind fun d24 =>
  ((ar4 T d18.2.1 d24.1).map fun y => (y.1, (d18.2.1, d24.1, ()))).bind fun d25 =>
  brk (!d25.1) (
  some (false, M6)) (
  some (true, M6))))
 := eF Tryz.func5 (by kernel_rfl)
end Go.Abs.D
end

section
namespace Go.Proofs.YtnoddjddkbhnbaaGreatDoor
open Go.Abs
set_option maxRecDepth 100000 in
theorem bO1 {W : World} (h : laidMetH Tryz.prog Rows.fnExactDumpRow.laid W) : R5 Abs.D.S.glob (snap W) := by
 rw [MakeChecks.laidMetH_plain _ _ _ (by kernel_rfl)] at h
 obtain ⟨ps, hl, _⟩ := h
 obtain ⟨_, _, _, _, _, _, _, _, _, _, hl, _⟩ := hl
 obtain ⟨_, _, _, _, _, _, _, _, _, _, hl, _⟩ := hl
 obtain ⟨g2, t2, c2, f2, p2, q2, a2, b2, v2, d2, hl, _⟩ := hl
 obtain ⟨g3, t3, c3, f3, p3, q3, a3, b3, v3, d3, hl, _⟩ := hl
 obtain ⟨_, _, _, _, _, _, _, _, _, _, hl, _⟩ := hl
 obtain ⟨g5, t5, c5, f5, p5, q5, a5, b5, v5, d5, hl, _⟩ := hl
 obtain ⟨g6, t6, c6, f6, p6, q6, a6, b6, v6, d6, hl, _⟩ := hl
 obtain ⟨g7, t7, c7, f7, p7, q7, a7, b7, v7, d7, hl, _⟩ := hl
 have h5 := a66 (g' := 2) (τ := .sl .str) (x := Lx.words) (k := 3) a5 b5 v5 d5 (by kernel_rfl) (by kernel_rfl) rfl bB6 (by kernel_rfl)
 have h6 := a66 (g' := 3) (τ := .sl .str) (x := Lx.ag1) (k := 3) a6 b6 v6 d6 (by kernel_rfl) (by kernel_rfl) rfl bB6 (by kernel_rfl)
 have h7 := a66 (g' := 4) (τ := .sl .str) (x := Lx.aA2) (k := 3) a7 b7 v7 d7 (by kernel_rfl) (by kernel_rfl) rfl bB6 (by kernel_rfl)
 have h3 := bJ4 (g' := 8) a3 b3 v3 d3 (by kernel_rfl) (by kernel_rfl)
 have h2 := bC1 (g' := 1) (k := .u64) (m := 20) (e := 152) a2 b2 v2 d2 (by kernel_rfl) Lib.pow10Tab (by kernel_rfl) (by kernel_rfl) (by kernel_rfl) (by kernel_rfl) (by kernel_rfl)
 intro k cs hk
 have hk : (bif Nat.beq k 2 then some [.v (.sl .str) Lx.words] else bif Nat.beq k 3 then some [.v (.sl .str) Lx.ag1] else bif Nat.beq k 4 then some [.v (.sl .str) Lx.aA2] else Lx.tables k) = some cs := hk
 cases e5 : Nat.beq k 2 with
 | true => rw [e5] at hk; have := Nat.eq_of_beq_eq_true e5; subst this; injection hk with hk; subst hk; exact h5
 | false =>
 rw [e5] at hk
 cases e6 : Nat.beq k 3 with
 | true => rw [e6] at hk; have := Nat.eq_of_beq_eq_true e6; subst this; injection hk with hk; subst hk; exact h6
 | false =>
 rw [e6] at hk
 cases e7 : Nat.beq k 4 with
 | true => rw [e7] at hk; have := Nat.eq_of_beq_eq_true e7; subst this; injection hk with hk; subst hk; exact h7
 | false =>
 rw [e7] at hk
 have hk : Lx.tables k = some cs := hk
 unfold Lx.tables at hk
 cases e2 : Nat.beq k 1 with
 | true => rw [e2] at hk; have := Nat.eq_of_beq_eq_true e2; subst this; injection hk with hk; subst hk; exact h2
 | false =>
 rw [e2] at hk
 cases e3 : Nat.beq k 8 with
 | true => rw [e3] at hk; have := Nat.eq_of_beq_eq_true e3; subst this; injection hk with hk; subst hk; exact h3
 | false =>
 rw [e3] at hk
 cases hk
end Go.Proofs.YtnoddjddkbhnbaaGreatDoor
end

section
namespace Go.Abs.Bld
open Go.Proofs
theorem bn8 : ∀ {l : List (Nat × Nat × Nat)} {a b c : Nat}, bC0 l a b c = true → (a, b, c) ∈ l
 | t :: r, a, b, c, h => by
  simp only [bC0, Bool.or_eq_true, Bool.and_eq_true] at h
  rcases h with h | h
  ·rw [← beq_eq h.1.1, ← beq_eq h.1.2, ← beq_eq h.2]; exact List.mem_cons_self ..
  ·exact List.mem_cons_of_mem _ (bn8 h)
theorem b05 : ∀ t ∈ places, (Nat.ble (t.2.1 + 2) t.2.2 && liesAt Tryz.prog Tryz.prog.depth t.1 (t.2.2 / Tryz.prog.cellsOf t.1) t.2.1 72 1) = true := by
 have : (places.all fun t => Nat.ble (t.2.1 + 2) t.2.2 && liesAt Tryz.prog Tryz.prog.depth t.1 (t.2.2 / Tryz.prog.cellsOf t.1) t.2.1 72 1) = true := by kernel_rfl
 exact List.all_eq_true.1 this
set_option maxHeartbeats 1000000 in
set_option maxRecDepth 100000 in
theorem aW1 (b o : Nat) (w : World) (h0 : w.cell? ⟨b, o, none⟩ = some (.pointer (some ⟨b, o, none⟩))) :
  Calls Tryz.prog 82 #[.pointer (some ⟨b, o, none⟩)] w fun e w' => e = .returned (.tuple #[]) ∧ w' = w := by
 obtain ⟨j, hj, _⟩ := Option.map_eq_some_iff.1 (show (Tryz.prog.info? 72).map (·.size) = some 2 by kernel_rfl)
 go_enter Tryz.func82, Tryz.ntmps82
 go_wp2
 rw [Lib.run_neq_ptr_same w _ (by kernel_rfl) hj]
 go_wp2
 go_end0
 exact ⟨rfl, rfl⟩
set_option maxHeartbeats 1000000 in
set_option maxRecDepth 100000 in
theorem aO1 (b o ty n : Nat) (w : World) (h0 : w.cell? ⟨b, o, none⟩ = some (.pointer none)) (hsh : w.shape? b = some (ty, n)) (hfz : w.frozen? ⟨b, o, none⟩ = false) (hok : bC0 places ty o n = true) :
  Calls Tryz.prog 82 #[.pointer (some ⟨b, o, none⟩)] w fun e w' => e = .returned (.tuple #[]) ∧ w' = w.setCell ⟨b, o, none⟩ (.pointer (some ⟨b, o, none⟩)) := by
 obtain ⟨j, hj, hjs⟩ := Option.map_eq_some_iff.1 (show (Tryz.prog.info? 72).map (·.size) = some 2 by kernel_rfl)
 have hl := b05 _ (bn8 hok)
 simp only [Bool.and_eq_true] at hl
 have hlt : o < n := by have := Nat.le_of_ble_eq_true hl.1; omega
 go_enter Tryz.func82, Tryz.ntmps82
 go_wp2
 rw [Lib.run_to_unsafe w ⟨b, o, none⟩ (show Tryz.prog.underlying 70 = some (.pointer 72) by kernel_rfl) (show Tryz.prog.underlying 157 = some .unsafePointer by kernel_rfl) hj (by rw [hjs]; decide) hsh hlt]
 simp only [Result.andThen]
 rw [Oper.upon_value]
 go_wp2
 rw [run_callFunc_extern Tryz.func126 (by kernel_rfl) (by kernel_rfl) (by kernel_rfl) (e := Extern.AbiNoEscape.same) (by kernel_rfl)]
 rw [Lib.run_noEscape]
 simp only [Result.andThen]
 rw [Oper.upon_value]
 go_wp2
 rw [Lib.run_from_unsafe w ⟨b, o, none⟩ (show Tryz.prog.underlying 157 = some .unsafePointer by kernel_rfl) (show Tryz.prog.underlying 70 = some (.pointer 72) by kernel_rfl) hj hsh hl.2]
 simp only [Result.andThen]
 rw [Oper.upon_value]
 go_wp2
 go_end0
 exact ⟨rfl, rfl⟩
end Go.Abs.Bld
end

section
namespace Go.Abs.Bld
open Go.Proofs
theorem bc9 {w : World} {b k : Nat} {arr : Array Value} {ty : TypeId} {v : Value} (h : w.heap[b]? = some (.cells arr ty (0, 0))) (hv : arr[k]? = some v) : w.setCell ⟨b, k, none⟩ v = w := by
 have : w.heap.modify b (fun | .cells c elem frozen => .cells (c.setIfInBounds k v) elem frozen | o => o) = w.heap := by
  apply Array.ext_getElem?
  intro i
  rw [Array.getElem?_modify]
  by_cases e : b = i
  ·subst e
   rw [if_pos rfl, h]
   simp only [Option.map_some]
   have : arr.setIfInBounds k v = arr := by
    apply Array.ext_getElem?
    intro j
    rw [Array.getElem?_setIfInBounds]
    by_cases e : k = j
    ·subst e
     rw [if_pos rfl, hv]
     split
     ·rfl
     ·rename_i hlt
      rw [Array.getElem?_eq_none (by omega)] at hv; cases hv
    ·rw [if_neg e]
   rw [this]
  ·rw [if_neg e]
 show { w with heap := _ } = w
 exact congrArg (fun h => { w with heap := h }) this
theorem ab7 {arr : Array Value} {o : Nat} {x y : Value} (h : (arr.toList.drop o).take 2 = [x, y]) : arr[o]? = some x ∧ arr[o + 1]? = some y := by
 have h0 := congrArg (·[0]?) h
 have h1 := congrArg (·[1]?) h
 simp only [List.getElem?_take, List.getElem?_drop] at h0 h1
 simp at h0 h1
 exact ⟨h0, h1⟩
theorem bg0 {imm : Rd} {b o ty : Nat} {arr : Array Value} {w : World} {xs : List Int} {nb : List Nat} (ha : w.heap[b]? = some (.cells arr ty (0, 0))) (hok : bC0 places ty o arr.size = true) (hB : av9 imm w (b, o) xs ((arr.toList.drop o).take 2) nb) :
  Calls Tryz.prog 82 #[.pointer (some ⟨b, o, none⟩)] w fun e w' => e = .returned (.tuple #[]) ∧ w' = w.setCell ⟨b, o, none⟩ (.pointer (some ⟨b, o, none⟩)) := by
 rcases hB with ⟨h1, h2, h3⟩ | ⟨u2, h1, h2, h4⟩
 ·obtain ⟨c0, c1⟩ := ab7 h1
  exact aO1 b o ty arr.size w (by rw [Lib.cell_of_heap ha, c0]) (by simp [World.shape?, ha]) (Lib.frozen_of_heap ha o) hok
 ·obtain ⟨c0, c1⟩ := ab7 h1
  refine (aW1 b o w (by rw [Lib.cell_of_heap ha, c0])).mono ?_
  rintro e w' ⟨rfl, rfl⟩
  exact ⟨rfl, (bc9 ha c0).symm⟩
noncomputable def a64 : TypeInfo := match Tryz.prog.info? 5 with
 | some i => i
 | none => default
theorem aQ3 : Tryz.prog.info? 5 = some a64 := by kernel_rfl
def bn9 (imm : Rd) (w1 : World) (nb : List Nat) (xs : List Int) (v : Value) (w' : World) : Prop := ∃ nb', After imm w1 nb imm w' nb' ∧ OwnAt imm w' false (.int .u8) xs [v] nb' ∧ ∀ b ∈ nb', ∃ arr, w'.heap[b]? = some (.cells arr Z0 (0, 0))
def Written (imm : Rd) (w : World) (b o ty : Nat) (arr : Array Value) (nb : List Nat) (xs : List Int) (w' : World) : Prop := ∃ nb' arr' v, After imm w (b :: nb) imm w' (b :: nb') ∧ w'.heap[b]? = some (.cells arr' ty (0, 0)) ∧
 arr'.toList = arr.toList.take o ++ [.pointer (some ⟨b, o, none⟩), v] ++ arr.toList.drop (o + 2) ∧ OwnAt imm w' false (.int .u8) xs [v] nb' ∧ ∀ b ∈ nb', ∃ arr, w'.heap[b]? = some (.cells arr Z0 (0, 0))
set_option maxHeartbeats 2000000 in
set_option maxRecDepth 100000 in
theorem bx1 {imm : Rd} {b o ty : Nat} {arr : Array Value} {w : World} {xs : List Int} {nb : List Nat} (c : Int) (ha : w.heap[b]? = some (.cells arr ty (0, 0))) (hle : o + 2 ≤ arr.size) (hok : bC0 places ty o arr.size = true)
  (hB : av9 imm w (b, o) xs ((arr.toList.drop o).take 2) nb) (hn : (b :: nb).Nodup) (hi : ∀ y ∈ b :: nb, imm y = none ∧ y < w.heap.size) (hc : ∀ b L, imm b = some L → ∃ arr ty fr, w.heap[b]? = some (.cells arr ty fr) ∧ arr.toList = L)
  (hfit : xs.length + 1 ≤ 1099511627776) :
  Calls Tryz.prog 80 #[.pointer (some ⟨b, o, none⟩), .int .u8 c] w fun e w' => e = .returned .nilIface ∧ Written imm w b o ty arr nb (xs ++ [c]) w' := by
 go_enter Tryz.func80, Tryz.ntmps80
 go_wp2_with (go_at_call 82; refine (bg0 ha hok hB).mono ?_)
 rintro e w1 ⟨rfl, e1⟩
 obtain ⟨u, hu, hO, hty⟩ : ∃ u, arr[o + 1]? = some u ∧ OwnAt imm w false (.int .u8) xs [u] nb ∧ ∀ b ∈ nb, ∃ arr, w.heap[b]? = some (.cells arr Z0 (0, 0)) := by
  rcases hB with ⟨h1, h2, h3⟩ | ⟨u2, h1, h2, h3⟩
  ·exact ⟨_, (ab7 h1).2, .inl ⟨rfl, h2, h3⟩, fun y hy => by rw [h3] at hy; simp at hy⟩
  ·exact ⟨_, (ab7 h1).2, h2, h3⟩
 obtain ⟨s1, s2, s3⟩ := Z9 (k := o) ha (.pointer (some ⟨b, o, none⟩))
 rw [← e1] at s1 s2 s3
 have hnb := List.nodup_cons.1 hn
 have hO1 : OwnAt imm w1 false (.int .u8) xs [u] nb := hO.other fun y hy => s2 y fun e => hnb.1 (e ▸ hy)
 have hty1 : ∀ y ∈ nb, ∃ arr, w1.heap[y]? = some (.cells arr Z0 (0, 0)) := fun y hy => by
  obtain ⟨a, k⟩ := hty y hy
  exact ⟨a, by rw [s2 y fun e => hnb.1 (e ▸ hy)]; exact k⟩
 have hi1 : ∀ y ∈ nb, imm y = none ∧ y < w1.heap.size := fun y hy => ⟨(hi y (List.mem_cons_of_mem _ hy)).1, by rw [s3]; exact (hi y (List.mem_cons_of_mem _ hy)).2⟩
 have c1 : w1.cell? ⟨b, o + 1, none⟩ = some u := by
  rw [Lib.cell_of_heap s1, Array.getElem?_setIfInBounds, if_neg (by omega)]; exact hu
 have hc1 : ∀ b L, imm b = some L → ∃ arr ty fr, w1.heap[b]? = some (.cells arr ty fr) ∧ arr.toList = L := fun y L h => by
  rw [s2 y fun e => by rw [e, (hi b (List.mem_cons_self ..)).1] at h; cases h]; exact hc y L h
 have hnew : (w1.alloc (.cells #[.int .u8 c] 5)).heap[w1.heap.size]? = some (.cells #[.int .u8 c] 5 (0, 0)) := by
  show (w1.heap.push _)[w1.heap.size]? = _
  rw [Array.getElem?_push, if_pos rfl]
 have hold : ∀ {y : Nat} {x : Go.Obj}, w1.heap[y]? = some x → (w1.alloc (.cells #[.int .u8 c] 5)).heap[y]? = some x := fun {y x} k => by
  have := lt_of_heap k
  show (w1.heap.push _)[y]? = _
  rw [Array.getElem?_push, if_neg (by omega)]; exact k
 have hr : ∃ v w', (Builtin.append_ #[68, 68] 68 #[u, .slice (some ⟨w1.heap.size, 0, none⟩) 1 1]).run Tryz.prog (w1.alloc (.cells #[.int .u8 c] 5)) = .ok v w' ∧ bn9 imm w1 nb (xs ++ [c]) v w' := by
  obtain ⟨v, w', nb', h1, h2, h3, h4⟩ := be5 (P := Tryz.prog) (t := 68) (tx := 68) (ty := 68) (e := 5) (ys := [c]) (i := a64) (z := .int .u8 0) (by kernel_rfl) aQ3 (by kernel_rfl) (by kernel_rfl) (Nat.le_of_ble_eq_true (by kernel_rfl)) rfl (hO1.alloc (fun y hy => (hi1 y hy).2) (.cells #[.int .u8 c] 5))
   (Src.ofSlice (P := Tryz.prog) (w := w1.alloc (.cells #[.int .u8 c] 5)) (e' := 5) (by kernel_rfl) ⟨w1.heap.size, 0, none⟩ 1 1 [.int .u8 c] rfl (fun j x hj => by
    rw [Addr.add_lit, Lib.cell_of_heap hnew]
    match j, hj with
    | 0, hj => simpa using hj) (fun x hx => by
    have : x = .int .u8 c := by simpa using hx
    subst this; rfl)) hfit (fun y L h => by
    obtain ⟨a, t, f, k1, k2⟩ := hc1 y L h
    exact ⟨a, t, f, hold k1, k2⟩) (fun y hy => ⟨(hi1 y hy).1, by
     have := (hi1 y hy).2
     show y < (w1.heap.push _).size
     simp; omega⟩) (fun y hy => by
    obtain ⟨a, k⟩ := hty1 y hy
    exact ⟨a, hold k⟩)
  exact ⟨v, w', h1, nb', h2.bO0 (fun y L h => by obtain ⟨a, t, f, k1, k2⟩ := hc1 y L h; exact lt_of_heap k1), h3, h4⟩
 have e1' : ∃ _ : True, w1 = w.setCell ⟨b, o, none⟩ (.pointer (some ⟨b, o, none⟩)) ∧ w1.heap.size = w.heap.size := ⟨trivial, e1, s3⟩
 clear e1 s3
 go_wp2_with (at_builtin; refine am4 rfl _ _ 68 68 rfl _ _ rfl rfl _ hr ?_)
 rintro v w2 ⟨nb1, A, hO2, hty2⟩
 obtain ⟨_, e1, s3⟩ := e1'
 obtain ⟨B1, B2, arr', B3, B4, B5, B6⟩ := bd4 ha hle hn hi hc e1 A hO2
 have hty3 : ∀ y ∈ nb1, ∃ arr, (w2.setCell ⟨b, o + 1, none⟩ v).heap[y]? = some (.cells arr Z0 (0, 0)) := fun y hy => by
  obtain ⟨a, k⟩ := hty2 y hy
  exact ⟨a, by rw [(Z9 (k := o + 1) B6 v).2.1 y fun e => B2 (e ▸ hy)]; exact k⟩
 obtain ⟨ao, n', cap, rfl⟩ : ∃ ao n' cap, v = .slice ao n' cap := by
  rcases hO2 with ⟨h1, _⟩ | ⟨b', cap, arr', ty', nb', h1, _⟩
  ·injection h1 with h1 _; exact ⟨_, _, _, h1⟩
  ·injection h1 with h1 _; exact ⟨_, _, _, h1⟩
 have d1 : w2.cell? ⟨b, o + 1, none⟩ = some u := by
  rw [Lib.cell_of_heap B6, Array.getElem?_setIfInBounds, if_neg (by omega)]; exact hu
 have f1 : w2.frozen? ⟨b, o + 1, none⟩ = false := Lib.frozen_of_heap B6 (o + 1)
 clear e1
 go_wp2
 go_ret
 exact ⟨rfl, nb1, arr', _, B1, B3, B4, B5, hty3⟩
set_option maxHeartbeats 2000000 in
set_option maxRecDepth 100000 in
theorem writeString {imm : Rd} {b o ty : Nat} {arr : Array Value} {w : World} {xs : List Int} {nb : List Nat} (s : ByteArray) (ha : w.heap[b]? = some (.cells arr ty (0, 0))) (hle : o + 2 ≤ arr.size) (hok : bC0 places ty o arr.size = true)
  (hB : av9 imm w (b, o) xs ((arr.toList.drop o).take 2) nb) (hn : (b :: nb).Nodup) (hi : ∀ y ∈ b :: nb, imm y = none ∧ y < w.heap.size) (hc : ∀ b L, imm b = some L → ∃ arr ty fr, w.heap[b]? = some (.cells arr ty fr) ∧ arr.toList = L)
  (hfit : xs.length + (bytesOf s).length ≤ 1099511627776) :
  Calls Tryz.prog 52 #[.pointer (some ⟨b, o, none⟩), .string s] w fun e w' => e = .returned (.tuple #[.int .i64 s.size, .nilIface]) ∧ Written imm w b o ty arr nb (xs ++ bytesOf s) w' := by
 go_enter Tryz.func52, Tryz.ntmps52
 go_wp2_with (go_at_call 82; refine (bg0 ha hok hB).mono ?_)
 rintro e w1 ⟨rfl, e1⟩
 obtain ⟨u, hu, hO, hty⟩ : ∃ u, arr[o + 1]? = some u ∧ OwnAt imm w false (.int .u8) xs [u] nb ∧ ∀ b ∈ nb, ∃ arr, w.heap[b]? = some (.cells arr Z0 (0, 0)) := by
  rcases hB with ⟨h1, h2, h3⟩ | ⟨u2, h1, h2, h3⟩
  ·exact ⟨_, (ab7 h1).2, .inl ⟨rfl, h2, h3⟩, fun y hy => by rw [h3] at hy; simp at hy⟩
  ·exact ⟨_, (ab7 h1).2, h2, h3⟩
 obtain ⟨s1, s2, s3⟩ := Z9 (k := o) ha (.pointer (some ⟨b, o, none⟩))
 rw [← e1] at s1 s2 s3
 have hnb := List.nodup_cons.1 hn
 have hO1 : OwnAt imm w1 false (.int .u8) xs [u] nb := hO.other fun y hy => s2 y fun e => hnb.1 (e ▸ hy)
 have hty1 : ∀ y ∈ nb, ∃ arr, w1.heap[y]? = some (.cells arr Z0 (0, 0)) := fun y hy => by
  obtain ⟨a, k⟩ := hty y hy
  exact ⟨a, by rw [s2 y fun e => hnb.1 (e ▸ hy)]; exact k⟩
 have hi1 : ∀ y ∈ nb, imm y = none ∧ y < w1.heap.size := fun y hy => ⟨(hi y (List.mem_cons_of_mem _ hy)).1, by rw [s3]; exact (hi y (List.mem_cons_of_mem _ hy)).2⟩
 have c1 : w1.cell? ⟨b, o + 1, none⟩ = some u := by
  rw [Lib.cell_of_heap s1, Array.getElem?_setIfInBounds, if_neg (by omega)]; exact hu
 have hc1 : ∀ b L, imm b = some L → ∃ arr ty fr, w1.heap[b]? = some (.cells arr ty fr) ∧ arr.toList = L := fun y L h => by
  rw [s2 y fun e => by rw [e, (hi b (List.mem_cons_self ..)).1] at h; cases h]; exact hc y L h
 have hr : ∃ v w', (Builtin.append_ #[68, 9] 68 #[u, .string s]).run Tryz.prog w1 = .ok v w' ∧ bn9 imm w1 nb (xs ++ bytesOf s) v w' := by
  have hb : Go.byteCells s = (bytesOf s).map (Value.int .u8) := by
   unfold Go.byteCells bytesOf
   rw [List.map_map]
   rfl
  have hs : Src Tryz.prog 1 9 (.string s) (bytesOf s).length ((bytesOf s).map (Value.int .u8)) w1 := by
   rw [← hb, E3]
   exact Src.ofString w1 (by kernel_rfl) s
  obtain ⟨v, w', nb', h1, h2, h3, h4⟩ := be5 (P := Tryz.prog) (t := 68) (tx := 9) (ty := 68) (e := 5) (ys := bytesOf s) (i := a64) (z := .int .u8 0) (by kernel_rfl) aQ3 (by kernel_rfl) (by kernel_rfl) (Nat.le_of_ble_eq_true (by kernel_rfl)) rfl hO1 hs hfit hc1 hi1 hty1
  exact ⟨v, w', h1, nb', h2, h3, h4⟩
 have e1' : ∃ _ : True, w1 = w.setCell ⟨b, o, none⟩ (.pointer (some ⟨b, o, none⟩)) ∧ w1.heap.size = w.heap.size := ⟨trivial, e1, s3⟩
 clear e1 s3
 go_wp2_with (at_builtin; refine am4 rfl _ _ 68 9 rfl _ _ rfl rfl _ hr ?_)
 rintro v w2 ⟨nb1, A, hO2, hty2⟩
 obtain ⟨_, e1, s3⟩ := e1'
 obtain ⟨B1, B2, arr', B3, B4, B5, B6⟩ := bd4 ha hle hn hi hc e1 A hO2
 have hty3 : ∀ y ∈ nb1, ∃ arr, (w2.setCell ⟨b, o + 1, none⟩ v).heap[y]? = some (.cells arr Z0 (0, 0)) := fun y hy => by
  obtain ⟨a, k⟩ := hty2 y hy
  exact ⟨a, by rw [(Z9 (k := o + 1) B6 v).2.1 y fun e => B2 (e ▸ hy)]; exact k⟩
 obtain ⟨ao, n', cap, rfl⟩ : ∃ ao n' cap, v = .slice ao n' cap := by
  rcases hO2 with ⟨h1, _⟩ | ⟨b', cap, arr', ty', nb', h1, _⟩
  ·injection h1 with h1 _; exact ⟨_, _, _, h1⟩
  ·injection h1 with h1 _; exact ⟨_, _, _, h1⟩
 have d1 : w2.cell? ⟨b, o + 1, none⟩ = some u := by
  rw [Lib.cell_of_heap B6, Array.getElem?_setIfInBounds, if_neg (by omega)]; exact hu
 have f1 : w2.frozen? ⟨b, o + 1, none⟩ = false := Lib.frozen_of_heap B6 (o + 1)
 clear e1
 go_wp2
 go_ret2
 exact ⟨rfl, nb1, arr', _, B1, B3, B4, B5, hty3⟩
end Go.Abs.Bld
end

section
set_option maxRecDepth 100000
namespace Go.Abs.Bld
open Go.Proofs
theorem aY9 {P : Program} {w : World} : ∀ (xs : List Int) (a : Addr) (acc : ByteArray), (∀ j x, xs[j]? = some x → w.cell? (a.add j) = some (.int .u8 x)) →
  ∃ st, (loadBytes a acc xs.length).run P w = .ok st w ∧ bytesOf st = bytesOf acc ++ xs.map byte
 | [], a, acc, _ => ⟨acc, by simp [loadBytes], by simp⟩
 | x :: xs, a, acc, h => by
  have h0 : w.cell? a = some (.int .u8 x) := by
   have := h 0 x rfl
   simpa [Addr.add] using this
  obtain ⟨st, h1, h2⟩ := aY9 (P := P) (w := w) xs (a.add 1) (acc.push x.toNat.toUInt8) (fun j y hy => by
   have := h (j + 1) y (by simpa using hy)
   have e : (a.add 1).add j = a.add (j + 1) := by
    unfold Addr.add
    by_cases hj : j = 0
    ·subst hj; simp
    ·simp [hj]; omega
   rw [e]; exact this)
  refine ⟨st, ?_, ?_⟩
  ·simp only [List.length_cons, loadBytes, Sem.run_bind, run_load, h0, Result.andThen]
   exact h1
  ·rw [h2]
   have : bytesOf (acc.push x.toNat.toUInt8) = bytesOf acc ++ [byte x] := by
    unfold bytesOf byte
    rw [ByteArray.data_push]
    simp
   rw [this]
   simp
theorem a43 {P : Program} {w : World} (pt it ty e : TypeId) (hp : P.underlying pt = some (.pointer e)) (hc : P.cellsOf e = 1) (g cells : Nat) (hsh : w.shape? g = some (e, cells)) (xs : List Int) (h0 : xs ≠ []) (hn : xs.length ≤ cells) (h63 : xs.length ≤ 9223372036854775807)
  (hcell : ∀ j x, xs[j]? = some x → w.cell? ((⟨g, 0, none⟩ : Addr).add j) = some (.int .u8 x)) :
  ∃ st, (Builtin.unsafeString_ #[pt, it] ty #[.pointer (some ⟨g, 0, none⟩), .int .i64 xs.length]).run P w = .ok (.string st) (w.freeze ⟨g, 0, none⟩ xs.length) ∧ bytesOf st = xs.map byte := by
 have hl : xs.length ≠ 0 := by simpa using h0
 obtain ⟨st, hlb, hst⟩ := aY9 (P := P) (w := w) xs ⟨g, 0, none⟩ .empty hcell
 refine ⟨st, ?_, by rw [hst]; simp [bytesOf]⟩
 have hlies := Lib.liesAt_bytes (P := P) hc (cells / P.cellsOf e) xs.length (by rw [hc]; simpa using hn)
 have h63' : ¬ (9223372036854775807 : Int) < (xs.length : Int) := by omega
 have hdef : Builtin.unsafeString_ #[pt, it] ty #[.pointer (some ⟨g, 0, none⟩), .int .i64 xs.length] =
   (do
    let n ← Go.asInt (.int .i64 xs.length)
    if n < 0 then runtimePanic (.error "unsafe.String: len out of range")
    if n > IntKind.i64.max then unsupported (.unsafePointer "String: a length above the largest int")
    if n = 0 then pure (.string .empty)
    else if ← variablesAt ⟨g, 0, none⟩ (← elemOf pt) n.toNat then do
     let s ← loadBytes ⟨g, 0, none⟩ .empty n.toNat
     freeze ⟨g, 0, none⟩ n.toNat
     pure (.string s)
    else unsupported (.unsafePointer "String: not so many bytes at ptr")) := rfl
 rw [hdef]
 have hmax : IntKind.i64.max = 9223372036854775807 := rfl
 have hneg : ¬ (xs.length : Int) < 0 := by omega
 simp [Go.asInt, asIntOf, hmax, h63', hneg, hl, variablesAt, hsh, elemOf, run_underlying hp, hlies, hlb]
structure Read (imm : Rd) (w : World) (nb : List Nat) (w' : World) : Prop where
 other : ∀ b, b < w.heap.size → b ∉ nb → w'.heap[b]? = w.heap[b]?
 size : w.heap.size ≤ w'.heap.size
 os : w'.os = w.os
 tape : w'.tape = w.tape
 output : w'.output = w.output
theorem Read.after {imm : Rd} {w w' : World} {nb : List Nat} (h : Read imm w nb w') (hn : ∀ y ∈ nb, imm y = none ∧ y < w.heap.size) (hc : ∀ b L, imm b = some L → ∃ arr ty fr, w.heap[b]? = some (.cells arr ty fr) ∧ arr.toList = L) : After imm w nb imm w' [] :=
 ⟨fun _ _ h => h, fun b L k => by
  obtain ⟨a, t, f, k1, k2⟩ := hc b L k
  refine ⟨a, t, f, ?_, k2⟩
  rw [h.other b (lt_of_heap k1) fun hm => by rw [(hn b hm).1] at k; cases k]
  exact k1, fun b h1 h2 h3 => ⟨h.other b h1 h2, h3⟩, List.nodup_nil, (fun b hb => by simp at hb), h.size, h.os, h.tape, h.output, fun b L k => by
  obtain ⟨a, t, f, k1, k2⟩ := hc b L k
  exact h.other b (lt_of_heap k1) fun hm => by rw [(hn b hm).1] at k; cases k⟩
theorem Read.drew (imm : Rd) (w : World) (nb : List Nat) : Read imm w nb w.drew := ⟨fun _ _ _ => rfl, Nat.le_refl _, rfl, rfl, rfl⟩
theorem Read.bB0 (imm : Rd) (w : World) (nb : List Nat) (o : Go.Obj) : Read imm w nb (w.drew.alloc o) :=
 ⟨fun b h _ => by
  show (w.heap.push _)[b]? = _
  rw [Array.getElem?_push, if_neg (by omega)], by show _ ≤ (w.heap.push _).size; simp, rfl, rfl, rfl⟩
theorem Read.freeze {imm : Rd} {w : World} {nb : List Nat} {g : Nat} (hg : g ∈ nb) (n : Nat) : Read imm w nb (w.drew.freeze ⟨g, 0, none⟩ n) := by
 unfold World.freeze
 split
 ·exact Read.drew imm w nb
 ·refine ⟨fun b _ hb => ?_, by simp, rfl, rfl, rfl⟩
  simp only [Array.getElem?_modify]
  rw [if_neg (fun e : g = b => hb (e ▸ hg))]
  rfl
set_option maxHeartbeats 2000000 in
set_option maxRecDepth 100000 in
theorem string {imm : Rd} {b o ty : Nat} {arr : Array Value} {w : World} {xs : List Int} {nb : List Nat} (ha : w.heap[b]? = some (.cells arr ty (0, 0))) (hle : o + 2 ≤ arr.size)
  (hB : av9 imm w (b, o) xs ((arr.toList.drop o).take 2) nb) (hfit : xs.length ≤ 1099511627776) :
  Calls Tryz.prog 54 #[.pointer (some ⟨b, o, none⟩)] w fun e w' => ∃ st, e = .returned (.string st) ∧ bytesOf st = xs.map byte ∧ Read imm w nb w' := by
 obtain ⟨u, hu, hO, hty⟩ : ∃ u, arr[o + 1]? = some u ∧ OwnAt imm w false (.int .u8) xs [u] nb ∧ ∀ b ∈ nb, ∃ arr, w.heap[b]? = some (.cells arr Z0 (0, 0)) := by
  rcases hB with ⟨h1, h2, h3⟩ | ⟨u2, h1, h2, h3⟩
  ·exact ⟨_, (ab7 h1).2, .inl ⟨rfl, h2, h3⟩, fun y hy => by rw [h3] at hy; simp at hy⟩
  ·exact ⟨_, (ab7 h1).2, h2, h3⟩
 have hd : w.drew.heap[b]? = some (.cells arr ty (0, 0)) := ha
 have c1 : w.drew.cell? ⟨b, o + 1, none⟩ = some u := by rw [Lib.cell_of_heap hd]; exact hu
 have c0 : w.cell? ⟨b, o + 1, none⟩ = some u := c1
 have hnone : ∀ (W : World) (q : Option Addr), (Builtin.unsafeString_ #[118, 3] 9 #[.pointer q, .int .i64 0]).run Tryz.prog W = .ok (.string .empty) W := fun W q => Lib.run_unsafeString_none W _ _ _ q
 rcases hO with ⟨h1, rfl, _⟩ | ⟨g, cap, arr', ty', nb', h1, h2, h3, h4, h5, h6⟩
 ·injection h1 with h1 _
  subst h1
  have hSD : (Builtin.unsafeSliceData_ #[68] 118 #[.slice none 0 0]).run Tryz.prog w.drew = .ok (.pointer none) w.drew := rfl
  have fin := Read.drew imm w nb
  clear hB hty
  go_enter Tryz.func54, Tryz.ntmps54
  go_wp2
  go_region
  all_goals (go_wp2; go_ret; exact ⟨_, rfl, rfl, fin⟩)
 ·injection h1 with h1 _
  subst h1
  have hg : g ∈ nb := by rw [h2]; simp
  obtain ⟨arr2, k1⟩ := hty g hg
  rw [h3] at k1
  injection k1 with k1; injection k1 with _ k2
  subst k2
  have h5' : arr'.size = cap := by simpa [Ty.size] using h5
  have hg' : w.drew.heap[g]? = some (.cells arr' Z0 (0, 0)) := h3
  by_cases hx : xs = []
  ·subst hx
   by_cases hc0 : cap = 0
   ·subst hc0
    have hSD : (Builtin.unsafeSliceData_ #[68] 118 #[.slice (some ⟨g, 0, none⟩) 0 0]).run Tryz.prog w.drew = .ok (.pointer (some ⟨w.drew.heap.size, 0, none⟩)) (w.drew.alloc (.view ⟨g, 0, none⟩ 5)) :=
     Lib.run_unsafeSliceData_zero w.drew _ _ 5 (by kernel_rfl) ⟨g, 0, none⟩ 0 (5, arr'.size) (by simp [World.shape?, hg', Z0])
    have c2 : (w.drew.alloc (.view ⟨g, 0, none⟩ 5)).cell? ⟨b, o + 1, none⟩ = some (.slice (some ⟨g, 0, none⟩) 0 0) := by
     have : (w.drew.alloc (.view ⟨g, 0, none⟩ 5)).heap[b]? = some (.cells arr ty (0, 0)) := (Lib.alloc_old w.drew _ b (lt_of_heap ha)).trans ha
     rw [Lib.cell_of_heap this]; exact hu
    have c3 : (w.alloc (.view ⟨g, 0, none⟩ 5)).drew.cell? ⟨b, o + 1, none⟩ = some (.slice (some ⟨g, 0, none⟩) 0 0) := c2
    have fin := Read.bB0 imm w nb (.view ⟨g, 0, none⟩ 5)
    clear hB hty
    go_enter Tryz.func54, Tryz.ntmps54
    go_wp2
    go_region
    all_goals (go_wp2; go_ret; exact ⟨_, rfl, rfl, fin⟩)
   ·have hSD : (Builtin.unsafeSliceData_ #[68] 118 #[.slice (some ⟨g, 0, none⟩) 0 cap]).run Tryz.prog w.drew = .ok (.pointer (some ⟨g, 0, none⟩)) w.drew :=
     Lib.run_unsafeSliceData_row _ _ _ _ _ _ hc0
    have fin := Read.drew imm w nb
    clear hB hty hc0
    go_enter Tryz.func54, Tryz.ntmps54
    go_wp2
    go_region
    all_goals (go_wp2; go_ret; exact ⟨_, rfl, rfl, fin⟩)
  ·have hpos : 0 < xs.length := List.length_pos_iff.2 hx
   have hSD : (Builtin.unsafeSliceData_ #[68] 118 #[.slice (some ⟨g, 0, none⟩) xs.length cap]).run Tryz.prog w.drew = .ok (.pointer (some ⟨g, 0, none⟩)) w.drew :=
    Lib.run_unsafeSliceData_row _ _ _ _ _ _ (by omega)
   obtain ⟨st, hUS, hst⟩ := a43 (P := Tryz.prog) (w := w.drew) 118 3 9 5 (by kernel_rfl) (by kernel_rfl) g arr'.size (by simp [World.shape?, hg', Z0]) xs hx (by omega) (by omega) (fun j x hj => by
    obtain ⟨hj', rfl⟩ := List.getElem?_eq_some_iff.1 hj
    rw [Addr.add_lit]
    exact aU2 hg' h6.1 j hj')
   have fin : Read imm w nb (w.drew.freeze ⟨g, 0, none⟩ xs.length) := Read.freeze hg _
   clear hB hty hx
   go_enter Tryz.func54, Tryz.ntmps54
   go_wp2
   go_region
   all_goals (go_wp2; go_ret; exact ⟨_, rfl, hst, fin⟩)
end Go.Abs.Bld
end

section
set_option maxRecDepth 100000
namespace Go.Abs.Bld
open Go.Proofs
theorem a57 {ρ : Type} {n : Nat} {x y : ρ} (h : (bif fits n then some x else none) = some y) : n ≤ 1099511627776 ∧ x = y := by
 cases e : fits n with
 | false => rw [e] at h; cases h
 | true => rw [e] at h; injection h with h; exact ⟨Nat.le_of_ble_eq_true e, h⟩
theorem bo1 {imm : Rd} {w w' : World} {b o ty : Nat} {arr : Array Value} {nb : List Nat} {xs : List Int} (ha : w.heap[b]? = some (.cells arr ty (0, 0))) (hle : o + 2 ≤ arr.size) (h : Written imm w b o ty arr nb xs w') :
  ∃ nb', After imm w (b :: nb) imm w' (b :: nb') ∧ aC3 imm w w' (.ptr false (0, places) .bld) xs (0, 0) [.pointer (some ⟨b, o, none⟩)] [.pointer (some ⟨b, o, none⟩)] (b :: nb') := by
 obtain ⟨nb', arr', v, A, h1, h2, h3, h4⟩ := h
 refine ⟨nb', A, b, o, arr, ty, arr', [.pointer (some ⟨b, o, none⟩), v], nb', rfl, rfl, rfl, ha, h1, h2, hle, rfl, .inr ⟨v, rfl, h3, h4⟩⟩
theorem bf6 (glob : Nat → Option (List Cell)) : aa9 Tryz.prog glob 80 ⟨⟨[bp, .one (.pub (.int .u8))], .val (.one .err)⟩, Q5⟩ := by
 intro x y hF imm w args nb hG hc hP hn hi
 obtain ⟨hfit, rfl⟩ := a57 hF
 obtain ⟨u1, r1, n1, n2, rfl, rfl, ⟨_, b, o, arr, ty, nb', e1, rfl, ha, hw, hle, hB⟩, u2, r2, n3, n4, rfl, rfl, ⟨_, rfl, _, u3, e2, h3⟩, rfl, rfl⟩ := hP
 injection e1 with e1 _
 injection e2 with e2 _
 subst e1; subst e2
 have h3 : [_] = [_] := h3
 injection h3 with h3 _
 subst h3
 simp only [List.append_nil] at hn hi
 refine D1 Tryz.func80 rfl (by kernel_rfl) ((bx1 x.2.1 ha hle (hw.2 rfl) hB hn hi hc hfit).mono ?_)
 rintro e w' ⟨rfl, hW⟩
 obtain ⟨nb2, A, hBk⟩ := bo1 ha hle hW
 refine ⟨_, rfl, imm, [], b :: nb2, by simpa using A, ⟨rfl, rfl, _, rfl, .inl ⟨rfl, rfl⟩⟩, _, _, b :: nb2, [], rfl, by simp, hBk, _, _, [], [], rfl, rfl, rfl, rfl, rfl⟩
theorem aW3 (glob : Nat → Option (List Cell)) : aa9 Tryz.prog glob 52 ⟨⟨[bp, .one (.pub .str)], .tup [.one (.pub (.int .i64)), .one .err]⟩, L7⟩ := by
 intro x y hF imm w args nb hG hc hP hn hi
 obtain ⟨hfit, rfl⟩ := a57 hF
 obtain ⟨u1, r1, n1, n2, rfl, rfl, ⟨_, b, o, arr, ty, nb', e1, rfl, ha, hw, hle, hB⟩, u2, r2, n3, n4, rfl, rfl, ⟨_, rfl, _, u3, e2, s, h3, h4⟩, rfl, rfl⟩ := hP
 injection e1 with e1 _
 injection e2 with e2 _
 subst e1; subst e2
 injection h3 with h3 _
 subst h3
 simp only [List.append_nil] at hn hi
 have h4' : x.2.1 = bytesOf s := h4
 refine D1 Tryz.func52 rfl (by kernel_rfl) ((writeString s ha hle (hw.2 rfl) hB hn hi hc (by rw [← h4']; exact hfit)).mono ?_)
 rintro e w' ⟨rfl, hW⟩
 rw [← h4'] at hW
 obtain ⟨nb2, A, hBk⟩ := bo1 ha hle hW
 refine ⟨_, rfl, imm, [], b :: nb2, by simpa using A, ⟨[_, _], rfl, _, _, [], [], rfl, rfl, ⟨rfl, rfl, rfl, _, rfl, ?_⟩, _, _, [], [], rfl, rfl, ⟨rfl, rfl, _, rfl, .inl ⟨rfl, rfl⟩⟩, rfl, rfl⟩, _, _, b :: nb2, [], rfl, by simp, hBk, _, _, [], [], rfl, rfl, rfl, rfl, rfl⟩
 show [_] = [_]
 rw [← E3, ← h4']
theorem bA4 (glob : Nat → Option (List Cell)) : aa9 Tryz.prog glob 54 ⟨⟨[.one (.tak places)], .val (.one (.pub .str))⟩, au3⟩ := by
 intro x y hF imm w args nb hG hc hP hn hi
 obtain ⟨hfit, rfl⟩ := a57 hF
 obtain ⟨u1, r1, n1, n2, rfl, rfl, ⟨_, b, o, arr, ty, e1, ha, hok, hle, hB⟩, rfl, rfl⟩ := hP
 injection e1 with e1 _
 subst e1
 simp only [List.append_nil] at hn hi
 refine D1 Tryz.func54 rfl (by kernel_rfl) ((string ha hle hB hfit).mono ?_)
 rintro e w' ⟨st, rfl, hst, hR⟩
 refine ⟨_, rfl, imm, [], [], ?_, ⟨rfl, rfl, rfl, _, rfl, st, rfl, hst.symm⟩, _, _, [], [], rfl, rfl, rfl, rfl, rfl⟩
 rw [List.append_nil]
 exact hR.after hi hc
end Go.Abs.Bld
end

section
set_option maxRecDepth 100000
namespace Go.Abs.Bld
open Go.Proofs
theorem br5 {l : List UInt8} {c : UInt8} : ∀ (m : List UInt8) (k : Nat), l = l.take k ++ m → k ≤ l.length → (match (List.range' k m.length).find? fun i => l.getD i 0 == c with | some i => (i : Int) | none => -1) = idx (m.map fun b => (b.toNat : Int)) (c.toNat : Int) k
 | [], k, _, _ => rfl
 | x :: m, k, h, hk => by
  have hx : l.getD k 0 = x := by
   rw [List.getD_eq_getElem?_getD, h, List.getElem?_append_right (by simp; omega)]
   simp [Nat.min_eq_left hk]
  have hlen : l.length = k + (m.length + 1) := by
   have := congrArg List.length h
   simp only [List.length_append, List.length_take, List.length_cons] at this
   omega
  have ih := br5 (l := l) (c := c) m (k + 1) (by
   have h' : l = l.take k ++ [x] ++ m := by rw [List.append_assoc]; exact h
   have h2 : l.take (k + 1) = l.take k ++ [x] := by
    conv => lhs; rw [h']
    rw [List.take_left']
    simp [Nat.min_eq_left hk]
   rw [h2]; exact h') (by omega)
  rw [List.length_cons, List.range'_succ, List.find?_cons, hx]
  simp only [List.map_cons, idx]
  by_cases e : x = c
  ·subst e; simp
  ·have e1 : (x == c) = false := by simpa using e
   have e2 : decide ((x.toNat : Int) = (c.toNat : Int)) = false := by
    simp only [decide_eq_false_iff_not]
    intro h'
    apply e
    have : x.toNat = c.toNat := by omega
    exact UInt8.toNat_inj.1 this
   rw [e1, e2]
   simp only [cond_false]
   rw [ih]
   push_cast
   rfl
theorem bi8 (s : ByteArray) (c : Int) : firstIdx s c.toNat.toUInt8 = idx (bytesOf s) (byte c) 0 := by
 have h := br5 (l := s.data.toList) (c := c.toNat.toUInt8) s.data.toList 0 (by simp) (Nat.zero_le _)
 have hc : ((c.toNat.toUInt8).toNat : Int) = byte c := by
  unfold byte
  rw [UInt8.toNat_ofNat']
 rw [hc] at h
 have hb : (s.data.toList.map fun b => (b.toNat : Int)) = bytesOf s := rfl
 rw [hb] at h
 refine Eq.trans ?_ h
 unfold firstIdx
 have hsz : s.size = s.data.toList.length := by
  rw [Array.length_toList]; rfl
 rw [hsz, List.range_eq_range']
 have : ∀ i, s[i]! = s.data.toList.getD i 0 := fun i => by
  by_cases h : i < s.size
  ·rw [getElem!_pos s i h]
   have h' : i < s.data.toList.length := by rw [← hsz]; exact h
   rw [List.getD_eq_getElem?_getD, List.getElem?_eq_getElem h', Option.getD_some]
   rfl
  ·rw [getElem!_neg s i h]
   have h' : s.data.toList.length ≤ i := by rw [← hsz]; omega
   rw [List.getD_eq_getElem?_getD, List.getElem?_eq_none h']
   rfl
 simp only [this]
 split <;> rename_i e <;> rw [e]
theorem bb1 (glob : Nat → Option (List Cell)) : aa9 Tryz.prog glob 198 ⟨⟨[.one (.pub .str), .one (.pub (.int .u8))], .val (.one (.pub (.int .i64)))⟩, al4⟩ :=
 bz8 (ts := [.str, .int .u8]) (τ := .int .i64) rfl rfl fun x y hF w us hA => by
  injection hF with hF
  subst hF
  obtain ⟨u1, r1, rfl, ⟨s, rfl, hs⟩, u2, r2, rfl, h2, h3⟩ := hA
  have h2 : _ = _ := h2
  have h3 : _ = _ := h3
  subst h2; subst h3
  have hs : x.1 = bytesOf s := hs
  unfold Q8
  rw [run_callFunc_extern Tryz.func198 (by kernel_rfl) (by kernel_rfl) (by kernel_rfl) (e := Extern.BytealgIndexByte.indexByte) (by kernel_rfl), run_indexByte_string]
  refine ⟨Same.refl w, ?_⟩
  show _ = Value.int .i64 (idx x.1 (byte x.2.1) 0)
  rw [bi8, hs]
end Go.Abs.Bld
end

section
set_option maxRecDepth 100000
namespace Go.Abs.Lay
open Go.Proofs Go.Shelf
def bX7 : Ren where
 f := fun n => bif Nat.beq n 174 then 235 else bif Nat.beq n 247 then 256 else bif Nat.beq n 245 then 237 else bif Nat.beq n 287 then 236 else bif Nat.beq n 279 then 259 else bif Nat.beq n 280 then 260 else bif Nat.beq n 281 then 261 else bif Nat.beq n 282 then 262 else bif Nat.beq n 321 then 257 else bif Nat.beq n 322 then 258 else bif Nat.beq n 316 then 268 else bif Nat.beq n 171 then 49 else bif Nat.beq n 205 then 269 else bif Nat.beq n 243 then 78 else bif Nat.beq n 246 then 79 else bif Nat.beq n 283 then 121 else bif Nat.beq n 284 then 122 else bif Nat.beq n 285 then 123 else bif Nat.beq n 286 then 124 else bif Nat.beq n 129 then 194 else bif Nat.beq n 317 then 193 else bif Nat.beq n 318 then 195 else bif Nat.beq n 319 then 196 else bif Nat.beq n 320 then 197 else bif Nat.beq n 337 then 244 else bif Nat.beq n 338 then 245 else n
 t := fun n => bif Nat.beq n 9 then 9 else bif Nat.beq n 3 then 3 else bif Nat.beq n 2 then 2 else bif Nat.beq n 75 then 75 else bif Nat.beq n 85 then 209 else bif Nat.beq n 4 then 4 else bif Nat.beq n 167 then 220 else bif Nat.beq n 5 then 5 else bif Nat.beq n 53 then 152 else bif Nat.beq n 175 then 176 else bif Nat.beq n 46 then 117 else bif Nat.beq n 168 then 222 else bif Nat.beq n 37 then 68 else bif Nat.beq n 0 then 0 else bif Nat.beq n 210 then 230 else bif Nat.beq n 21 then 21 else bif Nat.beq n 127 then 118 else bif Nat.beq n 145 then 234 else bif Nat.beq n 143 then 232 else bif Nat.beq n 171 then 151 else bif Nat.beq n 173 then 155 else bif Nat.beq n 212 then 192 else bif Nat.beq n 51 then 193 else bif Nat.beq n 20 then 20 else bif Nat.beq n 213 then 194 else bif Nat.beq n 232 then 227 else bif Nat.beq n 233 then 228 else bif Nat.beq n 80 then 79 else n
 g := fun n => bif Nat.beq n 15 then 7 else bif Nat.beq n 16 then 8 else bif Nat.beq n 17 then 1 else bif Nat.beq n 18 then 5 else bif Nat.beq n 19 then 6 else n
theorem bL4 : LaysC.n174 Tryz.prog bX7 where
 mixed := by kernel_rfl
 f129 := Tryz.func194.trans (congrArg some (by kernel_rfl))
 f171 := Tryz.func49.trans (congrArg some (by kernel_rfl))
 f174 := Tryz.func235.trans (congrArg some (by kernel_rfl))
 f205 := Tryz.func269.trans (congrArg some (by kernel_rfl))
 f243 := Tryz.func78.trans (congrArg some (by kernel_rfl))
 f245 := Tryz.func237.trans (congrArg some (by kernel_rfl))
 f246 := Tryz.func79.trans (congrArg some (by kernel_rfl))
 f247 := Tryz.func256.trans (congrArg some (by kernel_rfl))
 f279 := Tryz.func259.trans (congrArg some (by kernel_rfl))
 f280 := Tryz.func260.trans (congrArg some (by kernel_rfl))
 f281 := Tryz.func261.trans (congrArg some (by kernel_rfl))
 f282 := Tryz.func262.trans (congrArg some (by kernel_rfl))
 f283 := Tryz.func121.trans (congrArg some (by kernel_rfl))
 f284 := Tryz.func122.trans (congrArg some (by kernel_rfl))
 f285 := Tryz.func123.trans (congrArg some (by kernel_rfl))
 f286 := Tryz.func124.trans (congrArg some (by kernel_rfl))
 f287 := Tryz.func236.trans (congrArg some (by kernel_rfl))
 f316 := Tryz.func268.trans (congrArg some (by kernel_rfl))
 f317 := Tryz.func193.trans (congrArg some (by kernel_rfl))
 f318 := Tryz.func195.trans (congrArg some (by kernel_rfl))
 f319 := Tryz.func196.trans (congrArg some (by kernel_rfl))
 f320 := Tryz.func197.trans (congrArg some (by kernel_rfl))
 f321 := Tryz.func257.trans (congrArg some (by kernel_rfl))
 f322 := Tryz.func258.trans (congrArg some (by kernel_rfl))
 f337 := Tryz.func244.trans (congrArg some (by kernel_rfl))
 f338 := Tryz.func245.trans (congrArg some (by kernel_rfl))
 t0 := Tryz.underlying0
 a0 := Tryz.isAgg0
 z0 := Tryz.sizeOf0
 v0 := Tryz.zeroValue0
 t2 := Tryz.underlying2
 a2 := Tryz.isAgg2
 z2 := Tryz.sizeOf2
 v2 := Tryz.zeroValue2
 t3 := Tryz.underlying3
 a3 := Tryz.isAgg3
 z3 := Tryz.sizeOf3
 v3 := Tryz.zeroValue3
 t4 := Tryz.underlying4
 a4 := Tryz.isAgg4
 z4 := Tryz.sizeOf4
 v4 := Tryz.zeroValue4
 t5 := Tryz.underlying5
 a5 := Tryz.isAgg5
 z5 := Tryz.sizeOf5
 v5 := Tryz.zeroValue5
 t9 := Tryz.underlying9
 a9 := Tryz.isAgg9
 z9 := Tryz.sizeOf9
 v9 := Tryz.zeroValue9
 t20 := Tryz.underlying20
 a20 := Tryz.isAgg20
 z20 := Tryz.sizeOf20
 v20 := Tryz.zeroValue20
 t21 := Tryz.underlying21
 a21 := Tryz.isAgg21
 z21 := Tryz.sizeOf21
 v21 := Tryz.zeroValue21
 t37 := Tryz.underlying68
 a37 := Tryz.isAgg68
 z37 := Tryz.sizeOf68
 v37 := Tryz.zeroValue68
 t46 := Tryz.underlying117
 a46 := Tryz.isAgg117
 z46 := Tryz.sizeOf117
 v46 := Tryz.zeroValue117
 t51 := Tryz.underlying193
 a51 := Tryz.isAgg193
 z51 := Tryz.sizeOf193
 v51 := Tryz.zeroValue193
 t53 := Tryz.underlying152
 a53 := Tryz.isAgg152
 z53 := Tryz.sizeOf152
 v53 := Tryz.zeroValue152
 t75 := Tryz.underlying75
 a75 := Tryz.isAgg75
 z75 := Tryz.sizeOf75
 v75 := Tryz.zeroValue75
 t85 := Tryz.underlying209
 a85 := Tryz.isAgg209
 z85 := Tryz.sizeOf209
 v85 := Tryz.zeroValue209
 t127 := Tryz.underlying118
 a127 := Tryz.isAgg118
 z127 := Tryz.sizeOf118
 v127 := Tryz.zeroValue118
 t143 := Tryz.underlying232
 a143 := Tryz.isAgg232
 z143 := Tryz.sizeOf232
 v143 := Tryz.zeroValue232
 t145 := Tryz.underlying234
 a145 := Tryz.isAgg234
 z145 := Tryz.sizeOf234
 v145 := Tryz.zeroValue234
 t167 := Tryz.underlying220
 a167 := Tryz.isAgg220
 z167 := Tryz.sizeOf220
 v167 := Tryz.zeroValue220
 t168 := Tryz.underlying222
 a168 := Tryz.isAgg222
 z168 := Tryz.sizeOf222
 v168 := Tryz.zeroValue222
 t171 := Tryz.underlying151
 a171 := Tryz.isAgg151
 z171 := Tryz.sizeOf151
 v171 := Tryz.zeroValue151
 t173 := Tryz.underlying155
 a173 := Tryz.isAgg155
 z173 := Tryz.sizeOf155
 v173 := Tryz.zeroValue155
 t175 := Tryz.underlying176
 a175 := Tryz.isAgg176
 z175 := Tryz.sizeOf176
 v175 := Tryz.zeroValue176
 t210 := Tryz.underlying230
 a210 := Tryz.isAgg230
 z210 := Tryz.sizeOf230
 v210 := Tryz.zeroValue230
 t212 := Tryz.underlying192
 a212 := Tryz.isAgg192
 z212 := Tryz.sizeOf192
 v212 := Tryz.zeroValue192
 t213 := Tryz.underlying194
 a213 := Tryz.isAgg194
 z213 := Tryz.sizeOf194
 t232 := Tryz.underlying227
 a232 := Tryz.isAgg227
 z232 := Tryz.sizeOf227
 v232 := Tryz.zeroValue227
 t233 := Tryz.underlying228
 a233 := Tryz.isAgg228
 z233 := Tryz.sizeOf228
 v233 := Tryz.zeroValue228
 g15 := by kernel_rfl
 g16 := by kernel_rfl
 g17 := by kernel_rfl
 g18 := by kernel_rfl
 g19 := by kernel_rfl
 t80 := Tryz.underlying79
 a80 := Tryz.isAgg79
 z80 := Tryz.sizeOf79
 v80 := Tryz.zeroValue79
 i0 := by kernel_rfl
 i2 := by kernel_rfl
 i3 := by kernel_rfl
 i4 := by kernel_rfl
 i5 := by kernel_rfl
 i9 := by kernel_rfl
 i20 := by kernel_rfl
 i21 := by kernel_rfl
 i37 := by kernel_rfl
 i46 := by kernel_rfl
 i51 := by kernel_rfl
 i53 := by kernel_rfl
 i75 := by kernel_rfl
 i80 := by kernel_rfl
 i85 := by kernel_rfl
 i127 := by kernel_rfl
 i143 := by kernel_rfl
 i145 := by kernel_rfl
 i167 := by kernel_rfl
 i168 := by kernel_rfl
 i171 := by kernel_rfl
 i173 := by kernel_rfl
 i175 := by kernel_rfl
 i210 := by kernel_rfl
 i212 := by kernel_rfl
 i232 := by kernel_rfl
 i233 := by kernel_rfl
 m15 := by kernel_rfl
 m16 := by kernel_rfl
 m17 := by kernel_rfl
 m18 := by kernel_rfl
 m19 := by kernel_rfl
 c0 := by kernel_rfl
 c2 := by kernel_rfl
 c3 := by kernel_rfl
 c4 := by kernel_rfl
 c5 := by kernel_rfl
 c9 := by kernel_rfl
 c20 := by kernel_rfl
 c21 := by kernel_rfl
 c37 := by kernel_rfl
 c46 := by kernel_rfl
 c51 := by kernel_rfl
 c53 := by kernel_rfl
 c75 := by kernel_rfl
 c80 := by kernel_rfl
 c85 := by kernel_rfl
 c127 := by kernel_rfl
 c143 := by kernel_rfl
 c145 := by kernel_rfl
 c167 := by kernel_rfl
 c168 := by kernel_rfl
 c171 := by kernel_rfl
 c173 := by kernel_rfl
 c175 := by kernel_rfl
 c210 := by kernel_rfl
 c212 := by kernel_rfl
 c213 := by kernel_rfl
 c232 := by kernel_rfl
 c233 := by kernel_rfl
def bW7 : Ren where
 f := fun n => bif Nat.beq n 173 then 50 else bif Nat.beq n 246 then 79 else bif Nat.beq n 283 then 121 else bif Nat.beq n 284 then 122 else bif Nat.beq n 285 then 123 else bif Nat.beq n 286 then 124 else bif Nat.beq n 129 then 194 else bif Nat.beq n 317 then 193 else bif Nat.beq n 318 then 195 else bif Nat.beq n 319 then 196 else bif Nat.beq n 320 then 197 else bif Nat.beq n 337 then 244 else bif Nat.beq n 338 then 245 else n
 t := fun n => bif Nat.beq n 2 then 2 else bif Nat.beq n 3 then 3 else bif Nat.beq n 9 then 9 else bif Nat.beq n 4 then 4 else bif Nat.beq n 171 then 151 else bif Nat.beq n 0 then 0 else bif Nat.beq n 53 then 152 else bif Nat.beq n 37 then 68 else bif Nat.beq n 5 then 5 else bif Nat.beq n 173 then 155 else bif Nat.beq n 212 then 192 else bif Nat.beq n 51 then 193 else bif Nat.beq n 20 then 20 else bif Nat.beq n 213 then 194 else bif Nat.beq n 46 then 117 else bif Nat.beq n 232 then 227 else bif Nat.beq n 233 then 228 else n
 g := fun n => bif Nat.beq n 17 then 1 else bif Nat.beq n 18 then 5 else bif Nat.beq n 19 then 6 else n
theorem bS8 : LaysM.n173 Tryz.prog bW7 where
 mixed := by kernel_rfl
 f129 := Tryz.func194.trans (congrArg some (by kernel_rfl))
 f173 := Tryz.func50.trans (congrArg some (by kernel_rfl))
 f246 := Tryz.func79.trans (congrArg some (by kernel_rfl))
 f283 := Tryz.func121.trans (congrArg some (by kernel_rfl))
 f284 := Tryz.func122.trans (congrArg some (by kernel_rfl))
 f285 := Tryz.func123.trans (congrArg some (by kernel_rfl))
 f286 := Tryz.func124.trans (congrArg some (by kernel_rfl))
 f317 := Tryz.func193.trans (congrArg some (by kernel_rfl))
 f318 := Tryz.func195.trans (congrArg some (by kernel_rfl))
 f319 := Tryz.func196.trans (congrArg some (by kernel_rfl))
 f320 := Tryz.func197.trans (congrArg some (by kernel_rfl))
 f337 := Tryz.func244.trans (congrArg some (by kernel_rfl))
 f338 := Tryz.func245.trans (congrArg some (by kernel_rfl))
 t0 := Tryz.underlying0
 a0 := Tryz.isAgg0
 z0 := Tryz.sizeOf0
 v0 := Tryz.zeroValue0
 t2 := Tryz.underlying2
 a2 := Tryz.isAgg2
 z2 := Tryz.sizeOf2
 v2 := Tryz.zeroValue2
 t3 := Tryz.underlying3
 a3 := Tryz.isAgg3
 z3 := Tryz.sizeOf3
 v3 := Tryz.zeroValue3
 t4 := Tryz.underlying4
 a4 := Tryz.isAgg4
 z4 := Tryz.sizeOf4
 v4 := Tryz.zeroValue4
 t5 := Tryz.underlying5
 a5 := Tryz.isAgg5
 z5 := Tryz.sizeOf5
 v5 := Tryz.zeroValue5
 t9 := Tryz.underlying9
 a9 := Tryz.isAgg9
 z9 := Tryz.sizeOf9
 v9 := Tryz.zeroValue9
 t20 := Tryz.underlying20
 a20 := Tryz.isAgg20
 z20 := Tryz.sizeOf20
 v20 := Tryz.zeroValue20
 t37 := Tryz.underlying68
 a37 := Tryz.isAgg68
 z37 := Tryz.sizeOf68
 v37 := Tryz.zeroValue68
 t46 := Tryz.underlying117
 a46 := Tryz.isAgg117
 z46 := Tryz.sizeOf117
 v46 := Tryz.zeroValue117
 t51 := Tryz.underlying193
 a51 := Tryz.isAgg193
 z51 := Tryz.sizeOf193
 v51 := Tryz.zeroValue193
 t53 := Tryz.underlying152
 a53 := Tryz.isAgg152
 z53 := Tryz.sizeOf152
 v53 := Tryz.zeroValue152
 t171 := Tryz.underlying151
 a171 := Tryz.isAgg151
 z171 := Tryz.sizeOf151
 v171 := Tryz.zeroValue151
 t173 := Tryz.underlying155
 a173 := Tryz.isAgg155
 z173 := Tryz.sizeOf155
 v173 := Tryz.zeroValue155
 t212 := Tryz.underlying192
 a212 := Tryz.isAgg192
 z212 := Tryz.sizeOf192
 v212 := Tryz.zeroValue192
 t213 := Tryz.underlying194
 a213 := Tryz.isAgg194
 z213 := Tryz.sizeOf194
 t232 := Tryz.underlying227
 a232 := Tryz.isAgg227
 z232 := Tryz.sizeOf227
 v232 := Tryz.zeroValue227
 t233 := Tryz.underlying228
 a233 := Tryz.isAgg228
 z233 := Tryz.sizeOf228
 v233 := Tryz.zeroValue228
 g17 := by kernel_rfl
 g18 := by kernel_rfl
 g19 := by kernel_rfl
 i0 := by kernel_rfl
 i2 := by kernel_rfl
 i3 := by kernel_rfl
 i4 := by kernel_rfl
 i5 := by kernel_rfl
 i9 := by kernel_rfl
 i20 := by kernel_rfl
 i37 := by kernel_rfl
 i46 := by kernel_rfl
 i51 := by kernel_rfl
 i53 := by kernel_rfl
 i171 := by kernel_rfl
 i173 := by kernel_rfl
 i212 := by kernel_rfl
 i232 := by kernel_rfl
 i233 := by kernel_rfl
 m17 := by kernel_rfl
 m18 := by kernel_rfl
 m19 := by kernel_rfl
end Go.Abs.Lay
end

section
set_option maxRecDepth 100000
namespace Go.Abs.Lx
open Go.Proofs
theorem aD0 {w w' : World} (h : RowKit.Below w.heap.size w w') : Same w w' := ⟨fun b hb => h.block b hb, h.size, h.os, h.tape, h.output⟩
theorem ba6 (w : World) (k : Nat) (os : Array Go.Obj) : Same w (Go.Sort.grow (w.drewN k) os) := by
 refine ⟨fun b hb => ?_, ?_, rfl, rfl, rfl⟩
 ·show (w.heap ++ os)[b]? = _
  rw [Array.getElem?_append_left hb]
 ·show _ ≤ (w.heap ++ os).size
  simp
theorem bj1 {glob : Nat → Option (List Cell)} (hg : glob 8 = some [.err false]) : aa9 Tryz.prog glob 235 ⟨⟨[.one (.pub .str), .one (.pub (.int .i64)), .one (.pub (.int .i64))], .tup [.one (.pub (.int .i64)), .one .err]⟩, af5⟩ := by
 intro x y hF imm w args nb hG hcells hP hnd hnb
 obtain ⟨hA, rfl⟩ := au5 (ts := [.str, .int .i64, .int .i64]) rfl hP
 obtain ⟨u1, r1, rfl, ⟨s, rfl, hs⟩, u2, r2, rfl, h2, u3, r3, rfl, h3, h4⟩ := hA
 have h2 : _ = _ := h2
 have h3 : _ = _ := h3
 have h4 : _ = _ := h4
 subst h2; subst h3; subst h4
 have hs : x.1 = bytesOf s := hs
 have hF : af5 x = some y := hF
 unfold af5 at hF
 cases hc : (decide (x.2.1 = 10) && decide (x.2.2.1 = 64) && fits x.1.length) with
 | false => rw [hc] at hF; cases hF
 | true =>
  rw [hc] at hF
  simp only [cond_true] at hF
  simp only [Bool.and_eq_true, decide_eq_true_eq] at hc
  obtain ⟨⟨e1, e2⟩, hl⟩ := hc
  have hsz : s.size ≤ 1099511627776 := by
   have := Nat.le_of_ble_eq_true hl
   rw [hs, E3] at this
   exact this
  have f1 : x.2.1 = 10 := e1
  have f2 : x.2.2.1 = 64 := e2
  show Q8 Tryz.prog 235 #[.string s, .int .i64 x.2.1, .int .i64 x.2.2.1] w _
  rw [f1, f2]
  have hu : u8s x.1 = s.data.toList := by rw [hs, aQ7]
  rw [hu] at hF
  have fin : ∀ {v : Int} {b : Bool} {u : Value} {w' : World}, Same w w' → y = ((v, b, ()), (), (), (), ()) → ((b = true ∧ u = .nilIface) ∨ (b = false ∧ ∃ t p, u = .iface t p)) → ∃ imm' n1 n2, After imm w [] imm' w' (n1 ++ n2) ∧
    aP3 imm' w' (.tup [.one (.pub (.int .i64)), .one .err]) y.1 (.tuple #[.int .i64 v, u]) n1 ∧ T2 imm' w w' [.one (.pub .str), .one (.pub (.int .i64)), .one (.pub (.int .i64))] y.2 [.string s, .int .i64 x.2.1, .int .i64 x.2.2.1] n2 := by
   intro v b u w' hsame hy hu
   subst hy
   refine ⟨imm, [], [], hsame.after hcells, ⟨[_, _], rfl, _, _, [], [], rfl, rfl, ⟨rfl, rfl, rfl, _, rfl, rfl⟩, _, _, [], [], rfl, rfl, ⟨?_, rfl, _, rfl, hu⟩, rfl, rfl⟩, at6 (ts := [.str, .int .i64, .int .i64]) (y := x) ⟨_, _, rfl, ⟨s, rfl, hs⟩, _, _, rfl, rfl, _, _, rfl, rfl, rfl⟩⟩
   rcases hu with ⟨_, rfl⟩ | ⟨_, t, p, rfl⟩ <;> rfl
  rw [f1, f2] at fin
  cases hp : Lib.parseIntB 64 s.data.toList with
  | ok v =>
   rw [hp] at hF
   injection hF with hF
   refine D1 Tryz.func235 rfl (by kernel_rfl) ((Any.strconv_ParseInt_10_at64_ok Lay.bL4 s (by omega) v hp w).mono ?_)
   rintro e w' ⟨rfl, hw⟩
   refine ⟨_, rfl, fin (b := true) ?_ hF.symm (.inl ⟨rfl, rfl⟩)⟩
   rcases hw with rfl | ⟨t, rfl⟩
   ·exact Same.refl _
   ·exact ⟨fun b hb => Lib.bytesWorld_at_old w _ t b hb, by rw [Lib.bytesWorld_size]; omega, rfl, rfl, rfl⟩
  | range =>
   rw [hp] at hF
   injection hF with hF
   obtain ⟨us, hi, hcr⟩ := hG _ _ hg
   obtain ⟨arr, ty, fr, ha, hL⟩ := hcells _ _ hi
   obtain ⟨u, r, rfl, hu, hr⟩ := hcr ⟨imm, fun _ => 0, fun _ _ => .nilIface, fun _ => none, fun _ => none, fun _ => []⟩ fun _ _ h => h
   have hr : r = [] := hr
   subst hr
   have hcell : w.cell? ⟨8, 0, none⟩ = some u := by
    rw [Lib.cell_of_heap ha]
    have : arr[0]? = arr.toList[0]? := by simp
    rw [this, hL]; rfl
   refine D1 Tryz.func235 rfl (by kernel_rfl) ((Any.strconv_ParseInt_10_at64_range Lay.bL4 s (by omega) hp u w hcell ?_).mono ?_)
   ·rcases hu with ⟨h, _⟩ | ⟨_, t, v, rfl⟩
    ·cases h
    ·exact .inr ⟨t, v, rfl⟩
   rintro e w' ⟨N, rfl, _, _, hw⟩
   exact ⟨_, rfl, fin (b := false) (aD0 hw) hF.symm (.inr ⟨rfl, _, _, rfl⟩)⟩
  | _ => rw [hp] at hF; cases hF
theorem bc1 {glob : Nat → Option (List Cell)} (hg : glob 1 = some bG2) : aa9 Tryz.prog glob 50 ⟨⟨[.one (.pub (.int .i64)), .one (.pub (.int .i64))], .val (.one (.pub .str))⟩, Z8⟩ := by
 intro x y hF imm w args nb hG hcells hP hnd hnb
 obtain ⟨hA, rfl⟩ := au5 (ts := [.int .i64, .int .i64]) rfl hP
 obtain ⟨u1, r1, rfl, h1, u2, r2, rfl, h2, h4⟩ := hA
 have h1 : _ = _ := h1
 have h2 : _ = _ := h2
 have h4 : _ = _ := h4
 subst h1; subst h2; subst h4
 have hF : Z8 x = some y := hF
 unfold Z8 at hF
 cases hc : (decide (x.2.1 = 10) && decide (-9223372036854775808 ≤ x.1) && decide (x.1 ≤ 9223372036854775807)) with
 | false => rw [hc] at hF; cases hF
 | true =>
  rw [hc] at hF
  injection hF with hF
  simp only [Bool.and_eq_true, decide_eq_true_eq] at hc
  obtain ⟨⟨e1, e2⟩, e3⟩ := hc
  have f1 : x.2.1 = 10 := e1
  show Q8 Tryz.prog 50 #[.int .i64 x.1, .int .i64 x.2.1] w _
  rw [f1]
  obtain ⟨us, hi, hcr⟩ := hG _ _ hg
  obtain ⟨arr, ty, fr, ha, hL⟩ := hcells _ _ hi
  have hcs := hcr ⟨imm, fun _ => 0, fun _ _ => .nilIface, fun _ => none, fun _ => none, fun _ => []⟩ fun _ _ h => h
  have hus : us = Lib.pow10Tab.map fun z => Value.int .u64 z := by
   have all : ∀ (l : List Int) (us : List Value) (g : Gh), l7 g (l.map fun z => .v (.int .u64) z) us → us = l.map fun z => Value.int .u64 z := by
    intro l
    induction l with
    | nil => intro us g h; exact h
    | cons z l ih =>
     intro us g h
     obtain ⟨u, r, rfl, hu, hr⟩ := h
     have hu : [u] = [Value.int .u64 z] := hu.2
     injection hu with hu _
     subst hu
     rw [ih r g hr]; rfl
   exact all _ _ _ hcs
  have htab : Lib.TabIs Tryz.prog w "internal/strconv.uint64pow10" .u64 Lib.pow10Tab := by
   have hn : Tryz.prog.globalNamed "internal/strconv.uint64pow10" = some 1 := by kernel_rfl
   unfold Lib.TabIs World.var?
   rw [hn]
   simp only [Option.bind_some, ha]
   have : arr = (Lib.pow10Tab.map fun z => Value.int .u64 z).toArray := by
    apply Array.ext'
    rw [hL, hus]
   rw [this]
  refine D1 Tryz.func50 rfl (by kernel_rfl) ((Any.strconv_FormatInt_10 Lay.bS8 x.1 e2 e3 w htab).mono ?_)
  rintro e w' ⟨rfl, k, os, rfl⟩
  subst hF
  exact ⟨_, rfl, imm, [], [], (ba6 w k os).after hcells, ⟨rfl, rfl, rfl, _, rfl, _, rfl, rfl⟩, at6 (ts := [.int .i64, .int .i64]) (y := x) ⟨_, _, rfl, rfl, _, _, rfl, f1 ▸ rfl, rfl⟩⟩
end Go.Abs.Lx
end

section
set_option maxRecDepth 100000
namespace Go.Abs.Lay
open Go.Proofs Go.Shelf
def bX6 : Ren where
 f := fun n => bif Nat.beq n 171 then 49 else bif Nat.beq n 243 then 78 else bif Nat.beq n 246 then 79 else bif Nat.beq n 283 then 121 else bif Nat.beq n 284 then 122 else bif Nat.beq n 285 then 123 else bif Nat.beq n 286 then 124 else bif Nat.beq n 129 then 194 else bif Nat.beq n 317 then 193 else bif Nat.beq n 318 then 195 else bif Nat.beq n 319 then 196 else bif Nat.beq n 320 then 197 else bif Nat.beq n 337 then 244 else bif Nat.beq n 338 then 245 else n
 t := fun n => bif Nat.beq n 3 then 3 else bif Nat.beq n 9 then 9 else bif Nat.beq n 2 then 2 else bif Nat.beq n 4 then 4 else bif Nat.beq n 171 then 151 else bif Nat.beq n 0 then 0 else bif Nat.beq n 53 then 152 else bif Nat.beq n 37 then 68 else bif Nat.beq n 5 then 5 else bif Nat.beq n 173 then 155 else bif Nat.beq n 212 then 192 else bif Nat.beq n 51 then 193 else bif Nat.beq n 20 then 20 else bif Nat.beq n 213 then 194 else bif Nat.beq n 46 then 117 else bif Nat.beq n 232 then 227 else bif Nat.beq n 233 then 228 else n
 g := fun n => bif Nat.beq n 17 then 1 else bif Nat.beq n 18 then 5 else bif Nat.beq n 19 then 6 else n
theorem bT1 : LaysM.n171 Tryz.prog bX6 where
 mixed := by kernel_rfl
 f129 := Tryz.func194.trans (congrArg some (by kernel_rfl))
 f171 := Tryz.func49.trans (congrArg some (by kernel_rfl))
 f243 := Tryz.func78.trans (congrArg some (by kernel_rfl))
 f246 := Tryz.func79.trans (congrArg some (by kernel_rfl))
 f283 := Tryz.func121.trans (congrArg some (by kernel_rfl))
 f284 := Tryz.func122.trans (congrArg some (by kernel_rfl))
 f285 := Tryz.func123.trans (congrArg some (by kernel_rfl))
 f286 := Tryz.func124.trans (congrArg some (by kernel_rfl))
 f317 := Tryz.func193.trans (congrArg some (by kernel_rfl))
 f318 := Tryz.func195.trans (congrArg some (by kernel_rfl))
 f319 := Tryz.func196.trans (congrArg some (by kernel_rfl))
 f320 := Tryz.func197.trans (congrArg some (by kernel_rfl))
 f337 := Tryz.func244.trans (congrArg some (by kernel_rfl))
 f338 := Tryz.func245.trans (congrArg some (by kernel_rfl))
 t0 := Tryz.underlying0
 a0 := Tryz.isAgg0
 z0 := Tryz.sizeOf0
 v0 := Tryz.zeroValue0
 t2 := Tryz.underlying2
 a2 := Tryz.isAgg2
 z2 := Tryz.sizeOf2
 v2 := Tryz.zeroValue2
 t3 := Tryz.underlying3
 a3 := Tryz.isAgg3
 z3 := Tryz.sizeOf3
 v3 := Tryz.zeroValue3
 t4 := Tryz.underlying4
 a4 := Tryz.isAgg4
 z4 := Tryz.sizeOf4
 v4 := Tryz.zeroValue4
 t5 := Tryz.underlying5
 a5 := Tryz.isAgg5
 z5 := Tryz.sizeOf5
 v5 := Tryz.zeroValue5
 t9 := Tryz.underlying9
 a9 := Tryz.isAgg9
 z9 := Tryz.sizeOf9
 v9 := Tryz.zeroValue9
 t20 := Tryz.underlying20
 a20 := Tryz.isAgg20
 z20 := Tryz.sizeOf20
 v20 := Tryz.zeroValue20
 t37 := Tryz.underlying68
 a37 := Tryz.isAgg68
 z37 := Tryz.sizeOf68
 v37 := Tryz.zeroValue68
 t46 := Tryz.underlying117
 a46 := Tryz.isAgg117
 z46 := Tryz.sizeOf117
 v46 := Tryz.zeroValue117
 t51 := Tryz.underlying193
 a51 := Tryz.isAgg193
 z51 := Tryz.sizeOf193
 v51 := Tryz.zeroValue193
 t53 := Tryz.underlying152
 a53 := Tryz.isAgg152
 z53 := Tryz.sizeOf152
 v53 := Tryz.zeroValue152
 t171 := Tryz.underlying151
 a171 := Tryz.isAgg151
 z171 := Tryz.sizeOf151
 v171 := Tryz.zeroValue151
 t173 := Tryz.underlying155
 a173 := Tryz.isAgg155
 z173 := Tryz.sizeOf155
 v173 := Tryz.zeroValue155
 t212 := Tryz.underlying192
 a212 := Tryz.isAgg192
 z212 := Tryz.sizeOf192
 v212 := Tryz.zeroValue192
 t213 := Tryz.underlying194
 a213 := Tryz.isAgg194
 z213 := Tryz.sizeOf194
 t232 := Tryz.underlying227
 a232 := Tryz.isAgg227
 z232 := Tryz.sizeOf227
 v232 := Tryz.zeroValue227
 t233 := Tryz.underlying228
 a233 := Tryz.isAgg228
 z233 := Tryz.sizeOf228
 v233 := Tryz.zeroValue228
 g17 := by kernel_rfl
 g18 := by kernel_rfl
 g19 := by kernel_rfl
 i0 := by kernel_rfl
 i2 := by kernel_rfl
 i3 := by kernel_rfl
 i4 := by kernel_rfl
 i5 := by kernel_rfl
 i9 := by kernel_rfl
 i20 := by kernel_rfl
 i37 := by kernel_rfl
 i46 := by kernel_rfl
 i51 := by kernel_rfl
 i53 := by kernel_rfl
 i171 := by kernel_rfl
 i173 := by kernel_rfl
 i212 := by kernel_rfl
 i232 := by kernel_rfl
 i233 := by kernel_rfl
 m17 := by kernel_rfl
 m18 := by kernel_rfl
 m19 := by kernel_rfl
def bV7 : Ren where
 f := fun n => bif Nat.beq n 156 then 53 else bif Nat.beq n 165 then 83 else bif Nat.beq n 166 then 52 else bif Nat.beq n 169 then 54 else bif Nat.beq n 240 then 82 else bif Nat.beq n 241 then 127 else bif Nat.beq n 276 then 126 else bif Nat.beq n 277 then 199 else n
 t := fun n => bif Nat.beq n 31 then 54 else bif Nat.beq n 9 then 9 else bif Nat.beq n 3 then 3 else bif Nat.beq n 4 then 4 else bif Nat.beq n 0 then 0 else bif Nat.beq n 20 then 20 else bif Nat.beq n 72 then 72 else bif Nat.beq n 76 then 76 else bif Nat.beq n 70 then 70 else bif Nat.beq n 37 then 68 else bif Nat.beq n 75 then 75 else bif Nat.beq n 127 then 118 else bif Nat.beq n 164 then 157 else bif Nat.beq n 5 then 5 else bif Nat.beq n 80 then 79 else n
 g := fun n => n
theorem bK5 : Lays.n156 Tryz.prog bV7 where
 mixed := by kernel_rfl
 f156 := Tryz.func53.trans (congrArg some (by kernel_rfl))
 f165 := Tryz.func83.trans (congrArg some (by kernel_rfl))
 f166 := Tryz.func52.trans (congrArg some (by kernel_rfl))
 f169 := Tryz.func54.trans (congrArg some (by kernel_rfl))
 f240 := Tryz.func82.trans (congrArg some (by kernel_rfl))
 f241 := Tryz.func127.trans (congrArg some (by kernel_rfl))
 f276 := Tryz.func126.trans (congrArg some (by kernel_rfl))
 f277 := Tryz.func199.trans (congrArg some (by kernel_rfl))
 t0 := Tryz.underlying0
 a0 := Tryz.isAgg0
 z0 := Tryz.sizeOf0
 v0 := Tryz.zeroValue0
 t3 := Tryz.underlying3
 a3 := Tryz.isAgg3
 z3 := Tryz.sizeOf3
 v3 := Tryz.zeroValue3
 t4 := Tryz.underlying4
 a4 := Tryz.isAgg4
 z4 := Tryz.sizeOf4
 v4 := Tryz.zeroValue4
 t9 := Tryz.underlying9
 a9 := Tryz.isAgg9
 z9 := Tryz.sizeOf9
 v9 := Tryz.zeroValue9
 t20 := Tryz.underlying20
 a20 := Tryz.isAgg20
 z20 := Tryz.sizeOf20
 v20 := Tryz.zeroValue20
 t31 := Tryz.underlying54
 a31 := Tryz.isAgg54
 z31 := Tryz.sizeOf54
 v31 := Tryz.zeroValue54
 t37 := Tryz.underlying68
 a37 := Tryz.isAgg68
 z37 := Tryz.sizeOf68
 v37 := Tryz.zeroValue68
 t70 := Tryz.underlying70
 a70 := Tryz.isAgg70
 z70 := Tryz.sizeOf70
 v70 := Tryz.zeroValue70
 t72 := Tryz.underlying72
 a72 := Tryz.isAgg72
 z72 := Tryz.sizeOf72
 v72 := Tryz.zeroValue72
 t75 := Tryz.underlying75
 a75 := Tryz.isAgg75
 z75 := Tryz.sizeOf75
 v75 := Tryz.zeroValue75
 t76 := Tryz.underlying76
 a76 := Tryz.isAgg76
 z76 := Tryz.sizeOf76
 v76 := Tryz.zeroValue76
 t127 := Tryz.underlying118
 a127 := Tryz.isAgg118
 z127 := Tryz.sizeOf118
 v127 := Tryz.zeroValue118
 t164 := Tryz.underlying157
 a164 := Tryz.isAgg157
 z164 := Tryz.sizeOf157
 v164 := Tryz.zeroValue157
end Go.Abs.Lay
end

section
set_option maxRecDepth 100000
namespace Go.Abs.Lx
open Go.Proofs
theorem bT3 {glob : Nat → Option (List Cell)} (hg : glob 1 = some bG2) {imm : Rd} {w : World} (hG : R5 glob imm) (hcells : ∀ b L, imm b = some L → ∃ arr ty fr, w.heap[b]? = some (.cells arr ty fr) ∧ arr.toList = L) : Lib.TabIs Tryz.prog w "internal/strconv.uint64pow10" .u64 Lib.pow10Tab := by
 obtain ⟨us, hi, hcr⟩ := hG _ _ hg
 obtain ⟨arr, ty, fr, ha, hL⟩ := hcells _ _ hi
 have hcs := hcr ⟨imm, fun _ => 0, fun _ _ => .nilIface, fun _ => none, fun _ => none, fun _ => []⟩ fun _ _ h => h
 have hus : us = Lib.pow10Tab.map fun z => Value.int .u64 z := by
  have all : ∀ (l : List Int) (us : List Value) (g : Gh), l7 g (l.map fun z => .v (.int .u64) z) us → us = l.map fun z => Value.int .u64 z := by
   intro l
   induction l with
   | nil => intro us g h; exact h
   | cons z l ih =>
    intro us g h
    obtain ⟨u, r, rfl, hu, hr⟩ := h
    have hu : [u] = [Value.int .u64 z] := hu.2
    injection hu with hu _
    subst hu
    rw [ih r g hr]; rfl
  exact all _ _ _ hcs
 have hn : Tryz.prog.globalNamed "internal/strconv.uint64pow10" = some 1 := by kernel_rfl
 unfold Lib.TabIs World.var?
 rw [hn]
 simp only [Option.bind_some, ha]
 have : arr = (Lib.pow10Tab.map fun z => Value.int .u64 z).toArray := by
  apply Array.ext'
  rw [hL, hus]
 rw [this]
theorem bP7 {glob : Nat → Option (List Cell)} (hg : glob 1 = some bG2) : aa9 Tryz.prog glob 49 ⟨⟨[.one (.pub (.int .i64))], .val (.one (.pub .str))⟩, ax5⟩ := by
 intro x y hF imm w args nb hG hcells hP hnd hnb
 obtain ⟨hA, rfl⟩ := au5 (ts := [.int .i64]) rfl hP
 obtain ⟨u1, r1, rfl, h1, h4⟩ := hA
 have h1 : _ = _ := h1
 have h4 : _ = _ := h4
 subst h1; subst h4
 have hF : ax5 x = some y := hF
 unfold ax5 at hF
 cases hc : (decide (-9223372036854775808 ≤ x.1) && decide (x.1 ≤ 9223372036854775807)) with
 | false => rw [hc] at hF; cases hF
 | true =>
  rw [hc] at hF
  injection hF with hF
  simp only [Bool.and_eq_true, decide_eq_true_eq] at hc
  obtain ⟨e2, e3⟩ := hc
  refine D1 Tryz.func49 rfl (by kernel_rfl) ((Any.strconv_Itoa Lay.bT1 x.1 e2 e3 w (bT3 hg hG hcells)).mono ?_)
  rintro e w' ⟨rfl, k, os, rfl⟩
  subst hF
  exact ⟨_, rfl, imm, [], [], (ba6 w k os).after hcells, ⟨rfl, rfl, rfl, _, rfl, _, rfl, rfl⟩, at6 (ts := [.int .i64]) (y := x) ⟨_, _, rfl, rfl, rfl⟩⟩
def toB (l : List Int) : ByteArray := ⟨(u8s l).toArray⟩
theorem aQ5 (s : ByteArray) : toB (bytesOf s) = s := by
 unfold toB
 rw [aQ7]
theorem a35 (sep : ByteArray) : ∀ (bs : List ByteArray), ax2 (bs.map bytesOf) (bytesOf sep) = ints (Lib.join (bs.map fun b => b.data.toList) sep.data.toList)
 | [] => rfl
 | [b] => by rw [List.map_cons, List.map_nil, List.map_cons, List.map_nil, Lib.join_one]; rfl
 | b :: c :: r => by
  have ih := a35 sep (c :: r)
  rw [List.map_cons, List.map_cons] at ih
  rw [List.map_cons, List.map_cons, ax2, ih]
  simp only [List.map_cons, Lib.join_cons, Lib.joinTail]
  simp [ints, bytesOf, List.map_append]
theorem extra : Builder.Extra Tryz.prog Lay.bV7 where
 sizeBuilder := by kernel_rfl
 liesBuilder := by kernel_rfl
 t5 := by kernel_rfl
 a5 := fun w => by kernel_rfl
 z5 := fun w => by kernel_rfl
 v5 := fun w => by kernel_rfl
 infoByte := by kernel_rfl
 cellsByte := by kernel_rfl
 sizeByte := by kernel_rfl
 neB5 := by decide
theorem bQ4 (glob : Nat → Option (List Cell)) : aa9 Tryz.prog glob 53 ⟨⟨[.one (.pub (.sl .str)), .one (.pub .str)], .val (.one (.pub .str))⟩, ba7⟩ := by
 intro x y hF imm w args nb hG hcells hP hnd hnb
 obtain ⟨u1, r1, n1, n2, rfl, rfl, ⟨_, rfl, _, u1', e1, hx⟩, u2, r2, n3, n4, rfl, rfl, ⟨_, rfl, _, u2', e2, hs⟩, rfl, rfl⟩ := hP
 injection e1 with e1; subst e1
 injection e2 with e2; subst e2
 obtain ⟨sep, e3, hs⟩ := hs
 injection e3 with e3; subst e3
 obtain ⟨A, c, e4, hc, hx⟩ := hx
 injection e4 with e4; subst e4
 obtain ⟨xs, sp, _⟩ := x
 have hs : sp = bytesOf sep := hs
 subst hs
 have hc : xs.length ≤ c := hc
 have hF : ba7 (xs, bytesOf sep, ()) = some y := hF
 unfold ba7 at hF
 cases hq : (fits xs.length && fits (ax2 xs (bytesOf sep)).length) with
 | false =>
  dsimp only at hF
  rw [hq] at hF; cases hF
 | true =>
  dsimp only at hF
  rw [hq] at hF
  injection hF with hF
  simp only [Bool.and_eq_true] at hq
  have l1 : xs.length ≤ 1099511627776 := Nat.le_of_ble_eq_true hq.1
  have l2 : (ax2 xs (bytesOf sep)).length ≤ 1099511627776 := Nat.le_of_ble_eq_true hq.2
  have fin : ∀ {u : Value} {w' : World}, Same w w' → u = .string ⟨(Lib.join ((xs.map toB).map fun b => b.data.toList) sep.data.toList).toArray⟩ → xs = (xs.map toB).map bytesOf → ∃ imm' n1 n2, After imm w [] imm' w' (n1 ++ n2) ∧
    aP3 imm' w' (.val (.one (.pub .str))) y.1 u n1 ∧ T2 imm' w w' [.one (.pub (.sl .str)), .one (.pub .str)] y.2 [.slice A xs.length c, .string sep] n2 := by
   intro u w' hsame hu hxs
   subst hF
   subst hu
   refine ⟨imm, [], [], hsame.after hcells, ⟨rfl, rfl, rfl, _, rfl, _, rfl, ?_⟩, _, _, [], [], rfl, rfl, rfl, _, _, [], [], rfl, rfl, rfl, rfl, rfl⟩
   show ax2 xs (bytesOf sep) = _
   conv => lhs; rw [hxs]
   rw [a35]
   rfl
  rcases hx with h0 | ⟨b, o, L, rfl, hb, hel⟩
  ·have h0 : xs = [] := h0
   subst h0
   refine D1 Tryz.func53 rfl (by kernel_rfl) ((Any.strings_Join_none Lay.bK5 extra A c sep w).mono ?_)
   rintro e w' ⟨rfl, rfl⟩
   exact ⟨_, rfl, fin (Same.refl _) rfl rfl⟩
  ·obtain ⟨arr, ty, fr, ha, hL⟩ := hcells _ _ hb
   have hel : ∀ i (h : i < xs.length), Rc imm .str xs[i] ((L.drop (o + i * 1)).take 1) := hel
   have hxs : xs = (xs.map toB).map bytesOf := by
    rw [List.map_map]
    apply List.ext_getElem (by simp)
    intro i h1 h2
    obtain ⟨s, _, e⟩ := hel i h1
    rw [List.getElem_map]
    show _ = bytesOf (toB xs[i])
    have e : xs[i] = bytesOf s := e
    rw [e, aQ5]
   have hcell : ∀ (j : Nat) z, (xs.map toB)[j]? = some z → w.cell? ⟨b, o + j, none⟩ = some (.string z) := by
    intro j z hz
    rw [List.getElem?_map] at hz
    cases hj : xs[j]? with
    | none => rw [hj] at hz; cases hz
    | some v =>
     rw [hj] at hz
     injection hz with hz
     obtain ⟨h1, h2⟩ := List.getElem?_eq_some_iff.1 hj
     obtain ⟨s, e, e'⟩ := hel j h1
     have e' : xs[j] = bytesOf s := e'
     rw [h2] at e'
     rw [e', aQ5] at hz
     subst hz
     rw [Lib.cell_of_heap ha]
     have : arr[o + j]? = (L.drop (o + j * 1)).head? := by
      rw [List.head?_drop, ← hL, Nat.mul_one]; simp
     rw [this]
     cases hd : L.drop (o + j * 1) with
     | nil => rw [hd] at e; cases e
     | cons a r =>
      rw [hd] at e
      injection e with e _
      subst e
      rfl
   have hlen : (xs.map toB).length = xs.length := by simp
   have hjl : (Lib.join ((xs.map toB).map fun b => b.data.toList) sep.data.toList).length ≤ 281474976710656 := by
    have := l2
    rw [hxs, a35] at this
    rw [ints, List.length_map] at this
    omega
   have C := Any.strings_Join_48 Lay.bK5 extra b o c (xs.map toB) sep w hcell (lt_of_heap ha) (by rw [hlen]; omega) (by rw [hlen]; exact hc) hjl
   rw [hlen] at C
   refine D1 Tryz.func53 rfl (by kernel_rfl) (C.mono ?_)
   rintro e w' ⟨rfl, hw⟩
   exact ⟨_, rfl, fin (aD0 hw) rfl hxs⟩
end Go.Abs.Lx
end

section
namespace Go.Proofs.YtnoddjddkbhnbaaGreatDoor
open Go.ChangeShapes Go.WideShapes Go.ChangeAt Go.RowKit
set_option maxRecDepth 100000 in
theorem sys : ∀ n, Abs.Sys.TabOk Abs.D.S (Abs.D.S.tab n) := by
 refine Abs.Sys.ok (by kernel_rfl) (fun f hf => Abs.Sys.bN1 Abs.D.bT7 hf) (fun f c hf hl => ?_) (by kernel_rfl)
 have hl : Abs.D.lib f = some c := hl
 unfold Abs.D.lib at hl
 cases h1 : Nat.beq f 80 with
 | true => have := Abs.beq_eq h1; subst this; rw [h1] at hl; injection hl with hl; subst hl; exact Abs.Bld.bf6 _
 | false =>
 rw [h1] at hl
 cases h1 : Nat.beq f 52 with
 | true => have := Abs.beq_eq h1; subst this; injection hl with hl; subst hl; exact Abs.Bld.aW3 _
 | false =>
 rw [h1] at hl
 cases h1 : Nat.beq f 54 with
 | true => have := Abs.beq_eq h1; subst this; injection hl with hl; subst hl; exact Abs.Bld.bA4 _
 | false =>
 rw [h1] at hl
 cases h1 : Nat.beq f 198 with
 | true => have := Abs.beq_eq h1; subst this; injection hl with hl; subst hl; exact Abs.Bld.bb1 _
 | false =>
 rw [h1] at hl
 cases h1 : Nat.beq f 235 with
 | true => have := Abs.beq_eq h1; subst this; injection hl with hl; subst hl; exact Abs.Lx.bj1 rfl
 | false =>
 rw [h1] at hl
 cases h1 : Nat.beq f 50 with
 | true => have := Abs.beq_eq h1; subst this; injection hl with hl; subst hl; exact Abs.Lx.bc1 rfl
 | false =>
 rw [h1] at hl
 cases h1 : Nat.beq f 49 with
 | true => have := Abs.beq_eq h1; subst this; injection hl with hl; subst hl; exact Abs.Lx.bP7 rfl
 | false =>
 rw [h1] at hl
 cases h1 : Nat.beq f 53 with
 | true => have := Abs.beq_eq h1; subst this; injection hl with hl; subst hl; exact Abs.Lx.bQ4 _
 | false =>
 rw [h1] at hl
 cases hl
theorem aJ8 {H : Type} {enc : TypeId × Value → H} {P : Program} {w : World} {sp : Nat → Bool} : ∀ {ns : List String} {gs : List (DataW H)} {ps : List MemPlace}, DataW.TrodVars enc P w sp ns gs ps → gs.length = ns.length
 | [], [], _, _ => rfl
 | [], _ :: _, _, h => h.elim
 | _ :: _, [], _, h => h.elim
 | n :: ns, d :: ds, ps, h => by
  obtain ⟨g, t, cs, fuel, p, q, h1, h2, h3, h4, hs, e⟩ := h
  have := aJ8 hs
  simp [this]
theorem own : ownKnob Tryz.prog.godebug = none := by kernel_rfl
theorem laidOut : laidOutB Tryz.prog = true := by kernel_rfl
theorem bk1 {P : Program} {W : World} {r : Reach} {base t : Nat} {fs : Array Field} {v : Value} (ht : P.underlying t = some (.struct fs)) (h : Value.okWide P W r base t v) : ∃ cs, v = .agg cs := by
 unfold Value.okWide at h
 rw [ht] at h
 obtain ⟨cs, rfl, _⟩ := h
 exact ⟨cs, rfl⟩
end Go.Proofs.YtnoddjddkbhnbaaGreatDoor
end

section
namespace Go.Abs.D
def P5 (c : Int) : Bool := (decide (97 ≤ c) && decide (c ≤ 122)) || (decide (65 ≤ c) && decide (c ≤ 90)) || decide (c = 95)
def s4 (c : Int) : Bool := decide (48 ≤ c) && decide (c ≤ 57)
def bf7 (c : Int) : Bool := decide (97 ≤ c) && decide (c ≤ 102)
def ab1 (c : Int) : Bool := s4 c || bf7 c
def ad2 (c : Int) : Int := bif s4 c then c - 48 else bif bf7 c then c - 87 else -1
def get (s : List Int) (j : Nat) : Int := s.getD j 0
theorem N3 {s : List Int} {j : Nat} (h : s.length ≤ j) : get s j = 0 := by
 unfold get
 rw [List.getD_eq_getElem?_getD, List.getElem?_eq_none h]; rfl
theorem bZ6 (pre : List Int) (x : Int) (r : List Int) : get (pre ++ x :: r) pre.length = x := X8 pre x r 0
theorem bW4 : ab1 0 = false := rfl
structure Base1 (T : S.Tab) : Prop where
 iletter : ∀ c, Z3 T c = some (P5 c, M0)
 idigit : ∀ c, N1 T c = some (s4 c, au2)
 sletter : ∀ c, Y3 T c = some (P5 c, H9)
 sdigit : ∀ c, D8 T c = some (s4 c, ak9)
 look : ∀ (s : List Int) (j : Nat), x7 T s (j : Int) = some (get s j, aq8)
 words : av2 T = some (Lx.words, ay0)
theorem aI4 (T : S.Tab) : Base1 (S.step T) := by
 refine ⟨fun c => ?_, fun c => ?_, fun c => ?_, fun c => ?_, fun s j => ?_, ?_⟩
 ·rw [aV0]
  simp only [J7, P5]
  cases decide (97 ≤ c) <;> cases decide (c ≤ 122) <;> cases decide (65 ≤ c) <;> cases decide (c ≤ 90) <;> simp
 ·rw [a47]
  simp only [J7, s4]
  cases decide (48 ≤ c) <;> simp
 ·rw [aM6]
  simp only [J7, P5]
  cases decide (97 ≤ c) <;> cases decide (c ≤ 122) <;> cases decide (65 ≤ c) <;> cases decide (c ≤ 90) <;> simp
 ·rw [aR8]
  simp only [J7, s4]
  cases decide (48 ≤ c) <;> simp
 ·rw [aY1]
  by_cases h : j < s.length
  ·rw [j6 (by simpa using h), j6 (by simp [h])]
   rfl
  ·rw [n7 (by simpa using h), N3 (by omega)]
 ·rw [aR3]; rfl
structure Base2 (T : S.Tab) : Prop extends Base1 T where
 ihex : ∀ c, at7 T c = some (ab1 c, ao9)
 shex : ∀ c, Z4 T c = some (ad2 c, ab6)
theorem aZ1 (T : S.Tab) (h : Base1 T) : Base2 (S.step T) := by
 refine ⟨aI4 T, fun c => ?_, fun c => ?_⟩
 ·rw [bd2, h.idigit]
  simp only [Option.bind_some, J7, ab1, bf7]
  cases s4 c <;> cases decide (97 ≤ c) <;> simp
 ·rw [a33, h.sdigit]
  simp only [Option.bind_some, ad2]
  cases hd : s4 c with
  | true =>
   simp only [s4, Bool.and_eq_true, decide_eq_true_eq] at hd
   rw [j6 rfl, aM3 _ (by omega) (by omega), wrap64 _ (by omega) (by omega)]; rfl
  | false =>
   rw [n7 rfl]
   by_cases h1 : 97 ≤ c
   ·rw [j6 (by simpa using h1)]
    by_cases h2 : c ≤ 102
    ·rw [j6 (by simpa using h2), aM3 _ (by omega) (by omega), wrap64 (c - 97) (by omega) (by omega), wrap64 _ (by omega) (by omega)]
     have : bf7 c = true := by simp [bf7, h1, h2]
     rw [this]
     simp only [cond_false, cond_true, Option.some.injEq, Prod.mk.injEq, and_true]
     omega
    ·rw [n7 (by simpa using h2)]
     have : bf7 c = false := by simp [bf7, h2]
     rw [this]; rfl
   ·rw [n7 (by simpa using h1)]
    have : bf7 c = false := by simp [bf7, h1]
    rw [this]; rfl
theorem q9 : Evt fun n => Base2 (S.tab n) := by
 have h1 : Evt fun n => Base1 (S.tab n) := Evt.up (Evt.of (p := fun _ => True) fun _ => trivial) fun n _ => aI4 _
 exact h1.up fun n h => aZ1 _ h
theorem Z6 (c : Int) : decide (0 ≤ ad2 c) = ab1 c := by
 unfold ad2 ab1
 cases hd : s4 c with
 | true =>
  simp only [s4, Bool.and_eq_true, decide_eq_true_eq] at hd
  simp only [cond_true, Bool.true_or, decide_eq_true_eq]; omega
 | false =>
  cases hl : bf7 c with
  | true =>
   simp only [bf7, Bool.and_eq_true, decide_eq_true_eq] at hl
   simp only [cond_true, cond_false, Bool.or_true, decide_eq_true_eq]; omega
  | false => simp
theorem av0 (c : Int) : ad2 c < 16 := by
 unfold ad2
 cases hd : s4 c with
 | true =>
  simp only [s4, Bool.and_eq_true, decide_eq_true_eq] at hd
  simp only [cond_true]; omega
 | false =>
  cases hl : bf7 c with
  | true =>
   simp only [bf7, Bool.and_eq_true, decide_eq_true_eq] at hl
   simp only [cond_true, cond_false]; omega
  | false => simp
end Go.Abs.D
end
