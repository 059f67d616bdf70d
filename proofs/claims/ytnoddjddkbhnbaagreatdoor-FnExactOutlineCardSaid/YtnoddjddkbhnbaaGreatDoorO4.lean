/- What is here: what strings.Builder's functions and IndexByte answer, as plain functions. What is here: the tables of the program and what the library's functions on numbers answer, as plain functions. What is here: the package variables of the program, as plain data. What is here: the contract of the library's IndexByteString. What is here: the numbers of the library's functions in this program, and that they are laid as the kit's shelf wants them. What is here: contracts of strconv.ParseInt and strconv.FormatInt, from the kit's shelf. What is here: the contracts of all functions of the seat. What is here: letters, digits; the small functions of both scanners. What is here: the loops of both scanners that go on over letters and digits. What is here: words. What is here: hexadecimal numbers. What is here: hexadecimal number tokens on both sides. What is here: decimal and float tokens on both sides. -/
import Derived.Test.YtnoddjddkbhnbaaGreatDoorO3
import Derived.Lib.ParseIntB
import Derived.Lib.ItoaNum
import Derived.Lib.LaidTab
import Derived.Shelf.Strconv.Itoa4
import Derived.Test.YtnoddjddkbhnbaaGreatDoorProg
import Derived.Test.YtnoddjddkbhnbaaGreatDoorRows
import Derived.Test.YtnoddjddkbhnbaaGreatDoorTie
import Derived.Shelf.Strconv.ParseIntPublic10
import Derived.KernelRfl
import Derived.WalkKit
import Derived.ProofKit
import Derived.OpenShut
import Derived.ShutString
import Derived.ChangeOld
import Derived.Below
import Derived.SizedLaws
import Derived.LaidMore
import Derived.Lay
import Derived.SevenTiedAt
import Derived.Stop.Joined
set_option linter.unusedVariables false
set_option linter.unusedSimpArgs false
set_option maxRecDepth 100000
section
namespace Go.Abs.Bld
def places : List (Nat × Nat × Nat) := [(72, 0, 2), (87, 1, 3)]
@[reducible] def bp : VSp := .one (.ptr false (0, places) .bld)
def idx : List Int → Int → Int → Int
 | [], _, _ => -1
 | x :: r, c, n => bif decide (x = c) then n else idx r c (n + 1)
def ax5 (x : List Int × Int × Unit) : Option (Int × Unit × Unit × Unit) := some (idx x.1 (byte x.2.1) 0, (), (), ())
end Go.Abs.Bld
end

section
namespace Go.Abs.Lx
def words : List (List Int) := [[97, 110, 100], [98, 114, 101, 97, 107], [99, 97, 116, 99, 104], [99, 111, 110, 115, 116], [100, 101, 102, 101, 114], [101, 108, 105, 102], [101, 108, 115, 101], [102, 97, 108, 115, 101], [102, 110], [102, 111, 114], [105, 102], [105, 110], [108, 101, 116], [110, 101, 120, 116], [110, 105, 108], [110, 111, 116], [111, 114], [114, 101, 116, 117, 114, 110], [116, 104, 114, 111, 119], [116, 114, 117, 101], [116, 114, 121], [119, 104, 105, 108, 101]]
def ah0 : List (List Int) := [[40], [41], [123], [125], [91], [93], [44], [61], [46], [46, 46, 46], [35]]
def aA9 : List (List Int) := [[43], [45], [42], [47], [47, 47], [37], [38], [124], [126], [60, 60], [62, 62], [46, 46], [61, 61], [126, 61], [60], [60, 61], [62], [62, 61]]
def u8s (l : List Int) : List UInt8 := l.map fun c => c.toNat.toUInt8
def ag5 (x : List Int × Int × Int × Unit) : Option ((Int × Bool × Unit) × Unit × Unit × Unit × Unit) :=
 bif decide (x.2.1 = 10) && decide (x.2.2.1 = 64) && fits x.1.length then
  match Lib.parseIntB 64 (u8s x.1) with
  | .ok v => some ((v, true, ()), (), (), (), ())
  | .range => some ((Lib.intSat 64 (u8s x.1), false, ()), (), (), (), ())
  | _ => none
 else none
def bW4 : List Cell := Lib.pow10Tab.map fun z => .v (.int .u64) z
def tables (k : Nat) : Option (List Cell) := bif Nat.beq k 1 then some bW4 else bif Nat.beq k 8 then some [.err false] else none
theorem bj0 (s : ByteArray) : u8s (bytesOf s) = s.data.toList := by
 unfold u8s bytesOf
 rw [List.map_map]
 have : ((fun c : Int => c.toNat.toUInt8) ∘ fun b : UInt8 => (b.toNat : Int)) = id := by
  funext b
  simp
 rw [this, List.map_id]
end Go.Abs.Lx
end

section
set_option maxRecDepth 100000
namespace Go.Abs.D
open Go.Proofs
abbrev n7 : Ty := (.pr (.int .i64) (.pr (.int .i64) (.pr (.int .i64) (.pr (.int .i64) (.pr (.int .i64) (.pr .str .un))))))
abbrev b8 : Ty := (.pr (.int .i64) (.pr (.int .i64) (.pr (.int .i64) (.pr (.int .i64) (.pr (.int .i64) (.pr (.int .i64) (.pr .str (.pr (.sl .str) (.pr (.sl (.int .i64)) .un)))))))))
abbrev u7 : Ty := (.pr .str (.pr (.int .i64) (.pr (.int .i64) (.pr (.int .i64) .un))))
abbrev vs0 : VSp := .one (.ptr true (100, []) (.pr (.pub (.int .i64)) (.pr (.pub (.int .i64)) (.pr (.pub (.int .i64)) (.pr (.pub (.int .i64)) (.pr (.pub (.int .i64)) (.pr (.pub .str) .un)))))))
abbrev vs1 : VSp := .one (.ptr true (56, []) (.pr (.pub (.int .i64)) (.pr (.pub (.int .i64)) (.pr (.pub (.int .i64)) (.pr (.pub (.int .i64)) (.pr (.pub (.int .i64)) (.pr (.pub (.int .i64)) (.pr (.pub .str) (.pr (.pub (.sl .str)) (.pr (.pub (.sl (.int .i64))) .un))))))))))
abbrev vs2 : VSp := .one (.pub (.int .i64))
abbrev vs3 : VSp := .one (.ptr true (30, []) (.pr (.pub (.sl b8)) .un))
abbrev vs4 : VSp := .agg (.pr (.pub (.int .i64)) (.pr (.pub (.int .i64)) (.pr (.pub (.int .i64)) (.pr (.pub (.int .i64)) (.pr (.pub (.int .i64)) (.pr (.pub (.int .i64)) (.pr (.pub .str) (.pr (.pub (.sl .str)) (.pr (.pub (.sl (.int .i64))) .un)))))))))
abbrev vs5 : VSp := .one (.ptr true (52, []) (.pr (.pub (.int .i64)) (.pr (.pub (.int .i64)) .un)))
abbrev vs6 : VSp := .one (.pub .bool)
abbrev vs7 : VSp := .agg (.pr (.pub (.int .i64)) (.pr (.pub (.int .i64)) (.pr (.pub (.int .i64)) (.pr (.pub (.int .i64)) (.pr (.pub (.int .i64)) (.pr (.pub .str) .un))))))
abbrev vs8 : VSp := .one (.pub .str)
abbrev vs9 : VSp := .one (.ptr true (3, []) (.pub (.int .i64)))
abbrev aM7 : VSp := .one (.own (.int .i64) true)
abbrev aV1 : VSp := .one (.pub (.sl (.int .i64)))
abbrev ba0 : VSp := .agg (.pr (.pub (.sl b8)) .un)
abbrev aV0 : VSp := .one (.pub (.int .u64))
abbrev bB3 : VSp := .one (.ptr true (2, []) (.pub (.int .i64)))
abbrev bK0 : VSp := .one (.ptr true (26, []) (.own (.int .i64) true))
abbrev bL9 : VSp := .one (.ptr true (26, []) (.pub (.sl (.int .i64))))
abbrev bn6 : VSp := .one (.pub (.sl b8))
abbrev bH9 : VSp := .one (.ptr true (9, []) (.pub .str))
abbrev bo7 : VSp := .one (.own u7 true)
abbrev bt1 : VSp := .one (.pub (.int .u8))
abbrev bA8 : VSp := .one (.pub (.sl .str))
abbrev bw7 : VSp := .one (.own .str true)
abbrev bL4 : VSp := .one (.own (.int .u8) true)
abbrev bT9 : VSp := .one (.ptr true (37, []) (.own u7 true))
abbrev bX3 : VSp := .agg (.pr (.pub .str) (.pr (.pub (.int .i64)) (.pr (.pub (.int .i64)) (.pr (.pub (.int .i64)) .un))))
abbrev bQ1 : VSp := .one (.pub (.sl u7))
abbrev bX5 : VSp := .agg (.pr (.pub (.int .i64)) (.pr (.pub (.int .i64)) .un))
abbrev bR2 : VSp := .one (.own b8 true)
abbrev bU4 : VSp := .one (.pub (.int .i32))
abbrev bW7 : VSp := .one (.pub (.sl (.int .u8)))
abbrev bN8 : VSp := .one .err
def sig (f : Nat) : Sig :=
 bif Nat.beq f 112 then ⟨[bA8, vs2], .val vs2⟩ else
 bif Nat.beq f 113 then ⟨[aV1, vs2], .val vs2⟩ else
 bif Nat.beq f 70 then ⟨[vs4, vs2], .val vs2⟩ else
 bif Nat.beq f 37 then ⟨[bn6, vs2], .val vs2⟩ else
 bif Nat.beq f 10 then ⟨[ba0, vs2], .val vs2⟩ else
 bif Nat.beq f 117 then ⟨[bA8], .val bw7⟩ else
 bif Nat.beq f 118 then ⟨[aV1], .val aM7⟩ else
 bif Nat.beq f 73 then ⟨[vs4], .val (.agg (.pr (.pub (.int .i64)) (.pr (.pub (.int .i64)) (.pr (.pub (.int .i64)) (.pr (.pub (.int .i64)) (.pr (.pub (.int .i64)) (.pr (.pub (.int .i64)) (.pr (.pub .str) (.pr (.own .str true) (.pr (.own (.int .i64) true) .un))))))))))⟩ else
 bif Nat.beq f 39 then ⟨[bn6], .val bR2⟩ else
 bif Nat.beq f 12 then ⟨[ba0], .val (.agg (.pr (.own b8 true) .un))⟩ else
 bif Nat.beq f 114 then ⟨[vs2], .val vs6⟩ else
 bif Nat.beq f 178 then ⟨[ba0, vs4, vs2], .val vs2⟩ else
 bif Nat.beq f 179 then ⟨[vs4, vs6, vs6, vs6, vs6], .val vs6⟩ else
 bif Nat.beq f 211 then ⟨[bt1], .val vs6⟩ else
 bif Nat.beq f 210 then ⟨[vs8, vs2], .val bt1⟩ else
 bif Nat.beq f 213 then ⟨[bt1], .val vs6⟩ else
 bif Nat.beq f 202 then ⟨[], .val bw7⟩ else
 bif Nat.beq f 212 then ⟨[vs8, vs7], .tup [vs7, vs2]⟩ else
 bif Nat.beq f 250 then ⟨[bt1], .val vs2⟩ else
 bif Nat.beq f 249 then ⟨[vs8, vs7], .tup [vs7, vs2]⟩ else
 bif Nat.beq f 214 then ⟨[vs8, vs7], .tup [vs7, vs2]⟩ else
 bif Nat.beq f 215 then ⟨[vs8, vs7], .tup [vs7, vs2]⟩ else
 bif Nat.beq f 203 then ⟨[], .val bw7⟩ else
 bif Nat.beq f 204 then ⟨[vs8], .val vs2⟩ else
 bif Nat.beq f 144 then ⟨[vs8, vs2], .tup [vs7, vs2]⟩ else
 bif Nat.beq f 184 then ⟨[vs8], .val vs6⟩ else
 bif Nat.beq f 180 then ⟨[vs4, vs2, vs2], .val vs6⟩ else
 bif Nat.beq f 242 then ⟨[vs2], .val vs6⟩ else
 bif Nat.beq f 181 then ⟨[ba0, vs4, vs2, vs2], .val vs6⟩ else
 bif Nat.beq f 182 then ⟨[vs2], .val vs6⟩ else
 bif Nat.beq f 115 then ⟨[ba0, vs4], .val vs6⟩ else
 bif Nat.beq f 183 then ⟨[vs8], .val vs6⟩ else
 bif Nat.beq f 116 then ⟨[ba0, vs4], .val vs6⟩ else
 bif Nat.beq f 71 then ⟨[ba0, vs2], .val vs6⟩ else
 bif Nat.beq f 72 then ⟨[ba0], .val aM7⟩ else
 bif Nat.beq f 38 then ⟨[ba0], .val bX5⟩ else
 bif Nat.beq f 44 then ⟨[ba0, vs2, vs8, vs2], .val bo7⟩ else
 bif Nat.beq f 19 then ⟨[ba0], .val bo7⟩ else
 bif Nat.beq f 185 then ⟨[vs2, vs2, vs2], .val vs6⟩ else
 bif Nat.beq f 153 then ⟨[bt1], .val vs6⟩ else
 bif Nat.beq f 154 then ⟨[bt1], .val vs6⟩ else
 bif Nat.beq f 155 then ⟨[vs8], .val vs2⟩ else
 bif Nat.beq f 157 then ⟨[bt1], .val vs6⟩ else
 bif Nat.beq f 257 then ⟨[bt1], .val bt1⟩ else
 bif Nat.beq f 258 then ⟨[vs8], .val vs6⟩ else
 bif Nat.beq f 236 then ⟨[vs8, vs2, vs2], .tup [aV0, bN8]⟩ else
 bif Nat.beq f 158 then ⟨[vs8, vs2, vs2], .tup [aV0, bN8]⟩ else
 bif Nat.beq f 156 then ⟨[vs8, vs2], .tup [vs7, vs6]⟩ else
 bif Nat.beq f 125 then ⟨[vs8, bt1], .val vs2⟩ else
 bif Nat.beq f 81 then ⟨[vs8, bt1], .val vs2⟩ else
 bif Nat.beq f 139 then ⟨[vs2], .val vs8⟩ else
 bif Nat.beq f 234 then ⟨[vs8, vs8], .val vs6⟩ else
 bif Nat.beq f 152 then ⟨[vs8, vs8], .val vs6⟩ else
 bif Nat.beq f 101 then ⟨[vs8, vs2], .tup [vs7, vs6]⟩ else
 bif Nat.beq f 243 then ⟨[vs8, vs2], .val vs6⟩ else
 bif Nat.beq f 186 then ⟨[vs8], .val vs6⟩ else
 bif Nat.beq f 191 then ⟨[vs2], .val vs6⟩ else
 bif Nat.beq f 189 then ⟨[vs6, vs6, vs6, vs6, vs9, vs9, bB3, bH9], .val vs6⟩ else
 bif Nat.beq f 188 then ⟨[vs2], .val vs6⟩ else
 bif Nat.beq f 187 then ⟨[vs2, vs2, bL9], .val vs6⟩ else
 bif Nat.beq f 192 then ⟨[vs8], .val vs6⟩ else
 bif Nat.beq f 190 then ⟨[vs9, bL9], .val vs6⟩ else
 bif Nat.beq f 119 then ⟨[ba0, vs2], .val vs6⟩ else
 bif Nat.beq f 74 then ⟨[ba0], .val bX5⟩ else
 bif Nat.beq f 40 then ⟨[ba0], .val vs6⟩ else
 bif Nat.beq f 45 then ⟨[vs2, vs2, vs8, vs3, bT9, .one (.slf 45 3)], .none⟩ else
 bif Nat.beq f 20 then ⟨[ba0], .val bo7⟩ else
 bif Nat.beq f 46 then ⟨[bX3, bX3], .val vs6⟩ else
 bif Nat.beq f 21 then ⟨[bQ1, bQ1], .val vs6⟩ else
 bif Nat.beq f 120 then ⟨[bA8, bA8], .val vs6⟩ else
 bif Nat.beq f 14 then ⟨[aV1, aV1], .val vs6⟩ else
 bif Nat.beq f 75 then ⟨[vs4, vs4], .val vs6⟩ else
 bif Nat.beq f 42 then ⟨[bn6, bn6], .val vs6⟩ else
 bif Nat.beq f 15 then ⟨[ba0, ba0], .val vs6⟩ else
 bif Nat.beq f 47 then ⟨[vs2], .val vs8⟩ else
 bif Nat.beq f 76 then ⟨[.one (.lnd .str true), vs2], .val vs2⟩ else
 bif Nat.beq f 17 then ⟨[.one (.lnd (.int .i64) true), vs2], .val vs2⟩ else
 bif Nat.beq f 43 then ⟨[.one (.lnd b8 true), vs2], .val vs2⟩ else
 bif Nat.beq f 16 then ⟨[.agg (.pr (.lnd b8 true) .un), vs2], .val vs2⟩ else
 bif Nat.beq f 22 then ⟨[.one (.lnd u7 true), vs2], .val vs2⟩ else
 bif Nat.beq f 23 then ⟨[bQ1, vs2], .val vs2⟩ else
 bif Nat.beq f 4 then ⟨[ba0], .val vs6⟩ else
 ⟨[], .none⟩
def fns : List Nat := [112, 113, 70, 37, 10, 117, 118, 73, 39, 12, 114, 178, 179, 211, 210, 213, 202, 212, 250, 249, 214, 215, 203, 204, 144, 184, 180, 242, 181, 182, 115, 183, 116, 71, 72, 38, 44, 19, 185, 153, 154, 155, 157, 257, 258, 236, 158, 156, 125, 81, 139, 234, 152, 101, 243, 186, 191, 189, 188, 187, 192, 190, 119, 74, 40, 45, 20, 46, 21, 120, 14, 75, 42, 15, 47, 76, 17, 43, 16, 22, 23, 4]
def known (f : Nat) : Bool := fns.any (Nat.beq f)
def aC4 (f : Nat) : List Nat :=
 bif Nat.beq f 189 then [4, 5, 6, 7] else
 bif Nat.beq f 187 then [2] else
 bif Nat.beq f 190 then [0, 1] else
 bif Nat.beq f 45 then [3, 4, 5] else
 bif Nat.beq f 76 then [0] else
 bif Nat.beq f 17 then [0] else
 bif Nat.beq f 43 then [0] else
 bif Nat.beq f 16 then [0] else
 bif Nat.beq f 22 then [0] else
 []
def kk (f : Nat) (k : Bool) (r a : Nat) (b : Bool) (c : Nat) : Bool := Nat.beq f a && k == b && Nat.beq r c
def ao9 (f : Nat) (k : Bool) (r : Nat) : Bool := kk f k r 14 true 4 || kk f k r 17 true 2 || kk f k r 21 true 4 || kk f k r 22 true 2 || kk f k r 23 true 2 || kk f k r 37 true 5 || kk f k r 38 true 4 || kk f k r 38 true 11 || kk f k r 38 true 20 || kk f k r 38 true 23 || kk f k r 38 true 28 || kk f k r 39 true 3 || kk f k r 42 true 4 || kk f k r 43 true 2 || kk f k r 44 false 7 || kk f k r 44 true 8 || kk f k r 44 false 13 || kk f k r 44 true 14 || kk f k r 45 false 4 || kk f k r 45 true 8 || kk f k r 47 true 4 || kk f k r 71 true 5 || kk f k r 72 true 3 || kk f k r 72 true 8 || kk f k r 74 true 5 || kk f k r 74 true 12 || kk f k r 74 true 16 || kk f k r 74 true 27 || kk f k r 74 true 30 || kk f k r 74 true 35 || kk f k r 76 true 2 || kk f k r 101 true 5 || kk f k r 101 true 18 || kk f k r 101 true 39 || kk f k r 101 true 49 || kk f k r 112 true 5 || kk f k r 115 true 5 || kk f k r 115 true 21 || kk f k r 115 false 28 || kk f k r 115 false 41 || kk f k r 115 false 46 || kk f k r 116 false 7 || kk f k r 116 false 18 || kk f k r 116 true 31 || kk f k r 116 false 46 || kk f k r 117 true 3 || kk f k r 118 true 3 || kk f k r 119 true 6 || kk f k r 119 true 13 || kk f k r 119 true 26 || kk f k r 119 true 42 || kk f k r 119 false 50 || kk f k r 119 false 65 || kk f k r 119 false 72 || kk f k r 119 false 84 || kk f k r 119 true 97 || kk f k r 120 true 4 || kk f k r 144 true 14 || kk f k r 155 true 2 || kk f k r 156 true 5 || kk f k r 156 true 15 || kk f k r 156 false 17 || kk f k r 156 true 20 || kk f k r 156 false 22 || kk f k r 156 false 26 || kk f k r 156 true 29 || kk f k r 156 false 31 || kk f k r 180 true 4 || kk f k r 181 true 2 || kk f k r 187 true 2 || kk f k r 204 true 3 || kk f k r 204 true 9 || kk f k r 212 true 2 || kk f k r 212 true 8 || kk f k r 214 true 7 || kk f k r 214 false 9 || kk f k r 214 true 12 || kk f k r 214 false 14 || kk f k r 214 true 21 || kk f k r 214 false 23 || kk f k r 214 true 26 || kk f k r 215 true 4 || kk f k r 215 false 24 || kk f k r 215 true 27 || kk f k r 236 false 21 || kk f k r 236 false 25 || kk f k r 236 false 32 || kk f k r 236 true 36 || kk f k r 236 false 46 || kk f k r 249 true 3 || kk f k r 258 false 5 || kk f k r 258 false 10 || kk f k r 258 true 10
def cut (f : Nat) (k : Bool) (r : Nat) : Cut :=
 bif kk f k r 14 true 4 then ⟨[0, 1, 5], [aV1, aV1, vs2], [⟨.ret, [4], [vs6], []⟩, ⟨.exit 0, [], [], []⟩], []⟩ else
 bif kk f k r 17 true 2 then ⟨[0, 1, 5], [aM7, vs2, vs2], [⟨.exit 0, [0, 1], [aM7, vs2], []⟩], []⟩ else
 bif kk f k r 21 true 4 then ⟨[0, 1, 5], [bQ1, bQ1, vs2], [⟨.ret, [4], [vs6], []⟩, ⟨.exit 0, [], [], []⟩], []⟩ else
 bif kk f k r 22 true 2 then ⟨[0, 1, 5], [bo7, vs2, vs2], [⟨.exit 0, [0, 1], [bo7, vs2], []⟩], []⟩ else
 bif kk f k r 23 true 2 then ⟨[0, 1, 5], [bQ1, vs2, vs2], [⟨.ret, [4], [vs2], []⟩, ⟨.exit 0, [1], [vs2], []⟩], []⟩ else
 bif kk f k r 37 true 5 then ⟨[0, 1, 5], [bn6, vs2, vs2], [⟨.ret, [4], [vs2], []⟩, ⟨.exit 0, [1], [vs2], []⟩], []⟩ else
 bif kk f k r 38 true 4 then ⟨[1, 2, 38, 39], [vs3, vs5, vs2, vs2], [⟨.ret, [2], [vs5], []⟩, ⟨.exit 0, [1, 2], [vs3, vs5], []⟩], []⟩ else
 bif kk f k r 38 true 11 then ⟨[1, 2, 4, 51, 52, 53], [vs3, vs5, aV1, aV1, vs2, vs2], [⟨.ret, [2], [vs5], []⟩, ⟨.exit 2, [1, 2, 4], [vs3, vs5, aV1], []⟩], []⟩ else
 bif kk f k r 38 true 20 then ⟨[1, 2, 7, 8], [vs3, vs5, aM7, vs2], [⟨.exit 4, [2, 7], [vs5, aM7], []⟩], []⟩ else
 bif kk f k r 38 true 23 then ⟨[1, 2, 7, 8, 93, 94, 95], [vs3, vs5, aM7, vs2, aV1, vs2, vs2], [⟨.exit 6, [1, 2, 7, 8], [vs3, vs5, aM7, vs2], []⟩], []⟩ else
 bif kk f k r 38 true 28 then ⟨[2, 108, 109, 110], [vs5, aM7, vs2, vs2], [⟨.ret, [2], [vs5], []⟩, ⟨.exit 8, [2], [vs5], []⟩], []⟩ else
 bif kk f k r 39 true 3 then ⟨[0, 3, 4], [bn6, bR2, vs2], [⟨.exit 0, [3], [bR2], []⟩], []⟩ else
 bif kk f k r 42 true 4 then ⟨[0, 1, 5], [bn6, bn6, vs2], [⟨.ret, [4], [vs6], []⟩, ⟨.exit 0, [], [], []⟩], []⟩ else
 bif kk f k r 43 true 2 then ⟨[0, 1, 5], [bR2, vs2, vs2], [⟨.exit 0, [0, 1], [bR2, vs2], []⟩], []⟩ else
 bif kk f k r 44 false 7 then ⟨[4, 9, 10, 11], [vs3, vs1, bo7, vs2], [⟨.ret, [8], [bo7], []⟩], []⟩ else
 bif kk f k r 44 true 8 then ⟨[4, 9, 10, 11, 38, 39, 40], [vs3, vs1, bo7, vs2, aV1, vs2, vs2], [⟨.exit 0, [10], [bo7], []⟩], []⟩ else
 bif kk f k r 44 false 13 then ⟨[4, 9, 10, 11, 13, 14, 38, 39, 40], [vs3, vs1, bo7, vs2, vs2, vs8, aV1, vs2, vs2], [⟨.normal, [4, 9, 10, 11, 38, 39, 40], [vs3, vs1, bo7, vs2, aV1, vs2, vs2], []⟩], []⟩ else
 bif kk f k r 44 true 14 then ⟨[4, 9, 10, 11, 38, 39, 40, 55, 56, 57], [vs3, vs1, bo7, vs2, aV1, vs2, vs2, bo7, vs2, vs2], [⟨.exit 2, [4, 9, 10, 11, 38, 39, 40], [vs3, vs1, bo7, vs2, aV1, vs2, vs2], []⟩], []⟩ else
 bif kk f k r 45 false 4 then ⟨[1, 3, 4, 5, 9], [vs2, vs3, bT9, .one (.slf 45 3), vs1], [⟨.normal, [3, 4], [vs3, bT9], []⟩], []⟩ else
 bif kk f k r 45 true 8 then ⟨[1, 3, 4, 5, 10, 40, 41, 42], [vs2, vs3, bT9, .one (.slf 45 3), vs8, aV1, vs2, vs2], [⟨.exit 0, [3, 4], [vs3, bT9], []⟩], []⟩ else
 bif kk f k r 47 true 4 then ⟨[0, 3], [vs2, vs8], [⟨.exit 0, [3], [vs8], []⟩], []⟩ else
 bif kk f k r 71 true 5 then ⟨[1, 2, 5, 35, 36, 37], [vs2, vs3, vs1, aV1, vs2, vs2], [⟨.ret, [4], [vs6], []⟩, ⟨.exit 0, [2, 5], [vs3, vs1], []⟩], []⟩ else
 bif kk f k r 72 true 3 then ⟨[3, 15, 16, 17], [aM7, bn6, vs2, vs2], [⟨.exit 0, [3], [aM7], []⟩], []⟩ else
 bif kk f k r 72 true 8 then ⟨[3, 4, 5, 6, 7, 8, 15, 16, 17], [aM7, vs2, vs1, vs2, vs6, vs2, bn6, vs2, vs2], [⟨.exit 2, [3, 4, 6, 7, 15, 16, 17], [aM7, vs2, vs2, vs6, bn6, vs2, vs2], []⟩], []⟩ else
 bif kk f k r 74 true 5 then ⟨[1, 2, 3, 37, 38], [vs3, vs5, vs2, vs2, vs2], [⟨.ret, [2], [vs5], []⟩, ⟨.exit 0, [1, 2, 3], [vs3, vs5, vs2], []⟩], []⟩ else
 bif kk f k r 74 true 12 then ⟨[1, 2, 3, 5, 51, 52, 53], [vs3, vs5, vs2, aM7, bn6, vs2, vs2], [⟨.ret, [2], [vs5], []⟩, ⟨.exit 2, [1, 2, 3], [vs3, vs5, vs2], []⟩], []⟩ else
 bif kk f k r 74 true 16 then ⟨[1, 2, 3, 5, 6, 7, 8, 9, 51, 52, 53], [vs3, vs5, vs2, aM7, vs2, vs1, vs2, vs2, bn6, vs2, vs2], [⟨.ret, [2], [vs5], []⟩, ⟨.exit 4, [1, 2, 3, 5, 6, 8, 51, 52, 53], [vs3, vs5, vs2, aM7, vs2, vs2, bn6, vs2, vs2], []⟩], []⟩ else
 bif kk f k r 74 true 27 then ⟨[1, 2, 10, 11], [vs3, vs5, aM7, vs2], [⟨.exit 6, [2, 10], [vs5, aM7], []⟩], []⟩ else
 bif kk f k r 74 true 30 then ⟨[1, 2, 10, 11, 113, 114, 115], [vs3, vs5, aM7, vs2, aV1, vs2, vs2], [⟨.exit 8, [1, 2, 10, 11], [vs3, vs5, aM7, vs2], []⟩], []⟩ else
 bif kk f k r 74 true 35 then ⟨[2, 10, 129, 130], [vs5, aM7, vs2, vs2], [⟨.ret, [2], [vs5], []⟩, ⟨.exit 10, [2], [vs5], []⟩], []⟩ else
 bif kk f k r 76 true 2 then ⟨[0, 1, 5], [bw7, vs2, vs2], [⟨.exit 0, [0, 1], [bw7, vs2], []⟩], []⟩ else
 bif kk f k r 101 true 5 then ⟨[0, 1, 4, 7], [vs8, vs2, vs0, vs2], [⟨.exit 1, [0, 1, 4, 7], [vs8, vs2, vs0, vs2], []⟩], []⟩ else
 bif kk f k r 101 true 18 then ⟨[0, 4, 8, 9], [vs8, vs0, bL4, vs2], [⟨.ret, [4, 5], [vs0, vs6], []⟩], []⟩ else
 bif kk f k r 101 true 39 then ⟨[0, 4, 8, 9, 11], [vs8, vs0, bL4, vs2, vs2], [⟨.ret, [4, 5], [vs0, vs6], []⟩, ⟨.exit 5, [0, 4, 8, 9], [vs8, vs0, bL4, vs2], []⟩], []⟩ else
 bif kk f k r 101 true 49 then ⟨[0, 1, 4, 14, 15], [vs8, vs2, vs0, vs2, vs2], [⟨.exit 7, [1, 4], [vs2, vs0], []⟩], []⟩ else
 bif kk f k r 112 true 5 then ⟨[0, 1, 5], [bA8, vs2, vs2], [⟨.ret, [4], [vs2], []⟩, ⟨.exit 0, [1], [vs2], []⟩], []⟩ else
 bif kk f k r 115 true 5 then ⟨[2, 3, 17, 18], [vs3, vs1, vs2, vs2], [⟨.ret, [4], [vs6], []⟩, ⟨.exit 1, [3], [vs1], []⟩], []⟩ else
 bif kk f k r 115 true 21 then ⟨[2, 3, 5, 7], [vs3, vs1, vs2, vs2], [⟨.ret, [4], [vs6], []⟩, ⟨.exit 3, [2, 3, 5], [vs3, vs1, vs2], []⟩], []⟩ else
 bif kk f k r 115 false 28 then ⟨[2, 3, 5, 12, 113], [vs3, vs1, vs2, vs2, vs6], [⟨.ret, [4], [vs6], []⟩, ⟨.normal, [2, 3, 5], [vs3, vs1, vs2], []⟩], []⟩ else
 bif kk f k r 115 false 41 then ⟨[2, 3, 5, 12, 240], [vs3, vs1, vs2, vs2, vs6], [⟨.ret, [4], [vs6], []⟩, ⟨.normal, [2, 3, 5], [vs3, vs1, vs2], []⟩], []⟩ else
 bif kk f k r 115 false 46 then ⟨[2, 3, 5], [vs3, vs1, vs2], [⟨.ret, [4], [vs6], []⟩], []⟩ else
 bif kk f k r 116 false 7 then ⟨[2, 3, 5, 12, 13], [vs3, vs1, vs2, vs2, vs6], [⟨.ret, [4], [vs6], []⟩, ⟨.normal, [2, 3, 5], [vs3, vs1, vs2], []⟩], []⟩ else
 bif kk f k r 116 false 18 then ⟨[2, 3, 5, 12, 72], [vs3, vs1, vs2, vs2, vs6], [⟨.ret, [4], [vs6], []⟩, ⟨.normal, [2, 3, 5], [vs3, vs1, vs2], []⟩], []⟩ else
 bif kk f k r 116 true 31 then ⟨[2, 3, 199, 200], [vs3, vs1, vs2, vs2], [⟨.ret, [4], [vs6], []⟩, ⟨.exit 1, [3], [vs1], []⟩], []⟩ else
 bif kk f k r 116 false 46 then ⟨[2, 3, 5], [vs3, vs1, vs2], [⟨.ret, [4], [vs6], []⟩], []⟩ else
 bif kk f k r 117 true 3 then ⟨[0, 3, 4], [bA8, bw7, vs2], [⟨.exit 0, [3], [bw7], []⟩], []⟩ else
 bif kk f k r 118 true 3 then ⟨[0, 3, 4], [aV1, aM7, vs2], [⟨.exit 0, [3], [aM7], []⟩], []⟩ else
 bif kk f k r 119 true 6 then ⟨[1, 2, 5, 6, 58, 59, 60], [vs2, vs3, vs1, bK0, aV1, vs2, vs2], [⟨.ret, [4], [vs6], []⟩, ⟨.exit 0, [5, 6], [vs1, bK0], []⟩], []⟩ else
 bif kk f k r 119 true 13 then ⟨[5, 6, 80, 81, 82], [vs1, bK0, bA8, vs2, vs2], [⟨.ret, [4], [vs6], []⟩, ⟨.exit 2, [5, 6], [vs1, bK0], []⟩], []⟩ else
 bif kk f k r 119 true 26 then ⟨[11, 12, 13, 14, 108, 109, 110], [vs9, vs9, bB3, bH9, aM7, vs2, vs2], [⟨.ret, [4], [vs6], []⟩, ⟨.exit 5, [11, 12, 13, 14], [vs9, vs9, bB3, bH9], [(17, 189, [11, 12, 13, 14])]⟩], [(17, 189, [11, 12, 13, 14])]⟩ else
 bif kk f k r 119 true 42 then ⟨[6, 13, 16, 184, 185, 186], [bL9, bB3, vs9, aV1, vs2, vs2], [⟨.ret, [4], [vs6], []⟩, ⟨.exit 7, [6, 13, 16], [bL9, bB3, vs9], [(15, 187, [6])]⟩], [(15, 187, [6])]⟩ else
 bif kk f k r 119 false 50 then ⟨[6, 11, 12, 13, 14, 16, 105, 205], [bK0, vs9, vs9, bB3, bH9, vs9, vs2, vs6], [⟨.ret, [4], [vs6], []⟩, ⟨.normal, [], [], []⟩], [(15, 187, [6]), (17, 189, [11, 12, 13, 14]), (18, 190, [16, 6])]⟩ else
 bif kk f k r 119 false 65 then ⟨[6, 11, 12, 13, 14, 16, 105, 328], [bK0, vs9, vs9, bB3, bH9, vs9, vs2, vs6], [⟨.ret, [4], [vs6], []⟩, ⟨.normal, [], [], []⟩], [(15, 187, [6]), (17, 189, [11, 12, 13, 14]), (18, 190, [16, 6])]⟩ else
 bif kk f k r 119 false 72 then ⟨[6, 11, 12, 13, 14, 16, 105, 378], [bK0, vs9, vs9, bB3, bH9, vs9, vs2, vs6], [⟨.ret, [4], [vs6], []⟩, ⟨.normal, [], [], []⟩], [(15, 187, [6]), (17, 189, [11, 12, 13, 14]), (18, 190, [16, 6])]⟩ else
 bif kk f k r 119 false 84 then ⟨[6, 11, 12, 13, 14, 16, 105, 436], [bK0, vs9, vs9, bB3, bH9, vs9, vs2, vs6], [⟨.ret, [4], [vs6], []⟩, ⟨.normal, [], [], []⟩], [(15, 187, [6]), (17, 189, [11, 12, 13, 14]), (18, 190, [16, 6])]⟩ else
 bif kk f k r 119 true 97 then ⟨[11, 12, 13, 14, 529, 530, 531], [vs9, vs9, bB3, bH9, aM7, vs2, vs2], [⟨.ret, [4], [vs6], []⟩, ⟨.exit 9, [11, 12, 13, 14], [vs9, vs9, bB3, bH9], [(17, 189, [11, 12, 13, 14])]⟩], [(17, 189, [11, 12, 13, 14])]⟩ else
 bif kk f k r 120 true 4 then ⟨[0, 1, 5], [bA8, bA8, vs2], [⟨.ret, [4], [vs6], []⟩, ⟨.exit 0, [], [], []⟩], []⟩ else
 bif kk f k r 144 true 14 then ⟨[0, 1, 4, 6, 43, 44, 45], [vs8, vs2, vs0, vs0, bw7, vs2, vs2], [⟨.ret, [4, 5], [vs0, vs2], []⟩, ⟨.exit 0, [1, 4, 6], [vs2, vs0, vs0], []⟩], []⟩ else
 bif kk f k r 155 true 2 then ⟨[0, 5, 6, 7], [vs8, bA8, vs2, vs2], [⟨.ret, [2], [vs2], []⟩, ⟨.exit 0, [], [], []⟩], []⟩ else
 bif kk f k r 156 true 5 then ⟨[0, 1, 4, 6], [vs8, vs2, vs0, vs2], [⟨.exit 0, [0, 1, 4, 6], [vs8, vs2, vs0, vs2], []⟩], []⟩ else
 bif kk f k r 156 true 15 then ⟨[0, 1, 4, 6], [vs8, vs2, vs0, vs2], [⟨.exit 2, [0, 1, 4, 6], [vs8, vs2, vs0, vs2], []⟩], []⟩ else
 bif kk f k r 156 false 17 then ⟨[0, 1, 4, 6], [vs8, vs2, vs0, vs2], [⟨.ret, [4, 5], [vs0, vs6], []⟩], []⟩ else
 bif kk f k r 156 true 20 then ⟨[0, 1, 4, 6, 9], [vs8, vs2, vs0, vs2, vs2], [⟨.exit 4, [0, 1, 4, 6, 9], [vs8, vs2, vs0, vs2, vs2], []⟩], []⟩ else
 bif kk f k r 156 false 22 then ⟨[0, 1, 4, 6, 9], [vs8, vs2, vs0, vs2, vs2], [⟨.ret, [4, 5], [vs0, vs6], []⟩], []⟩ else
 bif kk f k r 156 false 26 then ⟨[0, 1, 4, 6, 9], [vs8, vs2, vs0, vs2, vs2], [⟨.ret, [4, 5], [vs0, vs6], []⟩, ⟨.normal, [0, 1, 4, 6, 9], [vs8, vs2, vs0, vs2, vs2], []⟩], []⟩ else
 bif kk f k r 156 true 29 then ⟨[0, 1, 4, 6, 9], [vs8, vs2, vs0, vs2, vs2], [⟨.exit 6, [0, 1, 4, 6, 9], [vs8, vs2, vs0, vs2, vs2], []⟩], []⟩ else
 bif kk f k r 156 false 31 then ⟨[0, 1, 4, 6, 9], [vs8, vs2, vs0, vs2, vs2], [⟨.ret, [4, 5], [vs0, vs6], []⟩], []⟩ else
 bif kk f k r 180 true 4 then ⟨[22, 23, 24], [bA8, vs2, vs2], [⟨.ret, [6], [vs6], []⟩, ⟨.exit 0, [], [], []⟩], []⟩ else
 bif kk f k r 181 true 2 then ⟨[3, 4, 5, 9], [vs2, vs3, vs1, vs2], [⟨.ret, [8], [vs6], []⟩, ⟨.exit 0, [], [], []⟩], []⟩ else
 bif kk f k r 187 true 2 then ⟨[2, 11, 12, 13], [bL9, aV1, vs2, vs2], [⟨.ret, [2, 5], [bL9, vs6], []⟩, ⟨.exit 0, [2], [bL9], []⟩], []⟩ else
 bif kk f k r 204 true 3 then ⟨[0, 3, 4], [vs8, bw7, vs2], [⟨.ret, [2], [vs2], []⟩, ⟨.exit 0, [0], [vs8], []⟩], []⟩ else
 bif kk f k r 204 true 9 then ⟨[0, 24, 25, 26], [vs8, bw7, vs2, vs2], [⟨.ret, [2], [vs2], []⟩, ⟨.exit 2, [], [], []⟩], []⟩ else
 bif kk f k r 212 true 2 then ⟨[0, 3, 4, 6], [vs8, vs0, vs0, vs2], [⟨.exit 0, [0, 3, 4, 6], [vs8, vs0, vs0, vs2], []⟩], []⟩ else
 bif kk f k r 212 true 8 then ⟨[3, 4, 7, 32, 33, 34], [vs0, vs0, vs8, bw7, vs2, vs2], [⟨.ret, [4, 5], [vs0, vs2], []⟩, ⟨.exit 2, [3, 4, 7], [vs0, vs0, vs8], []⟩], []⟩ else
 bif kk f k r 214 true 7 then ⟨[0, 3, 4, 6], [vs8, vs0, vs0, vs2], [⟨.exit 0, [0, 3, 4, 6], [vs8, vs0, vs0, vs2], []⟩], []⟩ else
 bif kk f k r 214 false 9 then ⟨[0, 3, 4, 6], [vs8, vs0, vs0, vs2], [⟨.ret, [4, 5], [vs0, vs2], []⟩], []⟩ else
 bif kk f k r 214 true 12 then ⟨[0, 3, 4, 6], [vs8, vs0, vs0, vs2], [⟨.exit 2, [0, 3, 4, 6], [vs8, vs0, vs0, vs2], []⟩], []⟩ else
 bif kk f k r 214 false 14 then ⟨[0, 3, 4, 6], [vs8, vs0, vs0, vs2], [⟨.ret, [4, 5], [vs0, vs2], []⟩], []⟩ else
 bif kk f k r 214 true 21 then ⟨[0, 3, 4, 6], [vs8, vs0, vs0, vs2], [⟨.exit 4, [0, 3, 4, 6], [vs8, vs0, vs0, vs2], []⟩], []⟩ else
 bif kk f k r 214 false 23 then ⟨[0, 3, 4, 6], [vs8, vs0, vs0, vs2], [⟨.ret, [4, 5], [vs0, vs2], []⟩], []⟩ else
 bif kk f k r 214 true 26 then ⟨[0, 3, 4, 6, 7, 8], [vs8, vs0, vs0, vs2, aV0, vs2], [⟨.exit 6, [0, 3, 4, 6, 7], [vs8, vs0, vs0, vs2, aV0], []⟩], []⟩ else
 bif kk f k r 215 true 4 then ⟨[0, 3, 4, 6, 7], [vs8, vs0, vs0, vs2, bL4], [⟨.ret, [4, 5], [vs0, vs2], []⟩, ⟨.exit 0, [3, 4, 6], [vs0, vs0, vs2], []⟩], []⟩ else
 bif kk f k r 215 false 24 then ⟨[0, 3, 4, 6, 7, 46, 59], [vs8, vs0, vs0, vs2, bL4, bt1, vs6], [⟨.normal, [0, 3, 4, 6, 7], [vs8, vs0, vs0, vs2, bL4], []⟩, ⟨.ret, [4, 5], [vs0, vs2], []⟩], []⟩ else
 bif kk f k r 215 true 27 then ⟨[0, 3, 4, 6, 7, 9], [vs8, vs0, vs0, vs2, bL4, vs2], [⟨.ret, [4, 5], [vs0, vs2], []⟩, ⟨.exit 3, [0, 3, 4, 6, 7], [vs8, vs0, vs0, vs2, bL4], []⟩], []⟩ else
 bif kk f k r 236 false 21 then ⟨[0, 1, 2, 8, 9], [vs8, vs2, vs2, vs6, vs8], [⟨.ret, [6, 7], [aV0, bN8], []⟩], []⟩ else
 bif kk f k r 236 false 25 then ⟨[0, 1, 2, 8, 9], [vs8, vs2, vs2, vs6, vs8], [⟨.ret, [6, 7], [aV0, bN8], []⟩], []⟩ else
 bif kk f k r 236 false 32 then ⟨[0, 1, 2, 8, 9, 10], [vs8, vs2, vs2, vs6, vs8, aV0], [⟨.ret, [6, 7], [aV0, bN8], []⟩], []⟩ else
 bif kk f k r 236 true 36 then ⟨[1, 8, 9, 10, 11, 12, 13, 99, 100, 101], [vs2, vs6, vs8, aV0, aV0, vs6, aV0, bW7, vs2, vs2], [⟨.ret, [6, 7], [aV0, bN8], []⟩, ⟨.exit 3, [9, 12, 13], [vs8, vs6, aV0], []⟩], []⟩ else
 bif kk f k r 236 false 46 then ⟨[1, 8, 9, 10, 11, 12, 13, 16, 99, 100, 101], [vs2, vs6, vs8, aV0, aV0, vs6, aV0, bt1, bW7, vs2, vs2], [⟨.ret, [6, 7], [aV0, bN8], []⟩, ⟨.normal, [1, 8, 9, 10, 11, 12, 13, 99, 100, 101], [vs2, vs6, vs8, aV0, aV0, vs6, aV0, bW7, vs2, vs2], []⟩], []⟩ else
 bif kk f k r 249 true 3 then ⟨[0, 3, 4, 6, 7], [vs8, vs0, vs0, vs2, aV0], [⟨.ret, [4, 5], [vs0, vs2], []⟩, ⟨.exit 0, [3, 4, 6, 7], [vs0, vs0, vs2, aV0], []⟩], []⟩ else
 bif kk f k r 258 false 5 then ⟨[0, 3, 4], [vs8, bU4, vs2], [⟨.ret, [2], [vs6], []⟩], []⟩ else
 bif kk f k r 258 false 10 then ⟨[0, 3, 4, 5], [vs8, bU4, vs2, vs6], [⟨.ret, [2], [vs6], []⟩], []⟩ else
 bif kk f k r 258 true 10 then ⟨[0, 3, 4, 5], [vs8, bU4, vs2, vs6], [⟨.ret, [2], [vs6], []⟩, ⟨.exit 0, [3], [bU4], []⟩], []⟩ else
 ⟨[], [], [], []⟩
def lib (f : Nat) : Option Callee :=
 bif Nat.beq f 198 then some ⟨⟨[.one (.pub .str), .one (.pub (.int .u8))], .val (.one (.pub (.int .i64)))⟩, Bld.ax5⟩ else
 bif Nat.beq f 235 then some ⟨⟨[.one (.pub .str), .one (.pub (.int .i64)), .one (.pub (.int .i64))], .tup [.one (.pub (.int .i64)), .one .err]⟩, Lx.ag5⟩ else
 none
noncomputable def S : Sys := { P := Tryz.prog, glob := fun k => bif Nat.beq k 2 then some [.v (.sl .str) Lx.words] else bif Nat.beq k 3 then some [.v (.sl .str) Lx.ah0] else bif Nat.beq k 4 then some [.v (.sl .str) Lx.aA9] else Lx.tables k, cl := 94, sig := sig, known := known, aC4 := aC4, ao9 := ao9, cut := cut, lib := lib, bors := [(4, 15), (4, 20), (4, 21), (4, 23)], nest := fun f => Nat.beq f 43, trim := fun f => Nat.beq f 146 }
theorem bS8 : (fns.all S.bP6) = true := by kernel_rfl
theorem eF {f : FuncId} {fn : Func} (h : S.P.funcs[f]? = some fn) {T : S.Tab} {x : (S.sig f).dom.den} {y : Option (S.sig f).cod.den} (e : bf5 (S.env T f fn.ntmps) fn (S.sig f) (S.bl8 T f) x = y) : (S.step T).fn f x = y := (Sys.bO5 (S := S) h T x).trans e
theorem eL {f : FuncId} {fn : Func} {c : Code} (h : S.P.funcs[f]? = some fn) (hb : fn.body = some c) {T : S.Tab} {r : Nat} {x : (A6 (S.cut f true r).as).den} {y : Option (ap8 (S.cut f true r).ws)} (e : (S.cut f true r).round (S.env T f fn.ntmps) (S.bl8 T f) (W5 true r (r8 c)) (T.pc f true r) x = y) : (S.step T).pc f true r x = y := (Sys.bG0 (S := S) h hb T x).trans e
theorem eJ {f : FuncId} {fn : Func} {c : Code} (h : S.P.funcs[f]? = some fn) (hb : fn.body = some c) {T : S.Tab} {r : Nat} {x : (A6 (S.cut f false r).as).den} {y : Option (ap8 (S.cut f false r).ws)} (e : (S.cut f false r).tail (S.env T f fn.ntmps) (S.bl8 T f) (W5 false r (r8 c)) x = y) : (S.step T).pc f false r x = y := (Sys.bG4 (S := S) h hb T x).trans e
abbrev W3 : Unit × Unit × Unit := ((), ((), ()))
def N9 (T : S.Tab) (t0 : List (List Int)) (t1 : Int) : Option (Int × Unit × Unit × Unit) := T.fn 112 (t0, t1, ())
def C5 (T : S.Tab) (t0 : List (List Int)) (t1 : Int) (t5 : Int) : Option ((Int × Unit) ⊕ (Int × Unit) ⊕ Empty) := T.pc 112 true 5 (t0, t1, t5, ())
abbrev as4 : Unit × Unit × Unit := ((), ((), ()))
def ai1 (T : S.Tab) (t0 : List Int) (t1 : Int) : Option (Int × Unit × Unit × Unit) := T.fn 113 (t0, t1, ())
abbrev U3 : (Unit × Unit × Unit × Unit × Unit × Unit × Unit × Unit × Unit × Unit) × Unit × Unit := (((), ((), ((), ((), ((), ((), ((), ((), ((), ()))))))))), ((), ()))
def X0 (T : S.Tab) (t0 : b8.den) (t1 : Int) : Option (Int × (Unit × Unit × Unit × Unit × Unit × Unit × Unit × Unit × Unit × Unit) × Unit × Unit) := T.fn 70 (t0, t1, ())
abbrev ab6 : Unit × Unit × Unit := ((), ((), ()))
def Y3 (T : S.Tab) (t0 : List b8.den) (t1 : Int) : Option (Int × Unit × Unit × Unit) := T.fn 37 (t0, t1, ())
def G3 (T : S.Tab) (t0 : List b8.den) (t1 : Int) (t5 : Int) : Option ((Int × Unit) ⊕ (Int × Unit) ⊕ Empty) := T.pc 37 true 5 (t0, t1, t5, ())
abbrev at2 : (Unit × Unit) × Unit × Unit := (((), ()), ((), ()))
def ar0 (T : S.Tab) (t0 : List b8.den × Unit) (t1 : Int) : Option (Int × (Unit × Unit) × Unit × Unit) := T.fn 10 (t0, t1, ())
abbrev au0 : Unit × Unit := ((), ())
def V5 (T : S.Tab) (t0 : List (List Int)) : Option (List (List Int) × Unit × Unit) := T.fn 117 (t0, ())
def H5 (T : S.Tab) (t0 : List (List Int)) (t3 : List (List Int)) (t4 : Int) : Option ((List (List Int) × Unit) ⊕ Empty) := T.pc 117 true 3 (t0, t3, t4, ())
abbrev aH3 : Unit × Unit := ((), ())
def ah1 (T : S.Tab) (t0 : List Int) : Option (List Int × Unit × Unit) := T.fn 118 (t0, ())
def N7 (T : S.Tab) (t0 : List Int) (t3 : List Int) (t4 : Int) : Option ((List Int × Unit) ⊕ Empty) := T.pc 118 true 3 (t0, t3, t4, ())
abbrev aE9 : (Unit × Unit × Unit × Unit × Unit × Unit × Unit × Unit × Unit × Unit) × Unit := (((), ((), ((), ((), ((), ((), ((), ((), ((), ()))))))))), ())
def at7 (T : S.Tab) (t0 : b8.den) : Option (b8.den × (Unit × Unit × Unit × Unit × Unit × Unit × Unit × Unit × Unit × Unit) × Unit) := T.fn 73 (t0, ())
abbrev aA0 : Unit × Unit := ((), ())
def ac4 (T : S.Tab) (t0 : List b8.den) : Option (List b8.den × Unit × Unit) := T.fn 39 (t0, ())
def L5 (T : S.Tab) (t0 : List b8.den) (t3 : List b8.den) (t4 : Int) : Option ((List b8.den × Unit) ⊕ Empty) := T.pc 39 true 3 (t0, t3, t4, ())
abbrev aG6 : (Unit × Unit) × Unit := (((), ()), ())
def W6 (T : S.Tab) (t0 : List b8.den × Unit) : Option ((List b8.den × Unit) × (Unit × Unit) × Unit) := T.fn 12 (t0, ())
abbrev af4 : Unit × Unit := ((), ())
def T0 (T : S.Tab) (t0 : Int) : Option (Bool × Unit × Unit) := T.fn 114 (t0, ())
abbrev Q2 : (Unit × Unit) × (Unit × Unit × Unit × Unit × Unit × Unit × Unit × Unit × Unit × Unit) × Unit × Unit := (((), ()), (((), ((), ((), ((), ((), ((), ((), ((), ((), ()))))))))), ((), ())))
def s5 (T : S.Tab) (t0 : List b8.den × Unit) (t1 : b8.den) (t2 : Int) : Option (Int × (Unit × Unit) × (Unit × Unit × Unit × Unit × Unit × Unit × Unit × Unit × Unit × Unit) × Unit × Unit) := T.fn 178 (t0, t1, t2, ())
abbrev r5 : (Unit × Unit × Unit × Unit × Unit × Unit × Unit × Unit × Unit × Unit) × Unit × Unit × Unit × Unit × Unit := (((), ((), ((), ((), ((), ((), ((), ((), ((), ()))))))))), ((), ((), ((), ((), ())))))
def r4 (T : S.Tab) (t0 : b8.den) (t1 : Bool) (t2 : Bool) (t3 : Bool) (t4 : Bool) : Option (Bool × (Unit × Unit × Unit × Unit × Unit × Unit × Unit × Unit × Unit × Unit) × Unit × Unit × Unit × Unit × Unit) := T.fn 179 (t0, t1, t2, t3, t4, ())
abbrev I8 : Unit × Unit := ((), ())
def Z8 (T : S.Tab) (t0 : Int) : Option (Bool × Unit × Unit) := T.fn 211 (t0, ())
abbrev aq5 : Unit × Unit × Unit := ((), ((), ()))
def A3 (T : S.Tab) (t0 : List Int) (t1 : Int) : Option (Int × Unit × Unit × Unit) := T.fn 210 (t0, t1, ())
abbrev an0 : Unit × Unit := ((), ())
def E6 (T : S.Tab) (t0 : Int) : Option (Bool × Unit × Unit) := T.fn 213 (t0, ())
abbrev aA1 : Unit := ()
def ax0 (T : S.Tab) : Option (List (List Int) × Unit) := T.fn 202 ()
abbrev ar1 : Unit × (Unit × Unit × Unit × Unit × Unit × Unit × Unit) × Unit := ((), (((), ((), ((), ((), ((), ((), ())))))), ()))
def at0 (T : S.Tab) (t0 : List Int) (t1 : n7.den) : Option ((n7.den × Int × Unit) × Unit × (Unit × Unit × Unit × Unit × Unit × Unit × Unit) × Unit) := T.fn 212 (t0, t1, ())
def I2 (T : S.Tab) (t0 : List Int) (t3 : n7.den) (t4 : n7.den) (t6 : Int) : Option ((List Int × n7.den × n7.den × Int × Unit) ⊕ Empty) := T.pc 212 true 2 (t0, t3, t4, t6, ())
def I0 (T : S.Tab) (t3 : n7.den) (t4 : n7.den) (t7 : List Int) (t32 : List (List Int)) (t33 : Int) (t34 : Int) : Option ((n7.den × Int × Unit) ⊕ (n7.den × n7.den × List Int × Unit) ⊕ Empty) := T.pc 212 true 8 (t3, t4, t7, t32, t33, t34, ())
abbrev ac8 : Unit × Unit := ((), ())
def aa8 (T : S.Tab) (t0 : Int) : Option (Int × Unit × Unit) := T.fn 250 (t0, ())
abbrev ab8 : Unit × (Unit × Unit × Unit × Unit × Unit × Unit × Unit) × Unit := ((), (((), ((), ((), ((), ((), ((), ())))))), ()))
def am3 (T : S.Tab) (t0 : List Int) (t1 : n7.den) : Option ((n7.den × Int × Unit) × Unit × (Unit × Unit × Unit × Unit × Unit × Unit × Unit) × Unit) := T.fn 249 (t0, t1, ())
def G4 (T : S.Tab) (t0 : List Int) (t3 : n7.den) (t4 : n7.den) (t6 : Int) (t7 : Int) : Option ((n7.den × Int × Unit) ⊕ (n7.den × n7.den × Int × Int × Unit) ⊕ Empty) := T.pc 249 true 3 (t0, t3, t4, t6, t7, ())
abbrev O3 : Unit × (Unit × Unit × Unit × Unit × Unit × Unit × Unit) × Unit := ((), (((), ((), ((), ((), ((), ((), ())))))), ()))
def T9 (T : S.Tab) (t0 : List Int) (t1 : n7.den) : Option ((n7.den × Int × Unit) × Unit × (Unit × Unit × Unit × Unit × Unit × Unit × Unit) × Unit) := T.fn 214 (t0, t1, ())
def E1 (T : S.Tab) (t0 : List Int) (t3 : n7.den) (t4 : n7.den) (t6 : Int) : Option ((n7.den × Int × Unit) ⊕ Empty) := T.pc 214 false 9 (t0, t3, t4, t6, ())
def A1 (T : S.Tab) (t0 : List Int) (t3 : n7.den) (t4 : n7.den) (t6 : Int) : Option ((n7.den × Int × Unit) ⊕ Empty) := T.pc 214 false 14 (t0, t3, t4, t6, ())
def z8 (T : S.Tab) (t0 : List Int) (t3 : n7.den) (t4 : n7.den) (t6 : Int) : Option ((n7.den × Int × Unit) ⊕ Empty) := T.pc 214 false 23 (t0, t3, t4, t6, ())
def E0 (T : S.Tab) (t0 : List Int) (t3 : n7.den) (t4 : n7.den) (t6 : Int) : Option ((List Int × n7.den × n7.den × Int × Unit) ⊕ Empty) := T.pc 214 true 7 (t0, t3, t4, t6, ())
def E5 (T : S.Tab) (t0 : List Int) (t3 : n7.den) (t4 : n7.den) (t6 : Int) : Option ((List Int × n7.den × n7.den × Int × Unit) ⊕ Empty) := T.pc 214 true 12 (t0, t3, t4, t6, ())
def A2 (T : S.Tab) (t0 : List Int) (t3 : n7.den) (t4 : n7.den) (t6 : Int) : Option ((List Int × n7.den × n7.den × Int × Unit) ⊕ Empty) := T.pc 214 true 21 (t0, t3, t4, t6, ())
def r6 (T : S.Tab) (t0 : List Int) (t3 : n7.den) (t4 : n7.den) (t6 : Int) (t7 : Int) (t8 : Int) : Option ((List Int × n7.den × n7.den × Int × Int × Unit) ⊕ Empty) := T.pc 214 true 26 (t0, t3, t4, t6, t7, t8, ())
abbrev ah8 : Unit × (Unit × Unit × Unit × Unit × Unit × Unit × Unit) × Unit := ((), (((), ((), ((), ((), ((), ((), ())))))), ()))
def af2 (T : S.Tab) (t0 : List Int) (t1 : n7.den) : Option ((n7.den × Int × Unit) × Unit × (Unit × Unit × Unit × Unit × Unit × Unit × Unit) × Unit) := T.fn 215 (t0, t1, ())
def A8 (T : S.Tab) (t0 : List Int) (t3 : n7.den) (t4 : n7.den) (t6 : Int) (t7 : List Int) (t46 : Int) (t59 : Bool) : Option ((List Int × n7.den × n7.den × Int × List Int × Unit) ⊕ (n7.den × Int × Unit) ⊕ Empty) := T.pc 215 false 24 (t0, t3, t4, t6, t7, t46, t59, ())
def p4 (T : S.Tab) (t0 : List Int) (t3 : n7.den) (t4 : n7.den) (t6 : Int) (t7 : List Int) : Option ((n7.den × Int × Unit) ⊕ (n7.den × n7.den × Int × Unit) ⊕ Empty) := T.pc 215 true 4 (t0, t3, t4, t6, t7, ())
def C4 (T : S.Tab) (t0 : List Int) (t3 : n7.den) (t4 : n7.den) (t6 : Int) (t7 : List Int) (t9 : Int) : Option ((n7.den × Int × Unit) ⊕ (List Int × n7.den × n7.den × Int × List Int × Unit) ⊕ Empty) := T.pc 215 true 27 (t0, t3, t4, t6, t7, t9, ())
abbrev aA2 : Unit := ()
def am4 (T : S.Tab) : Option (List (List Int) × Unit) := T.fn 203 ()
abbrev U1 : Unit × Unit := ((), ())
def W9 (T : S.Tab) (t0 : List Int) : Option (Int × Unit × Unit) := T.fn 204 (t0, ())
def F1 (T : S.Tab) (t0 : List Int) (t3 : List (List Int)) (t4 : Int) : Option ((Int × Unit) ⊕ (List Int × Unit) ⊕ Empty) := T.pc 204 true 3 (t0, t3, t4, ())
def I1 (T : S.Tab) (t0 : List Int) (t24 : List (List Int)) (t25 : Int) (t26 : Int) : Option ((Int × Unit) ⊕ (Unit) ⊕ Empty) := T.pc 204 true 9 (t0, t24, t25, t26, ())
abbrev Q6 : Unit × Unit × Unit := ((), ((), ()))
def L9 (T : S.Tab) (t0 : List Int) (t1 : Int) : Option ((n7.den × Int × Unit) × Unit × Unit × Unit) := T.fn 144 (t0, t1, ())
def D2 (T : S.Tab) (t0 : List Int) (t1 : Int) (t4 : n7.den) (t6 : n7.den) (t43 : List (List Int)) (t44 : Int) (t45 : Int) : Option ((n7.den × Int × Unit) ⊕ (Int × n7.den × n7.den × Unit) ⊕ Empty) := T.pc 144 true 14 (t0, t1, t4, t6, t43, t44, t45, ())
abbrev F7 : Unit × Unit := ((), ())
def C1 (T : S.Tab) (t0 : List Int) : Option (Bool × Unit × Unit) := T.fn 184 (t0, ())
abbrev S1 : (Unit × Unit × Unit × Unit × Unit × Unit × Unit × Unit × Unit × Unit) × Unit × Unit × Unit := (((), ((), ((), ((), ((), ((), ((), ((), ((), ()))))))))), ((), ((), ())))
def I6 (T : S.Tab) (t0 : b8.den) (t1 : Int) (t2 : Int) : Option (Bool × (Unit × Unit × Unit × Unit × Unit × Unit × Unit × Unit × Unit × Unit) × Unit × Unit × Unit) := T.fn 180 (t0, t1, t2, ())
def F5 (T : S.Tab) (t22 : List (List Int)) (t23 : Int) (t24 : Int) : Option ((Bool × Unit) ⊕ (Unit) ⊕ Empty) := T.pc 180 true 4 (t22, t23, t24, ())
abbrev at6 : Unit × Unit := ((), ())
def ar2 (T : S.Tab) (t0 : Int) : Option (Bool × Unit × Unit) := T.fn 242 (t0, ())
abbrev z6 : (Unit × Unit) × (Unit × Unit × Unit × Unit × Unit × Unit × Unit × Unit × Unit × Unit) × Unit × Unit × Unit := (((), ()), (((), ((), ((), ((), ((), ((), ((), ((), ((), ()))))))))), ((), ((), ()))))
def p8 (T : S.Tab) (t0 : List b8.den × Unit) (t1 : b8.den) (t2 : Int) (t3 : Int) : Option (Bool × (Unit × Unit) × (Unit × Unit × Unit × Unit × Unit × Unit × Unit × Unit × Unit × Unit) × Unit × Unit × Unit) := T.fn 181 (t0, t1, t2, t3, ())
def O7 (T : S.Tab) (t3 : Int) (t4 : List b8.den × Unit) (t5 : b8.den) (t9 : Int) : Option ((Bool × Unit) ⊕ (Unit) ⊕ Empty) := T.pc 181 true 2 (t3, t4, t5, t9, ())
abbrev aa0 : Unit × Unit := ((), ())
def af6 (T : S.Tab) (t0 : Int) : Option (Bool × Unit × Unit) := T.fn 182 (t0, ())
abbrev j8 : (Unit × Unit) × (Unit × Unit × Unit × Unit × Unit × Unit × Unit × Unit × Unit × Unit) × Unit := (((), ()), (((), ((), ((), ((), ((), ((), ((), ((), ((), ()))))))))), ()))
def R9 (T : S.Tab) (t0 : List b8.den × Unit) (t1 : b8.den) : Option (Bool × (Unit × Unit) × (Unit × Unit × Unit × Unit × Unit × Unit × Unit × Unit × Unit × Unit) × Unit) := T.fn 115 (t0, t1, ())
def J8 (T : S.Tab) (t2 : List b8.den × Unit) (t3 : b8.den) (t5 : Int) (t12 : Int) (t113 : Bool) : Option ((Bool × Unit) ⊕ ((List b8.den × Unit) × b8.den × Int × Unit) ⊕ Empty) := T.pc 115 false 28 (t2, t3, t5, t12, t113, ())
def G9 (T : S.Tab) (t2 : List b8.den × Unit) (t3 : b8.den) (t5 : Int) (t12 : Int) (t240 : Bool) : Option ((Bool × Unit) ⊕ ((List b8.den × Unit) × b8.den × Int × Unit) ⊕ Empty) := T.pc 115 false 41 (t2, t3, t5, t12, t240, ())
def C8 (T : S.Tab) (t2 : List b8.den × Unit) (t3 : b8.den) (t5 : Int) : Option ((Bool × Unit) ⊕ Empty) := T.pc 115 false 46 (t2, t3, t5, ())
def A4 (T : S.Tab) (t2 : List b8.den × Unit) (t3 : b8.den) (t17 : Int) (t18 : Int) : Option ((Bool × Unit) ⊕ (b8.den × Unit) ⊕ Empty) := T.pc 115 true 5 (t2, t3, t17, t18, ())
def s9 (T : S.Tab) (t2 : List b8.den × Unit) (t3 : b8.den) (t5 : Int) (t7 : Int) : Option ((Bool × Unit) ⊕ ((List b8.den × Unit) × b8.den × Int × Unit) ⊕ Empty) := T.pc 115 true 21 (t2, t3, t5, t7, ())
abbrev K6 : Unit × Unit := ((), ())
def M8 (T : S.Tab) (t0 : List Int) : Option (Bool × Unit × Unit) := T.fn 183 (t0, ())
abbrev s7 : (Unit × Unit) × (Unit × Unit × Unit × Unit × Unit × Unit × Unit × Unit × Unit × Unit) × Unit := (((), ()), (((), ((), ((), ((), ((), ((), ((), ((), ((), ()))))))))), ()))
def P5 (T : S.Tab) (t0 : List b8.den × Unit) (t1 : b8.den) : Option (Bool × (Unit × Unit) × (Unit × Unit × Unit × Unit × Unit × Unit × Unit × Unit × Unit × Unit) × Unit) := T.fn 116 (t0, t1, ())
def C6 (T : S.Tab) (t2 : List b8.den × Unit) (t3 : b8.den) (t5 : Int) (t12 : Int) (t13 : Bool) : Option ((Bool × Unit) ⊕ ((List b8.den × Unit) × b8.den × Int × Unit) ⊕ Empty) := T.pc 116 false 7 (t2, t3, t5, t12, t13, ())
def E3 (T : S.Tab) (t2 : List b8.den × Unit) (t3 : b8.den) (t5 : Int) (t12 : Int) (t72 : Bool) : Option ((Bool × Unit) ⊕ ((List b8.den × Unit) × b8.den × Int × Unit) ⊕ Empty) := T.pc 116 false 18 (t2, t3, t5, t12, t72, ())
def v8 (T : S.Tab) (t2 : List b8.den × Unit) (t3 : b8.den) (t5 : Int) : Option ((Bool × Unit) ⊕ Empty) := T.pc 116 false 46 (t2, t3, t5, ())
def w8 (T : S.Tab) (t2 : List b8.den × Unit) (t3 : b8.den) (t199 : Int) (t200 : Int) : Option ((Bool × Unit) ⊕ (b8.den × Unit) ⊕ Empty) := T.pc 116 true 31 (t2, t3, t199, t200, ())
abbrev B7 : (Unit × Unit) × Unit × Unit := (((), ()), ((), ()))
def z7 (T : S.Tab) (t0 : List b8.den × Unit) (t1 : Int) : Option (Bool × (Unit × Unit) × Unit × Unit) := T.fn 71 (t0, t1, ())
def B8 (T : S.Tab) (t1 : Int) (t2 : List b8.den × Unit) (t5 : b8.den) (t35 : List Int) (t36 : Int) (t37 : Int) : Option ((Bool × Unit) ⊕ ((List b8.den × Unit) × b8.den × Unit) ⊕ Empty) := T.pc 71 true 5 (t1, t2, t5, t35, t36, t37, ())
abbrev az5 : (Unit × Unit) × Unit := (((), ()), ())
def S9 (T : S.Tab) (t0 : List b8.den × Unit) : Option (List Int × (Unit × Unit) × Unit) := T.fn 72 (t0, ())
def A0 (T : S.Tab) (t3 : List Int) (t15 : List b8.den) (t16 : Int) (t17 : Int) : Option ((List Int × Unit) ⊕ Empty) := T.pc 72 true 3 (t3, t15, t16, t17, ())
def D3 (T : S.Tab) (t3 : List Int) (t4 : Int) (t5 : b8.den) (t6 : Int) (t7 : Bool) (t8 : Int) (t15 : List b8.den) (t16 : Int) (t17 : Int) : Option ((List Int × Int × Int × Bool × List b8.den × Int × Int × Unit) ⊕ Empty) := T.pc 72 true 8 (t3, t4, t5, t6, t7, t8, t15, t16, t17, ())
abbrev G2 : (Unit × Unit) × Unit := (((), ()), ())
def H9 (T : S.Tab) (t0 : List b8.den × Unit) : Option ((Int × Int × Unit) × (Unit × Unit) × Unit) := T.fn 38 (t0, ())
def F0 (T : S.Tab) (t1 : List b8.den × Unit) (t2 : Int × Int × Unit) (t38 : Int) (t39 : Int) : Option (((Int × Int × Unit) × Unit) ⊕ ((List b8.den × Unit) × (Int × Int × Unit) × Unit) ⊕ Empty) := T.pc 38 true 4 (t1, t2, t38, t39, ())
def B5 (T : S.Tab) (t1 : List b8.den × Unit) (t2 : Int × Int × Unit) (t4 : List Int) (t51 : List Int) (t52 : Int) (t53 : Int) : Option (((Int × Int × Unit) × Unit) ⊕ ((List b8.den × Unit) × (Int × Int × Unit) × List Int × Unit) ⊕ Empty) := T.pc 38 true 11 (t1, t2, t4, t51, t52, t53, ())
def M0 (T : S.Tab) (t1 : List b8.den × Unit) (t2 : Int × Int × Unit) (t7 : List Int) (t8 : Int) : Option (((Int × Int × Unit) × List Int × Unit) ⊕ Empty) := T.pc 38 true 20 (t1, t2, t7, t8, ())
def J0 (T : S.Tab) (t1 : List b8.den × Unit) (t2 : Int × Int × Unit) (t7 : List Int) (t8 : Int) (t93 : List Int) (t94 : Int) (t95 : Int) : Option (((List b8.den × Unit) × (Int × Int × Unit) × List Int × Int × Unit) ⊕ Empty) := T.pc 38 true 23 (t1, t2, t7, t8, t93, t94, t95, ())
def G1 (T : S.Tab) (t2 : Int × Int × Unit) (t108 : List Int) (t109 : Int) (t110 : Int) : Option (((Int × Int × Unit) × Unit) ⊕ ((Int × Int × Unit) × Unit) ⊕ Empty) := T.pc 38 true 28 (t2, t108, t109, t110, ())
abbrev W2 : (Unit × Unit) × Unit × Unit × Unit × Unit := (((), ()), ((), ((), ((), ()))))
def N8 (T : S.Tab) (t0 : List b8.den × Unit) (t1 : Int) (t2 : List Int) (t3 : Int) : Option (List u7.den × (Unit × Unit) × Unit × Unit × Unit × Unit) := T.fn 44 (t0, t1, t2, t3, ())
def L4 (T : S.Tab) (t4 : List b8.den × Unit) (t9 : b8.den) (t10 : List u7.den) (t11 : Int) : Option ((List u7.den × Unit) ⊕ Empty) := T.pc 44 false 7 (t4, t9, t10, t11, ())
def J2 (T : S.Tab) (t4 : List b8.den × Unit) (t9 : b8.den) (t10 : List u7.den) (t11 : Int) (t13 : Int) (t14 : List Int) (t38 : List Int) (t39 : Int) (t40 : Int) : Option (((List b8.den × Unit) × b8.den × List u7.den × Int × List Int × Int × Int × Unit) ⊕ Empty) := T.pc 44 false 13 (t4, t9, t10, t11, t13, t14, t38, t39, t40, ())
def B9 (T : S.Tab) (t4 : List b8.den × Unit) (t9 : b8.den) (t10 : List u7.den) (t11 : Int) (t38 : List Int) (t39 : Int) (t40 : Int) : Option ((List u7.den × Unit) ⊕ Empty) := T.pc 44 true 8 (t4, t9, t10, t11, t38, t39, t40, ())
def D0 (T : S.Tab) (t4 : List b8.den × Unit) (t9 : b8.den) (t10 : List u7.den) (t11 : Int) (t38 : List Int) (t39 : Int) (t40 : Int) (t55 : List u7.den) (t56 : Int) (t57 : Int) : Option (((List b8.den × Unit) × b8.den × List u7.den × Int × List Int × Int × Int × Unit) ⊕ Empty) := T.pc 44 true 14 (t4, t9, t10, t11, t38, t39, t40, t55, t56, t57, ())
abbrev am7 : (Unit × Unit) × Unit := (((), ()), ())
def ac0 (T : S.Tab) (t0 : List b8.den × Unit) : Option (List u7.den × (Unit × Unit) × Unit) := T.fn 19 (t0, ())
abbrev aw8 : Unit × Unit × Unit × Unit := ((), ((), ((), ())))
def X7 (T : S.Tab) (t0 : Int) (t1 : Int) (t2 : Int) : Option (Bool × Unit × Unit × Unit × Unit) := T.fn 185 (t0, t1, t2, ())
abbrev M9 : Unit × Unit := ((), ())
def aa6 (T : S.Tab) (t0 : Int) : Option (Bool × Unit × Unit) := T.fn 153 (t0, ())
abbrev aw0 : Unit × Unit := ((), ())
def O9 (T : S.Tab) (t0 : Int) : Option (Bool × Unit × Unit) := T.fn 154 (t0, ())
abbrev aA8 : Unit × Unit := ((), ())
def aG5 (T : S.Tab) (t0 : List Int) : Option (Int × Unit × Unit) := T.fn 155 (t0, ())
def N2 (T : S.Tab) (t0 : List Int) (t5 : List (List Int)) (t6 : Int) (t7 : Int) : Option ((Int × Unit) ⊕ (Unit) ⊕ Empty) := T.pc 155 true 2 (t0, t5, t6, t7, ())
abbrev at1 : Unit × Unit := ((), ())
def av3 (T : S.Tab) (t0 : Int) : Option (Bool × Unit × Unit) := T.fn 157 (t0, ())
abbrev ap2 : Unit × Unit := ((), ())
def n9 (T : S.Tab) (t0 : Int) : Option (Int × Unit × Unit) := T.fn 257 (t0, ())
def au8 (T : S.Tab) (t0 : List Int) : Option (Bool × Unit × Unit) := T.fn 258 (t0, ())
abbrev j2 : Unit × Unit × Unit × Unit := ((), ((), ((), ())))
def Q4 (T : S.Tab) (t0 : List Int) (t1 : Int) (t2 : Int) : Option ((Int × Bool × Unit) × Unit × Unit × Unit × Unit) := T.fn 236 (t0, t1, t2, ())
def j1 (T : S.Tab) (t0 : List Int) (t1 : Int) (t2 : Int) (t8 : Bool) (t9 : List Int) : Option ((Int × Bool × Unit) ⊕ Empty) := T.pc 236 false 21 (t0, t1, t2, t8, t9, ())
def F8 (T : S.Tab) (t0 : List Int) (t1 : Int) (t2 : Int) (t8 : Bool) (t9 : List Int) : Option ((Int × Bool × Unit) ⊕ Empty) := T.pc 236 false 25 (t0, t1, t2, t8, t9, ())
def C0 (T : S.Tab) (t0 : List Int) (t1 : Int) (t2 : Int) (t8 : Bool) (t9 : List Int) (t10 : Int) : Option ((Int × Bool × Unit) ⊕ Empty) := T.pc 236 false 32 (t0, t1, t2, t8, t9, t10, ())
def u9 (T : S.Tab) (t1 : Int) (t8 : Bool) (t9 : List Int) (t10 : Int) (t11 : Int) (t12 : Bool) (t13 : Int) (t16 : Int) (t99 : List Int) (t100 : Int) (t101 : Int) : Option ((Int × Bool × Unit) ⊕ (Int × Bool × List Int × Int × Int × Bool × Int × List Int × Int × Int × Unit) ⊕ Empty) := T.pc 236 false 46 (t1, t8, t9, t10, t11, t12, t13, t16, t99, t100, t101, ())
def p9 (T : S.Tab) (t1 : Int) (t8 : Bool) (t9 : List Int) (t10 : Int) (t11 : Int) (t12 : Bool) (t13 : Int) (t99 : List Int) (t100 : Int) (t101 : Int) : Option ((Int × Bool × Unit) ⊕ (List Int × Bool × Int × Unit) ⊕ Empty) := T.pc 236 true 36 (t1, t8, t9, t10, t11, t12, t13, t99, t100, t101, ())
abbrev ag9 : Unit × Unit × Unit × Unit := ((), ((), ((), ())))
def H6 (T : S.Tab) (t0 : List Int) (t1 : Int) (t2 : Int) : Option ((Int × Bool × Unit) × Unit × Unit × Unit × Unit) := T.fn 158 (t0, t1, t2, ())
abbrev C3 : Unit × Unit × Unit := ((), ((), ()))
def T5 (T : S.Tab) (t0 : List Int) (t1 : Int) : Option ((n7.den × Bool × Unit) × Unit × Unit × Unit) := T.fn 156 (t0, t1, ())
def D7 (T : S.Tab) (t0 : List Int) (t1 : Int) (t4 : n7.den) (t6 : Int) : Option ((n7.den × Bool × Unit) ⊕ Empty) := T.pc 156 false 17 (t0, t1, t4, t6, ())
def F3 (T : S.Tab) (t0 : List Int) (t1 : Int) (t4 : n7.den) (t6 : Int) (t9 : Int) : Option ((n7.den × Bool × Unit) ⊕ Empty) := T.pc 156 false 22 (t0, t1, t4, t6, t9, ())
def J1 (T : S.Tab) (t0 : List Int) (t1 : Int) (t4 : n7.den) (t6 : Int) (t9 : Int) : Option ((n7.den × Bool × Unit) ⊕ (List Int × Int × n7.den × Int × Int × Unit) ⊕ Empty) := T.pc 156 false 26 (t0, t1, t4, t6, t9, ())
def D8 (T : S.Tab) (t0 : List Int) (t1 : Int) (t4 : n7.den) (t6 : Int) (t9 : Int) : Option ((n7.den × Bool × Unit) ⊕ Empty) := T.pc 156 false 31 (t0, t1, t4, t6, t9, ())
def K3 (T : S.Tab) (t0 : List Int) (t1 : Int) (t4 : n7.den) (t6 : Int) : Option ((List Int × Int × n7.den × Int × Unit) ⊕ Empty) := T.pc 156 true 5 (t0, t1, t4, t6, ())
def D5 (T : S.Tab) (t0 : List Int) (t1 : Int) (t4 : n7.den) (t6 : Int) : Option ((List Int × Int × n7.den × Int × Unit) ⊕ Empty) := T.pc 156 true 15 (t0, t1, t4, t6, ())
def I4 (T : S.Tab) (t0 : List Int) (t1 : Int) (t4 : n7.den) (t6 : Int) (t9 : Int) : Option ((List Int × Int × n7.den × Int × Int × Unit) ⊕ Empty) := T.pc 156 true 20 (t0, t1, t4, t6, t9, ())
def I9 (T : S.Tab) (t0 : List Int) (t1 : Int) (t4 : n7.den) (t6 : Int) (t9 : Int) : Option ((List Int × Int × n7.den × Int × Int × Unit) ⊕ Empty) := T.pc 156 true 29 (t0, t1, t4, t6, t9, ())
abbrev V6 : Unit × Unit × Unit := ((), ((), ()))
def K0 (T : S.Tab) (t0 : List Int) (t1 : Int) : Option (Int × Unit × Unit × Unit) := T.fn 125 (t0, t1, ())
abbrev X5 : Unit × Unit × Unit := ((), ((), ()))
def O8 (T : S.Tab) (t0 : List Int) (t1 : Int) : Option (Int × Unit × Unit × Unit) := T.fn 81 (t0, t1, ())
abbrev Y1 : Unit × Unit := ((), ())
def ay3 (T : S.Tab) (t0 : Int) : Option (List Int × Unit × Unit) := T.fn 139 (t0, ())
abbrev N5 : Unit × Unit × Unit := ((), ((), ()))
def K1 (T : S.Tab) (t0 : List Int) (t1 : List Int) : Option (Bool × Unit × Unit × Unit) := T.fn 234 (t0, t1, ())
abbrev ah2 : Unit × Unit × Unit := ((), ((), ()))
def U2 (T : S.Tab) (t0 : List Int) (t1 : List Int) : Option (Bool × Unit × Unit × Unit) := T.fn 152 (t0, t1, ())
abbrev T8 : Unit × Unit × Unit := ((), ((), ()))
def S3 (T : S.Tab) (t0 : List Int) (t1 : Int) : Option ((n7.den × Bool × Unit) × Unit × Unit × Unit) := T.fn 101 (t0, t1, ())
def R7 (T : S.Tab) (t0 : List Int) (t1 : Int) (t4 : n7.den) (t7 : Int) : Option ((List Int × Int × n7.den × Int × Unit) ⊕ Empty) := T.pc 101 true 5 (t0, t1, t4, t7, ())
def u6 (T : S.Tab) (t0 : List Int) (t4 : n7.den) (t8 : List Int) (t9 : Int) : Option ((n7.den × Bool × Unit) ⊕ Empty) := T.pc 101 true 18 (t0, t4, t8, t9, ())
def N3 (T : S.Tab) (t0 : List Int) (t4 : n7.den) (t8 : List Int) (t9 : Int) (t11 : Int) : Option ((n7.den × Bool × Unit) ⊕ (List Int × n7.den × List Int × Int × Unit) ⊕ Empty) := T.pc 101 true 39 (t0, t4, t8, t9, t11, ())
def I7 (T : S.Tab) (t0 : List Int) (t1 : Int) (t4 : n7.den) (t14 : Int) (t15 : Int) : Option ((Int × n7.den × Unit) ⊕ Empty) := T.pc 101 true 49 (t0, t1, t4, t14, t15, ())
abbrev C9 : Unit × Unit × Unit := ((), ((), ()))
def ap4 (T : S.Tab) (t0 : List Int) (t1 : Int) : Option (Bool × Unit × Unit × Unit) := T.fn 243 (t0, t1, ())
abbrev O5 : Unit × Unit := ((), ())
def G7 (T : S.Tab) (t0 : List Int) : Option (Bool × Unit × Unit) := T.fn 186 (t0, ())
abbrev as2 : Unit × Unit := ((), ())
def ag4 (T : S.Tab) (t0 : Int) : Option (Bool × Unit × Unit) := T.fn 191 (t0, ())
def o8 (T : S.Tab) (t0 : Bool) (t1 : Bool) (t2 : Bool) (t3 : Bool) (t4 : Int) (t5 : Int) (t6 : Int) (t7 : List Int) : Option (Bool × Unit × Unit × Unit × Unit × Int × Int × Int × List Int × Unit) := T.fn 189 (t0, t1, t2, t3, t4, t5, t6, t7, ())
abbrev aq8 : Unit × Unit := ((), ())
def ab1 (T : S.Tab) (t0 : Int) : Option (Bool × Unit × Unit) := T.fn 188 (t0, ())
def o9 (T : S.Tab) (t0 : Int) (t1 : Int) (t2 : List Int) : Option (Bool × Unit × Unit × List Int × Unit) := T.fn 187 (t0, t1, t2, ())
def H2 (T : S.Tab) (t2 : List Int) (t11 : List Int) (t12 : Int) (t13 : Int) : Option ((List Int × Bool × Unit) ⊕ (List Int × Unit) ⊕ Empty) := T.pc 187 true 2 (t2, t11, t12, t13, ())
abbrev W4 : Unit × Unit := ((), ())
def S2 (T : S.Tab) (t0 : List Int) : Option (Bool × Unit × Unit) := T.fn 192 (t0, ())
def Q5 (T : S.Tab) (t0 : Int) (t1 : List Int) : Option (Bool × Int × List Int × Unit) := T.fn 190 (t0, t1, ())
abbrev l9 : (Unit × Unit) × Unit × Unit := (((), ()), ((), ()))
def B6 (T : S.Tab) (t0 : List b8.den × Unit) (t1 : Int) : Option (Bool × (Unit × Unit) × Unit × Unit) := T.fn 119 (t0, t1, ())
def T1 (T : S.Tab) (t6 : List Int) (t11 : Int) (t12 : Int) (t13 : Int) (t14 : List Int) (t16 : Int) (t105 : Int) (t205 : Bool) : Option ((Bool × Unit) ⊕ (Unit) ⊕ Empty) := T.pc 119 false 50 (t6, t11, t12, t13, t14, t16, t105, t205, ())
def D6 (T : S.Tab) (t6 : List Int) (t11 : Int) (t12 : Int) (t13 : Int) (t14 : List Int) (t16 : Int) (t105 : Int) (t328 : Bool) : Option ((Bool × Unit) ⊕ (Unit) ⊕ Empty) := T.pc 119 false 65 (t6, t11, t12, t13, t14, t16, t105, t328, ())
def P4 (T : S.Tab) (t6 : List Int) (t11 : Int) (t12 : Int) (t13 : Int) (t14 : List Int) (t16 : Int) (t105 : Int) (t378 : Bool) : Option ((Bool × Unit) ⊕ (Unit) ⊕ Empty) := T.pc 119 false 72 (t6, t11, t12, t13, t14, t16, t105, t378, ())
def L6 (T : S.Tab) (t6 : List Int) (t11 : Int) (t12 : Int) (t13 : Int) (t14 : List Int) (t16 : Int) (t105 : Int) (t436 : Bool) : Option ((Bool × Unit) ⊕ (Unit) ⊕ Empty) := T.pc 119 false 84 (t6, t11, t12, t13, t14, t16, t105, t436, ())
def K4 (T : S.Tab) (t1 : Int) (t2 : List b8.den × Unit) (t5 : b8.den) (t6 : List Int) (t58 : List Int) (t59 : Int) (t60 : Int) : Option ((Bool × Unit) ⊕ (b8.den × List Int × Unit) ⊕ Empty) := T.pc 119 true 6 (t1, t2, t5, t6, t58, t59, t60, ())
def A7 (T : S.Tab) (t5 : b8.den) (t6 : List Int) (t80 : List (List Int)) (t81 : Int) (t82 : Int) : Option ((Bool × Unit) ⊕ (b8.den × List Int × Unit) ⊕ Empty) := T.pc 119 true 13 (t5, t6, t80, t81, t82, ())
def G5 (T : S.Tab) (t11 : Int) (t12 : Int) (t13 : Int) (t14 : List Int) (t108 : List Int) (t109 : Int) (t110 : Int) : Option ((Bool × Unit) ⊕ (Int × Int × Int × List Int × Unit) ⊕ Empty) := T.pc 119 true 26 (t11, t12, t13, t14, t108, t109, t110, ())
def w9 (T : S.Tab) (t6 : List Int) (t13 : Int) (t16 : Int) (t184 : List Int) (t185 : Int) (t186 : Int) : Option ((Bool × Unit) ⊕ (List Int × Int × Int × Unit) ⊕ Empty) := T.pc 119 true 42 (t6, t13, t16, t184, t185, t186, ())
def F9 (T : S.Tab) (t11 : Int) (t12 : Int) (t13 : Int) (t14 : List Int) (t529 : List Int) (t530 : Int) (t531 : Int) : Option ((Bool × Unit) ⊕ (Int × Int × Int × List Int × Unit) ⊕ Empty) := T.pc 119 true 97 (t11, t12, t13, t14, t529, t530, t531, ())
abbrev N0 : (Unit × Unit) × Unit := (((), ()), ())
def J5 (T : S.Tab) (t0 : List b8.den × Unit) : Option ((Int × Int × Unit) × (Unit × Unit) × Unit) := T.fn 74 (t0, ())
def F2 (T : S.Tab) (t1 : List b8.den × Unit) (t2 : Int × Int × Unit) (t3 : Int) (t37 : Int) (t38 : Int) : Option (((Int × Int × Unit) × Unit) ⊕ ((List b8.den × Unit) × (Int × Int × Unit) × Int × Unit) ⊕ Empty) := T.pc 74 true 5 (t1, t2, t3, t37, t38, ())
def u5 (T : S.Tab) (t1 : List b8.den × Unit) (t2 : Int × Int × Unit) (t3 : Int) (t5 : List Int) (t51 : List b8.den) (t52 : Int) (t53 : Int) : Option (((Int × Int × Unit) × Unit) ⊕ ((List b8.den × Unit) × (Int × Int × Unit) × Int × Unit) ⊕ Empty) := T.pc 74 true 12 (t1, t2, t3, t5, t51, t52, t53, ())
def G6 (T : S.Tab) (t1 : List b8.den × Unit) (t2 : Int × Int × Unit) (t3 : Int) (t5 : List Int) (t6 : Int) (t7 : b8.den) (t8 : Int) (t9 : Int) (t51 : List b8.den) (t52 : Int) (t53 : Int) : Option (((Int × Int × Unit) × Unit) ⊕ ((List b8.den × Unit) × (Int × Int × Unit) × Int × List Int × Int × Int × List b8.den × Int × Int × Unit) ⊕ Empty) := T.pc 74 true 16 (t1, t2, t3, t5, t6, t7, t8, t9, t51, t52, t53, ())
def L8 (T : S.Tab) (t1 : List b8.den × Unit) (t2 : Int × Int × Unit) (t10 : List Int) (t11 : Int) : Option (((Int × Int × Unit) × List Int × Unit) ⊕ Empty) := T.pc 74 true 27 (t1, t2, t10, t11, ())
def I3 (T : S.Tab) (t1 : List b8.den × Unit) (t2 : Int × Int × Unit) (t10 : List Int) (t11 : Int) (t113 : List Int) (t114 : Int) (t115 : Int) : Option (((List b8.den × Unit) × (Int × Int × Unit) × List Int × Int × Unit) ⊕ Empty) := T.pc 74 true 30 (t1, t2, t10, t11, t113, t114, t115, ())
def F6 (T : S.Tab) (t2 : Int × Int × Unit) (t10 : List Int) (t129 : Int) (t130 : Int) : Option (((Int × Int × Unit) × Unit) ⊕ ((Int × Int × Unit) × Unit) ⊕ Empty) := T.pc 74 true 35 (t2, t10, t129, t130, ())
abbrev aL8 : (Unit × Unit) × Unit := (((), ()), ())
def ax2 (T : S.Tab) (t0 : List b8.den × Unit) : Option (Bool × (Unit × Unit) × Unit) := T.fn 40 (t0, ())
def N4 (T : S.Tab) (t0 : Int) (t1 : Int) (t2 : List Int) (t3 : List b8.den × Unit) (t4 : List u7.den) (t5 : Unit) : Option (Unit × Unit × Unit × Unit × (List b8.den × Unit) × List u7.den × Unit × Unit) := T.fn 45 (t0, t1, t2, t3, t4, t5, ())
def K9 (T : S.Tab) (t1 : Int) (t3 : List b8.den × Unit) (t4 : List u7.den) (t5 : Unit) (t9 : b8.den) : Option (((List b8.den × Unit) × List u7.den × Unit) ⊕ Empty) := T.pc 45 false 4 (t1, t3, t4, t5, t9, ())
def A9 (T : S.Tab) (t1 : Int) (t3 : List b8.den × Unit) (t4 : List u7.den) (t5 : Unit) (t10 : List Int) (t40 : List Int) (t41 : Int) (t42 : Int) : Option (((List b8.den × Unit) × List u7.den × Unit) ⊕ Empty) := T.pc 45 true 8 (t1, t3, t4, t5, t10, t40, t41, t42, ())
abbrev an1 : (Unit × Unit) × Unit := (((), ()), ())
def Y4 (T : S.Tab) (t0 : List b8.den × Unit) : Option (List u7.den × (Unit × Unit) × Unit) := T.fn 20 (t0, ())
abbrev N6 : (Unit × Unit × Unit × Unit × Unit) × (Unit × Unit × Unit × Unit × Unit) × Unit := (((), ((), ((), ((), ())))), (((), ((), ((), ((), ())))), ()))
def ac2 (T : S.Tab) (t0 : u7.den) (t1 : u7.den) : Option (Bool × (Unit × Unit × Unit × Unit × Unit) × (Unit × Unit × Unit × Unit × Unit) × Unit) := T.fn 46 (t0, t1, ())
abbrev Z5 : Unit × Unit × Unit := ((), ((), ()))
def T6 (T : S.Tab) (t0 : List u7.den) (t1 : List u7.den) : Option (Bool × Unit × Unit × Unit) := T.fn 21 (t0, t1, ())
def H0 (T : S.Tab) (t0 : List u7.den) (t1 : List u7.den) (t5 : Int) : Option ((Bool × Unit) ⊕ (Unit) ⊕ Empty) := T.pc 21 true 4 (t0, t1, t5, ())
abbrev W0 : Unit × Unit × Unit := ((), ((), ()))
def V9 (T : S.Tab) (t0 : List (List Int)) (t1 : List (List Int)) : Option (Bool × Unit × Unit × Unit) := T.fn 120 (t0, t1, ())
def E8 (T : S.Tab) (t0 : List (List Int)) (t1 : List (List Int)) (t5 : Int) : Option ((Bool × Unit) ⊕ (Unit) ⊕ Empty) := T.pc 120 true 4 (t0, t1, t5, ())
abbrev af8 : Unit × Unit × Unit := ((), ((), ()))
def ag8 (T : S.Tab) (t0 : List Int) (t1 : List Int) : Option (Bool × Unit × Unit × Unit) := T.fn 14 (t0, t1, ())
def K5 (T : S.Tab) (t0 : List Int) (t1 : List Int) (t5 : Int) : Option ((Bool × Unit) ⊕ (Unit) ⊕ Empty) := T.pc 14 true 4 (t0, t1, t5, ())
abbrev C2 : (Unit × Unit × Unit × Unit × Unit × Unit × Unit × Unit × Unit × Unit) × (Unit × Unit × Unit × Unit × Unit × Unit × Unit × Unit × Unit × Unit) × Unit := (((), ((), ((), ((), ((), ((), ((), ((), ((), ()))))))))), (((), ((), ((), ((), ((), ((), ((), ((), ((), ()))))))))), ()))
def aa9 (T : S.Tab) (t0 : b8.den) (t1 : b8.den) : Option (Bool × (Unit × Unit × Unit × Unit × Unit × Unit × Unit × Unit × Unit × Unit) × (Unit × Unit × Unit × Unit × Unit × Unit × Unit × Unit × Unit × Unit) × Unit) := T.fn 75 (t0, t1, ())
abbrev ab3 : Unit × Unit × Unit := ((), ((), ()))
def ac6 (T : S.Tab) (t0 : List b8.den) (t1 : List b8.den) : Option (Bool × Unit × Unit × Unit) := T.fn 42 (t0, t1, ())
def I5 (T : S.Tab) (t0 : List b8.den) (t1 : List b8.den) (t5 : Int) : Option ((Bool × Unit) ⊕ (Unit) ⊕ Empty) := T.pc 42 true 4 (t0, t1, t5, ())
abbrev as0 : (Unit × Unit) × (Unit × Unit) × Unit := (((), ()), (((), ()), ()))
def at4 (T : S.Tab) (t0 : List b8.den × Unit) (t1 : List b8.den × Unit) : Option (Bool × (Unit × Unit) × (Unit × Unit) × Unit) := T.fn 15 (t0, t1, ())
abbrev Z9 : Unit × Unit := ((), ())
def N1 (T : S.Tab) (t0 : Int) : Option (List Int × Unit × Unit) := T.fn 47 (t0, ())
def J6 (T : S.Tab) (t0 : Int) (t3 : List Int) : Option ((List Int × Unit) ⊕ Empty) := T.pc 47 true 4 (t0, t3, ())
def M7 (T : S.Tab) (t0 : List (List Int)) (t1 : Int) : Option (Int × List (List Int) × Unit × Unit) := T.fn 76 (t0, t1, ())
def E2 (T : S.Tab) (t0 : List (List Int)) (t1 : Int) (t5 : Int) : Option ((List (List Int) × Int × Unit) ⊕ Empty) := T.pc 76 true 2 (t0, t1, t5, ())
def T7 (T : S.Tab) (t0 : List Int) (t1 : Int) : Option (Int × List Int × Unit × Unit) := T.fn 17 (t0, t1, ())
def J3 (T : S.Tab) (t0 : List Int) (t1 : Int) (t5 : Int) : Option ((List Int × Int × Unit) ⊕ Empty) := T.pc 17 true 2 (t0, t1, t5, ())
def V8 (T : S.Tab) (t0 : List b8.den) (t1 : Int) : Option (Int × List b8.den × Unit × Unit) := T.fn 43 (t0, t1, ())
def E7 (T : S.Tab) (t0 : List b8.den) (t1 : Int) (t5 : Int) : Option ((List b8.den × Int × Unit) ⊕ Empty) := T.pc 43 true 2 (t0, t1, t5, ())
def af3 (T : S.Tab) (t0 : List b8.den × Unit) (t1 : Int) : Option (Int × (List b8.den × Unit) × Unit × Unit) := T.fn 16 (t0, t1, ())
def Z3 (T : S.Tab) (t0 : List u7.den) (t1 : Int) : Option (Int × List u7.den × Unit × Unit) := T.fn 22 (t0, t1, ())
def D1 (T : S.Tab) (t0 : List u7.den) (t1 : Int) (t5 : Int) : Option ((List u7.den × Int × Unit) ⊕ Empty) := T.pc 22 true 2 (t0, t1, t5, ())
abbrev aa7 : Unit × Unit × Unit := ((), ((), ()))
def T4 (T : S.Tab) (t0 : List u7.den) (t1 : Int) : Option (Int × Unit × Unit × Unit) := T.fn 23 (t0, t1, ())
def G0 (T : S.Tab) (t0 : List u7.den) (t1 : Int) (t5 : Int) : Option ((Int × Unit) ⊕ (Int × Unit) ⊕ Empty) := T.pc 23 true 2 (t0, t1, t5, ())
abbrev r7 : (Unit × Unit) × Unit := (((), ()), ())
def R6 (T : S.Tab) (t0 : List b8.den × Unit) : Option (Bool × (Unit × Unit) × Unit) := T.fn 4 (t0, ())
theorem ap1 (T : S.Tab) (t0 : List (List Int)) (t1 : Int) : N9 (S.step T) t0 t1 =
 brk (decide (IntKind.i64.wrap (t1 - (t0.length : Int)) < 0)) (
 some ((-1 : Int), W3)) (
 (C5 T t0 (IntKind.i64.wrap (t1 - (t0.length : Int))) 0).bind (K8
  (fun y5 =>
  some (y5.1, W3))
  (fun y5 =>
  some (y5.1, W3))))
 := eF Tryz.func112 (by kernel_rfl)
theorem ae9 (T : S.Tab) (t0 : List (List Int)) (t1 : Int) (t5 : Int) : C5 (S.step T) t0 t1 t5 =
 brk (decide (t5 < (t0.length : Int))) (
 brk (decide (0 ≤ t5) && decide (t5 < (t0.length : Int))) (
 brk (decide (IntKind.i64.wrap (t1 - ((t0.getD t5.toNat []).length : Int)) < 0)) (
  some (Sum.inl ((-1 : Int), ()))) (
  C5 T t0 (IntKind.i64.wrap (t1 - ((t0.getD t5.toNat []).length : Int))) (IntKind.i64.wrap (t5 + 1)))) none) (
 some (Sum.inr (Sum.inl (t1, ()))))
 := eL Tryz.func112 rfl (by kernel_rfl)
theorem aW0 (T : S.Tab) (t0 : List Int) (t1 : Int) : ai1 (S.step T) t0 t1 =
 brk (decide (IntKind.i64.wrap (t1 - (t0.length : Int)) < 0)) (
 some ((-1 : Int), as4)) (
 some (IntKind.i64.wrap (t1 - (t0.length : Int)), as4))
 := eF Tryz.func113 (by kernel_rfl)
theorem an3 (T : S.Tab) (t0 : b8.den) (t1 : Int) : X0 (S.step T) t0 t1 =
 brk (decide (IntKind.i64.wrap (t1 - (t0.2.2.2.2.2.2.1.length : Int)) < 0)) (
 some ((-1 : Int), U3)) (
 (N9 T t0.2.2.2.2.2.2.2.1 (IntKind.i64.wrap (t1 - (t0.2.2.2.2.2.2.1.length : Int)))).bind fun d15 =>
 brk (decide (d15.1 < 0)) (
  some ((-1 : Int), U3)) (
  (ai1 T t0.2.2.2.2.2.2.2.2.1 d15.1).bind fun d21 =>
  brk (decide (d21.1 < 0)) (
  some ((-1 : Int), U3)) (
  some (d21.1, U3))))
 := eF Tryz.func70 (by kernel_rfl)
theorem aw2 (T : S.Tab) (t0 : List b8.den) (t1 : Int) : Y3 (S.step T) t0 t1 =
 brk (decide (IntKind.i64.wrap (t1 - (t0.length : Int)) < 0)) (
 some ((-1 : Int), ab6)) (
 (G3 T t0 (IntKind.i64.wrap (t1 - (t0.length : Int))) 0).bind (K8
  (fun y5 =>
  some (y5.1, ab6))
  (fun y5 =>
  some (y5.1, ab6))))
 := eF Tryz.func37 (by kernel_rfl)
theorem al8 (T : S.Tab) (t0 : List b8.den) (t1 : Int) (t5 : Int) : G3 (S.step T) t0 t1 t5 =
 brk (decide (t5 < (t0.length : Int))) (
 brk (decide (0 ≤ t5) && decide (t5 < (t0.length : Int))) (
 (X0 T (at_ (τ := b8) t0 t5) t1).bind fun d23 =>
 brk (decide (d23.1 < 0)) (
  some (Sum.inl ((-1 : Int), ()))) (
  G3 T t0 d23.1 (IntKind.i64.wrap (t5 + 1)))) none) (
 some (Sum.inr (Sum.inl (t1, ()))))
 := eL Tryz.func37 rfl (by kernel_rfl)
theorem aX5 (T : S.Tab) (t0 : List b8.den × Unit) (t1 : Int) : ar0 (S.step T) t0 t1 =
 (Y3 T t0.1 t1).bind fun d8 =>
 brk (decide (d8.1 < 0)) (
 some ((-1 : Int), at2)) (
 some (d8.1, at2))
 := eF Tryz.func10 (by kernel_rfl)
theorem aI5 (T : S.Tab) (t0 : List (List Int)) : V5 (S.step T) t0 =
 brk (((decide (0 ≤ (t0.length : Int))) && (decide ((t0.length : Int) ≤ (t0.length : Int)))) && (decide ((t0.length : Int) ≤ lim))) (
 (H5 T t0 (List.replicate ((t0.length : Int).toNat) ([] : List Int)) 0).bind (C7
  (fun y3 =>
 some (y3.1, au0)))) none
 := eF Tryz.func117 (by kernel_rfl)
theorem ae1 (T : S.Tab) (t0 : List (List Int)) (t3 : List (List Int)) (t4 : Int) : H5 (S.step T) t0 t3 t4 =
 brk (decide (t4 < (t0.length : Int))) (
 brk (decide (0 ≤ t4) && decide (t4 < (t0.length : Int))) (
 brk (decide (0 ≤ t4) && decide (t4 < (t3.length : Int))) (
 H5 T t0 (t3.set t4.toNat (t0.getD t4.toNat [])) (IntKind.i64.wrap (t4 + 1))) none) none) (
 some (Sum.inl (t3, ())))
 := eL Tryz.func117 rfl (by kernel_rfl)
theorem aX7 (T : S.Tab) (t0 : List Int) : ah1 (S.step T) t0 =
 brk (((decide (0 ≤ (t0.length : Int))) && (decide ((t0.length : Int) ≤ (t0.length : Int)))) && (decide ((t0.length : Int) ≤ lim))) (
 (N7 T t0 (List.replicate ((t0.length : Int).toNat) 0) 0).bind (C7
  (fun y3 =>
 some (y3.1, aH3)))) none
 := eF Tryz.func118 (by kernel_rfl)
theorem aq0 (T : S.Tab) (t0 : List Int) (t3 : List Int) (t4 : Int) : N7 (S.step T) t0 t3 t4 =
 brk (decide (t4 < (t0.length : Int))) (
 brk (decide (0 ≤ t4) && decide (t4 < (t0.length : Int))) (
 brk (decide (0 ≤ t4) && decide (t4 < (t3.length : Int))) (
 N7 T t0 (t3.set t4.toNat (t0.getD t4.toNat 0)) (IntKind.i64.wrap (t4 + 1))) none) none) (
 some (Sum.inl (t3, ())))
 := eL Tryz.func118 rfl (by kernel_rfl)
theorem aW8 (T : S.Tab) (t0 : b8.den) : at7 (S.step T) t0 =
 (V5 T t0.2.2.2.2.2.2.2.1).bind fun d27 =>
 (ah1 T t0.2.2.2.2.2.2.2.2.1).bind fun d31 =>
 some ((t0.1, t0.2.1, t0.2.2.1, t0.2.2.2.1, t0.2.2.2.2.1, t0.2.2.2.2.2.1, t0.2.2.2.2.2.2.1, d27.1, d31.1, ()), aE9)
 := eF Tryz.func73 (by kernel_rfl)
theorem aS5 (T : S.Tab) (t0 : List b8.den) : ac4 (S.step T) t0 =
 brk (((decide (0 ≤ (t0.length : Int))) && (decide ((t0.length : Int) ≤ (t0.length : Int)))) && (decide ((t0.length : Int) ≤ lim))) (
 (L5 T t0 (List.replicate ((t0.length : Int).toNat) (0, 0, 0, 0, 0, 0, ([] : List Int), [], [], ())) 0).bind (C7
  (fun y3 =>
 some (y3.1, aA0)))) none
 := eF Tryz.func39 (by kernel_rfl)
theorem al7 (T : S.Tab) (t0 : List b8.den) (t3 : List b8.den) (t4 : Int) : L5 (S.step T) t0 t3 t4 =
 brk (decide (t4 < (t0.length : Int))) (
 brk (decide (0 ≤ t4) && decide (t4 < (t0.length : Int))) (
 (at7 T (at_ (τ := b8) t0 t4)).bind fun d20 =>
 brk (decide (0 ≤ t4) && decide (t4 < (t3.length : Int))) (
 L5 T t0 (t3.set t4.toNat d20.1) (IntKind.i64.wrap (t4 + 1))) none) none) (
 some (Sum.inl (t3, ())))
 := eL Tryz.func39 rfl (by kernel_rfl)
theorem aX8 (T : S.Tab) (t0 : List b8.den × Unit) : W6 (S.step T) t0 =
 (ac4 T t0.1).bind fun d6 =>
 some ((d6.1, ()), aG6)
 := eF Tryz.func12 (by kernel_rfl)
theorem aX6 (T : S.Tab) (t0 : Int) : T0 (S.step T) t0 =
 brk (decide (1 ≤ t0)) (
 some (decide (t0 ≤ 16), af4)) (
 some (false, af4))
 := eF Tryz.func114 (by kernel_rfl)
theorem a96 (T : S.Tab) (t0 : List b8.den × Unit) (t1 : b8.den) (t2 : Int) : s5 (S.step T) t0 t1 t2 =
 brk (decide (0 ≤ t2) && decide (t2 < (t1.2.2.2.2.2.2.2.2.1.length : Int))) (
 brk (decide (0 ≤ t1.2.2.2.2.2.2.2.2.1.getD t2.toNat 0) && decide (t1.2.2.2.2.2.2.2.2.1.getD t2.toNat 0 < (t0.1.length : Int))) (
 some ((at_ (τ := b8) t0.1 (t1.2.2.2.2.2.2.2.2.1.getD t2.toNat 0)).1, Q2)) none) none
 := eF Tryz.func178 (by kernel_rfl)
theorem aY0 (T : S.Tab) (t0 : b8.den) (t1 : Bool) (t2 : Bool) (t3 : Bool) (t4 : Bool) : r4 (S.step T) t0 t1 t2 t3 t4 =
 brk (t1) (
 brk (t2) (
  brk (t3) (
  brk (t4) (
   some (true, r5)) (
   some (decide ((t0.2.2.2.2.2.2.2.1.length : Int) = 0), r5))) (
  brk (decide (t0.2.2.2.2.2.2.1 = ([] : List Int))) (
   brk (t4) (
   some (true, r5)) (
   some (decide ((t0.2.2.2.2.2.2.2.1.length : Int) = 0), r5))) (
   some (false, r5)))) (
  brk (decide (t0.2.2.2.2.2.1 = 0)) (
  brk (t3) (
   brk (t4) (
   some (true, r5)) (
   some (decide ((t0.2.2.2.2.2.2.2.1.length : Int) = 0), r5))) (
   brk (decide (t0.2.2.2.2.2.2.1 = ([] : List Int))) (
   brk (t4) (
    some (true, r5)) (
    some (decide ((t0.2.2.2.2.2.2.2.1.length : Int) = 0), r5))) (
   some (false, r5)))) (
  some (false, r5)))) (
 brk (decide (t0.2.2.2.2.1 = 0)) (
  brk (t2) (
  brk (t3) (
   brk (t4) (
   some (true, r5)) (
   some (decide ((t0.2.2.2.2.2.2.2.1.length : Int) = 0), r5))) (
   brk (decide (t0.2.2.2.2.2.2.1 = ([] : List Int))) (
   brk (t4) (
    some (true, r5)) (
    some (decide ((t0.2.2.2.2.2.2.2.1.length : Int) = 0), r5))) (
   some (false, r5)))) (
  brk (decide (t0.2.2.2.2.2.1 = 0)) (
   brk (t3) (
   brk (t4) (
    some (true, r5)) (
    some (decide ((t0.2.2.2.2.2.2.2.1.length : Int) = 0), r5))) (
   brk (decide (t0.2.2.2.2.2.2.1 = ([] : List Int))) (
    brk (t4) (
    some (true, r5)) (
    some (decide ((t0.2.2.2.2.2.2.2.1.length : Int) = 0), r5))) (
    some (false, r5)))) (
   some (false, r5)))) (
  some (false, r5)))
 := eF Tryz.func179 (by kernel_rfl)
theorem aN8 (T : S.Tab) (t0 : Int) : Z8 (S.step T) t0 =
 brk (decide (97 ≤ t0)) (
 brk (decide (t0 ≤ 122)) (
  some (true, I8)) (
  brk (decide (65 ≤ t0)) (
  brk (decide (t0 ≤ 90)) (
   some (true, I8)) (
   some (decide (t0 = 95), I8))) (
  some (decide (t0 = 95), I8)))) (
 brk (decide (65 ≤ t0)) (
  brk (decide (t0 ≤ 90)) (
  some (true, I8)) (
  some (decide (t0 = 95), I8))) (
  some (decide (t0 = 95), I8)))
 := eF Tryz.func211 (by kernel_rfl)
theorem aV6 (T : S.Tab) (t0 : List Int) (t1 : Int) : A3 (S.step T) t0 t1 =
 brk (decide (t1 < (t0.length : Int))) (
 brk (decide (0 ≤ t1) && decide (t1 < (t0.length : Int))) (
 some (t0.getD t1.toNat 0, aq5)) none) (
 some (0, aq5))
 := eF Tryz.func210 (by kernel_rfl)
theorem aP7 (T : S.Tab) (t0 : Int) : E6 (S.step T) t0 =
 brk (decide (48 ≤ t0)) (
 some (decide (t0 ≤ 57), an0)) (
 some (false, an0))
 := eF Tryz.func213 (by kernel_rfl)
theorem aR6 (T : S.Tab) : ax0 (S.step T) =
 some (([([97, 110, 100] : List Int), ([98, 114, 101, 97, 107] : List Int), ([99, 97, 116, 99, 104] : List Int), ([99, 111, 110, 115, 116] : List Int), ([100, 101, 102, 101, 114] : List Int), ([101, 108, 105, 102] : List Int), ([101, 108, 115, 101] : List Int), ([102, 97, 108, 115, 101] : List Int), ([102, 110] : List Int), ([102, 111, 114] : List Int), ([105, 102] : List Int), ([105, 110] : List Int), ([108, 101, 116] : List Int), ([110, 101, 120, 116] : List Int), ([110, 105, 108] : List Int), ([110, 111, 116] : List Int), ([111, 114] : List Int), ([114, 101, 116, 117, 114, 110] : List Int), ([116, 104, 114, 111, 119] : List Int), ([116, 114, 117, 101] : List Int), ([116, 114, 121] : List Int), ([119, 104, 105, 108, 101] : List Int)] : List (List Int)), aA1)
 := eF Tryz.func202 (by kernel_rfl)
theorem aV4 (T : S.Tab) (t0 : List Int) (t1 : n7.den) : at0 (S.step T) t0 t1 =
 (I2 T t0 t1 (0, 0, 0, 0, 0, ([] : List Int), ()) t1.2.1).bind (C7
  (fun y2 =>
 brk (bounds y2.1.length y2.2.1.2.1 y2.2.2.2.1) (
 (ax0 T).bind fun d32 =>
 (I0 T (1, y2.2.1.2.1, y2.2.2.2.1, y2.2.1.2.2.2) y2.2.2.1 (sub y2.1 y2.2.1.2.1 y2.2.2.2.1) d32.1 (d32.1.length : Int) 0).bind (K8
  (fun y8 =>
  some (y8, ar1))
  (fun y8 =>
  some (((y8.1.1, y8.1.2.1, y8.1.2.2.1, y8.1.2.2.2.1, y8.1.2.2.2.2.1, y8.2.2), (-1 : Int), ()), ar1)))) none))
 := eF Tryz.func212 (by kernel_rfl)
theorem ao1 (T : S.Tab) (t0 : List Int) (t3 : n7.den) (t4 : n7.den) (t6 : Int) : I2 (S.step T) t0 t3 t4 t6 =
 (A3 T t0 t6).bind fun d14 =>
 (Z8 T d14.1).bind fun d15 =>
 brk (d15.1) (
 I2 T t0 t3 t4 (IntKind.i64.wrap (t6 + 1))) (
 (A3 T t0 t6).bind fun d19 =>
 (E6 T d19.1).bind fun d20 =>
 brk (d20.1) (
  I2 T t0 t3 t4 (IntKind.i64.wrap (t6 + 1))) (
  some (Sum.inl (t0, t3, t4, t6, ()))))
 := eL Tryz.func212 rfl (by kernel_rfl)
theorem ap3 (T : S.Tab) (t3 : n7.den) (t4 : n7.den) (t7 : List Int) (t32 : List (List Int)) (t33 : Int) (t34 : Int) : I0 (S.step T) t3 t4 t7 t32 t33 t34 =
 brk (decide (t34 < t33)) (
 brk (decide (0 ≤ t34) && decide (t34 < (t32.length : Int))) (
 brk (decide ((t32.getD t34.toNat []) = t7)) (
  some (Sum.inl ((IntKind.i64.wrap (10 + t34), t3.2), (-1 : Int), ()))) (
  I0 T t3 t4 t7 t32 t33 (IntKind.i64.wrap (t34 + 1)))) none) (
 some (Sum.inr (Sum.inl (t3, t4, t7, ()))))
 := eL Tryz.func212 rfl (by kernel_rfl)
theorem a68 (T : S.Tab) (t0 : Int) : aa8 (S.step T) t0 =
 (E6 T t0).bind fun d4 =>
 brk (d4.1) (
 some (IntKind.i64.wrap (IntKind.u8.wrap (t0 - 48)), ac8)) (
 brk (decide (97 ≤ t0)) (
  brk (decide (t0 ≤ 102)) (
  some (IntKind.i64.wrap ((IntKind.i64.wrap (IntKind.u8.wrap (t0 - 97))) + 10), ac8)) (
  some ((-1 : Int), ac8))) (
  some ((-1 : Int), ac8)))
 := eF Tryz.func250 (by kernel_rfl)
theorem aT0 (T : S.Tab) (t0 : List Int) (t1 : n7.den) : am3 (S.step T) t0 t1 =
 (G4 T t0 t1 (0, 0, 0, 0, 0, ([] : List Int), ()) (IntKind.i64.wrap (t1.2.1 + 2)) 0).bind (K8
  (fun y3 =>
 some (y3, ab8))
  (fun y3 =>
 brk (decide (y3.2.2.1 = IntKind.i64.wrap (y3.1.2.1 + 2))) (
  some ((y3.1, y3.2.2.1, ()), ab8)) (
  some (((y3.1.1, y3.1.2.1, y3.2.2.1, y3.1.2.2.2.1, IntKind.i64.wrap y3.2.2.2.1, y3.1.2.2.2.2.2), (-1 : Int), ()), ab8))))
 := eF Tryz.func249 (by kernel_rfl)
theorem S5 (T : S.Tab) (t0 : List Int) (t3 : n7.den) (t4 : n7.den) (t6 : Int) (t7 : Int) : G4 (S.step T) t0 t3 t4 t6 t7 =
 (A3 T t0 t6).bind fun d13 =>
 (aa8 T d13.1).bind fun d14 =>
 brk (decide (0 ≤ d14.1)) (
 brk (decide (IntKind.i64.wrap (t6 - t3.2.1) = 18)) (
  some (Sum.inl (t3, t6, ()))) (
  brk (decide (0 ≤ t6) && decide (t6 < (t0.length : Int))) (
  (aa8 T (t0.getD t6.toNat 0)).bind fun d28 =>
  G4 T t0 t3 t4 (IntKind.i64.wrap (t6 + 1)) (IntKind.u64.wrap ((IntKind.u64.wrap (t7 * 16)) + (IntKind.u64.wrap d28.1)))) none)) (
 some (Sum.inr (Sum.inl (t3, t4, t6, t7, ()))))
 := eL Tryz.func249 rfl (by kernel_rfl)
theorem ad4 (T : S.Tab) (t0 : List Int) (t1 : n7.den) : T9 (S.step T) t0 t1 =
 brk (decide (0 ≤ t1.2.1) && decide (t1.2.1 < (t0.length : Int))) (
 brk (decide (t0.getD t1.2.1.toNat 0 = 48)) (
 (A3 T t0 (IntKind.i64.wrap (t1.2.1 + 1))).bind fun d20 =>
 brk (decide (d20.1 = 120)) (
  (am3 T t0 (2, t1.2)).bind fun d25 =>
  some (d25.1, O3)) (
  brk (decide (0 ≤ t1.2.1) && decide (t1.2.1 < (t0.length : Int))) (
  brk (!decide (t0.getD t1.2.1.toNat 0 = 48)) (
  (E0 T t0 (2, t1.2) (0, 0, 0, 0, 0, ([] : List Int), ()) (IntKind.i64.wrap (t1.2.1 + 1))).bind (C7
   (fun y7 =>
   (E1 T y7.1 y7.2.1 y7.2.2.1 y7.2.2.2.1).bind (C7
    (fun y9 =>
   some (y9, O3)))))) (
  (E1 T t0 (2, t1.2) (0, 0, 0, 0, 0, ([] : List Int), ()) (IntKind.i64.wrap (t1.2.1 + 1))).bind (C7
   (fun y9 =>
   some (y9, O3))))) none)) (
 brk (decide (0 ≤ t1.2.1) && decide (t1.2.1 < (t0.length : Int))) (
 brk (!decide (t0.getD t1.2.1.toNat 0 = 48)) (
  (E0 T t0 (2, t1.2) (0, 0, 0, 0, 0, ([] : List Int), ()) (IntKind.i64.wrap (t1.2.1 + 1))).bind (C7
   (fun y7 =>
  (E1 T y7.1 y7.2.1 y7.2.2.1 y7.2.2.2.1).bind (C7
   (fun y9 =>
   some (y9, O3)))))) (
  (E1 T t0 (2, t1.2) (0, 0, 0, 0, 0, ([] : List Int), ()) (IntKind.i64.wrap (t1.2.1 + 1))).bind (C7
   (fun y9 =>
  some (y9, O3))))) none)) none
 := eF Tryz.func214 (by kernel_rfl)
theorem X6 (T : S.Tab) (t0 : List Int) (t3 : n7.den) (t4 : n7.den) (t6 : Int) : E1 (S.step T) t0 t3 t4 t6 =
 (A3 T t0 t6).bind fun d43 =>
 brk (decide (d43.1 = 46)) (
 (A3 T t0 (IntKind.i64.wrap (t6 + 1))).bind fun d49 =>
 (E6 T d49.1).bind fun d50 =>
 brk (d50.1) (
  (E5 T t0 (3, t3.2) t4 (IntKind.i64.wrap (t6 + 1))).bind (C7
   (fun y12 =>
  (A1 T y12.1 y12.2.1 y12.2.2.1 y12.2.2.2.1).bind (C7
   (fun y14 =>
   some (Sum.inl y14)))))) (
  (A1 T t0 t3 t4 t6).bind (C7
   (fun y14 =>
  some (Sum.inl y14))))) (
 (A1 T t0 t3 t4 t6).bind (C7
  (fun y14 =>
  some (Sum.inl y14))))
 := eJ Tryz.func214 rfl (by kernel_rfl)
theorem ae4 (T : S.Tab) (t0 : List Int) (t3 : n7.den) (t4 : n7.den) (t6 : Int) : A1 (S.step T) t0 t3 t4 t6 =
 (A3 T t0 t6).bind fun d63 =>
 brk (decide (d63.1 = 101)) (
 (A3 T t0 (IntKind.i64.wrap (t6 + 1))).bind fun d70 =>
 brk (decide (d70.1 = 45)) (
  (A3 T t0 (IntKind.i64.wrap ((IntKind.i64.wrap (t6 + 1)) + 1))).bind fun d82 =>
  (E6 T d82.1).bind fun d83 =>
  brk (!d83.1) (
  some (Sum.inl ((3, t3.2), IntKind.i64.wrap ((IntKind.i64.wrap (t6 + 1)) + 1), ()))) (
  (A2 T t0 (3, t3.2) t4 (IntKind.i64.wrap ((IntKind.i64.wrap (t6 + 1)) + 1))).bind (C7
   (fun y21 =>
   (z8 T y21.1 y21.2.1 y21.2.2.1 y21.2.2.2.1).bind (C7
    (fun y23 =>
   some (Sum.inl y23))))))) (
  (A3 T t0 (IntKind.i64.wrap (t6 + 1))).bind fun d75 =>
  brk (decide (d75.1 = 43)) (
  (A3 T t0 (IntKind.i64.wrap ((IntKind.i64.wrap (t6 + 1)) + 1))).bind fun d82 =>
  (E6 T d82.1).bind fun d83 =>
  brk (!d83.1) (
   some (Sum.inl ((3, t3.2), IntKind.i64.wrap ((IntKind.i64.wrap (t6 + 1)) + 1), ()))) (
   (A2 T t0 (3, t3.2) t4 (IntKind.i64.wrap ((IntKind.i64.wrap (t6 + 1)) + 1))).bind (C7
    (fun y21 =>
   (z8 T y21.1 y21.2.1 y21.2.2.1 y21.2.2.2.1).bind (C7
    (fun y23 =>
    some (Sum.inl y23))))))) (
  (A3 T t0 (IntKind.i64.wrap (t6 + 1))).bind fun d82 =>
  (E6 T d82.1).bind fun d83 =>
  brk (!d83.1) (
   some (Sum.inl ((3, t3.2), IntKind.i64.wrap (t6 + 1), ()))) (
   (A2 T t0 (3, t3.2) t4 (IntKind.i64.wrap (t6 + 1))).bind (C7
    (fun y21 =>
   (z8 T y21.1 y21.2.1 y21.2.2.1 y21.2.2.2.1).bind (C7
    (fun y23 =>
    some (Sum.inl y23))))))))) (
 (z8 T t0 t3 t4 t6).bind (C7
  (fun y23 =>
  some (Sum.inl y23))))
 := eJ Tryz.func214 rfl (by kernel_rfl)
theorem af0 (T : S.Tab) (t0 : List Int) (t3 : n7.den) (t4 : n7.den) (t6 : Int) : z8 (S.step T) t0 t3 t4 t6 =
 (r6 T t0 (t3.1, t3.2.1, t6, t3.2.2.2) t4 t6 0 t3.2.1).bind (C7
  (fun y26 =>
 brk (decide (y26.2.1.1 = 3)) (
  brk (bounds y26.1.length y26.2.1.2.1 y26.2.2.2.1) (
  some (Sum.inl ((y26.2.1.1, y26.2.1.2.1, y26.2.1.2.2.1, y26.2.1.2.2.2.1, y26.2.1.2.2.2.2.1, sub y26.1 y26.2.1.2.1 y26.2.2.2.1, ()), (-1 : Int), ()))) none) (
  some (Sum.inl ((y26.2.1.1, y26.2.1.2.1, y26.2.1.2.2.1, y26.2.1.2.2.2.1, IntKind.i64.wrap y26.2.2.2.2.1, y26.2.1.2.2.2.2.2), (-1 : Int), ())))))
 := eJ Tryz.func214 rfl (by kernel_rfl)
theorem ag2 (T : S.Tab) (t0 : List Int) (t3 : n7.den) (t4 : n7.den) (t6 : Int) : E0 (S.step T) t0 t3 t4 t6 =
 (A3 T t0 t6).bind fun d37 =>
 (E6 T d37.1).bind fun d38 =>
 brk (d38.1) (
 E0 T t0 t3 t4 (IntKind.i64.wrap (t6 + 1))) (
 some (Sum.inl (t0, t3, t4, t6, ())))
 := eL Tryz.func214 rfl (by kernel_rfl)
theorem ae5 (T : S.Tab) (t0 : List Int) (t3 : n7.den) (t4 : n7.den) (t6 : Int) : E5 (S.step T) t0 t3 t4 t6 =
 (A3 T t0 t6).bind fun d57 =>
 (E6 T d57.1).bind fun d58 =>
 brk (d58.1) (
 E5 T t0 t3 t4 (IntKind.i64.wrap (t6 + 1))) (
 some (Sum.inl (t0, t3, t4, t6, ())))
 := eL Tryz.func214 rfl (by kernel_rfl)
theorem ad9 (T : S.Tab) (t0 : List Int) (t3 : n7.den) (t4 : n7.den) (t6 : Int) : A2 (S.step T) t0 t3 t4 t6 =
 (A3 T t0 t6).bind fun d89 =>
 (E6 T d89.1).bind fun d90 =>
 brk (d90.1) (
 A2 T t0 t3 t4 (IntKind.i64.wrap (t6 + 1))) (
 some (Sum.inl (t0, t3, t4, t6, ())))
 := eL Tryz.func214 rfl (by kernel_rfl)
theorem G8 (T : S.Tab) (t0 : List Int) (t3 : n7.den) (t4 : n7.den) (t6 : Int) (t7 : Int) (t8 : Int) : r6 (S.step T) t0 t3 t4 t6 t7 t8 =
 brk (decide (t8 < t6)) (
 brk (decide (t3.1 = 2)) (
  brk (decide (922337203685477580 < t7)) (
  brk (decide (0 ≤ t8) && decide (t8 < (t0.length : Int))) (
  r6 T t0 (3, t3.2) t4 t6 (IntKind.u64.wrap ((IntKind.u64.wrap (t7 * 10)) + (IntKind.u64.wrap (IntKind.u8.wrap ((t0.getD t8.toNat 0) - 48))))) (IntKind.i64.wrap (t8 + 1))) none) (
  brk (decide (t7 = 922337203685477580)) (
   brk (decide (0 ≤ t8) && decide (t8 < (t0.length : Int))) (
   brk (decide (55 < t0.getD t8.toNat 0)) (
   brk (decide (0 ≤ t8) && decide (t8 < (t0.length : Int))) (
   r6 T t0 (3, t3.2) t4 t6 (IntKind.u64.wrap ((IntKind.u64.wrap (t7 * 10)) + (IntKind.u64.wrap (IntKind.u8.wrap ((t0.getD t8.toNat 0) - 48))))) (IntKind.i64.wrap (t8 + 1))) none) (
   brk (decide (0 ≤ t8) && decide (t8 < (t0.length : Int))) (
   r6 T t0 t3 t4 t6 (IntKind.u64.wrap ((IntKind.u64.wrap (t7 * 10)) + (IntKind.u64.wrap (IntKind.u8.wrap ((t0.getD t8.toNat 0) - 48))))) (IntKind.i64.wrap (t8 + 1))) none)) none) (
   brk (decide (0 ≤ t8) && decide (t8 < (t0.length : Int))) (
   r6 T t0 t3 t4 t6 (IntKind.u64.wrap ((IntKind.u64.wrap (t7 * 10)) + (IntKind.u64.wrap (IntKind.u8.wrap ((t0.getD t8.toNat 0) - 48))))) (IntKind.i64.wrap (t8 + 1))) none))) (
  some (Sum.inl (t0, t3, t4, t6, t7, ())))) (
 some (Sum.inl (t0, t3, t4, t6, t7, ())))
 := eL Tryz.func214 rfl (by kernel_rfl)
theorem aO0 (T : S.Tab) (t0 : List Int) (t1 : n7.den) : af2 (S.step T) t0 t1 =
 (p4 T t0 (4, t1.2) (0, 0, 0, 0, 0, ([] : List Int), ()) (IntKind.i64.wrap (t1.2.1 + 1)) []).bind (K8
  (fun y4 =>
 some (y4, ah8))
  (fun y4 =>
 some ((y4.1, y4.2.2), ah8)))
 := eF Tryz.func215 (by kernel_rfl)
theorem U7 (T : S.Tab) (t0 : List Int) (t3 : n7.den) (t4 : n7.den) (t6 : Int) (t7 : List Int) (t46 : Int) (t59 : Bool) : A8 (S.step T) t0 t3 t4 t6 t7 t46 t59 =
 brk (t59) (
 brk (decide (0 ≤ t6) && decide (t6 < (t0.length : Int))) (
 brk (fits (t7.length + ([t0.getD t6.toNat 0] : List Int).length)) (
 some (Sum.inl (t0, t3, t4, t6, t7 ++ ([t0.getD t6.toNat 0] : List Int), ()))) none) none) (
 brk (decide (t46 = 120)) (
  (C4 T t0 t3 t4 t6 t7 1).bind (K8
   (fun y27 =>
  some (Sum.inr (Sum.inl y27)))
   (fun y27 =>
  brk (decide (0 ≤ IntKind.i64.wrap (y27.2.2.2.1 + 1)) && decide (IntKind.i64.wrap (y27.2.2.2.1 + 1) < (y27.1.length : Int))) (
  (aa8 T (y27.1.getD ((IntKind.i64.wrap (y27.2.2.2.1 + 1)).toNat) 0)).bind fun d90 =>
  brk (decide (0 ≤ IntKind.i64.wrap (y27.2.2.2.1 + 2)) && decide (IntKind.i64.wrap (y27.2.2.2.1 + 2) < (y27.1.length : Int))) (
  (aa8 T (y27.1.getD ((IntKind.i64.wrap (y27.2.2.2.1 + 2)).toNat) 0)).bind fun d96 =>
  brk (fits (y27.2.2.2.2.1.length + ([IntKind.u8.wrap (IntKind.i64.wrap ((IntKind.i64.wrap (16 * d90.1)) + d96.1))] : List Int).length)) (
  some (Sum.inl (y27.1, y27.2.1, y27.2.2.1, IntKind.i64.wrap (y27.2.2.2.1 + 2), y27.2.2.2.2.1 ++ ([IntKind.u8.wrap (IntKind.i64.wrap ((IntKind.i64.wrap (16 * d90.1)) + d96.1))] : List Int), ()))) none) none) none))) (
  some (Sum.inr (Sum.inl (t3, t6, ())))))
 := eJ Tryz.func215 rfl (by kernel_rfl)
theorem H8 (T : S.Tab) (t0 : List Int) (t3 : n7.den) (t4 : n7.den) (t6 : Int) (t7 : List Int) : p4 (S.step T) t0 t3 t4 t6 t7 =
 brk (decide (t6 < (t0.length : Int))) (
 brk (decide (0 ≤ t6) && decide (t6 < (t0.length : Int))) (
 brk (decide (t0.getD t6.toNat 0 = 34)) (
  some (Sum.inl ((t3.1, t3.2.1, IntKind.i64.wrap (t6 + 1), t3.2.2.2.1, t3.2.2.2.2.1, t7.map byte, ()), (-1 : Int), ()))) (
  brk (decide (t0.getD t6.toNat 0 = 10)) (
  some (Sum.inl (t3, t6, ()))) (
  brk (!decide (t0.getD t6.toNat 0 = 92)) (
   brk (fits (t7.length + ([t0.getD t6.toNat 0] : List Int).length)) (
   p4 T t0 t3 t4 (IntKind.i64.wrap (t6 + 1)) (t7 ++ ([t0.getD t6.toNat 0] : List Int))) none) (
   (A3 T t0 (IntKind.i64.wrap (t6 + 1))).bind fun d46 =>
   brk (decide (d46.1 = 110)) (
   brk (fits (t7.length + 1)) (
   p4 T t0 t3 t4 (IntKind.i64.wrap ((IntKind.i64.wrap (t6 + 1)) + 1)) (t7 ++ ([10] : List Int))) none) (
   brk (decide (d46.1 = 116)) (
    brk (fits (t7.length + 1)) (
    p4 T t0 t3 t4 (IntKind.i64.wrap ((IntKind.i64.wrap (t6 + 1)) + 1)) (t7 ++ ([9] : List Int))) none) (
    brk (decide (d46.1 = 34)) (
    (A8 T t0 t3 t4 (IntKind.i64.wrap (t6 + 1)) t7 d46.1 (decide (d46.1 = 34))).bind (K8
     (fun y24 =>
     p4 T y24.1 y24.2.1 y24.2.2.1 (IntKind.i64.wrap (y24.2.2.2.1 + 1)) y24.2.2.2.2.1)
     (fun y24 =>
     some (Sum.inl y24)))) (
    (A8 T t0 t3 t4 (IntKind.i64.wrap (t6 + 1)) t7 d46.1 (decide (d46.1 = 92))).bind (K8
     (fun y24 =>
     p4 T y24.1 y24.2.1 y24.2.2.1 (IntKind.i64.wrap (y24.2.2.2.1 + 1)) y24.2.2.2.2.1)
     (fun y24 =>
     some (Sum.inl y24)))))))))) none) (
 some (Sum.inr (Sum.inl (t3, t4, t6, ()))))
 := eL Tryz.func215 rfl (by kernel_rfl)
theorem V0 (T : S.Tab) (t0 : List Int) (t3 : n7.den) (t4 : n7.den) (t6 : Int) (t7 : List Int) (t9 : Int) : C4 (S.step T) t0 t3 t4 t6 t7 t9 =
 brk (decide (t9 < 3)) (
 (A3 T t0 (IntKind.i64.wrap (t6 + t9))).bind fun d78 =>
 (aa8 T d78.1).bind fun d79 =>
 brk (decide (d79.1 < 0)) (
  some (Sum.inl (t3, IntKind.i64.wrap (t6 + t9), ()))) (
  C4 T t0 t3 t4 t6 t7 (IntKind.i64.wrap (t9 + 1)))) (
 some (Sum.inr (Sum.inl (t0, t3, t4, t6, t7, ()))))
 := eL Tryz.func215 rfl (by kernel_rfl)
theorem aR5 (T : S.Tab) : am4 (S.step T) =
 some (([([46, 46, 46] : List Int), ([46, 46] : List Int), ([46] : List Int), ([60, 60] : List Int), ([60, 61] : List Int), ([60] : List Int), ([62, 62] : List Int), ([62, 61] : List Int), ([62] : List Int), ([61, 61] : List Int), ([61] : List Int), ([126, 61] : List Int), ([126] : List Int), ([47, 47] : List Int), ([47] : List Int), ([40] : List Int), ([41] : List Int), ([123] : List Int), ([125] : List Int), ([91] : List Int), ([93] : List Int), ([44] : List Int), ([59] : List Int), ([35] : List Int), ([43] : List Int), ([45] : List Int), ([42] : List Int), ([37] : List Int), ([38] : List Int), ([124] : List Int)] : List (List Int)), aA2)
 := eF Tryz.func203 (by kernel_rfl)
theorem aW1 (T : S.Tab) (t0 : List Int) : W9 (S.step T) t0 =
 (F1 T t0 ([([] : List Int), ([43] : List Int), ([45] : List Int), ([42] : List Int), ([47] : List Int), ([47, 47] : List Int), ([37] : List Int), ([38] : List Int), ([124] : List Int), ([126] : List Int), ([60, 60] : List Int), ([62, 62] : List Int), ([46, 46] : List Int), ([61, 61] : List Int), ([126, 61] : List Int), ([60] : List Int), ([60, 61] : List Int), ([62] : List Int), ([62, 61] : List Int)] : List (List Int)) 1).bind (K8
  (fun y3 =>
 some (y3.1, U1))
  (fun y3 =>
 (I1 T y3.1 ([([40] : List Int), ([41] : List Int), ([123] : List Int), ([125] : List Int), ([91] : List Int), ([93] : List Int), ([44] : List Int), ([61] : List Int), ([46] : List Int), ([46, 46, 46] : List Int), ([35] : List Int)] : List (List Int)) (([([40] : List Int), ([41] : List Int), ([123] : List Int), ([125] : List Int), ([91] : List Int), ([93] : List Int), ([44] : List Int), ([61] : List Int), ([46] : List Int), ([46, 46, 46] : List Int), ([35] : List Int)] : List (List Int)).length : Int) 0).bind (K8
  (fun y9 =>
  some (y9.1, U1))
  (fun y9 =>
  some (5, U1)))))
 := eF Tryz.func204 (by kernel_rfl)
theorem ap5 (T : S.Tab) (t0 : List Int) (t3 : List (List Int)) (t4 : Int) : F1 (S.step T) t0 t3 t4 =
 brk (decide (t4 < (t3.length : Int))) (
 brk (decide (0 ≤ t4) && decide (t4 < (t3.length : Int))) (
 brk (decide ((t3.getD t4.toNat []) = t0)) (
  some (Sum.inl (IntKind.i64.wrap (60 + t4), ()))) (
  F1 T t0 t3 (IntKind.i64.wrap (t4 + 1)))) none) (
 some (Sum.inr (Sum.inl (t0, ()))))
 := eL Tryz.func204 rfl (by kernel_rfl)
theorem ao2 (T : S.Tab) (t0 : List Int) (t24 : List (List Int)) (t25 : Int) (t26 : Int) : I1 (S.step T) t0 t24 t25 t26 =
 brk (decide (t26 < t25)) (
 brk (decide (0 ≤ t26) && decide (t26 < (t24.length : Int))) (
 brk (decide ((t24.getD t26.toNat []) = t0)) (
  some (Sum.inl (IntKind.i64.wrap (40 + t26), ()))) (
  I1 T t0 t24 t25 (IntKind.i64.wrap (t26 + 1)))) none) (
 some (Sum.inr (Sum.inl ())))
 := eL Tryz.func204 rfl (by kernel_rfl)
theorem aX3 (T : S.Tab) (t0 : List Int) (t1 : Int) : L9 (S.step T) t0 t1 =
 brk (decide (0 ≤ t1) && decide (t1 < (t0.length : Int))) (
 brk (decide (t0.getD t1.toNat 0 = 10)) (
 some (((7, t1, IntKind.i64.wrap (t1 + 1), 0, 0, ([] : List Int), ()), (-1 : Int), ()), Q6)) (
 (Z8 T (t0.getD t1.toNat 0)).bind fun d23 =>
 brk (d23.1) (
  (at0 T t0 (0, t1, 0, 0, 0, ([] : List Int), ())).bind fun d26 =>
  some (d26.1, Q6)) (
  (E6 T (t0.getD t1.toNat 0)).bind fun d30 =>
  brk (d30.1) (
  (T9 T t0 (0, t1, 0, 0, 0, ([] : List Int), ())).bind fun d33 =>
  some (d33.1, Q6)) (
  brk (decide (t0.getD t1.toNat 0 = 34)) (
   (af2 T t0 (0, t1, 0, 0, 0, ([] : List Int), ())).bind fun d40 =>
   some (d40.1, Q6)) (
   (am4 T).bind fun d43 =>
   (D2 T t0 t1 (0, 0, 0, 0, 0, ([] : List Int), ()) (0, t1, 0, 0, 0, ([] : List Int), ()) d43.1 (d43.1.length : Int) 0).bind (K8
    (fun y14 =>
   some (y14, Q6))
    (fun y14 =>
   some ((y14.2.2.1, y14.1, ()), Q6)))))))) none
 := eF Tryz.func144 (by kernel_rfl)
theorem ak3 (T : S.Tab) (t0 : List Int) (t1 : Int) (t4 : n7.den) (t6 : n7.den) (t43 : List (List Int)) (t44 : Int) (t45 : Int) : D2 (S.step T) t0 t1 t4 t6 t43 t44 t45 =
 brk (decide (t45 < t44)) (
 brk (decide (0 ≤ t45) && decide (t45 < (t43.length : Int))) (
 brk (decide (((t43.getD t45.toNat []).length : Int) ≤ IntKind.i64.wrap ((t0.length : Int) - t1))) (
  brk (bounds t0.length t1 (IntKind.i64.wrap (t1 + ((t43.getD t45.toNat []).length : Int)))) (
  brk (decide ((sub t0 t1 (IntKind.i64.wrap (t1 + ((t43.getD t45.toNat []).length : Int)))) = (t43.getD t45.toNat []))) (
  (W9 T (t43.getD t45.toNat [])).bind fun d68 =>
  some (Sum.inl ((d68.1, t6.2.1, IntKind.i64.wrap (t1 + ((t43.getD t45.toNat []).length : Int)), t6.2.2.2), (-1 : Int), ()))) (
  D2 T t0 t1 t4 t6 t43 t44 (IntKind.i64.wrap (t45 + 1)))) none) (
  D2 T t0 t1 t4 t6 t43 t44 (IntKind.i64.wrap (t45 + 1)))) none) (
 some (Sum.inr (Sum.inl (t1, t4, t6, ()))))
 := eL Tryz.func144 rfl (by kernel_rfl)
theorem ad1 (T : S.Tab) (t0 : List Int) : C1 (S.step T) t0 =
 brk (decide ((t0.length : Int) = 0)) (
 some (false, F7)) (
 brk (decide (40 < (t0.length : Int))) (
  some (false, F7)) (
  brk (decide (0 < (t0.length : Int))) (
  (Z8 T (t0.getD 0 0)).bind fun d16 =>
  brk (!d16.1) (
  some (false, F7)) (
  (L9 T t0 0).bind fun d21 =>
  brk (decide (d21.1.2.1 < 0)) (
   brk (decide (d21.1.1.1 = 1)) (
   some (decide (d21.1.1.2.2.1 = (t0.length : Int)), F7)) (
   some (false, F7))) (
   some (false, F7)))) none))
 := eF Tryz.func184 (by kernel_rfl)
theorem aT7 (T : S.Tab) (t0 : b8.den) (t1 : Int) (t2 : Int) : I6 (S.step T) t0 t1 t2 =
 brk (decide ((t0.2.2.2.2.2.2.2.1.length : Int) < t1)) (
 some (false, S1)) (
 brk (decide (t2 < (t0.2.2.2.2.2.2.2.1.length : Int))) (
  some (false, S1)) (
  (F5 T t0.2.2.2.2.2.2.2.1 (t0.2.2.2.2.2.2.2.1.length : Int) 0).bind (K8
   (fun y4 =>
  some (y4.1, S1))
   (fun y4 =>
  some (true, S1)))))
 := eF Tryz.func180 (by kernel_rfl)
theorem am0 (T : S.Tab) (t22 : List (List Int)) (t23 : Int) (t24 : Int) : F5 (S.step T) t22 t23 t24 =
 brk (decide (t24 < t23)) (
 brk (decide (0 ≤ t24) && decide (t24 < (t22.length : Int))) (
 (C1 T (t22.getD t24.toNat [])).bind fun d29 =>
 brk (!d29.1) (
  some (Sum.inl (false, ()))) (
  F5 T t22 t23 (IntKind.i64.wrap (t24 + 1)))) none) (
 some (Sum.inr (Sum.inl ())))
 := eL Tryz.func180 rfl (by kernel_rfl)
theorem aY4 (T : S.Tab) (t0 : Int) : ar2 (S.step T) t0 =
 brk (decide (20 ≤ t0)) (
 some (decide (t0 ≤ 37), at6)) (
 some (false, at6))
 := eF Tryz.func242 (by kernel_rfl)
theorem aU5 (T : S.Tab) (t0 : List b8.den × Unit) (t1 : b8.den) (t2 : Int) (t3 : Int) : p8 (S.step T) t0 t1 t2 t3 =
 (O7 T t3 t0 t1 t2).bind (K8
  (fun y2 =>
 some (y2.1, z6))
  (fun y2 =>
 some (true, z6)))
 := eF Tryz.func181 (by kernel_rfl)
theorem aj0 (T : S.Tab) (t3 : Int) (t4 : List b8.den × Unit) (t5 : b8.den) (t9 : Int) : O7 (S.step T) t3 t4 t5 t9 =
 brk (decide (t9 < t3)) (
 brk (decide (0 ≤ t9) && decide (t9 < (t5.2.2.2.2.2.2.2.2.1.length : Int))) (
 brk (decide (0 ≤ t5.2.2.2.2.2.2.2.2.1.getD t9.toNat 0) && decide (t5.2.2.2.2.2.2.2.2.1.getD t9.toNat 0 < (t4.1.length : Int))) (
 (ar2 T (at_ (τ := b8) t4.1 (t5.2.2.2.2.2.2.2.2.1.getD t9.toNat 0)).1).bind fun d26 =>
 brk (!d26.1) (
  some (Sum.inl (false, ()))) (
  O7 T t3 t4 t5 (IntKind.i64.wrap (t9 + 1)))) none) none) (
 some (Sum.inr (Sum.inl ())))
 := eL Tryz.func181 rfl (by kernel_rfl)
theorem aM9 (T : S.Tab) (t0 : Int) : af6 (S.step T) t0 =
 brk (decide (t0 = 26)) (
 some (true, aa0)) (
 brk (decide (t0 = 32)) (
  some (true, aa0)) (
  some (decide (t0 = 33), aa0)))
 := eF Tryz.func182 (by kernel_rfl)
theorem aC0 (T : S.Tab) (t0 : List b8.den × Unit) (t1 : b8.den) : R9 (S.step T) t0 t1 =
 brk (decide (t1.1 = 1)) (
 (A4 T t0 t1 (t1.2.2.2.2.2.2.2.2.1.length : Int) 0).bind (K8
  (fun y5 =>
  some (y5.1, j8))
  (fun y5 =>
  (r4 T y5.1 false false false false).bind fun d29 =>
  some (d29.1, j8)))) (
 brk (decide (t1.1 = 2)) (
  (r4 T t1 false false false true).bind fun d33 =>
  brk (d33.1) (
  (I6 T t1 1 200).bind fun d36 =>
  brk (d36.1) (
   (p8 T t0 t1 0 (t1.2.2.2.2.2.2.2.2.1.length : Int)).bind fun d42 =>
   some (d42.1, j8)) (
   some (false, j8))) (
  some (false, j8))) (
  brk (decide (t1.1 = 3)) (
  (r4 T t1 false false false true).bind fun d47 =>
  brk (d47.1) (
   (I6 T t1 1 1).bind fun d50 =>
   brk (d50.1) (
   brk (decide ((t1.2.2.2.2.2.2.2.2.1.length : Int) = 1)) (
    (p8 T t0 t1 0 1).bind fun d59 =>
    some (d59.1, j8)) (
    some (false, j8))) (
   some (false, j8))) (
   some (false, j8))) (
  brk (decide (t1.1 = 4)) (
   (r4 T t1 false false false true).bind fun d64 =>
   brk (d64.1) (
   (I6 T t1 1 1).bind fun d67 =>
   brk (d67.1) (
    brk (decide ((t1.2.2.2.2.2.2.2.2.1.length : Int) = 1)) (
    (s5 T t0 t1 0).bind fun d76 =>
    some (decide (d76.1 = 36), j8)) (
    some (false, j8))) (
    some (false, j8))) (
   some (false, j8))) (
   brk (decide (t1.1 = 5)) (
   (r4 T t1 false true false false).bind fun d82 =>
   brk (!d82.1) (
    some (false, j8)) (
    brk (decide (t1.2.2.2.2.2.1 < 1)) (
    some (false, j8)) (
    brk (decide ((t1.2.2.2.2.2.2.2.2.1.length : Int) ≤ t1.2.2.2.2.2.1)) (
     some (false, j8)) (
     (s9 T t0 t1 (t1.2.2.2.2.2.2.2.2.1.length : Int) 0).bind (K8
      (fun y21 =>
     some (y21.1, j8))
      (fun y21 =>
     (p8 T y21.1 y21.2.1 y21.2.1.2.2.2.2.2.1 y21.2.2.1).bind fun d112 =>
     some (d112.1, j8))))))) (
   brk (decide (t1.1 = 6)) (
    (J8 T t0 t1 (t1.2.2.2.2.2.2.2.2.1.length : Int) t1.1 (decide (t1.1 = 6))).bind (K8
     (fun y28 =>
    some (y28.1, j8))
     (fun y28 =>
    (C8 T y28.1 y28.2.1 y28.2.2.1).bind (C7
     (fun y46 =>
     some (y46.1, j8)))))) (
    (J8 T t0 t1 (t1.2.2.2.2.2.2.2.2.1.length : Int) t1.1 (decide (t1.1 = 16))).bind (K8
     (fun y28 =>
    some (y28.1, j8))
     (fun y28 =>
    (C8 T y28.1 y28.2.1 y28.2.2.1).bind (C7
     (fun y46 =>
     some (y46.1, j8)))))))))))
 := eF Tryz.func115 (by kernel_rfl)
theorem as1 (T : S.Tab) (t2 : List b8.den × Unit) (t3 : b8.den) (t5 : Int) (t12 : Int) (t113 : Bool) : J8 (S.step T) t2 t3 t5 t12 t113 =
 brk (t113) (
 (r4 T t3 false false false false).bind fun d117 =>
 brk (d117.1) (
  brk (decide (t5 = 1)) (
  (s5 T t2 t3 0).bind fun d125 =>
  some (Sum.inl (decide (d125.1 = 34), ()))) (
  some (Sum.inl (false, ())))) (
  some (Sum.inl (false, ())))) (
 brk (decide (t12 = 7)) (
  (r4 T t3 false false false false).bind fun d131 =>
  brk (!d131.1) (
  some (Sum.inl (false, ()))) (
  brk (decide (t5 < 2)) (
   some (Sum.inl (false, ()))) (
   brk (decide (3 < t5)) (
   some (Sum.inl (false, ()))) (
   (p8 T t2 t3 0 1).bind fun d144 =>
   brk (!d144.1) (
    some (Sum.inl (false, ()))) (
    (s5 T t2 t3 1).bind fun d150 =>
    brk (!decide (d150.1 = 1)) (
    some (Sum.inl (false, ()))) (
    brk (decide (t5 = 2)) (
     some (Sum.inl (true, ()))) (
     (s5 T t2 t3 2).bind fun d158 =>
     brk (decide (d158.1 = 1)) (
     some (Sum.inl (true, ()))) (
     (s5 T t2 t3 2).bind fun d164 =>
     some (Sum.inl (decide (d164.1 = 7), ())))))))))) (
  brk (decide (t12 = 8)) (
  (r4 T t3 false false false false).bind fun d170 =>
  brk (d170.1) (
   brk (decide (t5 = 2)) (
   (p8 T t2 t3 0 1).bind fun d178 =>
   brk (d178.1) (
    (s5 T t2 t3 1).bind fun d183 =>
    some (Sum.inl (decide (d183.1 = 1), ()))) (
    some (Sum.inl (false, ())))) (
   some (Sum.inl (false, ())))) (
   some (Sum.inl (false, ())))) (
  brk (decide (t12 = 9)) (
   (r4 T t3 false false false true).bind fun d189 =>
   brk (d189.1) (
   (I6 T t3 1 1).bind fun d192 =>
   brk (d192.1) (
    brk (decide (t5 = 3)) (
    (p8 T t2 t3 0 (IntKind.i64.wrap (t5 - 1))).bind fun d207 =>
    brk (d207.1) (
     (s5 T t2 t3 (IntKind.i64.wrap (t5 - 1))).bind fun d214 =>
     some (Sum.inl (decide (d214.1 = 1), ()))) (
     some (Sum.inl (false, ())))) (
    brk (decide (t5 = 4)) (
     (p8 T t2 t3 0 (IntKind.i64.wrap (t5 - 1))).bind fun d207 =>
     brk (d207.1) (
     (s5 T t2 t3 (IntKind.i64.wrap (t5 - 1))).bind fun d214 =>
     some (Sum.inl (decide (d214.1 = 1), ()))) (
     some (Sum.inl (false, ())))) (
     some (Sum.inl (false, ()))))) (
    some (Sum.inl (false, ())))) (
   some (Sum.inl (false, ())))) (
   brk (decide (t12 = 10)) (
   (r4 T t3 false false false true).bind fun d220 =>
   brk (d220.1) (
    (I6 T t3 1 200).bind fun d223 =>
    brk (d223.1) (
    brk (decide (t5 = 2)) (
     (p8 T t2 t3 0 1).bind fun d232 =>
     brk (d232.1) (
     (s5 T t2 t3 1).bind fun d237 =>
     some (Sum.inl (decide (d237.1 = 1), ()))) (
     some (Sum.inl (false, ())))) (
     some (Sum.inl (false, ())))) (
    some (Sum.inl (false, ())))) (
    some (Sum.inl (false, ())))) (
   brk (decide (t12 = 11)) (
    (G9 T t2 t3 t5 t12 (decide (t12 = 11))).bind (K8
     (fun y41 =>
    some (Sum.inl y41))
     (fun y41 =>
    some (Sum.inr (Sum.inl y41))))) (
    (G9 T t2 t3 t5 t12 (decide (t12 = 12))).bind (K8
     (fun y41 =>
    some (Sum.inl y41))
     (fun y41 =>
    some (Sum.inr (Sum.inl y41))))))))))
 := eJ Tryz.func115 rfl (by kernel_rfl)
theorem as3 (T : S.Tab) (t2 : List b8.den × Unit) (t3 : b8.den) (t5 : Int) (t12 : Int) (t240 : Bool) : G9 (S.step T) t2 t3 t5 t12 t240 =
 brk (t240) (
 (r4 T t3 false false false false).bind fun d244 =>
 brk (d244.1) (
  some (Sum.inl (decide (t5 = 0), ()))) (
  some (Sum.inl (false, ())))) (
 brk (decide (t12 = 13)) (
  (r4 T t3 false false false false).bind fun d252 =>
  brk (d252.1) (
  (p8 T t2 t3 0 t5).bind fun d257 =>
  some (Sum.inl (d257.1, ()))) (
  some (Sum.inl (false, ())))) (
  brk (decide (t12 = 14)) (
  (r4 T t3 false false false true).bind fun d262 =>
  brk (d262.1) (
   (I6 T t3 1 2).bind fun d265 =>
   brk (d265.1) (
   brk (decide (t5 = 2)) (
    (s5 T t2 t3 0).bind fun d274 =>
    brk (decide (d274.1 = 1)) (
    (s5 T t2 t3 1).bind fun d280 =>
    some (Sum.inl (decide (d280.1 = 1), ()))) (
    some (Sum.inl (false, ())))) (
    some (Sum.inl (false, ())))) (
   some (Sum.inl (false, ())))) (
   some (Sum.inl (false, ())))) (
  some (Sum.inr (Sum.inl (t2, t3, t5, ()))))))
 := eJ Tryz.func115 rfl (by kernel_rfl)
theorem aq3 (T : S.Tab) (t2 : List b8.den × Unit) (t3 : b8.den) (t5 : Int) : C8 (S.step T) t2 t3 t5 =
 brk (decide (t3.1 = 15)) (
 (r4 T t3 false false false false).bind fun d288 =>
 brk (d288.1) (
  brk (decide (t5 = 1)) (
  (p8 T t2 t3 0 1).bind fun d297 =>
  some (Sum.inl (d297.1, ()))) (
  some (Sum.inl (false, ())))) (
  some (Sum.inl (false, ())))) (
 some (Sum.inl (false, ())))
 := eJ Tryz.func115 rfl (by kernel_rfl)
theorem aa3 (T : S.Tab) (t2 : List b8.den × Unit) (t3 : b8.den) (t17 : Int) (t18 : Int) : A4 (S.step T) t2 t3 t17 t18 =
 brk (decide (t18 < t17)) (
 (s5 T t2 t3 t18).bind fun d24 =>
 (T0 T d24.1).bind fun d25 =>
 brk (!d25.1) (
  some (Sum.inl (false, ()))) (
  A4 T t2 t3 t17 (IntKind.i64.wrap (t18 + 1)))) (
 some (Sum.inr (Sum.inl (t3, ()))))
 := eL Tryz.func115 rfl (by kernel_rfl)
theorem aa1 (T : S.Tab) (t2 : List b8.den × Unit) (t3 : b8.den) (t5 : Int) (t7 : Int) : s9 (S.step T) t2 t3 t5 t7 =
 brk (decide (t7 < t3.2.2.2.2.2.1)) (
 (s5 T t2 t3 t7).bind fun d104 =>
 (af6 T d104.1).bind fun d105 =>
 brk (!d105.1) (
  some (Sum.inl (false, ()))) (
  s9 T t2 t3 t5 (IntKind.i64.wrap (t7 + 1)))) (
 some (Sum.inr (Sum.inl (t2, t3, t5, ()))))
 := eL Tryz.func115 rfl (by kernel_rfl)
theorem ag3 (T : S.Tab) (t0 : List Int) : M8 (S.step T) t0 =
 brk (decide ((t0.length : Int) = 0)) (
 some (false, K6)) (
 brk (decide (40 < (t0.length : Int))) (
  some (false, K6)) (
  brk (decide (0 < (t0.length : Int))) (
  (E6 T (t0.getD 0 0)).bind fun d16 =>
  brk (!d16.1) (
  some (false, K6)) (
  (L9 T t0 0).bind fun d21 =>
  brk (decide (d21.1.2.1 < 0)) (
   brk (decide (d21.1.1.1 = 3)) (
   some (decide (d21.1.1.2.2.1 = (t0.length : Int)), K6)) (
   some (false, K6))) (
   some (false, K6)))) none))
 := eF Tryz.func183 (by kernel_rfl)
theorem ay6 (T : S.Tab) (t0 : List b8.den × Unit) (t1 : b8.den) : P5 (S.step T) t0 t1 =
 brk (decide (t1.1 = 20)) (
 (C6 T t0 t1 (t1.2.2.2.2.2.2.2.2.1.length : Int) t1.1 (decide (t1.1 = 20))).bind (K8
  (fun y7 =>
  some (y7.1, s7))
  (fun y7 =>
  (v8 T y7.1 y7.2.1 y7.2.2.1).bind (C7
   (fun y46 =>
  some (y46.1, s7)))))) (
 brk (decide (t1.1 = 21)) (
  (C6 T t0 t1 (t1.2.2.2.2.2.2.2.2.1.length : Int) t1.1 (decide (t1.1 = 21))).bind (K8
   (fun y7 =>
  some (y7.1, s7))
   (fun y7 =>
  (v8 T y7.1 y7.2.1 y7.2.2.1).bind (C7
   (fun y46 =>
   some (y46.1, s7)))))) (
  brk (decide (t1.1 = 22)) (
  (C6 T t0 t1 (t1.2.2.2.2.2.2.2.2.1.length : Int) t1.1 (decide (t1.1 = 22))).bind (K8
   (fun y7 =>
   some (y7.1, s7))
   (fun y7 =>
   (v8 T y7.1 y7.2.1 y7.2.2.1).bind (C7
    (fun y46 =>
   some (y46.1, s7)))))) (
  (C6 T t0 t1 (t1.2.2.2.2.2.2.2.2.1.length : Int) t1.1 (decide (t1.1 = 27))).bind (K8
   (fun y7 =>
   some (y7.1, s7))
   (fun y7 =>
   (v8 T y7.1 y7.2.1 y7.2.2.1).bind (C7
    (fun y46 =>
   some (y46.1, s7))))))))
 := eF Tryz.func116 (by kernel_rfl)
theorem aq9 (T : S.Tab) (t2 : List b8.den × Unit) (t3 : b8.den) (t5 : Int) (t12 : Int) (t13 : Bool) : C6 (S.step T) t2 t3 t5 t12 t13 =
 brk (t13) (
 brk (decide (t5 = 0)) (
  (r4 T t3 false false false false).bind fun d22 =>
  some (Sum.inl (d22.1, ()))) (
  some (Sum.inl (false, ())))) (
 brk (decide (t12 = 23)) (
  brk (decide (t5 = 0)) (
  (r4 T t3 false true false false).bind fun d30 =>
  some (Sum.inl (d30.1, ()))) (
  some (Sum.inl (false, ())))) (
  brk (decide (t12 = 24)) (
  brk (decide (t5 = 0)) (
   (r4 T t3 false false true false).bind fun d38 =>
   brk (d38.1) (
   (M8 T t3.2.2.2.2.2.2.1).bind fun d43 =>
   some (Sum.inl (d43.1, ()))) (
   some (Sum.inl (false, ())))) (
   some (Sum.inl (false, ())))) (
  brk (decide (t12 = 25)) (
   brk (decide (t5 = 0)) (
   (r4 T t3 false false true false).bind fun d51 =>
   brk (d51.1) (
    some (Sum.inl (decide ((t3.2.2.2.2.2.2.1.length : Int) ≤ 4000), ()))) (
    some (Sum.inl (false, ())))) (
   some (Sum.inl (false, ())))) (
   brk (decide (t12 = 26)) (
   brk (decide (t5 = 0)) (
    (r4 T t3 false false true false).bind fun d65 =>
    brk (d65.1) (
    (C1 T t3.2.2.2.2.2.2.1).bind fun d70 =>
    some (Sum.inl (d70.1, ()))) (
    some (Sum.inl (false, ())))) (
    some (Sum.inl (false, ())))) (
   brk (decide (t12 = 28)) (
    (E3 T t2 t3 t5 t12 (decide (t12 = 28))).bind (K8
     (fun y18 =>
    some (Sum.inl y18))
     (fun y18 =>
    some (Sum.inr (Sum.inl y18))))) (
    (E3 T t2 t3 t5 t12 (decide (t12 = 29))).bind (K8
     (fun y18 =>
    some (Sum.inl y18))
     (fun y18 =>
    some (Sum.inr (Sum.inl y18))))))))))
 := eJ Tryz.func116 rfl (by kernel_rfl)
theorem ao7 (T : S.Tab) (t2 : List b8.den × Unit) (t3 : b8.den) (t5 : Int) (t12 : Int) (t72 : Bool) : E3 (S.step T) t2 t3 t5 t12 t72 =
 brk (t72) (
 brk (decide (t5 = 2)) (
  (p8 T t2 t3 0 2).bind fun d80 =>
  brk (d80.1) (
  (r4 T t3 false false false false).bind fun d84 =>
  some (Sum.inl (d84.1, ()))) (
  some (Sum.inl (false, ())))) (
  some (Sum.inl (false, ())))) (
 brk (decide (t12 = 32)) (
  brk (decide (t5 = 2)) (
  (p8 T t2 t3 0 2).bind fun d93 =>
  brk (d93.1) (
   (s5 T t2 t3 0).bind fun d98 =>
   brk (!decide (d98.1 = 27)) (
   (r4 T t3 false false false false).bind fun d103 =>
   some (Sum.inl (d103.1, ()))) (
   some (Sum.inl (false, ())))) (
   some (Sum.inl (false, ())))) (
  some (Sum.inl (false, ())))) (
  brk (decide (t12 = 30)) (
  brk (decide (t5 = 1)) (
   (p8 T t2 t3 0 1).bind fun d112 =>
   brk (d112.1) (
   (r4 T t3 true false false false).bind fun d116 =>
   brk (d116.1) (
    brk (decide (19 ≤ t3.2.2.2.2.1)) (
    some (Sum.inl (decide (t3.2.2.2.2.1 ≤ 22), ()))) (
    some (Sum.inl (false, ())))) (
    some (Sum.inl (false, ())))) (
   some (Sum.inl (false, ())))) (
   some (Sum.inl (false, ())))) (
  brk (decide (t12 = 31)) (
   brk (decide (t5 = 2)) (
   (p8 T t2 t3 0 2).bind fun d135 =>
   brk (d135.1) (
    (r4 T t3 true false false false).bind fun d139 =>
    brk (d139.1) (
    brk (decide (1 ≤ t3.2.2.2.2.1)) (
     some (Sum.inl (decide (t3.2.2.2.2.1 ≤ 18), ()))) (
     some (Sum.inl (false, ())))) (
    some (Sum.inl (false, ())))) (
    some (Sum.inl (false, ())))) (
   some (Sum.inl (false, ())))) (
   brk (decide (t12 = 33)) (
   brk (decide (t5 = 1)) (
    (p8 T t2 t3 0 1).bind fun d158 =>
    brk (d158.1) (
    (s5 T t2 t3 0).bind fun d163 =>
    brk (!decide (d163.1 = 27)) (
     (r4 T t3 false false true false).bind fun d168 =>
     brk (d168.1) (
     (C1 T t3.2.2.2.2.2.2.1).bind fun d173 =>
     some (Sum.inl (d173.1, ()))) (
     some (Sum.inl (false, ())))) (
     some (Sum.inl (false, ())))) (
    some (Sum.inl (false, ())))) (
    some (Sum.inl (false, ())))) (
   brk (decide (t12 = 34)) (
    brk (decide (1 ≤ t5)) (
    (p8 T t2 t3 0 t5).bind fun d183 =>
    brk (d183.1) (
     (s5 T t2 t3 0).bind fun d188 =>
     brk (!decide (d188.1 = 27)) (
     (r4 T t3 false false false false).bind fun d193 =>
     some (Sum.inl (d193.1, ()))) (
     some (Sum.inl (false, ())))) (
     some (Sum.inl (false, ())))) (
    some (Sum.inl (false, ())))) (
    brk (decide (t12 = 35)) (
    (w8 T t2 t3 (t3.2.2.2.2.2.2.2.2.1.length : Int) 0).bind (K8
     (fun y31 =>
     some (Sum.inl y31))
     (fun y31 =>
     (r4 T y31.1 false false false false).bind fun d215 =>
     some (Sum.inl (d215.1, ()))))) (
    brk (decide (t12 = 36)) (
     brk (decide (t5 = 1)) (
     (s5 T t2 t3 0).bind fun d223 =>
     brk (decide (d223.1 = 1)) (
      (r4 T t3 true false false true).bind fun d228 =>
      brk (d228.1) (
      (I6 T t3 0 200).bind fun d232 =>
      brk (d232.1) (
       brk (decide (t3.2.2.2.2.1 = 0)) (
       some (Sum.inl (true, ()))) (
       some (Sum.inl (decide (t3.2.2.2.2.1 = 1), ())))) (
       some (Sum.inl (false, ())))) (
      some (Sum.inl (false, ())))) (
      some (Sum.inl (false, ())))) (
     some (Sum.inl (false, ())))) (
     brk (decide (t12 = 37)) (
     brk (decide (t5 = 1)) (
      (s5 T t2 t3 0).bind fun d251 =>
      brk (decide (d251.1 = 34)) (
      (r4 T t3 false false false false).bind fun d262 =>
      some (Sum.inl (d262.1, ()))) (
      (s5 T t2 t3 0).bind fun d256 =>
      brk (decide (d256.1 = 27)) (
       (r4 T t3 false false false false).bind fun d262 =>
       some (Sum.inl (d262.1, ()))) (
       some (Sum.inl (false, ()))))) (
      some (Sum.inl (false, ())))) (
     brk (decide (t12 = 40)) (
      brk (decide (t5 = 1)) (
      (p8 T t2 t3 0 1).bind fun d271 =>
      brk (d271.1) (
       (r4 T t3 false false false false).bind fun d275 =>
       some (Sum.inl (d275.1, ()))) (
       some (Sum.inl (false, ())))) (
      some (Sum.inl (false, ())))) (
      brk (decide (t12 = 41)) (
      brk (decide (t5 = 2)) (
       (p8 T t2 t3 0 2).bind fun d284 =>
       brk (d284.1) (
       (r4 T t3 false false false false).bind fun d288 =>
       some (Sum.inl (d288.1, ()))) (
       some (Sum.inl (false, ())))) (
       some (Sum.inl (false, ())))) (
      some (Sum.inr (Sum.inl (t2, t3, t5, ()))))))))))))))
 := eJ Tryz.func116 rfl (by kernel_rfl)
theorem ap9 (T : S.Tab) (t2 : List b8.den × Unit) (t3 : b8.den) (t5 : Int) : v8 (S.step T) t2 t3 t5 =
 brk (decide (t3.1 = 42)) (
 brk (decide (t5 = 1)) (
  (p8 T t2 t3 0 1).bind fun d300 =>
  brk (d300.1) (
  (r4 T t3 false false true false).bind fun d304 =>
  brk (d304.1) (
   (C1 T t3.2.2.2.2.2.2.1).bind fun d309 =>
   some (Sum.inl (d309.1, ()))) (
   some (Sum.inl (false, ())))) (
  some (Sum.inl (false, ())))) (
  some (Sum.inl (false, ())))) (
 some (Sum.inl (false, ())))
 := eJ Tryz.func116 rfl (by kernel_rfl)
theorem Y6 (T : S.Tab) (t2 : List b8.den × Unit) (t3 : b8.den) (t199 : Int) (t200 : Int) : w8 (S.step T) t2 t3 t199 t200 =
 brk (decide (t200 < t199)) (
 (s5 T t2 t3 t200).bind fun d206 =>
 brk (decide (d206.1 < 40)) (
  some (Sum.inl (false, ()))) (
  brk (decide (42 < d206.1)) (
  some (Sum.inl (false, ()))) (
  w8 T t2 t3 t199 (IntKind.i64.wrap (t200 + 1))))) (
 some (Sum.inr (Sum.inl (t3, ()))))
 := eL Tryz.func116 rfl (by kernel_rfl)
theorem aN9 (T : S.Tab) (t0 : List b8.den × Unit) (t1 : Int) : z7 (S.step T) t0 t1 =
 brk (decide (0 ≤ t1) && decide (t1 < (t0.1.length : Int))) (
 brk (decide ((at_ (τ := b8) t0.1 t1).2.1 < 0)) (
 some (false, B7)) (
 brk (decide ((at_ (τ := b8) t0.1 t1).2.2.1 < (at_ (τ := b8) t0.1 t1).2.1)) (
  some (false, B7)) (
  brk (decide ((at_ (τ := b8) t0.1 t1).2.2.2.1 < 0)) (
  some (false, B7)) (
  brk (decide (200 < ((at_ (τ := b8) t0.1 t1).2.2.2.2.2.2.2.2.1.length : Int))) (
   some (false, B7)) (
   (B8 T t1 t0 (at_ (τ := b8) t0.1 t1) (at_ (τ := b8) t0.1 t1).2.2.2.2.2.2.2.2.1 ((at_ (τ := b8) t0.1 t1).2.2.2.2.2.2.2.2.1.length : Int) 0).bind (K8
    (fun y5 =>
   some (y5.1, B7))
    (fun y5 =>
   (T0 T y5.2.1.1).bind fun d51 =>
   brk (d51.1) (
    (R9 T y5.1 y5.2.1).bind fun d54 =>
    some (d54.1, B7)) (
    (P5 T y5.1 y5.2.1).bind fun d57 =>
    some (d57.1, B7))))))))) none
 := eF Tryz.func71 (by kernel_rfl)
theorem ag1 (T : S.Tab) (t1 : Int) (t2 : List b8.den × Unit) (t5 : b8.den) (t35 : List Int) (t36 : Int) (t37 : Int) : B8 (S.step T) t1 t2 t5 t35 t36 t37 =
 brk (decide (t37 < t36)) (
 brk (decide (0 ≤ t37) && decide (t37 < (t35.length : Int))) (
 brk (decide (t35.getD t37.toNat 0 < 0)) (
  some (Sum.inl (false, ()))) (
  brk (decide (t1 ≤ t35.getD t37.toNat 0)) (
  some (Sum.inl (false, ()))) (
  B8 T t1 t2 t5 t35 t36 (IntKind.i64.wrap (t37 + 1))))) none) (
 some (Sum.inr (Sum.inl (t2, t5, ()))))
 := eL Tryz.func71 rfl (by kernel_rfl)
theorem aR9 (T : S.Tab) (t0 : List b8.den × Unit) : S9 (S.step T) t0 =
 brk (((decide (0 ≤ (t0.1.length : Int))) && (decide ((t0.1.length : Int) ≤ (t0.1.length : Int)))) && (decide ((t0.1.length : Int) ≤ lim))) (
 (A0 T (List.replicate ((t0.1.length : Int).toNat) 0) t0.1 (t0.1.length : Int) 0).bind (C7
  (fun y3 =>
 some (y3.1, az5)))) none
 := eF Tryz.func72 (by kernel_rfl)
theorem aj6 (T : S.Tab) (t3 : List Int) (t15 : List b8.den) (t16 : Int) (t17 : Int) : A0 (S.step T) t3 t15 t16 t17 =
 brk (decide (t17 < t16)) (
 brk (decide (0 ≤ t17) && decide (t17 < (t15.length : Int))) (
 (D3 T t3 t17 (at_ (τ := b8) t15 t17) t17 true (IntKind.i64.wrap (((at_ (τ := b8) t15 t17).2.2.2.2.2.2.2.2.1.length : Int) - 1)) t15 t16 t17).bind (C7
  (fun y8 =>
  brk (y8.2.2.2.1) (
  brk (decide (0 ≤ y8.2.1) && decide (y8.2.1 < (y8.1.length : Int))) (
  A0 T (y8.1.set y8.2.1.toNat (IntKind.i64.wrap ((IntKind.i64.wrap (y8.2.1 - y8.2.2.1)) + 1))) y8.2.2.2.2.1 y8.2.2.2.2.2.1 (IntKind.i64.wrap (y8.2.2.2.2.2.2.1 + 1))) none) (
  A0 T y8.1 y8.2.2.2.2.1 y8.2.2.2.2.2.1 (IntKind.i64.wrap (y8.2.2.2.2.2.2.1 + 1)))))) none) (
 some (Sum.inl (t3, ())))
 := eL Tryz.func72 rfl (by kernel_rfl)
theorem S7 (T : S.Tab) (t3 : List Int) (t4 : Int) (t5 : b8.den) (t6 : Int) (t7 : Bool) (t8 : Int) (t15 : List b8.den) (t16 : Int) (t17 : Int) : D3 (S.step T) t3 t4 t5 t6 t7 t8 t15 t16 t17 =
 brk (decide (0 ≤ t8)) (
 brk (decide (0 ≤ t8) && decide (t8 < (t5.2.2.2.2.2.2.2.2.1.length : Int))) (
 brk (!decide (t5.2.2.2.2.2.2.2.2.1.getD t8.toNat 0 = IntKind.i64.wrap (t6 - 1))) (
  some (Sum.inl (t3, t4, t6, false, t15, t16, t17, ()))) (
  brk (decide (0 ≤ t5.2.2.2.2.2.2.2.2.1.getD t8.toNat 0) && decide (t5.2.2.2.2.2.2.2.2.1.getD t8.toNat 0 < (t3.length : Int))) (
  brk (decide (t3.getD ((t5.2.2.2.2.2.2.2.2.1.getD t8.toNat 0).toNat) 0 = 0)) (
  some (Sum.inl (t3, t4, t6, false, t15, t16, t17, ()))) (
  brk (decide (0 ≤ t5.2.2.2.2.2.2.2.2.1.getD t8.toNat 0) && decide (t5.2.2.2.2.2.2.2.2.1.getD t8.toNat 0 < (t3.length : Int))) (
  D3 T t3 t4 t5 (IntKind.i64.wrap (t6 - (t3.getD ((t5.2.2.2.2.2.2.2.2.1.getD t8.toNat 0).toNat) 0))) t7 (IntKind.i64.wrap (t8 - 1)) t15 t16 t17) none)) none)) none) (
 some (Sum.inl (t3, t4, t6, t7, t15, t16, t17, ())))
 := eL Tryz.func72 rfl (by kernel_rfl)
theorem am6 (T : S.Tab) (t0 : List b8.den × Unit) : H9 (S.step T) t0 =
 brk (decide ((t0.1.length : Int) = 0)) (
 some ((1, 0, ()), G2)) (
 brk (decide (3000 < (t0.1.length : Int))) (
  some ((1, 0, ()), G2)) (
  brk (decide (0 ≤ IntKind.i64.wrap ((t0.1.length : Int) - 1)) && decide (IntKind.i64.wrap ((t0.1.length : Int) - 1) < (t0.1.length : Int))) (
  brk (!decide ((at_ (τ := b8) t0.1 (IntKind.i64.wrap ((t0.1.length : Int) - 1))).1 = 1)) (
  some ((1, 0, ()), G2)) (
  (F0 T t0 (0, 0, ()) (t0.1.length : Int) 0).bind (K8
   (fun y4 =>
   some (y4.1, G2))
   (fun y4 =>
   (S9 T y4.1).bind fun d50 =>
   (B5 T y4.1 y4.2.1 d50.1 d50.1 (d50.1.length : Int) 0).bind (K8
    (fun y11 =>
   some (y11.1, G2))
    (fun y11 =>
   brk (decide (0 ≤ IntKind.i64.wrap ((y11.2.2.1.length : Int) - 1)) && decide (IntKind.i64.wrap ((y11.2.2.1.length : Int) - 1) < (y11.2.2.1.length : Int))) (
   brk (!decide (y11.2.2.1.getD ((IntKind.i64.wrap ((y11.2.2.1.length : Int) - 1)).toNat) 0 = (y11.2.2.1.length : Int))) (
    some ((3, IntKind.i64.wrap ((y11.2.2.1.length : Int) - 1), ()), G2)) (
    brk (((decide (0 ≤ (y11.1.1.length : Int))) && (decide ((y11.1.1.length : Int) ≤ (y11.1.1.length : Int)))) && (decide ((y11.1.1.length : Int) ≤ lim))) (
    (M0 T y11.1 y11.2.1 (List.replicate ((y11.1.1.length : Int).toNat) 0) (IntKind.i64.wrap ((y11.1.1.length : Int) - 1))).bind (C7
     (fun y20 =>
    (G1 T y20.1 y20.2.1 (y20.2.1.length : Int) 0).bind (K8
     (fun y28 =>
     some (y28.1, G2))
     (fun y28 =>
     some ((0, 0, ()), G2)))))) none)) none)))))) none))
 := eF Tryz.func38 (by kernel_rfl)
theorem an6 (T : S.Tab) (t1 : List b8.den × Unit) (t2 : Int × Int × Unit) (t38 : Int) (t39 : Int) : F0 (S.step T) t1 t2 t38 t39 =
 brk (decide (t39 < t38)) (
 (z7 T t1 t39).bind fun d44 =>
 brk (!d44.1) (
  some (Sum.inl ((2, t39, ()), ()))) (
  F0 T t1 t2 t38 (IntKind.i64.wrap (t39 + 1)))) (
 some (Sum.inr (Sum.inl (t1, t2, ()))))
 := eL Tryz.func38 rfl (by kernel_rfl)
theorem aj4 (T : S.Tab) (t1 : List b8.den × Unit) (t2 : Int × Int × Unit) (t4 : List Int) (t51 : List Int) (t52 : Int) (t53 : Int) : B5 (S.step T) t1 t2 t4 t51 t52 t53 =
 brk (decide (t53 < t52)) (
 brk (decide (0 ≤ t53) && decide (t53 < (t51.length : Int))) (
 brk (decide (t51.getD t53.toNat 0 = 0)) (
  some (Sum.inl ((3, t53, ()), ()))) (
  B5 T t1 t2 t4 t51 t52 (IntKind.i64.wrap (t53 + 1)))) none) (
 some (Sum.inr (Sum.inl (t1, t2, t4, ()))))
 := eL Tryz.func38 rfl (by kernel_rfl)
theorem am2 (T : S.Tab) (t1 : List b8.den × Unit) (t2 : Int × Int × Unit) (t7 : List Int) (t8 : Int) : M0 (S.step T) t1 t2 t7 t8 =
 brk (decide (0 ≤ t8)) (
 brk (decide (0 ≤ t8) && decide (t8 < (t1.1.length : Int))) (
 (J0 T t1 t2 t7 t8 (at_ (τ := b8) t1.1 t8).2.2.2.2.2.2.2.2.1 ((at_ (τ := b8) t1.1 t8).2.2.2.2.2.2.2.2.1.length : Int) 0).bind (C7
  (fun y23 =>
  M0 T y23.1 y23.2.1 y23.2.2.1 (IntKind.i64.wrap (y23.2.2.2.1 - 1))))) none) (
 some (Sum.inl (t2, t7, ())))
 := eL Tryz.func38 rfl (by kernel_rfl)
theorem ak8 (T : S.Tab) (t1 : List b8.den × Unit) (t2 : Int × Int × Unit) (t7 : List Int) (t8 : Int) (t93 : List Int) (t94 : Int) (t95 : Int) : J0 (S.step T) t1 t2 t7 t8 t93 t94 t95 =
 brk (decide (t95 < t94)) (
 brk (decide (0 ≤ t95) && decide (t95 < (t93.length : Int))) (
 brk (decide (0 ≤ t8) && decide (t8 < (t7.length : Int))) (
 brk (decide (0 ≤ t93.getD t95.toNat 0) && decide (t93.getD t95.toNat 0 < (t7.length : Int))) (
 J0 T t1 t2 (t7.set ((t93.getD t95.toNat 0).toNat) (IntKind.i64.wrap ((t7.getD t8.toNat 0) + 1))) t8 t93 t94 (IntKind.i64.wrap (t95 + 1))) none) none) none) (
 some (Sum.inl (t1, t2, t7, t8, ())))
 := eL Tryz.func38 rfl (by kernel_rfl)
theorem al4 (T : S.Tab) (t2 : Int × Int × Unit) (t108 : List Int) (t109 : Int) (t110 : Int) : G1 (S.step T) t2 t108 t109 t110 =
 brk (decide (t110 < t109)) (
 brk (decide (0 ≤ t110) && decide (t110 < (t108.length : Int))) (
 brk (decide (100 < t108.getD t110.toNat 0)) (
  some (Sum.inl ((4, t110, ()), ()))) (
  G1 T t2 t108 t109 (IntKind.i64.wrap (t110 + 1)))) none) (
 some (Sum.inr (Sum.inl (t2, ()))))
 := eL Tryz.func38 rfl (by kernel_rfl)
theorem ao5 (T : S.Tab) (t0 : List b8.den × Unit) (t1 : Int) (t2 : List Int) (t3 : Int) : N8 (S.step T) t0 t1 t2 t3 =
 brk (decide (0 ≤ t1) && decide (t1 < (t0.1.length : Int))) (
 brk (decide ((at_ (τ := b8) t0.1 t1).1 = 36)) (
 brk (fits (0 + ([(t2, (at_ (τ := b8) t0.1 t1).2.2.2.1, t3, t1, ())] : List u7.den).length)) (
 (L4 T t0 (at_ (τ := b8) t0.1 t1) ([(t2, (at_ (τ := b8) t0.1 t1).2.2.2.1, t3, t1, ())] : List u7.den) (IntKind.i64.wrap (t3 + 1))).bind (C7
  (fun y7 =>
  some (y7.1, W2)))) none) (
 (L4 T t0 (at_ (τ := b8) t0.1 t1) [] t3).bind (C7
  (fun y7 =>
  some (y7.1, W2))))) none
 := eF Tryz.func44 (by kernel_rfl)
theorem ay7 (T : S.Tab) (t4 : List b8.den × Unit) (t9 : b8.den) (t10 : List u7.den) (t11 : Int) : L4 (S.step T) t4 t9 t10 t11 =
 (B9 T t4 t9 t10 t11 t9.2.2.2.2.2.2.2.2.1 (t9.2.2.2.2.2.2.2.2.1.length : Int) 0).bind (C7
  (fun y8 =>
 some (Sum.inl y8)))
 := eJ Tryz.func44 rfl (by kernel_rfl)
theorem av6 (T : S.Tab) (t4 : List b8.den × Unit) (t9 : b8.den) (t10 : List u7.den) (t11 : Int) (t13 : Int) (t14 : List Int) (t38 : List Int) (t39 : Int) (t40 : Int) : J2 (S.step T) t4 t9 t10 t11 t13 t14 t38 t39 t40 =
 (N8 T t4 t13 t14 t11).bind fun d55 =>
 (D0 T t4 t9 t10 t11 t38 t39 t40 d55.1 (d55.1.length : Int) 0).bind (C7
  (fun y14 =>
 some (Sum.inl y14)))
 := eJ Tryz.func44 rfl (by kernel_rfl)
theorem ae8 (T : S.Tab) (t4 : List b8.den × Unit) (t9 : b8.den) (t10 : List u7.den) (t11 : Int) (t38 : List Int) (t39 : Int) (t40 : Int) : B9 (S.step T) t4 t9 t10 t11 t38 t39 t40 =
 brk (decide (t40 < t39)) (
 brk (decide (0 ≤ t40) && decide (t40 < (t38.length : Int))) (
 brk (decide (t9.1 = 4)) (
  brk (decide (0 < (t9.2.2.2.2.2.2.2.1.length : Int))) (
  (J2 T t4 t9 t10 t11 (t38.getD t40.toNat 0) (t9.2.2.2.2.2.2.2.1.getD 0 []) t38 t39 t40).bind (C7
   (fun y13 =>
  B9 T y13.1 y13.2.1 y13.2.2.1 y13.2.2.2.1 y13.2.2.2.2.1 y13.2.2.2.2.2.1 (IntKind.i64.wrap (y13.2.2.2.2.2.2.1 + 1))))) none) (
  (J2 T t4 t9 t10 t11 (t38.getD t40.toNat 0) ([] : List Int) t38 t39 t40).bind (C7
   (fun y13 =>
  B9 T y13.1 y13.2.1 y13.2.2.1 y13.2.2.2.1 y13.2.2.2.2.1 y13.2.2.2.2.2.1 (IntKind.i64.wrap (y13.2.2.2.2.2.2.1 + 1)))))) none) (
 some (Sum.inl (t10, ())))
 := eL Tryz.func44 rfl (by kernel_rfl)
theorem ac5 (T : S.Tab) (t4 : List b8.den × Unit) (t9 : b8.den) (t10 : List u7.den) (t11 : Int) (t38 : List Int) (t39 : Int) (t40 : Int) (t55 : List u7.den) (t56 : Int) (t57 : Int) : D0 (S.step T) t4 t9 t10 t11 t38 t39 t40 t55 t56 t57 =
 brk (decide (t57 < t56)) (
 brk (decide (0 ≤ t57) && decide (t57 < (t55.length : Int))) (
 brk (fits (t10.length + ([at_ (τ := u7) t55 t57] : List u7.den).length)) (
 D0 T t4 t9 (t10 ++ ([at_ (τ := u7) t55 t57] : List u7.den)) t11 t38 t39 t40 t55 t56 (IntKind.i64.wrap (t57 + 1))) none) none) (
 some (Sum.inl (t4, t9, t10, t11, t38, t39, t40, ())))
 := eL Tryz.func44 rfl (by kernel_rfl)
theorem av2 (T : S.Tab) (t0 : List b8.den × Unit) : ac0 (S.step T) t0 =
 (H9 T t0).bind fun d5 =>
 brk (!decide (d5.1.1 = 0)) (
 some ([], am7)) (
 (N8 T t0 (IntKind.i64.wrap ((t0.1.length : Int) - 1)) ([] : List Int) 0).bind fun d14 =>
 some (d14.1, am7))
 := eF Tryz.func19 (by kernel_rfl)
theorem bt2 (T : S.Tab) (t0 : Int) (t1 : Int) (t2 : Int) : X7 (S.step T) t0 t1 t2 =
 brk (decide (t1 ≤ t0)) (
 some (decide (t0 ≤ t2), aw8)) (
 some (false, aw8))
 := eF Tryz.func185 (by kernel_rfl)
theorem aW4 (T : S.Tab) (t0 : Int) : aa6 (S.step T) t0 =
 brk (decide (97 ≤ t0)) (
 brk (decide (t0 ≤ 122)) (
  some (true, M9)) (
  brk (decide (65 ≤ t0)) (
  brk (decide (t0 ≤ 90)) (
   some (true, M9)) (
   some (decide (t0 = 95), M9))) (
  some (decide (t0 = 95), M9)))) (
 brk (decide (65 ≤ t0)) (
  brk (decide (t0 ≤ 90)) (
  some (true, M9)) (
  some (decide (t0 = 95), M9))) (
  some (decide (t0 = 95), M9)))
 := eF Tryz.func153 (by kernel_rfl)
theorem a55 (T : S.Tab) (t0 : Int) : O9 (S.step T) t0 =
 brk (decide (48 ≤ t0)) (
 some (decide (t0 ≤ 57), aw0)) (
 some (false, aw0))
 := eF Tryz.func154 (by kernel_rfl)
theorem bd7 (T : S.Tab) (t0 : List Int) : aG5 (S.step T) t0 =
 (N2 T t0 Lx.words (Lx.words.length : Int) 0).bind (K8
  (fun y2 =>
 some (y2.1, aA8))
  (fun y2 =>
 some (1, aA8)))
 := eF Tryz.func155 (by kernel_rfl)
theorem av8 (T : S.Tab) (t0 : List Int) (t5 : List (List Int)) (t6 : Int) (t7 : Int) : N2 (S.step T) t0 t5 t6 t7 =
 brk (decide (t7 < t6)) (
 brk (decide (0 ≤ t7) && decide (t7 < (t5.length : Int))) (
 brk (decide ((t5.getD t7.toNat []) = t0)) (
  some (Sum.inl (IntKind.i64.wrap (10 + t7), ()))) (
  N2 T t0 t5 t6 (IntKind.i64.wrap (t7 + 1)))) none) (
 some (Sum.inr (Sum.inl ())))
 := eL Tryz.func155 rfl (by kernel_rfl)
theorem be1 (T : S.Tab) (t0 : Int) : av3 (S.step T) t0 =
 (O9 T t0).bind fun d4 =>
 brk (d4.1) (
 some (true, at1)) (
 brk (decide (97 ≤ t0)) (
  some (decide (t0 ≤ 102), at1)) (
  some (false, at1)))
 := eF Tryz.func157 (by kernel_rfl)
theorem aG0 (T : S.Tab) (t0 : Int) : n9 (S.step T) t0 =
 some (intBits .or .u8 t0 32, ap2)
 := eF Tryz.func257 (by kernel_rfl)
theorem au6 (T : S.Tab) (t0 : List Int) (t1 : Int) (t2 : Int) : Q4 (S.step T) t0 t1 t2 =
 brk (decide (t0 = ([] : List Int))) (
 some ((0, false, ()), j2)) (
 brk (decide (2 ≤ t1)) (
  brk (decide (t1 ≤ 36)) (
  (j1 T t0 t1 t2 (decide (t1 = 0)) t0).bind (C7
   (fun y21 =>
   some (y21, j2)))) (
  brk (decide (t1 = 0)) (
   brk (decide (0 < (t0.length : Int))) (
   brk (decide (t0.getD 0 0 = 48)) (
   brk (decide (3 ≤ (t0.length : Int))) (
    brk (decide (1 < (t0.length : Int))) (
    (n9 T (t0.getD 1 0)).bind fun d47 =>
    brk (decide (d47.1 = 98)) (
    brk (bounds t0.length 2 (t0.length : Int)) (
    (j1 T (sub t0 2 (t0.length : Int)) 2 t2 (decide (t1 = 0)) t0).bind (C7
     (fun y21 =>
     some (y21, j2)))) none) (
    brk (decide (3 ≤ (t0.length : Int))) (
     brk (decide (1 < (t0.length : Int))) (
     (n9 T (t0.getD 1 0)).bind fun d59 =>
     brk (decide (d59.1 = 111)) (
     brk (bounds t0.length 2 (t0.length : Int)) (
     (j1 T (sub t0 2 (t0.length : Int)) 8 t2 (decide (t1 = 0)) t0).bind (C7
      (fun y21 =>
      some (y21, j2)))) none) (
     brk (decide (3 ≤ (t0.length : Int))) (
      brk (decide (1 < (t0.length : Int))) (
      (n9 T (t0.getD 1 0)).bind fun d71 =>
      brk (decide (d71.1 = 120)) (
      brk (bounds t0.length 2 (t0.length : Int)) (
      (j1 T (sub t0 2 (t0.length : Int)) 16 t2 (decide (t1 = 0)) t0).bind (C7
       (fun y21 =>
       some (y21, j2)))) none) (
      brk (bounds t0.length 1 (t0.length : Int)) (
      (j1 T (sub t0 1 (t0.length : Int)) 8 t2 (decide (t1 = 0)) t0).bind (C7
       (fun y21 =>
       some (y21, j2)))) none)) none) (
      brk (bounds t0.length 1 (t0.length : Int)) (
      (j1 T (sub t0 1 (t0.length : Int)) 8 t2 (decide (t1 = 0)) t0).bind (C7
       (fun y21 =>
      some (y21, j2)))) none))) none) (
     brk (decide (3 ≤ (t0.length : Int))) (
     brk (decide (1 < (t0.length : Int))) (
     (n9 T (t0.getD 1 0)).bind fun d71 =>
     brk (decide (d71.1 = 120)) (
      brk (bounds t0.length 2 (t0.length : Int)) (
      (j1 T (sub t0 2 (t0.length : Int)) 16 t2 (decide (t1 = 0)) t0).bind (C7
       (fun y21 =>
      some (y21, j2)))) none) (
      brk (bounds t0.length 1 (t0.length : Int)) (
      (j1 T (sub t0 1 (t0.length : Int)) 8 t2 (decide (t1 = 0)) t0).bind (C7
       (fun y21 =>
      some (y21, j2)))) none)) none) (
     brk (bounds t0.length 1 (t0.length : Int)) (
     (j1 T (sub t0 1 (t0.length : Int)) 8 t2 (decide (t1 = 0)) t0).bind (C7
      (fun y21 =>
      some (y21, j2)))) none)))) none) (
    brk (decide (3 ≤ (t0.length : Int))) (
    brk (decide (1 < (t0.length : Int))) (
    (n9 T (t0.getD 1 0)).bind fun d59 =>
    brk (decide (d59.1 = 111)) (
     brk (bounds t0.length 2 (t0.length : Int)) (
     (j1 T (sub t0 2 (t0.length : Int)) 8 t2 (decide (t1 = 0)) t0).bind (C7
      (fun y21 =>
     some (y21, j2)))) none) (
     brk (decide (3 ≤ (t0.length : Int))) (
     brk (decide (1 < (t0.length : Int))) (
     (n9 T (t0.getD 1 0)).bind fun d71 =>
     brk (decide (d71.1 = 120)) (
      brk (bounds t0.length 2 (t0.length : Int)) (
      (j1 T (sub t0 2 (t0.length : Int)) 16 t2 (decide (t1 = 0)) t0).bind (C7
       (fun y21 =>
      some (y21, j2)))) none) (
      brk (bounds t0.length 1 (t0.length : Int)) (
      (j1 T (sub t0 1 (t0.length : Int)) 8 t2 (decide (t1 = 0)) t0).bind (C7
       (fun y21 =>
      some (y21, j2)))) none)) none) (
     brk (bounds t0.length 1 (t0.length : Int)) (
     (j1 T (sub t0 1 (t0.length : Int)) 8 t2 (decide (t1 = 0)) t0).bind (C7
      (fun y21 =>
      some (y21, j2)))) none))) none) (
    brk (decide (3 ≤ (t0.length : Int))) (
     brk (decide (1 < (t0.length : Int))) (
     (n9 T (t0.getD 1 0)).bind fun d71 =>
     brk (decide (d71.1 = 120)) (
     brk (bounds t0.length 2 (t0.length : Int)) (
     (j1 T (sub t0 2 (t0.length : Int)) 16 t2 (decide (t1 = 0)) t0).bind (C7
      (fun y21 =>
      some (y21, j2)))) none) (
     brk (bounds t0.length 1 (t0.length : Int)) (
     (j1 T (sub t0 1 (t0.length : Int)) 8 t2 (decide (t1 = 0)) t0).bind (C7
      (fun y21 =>
      some (y21, j2)))) none)) none) (
     brk (bounds t0.length 1 (t0.length : Int)) (
     (j1 T (sub t0 1 (t0.length : Int)) 8 t2 (decide (t1 = 0)) t0).bind (C7
      (fun y21 =>
     some (y21, j2)))) none)))) (
   (j1 T t0 10 t2 (decide (t1 = 0)) t0).bind (C7
    (fun y21 =>
    some (y21, j2))))) none) (
   some ((0, false, ()), j2)))) (
  brk (decide (t1 = 0)) (
  brk (decide (0 < (t0.length : Int))) (
  brk (decide (t0.getD 0 0 = 48)) (
   brk (decide (3 ≤ (t0.length : Int))) (
   brk (decide (1 < (t0.length : Int))) (
   (n9 T (t0.getD 1 0)).bind fun d47 =>
   brk (decide (d47.1 = 98)) (
    brk (bounds t0.length 2 (t0.length : Int)) (
    (j1 T (sub t0 2 (t0.length : Int)) 2 t2 (decide (t1 = 0)) t0).bind (C7
     (fun y21 =>
    some (y21, j2)))) none) (
    brk (decide (3 ≤ (t0.length : Int))) (
    brk (decide (1 < (t0.length : Int))) (
    (n9 T (t0.getD 1 0)).bind fun d59 =>
    brk (decide (d59.1 = 111)) (
     brk (bounds t0.length 2 (t0.length : Int)) (
     (j1 T (sub t0 2 (t0.length : Int)) 8 t2 (decide (t1 = 0)) t0).bind (C7
      (fun y21 =>
     some (y21, j2)))) none) (
     brk (decide (3 ≤ (t0.length : Int))) (
     brk (decide (1 < (t0.length : Int))) (
     (n9 T (t0.getD 1 0)).bind fun d71 =>
     brk (decide (d71.1 = 120)) (
      brk (bounds t0.length 2 (t0.length : Int)) (
      (j1 T (sub t0 2 (t0.length : Int)) 16 t2 (decide (t1 = 0)) t0).bind (C7
       (fun y21 =>
      some (y21, j2)))) none) (
      brk (bounds t0.length 1 (t0.length : Int)) (
      (j1 T (sub t0 1 (t0.length : Int)) 8 t2 (decide (t1 = 0)) t0).bind (C7
       (fun y21 =>
      some (y21, j2)))) none)) none) (
     brk (bounds t0.length 1 (t0.length : Int)) (
     (j1 T (sub t0 1 (t0.length : Int)) 8 t2 (decide (t1 = 0)) t0).bind (C7
      (fun y21 =>
      some (y21, j2)))) none))) none) (
    brk (decide (3 ≤ (t0.length : Int))) (
     brk (decide (1 < (t0.length : Int))) (
     (n9 T (t0.getD 1 0)).bind fun d71 =>
     brk (decide (d71.1 = 120)) (
     brk (bounds t0.length 2 (t0.length : Int)) (
     (j1 T (sub t0 2 (t0.length : Int)) 16 t2 (decide (t1 = 0)) t0).bind (C7
      (fun y21 =>
      some (y21, j2)))) none) (
     brk (bounds t0.length 1 (t0.length : Int)) (
     (j1 T (sub t0 1 (t0.length : Int)) 8 t2 (decide (t1 = 0)) t0).bind (C7
      (fun y21 =>
      some (y21, j2)))) none)) none) (
     brk (bounds t0.length 1 (t0.length : Int)) (
     (j1 T (sub t0 1 (t0.length : Int)) 8 t2 (decide (t1 = 0)) t0).bind (C7
      (fun y21 =>
     some (y21, j2)))) none)))) none) (
   brk (decide (3 ≤ (t0.length : Int))) (
    brk (decide (1 < (t0.length : Int))) (
    (n9 T (t0.getD 1 0)).bind fun d59 =>
    brk (decide (d59.1 = 111)) (
    brk (bounds t0.length 2 (t0.length : Int)) (
    (j1 T (sub t0 2 (t0.length : Int)) 8 t2 (decide (t1 = 0)) t0).bind (C7
     (fun y21 =>
     some (y21, j2)))) none) (
    brk (decide (3 ≤ (t0.length : Int))) (
     brk (decide (1 < (t0.length : Int))) (
     (n9 T (t0.getD 1 0)).bind fun d71 =>
     brk (decide (d71.1 = 120)) (
     brk (bounds t0.length 2 (t0.length : Int)) (
     (j1 T (sub t0 2 (t0.length : Int)) 16 t2 (decide (t1 = 0)) t0).bind (C7
      (fun y21 =>
      some (y21, j2)))) none) (
     brk (bounds t0.length 1 (t0.length : Int)) (
     (j1 T (sub t0 1 (t0.length : Int)) 8 t2 (decide (t1 = 0)) t0).bind (C7
      (fun y21 =>
      some (y21, j2)))) none)) none) (
     brk (bounds t0.length 1 (t0.length : Int)) (
     (j1 T (sub t0 1 (t0.length : Int)) 8 t2 (decide (t1 = 0)) t0).bind (C7
      (fun y21 =>
     some (y21, j2)))) none))) none) (
    brk (decide (3 ≤ (t0.length : Int))) (
    brk (decide (1 < (t0.length : Int))) (
    (n9 T (t0.getD 1 0)).bind fun d71 =>
    brk (decide (d71.1 = 120)) (
     brk (bounds t0.length 2 (t0.length : Int)) (
     (j1 T (sub t0 2 (t0.length : Int)) 16 t2 (decide (t1 = 0)) t0).bind (C7
      (fun y21 =>
     some (y21, j2)))) none) (
     brk (bounds t0.length 1 (t0.length : Int)) (
     (j1 T (sub t0 1 (t0.length : Int)) 8 t2 (decide (t1 = 0)) t0).bind (C7
      (fun y21 =>
     some (y21, j2)))) none)) none) (
    brk (bounds t0.length 1 (t0.length : Int)) (
    (j1 T (sub t0 1 (t0.length : Int)) 8 t2 (decide (t1 = 0)) t0).bind (C7
     (fun y21 =>
     some (y21, j2)))) none)))) (
   (j1 T t0 10 t2 (decide (t1 = 0)) t0).bind (C7
    (fun y21 =>
   some (y21, j2))))) none) (
  some ((0, false, ()), j2))))
 := eF Tryz.func236 (by kernel_rfl)
theorem ai5 (T : S.Tab) (t0 : List Int) (t1 : Int) (t2 : Int) (t8 : Bool) (t9 : List Int) : j1 (S.step T) t0 t1 t2 t8 t9 =
 brk (decide (t2 = 0)) (
 (F8 T t0 t1 64 t8 t9).bind (C7
  (fun y25 =>
  some (Sum.inl y25)))) (
 brk (decide (t2 < 0)) (
  some (Sum.inl (0, false, ()))) (
  brk (decide (64 < t2)) (
  some (Sum.inl (0, false, ()))) (
  (F8 T t0 t1 t2 t8 t9).bind (C7
   (fun y25 =>
   some (Sum.inl y25))))))
 := eJ Tryz.func236 rfl (by kernel_rfl)
theorem ai6 (T : S.Tab) (t0 : List Int) (t1 : Int) (t2 : Int) (t8 : Bool) (t9 : List Int) : F8 (S.step T) t0 t1 t2 t8 t9 =
 brk (decide (t1 = 10)) (
 (C0 T t0 t1 t2 t8 t9 1844674407370955162).bind (C7
  (fun y32 =>
  some (Sum.inl y32)))) (
 brk (decide (t1 = 16)) (
  (C0 T t0 t1 t2 t8 t9 1152921504606846976).bind (C7
   (fun y32 =>
  some (Sum.inl y32)))) (
  brk (decide ((IntKind.u64.wrap t1) ≠ 0)) (
  (C0 T t0 t1 t2 t8 t9 (IntKind.u64.wrap ((IntKind.u64.wrap ((18446744073709551615 : Int).tdiv (IntKind.u64.wrap t1))) + 1))).bind (C7
   (fun y32 =>
  some (Sum.inl y32)))) none))
 := eJ Tryz.func236 rfl (by kernel_rfl)
theorem ai3 (T : S.Tab) (t0 : List Int) (t1 : Int) (t2 : Int) (t8 : Bool) (t9 : List Int) (t10 : Int) : C0 (S.step T) t0 t1 t2 t8 t9 t10 =
 brk (decide (0 ≤ IntKind.u64.wrap t2)) (
 (p9 T t1 t8 t9 t10 (IntKind.u64.wrap ((IntKind.u64.wrap (1 * 2 ^ min ((IntKind.u64.wrap t2).toNat) IntKind.u64.bits)) - 1)) false 0 t0 (t0.length : Int) 0).bind (K8
  (fun y36 =>
 some (Sum.inl y36))
  (fun y36 =>
 brk (y36.2.1) (
  (au8 T y36.1).bind fun d167 =>
  brk (!d167.1) (
  some (Sum.inl (0, false, ()))) (
  some (Sum.inl (y36.2.2.1, true, ())))) (
  some (Sum.inl (y36.2.2.1, true, ())))))) none
 := eJ Tryz.func236 rfl (by kernel_rfl)
theorem ai7 (T : S.Tab) (t1 : Int) (t8 : Bool) (t9 : List Int) (t10 : Int) (t11 : Int) (t12 : Bool) (t13 : Int) (t16 : Int) (t99 : List Int) (t100 : Int) (t101 : Int) : u9 (S.step T) t1 t8 t9 t10 t11 t12 t13 t16 t99 t100 t101 =
 brk (decide (IntKind.u8.wrap t1 ≤ t16)) (
 some (Sum.inl (0, false, ()))) (
 brk (decide (t10 ≤ t13)) (
  some (Sum.inl (t11, false, ()))) (
  brk (decide (IntKind.u64.wrap ((IntKind.u64.wrap (t13 * (IntKind.u64.wrap t1))) + (IntKind.u64.wrap t16)) < IntKind.u64.wrap (t13 * (IntKind.u64.wrap t1)))) (
  some (Sum.inl (t11, false, ()))) (
  brk (decide (t11 < IntKind.u64.wrap ((IntKind.u64.wrap (t13 * (IntKind.u64.wrap t1))) + (IntKind.u64.wrap t16)))) (
   some (Sum.inl (t11, false, ()))) (
   some (Sum.inr (Sum.inl (t1, t8, t9, t10, t11, t12, IntKind.u64.wrap ((IntKind.u64.wrap (t13 * (IntKind.u64.wrap t1))) + (IntKind.u64.wrap t16)), t99, t100, t101, ())))))))
 := eJ Tryz.func236 rfl (by kernel_rfl)
theorem U5 (T : S.Tab) (t1 : Int) (t8 : Bool) (t9 : List Int) (t10 : Int) (t11 : Int) (t12 : Bool) (t13 : Int) (t99 : List Int) (t100 : Int) (t101 : Int) : p9 (S.step T) t1 t8 t9 t10 t11 t12 t13 t99 t100 t101 =
 brk (decide (t101 < t100)) (
 brk (decide (0 ≤ t101) && decide (t101 < (t99.length : Int))) (
 brk (decide (t99.getD t101.toNat 0 = 95)) (
  brk (t8) (
  p9 T t1 t8 t9 t10 t11 true t13 t99 t100 (IntKind.i64.wrap (t101 + 1))) (
  brk (decide (48 ≤ t99.getD t101.toNat 0)) (
   brk (decide (t99.getD t101.toNat 0 ≤ 57)) (
   (u9 T t1 t8 t9 t10 t11 t12 t13 (IntKind.u8.wrap ((t99.getD t101.toNat 0) - 48)) t99 t100 t101).bind (K8
    (fun y46 =>
    some (Sum.inl y46))
    (fun y46 =>
    p9 T y46.1 y46.2.1 y46.2.2.1 y46.2.2.2.1 y46.2.2.2.2.1 y46.2.2.2.2.2.1 y46.2.2.2.2.2.2.1 y46.2.2.2.2.2.2.2.1 y46.2.2.2.2.2.2.2.2.1 (IntKind.i64.wrap (y46.2.2.2.2.2.2.2.2.2.1 + 1))))) (
   (n9 T (t99.getD t101.toNat 0)).bind fun d123 =>
   brk (decide (97 ≤ d123.1)) (
    (n9 T (t99.getD t101.toNat 0)).bind fun d127 =>
    brk (decide (d127.1 ≤ 122)) (
    (n9 T (t99.getD t101.toNat 0)).bind fun d131 =>
    (u9 T t1 t8 t9 t10 t11 t12 t13 (IntKind.u8.wrap ((IntKind.u8.wrap (d131.1 - 97)) + 10)) t99 t100 t101).bind (K8
     (fun y46 =>
     some (Sum.inl y46))
     (fun y46 =>
     p9 T y46.1 y46.2.1 y46.2.2.1 y46.2.2.2.1 y46.2.2.2.2.1 y46.2.2.2.2.2.1 y46.2.2.2.2.2.2.1 y46.2.2.2.2.2.2.2.1 y46.2.2.2.2.2.2.2.2.1 (IntKind.i64.wrap (y46.2.2.2.2.2.2.2.2.2.1 + 1))))) (
    some (Sum.inl (0, false, ())))) (
    some (Sum.inl (0, false, ()))))) (
   (n9 T (t99.getD t101.toNat 0)).bind fun d123 =>
   brk (decide (97 ≤ d123.1)) (
   (n9 T (t99.getD t101.toNat 0)).bind fun d127 =>
   brk (decide (d127.1 ≤ 122)) (
    (n9 T (t99.getD t101.toNat 0)).bind fun d131 =>
    (u9 T t1 t8 t9 t10 t11 t12 t13 (IntKind.u8.wrap ((IntKind.u8.wrap (d131.1 - 97)) + 10)) t99 t100 t101).bind (K8
     (fun y46 =>
    some (Sum.inl y46))
     (fun y46 =>
    p9 T y46.1 y46.2.1 y46.2.2.1 y46.2.2.2.1 y46.2.2.2.2.1 y46.2.2.2.2.2.1 y46.2.2.2.2.2.2.1 y46.2.2.2.2.2.2.2.1 y46.2.2.2.2.2.2.2.2.1 (IntKind.i64.wrap (y46.2.2.2.2.2.2.2.2.2.1 + 1))))) (
    some (Sum.inl (0, false, ())))) (
   some (Sum.inl (0, false, ())))))) (
  brk (decide (48 ≤ t99.getD t101.toNat 0)) (
  brk (decide (t99.getD t101.toNat 0 ≤ 57)) (
   (u9 T t1 t8 t9 t10 t11 t12 t13 (IntKind.u8.wrap ((t99.getD t101.toNat 0) - 48)) t99 t100 t101).bind (K8
    (fun y46 =>
   some (Sum.inl y46))
    (fun y46 =>
   p9 T y46.1 y46.2.1 y46.2.2.1 y46.2.2.2.1 y46.2.2.2.2.1 y46.2.2.2.2.2.1 y46.2.2.2.2.2.2.1 y46.2.2.2.2.2.2.2.1 y46.2.2.2.2.2.2.2.2.1 (IntKind.i64.wrap (y46.2.2.2.2.2.2.2.2.2.1 + 1))))) (
   (n9 T (t99.getD t101.toNat 0)).bind fun d123 =>
   brk (decide (97 ≤ d123.1)) (
   (n9 T (t99.getD t101.toNat 0)).bind fun d127 =>
   brk (decide (d127.1 ≤ 122)) (
    (n9 T (t99.getD t101.toNat 0)).bind fun d131 =>
    (u9 T t1 t8 t9 t10 t11 t12 t13 (IntKind.u8.wrap ((IntKind.u8.wrap (d131.1 - 97)) + 10)) t99 t100 t101).bind (K8
     (fun y46 =>
    some (Sum.inl y46))
     (fun y46 =>
    p9 T y46.1 y46.2.1 y46.2.2.1 y46.2.2.2.1 y46.2.2.2.2.1 y46.2.2.2.2.2.1 y46.2.2.2.2.2.2.1 y46.2.2.2.2.2.2.2.1 y46.2.2.2.2.2.2.2.2.1 (IntKind.i64.wrap (y46.2.2.2.2.2.2.2.2.2.1 + 1))))) (
    some (Sum.inl (0, false, ())))) (
   some (Sum.inl (0, false, ()))))) (
  (n9 T (t99.getD t101.toNat 0)).bind fun d123 =>
  brk (decide (97 ≤ d123.1)) (
   (n9 T (t99.getD t101.toNat 0)).bind fun d127 =>
   brk (decide (d127.1 ≤ 122)) (
   (n9 T (t99.getD t101.toNat 0)).bind fun d131 =>
   (u9 T t1 t8 t9 t10 t11 t12 t13 (IntKind.u8.wrap ((IntKind.u8.wrap (d131.1 - 97)) + 10)) t99 t100 t101).bind (K8
    (fun y46 =>
    some (Sum.inl y46))
    (fun y46 =>
    p9 T y46.1 y46.2.1 y46.2.2.1 y46.2.2.2.1 y46.2.2.2.2.1 y46.2.2.2.2.2.1 y46.2.2.2.2.2.2.1 y46.2.2.2.2.2.2.2.1 y46.2.2.2.2.2.2.2.2.1 (IntKind.i64.wrap (y46.2.2.2.2.2.2.2.2.2.1 + 1))))) (
   some (Sum.inl (0, false, ())))) (
   some (Sum.inl (0, false, ())))))) none) (
 some (Sum.inr (Sum.inl (t9, t12, t13, ()))))
 := eL Tryz.func236 rfl (by kernel_rfl)
theorem az1 (T : S.Tab) (t0 : List Int) (t1 : Int) (t2 : Int) : H6 (S.step T) t0 t1 t2 =
 (Q4 T t0 t1 t2).bind fun d14 =>
 brk (!d14.1.2.1) (
 none) (
 some ((d14.1.1, true, ()), ag9))
 := eF Tryz.func158 (by kernel_rfl)
theorem ab9 (T : S.Tab) (t0 : List Int) (t1 : Int) : T5 (S.step T) t0 t1 =
 brk (decide (0 ≤ t1) && decide (t1 < (t0.length : Int))) (
 brk (decide (t0.getD t1.toNat 0 = 48)) (
 brk (decide (IntKind.i64.wrap (t1 + 1) < (t0.length : Int))) (
  brk (decide (0 ≤ IntKind.i64.wrap (t1 + 1)) && decide (IntKind.i64.wrap (t1 + 1) < (t0.length : Int))) (
  brk (decide (t0.getD ((IntKind.i64.wrap (t1 + 1)).toNat) 0 = 120)) (
  (K3 T t0 t1 (2, t1, 0, 0, 0, ([] : List Int), ()) (IntKind.i64.wrap (t1 + 2))).bind (C7
   (fun y5 =>
   brk (decide (y5.2.2.2.1 = IntKind.i64.wrap (y5.2.1 + 2))) (
   some (((y5.2.2.1.1, y5.2.2.1.2.1, y5.2.2.2.1, y5.2.2.1.2.2.2), true, ()), C3)) (
   brk (decide (y5.2.2.2.1 = IntKind.i64.wrap (y5.2.1 + 18))) (
    brk (decide (y5.2.2.2.1 < (y5.1.length : Int))) (
    brk (decide (0 ≤ y5.2.2.2.1) && decide (y5.2.2.2.1 < (y5.1.length : Int))) (
    (av3 T (y5.1.getD y5.2.2.2.1.toNat 0)).bind fun d74 =>
    brk (d74.1) (
     some (((y5.2.2.1.1, y5.2.2.1.2.1, y5.2.2.2.1, y5.2.2.1.2.2.2), true, ()), C3)) (
     brk (bounds y5.1.length (IntKind.i64.wrap (y5.2.1 + 2)) y5.2.2.2.1) (
     (H6 T (sub y5.1 (IntKind.i64.wrap (y5.2.1 + 2)) y5.2.2.2.1) 16 64).bind fun d84 =>
     some (((y5.2.2.1.1, y5.2.2.1.2.1, y5.2.2.2.1, y5.2.2.1.2.2.2.1, IntKind.i64.wrap d84.1.1, y5.2.2.1.2.2.2.2.2), false, ()), C3)) none)) none) (
    brk (bounds y5.1.length (IntKind.i64.wrap (y5.2.1 + 2)) y5.2.2.2.1) (
    (H6 T (sub y5.1 (IntKind.i64.wrap (y5.2.1 + 2)) y5.2.2.2.1) 16 64).bind fun d84 =>
    some (((y5.2.2.1.1, y5.2.2.1.2.1, y5.2.2.2.1, y5.2.2.1.2.2.2.1, IntKind.i64.wrap d84.1.1, y5.2.2.1.2.2.2.2.2), false, ()), C3)) none)) (
    brk (bounds y5.1.length (IntKind.i64.wrap (y5.2.1 + 2)) y5.2.2.2.1) (
    (H6 T (sub y5.1 (IntKind.i64.wrap (y5.2.1 + 2)) y5.2.2.2.1) 16 64).bind fun d84 =>
    some (((y5.2.2.1.1, y5.2.2.1.2.1, y5.2.2.2.1, y5.2.2.1.2.2.2.1, IntKind.i64.wrap d84.1.1, y5.2.2.1.2.2.2.2.2), false, ()), C3)) none))))) (
  brk (decide (0 ≤ t1) && decide (t1 < (t0.length : Int))) (
  brk (!decide (t0.getD t1.toNat 0 = 48)) (
   (D5 T t0 t1 (2, t1, 0, 0, 0, ([] : List Int), ()) (IntKind.i64.wrap (t1 + 1))).bind (C7
    (fun y15 =>
   (D7 T y15.1 y15.2.1 y15.2.2.1 y15.2.2.2.1).bind (C7
    (fun y17 =>
    some (y17, C3)))))) (
   (D7 T t0 t1 (2, t1, 0, 0, 0, ([] : List Int), ()) (IntKind.i64.wrap (t1 + 1))).bind (C7
    (fun y17 =>
   some (y17, C3))))) none)) none) (
  brk (decide (0 ≤ t1) && decide (t1 < (t0.length : Int))) (
  brk (!decide (t0.getD t1.toNat 0 = 48)) (
  (D5 T t0 t1 (2, t1, 0, 0, 0, ([] : List Int), ()) (IntKind.i64.wrap (t1 + 1))).bind (C7
   (fun y15 =>
   (D7 T y15.1 y15.2.1 y15.2.2.1 y15.2.2.2.1).bind (C7
    (fun y17 =>
   some (y17, C3)))))) (
  (D7 T t0 t1 (2, t1, 0, 0, 0, ([] : List Int), ()) (IntKind.i64.wrap (t1 + 1))).bind (C7
   (fun y17 =>
   some (y17, C3))))) none)) (
 brk (decide (0 ≤ t1) && decide (t1 < (t0.length : Int))) (
 brk (!decide (t0.getD t1.toNat 0 = 48)) (
  (D5 T t0 t1 (2, t1, 0, 0, 0, ([] : List Int), ()) (IntKind.i64.wrap (t1 + 1))).bind (C7
   (fun y15 =>
  (D7 T y15.1 y15.2.1 y15.2.2.1 y15.2.2.2.1).bind (C7
   (fun y17 =>
   some (y17, C3)))))) (
  (D7 T t0 t1 (2, t1, 0, 0, 0, ([] : List Int), ()) (IntKind.i64.wrap (t1 + 1))).bind (C7
   (fun y17 =>
  some (y17, C3))))) none)) none
 := eF Tryz.func156 (by kernel_rfl)
theorem al3 (T : S.Tab) (t0 : List Int) (t1 : Int) (t4 : n7.den) (t6 : Int) : D7 (S.step T) t0 t1 t4 t6 =
 brk (decide (IntKind.i64.wrap (t6 + 1) < (t0.length : Int))) (
 brk (decide (0 ≤ t6) && decide (t6 < (t0.length : Int))) (
 brk (decide (t0.getD t6.toNat 0 = 46)) (
  brk (decide (0 ≤ IntKind.i64.wrap (t6 + 1)) && decide (IntKind.i64.wrap (t6 + 1) < (t0.length : Int))) (
  (O9 T (t0.getD ((IntKind.i64.wrap (t6 + 1)).toNat) 0)).bind fun d126 =>
  brk (d126.1) (
  (I4 T t0 t1 t4 (IntKind.i64.wrap (t6 + 1)) t6).bind (C7
   (fun y20 =>
   (F3 T y20.1 y20.2.1 y20.2.2.1 y20.2.2.2.1 y20.2.2.2.2.1).bind (C7
    (fun y22 =>
   some (Sum.inl y22)))))) (
  (F3 T t0 t1 t4 t6 t6).bind (C7
   (fun y22 =>
   some (Sum.inl y22))))) none) (
  (F3 T t0 t1 t4 t6 t6).bind (C7
   (fun y22 =>
  some (Sum.inl y22))))) none) (
 (F3 T t0 t1 t4 t6 t6).bind (C7
  (fun y22 =>
  some (Sum.inl y22))))
 := eJ Tryz.func156 rfl (by kernel_rfl)
theorem ak9 (T : S.Tab) (t0 : List Int) (t1 : Int) (t4 : n7.den) (t6 : Int) (t9 : Int) : F3 (S.step T) t0 t1 t4 t6 t9 =
 brk (decide (t6 < (t0.length : Int))) (
 brk (decide (0 ≤ t6) && decide (t6 < (t0.length : Int))) (
 brk (decide (t0.getD t6.toNat 0 = 101)) (
  brk (decide (IntKind.i64.wrap (t6 + 1) < (t0.length : Int))) (
  brk (decide (0 ≤ IntKind.i64.wrap (t6 + 1)) && decide (IntKind.i64.wrap (t6 + 1) < (t0.length : Int))) (
  brk (decide (t0.getD ((IntKind.i64.wrap (t6 + 1)).toNat) 0 = 43)) (
   (J1 T t0 t1 t4 (IntKind.i64.wrap ((IntKind.i64.wrap (t6 + 1)) + 1)) t9).bind (K8
    (fun y26 =>
   some (Sum.inl y26))
    (fun y26 =>
   (D8 T y26.1 y26.2.1 y26.2.2.1 y26.2.2.2.1 y26.2.2.2.2.1).bind (C7
    (fun y31 =>
    some (Sum.inl y31)))))) (
   brk (decide (0 ≤ IntKind.i64.wrap (t6 + 1)) && decide (IntKind.i64.wrap (t6 + 1) < (t0.length : Int))) (
   brk (decide (t0.getD ((IntKind.i64.wrap (t6 + 1)).toNat) 0 = 45)) (
   (J1 T t0 t1 t4 (IntKind.i64.wrap ((IntKind.i64.wrap (t6 + 1)) + 1)) t9).bind (K8
    (fun y26 =>
    some (Sum.inl y26))
    (fun y26 =>
    (D8 T y26.1 y26.2.1 y26.2.2.1 y26.2.2.2.1 y26.2.2.2.2.1).bind (C7
     (fun y31 =>
    some (Sum.inl y31)))))) (
   (J1 T t0 t1 t4 (IntKind.i64.wrap (t6 + 1)) t9).bind (K8
    (fun y26 =>
    some (Sum.inl y26))
    (fun y26 =>
    (D8 T y26.1 y26.2.1 y26.2.2.1 y26.2.2.2.1 y26.2.2.2.2.1).bind (C7
     (fun y31 =>
    some (Sum.inl y31))))))) none)) none) (
  (J1 T t0 t1 t4 (IntKind.i64.wrap (t6 + 1)) t9).bind (K8
   (fun y26 =>
   some (Sum.inl y26))
   (fun y26 =>
   (D8 T y26.1 y26.2.1 y26.2.2.1 y26.2.2.2.1 y26.2.2.2.2.1).bind (C7
    (fun y31 =>
   some (Sum.inl y31))))))) (
  (D8 T t0 t1 t4 t6 t9).bind (C7
   (fun y31 =>
  some (Sum.inl y31))))) none) (
 (D8 T t0 t1 t4 t6 t9).bind (C7
  (fun y31 =>
  some (Sum.inl y31))))
 := eJ Tryz.func156 rfl (by kernel_rfl)
theorem aG8 (T : S.Tab) (t0 : List Int) (t1 : Int) (t4 : n7.den) (t6 : Int) (t9 : Int) : J1 (S.step T) t0 t1 t4 t6 t9 =
 brk (decide ((t0.length : Int) ≤ t6)) (
 some (Sum.inl ((t4.1, t4.2.1, t6, t4.2.2.2), true, ()))) (
 brk (decide (0 ≤ t6) && decide (t6 < (t0.length : Int))) (
 (O9 T (t0.getD t6.toNat 0)).bind fun d180 =>
 brk (!d180.1) (
  some (Sum.inl ((t4.1, t4.2.1, t6, t4.2.2.2), true, ()))) (
  (I9 T t0 t1 t4 t6 t9).bind (C7
   (fun y29 =>
  some (Sum.inr (Sum.inl y29)))))) none)
 := eJ Tryz.func156 rfl (by kernel_rfl)
theorem aE1 (T : S.Tab) (t0 : List Int) (t1 : Int) (t4 : n7.den) (t6 : Int) (t9 : Int) : D8 (S.step T) t0 t1 t4 t6 t9 =
 brk (decide (t6 = t9)) (
 brk (bounds t0.length t1 t6) (
 (Lx.ag5 (sub t0 t1 t6, 10, 64, ())).bind fun d208 =>
 brk (d208.1.2.1) (
  some (Sum.inl ((t4.1, t4.2.1, t6, t4.2.2.2.1, d208.1.1, t4.2.2.2.2.2), false, ()))) (
  brk (bounds t0.length t1 t6) (
  some (Sum.inl ((3, t4.2.1, t6, t4.2.2.2.1, t4.2.2.2.2.1, sub t0 t1 t6, ()), false, ()))) none)) none) (
 brk (bounds t0.length t1 t6) (
 some (Sum.inl ((3, t4.2.1, t6, t4.2.2.2.1, t4.2.2.2.2.1, sub t0 t1 t6, ()), false, ()))) none)
 := eJ Tryz.func156 rfl (by kernel_rfl)
theorem an7 (T : S.Tab) (t0 : List Int) (t1 : Int) (t4 : n7.den) (t6 : Int) : K3 (S.step T) t0 t1 t4 t6 =
 brk (decide (t6 < (t0.length : Int))) (
 brk (decide (t6 < IntKind.i64.wrap (t1 + 18))) (
  brk (decide (0 ≤ t6) && decide (t6 < (t0.length : Int))) (
  (av3 T (t0.getD t6.toNat 0)).bind fun d49 =>
  brk (d49.1) (
  K3 T t0 t1 t4 (IntKind.i64.wrap (t6 + 1))) (
  some (Sum.inl (t0, t1, t4, t6, ())))) none) (
  some (Sum.inl (t0, t1, t4, t6, ())))) (
 some (Sum.inl (t0, t1, t4, t6, ())))
 := eL Tryz.func156 rfl (by kernel_rfl)
theorem al9 (T : S.Tab) (t0 : List Int) (t1 : Int) (t4 : n7.den) (t6 : Int) : D5 (S.step T) t0 t1 t4 t6 =
 brk (decide (t6 < (t0.length : Int))) (
 brk (decide (0 ≤ t6) && decide (t6 < (t0.length : Int))) (
 (O9 T (t0.getD t6.toNat 0)).bind fun d105 =>
 brk (d105.1) (
  D5 T t0 t1 t4 (IntKind.i64.wrap (t6 + 1))) (
  some (Sum.inl (t0, t1, t4, t6, ())))) none) (
 some (Sum.inl (t0, t1, t4, t6, ())))
 := eL Tryz.func156 rfl (by kernel_rfl)
theorem ak4 (T : S.Tab) (t0 : List Int) (t1 : Int) (t4 : n7.den) (t6 : Int) (t9 : Int) : I4 (S.step T) t0 t1 t4 t6 t9 =
 brk (decide (t6 < (t0.length : Int))) (
 brk (decide (0 ≤ t6) && decide (t6 < (t0.length : Int))) (
 (O9 T (t0.getD t6.toNat 0)).bind fun d138 =>
 brk (d138.1) (
  I4 T t0 t1 t4 (IntKind.i64.wrap (t6 + 1)) t9) (
  some (Sum.inl (t0, t1, t4, t6, t9, ())))) none) (
 some (Sum.inl (t0, t1, t4, t6, t9, ())))
 := eL Tryz.func156 rfl (by kernel_rfl)
theorem ak5 (T : S.Tab) (t0 : List Int) (t1 : Int) (t4 : n7.den) (t6 : Int) (t9 : Int) : I9 (S.step T) t0 t1 t4 t6 t9 =
 brk (decide (t6 < (t0.length : Int))) (
 brk (decide (0 ≤ t6) && decide (t6 < (t0.length : Int))) (
 (O9 T (t0.getD t6.toNat 0)).bind fun d194 =>
 brk (d194.1) (
  I9 T t0 t1 t4 (IntKind.i64.wrap (t6 + 1)) t9) (
  some (Sum.inl (t0, t1, t4, t6, t9, ())))) none) (
 some (Sum.inl (t0, t1, t4, t6, t9, ())))
 := eL Tryz.func156 rfl (by kernel_rfl)
theorem ai9 (T : S.Tab) (t0 : List Int) (t1 : Int) : K0 (S.step T) t0 t1 =
 (Bld.ax5 (t0, t1, ())).bind fun d7 =>
 some (d7.1, V6)
 := eF Tryz.func125 (by kernel_rfl)
theorem ay4 (T : S.Tab) (t0 : List Int) (t1 : Int) : O8 (S.step T) t0 t1 =
 (K0 T t0 t1).bind fun d7 =>
 some (d7.1, X5)
 := eF Tryz.func81 (by kernel_rfl)
theorem a94 (T : S.Tab) (t0 : Int) : ay3 (S.step T) t0 =
 (X7 T t0 10 31).bind fun d5 =>
 brk (d5.1) (
 brk (decide (0 ≤ IntKind.i64.wrap (t0 - 10)) && decide (IntKind.i64.wrap (t0 - 10) < (Lx.words.length : Int))) (
 some (Lx.words.getD ((IntKind.i64.wrap (t0 - 10)).toNat) [], Y1)) none) (
 (X7 T t0 40 50).bind fun d13 =>
 brk (d13.1) (
  brk (decide (0 ≤ IntKind.i64.wrap (t0 - 40)) && decide (IntKind.i64.wrap (t0 - 40) < (Lx.ah0.length : Int))) (
  some (Lx.ah0.getD ((IntKind.i64.wrap (t0 - 40)).toNat) [], Y1)) none) (
  (X7 T t0 61 78).bind fun d21 =>
  brk (d21.1) (
  brk (decide (0 ≤ IntKind.i64.wrap ((IntKind.i64.wrap (t0 - 60)) - 1)) && decide (IntKind.i64.wrap ((IntKind.i64.wrap (t0 - 60)) - 1) < (Lx.aA9.length : Int))) (
  some (Lx.aA9.getD ((IntKind.i64.wrap ((IntKind.i64.wrap (t0 - 60)) - 1)).toNat) [], Y1)) none) (
  brk (decide (t0 = 5)) (
   some (([59] : List Int), Y1)) (
   some (([] : List Int), Y1)))))
 := eF Tryz.func139 (by kernel_rfl)
theorem ai8 (T : S.Tab) (t0 : List Int) (t1 : List Int) : K1 (S.step T) t0 t1 =
 brk (decide ((t1.length : Int) ≤ (t0.length : Int))) (
 brk (bounds t0.length 0 (t1.length : Int)) (
 some (decide ((sub t0 0 (t1.length : Int)) = t1), N5)) none) (
 some (false, N5))
 := eF Tryz.func234 (by kernel_rfl)
theorem ay8 (T : S.Tab) (t0 : List Int) (t1 : List Int) : U2 (S.step T) t0 t1 =
 (K1 T t0 t1).bind fun d7 =>
 some (d7.1, ah2)
 := eF Tryz.func152 (by kernel_rfl)
theorem aR0 (T : S.Tab) (t0 : List Int) (t1 : Int) : S3 (S.step T) t0 t1 =
 brk (decide (0 ≤ t1) && decide (t1 < (t0.length : Int))) (
 (aa6 T (t0.getD t1.toNat 0)).bind fun d24 =>
 brk (d24.1) (
 (R7 T t0 t1 (0, t1, 0, 0, 0, ([] : List Int), ()) t1).bind (C7
  (fun y5 =>
  brk (bounds y5.1.length y5.2.1 y5.2.2.2.1) (
  (aG5 T (sub y5.1 y5.2.1 y5.2.2.2.1)).bind fun d50 =>
  brk (decide (d50.1 = 1)) (
  brk (bounds y5.1.length y5.2.1 y5.2.2.2.1) (
  some (((d50.1, y5.2.2.1.2.1, y5.2.2.2.1, y5.2.2.1.2.2.2.1, y5.2.2.1.2.2.2.2.1, sub y5.1 y5.2.1 y5.2.2.2.1, ()), false, ()), T8)) none) (
  some (((d50.1, y5.2.2.1.2.1, y5.2.2.2.1, y5.2.2.1.2.2.2), false, ()), T8))) none))) (
 (O9 T (t0.getD t1.toNat 0)).bind fun d63 =>
 brk (d63.1) (
  (T5 T t0 t1).bind fun d66 =>
  some (d66.1, T8)) (
  brk (decide (t0.getD t1.toNat 0 = 34)) (
  (u6 T t0 (4, t1, 0, 0, 0, ([] : List Int), ()) [] (IntKind.i64.wrap (t1 + 1))).bind (C7
   (fun y18 =>
   some (y18, T8)))) (
  (I7 T t0 t1 (0, t1, 0, 0, 0, ([] : List Int), ()) 0 78).bind (C7
   (fun y49 =>
   brk (decide (y49.2.1.1 = 0)) (
   some (((y49.2.1.1, y49.2.1.2.1, y49.1, y49.2.1.2.2.2), true, ()), T8)) (
   some ((y49.2.1, false, ()), T8)))))))) none
 := eF Tryz.func101 (by kernel_rfl)
theorem aA3 (T : S.Tab) (t0 : List Int) (t1 : Int) (t4 : n7.den) (t7 : Int) : R7 (S.step T) t0 t1 t4 t7 =
 brk (decide (t7 < (t0.length : Int))) (
 brk (decide (0 ≤ t7) && decide (t7 < (t0.length : Int))) (
 (aa6 T (t0.getD t7.toNat 0)).bind fun d34 =>
 brk (d34.1) (
  R7 T t0 t1 t4 (IntKind.i64.wrap (t7 + 1))) (
  brk (decide (0 ≤ t7) && decide (t7 < (t0.length : Int))) (
  (O9 T (t0.getD t7.toNat 0)).bind fun d39 =>
  brk (d39.1) (
  R7 T t0 t1 t4 (IntKind.i64.wrap (t7 + 1))) (
  some (Sum.inl (t0, t1, t4, t7, ())))) none)) none) (
 some (Sum.inl (t0, t1, t4, t7, ())))
 := eL Tryz.func101 rfl (by kernel_rfl)
theorem P3 (T : S.Tab) (t0 : List Int) (t4 : n7.den) (t8 : List Int) (t9 : Int) : u6 (S.step T) t0 t4 t8 t9 =
 brk (decide ((t0.length : Int) ≤ t9)) (
 some (Sum.inl ((t4.1, t4.2.1, t9, t4.2.2.2), true, ()))) (
 brk (decide (0 ≤ t9) && decide (t9 < (t0.length : Int))) (
 brk (decide (t0.getD t9.toNat 0 = 10)) (
  some (Sum.inl ((t4.1, t4.2.1, t9, t4.2.2.2), true, ()))) (
  brk (decide (0 ≤ t9) && decide (t9 < (t0.length : Int))) (
  brk (decide (t0.getD t9.toNat 0 = 34)) (
  some (Sum.inl ((t4.1, t4.2.1, IntKind.i64.wrap (t9 + 1), t4.2.2.2.1, t4.2.2.2.2.1, t8.map byte, ()), false, ()))) (
  brk (decide (0 ≤ t9) && decide (t9 < (t0.length : Int))) (
  brk (!decide (t0.getD t9.toNat 0 = 92)) (
   brk (decide (0 ≤ t9) && decide (t9 < (t0.length : Int))) (
   brk (fits (t8.length + ([t0.getD t9.toNat 0] : List Int).length)) (
   u6 T t0 t4 (t8 ++ ([t0.getD t9.toNat 0] : List Int)) (IntKind.i64.wrap (t9 + 1))) none) none) (
   brk (decide ((t0.length : Int) ≤ IntKind.i64.wrap (t9 + 1))) (
   some (Sum.inl ((t4.1, t4.2.1, IntKind.i64.wrap (t9 + 1), t4.2.2.2), true, ()))) (
   brk (decide (0 ≤ IntKind.i64.wrap (t9 + 1)) && decide (IntKind.i64.wrap (t9 + 1) < (t0.length : Int))) (
   (O8 T ([110, 116, 34, 92] : List Int) (t0.getD ((IntKind.i64.wrap (t9 + 1)).toNat) 0)).bind fun d124 =>
   brk (decide (0 ≤ d124.1)) (
    brk (decide (0 ≤ d124.1) && decide (d124.1 < 4)) (
    brk (fits (t8.length + ([([10, 9, 34, 92] : List Int).getD d124.1.toNat 0] : List Int).length)) (
    u6 T t0 t4 (t8 ++ ([([10, 9, 34, 92] : List Int).getD d124.1.toNat 0] : List Int)) (IntKind.i64.wrap (t9 + 2))) none) none) (
    brk (decide (0 ≤ IntKind.i64.wrap (t9 + 1)) && decide (IntKind.i64.wrap (t9 + 1) < (t0.length : Int))) (
    brk (!decide (t0.getD ((IntKind.i64.wrap (t9 + 1)).toNat) 0 = 120)) (
    some (Sum.inl ((t4.1, t4.2.1, IntKind.i64.wrap (t9 + 1), t4.2.2.2), true, ()))) (
    (N3 T t0 t4 t8 t9 2).bind (K8
     (fun y39 =>
     some (Sum.inl y39))
     (fun y39 =>
     brk (bounds y39.1.length (IntKind.i64.wrap (y39.2.2.2.1 + 2)) (IntKind.i64.wrap (y39.2.2.2.1 + 4))) (
     (H6 T (sub y39.1 (IntKind.i64.wrap (y39.2.2.2.1 + 2)) (IntKind.i64.wrap (y39.2.2.2.1 + 4))) 16 8).bind fun d174 =>
     brk (fits (y39.2.2.1.length + ([IntKind.u8.wrap d174.1.1] : List Int).length)) (
     u6 T y39.1 y39.2.1 (y39.2.2.1 ++ ([IntKind.u8.wrap d174.1.1] : List Int)) (IntKind.i64.wrap (y39.2.2.2.1 + 4))) none) none)))) none)) none))) none)) none)) none)
 := eL Tryz.func101 rfl (by kernel_rfl)
theorem ah6 (T : S.Tab) (t0 : List Int) (t4 : n7.den) (t8 : List Int) (t9 : Int) (t11 : Int) : N3 (S.step T) t0 t4 t8 t9 t11 =
 brk (decide (t11 ≤ 3)) (
 brk (decide ((t0.length : Int) ≤ IntKind.i64.wrap (t9 + t11))) (
  some (Sum.inl ((t4.1, t4.2.1, IntKind.i64.wrap (t9 + t11), t4.2.2.2), true, ()))) (
  brk (decide (0 ≤ IntKind.i64.wrap (t9 + t11)) && decide (IntKind.i64.wrap (t9 + t11) < (t0.length : Int))) (
  (av3 T (t0.getD ((IntKind.i64.wrap (t9 + t11)).toNat) 0)).bind fun d159 =>
  brk (!d159.1) (
  some (Sum.inl ((t4.1, t4.2.1, IntKind.i64.wrap (t9 + t11), t4.2.2.2), true, ()))) (
  N3 T t0 t4 t8 t9 (IntKind.i64.wrap (t11 + 1)))) none)) (
 some (Sum.inr (Sum.inl (t0, t4, t8, t9, ()))))
 := eL Tryz.func101 rfl (by kernel_rfl)
theorem aw3 (T : S.Tab) (t0 : List Int) (t1 : Int) (t4 : n7.den) (t14 : Int) (t15 : Int) : I7 (S.step T) t0 t1 t4 t14 t15 =
 brk (decide (0 < t15)) (
 (ay3 T t15).bind fun d189 =>
 brk (!decide (d189.1 = ([] : List Int))) (
  brk (decide (0 < (d189.1.length : Int))) (
  (aa6 T (d189.1.getD 0 0)).bind fun d195 =>
  brk (!d195.1) (
  brk (bounds t0.length t1 (t0.length : Int)) (
  (U2 T (sub t0 t1 (t0.length : Int)) d189.1).bind fun d203 =>
  brk (d203.1) (
   brk (decide (t14 < (d189.1.length : Int))) (
   I7 T t0 t1 (t15, t4.2.1, IntKind.i64.wrap (t1 + (d189.1.length : Int)), t4.2.2.2) (d189.1.length : Int) (IntKind.i64.wrap (t15 - 1))) (
   I7 T t0 t1 t4 t14 (IntKind.i64.wrap (t15 - 1)))) (
   I7 T t0 t1 t4 t14 (IntKind.i64.wrap (t15 - 1)))) none) (
  I7 T t0 t1 t4 t14 (IntKind.i64.wrap (t15 - 1)))) none) (
  I7 T t0 t1 t4 t14 (IntKind.i64.wrap (t15 - 1)))) (
 some (Sum.inl (t1, t4, ())))
 := eL Tryz.func101 rfl (by kernel_rfl)
theorem aL7 (T : S.Tab) (t0 : List Int) (t1 : Int) : ap4 (S.step T) t0 t1 =
 brk (decide (t0 = ([] : List Int))) (
 some (false, C9)) (
 brk (decide (0 < (t0.length : Int))) (
 brk (!decide (t0.getD 0 0 = 34)) (
  brk (decide (0 < (t0.length : Int))) (
  (aa6 T (t0.getD 0 0)).bind fun d16 =>
  brk (!d16.1) (
  brk (decide (0 < (t0.length : Int))) (
  (O9 T (t0.getD 0 0)).bind fun d22 =>
  brk (!d22.1) (
   some (false, C9)) (
   (S3 T t0 0).bind fun d28 =>
   brk (!d28.1.2.1) (
   brk (decide (d28.1.1.1 = t1)) (
    some (decide (d28.1.1.2.2.1 = (t0.length : Int)), C9)) (
    some (false, C9))) (
   some (false, C9)))) none) (
  (S3 T t0 0).bind fun d28 =>
  brk (!d28.1.2.1) (
   brk (decide (d28.1.1.1 = t1)) (
   some (decide (d28.1.1.2.2.1 = (t0.length : Int)), C9)) (
   some (false, C9))) (
   some (false, C9)))) none) (
  (S3 T t0 0).bind fun d28 =>
  brk (!d28.1.2.1) (
  brk (decide (d28.1.1.1 = t1)) (
   some (decide (d28.1.1.2.2.1 = (t0.length : Int)), C9)) (
   some (false, C9))) (
  some (false, C9)))) none)
 := eF Tryz.func243 (by kernel_rfl)
theorem au5 (T : S.Tab) (t0 : List Int) : G7 (S.step T) t0 =
 brk (decide ((t0.length : Int) ≤ 40)) (
 (ap4 T t0 1).bind fun d8 =>
 some (d8.1, O5)) (
 some (false, O5))
 := eF Tryz.func186 (by kernel_rfl)
theorem aV5 (T : S.Tab) (t0 : Int) : ag4 (S.step T) t0 =
 (X7 T t0 1 16).bind fun d4 =>
 some (d4.1, as2)
 := eF Tryz.func191 (by kernel_rfl)
theorem aM2 (T : S.Tab) (t0 : Bool) (t1 : Bool) (t2 : Bool) (t3 : Bool) (t4 : Int) (t5 : Int) (t6 : Int) (t7 : List Int) : o8 (S.step T) t0 t1 t2 t3 t4 t5 t6 t7 =
 brk (t0) (
 brk (t1) (
  brk (t2) (
  brk (t3) (
   some (true, (), (), (), (), t4, t5, t6, t7, ())) (
   some (decide (t7 = ([] : List Int)), (), (), (), (), t4, t5, t6, t7, ()))) (
  brk (decide (t6 = 0)) (
   brk (t3) (
   some (true, (), (), (), (), t4, t5, t6, t7, ())) (
   some (decide (t7 = ([] : List Int)), (), (), (), (), t4, t5, t6, t7, ()))) (
   some (false, (), (), (), (), t4, t5, t6, t7, ())))) (
  brk (decide (t5 = 0)) (
  brk (t2) (
   brk (t3) (
   some (true, (), (), (), (), t4, t5, t6, t7, ())) (
   some (decide (t7 = ([] : List Int)), (), (), (), (), t4, t5, t6, t7, ()))) (
   brk (decide (t6 = 0)) (
   brk (t3) (
    some (true, (), (), (), (), t4, t5, t6, t7, ())) (
    some (decide (t7 = ([] : List Int)), (), (), (), (), t4, t5, t6, t7, ()))) (
   some (false, (), (), (), (), t4, t5, t6, t7, ())))) (
  some (false, (), (), (), (), t4, t5, t6, t7, ())))) (
 brk (decide (t4 = 0)) (
  brk (t1) (
  brk (t2) (
   brk (t3) (
   some (true, (), (), (), (), t4, t5, t6, t7, ())) (
   some (decide (t7 = ([] : List Int)), (), (), (), (), t4, t5, t6, t7, ()))) (
   brk (decide (t6 = 0)) (
   brk (t3) (
    some (true, (), (), (), (), t4, t5, t6, t7, ())) (
    some (decide (t7 = ([] : List Int)), (), (), (), (), t4, t5, t6, t7, ()))) (
   some (false, (), (), (), (), t4, t5, t6, t7, ())))) (
  brk (decide (t5 = 0)) (
   brk (t2) (
   brk (t3) (
    some (true, (), (), (), (), t4, t5, t6, t7, ())) (
    some (decide (t7 = ([] : List Int)), (), (), (), (), t4, t5, t6, t7, ()))) (
   brk (decide (t6 = 0)) (
    brk (t3) (
    some (true, (), (), (), (), t4, t5, t6, t7, ())) (
    some (decide (t7 = ([] : List Int)), (), (), (), (), t4, t5, t6, t7, ()))) (
    some (false, (), (), (), (), t4, t5, t6, t7, ())))) (
   some (false, (), (), (), (), t4, t5, t6, t7, ())))) (
  some (false, (), (), (), (), t4, t5, t6, t7, ())))
 := eF Tryz.func189 (by kernel_rfl)
theorem aV9 (T : S.Tab) (t0 : Int) : ab1 (S.step T) t0 =
 (X7 T t0 20 37).bind fun d4 =>
 some (d4.1, aq8)
 := eF Tryz.func188 (by kernel_rfl)
theorem aN0 (T : S.Tab) (t0 : Int) (t1 : Int) (t2 : List Int) : o9 (S.step T) t0 t1 t2 =
 brk (bounds t2.length t0 t1) (
 (H2 T t2 (sub t2 t0 t1) ((sub t2 t0 t1).length : Int) 0).bind (K8
  (fun y2 =>
 some (y2.2.1, (), (), y2.1, ()))
  (fun y2 =>
 some (true, (), (), y2)))) none
 := eF Tryz.func187 (by kernel_rfl)
theorem ag7 (T : S.Tab) (t2 : List Int) (t11 : List Int) (t12 : Int) (t13 : Int) : H2 (S.step T) t2 t11 t12 t13 =
 brk (decide (t13 < t12)) (
 brk (decide (0 ≤ t13) && decide (t13 < (t11.length : Int))) (
 (ab1 T (t11.getD t13.toNat 0)).bind fun d18 =>
 brk (!d18.1) (
  some (Sum.inl (t2, false, ()))) (
  H2 T t2 t11 t12 (IntKind.i64.wrap (t13 + 1)))) none) (
 some (Sum.inr (Sum.inl (t2, ()))))
 := eL Tryz.func187 rfl (by kernel_rfl)
theorem ao4 (T : S.Tab) (t0 : List Int) : S2 (S.step T) t0 =
 brk (decide ((t0.length : Int) ≤ 40)) (
 (ap4 T t0 3).bind fun d8 =>
 some (d8.1, W4)) (
 some (false, W4))
 := eF Tryz.func192 (by kernel_rfl)
theorem aN4 (T : S.Tab) (t0 : Int) (t1 : List Int) : Q5 (S.step T) t0 t1 =
 brk (decide (1 ≤ t0)) (
 brk (decide (0 < (t1.length : Int))) (
 (ab1 T (t1.getD 0 0)).bind fun d9 =>
 brk (d9.1) (
  brk (decide (0 < (t1.length : Int))) (
  some (!decide (t1.getD 0 0 = 27), t0, t1, ())) none) (
  some (false, t0, t1, ()))) none) (
 some (false, t0, t1, ()))
 := eF Tryz.func190 (by kernel_rfl)
theorem aX2 (T : S.Tab) (t0 : List b8.den × Unit) (t1 : Int) : B6 (S.step T) t0 t1 =
 brk (decide (0 ≤ t1) && decide (t1 < (t0.1.length : Int))) (
 brk (decide ((at_ (τ := b8) t0.1 t1).2.1 < 0)) (
 some (false, l9)) (
 brk (decide ((at_ (τ := b8) t0.1 t1).2.2.1 < (at_ (τ := b8) t0.1 t1).2.1)) (
  some (false, l9)) (
  brk (decide ((at_ (τ := b8) t0.1 t1).2.2.2.1 < 0)) (
  some (false, l9)) (
  brk (decide (200 < ((at_ (τ := b8) t0.1 t1).2.2.2.2.2.2.2.2.1.length : Int))) (
   some (false, l9)) (
   brk (decide (200 < ((at_ (τ := b8) t0.1 t1).2.2.2.2.2.2.2.1.length : Int))) (
   some (false, l9)) (
   (K4 T t1 t0 (at_ (τ := b8) t0.1 t1) [] (at_ (τ := b8) t0.1 t1).2.2.2.2.2.2.2.2.1 ((at_ (τ := b8) t0.1 t1).2.2.2.2.2.2.2.2.1.length : Int) 0).bind (K8
    (fun y6 =>
    some (y6.1, l9))
    (fun y6 =>
    (A7 T y6.1 y6.2.1 y6.1.2.2.2.2.2.2.2.1 (y6.1.2.2.2.2.2.2.2.1.length : Int) 0).bind (K8
     (fun y13 =>
    some (y13.1, l9))
     (fun y13 =>
    brk (decide (y13.1.1 = 1)) (
     (G5 T (y13.1.2.2.2.2.2.2.2.1.length : Int) y13.1.2.2.2.2.1 y13.1.2.2.2.2.2.1 y13.1.2.2.2.2.2.2.1 y13.2.1 (y13.2.1.length : Int) 0).bind (K8
      (fun y26 =>
     some (y26.1, l9))
      (fun y26 =>
     (o8 T false false false false y26.1 y26.2.1 y26.2.2.1 y26.2.2.2.1).bind fun d119 =>
     some (d119.1, l9)))) (
     brk (decide (y13.1.1 = 2)) (
     (o8 T true false false false (y13.1.2.2.2.2.2.2.2.1.length : Int) y13.1.2.2.2.2.1 y13.1.2.2.2.2.2.1 y13.1.2.2.2.2.2.2.1).bind fun d123 =>
     brk (d123.1) (
      brk (decide (1 ≤ d123.2.2.2.2.2.1)) (
      (o9 T 0 (y13.2.1.length : Int) y13.2.1).bind fun d131 =>
      some (d131.1, l9)) (
      some (false, l9))) (
      some (false, l9))) (
     brk (decide (y13.1.1 = 3)) (
      (o8 T true false false false (y13.1.2.2.2.2.2.2.2.1.length : Int) y13.1.2.2.2.2.1 y13.1.2.2.2.2.2.1 y13.1.2.2.2.2.2.2.1).bind fun d136 =>
      brk (d136.1) (
      brk (decide (d136.2.2.2.2.2.1 = 1)) (
       brk (decide ((y13.2.1.length : Int) = 1)) (
       (o9 T 0 1 y13.2.1).bind fun d147 =>
       some (d147.1, l9)) (
       some (false, l9))) (
       some (false, l9))) (
      some (false, l9))) (
      brk (decide (y13.1.1 = 4)) (
      (o8 T true false false false (y13.1.2.2.2.2.2.2.2.1.length : Int) y13.1.2.2.2.2.1 y13.1.2.2.2.2.2.1 y13.1.2.2.2.2.2.2.1).bind fun d152 =>
      brk (d152.1) (
       brk (decide (d152.2.2.2.2.2.1 = 1)) (
       brk (decide ((y13.2.1.length : Int) = 1)) (
        brk (decide (0 < (y13.2.1.length : Int))) (
        some (decide (y13.2.1.getD 0 0 = 36), l9)) none) (
        some (false, l9))) (
       some (false, l9))) (
       some (false, l9))) (
      brk (decide (y13.1.1 = 5)) (
       (o8 T false false true false (y13.1.2.2.2.2.2.2.2.1.length : Int) y13.1.2.2.2.2.1 y13.1.2.2.2.2.2.1 y13.1.2.2.2.2.2.2.1).bind fun d170 =>
       brk (!d170.1) (
       some (false, l9)) (
       brk (decide (d170.2.2.2.2.2.2.2.1 < 1)) (
        some (false, l9)) (
        brk (decide (IntKind.i64.wrap ((y13.2.1.length : Int) - 1) < d170.2.2.2.2.2.2.2.1)) (
        some (false, l9)) (
        brk (bounds y13.2.1.length 0 d170.2.2.2.2.2.2.2.1) (
        (w9 T y13.2.1 d170.2.2.2.2.2.2.2.1 (y13.2.1.length : Int) (sub y13.2.1 0 d170.2.2.2.2.2.2.2.1) ((sub y13.2.1 0 d170.2.2.2.2.2.2.2.1).length : Int) 0).bind (K8
         (fun y42 =>
         some (y42.1, l9))
         (fun y42 =>
         (o9 T y42.2.1 y42.2.2.1 y42.1).bind fun d204 =>
         some (d204.1, l9)))) none)))) (
       brk (decide (y13.1.1 = 6)) (
       (T1 T y13.2.1 (y13.1.2.2.2.2.2.2.2.1.length : Int) y13.1.2.2.2.2.1 y13.1.2.2.2.2.2.1 y13.1.2.2.2.2.2.2.1 (y13.2.1.length : Int) y13.1.1 (decide (y13.1.1 = 6))).bind (K8
        (fun y50 =>
        some (y50.1, l9))
        (fun y50 =>
        some (false, l9)))) (
       (T1 T y13.2.1 (y13.1.2.2.2.2.2.2.2.1.length : Int) y13.1.2.2.2.2.1 y13.1.2.2.2.2.2.1 y13.1.2.2.2.2.2.2.1 (y13.2.1.length : Int) y13.1.1 (decide (y13.1.1 = 16))).bind (K8
        (fun y50 =>
        some (y50.1, l9))
        (fun y50 =>
        some (false, l9))))))))))))))))))) none
 := eF Tryz.func119 (by kernel_rfl)
theorem aF7 (T : S.Tab) (t6 : List Int) (t11 : Int) (t12 : Int) (t13 : Int) (t14 : List Int) (t16 : Int) (t105 : Int) (t205 : Bool) : T1 (S.step T) t6 t11 t12 t13 t14 t16 t105 t205 =
 brk (t205) (
 (o8 T false false false false t11 t12 t13 t14).bind fun d209 =>
 brk (d209.1) (
  brk (decide (t16 = 1)) (
  brk (decide (0 < (t6.length : Int))) (
  some (Sum.inl (decide (t6.getD 0 0 = 34), ()))) none) (
  some (Sum.inl (false, ())))) (
  some (Sum.inl (false, ())))) (
 brk (decide (t105 = 7)) (
  (o8 T false false false false t11 t12 t13 t14).bind fun d223 =>
  brk (d223.1) (
  brk (decide (t16 = 2)) (
   (o9 T 0 1 t6).bind fun d234 =>
   brk (d234.1) (
   brk (decide (1 < (d234.2.2.2.1.length : Int))) (
   brk (decide (d234.2.2.2.1.getD 1 0 = 1)) (
    brk (decide (t16 = 2)) (
    some (Sum.inl (true, ()))) (
    brk (decide (2 < (d234.2.2.2.1.length : Int))) (
    brk (decide (d234.2.2.2.1.getD 2 0 = 1)) (
     some (Sum.inl (true, ()))) (
     brk (decide (2 < (d234.2.2.2.1.length : Int))) (
     some (Sum.inl (decide (d234.2.2.2.1.getD 2 0 = 7), ()))) none)) none)) (
    some (Sum.inl (false, ())))) none) (
   some (Sum.inl (false, ())))) (
   brk (decide (t16 = 3)) (
   (o9 T 0 1 t6).bind fun d234 =>
   brk (d234.1) (
    brk (decide (1 < (d234.2.2.2.1.length : Int))) (
    brk (decide (d234.2.2.2.1.getD 1 0 = 1)) (
    brk (decide (t16 = 2)) (
     some (Sum.inl (true, ()))) (
     brk (decide (2 < (d234.2.2.2.1.length : Int))) (
     brk (decide (d234.2.2.2.1.getD 2 0 = 1)) (
     some (Sum.inl (true, ()))) (
     brk (decide (2 < (d234.2.2.2.1.length : Int))) (
     some (Sum.inl (decide (d234.2.2.2.1.getD 2 0 = 7), ()))) none)) none)) (
    some (Sum.inl (false, ())))) none) (
    some (Sum.inl (false, ())))) (
   some (Sum.inl (false, ()))))) (
  some (Sum.inl (false, ())))) (
  brk (decide (t105 = 8)) (
  (o8 T false false false false t11 t12 t13 t14).bind fun d261 =>
  brk (d261.1) (
   brk (decide (t16 = 2)) (
   (o9 T 0 1 t6).bind fun d268 =>
   brk (d268.1) (
    brk (decide (1 < (d268.2.2.2.1.length : Int))) (
    some (Sum.inl (decide (d268.2.2.2.1.getD 1 0 = 1), ()))) none) (
    some (Sum.inl (false, ())))) (
   some (Sum.inl (false, ())))) (
   some (Sum.inl (false, ())))) (
  brk (decide (t105 = 9)) (
   (o8 T true false false false t11 t12 t13 t14).bind fun d279 =>
   brk (d279.1) (
   brk (decide (d279.2.2.2.2.2.1 = 1)) (
    brk (decide (t16 = 3)) (
    (o9 T 0 (IntKind.i64.wrap (t16 - 1)) t6).bind fun d296 =>
    brk (d296.1) (
     brk (decide (0 ≤ IntKind.i64.wrap (t16 - 1)) && decide (IntKind.i64.wrap (t16 - 1) < (d296.2.2.2.1.length : Int))) (
     some (Sum.inl (decide (d296.2.2.2.1.getD ((IntKind.i64.wrap (t16 - 1)).toNat) 0 = 1), ()))) none) (
     some (Sum.inl (false, ())))) (
    brk (decide (t16 = 4)) (
     (o9 T 0 (IntKind.i64.wrap (t16 - 1)) t6).bind fun d296 =>
     brk (d296.1) (
     brk (decide (0 ≤ IntKind.i64.wrap (t16 - 1)) && decide (IntKind.i64.wrap (t16 - 1) < (d296.2.2.2.1.length : Int))) (
     some (Sum.inl (decide (d296.2.2.2.1.getD ((IntKind.i64.wrap (t16 - 1)).toNat) 0 = 1), ()))) none) (
     some (Sum.inl (false, ())))) (
     some (Sum.inl (false, ()))))) (
    some (Sum.inl (false, ())))) (
   some (Sum.inl (false, ())))) (
   brk (decide (t105 = 10)) (
   (o8 T true false false false t11 t12 t13 t14).bind fun d309 =>
   brk (d309.1) (
    brk (decide (1 ≤ d309.2.2.2.2.2.1)) (
    brk (decide (t16 = 2)) (
     (o9 T 0 1 t6).bind fun d320 =>
     brk (d320.1) (
     brk (decide (1 < (d320.2.2.2.1.length : Int))) (
     some (Sum.inl (decide (d320.2.2.2.1.getD 1 0 = 1), ()))) none) (
     some (Sum.inl (false, ())))) (
     some (Sum.inl (false, ())))) (
    some (Sum.inl (false, ())))) (
    some (Sum.inl (false, ())))) (
   brk (decide (t105 = 11)) (
    (D6 T t6 t11 t12 t13 t14 t16 t105 (decide (t105 = 11))).bind (K8
     (fun y65 =>
    some (Sum.inl y65))
     (fun y65 =>
    some (Sum.inr (Sum.inl ()))))) (
    brk (decide (t105 = 12)) (
    (D6 T t6 t11 t12 t13 t14 t16 t105 (decide (t105 = 12))).bind (K8
     (fun y65 =>
     some (Sum.inl y65))
     (fun y65 =>
     some (Sum.inr (Sum.inl ()))))) (
    brk (decide (t105 = 20)) (
     (D6 T t6 t11 t12 t13 t14 t16 t105 (decide (t105 = 20))).bind (K8
      (fun y65 =>
     some (Sum.inl y65))
      (fun y65 =>
     some (Sum.inr (Sum.inl ()))))) (
     brk (decide (t105 = 21)) (
     (D6 T t6 t11 t12 t13 t14 t16 t105 (decide (t105 = 21))).bind (K8
      (fun y65 =>
      some (Sum.inl y65))
      (fun y65 =>
      some (Sum.inr (Sum.inl ()))))) (
     brk (decide (t105 = 22)) (
      (D6 T t6 t11 t12 t13 t14 t16 t105 (decide (t105 = 22))).bind (K8
       (fun y65 =>
      some (Sum.inl y65))
       (fun y65 =>
      some (Sum.inr (Sum.inl ()))))) (
      (D6 T t6 t11 t12 t13 t14 t16 t105 (decide (t105 = 27))).bind (K8
       (fun y65 =>
      some (Sum.inl y65))
       (fun y65 =>
      some (Sum.inr (Sum.inl ()))))))))))))))
 := eJ Tryz.func119 rfl (by kernel_rfl)
theorem aF4 (T : S.Tab) (t6 : List Int) (t11 : Int) (t12 : Int) (t13 : Int) (t14 : List Int) (t16 : Int) (t105 : Int) (t328 : Bool) : D6 (S.step T) t6 t11 t12 t13 t14 t16 t105 t328 =
 brk (t328) (
 (o8 T false false false false t11 t12 t13 t14).bind fun d336 =>
 brk (d336.1) (
  some (Sum.inl (decide (t16 = 0), ()))) (
  some (Sum.inl (false, ())))) (
 brk (decide (t105 = 13)) (
  (o8 T false false false false t11 t12 t13 t14).bind fun d344 =>
  brk (d344.1) (
  (o9 T 0 t16 t6).bind fun d348 =>
  some (Sum.inl (d348.1, ()))) (
  some (Sum.inl (false, ())))) (
  brk (decide (t105 = 14)) (
  (o8 T true false false false t11 t12 t13 t14).bind fun d353 =>
  brk (d353.1) (
   brk (decide (d353.2.2.2.2.2.1 = 1)) (
   brk (decide (t16 = 2)) (
    brk (decide (0 < (t6.length : Int))) (
    brk (decide (t6.getD 0 0 = 1)) (
    brk (decide (1 < (t6.length : Int))) (
    some (Sum.inl (decide (t6.getD 1 0 = 1), ()))) none) (
    some (Sum.inl (false, ())))) none) (
    some (Sum.inl (false, ())))) (
   brk (decide (d353.2.2.2.2.2.1 = 2)) (
    brk (decide (t16 = 2)) (
    brk (decide (0 < (t6.length : Int))) (
    brk (decide (t6.getD 0 0 = 1)) (
     brk (decide (1 < (t6.length : Int))) (
     some (Sum.inl (decide (t6.getD 1 0 = 1), ()))) none) (
     some (Sum.inl (false, ())))) none) (
    some (Sum.inl (false, ())))) (
    some (Sum.inl (false, ()))))) (
   some (Sum.inl (false, ())))) (
  brk (decide (t105 = 15)) (
   (P4 T t6 t11 t12 t13 t14 t16 t105 (decide (t105 = 15))).bind (K8
    (fun y72 =>
   some (Sum.inl y72))
    (fun y72 =>
   some (Sum.inr (Sum.inl ()))))) (
   (P4 T t6 t11 t12 t13 t14 t16 t105 (decide (t105 = 40))).bind (K8
    (fun y72 =>
   some (Sum.inl y72))
    (fun y72 =>
   some (Sum.inr (Sum.inl ()))))))))
 := eJ Tryz.func119 rfl (by kernel_rfl)
theorem aD1 (T : S.Tab) (t6 : List Int) (t11 : Int) (t12 : Int) (t13 : Int) (t14 : List Int) (t16 : Int) (t105 : Int) (t378 : Bool) : P4 (S.step T) t6 t11 t12 t13 t14 t16 t105 t378 =
 brk (t378) (
 (o8 T false false false false t11 t12 t13 t14).bind fun d382 =>
 brk (d382.1) (
  brk (decide (t16 = 1)) (
  (o9 T 0 1 t6).bind fun d389 =>
  some (Sum.inl (d389.1, ()))) (
  some (Sum.inl (false, ())))) (
  some (Sum.inl (false, ())))) (
 brk (decide (t105 = 23)) (
  (o8 T false false true false t11 t12 t13 t14).bind fun d394 =>
  brk (d394.1) (
  some (Sum.inl (decide (t16 = 0), ()))) (
  some (Sum.inl (false, ())))) (
  brk (decide (t105 = 24)) (
  (o8 T false false false true t11 t12 t13 t14).bind fun d402 =>
  brk (d402.1) (
   brk (decide (t16 = 0)) (
   (S2 T d402.2.2.2.2.2.2.2.2.1).bind fun d409 =>
   some (Sum.inl (d409.1, ()))) (
   some (Sum.inl (false, ())))) (
   some (Sum.inl (false, ())))) (
  brk (decide (t105 = 25)) (
   (o8 T false false false true t11 t12 t13 t14).bind fun d414 =>
   brk (d414.1) (
   brk (decide (t16 = 0)) (
    some (Sum.inl (decide ((d414.2.2.2.2.2.2.2.2.1.length : Int) ≤ 4000), ()))) (
    some (Sum.inl (false, ())))) (
   some (Sum.inl (false, ())))) (
   brk (decide (t105 = 26)) (
   (o8 T false false false true t11 t12 t13 t14).bind fun d427 =>
   brk (d427.1) (
    brk (decide (t16 = 0)) (
    (G7 T d427.2.2.2.2.2.2.2.2.1).bind fun d434 =>
    some (Sum.inl (d434.1, ()))) (
    some (Sum.inl (false, ())))) (
    some (Sum.inl (false, ())))) (
   brk (decide (t105 = 28)) (
    (L6 T t6 t11 t12 t13 t14 t16 t105 (decide (t105 = 28))).bind (K8
     (fun y84 =>
    some (Sum.inl y84))
     (fun y84 =>
    some (Sum.inr (Sum.inl ()))))) (
    brk (decide (t105 = 29)) (
    (L6 T t6 t11 t12 t13 t14 t16 t105 (decide (t105 = 29))).bind (K8
     (fun y84 =>
     some (Sum.inl y84))
     (fun y84 =>
     some (Sum.inr (Sum.inl ()))))) (
    (L6 T t6 t11 t12 t13 t14 t16 t105 (decide (t105 = 41))).bind (K8
     (fun y84 =>
     some (Sum.inl y84))
     (fun y84 =>
     some (Sum.inr (Sum.inl ())))))))))))
 := eJ Tryz.func119 rfl (by kernel_rfl)
theorem aE7 (T : S.Tab) (t6 : List Int) (t11 : Int) (t12 : Int) (t13 : Int) (t14 : List Int) (t16 : Int) (t105 : Int) (t436 : Bool) : L6 (S.step T) t6 t11 t12 t13 t14 t16 t105 t436 =
 brk (t436) (
 (o8 T false false false false t11 t12 t13 t14).bind fun d441 =>
 brk (d441.1) (
  brk (decide (t16 = 2)) (
  (o9 T 0 2 t6).bind fun d448 =>
  some (Sum.inl (d448.1, ()))) (
  some (Sum.inl (false, ())))) (
  some (Sum.inl (false, ())))) (
 brk (decide (t105 = 30)) (
  (o8 T false true false false t11 t12 t13 t14).bind fun d453 =>
  brk (d453.1) (
  (X7 T d453.2.2.2.2.2.2.1 19 22).bind fun d456 =>
  brk (d456.1) (
   brk (decide (t16 = 1)) (
   (o9 T 0 1 t6).bind fun d464 =>
   some (Sum.inl (d464.1, ()))) (
   some (Sum.inl (false, ())))) (
   some (Sum.inl (false, ())))) (
  some (Sum.inl (false, ())))) (
  brk (decide (t105 = 31)) (
  (o8 T false true false false t11 t12 t13 t14).bind fun d469 =>
  brk (d469.1) (
   (X7 T d469.2.2.2.2.2.2.1 1 18).bind fun d472 =>
   brk (d472.1) (
   brk (decide (t16 = 2)) (
    (o9 T 0 2 t6).bind fun d480 =>
    some (Sum.inl (d480.1, ()))) (
    some (Sum.inl (false, ())))) (
   some (Sum.inl (false, ())))) (
   some (Sum.inl (false, ())))) (
  brk (decide (t105 = 32)) (
   (o8 T false false false false t11 t12 t13 t14).bind fun d485 =>
   brk (d485.1) (
   brk (decide (t16 = 2)) (
    (Q5 T t16 t6).bind fun d492 =>
    brk (d492.1) (
    (o9 T 0 2 d492.2.2.1).bind fun d496 =>
    some (Sum.inl (d496.1, ()))) (
    some (Sum.inl (false, ())))) (
    some (Sum.inl (false, ())))) (
   some (Sum.inl (false, ())))) (
   brk (decide (t105 = 33)) (
   (o8 T false false false true t11 t12 t13 t14).bind fun d501 =>
   brk (d501.1) (
    brk (decide (t16 = 1)) (
    (Q5 T t16 t6).bind fun d508 =>
    brk (d508.1) (
     (G7 T d501.2.2.2.2.2.2.2.2.1).bind fun d512 =>
     some (Sum.inl (d512.1, ()))) (
     some (Sum.inl (false, ())))) (
    some (Sum.inl (false, ())))) (
    some (Sum.inl (false, ())))) (
   brk (decide (t105 = 34)) (
    (o8 T false false false false t11 t12 t13 t14).bind fun d517 =>
    brk (d517.1) (
    (Q5 T t16 t6).bind fun d520 =>
    brk (d520.1) (
     (o9 T 0 d520.2.1 d520.2.2.1).bind fun d525 =>
     some (Sum.inl (d525.1, ()))) (
     some (Sum.inl (false, ())))) (
    some (Sum.inl (false, ())))) (
    brk (decide (t105 = 35)) (
    (F9 T t11 t12 t13 t14 t6 (t6.length : Int) 0).bind (K8
     (fun y97 =>
     some (Sum.inl y97))
     (fun y97 =>
     (o8 T false false false false y97.1 y97.2.1 y97.2.2.1 y97.2.2.2.1).bind fun d540 =>
     some (Sum.inl (d540.1, ()))))) (
    brk (decide (t105 = 36)) (
     (o8 T true true false false t11 t12 t13 t14).bind fun d544 =>
     brk (d544.1) (
     (X7 T d544.2.2.2.2.2.2.1 0 1).bind fun d547 =>
     brk (d547.1) (
      brk (decide (t16 = 1)) (
      brk (decide (0 < (t6.length : Int))) (
      some (Sum.inl (decide (t6.getD 0 0 = 1), ()))) none) (
      some (Sum.inl (false, ())))) (
      some (Sum.inl (false, ())))) (
     some (Sum.inl (false, ())))) (
     brk (decide (t105 = 37)) (
     (o8 T false false false false t11 t12 t13 t14).bind fun d562 =>
     brk (d562.1) (
      brk (decide (t16 = 1)) (
      brk (decide (0 < (t6.length : Int))) (
      brk (decide (t6.getD 0 0 = 34)) (
       some (Sum.inl (true, ()))) (
       brk (decide (0 < (t6.length : Int))) (
       some (Sum.inl (decide (t6.getD 0 0 = 27), ()))) none)) none) (
      some (Sum.inl (false, ())))) (
      some (Sum.inl (false, ())))) (
     brk (decide (t105 = 42)) (
      (o8 T false false false true t11 t12 t13 t14).bind fun d582 =>
      brk (d582.1) (
      brk (decide (t16 = 1)) (
       (o9 T 0 1 t6).bind fun d589 =>
       brk (d589.1) (
       (G7 T d582.2.2.2.2.2.2.2.2.1).bind fun d593 =>
       some (Sum.inl (d593.1, ()))) (
       some (Sum.inl (false, ())))) (
       some (Sum.inl (false, ())))) (
      some (Sum.inl (false, ())))) (
      some (Sum.inr (Sum.inl ()))))))))))))
 := eJ Tryz.func119 rfl (by kernel_rfl)
theorem ao6 (T : S.Tab) (t1 : Int) (t2 : List b8.den × Unit) (t5 : b8.den) (t6 : List Int) (t58 : List Int) (t59 : Int) (t60 : Int) : K4 (S.step T) t1 t2 t5 t6 t58 t59 t60 =
 brk (decide (t60 < t59)) (
 brk (decide (0 ≤ t60) && decide (t60 < (t58.length : Int))) (
 (X7 T (t58.getD t60.toNat 0) 0 (IntKind.i64.wrap (t1 - 1))).bind fun d67 =>
 brk (!d67.1) (
  some (Sum.inl (false, ()))) (
  brk (decide (0 ≤ t58.getD t60.toNat 0) && decide (t58.getD t60.toNat 0 < (t2.1.length : Int))) (
  brk (fits (t6.length + ([(at_ (τ := b8) t2.1 (t58.getD t60.toNat 0)).1] : List Int).length)) (
  K4 T t1 t2 t5 (t6 ++ ([(at_ (τ := b8) t2.1 (t58.getD t60.toNat 0)).1] : List Int)) t58 t59 (IntKind.i64.wrap (t60 + 1))) none) none)) none) (
 some (Sum.inr (Sum.inl (t5, t6, ()))))
 := eL Tryz.func119 rfl (by kernel_rfl)
theorem aj8 (T : S.Tab) (t5 : b8.den) (t6 : List Int) (t80 : List (List Int)) (t81 : Int) (t82 : Int) : A7 (S.step T) t5 t6 t80 t81 t82 =
 brk (decide (t82 < t81)) (
 brk (decide (0 ≤ t82) && decide (t82 < (t80.length : Int))) (
 (G7 T (t80.getD t82.toNat [])).bind fun d87 =>
 brk (!d87.1) (
  some (Sum.inl (false, ()))) (
  A7 T t5 t6 t80 t81 (IntKind.i64.wrap (t82 + 1)))) none) (
 some (Sum.inr (Sum.inl (t5, t6, ()))))
 := eL Tryz.func119 rfl (by kernel_rfl)
theorem al6 (T : S.Tab) (t11 : Int) (t12 : Int) (t13 : Int) (t14 : List Int) (t108 : List Int) (t109 : Int) (t110 : Int) : G5 (S.step T) t11 t12 t13 t14 t108 t109 t110 =
 brk (decide (t110 < t109)) (
 brk (decide (0 ≤ t110) && decide (t110 < (t108.length : Int))) (
 (ag4 T (t108.getD t110.toNat 0)).bind fun d115 =>
 brk (!d115.1) (
  some (Sum.inl (false, ()))) (
  G5 T t11 t12 t13 t14 t108 t109 (IntKind.i64.wrap (t110 + 1)))) none) (
 some (Sum.inr (Sum.inl (t11, t12, t13, t14, ()))))
 := eL Tryz.func119 rfl (by kernel_rfl)
theorem aj3 (T : S.Tab) (t6 : List Int) (t13 : Int) (t16 : Int) (t184 : List Int) (t185 : Int) (t186 : Int) : w9 (S.step T) t6 t13 t16 t184 t185 t186 =
 brk (decide (t186 < t185)) (
 brk (decide (0 ≤ t186) && decide (t186 < (t184.length : Int))) (
 brk (!decide (t184.getD t186.toNat 0 = 26)) (
  brk (!decide (t184.getD t186.toNat 0 = 32)) (
  brk (!decide (t184.getD t186.toNat 0 = 33)) (
   some (Sum.inl (false, ()))) (
   w9 T t6 t13 t16 t184 t185 (IntKind.i64.wrap (t186 + 1)))) (
  w9 T t6 t13 t16 t184 t185 (IntKind.i64.wrap (t186 + 1)))) (
  w9 T t6 t13 t16 t184 t185 (IntKind.i64.wrap (t186 + 1)))) none) (
 some (Sum.inr (Sum.inl (t6, t13, t16, ()))))
 := eL Tryz.func119 rfl (by kernel_rfl)
theorem ak2 (T : S.Tab) (t11 : Int) (t12 : Int) (t13 : Int) (t14 : List Int) (t529 : List Int) (t530 : Int) (t531 : Int) : F9 (S.step T) t11 t12 t13 t14 t529 t530 t531 =
 brk (decide (t531 < t530)) (
 brk (decide (0 ≤ t531) && decide (t531 < (t529.length : Int))) (
 (X7 T (t529.getD t531.toNat 0) 40 42).bind fun d536 =>
 brk (!d536.1) (
  some (Sum.inl (false, ()))) (
  F9 T t11 t12 t13 t14 t529 t530 (IntKind.i64.wrap (t531 + 1)))) none) (
 some (Sum.inr (Sum.inl (t11, t12, t13, t14, ()))))
 := eL Tryz.func119 rfl (by kernel_rfl)
theorem an2 (T : S.Tab) (t0 : List b8.den × Unit) : J5 (S.step T) t0 =
 brk (decide ((t0.1.length : Int) = 0)) (
 some ((1, 0, ()), N0)) (
 brk (decide (3000 < (t0.1.length : Int))) (
  some ((1, 0, ()), N0)) (
  brk (decide (0 ≤ IntKind.i64.wrap ((t0.1.length : Int) - 1)) && decide (IntKind.i64.wrap ((t0.1.length : Int) - 1) < (t0.1.length : Int))) (
  brk (!decide ((at_ (τ := b8) t0.1 (IntKind.i64.wrap ((t0.1.length : Int) - 1))).1 = 1)) (
  some ((1, 0, ()), N0)) (
  (F2 T t0 (0, 0, ()) (t0.1.length : Int) (t0.1.length : Int) 0).bind (K8
   (fun y5 =>
   some (y5.1, N0))
   (fun y5 =>
   brk (((decide (0 ≤ y5.2.2.1)) && (decide (y5.2.2.1 ≤ y5.2.2.1))) && (decide (y5.2.2.1 ≤ lim))) (
   (u5 T y5.1 y5.2.1 y5.2.2.1 (List.replicate y5.2.2.1.toNat 0) y5.1.1 (y5.1.1.length : Int) 0).bind (K8
    (fun y12 =>
   some (y12.1, N0))
    (fun y12 =>
   brk (((decide (0 ≤ y12.2.2.1)) && (decide (y12.2.2.1 ≤ y12.2.2.1))) && (decide (y12.2.2.1 ≤ lim))) (
   (L8 T y12.1 y12.2.1 (List.replicate y12.2.2.1.toNat 0) (IntKind.i64.wrap (y12.2.2.1 - 1))).bind (C7
    (fun y27 =>
    (F6 T y27.1 y27.2.1 (y27.2.1.length : Int) 0).bind (K8
     (fun y35 =>
    some (y35.1, N0))
     (fun y35 =>
    some ((0, 0, ()), N0)))))) none))) none)))) none))
 := eF Tryz.func74 (by kernel_rfl)
theorem an9 (T : S.Tab) (t1 : List b8.den × Unit) (t2 : Int × Int × Unit) (t3 : Int) (t37 : Int) (t38 : Int) : F2 (S.step T) t1 t2 t3 t37 t38 =
 brk (decide (t38 < t37)) (
 (B6 T t1 t38).bind fun d43 =>
 brk (!d43.1) (
  some (Sum.inl ((2, t38, ()), ()))) (
  F2 T t1 t2 t3 t37 (IntKind.i64.wrap (t38 + 1)))) (
 some (Sum.inr (Sum.inl (t1, t2, t3, ()))))
 := eL Tryz.func74 rfl (by kernel_rfl)
theorem aj9 (T : S.Tab) (t1 : List b8.den × Unit) (t2 : Int × Int × Unit) (t3 : Int) (t5 : List Int) (t51 : List b8.den) (t52 : Int) (t53 : Int) : u5 (S.step T) t1 t2 t3 t5 t51 t52 t53 =
 brk (decide (t53 < t52)) (
 brk (decide (0 ≤ t53) && decide (t53 < (t51.length : Int))) (
 (G6 T t1 t2 t3 t5 t53 (at_ (τ := b8) t51 t53) t53 (IntKind.i64.wrap (((at_ (τ := b8) t51 t53).2.2.2.2.2.2.2.2.1.length : Int) - 1)) t51 t52 t53).bind (K8
  (fun y16 =>
  some (Sum.inl y16))
  (fun y16 =>
  brk (decide (0 ≤ y16.2.2.2.2.1) && decide (y16.2.2.2.2.1 < (y16.2.2.2.1.length : Int))) (
  brk (decide (y16.2.2.2.2.1 = IntKind.i64.wrap (y16.2.2.1 - 1))) (
  brk (!decide (y16.2.2.2.2.2.1 = 0)) (
   some (Sum.inl ((3, y16.2.2.2.2.1, ()), ()))) (
   u5 T y16.1 y16.2.1 y16.2.2.1 (y16.2.2.2.1.set y16.2.2.2.2.1.toNat y16.2.2.2.2.2.1) y16.2.2.2.2.2.2.1 y16.2.2.2.2.2.2.2.1 (IntKind.i64.wrap (y16.2.2.2.2.2.2.2.2.1 + 1)))) (
  u5 T y16.1 y16.2.1 y16.2.2.1 (y16.2.2.2.1.set y16.2.2.2.2.1.toNat y16.2.2.2.2.2.1) y16.2.2.2.2.2.2.1 y16.2.2.2.2.2.2.2.1 (IntKind.i64.wrap (y16.2.2.2.2.2.2.2.2.1 + 1)))) none))) none) (
 some (Sum.inr (Sum.inl (t1, t2, t3, ()))))
 := eL Tryz.func74 rfl (by kernel_rfl)
theorem Z0 (T : S.Tab) (t1 : List b8.den × Unit) (t2 : Int × Int × Unit) (t3 : Int) (t5 : List Int) (t6 : Int) (t7 : b8.den) (t8 : Int) (t9 : Int) (t51 : List b8.den) (t52 : Int) (t53 : Int) : G6 (S.step T) t1 t2 t3 t5 t6 t7 t8 t9 t51 t52 t53 =
 brk (decide (0 ≤ t9)) (
 brk (decide (0 ≤ t9) && decide (t9 < (t7.2.2.2.2.2.2.2.2.1.length : Int))) (
 brk (!decide (t7.2.2.2.2.2.2.2.2.1.getD t9.toNat 0 = IntKind.i64.wrap (t8 - 1))) (
  some (Sum.inl ((3, t6, ()), ()))) (
  brk (decide (0 ≤ t9) && decide (t9 < (t7.2.2.2.2.2.2.2.2.1.length : Int))) (
  brk (decide (0 ≤ t7.2.2.2.2.2.2.2.2.1.getD t9.toNat 0) && decide (t7.2.2.2.2.2.2.2.2.1.getD t9.toNat 0 < (t5.length : Int))) (
  G6 T t1 t2 t3 t5 t6 t7 (t5.getD ((t7.2.2.2.2.2.2.2.2.1.getD t9.toNat 0).toNat) 0) (IntKind.i64.wrap (t9 - 1)) t51 t52 t53) none) none)) none) (
 some (Sum.inr (Sum.inl (t1, t2, t3, t5, t6, t8, t51, t52, t53, ()))))
 := eL Tryz.func74 rfl (by kernel_rfl)
theorem ak0 (T : S.Tab) (t1 : List b8.den × Unit) (t2 : Int × Int × Unit) (t10 : List Int) (t11 : Int) : L8 (S.step T) t1 t2 t10 t11 =
 brk (decide (0 ≤ t11)) (
 brk (decide (0 ≤ t11) && decide (t11 < (t1.1.length : Int))) (
 (I3 T t1 t2 t10 t11 (at_ (τ := b8) t1.1 t11).2.2.2.2.2.2.2.2.1 ((at_ (τ := b8) t1.1 t11).2.2.2.2.2.2.2.2.1.length : Int) 0).bind (C7
  (fun y30 =>
  L8 T y30.1 y30.2.1 y30.2.2.1 (IntKind.i64.wrap (y30.2.2.2.1 - 1))))) none) (
 some (Sum.inl (t2, t10, ())))
 := eL Tryz.func74 rfl (by kernel_rfl)
theorem ak6 (T : S.Tab) (t1 : List b8.den × Unit) (t2 : Int × Int × Unit) (t10 : List Int) (t11 : Int) (t113 : List Int) (t114 : Int) (t115 : Int) : I3 (S.step T) t1 t2 t10 t11 t113 t114 t115 =
 brk (decide (t115 < t114)) (
 brk (decide (0 ≤ t115) && decide (t115 < (t113.length : Int))) (
 brk (decide (0 ≤ t11) && decide (t11 < (t10.length : Int))) (
 brk (decide (0 ≤ t113.getD t115.toNat 0) && decide (t113.getD t115.toNat 0 < (t10.length : Int))) (
 I3 T t1 t2 (t10.set ((t113.getD t115.toNat 0).toNat) (IntKind.i64.wrap ((t10.getD t11.toNat 0) + 1))) t11 t113 t114 (IntKind.i64.wrap (t115 + 1))) none) none) none) (
 some (Sum.inl (t1, t2, t10, t11, ())))
 := eL Tryz.func74 rfl (by kernel_rfl)
theorem al1 (T : S.Tab) (t2 : Int × Int × Unit) (t10 : List Int) (t129 : Int) (t130 : Int) : F6 (S.step T) t2 t10 t129 t130 =
 brk (decide (t130 < t129)) (
 brk (decide (0 ≤ t130) && decide (t130 < (t10.length : Int))) (
 brk (decide (100 < t10.getD t130.toNat 0)) (
  some (Sum.inl ((4, t130, ()), ()))) (
  F6 T t2 t10 t129 (IntKind.i64.wrap (t130 + 1)))) none) (
 some (Sum.inr (Sum.inl (t2, ()))))
 := eL Tryz.func74 rfl (by kernel_rfl)
theorem a25 (T : S.Tab) (t0 : List b8.den × Unit) : ax2 (S.step T) t0 =
 (J5 T t0).bind fun d4 =>
 some (decide (d4.1.1 = 0) && (decide (d4.1.2.1 = 0) && true), aL8)
 := eF Tryz.func40 (by kernel_rfl)
theorem an5 (T : S.Tab) (t0 : Int) (t1 : Int) (t2 : List Int) (t3 : List b8.den × Unit) (t4 : List u7.den) (t5 : Unit) : N4 (S.step T) t0 t1 t2 t3 t4 t5 =
 brk (decide (0 ≤ t0) && decide (t0 < (t3.1.length : Int))) (
 brk (decide ((at_ (τ := b8) t3.1 t0).1 = 36)) (
 brk (fits (t4.length + ([(t2, (at_ (τ := b8) t3.1 t0).2.2.2.1, t1, t0, ())] : List u7.den).length)) (
 (K9 T (IntKind.i64.wrap (t1 + 1)) t3 (t4 ++ ([(t2, (at_ (τ := b8) t3.1 t0).2.2.2.1, t1, t0, ())] : List u7.den)) () (at_ (τ := b8) t3.1 t0)).bind (C7
  (fun y4 =>
  some ((), (), (), (), y4.1, y4.2.1, (), ())))) none) (
 (K9 T t1 t3 t4 () (at_ (τ := b8) t3.1 t0)).bind (C7
  (fun y4 =>
  some ((), (), (), (), y4.1, y4.2.1, (), ()))))) none
 := eF Tryz.func45 (by kernel_rfl)
theorem ay5 (T : S.Tab) (t1 : Int) (t3 : List b8.den × Unit) (t4 : List u7.den) (t5 : Unit) (t9 : b8.den) : K9 (S.step T) t1 t3 t4 t5 t9 =
 brk (decide (t9.1 = 4)) (
 brk (decide (0 < (t9.2.2.2.2.2.2.2.1.length : Int))) (
 (A9 T t1 t3 t4 () (t9.2.2.2.2.2.2.2.1.getD 0 []) t9.2.2.2.2.2.2.2.2.1 (t9.2.2.2.2.2.2.2.2.1.length : Int) 0).bind (C7
  (fun y8 =>
  some (Sum.inl y8)))) none) (
 (A9 T t1 t3 t4 () ([] : List Int) t9.2.2.2.2.2.2.2.2.1 (t9.2.2.2.2.2.2.2.2.1.length : Int) 0).bind (C7
  (fun y8 =>
  some (Sum.inl y8))))
 := eJ Tryz.func45 rfl (by kernel_rfl)
theorem ae7 (T : S.Tab) (t1 : Int) (t3 : List b8.den × Unit) (t4 : List u7.den) (t5 : Unit) (t10 : List Int) (t40 : List Int) (t41 : Int) (t42 : Int) : A9 (S.step T) t1 t3 t4 t5 t10 t40 t41 t42 =
 brk (decide (t42 < t41)) (
 brk (decide (0 ≤ t42) && decide (t42 < (t40.length : Int))) (
 (N4 T (t40.getD t42.toNat 0) t1 t10 t3 t4 ()).bind fun d50 =>
 A9 T t1 d50.2.2.2.2.1 d50.2.2.2.2.2.1 () t10 t40 t41 (IntKind.i64.wrap (t42 + 1))) none) (
 some (Sum.inl (t3, t4, ())))
 := eL Tryz.func45 rfl (by kernel_rfl)
theorem av7 (T : S.Tab) (t0 : List b8.den × Unit) : Y4 (S.step T) t0 =
 (ax2 T t0).bind fun d6 =>
 brk (!d6.1) (
 some ([], an1)) (
 (N4 T (IntKind.i64.wrap ((t0.1.length : Int) - 1)) 0 ([] : List Int) t0 [] ()).bind fun d14 =>
 some (d14.2.2.2.2.2.1, an1))
 := eF Tryz.func20 (by kernel_rfl)
theorem aT3 (T : S.Tab) (t0 : u7.den) (t1 : u7.den) : ac2 (S.step T) t0 t1 =
 brk (!decide (t0.1 = t1.1)) (
 some (false, N6)) (
 brk (!decide (t0.2.1 = t1.2.1)) (
  some (false, N6)) (
  brk (!decide (t0.2.2.1 = t1.2.2.1)) (
  some (false, N6)) (
  brk (!decide (t0.2.2.2.1 = t1.2.2.2.1)) (
   some (false, N6)) (
   some (true, N6)))))
 := eF Tryz.func46 (by kernel_rfl)
theorem aN3 (T : S.Tab) (t0 : List u7.den) (t1 : List u7.den) : T6 (S.step T) t0 t1 =
 brk (!decide ((t0.length : Int) = (t1.length : Int))) (
 some (false, Z5)) (
 (H0 T t0 t1 0).bind (K8
  (fun y4 =>
  some (y4.1, Z5))
  (fun y4 =>
  some (true, Z5))))
 := eF Tryz.func21 (by kernel_rfl)
theorem ah5 (T : S.Tab) (t0 : List u7.den) (t1 : List u7.den) (t5 : Int) : H0 (S.step T) t0 t1 t5 =
 brk (decide (t5 < (t0.length : Int))) (
 brk (decide (0 ≤ t5) && decide (t5 < (t0.length : Int))) (
 brk (decide (0 ≤ t5) && decide (t5 < (t1.length : Int))) (
 (ac2 T (at_ (τ := u7) t0 t5) (at_ (τ := u7) t1 t5)).bind fun d25 =>
 brk (!d25.1) (
  some (Sum.inl (false, ()))) (
  H0 T t0 t1 (IntKind.i64.wrap (t5 + 1)))) none) none) (
 some (Sum.inr (Sum.inl ())))
 := eL Tryz.func21 rfl (by kernel_rfl)
theorem aI2 (T : S.Tab) (t0 : List (List Int)) (t1 : List (List Int)) : V9 (S.step T) t0 t1 =
 brk (!decide ((t0.length : Int) = (t1.length : Int))) (
 some (false, W0)) (
 (E8 T t0 t1 0).bind (K8
  (fun y4 =>
  some (y4.1, W0))
  (fun y4 =>
  some (true, W0))))
 := eF Tryz.func120 (by kernel_rfl)
theorem ae2 (T : S.Tab) (t0 : List (List Int)) (t1 : List (List Int)) (t5 : Int) : E8 (S.step T) t0 t1 t5 =
 brk (decide (t5 < (t0.length : Int))) (
 brk (decide (0 ≤ t5) && decide (t5 < (t0.length : Int))) (
 brk (decide (0 ≤ t5) && decide (t5 < (t1.length : Int))) (
 brk (!decide ((t0.getD t5.toNat []) = (t1.getD t5.toNat []))) (
  some (Sum.inl (false, ()))) (
  E8 T t0 t1 (IntKind.i64.wrap (t5 + 1)))) none) none) (
 some (Sum.inr (Sum.inl ())))
 := eL Tryz.func120 rfl (by kernel_rfl)
theorem aW7 (T : S.Tab) (t0 : List Int) (t1 : List Int) : ag8 (S.step T) t0 t1 =
 brk (!decide ((t0.length : Int) = (t1.length : Int))) (
 some (false, af8)) (
 (K5 T t0 t1 0).bind (K8
  (fun y4 =>
  some (y4.1, af8))
  (fun y4 =>
  some (true, af8))))
 := eF Tryz.func14 (by kernel_rfl)
theorem ap0 (T : S.Tab) (t0 : List Int) (t1 : List Int) (t5 : Int) : K5 (S.step T) t0 t1 t5 =
 brk (decide (t5 < (t0.length : Int))) (
 brk (decide (0 ≤ t5) && decide (t5 < (t0.length : Int))) (
 brk (decide (0 ≤ t5) && decide (t5 < (t1.length : Int))) (
 brk (!decide (t0.getD t5.toNat 0 = t1.getD t5.toNat 0)) (
  some (Sum.inl (false, ()))) (
  K5 T t0 t1 (IntKind.i64.wrap (t5 + 1)))) none) none) (
 some (Sum.inr (Sum.inl ())))
 := eL Tryz.func14 rfl (by kernel_rfl)
theorem aW3 (T : S.Tab) (t0 : b8.den) (t1 : b8.den) : aa9 (S.step T) t0 t1 =
 brk (!decide (t0.1 = t1.1)) (
 some (false, C2)) (
 brk (!decide (t0.2.1 = t1.2.1)) (
  some (false, C2)) (
  brk (!decide (t0.2.2.1 = t1.2.2.1)) (
  some (false, C2)) (
  brk (!decide (t0.2.2.2.1 = t1.2.2.2.1)) (
   some (false, C2)) (
   brk (!decide (t0.2.2.2.2.1 = t1.2.2.2.2.1)) (
   some (false, C2)) (
   brk (!decide (t0.2.2.2.2.2.1 = t1.2.2.2.2.2.1)) (
    some (false, C2)) (
    brk (!decide (t0.2.2.2.2.2.2.1 = t1.2.2.2.2.2.2.1)) (
    some (false, C2)) (
    (V9 T t0.2.2.2.2.2.2.2.1 t1.2.2.2.2.2.2.2.1).bind fun d44 =>
    brk (!d44.1) (
     some (false, C2)) (
     (ag8 T t0.2.2.2.2.2.2.2.2.1 t1.2.2.2.2.2.2.2.2.1).bind fun d50 =>
     brk (!d50.1) (
     some (false, C2)) (
     some (true, C2))))))))))
 := eF Tryz.func75 (by kernel_rfl)
theorem aQ0 (T : S.Tab) (t0 : List b8.den) (t1 : List b8.den) : ac6 (S.step T) t0 t1 =
 brk (!decide ((t0.length : Int) = (t1.length : Int))) (
 some (false, ab3)) (
 (I5 T t0 t1 0).bind (K8
  (fun y4 =>
  some (y4.1, ab3))
  (fun y4 =>
  some (true, ab3))))
 := eF Tryz.func42 (by kernel_rfl)
theorem ak1 (T : S.Tab) (t0 : List b8.den) (t1 : List b8.den) (t5 : Int) : I5 (S.step T) t0 t1 t5 =
 brk (decide (t5 < (t0.length : Int))) (
 brk (decide (0 ≤ t5) && decide (t5 < (t0.length : Int))) (
 brk (decide (0 ≤ t5) && decide (t5 < (t1.length : Int))) (
 (aa9 T (at_ (τ := b8) t0 t5) (at_ (τ := b8) t1 t5)).bind fun d25 =>
 brk (!d25.1) (
  some (Sum.inl (false, ()))) (
  I5 T t0 t1 (IntKind.i64.wrap (t5 + 1)))) none) none) (
 some (Sum.inr (Sum.inl ())))
 := eL Tryz.func42 rfl (by kernel_rfl)
theorem aV7 (T : S.Tab) (t0 : List b8.den × Unit) (t1 : List b8.den × Unit) : at4 (S.step T) t0 t1 =
 (ac6 T t0.1 t1.1).bind fun d9 =>
 brk (!d9.1) (
 some (false, as0)) (
 some (true, as0))
 := eF Tryz.func15 (by kernel_rfl)
theorem aM8 (T : S.Tab) (t0 : Int) : N1 (S.step T) t0 =
 brk (decide (t0 ≤ 0)) (
 some (([109, 48] : List Int), Z9)) (
 (J6 T t0 ([] : List Int)).bind (C7
  (fun y4 =>
  brk (fits (1 + y4.1.length)) (
  some (([109] : List Int) ++ y4.1, Z9)) none)))
 := eF Tryz.func47 (by kernel_rfl)
theorem X3 (T : S.Tab) (t0 : Int) (t3 : List Int) : J6 (S.step T) t0 t3 =
 brk (decide (0 < t0)) (
 brk (fits ((([IntKind.u8.wrap (IntKind.i64.wrap (48 + (t0.tmod 10)))] : List Int).map byte).length + t3.length)) (
 J6 T (IntKind.i64.wrap (t0.tdiv 10)) ((([IntKind.u8.wrap (IntKind.i64.wrap (48 + (t0.tmod 10)))] : List Int).map byte) ++ t3)) none) (
 some (Sum.inl (t3, ())))
 := eL Tryz.func47 rfl (by kernel_rfl)
theorem aC7 (T : S.Tab) (t0 : List (List Int)) (t1 : Int) : M7 (S.step T) t0 t1 =
 (E2 T t0 t1 0).bind (C7
  (fun y2 =>
 some (y2.2.1, y2.1, (), ())))
 := eF Tryz.func76 (by kernel_rfl)
theorem aa4 (T : S.Tab) (t0 : List (List Int)) (t1 : Int) (t5 : Int) : E2 (S.step T) t0 t1 t5 =
 brk (decide (t5 < (t0.length : Int))) (
 (N1 T t1).bind fun d15 =>
 brk (decide (0 ≤ t5) && decide (t5 < (t0.length : Int))) (
 E2 T (t0.set t5.toNat d15.1) (IntKind.i64.wrap (t1 + 1)) (IntKind.i64.wrap (t5 + 1))) none) (
 some (Sum.inl (t0, t1, ())))
 := eL Tryz.func76 rfl (by kernel_rfl)
theorem aN1 (T : S.Tab) (t0 : List Int) (t1 : Int) : T7 (S.step T) t0 t1 =
 (J3 T t0 t1 0).bind (C7
  (fun y2 =>
 some (y2.2.1, y2.1, (), ())))
 := eF Tryz.func17 (by kernel_rfl)
theorem ah4 (T : S.Tab) (t0 : List Int) (t1 : Int) (t5 : Int) : J3 (S.step T) t0 t1 t5 =
 brk (decide (t5 < (t0.length : Int))) (
 brk (decide (0 ≤ t5) && decide (t5 < (t0.length : Int))) (
 J3 T (t0.set t5.toNat t1) (IntKind.i64.wrap (t1 + 1)) (IntKind.i64.wrap (t5 + 1))) none) (
 some (Sum.inl (t0, t1, ())))
 := eL Tryz.func17 rfl (by kernel_rfl)
theorem aJ9 (T : S.Tab) (t0 : List b8.den) (t1 : Int) : V8 (S.step T) t0 t1 =
 (E7 T t0 t1 0).bind (C7
  (fun y2 =>
 some (y2.2.1, y2.1, (), ())))
 := eF Tryz.func43 (by kernel_rfl)
theorem ad8 (T : S.Tab) (t0 : List b8.den) (t1 : Int) (t5 : Int) : E7 (S.step T) t0 t1 t5 =
 brk (decide (t5 < (t0.length : Int))) (
 brk (decide (0 ≤ t5) && decide (t5 < (t0.length : Int))) (
 brk (decide (0 ≤ t5) && decide (t5 < ((B3 (τ := b8) t0 t5 (fun e => (t1, e.2))).length : Int))) (
 brk (decide (0 ≤ t5) && decide (t5 < ((B3 (τ := b8) (B3 (τ := b8) t0 t5 (fun e => (t1, e.2))) t5 (fun e => (e.1, IntKind.i64.wrap (t1 + 1), e.2.2))).length : Int))) (
 brk (decide (0 ≤ t5) && decide (t5 < ((B3 (τ := b8) (B3 (τ := b8) (B3 (τ := b8) t0 t5 (fun e => (t1, e.2))) t5 (fun e => (e.1, IntKind.i64.wrap (t1 + 1), e.2.2))) t5 (fun e => (e.1, e.2.1, IntKind.i64.wrap ((IntKind.i64.wrap (t1 + 1)) + 1), e.2.2.2))).length : Int))) (
 brk (decide (0 ≤ t5) && decide (t5 < ((B3 (τ := b8) (B3 (τ := b8) (B3 (τ := b8) (B3 (τ := b8) t0 t5 (fun e => (t1, e.2))) t5 (fun e => (e.1, IntKind.i64.wrap (t1 + 1), e.2.2))) t5 (fun e => (e.1, e.2.1, IntKind.i64.wrap ((IntKind.i64.wrap (t1 + 1)) + 1), e.2.2.2))) t5 (fun e => (e.1, e.2.1, e.2.2.1, IntKind.i64.wrap ((IntKind.i64.wrap ((IntKind.i64.wrap (t1 + 1)) + 1)) + 1), e.2.2.2.2))).length : Int))) (
 brk (decide (0 ≤ t5) && decide (t5 < ((B3 (τ := b8) (B3 (τ := b8) (B3 (τ := b8) (B3 (τ := b8) (B3 (τ := b8) t0 t5 (fun e => (t1, e.2))) t5 (fun e => (e.1, IntKind.i64.wrap (t1 + 1), e.2.2))) t5 (fun e => (e.1, e.2.1, IntKind.i64.wrap ((IntKind.i64.wrap (t1 + 1)) + 1), e.2.2.2))) t5 (fun e => (e.1, e.2.1, e.2.2.1, IntKind.i64.wrap ((IntKind.i64.wrap ((IntKind.i64.wrap (t1 + 1)) + 1)) + 1), e.2.2.2.2))) t5 (fun e => (e.1, e.2.1, e.2.2.1, e.2.2.2.1, IntKind.i64.wrap ((IntKind.i64.wrap ((IntKind.i64.wrap ((IntKind.i64.wrap (t1 + 1)) + 1)) + 1)) + 1), e.2.2.2.2.2))).length : Int))) (
 (N1 T (IntKind.i64.wrap ((IntKind.i64.wrap ((IntKind.i64.wrap ((IntKind.i64.wrap ((IntKind.i64.wrap ((IntKind.i64.wrap (t1 + 1)) + 1)) + 1)) + 1)) + 1)) + 1))).bind fun d57 =>
 brk (decide (0 ≤ t5) && decide (t5 < ((B3 (τ := b8) (B3 (τ := b8) (B3 (τ := b8) (B3 (τ := b8) (B3 (τ := b8) (B3 (τ := b8) t0 t5 (fun e => (t1, e.2))) t5 (fun e => (e.1, IntKind.i64.wrap (t1 + 1), e.2.2))) t5 (fun e => (e.1, e.2.1, IntKind.i64.wrap ((IntKind.i64.wrap (t1 + 1)) + 1), e.2.2.2))) t5 (fun e => (e.1, e.2.1, e.2.2.1, IntKind.i64.wrap ((IntKind.i64.wrap ((IntKind.i64.wrap (t1 + 1)) + 1)) + 1), e.2.2.2.2))) t5 (fun e => (e.1, e.2.1, e.2.2.1, e.2.2.2.1, IntKind.i64.wrap ((IntKind.i64.wrap ((IntKind.i64.wrap ((IntKind.i64.wrap (t1 + 1)) + 1)) + 1)) + 1), e.2.2.2.2.2))) t5 (fun e => (e.1, e.2.1, e.2.2.1, e.2.2.2.1, e.2.2.2.2.1, IntKind.i64.wrap ((IntKind.i64.wrap ((IntKind.i64.wrap ((IntKind.i64.wrap ((IntKind.i64.wrap (t1 + 1)) + 1)) + 1)) + 1)) + 1), e.2.2.2.2.2.2))).length : Int))) (
 brk (decide (0 ≤ t5) && decide (t5 < ((B3 (τ := b8) (B3 (τ := b8) (B3 (τ := b8) (B3 (τ := b8) (B3 (τ := b8) (B3 (τ := b8) (B3 (τ := b8) t0 t5 (fun e => (t1, e.2))) t5 (fun e => (e.1, IntKind.i64.wrap (t1 + 1), e.2.2))) t5 (fun e => (e.1, e.2.1, IntKind.i64.wrap ((IntKind.i64.wrap (t1 + 1)) + 1), e.2.2.2))) t5 (fun e => (e.1, e.2.1, e.2.2.1, IntKind.i64.wrap ((IntKind.i64.wrap ((IntKind.i64.wrap (t1 + 1)) + 1)) + 1), e.2.2.2.2))) t5 (fun e => (e.1, e.2.1, e.2.2.1, e.2.2.2.1, IntKind.i64.wrap ((IntKind.i64.wrap ((IntKind.i64.wrap ((IntKind.i64.wrap (t1 + 1)) + 1)) + 1)) + 1), e.2.2.2.2.2))) t5 (fun e => (e.1, e.2.1, e.2.2.1, e.2.2.2.1, e.2.2.2.2.1, IntKind.i64.wrap ((IntKind.i64.wrap ((IntKind.i64.wrap ((IntKind.i64.wrap ((IntKind.i64.wrap (t1 + 1)) + 1)) + 1)) + 1)) + 1), e.2.2.2.2.2.2))) t5 (fun e => (e.1, e.2.1, e.2.2.1, e.2.2.2.1, e.2.2.2.2.1, e.2.2.2.2.2.1, d57.1, e.2.2.2.2.2.2.2))).length : Int))) (
 (M7 T (at_ (τ := b8) (B3 (τ := b8) (B3 (τ := b8) (B3 (τ := b8) (B3 (τ := b8) (B3 (τ := b8) (B3 (τ := b8) (B3 (τ := b8) t0 t5 (fun e => (t1, e.2))) t5 (fun e => (e.1, IntKind.i64.wrap (t1 + 1), e.2.2))) t5 (fun e => (e.1, e.2.1, IntKind.i64.wrap ((IntKind.i64.wrap (t1 + 1)) + 1), e.2.2.2))) t5 (fun e => (e.1, e.2.1, e.2.2.1, IntKind.i64.wrap ((IntKind.i64.wrap ((IntKind.i64.wrap (t1 + 1)) + 1)) + 1), e.2.2.2.2))) t5 (fun e => (e.1, e.2.1, e.2.2.1, e.2.2.2.1, IntKind.i64.wrap ((IntKind.i64.wrap ((IntKind.i64.wrap ((IntKind.i64.wrap (t1 + 1)) + 1)) + 1)) + 1), e.2.2.2.2.2))) t5 (fun e => (e.1, e.2.1, e.2.2.1, e.2.2.2.1, e.2.2.2.2.1, IntKind.i64.wrap ((IntKind.i64.wrap ((IntKind.i64.wrap ((IntKind.i64.wrap ((IntKind.i64.wrap (t1 + 1)) + 1)) + 1)) + 1)) + 1), e.2.2.2.2.2.2))) t5 (fun e => (e.1, e.2.1, e.2.2.1, e.2.2.2.1, e.2.2.2.2.1, e.2.2.2.2.2.1, d57.1, e.2.2.2.2.2.2.2))) t5).2.2.2.2.2.2.2.1 (IntKind.i64.wrap ((IntKind.i64.wrap ((IntKind.i64.wrap ((IntKind.i64.wrap ((IntKind.i64.wrap ((IntKind.i64.wrap ((IntKind.i64.wrap (t1 + 1)) + 1)) + 1)) + 1)) + 1)) + 1)) + 1))).bind fun d68 =>
 brk (decide (0 ≤ t5) && decide (t5 < ((B3 (τ := b8) (B3 (τ := b8) (B3 (τ := b8) (B3 (τ := b8) (B3 (τ := b8) (B3 (τ := b8) (B3 (τ := b8) (B3 (τ := b8) t0 t5 (fun e => (t1, e.2))) t5 (fun e => (e.1, IntKind.i64.wrap (t1 + 1), e.2.2))) t5 (fun e => (e.1, e.2.1, IntKind.i64.wrap ((IntKind.i64.wrap (t1 + 1)) + 1), e.2.2.2))) t5 (fun e => (e.1, e.2.1, e.2.2.1, IntKind.i64.wrap ((IntKind.i64.wrap ((IntKind.i64.wrap (t1 + 1)) + 1)) + 1), e.2.2.2.2))) t5 (fun e => (e.1, e.2.1, e.2.2.1, e.2.2.2.1, IntKind.i64.wrap ((IntKind.i64.wrap ((IntKind.i64.wrap ((IntKind.i64.wrap (t1 + 1)) + 1)) + 1)) + 1), e.2.2.2.2.2))) t5 (fun e => (e.1, e.2.1, e.2.2.1, e.2.2.2.1, e.2.2.2.2.1, IntKind.i64.wrap ((IntKind.i64.wrap ((IntKind.i64.wrap ((IntKind.i64.wrap ((IntKind.i64.wrap (t1 + 1)) + 1)) + 1)) + 1)) + 1), e.2.2.2.2.2.2))) t5 (fun e => (e.1, e.2.1, e.2.2.1, e.2.2.2.1, e.2.2.2.2.1, e.2.2.2.2.2.1, d57.1, e.2.2.2.2.2.2.2))) t5 (fun e => (e.1, e.2.1, e.2.2.1, e.2.2.2.1, e.2.2.2.2.1, e.2.2.2.2.2.1, e.2.2.2.2.2.2.1, d68.2.1, e.2.2.2.2.2.2.2.2))).length : Int))) (
 (T7 T (at_ (τ := b8) (B3 (τ := b8) (B3 (τ := b8) (B3 (τ := b8) (B3 (τ := b8) (B3 (τ := b8) (B3 (τ := b8) (B3 (τ := b8) (B3 (τ := b8) t0 t5 (fun e => (t1, e.2))) t5 (fun e => (e.1, IntKind.i64.wrap (t1 + 1), e.2.2))) t5 (fun e => (e.1, e.2.1, IntKind.i64.wrap ((IntKind.i64.wrap (t1 + 1)) + 1), e.2.2.2))) t5 (fun e => (e.1, e.2.1, e.2.2.1, IntKind.i64.wrap ((IntKind.i64.wrap ((IntKind.i64.wrap (t1 + 1)) + 1)) + 1), e.2.2.2.2))) t5 (fun e => (e.1, e.2.1, e.2.2.1, e.2.2.2.1, IntKind.i64.wrap ((IntKind.i64.wrap ((IntKind.i64.wrap ((IntKind.i64.wrap (t1 + 1)) + 1)) + 1)) + 1), e.2.2.2.2.2))) t5 (fun e => (e.1, e.2.1, e.2.2.1, e.2.2.2.1, e.2.2.2.2.1, IntKind.i64.wrap ((IntKind.i64.wrap ((IntKind.i64.wrap ((IntKind.i64.wrap ((IntKind.i64.wrap (t1 + 1)) + 1)) + 1)) + 1)) + 1), e.2.2.2.2.2.2))) t5 (fun e => (e.1, e.2.1, e.2.2.1, e.2.2.2.1, e.2.2.2.2.1, e.2.2.2.2.2.1, d57.1, e.2.2.2.2.2.2.2))) t5 (fun e => (e.1, e.2.1, e.2.2.1, e.2.2.2.1, e.2.2.2.2.1, e.2.2.2.2.2.1, e.2.2.2.2.2.2.1, d68.2.1, e.2.2.2.2.2.2.2.2))) t5).2.2.2.2.2.2.2.2.1 d68.1).bind fun d75 =>
 E7 T (B3 (τ := b8) (B3 (τ := b8) (B3 (τ := b8) (B3 (τ := b8) (B3 (τ := b8) (B3 (τ := b8) (B3 (τ := b8) (B3 (τ := b8) (B3 (τ := b8) t0 t5 (fun e => (t1, e.2))) t5 (fun e => (e.1, IntKind.i64.wrap (t1 + 1), e.2.2))) t5 (fun e => (e.1, e.2.1, IntKind.i64.wrap ((IntKind.i64.wrap (t1 + 1)) + 1), e.2.2.2))) t5 (fun e => (e.1, e.2.1, e.2.2.1, IntKind.i64.wrap ((IntKind.i64.wrap ((IntKind.i64.wrap (t1 + 1)) + 1)) + 1), e.2.2.2.2))) t5 (fun e => (e.1, e.2.1, e.2.2.1, e.2.2.2.1, IntKind.i64.wrap ((IntKind.i64.wrap ((IntKind.i64.wrap ((IntKind.i64.wrap (t1 + 1)) + 1)) + 1)) + 1), e.2.2.2.2.2))) t5 (fun e => (e.1, e.2.1, e.2.2.1, e.2.2.2.1, e.2.2.2.2.1, IntKind.i64.wrap ((IntKind.i64.wrap ((IntKind.i64.wrap ((IntKind.i64.wrap ((IntKind.i64.wrap (t1 + 1)) + 1)) + 1)) + 1)) + 1), e.2.2.2.2.2.2))) t5 (fun e => (e.1, e.2.1, e.2.2.1, e.2.2.2.1, e.2.2.2.2.1, e.2.2.2.2.2.1, d57.1, e.2.2.2.2.2.2.2))) t5 (fun e => (e.1, e.2.1, e.2.2.1, e.2.2.2.1, e.2.2.2.2.1, e.2.2.2.2.2.1, e.2.2.2.2.2.2.1, d68.2.1, e.2.2.2.2.2.2.2.2))) t5 (fun e => (e.1, e.2.1, e.2.2.1, e.2.2.2.1, e.2.2.2.2.1, e.2.2.2.2.2.1, e.2.2.2.2.2.2.1, e.2.2.2.2.2.2.2.1, d75.2.1, ()))) d75.1 (IntKind.i64.wrap (t5 + 1))) none) none) none) none) none) none) none) none) none) (
 some (Sum.inl (t0, t1, ())))
 := eL Tryz.func43 rfl (by kernel_rfl)
theorem aN2 (T : S.Tab) (t0 : List b8.den × Unit) (t1 : Int) : af3 (S.step T) t0 t1 =
 (V8 T t0.1 t1).bind fun d8 =>
 some (d8.1, (d8.2.1, ()), (), ())
 := eF Tryz.func16 (by kernel_rfl)
theorem aF8 (T : S.Tab) (t0 : List u7.den) (t1 : Int) : Z3 (S.step T) t0 t1 =
 (D1 T t0 t1 0).bind (C7
  (fun y2 =>
 some (y2.2.1, y2.1, (), ())))
 := eF Tryz.func22 (by kernel_rfl)
theorem ac7 (T : S.Tab) (t0 : List u7.den) (t1 : Int) (t5 : Int) : D1 (S.step T) t0 t1 t5 =
 brk (decide (t5 < (t0.length : Int))) (
 (N1 T t1).bind fun d15 =>
 brk (decide (0 ≤ t5) && decide (t5 < (t0.length : Int))) (
 brk (decide (0 ≤ t5) && decide (t5 < ((B3 (τ := u7) t0 t5 (fun e => (d15.1, e.2))).length : Int))) (
 brk (decide (0 ≤ t5) && decide (t5 < ((B3 (τ := u7) (B3 (τ := u7) t0 t5 (fun e => (d15.1, e.2))) t5 (fun e => (e.1, IntKind.i64.wrap (t1 + 1), e.2.2))).length : Int))) (
 brk (decide (0 ≤ t5) && decide (t5 < ((B3 (τ := u7) (B3 (τ := u7) (B3 (τ := u7) t0 t5 (fun e => (d15.1, e.2))) t5 (fun e => (e.1, IntKind.i64.wrap (t1 + 1), e.2.2))) t5 (fun e => (e.1, e.2.1, IntKind.i64.wrap ((IntKind.i64.wrap (t1 + 1)) + 1), e.2.2.2))).length : Int))) (
 D1 T (B3 (τ := u7) (B3 (τ := u7) (B3 (τ := u7) (B3 (τ := u7) t0 t5 (fun e => (d15.1, e.2))) t5 (fun e => (e.1, IntKind.i64.wrap (t1 + 1), e.2.2))) t5 (fun e => (e.1, e.2.1, IntKind.i64.wrap ((IntKind.i64.wrap (t1 + 1)) + 1), e.2.2.2))) t5 (fun e => (e.1, e.2.1, e.2.2.1, IntKind.i64.wrap ((IntKind.i64.wrap ((IntKind.i64.wrap (t1 + 1)) + 1)) + 1), ()))) (IntKind.i64.wrap ((IntKind.i64.wrap ((IntKind.i64.wrap ((IntKind.i64.wrap (t1 + 1)) + 1)) + 1)) + 1)) (IntKind.i64.wrap (t5 + 1))) none) none) none) none) (
 some (Sum.inl (t0, t1, ())))
 := eL Tryz.func22 rfl (by kernel_rfl)
theorem aF1 (T : S.Tab) (t0 : List u7.den) (t1 : Int) : T4 (S.step T) t0 t1 =
 (G0 T t0 t1 0).bind (K8
  (fun y2 =>
 some (y2.1, aa7))
  (fun y2 =>
 some (y2.1, aa7)))
 := eF Tryz.func23 (by kernel_rfl)
theorem ac9 (T : S.Tab) (t0 : List u7.den) (t1 : Int) (t5 : Int) : G0 (S.step T) t0 t1 t5 =
 brk (decide (t5 < (t0.length : Int))) (
 brk (decide (0 ≤ t5) && decide (t5 < (t0.length : Int))) (
 (N1 T t1).bind fun d18 =>
 brk (!decide ((at_ (τ := u7) t0 t5).1 = d18.1)) (
  some (Sum.inl ((-1 : Int), ()))) (
  brk (decide (0 ≤ t5) && decide (t5 < (t0.length : Int))) (
  brk (!decide ((at_ (τ := u7) t0 t5).2.1 = IntKind.i64.wrap (t1 + 1))) (
  some (Sum.inl ((-1 : Int), ()))) (
  brk (decide (0 ≤ t5) && decide (t5 < (t0.length : Int))) (
  brk (!decide ((at_ (τ := u7) t0 t5).2.2.1 = IntKind.i64.wrap ((IntKind.i64.wrap (t1 + 1)) + 1))) (
   some (Sum.inl ((-1 : Int), ()))) (
   brk (decide (0 ≤ t5) && decide (t5 < (t0.length : Int))) (
   brk (!decide ((at_ (τ := u7) t0 t5).2.2.2.1 = IntKind.i64.wrap ((IntKind.i64.wrap ((IntKind.i64.wrap (t1 + 1)) + 1)) + 1))) (
   some (Sum.inl ((-1 : Int), ()))) (
   G0 T t0 (IntKind.i64.wrap ((IntKind.i64.wrap ((IntKind.i64.wrap ((IntKind.i64.wrap (t1 + 1)) + 1)) + 1)) + 1)) (IntKind.i64.wrap (t5 + 1)))) none)) none)) none)) none) (
 some (Sum.inr (Sum.inl (t1, ()))))
 := eL Tryz.func23 rfl (by kernel_rfl)
theorem aa5 (T : S.Tab) (t0 : List b8.den × Unit) : R6 (S.step T) t0 =
 (ar0 T t0 1048576).bind fun d13 =>
 brk (decide (d13.1 < 0)) (
 some (true, r7)) (
 (W6 T t0).bind fun d17 =>
 (ac0 T d17.1).bind fun d18 =>
 (W6 T t0).bind fun d20 =>
 ((Y4 T d20.1).map fun y => (y.1, (d20.1, ()))).bind fun d22 =>
 ((T6 T d22.1 d18.1).map fun y => (y.1, (d22.1, d18.1, ()))).bind fun d25 =>
 brk (!d25.1) (
  some (false, r7)) (
  (W6 T t0).bind fun d29 =>
  ((at4 T d22.2.1 d29.1).map fun y => (y.1, (d22.2.1, d29.1, ()))).bind fun d30 =>
  brk (!d30.1) (
  some (false, r7)) (
  (af3 T d30.2.1 1).bind fun d34 =>
  brk (decide (d34.1 < 0)) (
   some (false, r7)) (
   ((T6 T d25.2.1 d25.2.2.1).map fun y => (y.1, d25.2)).bind fun d40 =>
   brk (!d40.1) (
   some (false, r7)) (
   (Z3 T d40.2.1 1).bind fun d45 =>
   ((T4 T d45.2.1 1).map fun y => (y.1, (d45.2.1, (), ()))).bind fun d48 =>
   brk (decide (d48.1 < 0)) (
    some (false, r7)) (
    brk (!decide (d48.1 = d45.1)) (
    some (false, r7)) (
    (W6 T t0).bind fun d55 =>
    ((Y4 T d55.1).map fun y => (y.1, (d55.1, ()))).bind fun d56 =>
    ((T6 T d56.1 d40.2.2.1).map fun y => (y.1, (d56.1, d40.2.2))).bind fun d59 =>
    brk (!d59.1) (
     some (false, r7)) (
     ((T4 T d48.2.1 1).map fun y => (y.1, (d48.2.1, (), ()))).bind fun d63 =>
     brk (decide (d63.1 < 0)) (
     some (false, r7)) (
     brk (!decide (d63.1 = d45.1)) (
      some (false, r7)) (
      some (true, r7)))))))))))
 := eF Tryz.func4 (by kernel_rfl)
end Go.Abs.D
end

section
namespace Go.Proofs.YtnoddjddkbhnbaaGreatDoor
open Go.Abs
set_option maxRecDepth 100000 in
theorem bN7 {W : World} (h : laidMetH Tryz.prog Rows.fnExactOutlineRow.laid W) : Q1 Abs.D.S.glob (snap W) := by
 rw [MakeChecks.laidMetH_plain _ _ _ (by kernel_rfl)] at h
 obtain ⟨ps, hl, _⟩ := h
 obtain ⟨_, _, _, _, _, _, _, _, _, _, hl, _⟩ := hl
 obtain ⟨_, _, _, _, _, _, _, _, _, _, hl, _⟩ := hl
 obtain ⟨g2, t2, c2, f2, p2, q2, a2, b2, v2, d2, hl, _⟩ := hl
 obtain ⟨g3, t3, c3, f3, p3, q3, a3, b3, v3, d3, hl, _⟩ := hl
 obtain ⟨_, _, _, _, _, _, _, _, _, _, hl, _⟩ := hl
 obtain ⟨g5, t5, c5, f5, p5, q5, a5, b5, v5, d5, hl, _⟩ := hl
 obtain ⟨g6, t6, c6, f6, p6, q6, a6, b6, v6, d6, hl, _⟩ := hl
 obtain ⟨g7, t7, c7, f7, p7, q7, a7, b7, v7, d7, hl, _⟩ := hl
 have h5 := a44 (g' := 2) (τ := .sl .str) (x := Lx.words) (k := 3) a5 b5 v5 d5 (by kernel_rfl) (by kernel_rfl) rfl by6 (by kernel_rfl)
 have h6 := a44 (g' := 3) (τ := .sl .str) (x := Lx.ah0) (k := 3) a6 b6 v6 d6 (by kernel_rfl) (by kernel_rfl) rfl by6 (by kernel_rfl)
 have h7 := a44 (g' := 4) (τ := .sl .str) (x := Lx.aA9) (k := 3) a7 b7 v7 d7 (by kernel_rfl) (by kernel_rfl) rfl by6 (by kernel_rfl)
 have h3 := bH3 (g' := 8) a3 b3 v3 d3 (by kernel_rfl) (by kernel_rfl)
 have h2 := bw8 (g' := 1) (k := .u64) (m := 20) (e := 152) a2 b2 v2 d2 (by kernel_rfl) Lib.pow10Tab (by kernel_rfl) (by kernel_rfl) (by kernel_rfl) (by kernel_rfl) (by kernel_rfl)
 intro k cs hk
 have hk : (bif Nat.beq k 2 then some [.v (.sl .str) Lx.words] else bif Nat.beq k 3 then some [.v (.sl .str) Lx.ah0] else bif Nat.beq k 4 then some [.v (.sl .str) Lx.aA9] else Lx.tables k) = some cs := hk
 cases e5 : Nat.beq k 2 with
 | true => rw [e5] at hk; have := Nat.eq_of_beq_eq_true e5; subst this; injection hk with hk; subst hk; exact h5
 | false =>
 rw [e5] at hk
 cases e6 : Nat.beq k 3 with
 | true => rw [e6] at hk; have := Nat.eq_of_beq_eq_true e6; subst this; injection hk with hk; subst hk; exact h6
 | false =>
 rw [e6] at hk
 cases e7 : Nat.beq k 4 with
 | true => rw [e7] at hk; have := Nat.eq_of_beq_eq_true e7; subst this; injection hk with hk; subst hk; exact h7
 | false =>
 rw [e7] at hk
 have hk : Lx.tables k = some cs := hk
 unfold Lx.tables at hk
 cases e2 : Nat.beq k 1 with
 | true => rw [e2] at hk; have := Nat.eq_of_beq_eq_true e2; subst this; injection hk with hk; subst hk; exact h2
 | false =>
 rw [e2] at hk
 cases e3 : Nat.beq k 8 with
 | true => rw [e3] at hk; have := Nat.eq_of_beq_eq_true e3; subst this; injection hk with hk; subst hk; exact h3
 | false =>
 rw [e3] at hk
 cases hk
end Go.Proofs.YtnoddjddkbhnbaaGreatDoor
end

section
set_option maxRecDepth 100000
namespace Go.Abs.Bld
open Go.Proofs
theorem bp1 {l : List UInt8} {c : UInt8} : ∀ (m : List UInt8) (k : Nat), l = l.take k ++ m → k ≤ l.length → (match (List.range' k m.length).find? fun i => l.getD i 0 == c with | some i => (i : Int) | none => -1) = idx (m.map fun b => (b.toNat : Int)) (c.toNat : Int) k
 | [], k, _, _ => rfl
 | x :: m, k, h, hk => by
  have hx : l.getD k 0 = x := by
   rw [List.getD_eq_getElem?_getD, h, List.getElem?_append_right (by simp; omega)]
   simp [Nat.min_eq_left hk]
  have hlen : l.length = k + (m.length + 1) := by
   have := congrArg List.length h
   simp only [List.length_append, List.length_take, List.length_cons] at this
   omega
  have ih := bp1 (l := l) (c := c) m (k + 1) (by
   have h' : l = l.take k ++ [x] ++ m := by rw [List.append_assoc]; exact h
   have h2 : l.take (k + 1) = l.take k ++ [x] := by
    conv => lhs; rw [h']
    rw [List.take_left']
    simp [Nat.min_eq_left hk]
   rw [h2]; exact h') (by omega)
  rw [List.length_cons, List.range'_succ, List.find?_cons, hx]
  simp only [List.map_cons, idx]
  by_cases e : x = c
  ·subst e; simp
  ·have e1 : (x == c) = false := by simpa using e
   have e2 : decide ((x.toNat : Int) = (c.toNat : Int)) = false := by
    simp only [decide_eq_false_iff_not]
    intro h'
    apply e
    have : x.toNat = c.toNat := by omega
    exact UInt8.toNat_inj.1 this
   rw [e1, e2]
   simp only [cond_false]
   rw [ih]
   push_cast
   rfl
theorem bg2 (s : ByteArray) (c : Int) : firstIdx s c.toNat.toUInt8 = idx (bytesOf s) (byte c) 0 := by
 have h := bp1 (l := s.data.toList) (c := c.toNat.toUInt8) s.data.toList 0 (by simp) (Nat.zero_le _)
 have hc : ((c.toNat.toUInt8).toNat : Int) = byte c := by
  unfold byte
  rw [UInt8.toNat_ofNat']
 rw [hc] at h
 have hb : (s.data.toList.map fun b => (b.toNat : Int)) = bytesOf s := rfl
 rw [hb] at h
 refine Eq.trans ?_ h
 unfold firstIdx
 have hsz : s.size = s.data.toList.length := by
  rw [Array.length_toList]; rfl
 rw [hsz, List.range_eq_range']
 have : ∀ i, s[i]! = s.data.toList.getD i 0 := fun i => by
  by_cases h : i < s.size
  ·rw [getElem!_pos s i h]
   have h' : i < s.data.toList.length := by rw [← hsz]; exact h
   rw [List.getD_eq_getElem?_getD, List.getElem?_eq_getElem h', Option.getD_some]
   rfl
  ·rw [getElem!_neg s i h]
   have h' : s.data.toList.length ≤ i := by rw [← hsz]; omega
   rw [List.getD_eq_getElem?_getD, List.getElem?_eq_none h']
   rfl
 simp only [this]
 split <;> rename_i e <;> rw [e]
theorem be5 (glob : Nat → Option (List Cell)) : av9 Tryz.prog glob 198 ⟨⟨[.one (.pub .str), .one (.pub (.int .u8))], .val (.one (.pub (.int .i64)))⟩, ax5⟩ :=
 by5 (ts := [.str, .int .u8]) (τ := .int .i64) rfl rfl fun x y hF w us hA => by
  injection hF with hF
  subst hF
  obtain ⟨u1, r1, rfl, ⟨s, rfl, hs⟩, u2, r2, rfl, h2, h3⟩ := hA
  have h2 : _ = _ := h2
  have h3 : _ = _ := h3
  subst h2; subst h3
  have hs : x.1 = bytesOf s := hs
  unfold O4
  rw [run_callFunc_extern Tryz.func198 (by kernel_rfl) (by kernel_rfl) (by kernel_rfl) (e := Extern.BytealgIndexByte.indexByte) (by kernel_rfl), run_indexByte_string]
  refine ⟨Same.refl w, ?_⟩
  show _ = Value.int .i64 (idx x.1 (byte x.2.1) 0)
  rw [bg2, hs]
end Go.Abs.Bld
end

section
set_option maxRecDepth 100000
namespace Go.Abs.Lay
open Go.Proofs Go.Shelf
def bW6 : Ren where
 f := fun n => bif Nat.beq n 174 then 235 else bif Nat.beq n 247 then 256 else bif Nat.beq n 245 then 237 else bif Nat.beq n 287 then 236 else bif Nat.beq n 279 then 259 else bif Nat.beq n 280 then 260 else bif Nat.beq n 281 then 261 else bif Nat.beq n 282 then 262 else bif Nat.beq n 321 then 257 else bif Nat.beq n 322 then 258 else bif Nat.beq n 316 then 268 else bif Nat.beq n 171 then 49 else bif Nat.beq n 205 then 269 else bif Nat.beq n 243 then 78 else bif Nat.beq n 246 then 79 else bif Nat.beq n 283 then 121 else bif Nat.beq n 284 then 122 else bif Nat.beq n 285 then 123 else bif Nat.beq n 286 then 124 else bif Nat.beq n 129 then 194 else bif Nat.beq n 317 then 193 else bif Nat.beq n 318 then 195 else bif Nat.beq n 319 then 196 else bif Nat.beq n 320 then 197 else bif Nat.beq n 337 then 244 else bif Nat.beq n 338 then 245 else n
 t := fun n => bif Nat.beq n 9 then 9 else bif Nat.beq n 3 then 3 else bif Nat.beq n 2 then 2 else bif Nat.beq n 75 then 75 else bif Nat.beq n 85 then 209 else bif Nat.beq n 4 then 4 else bif Nat.beq n 167 then 220 else bif Nat.beq n 5 then 5 else bif Nat.beq n 53 then 152 else bif Nat.beq n 175 then 176 else bif Nat.beq n 46 then 117 else bif Nat.beq n 168 then 222 else bif Nat.beq n 37 then 68 else bif Nat.beq n 0 then 0 else bif Nat.beq n 210 then 230 else bif Nat.beq n 21 then 21 else bif Nat.beq n 127 then 118 else bif Nat.beq n 145 then 234 else bif Nat.beq n 143 then 232 else bif Nat.beq n 171 then 151 else bif Nat.beq n 173 then 155 else bif Nat.beq n 212 then 192 else bif Nat.beq n 51 then 193 else bif Nat.beq n 20 then 20 else bif Nat.beq n 213 then 194 else bif Nat.beq n 232 then 227 else bif Nat.beq n 233 then 228 else bif Nat.beq n 80 then 79 else n
 g := fun n => bif Nat.beq n 15 then 7 else bif Nat.beq n 16 then 8 else bif Nat.beq n 17 then 1 else bif Nat.beq n 18 then 5 else bif Nat.beq n 19 then 6 else n
theorem bJ8 : LaysC.n174 Tryz.prog bW6 where
 mixed := by kernel_rfl
 f129 := Tryz.func194.trans (congrArg some (by kernel_rfl))
 f171 := Tryz.func49.trans (congrArg some (by kernel_rfl))
 f174 := Tryz.func235.trans (congrArg some (by kernel_rfl))
 f205 := Tryz.func269.trans (congrArg some (by kernel_rfl))
 f243 := Tryz.func78.trans (congrArg some (by kernel_rfl))
 f245 := Tryz.func237.trans (congrArg some (by kernel_rfl))
 f246 := Tryz.func79.trans (congrArg some (by kernel_rfl))
 f247 := Tryz.func256.trans (congrArg some (by kernel_rfl))
 f279 := Tryz.func259.trans (congrArg some (by kernel_rfl))
 f280 := Tryz.func260.trans (congrArg some (by kernel_rfl))
 f281 := Tryz.func261.trans (congrArg some (by kernel_rfl))
 f282 := Tryz.func262.trans (congrArg some (by kernel_rfl))
 f283 := Tryz.func121.trans (congrArg some (by kernel_rfl))
 f284 := Tryz.func122.trans (congrArg some (by kernel_rfl))
 f285 := Tryz.func123.trans (congrArg some (by kernel_rfl))
 f286 := Tryz.func124.trans (congrArg some (by kernel_rfl))
 f287 := Tryz.func236.trans (congrArg some (by kernel_rfl))
 f316 := Tryz.func268.trans (congrArg some (by kernel_rfl))
 f317 := Tryz.func193.trans (congrArg some (by kernel_rfl))
 f318 := Tryz.func195.trans (congrArg some (by kernel_rfl))
 f319 := Tryz.func196.trans (congrArg some (by kernel_rfl))
 f320 := Tryz.func197.trans (congrArg some (by kernel_rfl))
 f321 := Tryz.func257.trans (congrArg some (by kernel_rfl))
 f322 := Tryz.func258.trans (congrArg some (by kernel_rfl))
 f337 := Tryz.func244.trans (congrArg some (by kernel_rfl))
 f338 := Tryz.func245.trans (congrArg some (by kernel_rfl))
 t0 := Tryz.underlying0
 a0 := Tryz.isAgg0
 z0 := Tryz.sizeOf0
 v0 := Tryz.zeroValue0
 t2 := Tryz.underlying2
 a2 := Tryz.isAgg2
 z2 := Tryz.sizeOf2
 v2 := Tryz.zeroValue2
 t3 := Tryz.underlying3
 a3 := Tryz.isAgg3
 z3 := Tryz.sizeOf3
 v3 := Tryz.zeroValue3
 t4 := Tryz.underlying4
 a4 := Tryz.isAgg4
 z4 := Tryz.sizeOf4
 v4 := Tryz.zeroValue4
 t5 := Tryz.underlying5
 a5 := Tryz.isAgg5
 z5 := Tryz.sizeOf5
 v5 := Tryz.zeroValue5
 t9 := Tryz.underlying9
 a9 := Tryz.isAgg9
 z9 := Tryz.sizeOf9
 v9 := Tryz.zeroValue9
 t20 := Tryz.underlying20
 a20 := Tryz.isAgg20
 z20 := Tryz.sizeOf20
 v20 := Tryz.zeroValue20
 t21 := Tryz.underlying21
 a21 := Tryz.isAgg21
 z21 := Tryz.sizeOf21
 v21 := Tryz.zeroValue21
 t37 := Tryz.underlying68
 a37 := Tryz.isAgg68
 z37 := Tryz.sizeOf68
 v37 := Tryz.zeroValue68
 t46 := Tryz.underlying117
 a46 := Tryz.isAgg117
 z46 := Tryz.sizeOf117
 v46 := Tryz.zeroValue117
 t51 := Tryz.underlying193
 a51 := Tryz.isAgg193
 z51 := Tryz.sizeOf193
 v51 := Tryz.zeroValue193
 t53 := Tryz.underlying152
 a53 := Tryz.isAgg152
 z53 := Tryz.sizeOf152
 v53 := Tryz.zeroValue152
 t75 := Tryz.underlying75
 a75 := Tryz.isAgg75
 z75 := Tryz.sizeOf75
 v75 := Tryz.zeroValue75
 t85 := Tryz.underlying209
 a85 := Tryz.isAgg209
 z85 := Tryz.sizeOf209
 v85 := Tryz.zeroValue209
 t127 := Tryz.underlying118
 a127 := Tryz.isAgg118
 z127 := Tryz.sizeOf118
 v127 := Tryz.zeroValue118
 t143 := Tryz.underlying232
 a143 := Tryz.isAgg232
 z143 := Tryz.sizeOf232
 v143 := Tryz.zeroValue232
 t145 := Tryz.underlying234
 a145 := Tryz.isAgg234
 z145 := Tryz.sizeOf234
 v145 := Tryz.zeroValue234
 t167 := Tryz.underlying220
 a167 := Tryz.isAgg220
 z167 := Tryz.sizeOf220
 v167 := Tryz.zeroValue220
 t168 := Tryz.underlying222
 a168 := Tryz.isAgg222
 z168 := Tryz.sizeOf222
 v168 := Tryz.zeroValue222
 t171 := Tryz.underlying151
 a171 := Tryz.isAgg151
 z171 := Tryz.sizeOf151
 v171 := Tryz.zeroValue151
 t173 := Tryz.underlying155
 a173 := Tryz.isAgg155
 z173 := Tryz.sizeOf155
 v173 := Tryz.zeroValue155
 t175 := Tryz.underlying176
 a175 := Tryz.isAgg176
 z175 := Tryz.sizeOf176
 v175 := Tryz.zeroValue176
 t210 := Tryz.underlying230
 a210 := Tryz.isAgg230
 z210 := Tryz.sizeOf230
 v210 := Tryz.zeroValue230
 t212 := Tryz.underlying192
 a212 := Tryz.isAgg192
 z212 := Tryz.sizeOf192
 v212 := Tryz.zeroValue192
 t213 := Tryz.underlying194
 a213 := Tryz.isAgg194
 z213 := Tryz.sizeOf194
 t232 := Tryz.underlying227
 a232 := Tryz.isAgg227
 z232 := Tryz.sizeOf227
 v232 := Tryz.zeroValue227
 t233 := Tryz.underlying228
 a233 := Tryz.isAgg228
 z233 := Tryz.sizeOf228
 v233 := Tryz.zeroValue228
 g15 := by kernel_rfl
 g16 := by kernel_rfl
 g17 := by kernel_rfl
 g18 := by kernel_rfl
 g19 := by kernel_rfl
 t80 := Tryz.underlying79
 a80 := Tryz.isAgg79
 z80 := Tryz.sizeOf79
 v80 := Tryz.zeroValue79
 i0 := by kernel_rfl
 i2 := by kernel_rfl
 i3 := by kernel_rfl
 i4 := by kernel_rfl
 i5 := by kernel_rfl
 i9 := by kernel_rfl
 i20 := by kernel_rfl
 i21 := by kernel_rfl
 i37 := by kernel_rfl
 i46 := by kernel_rfl
 i51 := by kernel_rfl
 i53 := by kernel_rfl
 i75 := by kernel_rfl
 i80 := by kernel_rfl
 i85 := by kernel_rfl
 i127 := by kernel_rfl
 i143 := by kernel_rfl
 i145 := by kernel_rfl
 i167 := by kernel_rfl
 i168 := by kernel_rfl
 i171 := by kernel_rfl
 i173 := by kernel_rfl
 i175 := by kernel_rfl
 i210 := by kernel_rfl
 i212 := by kernel_rfl
 i232 := by kernel_rfl
 i233 := by kernel_rfl
 m15 := by kernel_rfl
 m16 := by kernel_rfl
 m17 := by kernel_rfl
 m18 := by kernel_rfl
 m19 := by kernel_rfl
 c0 := by kernel_rfl
 c2 := by kernel_rfl
 c3 := by kernel_rfl
 c4 := by kernel_rfl
 c5 := by kernel_rfl
 c9 := by kernel_rfl
 c20 := by kernel_rfl
 c21 := by kernel_rfl
 c37 := by kernel_rfl
 c46 := by kernel_rfl
 c51 := by kernel_rfl
 c53 := by kernel_rfl
 c75 := by kernel_rfl
 c80 := by kernel_rfl
 c85 := by kernel_rfl
 c127 := by kernel_rfl
 c143 := by kernel_rfl
 c145 := by kernel_rfl
 c167 := by kernel_rfl
 c168 := by kernel_rfl
 c171 := by kernel_rfl
 c173 := by kernel_rfl
 c175 := by kernel_rfl
 c210 := by kernel_rfl
 c212 := by kernel_rfl
 c213 := by kernel_rfl
 c232 := by kernel_rfl
 c233 := by kernel_rfl
end Go.Abs.Lay
end

section
set_option maxRecDepth 100000
namespace Go.Abs.Lx
open Go.Proofs
theorem a90 {w w' : World} (h : RowKit.Below w.heap.size w w') : Same w w' := ⟨fun b hb => h.block b hb, h.size, h.os, h.tape, h.output⟩
theorem bi6 {glob : Nat → Option (List Cell)} (hg : glob 8 = some [.err false]) : av9 Tryz.prog glob 235 ⟨⟨[.one (.pub .str), .one (.pub (.int .i64)), .one (.pub (.int .i64))], .tup [.one (.pub (.int .i64)), .one .err]⟩, ag5⟩ := by
 intro x y hF imm w args nb hG hcells hP hnd hnb
 obtain ⟨hA, rfl⟩ := aR8 (ts := [.str, .int .i64, .int .i64]) rfl hP
 obtain ⟨u1, r1, rfl, ⟨s, rfl, hs⟩, u2, r2, rfl, h2, u3, r3, rfl, h3, h4⟩ := hA
 have h2 : _ = _ := h2
 have h3 : _ = _ := h3
 have h4 : _ = _ := h4
 subst h2; subst h3; subst h4
 have hs : x.1 = bytesOf s := hs
 have hF : ag5 x = some y := hF
 unfold ag5 at hF
 cases hc : (decide (x.2.1 = 10) && decide (x.2.2.1 = 64) && fits x.1.length) with
 | false => rw [hc] at hF; cases hF
 | true =>
  rw [hc] at hF
  simp only [cond_true] at hF
  simp only [Bool.and_eq_true, decide_eq_true_eq] at hc
  obtain ⟨⟨e1, e2⟩, hl⟩ := hc
  have hsz : s.size ≤ 1099511627776 := by
   have := Nat.le_of_ble_eq_true hl
   rw [hs, K7] at this
   exact this
  have f1 : x.2.1 = 10 := e1
  have f2 : x.2.2.1 = 64 := e2
  show O4 Tryz.prog 235 #[.string s, .int .i64 x.2.1, .int .i64 x.2.2.1] w _
  rw [f1, f2]
  have hu : u8s x.1 = s.data.toList := by rw [hs, bj0]
  rw [hu] at hF
  have fin : ∀ {v : Int} {b : Bool} {u : Value} {w' : World}, Same w w' → y = ((v, b, ()), (), (), (), ()) → ((b = true ∧ u = .nilIface) ∨ (b = false ∧ ∃ t p, u = .iface t p)) → ∃ imm' n1 n2, After imm w [] imm' w' (n1 ++ n2) ∧
    aS8 imm' w' (.tup [.one (.pub (.int .i64)), .one .err]) y.1 (.tuple #[.int .i64 v, u]) n1 ∧ U4 imm' w w' [.one (.pub .str), .one (.pub (.int .i64)), .one (.pub (.int .i64))] y.2 [.string s, .int .i64 x.2.1, .int .i64 x.2.2.1] n2 := by
   intro v b u w' hsame hy hu
   subst hy
   refine ⟨imm, [], [], hsame.after hcells, ⟨[_, _], rfl, _, _, [], [], rfl, rfl, ⟨rfl, rfl, rfl, _, rfl, rfl⟩, _, _, [], [], rfl, rfl, ⟨?_, rfl, _, rfl, hu⟩, rfl, rfl⟩, aS6 (ts := [.str, .int .i64, .int .i64]) (y := x) ⟨_, _, rfl, ⟨s, rfl, hs⟩, _, _, rfl, rfl, _, _, rfl, rfl, rfl⟩⟩
   rcases hu with ⟨_, rfl⟩ | ⟨_, t, p, rfl⟩ <;> rfl
  rw [f1, f2] at fin
  cases hp : Lib.parseIntB 64 s.data.toList with
  | ok v =>
   rw [hp] at hF
   injection hF with hF
   refine au1 Tryz.func235 rfl (by kernel_rfl) ((Any.strconv_ParseInt_10_at64_ok Lay.bJ8 s (by omega) v hp w).mono ?_)
   rintro e w' ⟨rfl, hw⟩
   refine ⟨_, rfl, fin (b := true) ?_ hF.symm (.inl ⟨rfl, rfl⟩)⟩
   rcases hw with rfl | ⟨t, rfl⟩
   ·exact Same.refl _
   ·exact ⟨fun b hb => Lib.bytesWorld_at_old w _ t b hb, by rw [Lib.bytesWorld_size]; omega, rfl, rfl, rfl⟩
  | range =>
   rw [hp] at hF
   injection hF with hF
   obtain ⟨us, hi, hcr⟩ := hG _ _ hg
   obtain ⟨arr, ty, fr, ha, hL⟩ := hcells _ _ hi
   obtain ⟨u, r, rfl, hu, hr⟩ := hcr ⟨imm, fun _ => 0, fun _ _ => .nilIface, fun _ => none, fun _ => none, fun _ => []⟩ fun _ _ h => h
   have hr : r = [] := hr
   subst hr
   have hcell : w.cell? ⟨8, 0, none⟩ = some u := by
    rw [Lib.cell_of_heap ha]
    have : arr[0]? = arr.toList[0]? := by simp
    rw [this, hL]; rfl
   refine au1 Tryz.func235 rfl (by kernel_rfl) ((Any.strconv_ParseInt_10_at64_range Lay.bJ8 s (by omega) hp u w hcell ?_).mono ?_)
   ·rcases hu with ⟨h, _⟩ | ⟨_, t, v, rfl⟩
    ·cases h
    ·exact .inr ⟨t, v, rfl⟩
   rintro e w' ⟨N, rfl, _, _, hw⟩
   exact ⟨_, rfl, fin (b := false) (a90 hw) hF.symm (.inr ⟨rfl, _, _, rfl⟩)⟩
  | _ => rw [hp] at hF; cases hF
end Go.Abs.Lx
end

section
namespace Go.Proofs.YtnoddjddkbhnbaaGreatDoor
open Go.ChangeShapes Go.WideShapes Go.ChangeAt Go.RowKit
set_option maxRecDepth 100000 in
theorem sys : ∀ n, Abs.Sys.TabOk Abs.D.S (Abs.D.S.tab n) := by
 refine Abs.Sys.ok (by kernel_rfl) (fun f hf => Abs.Sys.bN6 Abs.D.bS8 hf) (fun f c hf hl => ?_) (by kernel_rfl)
 have hl : Abs.D.lib f = some c := hl
 unfold Abs.D.lib at hl
 cases h1 : Nat.beq f 198 with
 | true => have := Abs.beq_eq h1; subst this; rw [h1] at hl; injection hl with hl; subst hl; exact Abs.Bld.be5 _
 | false =>
 rw [h1] at hl
 cases h1 : Nat.beq f 235 with
 | true => have := Abs.beq_eq h1; subst this; injection hl with hl; subst hl; exact Abs.Lx.bi6 rfl
 | false =>
 rw [h1] at hl
 cases hl
theorem aL0 {H : Type} {enc : TypeId × Value → H} {P : Program} {w : World} {sp : Nat → Bool} : ∀ {ns : List String} {gs : List (DataW H)} {ps : List MemPlace}, DataW.TrodVars enc P w sp ns gs ps → gs.length = ns.length
 | [], [], _, _ => rfl
 | [], _ :: _, _, h => h.elim
 | _ :: _, [], _, h => h.elim
 | n :: ns, d :: ds, ps, h => by
  obtain ⟨g, t, cs, fuel, p, q, h1, h2, h3, h4, hs, e⟩ := h
  have := aL0 hs
  simp [this]
theorem own : ownKnob Tryz.prog.godebug = none := by kernel_rfl
theorem laidOut : laidOutB Tryz.prog = true := by kernel_rfl
theorem bh8 {P : Program} {W : World} {r : Reach} {base t : Nat} {fs : Array Field} {v : Value} (ht : P.underlying t = some (.struct fs)) (h : Value.okWide P W r base t v) : ∃ cs, v = .agg cs := by
 unfold Value.okWide at h
 rw [ht] at h
 obtain ⟨cs, rfl, _⟩ := h
 exact ⟨cs, rfl⟩
end Go.Proofs.YtnoddjddkbhnbaaGreatDoor
end

section
namespace Go.Abs.D
def R5 (c : Int) : Bool := (decide (97 ≤ c) && decide (c ≤ 122)) || (decide (65 ≤ c) && decide (c ≤ 90)) || decide (c = 95)
def s8 (c : Int) : Bool := decide (48 ≤ c) && decide (c ≤ 57)
def be0 (c : Int) : Bool := decide (97 ≤ c) && decide (c ≤ 102)
def ad0 (c : Int) : Bool := s8 c || be0 c
def af1 (c : Int) : Int := bif s8 c then c - 48 else bif be0 c then c - 87 else -1
def get (s : List Int) (j : Nat) : Int := s.getD j 0
theorem O0 {s : List Int} {j : Nat} (h : s.length ≤ j) : get s j = 0 := by
 unfold get
 rw [List.getD_eq_getElem?_getD, List.getElem?_eq_none h]; rfl
theorem bX1 (pre : List Int) (x : Int) (r : List Int) : get (pre ++ x :: r) pre.length = x := al5 pre x r 0
theorem bV8 : ad0 0 = false := rfl
structure Base1 (T : S.Tab) : Prop where
 iletter : ∀ c, aa6 T c = some (R5 c, M9)
 idigit : ∀ c, O9 T c = some (s8 c, aw0)
 sletter : ∀ c, Z8 T c = some (R5 c, I8)
 sdigit : ∀ c, E6 T c = some (s8 c, an0)
 look : ∀ (s : List Int) (j : Nat), A3 T s (j : Int) = some (get s j, aq5)
 words : ax0 T = some (Lx.words, aA1)
theorem aJ2 (T : S.Tab) : Base1 (S.step T) := by
 refine ⟨fun c => ?_, fun c => ?_, fun c => ?_, fun c => ?_, fun s j => ?_, ?_⟩
 ·rw [aW4]
  simp only [M4, R5]
  cases decide (97 ≤ c) <;> cases decide (c ≤ 122) <;> cases decide (65 ≤ c) <;> cases decide (c ≤ 90) <;> simp
 ·rw [a55]
  simp only [M4, s8]
  cases decide (48 ≤ c) <;> simp
 ·rw [aN8]
  simp only [M4, R5]
  cases decide (97 ≤ c) <;> cases decide (c ≤ 122) <;> cases decide (65 ≤ c) <;> cases decide (c ≤ 90) <;> simp
 ·rw [aP7]
  simp only [M4, s8]
  cases decide (48 ≤ c) <;> simp
 ·rw [aV6]
  by_cases h : j < s.length
  ·rw [j6 (by simpa using h), j6 (by simp [h])]
   rfl
  ·rw [n8 (by simpa using h), O0 (by omega)]
 ·rw [aR6]; rfl
structure Base2 (T : S.Tab) : Prop extends Base1 T where
 ihex : ∀ c, av3 T c = some (ad0 c, at1)
 shex : ∀ c, aa8 T c = some (af1 c, ac8)
theorem aZ1 (T : S.Tab) (h : Base1 T) : Base2 (S.step T) := by
 refine ⟨aJ2 T, fun c => ?_, fun c => ?_⟩
 ·rw [be1, h.idigit]
  simp only [Option.bind_some, M4, ad0, be0]
  cases s8 c <;> cases decide (97 ≤ c) <;> simp
 ·rw [a68, h.sdigit]
  simp only [Option.bind_some, af1]
  cases hd : s8 c with
  | true =>
   simp only [s8, Bool.and_eq_true, decide_eq_true_eq] at hd
   rw [j6 rfl, a32 _ (by omega) (by omega), wrap64 _ (by omega) (by omega)]; rfl
  | false =>
   rw [n8 rfl]
   by_cases h1 : 97 ≤ c
   ·rw [j6 (by simpa using h1)]
    by_cases h2 : c ≤ 102
    ·rw [j6 (by simpa using h2), a32 _ (by omega) (by omega), wrap64 (c - 97) (by omega) (by omega), wrap64 _ (by omega) (by omega)]
     have : be0 c = true := by simp [be0, h1, h2]
     rw [this]
     simp only [cond_false, cond_true, Option.some.injEq, Prod.mk.injEq, and_true]
     omega
    ·rw [n8 (by simpa using h2)]
     have : be0 c = false := by simp [be0, h2]
     rw [this]; rfl
   ·rw [n8 (by simpa using h1)]
    have : be0 c = false := by simp [be0, h1]
    rw [this]; rfl
theorem q9 : Evt fun n => Base2 (S.tab n) := by
 have h1 : Evt fun n => Base1 (S.tab n) := Evt.up (Evt.of (p := fun _ => True) fun _ => trivial) fun n _ => aJ2 _
 exact h1.up fun n h => aZ1 _ h
theorem ab0 (c : Int) : decide (0 ≤ af1 c) = ad0 c := by
 unfold af1 ad0
 cases hd : s8 c with
 | true =>
  simp only [s8, Bool.and_eq_true, decide_eq_true_eq] at hd
  simp only [cond_true, Bool.true_or, decide_eq_true_eq]; omega
 | false =>
  cases hl : be0 c with
  | true =>
   simp only [be0, Bool.and_eq_true, decide_eq_true_eq] at hl
   simp only [cond_true, cond_false, Bool.or_true, decide_eq_true_eq]; omega
  | false => simp
theorem aw1 (c : Int) : af1 c < 16 := by
 unfold af1
 cases hd : s8 c with
 | true =>
  simp only [s8, Bool.and_eq_true, decide_eq_true_eq] at hd
  simp only [cond_true]; omega
 | false =>
  cases hl : be0 c with
  | true =>
   simp only [be0, Bool.and_eq_true, decide_eq_true_eq] at hl
   simp only [cond_true, cond_false]; omega
  | false => simp
end Go.Abs.D
end

section
namespace Go.Abs.D
def wq (s : List Int) (j : Nat) : Bool := R5 (get s j) || s8 (get s j)
def dq (s : List Int) (j : Nat) : Bool := s8 (get s j)
def hq (s : List Int) (m j : Nat) : Bool := decide (j < m) && ad0 (get s j)
theorem a11 {s : List Int} : ∀ j, s.length ≤ j → wq s j = false := fun j h => by unfold wq; rw [O0 h]; rfl
theorem ap6 {s : List Int} : ∀ j, s.length ≤ j → dq s j = false := fun j h => by unfold dq; rw [O0 h]; rfl
theorem bl5 {s : List Int} {m : Nat} : ∀ j, s.length ≤ j → hq s m j = false := fun j h => by unfold hq; rw [O0 h, bV8, Bool.and_false]
def bm6 (s : List Int) (j : Nat) : Nat := stop (wq s) s.length j
def aH7 (s : List Int) (j : Nat) : Nat := stop (dq s) s.length j
def ay9 (s : List Int) (m j : Nat) : Nat := stop (hq s m) s.length j
theorem q8 (s : List Int) (j : Nat) : s.getD (j : Int).toNat 0 = get s j := rfl
theorem ad2 {q : Nat → Bool} {N j : Nat} (h : ∀ j, N ≤ j → q j = false) (hq : q j = true) : j < N := by
 rcases Nat.lt_or_ge j N with h' | h'
 ·exact h'
 ·rw [h j h'] at hq; cases hq
theorem j7 {n j : Nat} (h : j < n) : (decide ((0 : Int) ≤ (j : Int)) && decide ((j : Int) < (n : Int))) = true := by
 simp [h]
theorem B0 {j : Nat} (h : j ≤ 4194304) : IntKind.i64.wrap ((j : Int) + 1) = ((j + 1 : Nat) : Int) := by
 rw [wrap64 _ (by omega) (by omega)]; omega
variable {s : List Int} (hs : s.length ≤ 2097152)
include hs
theorem aY3 (i : Int) (t : n7.den) (j : Nat) : Evt fun n => R7 (S.tab n) s i t (j : Int) = some (Sum.inl (s, i, t, (bm6 s j : Int), ())) :=
 adv (F := fun T j => R7 T s i t (j : Int)) (out := fun j => Sum.inl (s, i, t, (j : Int), ())) q9 a11
  (fun T j h hq => by
   have hj := ad2 a11 hq
   show R7 (S.step T) s i t j = R7 T s i t ((j + 1 : Nat) : Int)
   rw [aA3, j6 (by simpa using hj), j6 (j7 hj), q8, h.iletter, h.idigit, B0 (by omega)]
   simp only [Option.bind_some, M4, j7 hj, cond_true]
   unfold wq at hq
   cases hl : R5 (get s j) with
   | true => rfl
   | false => rw [hl, Bool.false_or] at hq; rw [hq]; rfl)
  (fun T j h hq => by
   show R7 (S.step T) s i t j = _
   rw [aA3]
   by_cases hj : j < s.length
   ·rw [j6 (by simpa using hj), j6 (j7 hj), q8, h.iletter, h.idigit]
    simp only [Option.bind_some, M4, j7 hj, cond_true]
    unfold wq at hq
    simp only [Bool.or_eq_false_iff] at hq
    rw [hq.1, hq.2]; rfl
   ·rw [n8 (by simpa using hj)]) s.length j (by omega)
theorem aJ6 (t3 t4 : n7.den) (j : Nat) : Evt fun n => I2 (S.tab n) s t3 t4 (j : Int) = some (Sum.inl (s, t3, t4, (bm6 s j : Int), ())) :=
 adv (F := fun T j => I2 T s t3 t4 (j : Int)) (out := fun j => Sum.inl (s, t3, t4, (j : Int), ())) q9 a11
  (fun T j h hq => by
   have hj := ad2 a11 hq
   show I2 (S.step T) s t3 t4 j = I2 T s t3 t4 ((j + 1 : Nat) : Int)
   rw [ao1, h.look, B0 (by omega)]
   simp only [Option.bind_some, h.sletter, h.sdigit, M4]
   unfold wq at hq
   cases hl : R5 (get s j) with
   | true => rfl
   | false => rw [hl, Bool.false_or] at hq; rw [hq]; rfl)
  (fun T j h hq => by
   show I2 (S.step T) s t3 t4 j = _
   rw [ao1, h.look]
   simp only [Option.bind_some, h.sletter, h.sdigit, M4]
   unfold wq at hq
   simp only [Bool.or_eq_false_iff] at hq
   rw [hq.1, hq.2]; rfl) s.length j (by omega)
theorem aG2 (i : Int) (t : n7.den) (j : Nat) : Evt fun n => D5 (S.tab n) s i t (j : Int) = some (Sum.inl (s, i, t, (aH7 s j : Int), ())) :=
 adv (F := fun T j => D5 T s i t (j : Int)) (out := fun j => Sum.inl (s, i, t, (j : Int), ())) q9 ap6
  (fun T j h hq => by
   have hj := ad2 ap6 hq
   show D5 (S.step T) s i t j = D5 T s i t ((j + 1 : Nat) : Int)
   rw [al9, j6 (by simpa using hj), j6 (j7 hj), q8, h.idigit, B0 (by omega)]
   simp only [Option.bind_some, M4]
   rw [show s8 (get s j) = true from hq]; rfl)
  (fun T j h hq => by
   show D5 (S.step T) s i t j = _
   rw [al9]
   by_cases hj : j < s.length
   ·rw [j6 (by simpa using hj), j6 (j7 hj), q8, h.idigit]
    simp only [Option.bind_some, M4]
    rw [show s8 (get s j) = false from hq]; rfl
   ·rw [n8 (by simpa using hj)]) s.length j (by omega)
theorem aG3 (i : Int) (t : n7.den) (m : Int) (j : Nat) : Evt fun n => I4 (S.tab n) s i t (j : Int) m = some (Sum.inl (s, i, t, (aH7 s j : Int), m, ())) :=
 adv (F := fun T j => I4 T s i t (j : Int) m) (out := fun j => Sum.inl (s, i, t, (j : Int), m, ())) q9 ap6
  (fun T j h hq => by
   have hj := ad2 ap6 hq
   show I4 (S.step T) s i t j m = I4 T s i t ((j + 1 : Nat) : Int) m
   rw [ak4, j6 (by simpa using hj), j6 (j7 hj), q8, h.idigit, B0 (by omega)]
   simp only [Option.bind_some, M4]
   rw [show s8 (get s j) = true from hq]; rfl)
  (fun T j h hq => by
   show I4 (S.step T) s i t j m = _
   rw [ak4]
   by_cases hj : j < s.length
   ·rw [j6 (by simpa using hj), j6 (j7 hj), q8, h.idigit]
    simp only [Option.bind_some, M4]
    rw [show s8 (get s j) = false from hq]; rfl
   ·rw [n8 (by simpa using hj)]) s.length j (by omega)
theorem aF6 (i : Int) (t : n7.den) (m : Int) (j : Nat) : Evt fun n => I9 (S.tab n) s i t (j : Int) m = some (Sum.inl (s, i, t, (aH7 s j : Int), m, ())) :=
 adv (F := fun T j => I9 T s i t (j : Int) m) (out := fun j => Sum.inl (s, i, t, (j : Int), m, ())) q9 ap6
  (fun T j h hq => by
   have hj := ad2 ap6 hq
   show I9 (S.step T) s i t j m = I9 T s i t ((j + 1 : Nat) : Int) m
   rw [ak5, j6 (by simpa using hj), j6 (j7 hj), q8, h.idigit, B0 (by omega)]
   simp only [Option.bind_some, M4]
   rw [show s8 (get s j) = true from hq]; rfl)
  (fun T j h hq => by
   show I9 (S.step T) s i t j m = _
   rw [ak5]
   by_cases hj : j < s.length
   ·rw [j6 (by simpa using hj), j6 (j7 hj), q8, h.idigit]
    simp only [Option.bind_some, M4]
    rw [show s8 (get s j) = false from hq]; rfl
   ·rw [n8 (by simpa using hj)]) s.length j (by omega)
theorem aI0 (i : Nat) (t : n7.den) (j : Nat) (hi : i ≤ 2097152) : Evt fun n => K3 (S.tab n) s (i : Int) t (j : Int) = some (Sum.inl (s, (i : Int), t, (ay9 s (i + 18) j : Int), ())) :=
 adv (F := fun T j => K3 T s (i : Int) t (j : Int)) (out := fun j => Sum.inl (s, (i : Int), t, (j : Int), ())) q9 bl5
  (fun T j h hq' => by
   have hj := ad2 bl5 hq'
   simp only [hq, Bool.and_eq_true, decide_eq_true_eq] at hq'
   show K3 (S.step T) s i t j = K3 T s i t ((j + 1 : Nat) : Int)
   rw [an7, j6 (by simpa using hj), wrap64 ((i : Int) + 18) (by omega) (by omega), j6 (by simp only [decide_eq_true_eq]; omega), j6 (j7 hj), q8, h.ihex, B0 (by omega)]
   simp only [Option.bind_some, M4]
   rw [hq'.2]; rfl)
  (fun T j h hq' => by
   show K3 (S.step T) s i t j = _
   rw [an7]
   by_cases hj : j < s.length
   ·rw [j6 (by simpa using hj), wrap64 ((i : Int) + 18) (by omega) (by omega)]
    by_cases hj2 : j < i + 18
    ·rw [j6 (by simp only [decide_eq_true_eq]; omega), j6 (j7 hj), q8, h.ihex]
     simp only [hq, hj2, decide_true, Bool.true_and] at hq'
     simp only [Option.bind_some, M4]
     rw [hq']; rfl
    ·rw [n8 (by simp only [decide_eq_false_iff_not]; omega)]
   ·rw [n8 (by simpa using hj)]) s.length j (by omega)
theorem aC6 (t3 t4 : n7.den) (j : Nat) : Evt fun n => E0 (S.tab n) s t3 t4 (j : Int) = some (Sum.inl (s, t3, t4, (aH7 s j : Int), ())) :=
 adv (F := fun T j => E0 T s t3 t4 (j : Int)) (out := fun j => Sum.inl (s, t3, t4, (j : Int), ())) q9 ap6
  (fun T j h hq => by
   have hj := ad2 ap6 hq
   show E0 (S.step T) s t3 t4 j = E0 T s t3 t4 ((j + 1 : Nat) : Int)
   rw [ag2, h.look, B0 (by omega)]
   simp only [Option.bind_some, h.sdigit, M4]
   rw [show s8 (get s j) = true from hq]; rfl)
  (fun T j h hq => by
   show E0 (S.step T) s t3 t4 j = _
   rw [ag2, h.look]
   simp only [Option.bind_some, h.sdigit, M4]
   rw [show s8 (get s j) = false from hq]; rfl) s.length j (by omega)
theorem az0 (t3 t4 : n7.den) (j : Nat) : Evt fun n => E5 (S.tab n) s t3 t4 (j : Int) = some (Sum.inl (s, t3, t4, (aH7 s j : Int), ())) :=
 adv (F := fun T j => E5 T s t3 t4 (j : Int)) (out := fun j => Sum.inl (s, t3, t4, (j : Int), ())) q9 ap6
  (fun T j h hq => by
   have hj := ad2 ap6 hq
   show E5 (S.step T) s t3 t4 j = E5 T s t3 t4 ((j + 1 : Nat) : Int)
   rw [ae5, h.look, B0 (by omega)]
   simp only [Option.bind_some, h.sdigit, M4]
   rw [show s8 (get s j) = true from hq]; rfl)
  (fun T j h hq => by
   show E5 (S.step T) s t3 t4 j = _
   rw [ae5, h.look]
   simp only [Option.bind_some, h.sdigit, M4]
   rw [show s8 (get s j) = false from hq]; rfl) s.length j (by omega)
theorem az2 (t3 t4 : n7.den) (j : Nat) : Evt fun n => A2 (S.tab n) s t3 t4 (j : Int) = some (Sum.inl (s, t3, t4, (aH7 s j : Int), ())) :=
 adv (F := fun T j => A2 T s t3 t4 (j : Int)) (out := fun j => Sum.inl (s, t3, t4, (j : Int), ())) q9 ap6
  (fun T j h hq => by
   have hj := ad2 ap6 hq
   show A2 (S.step T) s t3 t4 j = A2 T s t3 t4 ((j + 1 : Nat) : Int)
   rw [ad9, h.look, B0 (by omega)]
   simp only [Option.bind_some, h.sdigit, M4]
   rw [show s8 (get s j) = true from hq]; rfl)
  (fun T j h hq => by
   show A2 (S.step T) s t3 t4 j = _
   rw [ad9, h.look]
   simp only [Option.bind_some, h.sdigit, M4]
   rw [show s8 (get s j) = false from hq]; rfl) s.length j (by omega)
end Go.Abs.D
end

section
namespace Go.Abs.D
def kq (w : List Int) (j : Nat) : Bool := decide (j < 22) && !decide (Lx.words.getD j [] = w)
theorem bp7 {w : List Int} : ∀ j, 22 ≤ j → kq w j = false := fun j h => by simp [kq]; omega
def ba6 (w : List Int) : Nat := stop (kq w) 22 0
theorem bn2 (l : List (List Int)) (j : Nat) : l.getD (j : Int).toNat [] = l.getD j [] := rfl
theorem aQ3 (w : List Int) (j : Nat) (hj : j ≤ 22) : Evt fun n => N2 (S.tab n) w Lx.words 22 (j : Int) =
  some (if stop (kq w) 22 j < 22 then Sum.inl (((10 + stop (kq w) 22 j : Nat) : Int), ()) else Sum.inr (Sum.inl ())) :=
 adv (F := fun T j => N2 T w Lx.words 22 (j : Int)) (out := fun j => if j < 22 then Sum.inl (((10 + j : Nat) : Int), ()) else Sum.inr (Sum.inl ())) q9 bp7
  (fun T j h hq => by
   have hj := ad2 bp7 hq
   show N2 (S.step T) w Lx.words 22 j = N2 T w Lx.words 22 ((j + 1 : Nat) : Int)
   rw [av8, j6 (by simp; omega), j6 (j7 (show j < Lx.words.length from hj)), bn2, B0 (by omega)]
   simp only [kq, Bool.and_eq_true, Bool.not_eq_true'] at hq
   rw [n8 hq.2])
  (fun T j h hq => by
   show N2 (S.step T) w Lx.words 22 j = _
   rw [av8]
   by_cases hj : j < 22
   ·rw [j6 (by simp; omega), j6 (j7 (show j < Lx.words.length from hj)), bn2]
    simp only [kq, hj, decide_true, Bool.true_and, Bool.not_eq_false'] at hq
    rw [j6 hq, if_pos hj, wrap64 _ (by omega) (by omega)]
    congr 3
   ·rw [n8 (by simp; omega), if_neg hj]) 22 j (by omega)
theorem aJ1 (t3 t4 : n7.den) (w : List Int) (j : Nat) (hj : j ≤ 22) : Evt fun n => I0 (S.tab n) t3 t4 w Lx.words 22 (j : Int) =
  some (if stop (kq w) 22 j < 22 then Sum.inl ((((10 + stop (kq w) 22 j : Nat) : Int), t3.2), (-1 : Int), ()) else Sum.inr (Sum.inl (t3, t4, w, ()))) :=
 adv (F := fun T j => I0 T t3 t4 w Lx.words 22 (j : Int)) (out := fun j => if j < 22 then Sum.inl ((((10 + j : Nat) : Int), t3.2), (-1 : Int), ()) else Sum.inr (Sum.inl (t3, t4, w, ()))) q9 bp7
  (fun T j h hq => by
   have hj := ad2 bp7 hq
   show I0 (S.step T) t3 t4 w Lx.words 22 j = I0 T t3 t4 w Lx.words 22 ((j + 1 : Nat) : Int)
   rw [ap3, j6 (by simp; omega), j6 (j7 (show j < Lx.words.length from hj)), bn2, B0 (by omega)]
   simp only [kq, Bool.and_eq_true, Bool.not_eq_true'] at hq
   rw [n8 hq.2])
  (fun T j h hq => by
   show I0 (S.step T) t3 t4 w Lx.words 22 j = _
   rw [ap3]
   by_cases hj : j < 22
   ·rw [j6 (by simp; omega), j6 (j7 (show j < Lx.words.length from hj)), bn2]
    simp only [kq, hj, decide_true, Bool.true_and, Bool.not_eq_false'] at hq
    rw [j6 hq, if_pos hj, wrap64 _ (by omega) (by omega)]
    congr 4
   ·rw [n8 (by simp; omega), if_neg hj]) 22 j (by omega)
def ar7 (w : List Int) : Int := if ba6 w < 22 then ((10 + ba6 w : Nat) : Int) else 1
theorem bd2 (w : List Int) : Evt fun n => aG5 (S.tab n) w = some (ar7 w, aA8) :=
 (aQ3 w 0 (by omega)).up fun n h => by
  show aG5 (S.step (S.tab n)) w = _
  have h : N2 (S.tab n) w Lx.words (Lx.words.length : Int) 0 = _ := h
  rw [bd7, h]
  unfold ar7 ba6
  split <;> rfl
theorem aP0 (w : List Int) : ar7 w = 1 ↔ ¬ ba6 w < 22 := by
 unfold ar7
 split
 ·omega
 ·rename_i h; exact ⟨fun _ => h, fun _ => rfl⟩
def bQ0 (s : List Int) (i : Nat) : n7.den :=
 let e := bm6 s i
 let w := sub s (i : Int) (e : Int)
 if ba6 w < 22 then (((10 + ba6 w : Nat) : Int), (i : Int), (e : Int), 0, 0, ([] : List Int), ()) else (1, (i : Int), (e : Int), 0, 0, w, ())
theorem aZ8 {q : Nat → Bool} {N : Nat} (h : ∀ j, N ≤ j → q j = false) : ∀ (k j : Nat), j ≤ N → stop q k j ≤ N
 | 0, j, hj => hj
 | k + 1, j, hj => by
  unfold stop
  cases hq : q j with
  | false => exact hj
  | true =>
   have := ad2 h hq
   exact aZ8 h k (j + 1) (by omega)
theorem M6 {n i e : Nat} (h1 : i ≤ e) (h2 : e ≤ n) : bounds n (i : Int) (e : Int) = true := by
 unfold bounds
 simp only [Bool.and_eq_true, decide_eq_true_eq]
 omega
theorem aX0 {s : List Int} (hs : s.length ≤ 2097152) {i : Nat} (hi : i < s.length) (t : n7.den) (ht : t = (0, (i : Int), 0, 0, 0, ([] : List Int), ())) :
  Evt fun n => at0 (S.tab n) s t = some ((bQ0 s i, -1, ()), ar1) := by
 subst ht
 have hle : bm6 s i ≤ s.length := aZ8 a11 _ _ (by omega)
 have hge : i ≤ bm6 s i := aO9 _ _
 refine (((aJ6 hs (0, (i : Int), 0, 0, 0, ([] : List Int), ()) (0, 0, 0, 0, 0, ([] : List Int), ()) i).and (aJ1 (1, (i : Int), (bm6 s i : Int), 0, 0, ([] : List Int), ()) (0, 0, 0, 0, 0, ([] : List Int), ()) (sub s (i : Int) (bm6 s i : Int)) 0 (by omega))).and q9).up fun n ⟨⟨h1, h2⟩, hb⟩ => ?_
 show at0 (S.step (S.tab n)) s _ = _
 rw [aV4]
 simp only [h1, Option.bind_some, C7, Sum.elim_inl, j6 (M6 hge hle), hb.words]
 have h2 : I0 (S.tab n) (1, (i : Int), (bm6 s i : Int), 0, 0, ([] : List Int), ()) (0, 0, 0, 0, 0, ([] : List Int), ()) (sub s (i : Int) (bm6 s i : Int)) Lx.words (Lx.words.length : Int) 0 = _ := h2
 rw [h2]
 unfold bQ0 ba6
 simp only [Option.bind_some]
 split <;> rfl
theorem a43 {s : List Int} (hs : s.length ≤ 2097152) {i : Nat} (hi : i < s.length) (hl : R5 (get s i) = true) :
  Evt fun n => S3 (S.tab n) s (i : Int) = some ((bQ0 s i, false, ()), T8) := by
 have hle : bm6 s i ≤ s.length := aZ8 a11 _ _ (by omega)
 have hge : i ≤ bm6 s i := aO9 _ _
 refine (((aY3 hs (i : Int) (0, (i : Int), 0, 0, 0, ([] : List Int), ()) i).and (bd2 (sub s (i : Int) (bm6 s i : Int)))).and q9).up fun n ⟨⟨h1, h2⟩, hb⟩ => ?_
 show S3 (S.step (S.tab n)) s _ = _
 rw [aR0, j6 (j7 hi), q8, hb.iletter, hl]
 simp only [Option.bind_some, j6, h1, C7, Sum.elim_inl, j6 (M6 hge hle), h2]
 unfold bQ0
 by_cases hk : ba6 (sub s (i : Int) (bm6 s i : Int)) < 22
 ·have : ar7 (sub s (i : Int) (bm6 s i : Int)) ≠ 1 := fun e => (aP0 _).1 e hk
  rw [n8 (by simpa using this)]
  simp only [hk, if_true, ar7]
 ·rw [j6 (by simpa using (aP0 _).2 hk)]
  simp only [hk, if_false, ar7]
end Go.Abs.D
end

section
namespace Go.Abs.D
def hv (n : Int) (l : List Int) : Int := l.foldl (fun n c => n * 16 + af1 c) n
theorem bf7 (n c : Int) (l : List Int) : hv n (c :: l) = hv (n * 16 + af1 c) l := rfl
theorem bN0 (n c : Int) (l : List Int) : hv n (l ++ [c]) = hv n l * 16 + af1 c := by simp [hv, List.foldl_append]
theorem bF1 {a b : Nat} (h : a ≤ b) : (16 : Int) ^ a ≤ 16 ^ b := by
 have := Nat.pow_le_pow_right (show 0 < 16 by decide) h
 have e : ∀ k : Nat, (16 : Int) ^ k = ((16 ^ k : Nat) : Int) := fun k => by simp
 rw [e, e]; omega
theorem ar8 {c : Int} (h : ad0 c = true) : 0 ≤ af1 c := by
 have := ab0 c
 rw [h] at this
 simpa using this
theorem bP1 : ∀ (l : List Int) (n : Int), 0 ≤ n → (∀ c ∈ l, ad0 c = true) → n ≤ hv n l
 | [], n, _, _ => Int.le_refl _
 | c :: l, n, h0, h => by
  have h1 := ar8 (h c (List.mem_cons_self ..))
  have := bP1 l (n * 16 + af1 c) (by omega) fun x hx => h x (List.mem_cons_of_mem _ hx)
  rw [bf7]; omega
theorem bM1 : ∀ (l : List Int) (n : Int) (k : Nat), 0 ≤ n → n < 16 ^ k → (∀ c ∈ l, ad0 c = true) → hv n l < 16 ^ (k + l.length)
 | [], n, k, _, hn, _ => hn
 | c :: l, n, k, h0, hn, h => by
  have h1 := ar8 (h c (List.mem_cons_self ..))
  have h2 := aw1 c
  have := bM1 l (n * 16 + af1 c) (k + 1) (by omega) (by rw [Int.pow_succ]; omega) fun x hx => h x (List.mem_cons_of_mem _ hx)
  rw [bf7, List.length_cons, show k + (l.length + 1) = k + 1 + l.length by omega]; exact this
theorem aM3 (x : Int) (h0 : 0 ≤ x) (h1 : x < 18446744073709551616) : IntKind.u64.wrap x = x := by
 have : IntKind.u64.wrap x = x % 18446744073709551616 := by simp [IntKind.wrap, IntKind.bits, IntKind.signed]
 rw [this]; omega
structure Base3 (T : S.Tab) : Prop extends Base2 T where
 lower : ∀ c, n9 T c = some (intBits .or .u8 c 32, ap2)
 j46 : ∀ (m n v : Int) (t9 l : List Int) (a b : Int), 0 ≤ v → v < 16 → 0 ≤ n → n < 1152921504606846976 → n * 16 + v ≤ m → m < 18446744073709551616 →
  u9 T 16 false t9 1152921504606846976 m false n v l a b = some (Sum.inr (Sum.inl (16, false, t9, 1152921504606846976, m, false, n * 16 + v, l, a, b, ())))
theorem bs6 (T : S.Tab) (h : Base1 T) : Base3 (S.step T) := by
 refine ⟨aZ1 T h, fun c => ?_, fun m n v t9 l a b hv0 hv1 hn0 hn1 hm hM => ?_⟩
 ·rw [aG0]
 ·have e16 : IntKind.u8.wrap 16 = 16 := by decide
  have e16' : IntKind.u64.wrap 16 = 16 := by decide
  rw [ai7, e16, e16', aM3 (n * 16) (by omega) (by omega), aM3 v hv0 (by omega), aM3 (n * 16 + v) (by omega) (by omega)]
  rw [n8 (by simp only [decide_eq_false_iff_not]; omega), n8 (by simp only [decide_eq_false_iff_not]; omega), n8 (by simp only [decide_eq_false_iff_not]; omega), n8 (by simp only [decide_eq_false_iff_not]; omega)]
theorem bS9 : Evt fun n => Base3 (S.tab n) := by
 have h1 : Evt fun n => Base1 (S.tab n) := Evt.up (Evt.of (p := fun _ => True) fun _ => trivial) fun n _ => aJ2 _
 exact h1.up fun n h => bs6 _ h
theorem bV1 (l : List Int) (j : Nat) : l.getD (j : Int).toNat 0 = get l j := rfl
theorem bT5 (c : Int) (h : be0 c = true) : intBits .or .u8 c 32 = c := by
 simp only [be0, Bool.and_eq_true, decide_eq_true_eq] at h
 have : c = 97 ∨ c = 98 ∨ c = 99 ∨ c = 100 ∨ c = 101 ∨ c = 102 := by omega
 rcases this with rfl | rfl | rfl | rfl | rfl | rfl <;> decide
theorem bI4 (T : S.Tab) (hb : Base3 T) (t9 l : List Int) (m n : Int) (j : Nat) (hj : j < l.length) (hl : l.length ≤ 2097152) (hc : ad0 (get l j) = true) (hn0 : 0 ≤ n) (hn1 : n < 1152921504606846976) (hm : n * 16 + af1 (get l j) ≤ m) (hM : m < 18446744073709551616) :
  p9 (S.step T) 16 false t9 1152921504606846976 m false n l (l.length : Int) (j : Int) =
   p9 T 16 false t9 1152921504606846976 m false (n * 16 + af1 (get l j)) l (l.length : Int) ((j + 1 : Nat) : Int) := by
 have h0 := ar8 hc
 have h16 := aw1 (get l j)
 rw [U5, j6 (by simpa using hj), j6 (j7 hj)]
 rw [bV1, B0 (show j ≤ 4194304 by omega)]
 cases hd : s8 (get l j) with
 | true =>
  have hv : af1 (get l j) = get l j - 48 := by simp [af1, hd]
  simp only [s8, Bool.and_eq_true, decide_eq_true_eq] at hd
  have hne : decide (get l j = 95) = false := by simp only [decide_eq_false_iff_not]; omega
  rw [n8 hne, j6 (by simpa using hd.1), j6 (by simpa using hd.2), a32 _ (by omega) (by omega), ← hv, hb.j46 m n _ t9 l _ _ h0 h16 hn0 hn1 hm hM]
  simp only [Option.bind_some, K8, Sum.elim_inr, Sum.elim_inl]
  rw [B0 (by omega)]
 | false =>
  have hlo : be0 (get l j) = true := by
   unfold ad0 at hc
   rw [hd, Bool.false_or] at hc; exact hc
  have hv : af1 (get l j) = get l j - 87 := by simp [af1, hd, hlo]
  have hor := bT5 _ hlo
  simp only [be0, Bool.and_eq_true, decide_eq_true_eq] at hlo
  have hne : decide (get l j = 95) = false := by simp only [decide_eq_false_iff_not]; omega
  have e : IntKind.u8.wrap (IntKind.u8.wrap (get l j - 97) + 10) = af1 (get l j) := by
   rw [a32 (get l j - 97) (by omega) (by omega), a32 _ (by omega) (by omega), hv]; omega
  have h9 : ¬ get l j ≤ 57 := by omega
  have h9' : decide (get l j ≤ 57) = false := by simpa using h9
  rw [n8 hne]
  simp only [hb.lower, hor, Option.bind_some]
  rw [j6 (show decide (48 ≤ get l j) = true by simp only [decide_eq_true_eq]; omega), n8 h9', j6 (show decide (97 ≤ get l j) = true by simpa using hlo.1), j6 (show decide (get l j ≤ 122) = true by simp only [decide_eq_true_eq]; omega), e, hb.j46 m n _ t9 l _ _ h0 h16 hn0 hn1 hm hM]
  simp only [Option.bind_some, K8, Sum.elim_inr, Sum.elim_inl]
  rw [B0 (by omega)]
theorem bM3 (pre : List Int) (c : Int) (r : List Int) : get (pre ++ c :: r) pre.length = c := al5 pre c r 0
theorem bD4 (t9 : List Int) (m : Int) (hM : m < 18446744073709551616) : ∀ (r pre : List Int) (n : Int), (∀ c ∈ r, ad0 c = true) → 0 ≤ n → n < 16 ^ pre.length → (pre ++ r).length ≤ 16 → hv n r ≤ m →
  Evt fun k => p9 (S.tab k) 16 false t9 1152921504606846976 m false n (pre ++ r) ((pre ++ r).length : Int) (pre.length : Int) = some (Sum.inr (Sum.inl (t9, false, hv n r, ())))
 | [], pre, n, _, _, _, _, _ => bS9.up fun k hb => by
  show p9 (S.step (S.tab k)) _ _ _ _ _ _ _ _ _ _ = _
  rw [U5, n8 (by simp)]; rfl
 | c :: r, pre, n, hc, h0, hn, hl, hm => by
  have hlen : (pre ++ c :: r).length = pre.length + (r.length + 1) := by simp
  have h1 := ar8 (hc c (List.mem_cons_self ..))
  have h2 := aw1 c
  have hge := bP1 r (n * 16 + af1 c) (by omega) fun x hx => hc x (List.mem_cons_of_mem _ hx)
  have hp : (16 : Int) ^ pre.length ≤ 16 ^ 15 := bF1 (by omega)
  have ih := bD4 t9 m hM r (pre ++ [c]) (n * 16 + af1 c) (fun x hx => hc x (List.mem_cons_of_mem _ hx)) (by omega) (by
   rw [List.length_append, List.length_singleton, Int.pow_succ]; omega) (by simpa using hl) hm
  refine (ih.and bS9).up fun k ⟨h, hb⟩ => ?_
  show p9 (S.step (S.tab k)) _ _ _ _ _ _ _ _ _ _ = _
  have hg := bM3 pre c r
  rw [bI4 _ hb t9 (pre ++ c :: r) m n pre.length (by omega) (by omega) (by rw [hg]; exact hc c (List.mem_cons_self ..)) h0 (by omega) (by rw [hg]; rw [bf7] at hm; omega) hM, hg]
  have e1 : (pre ++ [c]).length = pre.length + 1 := by simp
  have e2 : pre ++ [c] ++ r = pre ++ c :: r := by simp
  rw [e1, e2] at h
  exact h
theorem aK4 (l : List Int) (b : Int) (hb : b = 8 ∧ l.length ≤ 2 ∨ b = 64 ∧ l.length ≤ 16) (hne : l ≠ []) (hl : ∀ c ∈ l, ad0 c = true) :
  Evt fun n => H6 (S.tab n) l 16 b = some ((hv 0 l, true, ()), ag9) := by
 have hlt := bM1 l 0 0 (by decide) (by decide) hl
 rw [Nat.zero_add] at hlt
 have hlen : l.length ≤ 16 := by omega
 let m : Int := if b = 8 then 255 else 18446744073709551615
 have hm : hv 0 l ≤ m := by
  rcases hb with ⟨rfl, h⟩ | ⟨rfl, h⟩
  ·have : (16 : Int) ^ l.length ≤ 16 ^ 2 := bF1 h
   show hv 0 l ≤ 255
   omega
  ·have : (16 : Int) ^ l.length ≤ 16 ^ 16 := bF1 h
   show hv 0 l ≤ 18446744073709551615
   omega
 have hM : m < 18446744073709551616 := by
  show (if b = 8 then (255 : Int) else 18446744073709551615) < _
  split <;> decide
 have h1 := bD4 l m hM l [] 0 hl (Int.le_refl 0) (by decide) (by simpa using hlen) hm
 have h2 : Evt fun n => C0 (S.tab n) l 16 b false l 1152921504606846976 = some (Sum.inl (hv 0 l, true, ())) := h1.up fun n h => by
  show C0 (S.step (S.tab n)) _ _ _ _ _ _ = _
  have h : p9 (S.tab n) 16 false l 1152921504606846976 m false 0 l (l.length : Int) 0 = some (Sum.inr (Sum.inl (l, false, hv 0 l, ()))) := h
  have e : IntKind.u64.wrap (IntKind.u64.wrap (1 * 2 ^ min (IntKind.u64.wrap b).toNat IntKind.u64.bits) - 1) = m := by
   rcases hb with ⟨rfl, _⟩ | ⟨rfl, _⟩ <;> decide
  have e0 : decide ((0 : Int) ≤ IntKind.u64.wrap b) = true := by
   rcases hb with ⟨rfl, _⟩ | ⟨rfl, _⟩ <;> decide
  rw [ai3, j6 e0, e, h]
  simp only [Option.bind_some, K8, Sum.elim_inr, Sum.elim_inl, M4, cond_false]
 have h3 : Evt fun n => F8 (S.tab n) l 16 b false l = some (Sum.inl (hv 0 l, true, ())) := h2.up fun n h => by
  show F8 (S.step (S.tab n)) _ _ _ _ _ = _
  rw [ai6, n8 (by decide), j6 (by decide), h]; rfl
 have h4 : Evt fun n => j1 (S.tab n) l 16 b false l = some (Sum.inl (hv 0 l, true, ())) := h3.up fun n h => by
  show j1 (S.step (S.tab n)) _ _ _ _ _ = _
  rw [ai5]
  rcases hb with ⟨rfl, _⟩ | ⟨rfl, _⟩
  ·rw [n8 (by decide), n8 (by decide), n8 (by decide), h]; rfl
  ·rw [n8 (by decide), n8 (by decide), n8 (by decide), h]; rfl
 have h5 : Evt fun n => Q4 (S.tab n) l 16 b = some ((hv 0 l, true, ()), j2) := h4.up fun n h => by
  show Q4 (S.step (S.tab n)) _ _ _ = _
  rw [au6, n8 (by simpa using hne), j6 (by decide), j6 (by decide)]
  have h : j1 (S.tab n) l 16 b (decide ((16 : Int) = 0)) l = _ := h
  rw [h]; rfl
 exact h5.up fun n h => by
  show H6 (S.step (S.tab n)) _ _ _ = _
  rw [az1, h]
  simp only [Option.bind_some, M4]
  rfl
end Go.Abs.D
end

section
namespace Go.Abs.D
def M3 (s : List Int) (a b : Nat) : List Int := (s.take b).drop a
theorem ar3 (s : List Int) (a b : Nat) : sub s (a : Int) (b : Int) = M3 s a b := rfl
theorem Z7 {s : List Int} {a j : Nat} (h1 : a ≤ j) (h2 : j < s.length) : M3 s a (j + 1) = M3 s a j ++ [get s j] := by
 unfold M3 get
 rw [List.take_add_one, List.getElem?_eq_getElem h2]
 rw [List.drop_append_of_le_length (by simp; omega)]
 rw [List.getD_eq_getElem?_getD, List.getElem?_eq_getElem h2]; rfl
theorem Z4 {s : List Int} (a : Nat) : M3 s a a = [] := by
 unfold M3
 exact List.drop_eq_nil_of_le (by simp; omega)
theorem at3 {s : List Int} {a b : Nat} (h : b ≤ s.length) : (M3 s a b).length = b - a := by
 unfold M3
 simp; omega
theorem a84 {s : List Int} {p : Int → Bool} {a : Nat} : ∀ (k : Nat), a + k ≤ s.length → (∀ j, a ≤ j → j < a + k → p (get s j) = true) → ∀ c ∈ M3 s a (a + k), p c = true
 | 0, _, _, c, hc => by rw [Nat.add_zero, Z4] at hc; cases hc
 | k + 1, hk, h, c, hc => by
  rw [show a + (k + 1) = a + k + 1 by omega, Z7 (by omega) (by omega)] at hc
  rcases List.mem_append.1 hc with hc | hc
  ·exact a84 k (by omega) (fun j h1 h2 => h j h1 (by omega)) c hc
  ·have : c = get s (a + k) := by simpa using hc
   subst this
   exact h _ (by omega) (by omega)
def Y9 (s : List Int) (i : Nat) : Nat ⊕ n7.den :=
 let e := ay9 s (i + 18) (i + 2)
 if e = i + 2 then .inl e else if ad0 (get s e) = true then .inl e else .inr (2, (i : Int), (e : Int), 0, IntKind.i64.wrap (hv 0 (M3 s (i + 2) e)), ([] : List Int), ())
def IR (r : Nat ⊕ n7.den) (t : n7.den) (b : Bool) : Prop := match r with | .inl e => b = true ∧ t.2.2.1 = (e : Int) | .inr t' => b = false ∧ t = t'
def SR (r : Nat ⊕ n7.den) (t : n7.den) (b : Int) : Prop := match r with | .inl e => b = (e : Int) | .inr t' => b = -1 ∧ t = t'
variable {s : List Int} (hs : s.length ≤ 2097152)
include hs
omit hs in
theorem bk0 {i : Nat} (hi : i + 2 ≤ s.length) : ay9 s (i + 18) (i + 2) ≤ s.length ∧ i + 2 ≤ ay9 s (i + 18) (i + 2) ∧ ay9 s (i + 18) (i + 2) ≤ i + 18 := by
 refine ⟨aZ8 bl5 _ _ hi, aO9 _ _, ?_⟩
 refine aZ8 (q := hq s (i + 18)) (N := i + 18) (fun j hj => ?_) _ _ (by omega)
 simp only [hq, Bool.and_eq_false_iff, decide_eq_false_iff_not]
 exact .inl (by omega)
omit hs in
theorem bP7 {i : Nat} (hi : i + 2 ≤ s.length) : ∀ c ∈ M3 s (i + 2) (ay9 s (i + 18) (i + 2)), ad0 c = true := by
 obtain ⟨h1, h2, h3⟩ := bk0 hi
 obtain ⟨k, hk⟩ : ∃ k, ay9 s (i + 18) (i + 2) = i + 2 + k := ⟨ay9 s (i + 18) (i + 2) - (i + 2), by omega⟩
 rw [hk]
 refine a84 k (by omega) fun j ha hb => ?_
 have := aq7 (q := hq s (i + 18)) s.length (i + 2) j ha (by
  show j < ay9 s (i + 18) (i + 2)
  omega)
 simp only [hq, Bool.and_eq_true] at this
 exact this.2
theorem aH4 (t3 t4 : n7.den) {i : Nat} (ht : t3.2.1 = (i : Int)) (hi : i + 2 ≤ s.length) : ∀ (k j : Nat), i + 2 ≤ j → j ≤ i + 18 → s.length ≤ j + k → (∀ c ∈ M3 s (i + 2) j, ad0 c = true) → j ≤ s.length →
  Evt fun n => G4 (S.tab n) s t3 t4 (j : Int) (hv 0 (M3 s (i + 2) j)) =
   some (bif ad0 (get s (stop (hq s (i + 18)) k j)) then Sum.inl (t3, (stop (hq s (i + 18)) k j : Int), ()) else Sum.inr (Sum.inl (t3, t4, (stop (hq s (i + 18)) k j : Int), hv 0 (M3 s (i + 2) (stop (hq s (i + 18)) k j)), ())))
 | 0, j, h1, h2, hk, hall, hj => by
  refine q9.up fun n hb => ?_
  show G4 (S.step (S.tab n)) _ _ _ _ _ = _
  rw [S5, hb.look]
  simp only [Option.bind_some, hb.shex, ab0, stop]
  rw [O0 (show s.length ≤ j by omega), bV8, n8 rfl]; rfl
 | k + 1, j, h1, h2, hk, hall, hj => by
  cases hc : ad0 (get s j) with
  | false =>
   have hq0 : hq s (i + 18) j = false := by simp [hq, hc]
   refine q9.up fun n hb => ?_
   show G4 (S.step (S.tab n)) _ _ _ _ _ = _
   rw [S5, hb.look, aS3 hq0]
   simp only [Option.bind_some, hb.shex, ab0, hc]
   rw [n8 rfl]; rfl
  | true =>
   have hlt : j < s.length := by
    rcases Nat.lt_or_ge j s.length with h | h
    ·exact h
    ·rw [O0 h, bV8] at hc; cases hc
   by_cases he : j = i + 18
   ·have hq0 : hq s (i + 18) j = false := by simp [hq]; omega
    refine q9.up fun n hb => ?_
    show G4 (S.step (S.tab n)) _ _ _ _ _ = _
    rw [S5, hb.look, aS3 hq0]
    simp only [Option.bind_some, hb.shex, ab0, hc, ht]
    rw [j6 rfl, wrap64 _ (by omega) (by omega), j6 (by simp only [decide_eq_true_eq]; omega)]; rfl
   ·have hq1 : hq s (i + 18) j = true := by
     simp only [hq, hc, Bool.and_true, decide_eq_true_eq]; omega
    have hlen : (M3 s (i + 2) j).length = j - (i + 2) := at3 hj
    have hval := bM1 (M3 s (i + 2) j) 0 0 (by decide) (by decide) hall
    rw [Nat.zero_add, hlen] at hval
    have hp : (16 : Int) ^ (j - (i + 2)) ≤ 16 ^ 15 := bF1 (by omega)
    have hge := bP1 (M3 s (i + 2) j) 0 (by decide) hall
    have h0 := ar8 hc
    have h16 := aw1 (get s j)
    have ih := aH4 t3 t4 ht hi k (j + 1) (by omega) (by omega) (by omega) (by
     rw [Z7 h1 hlt]
     intro c hc'
     rcases List.mem_append.1 hc' with hc' | hc'
     ·exact hall c hc'
     ·have : c = get s j := by simpa using hc'
      subst this; exact hc) (by omega)
    refine (ih.and q9).up fun n ⟨h, hb⟩ => ?_
    show G4 (S.step (S.tab n)) _ _ _ _ _ = _
    have e : stop (hq s (i + 18)) (k + 1) j = stop (hq s (i + 18)) k (j + 1) := by
     show (bif hq s (i + 18) j then _ else _) = _
     rw [hq1]; rfl
    rw [e, S5, hb.look]
    simp only [Option.bind_some, hb.shex, ab0, hc, ht, q8]
    rw [j6 rfl, wrap64 ((j : Int) - (i : Int)) (by omega) (by omega), n8 (by simp only [decide_eq_false_iff_not]; omega), j6 (j7 hlt), B0 (by omega)]
    rw [aM3 (hv 0 (M3 s (i + 2) j) * 16) (by omega) (by omega), aM3 (af1 (get s j)) h0 (by omega), aM3 _ (by omega) (by omega)]
    rw [Z7 h1 hlt, bN0] at h
    exact h
theorem aQ9 {i : Nat} (hi : i + 2 ≤ s.length) : Evt fun n => ∃ t' b, am3 (S.tab n) s (2, (i : Int), 0, 0, 0, ([] : List Int), ()) = some ((t', b, ()), ab8) ∧ SR (Y9 s i) t' b := by
 obtain ⟨h1, h2, h3⟩ := bk0 hi
 have hl := aH4 hs (2, (i : Int), 0, 0, 0, ([] : List Int), ()) (0, 0, 0, 0, 0, ([] : List Int), ()) (i := i) rfl hi s.length (i + 2) (by omega) (by omega) (by omega) (by rw [Z4]; intro c hc; cases hc) hi
 refine hl.up fun n h => ?_
 show ∃ t' b, am3 (S.step (S.tab n)) s _ = _ ∧ _
 rw [Z4] at h
 have h : G4 (S.tab n) s (2, (i : Int), 0, 0, 0, ([] : List Int), ()) (0, 0, 0, 0, 0, ([] : List Int), ()) ((i + 2 : Nat) : Int) 0 = some (bif ad0 (get s (ay9 s (i + 18) (i + 2))) then _ else _) := h
 have e2 : IntKind.i64.wrap ((i : Int) + 2) = ((i + 2 : Nat) : Int) := by
  rw [wrap64 _ (by omega) (by omega)]; omega
 rw [aT0]
 simp only [e2, h]
 cases hx : ad0 (get s (ay9 s (i + 18) (i + 2))) with
 | true =>
  have hlx : Y9 s i = .inl (ay9 s (i + 18) (i + 2)) := by unfold Y9; simp only [hx, if_true, ite_self]
  rw [hlx]
  simp only [cond_true, Option.bind_some, K8, Sum.elim_inl]
  exact ⟨_, _, rfl, rfl⟩
 | false =>
  simp only [cond_false, Option.bind_some, K8, Sum.elim_inr, Sum.elim_inl, e2]
  by_cases he : ay9 s (i + 18) (i + 2) = i + 2
  ·have hlx : Y9 s i = .inl (ay9 s (i + 18) (i + 2)) := by unfold Y9; simp only [he, if_true]
   rw [j6 (by simp [ay9] at he ⊢; omega), hlx]
   exact ⟨_, _, rfl, rfl⟩
  ·have hlx : Y9 s i = .inr (2, (i : Int), (ay9 s (i + 18) (i + 2) : Int), 0, IntKind.i64.wrap (hv 0 (M3 s (i + 2) (ay9 s (i + 18) (i + 2)))), ([] : List Int), ()) := by unfold Y9; simp only [he, if_false, hx, Bool.false_eq_true]
   rw [n8 (by simp only [decide_eq_false_iff_not]; show ¬ ((ay9 s (i + 18) (i + 2) : Nat) : Int) = _; omega), hlx]
   exact ⟨_, _, rfl, rfl, rfl⟩
theorem aU7 {i : Nat} (hi : i + 2 ≤ s.length) (h0 : get s i = 48) (hx : get s (i + 1) = 120) : Evt fun n => ∃ t' b, T5 (S.tab n) s (i : Int) = some ((t', b, ()), C3) ∧ IR (Y9 s i) t' b := by
 obtain ⟨h1, h2, h3⟩ := bk0 hi
 have hl := aI0 hs i (2, (i : Int), 0, 0, 0, ([] : List Int), ()) (i + 2) (by omega)
 have hall := bP7 hi
 have e1 : IntKind.i64.wrap ((i : Int) + 1) = ((i + 1 : Nat) : Int) := B0 (by omega)
 have e2 : IntKind.i64.wrap ((i : Int) + 2) = ((i + 2 : Nat) : Int) := by
  rw [wrap64 _ (by omega) (by omega)]; omega
 have e18 : IntKind.i64.wrap ((i : Int) + 18) = ((i + 18 : Nat) : Int) := by
  rw [wrap64 _ (by omega) (by omega)]; omega
 have d0 : decide (get s i = 48) = true := by rw [h0]; rfl
 have dx : decide (get s (i + 1) = 120) = true := by rw [hx]; rfl
 by_cases he : ay9 s (i + 18) (i + 2) = i + 2
 ·refine hl.up fun n h => ?_
  show ∃ t' b, T5 (S.step (S.tab n)) s _ = _ ∧ _
  have hlx : Y9 s i = .inl (ay9 s (i + 18) (i + 2)) := by unfold Y9; simp only [he, if_true]
  rw [ab9, j6 (j7 (show i < s.length by omega)), q8, j6 d0, e1, j6 (by simp only [decide_eq_true_eq]; omega), j6 (j7 (show i + 1 < s.length by omega)), q8, j6 dx, e2, h]
  simp only [Option.bind_some, C7, Sum.elim_inl, e2]
  rw [j6 (by simp only [decide_eq_true_eq]; omega), hlx]
  exact ⟨_, _, rfl, rfl, rfl⟩
 ·have hpu := aK4 (M3 s (i + 2) (ay9 s (i + 18) (i + 2))) 64 (.inr ⟨rfl, by rw [at3 h1]; omega⟩) (fun e => by
   have := congrArg List.length e
   rw [at3 h1] at this
   simp at this; omega) hall
  have hgood : ad0 (get s (ay9 s (i + 18) (i + 2))) = false → Y9 s i = .inr (2, (i : Int), (ay9 s (i + 18) (i + 2) : Int), 0, IntKind.i64.wrap (hv 0 (M3 s (i + 2) (ay9 s (i + 18) (i + 2)))), ([] : List Int), ()) := fun hx => by unfold Y9; simp only [he, if_false, hx, Bool.false_eq_true]
  refine ((hl.and hpu).and q9).up fun n ⟨⟨h, hp⟩, hb⟩ => ?_
  show ∃ t' b, T5 (S.step (S.tab n)) s _ = _ ∧ _
  rw [ab9, j6 (j7 (show i < s.length by omega)), q8, j6 d0, e1, j6 (by simp only [decide_eq_true_eq]; omega), j6 (j7 (show i + 1 < s.length by omega)), q8, j6 dx, e2, h]
  simp only [Option.bind_some, C7, Sum.elim_inl, e2, e18]
  rw [n8 (by simp only [decide_eq_false_iff_not]; omega)]
  have hb2 := M6 h2 h1
  by_cases h18 : ay9 s (i + 18) (i + 2) = i + 18
  ·rw [j6 (by simp only [decide_eq_true_eq]; omega)]
   by_cases hlt : ay9 s (i + 18) (i + 2) < s.length
   ·rw [j6 (by simp only [decide_eq_true_eq]; omega), j6 (j7 hlt), q8, hb.ihex]
    simp only [Option.bind_some]
    cases hxx : ad0 (get s (ay9 s (i + 18) (i + 2))) with
    | true =>
     have hlx : Y9 s i = .inl (ay9 s (i + 18) (i + 2)) := by unfold Y9; simp only [hxx, if_true, ite_self]
     rw [j6 rfl, hlx]
     exact ⟨_, _, rfl, rfl, rfl⟩
    | false =>
     rw [n8 rfl, j6 hb2, ar3, hp, hgood hxx]
     exact ⟨_, _, rfl, rfl, rfl⟩
   ·have hz : ad0 (get s (ay9 s (i + 18) (i + 2))) = false := by rw [O0 (by omega)]; rfl
    rw [n8 (by simp only [decide_eq_false_iff_not]; omega), j6 hb2, ar3, hp, hgood hz]
    exact ⟨_, _, rfl, rfl, rfl⟩
  ·have hz : ad0 (get s (ay9 s (i + 18) (i + 2))) = false := by
    have hq : hq s (i + 18) (ay9 s (i + 18) (i + 2)) = false := a92 (q := hq s (i + 18)) bl5 s.length (i + 2) (by omega)
    simp only [Go.Abs.D.hq, Bool.and_eq_false_iff, decide_eq_false_iff_not] at hq
    rcases hq with hq | hq
    ·omega
    ·exact hq
   rw [n8 (by simp only [decide_eq_false_iff_not]; omega), j6 hb2, ar3, hp, hgood hz]
   exact ⟨_, _, rfl, rfl, rfl⟩
end Go.Abs.D
end

section
namespace Go.Abs.D
def dv (n : Int) (l : List Int) : Int := l.foldl (fun n c => n * 10 + (c - 48)) n
theorem bv3 (n c : Int) (l : List Int) : dv n (c :: l) = dv (n * 10 + (c - 48)) l := rfl
theorem bN9 (n c : Int) (l : List Int) : dv n (l ++ [c]) = dv n l * 10 + (c - 48) := by simp [dv, List.foldl_append]
theorem dig {c : Int} (h : s8 c = true) : 48 ≤ c ∧ c ≤ 57 := by simpa [s8] using h
theorem bj1 : ∀ (l : List Int) (n : Int), 0 ≤ n → (∀ c ∈ l, s8 c = true) → n ≤ dv n l
 | [], n, _, _ => Int.le_refl _
 | c :: l, n, h0, h => by
  have := dig (h c (List.mem_cons_self ..))
  have := bj1 l (n * 10 + (c - 48)) (by omega) fun x hx => h x (List.mem_cons_of_mem _ hx)
  rw [bv3]; omega
theorem bJ0 {c : Int} (h : s8 c = true) : c.toNat.toUInt8.toNat = c.toNat := by
 have := dig h
 rw [Nat.toUInt8, UInt8.toNat_ofNat']
 omega
theorem aG9 : ∀ (l : List Int) (a : Nat), (∀ c ∈ l, s8 c = true) → a ≤ 18446744073709551615 →
  Lib.parseUintM (2 ^ 64 - 1) a (Lx.u8s l) = (if dv a l ≤ 18446744073709551615 then .ok (dv a l).toNat else .range)
 | [], a, _, ha => by
  show Lib.NumEnd.ok a = _
  rw [if_pos (by simp only [dv, List.foldl_nil]; omega)]
  simp [dv]
 | c :: l, a, h, ha => by
  have hc := h c (List.mem_cons_self ..)
  have hd := dig hc
  have hl := fun x hx => h x (List.mem_cons_of_mem _ hx)
  have e := bJ0 hc
  have hge := bj1 l ((a : Int) * 10 + (c - 48)) (by omega) hl
  have ih : a * 10 + (c.toNat - 48) ≤ 18446744073709551615 → _ := aG9 l (a * 10 + (c.toNat - 48)) hl
  have e2 : ((a * 10 + (c.toNat - 48) : Nat) : Int) = (a : Int) * 10 + (c - 48) := by omega
  rw [e2] at ih
  show Lib.parseUintM _ a (c.toNat.toUInt8 :: Lx.u8s l) = _
  rw [Lib.parseUintM, e, if_pos (by omega), bv3]
  by_cases h1 : 1844674407370955162 ≤ a
  ·rw [if_pos h1, if_neg (by omega)]
  ·rw [if_neg h1]
   by_cases h2 : 2 ^ 64 - 1 < a * 10 + (c.toNat - 48)
   ·rw [if_pos h2, if_neg (by omega)]
   ·rw [if_neg h2, ih (by omega)]
theorem bg8 {l : List Int} (hl : ∀ c ∈ l, s8 c = true) (hne : l ≠ []) (hn : l.length ≤ 2097152) :
  ∃ v, Lx.ag5 (l, 10, 64, ()) = some ((bif decide (dv 0 l < 9223372036854775808) then dv 0 l else v, decide (dv 0 l < 9223372036854775808), ()), (), (), (), ()) := by
 have hge := bj1 l 0 (Int.le_refl 0) hl
 obtain ⟨c, r, rfl⟩ : ∃ c r, l = c :: r := by cases l with
  | nil => exact absurd rfl hne
  | cons c r => exact ⟨c, r, rfl⟩
 have hc := hl c (List.mem_cons_self ..)
 have hd := dig hc
 have e := bJ0 hc
 have hM := aG9 (c :: r) 0 hl (by decide)
 have hB : Lib.parseUintB 64 (Lx.u8s (c :: r)) = _ := (show Lib.parseUintB 64 (Lx.u8s (c :: r)) = Lib.parseUintM (2 ^ 64 - 1) 0 (Lx.u8s (c :: r)) by unfold Lib.parseUintB; rw [if_neg (by simp [Lx.u8s])]).trans hM
 have hI : Lib.parseIntB 64 (Lx.u8s (c :: r)) = if dv 0 (c :: r) < 9223372036854775808 then .ok (dv 0 (c :: r)) else .range := by
  show Lib.parseIntB 64 (c.toNat.toUInt8 :: Lx.u8s r) = _
  unfold Lib.parseIntB
  simp only [e]
  rw [if_neg (show ¬ (c.toNat = 43 ∨ c.toNat = 45) by omega)]
  have hB : Lib.parseUintB 64 (c.toNat.toUInt8 :: Lx.u8s r) = _ := hB
  rw [hB]
  by_cases h1 : dv 0 (c :: r) ≤ 18446744073709551615
  ·have h1' : dv ((0 : Nat) : Int) (c :: r) ≤ 18446744073709551615 := h1
   rw [if_pos h1']
   show (if ¬ (c.toNat = 45) ∧ 2 ^ (64 - 1) ≤ (dv 0 (c :: r)).toNat then Lib.NumEnd.range else _) = _
   by_cases h2 : dv 0 (c :: r) < 9223372036854775808
   ·rw [if_neg (by omega), if_neg (by omega), if_neg (by omega), if_pos h2]
    congr 1
    show ((dv 0 (c :: r)).toNat : Int) = _
    omega
   ·rw [if_pos (by constructor <;> omega), if_neg h2]
  ·have h1' : ¬ dv ((0 : Nat) : Int) (c :: r) ≤ 18446744073709551615 := h1
   rw [if_neg h1', if_neg (by omega)]
 unfold Lx.ag5
 rw [show (decide ((10 : Int) = 10) && decide ((64 : Int) = 64) && fits (c :: r).length) = true by rw [ad5 (show (c :: r).length ≤ lim by unfold lim; omega)]; rfl, cond_true]
 simp only [hI]
 by_cases h2 : dv 0 (c :: r) < 9223372036854775808
 ·rw [if_pos h2, show decide (dv 0 (c :: r) < 9223372036854775808) = true from decide_eq_true h2]
  exact ⟨0, rfl⟩
 ·rw [if_neg h2, show decide (dv 0 (c :: r) < 9223372036854775808) = false from decide_eq_false h2]
  exact ⟨Lib.intSat 64 (Lx.u8s (c :: r)), rfl⟩
theorem chk {ρ : Type} {s : List Int} {j : Nat} {c : Int} (hc : c ≠ 0) {A B : Option ρ} : brk (decide ((j : Int) < (s.length : Int))) (brk (decide ((0 : Int) ≤ (j : Int)) && decide ((j : Int) < (s.length : Int))) (brk (decide (s.getD (j : Int).toNat 0 = c)) A B) none) B = brk (decide (get s j = c)) A B := by
 by_cases h : j < s.length
 ·rw [j6 (by simpa using h), j6 (j7 h)]; rfl
 ·rw [n8 (by simpa using h), n8 (by rw [O0 (by omega)]; simpa using (Ne.symm hc))]
def ae3 (s : List Int) (i j : Nat) (flt : Bool) : n7.den :=
 bif flt || !decide (dv 0 (M3 s i j) < 9223372036854775808) then (3, (i : Int), (j : Int), 0, 0, M3 s i j, ()) else (2, (i : Int), (j : Int), 0, dv 0 (M3 s i j), ([] : List Int), ())
def digits (s : List Int) (i j : Nat) : Prop := ∀ c ∈ M3 s i j, s8 c = true
variable {s : List Int} (hs : s.length ≤ 2097152)
include hs
theorem al2 {i j w : Nat} (hij : i < j) (hj : j ≤ s.length) (hd : j = w → digits s i j) :
  Evt fun n => D8 (S.tab n) s (i : Int) (2, (i : Int), 0, 0, 0, ([] : List Int), ()) (j : Int) (w : Int) = some (Sum.inl (ae3 s i j (!decide (j = w)), false, ())) := by
 refine q9.up fun n hb => ?_
 show D8 (S.step (S.tab n)) _ _ _ _ _ = _
 have hbd := M6 (n := s.length) (i := i) (e := j) (by omega) hj
 rw [aE1, j6 hbd, ar3]
 by_cases h : j = w
 ·rw [j6 (by simp only [decide_eq_true_eq]; omega)]
  obtain ⟨v, hv⟩ := bg8 (hd h) (fun e => by have := congrArg List.length e; rw [at3 hj] at this; simp at this; omega) (by rw [at3 hj]; omega)
  rw [hv]
  simp only [Option.bind_some]
  unfold ae3
  rw [show decide (j = w) = true from decide_eq_true h]
  cases decide (dv 0 (M3 s i j) < 9223372036854775808) with
  | true => rw [j6 rfl]; rfl
  | false => rw [n8 rfl, j6 hbd]; rfl
 ·rw [n8 (by simp only [decide_eq_false_iff_not]; omega), j6 hbd]
  unfold ae3
  rw [show decide (j = w) = false from decide_eq_false h]; rfl
omit hs in
theorem aM0 (t : n7.den) (ht : t.1 = 3) (t4 : n7.den) (j v k : Int) : Evt fun n => r6 (S.tab n) s t t4 j v k = some (Sum.inl (s, t, t4, j, v, ())) := by
 refine q9.up fun n hb => ?_
 show r6 (S.step (S.tab n)) _ _ _ _ _ _ = _
 rw [G8]
 cases h : decide (k < j) with
 | false => rw [n8 rfl]
 | true => rw [j6 rfl, n8 (by rw [ht]; rfl)]
theorem av1 {i j : Nat} (hj : j ≤ s.length) (r : Int × Int × Int × Int × List Int × Unit) (t4 : n7.den) : ∀ (d k : Nat), k + d = j → i ≤ k → digits s i j → dv 0 (M3 s i k) < 9223372036854775808 → digits s i k →
  Evt fun n => ∃ v, r6 (S.tab n) s (2, r) t4 (j : Int) (dv 0 (M3 s i k)) (k : Int) = some (Sum.inl (s, (bif decide (dv 0 (M3 s i j) < 9223372036854775808) then 2 else 3, r), t4, (j : Int), v, ())) ∧ (dv 0 (M3 s i j) < 9223372036854775808 → v = dv 0 (M3 s i j))
 | 0, k, e, hk, hd, hv, hdk => by
  obtain rfl : k = j := by omega
  refine q9.up fun n hb => ⟨_, ?_, fun _ => rfl⟩
  show r6 (S.step (S.tab n)) _ _ _ _ _ _ = _
  rw [G8, n8 (by simp), decide_eq_true hv]; rfl
 | d + 1, k, e, hk, hd, hv, hdk => by
  have hkl : k < s.length := by omega
  have hc : s8 (get s k) = true := by
   refine hd _ ?_
   obtain ⟨m, rfl⟩ : ∃ m, j = k + 1 + m := ⟨j - (k + 1), by omega⟩
   clear hd
   unfold M3 get
   rw [List.mem_iff_getElem?]
   refine ⟨k - i, ?_⟩
   rw [List.getElem?_drop, List.getElem?_take, if_pos (by omega), List.getD_eq_getElem?_getD]
   rw [show i + (k - i) = k by omega, List.getElem?_eq_getElem hkl]; rfl
  have hdg := dig hc
  have h0 := bj1 (M3 s i k) 0 (Int.le_refl 0) hdk
  have hs1 : M3 s i (k + 1) = M3 s i k ++ [get s k] := Z7 hk hkl
  have hdk1 : digits s i (k + 1) := by
   intro x hx
   rw [hs1] at hx
   rcases List.mem_append.1 hx with hx | hx
   ·exact hdk x hx
   ·have : x = get s k := by simpa using hx
    rw [this]; exact hc
  have hv1 : dv 0 (M3 s i (k + 1)) = dv 0 (M3 s i k) * 10 + (get s k - 48) := by rw [hs1, bN9]
  have hmono : dv 0 (M3 s i (k + 1)) ≤ dv 0 (M3 s i j) := by
   have e1 : M3 s i j = M3 s i (k + 1) ++ M3 s (k + 1) j := by
    unfold M3
    have : (s.take j) = s.take (k + 1) ++ (s.take j).drop (k + 1) := by
     conv => lhs; rw [← List.take_append_drop (k + 1) (s.take j)]
     rw [List.take_take, Nat.min_eq_left (by omega)]
    conv => lhs; rw [this]
    rw [List.drop_append_of_le_length (by simp; omega)]
   rw [e1]
   have := bj1 (M3 s (k + 1) j) (dv 0 (M3 s i (k + 1))) (bj1 _ 0 (Int.le_refl 0) hdk1) (fun c hc => hd c (by rw [e1]; exact List.mem_append_right _ hc))
   unfold dv at this ⊢
   rw [List.foldl_append]; exact this
  have over : ¬ dv 0 (M3 s i (k + 1)) < 9223372036854775808 → ∀ v : Int, Evt fun n => ∃ v', r6 (S.tab n) s (3, r) t4 (j : Int) v ((k + 1 : Nat) : Int) = some (Sum.inl (s, (bif decide (dv 0 (M3 s i j) < 9223372036854775808) then 2 else 3, r), t4, (j : Int), v', ())) ∧ (dv 0 (M3 s i j) < 9223372036854775808 → v' = dv 0 (M3 s i j)) := fun h v => by
   refine (aM0 (s := s) (3, r) rfl t4 j v ((k + 1 : Nat) : Int)).mono fun n h' => ⟨v, ?_, fun h2 => by omega⟩
   rw [h', decide_eq_false (show ¬ dv 0 (M3 s i j) < 9223372036854775808 by omega)]; rfl
  have w1 : IntKind.u8.wrap (get s k - 48) = get s k - 48 := a32 _ (by omega) (by omega)
  have w2 : IntKind.i64.wrap ((k : Int) + 1) = ((k + 1 : Nat) : Int) := B0 (by omega)
  have h22 : decide (((2, r) : n7.den).1 = 2) = true := rfl
  have hlt : decide ((k : Int) < (j : Int)) = true := by simp only [decide_eq_true_eq]; omega
  by_cases h1 : 922337203685477580 < dv 0 (M3 s i k)
  ·refine (over (by omega) (IntKind.u64.wrap (IntKind.u64.wrap (dv 0 (M3 s i k) * 10) + IntKind.u64.wrap (IntKind.u8.wrap (get s k - 48))))).up fun n h => ?_
   show ∃ v, r6 (S.step (S.tab n)) _ _ _ _ _ _ = _ ∧ _
   rw [G8, j6 hlt, j6 h22, j6 (decide_eq_true h1), j6 (j7 hkl), q8, w2]
   exact h
  ·by_cases h2 : dv 0 (M3 s i k) = 922337203685477580
   ·by_cases h3 : 55 < get s k
    ·refine (over (by omega) (IntKind.u64.wrap (IntKind.u64.wrap (dv 0 (M3 s i k) * 10) + IntKind.u64.wrap (IntKind.u8.wrap (get s k - 48))))).up fun n h => ?_
     show ∃ v, r6 (S.step (S.tab n)) _ _ _ _ _ _ = _ ∧ _
     rw [G8, j6 hlt, j6 h22, n8 (decide_eq_false h1), j6 (decide_eq_true h2), j6 (j7 hkl), q8, j6 (decide_eq_true h3), j6 (j7 hkl), w2]
     exact h
    ·have ih := av1 hj r t4 d (k + 1) (by omega) (by omega) hd (by omega) hdk1
     refine ih.up fun n h => ?_
     show ∃ v, r6 (S.step (S.tab n)) _ _ _ _ _ _ = _ ∧ _
     rw [G8, j6 hlt, j6 h22, n8 (decide_eq_false h1), j6 (decide_eq_true h2), j6 (j7 hkl), q8, n8 (decide_eq_false h3), j6 (j7 hkl), w2, w1]
     rw [aM3 (_ * 10) (by omega) (by omega), aM3 (get s k - 48) (by omega) (by omega), aM3 _ (by omega) (by omega), ← hv1]
     exact h
   ·have ih := av1 hj r t4 d (k + 1) (by omega) (by omega) hd (by omega) hdk1
    refine ih.up fun n h => ?_
    show ∃ v, r6 (S.step (S.tab n)) _ _ _ _ _ _ = _ ∧ _
    rw [G8, j6 hlt, j6 h22, n8 (decide_eq_false h1), n8 (decide_eq_false h2), j6 (j7 hkl), q8, w2, w1]
    rw [aM3 (_ * 10) (by omega) (by omega), aM3 (get s k - 48) (by omega) (by omega), aM3 _ (by omega) (by omega), ← hv1]
    exact h
omit hs in
theorem aL4 {i j : Nat} (hij : i < j) (hj : j ≤ s.length) (t4 : n7.den) :
  Evt fun n => z8 (S.tab n) s (3, (i : Int), 0, 0, 0, ([] : List Int), ()) t4 (j : Int) = some (Sum.inl (ae3 s i j true, -1, ())) := by
 have hl := aM0 (s := s) (3, (i : Int), (j : Int), 0, 0, ([] : List Int), ()) rfl t4 j 0 i
 refine hl.up fun n h => ?_
 show z8 (S.step (S.tab n)) _ _ _ _ = _
 rw [af0]
 simp only
 rw [h]
 simp only [Option.bind_some, C7, Sum.elim_inl]
 rw [j6 (by simp), j6 (M6 (by omega) hj)]; rfl
theorem bc2 {i j : Nat} (hij : i < j) (hj : j ≤ s.length) (t4 : n7.den) (hd : digits s i j) :
  Evt fun n => z8 (S.tab n) s (2, (i : Int), 0, 0, 0, ([] : List Int), ()) t4 (j : Int) = some (Sum.inl (ae3 s i j false, -1, ())) := by
 have hl := av1 hs hj ((i : Int), (j : Int), 0, 0, ([] : List Int), ()) t4 (j - i) i (by omega) (by omega) hd (by rw [Z4]; decide) (by intro c hc; rw [Z4] at hc; cases hc)
 rw [Z4] at hl
 have h0 := bj1 (M3 s i j) 0 (Int.le_refl 0) hd
 refine hl.up fun n ⟨v, h, hv⟩ => ?_
 show z8 (S.step (S.tab n)) _ _ _ _ = _
 rw [af0]
 simp only
 have h : r6 (S.tab n) s (2, (i : Int), (j : Int), 0, 0, ([] : List Int), ()) t4 (j : Int) 0 (i : Int) = _ := h
 rw [h]
 simp only [Option.bind_some, C7, Sum.elim_inl]
 unfold ae3
 rw [Bool.false_or]
 cases hlt : decide (dv 0 (M3 s i j) < 9223372036854775808) with
 | true =>
  rw [decide_eq_true_eq] at hlt
  rw [n8 (by rfl), hv hlt, wrap64 _ (by omega) (by omega)]; rfl
 | false =>
  rw [j6 (by rfl), j6 (M6 (by omega) hj)]; rfl
end Go.Abs.D
end
